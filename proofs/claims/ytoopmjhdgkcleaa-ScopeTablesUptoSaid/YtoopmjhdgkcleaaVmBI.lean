/-
  (A part of the proof: Env, F, ScopeA, ScopeB, ScopeC, ScopeD, ScopeE, ScopeF, ScopeG, ScopeH, ScopeI, ScopeJ, ScopeK, ScopeL, ScopeM, ScopeN, ScopeO, ScopeArg.)
-/
import Derived.Test.YtoopmjhdgkcleaaVmBD
import Derived.Test.YtoopmjhdgkcleaaVmBA
import Derived.Test.YtoopmjhdgkcleaaVmAA
import Derived.Test.YtoopmjhdgkcleaaVmBF
import Derived.Test.YtoopmjhdgkcleaaVmBH
import Derived.Test.YtoopmjhdgkcleaaRows
import Derived.KernelRfl
set_option maxRecDepth 1000000
set_option maxHeartbeats 0
namespace Go.Proofs.Ytoopmjhdgkcleaa.Vm
open Go Go.VM Go.Proofs
noncomputable def vT : TT := (.node none (.node (some ⟨.func, 1, 8, [.nilfn], false, false⟩) (.node (some ⟨(.int .i64), 1, 8, [(.int .i64 (0))], false, false⟩) (.node (some ⟨(.struct [(0, 2), (1, 3), (2, 4), (3, 6)]), 4, 24, [(.int .i64 (0)), (.int .i64 (0)), (.bool false), (.int .u8 (0))], true, true⟩) (.node (some ⟨(.ptr 84), 1, 8, [.nilp], false, false⟩) (.node (some ⟨(.slice 52), 1, 24, [.nils], false, false⟩) (.node (some ⟨.func, 1, 8, [.nilfn], false, false⟩) .leaf .leaf) (.node (some ⟨(.int .i32), 1, 4, [(.int .i32 (0))], false, false⟩) .leaf .leaf)) (.node (some ⟨.func, 1, 8, [.nilfn], false, false⟩) (.node (some ⟨(.slice 9), 1, 24, [.nils], false, false⟩) .leaf .leaf) (.node none .leaf .leaf))) (.node (some ⟨.func, 1, 8, [.nilfn], false, false⟩) (.node (some ⟨(.struct [(0, 3), (1, 3)]), 2, 16, [(.int .i64 (0)), (.int .i64 (0))], true, true⟩) (.node (some ⟨.func, 1, 8, [.nilfn], false, false⟩) .leaf .leaf) (.node none .leaf .leaf)) (.node (some ⟨(.struct [(0, 34)]), 3, 72, [.nils, .nils, .nils], true, true⟩) (.node (some ⟨(.struct [(0, 85)]), 0, 0, [], true, false⟩) .leaf .leaf) (.node none .leaf .leaf)))) (.node (some ⟨.str, 1, 16, [(.str [])], false, false⟩) (.node (some ⟨(.struct [(0, 17)]), 1, 8, [.nilp], true, false⟩) (.node (some ⟨.func, 1, 8, [.nilfn], false, false⟩) (.node (some ⟨.func, 1, 8, [.nilfn], false, false⟩) .leaf .leaf) (.node none .leaf .leaf)) (.node (some ⟨(.struct [(0, 9), (1, 39), (3, 3)]), 4, 40, [(.str []), (.int .i64 (0)), (.int .i64 (0)), (.int .i64 (0))], true, true⟩) (.node (some ⟨(.struct [(0, 17), (1, 17), (2, 17), (3, 9)]), 4, 40, [.nilp, .nilp, .nilp, (.str [])], true, false⟩) .leaf .leaf) (.node none .leaf .leaf))) (.node (some ⟨(.slice 3), 1, 24, [.nils], false, false⟩) (.node (some ⟨(.struct [(0, 5), (1, 39), (3, 4), (4, 9), (5, 40), (6, 41)]), 7, 96, [(.int .u8 (0)), (.int .i64 (0)), (.int .i64 (0)), (.bool false), (.str []), .nils, .nils], true, true⟩) (.node (some ⟨.func, 1, 8, [.nilfn], false, false⟩) .leaf .leaf) (.node none .leaf .leaf)) (.node (some ⟨.func, 1, 8, [.nilfn], false, false⟩) (.node (some ⟨(.int .u8), 1, 1, [(.int .u8 (0))], false, false⟩) .leaf .leaf) (.node none .leaf .leaf))))) (.node (some ⟨(.int .u8), 1, 1, [(.int .u8 (0))], false, false⟩) (.node (some ⟨.str, 1, 16, [(.str [])], false, false⟩) (.node (some ⟨(.ptr 97), 1, 8, [.nilp], false, false⟩) (.node (some ⟨(.struct [(0, 31), (1, 32), (2, 27)]), 3, 72, [.nils, .nils, .nils], true, true⟩) (.node (some ⟨(.struct [(0, 5), (1, 5), (2, 39), (4, 9), (5, 40)]), 6, 64, [(.int .u8 (0)), (.int .u8 (0)), (.int .i64 (0)), (.int .i64 (0)), (.str []), .nils], true, true⟩) .leaf .leaf) (.node (some ⟨(.struct [(0, 12), (1, 12), (2, 89), (3, 90), (4, 5), (5, 5), (6, 91), (7, 92), (8, 93), (9, 94), (10, 95)]), 11, 48, [(.int .u64 (0)), (.int .u64 (0)), (.int .u32 (0)), (.int .u8 (0)), (.int .u8 (0)), (.int .u8 (0)), (.int .u8 (0)), .nilfn, .nilp, (.int .i32 (0)), (.int .i32 (0))], true, false⟩) .leaf .leaf)) (.node (some ⟨(.struct [(0, 9), (1, 39)]), 3, 32, [(.str []), (.int .i64 (0)), (.int .i64 (0))], true, true⟩) (.node (some ⟨.func, 1, 8, [.nilfn], false, false⟩) .leaf .leaf) (.node none .leaf .leaf))) (.node (some ⟨(.slice 49), 1, 24, [.nils], false, false⟩) (.node (some ⟨(.slice 43), 1, 24, [.nils], false, false⟩) (.node (some ⟨.func, 1, 8, [.nilfn], false, false⟩) .leaf .leaf) (.node none .leaf .leaf)) (.node (some ⟨(.ptr 70), 1, 8, [.nilp], false, false⟩) (.node (some ⟨(.int .u32), 1, 4, [(.int .u32 (0))], false, false⟩) .leaf .leaf) (.node none .leaf .leaf)))) (.node (some ⟨(.struct [(0, 9), (1, 12)]), 2, 24, [(.str []), (.int .u64 (0))], true, false⟩) (.node (some ⟨(.int .i32), 1, 4, [(.int .i32 (0))], false, false⟩) (.node (some ⟨.func, 1, 8, [.nilfn], false, false⟩) (.node (some ⟨(.struct [(0, 68), (1, 57)]), 2, 16, [.nilm, .nilp], true, true⟩) .leaf .leaf) (.node none .leaf .leaf)) (.node (some ⟨(.struct [(0, 9), (1, 39), (3, 3)]), 4, 40, [(.str []), (.int .i64 (0)), (.int .i64 (0)), (.int .i64 (0))], true, true⟩) (.node (some ⟨(.arr 0 16), 0, 0, [], true, false⟩) .leaf .leaf) (.node none .leaf .leaf))) (.node (some ⟨(.struct [(0, 25), (1, 26), (2, 27)]), 3, 72, [.nils, .nils, .nils], true, true⟩) (.node (some ⟨(.struct [(0, 39), (2, 4), (3, 40), (4, 43)]), 11, 144, [(.int .i64 (0)), (.int .i64 (0)), (.bool false), .nils, (.int .u8 (0)), (.int .i64 (0)), (.int .i64 (0)), (.bool false), (.str []), .nils, .nils], true, true⟩) (.node none .leaf .leaf) (.node none .leaf .leaf)) (.node (some ⟨(.ptr 29), 1, 8, [.nilp], false, false⟩) (.node (some ⟨(.ptr 5), 1, 8, [.nilp], false, false⟩) .leaf .leaf) (.node none .leaf .leaf)))))) (.node (some ⟨(.int .i64), 1, 8, [(.int .i64 (0))], false, false⟩) (.node (some ⟨.bool, 1, 1, [(.bool false)], false, false⟩) (.node (some ⟨(.struct [(0, 2), (1, 3), (2, 4), (3, 6)]), 4, 24, [(.int .i64 (0)), (.int .i64 (0)), (.bool false), (.int .u8 (0))], true, true⟩) (.node (some ⟨(.ptr 87), 1, 8, [.nilp], false, false⟩) (.node (some ⟨(.slice 53), 1, 24, [.nils], false, false⟩) (.node (some ⟨.func, 1, 8, [.nilfn], false, false⟩) .leaf .leaf) (.node (some ⟨(.struct [(0, 12), (1, 12), (2, 89), (3, 90), (4, 5), (5, 5), (6, 91), (7, 92), (8, 93), (9, 94), (10, 95)]), 11, 48, [(.int .u64 (0)), (.int .u64 (0)), (.int .u32 (0)), (.int .u8 (0)), (.int .u8 (0)), (.int .u8 (0)), (.int .u8 (0)), .nilfn, .nilp, (.int .i32 (0)), (.int .i32 (0))], true, false⟩) .leaf .leaf)) (.node (some ⟨(.struct [(0, 9), (1, 39)]), 3, 32, [(.str []), (.int .i64 (0)), (.int .i64 (0))], true, true⟩) (.node (some ⟨.func, 1, 8, [.nilfn], false, false⟩) .leaf .leaf) (.node none .leaf .leaf))) (.node (some ⟨.func, 1, 8, [.nilfn], false, false⟩) (.node (some ⟨(.slice 66), 1, 24, [.nils], false, false⟩) (.node (some ⟨.func, 1, 8, [.nilfn], false, false⟩) .leaf .leaf) (.node none .leaf .leaf)) (.node (some ⟨(.struct [(0, 34)]), 3, 72, [.nils, .nils, .nils], true, true⟩) (.node (some ⟨.func, 1, 8, [.nilfn], false, false⟩) .leaf .leaf) (.node none .leaf .leaf)))) (.node (some ⟨(.int .u64), 1, 8, [(.int .u64 (0))], false, false⟩) (.node (some ⟨(.iface true), 1, 16, [.nili], false, false⟩) (.node (some ⟨.func, 1, 8, [.nilfn], false, false⟩) (.node (some ⟨(.map 9 3), 1, 8, [.nilm], false, false⟩) .leaf .leaf) (.node none .leaf .leaf)) (.node (some ⟨(.struct [(0, 9), (1, 39)]), 3, 32, [(.str []), (.int .i64 (0)), (.int .i64 (0))], true, true⟩) (.node (some ⟨(.struct [(0, 17), (1, 17), (2, 17), (3, 9)]), 4, 40, [.nilp, .nilp, .nilp, (.str [])], true, false⟩) .leaf .leaf) (.node none .leaf .leaf))) (.node (some ⟨(.struct [(0, 25), (1, 26), (2, 27)]), 3, 72, [.nils, .nils, .nils], true, true⟩) (.node (some ⟨(.struct [(0, 39), (2, 4), (3, 40), (4, 43)]), 11, 144, [(.int .i64 (0)), (.int .i64 (0)), (.bool false), .nils, (.int .u8 (0)), (.int .i64 (0)), (.int .i64 (0)), (.bool false), (.str []), .nils, .nils], true, true⟩) (.node (some ⟨.func, 1, 8, [.nilfn], false, false⟩) .leaf .leaf) (.node none .leaf .leaf)) (.node (some ⟨.func, 1, 8, [.nilfn], false, false⟩) (.node (some ⟨.func, 1, 8, [.nilfn], false, false⟩) .leaf .leaf) (.node none .leaf .leaf))))) (.node (some ⟨(.int .u8), 1, 1, [(.int .u8 (0))], false, false⟩) (.node (some ⟨.str, 1, 16, [(.str [])], false, false⟩) (.node (some ⟨(.struct [(0, 17)]), 1, 8, [.nilp], true, false⟩) (.node (some ⟨(.struct [(0, 31), (1, 32), (2, 27)]), 3, 72, [.nils, .nils, .nils], true, true⟩) (.node (some ⟨(.struct [(0, 5), (1, 5), (2, 39), (4, 9), (5, 40)]), 6, 64, [(.int .u8 (0)), (.int .u8 (0)), (.int .i64 (0)), (.int .i64 (0)), (.str []), .nils], true, true⟩) .leaf .leaf) (.node (some ⟨.uptr, 1, 8, [.nilp], false, false⟩) .leaf .leaf)) (.node (some ⟨(.struct [(0, 9), (1, 39), (3, 3)]), 4, 40, [(.str []), (.int .i64 (0)), (.int .i64 (0)), (.int .i64 (0))], true, true⟩) (.node (some ⟨.func, 1, 8, [.nilfn], false, false⟩) .leaf .leaf) (.node none .leaf .leaf))) (.node (some ⟨(.slice 51), 1, 24, [.nils], false, false⟩) (.node (some ⟨(.struct [(0, 5), (1, 39), (3, 4), (4, 9), (5, 40), (6, 41)]), 7, 96, [(.int .u8 (0)), (.int .i64 (0)), (.int .i64 (0)), (.bool false), (.str []), .nils, .nils], true, true⟩) (.node (some ⟨.func, 1, 8, [.nilfn], false, false⟩) .leaf .leaf) (.node none .leaf .leaf)) (.node none (.node (some ⟨(.int .u8), 1, 1, [(.int .u8 (0))], false, false⟩) .leaf .leaf) (.node none .leaf .leaf)))) (.node (some ⟨(.struct [(0, 9), (1, 12)]), 2, 24, [(.str []), (.int .u64 (0))], true, false⟩) (.node (some ⟨(.slice 45), 1, 24, [.nils], false, false⟩) (.node (some ⟨(.struct [(0, 3), (1, 3)]), 2, 16, [(.int .i64 (0)), (.int .i64 (0))], true, true⟩) (.node (some ⟨(.struct [(0, 68), (1, 57)]), 2, 16, [.nilm, .nilp], true, true⟩) .leaf .leaf) (.node none .leaf .leaf)) (.node (some ⟨(.ptr 56), 1, 8, [.nilp], false, false⟩) (.node (some ⟨(.struct [(0, 85)]), 0, 0, [], true, false⟩) .leaf .leaf) (.node none .leaf .leaf))) (.node (some ⟨.func, 1, 8, [.nilfn], false, false⟩) (.node (some ⟨.func, 1, 8, [.nilfn], false, false⟩) (.node (some ⟨.func, 1, 8, [.nilfn], false, false⟩) .leaf .leaf) (.node none .leaf .leaf)) (.node none (.node (some ⟨(.int .i32), 1, 4, [(.int .i32 (0))], false, false⟩) .leaf .leaf) (.node none .leaf .leaf)))))))
theorem vT_ok : TOk Try.prog vT := tt_ok (d := 7) (by kernel_rfl)
noncomputable def vF : Tr Func := (.node none (.node none (.node (some Try.f3) (.node (some Try.f7) (.node (some Try.f15) (.node none .leaf .leaf) .leaf) (.node (some Try.f23) (.node none .leaf .leaf) .leaf)) (.node (some Try.f11) (.node (some Try.f19) (.node none .leaf .leaf) .leaf) (.node none .leaf .leaf))) (.node (some Try.f5) (.node (some Try.f9) (.node (some Try.f17) (.node none .leaf .leaf) .leaf) (.node (some Try.f25) (.node none .leaf .leaf) .leaf)) (.node (some Try.f13) (.node (some Try.f21) (.node none .leaf .leaf) .leaf) (.node none .leaf .leaf)))) (.node none (.node (some Try.f4) (.node (some Try.f8) (.node (some Try.f16) (.node none .leaf .leaf) .leaf) (.node (some Try.f24) (.node none .leaf .leaf) .leaf)) (.node (some Try.f12) (.node (some Try.f20) (.node none .leaf .leaf) .leaf) (.node none .leaf .leaf))) (.node (some Try.f6) (.node (some Try.f10) (.node (some Try.f18) (.node none .leaf .leaf) .leaf) (.node none .leaf .leaf)) (.node (some Try.f14) (.node (some Try.f22) (.node none .leaf .leaf) .leaf) (.node none .leaf .leaf)))))
theorem vF_ok : Tr.Every (FnOk Try.prog) vF := (Tr.every_node noFn (Tr.every_node noFn (Tr.every_node (fnOk Try.func3 Try.call3 (by kernel_rfl)) (Tr.every_node (fnOk Try.func7 Try.call7 (by kernel_rfl)) (Tr.every_node (fnOk Try.func15 Try.call15 (by kernel_rfl)) (Tr.every_node noFn Tr.every_leaf Tr.every_leaf) Tr.every_leaf) (Tr.every_node (fnOk Try.func23 Try.call23 (by kernel_rfl)) (Tr.every_node noFn Tr.every_leaf Tr.every_leaf) Tr.every_leaf)) (Tr.every_node (fnOk Try.func11 Try.call11 (by kernel_rfl)) (Tr.every_node (fnOk Try.func19 Try.call19 (by kernel_rfl)) (Tr.every_node noFn Tr.every_leaf Tr.every_leaf) Tr.every_leaf) (Tr.every_node noFn Tr.every_leaf Tr.every_leaf))) (Tr.every_node (fnOk Try.func5 Try.call5 (by kernel_rfl)) (Tr.every_node (fnOk Try.func9 Try.call9 (by kernel_rfl)) (Tr.every_node (fnOk Try.func17 Try.call17 (by kernel_rfl)) (Tr.every_node noFn Tr.every_leaf Tr.every_leaf) Tr.every_leaf) (Tr.every_node (fnOk Try.func25 Try.call25 (by kernel_rfl)) (Tr.every_node noFn Tr.every_leaf Tr.every_leaf) Tr.every_leaf)) (Tr.every_node (fnOk Try.func13 Try.call13 (by kernel_rfl)) (Tr.every_node (fnOk Try.func21 Try.call21 (by kernel_rfl)) (Tr.every_node noFn Tr.every_leaf Tr.every_leaf) Tr.every_leaf) (Tr.every_node noFn Tr.every_leaf Tr.every_leaf)))) (Tr.every_node noFn (Tr.every_node (fnOk Try.func4 Try.call4 (by kernel_rfl)) (Tr.every_node (fnOk Try.func8 Try.call8 (by kernel_rfl)) (Tr.every_node (fnOk Try.func16 Try.call16 (by kernel_rfl)) (Tr.every_node noFn Tr.every_leaf Tr.every_leaf) Tr.every_leaf) (Tr.every_node (fnOk Try.func24 Try.call24 (by kernel_rfl)) (Tr.every_node noFn Tr.every_leaf Tr.every_leaf) Tr.every_leaf)) (Tr.every_node (fnOk Try.func12 Try.call12 (by kernel_rfl)) (Tr.every_node (fnOk Try.func20 Try.call20 (by kernel_rfl)) (Tr.every_node noFn Tr.every_leaf Tr.every_leaf) Tr.every_leaf) (Tr.every_node noFn Tr.every_leaf Tr.every_leaf))) (Tr.every_node (fnOk Try.func6 Try.call6 (by kernel_rfl)) (Tr.every_node (fnOk Try.func10 Try.call10 (by kernel_rfl)) (Tr.every_node (fnOk Try.func18 Try.call18 (by kernel_rfl)) (Tr.every_node noFn Tr.every_leaf Tr.every_leaf) Tr.every_leaf) (Tr.every_node noFn Tr.every_leaf Tr.every_leaf)) (Tr.every_node (fnOk Try.func14 Try.call14 (by kernel_rfl)) (Tr.every_node (fnOk Try.func22 Try.call22 (by kernel_rfl)) (Tr.every_node noFn Tr.every_leaf Tr.every_leaf) Tr.every_leaf) (Tr.every_node noFn Tr.every_leaf Tr.every_leaf)))))
noncomputable def vP : Tr Prim := (.node none (.node none (.node none (.node none (.node none (.node none .leaf .leaf) .leaf) (.node none (.node none .leaf .leaf) .leaf)) (.node none (.node none (.node none .leaf .leaf) .leaf) (.node none .leaf .leaf))) (.node none (.node none (.node none (.node none .leaf .leaf) .leaf) (.node none (.node none .leaf .leaf) .leaf)) (.node none (.node none (.node none .leaf .leaf) .leaf) (.node none .leaf .leaf)))) (.node none (.node none (.node none (.node none (.node none .leaf .leaf) .leaf) (.node none (.node none .leaf .leaf) .leaf)) (.node none (.node none (.node none .leaf .leaf) .leaf) (.node none .leaf .leaf))) (.node none (.node none (.node none (.node none .leaf .leaf) .leaf) (.node none .leaf .leaf)) (.node none (.node none (.node none .leaf .leaf) .leaf) (.node none .leaf .leaf)))))
noncomputable def vG : Tr (List AV) := .leaf
noncomputable def vI : Tr (List Nat) := (.node none (.node none (.node none (.node none (.node (some [43]) (.node none .leaf .leaf) .leaf) (.node none (.node none .leaf .leaf) .leaf)) (.node none (.node none (.node none .leaf .leaf) .leaf) (.node none .leaf .leaf))) (.node (some [29]) (.node none (.node none (.node none .leaf .leaf) .leaf) (.node none (.node none .leaf .leaf) .leaf)) (.node (some [43]) (.node none (.node none .leaf .leaf) .leaf) (.node none .leaf .leaf)))) (.node none (.node none (.node none (.node none (.node none .leaf .leaf) .leaf) (.node (some [66]) (.node none .leaf .leaf) .leaf)) (.node none (.node none (.node none .leaf .leaf) .leaf) (.node none .leaf .leaf))) (.node (some [34]) (.node none (.node none (.node none .leaf .leaf) .leaf) (.node none .leaf .leaf)) (.node none (.node (some [66]) (.node none .leaf .leaf) .leaf) (.node none .leaf .leaf)))))
noncomputable def vfull : List Nat := []
noncomputable def vlook : List Nat := [17, 21]
theorem vP_ok : Tr.Every (fun f q => OnePrim Try.prog vT (fun b => vG.get b) f q) vP := (Tr.every_node noPrim (Tr.every_node noPrim (Tr.every_node noPrim (Tr.every_node noPrim (Tr.every_node noPrim (Tr.every_node noPrim Tr.every_leaf Tr.every_leaf) Tr.every_leaf) (Tr.every_node noPrim (Tr.every_node noPrim Tr.every_leaf Tr.every_leaf) Tr.every_leaf)) (Tr.every_node noPrim (Tr.every_node noPrim (Tr.every_node noPrim Tr.every_leaf Tr.every_leaf) Tr.every_leaf) (Tr.every_node noPrim Tr.every_leaf Tr.every_leaf))) (Tr.every_node noPrim (Tr.every_node noPrim (Tr.every_node noPrim (Tr.every_node noPrim Tr.every_leaf Tr.every_leaf) Tr.every_leaf) (Tr.every_node noPrim (Tr.every_node noPrim Tr.every_leaf Tr.every_leaf) Tr.every_leaf)) (Tr.every_node noPrim (Tr.every_node noPrim (Tr.every_node noPrim Tr.every_leaf Tr.every_leaf) Tr.every_leaf) (Tr.every_node noPrim Tr.every_leaf Tr.every_leaf)))) (Tr.every_node noPrim (Tr.every_node noPrim (Tr.every_node noPrim (Tr.every_node noPrim (Tr.every_node noPrim Tr.every_leaf Tr.every_leaf) Tr.every_leaf) (Tr.every_node noPrim (Tr.every_node noPrim Tr.every_leaf Tr.every_leaf) Tr.every_leaf)) (Tr.every_node noPrim (Tr.every_node noPrim (Tr.every_node noPrim Tr.every_leaf Tr.every_leaf) Tr.every_leaf) (Tr.every_node noPrim Tr.every_leaf Tr.every_leaf))) (Tr.every_node noPrim (Tr.every_node noPrim (Tr.every_node noPrim (Tr.every_node noPrim Tr.every_leaf Tr.every_leaf) Tr.every_leaf) (Tr.every_node noPrim Tr.every_leaf Tr.every_leaf)) (Tr.every_node noPrim (Tr.every_node noPrim (Tr.every_node noPrim Tr.every_leaf Tr.every_leaf) Tr.every_leaf) (Tr.every_node noPrim Tr.every_leaf Tr.every_leaf)))))
noncomputable def vE : Env where
  T := vT
  F i := vF.get i
  prim i := vP.get i
  full i := vfull.any fun j => i.beq j
  isLook i := vlook.any fun j => i.beq j
  imm f t := match vI.get f with
    | some l => l.any fun j => t.beq j
    | none => false
  G b := vG.get b
  memo _ := []
theorem vE_ok : EnvOk Try.prog vE := ⟨vT_ok, fun f fn h => Tr.every_get vF _ vF_ok f fn h, primOk_of fun f q h => Tr.every_get vP _ vP_ok f q h, by kernel_rfl, (fun _ _ h => by cases h), fun _ r _ _ h _ => absurd (show (none : Option (List AV → Option AV)) = some r from h) (by simp)⟩
end Go.Proofs.Ytoopmjhdgkcleaa.Vm
set_option maxRecDepth 1000000
set_option maxHeartbeats 0
namespace Go.Proofs.Ytoopmjhdgkcleaa.Vm
open Go Go.VM Go.Proofs
/-- rostrum/rostrumlaw15.ScopeTables -/
noncomputable def g3 : AV → Option AV := fun x0 => bindO (callS (orc vE) 4 [x0] (St.mk 0 0 Tr.leaf) fun v0 st1 _x => asB v0 fun b3 => ifB b3 (some ([AV.bool true], st1)) (callS (orc vE) 7 [x0] st1 fun v4 st5 _x => unA
 v4 fun l8 => unc l8 fun v9 l10 => unc l10 fun v11 l12 => unc l12 fun v13 l14 => un0 l14 (callS (orc vE) 6 [AV.agg [v9, v11, v13]] st5 fun v15 st16 _x => unA v15 fun l19 => unc l19 fun v20 l21 => unc l21 fun v22 l23 =>
 unc l23 fun v24 l25 => un0 l25 (callS (orc vE) 8 [x0] st16 fun v26 st27 _x => unA v26 fun l30 => unc l30 fun v31 l32 => unc l32 fun v33 l34 => unc l34 fun v35 l36 => un0 l36 (callS (orc vE) 5 [AV.agg [v20, v22, v24],
 AV.agg [v31, v33, v35]] st27 fun v37 st38 _x => asB v37 fun b40 => some ([AV.bool b40], st38)))))) fun c41 => unc (Prod.fst c41) fun v42 l43 => asB v42 fun b44 => un0 l43 (some (AV.bool b44))
theorem g3_eq (x0 : AV) : bareS vE 3 [x0] = g3 x0 := by kernel_rfl
/-- rostrum/rostrumlaw15.large -/
noncomputable def g4_L1 (x0 : AV) : Car → Option (Car ⊕ Nat × Car) := fun c1 => unc (Prod.fst c1) fun v2 l3 => asI .i64 v2 fun n4 => unc l3 fun v5 l6 => asI .i64 v5 fun n7 => un0 l6 (bindO (lenS x0 fun k8 => ifB (decide
 (n7 < (↑k8 : Int))) (some ([AV.bool (decide (n4 < 400))], Prod.snd c1)) (some ([AV.bool false], Prod.snd c1))) fun c9 => unc (Prod.fst c9) fun v10 l11 => asB v10 fun b12 => un0 l11 (ifB b12 (idxA 11 x0 n7 (Prod.snd c9)
 fun v13 _x => fldA 3 v13 fun v15 => loadS 1 false v15 (Prod.snd c9) fun v16 _x => callS (orc vE) 9 [v16] (Prod.snd c9) fun v18 st19 x20 => asI .i64 v18 fun n21 => chk (apart (Fx.mk [] Did.kept) x20 && true) (letV
 (IntKind.wrap .i64 (n4 + n21)) fun n22 => chk (apart x20 (Fx.mk [] Did.kept) && true) (chk (apart x20 (Fx.mk [] Did.kept) && true) (idxA 11 x0 n7 st19 fun v23 l24 => chk (apart x20 (Fx.mk l24 Did.kept) && true) (fldA 4
 v23 fun v25 => chk (apart x20 (Fx.mk [] Did.kept) && true) (loadS 7 true v25 st19 fun v26 l27 => unA v26 fun l29 => unc l29 fun v30 l31 => asI .u8 v30 fun n32 => unc l31 fun v33 l34 => asI .i64 v33 fun n35 => unc l34
 fun v36 l37 => asI .i64 v36 fun n38 => unc l37 fun v39 l40 => asB v39 fun b41 => unc l40 fun v42 l43 => asS v42 fun l44 => unc l43 fun v45 l46 => unc l46 fun v47 l48 => un0 l48 (chk (apart x20 (Fx.mk l27 Did.kept) &&
 true) (asOne v45 (asOne v47 (asOne v45 (asOne v47 (fit1 v45 fun v49 => fit1 v47 fun v50 => chk (apart x20 (Fx.mk [] Did.kept) && true) (callS (orc vE) 10 [AV.sl 7 [AV.agg [AV.int .u8 n32, AV.int .i64 n35, AV.int .i64
 n38, AV.bool b41, AV.str l44, v49, v50]] Perm.shut] st19 fun v51 st52 x53 => asI .i64 v51 fun n54 => chk (apart (Fx.mk [] Did.kept) x53 && (apart (Fx.mk [] Did.kept) x53 && true)) (letV (IntKind.wrap .i64 (n22 + n54))
 fun n55 => letV (IntKind.wrap .i64 (n7 + 1)) fun n56 => some (Sum.inl ([AV.int .i64 n55, AV.int .i64 n56], st52)))))))))))))))) (some (Sum.inr (0, [AV.int .i64 n4], Prod.snd c9)))))
noncomputable def g4 : AV → Option AV := fun x0 => lenS x0 fun k0 => bindO (loopO (g4_L1 x0) ([AV.int .i64 (↑k0 : Int), AV.int .i64 0], St.mk 0 0 Tr.leaf)) fun c57 => unc (Prod.fst (Prod.snd c57)) fun v58 l59 => asI
 .i64 v58 fun n60 => un0 l59 (some (AV.bool (decide (n60 ≥ 400))))
theorem g4_eq (x0 : AV) : bareS vE 4 [x0] = g4 x0 := by kernel_rfl
/-- rostrum/rostrumref15.Same -/
noncomputable def g5_L1 (v16 : AV) (v19 : AV) : Car → Option (Car ⊕ Nat × Car) := fun c34 => unc (Prod.fst c34) fun v35 l36 => asB v35 fun b37 => unc l36 fun v38 l39 => asI .i64 v38 fun n40 => un0 l39 (lenS v16 fun k41
 => ifB (decide (n40 < (↑k41 : Int))) (idxA 3 v16 n40 (Prod.snd c34) fun v42 _x => loadS 3 true v42 (Prod.snd c34) fun v44 _x => unA v44 fun l47 => unc l47 fun v48 l49 => asS v48 fun l50 => unc l49 fun v51 l52 => asI
 .i64 v51 fun n53 => unc l52 fun v54 l55 => asI .i64 v54 fun n56 => un0 l55 (idxA 3 v19 n40 (Prod.snd c34) fun v57 _x => loadS 3 true v57 (Prod.snd c34) fun v59 _x => unA v59 fun l62 => unc l62 fun v63 l64 => asS v63 fun
 l65 => unc l64 fun v66 l67 => asI .i64 v66 fun n68 => unc l67 fun v69 l70 => asI .i64 v69 fun n71 => un0 l70 (bindO (toO (VM.binOp (Env.T vE) BinOp.neq 49 (AV.agg [AV.str l50, AV.int .i64 n53, AV.int .i64 n56]) (AV.agg
 [AV.str l65, AV.int .i64 n68, AV.int .i64 n71]))) fun v72 => asB v72 fun b73 => ifB b73 (some (Sum.inr (1, [AV.bool false], Prod.snd c34))) (letV (IntKind.wrap .i64 (n40 + 1)) fun n74 => some (Sum.inl ([AV.bool b37,
 AV.int .i64 n74], Prod.snd c34)))))) (some (Sum.inr (0, [AV.bool b37], Prod.snd c34))))
noncomputable def g5_L2 (v17 : AV) (v20 : AV) : Car → Option (Car ⊕ Nat × Car) := fun c79 => unc (Prod.fst c79) fun v80 l81 => asB v80 fun b82 => unc l81 fun v83 l84 => asI .i64 v83 fun n85 => un0 l84 (lenS v17 fun k86
 => ifB (decide (n85 < (↑k86 : Int))) (idxA 4 v17 n85 (Prod.snd c79) fun v87 _x => loadS 4 true v87 (Prod.snd c79) fun v89 _x => unA v89 fun l92 => unc l92 fun v93 l94 => asS v93 fun l95 => unc l94 fun v96 l97 => asI
 .i64 v96 fun n98 => unc l97 fun v99 l100 => asI .i64 v99 fun n101 => unc l100 fun v102 l103 => asI .i64 v102 fun n104 => un0 l103 (idxA 4 v20 n85 (Prod.snd c79) fun v105 _x => loadS 4 true v105 (Prod.snd c79) fun v107
 _x => unA v107 fun l110 => unc l110 fun v111 l112 => asS v111 fun l113 => unc l112 fun v114 l115 => asI .i64 v114 fun n116 => unc l115 fun v117 l118 => asI .i64 v117 fun n119 => unc l118 fun v120 l121 => asI .i64 v120
 fun n122 => un0 l121 (bindO (toO (VM.binOp (Env.T vE) BinOp.neq 51 (AV.agg [AV.str l95, AV.int .i64 n98, AV.int .i64 n101, AV.int .i64 n104]) (AV.agg [AV.str l113, AV.int .i64 n116, AV.int .i64 n119, AV.int .i64
 n122]))) fun v123 => asB v123 fun b124 => ifB b124 (some (Sum.inr (1, [AV.bool false], Prod.snd c79))) (letV (IntKind.wrap .i64 (n85 + 1)) fun n125 => some (Sum.inl ([AV.bool b82, AV.int .i64 n125], Prod.snd c79))))))
 (some (Sum.inr (0, [AV.bool b82], Prod.snd c79))))
noncomputable def g5 : AV → AV → Option AV := fun x0 x1 => unA x0 fun l1 => unc l1 fun v2 l3 => unc l3 fun v4 l5 => unc l5 fun v6 l7 => un0 l7 (unA x1 fun l9 => unc l9 fun v10 l11 => unc l11 fun v12 l13 => unc l13 fun
 v14 l15 => un0 l15 (asOne v2 (asOne v4 (asOne v6 (fit1 v2 fun v16 => fit1 v4 fun v17 => fit1 v6 fun v18 => asOne v10 (asOne v12 (asOne v14 (fit1 v10 fun v19 => fit1 v12 fun v20 => fit1 v14 fun v21 => bindO (lenS v16 fun
 k22 => lenS v19 fun k23 => ifB ((↑k22 : Int) != (↑k23 : Int)) (some ([AV.bool true], St.mk 0 0 Tr.leaf)) (lenS v17 fun k24 => lenS v20 fun k25 => ifB ((↑k24 : Int) != (↑k25 : Int)) (some ([AV.bool true], St.mk 0 0
 Tr.leaf)) (callS (orc vE) 11 [v18, v21] (St.mk 0 0 Tr.leaf) fun v26 st27 _x => asB v26 fun b29 => some ([AV.bool !b29], st27)))) fun c30 => unc (Prod.fst c30) fun v31 l32 => asB v31 fun b33 => un0 l32 (ifB b33 (some
 (AV.bool false)) (bindO (loopO (g5_L1 v16 v19) ([AV.bool false, AV.int .i64 0], Prod.snd c30)) fun c75 => unc (Prod.fst (Prod.snd c75)) fun v76 l77 => asB v76 fun b78 => un0 l77 (sel2 (Prod.fst c75) (bindO (loopO (g5_L2
 v17 v20) ([AV.bool b78, AV.int .i64 0], Prod.snd (Prod.snd c75))) fun c126 => unc (Prod.fst (Prod.snd c126)) fun v127 l128 => asB v127 fun b129 => un0 l128 (sel2 (Prod.fst c126) (some (AV.bool true)) fun _x => some
 (AV.bool b129))) fun _x => some (AV.bool b78))))))))))))
theorem g5_eq (x0 x1 : AV) : bareS vE 5 [x0, x1] = g5 x0 x1 := by kernel_rfl
/-- rostrum/rostrumlaw15.of -/
noncomputable def g6_L1 (v8 : AV) : Car → Option (Car ⊕ Nat × Car) := fun c12 => unc (Prod.fst c12) fun v13 l14 => asI .i64 v13 fun n15 => un0 l14 (lenS v8 fun k16 => ifB (decide (n15 < (↑k16 : Int))) (loadS 1 false
 (AV.mp 1 0) (Prod.snd c12) fun v17 _x => idxA 3 v8 n15 (Prod.snd c12) fun v19 _x => fldA 0 v19 fun v21 => loadS 1 false v21 (Prod.snd c12) fun v22 _x => asS v22 fun l24 => idxA 3 v8 n15 (Prod.snd c12) fun v25 _x => fldA
 1 v25 fun v27 => loadS 2 true v27 (Prod.snd c12) fun v28 _x => unA v28 fun l31 => unc l31 fun v32 l33 => asI .i64 v32 fun n34 => unc l33 fun v35 l36 => asI .i64 v35 fun n37 => un0 l36 (appS 3 32 49 v17 [AV.agg [AV.str
 l24, AV.int .i64 n34, AV.int .i64 n37]] (Prod.snd c12) fun v39 st40 _x => asOne v39 (asOne v39 (storeS (orc vE) 1 (AV.mp 1 0) v39 [v39] st40 fun _x st43 _x_1 => letV (IntKind.wrap .i64 (n15 + 1)) fun n45 => some
 (Sum.inl ([AV.int .i64 n45], st43)))))) (some (Sum.inr (0, [], Prod.snd c12))))
noncomputable def g6_L2 (v9 : AV) : Car → Option (Car ⊕ Nat × Car) := fun c47 => unc (Prod.fst c47) fun v48 l49 => asI .i64 v48 fun n50 => un0 l49 (lenS v9 fun k51 => ifB (decide (n50 < (↑k51 : Int))) (loadS 1 false
 (AV.mp 1 1) (Prod.snd c47) fun v52 _x => idxA 4 v9 n50 (Prod.snd c47) fun v54 _x => fldA 0 v54 fun v56 => loadS 1 false v56 (Prod.snd c47) fun v57 _x => asS v57 fun l59 => idxA 4 v9 n50 (Prod.snd c47) fun v60 _x => fldA
 1 v60 fun v62 => loadS 2 true v62 (Prod.snd c47) fun v63 _x => unA v63 fun l66 => unc l66 fun v67 l68 => asI .i64 v67 fun n69 => unc l68 fun v70 l71 => asI .i64 v70 fun n72 => un0 l71 (idxA 4 v9 n50 (Prod.snd c47) fun
 v73 _x => fldA 3 v73 fun v75 => loadS 1 false v75 (Prod.snd c47) fun v76 _x => asI .i64 v76 fun n78 => appS 4 40 51 v52 [AV.agg [AV.str l59, AV.int .i64 n69, AV.int .i64 n72, AV.int .i64 n78]] (Prod.snd c47) fun v80
 st81 _x => asOne v80 (asOne v80 (storeS (orc vE) 1 (AV.mp 1 1) v80 [v80] st81 fun _x st84 _x_1 => letV (IntKind.wrap .i64 (n50 + 1)) fun n86 => some (Sum.inl ([AV.int .i64 n86], st84)))))) (some (Sum.inr (0, [],
 Prod.snd c47))))
noncomputable def g6 : AV → Option AV := fun x0 => unA x0 fun l1 => unc l1 fun v2 l3 => unc l3 fun v4 l5 => unc l5 fun v6 l7 => un0 l7 (asOne v2 (asOne v4 (asOne v6 (fit1 v2 fun v8 => fit1 v4 fun v9 => fit1 v6 fun v10
 => asOne v10 (asOne v10 (bindO (loopO (g6_L1 v8) ([AV.int .i64 0], St.mk 2 0 (Tr.node (some (VM.Obj.cells 29 [AV.nils, AV.nils, AV.nils])) (Tr.node (some (VM.Obj.cells 29 [AV.nils, AV.nils, v10])) Tr.leaf Tr.leaf)
 Tr.leaf))) fun c46 => un0 (Prod.fst (Prod.snd c46)) (bindO (loopO (g6_L2 v9) ([AV.int .i64 0], Prod.snd (Prod.snd c46))) fun c87 => un0 (Prod.fst (Prod.snd c87)) (loadS 3 true (AV.mp 1 0) (Prod.snd (Prod.snd c87)) fun
 v88 _x => unA v88 fun l91 => unc l91 fun v92 l93 => unc l93 fun v94 l95 => unc l95 fun v96 l97 => un0 l97 (asOne v92 (asOne v94 (asOne v96 (storeS (orc vE) 3 (AV.mp 0 0) (AV.agg [v92, v94, v96]) [v92, v94, v96]
 (Prod.snd (Prod.snd c87)) fun _x st99 _x_1 => loadS 3 true (AV.mp 0 0) st99 fun v101 _x => unA v101 fun l104 => unc l104 fun v105 l106 => unc l106 fun v107 l108 => unc l108 fun v109 l110 => un0 l110 (frzS st99 0 (AV.agg
 [v105, v107, v109]) fun v111 => some v111)))))))))))))
theorem g6_eq (x0 : AV) : bareS vE 6 [x0] = g6 x0 := by kernel_rfl
/-- rostrum/scope.Of -/
noncomputable def g7_L1 (x0 : AV) (k1 : Nat) : Car → Option (Car ⊕ Nat × Car) := fun c2 => unc (Prod.fst c2) fun v3 l4 => unc l4 fun v5 l6 => asI .i64 v5 fun n7 => un0 l6 (ifB (decide (n7 < (↑k1 : Int))) (idxA 11 x0 n7
 (Prod.snd c2) fun v8 _x => loadS 11 true v8 (Prod.snd c2) fun v10 _x => unA v10 fun l13 => unc l13 fun v14 l15 => asI .i64 v14 fun n16 => unc l15 fun v17 l18 => asI .i64 v17 fun n19 => unc l18 fun v20 l21 => asB v20 fun
 b22 => unc l21 fun v23 l24 => unc l24 fun v25 l26 => asI .u8 v25 fun n27 => unc l26 fun v28 l29 => asI .i64 v28 fun n30 => unc l29 fun v31 l32 => asI .i64 v31 fun n33 => unc l32 fun v34 l35 => asB v34 fun b36 => unc l35
 fun v37 l38 => asS v37 fun l39 => unc l38 fun v40 l41 => unc l41 fun v42 l43 => un0 l43 (letSt (St.add (Prod.snd c2) (VM.Obj.cells 45 [AV.int .i64 0, AV.int .i64 0, AV.bool false, AV.nils, AV.int .u8 0, AV.int .i64 0,
 AV.int .i64 0, AV.bool false, AV.str [], AV.nils, AV.nils])) fun st44 => asOne v23 (asOne v40 (asOne v42 (storeS (orc vE) 11 (AV.mp (St.h (Prod.snd c2)) 0) (AV.agg [AV.int .i64 n16, AV.int .i64 n19, AV.bool b22, v23,
 AV.int .u8 n27, AV.int .i64 n30, AV.int .i64 n33, AV.bool b36, AV.str l39, v40, v42]) [AV.int .i64 n16, AV.int .i64 n19, AV.bool b22, v23, AV.int .u8 n27, AV.int .i64 n30, AV.int .i64 n33, AV.bool b36, AV.str l39, v40,
 v42] st44 fun _x st46 _x_1 => loadS 1 false (AV.mp (St.h (Prod.snd c2)) 2) st46 fun v48 _x => asB v48 fun b50 => loadS 1 false (AV.mp (St.h (Prod.snd c2)) 3) st46 fun v51 _x => callS (orc vE) 12 [AV.mp 1 0, AV.bool b50,
 v51, v3] st46 fun v53 st54 _x => unT v53 fun l56 => nthS l56 0 fun v57 => unT v53 fun l58 => nthS l58 1 fun v59 => loadS 7 true (AV.mp (St.h (Prod.snd c2)) 4) st54 fun v60 _x => unA v60 fun l63 => unc l63 fun v64 l65 =>
 asI .u8 v64 fun n66 => unc l65 fun v67 l68 => asI .i64 v67 fun n69 => unc l68 fun v70 l71 => asI .i64 v70 fun n72 => unc l71 fun v73 l74 => asB v73 fun b75 => unc l74 fun v76 l77 => asS v76 fun l78 => unc l77 fun v79
 l80 => unc l80 fun v81 l82 => un0 l82 (callS (orc vE) 13 [AV.mp 1 0, AV.agg [AV.int .u8 n66, AV.int .i64 n69, AV.int .i64 n72, AV.bool b75, AV.str l78, v79, v81], v59] st54 fun _x st84 _x_2 => letV (IntKind.wrap .i64
 (n7 + 1)) fun n86 => some (Sum.inl ([v57, AV.int .i64 n86], st84)))))))) (some (Sum.inr (0, [], Prod.snd c2))))
noncomputable def g7 : AV → Option AV := fun x0 => lenS x0 fun k1 => bindO (loopO (g7_L1 x0 k1) ([AV.nilp, AV.int .i64 0], St.mk 2 0 (Tr.node (some (VM.Obj.cells 34 [AV.nils, AV.nils, AV.nils])) (Tr.node (some
 (VM.Obj.cells 56 [AV.nils, AV.nils, AV.nils])) Tr.leaf Tr.leaf) Tr.leaf))) fun c87 => un0 (Prod.fst (Prod.snd c87)) (loadS 3 true (AV.mp 1 0) (Prod.snd (Prod.snd c87)) fun v88 _x => unA v88 fun l91 => unc l91 fun v92
 l93 => unc l93 fun v94 l95 => unc l95 fun v96 l97 => un0 l97 (asOne v92 (asOne v94 (asOne v96 (storeS (orc vE) 3 (AV.mp 0 0) (AV.agg [v92, v94, v96]) [v92, v94, v96] (Prod.snd (Prod.snd c87)) fun _x st99 _x_1 => loadS 3
 true (AV.mp 0 0) st99 fun v101 _x => unA v101 fun l104 => unc l104 fun v105 l106 => unc l106 fun v107 l108 => unc l108 fun v109 l110 => un0 l110 (frzS st99 0 (AV.agg [v105, v107, v109]) fun v111 => some v111))))))
theorem g7_eq (x0 : AV) : bareS vE 7 [x0] = g7 x0 := by kernel_rfl
/-- rostrum/rostrumref15.Of -/
noncomputable def g8_L1 (x0 : AV) : Car → Option (Car ⊕ Nat × Car) := fun c1 => unc (Prod.fst c1) fun v2 l3 => unc l3 fun v4 l5 => asI .i64 v4 fun n6 => un0 l5 (lenS x0 fun k7 => ifB (decide (n6 < (↑k7 : Int))) (idxA 11
 x0 n6 (Prod.snd c1) fun v8 _x => fldA 2 v8 fun v10 => loadS 1 false v10 (Prod.snd c1) fun v11 _x => asB v11 fun b13 => idxA 11 x0 n6 (Prod.snd c1) fun v14 _x => fldA 3 v14 fun v16 => loadS 1 false v16 (Prod.snd c1) fun
 v17 _x => callS (orc vE) 14 [AV.mp 1 0, AV.bool b13, v17, v2] (Prod.snd c1) fun v19 st20 _x => unT v19 fun l22 => nthS l22 0 fun v23 => unT v19 fun l24 => nthS l24 1 fun v25 => idxA 11 x0 n6 st20 fun v26 _x => fldA 4
 v26 fun v28 => loadS 7 true v28 st20 fun v29 _x => unA v29 fun l32 => unc l32 fun v33 l34 => asI .u8 v33 fun n35 => unc l34 fun v36 l37 => asI .i64 v36 fun n38 => unc l37 fun v39 l40 => asI .i64 v39 fun n41 => unc l40
 fun v42 l43 => asB v42 fun b44 => unc l43 fun v45 l46 => asS v45 fun l47 => unc l46 fun v48 l49 => unc l49 fun v50 l51 => un0 l51 (callS (orc vE) 15 [AV.mp 1 0, AV.agg [AV.int .u8 n35, AV.int .i64 n38, AV.int .i64 n41,
 AV.bool b44, AV.str l47, v48, v50], v25] st20 fun _x st53 _x_1 => letV (IntKind.wrap .i64 (n6 + 1)) fun n55 => some (Sum.inl ([v23, AV.int .i64 n55], st53)))) (some (Sum.inr (0, [], Prod.snd c1))))
noncomputable def g8 : AV → Option AV := fun x0 => bindO (loopO (g8_L1 x0) ([AV.nils, AV.int .i64 0], St.mk 2 0 (Tr.node (some (VM.Obj.cells 29 [AV.nils, AV.nils, AV.nils])) (Tr.node (some (VM.Obj.cells 29 [AV.nils,
 AV.nils, AV.nils])) Tr.leaf Tr.leaf) Tr.leaf))) fun c56 => un0 (Prod.fst (Prod.snd c56)) (loadS 3 true (AV.mp 1 0) (Prod.snd (Prod.snd c56)) fun v57 _x => unA v57 fun l60 => unc l60 fun v61 l62 => unc l62 fun v63 l64 =>
 unc l64 fun v65 l66 => un0 l66 (asOne v61 (asOne v63 (asOne v65 (storeS (orc vE) 3 (AV.mp 0 0) (AV.agg [v61, v63, v65]) [v61, v63, v65] (Prod.snd (Prod.snd c56)) fun _x st68 _x_1 => loadS 3 true (AV.mp 0 0) st68 fun v70
 _x => unA v70 fun l73 => unc l73 fun v74 l75 => unc l75 fun v76 l77 => unc l77 fun v78 l79 => un0 l79 (frzS st68 0 (AV.agg [v74, v76, v78]) fun v80 => some v80))))))
theorem g8_eq (x0 : AV) : bareS vE 8 [x0] = g8 x0 := by kernel_rfl
/-- rostrum/rostrumlaw15.pats -/
noncomputable def g9_L1 (x0 : AV) : Car → Option (Car ⊕ Nat × Car) := fun c1 => unc (Prod.fst c1) fun v2 l3 => asI .i64 v2 fun n4 => unc l3 fun v5 l6 => asI .i64 v5 fun n7 => un0 l6 (bindO (lenS x0 fun k8 => ifB (decide
 (n7 < (↑k8 : Int))) (some ([AV.bool (decide (n4 < 1000))], Prod.snd c1)) (some ([AV.bool false], Prod.snd c1))) fun c9 => unc (Prod.fst c9) fun v10 l11 => asB v10 fun b12 => un0 l11 (ifB b12 (idxA 6 x0 n7 (Prod.snd c9)
 fun v13 _x => fldA 5 v13 fun v15 => loadS 1 false v15 (Prod.snd c9) fun v16 _x => callS (orc vE) 9 [v16] (Prod.snd c9) fun v18 st19 x20 => asI .i64 v18 fun n21 => chk (apart (Fx.mk [] Did.kept) x20 && true) (letV
 (IntKind.wrap .i64 (n4 + n21)) fun n22 => chk (apart x20 (Fx.mk [] Did.kept) && true) (chk (apart x20 (Fx.mk [] Did.kept) && true) (idxA 6 x0 n7 st19 fun v23 l24 => chk (apart x20 (Fx.mk l24 Did.kept) && true) (fldA 4
 v23 fun v25 => chk (apart x20 (Fx.mk [] Did.kept) && true) (loadS 1 false v25 st19 fun v26 l27 => asS v26 fun l28 => chk (apart x20 (Fx.mk l27 Did.kept) && true) (chk (apart x20 (Fx.mk [] Did.kept) && true) (letV (if
 10000 < (↑(List.length l28) : Int) then 10000 else (↑(List.length l28) : Int)) fun n29 => chk (apart x20 (Fx.mk [] Did.kept) && true) (letV (IntKind.wrap .i64 (Int.tdiv n29 64)) fun n30 => chk (apart x20 (Fx.mk []
 Did.kept) && true) (letV (IntKind.wrap .i64 (n22 + n30)) fun n31 => letV (IntKind.wrap .i64 (n7 + 1)) fun n32 => some (Sum.inl ([AV.int .i64 n31, AV.int .i64 n32], st19)))))))))))) (some (Sum.inr (0, [AV.int .i64 n4],
 Prod.snd c9)))))
noncomputable def g9 : AV → Option AV := fun x0 => lenS x0 fun k0 => bindO (loopO (g9_L1 x0) ([AV.int .i64 (↑k0 : Int), AV.int .i64 0], St.mk 0 0 Tr.leaf)) fun c33 => unc (Prod.fst (Prod.snd c33)) fun v34 l35 => asI
 .i64 v34 fun n36 => un0 l35 (some (AV.int .i64 n36))
theorem g9_eq (x0 : AV) : bareS vE 9 [x0] = g9 x0 := by kernel_rfl
/-- rostrum/rostrumlaw15.exprs -/
noncomputable def g10_L1 (x0 : AV) : Car → Option (Car ⊕ Nat × Car) := fun c1 => unc (Prod.fst c1) fun v2 l3 => asI .i64 v2 fun n4 => unc l3 fun v5 l6 => asI .i64 v5 fun n7 => un0 l6 (bindO (lenS x0 fun k8 => ifB
 (decide (n7 < (↑k8 : Int))) (some ([AV.bool (decide (n4 < 1000))], Prod.snd c1)) (some ([AV.bool false], Prod.snd c1))) fun c9 => unc (Prod.fst c9) fun v10 l11 => asB v10 fun b12 => un0 l11 (ifB b12 (idxA 7 x0 n7
 (Prod.snd c9) fun v13 _x => fldA 5 v13 fun v15 => loadS 1 false v15 (Prod.snd c9) fun v16 _x => callS (orc vE) 9 [v16] (Prod.snd c9) fun v18 st19 x20 => asI .i64 v18 fun n21 => chk (apart (Fx.mk [] Did.kept) x20 &&
 true) (letV (IntKind.wrap .i64 (n4 + n21)) fun n22 => chk (apart x20 (Fx.mk [] Did.kept) && true) (chk (apart x20 (Fx.mk [] Did.kept) && true) (idxA 7 x0 n7 st19 fun v23 l24 => chk (apart x20 (Fx.mk l24 Did.kept) &&
 true) (fldA 6 v23 fun v25 => chk (apart x20 (Fx.mk [] Did.kept) && true) (loadS 1 false v25 st19 fun v26 l27 => chk (apart x20 (Fx.mk l27 Did.kept) && true) (callS (orc vE) 10 [v26] st19 fun v28 st29 x30 => asI .i64 v28
 fun n31 => chk (apart (Fx.mk [] Did.kept) x30 && (apart (Fx.mk [] Did.kept) x30 && true)) (letV (IntKind.wrap .i64 (n22 + n31)) fun n32 => chk (apart x30 (Fx.mk [] Did.kept) && (apart x20 (Fx.mk [] Did.kept) && true))
 (chk (apart x30 (Fx.mk [] Did.kept) && (apart x20 (Fx.mk [] Did.kept) && true)) (idxA 7 x0 n7 st29 fun v33 l34 => chk (apart x30 (Fx.mk l34 Did.kept) && (apart x20 (Fx.mk l34 Did.kept) && true)) (fldA 4 v33 fun v35 =>
 chk (apart x30 (Fx.mk [] Did.kept) && (apart x20 (Fx.mk [] Did.kept) && true)) (loadS 1 false v35 st29 fun v36 l37 => asS v36 fun l38 => chk (apart x30 (Fx.mk l37 Did.kept) && (apart x20 (Fx.mk l37 Did.kept) && true))
 (chk (apart x30 (Fx.mk [] Did.kept) && (apart x20 (Fx.mk [] Did.kept) && true)) (letV (if 10000 < (↑(List.length l38) : Int) then 10000 else (↑(List.length l38) : Int)) fun n39 => chk (apart x30 (Fx.mk [] Did.kept) &&
 (apart x20 (Fx.mk [] Did.kept) && true)) (letV (IntKind.wrap .i64 (Int.tdiv n39 64)) fun n40 => chk (apart x30 (Fx.mk [] Did.kept) && (apart x20 (Fx.mk [] Did.kept) && true)) (letV (IntKind.wrap .i64 (n32 + n40)) fun
 n41 => letV (IntKind.wrap .i64 (n7 + 1)) fun n42 => some (Sum.inl ([AV.int .i64 n41, AV.int .i64 n42], st29)))))))))))))))))) (some (Sum.inr (0, [AV.int .i64 n4], Prod.snd c9)))))
noncomputable def g10 : AV → Option AV := fun x0 => lenS x0 fun k0 => bindO (loopO (g10_L1 x0) ([AV.int .i64 (↑k0 : Int), AV.int .i64 0], St.mk 0 0 Tr.leaf)) fun c43 => unc (Prod.fst (Prod.snd c43)) fun v44 l45 => asI
 .i64 v44 fun n46 => un0 l45 (some (AV.int .i64 n46))
theorem g10_eq (x0 : AV) : bareS vE 10 [x0] = g10 x0 := by kernel_rfl
/-- rostrum/rostrumref15.Ints -/
noncomputable def g11_L1 (x0 : AV) (x1 : AV) : Car → Option (Car ⊕ Nat × Car) := fun c2 => unc (Prod.fst c2) fun v3 l4 => asB v3 fun b5 => unc l4 fun v6 l7 => asI .i64 v6 fun n8 => un0 l7 (lenS x0 fun k9 => ifB (decide
 (n8 < (↑k9 : Int))) (idxA 1 x0 n8 (Prod.snd c2) fun v10 _x => loadS 1 false v10 (Prod.snd c2) fun v12 _x => asI .i64 v12 fun n14 => idxA 1 x1 n8 (Prod.snd c2) fun v15 _x => loadS 1 false v15 (Prod.snd c2) fun v17 _x =>
 asI .i64 v17 fun n19 => ifB (n14 != n19) (some (Sum.inr (1, [AV.bool false], Prod.snd c2))) (letV (IntKind.wrap .i64 (n8 + 1)) fun n20 => some (Sum.inl ([AV.bool b5, AV.int .i64 n20], Prod.snd c2)))) (some (Sum.inr (0,
 [AV.bool b5], Prod.snd c2))))
noncomputable def g11 : AV → AV → Option AV := fun x0 x1 => lenS x0 fun k0 => lenS x1 fun k1 => ifB ((↑k0 : Int) != (↑k1 : Int)) (some (AV.bool false)) (bindO (loopO (g11_L1 x0 x1) ([AV.bool false, AV.int .i64 0], St.mk
 0 0 Tr.leaf)) fun c21 => unc (Prod.fst (Prod.snd c21)) fun v22 l23 => asB v22 fun b24 => un0 l23 (sel2 (Prod.fst c21) (some (AV.bool true)) fun _x => some (AV.bool b24)))
theorem g11_eq (x0 x1 : AV) : bareS vE 11 [x0, x1] = g11 x0 x1 := by kernel_rfl
/-- (*rostrum/scope.maker).two -/
noncomputable def w12 : AV → AV → AV → AV → St → Option (AV × St) := fun x0 x1 x2 x3 st => asB x1 fun b0 => lenS x2 fun k1 => letV (if (↑k1 : Int) < 1 then (↑k1 : Int) else 1) fun n2 => sliceS 6 x2 none (some n2) none
 fun v3 => callS (orc vE) 16 [x0, v3, x3] st fun v4 st5 _x => sliceS 6 x2 (some n2) none none fun v7 => callS (orc vE) 16 [x0, v7, x3] st5 fun v8 st9 _x => bindO (ifB b0 (chk (notNil v8) (fldA 1 v8 fun v11 => asOne v4
 (asOne v4 (storeS (orc vE) 1 v11 v4 [v4] st9 fun _x st13 _x_1 => some ([], st13))))) (some ([], st9))) fun c15 => un0 (Prod.fst c15) (some (AV.tup [v4, v8], Prod.snd c15))
theorem w12_eq (x0 x1 x2 x3 : AV) (st : St) : wideS vE 12 [x0, x1, x2, x3] st = w12 x0 x1 x2 x3 st := by kernel_rfl
/-- (*rostrum/scope.maker).expr -/
noncomputable def w13_L1 (x0 : AV) (x2 : AV) (v21 : AV) (v22 : AV) (n24 : Int) (n68 : Int) : Car → Option (Car ⊕ Nat × Car) := fun c69 => unc (Prod.fst c69) fun v70 l71 => asI .i64 v70 fun n72 => un0 l71 (ifB (decide
 (n72 < n68)) (lenS v21 fun k73 => bindO (ifB (decide (n72 < (↑k73 : Int))) (letV (IntKind.wrap .i64 (n72 + 1)) fun n74 => sliceS 6 v21 (some n72) (some n74) none fun v75 => callS (orc vE) 16 [x0, v75, x2] (Prod.snd c69)
 fun v76 st77 _x => some ([v76], st77)) (some ([x2], Prod.snd c69))) fun c79 => unc (Prod.fst c79) fun v80 l81 => un0 l81 (letV (IntKind.wrap .i64 (n24 + n72)) fun n82 => lenS v22 fun k83 => bindO (ifB (decide (n82 <
 (↑k83 : Int))) (letV (IntKind.wrap .i64 (n24 + n72)) fun n84 => idxA 7 v22 n84 (Prod.snd c79) fun v85 _x => loadS 7 true v85 (Prod.snd c79) fun v87 _x => unA v87 fun l90 => unc l90 fun v91 l92 => asI .u8 v91 fun n93 =>
 unc l92 fun v94 l95 => asI .i64 v94 fun n96 => unc l95 fun v97 l98 => asI .i64 v97 fun n99 => unc l98 fun v100 l101 => asB v100 fun b102 => unc l101 fun v103 l104 => asS v103 fun l105 => unc l104 fun v106 l107 => unc
 l107 fun v108 l109 => un0 l109 (callS (orc vE) 13 [x0, AV.agg [AV.int .u8 n93, AV.int .i64 n96, AV.int .i64 n99, AV.bool b102, AV.str l105, v106, v108], v80] (Prod.snd c79) fun _x st111 _x_1 => some ([], st111))) (some
 ([], Prod.snd c79))) fun c113 => un0 (Prod.fst c113) (letV (IntKind.wrap .i64 (n72 + 1)) fun n114 => some (Sum.inl ([AV.int .i64 n114], Prod.snd c113))))) (some (Sum.inr (0, [], Prod.snd c69))))
noncomputable def w13 : AV → AV → AV → St → Option (AV × St) := fun x0 x1 x2 st => unA x1 fun l1 => unc l1 fun v2 l3 => asI .u8 v2 fun n4 => unc l3 fun v5 l6 => asI .i64 v5 fun n7 => unc l6 fun v8 l9 => asI .i64 v8 fun
 n10 => unc l9 fun v11 l12 => asB v11 fun b13 => unc l12 fun v14 l15 => asS v14 fun l16 => unc l15 fun v17 l18 => unc l18 fun v19 l20 => un0 l20 (asOne v17 (asOne v19 (fit1 v17 fun v21 => fit1 v19 fun v22 => lenS v22 fun
 k23 => letV (if (↑k23 : Int) < 1 then (↑k23 : Int) else 1) fun n24 => bindO (ifB (n4 == 1) (chk (notNil x0) (fldA 0 x0 fun v25 => fldA 1 v25 fun v26 => loadS 1 false v26 st fun v27 l28 => callS (orc vE) 17 [x2, AV.str
 l16] st fun v30 st31 x32 => asI .i64 v30 fun n33 => chk (apart (Fx.mk [] Did.kept) x32 && (apart (Fx.mk [] Did.kept) x32 && (apart (Fx.mk [] Did.kept) x32 && (apart (Fx.mk [] Did.kept) x32 && (apart (Fx.mk l28 Did.kept)
 x32 && (apart (Fx.mk [] Did.kept) x32 && (apart (Fx.mk [] Did.kept) x32 && (apart (Fx.mk [] Did.kept) x32 && (apart (Fx.mk [] Did.kept) x32 && (apart (Fx.mk [] Did.kept) x32 && true)))))))))) (appS 4 40 53 v27 [AV.agg
 [AV.str l16, AV.int .i64 n7, AV.int .i64 n10, AV.int .i64 n33]] st31 fun v35 st36 x37 => chk (apart (Fx.mk [] Did.kept) x37 && true) (chk (notNil x0) (fldA 0 x0 fun v38 => fldA 1 v38 fun v39 => asOne v35 (asOne v35
 (storeS (orc vE) 1 v39 v35 [v35] st36 fun _x st41 _x_1 => some (Sum.inl ([x2], st41))))))))) (bindO (ifB (n4 == 11) (callS (orc vE) 16 [x0, v21, x2] st fun v43 st44 _x => some (Sum.inl ([v43], st44))) (ifB (n4 == 14)
 (callS (orc vE) 12 [x0, AV.bool b13, v21, x2] st fun v46 st47 _x => unT v46 fun l49 => nthS l49 0 fun v50 => unT v46 fun l51 => nthS l51 1 fun v52 => sliceS 7 v22 none (some n24) none fun v53 => callS (orc vE) 18 [x0,
 v53, v52] st47 fun _x st55 _x_1 => sliceS 7 v22 (some n24) none none fun v57 => callS (orc vE) 18 [x0, v57, v50] st55 fun _x st59 _x_2 => some (Sum.inr (Sum.inr (AV.tup [], st59)))) (ifB (n4 == 13) (sliceS 7 v22 none
 (some n24) none fun v61 => callS (orc vE) 18 [x0, v61, x2] st fun _x st63 _x_1 => lenS v21 fun k65 => lenS v22 fun k66 => letV (IntKind.wrap .i64 ((↑k66 : Int) - n24)) fun n67 => letV (if n67 > (↑k65 : Int) then n67
 else (↑k65 : Int)) fun n68 => bindO (loopO (w13_L1 x0 x2 v21 v22 n24 n68) ([AV.int .i64 0], st63)) fun c115 => un0 (Prod.fst (Prod.snd c115)) (some (Sum.inr (Sum.inr (AV.tup [], Prod.snd (Prod.snd c115)))))) (some
 (Sum.inl ([x2], st)))))) fun c116 => onSum c116 fun c117 => unc (Prod.fst c117) fun v118 l119 => un0 l119 (some (Sum.inl ([v118], Prod.snd c117))))) fun c120 => onSum c120 fun c121 => unc (Prod.fst c121) fun v122 l123
 => un0 l123 (callS (orc vE) 18 [x0, v22, v122] (Prod.snd c121) fun _x st125 _x_1 => some (AV.tup [], st125)))))
theorem w13_eq (x0 x1 x2 : AV) (st : St) : wideS vE 13 [x0, x1, x2] st = w13 x0 x1 x2 st := by kernel_rfl
/-- (*rostrum/rostrumref15.Table).two -/
noncomputable def w14 : AV → AV → AV → AV → St → Option (AV × St) := fun x0 x1 x2 x3 st => asB x1 fun b0 => lenS x2 fun k1 => bindO (ifB (decide ((↑k1 : Int) > 0)) (sliceS 6 x2 none (some 1) none fun v2 => sliceS 6 x2
 (some 1) none none fun v3 => some ([v2, v3], st)) (some ([AV.nils, AV.nils], st))) fun c4 => unc (Prod.fst c4) fun v5 l6 => unc l6 fun v7 l8 => un0 l8 (callS (orc vE) 19 [x0, v5, x3] (Prod.snd c4) fun v9 st10 _x => ifB
 b0 (callS (orc vE) 19 [x0, v7, v9] st10 fun v12 st13 _x => some (AV.tup [v9, v12], st13)) (callS (orc vE) 19 [x0, v7, x3] st10 fun v15 st16 _x => some (AV.tup [v9, v15], st16)))
theorem w14_eq (x0 x1 x2 x3 : AV) (st : St) : wideS vE 14 [x0, x1, x2, x3] st = w14 x0 x1 x2 x3 st := by kernel_rfl
/-- (*rostrum/rostrumref15.Table).expr -/
noncomputable def w15_L1 (x0 : AV) (v22 : AV) (v33 : AV) (v35 : AV) : Car → Option (Car ⊕ Nat × Car) := fun c36 => unc (Prod.fst c36) fun v37 l38 => asI .i64 v37 fun n39 => un0 l38 (lenS v22 fun k40 => ifB (decide (n39
 < (↑k40 : Int))) (bindO (ifB (n39 == 0) (idxA 7 v22 n39 (Prod.snd c36) fun v41 _x => loadS 7 true v41 (Prod.snd c36) fun v43 _x => unA v43 fun l46 => unc l46 fun v47 l48 => asI .u8 v47 fun n49 => unc l48 fun v50 l51 =>
 asI .i64 v50 fun n52 => unc l51 fun v53 l54 => asI .i64 v53 fun n55 => unc l54 fun v56 l57 => asB v56 fun b58 => unc l57 fun v59 l60 => asS v59 fun l61 => unc l60 fun v62 l63 => unc l63 fun v64 l65 => un0 l65 (callS
 (orc vE) 15 [x0, AV.agg [AV.int .u8 n49, AV.int .i64 n52, AV.int .i64 n55, AV.bool b58, AV.str l61, v62, v64], v35] (Prod.snd c36) fun _x st67 _x_1 => some ([], st67))) (idxA 7 v22 n39 (Prod.snd c36) fun v69 _x => loadS
 7 true v69 (Prod.snd c36) fun v71 _x => unA v71 fun l74 => unc l74 fun v75 l76 => asI .u8 v75 fun n77 => unc l76 fun v78 l79 => asI .i64 v78 fun n80 => unc l79 fun v81 l82 => asI .i64 v81 fun n83 => unc l82 fun v84 l85
 => asB v84 fun b86 => unc l85 fun v87 l88 => asS v87 fun l89 => unc l88 fun v90 l91 => unc l91 fun v92 l93 => un0 l93 (callS (orc vE) 15 [x0, AV.agg [AV.int .u8 n77, AV.int .i64 n80, AV.int .i64 n83, AV.bool b86, AV.str
 l89, v90, v92], v33] (Prod.snd c36) fun _x st95 _x_1 => some ([], st95)))) fun c97 => un0 (Prod.fst c97) (letV (IntKind.wrap .i64 (n39 + 1)) fun n98 => some (Sum.inl ([AV.int .i64 n98], Prod.snd c97)))) (some (Sum.inr
 (0, [], Prod.snd c36))))
noncomputable def w15_L2 (x0 : AV) (x2 : AV) (v22 : AV) : Car → Option (Car ⊕ Nat × Car) := fun c100 => unc (Prod.fst c100) fun v101 l102 => asI .i64 v101 fun n103 => un0 l102 (bindO (lenS v22 fun k104 => ifB (decide
 (n103 < (↑k104 : Int))) (some ([AV.bool (decide (n103 < 1))], Prod.snd c100)) (some ([AV.bool false], Prod.snd c100))) fun c105 => unc (Prod.fst c105) fun v106 l107 => asB v106 fun b108 => un0 l107 (ifB b108 (idxA 7 v22
 n103 (Prod.snd c105) fun v109 _x => loadS 7 true v109 (Prod.snd c105) fun v111 _x => unA v111 fun l114 => unc l114 fun v115 l116 => asI .u8 v115 fun n117 => unc l116 fun v118 l119 => asI .i64 v118 fun n120 => unc l119
 fun v121 l122 => asI .i64 v121 fun n123 => unc l122 fun v124 l125 => asB v124 fun b126 => unc l125 fun v127 l128 => asS v127 fun l129 => unc l128 fun v130 l131 => unc l131 fun v132 l133 => un0 l133 (callS (orc vE) 15
 [x0, AV.agg [AV.int .u8 n117, AV.int .i64 n120, AV.int .i64 n123, AV.bool b126, AV.str l129, v130, v132], x2] (Prod.snd c105) fun _x st135 _x_1 => letV (IntKind.wrap .i64 (n103 + 1)) fun n137 => some (Sum.inl ([AV.int
 .i64 n137], st135)))) (some (Sum.inr (0, [], Prod.snd c105)))))
noncomputable def w15_L3 (x0 : AV) (x2 : AV) (v21 : AV) (v22 : AV) : Car → Option (Car ⊕ Nat × Car) := fun c139 => unc (Prod.fst c139) fun v140 l141 => asI .i64 v140 fun n142 => un0 l141 (bindO (lenS v21 fun k143 => ifB
 (decide (n142 < (↑k143 : Int))) (some ([AV.bool true], Prod.snd c139)) (letV (IntKind.wrap .i64 (n142 + 1)) fun n144 => lenS v22 fun k145 => some ([AV.bool (decide (n144 < (↑k145 : Int)))], Prod.snd c139))) fun c146 =>
 unc (Prod.fst c146) fun v147 l148 => asB v147 fun b149 => un0 l148 (ifB b149 (lenS v21 fun k150 => bindO (ifB (decide (n142 < (↑k150 : Int))) (letV (IntKind.wrap .i64 (n142 + 1)) fun n151 => sliceS 6 v21 (some n142)
 (some n151) none fun v152 => callS (orc vE) 19 [x0, v152, x2] (Prod.snd c146) fun v153 st154 _x => some ([v153], st154)) (some ([x2], Prod.snd c146))) fun c156 => unc (Prod.fst c156) fun v157 l158 => un0 l158 (letV
 (IntKind.wrap .i64 (n142 + 1)) fun n159 => lenS v22 fun k160 => bindO (ifB (decide (n159 < (↑k160 : Int))) (letV (IntKind.wrap .i64 (n142 + 1)) fun n161 => idxA 7 v22 n161 (Prod.snd c156) fun v162 _x => loadS 7 true
 v162 (Prod.snd c156) fun v164 _x => unA v164 fun l167 => unc l167 fun v168 l169 => asI .u8 v168 fun n170 => unc l169 fun v171 l172 => asI .i64 v171 fun n173 => unc l172 fun v174 l175 => asI .i64 v174 fun n176 => unc
 l175 fun v177 l178 => asB v177 fun b179 => unc l178 fun v180 l181 => asS v180 fun l182 => unc l181 fun v183 l184 => unc l184 fun v185 l186 => un0 l186 (callS (orc vE) 15 [x0, AV.agg [AV.int .u8 n170, AV.int .i64 n173,
 AV.int .i64 n176, AV.bool b179, AV.str l182, v183, v185], v157] (Prod.snd c156) fun _x st188 _x_1 => some ([], st188))) (some ([], Prod.snd c156))) fun c190 => un0 (Prod.fst c190) (letV (IntKind.wrap .i64 (n142 + 1))
 fun n191 => some (Sum.inl ([AV.int .i64 n191], Prod.snd c190))))) (some (Sum.inr (0, [], Prod.snd c146)))))
noncomputable def w15 : AV → AV → AV → St → Option (AV × St) := fun x0 x1 x2 st => unA x1 fun l1 => unc l1 fun v2 l3 => asI .u8 v2 fun n4 => unc l3 fun v5 l6 => asI .i64 v5 fun n7 => unc l6 fun v8 l9 => asI .i64 v8 fun
 n10 => unc l9 fun v11 l12 => asB v11 fun b13 => unc l12 fun v14 l15 => asS v14 fun l16 => unc l15 fun v17 l18 => unc l18 fun v19 l20 => un0 l20 (asOne v17 (asOne v19 (fit1 v17 fun v21 => fit1 v19 fun v22 => bindO (ifB
 (n4 == 11) (callS (orc vE) 19 [x0, v21, x2] st fun v23 st24 x25 => chk (apart (Fx.mk [] Did.kept) x25 && (apart (Fx.mk [] Did.kept) x25 && (apart (Fx.mk [] Did.kept) x25 && true))) (callS (orc vE) 20 [x0, v22, v23] st24
 fun _x st27 _x_1 => some ([], st27))) (bindO (ifB (n4 == 14) (callS (orc vE) 14 [x0, AV.bool b13, v21, x2] st fun v29 st30 _x => unT v29 fun l32 => nthS l32 0 fun v33 => unT v29 fun l34 => nthS l34 1 fun v35 => bindO
 (loopO (w15_L1 x0 v22 v33 v35) ([AV.int .i64 0], st30)) fun c99 => un0 (Prod.fst (Prod.snd c99)) (some ([], Prod.snd (Prod.snd c99)))) (bindO (ifB (n4 == 13) (bindO (loopO (w15_L2 x0 x2 v22) ([AV.int .i64 0], st)) fun
 c138 => un0 (Prod.fst (Prod.snd c138)) (bindO (loopO (w15_L3 x0 x2 v21 v22) ([AV.int .i64 0], Prod.snd (Prod.snd c138))) fun c192 => un0 (Prod.fst (Prod.snd c192)) (some ([], Prod.snd (Prod.snd c192))))) (bindO (ifB (n4
 == 1) (chk (notNil x0) (fldA 1 x0 fun v193 => loadS 1 false v193 st fun v194 l195 => callS (orc vE) 21 [x0, AV.str l16, x2] st fun v197 st198 x199 => asI .i64 v197 fun n200 => chk (apart (Fx.mk [] Did.kept) x199 &&
 (apart (Fx.mk [] Did.kept) x199 && (apart (Fx.mk [] Did.kept) x199 && (apart (Fx.mk [] Did.kept) x199 && (apart (Fx.mk l195 Did.kept) x199 && (apart (Fx.mk [] Did.kept) x199 && (apart (Fx.mk [] Did.kept) x199 && (apart
 (Fx.mk [] Did.kept) x199 && (apart (Fx.mk [] Did.kept) x199 && true))))))))) (appS 4 40 51 v194 [AV.agg [AV.str l16, AV.int .i64 n7, AV.int .i64 n10, AV.int .i64 n200]] st198 fun v202 st203 x204 => chk (apart (Fx.mk []
 Did.kept) x204 && true) (chk (notNil x0) (fldA 1 x0 fun v205 => asOne v202 (asOne v202 (storeS (orc vE) 1 v205 v202 [v202] st203 fun _x st207 _x_1 => some ([], st207)))))))) (some ([], st))) fun c209 => un0 (Prod.fst
 c209) (callS (orc vE) 20 [x0, v22, x2] (Prod.snd c209) fun _x st211 _x_1 => some ([], st211)))) fun c213 => un0 (Prod.fst c213) (some ([], Prod.snd c213)))) fun c214 => un0 (Prod.fst c214) (some ([], Prod.snd c214))))
 fun c215 => un0 (Prod.fst c215) (some (AV.tup [], Prod.snd c215)))))
theorem w15_eq (x0 x1 x2 : AV) (st : St) : wideS vE 15 [x0, x1, x2] st = w15 x0 x1 x2 st := by kernel_rfl
/-- (*rostrum/scope.maker).binders -/
noncomputable def w16_L1 (x1 : AV) (st6 : St) (k12 : Nat) : Car → Option (Car ⊕ Nat × Car) := fun c13 => unc (Prod.fst c13) fun v14 l15 => asI .i64 v14 fun n16 => un0 l15 (ifB (decide (n16 < (↑k12 : Int))) (idxA 6 x1
 n16 (Prod.snd c13) fun v17 _x => loadS 6 true v17 (Prod.snd c13) fun v19 _x => unA v19 fun l22 => unc l22 fun v23 l24 => asI .u8 v23 fun n25 => unc l24 fun v26 l27 => asI .u8 v26 fun n28 => unc l27 fun v29 l30 => asI
 .i64 v29 fun n31 => unc l30 fun v32 l33 => asI .i64 v32 fun n34 => unc l33 fun v35 l36 => asS v35 fun l37 => unc l36 fun v38 l39 => un0 l39 (letSt (St.add (Prod.snd c13) (VM.Obj.cells 66 [AV.int .u8 0, AV.int .u8 0,
 AV.int .i64 0, AV.int .i64 0, AV.str [], AV.nils])) fun st40 => asOne v38 (storeS (orc vE) 6 (AV.mp (St.h (Prod.snd c13)) 0) (AV.agg [AV.int .u8 n25, AV.int .u8 n28, AV.int .i64 n31, AV.int .i64 n34, AV.str l37, v38])
 [AV.int .u8 n25, AV.int .u8 n28, AV.int .i64 n31, AV.int .i64 n34, AV.str l37, v38] st40 fun _x st42 _x_1 => loadS 1 false (AV.mp (St.h st6) 0) st42 fun v44 _x => loadS 6 true (AV.mp (St.h (Prod.snd c13)) 0) st42 fun
 v46 _x => unA v46 fun l49 => unc l49 fun v50 l51 => asI .u8 v50 fun n52 => unc l51 fun v53 l54 => asI .u8 v53 fun n55 => unc l54 fun v56 l57 => asI .i64 v56 fun n58 => unc l57 fun v59 l60 => asI .i64 v59 fun n61 => unc
 l60 fun v62 l63 => asS v62 fun l64 => unc l63 fun v65 l66 => un0 l66 (callF (orc vE) (Sx.prim (sx vE 16)) v44 [AV.agg [AV.int .u8 n52, AV.int .u8 n55, AV.int .i64 n58, AV.int .i64 n61, AV.str l64, v65]] st42 fun _x st68
 _x_2 => letV (IntKind.wrap .i64 (n16 + 1)) fun n70 => some (Sum.inl ([AV.int .i64 n70], st68)))))) (some (Sum.inr (0, [], Prod.snd c13))))
noncomputable def w16 : AV → AV → AV → St → Option (AV × St) := fun x0 x1 x2 st => asOne x0 (asOne x0 (letSt (St.add st (VM.Obj.cells 54 [x0])) fun st0 => letSt (St.add st0 (VM.Obj.map [])) fun st1 => asOne x2 (asOne x2
 (letSt (St.add st1 (VM.Obj.cells 70 [AV.mm (St.h st0), x2])) fun st3 => letSt (St.add st3 (VM.Obj.cells 57 [AV.nilp])) fun st4 => storeS (orc vE) 1 (AV.mp (St.h st3) 0) (AV.mp (St.h st1) 0) [AV.mp (St.h st1) 0] st4 fun
 _x st6 _x_1 => letSt (St.add st6 (VM.Obj.cells 76 [AV.nilfn])) fun st8 => storeS (orc vE) 1 (AV.mp (St.h st6) 0) (AV.fn (Fn.func 22) [] [AV.mp (St.h st) 0, AV.mp (St.h st3) 0, AV.mp (St.h st6) 0]) [AV.fn (Fn.func 22) []
 [AV.mp (St.h st) 0, AV.mp (St.h st3) 0, AV.mp (St.h st6) 0]] st8 fun _x st10 _x_2 => lenS x1 fun k12 => bindO (loopO (w16_L1 x1 st6 k12) ([AV.int .i64 0], st10)) fun c71 => un0 (Prod.fst (Prod.snd c71)) (loadS 1 false
 (AV.mp (St.h st3) 0) (Prod.snd (Prod.snd c71)) fun v72 _x => some (oneOf [v72], Prod.snd (Prod.snd c71)))))))
theorem w16_eq (x0 x1 x2 : AV) (st : St) : wideS vE 16 [x0, x1, x2] st = w16 x0 x1 x2 st := by kernel_rfl
/-- (*rostrum/scope.maker).exprs -/
noncomputable def w18_L1 (x0 : AV) (x1 : AV) (x2 : AV) (k0 : Nat) : Car → Option (Car ⊕ Nat × Car) := fun c1 => unc (Prod.fst c1) fun v2 l3 => asI .i64 v2 fun n4 => un0 l3 (ifB (decide (n4 < (↑k0 : Int))) (idxA 7 x1 n4
 (Prod.snd c1) fun v5 _x => loadS 7 true v5 (Prod.snd c1) fun v7 _x => unA v7 fun l10 => unc l10 fun v11 l12 => asI .u8 v11 fun n13 => unc l12 fun v14 l15 => asI .i64 v14 fun n16 => unc l15 fun v17 l18 => asI .i64 v17
 fun n19 => unc l18 fun v20 l21 => asB v20 fun b22 => unc l21 fun v23 l24 => asS v23 fun l25 => unc l24 fun v26 l27 => unc l27 fun v28 l29 => un0 l29 (letSt (St.add (Prod.snd c1) (VM.Obj.cells 43 [AV.int .u8 0, AV.int
 .i64 0, AV.int .i64 0, AV.bool false, AV.str [], AV.nils, AV.nils])) fun st30 => asOne v26 (asOne v28 (storeS (orc vE) 7 (AV.mp (St.h (Prod.snd c1)) 0) (AV.agg [AV.int .u8 n13, AV.int .i64 n16, AV.int .i64 n19, AV.bool
 b22, AV.str l25, v26, v28]) [AV.int .u8 n13, AV.int .i64 n16, AV.int .i64 n19, AV.bool b22, AV.str l25, v26, v28] st30 fun _x st32 _x_1 => loadS 7 true (AV.mp (St.h (Prod.snd c1)) 0) st32 fun v34 _x => unA v34 fun l37
 => unc l37 fun v38 l39 => asI .u8 v38 fun n40 => unc l39 fun v41 l42 => asI .i64 v41 fun n43 => unc l42 fun v44 l45 => asI .i64 v44 fun n46 => unc l45 fun v47 l48 => asB v47 fun b49 => unc l48 fun v50 l51 => asS v50 fun
 l52 => unc l51 fun v53 l54 => unc l54 fun v55 l56 => un0 l56 (callS (orc vE) 13 [x0, AV.agg [AV.int .u8 n40, AV.int .i64 n43, AV.int .i64 n46, AV.bool b49, AV.str l52, v53, v55], x2] st32 fun _x st58 _x_2 => letV
 (IntKind.wrap .i64 (n4 + 1)) fun n60 => some (Sum.inl ([AV.int .i64 n60], st58))))))) (some (Sum.inr (0, [], Prod.snd c1))))
noncomputable def w18 : AV → AV → AV → St → Option (AV × St) := fun x0 x1 x2 st => lenS x1 fun k0 => bindO (loopO (w18_L1 x0 x1 x2 k0) ([AV.int .i64 0], st)) fun c61 => un0 (Prod.fst (Prod.snd c61)) (some (AV.tup [],
 Prod.snd (Prod.snd c61)))
theorem w18_eq (x0 x1 x2 : AV) (st : St) : wideS vE 18 [x0, x1, x2] st = w18 x0 x1 x2 st := by kernel_rfl
/-- (*rostrum/rostrumref15.Table).binders -/
noncomputable def w19_L1 (x0 : AV) (x1 : AV) (k3 : Nat) : Car → Option (Car ⊕ Nat × Car) := fun c4 => unc (Prod.fst c4) fun v5 l6 => unc l6 fun v7 l8 => asI .i64 v7 fun n9 => un0 l8 (lenS x1 fun k10 => ifB (decide (n9 <
 (↑k10 : Int))) (idxA 6 x1 n9 (Prod.snd c4) fun v11 _x => loadS 6 true v11 (Prod.snd c4) fun v13 _x => unA v13 fun l16 => unc l16 fun v17 l18 => asI .u8 v17 fun n19 => unc l18 fun v20 l21 => asI .u8 v20 fun n22 => unc
 l21 fun v23 l24 => asI .i64 v23 fun n25 => unc l24 fun v26 l27 => asI .i64 v26 fun n28 => unc l27 fun v29 l30 => asS v29 fun l31 => unc l30 fun v32 l33 => un0 l33 (callS (orc vE) 24 [x0, AV.agg [AV.int .u8 n19, AV.int
 .u8 n22, AV.int .i64 n25, AV.int .i64 n28, AV.str l31, v32], AV.int .i64 (↑k3 : Int), v5] (Prod.snd c4) fun v34 st35 _x => letV (IntKind.wrap .i64 (n9 + 1)) fun n37 => some (Sum.inl ([v34, AV.int .i64 n37], st35))))
 (some (Sum.inr (0, [v5], Prod.snd c4))))
noncomputable def w19 : AV → AV → AV → St → Option (AV × St) := fun x0 x1 x2 st => chk (notNil x0) (fldA 0 x0 fun v0 => loadS 1 false v0 st fun v1 _x => lenS v1 fun k3 => bindO (loopO (w19_L1 x0 x1 k3) ([x2, AV.int .i64
 0], st)) fun c38 => unc (Prod.fst (Prod.snd c38)) fun v39 l40 => un0 l40 (some (oneOf [v39], Prod.snd (Prod.snd c38))))
theorem w19_eq (x0 x1 x2 : AV) (st : St) : wideS vE 19 [x0, x1, x2] st = w19 x0 x1 x2 st := by kernel_rfl
/-- (*rostrum/rostrumref15.Table).exprs -/
noncomputable def w20_L1 (x0 : AV) (x1 : AV) (x2 : AV) : Car → Option (Car ⊕ Nat × Car) := fun c0 => unc (Prod.fst c0) fun v1 l2 => asI .i64 v1 fun n3 => un0 l2 (lenS x1 fun k4 => ifB (decide (n3 < (↑k4 : Int))) (idxA 7
 x1 n3 (Prod.snd c0) fun v5 _x => loadS 7 true v5 (Prod.snd c0) fun v7 _x => unA v7 fun l10 => unc l10 fun v11 l12 => asI .u8 v11 fun n13 => unc l12 fun v14 l15 => asI .i64 v14 fun n16 => unc l15 fun v17 l18 => asI .i64
 v17 fun n19 => unc l18 fun v20 l21 => asB v20 fun b22 => unc l21 fun v23 l24 => asS v23 fun l25 => unc l24 fun v26 l27 => unc l27 fun v28 l29 => un0 l29 (callS (orc vE) 15 [x0, AV.agg [AV.int .u8 n13, AV.int .i64 n16,
 AV.int .i64 n19, AV.bool b22, AV.str l25, v26, v28], x2] (Prod.snd c0) fun _x st31 _x_1 => letV (IntKind.wrap .i64 (n3 + 1)) fun n33 => some (Sum.inl ([AV.int .i64 n33], st31)))) (some (Sum.inr (0, [], Prod.snd c0))))
noncomputable def w20 : AV → AV → AV → St → Option (AV × St) := fun x0 x1 x2 st => bindO (loopO (w20_L1 x0 x1 x2) ([AV.int .i64 0], st)) fun c34 => un0 (Prod.fst (Prod.snd c34)) (some (AV.tup [], Prod.snd (Prod.snd
 c34)))
theorem w20_eq (x0 x1 x2 : AV) (st : St) : wideS vE 20 [x0, x1, x2] st = w20 x0 x1 x2 st := by kernel_rfl
/-- (*rostrum/scope.maker).binders$1 -/
noncomputable def w22_L1 (x3 : AV) (v19 : AV) (k85 : Nat) : Car → Option (Car ⊕ Nat × Car) := fun c86 => unc (Prod.fst c86) fun v87 l88 => asI .i64 v87 fun n89 => un0 l88 (ifB (decide (n89 < (↑k85 : Int))) (idxA 6 v19
 n89 (Prod.snd c86) fun v90 _x => loadS 6 true v90 (Prod.snd c86) fun v92 _x => unA v92 fun l95 => unc l95 fun v96 l97 => asI .u8 v96 fun n98 => unc l97 fun v99 l100 => asI .u8 v99 fun n101 => unc l100 fun v102 l103 =>
 asI .i64 v102 fun n104 => unc l103 fun v105 l106 => asI .i64 v105 fun n107 => unc l106 fun v108 l109 => asS v108 fun l110 => unc l109 fun v111 l112 => un0 l112 (letSt (St.add (Prod.snd c86) (VM.Obj.cells 66 [AV.int .u8
 0, AV.int .u8 0, AV.int .i64 0, AV.int .i64 0, AV.str [], AV.nils])) fun st113 => asOne v111 (storeS (orc vE) 6 (AV.mp (St.h (Prod.snd c86)) 0) (AV.agg [AV.int .u8 n98, AV.int .u8 n101, AV.int .i64 n104, AV.int .i64
 n107, AV.str l110, v111]) [AV.int .u8 n98, AV.int .u8 n101, AV.int .i64 n104, AV.int .i64 n107, AV.str l110, v111] st113 fun _x st115 _x_1 => loadS 1 false x3 st115 fun v117 _x => loadS 6 true (AV.mp (St.h (Prod.snd
 c86)) 0) st115 fun v119 _x => unA v119 fun l122 => unc l122 fun v123 l124 => asI .u8 v123 fun n125 => unc l124 fun v126 l127 => asI .u8 v126 fun n128 => unc l127 fun v129 l130 => asI .i64 v129 fun n131 => unc l130 fun
 v132 l133 => asI .i64 v132 fun n134 => unc l133 fun v135 l136 => asS v135 fun l137 => unc l136 fun v138 l139 => un0 l139 (callF (orc vE) (Sx.prim (sx vE 22)) v117 [AV.agg [AV.int .u8 n125, AV.int .u8 n128, AV.int .i64
 n131, AV.int .i64 n134, AV.str l137, v138]] st115 fun _x st141 _x_2 => letV (IntKind.wrap .i64 (n89 + 1)) fun n143 => some (Sum.inl ([AV.int .i64 n143], st141)))))) (some (Sum.inr (0, [], Prod.snd c86))))
noncomputable def w22 : AV → AV → AV → AV → St → Option (AV × St) := fun x0 x1 x2 x3 st => unA x0 fun l1 => unc l1 fun v2 l3 => asI .u8 v2 fun n4 => unc l3 fun v5 l6 => asI .u8 v5 fun _x => unc l6 fun v8 l9 => asI .i64
 v8 fun n10 => unc l9 fun v11 l12 => asI .i64 v11 fun n13 => unc l12 fun v14 l15 => asS v14 fun l16 => unc l15 fun v17 l18 => un0 l18 (asOne v17 (fit1 v17 fun v19 => bindO (ifB (n4 == 15) (loadS 1 false x1 st fun v20 _x
 => chk (notNil v20) (fldA 0 v20 fun v22 => fldA 0 v22 fun v23 => loadS 1 false v23 st fun v24 _x => lenS v24 fun k26 => loadS 1 false x2 st fun v27 _x => chk (notNil v27) (fldA 0 v27 fun v29 => loadS 1 false v29 st fun
 v30 _x => planS (orc vE) (lookupP (Env.T vE) 68 v30 (AV.str l16) true) st fun v32 st33 _x => unT v32 fun l35 => nthS l35 0 fun v36 => asI .i64 v36 fun _x => unT v32 fun l38 => nthS l38 1 fun v39 => asB v39 fun b40 =>
 bindO (ifB b40 (loadS 1 false x1 st33 fun v41 l42 => loadS 1 false x1 st33 fun v43 _x => chk (notNil v43) (fldA 0 v43 fun v45 => fldA 2 v45 fun v46 => loadS 1 false v46 st33 fun v47 _x => appS 1 8 3 v47 [AV.int .i64
 (↑k26 : Int)] st33 fun v49 st50 x51 => chk (apart (Fx.mk l42 Did.kept) x51 && true) (chk (notNil v41) (fldA 0 v41 fun v52 => fldA 2 v52 fun v53 => asOne v49 (asOne v49 (storeS (orc vE) 1 v53 v49 [v49] st50 fun _x st55
 _x_1 => some ([], st55))))))) (some ([], st33))) fun c57 => un0 (Prod.fst c57) (loadS 1 false x2 (Prod.snd c57) fun v58 _x => chk (notNil v58) (fldA 0 v58 fun v60 => loadS 1 false v60 (Prod.snd c57) fun v61 _x => planS
 (orc vE) (mapUpdateP (Env.T vE) 68 v61 (AV.str l16) (AV.int .i64 (↑k26 : Int))) (Prod.snd c57) fun _x st64 _x_1 => loadS 1 false x1 st64 fun v66 l67 => loadS 1 false x1 st64 fun v68 _x => chk (notNil v68) (fldA 0 v68
 fun v70 => fldA 0 v70 fun v71 => loadS 1 false v71 st64 fun v72 _x => appS 3 32 52 v72 [AV.agg [AV.str l16, AV.int .i64 n10, AV.int .i64 n13]] st64 fun v76 st77 x78 => chk (apart (Fx.mk l67 Did.kept) x78 && true) (chk
 (notNil v66) (fldA 0 v66 fun v79 => fldA 0 v79 fun v80 => asOne v76 (asOne v76 (storeS (orc vE) 1 v80 v76 [v76] st77 fun _x st82 _x_2 => some ([], st82))))))))))) (some ([], st))) fun c84 => un0 (Prod.fst c84) (lenS v19
 fun k85 => bindO (loopO (w22_L1 x3 v19 k85) ([AV.int .i64 0], Prod.snd c84)) fun c144 => un0 (Prod.fst (Prod.snd c144)) (some (AV.tup [], Prod.snd (Prod.snd c144))))))
theorem w22_eq (x0 x1 x2 x3 : AV) (st : St) : wideS vE 22 [x0, x1, x2, x3] st = w22 x0 x1 x2 x3 st := by kernel_rfl
/-- slices.Contains[[]string,string] -/
noncomputable def g23 : AV → AV → Option AV := fun x0 x1 => asS x1 fun l0 => callS (orc vE) 25 [x0, AV.str l0] (St.mk 0 0 Tr.leaf) fun v1 _x _x_1 => asI .i64 v1 fun n4 => some (AV.bool (decide (n4 ≥ 0)))
theorem g23_eq (x0 x1 : AV) : bareS vE 23 [x0, x1] = g23 x0 x1 := by kernel_rfl
/-- (*rostrum/rostrumref15.Table).group -/
noncomputable def w24_L1 (x0 : AV) (l16 : List UInt8) : Car → Option (Car ⊕ Nat × Car) := fun c21 => unc (Prod.fst c21) fun v22 l23 => asI .i64 v22 fun n24 => un0 l23 (chk (notNil x0) (fldA 0 x0 fun v25 => loadS 1 false
 v25 (Prod.snd c21) fun v26 _x => lenS v26 fun k28 => ifB (decide (n24 < (↑k28 : Int))) (chk (notNil x0) (fldA 0 x0 fun v29 => loadS 1 false v29 (Prod.snd c21) fun v30 _x => idxA 3 v30 n24 (Prod.snd c21) fun v32 _x =>
 fldA 0 v32 fun v34 => loadS 1 false v34 (Prod.snd c21) fun v35 _x => asS v35 fun l37 => ifB (l37 == l16) (chk (notNil x0) (fldA 2 x0 fun v38 => loadS 1 false v38 (Prod.snd c21) fun v39 _x => chk (notNil x0) (fldA 0 x0
 fun v41 => loadS 1 false v41 (Prod.snd c21) fun v42 _x => lenS v42 fun k44 => appS 1 8 3 v39 [AV.int .i64 (↑k44 : Int)] (Prod.snd c21) fun v45 st46 x47 => chk (apart (Fx.mk [] Did.kept) x47 && true) (chk (notNil x0)
 (fldA 2 x0 fun v48 => asOne v45 (asOne v45 (storeS (orc vE) 1 v48 v45 [v45] st46 fun _x st50 _x_1 => some (Sum.inr (0, [], st50))))))))) (letV (IntKind.wrap .i64 (n24 + 1)) fun n52 => some (Sum.inl ([AV.int .i64 n52],
 Prod.snd c21))))) (some (Sum.inr (0, [], Prod.snd c21)))))
noncomputable def w24_L2 (x0 : AV) (n19 : Int) (v20 : AV) : Car → Option (Car ⊕ Nat × Car) := fun c81 => unc (Prod.fst c81) fun v82 l83 => unc l83 fun v84 l85 => asI .i64 v84 fun n86 => un0 l85 (lenS v20 fun k87 => ifB
 (decide (n86 < (↑k87 : Int))) (idxA 6 v20 n86 (Prod.snd c81) fun v88 _x => loadS 6 true v88 (Prod.snd c81) fun v90 _x => unA v90 fun l93 => unc l93 fun v94 l95 => asI .u8 v94 fun n96 => unc l95 fun v97 l98 => asI .u8
 v97 fun n99 => unc l98 fun v100 l101 => asI .i64 v100 fun n102 => unc l101 fun v103 l104 => asI .i64 v103 fun n105 => unc l104 fun v106 l107 => asS v106 fun l108 => unc l107 fun v109 l110 => un0 l110 (callS (orc vE) 24
 [x0, AV.agg [AV.int .u8 n96, AV.int .u8 n99, AV.int .i64 n102, AV.int .i64 n105, AV.str l108, v109], AV.int .i64 n19, v82] (Prod.snd c81) fun v111 st112 _x => letV (IntKind.wrap .i64 (n86 + 1)) fun n114 => some (Sum.inl
 ([v111, AV.int .i64 n114], st112)))) (some (Sum.inr (0, [v82], Prod.snd c81))))
noncomputable def w24 : AV → AV → AV → AV → St → Option (AV × St) := fun x0 x1 x2 x3 st => unA x1 fun l1 => unc l1 fun v2 l3 => asI .u8 v2 fun n4 => unc l3 fun v5 l6 => asI .u8 v5 fun _x => unc l6 fun v8 l9 => asI .i64
 v8 fun n10 => unc l9 fun v11 l12 => asI .i64 v11 fun n13 => unc l12 fun v14 l15 => asS v14 fun l16 => unc l15 fun v17 l18 => un0 l18 (asI .i64 x2 fun n19 => asOne v17 (fit1 v17 fun v20 => bindO (ifB (n4 == 15) (bindO
 (loopO (w24_L1 x0 l16) ([AV.int .i64 n19], st)) fun c53 => un0 (Prod.fst (Prod.snd c53)) (elemsS x3 fun l54 => fitTs false l54 fun l55 => chk (sizesOk 1 l55) (appS 1 8 3 (AV.sl 1 [] Perm.shut) l55 (Prod.snd (Prod.snd
 c53)) fun v56 st57 x58 => chk (apart x58 (Fx.mk [] Did.kept) && true) (chk (notNil x0) (chk (apart x58 (Fx.mk [] Did.kept) && true) (fldA 0 x0 fun v59 => chk (apart x58 (Fx.mk [] Did.kept) && true) (loadS 1 false v59
 st57 fun v60 l61 => chk (apart x58 (Fx.mk l61 Did.kept) && true) (lenS v60 fun k62 => chk (apart x58 (Fx.mk [] Did.kept) && true) (chk (apart x58 (Fx.mk [] Did.kept) && true) (appS 1 8 3 v56 [AV.int .i64 (↑k62 : Int)]
 st57 fun v63 st64 _x => chk (notNil x0) (fldA 0 x0 fun v66 => loadS 1 false v66 st64 fun v67 _x => appS 3 32 49 v67 [AV.agg [AV.str l16, AV.int .i64 n10, AV.int .i64 n13]] st64 fun v71 st72 x73 => chk (apart (Fx.mk []
 Did.kept) x73 && true) (chk (notNil x0) (fldA 0 x0 fun v74 => asOne v71 (asOne v71 (storeS (orc vE) 1 v74 v71 [v71] st72 fun _x st76 _x_1 => some ([v63], st76)))))))))))))))) (some ([x3], st))) fun c78 => unc (Prod.fst
 c78) fun v79 l80 => un0 l80 (bindO (loopO (w24_L2 x0 n19 v20) ([v79, AV.int .i64 0], Prod.snd c78)) fun c115 => unc (Prod.fst (Prod.snd c115)) fun v116 l117 => un0 l117 (some (oneOf [v116], Prod.snd (Prod.snd c115))))))
theorem w24_eq (x0 x1 x2 x3 : AV) (st : St) : wideS vE 24 [x0, x1, x2, x3] st = w24 x0 x1 x2 x3 st := by kernel_rfl
/-- slices.Index[[]string,string] -/
noncomputable def g25_L1 (x0 : AV) (l0 : List UInt8) (k1 : Nat) : Car → Option (Car ⊕ Nat × Car) := fun c2 => unc (Prod.fst c2) fun v3 l4 => asI .i64 v3 fun n5 => unc l4 fun v6 l7 => asI .i64 v6 fun n8 => un0 l7 (ifB
 (decide (n8 < (↑k1 : Int))) (idxA 1 x0 n8 (Prod.snd c2) fun v9 _x => loadS 1 false v9 (Prod.snd c2) fun v11 _x => asS v11 fun l13 => ifB (l0 == l13) (some (Sum.inr (1, [AV.int .i64 n8], Prod.snd c2))) (letV
 (IntKind.wrap .i64 (n8 + 1)) fun n14 => some (Sum.inl ([AV.int .i64 n5, AV.int .i64 n14], Prod.snd c2)))) (some (Sum.inr (0, [AV.int .i64 n5], Prod.snd c2))))
noncomputable def g25 : AV → AV → Option AV := fun x0 x1 => asS x1 fun l0 => lenS x0 fun k1 => bindO (loopO (g25_L1 x0 l0 k1) ([AV.int .i64 0, AV.int .i64 0], St.mk 0 0 Tr.leaf)) fun c15 => unc (Prod.fst (Prod.snd c15))
 fun v16 l17 => asI .i64 v16 fun n18 => un0 l17 (sel2 (Prod.fst c15) (some (AV.int .i64 (-1))) fun _x => some (AV.int .i64 n18))
theorem g25_eq (x0 x1 : AV) : bareS vE 25 [x0, x1] = g25 x0 x1 := by kernel_rfl
/-- (*rostrum/rostrumref15.Table).means -/
noncomputable def l21_L1 (x0 : AV) (x2 : AV) (l0 : List UInt8) : Car → Option (Car ⊕ Nat × Car) := fun c3 => unc (Prod.fst c3) fun v4 l5 => asI .i64 v4 fun n6 => unc l5 fun v7 l8 => asI .i64 v7 fun n9 => un0 l8 (ifB
 (decide (n9 ≥ 0)) (chk (notNil x0) (fldA 0 x0 fun v10 => loadS 1 false v10 (Prod.snd c3) fun v11 _x => idxA 1 x2 n9 (Prod.snd c3) fun v13 _x => loadS 1 false v13 (Prod.snd c3) fun v15 _x => asI .i64 v15 fun n17 => idxA
 3 v11 n17 (Prod.snd c3) fun v18 _x => fldA 0 v18 fun v20 => loadS 1 false v20 (Prod.snd c3) fun v21 _x => asS v21 fun l23 => ifB (l23 == l0) (idxA 1 x2 n9 (Prod.snd c3) fun v24 _x => loadS 1 false v24 (Prod.snd c3) fun
 v26 _x => asI .i64 v26 fun n28 => some (Sum.inr (1, [AV.int .i64 n28], Prod.snd c3))) (letV (IntKind.wrap .i64 (n9 - 1)) fun n29 => some (Sum.inl ([AV.int .i64 n6, AV.int .i64 n29], Prod.snd c3))))) (some (Sum.inr (0,
 [AV.int .i64 n6], Prod.snd c3))))
noncomputable def l21 : AV → AV → AV → St → Option AV := fun x0 x1 x2 st => asS x1 fun l0 => lenS x2 fun k1 => letV (IntKind.wrap .i64 ((↑k1 : Int) - 1)) fun n2 => bindO (loopO (l21_L1 x0 x2 l0) ([AV.int .i64 0, AV.int
 .i64 n2], St.mk (St.h st) (St.h st) (St.objs st))) fun c30 => unc (Prod.fst (Prod.snd c30)) fun v31 l32 => asI .i64 v31 fun n33 => un0 l32 (sel2 (Prod.fst c30) (bindO (ifB (l0 == [110, 111, 116]) (some ([AV.bool true],
 Prod.snd (Prod.snd c30))) (ifB (l0 == [102, 115, 116]) (some ([AV.bool true], Prod.snd (Prod.snd c30))) (ifB (l0 == [115, 110, 100]) (some ([AV.bool true], Prod.snd (Prod.snd c30))) (some ([AV.bool (l0 == [102, 108,
 111, 97, 116])], Prod.snd (Prod.snd c30)))))) fun c34 => unc (Prod.fst c34) fun v35 l36 => asB v35 fun b37 => un0 l36 (ifB b37 (some (AV.int .i64 (-2))) (some (AV.int .i64 (-1))))) fun _x => some (AV.int .i64 n33))
theorem l21_eq (x0 x1 x2 : AV) (st : St) : lookS vE 21 [x0, x1, x2] st = l21 x0 x1 x2 st := by kernel_rfl
/-- (*rostrum/scope.frame).find -/
noncomputable def l17_L1 (l0 : List UInt8) : Car → Option (Car ⊕ Nat × Car) := fun c1 => unc (Prod.fst c1) fun v2 l3 => asI .i64 v2 fun n4 => unc l3 fun v5 l6 => un0 l6 (nilS (U.ptr 70) v5 AV.nilp fun b7 => ifB (!b7)
 (chk (notNil v5) (fldA 0 v5 fun v8 => loadS 1 false v8 (Prod.snd c1) fun v9 _x => planS (orc vE) (lookupP (Env.T vE) 68 v9 (AV.str l0) true) (Prod.snd c1) fun v11 st12 _x => unT v11 fun l14 => nthS l14 0 fun v15 => asI
 .i64 v15 fun n16 => unT v11 fun l17 => nthS l17 1 fun v18 => asB v18 fun b19 => ifB b19 (some (Sum.inr (1, [AV.int .i64 n16], st12))) (chk (notNil v5) (fldA 1 v5 fun v20 => loadS 1 false v20 st12 fun v21 _x => some
 (Sum.inl ([AV.int .i64 n4, v21], st12)))))) (some (Sum.inr (0, [AV.int .i64 n4], Prod.snd c1))))
noncomputable def l17 : AV → AV → St → Option AV := fun x0 x1 st => asS x1 fun l0 => bindO (loopO (l17_L1 l0) ([AV.int .i64 0, x0], St.mk (St.h st) (St.h st) (St.objs st))) fun c23 => unc (Prod.fst (Prod.snd c23)) fun
 v24 l25 => asI .i64 v24 fun n26 => un0 l25 (sel2 (Prod.fst c23) (callS (orc vE) 23 [AV.sl 1 [AV.str [110, 111, 116], AV.str [102, 115, 116], AV.str [115, 110, 100], AV.str [102, 108, 111, 97, 116]] Perm.shut, AV.str l0]
 (Prod.snd (Prod.snd c23)) fun v27 _x _x_1 => asB v27 fun b30 => ifB b30 (some (AV.int .i64 (-2))) (some (AV.int .i64 (-1)))) fun _x => some (AV.int .i64 n26))
theorem l17_eq (x0 x1 : AV) (st : St) : lookS vE 17 [x0, x1] st = l17 x0 x1 st := by kernel_rfl
/-- (*rostrum/scope.frame).find -/
noncomputable def g17_L1 (l0 : List UInt8) : Car → Option (Car ⊕ Nat × Car) := fun c1 => unc (Prod.fst c1) fun v2 l3 => asI .i64 v2 fun n4 => unc l3 fun v5 l6 => un0 l6 (nilS (U.ptr 70) v5 AV.nilp fun b7 => ifB (!b7)
 (chk (notNil v5) (fldA 0 v5 fun v8 => loadS 1 false v8 (Prod.snd c1) fun v9 _x => planS (orc vE) (lookupP (Env.T vE) 68 v9 (AV.str l0) true) (Prod.snd c1) fun v11 st12 _x => unT v11 fun l14 => nthS l14 0 fun v15 => asI
 .i64 v15 fun n16 => unT v11 fun l17 => nthS l17 1 fun v18 => asB v18 fun b19 => ifB b19 (some (Sum.inr (1, [AV.int .i64 n16], st12))) (chk (notNil v5) (fldA 1 v5 fun v20 => loadS 1 false v20 st12 fun v21 _x => some
 (Sum.inl ([AV.int .i64 n4, v21], st12)))))) (some (Sum.inr (0, [AV.int .i64 n4], Prod.snd c1))))
noncomputable def g17 : AV → AV → Option AV := fun x0 x1 => asS x1 fun l0 => bindO (loopO (g17_L1 l0) ([AV.int .i64 0, x0], St.mk 0 0 Tr.leaf)) fun c23 => unc (Prod.fst (Prod.snd c23)) fun v24 l25 => asI .i64 v24 fun
 n26 => un0 l25 (sel2 (Prod.fst c23) (callS (orc vE) 23 [AV.sl 1 [AV.str [110, 111, 116], AV.str [102, 115, 116], AV.str [115, 110, 100], AV.str [102, 108, 111, 97, 116]] Perm.shut, AV.str l0] (Prod.snd (Prod.snd c23))
 fun v27 _x _x_1 => asB v27 fun b30 => ifB b30 (some (AV.int .i64 (-2))) (some (AV.int .i64 (-1)))) fun _x => some (AV.int .i64 n26))
theorem g17_eq (x0 x1 : AV) : bareS vE 17 [x0, x1] = g17 x0 x1 := by kernel_rfl
end Go.Proofs.Ytoopmjhdgkcleaa.Vm
/- Patterns, expressions, declarations, each with its value; how large they are is a number. -/
set_option maxRecDepth 100000
set_option linter.unusedSimpArgs false
namespace Go.Proofs.Ytoopmjhdgkcleaa.Vm
open Go Go.VM Go.Proofs Go.Scope

mutual
def IsP : Pat → AV → Prop
  | .mk k lit sp nm ps, v => ∃ x es, v = .agg [.int .u8 (k : Int), .int .u8 (lit : Int), .int .i64 sp.1, .int .i64 sp.2, .str nm, x] ∧ IsSl 6 x es ∧ IsPs ps es
def IsPs : List Pat → List AV → Prop
  | [], es => es = []
  | p :: ps, es => ∃ v vs, es = v :: vs ∧ IsP p v ∧ IsPs ps vs
end
mutual
def IsE : Exr → AV → Prop
  | .mk k sp rc nm ps ls, v => ∃ x es y fs, v = .agg [.int .u8 (k : Int), .int .i64 sp.1, .int .i64 sp.2, .bool rc, .str nm, x, y] ∧ IsSl 6 x es ∧ IsPs ps es ∧ IsSl 7 y fs ∧ IsEs ls fs ∧ ps.length ≤ 100000000
def IsEs : List Exr → List AV → Prop
  | [], es => es = []
  | e :: l, es => ∃ v vs, es = v :: vs ∧ IsE e v ∧ IsEs l vs
end
def IsD (d : Bd) (v : AV) : Prop := ∃ x es be, v = .agg ([.int .i64 d.sp.1, .int .i64 d.sp.2, .bool d.rc, x] ++ be) ∧ IsSl 6 x es ∧ IsPs d.ps es ∧ IsE d.body (.agg be)
def IsDs : List Bd → List AV → Prop
  | [], es => es = []
  | d :: l, es => ∃ v vs, es = v :: vs ∧ IsD d v ∧ IsDs l vs
section
variable {p : Pat} {ps : List Pat} {e : Exr} {l : List Exr} {es : List AV} {v : AV}
theorem IsPs.nil : IsPs [] [] := by simp only [IsPs]
theorem IsPs.cons {vs : List AV} (h : IsP p v) (k : IsPs ps vs) : IsPs (p :: ps) (v :: vs) := by simp only [IsPs]; exact ⟨v, vs, rfl, h, k⟩
theorem IsEs.nil : IsEs [] [] := by simp only [IsEs]
theorem IsEs.cons {vs : List AV} (h : IsE e v) (k : IsEs l vs) : IsEs (e :: l) (v :: vs) := by simp only [IsEs]; exact ⟨v, vs, rfl, h, k⟩
theorem IsPs.len : ∀ {ps : List Pat} {es : List AV}, IsPs ps es → es.length = ps.length
  | [], _, h => by simp only [IsPs] at h; rw [h]; rfl
  | p :: ps, _, h => by
    simp only [IsPs] at h
    obtain ⟨v, vs, rfl, _, h⟩ := h
    simp [IsPs.len h]
theorem IsEs.len : ∀ {l : List Exr} {es : List AV}, IsEs l es → es.length = l.length
  | [], _, h => by simp only [IsEs] at h; rw [h]; rfl
  | e :: l, _, h => by
    simp only [IsEs] at h
    obtain ⟨v, vs, rfl, _, h⟩ := h
    simp [IsEs.len h]
theorem IsDs.len : ∀ {l : List Bd} {es : List AV}, IsDs l es → es.length = l.length
  | [], _, h => by simp only [IsDs] at h; rw [h]; rfl
  | e :: l, _, h => by
    simp only [IsDs] at h
    obtain ⟨v, vs, rfl, _, h⟩ := h
    simp [IsDs.len h]
theorem IsPs.drop : ∀ {ps : List Pat} {es : List AV} (i : Nat), IsPs ps es → IsPs (ps.drop i) (es.drop i)
  | ps, es, 0, h => by simpa using h
  | [], _, i + 1, h => by simp only [IsPs] at h; subst h; simp [IsPs]
  | p :: ps, _, i + 1, h => by
    simp only [IsPs] at h
    obtain ⟨v, vs, rfl, _, h⟩ := h
    simpa using IsPs.drop i h
theorem IsEs.drop : ∀ {l : List Exr} {es : List AV} (i : Nat), IsEs l es → IsEs (l.drop i) (es.drop i)
  | l, es, 0, h => by simpa using h
  | [], _, i + 1, h => by simp only [IsEs] at h; subst h; simp [IsEs]
  | e :: l, _, i + 1, h => by
    simp only [IsEs] at h
    obtain ⟨v, vs, rfl, _, h⟩ := h
    simpa using IsEs.drop i h
theorem IsDs.drop : ∀ {l : List Bd} {es : List AV} (i : Nat), IsDs l es → IsDs (l.drop i) (es.drop i)
  | l, es, 0, h => by simpa using h
  | [], _, i + 1, h => by simp only [IsDs] at h; subst h; simp [IsDs]
  | e :: l, _, i + 1, h => by
    simp only [IsDs] at h
    obtain ⟨v, vs, rfl, _, h⟩ := h
    simpa using IsDs.drop i h
theorem IsPs.take : ∀ {ps : List Pat} {es : List AV} (i : Nat), IsPs ps es → IsPs (ps.take i) (es.take i)
  | ps, es, 0, h => by simp [IsPs]
  | [], _, i + 1, h => by simp only [IsPs] at h; subst h; simp [IsPs]
  | p :: ps, _, i + 1, h => by
    simp only [IsPs] at h
    obtain ⟨v, vs, rfl, hp, h⟩ := h
    simp only [List.take_succ_cons]
    exact IsPs.cons hp (IsPs.take i h)
theorem IsEs.take : ∀ {l : List Exr} {es : List AV} (i : Nat), IsEs l es → IsEs (l.take i) (es.take i)
  | ps, es, 0, h => by simp [IsEs]
  | [], _, i + 1, h => by simp only [IsEs] at h; subst h; simp [IsEs]
  | p :: ps, _, i + 1, h => by
    simp only [IsEs] at h
    obtain ⟨v, vs, rfl, hp, h⟩ := h
    simp only [List.take_succ_cons]
    exact IsEs.cons hp (IsEs.take i h)
/-- The element there. -/
theorem IsPs.get {r : List Pat} {i : Nat} (h : IsPs ps es) (hd : ps.drop i = p :: r) : ∃ v, es[i]? = some v ∧ IsP p v ∧ i < ps.length := by
  have h1 := IsPs.drop i h
  rw [hd] at h1
  simp only [IsPs] at h1
  obtain ⟨v, vs, he, hp, _⟩ := h1
  exact ⟨v, (drop_cons he).1, hp, (drop_cons hd).2.2⟩
theorem IsEs.get {r : List Exr} {i : Nat} (h : IsEs l es) (hd : l.drop i = e :: r) : ∃ v, es[i]? = some v ∧ IsE e v ∧ i < l.length := by
  have h1 := IsEs.drop i h
  rw [hd] at h1
  simp only [IsEs] at h1
  obtain ⟨v, vs, he, hp, _⟩ := h1
  exact ⟨v, (drop_cons he).1, hp, (drop_cons hd).2.2⟩
theorem IsDs.get {l r : List Bd} {d : Bd} {i : Nat} (h : IsDs l es) (hd : l.drop i = d :: r) : ∃ v, es[i]? = some v ∧ IsD d v ∧ i < l.length := by
  have h1 := IsDs.drop i h
  rw [hd] at h1
  simp only [IsDs] at h1
  obtain ⟨v, vs, he, hp, _⟩ := h1
  exact ⟨v, (drop_cons he).1, hp, (drop_cons hd).2.2⟩
theorem IsP.opn {k lit : Nat} {sp : Sp} {nm : Tx} (h : IsP (.mk k lit sp nm ps) v) : ∃ x es, v = .agg [.int .u8 (k : Int), .int .u8 (lit : Int), .int .i64 sp.1, .int .i64 sp.2, .str nm, x] ∧ IsSl 6 x es ∧ IsPs ps es := by
  simpa only [IsP] using h
theorem IsE.opn {k : Nat} {sp : Sp} {rc : Bool} {nm : Tx} {ls : List Exr} (h : IsE (.mk k sp rc nm ps ls) v) : ∃ x es y fs, v = .agg [.int .u8 (k : Int), .int .i64 sp.1, .int .i64 sp.2, .bool rc, .str nm, x, y] ∧ IsSl 6 x es ∧ IsPs ps es ∧ IsSl 7 y fs ∧ IsEs ls fs := by
  simp only [IsE] at h
  obtain ⟨x, es, y, fs, h0, h1, h2, h3, h4, _⟩ := h
  exact ⟨x, es, y, fs, h0, h1, h2, h3, h4⟩
theorem IsE.few {k : Nat} {sp : Sp} {rc : Bool} {nm : Tx} {ls : List Exr} (h : IsE (.mk k sp rc nm ps ls) v) : ps.length ≤ 100000000 := by
  simp only [IsE] at h
  obtain ⟨x, es, y, fs, _, _, _, _, _, h5⟩ := h
  exact h5
end
/-- What a loop's turn comes to. -/
def Lp {σ β : Type} (I : σ → Prop) (Q : β → Prop) : Sum σ β → Prop
  | .inl s => I s
  | .inr b => Q b
theorem Goes.inl {σ β : Type} {I : σ → Prop} {Q : β → Prop} {s : σ} (h : I s) : Goes (some (Sum.inl s : Sum σ β)) (Lp I Q) := ⟨_, rfl, h⟩
theorem Goes.inr {σ β : Type} {I : σ → Prop} {Q : β → Prop} {b : β} (h : Q b) : Goes (some (Sum.inr b : Sum σ β)) (Lp I Q) := ⟨_, rfl, h⟩
/-- A loop that goes up. -/
theorem Goes.upto {σ β : Type} {Q : β → Prop} {F : σ → Option (Sum σ β)} {n : Nat} {I : Nat → σ → Prop} (step : ∀ i s, i < n → I i s → Goes (F s) (Lp (I (i + 1)) Q))
    (last : ∀ s, I n s → Goes (F s) (Lp (fun _ => False) Q)) : ∀ (k i : Nat) (s : σ), i + k = n → I i s → Goes (loopO F s) Q := by
  intro k
  induction k with
  | zero =>
    intro i s hi h
    obtain ⟨r, e, hr⟩ := last s (by rw [← show i = n by omega]; exact h)
    cases r with
    | inl s' => exact hr.elim
    | inr b => exact ⟨b, loopO_inr e, hr⟩
  | succ k ih =>
    intro i s hi h
    obtain ⟨r, e, hr⟩ := step i s (by omega) h
    cases r with
    | inl s' => rw [loopO_inl e]; exact ih (i + 1) s' (by omega) hr
    | inr b => exact ⟨b, loopO_inr e, hr⟩
@[simp] theorem notNil_mp (i o : Nat) : notNil (.mp i o) = true := id rfl
/-! A slice, whatever its end. -/
def IsW (z : Nat) (x : AV) (es : List AV) : Prop := IsSl z x es ∨ (es.length ≤ 9223372036854775807 ∧ ∃ k, x = .sl z es (.own k))
section
variable {β : Type} {z : Nat} {x : AV} {es : List AV}
theorem IsW.len (h : IsW z x es) (K : Nat → Option β) : lenS x K = K es.length := by
  rcases h with h | ⟨_, k, rfl⟩
  · exact h.len K
  · rfl
theorem IsW.elems (h : IsW z x es) (K : List AV → Option β) : elemsS x K = K es := by
  rcases h with h | ⟨_, k, rfl⟩
  · exact h.elems K
  · rfl
theorem IsW.one (h : IsW z x es) : VM.one x = true := by
  rcases h with h | ⟨_, k, rfl⟩
  · exact h.one
  · rfl
theorem IsW.asOne (h : IsW z x es) (K : Option β) : asOne x K = K := asOne_of h.one K
theorem IsW.idx (h : IsW z x es) {k : Nat} {v : AV} (hk : es[k]? = some v) (st : St) (K : AV → List Nat → Option β) : idxA z x (k : Int) st K = K (.ip v.cells) [] := by
  rcases h with h | ⟨_, j, rfl⟩
  · exact h.idx hk st K
  · have hlt := (List.getElem?_eq_some_iff.1 hk).1
    have hz : z.beq z = true := Nat.beq_refl z
    have hi : insideO ((k : Nat) : Int) es.length = some k := by
      show (match k.blt es.length with | true => some k | false => none) = _
      rw [blt_true.2 hlt]
    simp only [idxA, idxO, hz, hi, nthO_of hk, bindO_ok]
theorem IsW.le (h : IsW z x es) : es.length ≤ 9223372036854775807 := by
  rcases h with h | h
  · exact h.1
  · exact h.1
theorem _root_.Go.VM.Own.isW {st : St} {e : TypeId} (h : Own st z e x es) : IsW z x es := by
  rcases h.2.2 with h1 | h1 | ⟨k, h1, _⟩
  · exact .inl ⟨h.2.1, .inl h1⟩
  · exact .inl ⟨h.2.1, .inr (.inl h1)⟩
  · exact .inr ⟨h.2.1, k, h1⟩
theorem IsW.fit (h : IsW z x es) : ∃ x', IsSl z x' es ∧ ∀ {β : Type} (K : AV → Option β), fit1 x K = K x' := by
  rcases h with h | ⟨hl, k, rfl⟩
  · exact ⟨x, h, fun K => h.fit1 K⟩
  · exact ⟨_, IsSl.wide hl, fun K => rfl⟩
end
theorem callS_look {β : Type} {E : Env} {f : FuncId} {args : List AV} {v : AV} {st : St} (K : Kv β) (hl : E.isLook f = true) (hb : (bares (args.map strip) && !E.full f) = false) (h : (orc E).look f (args.map strip) st = some v) : callS (orc E) f args st K = K v st ⟨[], .looked⟩ := by
  have h1 : (orc E).isLook f = true := hl
  have h2 : (bares (args.map strip) && !(orc E).full f) = false := hb
  simp only [callS, outS, callO, h1, h2, h, bindO_ok]
theorem IsW.strip {z : Nat} {x : AV} {es : List AV} (h : IsW z x es) : IsSl z (VM.strip x) es := by
  rcases h with h | ⟨hl, k, rfl⟩
  · rw [h.strip]; exact h
  · exact IsSl.wide hl
/-- The store as who only looks has it. -/
abbrev lk (st : St) : St := St.mk st.h st.h st.objs
theorem lk_get {st : St} {i : Nat} {o : VM.Obj} (h : st.get i = .ok o) : (lk st).get i = .ok o := h
/-! What is kept but for some places, and for tokens. -/
structure Kt (but : Nat → Prop) (st st' : St) : Prop where
  ro : st'.ro = st.ro
  h : st.h ≤ st'.h
  old : ∀ j o, ¬ but j → (∀ n e, o ≠ .tok n e) → st.get j = .ok o → st'.get j = .ok o
section
variable {p q : Nat → Prop} {a b c : St}
theorem Kt.refl (p : Nat → Prop) (a : St) : Kt p a a := ⟨rfl, Nat.le_refl _, fun _ _ _ _ h => h⟩
theorem Kt.trans (h : Kt p a b) (k : Kt p b c) : Kt p a c := ⟨k.ro.trans h.ro, Nat.le_trans h.h k.h, fun j o hj ho hg => k.old j o hj ho (h.old j o hj ho hg)⟩
theorem Kt.weak (h : Kt p a b) (k : ∀ j, p j → q j) : Kt q a b := ⟨h.ro, h.h, fun j o hj ho hg => h.old j o (fun f => hj (k j f)) ho hg⟩
theorem Kt.join (h : Kt p a b) (k : Kt q b c) (hq : ∀ j, q j → p j ∨ a.h ≤ j) : Kt p a c := ⟨k.ro.trans h.ro, Nat.le_trans h.h k.h, fun j o hj ho hg => k.old j o (fun f => by
  rcases hq j f with h1 | h1
  · exact hj h1
  · have := (St.get_ok.1 hg).1
    omega) ho (h.old j o hj ho hg)⟩
theorem Kt.keeps (h : Keeps a b p) : Kt p a b := ⟨h.ro, h.h, fun j o hj _ hg => h.old j o hj hg⟩
theorem Kt.own {z : Nat} {e : TypeId} {v : AV} {es : List AV} (h : Keeps a b (ownerOf v)) (ho : Own a z e v es) : Kt p a b := ⟨h.ro, h.h, fun j o _ hn hg => h.old j o (fun ⟨z', es', hv⟩ => by
  subst hv
  rcases ho.2.2 with ⟨h1 | h1, _⟩ | h1 | ⟨k, h1, h2, _⟩
  · cases h1
  · cases h1
  · cases h1
  · cases h1
    rw [hg] at h2
    exact hn _ _ (Except.ok.inj h2)) hg⟩
theorem Kt.cells (h : Kt p a b) {i : Nat} {t : TypeId} {cs : List AV} (hi : ¬ p i) (hg : a.get i = .ok (.cells t cs)) : b.get i = .ok (.cells t cs) := h.old i _ hi (fun _ _ e => by cases e) hg
theorem Kt.map (h : Kt p a b) {i : Nat} {es : List (AV × AV)} (hi : ¬ p i) (hg : a.get i = .ok (.map es)) : b.get i = .ok (.map es) := h.old i _ hi (fun _ _ e => by cases e) hg
end
/-! What an append did lies apart from reading what else there is. -/
structure Fine (st : St) (x : Fx) : Prop where
  l0 : apart ⟨[], .kept⟩ x = true
  r0 : apart x ⟨[], .kept⟩ = true
  l : ∀ i t cs, st.get i = .ok (.cells t cs) → apart ⟨[i], .kept⟩ x = true
  r : ∀ i t cs, st.get i = .ok (.cells t cs) → apart x ⟨[i], .kept⟩ = true
theorem fine_q0 (st : St) : Fine st q0 := ⟨rfl, rfl, fun _ _ _ _ => rfl, fun _ _ _ _ => rfl⟩
theorem fine_made (st : St) (o : VM.Obj) : Fine st ⟨[], .made st.h o⟩ := by
  have key : ∀ (i : Nat) (t : TypeId) (cs : List AV), st.get i = .ok (.cells t cs) → (!([i] : List Nat).contains st.h) = true := fun i t cs hg => by
    have := (St.get_ok.1 hg).1
    simp; omega
  exact ⟨rfl, rfl, fun i t cs hg => key i t cs hg, fun i t cs hg => key i t cs hg⟩
theorem fine_wrote {st : St} {k n : Nat} {e : TypeId} (o : VM.Obj) (hk : st.get k = .ok (.tok n e)) : Fine st ⟨[k], .wrote k o⟩ := by
  have key : ∀ (i : Nat) (t : TypeId) (cs : List AV), st.get i = .ok (.cells t cs) → (!([i] : List Nat).contains k) = true := fun i t cs hg => by
    have : i ≠ k := by rintro rfl; rw [hk] at hg; cases hg
    simp; omega
  exact ⟨rfl, rfl, fun i t cs hg => key i t cs hg, fun i t cs hg => key i t cs hg⟩
theorem app_fine {st st' : St} {z b : Nat} {e : TypeId} {v v' : AV} {es new : List AV} {x : Fx} (h : Own st z e v es) (ha : appO z b e v new st = some (v', st', x)) : Fine st x := by
  cases new with
  | nil =>
    rcases h.2.2 with ⟨rfl | rfl, rfl⟩ | rfl | ⟨k, rfl, hg, hro⟩ <;> simp only [appO, Option.some.injEq, Prod.mk.injEq] at ha <;> rw [← ha.2.2] <;> exact fine_q0 st
  | cons w l =>
    rcases h.2.2 with ⟨rfl | rfl, rfl⟩ | rfl | ⟨k, rfl, hg, hro⟩
    · simp only [appO, madeO] at ha
      split at ha
      · simp only [Option.some.injEq, Prod.mk.injEq] at ha; rw [← ha.2.2]; exact fine_made st _
      · cases ha
    · simp only [appO, madeO] at ha
      split at ha
      · simp only [Option.some.injEq, Prod.mk.injEq] at ha; rw [← ha.2.2]; exact fine_made st _
      · cases ha
    · simp only [appO, madeO] at ha
      split at ha
      · simp only [Option.some.injEq, Prod.mk.injEq] at ha; rw [← ha.2.2]; exact fine_made st _
      · cases ha
    · simp only [appO, hg, wroteO] at ha
      split at ha
      · split at ha
        · split at ha
          · simp only [Option.some.injEq, Prod.mk.injEq] at ha; rw [← ha.2.2]; exact fine_wrote _ hg
          · cases ha
        · cases ha
      · cases ha
end Go.Proofs.Ytoopmjhdgkcleaa.Vm
/- How large: a number. -/
set_option maxRecDepth 100000
set_option linter.unusedSimpArgs false
namespace Go.Proofs.Ytoopmjhdgkcleaa.Vm
open Go Go.VM Go.Proofs Go.Scope

abbrev S0 : St := St.mk 0 0 Tr.leaf
theorem sl_len {n : Nat} (h : n ≤ 9223372036854775807) {i : Nat} (hi : i < n) : IntKind.wrap .i64 ((i : Int) + 1) = ((i + 1 : Nat) : Int) := wrapA1 (by omega)
theorem drop_at {α : Type} {l : List α} {i : Nat} (h : i < l.length) : ∃ a r, l.drop i = a :: r := ⟨l[i], l.drop (i + 1), List.drop_eq_getElem_cons h⟩
theorem callP1 {γ : Type} {F : FuncId} {z : Nat} {x : AV} {es : List AV} (hx : IsSl z x es) {v : AV} (h : (orc vE).bare F [x] = some v) (hf : vE.full F = false) (st : St) (K : Kv γ) : callS (orc vE) F [x] st K = K v st q0 :=
  callS_bare st K hf (by simp only [List.map_cons, List.map_nil, hx.strip]) (by simp only [bares_cons, hx.bare]; rfl) h
theorem sz_drop {α : Type} [SizeOf α] : ∀ (l : List α) (i : Nat), SizeOf.sizeOf (l.drop i) ≤ SizeOf.sizeOf l
  | [], i => by simp
  | a :: l, 0 => by simp
  | a :: l, i + 1 => by
    have := sz_drop l i
    simp only [List.drop_succ_cons, List.cons.sizeOf_spec]
    omega
theorem pats_ok : ∀ (n : Nat) (ps : List Pat) (es : List AV) (x : AV), SizeOf.sizeOf ps < n → IsPs ps es → IsSl 6 x es → Goes ((orc vE).bare 9 [x]) fun v => ∃ m, v = .int .i64 m := by
  intro n
  induction n with
  | zero => intro ps es x h; omega
  | succ n ih =>
    intro ps es x h hp hx
    have hlen := hx.1
    refine Goes.bare rfl (Goes.step (g9_eq _) ?_)
    unfold g9
    refine Goes.step (hx.len _) ?_
    refine Goes.bind (R := fun c => ∃ (k : Nat) (m : Int), c = (k, [.int .i64 m], S0)) (Goes.upto (n := es.length) (I := fun i s => ∃ m : Int, s = ([.int .i64 m, .int .i64 (i : Int)], S0)) ?_ ?_ es.length 0 _ (by omega) ⟨_, rfl⟩) ?_
    · rintro i s hi ⟨m, rfl⟩
      obtain ⟨p, r, hd⟩ := drop_at (l := ps) (i := i) (by rw [← hp.len]; exact hi)
      obtain ⟨v, hv, hP, _⟩ := hp.get hd
      cases p with
      | mk k lit sp nm qs =>
        obtain ⟨y, fs, rfl, hy, hq⟩ := hP.opn
        have hsz : SizeOf.sizeOf qs < n := by
          have h1 := sz_drop ps i
          rw [hd] at h1
          simp only [List.cons.sizeOf_spec, Pat.mk.sizeOf_spec] at h1
          omega
        obtain ⟨w, hw, m2, rfl⟩ := ih qs fs y hsz hq hy
        have hlt : (i : Int) < (es.length : Int) := by omega
        by_cases hm : m < 1000
        · simp only [g9_L1, unc_cons, asI_int, un0_nil, hx.len, ifB_decide, if_pos hlt, bindO_ok, asB_bool, if_pos hm, hx.idx hv, fldA_ip, AV.cells, List.drop_succ_cons, List.drop_zero, loadS_ip, takeO_one, callP1 hy hw rfl, apart_kept, apart_kept2, Bool.and_self, chk_true, letV_eq, asS_str, sl_len hlen hi]
          refine Goes.inl ?_
          exact ⟨_, rfl⟩
        · simp only [g9_L1, unc_cons, asI_int, un0_nil, hx.len, ifB_decide, if_pos hlt, bindO_ok, asB_bool, if_neg hm]
          refine Goes.inr ?_
          exact ⟨_, _, rfl⟩
    · rintro s ⟨m, rfl⟩
      have hlt : ¬ ((es.length : Nat) : Int) < (es.length : Int) := by omega
      simp only [g9_L1, unc_cons, asI_int, un0_nil, hx.len, ifB_decide, if_neg hlt, bindO_ok, asB_bool, ifB_false]
      refine Goes.inr ?_
      exact ⟨_, _, rfl⟩
    · rintro c ⟨k, m, rfl⟩
      simp only [unc_cons, asI_int, un0_nil]
      exact Goes.some ⟨_, rfl⟩
theorem exprs_ok : ∀ (n : Nat) (l : List Exr) (es : List AV) (x : AV), SizeOf.sizeOf l < n → IsEs l es → IsSl 7 x es → Goes ((orc vE).bare 10 [x]) fun v => ∃ m, v = .int .i64 m := by
  intro n
  induction n with
  | zero => intro l es x h; omega
  | succ n ih =>
    intro l es x h hp hx
    have hlen := hx.1
    refine Goes.bare rfl (Goes.step (g10_eq _) ?_)
    unfold g10
    refine Goes.step (hx.len _) ?_
    refine Goes.bind (R := fun c => ∃ (k : Nat) (m : Int), c = (k, [.int .i64 m], S0)) (Goes.upto (n := es.length) (I := fun i s => ∃ m : Int, s = ([.int .i64 m, .int .i64 (i : Int)], S0)) ?_ ?_ es.length 0 _ (by omega) ⟨_, rfl⟩) ?_
    · rintro i s hi ⟨m, rfl⟩
      obtain ⟨e, r, hd⟩ := drop_at (l := l) (i := i) (by rw [← hp.len]; exact hi)
      obtain ⟨v, hv, hE, _⟩ := hp.get hd
      cases e with
      | mk k sp rc nm qs ls =>
        obtain ⟨y, fs, z, hs, rfl, hy, hq, hz, hl⟩ := hE.opn
        have hsz : SizeOf.sizeOf ls < n := by
          have h1 := sz_drop l i
          rw [hd] at h1
          simp only [List.cons.sizeOf_spec, Exr.mk.sizeOf_spec] at h1
          omega
        obtain ⟨w, hw, m2, rfl⟩ := pats_ok _ qs fs y (Nat.lt_succ_self _) hq hy
        obtain ⟨w3, hw3, m3, rfl⟩ := ih ls hs z hsz hl hz
        have hlt : (i : Int) < (es.length : Int) := by omega
        by_cases hm : m < 1000
        · simp only [g10_L1, unc_cons, asI_int, un0_nil, hx.len, ifB_decide, if_pos hlt, bindO_ok, asB_bool, if_pos hm, hx.idx hv, fldA_ip, AV.cells, List.drop_succ_cons, List.drop_zero, loadS_ip, takeO_one, callP1 hy hw rfl, callP1 hz hw3 rfl, apart_kept, apart_kept2, Bool.and_self, chk_true, letV_eq, asS_str, sl_len hlen hi]
          refine Goes.inl ?_
          exact ⟨_, rfl⟩
        · simp only [g10_L1, unc_cons, asI_int, un0_nil, hx.len, ifB_decide, if_pos hlt, bindO_ok, asB_bool, if_neg hm]
          refine Goes.inr ?_
          exact ⟨_, _, rfl⟩
    · rintro s ⟨m, rfl⟩
      have hlt : ¬ ((es.length : Nat) : Int) < (es.length : Int) := by omega
      simp only [g10_L1, unc_cons, asI_int, un0_nil, hx.len, ifB_decide, if_neg hlt, bindO_ok, asB_bool, ifB_false]
      refine Goes.inr ?_
      exact ⟨_, _, rfl⟩
    · rintro c ⟨k, m, rfl⟩
      simp only [unc_cons, asI_int, un0_nil]
      exact Goes.some ⟨_, rfl⟩
theorem IsD.opn {d : Bd} {v : AV} (h : IsD d v) : ∃ (k : Nat) (sp : Sp) (rc : Bool) (nm : Tx) (qs : List Pat) (ls : List Exr) (x : AV) (es : List AV) (y : AV) (fs : List AV) (z : AV) (hs : List AV), d.body = .mk k sp rc nm qs ls ∧
    v = .agg [.int .i64 d.sp.1, .int .i64 d.sp.2, .bool d.rc, x, .int .u8 (k : Int), .int .i64 sp.1, .int .i64 sp.2, .bool rc, .str nm, y, z] ∧ IsSl 6 x es ∧ IsPs d.ps es ∧ IsSl 6 y fs ∧ IsPs qs fs ∧ IsSl 7 z hs ∧ IsEs ls hs ∧ IsE (.mk k sp rc nm qs ls) (.agg [.int .u8 (k : Int), .int .i64 sp.1, .int .i64 sp.2, .bool rc, .str nm, y, z]) := by
  obtain ⟨x, es, be, rfl, hx, hp, hb⟩ := h
  cases hd : d.body with
  | mk k sp rc nm qs ls =>
    rw [hd] at hb
    obtain ⟨y, fs, z, hs, he, hy, hq, hz, hl⟩ := hb.opn
    injection he with he
    subst he
    exact ⟨k, sp, rc, nm, qs, ls, x, es, y, fs, z, hs, rfl, rfl, hx, hp, hy, hq, hz, hl, hb⟩
theorem large_ok {l : List Bd} {es : List AV} {x : AV} (hp : IsDs l es) (hx : IsSl 11 x es) : Goes ((orc vE).bare 4 [x]) fun v => ∃ b, v = .bool b := by
  have hlen := hx.1
  refine Goes.bare rfl (Goes.step (g4_eq _) ?_)
  unfold g4
  refine Goes.step (hx.len _) ?_
  refine Goes.bind (R := fun c => ∃ (k : Nat) (m : Int), c = (k, [.int .i64 m], S0)) (Goes.upto (n := es.length) (I := fun i s => ∃ m : Int, s = ([.int .i64 m, .int .i64 (i : Int)], S0)) ?_ ?_ es.length 0 _ (by omega) ⟨_, rfl⟩) ?_
  · rintro i s hi ⟨m, rfl⟩
    obtain ⟨d, r, hd⟩ := drop_at (l := l) (i := i) (by rw [← hp.len]; exact hi)
    obtain ⟨v, hv, hD, _⟩ := hp.get hd
    obtain ⟨k, sp, rc, nm, qs, ls, x1, es1, y, fs, z, hs, hb, rfl, hx1, hp1, hy, hq, hz, hl, hE⟩ := hD.opn
    obtain ⟨w, hw, m2, rfl⟩ := pats_ok _ d.ps es1 x1 (Nat.lt_succ_self _) hp1 hx1
    have hone : IsSl 7 (.sl 7 [.agg [.int .u8 (k : Int), .int .i64 sp.1, .int .i64 sp.2, .bool rc, .str nm, y, z]] .shut) [.agg [.int .u8 (k : Int), .int .i64 sp.1, .int .i64 sp.2, .bool rc, .str nm, y, z]] := IsSl.shut (Nat.le_of_ble_eq_true rfl)
    obtain ⟨w3, hw3, m3, rfl⟩ := exprs_ok _ _ _ _ (Nat.lt_succ_self _) (IsEs.cons hE IsEs.nil) hone
    have hlt : (i : Int) < (es.length : Int) := by omega
    have d3 : takeO 7 true [.int .u8 (k : Int), .int .i64 sp.1, .int .i64 sp.2, .bool rc, .str nm, y, z] = some (.agg [.int .u8 (k : Int), .int .i64 sp.1, .int .i64 sp.2, .bool rc, .str nm, y, z]) := takeO_all rfl
    by_cases hm : m < 400
    · simp only [g4_L1, unc_cons, asI_int, un0_nil, hx.len, ifB_decide, if_pos hlt, bindO_ok, asB_bool, if_pos hm, hx.idx hv, fldA_ip, AV.cells, List.drop_succ_cons, List.drop_zero, loadS_ip, takeO_one, callP1 hx1 hw rfl, d3, unA_agg, hy.asOne, hz.asOne, hy.fit1, hz.fit1, callP1 hone hw3 rfl, apart_kept, apart_kept2, Bool.and_self, chk_true, letV_eq, asS_str, sl_len hlen hi]
      refine Goes.inl ?_
      exact ⟨_, rfl⟩
    · simp only [g4_L1, unc_cons, asI_int, un0_nil, hx.len, ifB_decide, if_pos hlt, bindO_ok, asB_bool, if_neg hm]
      refine Goes.inr ?_
      exact ⟨_, _, rfl⟩
  · rintro s ⟨m, rfl⟩
    have hlt : ¬ ((es.length : Nat) : Int) < (es.length : Int) := by omega
    simp only [g4_L1, unc_cons, asI_int, un0_nil, hx.len, ifB_decide, if_neg hlt, bindO_ok, asB_bool, ifB_false]
    refine Goes.inr ?_
    exact ⟨_, _, rfl⟩
  · rintro c ⟨k, m, rfl⟩
    simp only [unc_cons, asI_int, un0_nil]
    exact Goes.some ⟨_, rfl⟩
end Go.Proofs.Ytoopmjhdgkcleaa.Vm
/- A table in the store; what a name means (the document's). -/
set_option maxRecDepth 100000
set_option linter.unusedSimpArgs false
namespace Go.Proofs.Ytoopmjhdgkcleaa.Vm
open Go Go.VM Go.Proofs Go.Scope

def encB (l : List (Tx × Sp)) : List AV := l.map fun b => .agg [.str b.1, .int .i64 b.2.1, .int .i64 b.2.2]
def encU (l : List (Tx × Sp × Int)) : List AV := l.map fun u => .agg [.str u.1, .int .i64 u.2.1.1, .int .i64 u.2.1.2, .int .i64 u.2.2]
def encN (l : List Nat) : List AV := l.map fun (n : Nat) => .int .i64 (n : Int)
theorem encB_app (l m : List (Tx × Sp)) : encB (l ++ m) = encB l ++ encB m := List.map_append
theorem encU_app (l m : List (Tx × Sp × Int)) : encU (l ++ m) = encU l ++ encU m := List.map_append
theorem encN_app (l m : List Nat) : encN (l ++ m) = encN l ++ encN m := List.map_append
theorem encB_len (l : List (Tx × Sp)) : (encB l).length = l.length := List.length_map _
theorem encU_len (l : List (Tx × Sp × Int)) : (encU l).length = l.length := List.length_map _
theorem encN_len (l : List Nat) : (encN l).length = l.length := List.length_map _
theorem encB_get {l : List (Tx × Sp)} {i : Nat} {b : Tx × Sp} (h : l[i]? = some b) : (encB l)[i]? = some (.agg [.str b.1, .int .i64 b.2.1, .int .i64 b.2.2]) := by
  unfold encB; rw [List.getElem?_map, h]; rfl
theorem encU_get {l : List (Tx × Sp × Int)} {i : Nat} {u : Tx × Sp × Int} (h : l[i]? = some u) : (encU l)[i]? = some (.agg [.str u.1, .int .i64 u.2.1.1, .int .i64 u.2.1.2, .int .i64 u.2.2]) := by
  unfold encU; rw [List.getElem?_map, h]; rfl
theorem encN_get {l : List Nat} {i n : Nat} (h : l[i]? = some n) : (encN l)[i]? = some (.int .i64 (n : Int)) := by
  unfold encN; rw [List.getElem?_map, h]; rfl
/-- Of a size that a machine bears. -/
structure Sm (t : Tb) : Prop where
  bs : t.bs.length ≤ 10000000
  us : t.us.length ≤ 10000000
  tw : t.tw.length ≤ 10000000
theorem Sm.ext {t u : Tb} (h : Sm u) (e : Ext t u) : Sm t := by
  obtain ⟨⟨x, h1⟩, ⟨y, h2⟩, ⟨z, h3⟩⟩ := e
  obtain ⟨k1, k2, k3⟩ := h
  rw [h1, List.length_append] at k1
  rw [h2, List.length_append] at k2
  rw [h3, List.length_append] at k3
  exact ⟨by omega, by omega, by omega⟩
structure Td (TT TB TU TI : TypeId) (st : St) (a : Nat) (t : Tb) : Prop where
  ne : TB ≠ TU ∧ TB ≠ TI ∧ TU ≠ TI
  ro : st.ro ≤ a
  ex : ∃ xb xu xt, st.get a = .ok (.cells TT [xb, xu, xt]) ∧ Own st 3 TB xb (encB t.bs) ∧ Own st 4 TU xu (encU t.us) ∧ Own st 1 TI xt (encN t.tw)
section
variable {TT TB TU TI : TypeId} {st st' : St} {a : Nat} {t : Tb} {xb xu xt : AV}
theorem Td.roh (w : Td TT TB TU TI st a t) : st.ro ≤ st.h := by
  obtain ⟨xb, xu, xt, _, o, _⟩ := w.ex
  exact o.1
theorem Td.lt (w : Td TT TB TU TI st a t) : a < st.h := by
  obtain ⟨xb, xu, xt, h, _⟩ := w.ex
  exact (St.get_ok.1 h).1
theorem Td.pushB (w : Td TT TB TU TI st a t) (hl : t.bs.length ≤ 100000000) (nm : Tx) (sp : Sp) (hg : st.get a = .ok (.cells TT [xb, xu, xt])) (ob : Own st 3 TB xb (encB t.bs)) (ou : Own st 4 TU xu (encU t.us)) (ot : Own st 1 TI xt (encN t.tw)) :
    ∃ v' s1 fx s2 fx2, Fine st fx ∧ VM.one v' = true ∧ Td TT TB TU TI s2 a ⟨t.bs ++ [(nm, sp)], t.us, t.tw⟩ ∧ Kt (· = a) st s2 ∧ (∀ {β : Type} (K : Kv β), appS 3 32 TB xb [.agg [.str nm, .int .i64 sp.1, .int .i64 sp.2]] st K = K v' s1 fx) ∧
      ∀ {β : Type} (K : Kv β), storeS (orc vE) 1 (.mp a 0) v' [v'] s1 K = K VM.undef s2 fx2 := by
  obtain ⟨v', s1, fx, e1, o1, k1, _⟩ := app_own (b := 32) (new := [.agg [.str nm, .int .i64 sp.1, .int .i64 sp.2]]) ob (by simp) (room_of (by rw [encB_len]; simp; omega) (by omega) (by omega))
  have g1 := k1.old a _ (ob.not hg) hg
  have ou1 := own_keep ou k1 (own_two ou ob w.ne.1.symm)
  have ot1 := own_keep ot k1 (own_two ot ob w.ne.2.1.symm)
  have hro : s1.ro ≤ a := by rw [k1.ro]; exact w.ro
  refine ⟨v', s1, fx, s1.put a (.cells TT [v', xu, xt]), _, app_fine ob e1, o1.one, ⟨w.ne, hro, v', xu, xt, St.get_put_same (St.get_ok.1 g1).1, ?_, ou1.put g1, ot1.put g1⟩, (Kt.own k1 ob).trans (Kt.keeps (Keeps.put rfl)), fun K => appS_of e1 K, fun K => storeS_at (cs := [v']) (z := 1) g1 rfl (Nat.le_of_ble_eq_true rfl) hro K⟩
  rw [encB_app]
  exact o1.put g1
theorem Td.pushU (w : Td TT TB TU TI st a t) (hl : t.us.length ≤ 100000000) (nm : Tx) (sp : Sp) (k : Int) (hg : st.get a = .ok (.cells TT [xb, xu, xt])) (ob : Own st 3 TB xb (encB t.bs)) (ou : Own st 4 TU xu (encU t.us)) (ot : Own st 1 TI xt (encN t.tw)) :
    ∃ v' s1 fx s2 fx2, Fine st fx ∧ VM.one v' = true ∧ Td TT TB TU TI s2 a ⟨t.bs, t.us ++ [(nm, sp, k)], t.tw⟩ ∧ Kt (· = a) st s2 ∧ (∀ {β : Type} (K : Kv β), appS 4 40 TU xu [.agg [.str nm, .int .i64 sp.1, .int .i64 sp.2, .int .i64 k]] st K = K v' s1 fx) ∧
      ∀ {β : Type} (K : Kv β), storeS (orc vE) 1 (.mp a 1) v' [v'] s1 K = K VM.undef s2 fx2 := by
  obtain ⟨v', s1, fx, e1, o1, k1, _⟩ := app_own (b := 40) (new := [.agg [.str nm, .int .i64 sp.1, .int .i64 sp.2, .int .i64 k]]) ou (by simp) (room_of (by rw [encU_len]; simp; omega) (by omega) (by omega))
  have g1 := k1.old a _ (ou.not hg) hg
  have ob1 := own_keep ob k1 (own_two ob ou w.ne.1)
  have ot1 := own_keep ot k1 (own_two ot ou w.ne.2.2.symm)
  have hro : s1.ro ≤ a := by rw [k1.ro]; exact w.ro
  refine ⟨v', s1, fx, s1.put a (.cells TT [xb, v', xt]), _, app_fine ou e1, o1.one, ⟨w.ne, hro, xb, v', xt, St.get_put_same (St.get_ok.1 g1).1, ob1.put g1, ?_, ot1.put g1⟩, (Kt.own k1 ou).trans (Kt.keeps (Keeps.put rfl)), fun K => appS_of e1 K, fun K => storeS_at (cs := [v']) (z := 1) g1 rfl (Nat.le_of_ble_eq_true rfl) hro K⟩
  rw [encU_app]
  exact o1.put g1
theorem Td.pushT (w : Td TT TB TU TI st a t) (hl : t.tw.length ≤ 100000000) (k : Nat) (hg : st.get a = .ok (.cells TT [xb, xu, xt])) (ob : Own st 3 TB xb (encB t.bs)) (ou : Own st 4 TU xu (encU t.us)) (ot : Own st 1 TI xt (encN t.tw)) :
    ∃ v' s1 fx s2 fx2, Fine st fx ∧ VM.one v' = true ∧ Td TT TB TU TI s2 a ⟨t.bs, t.us, t.tw ++ [k]⟩ ∧ Kt (· = a) st s2 ∧ (∀ {β : Type} (K : Kv β), appS 1 8 TI xt [.int .i64 (k : Int)] st K = K v' s1 fx) ∧
      ∀ {β : Type} (K : Kv β), storeS (orc vE) 1 (.mp a 2) v' [v'] s1 K = K VM.undef s2 fx2 := by
  obtain ⟨v', s1, fx, e1, o1, k1, _⟩ := app_own (b := 8) (new := [.int .i64 (k : Int)]) ot (by simp) (room_of (by rw [encN_len]; simp; omega) (by omega) (by omega))
  have g1 := k1.old a _ (ot.not hg) hg
  have ob1 := own_keep ob k1 (own_two ob ot w.ne.2.1)
  have ou1 := own_keep ou k1 (own_two ou ot w.ne.2.2)
  have hro : s1.ro ≤ a := by rw [k1.ro]; exact w.ro
  refine ⟨v', s1, fx, s1.put a (.cells TT [xb, xu, v']), _, app_fine ot e1, o1.one, ⟨w.ne, hro, xb, xu, v', St.get_put_same (St.get_ok.1 g1).1, ob1.put g1, ou1.put g1, ?_⟩, (Kt.own k1 ot).trans (Kt.keeps (Keeps.put rfl)), fun K => appS_of e1 K, fun K => storeS_at (cs := [v']) (z := 1) g1 rfl (Nat.le_of_ble_eq_true rfl) hro K⟩
  rw [encN_app]
  exact o1.put g1
theorem Td.keep (w : Td TT TB TU TI st a t) {but : Nat → Prop} (k : Keeps st st' but) (ha : ¬ but a) (hn : ∀ j n e, st.get j = .ok (.tok n e) → ¬ but j) : Td TT TB TU TI st' a t := by
  obtain ⟨xb, xu, xt, hg, ob, ou, ot⟩ := w.ex
  have own : ∀ {z : Nat} {e : TypeId} {v : AV} {es : List AV}, Own st z e v es → Own st' z e v es := fun h => own_keep h k fun j hj => by
    obtain ⟨z', es', rfl⟩ := hj
    rcases h.2.2 with ⟨h1 | h1, _⟩ | h1 | ⟨k', h1, h2, _⟩
    · cases h1
    · cases h1
    · cases h1
    · cases h1; exact hn _ _ _ h2
  exact ⟨w.ne, by rw [k.ro]; exact w.ro, xb, xu, xt, k.old a _ ha hg, own ob, own ou, own ot⟩
end
abbrev Rt (st : St) (a : Nat) (t : Tb) : Prop := Td 29 49 51 3 st a t
theorem means_loop {st s0 : St} {a : Nat} {t : Tb} {xb xu xt x : AV} (hg : st.get a = .ok (.cells 29 [xb, xu, xt])) (ob : Own s0 3 49 xb (encB t.bs)) (nm : Tx) {bd : List Nat} (hx : IsSl 1 x (encN bd)) (hi : In t bd) : ∀ (k : Nat), k ≤ bd.length →
    loopO (l21_L1 (.mp a 0) x nm) ([.int .i64 0, .int .i64 ((k : Int) - 1)], st) = (match seek t.bs nm (bd.take k) with | some i => some (1, [.int .i64 (i : Int)], st) | none => some (0, [.int .i64 0], st))
  | 0, _ => by
    refine loopO_inr ?_
    have q : ¬ ((0 : Nat) : Int) - 1 ≥ 0 := by omega
    simp only [l21_L1, unc_cons, asI_int, un0_nil, ifB_decide, if_neg q]
  | k + 1, hk => by
    have hlt : k < bd.length := by omega
    have hle := hx.1
    rw [encN_len] at hle
    have e1 : (((k + 1 : Nat) : Int) - 1) = (k : Int) := by omega
    have q : (k : Int) ≥ 0 := by omega
    have hn : bd[k]? = some bd[k] := List.getElem?_eq_getElem hlt
    have hlt2 := hi bd[k] (List.getElem_mem hlt)
    have hb : t.bs[bd[k]]? = some t.bs[bd[k]] := List.getElem?_eq_getElem hlt2
    have hs : seek t.bs nm (bd.take (k + 1)) = if (t.bs[bd[k]].1 == nm) = true then some bd[k] else seek t.bs nm (bd.take k) := by
      unfold seek
      rw [List.take_add_one, hn, Option.toList_some, List.reverse_append, List.reverse_singleton, List.singleton_append, List.find?_cons, hasNm_of hb]
      cases t.bs[bd[k]].1 == nm <;> rfl
    rw [e1, hs]
    have hi1 := fun {γ : Type} (K : AV → List Nat → Option γ) => hx.idx (encN_get hn) st K
    have hi2 := fun {γ : Type} (K : AV → List Nat → Option γ) => own_idx ob (encB_get hb) st K
    cases hq : t.bs[bd[k]].1 == nm with
    | true =>
      rw [if_pos rfl]
      refine loopO_inr ?_
      simp only [l21_L1, unc_cons, asI_int, un0_nil, ifB_decide, if_pos q, notNil_mp, chk_true, fldA_mp, Nat.add_zero, loadS_mp hg, List.drop_zero, takeO_one, bindO_ok, hi1, AV.cells, loadS_ip, hi2, fldA_ip, asS_str, hq, ifB_true]
    | false =>
      rw [if_neg (by simp), loopO_inl (s' := ([.int .i64 0, .int .i64 ((k : Int) - 1)], st)), means_loop hg ob nm hx hi k (by omega)]
      have hw : IntKind.wrap .i64 ((k : Int) - 1) = (k : Int) - 1 := wrap_i64 (by omega) (by omega)
      simp only [l21_L1, unc_cons, asI_int, un0_nil, ifB_decide, if_pos q, notNil_mp, chk_true, fldA_mp, Nat.add_zero, loadS_mp hg, List.drop_zero, takeO_one, bindO_ok, hi1, AV.cells, loadS_ip, hi2, fldA_ip, asS_str, hq, ifB_false, letV_eq, hw]
theorem means_look {st : St} {a : Nat} {t : Tb} (w : Rt st a t) (nm : Tx) {x : AV} {bd : List Nat} (hx : IsSl 1 x (encN bd)) (hi : In t bd) : (orc vE).look 21 [.mp a 0, .str nm, x] st = some (.int .i64 (means t.bs nm bd)) := by
  obtain ⟨xb, xu, xt, hg, ob, _, _⟩ := w.ex
  refine look_of ((l21_eq _ _ _ _).trans ?_)
  have hle := hx.1
  rw [encN_len] at hle
  have e := means_loop (lk_get hg) ob nm hx hi bd.length (Nat.le_refl _)
  rw [List.take_length] at e
  have hw : IntKind.wrap .i64 ((bd.length : Int) - 1) = (bd.length : Int) - 1 := wrap_i64 (by omega) (by omega)
  have hl := fun {γ : Type} (K : Nat → Option γ) => hx.len K
  simp only [encN_len] at hl
  unfold means
  cases hs : seek t.bs nm bd with
  | some i =>
    rw [hs] at e
    simp only [l21, asS_str, hl, letV_eq, hw, e, bindO_ok, unc_cons, asI_int, un0_nil, sel2_one]
  | none =>
    rw [hs] at e
    have hgv : given nm = (nm == sNot || (nm == sFst || (nm == sSnd || nm == sFloat))) := by
      unfold given
      simp only [List.any_cons, List.any_nil, Bool.or_false]
      rw [BEq.comm (a := sNot), BEq.comm (a := sFst), BEq.comm (a := sSnd), BEq.comm (a := sFloat)]
    have n1 : (nm == ([110, 111, 116] : List UInt8)) = (nm == sNot) := rfl
    have n2 : (nm == ([102, 115, 116] : List UInt8)) = (nm == sFst) := rfl
    have n3 : (nm == ([115, 110, 100] : List UInt8)) = (nm == sSnd) := rfl
    have n4 : (nm == ([102, 108, 111, 97, 116] : List UInt8)) = (nm == sFloat) := rfl
    simp only [l21, asS_str, hl, letV_eq, hw, e, bindO_ok, unc_cons, asI_int, un0_nil, sel2_zero, hgv, n1, n2, n3, n4]
    cases nm == sNot <;> cases nm == sFst <;> cases nm == sSnd <;> cases nm == sFloat <;> rfl
theorem call_means {st : St} {a : Nat} {t : Tb} (w : Rt st a t) (nm : Tx) {x : AV} {bd : List Nat} (hx : IsW 1 x (encN bd)) (hi : In t bd) {β : Type} (K : Kv β) : callS (orc vE) 21 [.mp a 0, .str nm, x] st K = K (.int .i64 (means t.bs nm bd)) st ⟨[], .looked⟩ :=
  callS_look K rfl rfl (means_look w nm hx.strip hi)
end Go.Proofs.Ytoopmjhdgkcleaa.Vm
/- The document's binders. -/
set_option maxRecDepth 100000
set_option linter.unusedSimpArgs false
namespace Go.Proofs.Ytoopmjhdgkcleaa.Vm
open Go Go.VM Go.Proofs Go.Scope

theorem wrap1 {i n : Nat} (h : i < n) (hn : n ≤ 9223372036854775807) : IntKind.wrap .i64 ((i : Int) + 1) = ((i + 1 : Nat) : Int) := wrapA1 (by omega)
theorem take6 {a b c d e f : AV} : takeO 6 true [a, b, c, d, e, f] = some (.agg [a, b, c, d, e, f]) := takeO_all rfl
theorem take7 {a b c d e f g : AV} : takeO 7 true [a, b, c, d, e, f, g] = some (.agg [a, b, c, d, e, f, g]) := takeO_all rfl
theorem fit_encN (l : List Nat) {β : Type} (K : List AV → Option β) : fitTs false (encN l) K = K (encN l) := fitTs_of (fun v hv K => by
  unfold encN at hv
  obtain ⟨n, _, rfl⟩ := List.mem_map.1 hv
  rfl) K
theorem sizes_encN (l : List Nat) : sizesOk 1 (encN l) = true := sizesOk_of fun v hv => by
  unfold encN at hv
  obtain ⟨n, _, rfl⟩ := List.mem_map.1 hv
  rfl
/-- A copy, and one more. -/
theorem copy_one {st : St} (hro : st.ro ≤ st.h) {z b : Nat} {e : TypeId} {l : List AV} (w : AV) (hz : 1 ≤ z) (hb : b ≤ 1000) (hl : l.length ≤ 100000000) :
    ∃ v1 s1 fx v2 s2 fx2, Fine st fx ∧ IsW z v2 (l ++ [w]) ∧ Keeps st s1 (fun j => st.h ≤ j) ∧ Keeps st s2 (fun j => st.h ≤ j) ∧
      (∀ {β : Type} (K : Kv β), appS z b e (.sl z [] .shut) l st K = K v1 s1 fx) ∧ ∀ {β : Type} (K : Kv β), appS z b e v1 [w] s1 K = K v2 s2 fx2 := by
  have o0 : Own st z e (.sl z [] .shut) [] := Own.shut hro e (Nat.zero_le _)
  have first : ∃ v1 s1 fx, Fine st fx ∧ Own s1 z e v1 l ∧ Keeps st s1 (fun j => st.h ≤ j) ∧ (∀ j, ownerOf v1 j → st.h ≤ j) ∧ ∀ {β : Type} (K : Kv β), appS z b e (.sl z [] .shut) l st K = K v1 s1 fx := by
    by_cases hn : l = []
    · subst hn
      exact ⟨_, st, q0, fine_q0 st, o0, Keeps.refl _ _, (fun j hj => by obtain ⟨_, _, h⟩ := hj; cases h), fun K => appS_of rfl K⟩
    · obtain ⟨v1, s1, fx, e1, o1, k1, f1⟩ := app_own (b := b) (new := l) o0 hn (room_of (by simp; omega) hb hz)
      refine ⟨v1, s1, fx, app_fine o0 e1, by simpa using o1, ⟨k1.ro, k1.h, fun j o _ hg => k1.old j o (fun ⟨_, _, hj⟩ => by cases hj) hg⟩, fun j hj => ?_, fun K => appS_of e1 K⟩
      rcases f1 j hj with ⟨_, _, h⟩ | h
      · cases h
      · exact h
  obtain ⟨v1, s1, fx, hf, o1, k1, w1, e1⟩ := first
  obtain ⟨v2, s2, fx2, e2, o2, k2, _⟩ := app_own (b := b) (new := [w]) o1 (by simp) (room_of (by simp; omega) hb hz)
  exact ⟨v1, s1, fx, v2, s2, fx2, hf, o2.isW, k1, k1.trans ⟨k2.ro, k2.h, fun j o hj hg => k2.old j o (fun h => hj (w1 j h)) hg⟩, e1, fun K => appS_of e2 K⟩
/-- What is bound, and a table. -/
def Bn (a : Nat) (st : St) (r : Tb × List Nat) (q : AV × St) : Prop := ∃ x' st', q = (x', st') ∧ IsW 1 x' (encN r.2) ∧ Rt st' a r.1 ∧ Kt (· = a) st st'
theorem len_bind (fr : Nat) (nm : Tx) (sp : Sp) (t : Tb) (bd : List Nat) (h : bd.length ≤ t.bs.length) : (bd ++ [t.bs.length]).length ≤ (bindT fr nm sp t).bs.length := by
  show _ ≤ (t.bs ++ [(nm, sp)]).length
  simp; omega
theorem len_grp (fr : Nat) (p : Pat) (t : Tb) (bd : List Nat) (hf : fr ≤ t.bs.length) (h : bd.length ≤ t.bs.length) : (grp fr p t bd).2.length ≤ (grp fr p t bd).1.bs.length :=
  ((grps_inv (I := fun u b => b.length ≤ u.bs.length) (fun nm sp u b _ hb => len_bind fr nm sp u b hb) _).1 p t bd (Nat.lt_succ_self _) hf h).1
theorem len_grps (fr : Nat) (ps : List Pat) (t : Tb) (bd : List Nat) (hf : fr ≤ t.bs.length) (h : bd.length ≤ t.bs.length) : (grps fr ps t bd).2.length ≤ (grps fr ps t bd).1.bs.length :=
  ((grps_inv (I := fun u b => b.length ≤ u.bs.length) (fun nm sp u b _ hb => len_bind fr nm sp u b hb) _).2 ps t bd (Nat.lt_succ_self _) hf h).1
def hasAny (t : Tb) (nm : Tx) (i : Nat) : Bool := (t.bs.drop i).any fun b => b.1 == nm
theorem twice_loop {st : St} {a : Nat} {t : Tb} (w : Rt st a t) (hs : Sm t) (nm : Tx) {fr : Nat} (hf : fr ≤ t.bs.length) :
    Goes (loopO (w24_L1 (.mp a 0) nm) ([.int .i64 (fr : Int)], st)) fun c => ∃ s', c = (0, [], s') ∧ Rt s' a ⟨t.bs, t.us, if hasAny t nm fr = true then t.tw ++ [t.bs.length] else t.tw⟩ ∧ Kt (· = a) st s' := by
  obtain ⟨xb, xu, xt, hg, ob, ou, ot⟩ := w.ex
  have hl := fun {γ : Type} (K : Nat → Option γ) => own_len ob K
  simp only [encB_len] at hl
  have hsb := hs.bs
  refine Goes.upto (n := t.bs.length) (I := fun i s => s = ([.int .i64 (i : Int)], st) ∧ hasAny t nm i = hasAny t nm fr) ?_ ?_ (t.bs.length - fr) fr _ (by omega) ⟨rfl, rfl⟩
  · rintro i s hi ⟨rfl, hany⟩
    have hb : t.bs[i]? = some t.bs[i] := List.getElem?_eq_getElem hi
    have hlt : (i : Int) < (t.bs.length : Int) := by omega
    have hi2 := fun {γ : Type} (K : AV → List Nat → Option γ) => own_idx ob (encB_get hb) st K
    have hstep : hasAny t nm i = (t.bs[i].1 == nm || hasAny t nm (i + 1)) := by
      unfold hasAny
      rw [List.drop_eq_getElem_cons hi, List.any_cons]
    cases hq : t.bs[i].1 == nm with
    | true =>
      rw [hq, Bool.true_or] at hstep
      rw [← hany, hstep, if_pos rfl]
      obtain ⟨v', s1, fx, s2, fx2, hfine, hone, w2, k2, e1, e2⟩ := w.pushT (by have := hs.tw; omega) t.bs.length hg ob ou ot
      simp only [w24_L1, unc_cons, asI_int, un0_nil, notNil_mp, chk_true, fldA_mp, Nat.zero_add, loadS_mp hg, List.drop_zero, List.drop_succ_cons, takeO_one, bindO_ok, hl, ifB_decide, if_pos hlt, hi2, AV.cells, fldA_ip, loadS_ip, asS_str, hq, ifB_true, e1, hfine.l0, Bool.and_self, asOne_of hone, e2]
      refine Goes.inr ?_
      exact ⟨_, rfl, w2, k2⟩
    | false =>
      rw [hq, Bool.false_or] at hstep
      simp only [w24_L1, unc_cons, asI_int, un0_nil, notNil_mp, chk_true, fldA_mp, Nat.zero_add, loadS_mp hg, List.drop_zero, List.drop_succ_cons, takeO_one, bindO_ok, hl, ifB_decide, if_pos hlt, hi2, AV.cells, fldA_ip, loadS_ip, asS_str, hq, ifB_false, letV_eq, wrap1 hi (by omega)]
      refine Goes.inl ?_
      exact ⟨rfl, by rw [← hstep, hany]⟩
  · rintro s ⟨rfl, hany⟩
    have hlt : ¬ (t.bs.length : Int) < (t.bs.length : Int) := by omega
    simp only [w24_L1, unc_cons, asI_int, un0_nil, notNil_mp, chk_true, fldA_mp, Nat.zero_add, loadS_mp hg, List.drop_zero, takeO_one, bindO_ok, hl, ifB_decide, if_neg hlt]
    refine Goes.inr ?_
    have h0 : hasAny t nm t.bs.length = false := by unfold hasAny; simp
    rw [← hany, h0, if_neg (by simp)]
    exact ⟨_, rfl, w, Kt.refl _ _⟩
theorem group_ok : ∀ (n : Nat) (p : Pat) (v : AV) (st : St) (a : Nat) (t : Tb) (bd : List Nat) (x : AV) (fr : Nat), SizeOf.sizeOf p < n → IsP p v → Rt st a t → fr ≤ t.bs.length → IsW 1 x (encN bd) → bd.length ≤ t.bs.length → Sm (grp fr p t bd).1 →
    Goes ((orc vE).wide 24 [.mp a 0, v, .int .i64 (fr : Int), x] st) (Bn a st (grp fr p t bd)) := by
  intro n
  induction n with
  | zero => intro p v st a t bd x fr h; omega
  | succ n ih =>
    intro p v st a t bd x fr h hP w hf hx hbl hsm
    cases p with
    | mk k lit sp nm ps =>
      obtain ⟨y, es, rfl, hy, hps⟩ := hP.opn
      simp only [Pat.mk.sizeOf_spec] at h
      have hyl := hy.1
      refine Goes.wide (Goes.step (w24_eq _ _ _ _ _) ?_)
      simp only [w24, unA_agg, unc_cons, asI_int, asS_str, un0_nil, hy.asOne, hy.fit1]
      -- what stands ahead of the kids
      have hmid : ∃ r1 : Tb × List Nat, grp fr (.mk k lit sp nm ps) t bd = grps fr ps r1.1 r1.2 ∧ fr ≤ r1.1.bs.length ∧ r1.2.length ≤ r1.1.bs.length ∧ (if k = 15 then r1 = (bindT fr nm sp t, bd ++ [t.bs.length]) else r1 = (t, bd)) := by
        by_cases hk : k = 15
        · refine ⟨(bindT fr nm sp t, bd ++ [t.bs.length]), by simp only [grp, if_pos hk], ?_, len_bind fr nm sp t bd hbl, by rw [if_pos hk]⟩
          show fr ≤ (t.bs ++ [(nm, sp)]).length
          simp; omega
        · exact ⟨(t, bd), by simp only [grp, if_neg hk], hf, hbl, by rw [if_neg hk]⟩
      obtain ⟨r1, hr1, hf1, hbl1, hcase⟩ := hmid
      rw [hr1] at hsm ⊢
      have hsm1 : Sm r1.1 := hsm.ext (ext_grps fr ps r1.1 r1.2 hf1).1
      refine Goes.bind (R := fun c => ∃ x' s', c = ([x'], s') ∧ IsW 1 x' (encN r1.2) ∧ Rt s' a r1.1 ∧ Kt (· = a) st s') ?_ ?_
      · by_cases hk : k = 15
        · rw [if_pos hk] at hcase
          subst hcase
          have hsm0 : Sm t := hsm1.ext (ext_bind fr nm sp t)
          have hk' : (k : Int) = 15 := by omega
          simp only [ifB_beq, if_pos hk']
          refine Goes.bind (twice_loop w hsm0 nm hf) ?_
          rintro c ⟨s1, rfl, w1, k1⟩
          obtain ⟨xb, xu, xt, hg, ob, ou, ot⟩ := w1.ex
          have hsb := hsm0.bs
          obtain ⟨v1, s2, fx1, v2, s3, fx2, hfine, hW, k2, k3, e1, e2⟩ := copy_one (st := s1) w1.roh (z := 1) (b := 8) (e := 3) (l := encN bd) (.int .i64 (t.bs.length : Int)) (by omega) (by omega) (by rw [encN_len]; omega)
          have nh : ∀ {j : Nat} {o : VM.Obj}, s1.get j = .ok o → ¬ s1.h ≤ j := fun hj => by have := (St.get_ok.1 hj).1; omega
          have g2 := k2.old a _ (nh hg) hg
          have w3 := w1.keep k3 (nh hg) (fun j n e hj => nh hj)
          obtain ⟨xb3, xu3, xt3, hg3, ob3, ou3, ot3⟩ := w3.ex
          have e3eq : xb3 = xb := by
            have := k3.old a _ (nh hg) hg
            rw [this] at hg3
            simp only [Except.ok.injEq, VM.Obj.cells.injEq, List.cons.injEq, true_and, and_true] at hg3
            exact hg3.1.symm
          subst e3eq
          obtain ⟨v', s4, fx4, s5, fx5, hfine4, hone4, w5, k5, e4, e5⟩ := w3.pushB (show t.bs.length ≤ 100000000 by omega) nm sp hg3 ob3 ou3 ot3
          have hl := fun {γ : Type} (K : Nat → Option γ) => own_len ob K
          simp only [encB_len] at hl
          simp only [un0_nil, hx.elems, fit_encN, sizes_encN, chk_true, e1, hfine.r0, hfine.r _ _ _ hg, Bool.and_self, notNil_mp, fldA_mp, Nat.zero_add, loadS_mp g2, List.drop_zero, takeO_one, bindO_ok, hl, e2, loadS_mp hg3, e4, hfine4.l0, asOne_of hone4, e5]
          refine Goes.some ⟨_, _, rfl, ?_, ?_, ?_⟩
          · rw [encN_app]; exact hW
          · have e9 : bindT fr nm sp t = ⟨t.bs ++ [(nm, sp)], t.us, if hasAny t nm fr = true then t.tw ++ [t.bs.length] else t.tw⟩ := rfl
            rw [e9]
            exact w5
          · exact (k1.join (Kt.keeps k3) fun j hj => .inr (Nat.le_trans k1.h hj)).trans k5
        · rw [if_neg hk] at hcase
          subst hcase
          have hk' : ¬ (k : Int) = 15 := by omega
          simp only [ifB_beq, if_neg hk']
          exact Goes.some ⟨_, _, rfl, hx, w, Kt.refl _ _⟩
      rintro c ⟨x1, s1, rfl, hx1, w1, k1⟩
      simp only [unc_cons, un0_nil]
      refine Goes.bind (R := fun c => ∃ x' s' n', c = (n', [x'], s') ∧ IsW 1 x' (encN (grps fr ps r1.1 r1.2).2) ∧ Rt s' a (grps fr ps r1.1 r1.2).1 ∧ Kt (· = a) st s')
        (Goes.upto (n := es.length) (I := fun i s => ∃ x' s' tj bj, s = ([x', .int .i64 (i : Int)], s') ∧ IsW 1 x' (encN bj) ∧ Rt s' a tj ∧ Kt (· = a) st s' ∧ grps fr (ps.drop i) tj bj = grps fr ps r1.1 r1.2 ∧ fr ≤ tj.bs.length ∧ bj.length ≤ tj.bs.length) ?_ ?_ es.length 0 _ (by omega) ⟨_, _, _, _, rfl, hx1, w1, k1, rfl, hf1, hbl1⟩) ?_
      · rintro i s hi ⟨x2, s2, tj, bj, rfl, hx2, w2, k2, hg, hfj, hbj⟩
        obtain ⟨q, r, hd⟩ := drop_at (l := ps) (i := i) (by rw [← hps.len]; exact hi)
        obtain ⟨v, hv, hQ, _⟩ := hps.get hd
        have hr2 := (drop_cons hd).2.1
        rw [hd] at hg
        simp only [grps] at hg
        have eg := ext_grp fr q tj bj hfj
        have hsq : Sm (grp fr q tj bj).1 := by
          refine hsm.ext ?_
          rw [← hg]
          exact (ext_grps fr r _ _ eg.2).1
        have hsz : SizeOf.sizeOf q < n := by
          have h1 := sz_drop ps i
          rw [hd] at h1
          simp only [List.cons.sizeOf_spec] at h1
          omega
        have hcall := ih q v s2 a tj bj x2 fr hsz hQ w2 hfj hx2 hbj hsq
        have hlt : (i : Int) < (es.length : Int) := by omega
        cases q with
        | mk kq lq spq nq qs =>
          obtain ⟨yq, eq, rfl, hyq, hqs⟩ := hQ.opn
          simp only [w24_L2, unc_cons, asI_int, un0_nil, hy.len, ifB_decide, if_pos hlt, hy.idx hv, AV.cells, loadS_ip, take6, bindO_ok, unA_agg, asS_str]
          refine Goes.callW hcall rfl rfl ?_
          rintro v3 s3 ⟨x3, s3', e3, hx3, w3, k3⟩
          cases e3
          simp only [letV_eq, wrap1 hi hyl]
          refine Goes.inl ?_
          exact ⟨_, _, _, _, rfl, hx3, w3, k2.trans k3, by rw [hr2]; exact hg, eg.2, len_grp fr _ tj bj hfj hbj⟩
      · rintro s ⟨x2, s2, tj, bj, rfl, hx2, w2, k2, hg, hfj, hbj⟩
        have hlt : ¬ (es.length : Int) < (es.length : Int) := by omega
        rw [List.drop_eq_nil_of_le (by rw [← hps.len]; exact Nat.le_refl _)] at hg
        simp only [grps] at hg
        simp only [w24_L2, unc_cons, asI_int, un0_nil, hy.len, ifB_decide, if_neg hlt]
        refine Goes.inr ?_
        rw [← hg]
        exact ⟨_, _, _, rfl, hx2, w2, k2⟩
      · rintro c ⟨x', s', n', rfl, hx', w', k'⟩
        simp only [unc_cons, un0_nil]
        exact Goes.some ⟨_, _, rfl, hx', w', k'⟩
end Go.Proofs.Ytoopmjhdgkcleaa.Vm
/- The document's binders of a group and of a let; its expressions. -/
set_option maxRecDepth 100000
set_option linter.unusedSimpArgs false
namespace Go.Proofs.Ytoopmjhdgkcleaa.Vm
open Go Go.VM Go.Proofs Go.Scope

theorem len_binders (ps : List Pat) (t : Tb) (bd : List Nat) (h : bd.length ≤ t.bs.length) : (binders ps t bd).2.length ≤ (binders ps t bd).1.bs.length := len_grps _ ps t bd (Nat.le_refl _) h
theorem binders_ok {ps : List Pat} {es : List AV} {y : AV} {st : St} {a : Nat} {t : Tb} {bd : List Nat} {x : AV} (hps : IsPs ps es) (hy : IsSl 6 y es) (w : Rt st a t) (hx : IsW 1 x (encN bd)) (hbl : bd.length ≤ t.bs.length) (hsm : Sm (binders ps t bd).1) :
    Goes ((orc vE).wide 19 [.mp a 0, y, x] st) (Bn a st (binders ps t bd)) := by
  obtain ⟨xb, xu, xt, hg, ob, ou, ot⟩ := w.ex
  have hl := fun {γ : Type} (K : Nat → Option γ) => own_len ob K
  simp only [encB_len] at hl
  have hyl := hy.1
  refine Goes.wide (Goes.step (w19_eq _ _ _ _) ?_)
  simp only [w19, notNil_mp, chk_true, fldA_mp, Nat.zero_add, loadS_mp hg, List.drop_zero, takeO_one, bindO_ok, hl]
  refine Goes.bind (R := fun c => ∃ x' s' n', c = (n', [x'], s') ∧ IsW 1 x' (encN (grps t.bs.length ps t bd).2) ∧ Rt s' a (grps t.bs.length ps t bd).1 ∧ Kt (· = a) st s')
    (Goes.upto (n := es.length) (I := fun i s => ∃ x' s' tj bj, s = ([x', .int .i64 (i : Int)], s') ∧ IsW 1 x' (encN bj) ∧ Rt s' a tj ∧ Kt (· = a) st s' ∧ grps t.bs.length (ps.drop i) tj bj = grps t.bs.length ps t bd ∧ t.bs.length ≤ tj.bs.length ∧ bj.length ≤ tj.bs.length) ?_ ?_ es.length 0 _ (by omega) ⟨_, _, _, _, rfl, hx, w, Kt.refl _ _, rfl, Nat.le_refl _, hbl⟩) ?_
  · rintro i s hi ⟨x2, s2, tj, bj, rfl, hx2, w2, k2, hg, hfj, hbj⟩
    obtain ⟨q, r, hd⟩ := drop_at (l := ps) (i := i) (by rw [← hps.len]; exact hi)
    obtain ⟨v, hv, hQ, _⟩ := hps.get hd
    have hr2 := (drop_cons hd).2.1
    rw [hd] at hg
    simp only [grps] at hg
    have eg := ext_grp t.bs.length q tj bj hfj
    have hsq : Sm (grp t.bs.length q tj bj).1 := by
      refine hsm.ext ?_
      unfold binders
      rw [← hg]
      exact (ext_grps t.bs.length r _ _ eg.2).1
    have hcall := group_ok _ q v s2 a tj bj x2 t.bs.length (Nat.lt_succ_self _) hQ w2 hfj hx2 hbj hsq
    have hlt : (i : Int) < (es.length : Int) := by omega
    cases q with
    | mk kq lq spq nq qs =>
      obtain ⟨yq, eq, rfl, hyq, hqs⟩ := hQ.opn
      simp only [w19_L1, unc_cons, asI_int, un0_nil, hy.len, ifB_decide, if_pos hlt, hy.idx hv, AV.cells, loadS_ip, take6, bindO_ok, unA_agg, asS_str]
      refine Goes.callW hcall rfl rfl ?_
      rintro v3 s3 ⟨x3, s3', e3, hx3, w3, k3⟩
      cases e3
      simp only [letV_eq, wrap1 hi hyl]
      refine Goes.inl ?_
      exact ⟨_, _, _, _, rfl, hx3, w3, k2.trans k3, by rw [hr2]; exact hg, eg.2, len_grp _ _ tj bj hfj hbj⟩
  · rintro s ⟨x2, s2, tj, bj, rfl, hx2, w2, k2, hg, hfj, hbj⟩
    have hlt : ¬ (es.length : Int) < (es.length : Int) := by omega
    rw [List.drop_eq_nil_of_le (by rw [← hps.len]; exact Nat.le_refl _)] at hg
    simp only [grps] at hg
    simp only [w19_L1, unc_cons, asI_int, un0_nil, hy.len, ifB_decide, if_neg hlt]
    refine Goes.inr ?_
    rw [← hg]
    exact ⟨_, _, _, rfl, hx2, w2, k2⟩
  · rintro c ⟨x', s', n', rfl, hx', w', k'⟩
    simp only [unc_cons, un0_nil]
    exact Goes.some ⟨_, _, rfl, hx', w', k'⟩
theorem cut1 {z : Nat} {x : AV} {es : List AV} (h : IsSl z x es) (h1 : 1 ≤ es.length) : (∃ x', IsSl z x' (es.take 1) ∧ ∀ {β : Type} (K : AV → Option β), sliceS z x none (some 1) none K = K x') ∧ ∃ x', IsSl z x' (es.drop 1) ∧ ∀ {β : Type} (K : AV → Option β), sliceS z x (some 1) none none K = K x' := by
  constructor
  · obtain ⟨x', hx, e⟩ := h.cut (lo := none) (hi := some 1) (l := 0) (m := 1) rfl (hiO_nat (k := 1) h1)
    exact ⟨x', by simpa using hx, e⟩
  · obtain ⟨x', hx, e⟩ := h.cut (lo := some 1) (hi := none) (l := 1) (m := es.length) (hiO_nat (k := 1) h1) rfl
    exact ⟨x', by simpa using hx, e⟩
theorem two_ok {rc : Bool} {ps : List Pat} {es : List AV} {y : AV} {st : St} {a : Nat} {t : Tb} {bd : List Nat} {x : AV} (hps : IsPs ps es) (hy : IsSl 6 y es) (w : Rt st a t) (hx : IsW 1 x (encN bd)) (hbl : bd.length ≤ t.bs.length) (hsm : Sm (two rc ps t bd).1) :
    Goes ((orc vE).wide 14 [.mp a 0, .bool rc, y, x] st) fun q => ∃ x1 x2 st', q = (.tup [x1, x2], st') ∧ IsW 1 x1 (encN (two rc ps t bd).2.1) ∧ IsW 1 x2 (encN (two rc ps t bd).2.2) ∧ Rt st' a (two rc ps t bd).1 ∧ Kt (· = a) st st' := by
  refine Goes.wide (Goes.step (w14_eq _ _ _ _ _) ?_)
  simp only [w14, asB_bool, hy.len]
  refine Goes.bind (R := fun c => ∃ y1 y2, c = ([y1, y2], st) ∧ IsSl 6 y1 (es.take 1) ∧ IsSl 6 y2 (es.drop 1)) ?_ ?_
  · by_cases h0 : es.length = 0
    · have hn : es = [] := List.length_eq_zero_iff.1 h0
      subst hn
      have q : ¬ (([] : List AV).length : Int) > 0 := by simp
      simp only [ifB_decide, if_neg q]
      exact Goes.some ⟨_, _, rfl, IsSl.nils, IsSl.nils⟩
    · obtain ⟨⟨y1, h1, e1⟩, y2, h2, e2⟩ := cut1 hy (by omega)
      have q : (es.length : Int) > 0 := by omega
      simp only [ifB_decide, if_pos q, e1, e2]
      exact Goes.some ⟨_, _, rfl, h1, h2⟩
  rintro c ⟨y1, y2, rfl, h1, h2⟩
  simp only [unc_cons, un0_nil]
  have e2 := binders_ext (ps.drop 1) (binders (ps.take 1) t bd).1 (if rc = true then (binders (ps.take 1) t bd).2 else bd)
  have hsm1 : Sm (binders (ps.take 1) t bd).1 := hsm.ext e2
  refine Goes.callW (binders_ok (IsPs.take 1 hps) h1 w hx hbl hsm1) rfl rfl ?_
  rintro v3 s3 ⟨x3, s3', e3, hx3, w3, k3⟩
  cases e3
  have hb3 := len_binders (ps.take 1) t bd hbl
  obtain ⟨z, hz⟩ := (binders_ext (ps.take 1) t bd).bs
  have hb4 : bd.length ≤ (binders (ps.take 1) t bd).1.bs.length := by rw [hz, List.length_append]; omega
  cases rc with
  | true =>
    simp only [two, if_true] at hsm e2 ⊢
    simp only [ifB_true]
    refine Goes.callW (binders_ok (IsPs.drop 1 hps) h2 w3 hx3 hb3 hsm) rfl rfl ?_
    rintro v5 s5 ⟨x5, s5', e5, hx5, w5, k5⟩
    cases e5
    exact Goes.some ⟨_, _, _, rfl, hx3, hx5, w5, k3.trans k5⟩
  | false =>
    simp only [two, if_neg (show ¬ false = true by decide)] at hsm e2 ⊢
    simp only [ifB_false]
    refine Goes.callW (binders_ok (IsPs.drop 1 hps) h2 w3 hx hb4 hsm) rfl rfl ?_
    rintro v5 s5 ⟨x5, s5', e5, hx5, w5, k5⟩
    cases e5
    exact Goes.some ⟨_, _, _, rfl, hx3, hx5, w5, k3.trans k5⟩
/-- Done: a table. -/
def Dn (a : Nat) (st : St) (t' : Tb) (q : AV × St) : Prop := ∃ v' st', q = (v', st') ∧ Rt st' a t' ∧ Kt (· = a) st st'
def ExOk (n : Nat) : Prop := ∀ (e : Exr) (v : AV) (st : St) (a : Nat) (t : Tb) (bd : List Nat) (x : AV), SizeOf.sizeOf e < n → IsE e v → Rt st a t → IsW 1 x (encN bd) → In t bd → bd.length ≤ t.bs.length → Sm (expr e t bd) →
    Goes ((orc vE).wide 15 [.mp a 0, v, x] st) (Dn a st (expr e t bd))
theorem le_ext {t u : Tb} {bd : List Nat} (h : bd.length ≤ t.bs.length) (e : Ext t u) : bd.length ≤ u.bs.length := by
  obtain ⟨z, hz⟩ := e.bs
  rw [hz, List.length_append]; omega
theorem mem_drop {α : Type} {l r : List α} {e : α} {i : Nat} (h : l.drop i = e :: r) : e ∈ l := List.mem_of_mem_drop (by rw [h]; exact List.mem_cons_self)
theorem exprs_of {n : Nat} (ih : ExOk n) {l : List Exr} {es : List AV} {y : AV} {st : St} {a : Nat} {t : Tb} {bd : List Nat} {x : AV} (hsz : ∀ e ∈ l, SizeOf.sizeOf e < n) (hl : IsEs l es) (hy : IsSl 7 y es) (w : Rt st a t) (hx : IsW 1 x (encN bd)) (hin : In t bd) (hbl : bd.length ≤ t.bs.length)
    (hsm : Sm (exprs l t bd)) : Goes ((orc vE).wide 20 [.mp a 0, y, x] st) (Dn a st (exprs l t bd)) := by
  have hyl := hy.1
  refine Goes.wide (Goes.step (w20_eq _ _ _ _) ?_)
  unfold w20
  refine Goes.bind (R := fun c => ∃ s' n', c = (n', [], s') ∧ Rt s' a (exprs l t bd) ∧ Kt (· = a) st s')
    (Goes.upto (n := es.length) (I := fun i s => ∃ s' tj, s = ([.int .i64 (i : Int)], s') ∧ Rt s' a tj ∧ Kt (· = a) st s' ∧ exprs (l.drop i) tj bd = exprs l t bd ∧ Ext t tj) ?_ ?_ es.length 0 _ (by omega) ⟨_, _, rfl, w, Kt.refl _ _, rfl, Ext.refl _⟩) ?_
  · rintro i s hi ⟨s2, tj, rfl, w2, k2, hg, hext⟩
    obtain ⟨q, r, hd⟩ := drop_at (l := l) (i := i) (by rw [← hl.len]; exact hi)
    obtain ⟨v, hv, hQ, _⟩ := hl.get hd
    have hr2 := (drop_cons hd).2.1
    have hq := hsz q (mem_drop hd)
    rw [hd] at hg
    simp only [exprs] at hg
    have hsq : Sm (expr q tj bd) := by
      refine hsm.ext ?_
      rw [← hg]
      exact ext_exprs r _ _
    have hcall := ih q v s2 a tj bd x hq hQ w2 hx (hin.ext hext) (le_ext hbl hext) hsq
    have hlt : (i : Int) < (es.length : Int) := by omega
    have he := hext.trans (ext_expr q tj bd)
    cases q with
    | mk kq spq rq nq qs lq =>
      obtain ⟨yq, eq, zq, fq, rfl, hyq, hqs, hzq, hlq⟩ := hQ.opn
      simp only [w20_L1, unc_cons, asI_int, un0_nil, hy.len, ifB_decide, if_pos hlt, hy.idx hv, AV.cells, loadS_ip, take7, bindO_ok, unA_agg, asS_str, asB_bool]
      refine Goes.callW hcall rfl rfl ?_
      rintro v3 s3 ⟨x3, s3', e3, w3, k3⟩
      cases e3
      simp only [letV_eq, wrap1 hi hyl]
      refine Goes.inl ?_
      exact ⟨_, _, rfl, w3, k2.trans k3, by rw [hr2]; exact hg, he⟩
  · rintro s ⟨s2, tj, rfl, w2, k2, hg, hext⟩
    have hlt : ¬ (es.length : Int) < (es.length : Int) := by omega
    rw [List.drop_eq_nil_of_le (by rw [← hl.len]; exact Nat.le_refl _)] at hg
    simp only [exprs] at hg
    simp only [w20_L1, unc_cons, asI_int, un0_nil, hy.len, ifB_decide, if_neg hlt]
    refine Goes.inr ?_
    rw [← hg]
    exact ⟨_, _, rfl, w2, k2⟩
  · rintro c ⟨s', n', rfl, w', k'⟩
    simp only [un0_nil]
    exact Goes.some ⟨_, _, rfl, w', k'⟩
end Go.Proofs.Ytoopmjhdgkcleaa.Vm
/- The document's expressions. -/
set_option maxRecDepth 100000
set_option linter.unusedSimpArgs false
namespace Go.Proofs.Ytoopmjhdgkcleaa.Vm
open Go Go.VM Go.Proofs Go.Scope

theorem mem_lt {l : List Exr} {e : Exr} {n m : Nat} (h : e ∈ l) (h1 : SizeOf.sizeOf l < m) (h2 : m ≤ n) : SizeOf.sizeOf e < n := by
  have := List.sizeOf_lt_of_mem h
  omega
theorem let_loop {n : Nat} (ih : ExOk n) {ls : List Exr} {fs : List AV} {z : AV} {st : St} {a : Nat} {t : Tb} {b1 b2 : List Nat} {x1 x2 : AV} (hsz : ∀ e ∈ ls, SizeOf.sizeOf e < n) (hl : IsEs ls fs) (hz : IsSl 7 z fs) (w : Rt st a t) (hx1 : IsW 1 x1 (encN b1)) (hx2 : IsW 1 x2 (encN b2))
    (hi1 : In t b1) (hi2 : In t b2) (hb1 : b1.length ≤ t.bs.length) (hb2 : b2.length ≤ t.bs.length) (hsm : Sm (letA ls t b1 b2)) :
    Goes (loopO (w15_L1 (.mp a 0) z x1 x2) ([.int .i64 0], st)) fun c => ∃ s' n', c = (n', [], s') ∧ Rt s' a (letA ls t b1 b2) ∧ Kt (· = a) st s' := by
  have hzl := hz.1
  refine Goes.upto (n := fs.length) (I := fun i s => ∃ s' tj, s = ([.int .i64 (i : Int)], s') ∧ Rt s' a tj ∧ Kt (· = a) st s' ∧ Ext t tj ∧ ((i = 0 ∧ tj = t) ∨ (1 ≤ i ∧ exprs (ls.drop i) tj b1 = letA ls t b1 b2))) ?_ ?_ fs.length 0 _ (by omega) ⟨_, _, rfl, w, Kt.refl _ _, Ext.refl _, .inl ⟨rfl, rfl⟩⟩
  · rintro i s hi ⟨s2, tj, rfl, w2, k2, hext, hg⟩
    obtain ⟨q, r, hd⟩ := drop_at (l := ls) (i := i) (by rw [← hl.len]; exact hi)
    obtain ⟨v, hv, hQ, _⟩ := hl.get hd
    have hr2 := (drop_cons hd).2.1
    have hq := hsz q (mem_drop hd)
    have hlt : (i : Int) < (fs.length : Int) := by omega
    rcases hg with ⟨rfl, rfl⟩ | ⟨h1, hg⟩
    · rw [List.drop_zero] at hd
      subst hd
      simp only [letA] at hsm ⊢
      have hsq : Sm (expr q tj b2) := hsm.ext (ext_exprs r _ _)
      have hcall := ih q v s2 a tj b2 x2 hq hQ w2 hx2 hi2 hb2 hsq
      have he := ext_expr q tj b2
      cases q with
      | mk kq spq rq nq qs lq =>
        obtain ⟨yq, eq, zq, fq, rfl, hyq, hqs, hzq, hlq⟩ := hQ.opn
        have hv0 : fs[0]? = some (AV.agg [.int .u8 (kq : Int), .int .i64 spq.1, .int .i64 spq.2, .bool rq, .str nq, yq, zq]) := hv
        have h0 : ((0 : Nat) : Int) = 0 := rfl
        simp only [w15_L1, unc_cons, asI_int, un0_nil, hz.len, ifB_decide, if_pos hlt, ifB_beq, if_pos h0, hz.idx hv0, AV.cells, loadS_ip, take7, bindO_ok, unA_agg, asS_str, asB_bool]
        refine Goes.bind (R := fun c => ∃ s', c = ([], s') ∧ Rt s' a (expr (.mk kq spq rq nq qs lq) tj b2) ∧ Kt (· = a) st s') ?_ ?_
        · refine Goes.callW hcall rfl rfl ?_
          rintro v3 s3 ⟨x3, s3', e3, w3, k3⟩
          cases e3
          exact Goes.some ⟨_, rfl, w3, k2.trans k3⟩
        · rintro c ⟨s', rfl, w3, k3⟩
          simp only [un0_nil, letV_eq, wrap1 hi hzl]
          refine Goes.inl ?_
          exact ⟨_, _, rfl, w3, k3, he, .inr ⟨Nat.le_refl _, by rw [hr2]⟩⟩
    · rw [hd] at hg
      simp only [exprs] at hg
      have hsq : Sm (expr q tj b1) := by
        refine hsm.ext ?_
        rw [← hg]
        exact ext_exprs r _ _
      have hcall := ih q v s2 a tj b1 x1 hq hQ w2 hx1 (hi1.ext hext) (le_ext hb1 hext) hsq
      have he := hext.trans (ext_expr q tj b1)
      cases q with
      | mk kq spq rq nq qs lq =>
        obtain ⟨yq, eq, zq, fq, rfl, hyq, hqs, hzq, hlq⟩ := hQ.opn
        have h0 : ¬ (i : Int) = 0 := by omega
        simp only [w15_L1, unc_cons, asI_int, un0_nil, hz.len, ifB_decide, if_pos hlt, ifB_beq, if_neg h0, hz.idx hv, AV.cells, loadS_ip, take7, bindO_ok, unA_agg, asS_str, asB_bool]
        refine Goes.bind (R := fun c => ∃ s', c = ([], s') ∧ Rt s' a (expr (.mk kq spq rq nq qs lq) tj b1) ∧ Kt (· = a) st s') ?_ ?_
        · refine Goes.callW hcall rfl rfl ?_
          rintro v3 s3 ⟨x3, s3', e3, w3, k3⟩
          cases e3
          exact Goes.some ⟨_, rfl, w3, k2.trans k3⟩
        · rintro c ⟨s', rfl, w3, k3⟩
          simp only [un0_nil, letV_eq, wrap1 hi hzl]
          refine Goes.inl ?_
          exact ⟨_, _, rfl, w3, k3, he, .inr ⟨by omega, by rw [hr2]; exact hg⟩⟩
  · rintro s ⟨s2, tj, rfl, w2, k2, hext, hg⟩
    have hlt : ¬ (fs.length : Int) < (fs.length : Int) := by omega
    have hfin : tj = letA ls t b1 b2 := by
      rcases hg with ⟨h0, rfl⟩ | ⟨_, hg⟩
      · have : ls = [] := List.length_eq_zero_iff.1 (by rw [← hl.len]; exact h0)
        subst this
        simp only [letA]
      · rw [List.drop_eq_nil_of_le (by rw [← hl.len]; exact Nat.le_refl _)] at hg
        simpa only [exprs] using hg
    simp only [w15_L1, unc_cons, asI_int, un0_nil, hz.len, ifB_decide, if_neg hlt]
    refine Goes.inr ?_
    rw [← hfin]
    exact ⟨_, _, rfl, w2, k2⟩
theorem first_loop {n : Nat} (ih : ExOk n) {ls : List Exr} {ps : List Pat} {fs : List AV} {z : AV} {st : St} {a : Nat} {t : Tb} {bd : List Nat} {x : AV} (hsz : ∀ e ∈ ls, SizeOf.sizeOf e < n) (hl : IsEs ls fs) (hz : IsSl 7 z fs) (w : Rt st a t) (hx : IsW 1 x (encN bd))
    (hin : In t bd) (hbl : bd.length ≤ t.bs.length) (hsm : Sm (matchA ls ps t bd)) :
    Goes (loopO (w15_L2 (.mp a 0) x z) ([.int .i64 0], st)) fun c => ∃ s' n' tj, c = (n', [], s') ∧ Rt s' a tj ∧ Kt (· = a) st s' ∧ Ext t tj ∧ armsA (ls.drop 1) ps tj bd = matchA ls ps t bd := by
  cases ls with
  | nil =>
    simp only [IsEs] at hl
    subst hl
    refine ⟨_, loopO_inr ?_, st, 0, t, rfl, w, Kt.refl _ _, Ext.refl _, by simp only [List.drop_nil, armsA, matchA]⟩
    have q : ¬ (0 : Int) < (([] : List AV).length : Int) := by simp
    simp only [w15_L2, unc_cons, asI_int, un0_nil, hz.len, ifB_decide, if_neg q, bindO_ok, asB_bool, ifB_false]
  | cons q r =>
    have hd : (q :: r).drop 0 = q :: r := rfl
    obtain ⟨v, hv, hQ, _⟩ := hl.get hd
    have hq := hsz q List.mem_cons_self
    simp only [matchA] at hsm ⊢
    have hsq : Sm (expr q t bd) := hsm.ext (ext_arms r ps _ _)
    have hcall := ih q v st a t bd x hq hQ w hx hin hbl hsq
    have he := ext_expr q t bd
    have hpos : 0 < fs.length := by rw [hl.len]; simp
    refine Goes.upto (n := 1) (I := fun i s => ∃ s' tj, s = ([.int .i64 (i : Int)], s') ∧ Rt s' a tj ∧ Kt (· = a) st s' ∧ (i = 0 ∧ tj = t ∧ s' = st ∨ i = 1 ∧ tj = expr q t bd)) ?_ ?_ 1 0 _ (by omega) ⟨_, _, rfl, w, Kt.refl _ _, .inl ⟨rfl, rfl, rfl⟩⟩
    · rintro i s hi ⟨s2, tj, rfl, w2, k2, hg⟩
      rcases hg with ⟨rfl, rfl, rfl⟩ | ⟨h1, _⟩
      · cases q with
        | mk kq spq rq nq qs lq =>
          obtain ⟨yq, eq, zq, fq, rfl, hyq, hqs, hzq, hlq⟩ := hQ.opn
          have q1 : ((0 : Nat) : Int) < (fs.length : Int) := by omega
          have q2 : ((0 : Nat) : Int) < 1 := by omega
          simp only [w15_L2, unc_cons, asI_int, un0_nil, hz.len, ifB_decide, if_pos q1, if_pos q2, hz.idx hv, AV.cells, loadS_ip, take7, bindO_ok, unA_agg, asS_str, asB_bool]
          refine Goes.callW hcall rfl rfl ?_
          rintro v3 s3 ⟨x3, s3', e3, w3, k3⟩
          cases e3
          simp only [letV_eq, wrap1 (i := 0) (n := 1) (by omega) (by omega)]
          refine Goes.inl ?_
          exact ⟨_, _, rfl, w3, k3, .inr ⟨trivial, rfl⟩⟩
      · omega
    · rintro s ⟨s2, tj, rfl, w2, k2, hg⟩
      rcases hg with ⟨h1, _⟩ | ⟨_, rfl⟩
      · omega
      · have q2 : ¬ ((1 : Nat) : Int) < 1 := by omega
        have e1 : (if ((1 : Nat) : Int) < (fs.length : Int) then some ([AV.bool (decide (((1 : Nat) : Int) < 1))], s2) else some ([AV.bool false], s2)) = some ([AV.bool false], s2) := by
          rw [decide_eq_false q2]
          split <;> rfl
        simp only [w15_L2, unc_cons, asI_int, un0_nil, hz.len, ifB_decide, e1, bindO_ok, asB_bool, ifB_false]
        refine Goes.inr ?_
        exact ⟨_, _, _, rfl, w2, k2, he, rfl⟩
theorem cut_one {z : Nat} {x : AV} {es : List AV} (h : IsSl z x es) {i : Nat} (hi : i < es.length) : ∃ x', IsSl z x' ((es.take (i + 1)).drop i) ∧ ∀ {β : Type} (K : AV → Option β), sliceS z x (some (i : Int)) (some ((i + 1 : Nat) : Int)) none K = K x' :=
  h.cut (lo := some (i : Int)) (hi := some ((i + 1 : Nat) : Int)) (l := i) (m := i + 1) (hiO_nat (by omega)) (hiO_nat (by omega))
theorem take_drop_one {α : Type} {l r : List α} {p : α} {i : Nat} (h : l.drop i = p :: r) : (l.take (i + 1)).drop i = [p] := by
  have h1 : (l.take (i + 1)).drop i = (l.drop i).take 1 := by rw [List.drop_take]; congr 1; omega
  rw [h1, h]; rfl
theorem arms_loop {n : Nat} (ih : ExOk n) {ls : List Exr} {ps : List Pat} {es fs : List AV} {y z : AV} {st : St} {a : Nat} {t : Tb} {bd : List Nat} {x : AV} (hsz : ∀ e ∈ ls, SizeOf.sizeOf e < n) (hps : IsPs ps es) (hy : IsSl 6 y es) (hl : IsEs ls fs) (hz : IsSl 7 z fs) (w : Rt st a t) (hx : IsW 1 x (encN bd))
    (hin : In t bd) (hbl : bd.length ≤ t.bs.length) (hfew : ps.length ≤ 100000000) (hsm : Sm (armsA (ls.drop 1) ps t bd)) :
    Goes (loopO (w15_L3 (.mp a 0) x y z) ([.int .i64 0], st)) fun c => ∃ s' n', c = (n', [], s') ∧ Rt s' a (armsA (ls.drop 1) ps t bd) ∧ Kt (· = a) st s' := by
  have hzl := hz.1
  have hyl := hy.1
  refine Goes.upto (n := max es.length (fs.length - 1)) (I := fun i s => ∃ s' tj, s = ([.int .i64 (i : Int)], s') ∧ Rt s' a tj ∧ Kt (· = a) st s' ∧ Ext t tj ∧ armsA (ls.drop (i + 1)) (ps.drop i) tj bd = armsA (ls.drop 1) ps t bd) ?_ ?_ (max es.length (fs.length - 1)) 0 _ (by omega) ⟨_, _, rfl, w, Kt.refl _ _, Ext.refl _, rfl⟩
  · rintro i s hi ⟨s2, tj, rfl, w2, k2, hext, hg⟩
    have hlen := hl.len
    have hplen := hps.len
    have wi : IntKind.wrap .i64 ((i : Int) + 1) = ((i + 1 : Nat) : Int) := wrapA1 (by omega)
    have hguard : (if (i : Int) < (es.length : Int) then some ([AV.bool true], s2) else some ([AV.bool (decide (((i + 1 : Nat) : Int) < (fs.length : Int)))], s2)) = some ([AV.bool true], s2) := by
      by_cases h1 : (i : Int) < (es.length : Int)
      · rw [if_pos h1]
      · rw [if_neg h1, decide_eq_true (by omega)]
    simp only [w15_L3, unc_cons, asI_int, un0_nil, hy.len, hz.len, letV_eq, wi, ifB_decide, hguard, bindO_ok, asB_bool, ifB_true]
    -- the pattern
    have first : ∃ (tk : Tb) (bk : List Nat), (match ps.drop i with | [] => (tj, bd) | p :: _ => binders [p] tj bd) = (tk, bk) ∧ Ext tj tk ∧ In tk bk ∧ bk.length ≤ tk.bs.length := by
      have hi1 := hin.ext hext
      have hb1 := le_ext hbl hext
      cases hd : ps.drop i with
      | nil => exact ⟨tj, bd, rfl, Ext.refl _, hi1, hb1⟩
      | cons p r => exact ⟨(binders [p] tj bd).1, (binders [p] tj bd).2, rfl, binders_ext [p] tj bd, in_binders hi1, len_binders [p] tj bd hb1⟩
    obtain ⟨tk, bk, hk, hek, hik, hbk⟩ := first
    have hfin : armsA (ls.drop (i + 1)) (ps.drop i) tj bd = (match ls.drop (i + 1) with | [] => alls ((ps.drop i).drop 1) tk bd | e :: r => armsA r ((ps.drop i).drop 1) (expr e tk bk) bd) := by
      cases hP : ps.drop i with
      | nil =>
        rw [hP] at hk
        cases hk
        cases ls.drop (i + 1) with
        | nil => simp only [armsA, alls, List.drop_nil]
        | cons e r => simp only [armsA, List.drop_nil]
      | cons p r =>
        rw [hP] at hk
        simp only at hk
        cases ls.drop (i + 1) with
        | nil => simp only [armsA, alls, List.drop_succ_cons, List.drop_zero, hk]
        | cons e r => simp only [armsA, List.drop_succ_cons, List.drop_zero, hk]
    rw [hg] at hfin
    refine Goes.bind (R := fun c => ∃ x' s', c = ([x'], s') ∧ IsW 1 x' (encN bk) ∧ Rt s' a tk ∧ Kt (· = a) st s') ?_ ?_
    · by_cases hp : i < es.length
      · obtain ⟨p, r, hd⟩ := drop_at (l := ps) (i := i) (by omega)
        obtain ⟨y', hy', ey⟩ := cut_one hy hp
        have hps' : IsPs [p] ((es.take (i + 1)).drop i) := by
          rw [← take_drop_one hd]
          exact IsPs.drop i (IsPs.take (i + 1) hps)
        rw [hd] at hk
        simp only at hk
        have hq : (i : Int) < (es.length : Int) := by omega
        simp only [if_pos hq, ey]
        have hsk : Sm tk := by
          refine hsm.ext ?_
          rw [hfin]
          cases ls.drop (i + 1) with
          | nil => exact ext_alls _ _ _
          | cons e r => exact (ext_expr e tk bk).trans (ext_arms r _ _ _)
        have hkk : (binders [p] tj bd).1 = tk ∧ (binders [p] tj bd).2 = bk := by rw [hk]; exact ⟨rfl, rfl⟩
        refine Goes.callW (binders_ok hps' hy' w2 hx (le_ext hbl hext) (by rw [hkk.1]; exact hsk)) rfl rfl ?_
        rintro v3 s3 ⟨x3, s3', e3, hx3, w3, k3⟩
        cases e3
        rw [hkk.1] at w3
        rw [hkk.2] at hx3
        exact Goes.some ⟨_, _, rfl, hx3, w3, k2.trans k3⟩
      · have hq : ¬ (i : Int) < (es.length : Int) := by omega
        rw [List.drop_eq_nil_of_le (by omega)] at hk
        cases hk
        simp only [if_neg hq]
        exact Goes.some ⟨_, _, rfl, hx, w2, k2⟩
    rintro c ⟨x1, s1, rfl, hx1, w1, k1⟩
    simp only [unc_cons, un0_nil]
    -- the arm
    refine Goes.bind (R := fun c => ∃ s' tl, c = ([], s') ∧ Rt s' a tl ∧ Kt (· = a) st s' ∧ Ext tk tl ∧ armsA (ls.drop (i + 1 + 1)) (ps.drop (i + 1)) tl bd = armsA (ls.drop 1) ps t bd) ?_ ?_
    · have hdd : (ps.drop i).drop 1 = ps.drop (i + 1) := by rw [List.drop_drop]
      rw [hdd] at hfin
      by_cases hp : i + 1 < fs.length
      · obtain ⟨q, r, hd⟩ := drop_at (l := ls) (i := i + 1) (by omega)
        obtain ⟨v, hv, hQ, _⟩ := hl.get hd
        have hr2 := (drop_cons hd).2.1
        have hq := hsz q (mem_drop hd)
        rw [hd] at hfin
        simp only at hfin
        have hsq : Sm (expr q tk bk) := by
          refine hsm.ext ?_
          rw [hfin]
          exact ext_arms r _ _ _
        have hcall := ih q v s1 a tk bk x1 hq hQ w1 hx1 hik hbk hsq
        have hlt : ((i + 1 : Nat) : Int) < (fs.length : Int) := by omega
        have he := ext_expr q tk bk
        cases q with
        | mk kq spq rq nq qs lq =>
          obtain ⟨yq, eq, zq, fq, rfl, hyq, hqs, hzq, hlq⟩ := hQ.opn
          simp only [if_pos hlt, hz.idx hv, AV.cells, loadS_ip, take7, bindO_ok, unA_agg, unc_cons, asI_int, asS_str, asB_bool, un0_nil]
          refine Goes.callW hcall rfl rfl ?_
          rintro v3 s3 ⟨x3, s3', e3, w3, k3⟩
          cases e3
          exact Goes.some ⟨_, _, rfl, w3, k1.trans k3, he, by rw [hr2]; exact hfin.symm⟩
      · have hlt : ¬ ((i + 1 : Nat) : Int) < (fs.length : Int) := by omega
        simp only [if_neg hlt]
        refine Goes.some ⟨_, _, rfl, w1, k1, Ext.refl _, ?_⟩
        have hnil : ls.drop (i + 1) = [] := List.drop_eq_nil_of_le (by omega)
        have hnil2 : ls.drop (i + 1 + 1) = [] := List.drop_eq_nil_of_le (by omega)
        rw [hnil] at hfin
        rw [hnil2]
        simp only at hfin
        simp only [armsA]
        exact hfin.symm
    rintro c ⟨s', tl, rfl, w', k', he', hg'⟩
    simp only [un0_nil]
    refine Goes.inl ?_
    exact ⟨_, _, rfl, w', k', (hext.trans hek).trans he', hg'⟩
  · rintro s ⟨s2, tj, rfl, w2, k2, hext, hg⟩
    have hlen := hl.len
    have hplen := hps.len
    have h1 : ¬ ((max es.length (fs.length - 1) : Nat) : Int) < (es.length : Int) := by omega
    have h2 : ¬ ((max es.length (fs.length - 1) + 1 : Nat) : Int) < (fs.length : Int) := by omega
    have wi : IntKind.wrap .i64 (((max es.length (fs.length - 1) : Nat) : Int) + 1) = ((max es.length (fs.length - 1) + 1 : Nat) : Int) := wrapA1 (by omega)
    rw [List.drop_eq_nil_of_le (show ls.length ≤ max es.length (fs.length - 1) + 1 by omega), List.drop_eq_nil_of_le (show ps.length ≤ max es.length (fs.length - 1) by omega)] at hg
    simp only [armsA, alls] at hg
    simp only [w15_L3, unc_cons, asI_int, un0_nil, hy.len, hz.len, letV_eq, wi, ifB_decide, if_neg h1, decide_eq_false h2, bindO_ok, asB_bool, ifB_false]
    refine Goes.inr ?_
    rw [← hg]
    exact ⟨_, _, rfl, w2, k2⟩
end Go.Proofs.Ytoopmjhdgkcleaa.Vm
/- The document's table. -/
set_option maxRecDepth 100000
set_option linter.unusedSimpArgs false
namespace Go.Proofs.Ytoopmjhdgkcleaa.Vm
open Go Go.VM Go.Proofs Go.Scope

theorem ext_letA (ls : List Exr) (t : Tb) (b1 b2 : List Nat) : Ext t (letA ls t b1 b2) := by
  cases ls with
  | nil => simp only [letA]; exact Ext.refl t
  | cons a r => simp only [letA]; exact (ext_expr a _ _).trans (ext_exprs r _ _)
theorem in_two {rc : Bool} {ps : List Pat} {t : Tb} {bd : List Nat} (h : In t bd) : In (two rc ps t bd).1 (two rc ps t bd).2.1 ∧ In (two rc ps t bd).1 (two rc ps t bd).2.2 := by
  have h3 := two_inv (I := In) (rc := rc) (ps := ps) (fun fr nm sp u b _ hb => in_bind fr nm sp u b hb) (fun u v b c e hb _ => hb.ext e) (fun ps u b _ => binders_ext ps u b) h
  exact ⟨h3.1, h3.2.1⟩
theorem len_two {rc : Bool} {ps : List Pat} {t : Tb} {bd : List Nat} (h : bd.length ≤ t.bs.length) : (two rc ps t bd).2.1.length ≤ (two rc ps t bd).1.bs.length ∧ (two rc ps t bd).2.2.length ≤ (two rc ps t bd).1.bs.length := by
  have h3 := two_inv (I := fun u b => b.length ≤ u.bs.length) (rc := rc) (ps := ps) (fun fr nm sp u b _ hb => len_bind fr nm sp u b hb) (fun u v b c e hb _ => le_ext hb e) (fun ps u b _ => binders_ext ps u b) h
  exact ⟨h3.1, h3.2.1⟩
theorem expr_ok : ∀ n, ExOk n := by
  intro n
  induction n with
  | zero => intro e v st a t bd x h; omega
  | succ n ih =>
    intro e v st a t bd x h hE w hx hin hbl hsm
    cases e with
    | mk k sp rc nm ps ls =>
      obtain ⟨y, es, z, fs, rfl, hy, hps, hz, hl⟩ := hE.opn
      have hfew := hE.few
      simp only [Exr.mk.sizeOf_spec] at h
      have hsz : ∀ e ∈ ls, SizeOf.sizeOf e < n := fun e he => mem_lt he (show SizeOf.sizeOf ls < n by omega) (Nat.le_refl _)
      refine Goes.wide (Goes.step (w15_eq _ _ _ _) ?_)
      simp only [w15, unA_agg, unc_cons, asI_int, asS_str, asB_bool, un0_nil, hy.asOne, hz.asOne, hy.fit1, hz.fit1]
      refine Goes.bind (R := fun c => ∃ s', c = ([], s') ∧ Rt s' a (expr (.mk k sp rc nm ps ls) t bd) ∧ Kt (· = a) st s') ?_ ?_
      · by_cases h11 : k = 11
        · have q : (k : Int) = 11 := by omega
          simp only [expr, if_pos h11] at hsm ⊢
          simp only [ifB_beq, if_pos q]
          have hsm1 : Sm (binders ps t bd).1 := hsm.ext (ext_exprs ls _ _)
          refine Goes.callW (binders_ok hps hy w hx hbl hsm1) rfl rfl ?_
          rintro v3 s3 ⟨x3, s3', e3, hx3, w3, k3⟩
          cases e3
          refine Goes.step (chk_of (by simp only [apart_all0, Bool.and_self]) _) ?_
          refine Goes.callW (exprs_of ih hsz hl hz w3 hx3 (in_binders hin) (len_binders ps t bd hbl) hsm) rfl rfl ?_
          rintro v5 s5 ⟨x5, s5', e5, w5, k5⟩
          cases e5
          exact Goes.some ⟨_, rfl, w5, k3.trans k5⟩
        have q : ¬ (k : Int) = 11 := by omega
        simp only [ifB_beq, if_neg q]
        by_cases h14 : k = 14
        · have q4 : (k : Int) = 14 := by omega
          simp only [expr, if_neg h11, if_pos h14] at hsm ⊢
          simp only [if_pos q4]
          refine Goes.bind (R := fun c => ∃ s', c = ([], s') ∧ Rt s' a (letA ls (two rc ps t bd).1 (two rc ps t bd).2.1 (two rc ps t bd).2.2) ∧ Kt (· = a) st s') ?_ ?_
          · refine Goes.callW (two_ok hps hy w hx hbl (hsm.ext (ext_letA _ _ _ _))) rfl rfl ?_
            rintro v3 s3 ⟨x1, x2, s3', e3, hx1, hx2, w3, k3⟩
            cases e3
            simp only [unT_tup, nthS_zero, nthS_one]
            refine Goes.bind (let_loop ih hsz hl hz w3 hx1 hx2 (in_two hin).1 (in_two hin).2 (len_two hbl).1 (len_two hbl).2 hsm) ?_
            rintro c ⟨s5, n5, rfl, w5, k5⟩
            simp only [un0_nil]
            exact Goes.some ⟨_, rfl, w5, k3.trans k5⟩
          · rintro c ⟨s', rfl, w', k'⟩
            simp only [un0_nil]
            exact Goes.some ⟨_, rfl, w', k'⟩
        have q4 : ¬ (k : Int) = 14 := by omega
        simp only [if_neg q4]
        by_cases h13 : k = 13
        · have q3 : (k : Int) = 13 := by omega
          simp only [expr, if_neg h11, if_neg h14, if_pos h13] at hsm ⊢
          simp only [if_pos q3]
          refine Goes.bind (R := fun c => ∃ s', c = ([], s') ∧ Rt s' a (matchA ls ps t bd) ∧ Kt (· = a) st s') (Goes.bind (R := fun c => ∃ s', c = ([], s') ∧ Rt s' a (matchA ls ps t bd) ∧ Kt (· = a) st s') ?_ ?_) ?_
          · refine Goes.bind (first_loop ih (ps := ps) hsz hl hz w hx hin hbl hsm) ?_
            rintro c ⟨s3, n3, tj, rfl, w3, k3, hext, hfin⟩
            simp only [un0_nil]
            rw [← hfin] at hsm ⊢
            refine Goes.bind (arms_loop ih hsz hps hy hl hz w3 hx (hin.ext hext) (le_ext hbl hext) hfew hsm) ?_
            rintro c ⟨s5, n5, rfl, w5, k5⟩
            simp only [un0_nil]
            exact Goes.some ⟨_, rfl, w5, k3.trans k5⟩
          · rintro c ⟨s', rfl, w', k'⟩
            simp only [un0_nil]
            exact Goes.some ⟨_, rfl, w', k'⟩
          · rintro c ⟨s', rfl, w', k'⟩
            simp only [un0_nil]
            exact Goes.some ⟨_, rfl, w', k'⟩
        have q3 : ¬ (k : Int) = 13 := by omega
        simp only [if_neg q3]
        simp only [expr, if_neg h11, if_neg h14, if_neg h13] at hsm ⊢
        refine Goes.bind (R := fun c => ∃ s', c = ([], s') ∧ Rt s' a (exprs ls (if k = 1 then useT nm sp t bd else t) bd) ∧ Kt (· = a) st s') (Goes.bind (R := fun c => ∃ s', c = ([], s') ∧ Rt s' a (exprs ls (if k = 1 then useT nm sp t bd else t) bd) ∧ Kt (· = a) st s') ?_ ?_) ?_
        · refine Goes.bind (R := fun c => ∃ s', c = ([], s') ∧ Rt s' a (if k = 1 then useT nm sp t bd else t) ∧ Kt (· = a) st s') ?_ ?_
          · by_cases h1 : k = 1
            · have q1 : (k : Int) = 1 := by omega
              simp only [if_pos q1, if_pos h1] at hsm ⊢
              obtain ⟨xb, xu, xt, hg, ob, ou, ot⟩ := w.ex
              have hsu : Sm (useT nm sp t bd) := hsm.ext (ext_exprs ls _ _)
              have hul : t.us.length ≤ 100000000 := by
                have := hsu.us
                simp only [useT, List.length_append] at this
                omega
              have c1 := fun {γ : Type} (K : Kv γ) => call_means w nm hx hin K
              obtain ⟨v', s1, fx, s2, fx2, hfine, hone, w2, k2, e1, e2⟩ := w.pushU hul nm sp (means t.bs nm bd) hg ob ou ot
              have has : ∀ l, apart ⟨l, .kept⟩ ⟨[], .looked⟩ = true := fun _ => rfl
              simp only [notNil_mp, chk_true, fldA_mp, Nat.zero_add, loadS_mp hg, List.drop_succ_cons, List.drop_zero, takeO_one, bindO_ok, c1, asI_int, has, Bool.and_self, e1, hfine.l0, asOne_of hone, e2]
              exact Goes.some ⟨_, rfl, w2, k2⟩
            · have q1 : ¬ (k : Int) = 1 := by omega
              simp only [if_neg q1, if_neg h1] at hsm ⊢
              exact Goes.some ⟨_, rfl, w, Kt.refl _ _⟩
          rintro c ⟨s3, rfl, w3, k3⟩
          simp only [un0_nil]
          have hext : Ext t (if k = 1 then useT nm sp t bd else t) := by
            split
            · exact ⟨⟨[], by simp [useT]⟩, ⟨_, rfl⟩, ⟨[], by simp [useT]⟩⟩
            · exact Ext.refl t
          refine Goes.callW (exprs_of ih hsz hl hz w3 hx (hin.ext hext) (le_ext hbl hext) hsm) rfl rfl ?_
          rintro v5 s5 ⟨x5, s5', e5, w5, k5⟩
          cases e5
          exact Goes.some ⟨_, rfl, w5, k3.trans k5⟩
        · rintro c ⟨s', rfl, w', k'⟩
          simp only [un0_nil]
          exact Goes.some ⟨_, rfl, w', k'⟩
        · rintro c ⟨s', rfl, w', k'⟩
          simp only [un0_nil]
          exact Goes.some ⟨_, rfl, w', k'⟩
      · rintro c ⟨s', rfl, w', k'⟩
        simp only [un0_nil]
        exact Goes.some ⟨_, _, rfl, w', k'⟩
/-- A table, as a value. -/
def IsTb (t : Tb) (v : AV) : Prop := ∃ yb yu yt, v = .agg [yb, yu, yt] ∧ IsSl 3 yb (encB t.bs) ∧ IsSl 4 yu (encU t.us) ∧ IsSl 1 yt (encN t.tw)
theorem frz3 {st : St} {t1 t2 t3 : TypeId} {xb xu xt : AV} {eb eu et : List AV} (ob : Own st 3 t1 xb eb) (ou : Own st 4 t2 xu eu) (ot : Own st 1 t3 xt et) :
    ∃ yb yu yt, IsSl 3 yb eb ∧ IsSl 4 yu eu ∧ IsSl 1 yt et ∧ ∀ {β : Type} (K : AV → Option β), frzS st 0 (.agg [xb, xu, xt]) K = K (.agg [yb, yu, yt]) := by
  obtain ⟨yb, hb, e1⟩ := own_freeze ob
  obtain ⟨yu, hu, e2⟩ := own_freeze ou
  obtain ⟨yt, ht, e3⟩ := own_freeze ot
  refine ⟨yb, yu, yt, hb, hu, ht, fun K => ?_⟩
  have e4 : VM.freeze st 0 100 (.agg [xb, xu, xt]) = .ok (.agg [yb, yu, yt]) := by
    show (do pure (.agg (← allE (VM.freeze st 0 99) [xb, xu, xt])) : Res AV) = _
    have e5 : allE (VM.freeze st 0 99) [xb, xu, xt] = .ok [yb, yu, yt] := by
      simp only [allE, e1 98, e2 98, e3 98, ok_bind, pure_eq]
    rw [e5]; rfl
  have e5 : bare (.agg [yb, yu, yt]) = true := by
    show (bare yb && (bare yu && (bare yt && true))) = true
    rw [hb.bare, hu.bare, ht.bare]; rfl
  simp only [frzS, e4, e5, chk_true]
theorem take3 {a b c : AV} : takeO 3 true [a, b, c] = some (.agg [a, b, c]) := takeO_all rfl
theorem take11 {a b c d e f g h i j k : AV} : takeO 11 true [a, b, c, d, e, f, g, h, i, j, k] = some (.agg [a, b, c, d, e, f, g, h, i, j, k]) := takeO_all rfl
/-- The end: a table, written to the result and frozen. -/
theorem table_end {TT TB TU TI T0 : TypeId} {st : St} {t : Tb} (w : Td TT TB TU TI st 1 t) {o1 o2 o3 : AV} (h0 : st.get 0 = .ok (.cells T0 [o1, o2, o3])) (hr : st.ro = 0) :
    ∃ xb xu xt s2 fx v, VM.one xb = true ∧ VM.one xu = true ∧ VM.one xt = true ∧ IsTb t v ∧ st.get 1 = .ok (.cells TT [xb, xu, xt]) ∧ s2.get 0 = .ok (.cells T0 [xb, xu, xt]) ∧ (∀ {β : Type} (K : Kv β), storeS (orc vE) 3 (.mp 0 0) (.agg [xb, xu, xt]) [xb, xu, xt] st K = K VM.undef s2 fx) ∧
      ∀ {β : Type} (K : AV → Option β), frzS s2 0 (.agg [xb, xu, xt]) K = K v := by
  obtain ⟨xb, xu, xt, hg, ob, ou, ot⟩ := w.ex
  obtain ⟨yb, yu, yt, hb, hu, ht, e⟩ := frz3 (ob.put h0 (t' := T0) (cs' := [xb, xu, xt])) (ou.put h0) (ot.put h0)
  exact ⟨xb, xu, xt, _, _, _, ob.one, ou.one, ot.one, ⟨yb, yu, yt, rfl, hb, hu, ht⟩, hg, St.get_put_same (St.get_ok.1 h0).1, fun K => storeS_at (cs := [xb, xu, xt]) (z := 3) h0 rfl (Nat.le_of_ble_eq_true rfl) (by rw [hr]; exact Nat.le_refl _) K, e⟩
/-- Where it begins: two tables with nothing in them. -/
abbrev T2 (t0 t1 : TypeId) : St := St.mk 2 0 (Tr.node (some (VM.Obj.cells t0 [AV.nils, AV.nils, AV.nils])) (Tr.node (some (VM.Obj.cells t1 [AV.nils, AV.nils, AV.nils])) Tr.leaf Tr.leaf) Tr.leaf)
theorem start2 {TB TU TI t0 t1 : TypeId} (hne : TB ≠ TU ∧ TB ≠ TI ∧ TU ≠ TI) : Td t1 TB TU TI (T2 t0 t1) 1 Tb.none ∧ (T2 t0 t1).get 0 = .ok (.cells t0 [.nils, .nils, .nils]) :=
  ⟨⟨hne, Nat.zero_le _, _, _, _, rfl, Own.nils (Nat.zero_le _) 3 TB, Own.nils (Nat.zero_le _) 4 TU, Own.nils (Nat.zero_le _) 1 TI⟩, rfl⟩
theorem ref_of_ok {l : List Bd} {es : List AV} {x : AV} (hl : IsDs l es) (hx : IsSl 11 x es) (hsm : Sm (ofS l)) : Goes ((orc vE).bare 8 [x]) (IsTb (ofS l)) := by
  have hxl := hx.1
  refine Goes.bare rfl (Goes.step (g8_eq _) ?_)
  unfold g8
  obtain ⟨w0, g0⟩ := start2 (t0 := 29) (t1 := 29) (TB := 49) (TU := 51) (TI := 3) (by decide)
  refine Goes.bind (R := fun c => ∃ s' n', c = (n', [], s') ∧ Rt s' 1 (ofS l) ∧ Kt (· = 1) (T2 29 29) s')
    (Goes.upto (n := es.length) (I := fun i s => ∃ xr s' tj row, s = ([xr, .int .i64 (i : Int)], s') ∧ IsW 1 xr (encN row) ∧ Rt s' 1 tj ∧ Kt (· = 1) (T2 29 29) s' ∧ decls (l.drop i) tj row = ofS l ∧ In tj row ∧ row.length ≤ tj.bs.length) ?_ ?_ es.length 0 _ (by omega)
      ⟨.nils, _, _, [], rfl, .inl IsSl.nils, w0, Kt.refl _ _, rfl, (fun _ h => by cases h), Nat.zero_le _⟩) ?_
  · rintro i s hi ⟨xr, s2, tj, row, rfl, hxr, w2, k2, hg, hin, hbl⟩
    obtain ⟨d, r, hd⟩ := drop_at (l := l) (i := i) (by rw [← hl.len]; exact hi)
    obtain ⟨v, hv, hD, _⟩ := hl.get hd
    have hr2 := (drop_cons hd).2.1
    rw [hd] at hg
    simp only [decls] at hg
    obtain ⟨k, sp, rc, nm, qs, ls, x1, es1, y, fs, z, hs, hb, rfl, hx1, hp1, hy, hq, hz, hl1, hE⟩ := hD.opn
    have hsm2 : Sm (expr d.body (two d.rc d.ps tj row).1 (two d.rc d.ps tj row).2.2) := by
      refine hsm.ext ?_
      rw [← hg]
      exact ext_decls r _ _
    have hsm1 : Sm (two d.rc d.ps tj row).1 := hsm2.ext (ext_expr _ _ _)
    have hlt : (i : Int) < (es.length : Int) := by omega
    simp only [g8_L1, unc_cons, asI_int, un0_nil, hx.len, ifB_decide, if_pos hlt, hx.idx hv, AV.cells, fldA_ip, List.drop_succ_cons, List.drop_zero, loadS_ip, takeO_one, bindO_ok, asB_bool]
    refine Goes.callW (two_ok hp1 hx1 w2 hxr hbl hsm1) rfl rfl ?_
    rintro v3 s3 ⟨x3, x4, s3', e3, hx3, hx4, w3, k3⟩
    cases e3
    simp only [unT_tup, nthS_zero, nthS_one, take7, bindO_ok, unA_agg, unc_cons, asI_int, asB_bool, asS_str, un0_nil]
    rw [← hb] at hE
    refine Goes.callW (expr_ok _ d.body _ s3 1 _ _ x4 (Nat.lt_succ_self _) hE w3 hx4 (in_two hin).2 (len_two hbl).2 hsm2) rfl rfl ?_
    rintro v5 s5 ⟨x5, s5', e5, w5, k5⟩
    cases e5
    simp only [letV_eq, wrap1 hi hxl]
    refine Goes.inl ?_
    have he := ext_expr d.body (two d.rc d.ps tj row).1 (two d.rc d.ps tj row).2.2
    exact ⟨_, _, _, _, rfl, hx3, w5, (k2.trans k3).trans k5, by rw [hr2]; exact hg, (in_two hin).1.ext he, le_ext (len_two hbl).1 he⟩
  · rintro s ⟨xr, s2, tj, row, rfl, hxr, w2, k2, hg, hin, hbl⟩
    have hlt : ¬ (es.length : Int) < (es.length : Int) := by omega
    rw [List.drop_eq_nil_of_le (by rw [← hl.len]; exact Nat.le_refl _)] at hg
    simp only [decls] at hg
    simp only [g8_L1, unc_cons, asI_int, un0_nil, hx.len, ifB_decide, if_neg hlt]
    refine Goes.inr ?_
    rw [← hg]
    exact ⟨_, _, rfl, w2, k2⟩
  · rintro c ⟨s', n', rfl, w', k'⟩
    have h0 := k'.cells (by omega) g0
    obtain ⟨xb, xu, xt, s2, fx, v, o1, o2, o3, hv, hg, hg2, e1, e2⟩ := table_end w' h0 k'.ro
    simp only [un0_nil, loadS_mp hg, List.drop_zero, take3, bindO_ok, unA_agg, unc_cons, asOne_of o1, asOne_of o2, asOne_of o3, e1, loadS_mp hg2, e2]
    exact Goes.some hv
end Go.Proofs.Ytoopmjhdgkcleaa.Vm
/- What a name means (the program's): frames. -/
set_option maxRecDepth 100000
set_option linter.unusedSimpArgs false
namespace Go.Proofs.Ytoopmjhdgkcleaa.Vm
open Go Go.VM Go.Proofs Go.Scope

/-- The first place of a text. -/
def idxS (s : List UInt8) : List (List UInt8) → Nat → Option Nat
  | [], _ => none
  | t :: l, j => if s = t then some j else idxS s l (j + 1)
theorem idxS_any (s : List UInt8) : ∀ (l : List (List UInt8)) (j : Nat), (idxS s l j).isSome = l.any fun t => t == s
  | [], _ => rfl
  | t :: l, j => by
    simp only [idxS, List.any_cons]
    by_cases h : s = t
    · rw [if_pos h, h]; simp
    · rw [if_neg h, idxS_any s l (j + 1), beq_eq_false_iff_ne.2 (fun e => h e.symm), Bool.false_or]
theorem str_idx {x : AV} {ss : List (List UInt8)} (h : IsSl 1 x (ss.map AV.str)) {j : Nat} {s : List UInt8} (hj : ss[j]? = some s) {β : Type} (st : St) (K : AV → List Nat → Option β) : idxA 1 x (j : Int) st K = K (.ip [.str s]) [] :=
  h.idx (v := .str s) (by rw [List.getElem?_map, hj]; rfl) st K
theorem index_loop {x : AV} {ss : List (List UInt8)} (hx : IsSl 1 x (ss.map AV.str)) (s : List UInt8) (st : St) : ∀ (l : List (List UInt8)) (j : Nat), ss.drop j = l →
    loopO (g25_L1 x s ss.length) ([.int .i64 0, .int .i64 (j : Int)], st) = (match idxS s l j with | some k => some (1, [.int .i64 (k : Int)], st) | none => some (0, [.int .i64 0], st))
  | [], j, hd => by
    have := List.drop_eq_nil_iff.1 hd
    have q : ¬ (j : Int) < (ss.length : Int) := by omega
    refine loopO_inr ?_
    simp only [g25_L1, unc_cons, asI_int, un0_nil, ifB_decide, if_neg q]
  | t :: l, j, hd => by
    obtain ⟨hg, hr, hlt⟩ := drop_cons hd
    have q : (j : Int) < (ss.length : Int) := by omega
    have hlen := hx.1
    rw [List.length_map] at hlen
    simp only [idxS]
    by_cases h : s = t
    · rw [if_pos h]
      refine loopO_inr ?_
      have hb : (s == t) = true := by simp [h]
      simp only [g25_L1, unc_cons, asI_int, un0_nil, ifB_decide, if_pos q, str_idx hx hg, loadS_ip, takeO_one, bindO_ok, asS_str, hb, ifB_true]
    · rw [if_neg h, loopO_inl (s' := ([.int .i64 0, .int .i64 ((j + 1 : Nat) : Int)], st)), index_loop hx s st l (j + 1) hr]
      have hb : (s == t) = false := beq_eq_false_iff_ne.2 h
      simp only [g25_L1, unc_cons, asI_int, un0_nil, ifB_decide, if_pos q, str_idx hx hg, loadS_ip, takeO_one, bindO_ok, asS_str, hb, ifB_false, letV_eq, wrapA1 (show j + 1 ≤ 9223372036854775807 by omega)]
theorem contains_ok {x : AV} {ss : List (List UInt8)} (hx : IsSl 1 x (ss.map AV.str)) (s : List UInt8) : (orc vE).bare 23 [x, .str s] = some (.bool (ss.any fun t => t == s)) := by
  have hi : ∃ n : Int, (orc vE).bare 25 [x, .str s] = some (.int .i64 n) ∧ decide (n ≥ 0) = ss.any fun t => t == s := by
    have e := index_loop hx s (St.mk 0 0 Tr.leaf) ss 0 rfl
    have e : loopO (g25_L1 x s ss.length) ([.int .i64 0, .int .i64 0], St.mk 0 0 Tr.leaf) = _ := e
    have hl := fun {β : Type} (K : Nat → Option β) => hx.len K
    simp only [List.length_map] at hl
    rw [← idxS_any s ss 0]
    cases hk : idxS s ss 0 with
    | some k =>
      rw [hk] at e
      refine ⟨(k : Int), bare_of rfl ((g25_eq _ _).trans ?_), by simp⟩
      simp only [g25, asS_str, hl, e, bindO_ok, unc_cons, asI_int, un0_nil, sel2_one]
    | none =>
      rw [hk] at e
      refine ⟨-1, bare_of rfl ((g25_eq _ _).trans ?_), by simp⟩
      simp only [g25, asS_str, hl, e, bindO_ok, unc_cons, asI_int, un0_nil, sel2_zero]
  obtain ⟨n, h1, h2⟩ := hi
  refine bare_of rfl ((g23_eq _ _).trans ?_)
  have c := fun {β : Type} (st : St) (K : Kv β) => callS_bare (f := 25) st K rfl (by simp only [List.map_cons, List.map_nil, hx.strip]; rfl) (by simp only [bares_cons, hx.bare]; rfl) h1
  simp only [g23, asS_str, c, asI_int, h2]
theorem call_given (s : List UInt8) {β : Type} (st : St) (K : Kv β) : callS (orc vE) 23 [.sl 1 [.str [110, 111, 116], .str [102, 115, 116], .str [115, 110, 100], .str [102, 108, 111, 97, 116]] .shut, .str s] st K = K (.bool (given s)) st q0 :=
  callS_bare (f := 23) st K rfl rfl rfl (contains_ok (ss := [sNot, sFst, sSnd, sFloat]) (IsSl.shut (Nat.le_of_ble_eq_true rfl)) s)
/-! Maps. -/
def encM (l : List (Tx × Nat)) : List (AV × AV) := l.map fun e => (.str e.1, .int .i64 (e.2 : Int))
theorem find_encM (nm : Tx) : ∀ (l : List (Tx × Nat)), findEntry (.str nm) (encM l) = .ok ((findM nm l).map fun (i : Nat) => .int .i64 (i : Int))
  | [] => rfl
  | (a, i) :: l => by
    have ih := find_encM nm l
    unfold encM at ih ⊢
    simp only [List.map_cons, findEntry, keyEq, ok_bind, findM]
    cases e : nm == a with
    | true => rfl
    | false => rw [if_neg (by simp)]; exact ih
theorem set_encM (nm : Tx) (k : Nat) : ∀ (l : List (Tx × Nat)), setEntry (.str nm) (.int .i64 (k : Int)) (encM l) = .ok (encM (setM nm k l))
  | [] => rfl
  | (a, i) :: l => by
    have ih := set_encM nm k l
    unfold encM at ih ⊢
    simp only [List.map_cons, setEntry, keyEq, ok_bind, setM]
    cases e : nm == a with
    | true => rfl
    | false =>
      rw [if_neg (by simp)]
      simp only [ih, ok_bind, List.map_cons]
      rfl
abbrev MT : TypeId := 68
theorem ti_map : ti (Env.T vE) MT = .ok ⟨.map 9 3, 1, 8, [.nilm], false, false⟩ := rfl
theorem ti_int : ti (Env.T vE) 3 = .ok ⟨.int .i64, 1, 8, [.int .i64 0], false, false⟩ := rfl
theorem ti_str : ti (Env.T vE) 9 = .ok ⟨.str, 1, 16, [.str []], false, false⟩ := rfl
/-- What is found of a name. -/
theorem look_map {st : St} {m : Nat} {l : List (Tx × Nat)} (hm : st.get m = .ok (.map (encM l))) (nm : Tx) {β : Type} (K : Kv β) :
    planS (orc vE) (lookupP (Env.T vE) MT (.mm m) (.str nm) true) st K = K (.tup [.int .i64 (((findM nm l).getD 0 : Nat) : Int), .bool (findM nm l).isSome]) st ⟨[m], .kept⟩ := by
  have e1 : ∀ (i : TI), found ⟨.int .i64, 1, 8, [.int .i64 0], false, false⟩ true (.str nm) (encM l) = .ok (.tup [.int .i64 (((findM nm l).getD 0 : Nat) : Int), .bool (findM nm l).isSome]) := fun _ => by
    simp only [found, find_encM, ok_bind]
    cases findM nm l <;> rfl
  have e2 : lookupP (Env.T vE) MT (.mm m) (.str nm) true = .ok (readP m fun o => match o with | .map es => found ⟨.int .i64, 1, 8, [.int .i64 0], false, false⟩ true (.str nm) es | _ => .error "lookup: no map") := by
    simp only [lookupP, ti_map, ti_int, ti_str, ok_bind, keyOk, pure_eq]
    rfl
  rw [e2]
  simp only [planS, planO, readP, hm, e1 ⟨.other, 0, 0, [], false, false⟩, ok_bind, pure_eq, outS, bindO_ok]
theorem put_map {st : St} {m : Nat} {l : List (Tx × Nat)} (hm : st.get m = .ok (.map (encM l))) (hro : st.ro ≤ m) (nm : Tx) (k : Nat) {β : Type} (K : Kv β) :
    planS (orc vE) (mapUpdateP (Env.T vE) MT (.mm m) (.str nm) (.int .i64 (k : Int))) st K = K VM.undef (st.put m (.map (encM (setM nm k l)))) ⟨[m], .wrote m (.map (encM (setM nm k l)))⟩ := by
  have e2 : mapUpdateP (Env.T vE) MT (.mm m) (.str nm) (.int .i64 (k : Int)) = .ok (.obj m fun o => match o with | .map es => do pure (VM.undef, some (.map (← setEntry (.str nm) (.int .i64 (k : Int)) es))) | _ => .error "mapUpdate: no map") := by
    simp only [mapUpdateP, ti_map, ti_str, ok_bind, keyOk, pure_eq]
    rfl
  have h2 : (st.ro.ble m) = true := Nat.ble_eq_true_of_le hro
  rw [e2]
  simp only [planS, planO, hm, set_encM, ok_bind, pure_eq, wroteO, h2, outS, bindO_ok]
/-! Frames. -/
abbrev FT : TypeId := 70
/-- What is bound at a frame, and around it. -/
inductive Ch (st : St) (bs : List (Tx × Sp)) : AV → List Nat → Prop
  | nil : Ch st bs .nilp []
  | cons {id m : Nat} {f : AV} {l : List (Tx × Nat)} {bd g : List Nat} (hd : st.get id = .ok (.cells FT [.mm m, f])) (hm : st.get m = .ok (.map (encM l))) (ok : MapOk l bs g) (r : Ch st bs f bd) : Ch st bs (.mp id 0) (bd ++ g)
theorem Ch.ptr {st : St} {bs : List (Tx × Sp)} {f : AV} {bd : List Nat} (h : Ch st bs f bd) : (f = .nilp ∨ ∃ id, f = .mp id 0) := by
  cases h with
  | nil => exact .inl rfl
  | cons => exact .inr ⟨_, rfl⟩
theorem Ch.one {st : St} {bs : List (Tx × Sp)} {f : AV} {bd : List Nat} (h : Ch st bs f bd) : VM.one f = true := by
  rcases h.ptr with rfl | ⟨id, rfl⟩ <;> rfl
theorem Ch.strip {st : St} {bs : List (Tx × Sp)} {f : AV} {bd : List Nat} (h : Ch st bs f bd) : VM.strip f = f := by
  rcases h.ptr with rfl | ⟨id, rfl⟩ <;> rfl
theorem Ch.keep {st st' : St} {bs : List (Tx × Sp)} {but : Nat → Prop} (k : Kt but st st') (hf : ∀ i cs, st.get i = .ok (.cells FT cs) → ¬ but i) (hm : ∀ i es, st.get i = .ok (.map es) → ¬ but i) (x : List (Tx × Sp)) : ∀ {f : AV} {bd : List Nat}, Ch st bs f bd → (∀ i ∈ bd, i < bs.length) → Ch st' (bs ++ x) f bd := by
  intro f bd h
  induction h with
  | nil => intro _; exact Ch.nil
  | cons hd hmm ok r ih =>
    intro hi
    refine Ch.cons (k.cells (hf _ _ hd) hd) (k.map (hm _ _ hmm) hmm) (fun nm => ?_) (ih fun i h => hi i (List.mem_append_left _ h))
    rw [ok nm, seek_ext x fun i h => hi i (List.mem_append_right _ h)]
theorem nil_nilp (β : Type) (K : Bool → Option β) : nilS (U.ptr FT) .nilp .nilp K = K true := id rfl
theorem nil_mp (β : Type) (i o : Nat) (K : Bool → Option β) : nilS (U.ptr FT) (.mp i o) .nilp K = K false := id rfl
theorem find_loop {st : St} {bs : List (Tx × Sp)} (nm : Tx) {f : AV} {bd : List Nat} (h : Ch st bs f bd) : loopO (l17_L1 nm) ([.int .i64 0, f], lk st) = (match seek bs nm bd with | some i => some (1, [.int .i64 (i : Int)], lk st) | none => some (0, [.int .i64 0], lk st)) := by
  induction h with
  | nil =>
    refine loopO_inr ?_
    simp only [l17_L1, unc_cons, asI_int, un0_nil, nil_nilp, Bool.not_true, ifB_false]
  | @cons id m f l bd g hd hm ok r ih =>
    have hd1 : (lk st).get id = .ok (.cells FT [.mm m, f]) := hd
    have hm1 : (lk st).get m = .ok (.map (encM l)) := hm
    rw [seek_app, ← ok nm]
    cases hf : findM nm l with
    | some i =>
      refine loopO_inr ?_
      simp only [l17_L1, unc_cons, asI_int, un0_nil, nil_mp, Bool.not_false, ifB_true, notNil_mp, chk_true, fldA_mp, Nat.add_zero, Nat.zero_add, loadS_mp hd1, List.drop_zero, takeO_one, bindO_ok, look_map hm1, unT_tup, nthS_zero, nthS_one, hf, Option.isSome_some, asB_bool, Option.getD_some, Option.some_or]
    | none =>
      rw [Option.none_or, loopO_inl (s' := ([.int .i64 0, f], lk st)), ih]
      simp only [l17_L1, unc_cons, asI_int, un0_nil, nil_mp, Bool.not_false, ifB_true, notNil_mp, chk_true, fldA_mp, Nat.add_zero, Nat.zero_add, loadS_mp hd1, List.drop_zero, List.drop_succ_cons, takeO_one, bindO_ok, look_map hm1, unT_tup, nthS_zero, nthS_one, hf, Option.isSome_none, asB_bool, ifB_false]
theorem find_look {st : St} {bs : List (Tx × Sp)} (nm : Tx) {f : AV} {bd : List Nat} (h : Ch st bs f bd) : (orc vE).look 17 [f, .str nm] st = some (.int .i64 (means bs nm bd)) := by
  refine look_of ((l17_eq _ _ _).trans ?_)
  have e := find_loop nm h
  unfold means
  cases hs : seek bs nm bd with
  | some i =>
    rw [hs] at e
    simp only [l17, asS_str, e, bindO_ok, unc_cons, asI_int, un0_nil, sel2_one]
  | none =>
    rw [hs] at e
    simp only [l17, asS_str, e, bindO_ok, unc_cons, asI_int, un0_nil, sel2_zero, call_given, asB_bool, ifB_eq]
    split <;> rfl
theorem find_bare (nm : Tx) : (orc vE).bare 17 [.nilp, .str nm] = some (.int .i64 (means [] nm [])) := by
  refine bare_of rfl ((g17_eq _ _).trans ?_)
  have e : loopO (g17_L1 nm) ([.int .i64 0, .nilp], S0) = some (0, [.int .i64 0], S0) := by
    refine loopO_inr ?_
    simp only [g17_L1, unc_cons, asI_int, un0_nil, nil_nilp, Bool.not_true, ifB_false]
  have hs : seek [] nm [] = none := rfl
  simp only [g17, asS_str, e, bindO_ok, unc_cons, asI_int, un0_nil, sel2_zero, call_given, asB_bool, ifB_eq, means, hs]
  split <;> rfl
theorem call_find {st : St} {bs : List (Tx × Sp)} (nm : Tx) {f : AV} {bd : List Nat} (h : Ch st bs f bd) : ∃ q, (∀ l, apart ⟨l, .kept⟩ q = true) ∧ ∀ {β : Type} (K : Kv β), callS (orc vE) 17 [f, .str nm] st K = K (.int .i64 (means bs nm bd)) st q := by
  rcases h.ptr with rfl | ⟨id, rfl⟩
  · cases h with
    | nil =>
      refine ⟨q0, fun _ => rfl, fun K => ?_⟩
      have e : means bs nm [] = means [] nm [] := rfl
      rw [e]
      exact callS_bare st K rfl rfl rfl (find_bare nm)
  · exact ⟨⟨[], .looked⟩, fun _ => rfl, fun K => callS_look K rfl rfl (find_look nm h)⟩
end Go.Proofs.Ytoopmjhdgkcleaa.Vm
/- The program's binders. -/
set_option maxRecDepth 100000
set_option linter.unusedSimpArgs false
namespace Go.Proofs.Ytoopmjhdgkcleaa.Vm
open Go Go.VM Go.Proofs Go.Scope

abbrev MK : TypeId := 56
abbrev Mt (st : St) (a : Nat) (t : Tb) : Prop := Td MK 52 53 3 st a t
structure Cl (st : St) (a xm xf xi id m : Nat) (f : AV) : Prop where
  gm : st.get xm = .ok (.cells 54 [.mp a 0])
  gf : st.get xf = .ok (.cells 57 [.mp id 0])
  gi : st.get xi = .ok (.cells 76 [.fn (.func 22) [] [.mp xm 0, .mp xf 0, .mp xi 0]])
  gd : st.get id = .ok (.cells FT [.mm m, f])
theorem ne_ty {st : St} {i j : Nat} {t u : TypeId} {cs ds : List AV} (h : st.get i = .ok (.cells t cs)) (k : st.get j = .ok (.cells u ds)) (hn : t ≠ u) : i ≠ j := by
  rintro rfl
  rw [h] at k
  simp only [Except.ok.injEq, VM.Obj.cells.injEq] at k
  exact hn k.1
theorem ne_map {st : St} {i j : Nat} {t : TypeId} {cs : List AV} {es : List (AV × AV)} (h : st.get i = .ok (.cells t cs)) (k : st.get j = .ok (.map es)) : i ≠ j := by
  rintro rfl
  rw [h] at k
  cases k
theorem Cl.keep {st st' : St} {a xm xf xi id m : Nat} {f : AV} (c : Cl st a xm xf xi id m f) {t : Tb} (w : Mt st a t) {es : List (AV × AV)} (hm : st.get m = .ok (.map es)) (k : Kt (fun j => j = a ∨ j = m) st st') : Cl st' a xm xf xi id m f := by
  obtain ⟨xb, xu, xt, hg, _⟩ := w.ex
  have h : ∀ {i : Nat} {u : TypeId} {cs : List AV}, u ≠ MK → st.get i = .ok (.cells u cs) → st'.get i = .ok (.cells u cs) := fun hu hi => k.cells (fun e => by
    rcases e with e | e
    · exact ne_ty hi hg hu e
    · exact ne_map hi hm e) hi
  exact ⟨h (by decide) c.gm, h (by decide) c.gf, h (by decide) c.gi, h (by decide) c.gd⟩
/-- A group at work. -/
structure Gs (st : St) (a xm xf xi id m : Nat) (f : AV) (fr : Nat) (t : Tb) : Prop where
  w : Mt st a t
  c : Cl st a xm xf xi id m f
  ex : ∃ l, st.get m = .ok (.map (encM l)) ∧ MapOk l t.bs (gr fr t.bs.length)
  fr : fr ≤ t.bs.length
  ro : st.ro ≤ m
section
variable {st st' : St} {a xm xf xi id m fr : Nat} {f : AV} {t : Tb}
theorem Gs.quiet (g : Gs st a xm xf xi id m f fr t) (k : Keeps st st' (fun _ => False)) : Gs st' a xm xf xi id m f fr t := by
  obtain ⟨l, hm, ok⟩ := g.ex
  exact ⟨g.w.keep k (fun f => f) (fun _ _ _ _ f => f), ⟨k.old _ _ (fun f => f) g.c.gm, k.old _ _ (fun f => f) g.c.gf, k.old _ _ (fun f => f) g.c.gi, k.old _ _ (fun f => f) g.c.gd⟩, ⟨l, k.old _ _ (fun f => f) hm, ok⟩, g.fr, by rw [k.ro]; exact g.ro⟩
end
theorem call_fn {β : Type} (v : AV) (cap : List AV) (st : St) (K : Kv β) : callF (orc vE) (Sx.prim (sx vE 22)) (.fn (.func 22) [] cap) [v] st K = callS (orc vE) 22 (v :: cap) st K := id rfl
theorem call_fn2 {β : Type} (v : AV) (cap : List AV) (st : St) (K : Kv β) : callF (orc vE) (Sx.prim (sx vE 16)) (.fn (.func 22) [] cap) [v] st K = callS (orc vE) 22 (v :: cap) st K := id rfl
/-- A local pattern. -/
theorem lvP (st : St) (k lit : Nat) (sp : Sp) (nm : Tx) (x : AV) (h : st.ro ≤ st.h) : ∃ st' fx, st'.get st.h = .ok (.cells 66 [.int .u8 (k : Int), .int .u8 (lit : Int), .int .i64 sp.1, .int .i64 sp.2, .str nm, x]) ∧ Keeps st st' (fun _ => False) ∧
    ∀ {β : Type} (K : Kv β), storeS (orc vE) 6 (AV.mp st.h 0) (.agg [.int .u8 (k : Int), .int .u8 (lit : Int), .int .i64 sp.1, .int .i64 sp.2, .str nm, x]) [.int .u8 (k : Int), .int .u8 (lit : Int), .int .i64 sp.1, .int .i64 sp.2, .str nm, x]
      (st.add (.cells 66 [.int .u8 0, .int .u8 0, .int .i64 0, .int .i64 0, .str [], .nils])) K = K VM.undef st' fx := by
  obtain ⟨st', g, k1, n, fx, e⟩ := local_var (O := orc vE) (st := st) (t := 66) (z := 6) (old := [.int .u8 0, .int .u8 0, .int .i64 0, .int .i64 0, .str [], .nils]) (cs := [.int .u8 (k : Int), .int .u8 (lit : Int), .int .i64 sp.1, .int .i64 sp.2, .str nm, x])
    (.agg [.int .u8 (k : Int), .int .u8 (lit : Int), .int .i64 sp.1, .int .i64 sp.2, .str nm, x]) rfl rfl h
  exact ⟨st', fx, g, k1, e⟩
theorem nb2 (v : AV) (i o : Nat) (l : List AV) (b : Bool) : (bares ((v :: .mp i o :: l).map VM.strip) && b) = false := by
  simp only [List.map_cons, bares_cons]
  have : VM.bare (VM.strip (.mp i o)) = false := rfl
  rw [this]
  simp
def InR (st : St) (a xm xf xi id m : Nat) (f : AV) (fr : Nat) (t' : Tb) (r : AV × St) : Prop := ∃ v' st', r = (v', st') ∧ Gs st' a xm xf xi id m f fr t' ∧ Kt (fun j => j = a ∨ j = m) st st'
theorem in_ok : ∀ (n : Nat) (p : Pat) (v : AV) (st : St) (a xm xf xi id m : Nat) (f : AV) (fr : Nat) (t : Tb), SizeOf.sizeOf p < n → IsP p v → Gs st a xm xf xi id m f fr t → Sm (grp fr p t []).1 →
    Goes ((orc vE).wide 22 [v, .mp xm 0, .mp xf 0, .mp xi 0] st) (InR st a xm xf xi id m f fr (grp fr p t []).1) := by
  intro n
  induction n with
  | zero => intro p v st a xm xf xi id m f fr t h; omega
  | succ n ih =>
    intro p v st a xm xf xi id m f fr t h hP g hsm
    cases p with
    | mk k lit sp nm ps =>
      obtain ⟨y, es, rfl, hy, hps⟩ := hP.opn
      simp only [Pat.mk.sizeOf_spec] at h
      have hyl := hy.1
      refine Goes.wide (Goes.step (w22_eq _ _ _ _ _) ?_)
      simp only [w22, unA_agg, unc_cons, asI_int, asS_str, un0_nil, hy.asOne, hy.fit1]
      have hmid : ∃ t1 : Tb, (grp fr (.mk k lit sp nm ps) t []).1 = (grps fr ps t1 []).1 ∧ fr ≤ t1.bs.length ∧ (if k = 15 then t1 = bindT fr nm sp t else t1 = t) := by
        by_cases hk : k = 15
        · refine ⟨bindT fr nm sp t, by simp only [grp, if_pos hk]; exact (grps_tab fr _).2 ps _ _ _ (Nat.lt_succ_self _), ?_, by rw [if_pos hk]⟩
          show fr ≤ (t.bs ++ [(nm, sp)]).length
          have := g.fr
          simp; omega
        · exact ⟨t, by simp only [grp, if_neg hk], g.fr, by rw [if_neg hk]⟩
      obtain ⟨t1, ht1, hf1, hcase⟩ := hmid
      rw [ht1] at hsm ⊢
      have hsm1 : Sm t1 := hsm.ext (ext_grps fr ps t1 [] hf1).1
      refine Goes.bind (R := fun c => ∃ s', c = ([], s') ∧ Gs s' a xm xf xi id m f fr t1 ∧ Kt (fun j => j = a ∨ j = m) st s') ?_ ?_
      · by_cases hk : k = 15
        · rw [if_pos hk] at hcase
          subst hcase
          have hsm0 : Sm t := hsm1.ext (ext_bind fr nm sp t)
          have hk' : (k : Int) = 15 := by omega
          obtain ⟨l, hm, ok⟩ := g.ex
          obtain ⟨xb, xu, xt, hg, ob, ou, ot⟩ := g.w.ex
          have hl := fun {γ : Type} (K : Nat → Option γ) => own_len ob K
          simp only [encB_len] at hl
          simp only [ifB_beq, if_pos hk', loadS_mp g.c.gm, loadS_mp g.c.gf, loadS_mp g.c.gd, loadS_mp hg, List.drop_zero, takeO_one, bindO_ok, notNil_mp, chk_true, fldA_mp, Nat.zero_add, Nat.add_zero, hl, look_map hm, unT_tup, nthS_zero, nthS_one, asI_int, asB_bool]
          have hsome : (findM nm l).isSome = hasAny t nm fr := by
            rw [ok nm]
            exact seek_gr t.bs nm g.fr
          rw [hsome]
          refine Goes.bind (R := fun c => ∃ s', c = ([], s') ∧ Mt s' a ⟨t.bs, t.us, if hasAny t nm fr = true then t.tw ++ [t.bs.length] else t.tw⟩ ∧ Kt (· = a) st s') ?_ ?_
          · cases hq : hasAny t nm fr with
            | true =>
              obtain ⟨v', s1, fx, s2, fx2, hfine, hone, w2, k2, e1, e2⟩ := g.w.pushT (by have := hsm0.tw; omega) t.bs.length hg ob ou ot
              simp only [ifB_true, e1, List.drop_succ_cons, List.drop_zero, takeO_one, bindO_ok, hfine.l _ _ _ g.c.gm, Bool.and_self, chk_true, asOne_of hone, e2, if_true]
              exact Goes.some ⟨_, rfl, w2, k2⟩
            | false =>
              simp only [ifB_false, if_neg (show ¬ false = true by decide)]
              exact Goes.some ⟨_, rfl, g.w, Kt.refl _ _⟩
          rintro c ⟨s1, rfl, w1, k1⟩
          have hma : ∀ j, j = a → j = a ∨ j = m := fun j e => .inl e
          have c1 := g.c.keep g.w hm (k1.weak hma)
          have hma2 : m ≠ a := fun e => ne_map hg hm e.symm
          have m1 := k1.map (show ¬ m = a from hma2) hm
          have ro1 : s1.ro ≤ m := by rw [k1.ro]; exact g.ro
          have kp : Keeps s1 (s1.put m (.map (encM (setM nm t.bs.length l)))) (· = m) := Keeps.put rfl
          have w2 := w1.keep kp (fun e => hma2 e.symm) (fun j n' e hj hjm => by subst hjm; rw [m1] at hj; cases hj)
          have k2 := (k1.weak hma).trans (Kt.keeps (kp.weak (fun j e => .inr e)))
          have c2 := g.c.keep g.w hm k2
          have m2 : (s1.put m (.map (encM (setM nm t.bs.length l)))).get m = .ok (.map (encM (setM nm t.bs.length l))) := St.get_put_same (St.get_ok.1 m1).1
          obtain ⟨xb2, xu2, xt2, hg2, ob2, ou2, ot2⟩ := w2.ex
          obtain ⟨v', s4, fx4, s5, fx5, hfine4, hone4, w5, k5, e4, e5⟩ := w2.pushB (show t.bs.length ≤ 100000000 by have := hsm0.bs; omega) nm sp hg2 ob2 ou2 ot2
          simp only [un0_nil, loadS_mp c1.gf, loadS_mp c1.gd, List.drop_zero, takeO_one, bindO_ok, notNil_mp, chk_true, fldA_mp, Nat.zero_add, put_map m1 ro1, loadS_mp c2.gm, loadS_mp hg2, e4, hfine4.l _ _ _ c2.gm, Bool.and_self, asOne_of hone4, e5]
          have k6 := k2.trans (k5.weak hma)
          have m5 := k5.map (show ¬ m = a from hma2) m2
          refine Goes.some ⟨_, rfl, ⟨w5, g.c.keep g.w hm k6, ⟨_, m5, ?_⟩, hf1, by rw [k6.ro]; exact g.ro⟩, k6⟩
          have hb : (bindT fr nm sp t).bs = t.bs ++ [(nm, sp)] := rfl
          rw [hb, List.length_append]
          show MapOk _ _ (gr fr (t.bs.length + 1))
          rw [gr_succ g.fr]
          exact mapOk_set ok (fun i hi => gr_lt hi) nm sp
        · rw [if_neg hk] at hcase
          subst hcase
          have hk' : ¬ (k : Int) = 15 := by omega
          simp only [ifB_beq, if_neg hk']
          exact Goes.some ⟨_, rfl, g, Kt.refl _ _⟩
      rintro c ⟨s1, rfl, g1, k1⟩
      simp only [un0_nil, hy.len]
      refine Goes.bind (R := fun c => ∃ s' n', c = (n', [], s') ∧ Gs s' a xm xf xi id m f fr (grps fr ps t1 []).1 ∧ Kt (fun j => j = a ∨ j = m) st s')
        (Goes.upto (n := es.length) (I := fun i s => ∃ s' tj, s = ([.int .i64 (i : Int)], s') ∧ Gs s' a xm xf xi id m f fr tj ∧ Kt (fun j => j = a ∨ j = m) st s' ∧ (grps fr (ps.drop i) tj []).1 = (grps fr ps t1 []).1) ?_ ?_ es.length 0 _ (by omega) ⟨_, _, rfl, g1, k1, rfl⟩) ?_
      · rintro i s hi ⟨s2, tj, rfl, g2, k2, hgr⟩
        obtain ⟨q, r, hd⟩ := drop_at (l := ps) (i := i) (by rw [← hps.len]; exact hi)
        obtain ⟨v, hv, hQ, _⟩ := hps.get hd
        have hr2 := (drop_cons hd).2.1
        rw [hd] at hgr
        simp only [grps] at hgr
        have eg := ext_grp fr q tj [] g2.fr
        have hsq : Sm (grp fr q tj []).1 := by
          refine hsm.ext ?_
          rw [← hgr]
          exact (ext_grps fr r _ _ eg.2).1
        have hsz : SizeOf.sizeOf q < n := by
          have h1 := sz_drop ps i
          rw [hd] at h1
          simp only [List.cons.sizeOf_spec] at h1
          omega
        have hlt : (i : Int) < (es.length : Int) := by omega
        cases q with
        | mk kq lq spq nq qs =>
          have hQ0 := hQ
          obtain ⟨yq, eq, rfl, hyq, hqs⟩ := hQ.opn
          obtain ⟨s3, fx3, gv, k3, ev⟩ := lvP s2 kq lq spq nq yq g2.w.roh
          have g3 := g2.quiet k3
          have hcall := ih _ _ s3 a xm xf xi id m f fr tj hsz hQ0 g3 hsq
          simp only [w22_L1, unc_cons, asI_int, un0_nil, ifB_decide, if_pos hlt, hy.idx hv, AV.cells, loadS_ip, take6, bindO_ok, unA_agg, asS_str, letSt_eq, hyq.asOne, ev, loadS_mp g3.c.gi, loadS_mp gv, List.drop_zero, takeO_one, call_fn]
          refine Goes.callW hcall rfl (nb2 _ _ _ _ _) ?_
          rintro v4 s4 ⟨x4, s4', e4, g4, k4⟩
          cases e4
          simp only [letV_eq, wrap1 hi hyl]
          refine Goes.inl ?_
          refine ⟨_, _, rfl, g4, (k2.trans (Kt.keeps (k3.weak fun _ f => f.elim))).trans k4, ?_⟩
          rw [hr2, ← hgr]
          exact (grps_tab fr _).2 r _ _ _ (Nat.lt_succ_self _)
      · rintro s ⟨s2, tj, rfl, g2, k2, hgr⟩
        have hlt : ¬ (es.length : Int) < (es.length : Int) := by omega
        rw [List.drop_eq_nil_of_le (by rw [← hps.len]; exact Nat.le_refl _)] at hgr
        simp only [grps] at hgr
        simp only [w22_L1, unc_cons, asI_int, un0_nil, ifB_decide, if_neg hlt]
        refine Goes.inr ?_
        rw [← hgr]
        exact ⟨_, _, rfl, g2, k2⟩
      · rintro c ⟨s', n', rfl, g', k'⟩
        simp only [un0_nil]
        exact Goes.some ⟨_, _, rfl, g', k'⟩
end Go.Proofs.Ytoopmjhdgkcleaa.Vm
/- The program's binders of a group and of a let. -/
set_option maxRecDepth 100000
set_option linter.unusedSimpArgs false
namespace Go.Proofs.Ytoopmjhdgkcleaa.Vm
open Go Go.VM Go.Proofs Go.Scope

theorem nb1 (i o : Nat) (l : List AV) (b : Bool) : (bares ((.mp i o :: l).map VM.strip) && b) = false := by
  simp only [List.map_cons, bares_cons]
  have : VM.bare (VM.strip (.mp i o)) = false := rfl
  rw [this]
  simp
/-- A new frame. -/
structure Nf (st : St) (id : Nat) (f : AV) (bs : List (Tx × Sp)) (g : List Nat) : Prop where
  ex : ∃ m l, st.get id = .ok (.cells FT [.mm m, f]) ∧ st.get m = .ok (.map (encM l)) ∧ MapOk l bs g
theorem named {α : Type} (x : α) : ∃ y, x = y := ⟨x, rfl⟩
theorem binds_ok {ps : List Pat} {es : List AV} {y f : AV} {st : St} {a : Nat} {t : Tb} (hps : IsPs ps es) (hy : IsSl 6 y es) (w : Mt st a t) (hf : VM.one f = true) (hsm : Sm (binders ps t []).1) :
    Goes ((orc vE).wide 16 [.mp a 0, y, f] st) fun r => ∃ id st', r = (.mp id 0, st') ∧ Mt st' a (binders ps t []).1 ∧ Kt (· = a) st st' ∧ Nf st' id f (binders ps t []).1.bs (gr t.bs.length (binders ps t []).1.bs.length) ∧ st.h ≤ id := by
  have hyl := hy.1
  have hro := w.roh
  refine Goes.wide (Goes.step (w16_eq _ _ _ _) ?_)
  obtain ⟨s0, e0⟩ := named (st.add (.cells 54 [.mp a 0]))
  have h0 : s0.h = st.h + 1 := by rw [← e0]; rfl
  have k0 : Keeps st s0 (fun _ => False) := by rw [← e0]; exact Keeps.add _ _ _
  have g0 : s0.get st.h = .ok (.cells 54 [.mp a 0]) := by rw [← e0]; exact St.get_add_new
  obtain ⟨s1, e1⟩ := named (s0.add (.map []))
  have h1 : s1.h = s0.h + 1 := by rw [← e1]; rfl
  have k1 : Keeps s0 s1 (fun _ => False) := by rw [← e1]; exact Keeps.add _ _ _
  have g1 : s1.get s0.h = .ok (.map []) := by rw [← e1]; exact St.get_add_new
  obtain ⟨s2, e2⟩ := named (s1.add (.cells FT [.mm s0.h, f]))
  have h2 : s2.h = s1.h + 1 := by rw [← e2]; rfl
  have k2 : Keeps s1 s2 (fun _ => False) := by rw [← e2]; exact Keeps.add _ _ _
  have g2 : s2.get s1.h = .ok (.cells FT [.mm s0.h, f]) := by rw [← e2]; exact St.get_add_new
  have r2 : s2.ro ≤ s2.h := by rw [k2.ro, k1.ro, k0.ro]; omega
  obtain ⟨s3, g3, k3, h3, fx3, e3⟩ := local_var (O := orc vE) (st := s2) (t := 57) (z := 1) (old := [.nilp]) (cs := [.mp s1.h 0]) (.mp s1.h 0) rfl rfl r2
  have r3 : s3.ro ≤ s3.h := by rw [k3.ro, k2.ro, k1.ro, k0.ro]; omega
  obtain ⟨s4, g4, k4, h4, fx4, e4⟩ := local_var (O := orc vE) (st := s3) (t := 76) (z := 1) (old := [.nilfn]) (cs := [.fn (.func 22) [] [.mp st.h 0, .mp s2.h 0, .mp s3.h 0]]) (.fn (.func 22) [] [.mp st.h 0, .mp s2.h 0, .mp s3.h 0]) rfl rfl r3
  have k24 : Keeps s2 s4 (fun _ => False) := k3.trans k4
  have kall : Keeps st s4 (fun _ => False) := ((k0.trans k1).trans k2).trans k24
  have nf : ¬ False := fun h => h
  have G : Gs s4 a st.h s2.h s3.h s1.h s0.h f t.bs.length t :=
    ⟨w.keep kall nf (fun _ _ _ _ h => h), ⟨((k1.trans k2).trans k24).old _ _ nf g0, k4.old _ _ nf g3, g4, k24.old _ _ nf g2⟩, ⟨[], (k2.trans k24).old _ _ nf g1, by rw [gr_nil]; exact mapOk_nil _⟩, Nat.le_refl _, by rw [kall.ro, h0]; omega⟩
  simp only [w16, asOne_mp, letSt_eq, e0, e1, asOne_of hf, e2, e3, e4, hy.len]
  refine Goes.bind (R := fun c => ∃ s' n', c = (n', [], s') ∧ Gs s' a st.h s2.h s3.h s1.h s0.h f t.bs.length (binders ps t []).1 ∧ Kt (fun j => j = a ∨ j = s0.h) s4 s')
    (Goes.upto (n := es.length) (I := fun i s => ∃ s' tj, s = ([.int .i64 (i : Int)], s') ∧ Gs s' a st.h s2.h s3.h s1.h s0.h f t.bs.length tj ∧ Kt (fun j => j = a ∨ j = s0.h) s4 s' ∧ (grps t.bs.length (ps.drop i) tj []).1 = (binders ps t []).1) ?_ ?_ es.length 0 _ (by omega) ⟨_, _, rfl, G, Kt.refl _ _, rfl⟩) ?_
  · rintro i s hi ⟨s5, tj, rfl, g5, k5, hgr⟩
    obtain ⟨q, r, hd⟩ := drop_at (l := ps) (i := i) (by rw [← hps.len]; exact hi)
    obtain ⟨v, hv, hQ, _⟩ := hps.get hd
    have hr2 := (drop_cons hd).2.1
    rw [hd] at hgr
    simp only [grps] at hgr
    have eg := ext_grp t.bs.length q tj [] g5.fr
    have hsq : Sm (grp t.bs.length q tj []).1 := by
      refine hsm.ext ?_
      rw [← hgr]
      exact (ext_grps t.bs.length r _ _ eg.2).1
    have hlt : (i : Int) < (es.length : Int) := by omega
    cases q with
    | mk kq lq spq nq qs =>
      have hQ0 := hQ
      obtain ⟨yq, eq, rfl, hyq, hqs⟩ := hQ.opn
      obtain ⟨s6, fx6, gv, k6, ev⟩ := lvP s5 kq lq spq nq yq g5.w.roh
      have g6 := g5.quiet k6
      have hcall := in_ok _ _ _ s6 a st.h s2.h s3.h s1.h s0.h f t.bs.length tj (Nat.lt_succ_self _) hQ0 g6 hsq
      simp only [w16_L1, unc_cons, asI_int, un0_nil, ifB_decide, if_pos hlt, hy.idx hv, AV.cells, loadS_ip, take6, bindO_ok, unA_agg, asS_str, letSt_eq, hyq.asOne, ev, loadS_mp g6.c.gi, loadS_mp gv, List.drop_zero, takeO_one, call_fn2]
      refine Goes.callW hcall rfl (nb2 _ _ _ _ _) ?_
      rintro v7 s7 ⟨x7, s7', e7, g7, k7⟩
      cases e7
      simp only [letV_eq, wrap1 hi hyl]
      refine Goes.inl ?_
      refine ⟨_, _, rfl, g7, (k5.trans (Kt.keeps (k6.weak fun _ f => f.elim))).trans k7, ?_⟩
      rw [hr2, ← hgr]
      exact (grps_tab _ _).2 r _ _ _ (Nat.lt_succ_self _)
  · rintro s ⟨s5, tj, rfl, g5, k5, hgr⟩
    have hlt : ¬ (es.length : Int) < (es.length : Int) := by omega
    rw [List.drop_eq_nil_of_le (by rw [← hps.len]; exact Nat.le_refl _)] at hgr
    simp only [grps] at hgr
    simp only [w16_L1, unc_cons, asI_int, un0_nil, ifB_decide, if_neg hlt]
    refine Goes.inr ?_
    rw [← hgr]
    exact ⟨_, _, rfl, g5, k5⟩
  · rintro c ⟨s', n', rfl, g', k'⟩
    simp only [un0_nil, loadS_mp g'.c.gf, List.drop_zero, takeO_one, bindO_ok]
    obtain ⟨l, hm, ok⟩ := g'.ex
    have k9 : Kt (· = a) st s' := (Kt.keeps (kall.weak fun _ f => f.elim)).join k' fun j hj => by
      rcases hj with rfl | rfl
      · exact .inl rfl
      · exact .inr (by omega)
    exact Goes.some ⟨_, _, rfl, g'.w, k9, ⟨_, l, g'.c.gd, hm, ok⟩, by omega⟩
theorem Ch.go {st st' : St} {a : Nat} {t t' : Tb} {f : AV} {bd : List Nat} {but : Nat → Prop} (c : Ch st t.bs f bd) (hin : In t bd) (w : Mt st a t) (k : Kt but st st') (hb : ∀ j, but j → j = a ∨ st.h ≤ j) (e : Ext t t') : Ch st' t'.bs f bd := by
  obtain ⟨xb, xu, xt, hg, _⟩ := w.ex
  obtain ⟨x, hx⟩ := e.bs
  rw [hx]
  refine c.keep k (fun i cs hi hj => ?_) (fun i es hi hj => ?_) x hin
  · rcases hb i hj with h | h
    · exact ne_ty hi hg (by decide) h
    · have := (St.get_ok.1 hi).1; omega
  · rcases hb i hj with h | h
    · exact ne_map hg hi h.symm
    · have := (St.get_ok.1 hi).1; omega
/-- A new frame around another one. -/
theorem Nf.ch {st : St} {id : Nat} {f : AV} {bs : List (Tx × Sp)} {g bd : List Nat} (n : Nf st id f bs g) (c : Ch st bs f bd) : Ch st bs (.mp id 0) (bd ++ g) := by
  obtain ⟨m, l, hd, hm, ok⟩ := n.ex
  exact Ch.cons hd hm ok c
theorem cutk {z : Nat} {x : AV} {es : List AV} (h : IsSl z x es) : (∃ x', IsSl z x' (es.take 1) ∧ ∀ {β : Type} (K : AV → Option β), sliceS z x none (some ((min 1 es.length : Nat) : Int)) none K = K x') ∧ ∃ x', IsSl z x' (es.drop 1) ∧ ∀ {β : Type} (K : AV → Option β), sliceS z x (some ((min 1 es.length : Nat) : Int)) none none K = K x' := by
  have ht : es.take (min 1 es.length) = es.take 1 := by rw [List.take_eq_take_iff]; omega
  have hd : es.drop (min 1 es.length) = es.drop 1 := by
    cases es with
    | nil => rfl
    | cons a l => simp
  constructor
  · obtain ⟨x', hx, e⟩ := h.cut (lo := none) (hi := some ((min 1 es.length : Nat) : Int)) (l := 0) (m := min 1 es.length) rfl (hiO_nat (by omega))
    exact ⟨x', by rw [List.drop_zero, ht] at hx; exact hx, e⟩
  · obtain ⟨x', hx, e⟩ := h.cut (lo := some ((min 1 es.length : Nat) : Int)) (hi := none) (l := min 1 es.length) (m := es.length) (hiO_nat (by omega)) rfl
    exact ⟨x', by rw [List.take_length, hd] at hx; exact hx, e⟩
theorem min1 (k : Nat) : (if (k : Int) < 1 then (k : Int) else 1) = ((min 1 k : Nat) : Int) := by
  split <;> omega
/-- A let's frames. -/
def Tw (st : St) (a : Nat) (T : Tb × List Nat × List Nat) (r : AV × St) : Prop := ∃ f1 f2 st', r = (.tup [f1, f2], st') ∧ Mt st' a T.1 ∧ Ch st' T.1.bs f1 T.2.1 ∧ Ch st' T.1.bs f2 T.2.2 ∧ Kt (· = a) st st'
theorem twos_ok {rc : Bool} {ps : List Pat} {es : List AV} {y f : AV} {st : St} {a : Nat} {t : Tb} {bd : List Nat} (hps : IsPs ps es) (hy : IsSl 6 y es) (w : Mt st a t) (hc : Ch st t.bs f bd) (hin : In t bd) (hsm : Sm (two rc ps t bd).1) :
    Goes ((orc vE).wide 12 [.mp a 0, .bool rc, y, f] st) (Tw st a (two rc ps t bd)) := by
  obtain ⟨⟨y1, h1, e1⟩, y2, h2, e2⟩ := cutk hy
  obtain ⟨t1, ht1⟩ := named (binders (ps.take 1) t []).1
  obtain ⟨t2, ht2⟩ := named (binders (ps.drop 1) t1 []).1
  have hT : two rc ps t bd = (t2, bd ++ gr t.bs.length t1.bs.length, (if rc = true then bd ++ gr t.bs.length t1.bs.length else bd) ++ gr t1.bs.length t2.bs.length) := by
    have b1 : (binders (ps.take 1) t bd).1 = t1 := by rw [← ht1]; exact binders_tab _ _ _ _
    have b2 : (binders (ps.take 1) t bd).2 = bd ++ gr t.bs.length t1.bs.length := by rw [binders_gr, b1]
    have b3 : ∀ b, (binders (ps.drop 1) t1 b).1 = t2 := fun b => by rw [← ht2]; exact binders_tab _ _ _ _
    have b4 : ∀ b, (binders (ps.drop 1) t1 b).2 = b ++ gr t1.bs.length t2.bs.length := fun b => by rw [binders_gr, b3]
    unfold two
    dsimp only
    rw [b1, b2, b3, b4]
  rw [hT] at hsm ⊢
  have x1 : Ext t t1 := by rw [← ht1]; exact binders_ext _ _ _
  have x2 : Ext t1 t2 := by rw [← ht2]; exact binders_ext _ _ _
  have hs2 : Sm t2 := hsm
  have hs1 : Sm t1 := hs2.ext x2
  refine Goes.wide (Goes.step (w12_eq _ _ _ _ _) ?_)
  simp only [w12, asB_bool, hy.len, letV_eq, min1, e1]
  refine Goes.callW (binds_ok (IsPs.take 1 hps) h1 w hc.one (by rw [ht1]; exact hs1)) rfl (nb1 _ _ _ _) ?_
  rintro v3 s3 ⟨id1, s3', q3, w3, k3, n3, l3⟩
  cases q3
  rw [ht1] at w3 n3
  have c3 : Ch s3 t1.bs f bd := hc.go hin w k3 (fun j e => .inl e) x1
  have cf3 : Ch s3 t1.bs (.mp id1 0) (bd ++ gr t.bs.length t1.bs.length) := n3.ch c3
  have hin1 : In t1 bd := hin.ext x1
  have hinf : In t1 (bd ++ gr t.bs.length t1.bs.length) := fun i hi => by
    rcases List.mem_append.1 hi with h | h
    · exact hin1 i h
    · exact gr_lt h
  simp only [e2]
  refine Goes.callW (binds_ok (IsPs.drop 1 hps) h2 w3 hc.one (by rw [ht2]; exact hs2)) rfl (nb1 _ _ _ _) ?_
  rintro v5 s5 ⟨id2, s5', q5, w5, k5, n5, l5⟩
  cases q5
  rw [ht2] at w5 n5
  have c5 : Ch s5 t2.bs f bd := c3.go hin1 w3 k5 (fun j e => .inl e) x2
  cases rc with
  | false =>
    simp only [ifB_false, bindO_ok, un0_nil]
    exact Goes.some ⟨_, _, _, rfl, w5, cf3.go hinf w3 k5 (fun j e => .inl e) x2, n5.ch c5, k3.trans k5⟩
  | true =>
    obtain ⟨m2, l2, hd2, hm2, ok2⟩ := n5.ex
    have r5 : s5.ro ≤ id2 := by
      rw [k5.ro, k3.ro]
      have := w.roh
      have := k3.h
      omega
    obtain ⟨s6, e6⟩ := named (s5.put id2 (.cells FT [.mm m2, .mp id1 0]))
    have kp : Keeps s5 s6 (· = id2) := by rw [← e6]; exact Keeps.put rfl
    have est : ∀ {β : Type} (K : Kv β), storeS (orc vE) 1 (.mp id2 1) (.mp id1 0) [.mp id1 0] s5 K = K VM.undef s6 ⟨[id2], .wrote id2 (.cells FT [.mm m2, .mp id1 0])⟩ := fun K => by
      rw [← e6]
      exact storeS_at (cs := [.mp id1 0]) (z := 1) hd2 rfl (Nat.le_of_ble_eq_true rfl) r5 K
    obtain ⟨xb, xu, xt, hg5, _⟩ := w5.ex
    have hne : id2 ≠ a := ne_ty hd2 hg5 (by decide)
    have w6 : Mt s6 a t2 := w5.keep kp (fun e => hne e.symm) (fun j n e hj hji => by subst hji; rw [hd2] at hj; cases hj)
    have hd6 : s6.get id2 = .ok (.cells FT [.mm m2, .mp id1 0]) := by rw [← e6]; exact St.get_put_same (St.get_ok.1 hd2).1
    have hm6 := kp.old _ _ (fun e => ne_map hd2 hm2 e.symm) hm2
    have k56 : Kt (fun j => j = a ∨ s3.h ≤ j) s3 s6 := (k5.weak fun j e => .inl e).trans (Kt.keeps (kp.weak fun j e => .inr (by rw [e]; exact l5)))
    have cf6 : Ch s6 t2.bs (.mp id1 0) (bd ++ gr t.bs.length t1.bs.length) := cf3.go hinf w3 k56 (fun j e => e) x2
    simp only [ifB_true, notNil_mp, chk_true, fldA_mp, Nat.zero_add, asOne_mp, est, bindO_ok, un0_nil]
    refine Goes.some ⟨_, _, _, rfl, w6, cf6, ?_, k3.join k56 fun j e => ?_⟩
    · exact Ch.cons hd6 hm6 ok2 cf6
    · rcases e with e | e
      · exact .inl e
      · exact .inr (Nat.le_trans k3.h e)
end Go.Proofs.Ytoopmjhdgkcleaa.Vm
/- The program's expressions. -/
set_option maxRecDepth 100000
set_option linter.unusedSimpArgs false
namespace Go.Proofs.Ytoopmjhdgkcleaa.Vm
open Go Go.VM Go.Proofs Go.Scope

/-- A table at work, and what is bound at a frame. -/
structure At (st0 st : St) (a : Nat) (t : Tb) (f : AV) (bd : List Nat) : Prop where
  w : Mt st a t
  c : Ch st t.bs f bd
  i : In t bd
  k : Kt (· = a) st0 st
theorem At.go {st0 st st' : St} {a : Nat} {t t' : Tb} {f : AV} {bd : List Nat} (h : At st0 st a t f bd) (w : Mt st' a t') (k : Kt (· = a) st st') (e : Ext t t') : At st0 st' a t' f bd :=
  ⟨w, h.c.go h.i h.w k (fun _ e => .inl e) e, h.i.ext e, h.k.trans k⟩
theorem At.quiet {st0 st st' : St} {a : Nat} {t : Tb} {f : AV} {bd : List Nat} (h : At st0 st a t f bd) (k : Keeps st st' (fun _ => False)) : At st0 st' a t f bd :=
  h.go (h.w.keep k (fun f => f) (fun _ _ _ _ f => f)) (Kt.keeps (k.weak fun _ f => f.elim)) (Ext.refl t)
/-- Done: a table. -/
def Dm (a : Nat) (st : St) (t' : Tb) (q : AV × St) : Prop := ∃ v' st', q = (v', st') ∧ Mt st' a t' ∧ Kt (· = a) st st'
def ExM (n : Nat) : Prop := ∀ (e : Exr) (v : AV) (st : St) (a : Nat) (t : Tb) (bd : List Nat) (f : AV), SizeOf.sizeOf e < n → IsE e v → At st st a t f bd → Sm (expr e t bd) → Goes ((orc vE).wide 13 [.mp a 0, v, f] st) (Dm a st (expr e t bd))
theorem At.self {st0 st : St} {a : Nat} {t : Tb} {f : AV} {bd : List Nat} (h : At st0 st a t f bd) : At st st a t f bd := ⟨h.w, h.c, h.i, Kt.refl _ _⟩
/-- A local expression. -/
theorem lvE (st : St) (k : Nat) (sp : Sp) (rc : Bool) (nm : Tx) (x y : AV) (h : st.ro ≤ st.h) : ∃ st' fx, st'.get st.h = .ok (.cells 43 [.int .u8 (k : Int), .int .i64 sp.1, .int .i64 sp.2, .bool rc, .str nm, x, y]) ∧ Keeps st st' (fun _ => False) ∧
    ∀ {β : Type} (K : Kv β), storeS (orc vE) 7 (AV.mp st.h 0) (.agg [.int .u8 (k : Int), .int .i64 sp.1, .int .i64 sp.2, .bool rc, .str nm, x, y]) [.int .u8 (k : Int), .int .i64 sp.1, .int .i64 sp.2, .bool rc, .str nm, x, y]
      (st.add (.cells 43 [.int .u8 0, .int .i64 0, .int .i64 0, .bool false, .str [], .nils, .nils])) K = K VM.undef st' fx := by
  obtain ⟨st', g, k1, n, fx, e⟩ := local_var (O := orc vE) (st := st) (t := 43) (z := 7) (old := [.int .u8 0, .int .i64 0, .int .i64 0, .bool false, .str [], .nils, .nils]) (cs := [.int .u8 (k : Int), .int .i64 sp.1, .int .i64 sp.2, .bool rc, .str nm, x, y])
    (.agg [.int .u8 (k : Int), .int .i64 sp.1, .int .i64 sp.2, .bool rc, .str nm, x, y]) rfl rfl h
  exact ⟨st', fx, g, k1, e⟩
theorem exprm_of {n : Nat} (ih : ExM n) {l : List Exr} {es : List AV} {y : AV} {st : St} {a : Nat} {t : Tb} {bd : List Nat} {f : AV} (hsz : ∀ e ∈ l, SizeOf.sizeOf e < n) (hl : IsEs l es) (hy : IsSl 7 y es) (h : At st st a t f bd)
    (hsm : Sm (exprs l t bd)) : Goes ((orc vE).wide 18 [.mp a 0, y, f] st) (Dm a st (exprs l t bd)) := by
  have hyl := hy.1
  refine Goes.wide (Goes.step (w18_eq _ _ _ _) ?_)
  simp only [w18, hy.len]
  refine Goes.bind (R := fun c => ∃ s' n', c = (n', [], s') ∧ Mt s' a (exprs l t bd) ∧ Kt (· = a) st s')
    (Goes.upto (n := es.length) (I := fun i s => ∃ s' tj, s = ([.int .i64 (i : Int)], s') ∧ At st s' a tj f bd ∧ exprs (l.drop i) tj bd = exprs l t bd) ?_ ?_ es.length 0 _ (by omega) ⟨_, _, rfl, h, rfl⟩) ?_
  · rintro i s hi ⟨s2, tj, rfl, h2, hg⟩
    obtain ⟨q, r, hd⟩ := drop_at (l := l) (i := i) (by rw [← hl.len]; exact hi)
    obtain ⟨v, hv, hQ, _⟩ := hl.get hd
    have hr2 := (drop_cons hd).2.1
    have hq := hsz q (mem_drop hd)
    rw [hd] at hg
    simp only [exprs] at hg
    have hsq : Sm (expr q tj bd) := by
      refine hsm.ext ?_
      rw [← hg]
      exact ext_exprs r _ _
    have hlt : (i : Int) < (es.length : Int) := by omega
    have he := ext_expr q tj bd
    cases q with
    | mk kq spq rq nq qs lq =>
      have hQ0 := hQ
      obtain ⟨yq, eq, zq, fq, rfl, hyq, hqs, hzq, hlq⟩ := hQ.opn
      obtain ⟨s3, fx3, gv, k3, ev⟩ := lvE s2 kq spq rq nq yq zq h2.w.roh
      have h3 := h2.quiet k3
      have hcall := ih _ _ s3 a tj bd f hq hQ0 h3.self hsq
      simp only [w18_L1, unc_cons, asI_int, un0_nil, ifB_decide, if_pos hlt, hy.idx hv, AV.cells, loadS_ip, take7, bindO_ok, unA_agg, asS_str, asB_bool, letSt_eq, hyq.asOne, hzq.asOne, ev, loadS_mp gv, List.drop_zero]
      refine Goes.callW hcall rfl (nb1 _ _ _ _) ?_
      rintro v4 s4 ⟨x4, s4', e4, w4, k4⟩
      cases e4
      simp only [letV_eq, wrap1 hi hyl]
      refine Goes.inl ?_
      exact ⟨_, _, rfl, h3.go w4 k4 he, by rw [hr2]; exact hg⟩
  · rintro s ⟨s2, tj, rfl, h2, hg⟩
    have hlt : ¬ (es.length : Int) < (es.length : Int) := by omega
    rw [List.drop_eq_nil_of_le (by rw [← hl.len]; exact Nat.le_refl _)] at hg
    simp only [exprs] at hg
    simp only [w18_L1, unc_cons, asI_int, un0_nil, ifB_decide, if_neg hlt]
    refine Goes.inr ?_
    rw [← hg]
    exact ⟨_, _, rfl, h2.w, h2.k⟩
  · rintro c ⟨s', n', rfl, w', k'⟩
    simp only [un0_nil]
    exact Goes.some ⟨_, _, rfl, w', k'⟩
theorem max_int {a b : Nat} : (if (b : Int) > (a : Int) then (b : Int) else (a : Int)) = ((max a b : Nat) : Int) := by
  split <;> omega
theorem armsm {n : Nat} (ih : ExM n) {ls : List Exr} {ps : List Pat} {es fs : List AV} {y z : AV} {st st0 : St} {a : Nat} {t : Tb} {bd : List Nat} {f : AV} (hsz : ∀ e ∈ ls, SizeOf.sizeOf e < n) (hps : IsPs ps es) (hy : IsSl 6 y es) (hl : IsEs ls fs) (hz : IsSl 7 z fs) (h : At st0 st a t f bd)
    (hfew : ps.length ≤ 100000000) (hsm : Sm (armsA (ls.drop 1) ps t bd)) :
    Goes (loopO (w13_L1 (.mp a 0) f y z ((min 1 fs.length : Nat) : Int) ((max es.length (fs.length - min 1 fs.length) : Nat) : Int)) ([.int .i64 0], st)) fun c => ∃ s' n', c = (n', [], s') ∧ Mt s' a (armsA (ls.drop 1) ps t bd) ∧ Kt (· = a) st0 s' := by
  have hzl := hz.1
  have hyl := hy.1
  have hlen := hl.len
  have hplen := hps.len
  have drop1 : ∀ i, ls.drop (min 1 fs.length + i) = ls.drop (i + 1) := fun i => by
    by_cases h0 : fs.length = 0
    · have : ls = [] := List.length_eq_zero_iff.1 (by omega)
      rw [this]; simp
    · congr 1; omega
  refine Goes.upto (n := max es.length (fs.length - min 1 fs.length)) (I := fun i s => ∃ s' tj, s = ([.int .i64 (i : Int)], s') ∧ At st0 s' a tj f bd ∧ armsA (ls.drop (i + 1)) (ps.drop i) tj bd = armsA (ls.drop 1) ps t bd) ?_ ?_ (max es.length (fs.length - min 1 fs.length)) 0 _ (by omega) ⟨_, _, rfl, h, rfl⟩
  · rintro i s hi ⟨s2, tj, rfl, h2, hg⟩
    have wi : IntKind.wrap .i64 ((i : Int) + 1) = ((i + 1 : Nat) : Int) := wrapA1 (by omega)
    have wk : IntKind.wrap .i64 (((min 1 fs.length : Nat) : Int) + (i : Int)) = ((min 1 fs.length + i : Nat) : Int) := wrapA (by omega)
    have q0 : (i : Int) < ((max es.length (fs.length - min 1 fs.length) : Nat) : Int) := by omega
    simp only [w13_L1, unc_cons, asI_int, un0_nil, ifB_decide, if_pos q0, hy.len, hz.len, letV_eq, wi, wk]
    have first : ∃ (tk : Tb) (bk : List Nat), (match ps.drop i with | [] => (tj, bd) | p :: _ => binders [p] tj bd) = (tk, bk) ∧ Ext tj tk := by
      cases hd : ps.drop i with
      | nil => exact ⟨tj, bd, rfl, Ext.refl _⟩
      | cons p r => exact ⟨(binders [p] tj bd).1, (binders [p] tj bd).2, rfl, binders_ext [p] tj bd⟩
    obtain ⟨tk, bk, hk, hek⟩ := first
    have hfin : armsA (ls.drop (i + 1)) (ps.drop i) tj bd = (match ls.drop (i + 1) with | [] => alls ((ps.drop i).drop 1) tk bd | e :: r => armsA r ((ps.drop i).drop 1) (expr e tk bk) bd) := by
      cases hP : ps.drop i with
      | nil =>
        rw [hP] at hk
        cases hk
        cases ls.drop (i + 1) with
        | nil => simp only [armsA, alls, List.drop_nil]
        | cons e r => simp only [armsA, List.drop_nil]
      | cons p r =>
        rw [hP] at hk
        simp only at hk
        cases ls.drop (i + 1) with
        | nil => simp only [armsA, alls, List.drop_succ_cons, List.drop_zero, hk]
        | cons e r => simp only [armsA, List.drop_succ_cons, List.drop_zero, hk]
    rw [hg] at hfin
    have hsk : Sm tk := by
      refine hsm.ext ?_
      rw [hfin]
      cases ls.drop (i + 1) with
      | nil => exact ext_alls _ _ _
      | cons e r => exact (ext_expr e tk bk).trans (ext_arms r _ _ _)
    refine Goes.bind (R := fun c => ∃ f' s', c = ([f'], s') ∧ At st0 s' a tk f' bk ∧ At st0 s' a tk f bd) ?_ ?_
    · by_cases hp : i < es.length
      · obtain ⟨p, r, hd⟩ := drop_at (l := ps) (i := i) (by omega)
        obtain ⟨y', hy', ey⟩ := cut_one hy hp
        have hps' : IsPs [p] ((es.take (i + 1)).drop i) := by
          rw [← take_drop_one hd]
          exact IsPs.drop i (IsPs.take (i + 1) hps)
        rw [hd] at hk
        simp only at hk
        have hq : (i : Int) < (es.length : Int) := by omega
        have h1 : (binders [p] tj bd).1 = tk := by rw [hk]
        have h1' : (binders [p] tj []).1 = tk := by rw [← h1]; exact binders_tab _ _ _ _
        have h3 : bk = bd ++ gr tj.bs.length tk.bs.length := by
          have := binders_gr [p] tj bd
          rw [hk] at this
          exact this
        simp only [if_pos hq, ey]
        refine Goes.callW (binds_ok hps' hy' h2.w h2.c.one (by rw [h1']; exact hsk)) rfl (nb1 _ _ _ _) ?_
        rintro v3 s3 ⟨id, s3', e3, w3, k3, n3, _⟩
        cases e3
        rw [h1'] at w3 n3
        have h4 := h2.go w3 k3 hek
        refine Goes.some ⟨_, _, rfl, ⟨w3, ?_, ?_, h4.k⟩, h4⟩
        · rw [h3]; exact n3.ch h4.c
        · rw [h3]
          intro j hj
          rcases List.mem_append.1 hj with hj | hj
          · exact h4.i j hj
          · exact gr_lt hj
      · have hq : ¬ (i : Int) < (es.length : Int) := by omega
        rw [List.drop_eq_nil_of_le (by omega)] at hk
        cases hk
        simp only [if_neg hq]
        exact Goes.some ⟨_, _, rfl, h2, h2⟩
    rintro c ⟨f1, s1, rfl, h1, h1'⟩
    simp only [unc_cons, un0_nil]
    refine Goes.bind (R := fun c => ∃ s' tl, c = ([], s') ∧ At st0 s' a tl f bd ∧ armsA (ls.drop (i + 1 + 1)) (ps.drop (i + 1)) tl bd = armsA (ls.drop 1) ps t bd) ?_ ?_
    · have hdd : (ps.drop i).drop 1 = ps.drop (i + 1) := by rw [List.drop_drop]
      rw [hdd] at hfin
      by_cases hp : min 1 fs.length + i < fs.length
      · have hm : min 1 fs.length = 1 := by omega
        obtain ⟨q, r, hd⟩ := drop_at (l := ls) (i := i + 1) (by omega)
        obtain ⟨v, hv, hQ, _⟩ := hl.get hd
        have hr2 := (drop_cons hd).2.1
        have hq := hsz q (mem_drop hd)
        rw [hd] at hfin
        simp only at hfin
        have hsq : Sm (expr q tk bk) := by
          refine hsm.ext ?_
          rw [hfin]
          exact ext_arms r _ _ _
        have hlt : ((min 1 fs.length + i : Nat) : Int) < (fs.length : Int) := by omega
        have hv' : fs[min 1 fs.length + i]? = some v := by rw [hm, Nat.add_comm]; exact hv
        have he := ext_expr q tk bk
        have hcall := ih q v s1 a tk bk f1 hq hQ h1.self hsq
        cases q with
        | mk kq spq rq nq qs lq =>
          obtain ⟨yq, eq, zq, fq, rfl, hyq, hqs, hzq, hlq⟩ := hQ.opn
          simp only [if_pos hlt, hz.idx hv', AV.cells, loadS_ip, take7, bindO_ok, unA_agg, unc_cons, asI_int, asS_str, asB_bool, un0_nil]
          refine Goes.callW hcall rfl (nb1 _ _ _ _) ?_
          rintro v3 s3 ⟨x3, s3', e3, w3, k3⟩
          cases e3
          exact Goes.some ⟨_, _, rfl, h1'.go w3 k3 he, by rw [hr2]; exact hfin.symm⟩
      · have hlt : ¬ ((min 1 fs.length + i : Nat) : Int) < (fs.length : Int) := by omega
        simp only [if_neg hlt]
        refine Goes.some ⟨_, _, rfl, h1', ?_⟩
        have hnil : ls.drop (i + 1) = [] := by rw [← drop1 i]; exact List.drop_eq_nil_of_le (by omega)
        have hnil2 : ls.drop (i + 1 + 1) = [] := by rw [← drop1 (i + 1)]; exact List.drop_eq_nil_of_le (by omega)
        rw [hnil] at hfin
        rw [hnil2]
        simp only at hfin
        simp only [armsA]
        exact hfin.symm
    rintro c ⟨s', tl, rfl, h', hg'⟩
    simp only [un0_nil]
    refine Goes.inl ?_
    exact ⟨_, _, rfl, h', hg'⟩
  · rintro s ⟨s2, tj, rfl, h2, hg⟩
    have q1 : ¬ ((max es.length (fs.length - min 1 fs.length) : Nat) : Int) < ((max es.length (fs.length - min 1 fs.length) : Nat) : Int) := by omega
    have hnil : ls.drop (max es.length (fs.length - min 1 fs.length) + 1) = [] := by
      rw [← drop1]
      exact List.drop_eq_nil_of_le (by omega)
    rw [hnil, List.drop_eq_nil_of_le (show ps.length ≤ max es.length (fs.length - min 1 fs.length) by omega)] at hg
    simp only [armsA, alls] at hg
    simp only [w13_L1, unc_cons, asI_int, un0_nil, ifB_decide, if_neg q1]
    refine Goes.inr ?_
    rw [← hg]
    exact ⟨_, _, rfl, h2.w, h2.k⟩
end Go.Proofs.Ytoopmjhdgkcleaa.Vm
/- The program's table. -/
set_option maxRecDepth 100000
set_option linter.unusedSimpArgs false
namespace Go.Proofs.Ytoopmjhdgkcleaa.Vm
open Go Go.VM Go.Proofs Go.Scope

theorem Goes.onSum {α β : Type} {I : α → Prop} {Q : β → Prop} {r : Sum α β} {f : α → Option β} (h : Lp I Q r) (g : ∀ a, I a → Goes (f a) Q) : Goes (VM.onSum r f) Q := by
  cases r with
  | inl a => exact g a h
  | inr b => exact ⟨b, rfl, h⟩
/-- What is left: expressions, at a frame. -/
def Mid (st : St) (a : Nat) (ls : List Exr) (fin : Tb) (p : List AV × St) : Prop := ∃ f s' tm bm, p = ([f], s') ∧ At st s' a tm f bm ∧ exprs ls tm bm = fin
theorem letA_split (ls : List Exr) (t : Tb) (b1 b2 : List Nat) : letA ls t b1 b2 = exprs (ls.drop 1) (exprs (ls.take 1) t b2) b1 := by
  cases ls with
  | nil => simp only [letA, List.drop_nil, List.take_nil, exprs]
  | cons a r => simp only [letA, List.drop_succ_cons, List.drop_zero, List.take_succ_cons, List.take_zero, exprs]
theorem matchA_split (ls : List Exr) (ps : List Pat) (t : Tb) (bd : List Nat) : matchA ls ps t bd = armsA (ls.drop 1) ps (exprs (ls.take 1) t bd) bd := by
  cases ls with
  | nil => simp only [matchA, List.drop_nil, List.take_nil, exprs, armsA]
  | cons a r => simp only [matchA, List.drop_succ_cons, List.drop_zero, List.take_succ_cons, List.take_zero, exprs]
theorem exprm_ok : ∀ n, ExM n := by
  intro n
  induction n with
  | zero => intro e v st a t bd f h; omega
  | succ n ih =>
    intro e v st a t bd f h hE hA hsm
    cases e with
    | mk k sp rc nm ps ls =>
      obtain ⟨y, es, z, fs, rfl, hy, hps, hz, hl⟩ := hE.opn
      have hfew := hE.few
      have hzl := hz.1
      simp only [Exr.mk.sizeOf_spec] at h
      have hsz : ∀ e ∈ ls, SizeOf.sizeOf e < n := fun e he => mem_lt he (show SizeOf.sizeOf ls < n by omega) (Nat.le_refl _)
      have hszt : ∀ e ∈ ls.take 1, SizeOf.sizeOf e < n := fun e he => hsz e (List.mem_of_mem_take he)
      have hszd : ∀ e ∈ ls.drop 1, SizeOf.sizeOf e < n := fun e he => hsz e (List.mem_of_mem_drop he)
      obtain ⟨⟨z1, hz1, ez1⟩, z2, hz2, ez2⟩ := cutk hz
      refine Goes.wide (Goes.step (w13_eq _ _ _ _) ?_)
      simp only [w13, unA_agg, unc_cons, asI_int, asS_str, asB_bool, un0_nil, hy.asOne, hz.asOne, hy.fit1, hz.fit1, hz.len, letV_eq, min1]
      refine Goes.bind (R := Lp (Mid st a ls (expr (.mk k sp rc nm ps ls) t bd)) (Dm a st (expr (.mk k sp rc nm ps ls) t bd))) ?_ ?_
      · by_cases h1 : k = 1
        · have q1 : (k : Int) = 1 := by omega
          have e0 : expr (.mk k sp rc nm ps ls) t bd = exprs ls (useT nm sp t bd) bd := by subst h1; simp only [expr]; rfl
          rw [e0] at hsm ⊢
          simp only [ifB_beq, if_pos q1]
          obtain ⟨xb, xu, xt, hg, ob, ou, ot⟩ := hA.w.ex
          have hsu : Sm (useT nm sp t bd) := hsm.ext (ext_exprs ls _ _)
          have hul : t.us.length ≤ 100000000 := by
            have := hsu.us
            simp only [useT, List.length_append] at this
            omega
          obtain ⟨q, hq, c1⟩ := call_find nm hA.c
          obtain ⟨v', s1, fx, s2, fx2, hfine, hone, w2, k2, e1, e2⟩ := hA.w.pushU hul nm sp (means t.bs nm bd) hg ob ou ot
          simp only [notNil_mp, chk_true, fldA_mp, Nat.zero_add, loadS_mp hg, List.drop_succ_cons, List.drop_zero, takeO_one, bindO_ok, c1, asI_int, hq, Bool.and_self, e1, hfine.l0, asOne_of hone, e2]
          refine Goes.inl ?_
          exact ⟨_, _, _, _, rfl, hA.go w2 k2 ⟨⟨[], by simp⟩, ⟨_, rfl⟩, ⟨[], by simp⟩⟩, rfl⟩
        have q1 : ¬ (k : Int) = 1 := by omega
        simp only [ifB_beq, if_neg q1]
        refine Goes.bind (R := Lp (Mid st a ls (expr (.mk k sp rc nm ps ls) t bd)) (Lp (Mid st a ls (expr (.mk k sp rc nm ps ls) t bd)) (Dm a st (expr (.mk k sp rc nm ps ls) t bd)))) ?_ ?_
        · by_cases h11 : k = 11
          · have q : (k : Int) = 11 := by omega
            have e0 : expr (.mk k sp rc nm ps ls) t bd = exprs ls (binders ps t bd).1 (binders ps t bd).2 := by simp only [expr, if_pos h11]
            rw [e0] at hsm ⊢
            simp only [if_pos q]
            have hsm1 : Sm (binders ps t bd).1 := hsm.ext (ext_exprs ls _ _)
            have hb1 : (binders ps t []).1 = (binders ps t bd).1 := binders_tab _ _ _ _
            refine Goes.callW (binds_ok hps hy hA.w hA.c.one (by rw [hb1]; exact hsm1)) rfl (nb1 _ _ _ _) ?_
            rintro v3 s3 ⟨id, s3', e3, w3, k3, n3, _⟩
            cases e3
            rw [hb1] at w3 n3
            have h4 := hA.go w3 k3 (binders_ext ps t bd)
            refine Goes.inl ?_
            refine ⟨_, _, (binders ps t bd).1, (binders ps t bd).2, rfl, ⟨w3, ?_, in_binders hA.i, h4.k⟩, rfl⟩
            rw [binders_gr]
            exact n3.ch h4.c
          have q11 : ¬ (k : Int) = 11 := by omega
          simp only [if_neg q11]
          by_cases h14 : k = 14
          · have q : (k : Int) = 14 := by omega
            have e0 : expr (.mk k sp rc nm ps ls) t bd = exprs (ls.drop 1) (exprs (ls.take 1) (two rc ps t bd).1 (two rc ps t bd).2.2) (two rc ps t bd).2.1 := by simp only [expr, if_neg h11, if_pos h14, letA_split]
            rw [e0] at hsm ⊢
            simp only [if_pos q]
            have hs2 : Sm (exprs (ls.take 1) (two rc ps t bd).1 (two rc ps t bd).2.2) := hsm.ext (ext_exprs _ _ _)
            have hs1 : Sm (two rc ps t bd).1 := hs2.ext (ext_exprs _ _ _)
            refine Goes.callW (twos_ok hps hy hA.w hA.c hA.i hs1) rfl (nb1 _ _ _ _) ?_
            rintro v3 s3 ⟨f1, f2, s3', e3, w3, c1, c2, k3⟩
            cases e3
            simp only [unT_tup, nthS_zero, nthS_one, ez1]
            have a2 : At s3 s3 a (two rc ps t bd).1 f2 (two rc ps t bd).2.2 := ⟨w3, c2, (in_two hA.i).2, Kt.refl _ _⟩
            have a1 : At s3 s3 a (two rc ps t bd).1 f1 (two rc ps t bd).2.1 := ⟨w3, c1, (in_two hA.i).1, Kt.refl _ _⟩
            refine Goes.callW (exprm_of ih hszt (IsEs.take 1 hl) hz1 a2 hs2) rfl (nb1 _ _ _ _) ?_
            rintro v5 s5 ⟨x5, s5', e5, w5, k5⟩
            cases e5
            have a5 := a1.go w5 k5 (ext_exprs _ _ _)
            simp only [ez2]
            refine Goes.callW (exprm_of ih hszd (IsEs.drop 1 hl) hz2 a5.self hsm) rfl (nb1 _ _ _ _) ?_
            rintro v7 s7 ⟨x7, s7', e7, w7, k7⟩
            cases e7
            refine Goes.inr ?_
            exact ⟨_, _, rfl, w7, (k3.trans k5).trans k7⟩
          have q14 : ¬ (k : Int) = 14 := by omega
          simp only [if_neg q14]
          by_cases h13 : k = 13
          · have q : (k : Int) = 13 := by omega
            have e0 : expr (.mk k sp rc nm ps ls) t bd = armsA (ls.drop 1) ps (exprs (ls.take 1) t bd) bd := by simp only [expr, if_neg h11, if_neg h14, if_pos h13, matchA_split]
            rw [e0] at hsm ⊢
            simp only [if_pos q, ez1]
            have hs1 : Sm (exprs (ls.take 1) t bd) := hsm.ext (ext_arms _ _ _ _)
            refine Goes.callW (exprm_of ih hszt (IsEs.take 1 hl) hz1 hA hs1) rfl (nb1 _ _ _ _) ?_
            rintro v3 s3 ⟨x3, s3', e3, w3, k3⟩
            cases e3
            have a3 := hA.go w3 k3 (ext_exprs _ _ _)
            have wk : IntKind.wrap .i64 ((fs.length : Int) - ((min 1 fs.length : Nat) : Int)) = ((fs.length - min 1 fs.length : Nat) : Int) := wrapS (by omega) (by omega)
            simp only [hy.len, hz.len, letV_eq, wk, max_int]
            refine Goes.bind (armsm ih hsz hps hy hl hz a3 hfew hsm) ?_
            rintro c ⟨s5, n5, rfl, w5, k5⟩
            simp only [un0_nil]
            refine Goes.inr ?_
            exact ⟨_, _, rfl, w5, k5⟩
          have q13 : ¬ (k : Int) = 13 := by omega
          have e0 : expr (.mk k sp rc nm ps ls) t bd = exprs ls t bd := by simp only [expr, if_neg h11, if_neg h14, if_neg h13, if_neg h1]
          rw [e0] at hsm ⊢
          simp only [if_neg q13]
          refine Goes.inl ?_
          exact ⟨_, _, _, _, rfl, hA, rfl⟩
        · intro c hc
          refine Goes.onSum hc ?_
          rintro p ⟨f', s', tm, bm, rfl, ha, hf⟩
          simp only [unc_cons, un0_nil]
          refine Goes.inl ?_
          exact ⟨_, _, _, _, rfl, ha, hf⟩
      · intro c hc
        refine Goes.onSum hc ?_
        rintro p ⟨f', s', tm, bm, rfl, ha, hf⟩
        simp only [unc_cons, un0_nil]
        rw [← hf] at hsm ⊢
        refine Goes.callW (exprm_of ih hsz hl hz ha.self hsm) rfl (nb1 _ _ _ _) ?_
        rintro v7 s7 ⟨x7, s7', e7, w7, k7⟩
        cases e7
        exact Goes.some ⟨_, _, rfl, w7, ha.k.trans k7⟩
end Go.Proofs.Ytoopmjhdgkcleaa.Vm
/- The program's table, whole. -/
set_option maxRecDepth 100000
set_option linter.unusedSimpArgs false
namespace Go.Proofs.Ytoopmjhdgkcleaa.Vm
open Go Go.VM Go.Proofs Go.Scope

/-- A local declaration. -/
theorem lvB (st : St) (cs : List AV) (hc : cs.length = 11) (h : st.ro ≤ st.h) : ∃ st' fx, st'.get st.h = .ok (.cells 45 cs) ∧ Keeps st st' (fun _ => False) ∧
    ∀ {β : Type} (K : Kv β), storeS (orc vE) 11 (AV.mp st.h 0) (.agg cs) cs
      (st.add (.cells 45 [.int .i64 0, .int .i64 0, .bool false, .nils, .int .u8 0, .int .i64 0, .int .i64 0, .bool false, .str [], .nils, .nils])) K = K VM.undef st' fx := by
  obtain ⟨st', g, k1, n, fx, e⟩ := local_var (O := orc vE) (st := st) (t := 45) (z := 11) (old := [.int .i64 0, .int .i64 0, .bool false, .nils, .int .u8 0, .int .i64 0, .int .i64 0, .bool false, .str [], .nils, .nils]) (cs := cs) (.agg cs) rfl hc h
  exact ⟨st', fx, g, k1, e⟩
theorem prog_of_ok {l : List Bd} {es : List AV} {x : AV} (hl : IsDs l es) (hx : IsSl 11 x es) (hsm : Sm (ofS l)) : Goes ((orc vE).bare 7 [x]) (IsTb (ofS l)) := by
  have hxl := hx.1
  refine Goes.bare rfl (Goes.step (g7_eq _) ?_)
  simp only [g7, hx.len]
  obtain ⟨w0, g0⟩ := start2 (t0 := 34) (t1 := MK) (TB := 52) (TU := 53) (TI := 3) (by decide)
  have A0 : At (T2 34 MK) (T2 34 MK) 1 Tb.none .nilp [] := ⟨w0, Ch.nil, (fun _ h => by cases h), Kt.refl _ _⟩
  refine Goes.bind (R := fun c => ∃ s' n', c = (n', [], s') ∧ Mt s' 1 (ofS l) ∧ Kt (· = 1) (T2 34 MK) s')
    (Goes.upto (n := es.length) (I := fun i s => ∃ f s' tj row, s = ([f, .int .i64 (i : Int)], s') ∧ At (T2 34 MK) s' 1 tj f row ∧ decls (l.drop i) tj row = ofS l) ?_ ?_ es.length 0 _ (by omega)
      ⟨.nilp, _, _, [], rfl, A0, rfl⟩) ?_
  · rintro i s hi ⟨f, s2, tj, row, rfl, h2, hg⟩
    obtain ⟨d, r, hd⟩ := drop_at (l := l) (i := i) (by rw [← hl.len]; exact hi)
    obtain ⟨v, hv, hD, _⟩ := hl.get hd
    have hr2 := (drop_cons hd).2.1
    rw [hd] at hg
    simp only [decls] at hg
    obtain ⟨k, sp, rc, nm, qs, ls, x1, es1, y, fs, z, hs, hb, rfl, hx1, hp1, hy, hq, hz, hl1, hE⟩ := hD.opn
    have hsm2 : Sm (expr d.body (two d.rc d.ps tj row).1 (two d.rc d.ps tj row).2.2) := by
      refine hsm.ext ?_
      rw [← hg]
      exact ext_decls r _ _
    have hsm1 : Sm (two d.rc d.ps tj row).1 := hsm2.ext (ext_expr _ _ _)
    have hlt : (i : Int) < (es.length : Int) := by omega
    obtain ⟨s3, fx3, gv, k3, ev⟩ := lvB s2 [.int .i64 d.sp.1, .int .i64 d.sp.2, .bool d.rc, x1, .int .u8 (k : Int), .int .i64 sp.1, .int .i64 sp.2, .bool rc, .str nm, y, z] rfl h2.w.roh
    have h3 := h2.quiet k3
    simp only [g7_L1, unc_cons, asI_int, un0_nil, ifB_decide, if_pos hlt, hx.idx hv, AV.cells, loadS_ip, take11, bindO_ok, unA_agg, asB_bool, asS_str, letSt_eq, hx1.asOne, hy.asOne, hz.asOne, ev, loadS_mp gv, List.drop_succ_cons, List.drop_zero, takeO_one]
    refine Goes.callW (twos_ok hp1 hx1 h3.w h3.c h3.i hsm1) rfl (nb1 _ _ _ _) ?_
    rintro v4 s4 ⟨f1, f2, s4', e4, w4, c1, c2, k4⟩
    cases e4
    have gv4 := k4.cells (show ¬ s2.h = 1 by
      have := h2.w.lt
      omega) gv
    simp only [unT_tup, nthS_zero, nthS_one, loadS_mp gv4, List.drop_succ_cons, List.drop_zero, take7, bindO_ok, unA_agg, unc_cons, asI_int, asB_bool, asS_str, un0_nil]
    rw [← hb] at hE
    have a2 : At s4 s4 1 (two d.rc d.ps tj row).1 f2 (two d.rc d.ps tj row).2.2 := ⟨w4, c2, (in_two h3.i).2, Kt.refl _ _⟩
    have a1 : At (T2 34 MK) s4 1 (two d.rc d.ps tj row).1 f1 (two d.rc d.ps tj row).2.1 := ⟨w4, c1, (in_two h3.i).1, h3.k.trans k4⟩
    refine Goes.callW (exprm_ok _ d.body _ s4 1 _ _ f2 (Nat.lt_succ_self _) hE a2 hsm2) rfl (nb1 _ _ _ _) ?_
    rintro v5 s5 ⟨x5, s5', e5, w5, k5⟩
    cases e5
    simp only [letV_eq, wrap1 hi hxl]
    refine Goes.inl ?_
    exact ⟨_, _, _, _, rfl, a1.go w5 k5 (ext_expr _ _ _), by rw [hr2]; exact hg⟩
  · rintro s ⟨f, s2, tj, row, rfl, h2, hg⟩
    have hlt : ¬ (es.length : Int) < (es.length : Int) := by omega
    rw [List.drop_eq_nil_of_le (by rw [← hl.len]; exact Nat.le_refl _)] at hg
    simp only [decls] at hg
    simp only [g7_L1, unc_cons, asI_int, un0_nil, ifB_decide, if_neg hlt]
    refine Goes.inr ?_
    rw [← hg]
    exact ⟨_, _, rfl, h2.w, h2.k⟩
  · rintro c ⟨s', n', rfl, w', k'⟩
    have h0 := k'.cells (by omega) g0
    obtain ⟨xb, xu, xt, s2, fx, v, o1, o2, o3, hv, hg, hg2, e1, e2⟩ := table_end w' h0 k'.ro
    simp only [un0_nil, loadS_mp hg, List.drop_zero, take3, bindO_ok, unA_agg, unc_cons, asOne_of o1, asOne_of o2, asOne_of o3, e1, loadS_mp hg2, e2]
    exact Goes.some hv
end Go.Proofs.Ytoopmjhdgkcleaa.Vm
/- A table as the document's; the same tables; the same numbers. -/
set_option maxRecDepth 100000
set_option linter.unusedSimpArgs false
namespace Go.Proofs.Ytoopmjhdgkcleaa.Vm
open Go Go.VM Go.Proofs Go.Scope

/-- What freezing leaves of a slice. -/
def Fre (st : St) (z : Nat) (x : AV) (es : List AV) : Prop := ∃ y, IsSl z y es ∧ ∀ n, VM.freeze st 0 (n + 1) x = .ok y
theorem fre_own {st : St} {z : Nat} {e : TypeId} {x : AV} {es : List AV} (h : Own st z e x es) : Fre st z x es := own_freeze h
theorem fre_sl (st : St) {z : Nat} {x : AV} {es : List AV} (h : IsSl z x es) : Fre st z x es := ⟨x, h, fun n => fz_sl h st 0 (n + 1) (by omega)⟩
theorem frzT {st : St} {t : Tb} {xb xu xt : AV} (ob : Fre st 3 xb (encB t.bs)) (ou : Fre st 4 xu (encU t.us)) (ot : Fre st 1 xt (encN t.tw)) : ∃ v, IsTb t v ∧ ∀ {β : Type} (K : AV → Option β), frzS st 0 (.agg [xb, xu, xt]) K = K v := by
  obtain ⟨yb, hb, e1⟩ := ob
  obtain ⟨yu, hu, e2⟩ := ou
  obtain ⟨yt, ht, e3⟩ := ot
  refine ⟨_, ⟨yb, yu, yt, rfl, hb, hu, ht⟩, fun K => ?_⟩
  have e4 : VM.freeze st 0 100 (.agg [xb, xu, xt]) = .ok (.agg [yb, yu, yt]) := by
    show (do pure (.agg (← allE (VM.freeze st 0 99) [xb, xu, xt])) : Res AV) = _
    have e5 : allE (VM.freeze st 0 99) [xb, xu, xt] = .ok [yb, yu, yt] := by
      simp only [allE, e1 98, e2 98, e3 98, ok_bind, pure_eq]
    rw [e5]; rfl
  have e5 : bare (.agg [yb, yu, yt]) = true := by
    show (bare yb && (bare yu && (bare yt && true))) = true
    rw [hb.bare, hu.bare, ht.bare]; rfl
  simp only [frzS, e4, e5, chk_true]
theorem encB_take {l : List (Tx × Sp)} {i : Nat} {b : Tx × Sp} (h : l[i]? = some b) : encB (l.take i) ++ [.agg [.str b.1, .int .i64 b.2.1, .int .i64 b.2.2]] = encB (l.take (i + 1)) := by
  unfold encB
  rw [List.take_add_one, h, List.map_append]
  rfl
theorem encU_take {l : List (Tx × Sp × Int)} {i : Nat} {u : Tx × Sp × Int} (h : l[i]? = some u) : encU (l.take i) ++ [.agg [.str u.1, .int .i64 u.2.1.1, .int .i64 u.2.1.2, .int .i64 u.2.2]] = encU (l.take (i + 1)) := by
  unfold encU
  rw [List.take_add_one, h, List.map_append]
  rfl
theorem take2 {a b : AV} : takeO 2 true [a, b] = some (.agg [a, b]) := takeO_all rfl
theorem take2b {a b c : AV} : takeO 2 true [a, b, c] = some (.agg [a, b]) := by rw [takeO_agg (by simp)]; rfl
theorem law_of_ok {t : Tb} {v : AV} (hv : IsTb t v) (hsm : Sm t) : Goes ((orc vE).bare 6 [v]) (IsTb t) := by
  obtain ⟨yb, yu, yt, rfl, hb, hu, ht⟩ := hv
  have hbl := hb.1
  have hul := hu.1
  rw [encB_len] at hbl
  rw [encU_len] at hul
  have lb := fun {γ : Type} (K : Nat → Option γ) => hb.len K
  simp only [encB_len] at lb
  have lu := fun {γ : Type} (K : Nat → Option γ) => hu.len K
  simp only [encU_len] at lu
  refine Goes.bare rfl (Goes.step (g6_eq _) ?_)
  simp only [g6, unA_agg, unc_cons, un0_nil, hb.asOne, hu.asOne, ht.asOne, hb.fit1, hu.fit1, ht.fit1]
  refine Goes.bind (R := fun c => ∃ s' n' xb, c = (n', [], s') ∧ s'.get 1 = .ok (.cells 29 [xb, .nils, yt]) ∧ s'.get 0 = .ok (.cells 29 [.nils, .nils, .nils]) ∧ Own s' 3 49 xb (encB t.bs) ∧ s'.ro = 0)
    (Goes.upto (n := t.bs.length) (I := fun i s => ∃ s' xb, s = ([.int .i64 (i : Int)], s') ∧ s'.get 1 = .ok (.cells 29 [xb, .nils, yt]) ∧ s'.get 0 = .ok (.cells 29 [.nils, .nils, .nils]) ∧ Own s' 3 49 xb (encB (t.bs.take i)) ∧ s'.ro = 0) ?_ ?_ t.bs.length 0 _ (by omega) ⟨_, .nils, rfl, rfl, rfl, Own.nils (Nat.zero_le _) _ _, rfl⟩) ?_
  · rintro i s hi ⟨s2, xb, rfl, g1, g0, ob, hro⟩
    have hlt : (i : Int) < (t.bs.length : Int) := by omega
    have hget : t.bs[i]? = some t.bs[i] := List.getElem?_eq_getElem hi
    have hbs := hsm.bs
    have hi1 := fun {γ : Type} (s : St) (K : AV → List Nat → Option γ) => hb.idx (encB_get hget) s K
    obtain ⟨v', s3, fx, e1, o1, k1, _⟩ := app_own (b := 32) (new := [.agg [.str t.bs[i].1, .int .i64 t.bs[i].2.1, .int .i64 t.bs[i].2.2]]) ob (by simp) (room_of (by rw [encB_len, List.length_take]; simp; omega) (by omega) (by omega))
    have g13 := k1.old _ _ (ob.not g1) g1
    have g03 := k1.old _ _ (ob.not g0) g0
    have e2 := fun {γ : Type} (K : Kv γ) => storeS_at (O := orc vE) (cs := [v']) (z := 1) (off := 0) (v := v') g13 rfl (Nat.le_of_ble_eq_true rfl) (by rw [k1.ro, hro]; omega) K
    have e1' := fun {γ : Type} (K : Kv γ) => appS_of e1 K
    simp only [g6_L1, unc_cons, asI_int, un0_nil, lb, ifB_decide, if_pos hlt, loadS_mp g1, List.drop_zero, takeO_one, bindO_ok, hi1, AV.cells, fldA_ip, List.drop_succ_cons, loadS_ip, asS_str, take2, unA_agg, e1', asOne_of o1.one, e2, letV_eq, wrap1 hi hbl]
    refine Goes.inl ?_
    refine ⟨_, v', rfl, St.get_put_same (St.get_ok.1 g13).1, by rw [St.get_put_ne (by omega)]; exact g03, ?_, by show s3.ro = 0; rw [k1.ro]; exact hro⟩
    rw [← encB_take hget]
    exact o1.put g13
  · rintro s ⟨s2, xb, rfl, g1, g0, ob, hro⟩
    have hlt : ¬ (t.bs.length : Int) < (t.bs.length : Int) := by omega
    rw [List.take_length] at ob
    simp only [g6_L1, unc_cons, asI_int, un0_nil, lb, ifB_decide, if_neg hlt]
    refine Goes.inr ?_
    exact ⟨_, _, _, rfl, g1, g0, ob, hro⟩
  rintro c ⟨s1, n1, xb, rfl, g1, g0, ob, hro⟩
  simp only [un0_nil]
  refine Goes.bind (R := fun c => ∃ s' n' xu, c = (n', [], s') ∧ s'.get 1 = .ok (.cells 29 [xb, xu, yt]) ∧ s'.get 0 = .ok (.cells 29 [.nils, .nils, .nils]) ∧ Own s' 3 49 xb (encB t.bs) ∧ Own s' 4 51 xu (encU t.us) ∧ s'.ro = 0)
    (Goes.upto (n := t.us.length) (I := fun i s => ∃ s' xu, s = ([.int .i64 (i : Int)], s') ∧ s'.get 1 = .ok (.cells 29 [xb, xu, yt]) ∧ s'.get 0 = .ok (.cells 29 [.nils, .nils, .nils]) ∧ Own s' 3 49 xb (encB t.bs) ∧ Own s' 4 51 xu (encU (t.us.take i)) ∧ s'.ro = 0) ?_ ?_ t.us.length 0 _ (by omega) ⟨_, .nils, rfl, g1, g0, ob, Own.nils ob.1 _ _, hro⟩) ?_
  · rintro i s hi ⟨s2, xu, rfl, g1, g0, ob, ou, hro⟩
    have hlt : (i : Int) < (t.us.length : Int) := by omega
    have hget : t.us[i]? = some t.us[i] := List.getElem?_eq_getElem hi
    have hus := hsm.us
    have hi1 := fun {γ : Type} (s : St) (K : AV → List Nat → Option γ) => hu.idx (encU_get hget) s K
    obtain ⟨v', s3, fx, e1, o1, k1, _⟩ := app_own (b := 40) (new := [.agg [.str t.us[i].1, .int .i64 t.us[i].2.1.1, .int .i64 t.us[i].2.1.2, .int .i64 t.us[i].2.2]]) ou (by simp) (room_of (by rw [encU_len, List.length_take]; simp; omega) (by omega) (by omega))
    have g13 := k1.old _ _ (ou.not g1) g1
    have g03 := k1.old _ _ (ou.not g0) g0
    have ob3 := own_keep ob k1 (own_two ob ou (by decide))
    have e2 := fun {γ : Type} (K : Kv γ) => storeS_at (O := orc vE) (cs := [v']) (z := 1) (off := 1) (v := v') g13 rfl (Nat.le_of_ble_eq_true rfl) (by rw [k1.ro, hro]; omega) K
    have e1' := fun {γ : Type} (K : Kv γ) => appS_of e1 K
    simp only [g6_L2, unc_cons, asI_int, un0_nil, lu, ifB_decide, if_pos hlt, loadS_mp g1, List.drop_zero, List.drop_succ_cons, takeO_one, bindO_ok, hi1, AV.cells, fldA_ip, loadS_ip, asS_str, take2b, unA_agg, e1', asOne_of o1.one, e2, letV_eq, wrap1 hi hul]
    refine Goes.inl ?_
    refine ⟨_, v', rfl, St.get_put_same (St.get_ok.1 g13).1, by rw [St.get_put_ne (by omega)]; exact g03, ob3.put g13, ?_, by show s3.ro = 0; rw [k1.ro]; exact hro⟩
    rw [← encU_take hget]
    exact o1.put g13
  · rintro s ⟨s2, xu, rfl, g1, g0, ob, ou, hro⟩
    have hlt : ¬ (t.us.length : Int) < (t.us.length : Int) := by omega
    rw [List.take_length] at ou
    simp only [g6_L2, unc_cons, asI_int, un0_nil, lu, ifB_decide, if_neg hlt]
    refine Goes.inr ?_
    exact ⟨_, _, _, rfl, g1, g0, ob, ou, hro⟩
  rintro c ⟨s2, n2, xu, rfl, g1, g0, ob, ou, hro⟩
  have e2 := fun {γ : Type} (K : Kv γ) => storeS_at (O := orc vE) (cs := [xb, xu, yt]) (z := 3) (off := 0) (v := .agg [xb, xu, yt]) g0 rfl (Nat.le_of_ble_eq_true rfl) (by rw [hro]; omega) K
  have g2 : (s2.put 0 (.cells 29 [xb, xu, yt])).get 0 = .ok (.cells 29 [xb, xu, yt]) := St.get_put_same (St.get_ok.1 g0).1
  have e2 : ∀ {γ : Type} (K : Kv γ), storeS (orc vE) 3 (.mp 0 0) (.agg [xb, xu, yt]) [xb, xu, yt] s2 K = K VM.undef (s2.put 0 (.cells 29 [xb, xu, yt])) ⟨[0], .wrote 0 (.cells 29 [xb, xu, yt])⟩ := fun K => e2 K
  obtain ⟨v, hv, ef⟩ := frzT (fre_own (ob.put g0 (t' := 29) (cs' := [xb, xu, yt]))) (fre_own (ou.put g0)) (fre_sl (s2.put 0 (.cells 29 [xb, xu, yt])) ht)
  simp only [un0_nil, loadS_mp g1, List.drop_zero, take3, bindO_ok, unA_agg, unc_cons, asOne_of ob.one, asOne_of ou.one, ht.asOne, e2, loadS_mp g2, ef]
  exact Goes.some hv
/-! The same. -/
theorem ints_ok {x y : AV} {l : List Nat} (hx : IsSl 1 x (encN l)) (hy : IsSl 1 y (encN l)) : Goes ((orc vE).bare 11 [x, y]) (· = .bool true) := by
  have hxl := hx.1
  rw [encN_len] at hxl
  have lx := fun {γ : Type} (K : Nat → Option γ) => hx.len K
  simp only [encN_len] at lx
  have ly := fun {γ : Type} (K : Nat → Option γ) => hy.len K
  simp only [encN_len] at ly
  refine Goes.bare rfl (Goes.step (g11_eq _ _) ?_)
  simp only [g11, lx, ly, bne_self_eq_false, ifB_false]
  refine Goes.bind (R := fun c => ∃ b, c = (0, [.bool b], S0)) (Goes.upto (n := l.length) (I := fun i s => s = ([.bool false, .int .i64 (i : Int)], S0)) ?_ ?_ l.length 0 _ (by omega) rfl) ?_
  · rintro i s hi rfl
    have hlt : (i : Int) < (l.length : Int) := by omega
    have hget : l[i]? = some l[i] := List.getElem?_eq_getElem hi
    simp only [g11_L1, unc_cons, asI_int, asB_bool, un0_nil, lx, ifB_decide, if_pos hlt, hx.idx (encN_get hget), hy.idx (encN_get hget), AV.cells, loadS_ip, takeO_one, bindO_ok, bne_self_eq_false, ifB_false, letV_eq, wrap1 hi hxl]
    refine Goes.inl ?_
    rfl
  · rintro s rfl
    have hlt : ¬ (l.length : Int) < (l.length : Int) := by omega
    simp only [g11_L1, unc_cons, asI_int, asB_bool, un0_nil, lx, ifB_decide, if_neg hlt]
    refine Goes.inr ?_
    exact ⟨_, rfl⟩
  · rintro c ⟨b, rfl⟩
    simp only [unc_cons, asB_bool, un0_nil, sel2_zero]
    exact Goes.some rfl
theorem eq_span (a b : Int) : eqT (Env.T vE) 19 39 (.agg [.int .i64 a, .int .i64 b]) (.agg [.int .i64 a, .int .i64 b]) = .ok true := by
  have h : eqT (Env.T vE) 19 39 (.agg [.int .i64 a, .int .i64 b]) (.agg [.int .i64 a, .int .i64 b]) = (match a == a with | true => (match b == b with | true => .ok true | false => .ok false) | false => .ok false) := rfl
  rw [h, beq_self_eq_true, beq_self_eq_true]
theorem neq_B (s : Tx) (a b : Int) : toO (VM.binOp (Env.T vE) BinOp.neq 49 (.agg [.str s, .int .i64 a, .int .i64 b]) (.agg [.str s, .int .i64 a, .int .i64 b])) = some (.bool false) := by
  have e : eqT (Env.T vE) 20 49 (.agg [.str s, .int .i64 a, .int .i64 b]) (.agg [.str s, .int .i64 a, .int .i64 b]) = .ok true := by
    have h : eqT (Env.T vE) 20 49 (.agg [.str s, .int .i64 a, .int .i64 b]) (.agg [.str s, .int .i64 a, .int .i64 b]) = (match s == s with | true => (do match ← eqT (Env.T vE) 19 39 (.agg [.int .i64 a, .int .i64 b]) (.agg [.int .i64 a, .int .i64 b]) with | true => .ok true | false => .ok false) | false => .ok false) := rfl
    rw [h, eq_span, beq_self_eq_true]; rfl
  have h : VM.binOp (Env.T vE) BinOp.neq 49 (.agg [.str s, .int .i64 a, .int .i64 b]) (.agg [.str s, .int .i64 a, .int .i64 b]) = (do pure (.bool !(← eqT (Env.T vE) 20 49 (.agg [.str s, .int .i64 a, .int .i64 b]) (.agg [.str s, .int .i64 a, .int .i64 b])))) := rfl
  rw [h, e]; rfl
theorem neq_U (s : Tx) (a b k : Int) : toO (VM.binOp (Env.T vE) BinOp.neq 51 (.agg [.str s, .int .i64 a, .int .i64 b, .int .i64 k]) (.agg [.str s, .int .i64 a, .int .i64 b, .int .i64 k])) = some (.bool false) := by
  have e : eqT (Env.T vE) 20 51 (.agg [.str s, .int .i64 a, .int .i64 b, .int .i64 k]) (.agg [.str s, .int .i64 a, .int .i64 b, .int .i64 k]) = .ok true := by
    have h : eqT (Env.T vE) 20 51 (.agg [.str s, .int .i64 a, .int .i64 b, .int .i64 k]) (.agg [.str s, .int .i64 a, .int .i64 b, .int .i64 k]) = (match s == s with | true => (do match ← eqT (Env.T vE) 19 39 (.agg [.int .i64 a, .int .i64 b]) (.agg [.int .i64 a, .int .i64 b]) with | true => (match k == k with | true => .ok true | false => .ok false) | false => .ok false) | false => .ok false) := rfl
    rw [h, eq_span, beq_self_eq_true, beq_self_eq_true]; rfl
  have h : VM.binOp (Env.T vE) BinOp.neq 51 (.agg [.str s, .int .i64 a, .int .i64 b, .int .i64 k]) (.agg [.str s, .int .i64 a, .int .i64 b, .int .i64 k]) = (do pure (.bool !(← eqT (Env.T vE) 20 51 (.agg [.str s, .int .i64 a, .int .i64 b, .int .i64 k]) (.agg [.str s, .int .i64 a, .int .i64 b, .int .i64 k])))) := rfl
  rw [h, e]; rfl
theorem callP2 {γ : Type} {F : FuncId} {z y : Nat} {x1 x2 : AV} {e1 e2 : List AV} (h1 : IsSl z x1 e1) (h2 : IsSl y x2 e2) {v : AV} (h : (orc vE).bare F [x1, x2] = some v) (hf : vE.full F = false) (st : St) (K : Kv γ) : callS (orc vE) F [x1, x2] st K = K v st q0 :=
  callS_bare st K hf (by simp only [List.map_cons, List.map_nil, h1.strip, h2.strip]) (by simp only [bares_cons, h1.bare, h2.bare]; rfl) h
theorem same_ok {t : Tb} {u v : AV} (hu : IsTb t u) (hv : IsTb t v) : Goes ((orc vE).bare 5 [u, v]) (· = .bool true) := by
  obtain ⟨xb, xu, xt, rfl, hxb, hxu, hxt⟩ := hu
  obtain ⟨yb, yu, yt, rfl, hyb, hyu, hyt⟩ := hv
  have hbl := hxb.1
  have hul := hxu.1
  rw [encB_len] at hbl
  rw [encU_len] at hul
  have lxb := fun {γ : Type} (K : Nat → Option γ) => hxb.len K
  have lyb := fun {γ : Type} (K : Nat → Option γ) => hyb.len K
  have lxu := fun {γ : Type} (K : Nat → Option γ) => hxu.len K
  have lyu := fun {γ : Type} (K : Nat → Option γ) => hyu.len K
  simp only [encB_len] at lxb lyb
  simp only [encU_len] at lxu lyu
  obtain ⟨w, hw, rfl⟩ := ints_ok hxt hyt
  refine Goes.bare rfl (Goes.step (g5_eq _ _) ?_)
  simp only [g5, unA_agg, unc_cons, un0_nil, hxb.asOne, hxu.asOne, hxt.asOne, hyb.asOne, hyu.asOne, hyt.asOne, hxb.fit1, hxu.fit1, hxt.fit1, hyb.fit1, hyu.fit1, hyt.fit1, lxb, lyb, lxu, lyu, bne_self_eq_false, ifB_false, callP2 hxt hyt hw rfl, asB_bool, Bool.not_true, bindO_ok]
  refine Goes.bind (R := fun c => ∃ b, c = (0, [.bool b], S0)) (Goes.upto (n := t.bs.length) (I := fun i s => s = ([.bool false, .int .i64 (i : Int)], S0)) ?_ ?_ t.bs.length 0 _ (by omega) rfl) ?_
  · rintro i s hi rfl
    have hlt : (i : Int) < (t.bs.length : Int) := by omega
    have hget : t.bs[i]? = some t.bs[i] := List.getElem?_eq_getElem hi
    simp only [g5_L1, unc_cons, asI_int, asB_bool, asS_str, un0_nil, lxb, ifB_decide, if_pos hlt, hxb.idx (encB_get hget), hyb.idx (encB_get hget), AV.cells, loadS_ip, take3, unA_agg, bindO_ok, neq_B, ifB_false, letV_eq, wrap1 hi hbl]
    refine Goes.inl ?_
    rfl
  · rintro s rfl
    have hlt : ¬ (t.bs.length : Int) < (t.bs.length : Int) := by omega
    simp only [g5_L1, unc_cons, asI_int, asB_bool, un0_nil, lxb, ifB_decide, if_neg hlt]
    refine Goes.inr ?_
    exact ⟨_, rfl⟩
  rintro c ⟨b, rfl⟩
  simp only [unc_cons, asB_bool, un0_nil, sel2_zero]
  refine Goes.bind (R := fun c => ∃ b, c = (0, [.bool b], S0)) (Goes.upto (n := t.us.length) (I := fun i s => s = ([.bool b, .int .i64 (i : Int)], S0)) ?_ ?_ t.us.length 0 _ (by omega) rfl) ?_
  · rintro i s hi rfl
    have hlt : (i : Int) < (t.us.length : Int) := by omega
    have hget : t.us[i]? = some t.us[i] := List.getElem?_eq_getElem hi
    have take4 : ∀ {a b c d : AV}, takeO 4 true [a, b, c, d] = some (.agg [a, b, c, d]) := takeO_all rfl
    simp only [g5_L2, unc_cons, asI_int, asB_bool, asS_str, un0_nil, lxu, ifB_decide, if_pos hlt, hxu.idx (encU_get hget), hyu.idx (encU_get hget), AV.cells, loadS_ip, take4, unA_agg, bindO_ok, neq_U, ifB_false, letV_eq, wrap1 hi hul]
    refine Goes.inl ?_
    rfl
  · rintro s rfl
    have hlt : ¬ (t.us.length : Int) < (t.us.length : Int) := by omega
    simp only [g5_L2, unc_cons, asI_int, asB_bool, un0_nil, lxu, ifB_decide, if_neg hlt]
    refine Goes.inr ?_
    exact ⟨_, rfl⟩
  rintro c ⟨b2, rfl⟩
  simp only [unc_cons, asB_bool, un0_nil, sel2_zero]
  exact Goes.some rfl
end Go.Proofs.Ytoopmjhdgkcleaa.Vm
/- The law ScopeTables. -/
set_option maxRecDepth 100000
set_option linter.unusedSimpArgs false
namespace Go.Proofs.Ytoopmjhdgkcleaa.Vm
open Go Go.VM Go.Proofs Go.Scope
theorem IsTb.strip {t : Tb} {v : AV} (h : IsTb t v) : VM.strip v = v := by
  obtain ⟨_, _, _, rfl, _⟩ := h; rfl
theorem IsTb.bare {t : Tb} {v : AV} (h : IsTb t v) : VM.bare v = true := by
  obtain ⟨yb, yu, yt, rfl, hb, hu, ht⟩ := h
  show (VM.bare yb && (VM.bare yu && (VM.bare yt && true))) = true
  rw [hb.bare, hu.bare, ht.bare]; rfl
theorem callT1 {γ : Type} {F : FuncId} {t : Tb} {x : AV} (hx : IsTb t x) {v : AV} (h : (orc vE).bare F [x] = some v) (hf : vE.full F = false) (st : St) (K : Kv γ) : callS (orc vE) F [x] st K = K v st q0 :=
  callS_bare st K hf (by simp only [List.map_cons, List.map_nil, hx.strip]) (by simp only [bares_cons, hx.bare]; rfl) h
theorem callT2 {γ : Type} {F : FuncId} {t u : Tb} {x y : AV} (hx : IsTb t x) (hy : IsTb u y) {v : AV} (h : (orc vE).bare F [x, y] = some v) (hf : vE.full F = false) (st : St) (K : Kv γ) : callS (orc vE) F [x, y] st K = K v st q0 :=
  callS_bare st K hf (by simp only [List.map_cons, List.map_nil, hx.strip, hy.strip]) (by simp only [bares_cons, hx.bare, hy.bare]; rfl) h
theorem law_tables {l : List Bd} {es : List AV} {x : AV} (hl : IsDs l es) (hx : IsSl 11 x es) (hsm : Sm (ofS l)) : (orc vE).bare 3 [x] = some (.bool true) := by
  refine Goes.eq (Goes.bare rfl (Goes.step (g3_eq _) ?_))
  obtain ⟨v1, h1, b, rfl⟩ := large_ok hl hx
  simp only [g3, callP1 hx h1 rfl, asB_bool]
  cases b with
  | true =>
    simp only [ifB_true, bindO_ok, unc_cons, asB_bool, un0_nil]
    exact Goes.some rfl
  | false =>
    obtain ⟨v2, h2, hv2⟩ := prog_of_ok hl hx hsm
    obtain ⟨v3, h3, hv3⟩ := law_of_ok hv2 hsm
    obtain ⟨v4, h4, hv4⟩ := ref_of_ok hl hx hsm
    obtain ⟨v5, h5, rfl⟩ := same_ok hv3 hv4
    have q2 := hv2; have q3 := hv3; have q4 := hv4
    obtain ⟨b1, b2, b3, rfl, _⟩ := q2
    obtain ⟨c1, c2, c3, rfl, _⟩ := q3
    obtain ⟨d1, d2, d3, rfl, _⟩ := q4
    simp only [ifB_false, callP1 hx h2 rfl, callP1 hx h4 rfl, unA_agg, unc_cons, un0_nil, callT1 hv2 h3 rfl, callT2 hv3 hv4 h5 rfl, asB_bool, bindO_ok]
    exact Goes.some rfl
end Go.Proofs.Ytoopmjhdgkcleaa.Vm
/- Declarations as arguments. -/
set_option maxRecDepth 100000
set_option linter.unusedSimpArgs false
namespace Go.Proofs.Ytoopmjhdgkcleaa.Vm
open Go Go.VM Go.Proofs Go.Scope

def lawS : List TypeId := [9, 5, 3, 4, 39, 66, 40, 43, 41, 45, 22]
theorem lawS_ok : ∀ t, inS lawS t = true → okTy Try.prog lawS t = true := by
  intro t ht
  have : t ∈ lawS := by
    obtain ⟨u, hu, e⟩ := List.any_eq_true.1 ht
    rw [← Nat.eq_of_beq_eq_true e]; exact hu
  exact List.all_eq_true.1 (show (lawS.all fun t => okTy Try.prog lawS t) = true by kernel_rfl) t this
theorem av_str {n t : Nat} {cs : List AV} (hu : Try.prog.underlying t = some .string) (h : AvOf Try.prog n t cs) : ∃ s, cs = [.str s] ∧ s.length ≤ maxLen := by
  cases n with
  | zero => cases h
  | succ n => simp only [AvOf, hu] at h; exact h
theorem av_u8 {n t : Nat} {cs : List AV} (hu : Try.prog.underlying t = some (.int .u8)) (h : AvOf Try.prog n t cs) : ∃ m : Nat, cs = [.int .u8 (m : Int)] := by
  cases n with
  | zero => cases h
  | succ n =>
    simp only [AvOf, hu] at h
    obtain ⟨m, rfl, h1, h2⟩ := h
    have h1 : (0 : Int) ≤ m := h1
    exact ⟨m.toNat, by rw [Int.toNat_of_nonneg h1]⟩
theorem av_int {n t : Nat} {cs : List AV} (hu : Try.prog.underlying t = some (.int .i64)) (h : AvOf Try.prog n t cs) : ∃ m : Int, cs = [.int .i64 m] := by
  cases n with
  | zero => cases h
  | succ n =>
    simp only [AvOf, hu] at h
    obtain ⟨m, rfl, _⟩ := h
    exact ⟨m, rfl⟩
theorem av_bool {n t : Nat} {cs : List AV} (hu : Try.prog.underlying t = some .bool) (h : AvOf Try.prog n t cs) : ∃ b : Bool, cs = [.bool b] := by
  cases n with
  | zero => cases h
  | succ n =>
    simp only [AvOf, hu] at h
    exact h
theorem span_of {n : Nat} {cs : List AV} (h : AvOf Try.prog n 39 cs) : ∃ sp : Sp, cs = [.int .i64 sp.1, .int .i64 sp.2] := by
  cases n with
  | zero => cases h
  | succ n =>
    simp only [AvOf, Try.underlying39] at h
    obtain ⟨a0, b0, rfl, h0, a1, b1, rfl, h1, rfl⟩ := h
    obtain ⟨x, rfl⟩ := av_int Try.underlying3 h0
    obtain ⟨y, rfl⟩ := av_int Try.underlying3 h1
    exact ⟨(x, y), rfl⟩
/-- A slice as an argument. -/
theorem av_sl {n t e : Nat} {cs : List AV} (hu : Try.prog.underlying t = some (.slice e)) (h : AvOf Try.prog (n + 1) t cs) (hst : isSt Try.prog e = true) {z : Nat} (hz : Try.prog.cellsOf e = z) :
    ∃ (x : AV) (L : List (List AV)), cs = [x] ∧ IsSl z x (L.map .agg) ∧ (∀ a ∈ L, AvOf Try.prog n e a) ∧ bulkAs (L.map .agg) + 1 ≤ bulkAs cs := by
  simp only [AvOf, hu] at h
  rcases h with rfl | rfl | ⟨L, rfl, hl, hL⟩
  · exact ⟨_, [], rfl, IsSl.nils, (fun _ h => by cases h), by rw [bulkAs_cons, List.map_nil, bulkAs_nil]; simp only [bulkA]; omega⟩
  · exact ⟨_, [], rfl, IsSl.emp, (fun _ h => by cases h), by rw [bulkAs_cons, List.map_nil, bulkAs_nil]; simp only [bulkA]; omega⟩
  · rw [hst, hz]
    refine ⟨_, L, rfl, IsSl.wide (by rw [List.length_map]; simpa [maxLen] using hl), hL, ?_⟩
    rw [bulkAs_cons, bulkAs_nil, bulkA_sl]
    exact Nat.le_refl _
theorem bulk_mem {L : List (List AV)} {a : List AV} (h : a ∈ L) : bulkAs a ≤ bulkAs (L.map AV.agg) := by
  induction L with
  | nil => cases h
  | cons b L ih =>
    rw [List.map_cons, bulkAs_cons, bulkA_agg]
    rcases List.mem_cons.1 h with rfl | h
    · omega
    · have := ih h; omega
theorem pats_in : ∀ {L : List (List AV)}, (∀ a ∈ L, ∃ p, IsP p (.agg a) ∧ nP p ≤ bulkAs a) → ∃ ps, IsPs ps (L.map .agg) ∧ nPs ps ≤ bulkAs (L.map AV.agg)
  | [], _ => ⟨[], IsPs.nil, by simp only [nPs]; exact Nat.zero_le _⟩
  | a :: L, h => by
    obtain ⟨p, hp, hn⟩ := h a List.mem_cons_self
    obtain ⟨ps, hps, hm⟩ := pats_in (L := L) fun b hb => h b (List.mem_cons_of_mem _ hb)
    refine ⟨p :: ps, IsPs.cons hp hps, ?_⟩
    simp only [nPs, List.map_cons, bulkAs_cons, bulkA_agg]
    omega
theorem exprs_in : ∀ {L : List (List AV)}, (∀ a ∈ L, ∃ e, IsE e (.agg a) ∧ nE e ≤ bulkAs a) → ∃ l, IsEs l (L.map .agg) ∧ nEs l ≤ bulkAs (L.map AV.agg)
  | [], _ => ⟨[], IsEs.nil, by simp only [nEs]; exact Nat.zero_le _⟩
  | a :: L, h => by
    obtain ⟨p, hp, hn⟩ := h a List.mem_cons_self
    obtain ⟨ps, hps, hm⟩ := exprs_in (L := L) fun b hb => h b (List.mem_cons_of_mem _ hb)
    refine ⟨p :: ps, IsEs.cons hp hps, ?_⟩
    simp only [nEs, List.map_cons, bulkAs_cons, bulkA_agg]
    omega
theorem nPs_len : ∀ (ps : List Pat), ps.length ≤ nPs ps
  | [] => by simp
  | .mk k lit sp nm qs :: ps => by
    have := nPs_len ps
    simp only [List.length_cons, nPs, nP]
    omega
theorem pat_of : ∀ (n : Nat) {cs : List AV}, AvOf Try.prog n 66 cs → ∃ p, IsP p (.agg cs) ∧ nP p ≤ bulkAs cs := by
  intro n
  induction n using Nat.strongRecOn with
  | _ n ih =>
    intro cs h
    cases n with
    | zero => cases h
    | succ n =>
      simp only [AvOf, Try.underlying66] at h
      obtain ⟨a0, b0, rfl, h0, a1, b1, rfl, h1, a2, b2, rfl, h2, a3, b3, rfl, h3, a4, b4, rfl, h4, rfl⟩ := h
      obtain ⟨k, rfl⟩ := av_u8 Try.underlying5 h0
      obtain ⟨lit, rfl⟩ := av_u8 Try.underlying5 h1
      obtain ⟨sp, rfl⟩ := span_of h2
      obtain ⟨nm, rfl, _⟩ := av_str Try.underlying9 h3
      cases n with
      | zero => cases h4
      | succ n =>
        obtain ⟨x, L, rfl, hx, hL, hb⟩ := av_sl Try.underlying40 h4 (by kernel_rfl) (z := 6) (by kernel_rfl)
        obtain ⟨ps, hps, hn⟩ := pats_in (L := L) fun a ha => ih n (by omega) (hL a ha)
        refine ⟨.mk k lit sp nm ps, by simp only [IsP]; exact ⟨x, _, rfl, hx, hps⟩, ?_⟩
        simp only [nP, bulkAs_app, bulkAs_cons, bulkAs_nil, bulkA_int, bulkA_str] at hb ⊢
        omega
theorem expr_of : ∀ (n : Nat) {cs : List AV}, AvOf Try.prog n 43 cs → bulkAs cs ≤ 1048576 → ∃ e, IsE e (.agg cs) ∧ nE e ≤ bulkAs cs := by
  intro n
  induction n using Nat.strongRecOn with
  | _ n ih =>
    intro cs h hbk
    cases n with
    | zero => cases h
    | succ n =>
      simp only [AvOf, Try.underlying43] at h
      obtain ⟨a0, b0, rfl, h0, a1, b1, rfl, h1, a2, b2, rfl, h2, a3, b3, rfl, h3, a4, b4, rfl, h4, a5, b5, rfl, h5, rfl⟩ := h
      obtain ⟨k, rfl⟩ := av_u8 Try.underlying5 h0
      obtain ⟨sp, rfl⟩ := span_of h1
      obtain ⟨rc, rfl⟩ := av_bool Try.underlying4 h2
      obtain ⟨nm, rfl, _⟩ := av_str Try.underlying9 h3
      cases n with
      | zero => cases h4
      | succ n =>
        obtain ⟨x, L, rfl, hx, hL, hb⟩ := av_sl Try.underlying40 h4 (by kernel_rfl) (z := 6) (by kernel_rfl)
        obtain ⟨y, M, rfl, hy, hM, hc⟩ := av_sl Try.underlying41 h5 (by kernel_rfl) (z := 7) (by kernel_rfl)
        simp only [bulkAs_app, bulkAs_cons, bulkAs_nil, bulkA_int, bulkA_str, bulkA_bool] at hb hc hbk
        obtain ⟨ps, hps, hn⟩ := pats_in (L := L) fun a ha => pat_of n (hL a ha)
        obtain ⟨ls, hls, hm⟩ := exprs_in (L := M) fun a ha => ih n (by omega) (hM a ha) (by have := bulk_mem ha; omega)
        have hlen := nPs_len ps
        refine ⟨.mk k sp rc nm ps ls, by simp only [IsE]; exact ⟨x, _, y, _, rfl, hx, hps, hy, hls, by omega⟩, ?_⟩
        simp only [nE, bulkAs_app, bulkAs_cons, bulkAs_nil, bulkA_int, bulkA_str, bulkA_bool]
        omega
theorem bind_of {n : Nat} {cs : List AV} (h : AvOf Try.prog n 45 cs) (hbk : bulkAs cs ≤ 1048576) : ∃ d, IsD d (.agg cs) ∧ nPs d.ps + nE d.body ≤ bulkAs cs := by
  cases n with
  | zero => cases h
  | succ n =>
    simp only [AvOf, Try.underlying45] at h
    obtain ⟨a0, b0, rfl, h0, a1, b1, rfl, h1, a2, b2, rfl, h2, a3, b3, rfl, h3, rfl⟩ := h
    obtain ⟨sp, rfl⟩ := span_of h0
    obtain ⟨rc, rfl⟩ := av_bool Try.underlying4 h1
    cases n with
    | zero => cases h2
    | succ n =>
      obtain ⟨x, L, rfl, hx, hL, hb⟩ := av_sl Try.underlying40 h2 (by kernel_rfl) (z := 6) (by kernel_rfl)
      simp only [bulkAs_app, bulkAs_cons, bulkAs_nil, bulkA_int, bulkA_str, bulkA_bool] at hb hbk
      obtain ⟨ps, hps, hn⟩ := pats_in (L := L) fun a ha => pat_of n (hL a ha)
      obtain ⟨e, he, hm⟩ := expr_of _ h3 (by omega)
      refine ⟨⟨sp, rc, ps, e⟩, ⟨x, _, a3, by simp, hx, hps, he⟩, ?_⟩
      simp only [bulkAs_app, bulkAs_cons, bulkAs_nil, bulkA_int, bulkA_str, bulkA_bool]
      omega
theorem binds_in : ∀ {L : List (List AV)}, (∀ a ∈ L, ∃ d, IsD d (.agg a) ∧ nPs d.ps + nE d.body ≤ bulkAs a) → ∃ l, IsDs l (L.map .agg) ∧ nDs l ≤ bulkAs (L.map AV.agg)
  | [], _ => ⟨[], by simp only [IsDs, List.map_nil], by simp only [nDs]; exact Nat.zero_le _⟩
  | a :: L, h => by
    obtain ⟨p, hp, hn⟩ := h a List.mem_cons_self
    obtain ⟨ps, hps, hm⟩ := binds_in (L := L) fun b hb => h b (List.mem_cons_of_mem _ hb)
    refine ⟨p :: ps, by simp only [IsDs, List.map_cons]; exact ⟨_, _, rfl, hp, hps⟩, ?_⟩
    simp only [nDs, List.map_cons, bulkAs_cons, bulkA_agg]
    omega
theorem decls_of {n : Nat} {cs : List AV} (h : AvOf Try.prog n 22 cs) (hbk : bulkAs cs ≤ 1048576) : ∃ x l es, cs = [x] ∧ IsSl 11 x es ∧ IsDs l es ∧ nDs l ≤ bulkAs cs := by
  cases n with
  | zero => cases h
  | succ n =>
    obtain ⟨x, L, rfl, hx, hL, hb⟩ := av_sl Try.underlying22 h (by kernel_rfl) (z := 11) (by kernel_rfl)
    obtain ⟨l, hl, hn⟩ := binds_in (L := L) fun a ha => bind_of (hL a ha) (by have := bulk_mem ha; omega)
    exact ⟨x, l, _, rfl, hx, hl, by omega⟩
theorem sm_of {l : List Bd} (h : nDs l ≤ 4000000) : Sm (ofS l) := by
  have h1 := wt_of l
  unfold wt at h1
  exact ⟨by omega, by omega, by omega⟩
end Go.Proofs.Ytoopmjhdgkcleaa.Vm
