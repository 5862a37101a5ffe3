/-
  A part of the proof.
-/
import Derived.Test.YtcghfoagjphaoaaGreatDoorVmCA
import Derived.Test.YtcghfoagjphaoaaGreatDoorVmBH
import Derived.Test.YtcghfoagjphaoaaGreatDoorVmBF
import Derived.Test.YtcghfoagjphaoaaGreatDoorVmBG
import Derived.Test.YtcghfoagjphaoaaGreatDoorRows
set_option maxRecDepth 1000000
set_option maxHeartbeats 0
set_option linter.unusedSimpArgs false
namespace Go.Proofs.YtcghfoagjphaoaaGreatDoor.Vm
open Go Go.VM Go.Proofs
noncomputable def vT : TT := Tr.of 8 (tiOf Tryz.prog)
theorem vT_ok : TOk Tryz.prog vT := tt_ok (d := 8) rfl
def vFl : List Nat := [3, 4, 5, 6, 7, 8, 9, 10, 11, 12, 13, 14, 15, 16, 17, 18, 19, 20, 21, 22, 23, 24, 25, 26, 27, 28, 29, 30, 31, 32, 33, 34, 35, 36, 37, 38, 39, 41, 42, 43, 45, 46, 47, 48, 49, 52, 53, 56, 57]
noncomputable def vF : Tr Func := Tr.of 6 (fnsOf Tryz.prog vFl)
theorem vF_ok : ∀ f fn, vF.get f = some fn → FnOk Tryz.prog f fn := fns_ok (by kernel_rfl)
noncomputable def vP : List (Nat × Prim) := [(40, (.lib libValid)), (44, (.lib (libAtoi 99))), (51, (.lib libTrimLeft)), (58, (.lib libDecode)), (70, .indexByte)]
noncomputable def vG : Tr (List AV) := (.node (some [(.int .u8 (240)), (.int .u8 (240)), (.int .u8 (240)), (.int .u8 (240)), (.int .u8 (240)), (.int .u8 (240)), (.int .u8 (240)), (.int .u8 (240)), (.int .u8 (240)), (.int .u8 (240)), (.int .u8 (240)), (.int .u8 (240)), (.int .u8 (240)), (.int .u8 (240)), (.int .u8 (240)), (.int .u8 (240)), (.int .u8 (240)), (.int .u8 (240)), (.int .u8 (240)), (.int .u8 (240)), (.int .u8 (240)), (.int .u8 (240)), (.int .u8 (240)), (.int .u8 (240)), (.int .u8 (240)), (.int .u8 (240)), (.int .u8 (240)), (.int .u8 (240)), (.int .u8 (240)), (.int .u8 (240)), (.int .u8 (240)), (.int .u8 (240)), (.int .u8 (240)), (.int .u8 (240)), (.int .u8 (240)), (.int .u8 (240)), (.int .u8 (240)), (.int .u8 (240)), (.int .u8 (240)), (.int .u8 (240)), (.int .u8 (240)), (.int .u8 (240)), (.int .u8 (240)), (.int .u8 (240)), (.int .u8 (240)), (.int .u8 (240)), (.int .u8 (240)), (.int .u8 (240)), (.int .u8 (240)), (.int .u8 (240)), (.int .u8 (240)), (.int .u8 (240)), (.int .u8 (240)), (.int .u8 (240)), (.int .u8 (240)), (.int .u8 (240)), (.int .u8 (240)), (.int .u8 (240)), (.int .u8 (240)), (.int .u8 (240)), (.int .u8 (240)), (.int .u8 (240)), (.int .u8 (240)), (.int .u8 (240)), (.int .u8 (240)), (.int .u8 (240)), (.int .u8 (240)), (.int .u8 (240)), (.int .u8 (240)), (.int .u8 (240)), (.int .u8 (240)), (.int .u8 (240)), (.int .u8 (240)), (.int .u8 (240)), (.int .u8 (240)), (.int .u8 (240)), (.int .u8 (240)), (.int .u8 (240)), (.int .u8 (240)), (.int .u8 (240)), (.int .u8 (240)), (.int .u8 (240)), (.int .u8 (240)), (.int .u8 (240)), (.int .u8 (240)), (.int .u8 (240)), (.int .u8 (240)), (.int .u8 (240)), (.int .u8 (240)), (.int .u8 (240)), (.int .u8 (240)), (.int .u8 (240)), (.int .u8 (240)), (.int .u8 (240)), (.int .u8 (240)), (.int .u8 (240)), (.int .u8 (240)), (.int .u8 (240)), (.int .u8 (240)), (.int .u8 (240)), (.int .u8 (240)), (.int .u8 (240)), (.int .u8 (240)), (.int .u8 (240)), (.int .u8 (240)), (.int .u8 (240)), (.int .u8 (240)), (.int .u8 (240)), (.int .u8 (240)), (.int .u8 (240)), (.int .u8 (240)), (.int .u8 (240)), (.int .u8 (240)), (.int .u8 (240)), (.int .u8 (240)), (.int .u8 (240)), (.int .u8 (240)), (.int .u8 (240)), (.int .u8 (240)), (.int .u8 (240)), (.int .u8 (240)), (.int .u8 (240)), (.int .u8 (240)), (.int .u8 (240)), (.int .u8 (240)), (.int .u8 (240)), (.int .u8 (240)), (.int .u8 (240)), (.int .u8 (241)), (.int .u8 (241)), (.int .u8 (241)), (.int .u8 (241)), (.int .u8 (241)), (.int .u8 (241)), (.int .u8 (241)), (.int .u8 (241)), (.int .u8 (241)), (.int .u8 (241)), (.int .u8 (241)), (.int .u8 (241)), (.int .u8 (241)), (.int .u8 (241)), (.int .u8 (241)), (.int .u8 (241)), (.int .u8 (241)), (.int .u8 (241)), (.int .u8 (241)), (.int .u8 (241)), (.int .u8 (241)), (.int .u8 (241)), (.int .u8 (241)), (.int .u8 (241)), (.int .u8 (241)), (.int .u8 (241)), (.int .u8 (241)), (.int .u8 (241)), (.int .u8 (241)), (.int .u8 (241)), (.int .u8 (241)), (.int .u8 (241)), (.int .u8 (241)), (.int .u8 (241)), (.int .u8 (241)), (.int .u8 (241)), (.int .u8 (241)), (.int .u8 (241)), (.int .u8 (241)), (.int .u8 (241)), (.int .u8 (241)), (.int .u8 (241)), (.int .u8 (241)), (.int .u8 (241)), (.int .u8 (241)), (.int .u8 (241)), (.int .u8 (241)), (.int .u8 (241)), (.int .u8 (241)), (.int .u8 (241)), (.int .u8 (241)), (.int .u8 (241)), (.int .u8 (241)), (.int .u8 (241)), (.int .u8 (241)), (.int .u8 (241)), (.int .u8 (241)), (.int .u8 (241)), (.int .u8 (241)), (.int .u8 (241)), (.int .u8 (241)), (.int .u8 (241)), (.int .u8 (241)), (.int .u8 (241)), (.int .u8 (241)), (.int .u8 (241)), (.int .u8 (2)), (.int .u8 (2)), (.int .u8 (2)), (.int .u8 (2)), (.int .u8 (2)), (.int .u8 (2)), (.int .u8 (2)), (.int .u8 (2)), (.int .u8 (2)), (.int .u8 (2)), (.int .u8 (2)), (.int .u8 (2)), (.int .u8 (2)), (.int .u8 (2)), (.int .u8 (2)), (.int .u8 (2)), (.int .u8 (2)), (.int .u8 (2)), (.int .u8 (2)), (.int .u8 (2)), (.int .u8 (2)), (.int .u8 (2)), (.int .u8 (2)), (.int .u8 (2)), (.int .u8 (2)), (.int .u8 (2)), (.int .u8 (2)), (.int .u8 (2)), (.int .u8 (2)), (.int .u8 (2)), (.int .u8 (19)), (.int .u8 (3)), (.int .u8 (3)), (.int .u8 (3)), (.int .u8 (3)), (.int .u8 (3)), (.int .u8 (3)), (.int .u8 (3)), (.int .u8 (3)), (.int .u8 (3)), (.int .u8 (3)), (.int .u8 (3)), (.int .u8 (3)), (.int .u8 (35)), (.int .u8 (3)), (.int .u8 (3)), (.int .u8 (52)), (.int .u8 (4)), (.int .u8 (4)), (.int .u8 (4)), (.int .u8 (68)), (.int .u8 (241)), (.int .u8 (241)), (.int .u8 (241)), (.int .u8 (241)), (.int .u8 (241)), (.int .u8 (241)), (.int .u8 (241)), (.int .u8 (241)), (.int .u8 (241)), (.int .u8 (241)), (.int .u8 (241))]) (.node (some [(.int .u8 (128)), (.int .u8 (191)), (.int .u8 (160)), (.int .u8 (191)), (.int .u8 (128)), (.int .u8 (159)), (.int .u8 (144)), (.int .u8 (191)), (.int .u8 (128)), (.int .u8 (143)), (.int .u8 (0)), (.int .u8 (0)), (.int .u8 (0)), (.int .u8 (0)), (.int .u8 (0)), (.int .u8 (0)), (.int .u8 (0)), (.int .u8 (0)), (.int .u8 (0)), (.int .u8 (0)), (.int .u8 (0)), (.int .u8 (0)), (.int .u8 (0)), (.int .u8 (0)), (.int .u8 (0)), (.int .u8 (0)), (.int .u8 (0)), (.int .u8 (0)), (.int .u8 (0)), (.int .u8 (0)), (.int .u8 (0)), (.int .u8 (0))]) (.node none (.node none .leaf .leaf) .leaf) (.node (some [(.opq true)]) (.node none .leaf .leaf) .leaf)) (.node (some [(.int .u8 (0)), (.int .u8 (0)), (.int .u8 (0)), (.int .u8 (0)), (.int .u8 (0)), (.int .u8 (0)), (.int .u8 (0)), (.int .u8 (0)), (.int .u8 (0)), (.int .u8 (1)), (.int .u8 (1)), (.int .u8 (1)), (.int .u8 (1)), (.int .u8 (1)), (.int .u8 (0)), (.int .u8 (0)), (.int .u8 (0)), (.int .u8 (0)), (.int .u8 (0)), (.int .u8 (0)), (.int .u8 (0)), (.int .u8 (0)), (.int .u8 (0)), (.int .u8 (0)), (.int .u8 (0)), (.int .u8 (0)), (.int .u8 (0)), (.int .u8 (0)), (.int .u8 (0)), (.int .u8 (0)), (.int .u8 (0)), (.int .u8 (0)), (.int .u8 (1)), (.int .u8 (0)), (.int .u8 (0)), (.int .u8 (0)), (.int .u8 (0)), (.int .u8 (0)), (.int .u8 (0)), (.int .u8 (0)), (.int .u8 (0)), (.int .u8 (0)), (.int .u8 (0)), (.int .u8 (0)), (.int .u8 (0)), (.int .u8 (0)), (.int .u8 (0)), (.int .u8 (0)), (.int .u8 (0)), (.int .u8 (0)), (.int .u8 (0)), (.int .u8 (0)), (.int .u8 (0)), (.int .u8 (0)), (.int .u8 (0)), (.int .u8 (0)), (.int .u8 (0)), (.int .u8 (0)), (.int .u8 (0)), (.int .u8 (0)), (.int .u8 (0)), (.int .u8 (0)), (.int .u8 (0)), (.int .u8 (0)), (.int .u8 (0)), (.int .u8 (0)), (.int .u8 (0)), (.int .u8 (0)), (.int .u8 (0)), (.int .u8 (0)), (.int .u8 (0)), (.int .u8 (0)), (.int .u8 (0)), (.int .u8 (0)), (.int .u8 (0)), (.int .u8 (0)), (.int .u8 (0)), (.int .u8 (0)), (.int .u8 (0)), (.int .u8 (0)), (.int .u8 (0)), (.int .u8 (0)), (.int .u8 (0)), (.int .u8 (0)), (.int .u8 (0)), (.int .u8 (0)), (.int .u8 (0)), (.int .u8 (0)), (.int .u8 (0)), (.int .u8 (0)), (.int .u8 (0)), (.int .u8 (0)), (.int .u8 (0)), (.int .u8 (0)), (.int .u8 (0)), (.int .u8 (0)), (.int .u8 (0)), (.int .u8 (0)), (.int .u8 (0)), (.int .u8 (0)), (.int .u8 (0)), (.int .u8 (0)), (.int .u8 (0)), (.int .u8 (0)), (.int .u8 (0)), (.int .u8 (0)), (.int .u8 (0)), (.int .u8 (0)), (.int .u8 (0)), (.int .u8 (0)), (.int .u8 (0)), (.int .u8 (0)), (.int .u8 (0)), (.int .u8 (0)), (.int .u8 (0)), (.int .u8 (0)), (.int .u8 (0)), (.int .u8 (0)), (.int .u8 (0)), (.int .u8 (0)), (.int .u8 (0)), (.int .u8 (0)), (.int .u8 (0)), (.int .u8 (0)), (.int .u8 (0)), (.int .u8 (0)), (.int .u8 (0)), (.int .u8 (0)), (.int .u8 (0)), (.int .u8 (0)), (.int .u8 (0)), (.int .u8 (0)), (.int .u8 (0)), (.int .u8 (0)), (.int .u8 (0)), (.int .u8 (0)), (.int .u8 (0)), (.int .u8 (0)), (.int .u8 (0)), (.int .u8 (0)), (.int .u8 (0)), (.int .u8 (0)), (.int .u8 (0)), (.int .u8 (0)), (.int .u8 (0)), (.int .u8 (0)), (.int .u8 (0)), (.int .u8 (0)), (.int .u8 (0)), (.int .u8 (0)), (.int .u8 (0)), (.int .u8 (0)), (.int .u8 (0)), (.int .u8 (0)), (.int .u8 (0)), (.int .u8 (0)), (.int .u8 (0)), (.int .u8 (0)), (.int .u8 (0)), (.int .u8 (0)), (.int .u8 (0)), (.int .u8 (0)), (.int .u8 (0)), (.int .u8 (0)), (.int .u8 (0)), (.int .u8 (0)), (.int .u8 (0)), (.int .u8 (0)), (.int .u8 (0)), (.int .u8 (0)), (.int .u8 (0)), (.int .u8 (0)), (.int .u8 (0)), (.int .u8 (0)), (.int .u8 (0)), (.int .u8 (0)), (.int .u8 (0)), (.int .u8 (0)), (.int .u8 (0)), (.int .u8 (0)), (.int .u8 (0)), (.int .u8 (0)), (.int .u8 (0)), (.int .u8 (0)), (.int .u8 (0)), (.int .u8 (0)), (.int .u8 (0)), (.int .u8 (0)), (.int .u8 (0)), (.int .u8 (0)), (.int .u8 (0)), (.int .u8 (0)), (.int .u8 (0)), (.int .u8 (0)), (.int .u8 (0)), (.int .u8 (0)), (.int .u8 (0)), (.int .u8 (0)), (.int .u8 (0)), (.int .u8 (0)), (.int .u8 (0)), (.int .u8 (0)), (.int .u8 (0)), (.int .u8 (0)), (.int .u8 (0)), (.int .u8 (0)), (.int .u8 (0)), (.int .u8 (0)), (.int .u8 (0)), (.int .u8 (0)), (.int .u8 (0)), (.int .u8 (0)), (.int .u8 (0)), (.int .u8 (0)), (.int .u8 (0)), (.int .u8 (0)), (.int .u8 (0)), (.int .u8 (0)), (.int .u8 (0)), (.int .u8 (0)), (.int .u8 (0)), (.int .u8 (0)), (.int .u8 (0)), (.int .u8 (0)), (.int .u8 (0)), (.int .u8 (0)), (.int .u8 (0)), (.int .u8 (0)), (.int .u8 (0)), (.int .u8 (0)), (.int .u8 (0)), (.int .u8 (0)), (.int .u8 (0)), (.int .u8 (0)), (.int .u8 (0)), (.int .u8 (0)), (.int .u8 (0)), (.int .u8 (0)), (.int .u8 (0)), (.int .u8 (0)), (.int .u8 (0)), (.int .u8 (0)), (.int .u8 (0)), (.int .u8 (0)), (.int .u8 (0)), (.int .u8 (0)), (.int .u8 (0)), (.int .u8 (0)), (.int .u8 (0)), (.int .u8 (0)), (.int .u8 (0)), (.int .u8 (0)), (.int .u8 (0)), (.int .u8 (0)), (.int .u8 (0)), (.int .u8 (0))]) (.node none (.node none .leaf .leaf) .leaf) (.node none (.node none .leaf .leaf) .leaf)))
noncomputable def vI : List (Nat × List Nat) := [(3, [25]), (5, [25]), (6, [25]), (7, [25]), (8, [25]), (10, [25]), (19, [2000030])]
noncomputable def vfull : List Nat := [19]
noncomputable def vlook : List Nat := []
theorem prim40 : OnePrim Tryz.prog vT (fun b => vG.get b) 40 (.lib libValid) := valid_prim (g3 := 0) (g4 := 1) Tryz.call40 (fun s w h hT => Tryz.utf8_ValidString s w h hT) rfl rfl (by kernel_rfl) (by kernel_rfl)
theorem prim44 : OnePrim Tryz.prog vT (fun b => vG.get b) 44 (.lib (libAtoi 99)) := atoi_prim (g16 := 5) (fun w w' h => by rcases h with rfl | ⟨t, rfl⟩; exact Go.RowKit.Below.refl _ _; exact Lib.bytesWorld_below _ _ _) Tryz.call44 (fun s h1 v h2 w => Tryz.strconv_Atoi_ok s h1 v h2 w) (fun s h1 h2 ev w h3 h4 => (Tryz.strconv_Atoi_range s h1 h2 ev w h3 h4).mono fun e w' ⟨N, e1, _, _, e2⟩ => ⟨N, e1, e2⟩) rfl
theorem prim51 : OnePrim Tryz.prog vT (fun b => vG.get b) 51 (.lib libTrimLeft) := trimLeft_prim Tryz.call51 fun s c w h1 h2 => Tryz.strings_TrimLeft s c w h1 h2
theorem prim58 : OnePrim Tryz.prog vT (fun b => vG.get b) 58 (.lib libDecode) := decode_prim (g3 := 0) (g4 := 1) Tryz.call58 (fun s w hT => Tryz.utf8_DecodeRuneInString s w hT) rfl rfl (by kernel_rfl) (by kernel_rfl)
theorem prim70 : OnePrim Tryz.prog vT (fun b => vG.get b) 70 .indexByte := indexByte_prim (fun s c w => by
  rw [run_callFunc_extern Tryz.func70 (by kernel_rfl) (by kernel_rfl) (by kernel_rfl) (e := Extern.BytealgIndexByte.indexByte) (by kernel_rfl), Lib.run_indexByteString]
  rfl)
theorem vP_ok : AllP (fun f q => OnePrim Tryz.prog vT (fun b => vG.get b) f q) vP := ⟨prim40, prim44, prim51, prim58, prim70, trivial⟩
noncomputable def vE : Env where
  T := vT
  F i := vF.get i
  prim i := lookP vP i
  full i := vfull.any fun j => i.beq j
  isLook i := vlook.any fun j => i.beq j
  imm f t := match lookP vI f with
    | some l => l.any fun j => t.beq j
    | none => false
  G b := vG.get b
  memo _ := []
theorem vE_ok : EnvOk Tryz.prog vE := ⟨vT_ok, fun f fn h => vF_ok f fn h, primOk_of fun f q h => lookP_all vP_ok f q h, by kernel_rfl, (fun _ _ h => by cases h), fun _ r _ _ h _ => absurd (show (none : Option (List AV → Option AV)) = some r from h) (by simp), fun _ r _ _ _ _ h => absurd (show (none : Option (List AV → St → Res (AV × St))) = some r from h) (by simp)⟩
/-- rostrum/rostrumlaw10.awake -/
noncomputable def g4 : Option AV := callS (orc vE) 7 [AV.str [108, 101, 116, 32, 120, 32, 61, 32, 49], AV.agg [AV.int .i64 8, AV.int .i64 9, AV.str [50, 51]]] (St.mk 0 0 Tr.leaf) fun v2 st3 _x => unT v2 fun l5 => nthS
 l5 0 fun v6 => unT v2 fun l7 => nthS l7 1 fun v8 => unA v8 fun l10 => unc l10 fun v11 l12 => asI .i64 v11 fun n13 => unc l12 fun v14 l15 => asI .i64 v14 fun n16 => un0 l15 (unT v2 fun l17 => nthS l17 2 fun v18 => asI
 .i64 v18 fun n19 => letSt (St.add st3 (VM.Obj.cells 32 [AV.int .i64 0, AV.int .i64 0])) fun st20 => storeS (orc vE) 2 (AV.mp (St.h st3) 0) (AV.agg [AV.int .i64 n13, AV.int .i64 n16]) [AV.int .i64 n13, AV.int .i64 n16]
 st20 fun _x st22 _x_1 => bindO (ifB (n19 == 0) (lenS v6 fun k24 => ifB ((↑k24 : Int) == 7) (idxA 2 v6 6 st22 fun v25 _x => loadS 2 true v25 st22 fun v27 _x => unA v27 fun l30 => unc l30 fun v31 l32 => asI .u8 v31 fun
 n33 => unc l32 fun v34 l35 => asS v34 fun l36 => un0 l35 (bindO (toO (VM.binOp (Env.T vE) BinOp.eql 39 (AV.agg [AV.int .u8 n33, AV.str l36]) (AV.agg [AV.int .u8 5, AV.str [50, 51]]))) fun v38 => asB v38 fun b39 => ifB
 b39 (loadS 2 true (AV.mp (St.h st3) 0) st22 fun v40 _x => unA v40 fun l43 => unc l43 fun v44 l45 => asI .i64 v44 fun n46 => unc l45 fun v47 l48 => asI .i64 v47 fun n49 => un0 l48 (bindO (toO (VM.binOp (Env.T vE)
 BinOp.eql 32 (AV.agg [AV.int .i64 n46, AV.int .i64 n49]) (AV.agg [AV.int .i64 6, AV.int .i64 0]))) fun v51 => asB v51 fun b52 => some ([AV.bool b52], st22))) (some ([AV.bool false], st22)))) (some ([AV.bool false],
 st22))) (some ([AV.bool false], st22))) fun c53 => unc (Prod.fst c53) fun v54 l55 => asB v54 fun b56 => un0 l55 (some (AV.bool b56)))
/-- rostrum/relex.Do -/
noncomputable def g5 : AV → AV → Option AV := fun x0 x1 => asS x0 fun l0 => unA x1 fun l2 => unc l2 fun v3 l4 => asI .i64 v3 fun n5 => unc l4 fun v6 l7 => asI .i64 v6 fun n8 => unc l7 fun v9 l10 => asS v9 fun l11 => un0
 l10 (callS (orc vE) 10 [AV.str l0, AV.agg [AV.int .i64 n5, AV.int .i64 n8, AV.str l11]] (St.mk 0 0 Tr.leaf) fun v13 _x _x_1 => unT v13 fun l16 => nthS l16 0 fun v17 => asS v17 fun l18 => unT v13 fun l19 => nthS l19 1
 fun _x => unT v13 fun l21 => nthS l21 2 fun _x => unT v13 fun l23 => nthS l23 3 fun v24 => asI .i64 v24 fun n25 => some (AV.tup [AV.str l18, AV.int .i64 n25]))
theorem g5_eq (x0 x1 : AV) : bareS vE 5 [x0, x1] = g5 x0 x1 := by kernel_rfl
/-- rostrum/rostrumref10.Do -/
noncomputable def g6 : AV → AV → Option AV := fun x0 x1 => asS x0 fun l0 => unA x1 fun l2 => unc l2 fun v3 l4 => asI .i64 v3 fun n5 => unc l4 fun v6 l7 => asI .i64 v6 fun n8 => unc l7 fun v9 l10 => asS v9 fun l11 => un0
 l10 (callS (orc vE) 11 [AV.str l0] (St.mk 0 0 Tr.leaf) fun v12 st13 _x => unT v12 fun l15 => nthS l15 0 fun _x => unT v12 fun l17 => nthS l17 1 fun v18 => asI .i64 v18 fun n19 => ifB (n19 != 0) (some (AV.tup [AV.str [],
 AV.int .i64 n19])) (letSt (St.add st13 (VM.Obj.cells 23 [AV.int .i64 0, AV.int .i64 0])) fun st21 => storeS (orc vE) 2 (AV.mp (St.h st13) 0) (AV.agg [AV.int .i64 n5, AV.int .i64 n8]) [AV.int .i64 n5, AV.int .i64 n8]
 st21 fun _x st23 _x_1 => bindO (loadS 1 false (AV.mp (St.h st13) 0) st23 fun v25 _x => asI .i64 v25 fun n27 => ifB (decide (n27 < 0)) (some ([AV.bool true], st23)) (loadS 1 false (AV.mp (St.h st13) 0) st23 fun v28 _x =>
 asI .i64 v28 fun n30 => loadS 1 false (AV.mp (St.h st13) 1) st23 fun v31 _x => asI .i64 v31 fun n33 => ifB (decide (n30 > n33)) (some ([AV.bool true], st23)) (loadS 1 false (AV.mp (St.h st13) 1) st23 fun v34 _x => asI
 .i64 v34 fun n36 => some ([AV.bool (decide (n36 > (↑(List.length l0) : Int)))], st23)))) fun c37 => unc (Prod.fst c37) fun v38 l39 => asB v38 fun b40 => un0 l39 (ifB b40 (some (AV.tup [AV.str [], AV.int .i64 1])) (loadS
 1 false (AV.mp (St.h st13) 0) (Prod.snd c37) fun v41 _x => asI .i64 v41 fun n43 => uptoS n43 (List.length l0) fun k44 => letV (List.drop 0 (List.take k44 l0)) fun l45 => chk (Nat.ble (List.length l45 + List.length l11)
 9223372036854775807) (letV (l45 ++ l11) fun l46 => loadS 1 false (AV.mp (St.h st13) 1) (Prod.snd c37) fun v47 _x => asI .i64 v47 fun n49 => uptoS n49 (List.length l0) fun k50 => letV (List.drop k50 (List.take
 (List.length l0) l0)) fun l51 => chk (Nat.ble (List.length l46 + List.length l51) 9223372036854775807) (letV (l46 ++ l51) fun l52 => callS (orc vE) 11 [AV.str l52] (Prod.snd c37) fun v53 _x _x_2 => unT v53 fun l56 =>
 nthS l56 0 fun _x => unT v53 fun l58 => nthS l58 1 fun v59 => asI .i64 v59 fun n60 => ifB (n60 != 0) (some (AV.tup [AV.str [], AV.int .i64 n60])) (some (AV.tup [AV.str l52, AV.int .i64 0]))))))))
theorem g6_eq (x0 x1 : AV) : bareS vE 6 [x0, x1] = g6 x0 x1 := by kernel_rfl
/-- rostrum/relex.Relex -/
noncomputable def g7 : AV → AV → Option AV := fun x0 x1 => asS x0 fun l0 => unA x1 fun l2 => unc l2 fun v3 l4 => asI .i64 v3 fun n5 => unc l4 fun v6 l7 => asI .i64 v6 fun n8 => unc l7 fun v9 l10 => asS v9 fun l11 => un0
 l10 (callS (orc vE) 10 [AV.str l0, AV.agg [AV.int .i64 n5, AV.int .i64 n8, AV.str l11]] (St.mk 1 0 (Tr.node (some (VM.Obj.cells 32 [AV.int .i64 0, AV.int .i64 0])) Tr.leaf Tr.leaf)) fun v13 st14 _x => unT v13 fun l16 =>
 nthS l16 0 fun v17 => asS v17 fun _x => unT v13 fun l19 => nthS l19 1 fun v20 => unT v13 fun l21 => nthS l21 2 fun v22 => unT v13 fun l23 => nthS l23 3 fun v24 => asI .i64 v24 fun n25 => ifB (n25 != 0) (storeS (orc vE)
 2 (AV.mp 0 0) (AV.agg [AV.int .i64 0, AV.int .i64 0]) [AV.int .i64 0, AV.int .i64 0] st14 fun _x st28 _x_1 => loadS 2 true (AV.mp 0 0) st28 fun v30 _x => unA v30 fun l33 => unc l33 fun v34 l35 => asI .i64 v34 fun n36 =>
 unc l35 fun v37 l38 => asI .i64 v37 fun n39 => un0 l38 (some (AV.tup [AV.nils, AV.agg [AV.int .i64 n36, AV.int .i64 n39], AV.int .i64 n25]))) (callS (orc vE) 12 [v20, v22] st14 fun v40 st41 _x => asI .i64 v40 fun n43 =>
 sliceS 2 v20 (some n43) none none fun v44 => callS (orc vE) 13 [v44] st41 fun v45 st46 x47 => chk (apart (Fx.mk [] Did.kept) x47 && (apart (Fx.mk [] Did.kept) x47 && true)) (chk (apart x47 (Fx.mk [] Did.kept) && true)
 (chk (apart x47 (Fx.mk [] Did.kept) && true) (sliceS 2 v22 (some n43) none none fun v48 => chk (apart x47 (Fx.mk [] Did.kept) && true) (callS (orc vE) 13 [v48] st46 fun v49 st50 x51 => chk (apart (Fx.mk [] Did.kept) x51
 && (apart (Fx.mk [] Did.kept) x51 && true)) (callS (orc vE) 12 [v45, v49] st50 fun v52 st53 x54 => asI .i64 v52 fun n55 => chk (apart (Fx.mk [] Did.kept) x54 && (apart (Fx.mk [] Did.kept) x54 && true)) (storeS (orc vE)
 2 (AV.mp 0 0) (AV.agg [AV.int .i64 n43, AV.int .i64 n55]) [AV.int .i64 n43, AV.int .i64 n55] st53 fun _x st58 _x_1 => loadS 2 true (AV.mp 0 0) st58 fun v60 _x => unA v60 fun l63 => unc l63 fun v64 l65 => asI .i64 v64
 fun n66 => unc l65 fun v67 l68 => asI .i64 v67 fun n69 => un0 l68 (frzS st58 0 (AV.tup [v22, AV.agg [AV.int .i64 n66, AV.int .i64 n69], AV.int .i64 0]) fun v70 => some v70)))))))))
theorem g7_eq (x0 x1 : AV) : bareS vE 7 [x0, x1] = g7 x0 x1 := by kernel_rfl
/-- rostrum/rostrumref10.Relex -/
noncomputable def g8 : AV → AV → Option AV := fun x0 x1 => asS x0 fun l0 => unA x1 fun l2 => unc l2 fun v3 l4 => asI .i64 v3 fun n5 => unc l4 fun v6 l7 => asI .i64 v6 fun n8 => unc l7 fun v9 l10 => asS v9 fun l11 => un0
 l10 (callS (orc vE) 6 [AV.str l0, AV.agg [AV.int .i64 n5, AV.int .i64 n8, AV.str l11]] (St.mk 0 0 Tr.leaf) fun v13 st14 _x => unT v13 fun l16 => nthS l16 0 fun v17 => asS v17 fun l18 => unT v13 fun l19 => nthS l19 1 fun
 v20 => asI .i64 v20 fun n21 => ifB (n21 != 0) (some (AV.tup [AV.nils, AV.int .i64 0, AV.int .i64 0, AV.int .i64 n21])) (callS (orc vE) 11 [AV.str l0] st14 fun v22 st23 _x => unT v22 fun l25 => nthS l25 0 fun v26 => unT
 v22 fun l27 => nthS l27 1 fun v28 => asI .i64 v28 fun _x => callS (orc vE) 11 [AV.str l18] st23 fun v30 st31 _x => unT v30 fun l33 => nthS l33 0 fun v34 => unT v30 fun l35 => nthS l35 1 fun v36 => asI .i64 v36 fun _x =>
 callS (orc vE) 14 [v26, v34] st31 fun v38 st39 _x => asI .i64 v38 fun n41 => sliceS 2 v26 (some n41) none none fun v42 => callS (orc vE) 15 [v42] st39 fun v43 st44 x45 => chk (apart (Fx.mk [] Did.kept) x45 && (apart
 (Fx.mk [] Did.kept) x45 && true)) (chk (apart x45 (Fx.mk [] Did.kept) && true) (chk (apart x45 (Fx.mk [] Did.kept) && true) (sliceS 2 v34 (some n41) none none fun v46 => chk (apart x45 (Fx.mk [] Did.kept) && true)
 (callS (orc vE) 15 [v46] st44 fun v47 st48 x49 => chk (apart (Fx.mk [] Did.kept) x49 && (apart (Fx.mk [] Did.kept) x49 && true)) (callS (orc vE) 14 [v43, v47] st48 fun v50 st51 x52 => asI .i64 v50 fun n53 => chk (apart
 (Fx.mk [] Did.kept) x52 && (apart (Fx.mk [] Did.kept) x52 && true)) (frzS st51 0 (AV.tup [v34, AV.int .i64 n41, AV.int .i64 n53, AV.int .i64 0]) fun v54 => some v54))))))))
theorem g8_eq (x0 x1 : AV) : bareS vE 8 [x0, x1] = g8 x0 x1 := by kernel_rfl
/-- rostrum/rostrumref10.Same -/
noncomputable def g9 : AV → AV → Option AV := fun x0 x1 => bindO (lenS x0 fun k0 => lenS x1 fun k1 => ifB ((↑k0 : Int) == (↑k1 : Int)) (callS (orc vE) 14 [x0, x1] (St.mk 0 0 Tr.leaf) fun v2 st3 _x => asI .i64 v2 fun n5
 => lenS x0 fun k6 => some ([AV.bool (n5 == (↑k6 : Int))], st3)) (some ([AV.bool false], St.mk 0 0 Tr.leaf))) fun c7 => unc (Prod.fst c7) fun v8 l9 => asB v8 fun b10 => un0 l9 (some (AV.bool b10))
theorem g9_eq (x0 x1 : AV) : bareS vE 9 [x0, x1] = g9 x0 x1 := by kernel_rfl
/-- rostrum/relex.again -/
noncomputable def g10_L1 (n5 : Int) (v16 : AV) : Car → Option (Car ⊕ Nat × Car) := fun c30 => unc (Prod.fst c30) fun v31 l32 => asI .i64 v31 fun n33 => unc l32 fun v34 l35 => asI .i64 v34 fun n36 => un0 l35 (bindO (lenS
 v16 fun k37 => ifB (decide (n36 < (↑k37 : Int))) (idxA 2 v16 n36 (Prod.snd c30) fun v38 _x => fldA 1 v38 fun v40 => loadS 1 false v40 (Prod.snd c30) fun v41 _x => asS v41 fun l43 => letV (IntKind.wrap .i64 (n33 +
 (↑(List.length l43) : Int))) fun n44 => letV (IntKind.wrap .i64 (n44 + 2)) fun n45 => some ([AV.bool (decide (n45 < n5))], Prod.snd c30)) (some ([AV.bool false], Prod.snd c30))) fun c46 => unc (Prod.fst c46) fun v47 l48
 => asB v47 fun b49 => un0 l48 (ifB b49 (idxA 2 v16 n36 (Prod.snd c46) fun v50 _x => fldA 1 v50 fun v52 => loadS 1 false v52 (Prod.snd c46) fun v53 _x => asS v53 fun l55 => letV (IntKind.wrap .i64 (n33 + (↑(List.length
 l55) : Int))) fun n56 => letV (IntKind.wrap .i64 (n36 + 1)) fun n57 => some (Sum.inl ([AV.int .i64 n56, AV.int .i64 n57], Prod.snd c46))) (some (Sum.inr (0, [AV.int .i64 n33, AV.int .i64 n36], Prod.snd c46)))))
noncomputable def g10 : AV → AV → Option AV := fun x0 x1 => asS x0 fun l0 => unA x1 fun l2 => unc l2 fun v3 l4 => asI .i64 v3 fun n5 => unc l4 fun v6 l7 => asI .i64 v6 fun n8 => unc l7 fun v9 l10 => asS v9 fun l11 =>
 un0 l10 (callS (orc vE) 16 [AV.str l0] (St.mk 0 0 Tr.leaf) fun v12 st13 _x => unT v12 fun l15 => nthS l15 0 fun v16 => unT v12 fun l17 => nthS l17 1 fun v18 => asI .i64 v18 fun n19 => ifB (n19 != 0) (some (AV.tup
 [AV.str [], AV.nils, AV.nils, AV.int .i64 n19])) (bindO (ifB (decide (n5 < 0)) (some ([AV.bool true], st13)) (ifB (decide (n5 > n8)) (some ([AV.bool true], st13)) (some ([AV.bool (decide (n8 > (↑(List.length l0) :
 Int)))], st13)))) fun c20 => unc (Prod.fst c20) fun v21 l22 => asB v21 fun b23 => un0 l22 (ifB b23 (some (AV.tup [AV.str [], AV.nils, AV.nils, AV.int .i64 1])) (uptoS n5 (List.length l0) fun k24 => letV (List.drop 0
 (List.take k24 l0)) fun l25 => chk (Nat.ble (List.length l25 + List.length l11) 9223372036854775807) (letV (l25 ++ l11) fun l26 => uptoS n8 (List.length l0) fun k27 => letV (List.drop k27 (List.take (List.length l0)
 l0)) fun l28 => chk (Nat.ble (List.length l26 + List.length l28) 9223372036854775807) (letV (l26 ++ l28) fun l29 => bindO (loopO (g10_L1 n5 v16) ([AV.int .i64 0, AV.int .i64 0], Prod.snd c20)) fun c58 => unc (Prod.fst
 (Prod.snd c58)) fun v59 l60 => asI .i64 v59 fun n61 => unc l60 fun v62 l63 => asI .i64 v62 fun n64 => un0 l63 (ifB (decide ((↑(List.length l29) : Int) > 65536)) (some (AV.tup [AV.str [], AV.nils, AV.nils, AV.int .i64
 40])) (uptoS n61 (List.length l29) fun k65 => letV (List.drop k65 (List.take (List.length l29) l29)) fun l66 => callS (orc vE) 16 [AV.str l66] (Prod.snd (Prod.snd c58)) fun v67 st68 _x => unT v67 fun l70 => nthS l70 0
 fun v71 => unT v67 fun l72 => nthS l72 1 fun v73 => asI .i64 v73 fun n74 => ifB (n74 != 0) (some (AV.tup [AV.str [], AV.nils, AV.nils, AV.int .i64 n74])) (sliceS 2 v16 none (some n64) (some n64) fun v75 => elemsS v71
 fun l76 => fitTs true l76 fun l77 => chk (sizesOk 2 l77) (appS 2 24 39 v75 l77 st68 fun v78 st79 _x => frzS st79 0 (AV.tup [AV.str l29, v16, v78, AV.int .i64 0]) fun v81 => some v81))))))))))
theorem g10_eq (x0 x1 : AV) : bareS vE 10 [x0, x1] = g10 x0 x1 := by kernel_rfl
/-- rostrum/rostrumref09.Tokens -/
noncomputable def g11_L1 : Car → Option (Car ⊕ Nat × Car) := fun c5 => unc (Prod.fst c5) fun v6 l7 => unc l7 fun v8 l9 => asS v8 fun l10 => un0 l9 (ifB (!l10 == []) (callS (orc vE) 18 [AV.str l10] (Prod.snd c5) fun v11
 st12 _x => unT v11 fun l14 => nthS l14 0 fun v15 => asI .u8 v15 fun n16 => unT v11 fun l17 => nthS l17 1 fun v18 => asI .i64 v18 fun n19 => uptoS n19 (List.length l10) fun k20 => letV (List.drop 0 (List.take k20 l10))
 fun l21 => appS 2 24 39 v6 [AV.agg [AV.int .u8 n16, AV.str l21]] st12 fun v23 st24 _x => uptoS n19 (List.length l10) fun k26 => letV (List.drop k26 (List.take (List.length l10) l10)) fun l27 => some (Sum.inl ([v23,
 AV.str l27], st24))) (some (Sum.inr (0, [v6], Prod.snd c5))))
noncomputable def g11 : AV → Option AV := fun x0 => asS x0 fun l0 => ifB (decide ((↑(List.length l0) : Int) > 65536)) (some (AV.tup [AV.nils, AV.int .i64 40])) (callS (orc vE) 17 [AV.str l0] (St.mk 0 0 Tr.leaf) fun v1
 st2 _x => asB v1 fun b4 => ifB (!b4) (some (AV.tup [AV.nils, AV.int .i64 4])) (bindO (loopO g11_L1 ([AV.nils, AV.str l0], st2)) fun c28 => unc (Prod.fst (Prod.snd c28)) fun v29 l30 => un0 l30 (frzS (Prod.snd (Prod.snd
 c28)) 0 (AV.tup [v29, AV.int .i64 0]) fun v31 => some v31)))
theorem g11_eq (x0 : AV) : bareS vE 11 [x0] = g11 x0 := by kernel_rfl
/-- rostrum/relex.alike[rostrum/api.Token] -/
noncomputable def g12_L1 (x0 : AV) (x1 : AV) : Car → Option (Car ⊕ Nat × Car) := fun c0 => unc (Prod.fst c0) fun v1 l2 => asI .i64 v1 fun n3 => un0 l2 (bindO (lenS x0 fun k4 => lenS x1 fun k5 => letV (if (↑k5 : Int) <
 (↑k4 : Int) then (↑k5 : Int) else (↑k4 : Int)) fun n6 => ifB (decide (n3 < n6)) (idxA 2 x0 n3 (Prod.snd c0) fun v7 _x => loadS 2 true v7 (Prod.snd c0) fun v9 _x => unA v9 fun l12 => unc l12 fun v13 l14 => asI .u8 v13
 fun n15 => unc l14 fun v16 l17 => asS v16 fun l18 => un0 l17 (idxA 2 x1 n3 (Prod.snd c0) fun v19 _x => loadS 2 true v19 (Prod.snd c0) fun v21 _x => unA v21 fun l24 => unc l24 fun v25 l26 => asI .u8 v25 fun n27 => unc
 l26 fun v28 l29 => asS v28 fun l30 => un0 l29 (bindO (toO (VM.binOp (Env.T vE) BinOp.eql 39 (AV.agg [AV.int .u8 n15, AV.str l18]) (AV.agg [AV.int .u8 n27, AV.str l30]))) fun v31 => asB v31 fun b32 => some ([AV.bool
 b32], Prod.snd c0)))) (some ([AV.bool false], Prod.snd c0))) fun c33 => unc (Prod.fst c33) fun v34 l35 => asB v34 fun b36 => un0 l35 (ifB b36 (letV (IntKind.wrap .i64 (n3 + 1)) fun n37 => some (Sum.inl ([AV.int .i64
 n37], Prod.snd c33))) (some (Sum.inr (0, [AV.int .i64 n3], Prod.snd c33)))))
noncomputable def g12 : AV → AV → Option AV := fun x0 x1 => bindO (loopO (g12_L1 x0 x1) ([AV.int .i64 0], St.mk 0 0 Tr.leaf)) fun c38 => unc (Prod.fst (Prod.snd c38)) fun v39 l40 => asI .i64 v39 fun n41 => un0 l40 (some
 (AV.int .i64 n41))
theorem g12_eq (x0 x1 : AV) : bareS vE 12 [x0, x1] = g12 x0 x1 := by kernel_rfl
/-- rostrum/relex.turned[rostrum/api.Token] -/
noncomputable def g13 : AV → Option AV := fun x0 => callS (orc vE) 19 [x0] (St.mk 0 0 Tr.leaf) fun v0 st1 _x => callS (orc vE) 20 [v0] st1 fun _x st4 _x_1 => frzS st4 0 (oneOf [v0]) fun v6 => some v6
theorem g13_eq (x0 : AV) : bareS vE 13 [x0] = g13 x0 := by kernel_rfl
/-- rostrum/rostrumref10.Alike -/
noncomputable def g14_L1 (x0 : AV) (x1 : AV) : Car → Option (Car ⊕ Nat × Car) := fun c0 => unc (Prod.fst c0) fun v1 l2 => asI .i64 v1 fun n3 => un0 l2 (bindO (lenS x0 fun k4 => ifB (decide (n3 < (↑k4 : Int))) (lenS x1
 fun k5 => ifB (decide (n3 < (↑k5 : Int))) (idxA 2 x0 n3 (Prod.snd c0) fun v6 _x => loadS 2 true v6 (Prod.snd c0) fun v8 _x => unA v8 fun l11 => unc l11 fun v12 l13 => asI .u8 v12 fun n14 => unc l13 fun v15 l16 => asS
 v15 fun l17 => un0 l16 (idxA 2 x1 n3 (Prod.snd c0) fun v18 _x => loadS 2 true v18 (Prod.snd c0) fun v20 _x => unA v20 fun l23 => unc l23 fun v24 l25 => asI .u8 v24 fun n26 => unc l25 fun v27 l28 => asS v27 fun l29 =>
 un0 l28 (bindO (toO (VM.binOp (Env.T vE) BinOp.eql 39 (AV.agg [AV.int .u8 n14, AV.str l17]) (AV.agg [AV.int .u8 n26, AV.str l29]))) fun v30 => asB v30 fun b31 => some ([AV.bool b31], Prod.snd c0)))) (some ([AV.bool
 false], Prod.snd c0))) (some ([AV.bool false], Prod.snd c0))) fun c32 => unc (Prod.fst c32) fun v33 l34 => asB v33 fun b35 => un0 l34 (ifB b35 (letV (IntKind.wrap .i64 (n3 + 1)) fun n36 => some (Sum.inl ([AV.int .i64
 n36], Prod.snd c32))) (some (Sum.inr (0, [AV.int .i64 n3], Prod.snd c32)))))
noncomputable def g14 : AV → AV → Option AV := fun x0 x1 => bindO (loopO (g14_L1 x0 x1) ([AV.int .i64 0], St.mk 0 0 Tr.leaf)) fun c37 => unc (Prod.fst (Prod.snd c37)) fun v38 l39 => asI .i64 v38 fun n40 => un0 l39 (some
 (AV.int .i64 n40))
theorem g14_eq (x0 x1 : AV) : bareS vE 14 [x0, x1] = g14 x0 x1 := by kernel_rfl
/-- rostrum/rostrumref10.turned -/
noncomputable def g15_L1 (x0 : AV) : Car → Option (Car ⊕ Nat × Car) := fun c2 => unc (Prod.fst c2) fun v3 l4 => unc l4 fun v5 l6 => asI .i64 v5 fun n7 => un0 l6 (ifB (decide (n7 ≥ 0)) (idxA 2 x0 n7 (Prod.snd c2) fun v8
 _x => loadS 2 true v8 (Prod.snd c2) fun v10 _x => unA v10 fun l13 => unc l13 fun v14 l15 => asI .u8 v14 fun n16 => unc l15 fun v17 l18 => asS v17 fun l19 => un0 l18 (appS 2 24 39 v3 [AV.agg [AV.int .u8 n16, AV.str l19]]
 (Prod.snd c2) fun v20 st21 _x => letV (IntKind.wrap .i64 (n7 - 1)) fun n23 => some (Sum.inl ([v20, AV.int .i64 n23], st21)))) (some (Sum.inr (0, [v3], Prod.snd c2))))
noncomputable def g15 : AV → Option AV := fun x0 => lenS x0 fun k0 => letV (IntKind.wrap .i64 ((↑k0 : Int) - 1)) fun n1 => bindO (loopO (g15_L1 x0) ([AV.nils, AV.int .i64 n1], St.mk 0 0 Tr.leaf)) fun c24 => unc
 (Prod.fst (Prod.snd c24)) fun v25 l26 => un0 l26 (frzS (Prod.snd (Prod.snd c24)) 0 (oneOf [v25]) fun v27 => some v27)
theorem g15_eq (x0 : AV) : bareS vE 15 [x0] = g15 x0 := by kernel_rfl
/-- rostrum/lex.Tokens -/
noncomputable def g16_L1 : Car → Option (Car ⊕ Nat × Car) := fun c11 => unc (Prod.fst c11) fun v12 l13 => unc l13 fun v14 l15 => asS v14 fun l16 => unc l15 fun v17 l18 => asI .i64 v17 fun n19 => un0 l18 (ifB (decide
 (n19 < 7)) (idxA 1 (AV.sl 1 [AV.fn (Fn.func 22) [] [], AV.fn (Fn.func 23) [] [], AV.fn (Fn.func 24) [] [], AV.fn (Fn.func 25) [] [], AV.fn (Fn.func 26) [] [], AV.fn (Fn.func 27) [] [], AV.fn (Fn.func 28) [] []]
 Perm.shut) n19 (Prod.snd c11) fun v20 _x => loadS 1 false v20 (Prod.snd c11) fun v22 _x => callF (orc vE) (Sx.prim (sx vE 16)) v22 [AV.str l16] (Prod.snd c11) fun v24 st25 _x => unT v24 fun l27 => nthS l27 0 fun v28 =>
 asI .u8 v28 fun n29 => unT v24 fun l30 => nthS l30 1 fun v31 => asI .i64 v31 fun n32 => ifB (decide (n32 > 0)) (uptoS n32 (List.length l16) fun k33 => letV (List.drop 0 (List.take k33 l16)) fun l34 => appS 2 24 39 v12
 [AV.agg [AV.int .u8 n29, AV.str l34]] st25 fun v36 st37 _x => uptoS n32 (List.length l16) fun k39 => letV (List.drop k39 (List.take (List.length l16) l16)) fun l40 => some (Sum.inr (0, [v36, AV.str l40], st37))) (letV
 (IntKind.wrap .i64 (n19 + 1)) fun n41 => some (Sum.inl ([v12, AV.str l16, AV.int .i64 n41], st25)))) (some (Sum.inr (0, [v12, AV.str l16], Prod.snd c11))))
noncomputable def g16_L2 : Car → Option (Car ⊕ Nat × Car) := fun c5 => unc (Prod.fst c5) fun v6 l7 => unc l7 fun v8 l9 => asS v8 fun l10 => un0 l9 (ifB (!l10 == []) (bindO (loopO g16_L1 ([v6, AV.str l10, AV.int .i64 0],
 Prod.snd c5)) fun c42 => unc (Prod.fst (Prod.snd c42)) fun v43 l44 => unc l44 fun v45 l46 => asS v45 fun l47 => un0 l46 (some (Sum.inl ([v43, AV.str l47], Prod.snd (Prod.snd c42))))) (some (Sum.inr (0, [v6], Prod.snd
 c5))))
noncomputable def g16 : AV → Option AV := fun x0 => asS x0 fun l0 => ifB (decide ((↑(List.length l0) : Int) > 65536)) (some (AV.tup [AV.nils, AV.int .i64 40])) (callS (orc vE) 21 [AV.str l0] (St.mk 0 0 Tr.leaf) fun v1
 st2 _x => asB v1 fun b4 => ifB (!b4) (some (AV.tup [AV.nils, AV.int .i64 4])) (bindO (loopO g16_L2 ([AV.nils, AV.str l0], st2)) fun c48 => unc (Prod.fst (Prod.snd c48)) fun v49 l50 => un0 l50 (frzS (Prod.snd (Prod.snd
 c48)) 0 (AV.tup [v49, AV.int .i64 0]) fun v51 => some v51)))
theorem g16_eq (x0 : AV) : bareS vE 16 [x0] = g16 x0 := by kernel_rfl
/-- rostrum/rostrumref01.Valid -/
noncomputable def g17_L1 : Car → Option (Car ⊕ Nat × Car) := fun c1 => unc (Prod.fst c1) fun v2 l3 => asB v2 fun b4 => unc l3 fun v5 l6 => asS v5 fun l7 => un0 l6 (ifB (!l7 == []) (callS (orc vE) 29 [AV.str l7]
 (Prod.snd c1) fun v8 st9 _x => unT v8 fun l11 => nthS l11 0 fun v12 => asI .i64 v12 fun n13 => unT v8 fun l14 => nthS l14 1 fun v15 => asI .i64 v15 fun n16 => ifB (decide (n13 < 0)) (some (Sum.inr (1, [AV.bool false],
 st9))) (uptoS n16 (List.length l7) fun k17 => letV (List.drop k17 (List.take (List.length l7) l7)) fun l18 => some (Sum.inl ([AV.bool b4, AV.str l18], st9)))) (some (Sum.inr (0, [AV.bool b4], Prod.snd c1))))
noncomputable def g17 : AV → Option AV := fun x0 => asS x0 fun l0 => bindO (loopO g17_L1 ([AV.bool false, AV.str l0], St.mk 0 0 Tr.leaf)) fun c19 => unc (Prod.fst (Prod.snd c19)) fun v20 l21 => asB v20 fun b22 => un0
 l21 (sel2 (Prod.fst c19) (some (AV.bool true)) fun _x => some (AV.bool b22))
theorem g17_eq (x0 : AV) : bareS vE 17 [x0] = g17 x0 := by kernel_rfl
/-- rostrum/rostrumref09.Cut -/
noncomputable def g18_L1 (l0 : List UInt8) : Car → Option (Car ⊕ Nat × Car) := fun c6 => unc (Prod.fst c6) fun v7 l8 => asI .i64 v7 fun n9 => un0 l8 (callS (orc vE) 31 [AV.str l0, AV.int .i64 n9] (Prod.snd c6) fun v10
 st11 _x => asI .u8 v10 fun n13 => callS (orc vE) 30 [AV.int .u8 n13] st11 fun v14 st15 _x => asB v14 fun b17 => ifB b17 (letV (IntKind.wrap .i64 (n9 + 1)) fun n18 => some (Sum.inl ([AV.int .i64 n18], st15))) (some
 (Sum.inr (0, [AV.int .i64 n9], st15))))
noncomputable def g18_L2 (l0 : List UInt8) : Car → Option (Car ⊕ Nat × Car) := fun c40 => unc (Prod.fst c40) fun v41 l42 => asI .i64 v41 fun n43 => un0 l42 (callS (orc vE) 31 [AV.str l0, AV.int .i64 n43] (Prod.snd c40)
 fun v44 st45 _x => asI .u8 v44 fun n47 => callS (orc vE) 35 [AV.int .u8 n47] st45 fun v48 st49 _x => asB v48 fun b51 => ifB b51 (letV (IntKind.wrap .i64 (n43 + 1)) fun n52 => some (Sum.inl ([AV.int .i64 n52], st49)))
 (some (Sum.inr (0, [AV.int .i64 n43], st49))))
noncomputable def g18_L3 (l0 : List UInt8) : Car → Option (Car ⊕ Nat × Car) := fun c87 => unc (Prod.fst c87) fun v88 l89 => asI .u8 v88 fun n90 => unc l89 fun v91 l92 => asI .i64 v91 fun n93 => unc l92 fun v94 l95 =>
 asI .i64 v94 fun n96 => un0 l95 (ifB (decide (n96 < 11)) (idxA 1 (AV.sl 1 [AV.str [45, 62], AV.str [58, 58], AV.str [60, 62], AV.str [60, 61], AV.str [62, 61], AV.str [43, 46], AV.str [45, 46], AV.str [42, 46], AV.str
 [47, 46], AV.str [38, 38], AV.str [124, 124]] Perm.shut) n96 (Prod.snd c87) fun v97 _x => loadS 1 false v97 (Prod.snd c87) fun v99 _x => asS v99 fun l101 => callS (orc vE) 32 [AV.str l0, AV.int .i64 0, AV.str l101]
 (Prod.snd c87) fun v102 st103 _x => asB v102 fun b105 => ifB b105 (some (Sum.inr (1, [AV.int .u8 8, AV.int .i64 2], st103))) (letV (IntKind.wrap .i64 (n96 + 1)) fun n106 => some (Sum.inl ([AV.int .u8 n90, AV.int .i64
 n93, AV.int .i64 n106], st103)))) (some (Sum.inr (0, [AV.int .u8 n90, AV.int .i64 n93], Prod.snd c87))))
noncomputable def g18_L4 (c1 : UInt8) : Car → Option (Car ⊕ Nat × Car) := fun c114 => unc (Prod.fst c114) fun v115 l116 => asI .u8 v115 fun n117 => unc l116 fun v118 l119 => asI .i64 v118 fun n120 => unc l119 fun v121
 l122 => asI .i64 v121 fun n123 => un0 l122 (ifB (decide (n123 < 16)) (idxStr [40, 41, 91, 93, 44, 59, 124, 61, 60, 62, 43, 45, 42, 47, 94, 64] n123 fun c124 => ifB ((↑(UInt8.toNat c124) : Int) == (↑(UInt8.toNat c1) :
 Int)) (some (Sum.inr (1, [AV.int .u8 8, AV.int .i64 1], Prod.snd c114))) (letV (IntKind.wrap .i64 (n123 + 1)) fun n125 => some (Sum.inl ([AV.int .u8 n117, AV.int .i64 n120, AV.int .i64 n125], Prod.snd c114)))) (some
 (Sum.inr (0, [AV.int .u8 n117, AV.int .i64 n120], Prod.snd c114))))
noncomputable def g18 : AV → Option AV := fun x0 => asS x0 fun l0 => idxStr l0 0 fun c1 => callS (orc vE) 30 [AV.int .u8 (↑(UInt8.toNat c1) : Int)] (St.mk 0 0 Tr.leaf) fun v2 st3 _x => asB v2 fun b5 => ifB b5 (bindO
 (loopO (g18_L1 l0) ([AV.int .i64 0], st3)) fun c19 => unc (Prod.fst (Prod.snd c19)) fun v20 l21 => asI .i64 v20 fun n22 => un0 l21 (some (AV.tup [AV.int .u8 1, AV.int .i64 n22]))) (callS (orc vE) 32 [AV.str l0, AV.int
 .i64 0, AV.str [40, 42]] st3 fun v23 st24 _x => asB v23 fun b26 => ifB b26 (callS (orc vE) 33 [AV.str l0] st24 fun v27 _x _x_1 => unT v27 fun l30 => nthS l30 0 fun v31 => asI .i64 v31 fun n32 => unT v27 fun l33 => nthS
 l33 1 fun v34 => asB v34 fun b35 => ifB b35 (some (AV.tup [AV.int .u8 2, AV.int .i64 n32])) (some (AV.tup [AV.int .u8 9, AV.int .i64 n32]))) (callS (orc vE) 34 [AV.int .u8 (↑(UInt8.toNat c1) : Int)] st24 fun v36 st37 _x
 => asB v36 fun b39 => ifB b39 (bindO (loopO (g18_L2 l0) ([AV.int .i64 0], st37)) fun c53 => unc (Prod.fst (Prod.snd c53)) fun v54 l55 => asI .i64 v54 fun n56 => un0 l55 (uptoS n56 (List.length l0) fun k57 => letV
 (List.drop 0 (List.take k57 l0)) fun l58 => ifB (l58 == [95]) (some (AV.tup [AV.int .u8 8, AV.int .i64 1])) (uptoS n56 (List.length l0) fun k59 => letV (List.drop 0 (List.take k59 l0)) fun l60 => callS (orc vE) 36
 [AV.str l60] (Prod.snd (Prod.snd c53)) fun v61 _x _x_1 => asB v61 fun b64 => ifB b64 (some (AV.tup [AV.int .u8 3, AV.int .i64 n56])) (some (AV.tup [AV.int .u8 4, AV.int .i64 n56]))))) (callS (orc vE) 37 [AV.int .u8
 (↑(UInt8.toNat c1) : Int)] st37 fun v65 st66 _x => asB v65 fun b68 => ifB b68 (callS (orc vE) 38 [AV.str l0] st66 fun v69 _x _x_1 => unT v69 fun l72 => nthS l72 0 fun v73 => asI .u8 v73 fun n74 => unT v69 fun l75 =>
 nthS l75 1 fun v76 => asI .i64 v76 fun n77 => some (AV.tup [AV.int .u8 n74, AV.int .i64 n77])) (ifB ((↑(UInt8.toNat c1) : Int) == 34) (callS (orc vE) 39 [AV.str l0] st66 fun v78 _x _x_1 => unT v78 fun l81 => nthS l81 0
 fun v82 => asI .u8 v82 fun n83 => unT v78 fun l84 => nthS l84 1 fun v85 => asI .i64 v85 fun n86 => some (AV.tup [AV.int .u8 n83, AV.int .i64 n86])) (bindO (loopO (g18_L3 l0) ([AV.int .u8 0, AV.int .i64 0, AV.int .i64
 0], st66)) fun c107 => unc (Prod.fst (Prod.snd c107)) fun v108 l109 => asI .u8 v108 fun n110 => unc l109 fun v111 l112 => asI .i64 v111 fun n113 => un0 l112 (sel2 (Prod.fst c107) (bindO (loopO (g18_L4 c1) ([AV.int .u8
 n110, AV.int .i64 n113, AV.int .i64 0], Prod.snd (Prod.snd c107))) fun c126 => unc (Prod.fst (Prod.snd c126)) fun v127 l128 => asI .u8 v127 fun n129 => unc l128 fun v130 l131 => asI .i64 v130 fun n132 => un0 l131 (sel2
 (Prod.fst c126) (callS (orc vE) 29 [AV.str l0] (Prod.snd (Prod.snd c126)) fun v133 _x _x_1 => unT v133 fun l136 => nthS l136 0 fun v137 => asI .i64 v137 fun _x => unT v133 fun l139 => nthS l139 1 fun v140 => asI .i64
 v140 fun n141 => some (AV.tup [AV.int .u8 9, AV.int .i64 n141])) fun _x => some (AV.tup [AV.int .u8 n129, AV.int .i64 n132]))) fun _x => some (AV.tup [AV.int .u8 n110, AV.int .i64 n113])))))))
theorem g18_eq (x0 : AV) : bareS vE 18 [x0] = g18 x0 := by kernel_rfl
/-- slices.Clone[[]rostrum/api.Token,rostrum/api.Token] -/
noncomputable def g19 : AV → Option AV := fun x0 => nilS (U.slice 39) x0 AV.nils fun b0 => ifB b0 (some AV.nils) (elemsS x0 fun l1 => planS (orc vE) (msAppendP (TI.mk (U.struct [(0, 5), (1, 9)]) 2 24 [AV.int .u8 0,
 AV.str []] true true) 39 (AV.sl 2 [] Perm.shut) l1) (St.mk 0 0 Tr.leaf) fun v2 st3 _x => frzS st3 0 (oneOf [v2]) fun v5 => some v5)
/-- rostrum/utf.Valid -/
noncomputable def g21 : AV → Option AV := fun x0 => asS x0 fun l0 => planS (orc vE) (primP (Prim.lib libValid) [AV.str l0]) (St.mk 0 0 Tr.leaf) fun v1 _x _x_1 => asB v1 fun b4 => some (AV.bool b4)
theorem g21_eq (x0 : AV) : bareS vE 21 [x0] = g21 x0 := by kernel_rfl
/-- rostrum/lex.blank -/
noncomputable def g22 : AV → Option AV := fun x0 => asS x0 fun l0 => callS (orc vE) 41 [AV.str l0, AV.str [32, 9, 10, 13]] (St.mk 0 0 Tr.leaf) fun v1 _x _x_1 => asI .i64 v1 fun n4 => some (AV.tup [AV.int .u8 1, AV.int
 .i64 n4])
theorem g22_eq (x0 : AV) : bareS vE 22 [x0] = g22 x0 := by kernel_rfl
/-- rostrum/lex.remark -/
noncomputable def g23_L1 (l0 : List UInt8) : Car → Option (Car ⊕ Nat × Car) := fun c5 => unc (Prod.fst c5) fun v6 l7 => asI .i64 v6 fun n8 => unc l7 fun v9 l10 => asI .u8 v9 fun n11 => unc l10 fun v12 l13 => asI .i64
 v12 fun n14 => unc l13 fun v15 l16 => asI .i64 v15 fun n17 => un0 l16 (ifB (decide (n17 < (↑(List.length l0) : Int))) (uptoS n17 (List.length l0) fun k18 => letV (List.drop k18 (List.take (List.length l0) l0)) fun l19
 => callS (orc vE) 42 [AV.str l19, AV.str [40, 42]] (Prod.snd c5) fun v20 st21 _x => asB v20 fun b23 => bindO (ifB b23 (letV (IntKind.wrap .i64 (n8 + 1)) fun n24 => letV (IntKind.wrap .i64 (n17 + 2)) fun n25 => some
 (Sum.inl ([AV.int .i64 n24, AV.int .u8 n11, AV.int .i64 n14, AV.int .i64 n25], st21))) (uptoS n17 (List.length l0) fun k26 => letV (List.drop k26 (List.take (List.length l0) l0)) fun l27 => callS (orc vE) 42 [AV.str
 l27, AV.str [42, 41]] st21 fun v28 st29 _x => asB v28 fun b31 => bindO (ifB b31 (letV (IntKind.wrap .i64 (n8 - 1)) fun n32 => letV (IntKind.wrap .i64 (n17 + 2)) fun n33 => ifB (n32 == 0) (some (Sum.inr (Sum.inr (Sum.inr
 (1, [AV.int .u8 2, AV.int .i64 n33], st29))))) (some (Sum.inl ([AV.int .i64 n32, AV.int .u8 n11, AV.int .i64 n14, AV.int .i64 n33], st29)))) (letV (IntKind.wrap .i64 (n17 + 1)) fun n34 => some (Sum.inl ([AV.int .i64 n8,
 AV.int .u8 n11, AV.int .i64 n14, AV.int .i64 n34], st29)))) fun c35 => onSum c35 fun c36 => unc (Prod.fst c36) fun v37 l38 => asI .i64 v37 fun n39 => unc l38 fun v40 l41 => asI .u8 v40 fun n42 => unc l41 fun v43 l44 =>
 asI .i64 v43 fun n45 => unc l44 fun v46 l47 => asI .i64 v46 fun n48 => un0 l47 (some (Sum.inl ([AV.int .i64 n39, AV.int .u8 n42, AV.int .i64 n45, AV.int .i64 n48], Prod.snd c36))))) fun c49 => onSum c49 fun c50 => unc
 (Prod.fst c50) fun v51 l52 => asI .i64 v51 fun n53 => unc l52 fun v54 l55 => asI .u8 v54 fun n56 => unc l55 fun v57 l58 => asI .i64 v57 fun n59 => unc l58 fun v60 l61 => asI .i64 v60 fun n62 => un0 l61 (some (Sum.inl
 ([AV.int .i64 n53, AV.int .u8 n56, AV.int .i64 n59, AV.int .i64 n62], Prod.snd c50)))) (some (Sum.inr (0, [AV.int .u8 n11, AV.int .i64 n14], Prod.snd c5))))
noncomputable def g23 : AV → Option AV := fun x0 => asS x0 fun l0 => callS (orc vE) 42 [AV.str l0, AV.str [40, 42]] (St.mk 0 0 Tr.leaf) fun v1 st2 _x => asB v1 fun b4 => ifB (!b4) (some (AV.tup [AV.int .u8 0, AV.int
 .i64 0])) (bindO (loopO (g23_L1 l0) ([AV.int .i64 0, AV.int .u8 0, AV.int .i64 0, AV.int .i64 0], st2)) fun c63 => unc (Prod.fst (Prod.snd c63)) fun v64 l65 => asI .u8 v64 fun n66 => unc l65 fun v67 l68 => asI .i64 v67
 fun n69 => un0 l68 (sel2 (Prod.fst c63) (some (AV.tup [AV.int .u8 9, AV.int .i64 (↑(List.length l0) : Int)])) fun _x => some (AV.tup [AV.int .u8 n66, AV.int .i64 n69])))
theorem g23_eq (x0 : AV) : bareS vE 23 [x0] = g23 x0 := by kernel_rfl
/-- rostrum/lex.name -/
noncomputable def g24 : AV → Option AV := fun x0 => asS x0 fun l0 => chk (Nat.ble 1 (List.length l0)) (letV (List.drop 0 (List.take 1 l0)) fun l1 => callS (orc vE) 41 [AV.str l1, AV.str [97, 98, 99, 100, 101, 102, 103,
 104, 105, 106, 107, 108, 109, 110, 111, 112, 113, 114, 115, 116, 117, 118, 119, 120, 121, 122, 95]] (St.mk 0 0 Tr.leaf) fun v2 st3 _x => asI .i64 v2 fun n5 => ifB (n5 == 0) (some (AV.tup [AV.int .u8 0, AV.int .i64 0]))
 (callS (orc vE) 41 [AV.str l0, AV.str [97, 98, 99, 100, 101, 102, 103, 104, 105, 106, 107, 108, 109, 110, 111, 112, 113, 114, 115, 116, 117, 118, 119, 120, 121, 122, 95, 65, 66, 67, 68, 69, 70, 71, 72, 73, 74, 75, 76,
 77, 78, 79, 80, 81, 82, 83, 84, 85, 86, 87, 88, 89, 90, 39, 48, 49, 50, 51, 52, 53, 54, 55, 56, 57]] st3 fun v6 st7 _x => asI .i64 v6 fun n9 => callS (orc vE) 43 [] st7 fun v10 st11 x12 => chk (apart x12 (Fx.mk []
 Did.kept) && true) (chk (apart x12 (Fx.mk [] Did.kept) && true) (uptoS n9 (List.length l0) fun k13 => letV (List.drop 0 (List.take k13 l0)) fun l14 => chk (apart x12 (Fx.mk [] Did.kept) && true) (planS (orc vE) (lookupP
 (Env.T vE) 64 v10 (AV.str l14) true) st11 fun v15 _x _x_1 => unT v15 fun l18 => nthS l18 0 fun v19 => asI .u8 v19 fun n20 => unT v15 fun l21 => nthS l21 1 fun v22 => asB v22 fun b23 => ifB b23 (some (AV.tup [AV.int .u8
 n20, AV.int .i64 n9])) (some (AV.tup [AV.int .u8 4, AV.int .i64 n9])))))))
theorem g24_eq (x0 : AV) : bareS vE 24 [x0] = g24 x0 := by kernel_rfl
/-- rostrum/lex.number -/
noncomputable def g25 : AV → Option AV := fun x0 => asS x0 fun l0 => callS (orc vE) 41 [AV.str l0, AV.str [48, 49, 50, 51, 52, 53, 54, 55, 56, 57]] (St.mk 0 0 Tr.leaf) fun v1 st2 _x => asI .i64 v1 fun n4 => bindO (ifB
 (n4 == 0) (some ([AV.bool true], st2)) (uptoS n4 (List.length l0) fun k5 => letV (List.drop k5 (List.take (List.length l0) l0)) fun l6 => callS (orc vE) 42 [AV.str l6, AV.str [46]] st2 fun v7 st8 _x => asB v7 fun b10 =>
 some ([AV.bool !b10], st8))) fun c11 => unc (Prod.fst c11) fun v12 l13 => asB v12 fun b14 => un0 l13 (ifB b14 (some (AV.tup [AV.int .u8 5, AV.int .i64 n4])) (letV (IntKind.wrap .i64 (n4 + 1)) fun n15 => uptoS n15
 (List.length l0) fun k16 => letV (List.drop k16 (List.take (List.length l0) l0)) fun l17 => callS (orc vE) 41 [AV.str l17, AV.str [48, 49, 50, 51, 52, 53, 54, 55, 56, 57]] (Prod.snd c11) fun v18 st19 _x => asI .i64 v18
 fun n21 => letV (IntKind.wrap .i64 (n4 + n21)) fun n22 => letV (IntKind.wrap .i64 (n4 + 1)) fun n23 => letV (IntKind.wrap .i64 (n23 + n21)) fun n24 => letV (IntKind.wrap .i64 (n24 + 1)) fun n25 => letV (if
 (↑(List.length l0) : Int) < n25 then (↑(List.length l0) : Int) else n25) fun n26 => uptoS n26 (List.length l0) fun k27 => uptoS n24 k27 fun k28 => letV (List.drop k28 (List.take k27 l0)) fun l29 => callS (orc vE) 41
 [AV.str l29, AV.str [101, 69]] st19 fun v30 st31 _x => asI .i64 v30 fun n33 => bindO (ifB (decide (n33 > 0)) (letV (IntKind.wrap .i64 (n24 + 1)) fun n34 => letV (IntKind.wrap .i64 (n24 + 2)) fun n35 => letV (if
 (↑(List.length l0) : Int) < n35 then (↑(List.length l0) : Int) else n35) fun n36 => uptoS n36 (List.length l0) fun k37 => uptoS n34 k37 fun k38 => letV (List.drop k38 (List.take k37 l0)) fun l39 => callS (orc vE) 41
 [AV.str l39, AV.str [43, 45]] st31 fun v40 st41 _x => asI .i64 v40 fun n43 => letV (IntKind.wrap .i64 (n24 + 1)) fun n44 => letV (IntKind.wrap .i64 (n44 + n43)) fun n45 => uptoS n45 (List.length l0) fun k46 => letV
 (List.drop k46 (List.take (List.length l0) l0)) fun l47 => callS (orc vE) 41 [AV.str l47, AV.str [48, 49, 50, 51, 52, 53, 54, 55, 56, 57]] st41 fun v48 st49 _x => asI .i64 v48 fun n51 => bindO (ifB (decide (n51 > 0))
 (letV (IntKind.wrap .i64 (n24 + 1)) fun n52 => letV (IntKind.wrap .i64 (n24 + 1)) fun n53 => letV (IntKind.wrap .i64 (n53 + n43)) fun n54 => letV (IntKind.wrap .i64 (n54 + n51)) fun n55 => uptoS n55 (List.length l0) fun
 k56 => uptoS n52 k56 fun k57 => letV (List.drop k57 (List.take k56 l0)) fun l58 => callS (orc vE) 45 [AV.str l58, AV.str [43]] st49 fun v59 st60 _x => asS v59 fun l62 => planS (orc vE) (primP (Prim.lib (libAtoi 99))
 [AV.str l62]) st60 fun v63 st64 _x => unT v63 fun l66 => nthS l66 0 fun v67 => asI .i64 v67 fun n68 => unT v63 fun l69 => nthS l69 1 fun v70 => bindO (nifS BinOp.neq v70) fun v71 => asB v71 fun b72 => bindO (ifB b72
 (some ([AV.int .i64 1073741824], st64)) (some ([AV.int .i64 n68], st64))) fun c73 => unc (Prod.fst c73) fun v74 l75 => asI .i64 v74 fun n76 => un0 l75 (letV (IntKind.wrap .i64 (n24 + 1)) fun n77 => letV (IntKind.wrap
 .i64 (n77 + n43)) fun n78 => letV (IntKind.wrap .i64 (n78 + n51)) fun n79 => some ([AV.int .i64 n79, AV.int .i64 n76], Prod.snd c73))) (some ([AV.int .i64 n24, AV.int .i64 0], st49))) fun c80 => unc (Prod.fst c80) fun
 v81 l82 => asI .i64 v81 fun n83 => unc l82 fun v84 l85 => asI .i64 v84 fun n86 => un0 l85 (some ([AV.int .i64 n83, AV.int .i64 n86], Prod.snd c80))) (some ([AV.int .i64 n24, AV.int .i64 0], st31))) fun c87 => unc
 (Prod.fst c87) fun v88 l89 => asI .i64 v88 fun n90 => unc l89 fun v91 l92 => asI .i64 v91 fun n93 => un0 l92 (bindO (ifB (decide (n22 > 15)) (some ([AV.bool true], Prod.snd c87)) (letV (IntKind.wrap .i64 (n93 - n21))
 fun n94 => ifB (decide (n94 < -22)) (some ([AV.bool true], Prod.snd c87)) (letV (IntKind.wrap .i64 (n93 - n21)) fun n95 => some ([AV.bool (decide (n95 > 22))], Prod.snd c87)))) fun c96 => unc (Prod.fst c96) fun v97 l98
 => asB v97 fun b99 => un0 l98 (ifB b99 (some (AV.tup [AV.int .u8 9, AV.int .i64 n90])) (some (AV.tup [AV.int .u8 6, AV.int .i64 n90]))))))
theorem g25_eq (x0 : AV) : bareS vE 25 [x0] = g25 x0 := by kernel_rfl
/-- rostrum/lex.text -/
noncomputable def g26_L1 (l11 : List UInt8) : Car → Option (Car ⊕ Nat × Car) := fun c12 => unc (Prod.fst c12) fun v13 l14 => asI .u8 v13 fun n15 => unc l14 fun v16 l17 => asI .i64 v16 fun n18 => unc l17 fun v19 l20 =>
 asI .i64 v19 fun n21 => un0 l20 (ifB (decide (n21 < (↑(List.length l11) : Int))) (bindO (idxStr l11 n21 fun c22 => ifB ((↑(UInt8.toNat c22) : Int) == 34) (letV (IntKind.wrap .i64 (n21 + 1)) fun n23 => some (Sum.inr
 (Sum.inr (1, [AV.int .u8 7, AV.int .i64 n23], Prod.snd c12)))) (ifB ((↑(UInt8.toNat c22) : Int) == 92) (bindO (letV (IntKind.wrap .i64 (n21 + 1)) fun n24 => ifB (decide (n24 < (↑(List.length l11) : Int))) (letV
 (IntKind.wrap .i64 (n21 + 1)) fun n25 => idxStr l11 n25 fun c26 => callS (orc vE) 46 [AV.str [110, 116, 92, 34], AV.int .u8 (↑(UInt8.toNat c26) : Int)] (Prod.snd c12) fun v27 st28 _x => asI .i64 v27 fun n30 => some
 ([AV.bool (decide (n30 ≥ 0))], st28)) (some ([AV.bool false], Prod.snd c12))) fun c31 => unc (Prod.fst c31) fun v32 l33 => asB v32 fun b34 => un0 l33 (ifB b34 (letV (IntKind.wrap .i64 (n21 + 1)) fun n35 => some (Sum.inl
 ([AV.int .i64 n35, AV.int .u8 n15, AV.int .i64 n18], Prod.snd c31))) (uptoS n21 (List.length l11) fun k36 => letV (List.drop k36 (List.take (List.length l11) l11)) fun l37 => callS (orc vE) 46 [AV.str l37, AV.int .u8
 34] (Prod.snd c31) fun v38 st39 _x => asI .i64 v38 fun n41 => ifB (decide (n41 ≥ 0)) (letV (IntKind.wrap .i64 (n21 + n41)) fun n42 => letV (IntKind.wrap .i64 (n42 + 1)) fun n43 => some (Sum.inr (Sum.inr (1, [AV.int .u8
 9, AV.int .i64 n43], st39)))) (some (Sum.inr (Sum.inr (1, [AV.int .u8 9, AV.int .i64 (↑(List.length l11) : Int)], st39))))))) (some (Sum.inl ([AV.int .i64 n21, AV.int .u8 n15, AV.int .i64 n18], Prod.snd c12))))) fun c44
 => onSum c44 fun c45 => unc (Prod.fst c45) fun v46 l47 => asI .i64 v46 fun n48 => unc l47 fun v49 l50 => asI .u8 v49 fun n51 => unc l50 fun v52 l53 => asI .i64 v52 fun n54 => un0 l53 (letV (IntKind.wrap .i64 (n48 + 1))
 fun n55 => some (Sum.inl ([AV.int .u8 n51, AV.int .i64 n54, AV.int .i64 n55], Prod.snd c45)))) (some (Sum.inr (0, [AV.int .u8 n15, AV.int .i64 n18], Prod.snd c12))))
noncomputable def g26 : AV → Option AV := fun x0 => asS x0 fun l0 => idxStr l0 0 fun c1 => ifB ((↑(UInt8.toNat c1) : Int) != 34) (some (AV.tup [AV.int .u8 0, AV.int .i64 0])) (callS (orc vE) 46 [AV.str l0, AV.int .u8
 10] (St.mk 0 0 Tr.leaf) fun v2 st3 _x => asI .i64 v2 fun n5 => bindO (ifB (decide (n5 ≥ 0)) (uptoS n5 (List.length l0) fun k6 => letV (List.drop 0 (List.take k6 l0)) fun l7 => some ([AV.str l7], st3)) (some ([AV.str
 l0], st3))) fun c8 => unc (Prod.fst c8) fun v9 l10 => asS v9 fun l11 => un0 l10 (bindO (loopO (g26_L1 l11) ([AV.int .u8 0, AV.int .i64 0, AV.int .i64 1], Prod.snd c8)) fun c56 => unc (Prod.fst (Prod.snd c56)) fun v57
 l58 => asI .u8 v57 fun n59 => unc l58 fun v60 l61 => asI .i64 v60 fun n62 => un0 l61 (sel2 (Prod.fst c56) (some (AV.tup [AV.int .u8 9, AV.int .i64 (↑(List.length l11) : Int)])) fun _x => some (AV.tup [AV.int .u8 n59,
 AV.int .i64 n62]))))
theorem g26_eq (x0 : AV) : bareS vE 26 [x0] = g26 x0 := by kernel_rfl
/-- rostrum/lex.sign -/
noncomputable def g27 : AV → Option AV := fun x0 => asS x0 fun l0 => bindO (ifB (decide ((↑(List.length l0) : Int) > 1)) (chk (Nat.ble 2 (List.length l0)) (letV (List.drop 0 (List.take 2 l0)) fun l1 => bindO (ifB (l1 ==
 [45, 62]) (some ([AV.bool (l1 == [45, 62])], St.mk 0 0 Tr.leaf)) (bindO (ifB (l1 == [58, 58]) (some ([AV.bool (l1 == [58, 58])], St.mk 0 0 Tr.leaf)) (bindO (ifB (l1 == [60, 62]) (some ([AV.bool (l1 == [60, 62])], St.mk
 0 0 Tr.leaf)) (bindO (ifB (l1 == [60, 61]) (some ([AV.bool (l1 == [60, 61])], St.mk 0 0 Tr.leaf)) (bindO (ifB (l1 == [62, 61]) (some ([AV.bool (l1 == [62, 61])], St.mk 0 0 Tr.leaf)) (bindO (ifB (l1 == [43, 46]) (some
 ([AV.bool (l1 == [43, 46])], St.mk 0 0 Tr.leaf)) (bindO (ifB (l1 == [45, 46]) (some ([AV.bool (l1 == [45, 46])], St.mk 0 0 Tr.leaf)) (bindO (ifB (l1 == [42, 46]) (some ([AV.bool (l1 == [42, 46])], St.mk 0 0 Tr.leaf))
 (bindO (ifB (l1 == [47, 46]) (some ([AV.bool (l1 == [47, 46])], St.mk 0 0 Tr.leaf)) (bindO (ifB (l1 == [38, 38]) (some ([AV.bool (l1 == [38, 38])], St.mk 0 0 Tr.leaf)) (some ([AV.bool (l1 == [124, 124])], St.mk 0 0
 Tr.leaf))) fun c2 => unc (Prod.fst c2) fun v3 l4 => asB v3 fun b5 => un0 l4 (some ([AV.bool b5], Prod.snd c2)))) fun c6 => unc (Prod.fst c6) fun v7 l8 => asB v7 fun b9 => un0 l8 (some ([AV.bool b9], Prod.snd c6)))) fun
 c10 => unc (Prod.fst c10) fun v11 l12 => asB v11 fun b13 => un0 l12 (some ([AV.bool b13], Prod.snd c10)))) fun c14 => unc (Prod.fst c14) fun v15 l16 => asB v15 fun b17 => un0 l16 (some ([AV.bool b17], Prod.snd c14))))
 fun c18 => unc (Prod.fst c18) fun v19 l20 => asB v19 fun b21 => un0 l20 (some ([AV.bool b21], Prod.snd c18)))) fun c22 => unc (Prod.fst c22) fun v23 l24 => asB v23 fun b25 => un0 l24 (some ([AV.bool b25], Prod.snd
 c22)))) fun c26 => unc (Prod.fst c26) fun v27 l28 => asB v27 fun b29 => un0 l28 (some ([AV.bool b29], Prod.snd c26)))) fun c30 => unc (Prod.fst c30) fun v31 l32 => asB v31 fun b33 => un0 l32 (some ([AV.bool b33],
 Prod.snd c30)))) fun c34 => unc (Prod.fst c34) fun v35 l36 => asB v35 fun b37 => un0 l36 (some ([AV.bool b37], Prod.snd c34)))) fun c38 => unc (Prod.fst c38) fun v39 l40 => asB v39 fun b41 => un0 l40 (ifB b41 (some
 (Sum.inr (AV.tup [AV.int .u8 8, AV.int .i64 2]))) (some (Sum.inl ([AV.int .u8 0, AV.int .i64 0], Prod.snd c38)))))) (some (Sum.inl ([AV.int .u8 0, AV.int .i64 0], St.mk 0 0 Tr.leaf)))) fun c42 => onSum c42 fun c43 =>
 unc (Prod.fst c43) fun v44 l45 => asI .u8 v44 fun _x => unc l45 fun v47 l48 => asI .i64 v47 fun _x => un0 l48 (chk (Nat.ble 1 (List.length l0)) (letV (List.drop 0 (List.take 1 l0)) fun l50 => callS (orc vE) 41 [AV.str
 l50, AV.str [40, 41, 91, 93, 44, 59, 124, 61, 60, 62, 43, 45, 42, 47, 94, 64]] (Prod.snd c43) fun v51 _x _x_1 => asI .i64 v51 fun n54 => letV (if n54 < 1 then n54 else 1) fun n55 => some (AV.tup [AV.int .u8 8, AV.int
 .i64 n55])))
theorem g27_eq (x0 : AV) : bareS vE 27 [x0] = g27 x0 := by kernel_rfl
/-- rostrum/lex.bad -/
noncomputable def g28 : AV → Option AV := fun x0 => asS x0 fun l0 => callS (orc vE) 47 [AV.str l0] (St.mk 0 0 Tr.leaf) fun v1 _x _x_1 => unT v1 fun l4 => nthS l4 0 fun v5 => asI .i64 v5 fun _x => unT v1 fun l7 => nthS
 l7 1 fun v8 => asI .i64 v8 fun n9 => some (AV.tup [AV.int .u8 9, AV.int .i64 n9])
theorem g28_eq (x0 : AV) : bareS vE 28 [x0] = g28 x0 := by kernel_rfl
/-- rostrum/rostrumref01.Rune -/
noncomputable def g29_L1 (l0 : List UInt8) : Car → Option (Car ⊕ Nat × Car) := fun c1 => unc (Prod.fst c1) fun v2 l3 => asI .i64 v2 fun n4 => unc l3 fun v5 l6 => asI .i64 v5 fun n7 => unc l6 fun v8 l9 => asI .i64 v8 fun
 n10 => un0 l9 (bindO (ifB (decide (n10 ≤ 4)) (some ([AV.bool (decide (n10 ≤ (↑(List.length l0) : Int)))], Prod.snd c1)) (some ([AV.bool false], Prod.snd c1))) fun c11 => unc (Prod.fst c11) fun v12 l13 => asB v12 fun b14
 => un0 l13 (ifB b14 (uptoS n10 (List.length l0) fun k15 => letV (List.drop 0 (List.take k15 l0)) fun l16 => callS (orc vE) 48 [AV.str l16] (Prod.snd c11) fun v17 st18 _x => asI .i64 v17 fun n20 => bindO (ifB (decide
 (n20 ≥ 0)) (callS (orc vE) 49 [AV.int .i64 n20] st18 fun v21 st22 x23 => asS v21 fun l24 => chk (apart x23 (Fx.mk [] Did.kept) && true) (chk (apart x23 (Fx.mk [] Did.kept) && true) (uptoS n10 (List.length l0) fun k25 =>
 letV (List.drop 0 (List.take k25 l0)) fun l26 => chk (apart x23 (Fx.mk [] Did.kept) && true) (some ([AV.bool (l24 == l26)], st22))))) (some ([AV.bool false], st18))) fun c27 => unc (Prod.fst c27) fun v28 l29 => asB v28
 fun b30 => un0 l29 (ifB b30 (some (Sum.inr (1, [AV.int .i64 n20, AV.int .i64 n10], Prod.snd c27))) (letV (IntKind.wrap .i64 (n10 + 1)) fun n31 => some (Sum.inl ([AV.int .i64 n4, AV.int .i64 n7, AV.int .i64 n31],
 Prod.snd c27))))) (some (Sum.inr (0, [AV.int .i64 n4, AV.int .i64 n7], Prod.snd c11)))))
noncomputable def g29 : AV → Option AV := fun x0 => asS x0 fun l0 => ifB (l0 == []) (some (AV.tup [AV.int .i64 (-1), AV.int .i64 0])) (bindO (loopO (g29_L1 l0) ([AV.int .i64 0, AV.int .i64 0, AV.int .i64 1], St.mk 0 0
 Tr.leaf)) fun c32 => unc (Prod.fst (Prod.snd c32)) fun v33 l34 => asI .i64 v33 fun n35 => unc l34 fun v36 l37 => asI .i64 v36 fun n38 => un0 l37 (sel2 (Prod.fst c32) (some (AV.tup [AV.int .i64 (-1), AV.int .i64 1])) fun
 _x => some (AV.tup [AV.int .i64 n35, AV.int .i64 n38])))
theorem g29_eq (x0 : AV) : bareS vE 29 [x0] = g29 x0 := by kernel_rfl
/-- rostrum/rostrumref09.blank -/
noncomputable def g30 : AV → Option AV := fun x0 => asI .u8 x0 fun n0 => bindO (ifB (n0 == 32) (some ([AV.bool true], St.mk 0 0 Tr.leaf)) (ifB (n0 == 9) (some ([AV.bool true], St.mk 0 0 Tr.leaf)) (ifB (n0 == 10) (some
 ([AV.bool true], St.mk 0 0 Tr.leaf)) (some ([AV.bool (n0 == 13)], St.mk 0 0 Tr.leaf))))) fun c1 => unc (Prod.fst c1) fun v2 l3 => asB v2 fun b4 => un0 l3 (some (AV.bool b4))
theorem g30_eq (x0 : AV) : bareS vE 30 [x0] = g30 x0 := by kernel_rfl
/-- rostrum/rostrumref09.At -/
noncomputable def g31 : AV → AV → Option AV := fun x0 x1 => asS x0 fun l0 => asI .i64 x1 fun n1 => bindO (ifB (decide (n1 < 0)) (some ([AV.bool true], St.mk 0 0 Tr.leaf)) (some ([AV.bool (decide (n1 ≥ (↑(List.length l0)
 : Int)))], St.mk 0 0 Tr.leaf))) fun c2 => unc (Prod.fst c2) fun v3 l4 => asB v3 fun b5 => un0 l4 (ifB b5 (some (AV.int .u8 0)) (idxStr l0 n1 fun c6 => some (AV.int .u8 (↑(UInt8.toNat c6) : Int))))
theorem g31_eq (x0 x1 : AV) : bareS vE 31 [x0, x1] = g31 x0 x1 := by kernel_rfl
/-- rostrum/rostrumref09.has -/
noncomputable def g32 : AV → AV → AV → Option AV := fun x0 x1 x2 => asS x0 fun l0 => asI .i64 x1 fun n1 => asS x2 fun l2 => bindO (letV (IntKind.wrap .i64 (n1 + 2)) fun n3 => ifB (decide (n3 ≤ (↑(List.length l0) :
 Int))) (letV (IntKind.wrap .i64 (n1 + 2)) fun n4 => uptoS n4 (List.length l0) fun k5 => uptoS n1 k5 fun k6 => letV (List.drop k6 (List.take k5 l0)) fun l7 => some ([AV.bool (l7 == l2)], St.mk 0 0 Tr.leaf)) (some
 ([AV.bool false], St.mk 0 0 Tr.leaf))) fun c8 => unc (Prod.fst c8) fun v9 l10 => asB v9 fun b11 => un0 l10 (some (AV.bool b11))
theorem g32_eq (x0 x1 x2 : AV) : bareS vE 32 [x0, x1, x2] = g32 x0 x1 x2 := by kernel_rfl
/-- rostrum/rostrumref09.remark -/
noncomputable def g33_L1 (l0 : List UInt8) : Car → Option (Car ⊕ Nat × Car) := fun c1 => unc (Prod.fst c1) fun v2 l3 => asI .i64 v2 fun n4 => unc l3 fun v5 l6 => asI .i64 v5 fun n7 => unc l6 fun v8 l9 => asB v8 fun b10
 => unc l9 fun v11 l12 => asI .i64 v11 fun n13 => un0 l12 (ifB (decide (n13 < (↑(List.length l0) : Int))) (callS (orc vE) 32 [AV.str l0, AV.int .i64 n13, AV.str [40, 42]] (Prod.snd c1) fun v14 st15 _x => asB v14 fun b17
 => bindO (ifB b17 (letV (IntKind.wrap .i64 (n4 + 1)) fun n18 => letV (IntKind.wrap .i64 (n13 + 2)) fun n19 => some (Sum.inl ([AV.int .i64 n18, AV.int .i64 n7, AV.bool b10, AV.int .i64 n19], st15))) (callS (orc vE) 32
 [AV.str l0, AV.int .i64 n13, AV.str [42, 41]] st15 fun v20 st21 _x => asB v20 fun b23 => bindO (ifB b23 (letV (IntKind.wrap .i64 (n4 - 1)) fun n24 => letV (IntKind.wrap .i64 (n13 + 2)) fun n25 => ifB (n24 == 0) (some
 (Sum.inr (Sum.inr (Sum.inr (1, [AV.int .i64 n25, AV.bool true], st21))))) (some (Sum.inl ([AV.int .i64 n24, AV.int .i64 n7, AV.bool b10, AV.int .i64 n25], st21)))) (letV (IntKind.wrap .i64 (n13 + 1)) fun n26 => some
 (Sum.inl ([AV.int .i64 n4, AV.int .i64 n7, AV.bool b10, AV.int .i64 n26], st21)))) fun c27 => onSum c27 fun c28 => unc (Prod.fst c28) fun v29 l30 => asI .i64 v29 fun n31 => unc l30 fun v32 l33 => asI .i64 v32 fun n34 =>
 unc l33 fun v35 l36 => asB v35 fun b37 => unc l36 fun v38 l39 => asI .i64 v38 fun n40 => un0 l39 (some (Sum.inl ([AV.int .i64 n31, AV.int .i64 n34, AV.bool b37, AV.int .i64 n40], Prod.snd c28))))) fun c41 => onSum c41
 fun c42 => unc (Prod.fst c42) fun v43 l44 => asI .i64 v43 fun n45 => unc l44 fun v46 l47 => asI .i64 v46 fun n48 => unc l47 fun v49 l50 => asB v49 fun b51 => unc l50 fun v52 l53 => asI .i64 v52 fun n54 => un0 l53 (some
 (Sum.inl ([AV.int .i64 n45, AV.int .i64 n48, AV.bool b51, AV.int .i64 n54], Prod.snd c42)))) (some (Sum.inr (0, [AV.int .i64 n7, AV.bool b10], Prod.snd c1))))
noncomputable def g33 : AV → Option AV := fun x0 => asS x0 fun l0 => bindO (loopO (g33_L1 l0) ([AV.int .i64 1, AV.int .i64 0, AV.bool false, AV.int .i64 2], St.mk 0 0 Tr.leaf)) fun c55 => unc (Prod.fst (Prod.snd c55))
 fun v56 l57 => asI .i64 v56 fun n58 => unc l57 fun v59 l60 => asB v59 fun b61 => un0 l60 (sel2 (Prod.fst c55) (some (AV.tup [AV.int .i64 (↑(List.length l0) : Int), AV.bool false])) fun _x => some (AV.tup [AV.int .i64
 n58, AV.bool b61]))
theorem g33_eq (x0 : AV) : bareS vE 33 [x0] = g33 x0 := by kernel_rfl
/-- rostrum/rostrumref09.low -/
noncomputable def g34 : AV → Option AV := fun x0 => asI .u8 x0 fun n0 => bindO (ifB (decide (n0 ≥ 97)) (ifB (decide (n0 ≤ 122)) (some ([AV.bool true], St.mk 0 0 Tr.leaf)) (some ([AV.bool (n0 == 95)], St.mk 0 0
 Tr.leaf))) (some ([AV.bool (n0 == 95)], St.mk 0 0 Tr.leaf))) fun c1 => unc (Prod.fst c1) fun v2 l3 => asB v2 fun b4 => un0 l3 (some (AV.bool b4))
theorem g34_eq (x0 : AV) : bareS vE 34 [x0] = g34 x0 := by kernel_rfl
/-- rostrum/rostrumref09.behind -/
noncomputable def g35 : AV → Option AV := fun x0 => asI .u8 x0 fun n0 => bindO (callS (orc vE) 34 [AV.int .u8 n0] (St.mk 0 0 Tr.leaf) fun v1 st2 _x => asB v1 fun b4 => ifB b4 (some ([AV.bool true], st2)) (callS (orc vE)
 37 [AV.int .u8 n0] st2 fun v5 st6 _x => asB v5 fun b8 => ifB b8 (some ([AV.bool true], st6)) (ifB (decide (n0 ≥ 65)) (ifB (decide (n0 ≤ 90)) (some ([AV.bool true], st6)) (some ([AV.bool (n0 == 39)], st6))) (some
 ([AV.bool (n0 == 39)], st6))))) fun c9 => unc (Prod.fst c9) fun v10 l11 => asB v10 fun b12 => un0 l11 (some (AV.bool b12))
theorem g35_eq (x0 : AV) : bareS vE 35 [x0] = g35 x0 := by kernel_rfl
/-- rostrum/rostrumref09.Word -/
noncomputable def g36_L1 (l0 : List UInt8) : Car → Option (Car ⊕ Nat × Car) := fun c1 => unc (Prod.fst c1) fun v2 l3 => asB v2 fun b4 => unc l3 fun v5 l6 => asI .i64 v5 fun n7 => un0 l6 (ifB (decide (n7 < 12)) (idxA 1
 (AV.sl 1 [AV.str [108, 101, 116], AV.str [114, 101, 99], AV.str [105, 110], AV.str [102, 117, 110], AV.str [105, 102], AV.str [116, 104, 101, 110], AV.str [101, 108, 115, 101], AV.str [109, 97, 116, 99, 104], AV.str
 [119, 105, 116, 104], AV.str [116, 114, 117, 101], AV.str [102, 97, 108, 115, 101], AV.str [109, 111, 100]] Perm.shut) n7 (Prod.snd c1) fun v8 _x => loadS 1 false v8 (Prod.snd c1) fun v10 _x => asS v10 fun l12 => ifB
 (l12 == l0) (some (Sum.inr (1, [AV.bool true], Prod.snd c1))) (letV (IntKind.wrap .i64 (n7 + 1)) fun n13 => some (Sum.inl ([AV.bool b4, AV.int .i64 n13], Prod.snd c1)))) (some (Sum.inr (0, [AV.bool b4], Prod.snd c1))))
noncomputable def g36 : AV → Option AV := fun x0 => asS x0 fun l0 => bindO (loopO (g36_L1 l0) ([AV.bool false, AV.int .i64 0], St.mk 0 0 Tr.leaf)) fun c14 => unc (Prod.fst (Prod.snd c14)) fun v15 l16 => asB v15 fun b17
 => un0 l16 (sel2 (Prod.fst c14) (some (AV.bool false)) fun _x => some (AV.bool b17))
theorem g36_eq (x0 : AV) : bareS vE 36 [x0] = g36 x0 := by kernel_rfl
/-- rostrum/rostrumref09.digit -/
noncomputable def g37 : AV → Option AV := fun x0 => asI .u8 x0 fun n0 => bindO (ifB (decide (n0 ≥ 48)) (some ([AV.bool (decide (n0 ≤ 57))], St.mk 0 0 Tr.leaf)) (some ([AV.bool false], St.mk 0 0 Tr.leaf))) fun c1 => unc
 (Prod.fst c1) fun v2 l3 => asB v2 fun b4 => un0 l3 (some (AV.bool b4))
theorem g37_eq (x0 : AV) : bareS vE 37 [x0] = g37 x0 := by kernel_rfl
/-- rostrum/rostrumref09.number -/
noncomputable def g38_L1 (l0 : List UInt8) : Car → Option (Car ⊕ Nat × Car) := fun c1 => unc (Prod.fst c1) fun v2 l3 => asI .i64 v2 fun n4 => un0 l3 (callS (orc vE) 31 [AV.str l0, AV.int .i64 n4] (Prod.snd c1) fun v5
 st6 _x => asI .u8 v5 fun n8 => callS (orc vE) 37 [AV.int .u8 n8] st6 fun v9 st10 _x => asB v9 fun b12 => ifB b12 (letV (IntKind.wrap .i64 (n4 + 1)) fun n13 => some (Sum.inl ([AV.int .i64 n13], st10))) (some (Sum.inr (0,
 [AV.int .i64 n4], st10))))
noncomputable def g38_L2 (l0 : List UInt8) : Car → Option (Car ⊕ Nat × Car) := fun c23 => unc (Prod.fst c23) fun v24 l25 => asI .i64 v24 fun n26 => un0 l25 (callS (orc vE) 31 [AV.str l0, AV.int .i64 n26] (Prod.snd c23)
 fun v27 st28 _x => asI .u8 v27 fun n30 => callS (orc vE) 37 [AV.int .u8 n30] st28 fun v31 st32 _x => asB v31 fun b34 => ifB b34 (letV (IntKind.wrap .i64 (n26 + 1)) fun n35 => some (Sum.inl ([AV.int .i64 n35], st32)))
 (some (Sum.inr (0, [AV.int .i64 n26], st32))))
noncomputable def g38_L3 (l0 : List UInt8) : Car → Option (Car ⊕ Nat × Car) := fun c73 => unc (Prod.fst c73) fun v74 l75 => asI .i64 v74 fun n76 => unc l75 fun v77 l78 => asI .i64 v77 fun n79 => un0 l78 (callS (orc vE)
 31 [AV.str l0, AV.int .i64 n79] (Prod.snd c73) fun v80 st81 _x => asI .u8 v80 fun n83 => callS (orc vE) 37 [AV.int .u8 n83] st81 fun v84 st85 _x => asB v84 fun b87 => ifB b87 (letV (IntKind.wrap .i64 (n76 * 10)) fun n88
 => idxStr l0 n79 fun c89 => letV (IntKind.wrap .i64 (↑(UInt8.toNat c89) : Int)) fun n90 => letV (IntKind.wrap .i64 (n88 + n90)) fun n91 => letV (IntKind.wrap .i64 (n91 - 48)) fun n92 => letV (if 1000000 < n92 then
 1000000 else n92) fun n93 => letV (IntKind.wrap .i64 (n79 + 1)) fun n94 => some (Sum.inl ([AV.int .i64 n93, AV.int .i64 n94], st85))) (some (Sum.inr (0, [AV.int .i64 n76, AV.int .i64 n79], st85))))
noncomputable def g38 : AV → Option AV := fun x0 => asS x0 fun l0 => bindO (loopO (g38_L1 l0) ([AV.int .i64 0], St.mk 0 0 Tr.leaf)) fun c14 => unc (Prod.fst (Prod.snd c14)) fun v15 l16 => asI .i64 v15 fun n17 => un0 l16
 (callS (orc vE) 31 [AV.str l0, AV.int .i64 n17] (Prod.snd (Prod.snd c14)) fun v18 st19 _x => asI .u8 v18 fun n21 => ifB (n21 != 46) (some (AV.tup [AV.int .u8 5, AV.int .i64 n17])) (letV (IntKind.wrap .i64 (n17 + 1)) fun
 n22 => bindO (loopO (g38_L2 l0) ([AV.int .i64 n22], st19)) fun c36 => unc (Prod.fst (Prod.snd c36)) fun v37 l38 => asI .i64 v37 fun n39 => un0 l38 (letV (IntKind.wrap .i64 (n17 + 1)) fun n40 => letV (IntKind.wrap .i64
 (n40 - n39)) fun n41 => letV (IntKind.wrap .i64 (n39 - 1)) fun n42 => bindO (callS (orc vE) 31 [AV.str l0, AV.int .i64 n39] (Prod.snd (Prod.snd c36)) fun v43 st44 _x => asI .u8 v43 fun n46 => ifB (n46 == 101) (some
 ([AV.bool true], st44)) (callS (orc vE) 31 [AV.str l0, AV.int .i64 n39] st44 fun v47 st48 _x => asI .u8 v47 fun n50 => some ([AV.bool (n50 == 69)], st48))) fun c51 => unc (Prod.fst c51) fun v52 l53 => asB v52 fun b54 =>
 un0 l53 (bindO (ifB b54 (letV (IntKind.wrap .i64 (n39 + 1)) fun n55 => callS (orc vE) 31 [AV.str l0, AV.int .i64 n55] (Prod.snd c51) fun v56 st57 _x => asI .u8 v56 fun n59 => bindO (ifB (n59 == 45) (some ([AV.bool
 true], st57)) (callS (orc vE) 31 [AV.str l0, AV.int .i64 n55] st57 fun v60 st61 _x => asI .u8 v60 fun n63 => some ([AV.bool (n63 == 43)], st61))) fun c64 => unc (Prod.fst c64) fun v65 l66 => asB v65 fun b67 => un0 l66
 (bindO (ifB b67 (letV (IntKind.wrap .i64 (n55 + 1)) fun n68 => some ([AV.int .i64 n68], Prod.snd c64)) (some ([AV.int .i64 n55], Prod.snd c64))) fun c69 => unc (Prod.fst c69) fun v70 l71 => asI .i64 v70 fun n72 => un0
 l71 (bindO (loopO (g38_L3 l0) ([AV.int .i64 0, AV.int .i64 n72], Prod.snd c69)) fun c95 => unc (Prod.fst (Prod.snd c95)) fun v96 l97 => asI .i64 v96 fun n98 => unc l97 fun v99 l100 => asI .i64 v99 fun n101 => un0 l100
 (bindO (ifB (decide (n101 > n72)) (bindO (ifB (n59 == 45) (letV (IntKind.wrap .i64 (0 - n98)) fun n102 => some ([AV.int .i64 n102], Prod.snd (Prod.snd c95))) (some ([AV.int .i64 n98], Prod.snd (Prod.snd c95)))) fun c103
 => unc (Prod.fst c103) fun v104 l105 => asI .i64 v104 fun n106 => un0 l105 (letV (IntKind.wrap .i64 (n41 + n106)) fun n107 => some ([AV.int .i64 n101, AV.int .i64 n107], Prod.snd c103))) (some ([AV.int .i64 n39, AV.int
 .i64 n41], Prod.snd (Prod.snd c95)))) fun c108 => unc (Prod.fst c108) fun v109 l110 => asI .i64 v109 fun n111 => unc l110 fun v112 l113 => asI .i64 v112 fun n114 => un0 l113 (some ([AV.int .i64 n111, AV.int .i64 n114],
 Prod.snd c108)))))) (some ([AV.int .i64 n39, AV.int .i64 n41], Prod.snd c51))) fun c115 => unc (Prod.fst c115) fun v116 l117 => asI .i64 v116 fun n118 => unc l117 fun v119 l120 => asI .i64 v119 fun n121 => un0 l120
 (bindO (ifB (decide (n42 > 15)) (some ([AV.bool true], Prod.snd c115)) (ifB (decide (n121 < -22)) (some ([AV.bool true], Prod.snd c115)) (some ([AV.bool (decide (n121 > 22))], Prod.snd c115)))) fun c122 => unc (Prod.fst
 c122) fun v123 l124 => asB v123 fun b125 => un0 l124 (ifB b125 (some (AV.tup [AV.int .u8 9, AV.int .i64 n118])) (some (AV.tup [AV.int .u8 6, AV.int .i64 n118]))))))))
theorem g38_eq (x0 : AV) : bareS vE 38 [x0] = g38 x0 := by kernel_rfl
/-- rostrum/rostrumref09.text -/
noncomputable def g39_L1 (l0 : List UInt8) : Car → Option (Car ⊕ Nat × Car) := fun c1 => unc (Prod.fst c1) fun v2 l3 => asI .u8 v2 fun n4 => unc l3 fun v5 l6 => asI .i64 v5 fun n7 => unc l6 fun v8 l9 => asB v8 fun b10
 => unc l9 fun v11 l12 => asI .i64 v11 fun n13 => un0 l12 (bindO (ifB (decide (n13 < (↑(List.length l0) : Int))) (idxStr l0 n13 fun c14 => some ([AV.bool ((↑(UInt8.toNat c14) : Int) != 10)], Prod.snd c1)) (some ([AV.bool
 false], Prod.snd c1))) fun c15 => unc (Prod.fst c15) fun v16 l17 => asB v16 fun b18 => un0 l17 (ifB b18 (idxStr l0 n13 fun c19 => ifB ((↑(UInt8.toNat c19) : Int) == 34) (ifB b10 (letV (IntKind.wrap .i64 (n13 + 1)) fun
 n20 => some (Sum.inr (1, [AV.int .u8 9, AV.int .i64 n20, AV.int .i64 n13], Prod.snd c15))) (letV (IntKind.wrap .i64 (n13 + 1)) fun n21 => some (Sum.inr (1, [AV.int .u8 7, AV.int .i64 n21, AV.int .i64 n13], Prod.snd
 c15)))) (bindO (idxStr l0 n13 fun c22 => ifB ((↑(UInt8.toNat c22) : Int) == 92) (some ([AV.bool !b10], Prod.snd c15)) (some ([AV.bool false], Prod.snd c15))) fun c23 => unc (Prod.fst c23) fun v24 l25 => asB v24 fun b26
 => un0 l25 (bindO (ifB b26 (letV (IntKind.wrap .i64 (n13 + 1)) fun n27 => callS (orc vE) 31 [AV.str l0, AV.int .i64 n27] (Prod.snd c23) fun v28 st29 _x => asI .u8 v28 fun n31 => bindO (ifB (n31 == 110) (some ([AV.bool
 true], st29)) (ifB (n31 == 116) (some ([AV.bool true], st29)) (ifB (n31 == 92) (some ([AV.bool true], st29)) (some ([AV.bool (n31 == 34)], st29))))) fun c32 => unc (Prod.fst c32) fun v33 l34 => asB v33 fun b35 => un0
 l34 (bindO (ifB b35 (letV (IntKind.wrap .i64 (n13 + 1)) fun n36 => some ([AV.int .i64 n36, AV.bool b10], Prod.snd c32)) (some ([AV.int .i64 n13, AV.bool true], Prod.snd c32))) fun c37 => unc (Prod.fst c37) fun v38 l39
 => asI .i64 v38 fun n40 => unc l39 fun v41 l42 => asB v41 fun b43 => un0 l42 (some ([AV.int .i64 n40, AV.bool b43], Prod.snd c37)))) (some ([AV.int .i64 n13, AV.bool b10], Prod.snd c23))) fun c44 => unc (Prod.fst c44)
 fun v45 l46 => asI .i64 v45 fun n47 => unc l46 fun v48 l49 => asB v48 fun b50 => un0 l49 (letV (IntKind.wrap .i64 (n47 + 1)) fun n51 => some (Sum.inl ([AV.int .u8 n4, AV.int .i64 n7, AV.bool b50, AV.int .i64 n51],
 Prod.snd c44)))))) (some (Sum.inr (0, [AV.int .u8 n4, AV.int .i64 n7, AV.int .i64 n13], Prod.snd c15)))))
noncomputable def g39 : AV → Option AV := fun x0 => asS x0 fun l0 => bindO (loopO (g39_L1 l0) ([AV.int .u8 0, AV.int .i64 0, AV.bool false, AV.int .i64 1], St.mk 0 0 Tr.leaf)) fun c52 => unc (Prod.fst (Prod.snd c52))
 fun v53 l54 => asI .u8 v53 fun n55 => unc l54 fun v56 l57 => asI .i64 v56 fun n58 => unc l57 fun v59 l60 => asI .i64 v59 fun n61 => un0 l60 (sel2 (Prod.fst c52) (some (AV.tup [AV.int .u8 9, AV.int .i64 n61])) fun _x =>
 some (AV.tup [AV.int .u8 n55, AV.int .i64 n58]))
theorem g39_eq (x0 : AV) : bareS vE 39 [x0] = g39 x0 := by kernel_rfl
/-- rostrum/lex.run -/
noncomputable def g41 : AV → AV → Option AV := fun x0 x1 => asS x0 fun l0 => asS x1 fun l1 => planS (orc vE) (primP (Prim.lib libTrimLeft) [AV.str l0, AV.str l1]) (St.mk 0 0 Tr.leaf) fun v2 _x _x_1 => asS v2 fun l5 =>
 letV (IntKind.wrap .i64 ((↑(List.length l0) : Int) - (↑(List.length l5) : Int))) fun n6 => some (AV.int .i64 n6)
theorem g41_eq (x0 x1 : AV) : bareS vE 41 [x0, x1] = g41 x0 x1 := by kernel_rfl
/-- strings.HasPrefix -/
noncomputable def g42 : AV → AV → Option AV := fun x0 x1 => asS x0 fun l0 => asS x1 fun l1 => callS (orc vE) 52 [AV.str l0, AV.str l1] (St.mk 0 0 Tr.leaf) fun v2 _x _x_1 => asB v2 fun b5 => some (AV.bool b5)
theorem g42_eq (x0 x1 : AV) : bareS vE 42 [x0, x1] = g42 x0 x1 := by kernel_rfl
/-- strings.TrimPrefix -/
noncomputable def g45 : AV → AV → Option AV := fun x0 x1 => asS x0 fun l0 => asS x1 fun l1 => callS (orc vE) 56 [AV.str l0, AV.str l1] (St.mk 0 0 Tr.leaf) fun v2 _x _x_1 => asS v2 fun l5 => some (AV.str l5)
theorem g45_eq (x0 x1 : AV) : bareS vE 45 [x0, x1] = g45 x0 x1 := by kernel_rfl
/-- strings.IndexByte -/
noncomputable def g46 : AV → AV → Option AV := fun x0 x1 => asS x0 fun l0 => asI .u8 x1 fun n1 => callS (orc vE) 57 [AV.str l0, AV.int .u8 n1] (St.mk 0 0 Tr.leaf) fun v2 _x _x_1 => asI .i64 v2 fun n5 => some (AV.int
 .i64 n5)
theorem g46_eq (x0 x1 : AV) : bareS vE 46 [x0, x1] = g46 x0 x1 := by kernel_rfl
/-- rostrum/utf.Rune -/
noncomputable def g47 : AV → Option AV := fun x0 => asS x0 fun l0 => ifB (l0 == []) (some (AV.tup [AV.int .i64 (-1), AV.int .i64 0])) (planS (orc vE) (primP (Prim.lib libDecode) [AV.str l0]) (St.mk 0 0 Tr.leaf) fun v1
 st2 _x => unT v1 fun l4 => nthS l4 0 fun v5 => asI .i32 v5 fun n6 => unT v1 fun l7 => nthS l7 1 fun v8 => asI .i64 v8 fun n9 => bindO (ifB (n6 == 65533) (some ([AV.bool (decide (n9 < 2))], st2)) (some ([AV.bool false],
 st2))) fun c10 => unc (Prod.fst c10) fun v11 l12 => asB v11 fun b13 => un0 l12 (ifB b13 (some (AV.tup [AV.int .i64 (-1), AV.int .i64 1])) (letV (IntKind.wrap .i64 n6) fun n14 => some (AV.tup [AV.int .i64 n14, AV.int
 .i64 n9]))))
theorem g47_eq (x0 : AV) : bareS vE 47 [x0] = g47 x0 := by kernel_rfl
/-- rostrum/rostrumref01.bits -/
noncomputable def g48_L1 (l0 : List UInt8) : Car → Option (Car ⊕ Nat × Car) := fun c11 => unc (Prod.fst c11) fun v12 l13 => asI .i64 v12 fun n14 => unc l13 fun v15 l16 => asI .i64 v15 fun n17 => un0 l16 (ifB (decide
 (n17 < (↑(List.length l0) : Int))) (letV (IntKind.wrap .i64 (n14 * 64)) fun n18 => idxStr l0 n17 fun c19 => letV (IntKind.wrap .i64 (↑(UInt8.toNat c19) : Int)) fun n20 => letV (IntKind.wrap .i64 (n18 + n20)) fun n21 =>
 letV (IntKind.wrap .i64 (n21 - 128)) fun n22 => letV (IntKind.wrap .i64 (n17 + 1)) fun n23 => some (Sum.inl ([AV.int .i64 n22, AV.int .i64 n23], Prod.snd c11))) (some (Sum.inr (0, [AV.int .i64 n14], Prod.snd c11))))
noncomputable def g48 : AV → Option AV := fun x0 => asS x0 fun l0 => ifB ((↑(List.length l0) : Int) == 1) (idxStr l0 0 fun c1 => letV (IntKind.wrap .i64 (↑(UInt8.toNat c1) : Int)) fun n2 => some (AV.int .i64 n2))
 (idxStr l0 0 fun c3 => letV (IntKind.wrap .i64 (↑(UInt8.toNat c3) : Int)) fun n4 => idxA 1 (AV.sl 1 [AV.int .i64 0, AV.int .i64 0, AV.int .i64 192, AV.int .i64 224, AV.int .i64 240] Perm.shut) (↑(List.length l0) : Int)
 (St.mk 0 0 Tr.leaf) fun v5 _x => loadS 1 false v5 (St.mk 0 0 Tr.leaf) fun v7 _x => asI .i64 v7 fun n9 => letV (IntKind.wrap .i64 (n4 - n9)) fun n10 => bindO (loopO (g48_L1 l0) ([AV.int .i64 n10, AV.int .i64 1], St.mk 0
 0 Tr.leaf)) fun c24 => unc (Prod.fst (Prod.snd c24)) fun v25 l26 => asI .i64 v25 fun n27 => un0 l26 (some (AV.int .i64 n27)))
theorem g48_eq (x0 : AV) : bareS vE 48 [x0] = g48 x0 := by kernel_rfl
/-- rostrum/rostrumref01.Put -/
noncomputable def g49 : AV → Option AV := fun x0 => asI .i64 x0 fun n0 => bindO (ifB (decide (n0 < 0)) (some ([AV.bool true], St.mk 0 0 Tr.leaf)) (ifB (decide (n0 > 1114111)) (some ([AV.bool true], St.mk 0 0 Tr.leaf))
 (ifB (decide (n0 ≥ 55296)) (some ([AV.bool (decide (n0 ≤ 57343))], St.mk 0 0 Tr.leaf)) (some ([AV.bool false], St.mk 0 0 Tr.leaf))))) fun c1 => unc (Prod.fst c1) fun v2 l3 => asB v2 fun b4 => un0 l3 (ifB b4 (some
 (AV.str [])) (ifB (decide (n0 < 128)) (letV (IntKind.wrap .u8 n0) fun n5 => letV [UInt8.ofNat (Int.toNat n5)] fun l6 => some (AV.str l6)) (ifB (decide (n0 < 2048)) (letV (IntKind.wrap .i64 (Int.tdiv n0 64)) fun n7 =>
 letV (IntKind.wrap .i64 (192 + n7)) fun n8 => letV (IntKind.wrap .u8 n8) fun n9 => letV (Int.tmod n0 64) fun n10 => letV (IntKind.wrap .i64 (128 + n10)) fun n11 => letV (IntKind.wrap .u8 n11) fun n12 => letV
 [UInt8.ofNat (Int.toNat n9), UInt8.ofNat (Int.toNat n12)] fun l13 => some (AV.str l13)) (ifB (decide (n0 < 65536)) (letV (IntKind.wrap .i64 (Int.tdiv n0 4096)) fun n14 => letV (IntKind.wrap .i64 (224 + n14)) fun n15 =>
 letV (IntKind.wrap .u8 n15) fun n16 => letV (IntKind.wrap .i64 (Int.tdiv n0 64)) fun n17 => letV (Int.tmod n17 64) fun n18 => letV (IntKind.wrap .i64 (128 + n18)) fun n19 => letV (IntKind.wrap .u8 n19) fun n20 => letV
 (Int.tmod n0 64) fun n21 => letV (IntKind.wrap .i64 (128 + n21)) fun n22 => letV (IntKind.wrap .u8 n22) fun n23 => letV [UInt8.ofNat (Int.toNat n16), UInt8.ofNat (Int.toNat n20), UInt8.ofNat (Int.toNat n23)] fun l24 =>
 some (AV.str l24)) (letV (IntKind.wrap .i64 (Int.tdiv n0 262144)) fun n25 => letV (IntKind.wrap .i64 (240 + n25)) fun n26 => letV (IntKind.wrap .u8 n26) fun n27 => letV (IntKind.wrap .i64 (Int.tdiv n0 4096)) fun n28 =>
 letV (Int.tmod n28 64) fun n29 => letV (IntKind.wrap .i64 (128 + n29)) fun n30 => letV (IntKind.wrap .u8 n30) fun n31 => letV (IntKind.wrap .i64 (Int.tdiv n0 64)) fun n32 => letV (Int.tmod n32 64) fun n33 => letV
 (IntKind.wrap .i64 (128 + n33)) fun n34 => letV (IntKind.wrap .u8 n34) fun n35 => letV (Int.tmod n0 64) fun n36 => letV (IntKind.wrap .i64 (128 + n36)) fun n37 => letV (IntKind.wrap .u8 n37) fun n38 => letV [UInt8.ofNat
 (Int.toNat n27), UInt8.ofNat (Int.toNat n31), UInt8.ofNat (Int.toNat n35), UInt8.ofNat (Int.toNat n38)] fun l39 => some (AV.str l39))))))
theorem g49_eq (x0 : AV) : bareS vE 49 [x0] = g49 x0 := by kernel_rfl
/-- internal/stringslite.HasPrefix -/
noncomputable def g52 : AV → AV → Option AV := fun x0 x1 => asS x0 fun l0 => asS x1 fun l1 => bindO (ifB (decide ((↑(List.length l0) : Int) ≥ (↑(List.length l1) : Int))) (chk (Nat.ble (List.length l1) (List.length l0))
 (letV (List.drop 0 (List.take (List.length l1) l0)) fun l2 => some ([AV.bool (l2 == l1)], St.mk 0 0 Tr.leaf))) (some ([AV.bool false], St.mk 0 0 Tr.leaf))) fun c3 => unc (Prod.fst c3) fun v4 l5 => asB v4 fun b6 => un0
 l5 (some (AV.bool b6))
theorem g52_eq (x0 x1 : AV) : bareS vE 52 [x0, x1] = g52 x0 x1 := by kernel_rfl
/-- internal/stringslite.TrimPrefix -/
noncomputable def g56 : AV → AV → Option AV := fun x0 x1 => asS x0 fun l0 => asS x1 fun l1 => callS (orc vE) 52 [AV.str l0, AV.str l1] (St.mk 0 0 Tr.leaf) fun v2 _x _x_1 => asB v2 fun b5 => ifB b5 (chk (Nat.ble
 (List.length l1) (List.length l0)) (letV (List.drop (List.length l1) (List.take (List.length l0) l0)) fun l6 => some (AV.str l6))) (some (AV.str l0))
theorem g56_eq (x0 x1 : AV) : bareS vE 56 [x0, x1] = g56 x0 x1 := by kernel_rfl
/-- internal/stringslite.IndexByte -/
noncomputable def g57 : AV → AV → Option AV := fun x0 x1 => asS x0 fun l0 => asI .u8 x1 fun n1 => planS (orc vE) (primP Prim.indexByte [AV.str l0, AV.int .u8 n1]) (St.mk 0 0 Tr.leaf) fun v2 _x _x_1 => asI .i64 v2 fun n5
 => some (AV.int .i64 n5)
theorem g57_eq (x0 x1 : AV) : bareS vE 57 [x0, x1] = g57 x0 x1 := by kernel_rfl
/-- slices.Clone[[]rostrum/api.Token,rostrum/api.Token] -/
noncomputable def w19 : AV → St → Option (AV × St) := fun x0 st => nilS (U.slice 39) x0 AV.nils fun b0 => ifB b0 (some (AV.nils, st)) (elemsS x0 fun l1 => planS (orc vE) (msAppendP (TI.mk (U.struct [(0, 5), (1, 9)]) 2
 24 [AV.int .u8 0, AV.str []] true true) 39 (AV.sl 2 [] Perm.shut) l1) st fun v2 st3 _x => some (oneOf [v2], st3))
theorem w19_eq (x0 : AV) (st : St) : wideS vE 19 [x0] st = w19 x0 st := by kernel_rfl
/-- slices.Reverse[[]rostrum/api.Token,rostrum/api.Token] -/
noncomputable def w20_L1 (x0 : AV) : Car → Option (Car ⊕ Nat × Car) := fun c2 => unc (Prod.fst c2) fun v3 l4 => asI .i64 v3 fun n5 => unc l4 fun v6 l7 => asI .i64 v6 fun n8 => un0 l7 (ifB (decide (n5 < n8)) (idxA 2 x0
 n8 (Prod.snd c2) fun v9 _x => loadS 2 true v9 (Prod.snd c2) fun v11 _x => unA v11 fun l14 => unc l14 fun v15 l16 => asI .u8 v15 fun n17 => unc l16 fun v18 l19 => asS v18 fun l20 => un0 l19 (idxA 2 x0 n5 (Prod.snd c2)
 fun v21 _x => loadS 2 true v21 (Prod.snd c2) fun v23 _x => unA v23 fun l26 => unc l26 fun v27 l28 => asI .u8 v27 fun n29 => unc l28 fun v30 l31 => asS v30 fun l32 => un0 l31 (idxA 2 x0 n5 (Prod.snd c2) fun v33 _x =>
 storeS (orc vE) 2 v33 (AV.agg [AV.int .u8 n17, AV.str l20]) [AV.int .u8 n17, AV.str l20] (Prod.snd c2) fun _x st36 x37 => chk (apart (Fx.mk [] Did.kept) x37 && (apart (Fx.mk [] Did.kept) x37 && true)) (idxA 2 x0 n8 st36
 fun v38 _x => storeS (orc vE) 2 v38 (AV.agg [AV.int .u8 n29, AV.str l32]) [AV.int .u8 n29, AV.str l32] st36 fun _x st41 _x_1 => letV (IntKind.wrap .i64 (n5 + 1)) fun n43 => letV (IntKind.wrap .i64 (n8 - 1)) fun n44 =>
 some (Sum.inl ([AV.int .i64 n43, AV.int .i64 n44], st41)))))) (some (Sum.inr (0, [], Prod.snd c2))))
noncomputable def w20 : AV → St → Option (AV × St) := fun x0 st => lenS x0 fun k0 => letV (IntKind.wrap .i64 ((↑k0 : Int) - 1)) fun n1 => bindO (loopO (w20_L1 x0) ([AV.int .i64 0, AV.int .i64 n1], st)) fun c45 => un0
 (Prod.fst (Prod.snd c45)) (some (AV.tup [], Prod.snd (Prod.snd c45)))
theorem w20_eq (x0 : AV) (st : St) : wideS vE 20 [x0] st = w20 x0 st := by kernel_rfl
/-- slices.Reverse[[]rostrum/api.Token,rostrum/api.Token] -/
noncomputable def g20_L1 (x0 : AV) : Car → Option (Car ⊕ Nat × Car) := fun c2 => unc (Prod.fst c2) fun v3 l4 => asI .i64 v3 fun n5 => unc l4 fun v6 l7 => asI .i64 v6 fun n8 => un0 l7 (ifB (decide (n5 < n8)) (idxA 2 x0
 n8 (Prod.snd c2) fun v9 _x => loadS 2 true v9 (Prod.snd c2) fun v11 _x => unA v11 fun l14 => unc l14 fun v15 l16 => asI .u8 v15 fun n17 => unc l16 fun v18 l19 => asS v18 fun l20 => un0 l19 (idxA 2 x0 n5 (Prod.snd c2)
 fun v21 _x => loadS 2 true v21 (Prod.snd c2) fun v23 _x => unA v23 fun l26 => unc l26 fun v27 l28 => asI .u8 v27 fun n29 => unc l28 fun v30 l31 => asS v30 fun l32 => un0 l31 (idxA 2 x0 n5 (Prod.snd c2) fun v33 _x =>
 storeS (orc vE) 2 v33 (AV.agg [AV.int .u8 n17, AV.str l20]) [AV.int .u8 n17, AV.str l20] (Prod.snd c2) fun _x st36 x37 => chk (apart (Fx.mk [] Did.kept) x37 && (apart (Fx.mk [] Did.kept) x37 && true)) (idxA 2 x0 n8 st36
 fun v38 _x => storeS (orc vE) 2 v38 (AV.agg [AV.int .u8 n29, AV.str l32]) [AV.int .u8 n29, AV.str l32] st36 fun _x st41 _x_1 => letV (IntKind.wrap .i64 (n5 + 1)) fun n43 => letV (IntKind.wrap .i64 (n8 - 1)) fun n44 =>
 some (Sum.inl ([AV.int .i64 n43, AV.int .i64 n44], st41)))))) (some (Sum.inr (0, [], Prod.snd c2))))
noncomputable def g20 : AV → Option AV := fun x0 => lenS x0 fun k0 => letV (IntKind.wrap .i64 ((↑k0 : Int) - 1)) fun n1 => bindO (loopO (g20_L1 x0) ([AV.int .i64 0, AV.int .i64 n1], St.mk 0 0 Tr.leaf)) fun c45 => un0
 (Prod.fst (Prod.snd c45)) (some (AV.tup []))
theorem g20_eq (x0 : AV) : bareS vE 20 [x0] = g20 x0 := by kernel_rfl
end Go.Proofs.YtcghfoagjphaoaaGreatDoor.Vm
/- Tokens: the library's functions, and the program's ways to cut. -/
namespace Go.Proofs.YtcghfoagjphaoaaGreatDoor.Vm
open Go Go.VM Go.Proofs Go.Lex
theorem all_bytes {p : UInt8 → Bool} (h : ((List.range 256).all fun n => p (UInt8.ofNat n)) = true) (b : UInt8) : p b = true := by
  have := List.all_eq_true.1 h b.toNat (List.mem_range.2 (UInt8.toNat_lt b))
  simpa using this
theorem same_byte {p q : UInt8 → Bool} (h : ((List.range 256).all fun n => p (UInt8.ofNat n) == q (UInt8.ofNat n)) = true) : p = q := by
  funext b
  exact eq_of_beq (all_bytes (p := fun b => p b == q b) h b)
theorem run_ok {s c : List UInt8} {p : UInt8 → Bool} (hc : (c.length.blt 4294967281 && c.all (fun b => b.toNat.blt 128)) = true) (hp : (fun b => c.contains b) = p) (hs : s.length ≤ 1000000) :
    (orc vE).bare 41 [.str s, .str c] = some (.int .i64 (wh p s : Int)) := by
  refine bare_of rfl ((g41_eq _ _).trans ?_)
  have h1 : libTrimLeft [.str s, .str c] = .ok (.str (s.dropWhile p)) := by
    simp only [libTrimLeft, hc, Lib.trimLeftS]
    rw [← hp]
  have h2 := wh_len p s
  have h3 : IntKind.wrap .i64 ((s.length : Int) - ((s.dropWhile p).length : Int)) = (wh p s : Int) := by
    rw [wrapS (by omega) (by omega)]; congr 1; omega
  simp only [g41, asS_str, planS_lib h1, letV_eq, h3]
theorem call_run {β : Type} {s c : List UInt8} {p : UInt8 → Bool} (hc : (c.length.blt 4294967281 && c.all (fun b => b.toNat.blt 128)) = true) (hp : (fun b => c.contains b) = p) (hs : s.length ≤ 1000000) (st : St) (K : Kv β) :
    callS (orc vE) 41 [.str s, .str c] st K = K (.int .i64 (wh p s : Int)) st q0 := callS_bare st K rfl rfl rfl (run_ok hc hp hs)
theorem run_blank {β : Type} {s : List UInt8} (hs : s.length ≤ 1000000) (st : St) (K : Kv β) : callS (orc vE) 41 [.str s, .str [32, 9, 10, 13]] st K = K (.int .i64 (wh isBlank s : Int)) st q0 :=
  call_run rfl (same_byte (by decide +kernel)) hs st K
theorem run_low {β : Type} {s : List UInt8} (hs : s.length ≤ 1000000) (st : St) (K : Kv β) : callS (orc vE) 41 [.str s, .str [97, 98, 99, 100, 101, 102, 103, 104, 105, 106, 107, 108, 109, 110, 111, 112, 113, 114, 115, 116, 117, 118, 119, 120, 121, 122, 95]] st K = K (.int .i64 (wh isLow s : Int)) st q0 :=
  call_run (by decide +kernel) (same_byte (by decide +kernel)) hs st K
theorem run_dig {β : Type} {s : List UInt8} (hs : s.length ≤ 1000000) (st : St) (K : Kv β) : callS (orc vE) 41 [.str s, .str [48, 49, 50, 51, 52, 53, 54, 55, 56, 57]] st K = K (.int .i64 (wh isDig s : Int)) st q0 :=
  call_run rfl (same_byte (by decide +kernel)) hs st K
theorem run_beh {β : Type} {s : List UInt8} (hs : s.length ≤ 1000000) (st : St) (K : Kv β) : callS (orc vE) 41 [.str s, .str [97, 98, 99, 100, 101, 102, 103, 104, 105, 106, 107, 108, 109, 110, 111, 112, 113, 114, 115, 116, 117, 118, 119, 120, 121, 122, 95, 65, 66, 67, 68, 69, 70, 71, 72, 73, 74, 75, 76, 77, 78, 79, 80, 81, 82, 83, 84, 85, 86, 87, 88, 89, 90, 39, 48, 49, 50, 51, 52, 53, 54, 55, 56, 57]] st K = K (.int .i64 (wh isBeh s : Int)) st q0 :=
  call_run (by decide +kernel) (same_byte (by decide +kernel)) hs st K
def isE (c : UInt8) : Bool := c == 101 || c == 69
theorem run_e {β : Type} {s : List UInt8} (hs : s.length ≤ 1000000) (st : St) (K : Kv β) : callS (orc vE) 41 [.str s, .str [101, 69]] st K = K (.int .i64 (wh isE s : Int)) st q0 :=
  call_run rfl (same_byte (by decide +kernel)) hs st K
theorem run_sgn {β : Type} {s : List UInt8} (hs : s.length ≤ 1000000) (st : St) (K : Kv β) : callS (orc vE) 41 [.str s, .str [43, 45]] st K = K (.int .i64 (wh isSgn s : Int)) st q0 :=
  call_run rfl (same_byte (by decide +kernel)) hs st K
theorem run_one {β : Type} {s : List UInt8} (hs : s.length ≤ 1000000) (st : St) (K : Kv β) : callS (orc vE) 41 [.str s, .str [40, 41, 91, 93, 44, 59, 124, 61, 60, 62, 43, 45, 42, 47, 94, 64]] st K = K (.int .i64 (wh isOne s : Int)) st q0 :=
  call_run rfl (same_byte (by decide +kernel)) hs st K
theorem has_ok (s p : List UInt8) : (orc vE).bare 52 [.str s, .str p] = some (.bool (s.take p.length == p)) := by
  refine bare_of rfl ((g52_eq _ _).trans ?_)
  by_cases h : (s.length : Int) ≥ (p.length : Int)
  · simp only [g52, asS_str, ifB_decide, if_pos h, ble_of (show p.length ≤ s.length by omega), chk_true, List.drop_zero, letV_eq, bindO_ok, unc_cons, asB_bool, un0_nil]
  · have e : (s.take p.length == p) = false := by
      rw [beq_eq_false_iff_ne]
      intro e
      have := congrArg List.length e
      rw [List.length_take] at this
      omega
    simp only [g52, asS_str, ifB_decide, if_neg h, bindO_ok, unc_cons, asB_bool, un0_nil, e]
theorem prefix_ok (s p : List UInt8) : (orc vE).bare 42 [.str s, .str p] = some (.bool (s.take p.length == p)) := by
  refine bare_of rfl ((g42_eq _ _).trans ?_)
  have h : ∀ {β : Type} (st : St) (K : Kv β), callS (orc vE) 52 [.str s, .str p] st K = K (.bool (s.take p.length == p)) st q0 := fun st K => callS_bare st K rfl rfl rfl (has_ok s p)
  simp only [g42, asS_str, h, asB_bool]
theorem call_prefix {β : Type} (s p : List UInt8) (st : St) (K : Kv β) : callS (orc vE) 42 [.str s, .str p] st K = K (.bool (s.take p.length == p)) st q0 := callS_bare st K rfl rfl rfl (prefix_ok s p)
theorem trim_ok (s p : List UInt8) : (orc vE).bare 45 [.str s, .str p] = some (.str (if (s.take p.length == p) = true then s.drop p.length else s)) := by
  have h : ∀ {β : Type} (st : St) (K : Kv β), callS (orc vE) 52 [.str s, .str p] st K = K (.bool (s.take p.length == p)) st q0 := fun st K => callS_bare st K rfl rfl rfl (has_ok s p)
  have h2 : (orc vE).bare 56 [.str s, .str p] = some (.str (if (s.take p.length == p) = true then s.drop p.length else s)) := by
    refine bare_of rfl ((g56_eq _ _).trans ?_)
    simp only [g56, asS_str, h, asB_bool]
    cases e : s.take p.length == p with
    | true =>
      have hl : p.length ≤ s.length := by
        have := congrArg List.length (eq_of_beq e)
        rw [List.length_take] at this
        omega
      simp only [ifB_true, ble_of hl, chk_true, List.take_length, letV_eq, if_true]
    | false => rfl
  have h3 : ∀ {β : Type} (st : St) (K : Kv β), callS (orc vE) 56 [.str s, .str p] st K = K (.str (if (s.take p.length == p) = true then s.drop p.length else s)) st q0 := fun st K => callS_bare st K rfl rfl rfl h2
  refine bare_of rfl ((g45_eq _ _).trans ?_)
  simp only [g45, asS_str, h3]
theorem call_trim {β : Type} (s p : List UInt8) (st : St) (K : Kv β) : callS (orc vE) 45 [.str s, .str p] st K = K (.str (if (s.take p.length == p) = true then s.drop p.length else s)) st q0 := callS_bare st K rfl rfl rfl (trim_ok s p)
/-- Where a byte stands. -/
def idxB (s : List UInt8) (c : UInt8) : Int := match findByte c.toNat s with | some i => (i : Int) | none => -1
theorem index_ok (s : List UInt8) (c : UInt8) : (orc vE).bare 46 [.str s, .int .u8 (c.toNat : Int)] = some (.int .i64 (idxB s c)) := by
  have h : (orc vE).bare 57 [.str s, .int .u8 (c.toNat : Int)] = some (.int .i64 (idxB s c)) := by
    refine bare_of rfl ((g57_eq _ _).trans ?_)
    have e : ((c.toNat : Int).toNat % 256) = c.toNat := by
      have := UInt8.toNat_lt c
      omega
    simp only [g57, asS_str, asI_int, planS, outS, primP, planO, bindO_ok, e, idxB]
    rfl
  have h3 : ∀ {β : Type} (st : St) (K : Kv β), callS (orc vE) 57 [.str s, .int .u8 (c.toNat : Int)] st K = K (.int .i64 (idxB s c)) st q0 := fun st K => callS_bare st K rfl rfl rfl h
  refine bare_of rfl ((g46_eq _ _).trans ?_)
  simp only [g46, asS_str, asI_int, h3]
theorem call_index {β : Type} (s : List UInt8) (c : UInt8) (st : St) (K : Kv β) : callS (orc vE) 46 [.str s, .int .u8 (c.toNat : Int)] st K = K (.int .i64 (idxB s c)) st q0 := callS_bare st K rfl rfl rfl (index_ok s c)
/-- The keywords. -/
def wordsV : AV := .im ((.str [95], .int .u8 8) :: words.map fun w => (.str w, .int .u8 3))
def isWordsV : Res AV → Bool
  | .ok (.im [(.str w0, .int .u8 n0), (.str w1, .int .u8 n1), (.str w2, .int .u8 n2), (.str w3, .int .u8 n3), (.str w4, .int .u8 n4), (.str w5, .int .u8 n5), (.str w6, .int .u8 n6), (.str w7, .int .u8 n7), (.str w8, .int .u8 n8), (.str w9, .int .u8 n9), (.str w10, .int .u8 n10), (.str w11, .int .u8 n11), (.str w12, .int .u8 n12)]) =>
    ([w0, w1, w2, w3, w4, w5, w6, w7, w8, w9, w10, w11, w12] == [95] :: words) && ([n0, n1, n2, n3, n4, n5, n6, n7, n8, n9, n10, n11, n12] == 8 :: words.map fun _ => 3)
  | _ => false
theorem isWordsV_ok {r : Res AV} (h : isWordsV r = true) : r = .ok wordsV := by
  unfold isWordsV at h
  split at h
  · simp only [Bool.and_eq_true] at h
    have h1 := eq_of_beq h.1
    have h2 := eq_of_beq h.2
    simp only [words, List.map_cons, List.map_nil, List.cons.injEq, and_true] at h1 h2
    obtain ⟨rfl, rfl, rfl, rfl, rfl, rfl, rfl, rfl, rfl, rfl, rfl, rfl, rfl⟩ := h1
    obtain ⟨rfl, rfl, rfl, rfl, rfl, rfl, rfl, rfl, rfl, rfl, rfl, rfl, rfl⟩ := h2
    rfl
  · cases h
theorem words_ok : (orc vE).bare 43 [] = some wordsV := by
  have h : isWordsV ((caller vE 300).bare 43 []) = true := by kernel_rfl
  exact orc_bare (isWordsV_ok h)
theorem call_words {β : Type} (st : St) (K : Kv β) : callS (orc vE) 43 [] st K = K wordsV st q0 := callS_bare st K rfl rfl rfl words_ok
theorem find_words (w : List UInt8) : ∀ (l : List (List UInt8)), findEntry (.str w) (l.map fun w => (AV.str w, AV.int .u8 3)) = .ok (if l.contains w then some (.int .u8 3) else none)
  | [] => rfl
  | x :: l => by
    have ih := find_words w l
    simp only [List.map_cons, findEntry, keyEq, ok_bind, List.contains_cons]
    cases e : w == x with
    | true => rfl
    | false =>
      simp only [Bool.false_or]
      exact ih
theorem look_words {β : Type} (w : List UInt8) (st : St) (K : Kv β) : planS (orc vE) (lookupP (Env.T vE) 64 wordsV (.str w) true) st K =
    K (.tup [.int .u8 (if w = [95] then 8 else if words.contains w then 3 else 0 : Int), .bool (decide (w = [95]) || words.contains w)]) st q0 := by
  have e1 : ti (Env.T vE) 64 = .ok ⟨.map 9 5, 1, 8, [.nilm], false, false⟩ := rfl
  have e2 : ti (Env.T vE) 5 = .ok ⟨.int .u8, 1, 1, [.int .u8 0], false, false⟩ := rfl
  have e3 : ti (Env.T vE) 9 = .ok ⟨.str, 1, 16, [.str []], false, false⟩ := rfl
  have e4 : findEntry (.str w) ((.str [95], .int .u8 8) :: words.map fun w => (.str w, .int .u8 3)) = .ok (if w = [95] then some (.int .u8 8) else if words.contains w then some (.int .u8 3) else none) := by
    simp only [findEntry, keyEq, ok_bind]
    cases e : w == [95] with
    | true => rw [if_pos (eq_of_beq e)]; rfl
    | false => rw [if_neg (by simpa using e)]; exact find_words w words
  have e5 : lookupP (Env.T vE) 64 wordsV (.str w) true = .ok (.val (.tup [.int .u8 (if w = [95] then 8 else if words.contains w then 3 else 0 : Int), .bool (decide (w = [95]) || words.contains w)])) := by
    simp only [lookupP, e1, e2, e3, ok_bind, keyOk, wordsV, found, e4]
    by_cases h : w = [95]
    · simp [h]; rfl
    · cases h2 : words.contains w <;> simp [h] <;> rfl
  rw [e5]; rfl
theorem blank_ok {s : List UInt8} (hs : s.length ≤ 1000000) : (orc vE).bare 22 [.str s] = some (.tup [.int .u8 1, .int .i64 (wh isBlank s : Int)]) := by
  refine bare_of rfl ((g22_eq _).trans ?_)
  simp only [g22, asS_str, run_blank hs, asI_int]
theorem remark_loop (s : List UInt8) (hs : s.length ≤ 1000000) (st : St) : ∀ (l : List UInt8) (i d : Nat), s.drop i = l → i ≤ s.length → 1 ≤ d → d ≤ i →
    loopO (g23_L1 s) ([.int .i64 (d : Int), .int .u8 0, .int .i64 0, .int .i64 (i : Int)], st) = some (match rem l d with | some n => (1, [.int .u8 2, .int .i64 ((i + n : Nat) : Int)], st) | none => (0, [.int .u8 0, .int .i64 0], st))
  | [], i, d, hd, hi, h1, h2 => by
    have := List.drop_eq_nil_iff.1 hd
    have q : ¬ (i : Int) < (s.length : Int) := by omega
    refine loopO_inr ?_
    simp only [g23_L1, unc_cons, asI_int, un0_nil, ifB_decide, if_neg q]
    rfl
  | [a], i, d, hd, hi, h1, h2 => by
    obtain ⟨hg, hr, hlt⟩ := drop_cons hd
    have q : (i : Int) < (s.length : Int) := by omega
    have ih := remark_loop s hs st [] (i + 1) d hr (by omega) h1 (by omega)
    rw [loopO_inl (s' := ([.int .i64 (d : Int), .int .u8 0, .int .i64 0, .int .i64 ((i + 1 : Nat) : Int)], st)), ih]
    · rfl
    · simp only [g23_L1, unc_cons, asI_int, un0_nil, ifB_decide, if_pos q, uptoS_nat (show i ≤ s.length by omega), List.take_length, letV_eq, hd, call_prefix, asB_bool]
      simp only [show ([a].take [(40 : UInt8), 42].length == [40, 42]) = false by simp, show ([a].take [(42 : UInt8), 41].length == [42, 41]) = false by simp, ifB_false, bindO_ok, onSum_inl, unc_cons, asI_int, un0_nil, wrapA1 (show i + 1 ≤ 9223372036854775807 by omega)]
  | a :: b :: l, i, d, hd, hi, h1, h2 => by
    obtain ⟨hg, hr, hlt⟩ := drop_cons hd
    obtain ⟨hg2, hr2, hlt2⟩ := drop_cons hr
    have q : (i : Int) < (s.length : Int) := by omega
    have t1 : ((a :: b :: l).take [(40 : UInt8), 42].length == [40, 42]) = (decide (a = 40 ∧ b = 42)) := by
      show ([a, b] == [40, 42]) = _
      by_cases h : a = 40 ∧ b = 42
      · rw [h.1, h.2]; rfl
      · rw [decide_eq_false h, beq_eq_false_iff_ne]
        intro e
        simp only [List.cons.injEq, and_true] at e
        exact h e
    have t2 : ((a :: b :: l).take [(42 : UInt8), 41].length == [42, 41]) = (decide (a = 42 ∧ b = 41)) := by
      show ([a, b] == [42, 41]) = _
      by_cases h : a = 42 ∧ b = 41
      · rw [h.1, h.2]; rfl
      · rw [decide_eq_false h, beq_eq_false_iff_ne]
        intro e
        simp only [List.cons.injEq, and_true] at e
        exact h e
    by_cases c1 : a = 40 ∧ b = 42
    · have ih := remark_loop s hs st l (i + 2) (d + 1) hr2 (by omega) (by omega) (by omega)
      rw [loopO_inl (s' := ([.int .i64 ((d + 1 : Nat) : Int), .int .u8 0, .int .i64 0, .int .i64 ((i + 2 : Nat) : Int)], st)), ih]
      · simp only [rem, if_pos c1]
        cases rem l (d + 1) with
        | none => rfl
        | some n => simp only [Option.map_some]; rw [show i + 2 + n = i + (n + 2) by omega]
      · simp only [g23_L1, unc_cons, asI_int, un0_nil, ifB_decide, if_pos q, uptoS_nat (show i ≤ s.length by omega), List.take_length, letV_eq, hd, call_prefix, asB_bool, t1, if_pos c1, bindO_ok, onSum_inl, wrapA1 (show d + 1 ≤ 9223372036854775807 by omega), wrapA2 (show i + 2 ≤ 9223372036854775807 by omega)]
    · by_cases c2 : a = 42 ∧ b = 41
      · have w := wrapS (n := d) (m := 1) h1 (by omega)
        have w : IntKind.wrap .i64 ((d : Int) - 1) = ((d - 1 : Nat) : Int) := w
        by_cases c3 : d = 1
        · subst c3
          simp only [rem, if_neg c1, if_pos c2, if_true]
          refine loopO_inr ?_
          simp only [g23_L1, unc_cons, asI_int, un0_nil, ifB_decide, if_pos q, uptoS_nat (show i ≤ s.length by omega), List.take_length, letV_eq, hd, call_prefix, asB_bool, t1, t2, if_neg c1, if_pos c2, bindO_ok, w, wrapA2 (show i + 2 ≤ 9223372036854775807 by omega), ifB_beq]
          rfl
        · have ih := remark_loop s hs st l (i + 2) (d - 1) hr2 (by omega) (by omega) (by omega)
          have z : ¬ ((d - 1 : Nat) : Int) = 0 := by omega
          rw [loopO_inl (s' := ([.int .i64 ((d - 1 : Nat) : Int), .int .u8 0, .int .i64 0, .int .i64 ((i + 2 : Nat) : Int)], st)), ih]
          · simp only [rem, if_neg c1, if_pos c2, if_neg c3]
            cases rem l (d - 1) with
            | none => rfl
            | some n => simp only [Option.map_some]; rw [show i + 2 + n = i + (n + 2) by omega]
          · simp only [g23_L1, unc_cons, asI_int, un0_nil, ifB_decide, if_pos q, uptoS_nat (show i ≤ s.length by omega), List.take_length, letV_eq, hd, call_prefix, asB_bool, t1, t2, if_neg c1, if_pos c2, bindO_ok, w, wrapA2 (show i + 2 ≤ 9223372036854775807 by omega), ifB_beq, if_neg z, onSum_inl]
      · have ih := remark_loop s hs st (b :: l) (i + 1) d hr (by omega) h1 (by omega)
        rw [loopO_inl (s' := ([.int .i64 (d : Int), .int .u8 0, .int .i64 0, .int .i64 ((i + 1 : Nat) : Int)], st)), ih]
        · simp only [rem, if_neg c1, if_neg c2]
          cases rem (b :: l) d with
          | none => rfl
          | some n => simp only [Option.map_some]; rw [show i + 1 + n = i + (n + 1) by omega]
        · simp only [g23_L1, unc_cons, asI_int, un0_nil, ifB_decide, if_pos q, uptoS_nat (show i ≤ s.length by omega), List.take_length, letV_eq, hd, call_prefix, asB_bool, t1, t2, if_neg c1, if_neg c2, bindO_ok, onSum_inl, wrapA1 (show i + 1 ≤ 9223372036854775807 by omega)]
theorem remark_ok {s : List UInt8} (hs : s.length ≤ 1000000) : (orc vE).bare 23 [.str s] = some (if s.take 2 = [40, 42] then (match rem (s.drop 2) 1 with | some n => .tup [.int .u8 2, .int .i64 ((n + 2 : Nat) : Int)] | none => .tup [.int .u8 9, .int .i64 (s.length : Int)]) else .tup [.int .u8 0, .int .i64 0]) := by
  refine bare_of rfl ((g23_eq _).trans ?_)
  by_cases h : s.take 2 = [40, 42]
  · have h' : (s.take [(40 : UInt8), 42].length == [40, 42]) = true := by simpa using h
    have hl : 2 ≤ s.length := by
      have := congrArg List.length h
      rw [List.length_take] at this
      simp at this; omega
    have q : (0 : Int) < (s.length : Int) := by omega
    have e : loopO (g23_L1 s) ([.int .i64 0, .int .u8 0, .int .i64 0, .int .i64 0], St.mk 0 0 Tr.leaf) = some (match rem (s.drop 2) 1 with | some n => (1, [.int .u8 2, .int .i64 ((2 + n : Nat) : Int)], St.mk 0 0 Tr.leaf) | none => (0, [.int .u8 0, .int .i64 0], St.mk 0 0 Tr.leaf)) := by
      rw [loopO_inl (s' := ([.int .i64 ((1 : Nat) : Int), .int .u8 0, .int .i64 0, .int .i64 ((2 : Nat) : Int)], St.mk 0 0 Tr.leaf)), remark_loop s hs (St.mk 0 0 Tr.leaf) (s.drop 2) 2 1 rfl hl (by omega) (by omega)]
      simp only [g23_L1, unc_cons, asI_int, un0_nil, ifB_decide, if_pos q, show uptoS (0 : Int) s.length = uptoS ((0 : Nat) : Int) s.length from rfl, uptoS_nat (show 0 ≤ s.length by omega), List.take_length, List.drop_zero, letV_eq, call_prefix, asB_bool, h', ifB_true, bindO_ok, onSum_inl]
      rfl
    simp only [g23, asS_str, call_prefix, asB_bool, h', Bool.not_true, ifB_false, if_pos h]
    rw [e]
    cases rem (s.drop 2) 1 with
    | none => simp only [bindO_ok, unc_cons, asI_int, un0_nil, sel2_zero]
    | some n => simp only [bindO_ok, unc_cons, asI_int, un0_nil, sel2_one]; rw [Nat.add_comm 2 n]
  · have h' : (s.take [(40 : UInt8), 42].length == [40, 42]) = false := by simpa using h
    simp only [g23, asS_str, call_prefix, asB_bool, h', Bool.not_false, ifB_true, if_neg h]
theorem name_ok {c : UInt8} {l : List UInt8} (hs : (c :: l).length ≤ 1000000) : (orc vE).bare 24 [.str (c :: l)] = some (if isLow c then .tup [.int .u8 (nameK ((c :: l).takeWhile isBeh) : Int), .int .i64 (wh isBeh (c :: l) : Int)] else .tup [.int .u8 0, .int .i64 0]) := by
  refine bare_of rfl ((g24_eq _).trans ?_)
  have h1 : (List.drop 0 (List.take 1 (c :: l))) = [c] := rfl
  have h2 : wh isLow [c] = if isLow c then 1 else 0 := by rw [wh_cons]; rfl
  simp only [g24, asS_str, ble_of (show 1 ≤ (c :: l).length by simp), chk_true, letV_eq, h1, run_low (show [c].length ≤ 1000000 by simp), asI_int, ifB_beq, h2]
  cases hc : isLow c with
  | false => rfl
  | true =>
    simp only [if_true, show ¬ (((1 : Nat) : Int) = 0) by omega, if_false, run_beh hs, asI_int, call_words, apart_kept, apart_kept2, Bool.and_self, chk_true, uptoS_nat (wh_le isBeh (c :: l)), List.drop_zero, letV_eq, wh_take, look_words, unT_tup, nthS_zero, nthS_one, asB_bool]
    generalize (c :: l).takeWhile isBeh = w
    unfold nameK
    by_cases e1 : w = [95]
    · simp [e1]
    · cases e2 : words.contains w <;> simp [e1] <;> rfl
end Go.Proofs.YtcghfoagjphaoaaGreatDoor.Vm
/- Tokens: numbers, by the program. -/
namespace Go.Proofs.YtcghfoagjphaoaaGreatDoor.Vm
open Go Go.VM Go.Proofs Go.Lex
theorem numV_ge : ∀ (l : List UInt8) (a : Nat), a ≤ numV a l
  | [], a => by rw [numV_nil]; exact Nat.le_refl _
  | c :: l, a => by
    have := numV_ge l (stepV a c)
    rw [numV_cons]
    unfold stepV at this ⊢
    omega
theorem parse_digs : ∀ (l : List UInt8) (a : Nat), l.all isDig = true → a < 18446744073709551616 → Lib.parseUint10 a l = if numV a l < 18446744073709551616 then .ok (numV a l) else .range
  | [], a, _, ha => by rw [numV_nil, if_pos ha, Lib.parseUint10]
  | c :: l, a, h, ha => by
    simp only [List.all_cons, Bool.and_eq_true] at h
    have hc : 48 ≤ c.toNat ∧ c.toNat ≤ 57 := by
      have := h.1
      simp only [isDig, Bool.and_eq_true, decide_eq_true_eq] at this
      exact this
    have hg := numV_ge l (stepV a c)
    have hs : a * 10 + (c.toNat - 48) = stepV a c := id rfl
    have hs2 : a * 10 ≤ stepV a c := by rw [← hs]; omega
    rw [Lib.parseUint10, if_pos hc, numV_cons, hs]
    by_cases c1 : 1844674407370955162 ≤ a
    · rw [if_pos c1, if_neg (by omega)]
    · rw [if_neg c1]
      by_cases c2 : 18446744073709551616 ≤ stepV a c
      · rw [if_pos c2, if_neg (by omega)]
      · rw [if_neg c2]
        exact parse_digs l _ h.2 (by omega)
/-- What Atoi makes of digits behind a sign. -/
theorem atoi_plain {l : List UInt8} (hne : l ≠ []) (h : l.all isDig = true) : Lib.atoiAll l = if numV 0 l < 9223372036854775808 then .ok (numV 0 l : Int) else .range := by
  cases l with
  | nil => exact absurd rfl hne
  | cons c r =>
    have hc : 48 ≤ c.toNat ∧ c.toNat ≤ 57 := by
      simp only [List.all_cons, Bool.and_eq_true] at h
      have := h.1
      simp only [isDig, Bool.and_eq_true, decide_eq_true_eq] at this
      exact this
    have n1 : ¬ (c.toNat = 43 ∨ c.toNat = 45) := by omega
    have n2 : ¬ c.toNat = 45 := by omega
    have hp := parse_digs (c :: r) 0 h (by omega)
    simp only [Lib.atoiAll, if_neg n1, Lib.parseMag, if_neg hne, hp]
    by_cases c1 : numV 0 (c :: r) < 18446744073709551616
    · rw [if_pos c1]
      dsimp only
      by_cases c2 : numV 0 (c :: r) < 9223372036854775808
      · rw [if_pos c2, if_neg (by omega), if_neg (by omega), if_neg n2]
      · rw [if_neg c2, if_pos (by omega)]
    · rw [if_neg c1, if_neg (by omega)]
theorem atoi_minus {l : List UInt8} (hne : l ≠ []) (h : l.all isDig = true) : Lib.atoiAll (45 :: l) = if numV 0 l ≤ 9223372036854775808 then .ok (-(numV 0 l : Int)) else .range := by
  have e : (45 : UInt8).toNat = 45 := rfl
  have hp := parse_digs l 0 h (by omega)
  simp only [Lib.atoiAll, e, or_true, if_true, Lib.parseMag, if_neg hne, hp]
  by_cases c1 : numV 0 l < 18446744073709551616
  · rw [if_pos c1]
    dsimp only
    by_cases c2 : numV 0 l ≤ 9223372036854775808
    · rw [if_pos c2, if_neg (by simp), if_neg (by omega)]
    · rw [if_neg c2, if_neg (by simp), if_pos ⟨trivial, by omega⟩]
  · rw [if_neg c1, if_neg (by omega)]
theorem takeWhile_all (p : UInt8 → Bool) (l : List UInt8) : (l.takeWhile p).all p = true := by
  induction l with
  | nil => rfl
  | cons c l ih =>
    rw [List.takeWhile_cons]
    split
    · rename_i h; simp [h, ih]
    · rfl
/-- Is a Float's power out of range? -/
def farP (k : Nat) (x : Int) : Bool := decide (x - k < -22) || decide (x - k > 22)
theorem wrap_low {n : Int} (h1 : n < -9223372036854775808) (h2 : -18446744073709551616 ≤ n) : IntKind.wrap .i64 n = n + 18446744073709551616 := by
  have e : IntKind.wrap .i64 n = if n % 18446744073709551616 ≥ 9223372036854775808 then n % 18446744073709551616 - 18446744073709551616 else n % 18446744073709551616 := by
    show (if (true && decide (n % (2 ^ 64 : Int) ≥ (2 ^ 63 : Int))) = true then n % (2 ^ 64 : Int) - (2 ^ 64 : Int) else n % (2 ^ 64 : Int)) = _
    simp
  rw [e]
  split <;> omega
/-- What the program makes of an exponent's digits: near its value, or as far. -/
structure Near (k v : Nat) (neg : Bool) (x : Int) : Prop where
  lo : -9223372036854775808 ≤ x
  hi : x ≤ 9223372036854775807
  eq : v ≤ 1000000 → x = if neg then -(v : Int) else v
  far : 1000000 < v → 1000000 < x ∨ x < -1000000
theorem near_far {k v : Nat} {neg : Bool} {x : Int} (h : Near k v neg x) (hk : k ≤ 500000) :
    (decide (IntKind.wrap .i64 (x - k) < -22) || decide (IntKind.wrap .i64 (x - k) > 22)) = farP k (if neg then -((min v 1000000 : Nat) : Int) else ((min v 1000000 : Nat) : Int)) := by
  obtain ⟨h1, h2, h3, h4⟩ := h
  have hw : (IntKind.wrap .i64 (x - k) = x - k) ∨ (x - k < -9223372036854775808 ∧ IntKind.wrap .i64 (x - k) = x - k + 18446744073709551616) := by
    by_cases c : -9223372036854775808 ≤ x - k
    · exact .inl (wrap_i64 c (by omega))
    · exact .inr ⟨by omega, wrap_low (by omega) (by omega)⟩
  unfold farP
  by_cases hv : v ≤ 1000000
  · have hx := h3 hv
    have hw : IntKind.wrap .i64 (x - k) = x - k := by
      rcases hw with hw | ⟨hw, _⟩
      · exact hw
      · exfalso
        cases neg <;> simp at hx <;> omega
    rw [hw, Nat.min_eq_left hv, hx]
  · have hx := h4 (by omega)
    rw [Nat.min_eq_right (by omega)]
    have l : (decide (IntKind.wrap .i64 (x - k) < -22) || decide (IntKind.wrap .i64 (x - k) > 22)) = true := by
      rw [Bool.or_eq_true, decide_eq_true_eq, decide_eq_true_eq]
      rcases hw with hw | ⟨_, hw⟩ <;> rw [hw] <;> omega
    have r : ∀ y : Int, (y = 1000000 ∨ y = -1000000) → (decide (y - (k : Int) < -22) || decide (y - (k : Int) > 22)) = true := by
      intro y hy
      rw [Bool.or_eq_true, decide_eq_true_eq, decide_eq_true_eq]
      omega
    rw [l]
    cases neg
    · exact (r _ (.inl rfl)).symm
    · exact (r _ (.inr rfl)).symm
theorem neq_nil : nifS BinOp.neq AV.nili = some (.bool false) := rfl
theorem neq_err (t : TypeId) (v : AV) : nifS BinOp.neq (AV.iface t v) = some (.bool true) := rfl
/-- An exponent: TrimPrefix, then Atoi. -/
theorem atoi_near {l : List UInt8} (hs : l.length ≤ 1000000) {d : Nat} (hd : wh isDig (l.drop (sgn l)) = d) (h0 : 0 < d) (k : Nat) :
    ∃ x : Int, Near k (numV 0 ((l.drop (sgn l)).take d)) (decide (l.head? = some 45)) x ∧ ∀ {β : Type} (st : St) (K : Int → Car → Option β),
      (planS (orc vE) (primP (Prim.lib (libAtoi 99)) [AV.str (if ((l.take (sgn l + d)).take [(43 : UInt8)].length == [43]) = true then (l.take (sgn l + d)).drop [(43 : UInt8)].length else l.take (sgn l + d))]) st fun v63 st64 _x => unT v63 fun l66 => nthS l66 0 fun v67 => asI .i64 v67 fun n68 => unT v63 fun l69 => nthS l69 1 fun v70 => bindO (nifS BinOp.neq v70) fun v71 => asB
 v71 fun b72 => bindO (ifB b72 (some (([AV.int .i64 1073741824], st64) : Car)) (some ([AV.int .i64 n68], st64))) fun c73 => unc (Prod.fst c73) fun v74 l75 => asI .i64 v74 fun n76 => un0 l75 (K n76 c73)) = K x ([AV.int .i64 x], st) := by
  have hD : (l.drop (sgn l)).take d = (l.drop (sgn l)).takeWhile isDig := by rw [← hd, wh_take]
  have hall : ((l.drop (sgn l)).take d).all isDig = true := by rw [hD]; exact takeWhile_all _ _
  have hlen : ((l.drop (sgn l)).take d).length = d := by rw [hD, ← hd]; rfl
  have hne : (l.drop (sgn l)).take d ≠ [] := by
    intro e
    rw [e] at hlen
    simp at hlen; omega
  have fin : ∀ (D : List UInt8), D.length ≤ 1000001 → ∀ {β : Type} (st : St) (K : Int → Car → Option β) (x : Int), (Lib.atoiAll D = .ok x ∨ (Lib.atoiAll D = .range ∧ x = 1073741824)) →
      (planS (orc vE) (primP (Prim.lib (libAtoi 99)) [AV.str D]) st fun v63 st64 _x => unT v63 fun l66 => nthS l66 0 fun v67 => asI .i64 v67 fun n68 => unT v63 fun l69 => nthS l69 1 fun v70 => bindO (nifS BinOp.neq v70) fun v71 => asB
 v71 fun b72 => bindO (ifB b72 (some (([AV.int .i64 1073741824], st64) : Car)) (some ([AV.int .i64 n68], st64))) fun c73 => unc (Prod.fst c73) fun v74 l75 => asI .i64 v74 fun n76 => un0 l75 (K n76 c73)) = K x ([AV.int .i64 x], st) := by
    intro D hDl β st K x hx
    rcases hx with hx | ⟨hx, rfl⟩
    · have hl : libAtoi 99 [.str D] = .ok (.tup [.int .i64 x, .nili]) := by simp only [libAtoi, ble_of (show D.length ≤ 281474976710656 by omega), hx]
      simp only [planS_lib hl, unT_tup, nthS_zero, nthS_one, asI_int, neq_nil, bindO_ok, asB_bool, ifB_false, unc_cons, un0_nil]
    · have hl : libAtoi 99 [.str D] = .ok (.tup [.int .i64 (Lib.atoiSat D), .iface 99 (.opq false)]) := by simp only [libAtoi, ble_of (show D.length ≤ 281474976710656 by omega), hx]
      simp only [planS_lib hl, unT_tup, nthS_zero, nthS_one, asI_int, neq_err, bindO_ok, asB_bool, ifB_true, unc_cons, un0_nil]
  cases l with
  | nil => simp [sgn] at hne
  | cons c r =>
    by_cases c1 : c = 43
    · subst c1
      have e1 : sgn ((43 : UInt8) :: r) = 1 := rfl
      rw [e1] at hall hlen hne hD ⊢
      simp only [List.drop_succ_cons, List.drop_zero] at hall hlen hne hD ⊢
      have hp := atoi_plain hne hall
      have e2 : (if (((43 :: r).take (1 + d)).take [(43 : UInt8)].length == [43]) = true then ((43 : UInt8) :: r |>.take (1 + d)).drop [(43 : UInt8)].length else (43 :: r).take (1 + d)) = r.take d := by
        rw [Nat.add_comm 1 d]; rfl
      rw [e2]
      by_cases c2 : numV 0 (r.take d) < 9223372036854775808
      · rw [if_pos c2] at hp
        exact ⟨numV 0 (r.take d), ⟨by omega, by omega, fun _ => by simp, fun _ => by omega⟩, fun st K => fin _ (by rw [List.length_take]; simp at hs; omega) st K _ (.inl hp)⟩
      · rw [if_neg c2] at hp
        exact ⟨1073741824, ⟨by omega, by omega, fun _ => by omega, fun _ => by omega⟩, fun st K => fin _ (by rw [List.length_take]; simp at hs; omega) st K _ (.inr ⟨hp, rfl⟩)⟩
    · by_cases c3 : c = 45
      · subst c3
        have e1 : sgn ((45 : UInt8) :: r) = 1 := rfl
        rw [e1] at hall hlen hne hD ⊢
        simp only [List.drop_succ_cons, List.drop_zero] at hall hlen hne hD ⊢
        have hp := atoi_minus hne hall
        have e2 : (if (((45 :: r).take (1 + d)).take [(43 : UInt8)].length == [43]) = true then ((45 : UInt8) :: r |>.take (1 + d)).drop [(43 : UInt8)].length else (45 :: r).take (1 + d)) = 45 :: r.take d := by
          rw [Nat.add_comm 1 d]; rfl
        rw [e2]
        by_cases c2 : numV 0 (r.take d) ≤ 9223372036854775808
        · rw [if_pos c2] at hp
          exact ⟨-(numV 0 (r.take d) : Int), ⟨by omega, by omega, fun _ => by simp, fun _ => by omega⟩, fun st K => fin _ (by rw [List.length_cons, List.length_take]; simp at hs; omega) st K _ (.inl hp)⟩
        · rw [if_neg c2] at hp
          exact ⟨1073741824, ⟨by omega, by omega, fun _ => by omega, fun _ => by omega⟩, fun st K => fin _ (by rw [List.length_cons, List.length_take]; simp at hs; omega) st K _ (.inr ⟨hp, rfl⟩)⟩
      · have hsg : isSgn c = false := by simp [isSgn, c1, c3]
        have e1 : sgn (c :: r) = 0 := by simp only [sgn, hsg]; rfl
        rw [e1] at hall hlen hne hD ⊢
        simp only [List.drop_zero, Nat.zero_add] at hall hlen hne hD ⊢
        have hp := atoi_plain hne hall
        have e2 : (if (((c :: r).take d).take [(43 : UInt8)].length == [43]) = true then ((c :: r).take d).drop [(43 : UInt8)].length else (c :: r).take d) = (c :: r).take d := by
          rw [if_neg]
          intro e
          have e := eq_of_beq e
          cases d with
          | zero => simp at h0
          | succ d => simp at e; exact c1 e
        rw [e2]
        by_cases c2 : numV 0 ((c :: r).take d) < 9223372036854775808
        · rw [if_pos c2] at hp
          exact ⟨numV 0 ((c :: r).take d), ⟨by omega, by omega, fun _ => by simp [c3], fun _ => by omega⟩, fun st K => fin _ (by rw [List.length_take]; omega) st K _ (.inl hp)⟩
        · rw [if_neg c2] at hp
          exact ⟨1073741824, ⟨by omega, by omega, fun _ => by omega, fun _ => by omega⟩, fun st K => fin _ (by rw [List.length_take]; omega) st K _ (.inr ⟨hp, rfl⟩)⟩
theorem wh_one (p : UInt8 → Bool) (c : UInt8) (l : List UInt8) : wh p ((c :: l).take 1) = if p c then 1 else 0 := by
  show wh p [c] = _
  rw [wh_cons]; rfl
theorem min_take (s : List UInt8) (e : Nat) : s.take (min s.length e) = s.take e := by
  rcases Nat.le_total e s.length with h | h
  · rw [Nat.min_eq_right h]
  · rw [Nat.min_eq_left h, List.take_length, List.take_of_length_le h]
theorem min_int (a b : Nat) : (if (a : Int) < (b : Int) then (a : Int) else (b : Int)) = ((min a b : Nat) : Int) := by split <;> omega
theorem take_drop_one (s : List UInt8) (e n : Nat) : (s.take (e + n)).drop e = (s.drop e).take n := by
  rw [List.drop_take]; congr 1; omega
theorem last_part {all k : Nat} {x : Int} {e : Int} (st : St) (b : Bool) (hb : (decide (IntKind.wrap .i64 (x - k) < -22) || decide (IntKind.wrap .i64 (x - k) > 22)) = b) :
    (bindO (ifB (decide ((all : Int) > 15)) (some (([AV.bool true], st) : Car)) (letV (IntKind.wrap .i64 (x - (k : Int))) fun n94 => ifB (decide (n94 < -22)) (some ([AV.bool true], st)) (letV (IntKind.wrap .i64 (x - (k : Int))) fun n95 => some ([AV.bool (decide (n95 > 22))], st)))) fun c96 =>
 unc (Prod.fst c96) fun v97 l98 => asB v97 fun b99 => un0 l98 (ifB b99 (some (AV.tup [AV.int .u8 9, AV.int .i64 e])) (some (AV.tup [AV.int .u8 6, AV.int .i64 e])))) = some (AV.tup [AV.int .u8 (if all > 15 ∨ b = true then 9 else 6 : Int), AV.int .i64 e]) := by
  simp only [ifB_decide, letV_eq]
  by_cases c1 : (all : Int) > 15
  · have : all > 15 := by omega
    simp only [if_pos c1, bindO_ok, unc_cons, asB_bool, un0_nil, ifB_true, this, true_or, if_true]
  · have h1 : ¬ all > 15 := by omega
    rw [if_neg c1]
    by_cases c2 : IntKind.wrap .i64 (x - (k : Int)) < -22
    · have : b = true := by rw [← hb, decide_eq_true c2]; rfl
      subst this
      simp only [if_pos c2, bindO_ok, unc_cons, asB_bool, un0_nil, ifB_true, or_true, if_true]
    · rw [if_neg c2]
      have : b = decide (IntKind.wrap .i64 (x - (k : Int)) > 22) := by rw [← hb, decide_eq_false c2]; rfl
      subst this
      simp only [bindO_ok, unc_cons, asB_bool, un0_nil, h1, false_or]
      cases decide (IntKind.wrap .i64 (x - (k : Int)) > 22) <;> rfl
theorem number_ok {s : List UInt8} (hs : s.length ≤ 500000) : (orc vE).bare 25 [.str s] = some (if wh isDig s = 0 then .tup [.int .u8 5, .int .i64 0] else .tup [.int .u8 ((number s).1 : Int), .int .i64 ((number s).2 : Int)]) := by
  refine bare_of rfl ((g25_eq _).trans ?_)
  have hn := wh_le isDig s
  simp only [g25, asS_str, run_dig (show s.length ≤ 1000000 by omega), asI_int, ifB_beq]
  by_cases c0 : wh isDig s = 0
  · have c0' : ((wh isDig s : Nat) : Int) = 0 := by omega
    rw [if_pos c0', if_pos c0, c0]
    rfl
  have c0' : ¬ ((wh isDig s : Nat) : Int) = 0 := by omega
  simp only [if_neg c0', if_neg c0, uptoS_nat hn, List.take_length, letV_eq, call_prefix, asB_bool, bindO_ok, unc_cons, un0_nil]
  generalize hN : wh isDig s = n at hn c0 c0'
  have hpre : ((s.drop n).take [(46 : UInt8)].length == [46]) = decide ((s.drop n).head? = some 46) := by
    cases s.drop n with
    | nil => rfl
    | cons c l =>
      show ([c] == [46]) = _
      by_cases h : c = 46
      · subst h; rfl
      · simp [h]
  rw [hpre]
  unfold number
  rw [hN]
  by_cases cd : (s.drop n).head? = some 46
  · have hlt : n < s.length := by
      rcases Nat.lt_or_ge n s.length with q | q
      · exact q
      · rw [List.drop_of_length_le q] at cd; cases cd
    simp only [cd, decide_true, Bool.not_true, ifB_false, if_true]
    have hk := wh_le isDig (s.drop (n + 1))
    rw [List.length_drop] at hk
    have hl2 : (s.drop (n + 1)).length ≤ 1000000 := by rw [List.length_drop]; omega
    simp only [wrapA1 (show n + 1 ≤ 9223372036854775807 by omega), uptoS_nat (show n + 1 ≤ s.length by omega), List.take_length, run_dig hl2, asI_int]
    generalize hK : wh isDig (s.drop (n + 1)) = k at hk
    simp only [wrapA (show n + k ≤ 9223372036854775807 by omega), wrapA (show n + 1 + k ≤ 9223372036854775807 by omega), wrapA1 (show n + 1 + k + 1 ≤ 9223372036854775807 by omega), min_int, uptoS_nat (Nat.min_le_left s.length (n + 1 + k + 1)), uptoS_nat (show n + 1 + k ≤ min s.length (n + 1 + k + 1) by omega), min_take, take_drop_one]
    generalize hE : n + 1 + k = e at *
    have hle : e ≤ s.length := by omega
    have hl3 : ((s.drop e).take 1).length ≤ 1000000 := by rw [List.length_take, List.length_drop]; omega
    simp only [run_e hl3, asI_int, ifB_decide]
    have none_case : ∀ (x : Nat × Int), x = (0, 0) → (bindO (ifB (decide (((n + k : Nat) : Int) > 15)) (some (([AV.bool true], St.mk 0 0 Tr.leaf) : Car)) (letV (IntKind.wrap .i64 ((0 : Int) - (k : Int))) fun n94 => ifB (decide (n94 < -22)) (some ([AV.bool true], St.mk 0 0 Tr.leaf)) (letV (IntKind.wrap .i64 ((0 : Int) - (k : Int))) fun n95 => some ([AV.bool (decide (n95 > 22))], St.mk 0 0 Tr.leaf)))) fun c96 =>
 unc (Prod.fst c96) fun v97 l98 => asB v97 fun b99 => un0 l98 (ifB b99 (some (AV.tup [AV.int .u8 9, AV.int .i64 (e : Int)])) (some (AV.tup [AV.int .u8 6, AV.int .i64 (e : Int)])))) = some (AV.tup [AV.int .u8 ((if n + k > 15 ∨ x.2 - (k : Int) < -22 ∨ x.2 - (k : Int) > 22 then 9 else 6 : Nat) : Int), AV.int .i64 ((e + x.1 : Nat) : Int)]) := by
      rintro _ rfl
      have hw : IntKind.wrap .i64 ((0 : Int) - (k : Int)) = 0 - (k : Int) := wrap_i64 (by omega) (by omega)
      rw [last_part (St.mk 0 0 Tr.leaf) (decide ((0 : Int) - k < -22) || decide ((0 : Int) - k > 22)) (by rw [hw])]
      simp only [Bool.or_eq_true, decide_eq_true_eq, Nat.add_zero]
      by_cases h : n + k > 15 ∨ (0 : Int) - (k : Int) < -22 ∨ (0 : Int) - (k : Int) > 22
      · rw [if_pos h, if_pos h]; rfl
      · rw [if_neg h, if_neg h]; rfl
    simp only [ifB_decide, letV_eq] at none_case
    cases ht : s.drop e with
    | nil =>
      have h0 : ¬ (((wh isE ([].take 1) : Nat) : Int) > 0) := by simp [wh]
      simp only [if_neg h0, bindO_ok, unc_cons, asI_int, un0_nil]
      exact none_case _ rfl
    | cons c l =>
      have hcl : s.drop (e + 1) = l := by rw [← List.drop_drop, ht]; rfl
      have hel : e < s.length := by
        rcases Nat.lt_or_ge e s.length with q | q
        · exact q
        · rw [List.drop_of_length_le q] at ht; cases ht
      have hll : l.length = s.length - (e + 1) := by rw [← hcl, List.length_drop]
      rw [wh_one]
      cases hc : isE c with
      | false =>
        have hx : expo (c :: l) = (0, 0) := by
          unfold expo
          have : ¬ (c = 101 ∨ c = 69) := by
            intro h
            rcases h with rfl | rfl <;> cases hc
          simp only [if_neg this]
        simp only [Bool.false_eq_true, if_false, show ¬ (((0 : Nat) : Int) > 0) by omega, bindO_ok, unc_cons, asI_int, un0_nil]
        exact none_case _ hx
      | true =>
        have hc' : c = 101 ∨ c = 69 := by simpa [isE] using hc
        have hsl := sgn_le l
        have hsl1 : sgn l ≤ 1 := by
          cases l with
          | nil => simp [sgn]
          | cons c l => simp only [sgn]; split <;> omega
        have hsg : wh isSgn (l.take 1) = sgn l := by
          cases l with
          | nil => rfl
          | cons c l => rw [wh_one]; rfl
        simp only [if_true, show (((1 : Nat) : Int) > 0) by omega]
        simp only [wrapA1 (show e + 1 ≤ 9223372036854775807 by omega), wrapA2 (show e + 2 ≤ 9223372036854775807 by omega), min_int, uptoS_nat (Nat.min_le_left s.length (e + 2)), uptoS_nat (show e + 1 ≤ min s.length (e + 2) by omega), min_take, letV_eq, show (s.take (e + 2)).drop (e + 1) = l.take 1 by rw [← hcl]; exact take_drop_one s (e + 1) 1, run_sgn (show (l.take 1).length ≤ 1000000 by rw [List.length_take]; omega), asI_int, hsg, wrapA (show e + 1 + sgn l ≤ 9223372036854775807 by omega), uptoS_nat (show e + 1 + sgn l ≤ s.length by omega), List.take_length]
        have hd5 : s.drop (e + 1 + sgn l) = l.drop (sgn l) := by rw [← List.drop_drop, hcl]
        have hl5 : (l.drop (sgn l)).length ≤ 1000000 := by rw [List.length_drop]; omega
        simp only [hd5, run_dig hl5, asI_int]
        have hD := wh_le isDig (l.drop (sgn l))
        rw [List.length_drop] at hD
        generalize hdd : wh isDig (l.drop (sgn l)) = d at hD
        by_cases cz : d = 0
        · subst cz
          have hx : expo (c :: l) = (0, 0) := by
            simp only [expo, if_pos hc', hdd, if_true]
          simp only [show ¬ (((0 : Nat) : Int) > 0) by omega, ifB_decide, if_false, bindO_ok, unc_cons, asI_int, un0_nil]
          exact none_case _ hx
        · have cz' : ((d : Nat) : Int) > 0 := by omega
          have hx : expo (c :: l) = (1 + sgn l + d, if l.head? = some 45 then -((min (numV 0 ((l.drop (sgn l)).take d)) 1000000 : Nat) : Int) else ((min (numV 0 ((l.drop (sgn l)).take d)) 1000000 : Nat) : Int)) := by
            simp only [expo, if_pos hc', hdd, if_neg cz]
          obtain ⟨x, hN2, hat⟩ := atoi_near (by omega) hdd (by omega) k
          have hf := near_far hN2 (show k ≤ 500000 by omega)
          have hsub : (s.take (e + 1 + sgn l + d)).drop (e + 1) = l.take (sgn l + d) := by
            have := take_drop_one s (e + 1) (sgn l + d)
            rw [hcl, ← Nat.add_assoc] at this
            exact this
          simp only [ifB_decide, if_pos cz', wrapA (show e + 1 + sgn l + d ≤ 9223372036854775807 by omega), uptoS_nat (show e + 1 + sgn l + d ≤ s.length by omega), uptoS_nat (show e + 1 ≤ e + 1 + sgn l + d by omega), hsub, call_trim, asS_str, hat, letV_eq, bindO_ok, unc_cons, asI_int, un0_nil]
          have hl := last_part (all := n + k) (e := ((e + 1 + sgn l + d : Nat) : Int)) (St.mk 0 0 Tr.leaf) _ hf
          simp only [ifB_decide, letV_eq] at hl
          rw [hl, hx]
          have e1 : e + (1 + sgn l + d) = e + 1 + sgn l + d := by omega
          simp only [e1]
          unfold farP
          simp only [Bool.or_eq_true, decide_eq_true_eq]
          by_cases c5 : l.head? = some 45
          · simp only [c5, if_true]
            split <;> rfl
          · simp only [c5, if_false]
            split <;> rfl
  · simp only [cd, decide_false, Bool.not_false, ifB_true, if_false]
    rfl
end Go.Proofs.YtcghfoagjphaoaaGreatDoor.Vm
/- Tokens: texts, signs and the rest, by the program; a text's tokens. -/
namespace Go.Proofs.YtcghfoagjphaoaaGreatDoor.Vm
open Go Go.VM Go.Proofs Go.Lex
theorem esc_ok (c : UInt8) : decide (idxB [110, 116, 92, 34] c ≥ 0) = isEsc c := by
  have := all_bytes (p := fun c => decide (idxB [110, 116, 92, 34] c ≥ 0) == isEsc c) (by decide +kernel) c
  exact eq_of_beq this
theorem find_cons (n : Nat) (b : UInt8) (l : List UInt8) : findByte n (b :: l) = if b.toNat = n then some 0 else (findByte n l).map (· + 1) := by
  show (match b.toNat.beq n with | true => some 0 | false => match findByte n l with | some i => some (i + 1) | none => none) = _
  cases h : b.toNat.beq n with
  | true => rw [if_pos (Nat.eq_of_beq_eq_true h)]
  | false =>
    rw [if_neg (Nat.ne_of_beq_eq_false h)]
    cases findByte n l <;> rfl
theorem badT_find : ∀ (r : List UInt8), (∀ b ∈ r, b ≠ 10) → badT r = match findByte 34 r with | some j => j + 1 | none => r.length
  | [], _ => rfl
  | c :: r, h => by
    have ih := badT_find r fun b hb => h b (List.mem_cons_of_mem _ hb)
    rw [find_cons]
    simp only [badT, if_neg (h c (by simp))]
    by_cases hc : c = 34
    · subst hc; rfl
    · have : ¬ c.toNat = 34 := fun e => hc (UInt8.toNat_inj.1 e)
      rw [if_neg hc, if_neg this, ih]
      cases findByte 34 r <;> rfl
theorem badT_line : ∀ (r : List UInt8), badT r = badT (r.takeWhile fun b => b != 10)
  | [] => rfl
  | c :: r => by
    by_cases h : c = 10
    · subst h; rfl
    · have e : (c != 10) = true := by simpa using h
      rw [List.takeWhile_cons, if_pos e]
      simp only [badT, if_neg h]
      rw [badT_line r]
theorem txt_line : ∀ (l : List UInt8), txt l = txt (l.takeWhile fun b => b != 10)
  | [] => rfl
  | [c] => by
    by_cases h : c = 10
    · subst h; rfl
    · have e : (c != 10) = true := by simpa using h
      rw [List.takeWhile_cons, if_pos e]; rfl
  | c :: d :: l => by
    have h1 := txt_line l
    have h2 := txt_line (d :: l)
    have h3 := badT_line (d :: l)
    by_cases h : c = 10
    · subst h; rfl
    have e : (c != 10) = true := by simpa using h
    rw [List.takeWhile_cons, if_pos e]
    by_cases hq : c = 34
    · subst hq
      cases hr : (d :: l).takeWhile fun b => b != 10 with
      | nil => rfl
      | cons a r => rfl
    by_cases hb : c = 92
    · subst hb
      by_cases hd : d = 10
      · subst hd; rfl
      · have ed : (d != 10) = true := by simpa using hd
        rw [List.takeWhile_cons, if_pos ed] at h2 h3 ⊢
        simp only [txt, h, hq, if_false, if_true]
        split
        · rw [h1]
        · rw [h3]
    · cases hr : (d :: l).takeWhile fun b => b != 10 with
      | nil =>
        rw [hr] at h2
        simp only [txt, if_neg h, if_neg hq, if_neg hb, h2]
      | cons a r =>
        rw [hr] at h2
        simp only [txt, if_neg h, if_neg hq, if_neg hb, h2]
theorem text_loop (line : List UInt8) (hno : ∀ b ∈ line, b ≠ 10) (hs : line.length ≤ 1000000) (st : St) : ∀ (r : List UInt8) (i : Nat), line.drop i = r → i ≤ line.length →
    (loopO (g26_L1 line) ([.int .u8 0, .int .i64 0, .int .i64 (i : Int)], st) = some (1, [.int .u8 ((txt r).1 : Int), .int .i64 ((i + (txt r).2 : Nat) : Int)], st)) ∨
    (loopO (g26_L1 line) ([.int .u8 0, .int .i64 0, .int .i64 (i : Int)], st) = some (0, [.int .u8 0, .int .i64 0], st) ∧ txt r = (9, r.length))
  | [], i, hd, hi => by
    have := List.drop_eq_nil_iff.1 hd
    have q : ¬ (i : Int) < (line.length : Int) := by omega
    refine .inr ⟨loopO_inr ?_, rfl⟩
    simp only [g26_L1, unc_cons, asI_int, un0_nil, ifB_decide, if_neg q]
  | [c], i, hd, hi => by
    obtain ⟨hg, hr, hlt⟩ := drop_cons hd
    have hnil := List.drop_eq_nil_iff.1 hr
    have q : (i : Int) < (line.length : Int) := by omega
    have hc : line[i] = c := getElem_of hlt hg
    have h10 : c ≠ 10 := hno c (List.mem_of_getElem? hg)
    by_cases c1 : c = 34
    · subst c1
      refine .inl (loopO_inr ?_)
      have z : ((UInt8.toNat (34 : UInt8) : Nat) : Int) = 34 := rfl
      simp only [g26_L1, unc_cons, asI_int, un0_nil, ifB_decide, if_pos q, idxStr_nat hlt, hc, z, ifB_beq, if_true, letV_eq, wrapA1 (show i + 1 ≤ 9223372036854775807 by omega), bindO_ok, onSum_inr]
      rfl
    · have z1 : ¬ ((c.toNat : Nat) : Int) = 34 := byte_ne (d := 34) c1
      by_cases c2 : c = 92
      · subst c2
        have z2 : ((UInt8.toNat (92 : UInt8) : Nat) : Int) = 92 := rfl
        have z3 : ¬ ((92 : Int) = 34) := by omega
        have q2 : ¬ ((i + 1 : Nat) : Int) < (line.length : Int) := by omega
        have hix : idxB [92] 34 = -1 := rfl
        have cix := fun {β : Type} (st : St) (K : Kv β) => call_index [92] 34 st K
        have z34 : ((UInt8.toNat (34 : UInt8) : Nat) : Int) = 34 := rfl
        simp only [z34] at cix
        have el : line.length = i + 1 := by omega
        have e1 : txt [92] = (9, 1) := rfl
        refine .inl (loopO_inr ?_)
        simp only [g26_L1, unc_cons, asI_int, un0_nil, ifB_decide, if_pos q, idxStr_nat hlt, hc, z2, ifB_beq, if_neg z3, if_true, letV_eq, wrapA1 (show i + 1 ≤ 9223372036854775807 by omega), if_neg q2, bindO_ok, asB_bool, ifB_false, uptoS_nat (show i ≤ line.length by omega), List.take_length, hd, cix, hix, show ¬ ((-1 : Int) ≥ 0) by omega, if_false, onSum_inr, e1]
        rw [el]; rfl
      · have z2 : ¬ ((c.toNat : Nat) : Int) = 92 := byte_ne (d := 92) c2
        refine .inr ⟨?_, by simp only [txt, if_neg h10, if_neg c1]; rfl⟩
        have ih := text_loop line hno hs st [] (i + 1) hr (by omega)
        rw [loopO_inl (s' := ([.int .u8 0, .int .i64 0, .int .i64 ((i + 1 : Nat) : Int)], st))]
        · rcases ih with ih | ih
          · exfalso
            have q2 : ¬ ((i + 1 : Nat) : Int) < (line.length : Int) := by omega
            have e : loopO (g26_L1 line) ([.int .u8 0, .int .i64 0, .int .i64 ((i + 1 : Nat) : Int)], st) = some (0, [.int .u8 0, .int .i64 0], st) := loopO_inr (by simp only [g26_L1, unc_cons, asI_int, un0_nil, ifB_decide, if_neg q2])
            rw [e] at ih; cases ih
          · exact ih.1
        · simp only [g26_L1, unc_cons, asI_int, un0_nil, ifB_decide, if_pos q, idxStr_nat hlt, hc, ifB_beq, if_neg z1, if_neg z2, bindO_ok, onSum_inl, letV_eq, wrapA1 (show i + 1 ≤ 9223372036854775807 by omega)]
  | c :: d :: l, i, hd, hi => by
    obtain ⟨hg, hr, hlt⟩ := drop_cons hd
    obtain ⟨hg2, hr2, hlt2⟩ := drop_cons hr
    have q : (i : Int) < (line.length : Int) := by omega
    have q2 : ((i + 1 : Nat) : Int) < (line.length : Int) := by omega
    have hc : line[i] = c := getElem_of hlt hg
    have hc2 : line[i + 1] = d := getElem_of hlt2 hg2
    have h10 : c ≠ 10 := hno c (List.mem_of_getElem? hg)
    by_cases c1 : c = 34
    · subst c1
      refine .inl (loopO_inr ?_)
      have z : ((UInt8.toNat (34 : UInt8) : Nat) : Int) = 34 := rfl
      simp only [g26_L1, unc_cons, asI_int, un0_nil, ifB_decide, if_pos q, idxStr_nat hlt, hc, z, ifB_beq, if_true, letV_eq, wrapA1 (show i + 1 ≤ 9223372036854775807 by omega), bindO_ok, onSum_inr]
      rfl
    · have z1 : ¬ ((c.toNat : Nat) : Int) = 34 := byte_ne (d := 34) c1
      by_cases c2 : c = 92
      · subst c2
        have z2 : ((UInt8.toNat (92 : UInt8) : Nat) : Int) = 92 := rfl
        have z3 : ¬ ((92 : Int) = 34) := by omega
        have hesc := esc_ok d
        cases he : isEsc d with
        | true =>
          rw [he] at hesc
          have hesc' := of_decide_eq_true hesc
          have ih := text_loop line hno hs st l (i + 2) hr2 (by omega)
          have step : loopO (g26_L1 line) ([.int .u8 0, .int .i64 0, .int .i64 (i : Int)], st) = loopO (g26_L1 line) ([.int .u8 0, .int .i64 0, .int .i64 ((i + 2 : Nat) : Int)], st) := by
            refine loopO_inl ?_
            simp only [g26_L1, unc_cons, asI_int, un0_nil, ifB_decide, if_pos q, idxStr_nat hlt, hc, z2, ifB_beq, if_neg z3, if_true, letV_eq, wrapA1 (show i + 1 ≤ 9223372036854775807 by omega), if_pos q2, idxStr_nat hlt2, hc2, call_index, bindO_ok, asB_bool, if_pos hesc', onSum_inl, wrapA1 (show i + 1 + 1 ≤ 9223372036854775807 by omega)]
          have e1 : txt (92 :: d :: l) = ((txt l).1, (txt l).2 + 2) := by
            simp only [txt, he, if_true]; rfl
          rw [step, e1]
          rcases ih with ih | ⟨ih, e2⟩
          · refine .inl (ih.trans ?_)
            show some (_, [_, AV.int .i64 ((i + 2 + (txt l).2 : Nat) : Int)], st) = _
            rw [show i + 2 + (txt l).2 = i + ((txt l).2 + 2) by omega]
          · exact .inr ⟨ih, by rw [e2]; rfl⟩
        | false =>
          rw [he] at hesc
          have hesc' := of_decide_eq_false hesc
          have e1 : txt (92 :: d :: l) = (9, badT (d :: l) + 1) := by
            simp only [txt, he]; rfl
          have hb := badT_find (d :: l) fun b hb => hno b (by
            have : b ∈ line.drop (i + 1) := by rw [hr]; exact hb
            exact List.mem_of_mem_drop this)
          have cix := fun {β : Type} (st : St) (K : Kv β) => call_index (92 :: d :: l) 34 st K
          have z34 : ((UInt8.toNat (34 : UInt8) : Nat) : Int) = 34 := rfl
          simp only [z34] at cix
          have hl : line.length = i + 2 + l.length := by
            have := congrArg List.length hd
            rw [List.length_drop] at this
            simp at this; omega
          rw [e1]
          refine .inl (loopO_inr ?_)
          have hix : idxB (92 :: d :: l) 34 = match findByte 34 (d :: l) with | some j => ((j + 1 : Nat) : Int) | none => -1 := by
            unfold idxB
            rw [show (UInt8.toNat (34 : UInt8)) = 34 from rfl, find_cons, if_neg (by decide)]
            cases findByte 34 (d :: l) <;> rfl
          simp only [g26_L1, unc_cons, asI_int, un0_nil, ifB_decide, if_pos q, idxStr_nat hlt, hc, z2, ifB_beq, if_neg z3, if_true, letV_eq, wrapA1 (show i + 1 ≤ 9223372036854775807 by omega), if_pos q2, idxStr_nat hlt2, hc2, call_index, bindO_ok, asB_bool, if_neg hesc', uptoS_nat (show i ≤ line.length by omega), List.take_length, hd, cix, hix]
          rw [hb]
          cases hf : findByte 34 (d :: l) with
          | none =>
            simp only [show ¬ ((-1 : Int) ≥ 0) by omega, if_false, bindO_ok, onSum_inr]
            rw [show line.length = i + ((d :: l).length + 1) by simp; omega]; rfl
          | some j =>
            have hj : j + 1 ≤ (d :: l).length := by
              have h1 := badT_le (d :: l)
              rw [hb, hf] at h1
              exact h1
            simp only [List.length_cons] at hj
            simp only [show (((j + 1 : Nat) : Int) ≥ 0) by omega, if_true, wrapA (show i + (j + 1) ≤ 9223372036854775807 by omega), wrapA1 (show i + (j + 1) + 1 ≤ 9223372036854775807 by omega), bindO_ok, onSum_inr]
            rfl
      · have z2 : ¬ ((c.toNat : Nat) : Int) = 92 := byte_ne (d := 92) c2
        have ih := text_loop line hno hs st (d :: l) (i + 1) hr (by omega)
        have step : loopO (g26_L1 line) ([.int .u8 0, .int .i64 0, .int .i64 (i : Int)], st) = loopO (g26_L1 line) ([.int .u8 0, .int .i64 0, .int .i64 ((i + 1 : Nat) : Int)], st) := by
          refine loopO_inl ?_
          simp only [g26_L1, unc_cons, asI_int, un0_nil, ifB_decide, if_pos q, idxStr_nat hlt, hc, ifB_beq, if_neg z1, if_neg z2, bindO_ok, onSum_inl, letV_eq, wrapA1 (show i + 1 ≤ 9223372036854775807 by omega)]
        have e1 : txt (c :: d :: l) = ((txt (d :: l)).1, (txt (d :: l)).2 + 1) := by
          simp only [txt, if_neg h10, if_neg c1, if_neg c2]
        rw [step, e1]
        rcases ih with ih | ⟨ih, e2⟩
        · refine .inl (ih.trans ?_)
          show some (_, [_, AV.int .i64 ((i + 1 + (txt (d :: l)).2 : Nat) : Int)], st) = _
          rw [show i + 1 + (txt (d :: l)).2 = i + ((txt (d :: l)).2 + 1) by omega]
        · exact .inr ⟨ih, by rw [e2]; rfl⟩
theorem find_line : ∀ (s : List UInt8), (match findByte 10 s with | some k => s.take k | none => s) = s.takeWhile fun b => b != 10
  | [] => rfl
  | c :: l => by
    have ih := find_line l
    rw [find_cons, List.takeWhile_cons]
    by_cases h : c = 10
    · subst h; rfl
    · have e : (c != 10) = true := by simpa using h
      have : ¬ c.toNat = 10 := fun k => h (UInt8.toNat_inj.1 k)
      rw [if_neg this, if_pos e, ← ih]
      cases findByte 10 l <;> rfl
theorem find_lt : ∀ (s : List UInt8) (n k : Nat), findByte n s = some k → k < s.length
  | [], _, _, h => by cases h
  | c :: l, n, k, h => by
    rw [find_cons] at h
    split at h
    · cases h; simp
    · obtain ⟨m, hm, rfl⟩ := Option.map_eq_some_iff.1 h
      have := find_lt l n m hm
      simp; omega
theorem text_ok {c : UInt8} {l : List UInt8} (hs : (c :: l).length ≤ 1000000) : (orc vE).bare 26 [.str (c :: l)] = some (if c = 34 then .tup [.int .u8 ((txt l).1 : Int), .int .i64 (((txt l).2 + 1 : Nat) : Int)] else .tup [.int .u8 0, .int .i64 0]) := by
  refine bare_of rfl ((g26_eq _).trans ?_)
  have i0 : ∀ {β : Type} (K : UInt8 → Option β), idxStr (c :: l) 0 K = K c := fun K => idxStr_nat (k := 0) (by simp) K
  by_cases h : c = 34
  · subst h
    have z : (((UInt8.toNat (34 : UInt8) : Nat) : Int) != 34) = false := rfl
    have cix := fun {β : Type} (st : St) (K : Kv β) => call_index (34 :: l) 10 st K
    have z10 : ((UInt8.toNat (10 : UInt8) : Nat) : Int) = 10 := rfl
    simp only [z10] at cix
    have hline := find_line (34 :: l)
    have hw : (34 :: l).takeWhile (fun b => b != 10) = 34 :: l.takeWhile (fun b => b != 10) := by rw [List.takeWhile_cons]; rfl
    rw [hw] at hline
    have hno : ∀ b ∈ (34 :: l.takeWhile (fun b => b != 10) : List UInt8), b ≠ 10 := by
      intro b hb
      rcases List.mem_cons.1 hb with rfl | hb
      · decide
      · have := List.all_eq_true.1 (takeWhile_all (fun b => b != 10) l) b hb
        simpa using this
    have hll : (34 :: l.takeWhile (fun b => b != 10) : List UInt8).length ≤ 1000000 := by
      have := (List.takeWhile_sublist (p := fun b => b != 10) (l := l)).length_le
      simp at hs ⊢; omega
    have hlp := text_loop (34 :: l.takeWhile (fun b => b != 10)) hno hll (St.mk 0 0 Tr.leaf) (l.takeWhile fun b => b != 10) 1 rfl (by simp)
    rw [← txt_line l] at hlp
    have first : ∀ (K : Car → Option AV), (bindO (ifB (decide (idxB (34 :: l) 10 ≥ 0)) (uptoS (idxB (34 :: l) 10) (34 :: l : List UInt8).length fun k6 => letV (List.drop 0 (List.take k6 (34 :: l))) fun l7 => some (([AV.str l7], St.mk 0 0 Tr.leaf) : Car)) (some ([AV.str (34 :: l)], St.mk 0 0 Tr.leaf))) K) = K ([AV.str (34 :: l.takeWhile fun b => b != 10)], St.mk 0 0 Tr.leaf) := by
      intro K
      unfold idxB
      rw [show UInt8.toNat (10 : UInt8) = 10 from rfl]
      cases hf : findByte 10 (34 :: l) with
      | none =>
        rw [hf] at hline
        have hline : (34 :: l) = 34 :: l.takeWhile (fun b => b != 10) := hline
        simp only [ifB_decide, show ¬ ((-1 : Int) ≥ 0) by omega, if_false, bindO_ok]
        rw [← hline]
      | some k =>
        rw [hf] at hline
        have hline : (34 :: l).take k = 34 :: l.takeWhile (fun b => b != 10) := hline
        have hk := find_lt _ _ _ hf
        simp only [ifB_decide, show ((k : Int) ≥ 0) by omega, if_true, uptoS_nat (show k ≤ (34 :: l : List UInt8).length by omega), List.drop_zero, letV_eq, hline, bindO_ok]
    simp only [g26, asS_str, i0, z, ifB_false, cix, asI_int]
    rw [first]
    simp only [unc_cons, asS_str, un0_nil, if_true]
    rcases hlp with hlp | ⟨hlp, e2⟩
    · have hlp : loopO (g26_L1 (34 :: l.takeWhile fun b => b != 10)) ([.int .u8 0, .int .i64 0, .int .i64 1], St.mk 0 0 Tr.leaf) = _ := hlp
      rw [hlp]
      simp only [bindO_ok, unc_cons, asI_int, un0_nil, sel2_one]
      rw [Nat.add_comm 1]
    · have hlp : loopO (g26_L1 (34 :: l.takeWhile fun b => b != 10)) ([.int .u8 0, .int .i64 0, .int .i64 1], St.mk 0 0 Tr.leaf) = _ := hlp
      rw [hlp, e2]
      simp only [bindO_ok, unc_cons, asI_int, un0_nil, sel2_zero]
      rfl
  · have z : ((c.toNat : Int) != 34) = true := by
      have h' : ¬ ((c.toNat : Nat) : Int) = 34 := byte_ne (d := 34) h
      rw [bne, beq_false_of_ne h']; rfl
    simp only [g26, asS_str, i0, z, ifB_true, if_neg h]
theorem sign_ok {c : UInt8} {l : List UInt8} : (orc vE).bare 27 [.str (c :: l)] = some (if twos.contains ((c :: l).take 2) then .tup [.int .u8 8, .int .i64 2] else .tup [.int .u8 8, .int .i64 (if isOne c then 1 else 0)]) := by
  refine bare_of rfl ((g27_eq _).trans ?_)
  have h1 : (c :: l).take 1 = [c] := rfl
  have h2 : wh isOne [c] = if isOne c then 1 else 0 := by rw [wh_cons]; rfl
  have tail : ∀ (st : St), (chk (Nat.ble 1 (c :: l).length) (letV (List.drop 0 (List.take 1 (c :: l))) fun l50 => callS (orc vE) 41 [AV.str l50, AV.str [40, 41, 91, 93, 44, 59, 124, 61, 60, 62, 43, 45, 42, 47, 94, 64]] st fun v51 _x _x_1 => asI .i64 v51 fun n54 => letV (if n54 < 1 then n54 else 1) fun n55 => some (AV.tup [AV.int .u8 8, AV.int .i64 n55]))) = some (.tup [.int .u8 8, .int .i64 (if isOne c then 1 else 0)]) := by
    intro st
    simp only [ble_of (show 1 ≤ (c :: l).length by simp), chk_true, letV_eq, h1, List.drop_zero, run_one (show [c].length ≤ 1000000 by simp), asI_int, h2]
    cases isOne c <;> rfl
  by_cases hl : ((c :: l).length : Int) > 1
  · have hl2 : 2 ≤ (c :: l).length := by omega
    simp only [g27, asS_str, ifB_decide, if_pos hl, ble_of hl2, chk_true, List.drop_zero, letV_eq]
    generalize (c :: l).take 2 = w
    cases hw : twos.contains w with
    | true =>
      have hm : w ∈ twos := List.contains_iff_mem.1 hw
      simp only [twos, List.mem_cons, List.not_mem_nil, or_false] at hm
      rcases hm with rfl | rfl | rfl | rfl | rfl | rfl | rfl | rfl | rfl | rfl | rfl <;> rfl
    | false =>
      simp only [twos, List.contains_cons, List.contains_nil, Bool.or_eq_false_iff] at hw
      obtain ⟨w1, w2, w3, w4, w5, w6, w7, w8, w9, w10, w11, _⟩ := hw
      simp only [w1, w2, w3, w4, w5, w6, w7, w8, w9, w10, w11, ifB_false, bindO_ok, unc_cons, asB_bool, un0_nil, onSum_inl, asI_int]
      exact tail _
  · have hl0 : l = [] := by
      cases l with
      | nil => rfl
      | cons d l => simp at hl; omega
    subst hl0
    have hw : twos.contains ([c].take 2) = false := by
      simp [twos]
    simp only [g27, asS_str, ifB_decide, if_neg hl, bindO_ok, onSum_inl, unc_cons, asI_int, un0_nil, hw]
    exact tail _
/-- A character's bytes. -/
def chN (s : List UInt8) : Nat := if szL s = 0 then 1 else szL s
theorem decode_ch {s : List UInt8} (h : s ≠ []) : ∃ r n : Int, libDecode [.str s] = .ok (.tup [.int .i32 r, .int .i64 n]) ∧ ((szL s = 0 ∧ r = 65533 ∧ n = 1) ∨ (szL s ≠ 0 ∧ n = szL s ∧ (szL s = 1 → r ≠ 65533))) := by
  cases s with
  | nil => exact absurd rfl h
  | cons c l =>
    have e : libDecode [.str (c :: l)] = .ok (.tup [.int .i32 ((Lib.decodeL (c :: l)).1 : Int), .int .i64 ((Lib.decodeL (c :: l)).2 : Int)]) := by
      rw [Lib.decodeL_N]; rfl
    refine ⟨_, _, e, ?_⟩
    rcases szL_decode (c :: l) with ⟨h1, h2⟩ | ⟨h1, h2, h3⟩ | ⟨h1, h2⟩
    · exact .inl ⟨h1, by rw [h2]; rfl, by rw [h2]; rfl⟩
    · refine .inr ⟨by omega, by rw [h3, h1], fun _ => ?_⟩
      rw [h3]
      show (((c :: l).getD 0 0).toNat : Int) ≠ 65533
      omega
    · exact .inr ⟨by omega, by rw [h2], fun h => by omega⟩
theorem rune_ok {s : List UInt8} (h : s ≠ []) : ∃ r : Int, (orc vE).bare 47 [.str s] = some (.tup [.int .i64 r, .int .i64 (chN s : Int)]) := by
  obtain ⟨r, n, e, hc⟩ := decode_ch h
  have hne : (s == []) = false := by simpa using h
  rcases hc with ⟨h1, rfl, rfl⟩ | ⟨h1, rfl, h2⟩
  · refine ⟨-1, bare_of rfl ((g47_eq _).trans ?_)⟩
    simp only [g47, asS_str, hne, ifB_false, planS_lib e, unT_tup, nthS_zero, nthS_one, asI_int, ifB_beq, if_true, bindO_ok, unc_cons, asB_bool, un0_nil, ifB_decide, show ((1 : Int) < 2) by omega, chN, if_pos h1]
    rfl
  · refine ⟨IntKind.wrap .i64 r, bare_of rfl ((g47_eq _).trans ?_)⟩
    by_cases c1 : r = 65533
    · have : ¬ szL s = 1 := fun k => h2 k c1
      have : ¬ ((szL s : Int) < 2) := by omega
      simp only [g47, asS_str, hne, ifB_false, planS_lib e, unT_tup, nthS_zero, nthS_one, asI_int, ifB_beq, if_pos c1, bindO_ok, unc_cons, asB_bool, un0_nil, ifB_decide, if_neg this, letV_eq, chN, if_neg h1]
    · simp only [g47, asS_str, hne, ifB_false, planS_lib e, unT_tup, nthS_zero, nthS_one, asI_int, ifB_beq, if_neg c1, bindO_ok, unc_cons, asB_bool, un0_nil, letV_eq, chN, if_neg h1]
theorem bad_ok {s : List UInt8} (h : s ≠ []) : (orc vE).bare 28 [.str s] = some (.tup [.int .u8 9, .int .i64 (chN s : Int)]) := by
  refine bare_of rfl ((g28_eq _).trans ?_)
  obtain ⟨r, e⟩ := rune_ok h
  have e' : ∀ {β : Type} (st : St) (K : Kv β), callS (orc vE) 47 [.str s] st K = K (.tup [.int .i64 r, .int .i64 (chN s : Int)]) st q0 := fun st K => callS_bare st K rfl rfl rfl e
  simp only [g28, asS_str, e', unT_tup, nthS_zero, nthS_one, asI_int]
end Go.Proofs.YtcghfoagjphaoaaGreatDoor.Vm
/- A text's tokens, by the program. -/
namespace Go.Proofs.YtcghfoagjphaoaaGreatDoor.Vm
open Go Go.VM Go.Proofs Go.Lex
/-- The ways to cut, each one's answer. -/
def ways (s : List UInt8) : List (Nat × Nat) :=
  match s with
  | [] => []
  | c :: l => [(1, wh isBlank s), (if s.take 2 = [40, 42] then (match rem (s.drop 2) 1 with | some n => (2, n + 2) | none => (9, s.length)) else (0, 0)),
      (if isLow c then (nameK (s.takeWhile isBeh), wh isBeh s) else (0, 0)), (if wh isDig s = 0 then (5, 0) else number s), (if c = 34 then ((txt l).1, (txt l).2 + 1) else (0, 0)),
      (if twos.contains (s.take 2) then (8, 2) else (8, if isOne c then 1 else 0)), (9, chN s)]
def fids : List FuncId := [22, 23, 24, 25, 26, 27, 28]
theorem ways_ok {s : List UInt8} (hs : s.length ≤ 500000) {j : Nat} {f : FuncId} {p : Nat × Nat} (hf : fids[j]? = some f) (hp : (ways s)[j]? = some p) :
    (orc vE).bare f [.str s] = some (.tup [.int .u8 (p.1 : Int), .int .i64 (p.2 : Int)]) ∧ vE.full f = false ∧ vE.prim f = none := by
  cases s with
  | nil => simp [ways] at hp
  | cons c l =>
    match j, hf, hp with
    | 0, hf, hp => cases hf; cases hp; exact ⟨blank_ok (by omega), rfl, rfl⟩
    | 1, hf, hp =>
      cases hf; cases hp
      refine ⟨(remark_ok (by omega)).trans ?_, rfl, rfl⟩
      split
      · cases rem (List.drop 2 (c :: l)) 1 <;> rfl
      · rfl
    | 2, hf, hp =>
      cases hf; cases hp
      refine ⟨(name_ok (by omega)).trans ?_, rfl, rfl⟩
      split <;> rfl
    | 3, hf, hp =>
      cases hf; cases hp
      refine ⟨(number_ok hs).trans ?_, rfl, rfl⟩
      split <;> rfl
    | 4, hf, hp =>
      cases hf; cases hp
      refine ⟨(text_ok (by omega)).trans ?_, rfl, rfl⟩
      split <;> rfl
    | 5, hf, hp =>
      cases hf; cases hp
      refine ⟨sign_ok.trans ?_, rfl, rfl⟩
      split
      · rfl
      · cases isOne c <;> rfl
    | 6, hf, hp => cases hf; cases hp; exact ⟨bad_ok (by simp), rfl, rfl⟩
    | j + 7, hf, hp => simp [fids] at hf
/-- The first one that cuts. -/
def first : List (Nat × Nat) → Nat × Nat
  | [] => (9, 0)
  | p :: l => if 0 < p.2 then p else first l
theorem low_beh {c : UInt8} (h : isLow c = true) : isBeh c = true := by unfold isBeh; rw [h]; rfl
theorem first_cut {s : List UInt8} (h : s ≠ []) : first (ways s) = cut s := by
  cases s with
  | nil => exact absurd rfl h
  | cons c l =>
    unfold cut
    simp only [ways, first]
    cases hb : isBlank c with
    | true =>
      have : 0 < wh isBlank (c :: l) := by rw [wh_cons, if_pos hb]; omega
      simp only [if_pos this, if_true]
    | false =>
      have : ¬ 0 < wh isBlank (c :: l) := by rw [wh_cons, hb]; simp
      simp only [if_neg this, Bool.false_eq_true, if_false]
      by_cases hr : (c :: l).take 2 = [40, 42]
      · simp only [if_pos hr]
        cases rem (List.drop 2 (c :: l)) 1 with
        | some n => simp
        | none => simp
      · simp only [if_neg hr, show ¬ (0 : Nat) < 0 by omega, if_false]
        cases hl : isLow c with
        | true =>
          have : 0 < wh isBeh (c :: l) := by rw [wh_cons, if_pos (low_beh hl)]; omega
          simp only [if_pos this, if_true]
        | false =>
          simp only [Bool.false_eq_true, if_false, show ¬ (0 : Nat) < 0 by omega]
          cases hd : isDig c with
          | true =>
            have h1 : 0 < wh isDig (c :: l) := by rw [wh_cons, if_pos hd]; omega
            have h2 := (number_le (c :: l) h1).1
            have h3 : ¬ wh isDig (c :: l) = 0 := by omega
            simp only [if_neg h3, show 0 < (number (c :: l)).2 by omega, if_true]
          | false =>
            have h1 : wh isDig (c :: l) = 0 := by rw [wh_cons, hd]; simp
            simp only [if_pos h1, show ¬ (0 : Nat) < 0 by omega, if_false, Bool.false_eq_true]
            by_cases hq : c = 34
            · simp only [if_pos hq, show 0 < (txt l).2 + 1 by omega, if_true]
            · simp only [if_neg hq, show ¬ (0 : Nat) < 0 by omega, if_false]
              by_cases ht : twos.contains ((c :: l).take 2) = true
              · simp only [if_pos ht, show (0 : Nat) < 2 by omega, if_true]
              · simp only [if_neg ht]
                cases ho : isOne c with
                | true => simp
                | false =>
                  have hz : 0 < chN (c :: l) := by unfold chN; split <;> omega
                  simp only [Bool.false_eq_true, if_false, show ¬ (0 : Nat) < 0 by omega, hz, if_true]
                  rfl
theorem callF_fn {β : Type} {f g : FuncId} (hp : vE.prim f = none) (args : List AV) (st : St) (K : Kv β) : callF (orc vE) (Sx.prim (sx vE g)) (.fn (.func f) [] []) args st K = callS (orc vE) f args st K := by
  have hp : Sx.prim (sx vE g) f = none := hp
  simp only [callF, callP, hp, List.nil_append, List.append_nil]
  rfl
/-- A token as a value. -/
def tok (p : Nat × List UInt8) : AV := .agg [.int .u8 (p.1 : Int), .str p.2]
def fnsV : AV := AV.sl 1 [AV.fn (Fn.func 22) [] [], AV.fn (Fn.func 23) [] [], AV.fn (Fn.func 24) [] [], AV.fn (Fn.func 25) [] [], AV.fn (Fn.func 26) [] [], AV.fn (Fn.func 27) [] [], AV.fn (Fn.func 28) [] []] Perm.shut
theorem fns_idx {β : Type} {j : Nat} {f : FuncId} (hf : fids[j]? = some f) (st : St) (K : AV → List Nat → Option β) : idxA 1 fnsV (j : Int) st K = K (.ip [.fn (.func f) [] []]) [] := by
  match j, hf with
  | 0, hf => cases hf; rfl
  | 1, hf => cases hf; rfl
  | 2, hf => cases hf; rfl
  | 3, hf => cases hf; rfl
  | 4, hf => cases hf; rfl
  | 5, hf => cases hf; rfl
  | 6, hf => cases hf; rfl
  | j + 7, hf => simp [fids] at hf
theorem cut_loop {s : List UInt8} (hs : s.length ≤ 500000) {st : St} {v : AV} {es : List AV} (ho : Own st 2 39 v es) (he : es.length ≤ 500000) : ∀ (l : List (Nat × Nat)) (j : Nat), (ways s).drop j = l → l.length + j = 7 → 0 < (first l).2 → (first l).2 ≤ s.length →
    ∃ v' st', loopO g16_L1 ([v, .str s, .int .i64 (j : Int)], st) = some (0, [v', .str (s.drop (first l).2)], st') ∧ Own st' 2 39 v' (es ++ [tok ((first l).1, s.take (first l).2)])
  | [], j, hd, hj, h0, _ => by simp [first] at h0
  | p :: l, j, hd, hj, h0, hle => by
    obtain ⟨hg, hr, hlt⟩ := drop_cons (α := Nat × Nat) hd
    have hj7 : j < 7 := by simp at hj; omega
    obtain ⟨f, hf⟩ : ∃ f, fids[j]? = some f := ⟨fids[j], List.getElem?_eq_getElem hj7⟩
    obtain ⟨hb, hfull, hprim⟩ := ways_ok hs hf hg
    have hc : ∀ {β : Type} (st : St) (K : Kv β), callS (orc vE) f [.str s] st K = K (.tup [.int .u8 (p.1 : Int), .int .i64 (p.2 : Int)]) st q0 := fun st K => callS_bare st K hfull rfl rfl hb
    have hidx := fun {β : Type} (st : St) (K : AV → List Nat → Option β) => fns_idx hf st K
    unfold fnsV at hidx
    have q : (j : Int) < 7 := by omega
    by_cases hp : 0 < p.2
    · have hp' : (p.2 : Int) > 0 := by omega
      have hfi : first (p :: l) = p := by simp only [first, if_pos hp]
      rw [hfi] at hle ⊢
      obtain ⟨v', st', o', k', x', a'⟩ := own_app (b := 24) (tok (p.1, s.take p.2)) ho (room_of (by omega) (by omega) (by omega))
      refine ⟨v', st', loopO_inr ?_, o'⟩
      have a' : ∀ {β : Type} (K : Kv β), appS 2 24 39 v [.agg [.int .u8 (p.1 : Int), .str (s.take p.2)]] st K = K v' st' x' := fun K => a' K
      simp only [g16_L1, unc_cons, asS_str, asI_int, un0_nil, ifB_decide, if_pos q, hidx, loadS_ip, takeO_one, bindO_ok, callF_fn hprim, hc, unT_tup, nthS_zero, nthS_one, if_pos hp', uptoS_nat hle, List.drop_zero, letV_eq, a', List.take_length]
    · have hp' : ¬ (p.2 : Int) > 0 := by omega
      have hfi : first (p :: l) = first l := by simp only [first, if_neg hp]
      rw [hfi] at h0 hle ⊢
      obtain ⟨v', st', e', o'⟩ := cut_loop hs ho he l (j + 1) hr (by simp at hj; omega) h0 hle
      refine ⟨v', st', ?_, o'⟩
      rw [loopO_inl (s' := ([v, .str s, .int .i64 ((j + 1 : Nat) : Int)], st)), e']
      simp only [g16_L1, unc_cons, asS_str, asI_int, un0_nil, ifB_decide, if_pos q, hidx, loadS_ip, takeO_one, bindO_ok, callF_fn hprim, hc, unT_tup, nthS_zero, nthS_one, if_neg hp', letV_eq, wrapA1 (show j + 1 ≤ 9223372036854775807 by omega)]
theorem toks_loop : ∀ (n : Nat) (s : List UInt8) (st : St) (v : AV) (es : List AV), s.length ≤ n → n ≤ 500000 → Own st 2 39 v es → es.length + n ≤ 500000 →
    ∃ v' st', loopO g16_L2 ([v, .str s], st) = some (0, [v'], st') ∧ Own st' 2 39 v' (es ++ (tokens s).map tok)
  | n, [], st, v, es, _, _, ho, _ => by
    refine ⟨v, st, loopO_inr ?_, by simpa [tokens_nil] using ho⟩
    simp only [g16_L2, unc_cons, asS_str, un0_nil, show (!(([] : List UInt8) == [])) = false from rfl, ifB_false]
  | 0, c :: l, _, _, _, h, _, _, _ => by simp at h
  | n + 1, c :: l, st, v, es, h, hn, ho, he => by
    have hc := cut_le (s := c :: l) (by simp)
    have hfc := first_cut (s := c :: l) (by simp)
    obtain ⟨v1, st1, e1, o1⟩ := cut_loop (s := c :: l) (by omega) ho (by omega) (ways (c :: l)) 0 rfl rfl (by rw [hfc]; omega) (by rw [hfc]; omega)
    rw [hfc] at e1 o1
    have hd : ((c :: l).drop (cut (c :: l)).2).length ≤ n := by rw [List.length_drop]; omega
    obtain ⟨v2, st2, e2, o2⟩ := toks_loop n ((c :: l).drop (cut (c :: l)).2) st1 v1 _ hd (by omega) o1 (by rw [List.length_append]; simp; omega)
    refine ⟨v2, st2, ?_, ?_⟩
    · have e1 : loopO g16_L1 ([v, .str (c :: l), .int .i64 0], st) = _ := e1
      rw [loopO_inl (s' := ([v1, .str ((c :: l).drop (cut (c :: l)).2)], st1)), e2]
      simp only [g16_L2, unc_cons, asS_str, un0_nil, show (!((c :: l : List UInt8) == [])) = true from rfl, ifB_true, e1, bindO_ok]
    · rw [tokens_cons (by simp), List.map_cons]
      rw [List.append_assoc] at o2
      exact o2
theorem valid_ok {s : List UInt8} (hs : s.length ≤ 1000000) : (orc vE).bare 21 [.str s] = some (.bool (validS s)) := by
  refine bare_of rfl ((g21_eq _).trans ?_)
  simp only [g21, asS_str, planS_lib (libValid_ok (show s.length ≤ 9223372036854775807 by omega)), asB_bool]
theorem call_valid {β : Type} {s : List UInt8} (hs : s.length ≤ 1000000) (st : St) (K : Kv β) : callS (orc vE) 21 [.str s] st K = K (.bool (validS s)) st q0 := callS_bare st K rfl rfl rfl (valid_ok hs)
/-- Tokens. -/
theorem tokens_large {s : List UInt8} (h : 65536 < s.length) : (orc vE).bare 16 [.str s] = some (.tup [.nils, .int .i64 40]) := by
  refine bare_of rfl ((g16_eq _).trans ?_)
  have q : (s.length : Int) > 65536 := by omega
  simp only [g16, asS_str, ifB_decide, if_pos q]
theorem tokens_form {s : List UInt8} (h : s.length ≤ 65536) (hv : validS s = false) : (orc vE).bare 16 [.str s] = some (.tup [.nils, .int .i64 4]) := by
  refine bare_of rfl ((g16_eq _).trans ?_)
  have q : ¬ (s.length : Int) > 65536 := by omega
  simp only [g16, asS_str, ifB_decide, if_neg q, call_valid (show s.length ≤ 1000000 by omega), hv, asB_bool, Bool.not_false, ifB_true]
theorem tokens_ok {s : List UInt8} (h : s.length ≤ 65536) (hv : validS s = true) : ∃ x, (orc vE).bare 16 [.str s] = some (.tup [x, .int .i64 0]) ∧ IsSl 2 x ((tokens s).map tok) := by
  have q : ¬ (s.length : Int) > 65536 := by omega
  obtain ⟨v', st', e, o⟩ := toks_loop s.length s (St.mk 0 0 Tr.leaf) .nils [] (Nat.le_refl _) (by omega) (Own.nils (Nat.le_refl _) _ _) (by simp; omega)
  rw [List.nil_append] at o
  obtain ⟨x, hx, hf⟩ := frz_own2 o (fz_int .i64 0) rfl
  refine ⟨x, bare_of rfl ((g16_eq _).trans ?_), hx⟩
  simp only [g16, asS_str, ifB_decide, if_neg q, call_valid (show s.length ≤ 1000000 by omega), hv, asB_bool, Bool.not_true, ifB_false, e, bindO_ok, unc_cons, un0_nil, hf]
end Go.Proofs.YtcghfoagjphaoaaGreatDoor.Vm
/- UTF-8 by the reference: a code point's bytes, and back. -/
namespace Go.Proofs.YtcghfoagjphaoaaGreatDoor.Vm
open Go Go.VM Go.Proofs Go.Lex
def bitsF (o : Int) : List UInt8 → Int
  | [] => o
  | b :: l => bitsF (o * 64 + b.toNat - 128) l
theorem bits_loop (l : List UInt8) (hl : l.length ≤ 4) (st : St) : ∀ (r : List UInt8) (i : Nat) (o : Int), l.drop i = r → i ≤ l.length → -(1000 * 100 ^ i : Nat) ≤ o → o ≤ (1000 * 100 ^ i : Nat) →
    loopO (g48_L1 l) ([.int .i64 o, .int .i64 (i : Int)], st) = some (0, [.int .i64 (bitsF o r)], st)
  | [], i, o, hd, hi, _, _ => by
    have := List.drop_eq_nil_iff.1 hd
    have q : ¬ (i : Int) < (l.length : Int) := by omega
    refine loopO_inr ?_
    simp only [g48_L1, unc_cons, asI_int, un0_nil, ifB_decide, if_neg q, bitsF]
  | b :: r, i, o, hd, hi, h1, h2 => by
    obtain ⟨hg, hr, hlt⟩ := drop_cons hd
    have q : (i : Int) < (l.length : Int) := by omega
    have hb : l[i] = b := getElem_of hlt hg
    have hb2 := UInt8.toNat_lt b
    have hp : (100 : Nat) ^ i ≤ 100 ^ 4 := Nat.pow_le_pow_right (by omega) (by omega)
    have hp1 : 1 ≤ (100 : Nat) ^ i := Nat.one_le_pow _ _ (by omega)
    have hp2 : (100 : Nat) ^ (i + 1) = 100 * 100 ^ i := by rw [Nat.pow_succ, Nat.mul_comm]
    have hp3 : (100 : Nat) ^ 4 = 100000000 := by decide
    have w1 : IntKind.wrap .i64 (o * 64) = o * 64 := wrap_i64 (by omega) (by omega)
    have w2 : IntKind.wrap .i64 (b.toNat : Int) = (b.toNat : Int) := wrap_i64 (by omega) (by omega)
    have w3 : IntKind.wrap .i64 (o * 64 + (b.toNat : Int)) = o * 64 + (b.toNat : Int) := wrap_i64 (by omega) (by omega)
    have w4 : IntKind.wrap .i64 (o * 64 + (b.toNat : Int) - 128) = o * 64 + (b.toNat : Int) - 128 := wrap_i64 (by omega) (by omega)
    have ih := bits_loop l hl st r (i + 1) (o * 64 + (b.toNat : Int) - 128) hr (by omega) (by omega) (by omega)
    rw [loopO_inl (s' := ([.int .i64 (o * 64 + (b.toNat : Int) - 128), .int .i64 ((i + 1 : Nat) : Int)], st)), ih]
    · rfl
    · simp only [g48_L1, unc_cons, asI_int, un0_nil, ifB_decide, if_pos q, letV_eq, w1, idxStr_nat hlt, hb, w2, w3, w4, wrapA1 (show i + 1 ≤ 9223372036854775807 by omega)]
def headOf : Nat → Int
  | 2 => 192
  | 3 => 224
  | 4 => 240
  | _ => 0
def bitsI : List UInt8 → Int
  | [] => 0
  | [b] => b.toNat
  | b :: l => bitsF ((b.toNat : Int) - headOf (l.length + 1)) l
theorem heads_idx {β : Type} {n : Nat} (h : 2 ≤ n) (h4 : n ≤ 4) (st : St) (K : AV → List Nat → Option β) : idxA 1 (AV.sl 1 [AV.int .i64 0, AV.int .i64 0, AV.int .i64 192, AV.int .i64 224, AV.int .i64 240] Perm.shut) (n : Int) st K = K (.ip [.int .i64 (headOf n)]) [] := by
  match n, h, h4 with
  | 2, _, _ => rfl
  | 3, _, _ => rfl
  | 4, _, _ => rfl
theorem bits_ok {l : List UInt8} (h : l ≠ []) (h4 : l.length ≤ 4) : (orc vE).bare 48 [.str l] = some (.int .i64 (bitsI l)) := by
  refine bare_of rfl ((g48_eq _).trans ?_)
  cases l with
  | nil => exact absurd rfl h
  | cons b r =>
    have hb2 := UInt8.toNat_lt b
    have i0 : ∀ {β : Type} (K : UInt8 → Option β), idxStr (b :: r) 0 K = K b := fun K => idxStr_nat (k := 0) (by simp) K
    have w2 : IntKind.wrap .i64 (b.toNat : Int) = (b.toNat : Int) := wrap_i64 (by omega) (by omega)
    cases r with
    | nil =>
      have q : (([b] : List UInt8).length : Int) = 1 := rfl
      simp only [g48, asS_str, ifB_beq, if_pos q, i0, letV_eq, w2, bitsI]
    | cons c r =>
      have q : ¬ (((b :: c :: r).length : Nat) : Int) = 1 := by simp; omega
      have hh : headOf ((b :: c :: r).length) ≤ 240 ∧ 0 ≤ headOf ((b :: c :: r).length) := by
        unfold headOf; split <;> omega
      have w3 : IntKind.wrap .i64 ((b.toNat : Int) - headOf ((b :: c :: r).length)) = (b.toNat : Int) - headOf ((b :: c :: r).length) := wrap_i64 (by omega) (by omega)
      have hl := bits_loop (b :: c :: r) h4 (St.mk 0 0 Tr.leaf) (c :: r) 1 ((b.toNat : Int) - headOf ((b :: c :: r).length)) rfl (by simp) (by omega) (by omega)
      have hl : loopO (g48_L1 (b :: c :: r)) ([.int .i64 ((b.toNat : Int) - headOf ((b :: c :: r).length)), .int .i64 1], St.mk 0 0 Tr.leaf) = _ := hl
      simp only [g48, asS_str, ifB_beq, if_neg q, i0, letV_eq, w2, heads_idx (show 2 ≤ (b :: c :: r).length by simp) h4, loadS_ip, takeO_one, bindO_ok, asI_int, w3]
      rw [hl]
      simp only [bindO_ok, unc_cons, asI_int, un0_nil, bitsI, List.length_cons]
def putN (k : Nat) : List UInt8 :=
  if 1114111 < k ∨ (55296 ≤ k ∧ k ≤ 57343) then []
  else if k < 128 then [UInt8.ofNat k]
  else if k < 2048 then [UInt8.ofNat (192 + k / 64), UInt8.ofNat (128 + k % 64)]
  else if k < 65536 then [UInt8.ofNat (224 + k / 4096), UInt8.ofNat (128 + k / 64 % 64), UInt8.ofNat (128 + k % 64)]
  else [UInt8.ofNat (240 + k / 262144), UInt8.ofNat (128 + k / 4096 % 64), UInt8.ofNat (128 + k / 64 % 64), UInt8.ofNat (128 + k % 64)]
theorem wrap8 {n : Nat} (h : n ≤ 255) : IntKind.wrap .u8 (n : Int) = (n : Int) := by
  show (if (false && decide ((n : Int) % (2 ^ 8 : Int) ≥ (2 ^ 7 : Int))) = true then (n : Int) % (2 ^ 8 : Int) - (2 ^ 8 : Int) else (n : Int) % (2 ^ 8 : Int)) = _
  simp only [Bool.false_and, Bool.false_eq_true, if_false]
  omega
theorem put_ok' (k : Nat) (hk : k ≤ 9223372036854775807) : (orc vE).bare 49 [.int .i64 (k : Int)] = some (.str (putN k)) := by
  refine bare_of rfl ((g49_eq _).trans ?_)
  have q0 : ¬ ((k : Int) < 0) := by omega
  simp only [g49, asI_int, ifB_decide, if_neg q0]
  unfold putN
  by_cases c1 : (k : Int) > 1114111
  · simp only [if_pos c1, bindO_ok, unc_cons, asB_bool, un0_nil, ifB_true, if_pos (show 1114111 < k ∨ (55296 ≤ k ∧ k ≤ 57343) by omega)]
  rw [if_neg c1]
  by_cases c2 : (k : Int) ≥ 55296 ∧ (k : Int) ≤ 57343
  · simp only [if_pos c2.1, decide_eq_true c2.2, bindO_ok, unc_cons, asB_bool, un0_nil, ifB_true, if_pos (show 1114111 < k ∨ (55296 ≤ k ∧ k ≤ 57343) by omega)]
  have e0 : ∀ {β : Type} (K : Car → Option β), bindO (if (k : Int) ≥ 55296 then some (([AV.bool (decide ((k : Int) ≤ 57343))], St.mk 0 0 Tr.leaf) : Car) else some ([AV.bool false], St.mk 0 0 Tr.leaf)) K = K ([AV.bool false], St.mk 0 0 Tr.leaf) := by
    intro β K
    by_cases h : (k : Int) ≥ 55296
    · have : ¬ (k : Int) ≤ 57343 := fun h2 => c2 ⟨h, h2⟩
      rw [if_pos h, decide_eq_false this]; rfl
    · rw [if_neg h]; rfl
  rw [e0]
  rw [if_neg (show ¬ (1114111 < k ∨ (55296 ≤ k ∧ k ≤ 57343)) by omega)]
  simp only [unc_cons, asB_bool, un0_nil, ifB_false, ifB_decide]
  by_cases c3 : k < 128
  · rw [if_pos (show (k : Int) < 128 by omega), if_pos c3]
    simp only [letV_eq, wrap8 (show k ≤ 255 by omega), Int.toNat_natCast]
  rw [if_neg (show ¬ (k : Int) < 128 by omega), if_neg c3]
  have t64 : Int.tdiv (k : Int) 64 = ((k / 64 : Nat) : Int) := rfl
  have t4096 : Int.tdiv (k : Int) 4096 = ((k / 4096 : Nat) : Int) := rfl
  have t262144 : Int.tdiv (k : Int) 262144 = ((k / 262144 : Nat) : Int) := rfl
  have m64 : ∀ n : Nat, Int.tmod (n : Int) 64 = ((n % 64 : Nat) : Int) := fun n => rfl
  have wc : ∀ c n : Nat, c + n ≤ 9223372036854775807 → IntKind.wrap .i64 ((c : Int) + (n : Int)) = ((c + n : Nat) : Int) := fun c n h => wrapA h
  have a1 : ∀ n : Nat, n ≤ 1000 → IntKind.wrap .i64 (128 + (n : Int)) = ((128 + n : Nat) : Int) := fun n h => wc 128 n (by omega)
  have a2 : ∀ n : Nat, n ≤ 1000 → IntKind.wrap .i64 (192 + (n : Int)) = ((192 + n : Nat) : Int) := fun n h => wc 192 n (by omega)
  have a3 : ∀ n : Nat, n ≤ 1000 → IntKind.wrap .i64 (224 + (n : Int)) = ((224 + n : Nat) : Int) := fun n h => wc 224 n (by omega)
  have a4 : ∀ n : Nat, n ≤ 1000 → IntKind.wrap .i64 (240 + (n : Int)) = ((240 + n : Nat) : Int) := fun n h => wc 240 n (by omega)
  by_cases c4 : k < 2048
  · rw [if_pos (show (k : Int) < 2048 by omega), if_pos c4]
    simp only [letV_eq, t64, m64, wrapN (show k / 64 ≤ 9223372036854775807 by omega), a1 (k % 64) (by omega), a2 (k / 64) (by omega), wrap8 (show 192 + k / 64 ≤ 255 by omega), wrap8 (show 128 + k % 64 ≤ 255 by omega), Int.toNat_natCast]
  rw [if_neg (show ¬ (k : Int) < 2048 by omega), if_neg c4]
  by_cases c5 : k < 65536
  · rw [if_pos (show (k : Int) < 65536 by omega), if_pos c5]
    simp only [letV_eq, t64, t4096, m64, wrapN (show k / 64 ≤ 9223372036854775807 by omega), wrapN (show k / 4096 ≤ 9223372036854775807 by omega), a1 (k % 64) (by omega), a1 (k / 64 % 64) (by omega), a3 (k / 4096) (by omega), wrap8 (show 224 + k / 4096 ≤ 255 by omega), wrap8 (show 128 + k / 64 % 64 ≤ 255 by omega), wrap8 (show 128 + k % 64 ≤ 255 by omega), Int.toNat_natCast]
  rw [if_neg (show ¬ (k : Int) < 65536 by omega), if_neg c5]
  simp only [letV_eq, t64, t4096, t262144, m64, wrapN (show k / 64 ≤ 9223372036854775807 by omega), wrapN (show k / 4096 ≤ 9223372036854775807 by omega), wrapN (show k / 262144 ≤ 9223372036854775807 by omega), a1 (k % 64) (by omega), a1 (k / 64 % 64) (by omega), a1 (k / 4096 % 64) (by omega), a4 (k / 262144) (by omega), wrap8 (show 240 + k / 262144 ≤ 255 by omega), wrap8 (show 128 + k / 4096 % 64 ≤ 255 by omega), wrap8 (show 128 + k / 64 % 64 ≤ 255 by omega), wrap8 (show 128 + k % 64 ≤ 255 by omega), Int.toNat_natCast]
theorem of_eq {n : Nat} {a : UInt8} (h : n ≤ 255) : UInt8.ofNat n = a ↔ n = a.toNat := by
  constructor
  · intro e; rw [← e, UInt8.toNat_ofNat']; omega
  · intro e; apply UInt8.toNat_inj.1; rw [UInt8.toNat_ofNat']; have := UInt8.toNat_lt a; omega
theorem put1 (a : UInt8) : putN a.toNat = [a] ↔ a.toNat < 128 := by
  have ha := UInt8.toNat_lt a
  unfold putN
  rw [if_neg (by omega)]
  by_cases h : a.toNat < 128
  · rw [if_pos h]; simp [h]
  · rw [if_neg h, if_pos (by omega)]; simp [h]
theorem put2 {k : Nat} {a b : UInt8} (hk : (k : Int) = ((a.toNat : Int) - 192) * 64 + b.toNat - 128) : putN k = [a, b] ↔ (194 ≤ a.toNat ∧ a.toNat ≤ 223) ∧ ¬ (b.toNat < 128 ∨ 191 < b.toNat) := by
  have ha := UInt8.toNat_lt a
  have hb := UInt8.toNat_lt b
  unfold putN
  by_cases c1 : 1114111 < k ∨ (55296 ≤ k ∧ k ≤ 57343)
  · rw [if_pos c1]; simp; omega
  rw [if_neg c1]
  by_cases c2 : k < 128
  · rw [if_pos c2]; simp; omega
  rw [if_neg c2]
  by_cases c3 : k < 2048
  · rw [if_pos c3]
    simp only [List.cons.injEq, and_true, of_eq (show 192 + k / 64 ≤ 255 by omega), of_eq (show 128 + k % 64 ≤ 255 by omega)]
    omega
  rw [if_neg c3]
  by_cases c4 : k < 65536
  · rw [if_pos c4]; simp; omega
  · rw [if_neg c4]; simp; omega
theorem put3 {k : Nat} {a b c : UInt8} (hk : (k : Int) = (((a.toNat : Int) - 224) * 64 + b.toNat - 128) * 64 + c.toNat - 128) :
    putN k = [a, b, c] ↔ (224 ≤ a.toNat ∧ a.toNat ≤ 239) ∧ ¬ (b.toNat < 128 ∨ 191 < b.toNat ∨ c.toNat < 128 ∨ 191 < c.toNat ∨ (a.toNat = 224 ∧ b.toNat < 160) ∨ (a.toNat = 237 ∧ 159 < b.toNat)) := by
  have ha := UInt8.toNat_lt a
  have hb := UInt8.toNat_lt b
  have hc := UInt8.toNat_lt c
  unfold putN
  by_cases c1 : 1114111 < k ∨ (55296 ≤ k ∧ k ≤ 57343)
  · rw [if_pos c1]; simp; omega
  rw [if_neg c1]
  by_cases c2 : k < 128
  · rw [if_pos c2]; simp; omega
  rw [if_neg c2]
  by_cases c3 : k < 2048
  · rw [if_pos c3]; simp; omega
  rw [if_neg c3]
  by_cases c4 : k < 65536
  · rw [if_pos c4]
    simp only [List.cons.injEq, and_true, of_eq (show 224 + k / 4096 ≤ 255 by omega), of_eq (show 128 + k / 64 % 64 ≤ 255 by omega), of_eq (show 128 + k % 64 ≤ 255 by omega)]
    omega
  · rw [if_neg c4]; simp; omega
theorem put4 {k : Nat} {a b c d : UInt8} (hk : (k : Int) = ((((a.toNat : Int) - 240) * 64 + b.toNat - 128) * 64 + c.toNat - 128) * 64 + d.toNat - 128) :
    putN k = [a, b, c, d] ↔ (240 ≤ a.toNat ∧ a.toNat ≤ 244) ∧ ¬ (b.toNat < 128 ∨ 191 < b.toNat ∨ c.toNat < 128 ∨ 191 < c.toNat ∨ d.toNat < 128 ∨ 191 < d.toNat ∨ (a.toNat = 240 ∧ b.toNat < 144) ∨ (a.toNat = 244 ∧ 143 < b.toNat)) := by
  have ha := UInt8.toNat_lt a
  have hb := UInt8.toNat_lt b
  have hc := UInt8.toNat_lt c
  have hd := UInt8.toNat_lt d
  unfold putN
  by_cases c1 : 1114111 < k ∨ (55296 ≤ k ∧ k ≤ 57343)
  · rw [if_pos c1]; simp; omega
  rw [if_neg c1]
  by_cases c2 : k < 128
  · rw [if_pos c2]; simp; omega
  rw [if_neg c2]
  by_cases c3 : k < 2048
  · rw [if_pos c3]; simp; omega
  rw [if_neg c3]
  by_cases c4 : k < 65536
  · rw [if_pos c4]; simp; omega
  · rw [if_neg c4]
    simp only [List.cons.injEq, and_true, of_eq (show 240 + k / 262144 ≤ 255 by omega), of_eq (show 128 + k / 4096 % 64 ≤ 255 by omega), of_eq (show 128 + k / 64 % 64 ≤ 255 by omega), of_eq (show 128 + k % 64 ≤ 255 by omega)]
    omega
end Go.Proofs.YtcghfoagjphaoaaGreatDoor.Vm
/- Runes and valid texts, by the reference. -/
namespace Go.Proofs.YtcghfoagjphaoaaGreatDoor.Vm
open Go Go.VM Go.Proofs Go.Lex
def goodT (t : List UInt8) : Prop := 0 ≤ bitsI t ∧ putN (bitsI t).toNat = t
theorem good1 (a : UInt8) : goodT [a] ↔ a.toNat < 128 := by
  have e : bitsI [a] = (a.toNat : Int) := rfl
  unfold goodT
  rw [e, Int.toNat_natCast, put1]
  exact ⟨fun h => h.2, fun h => ⟨by omega, h⟩⟩
theorem good2 (a b : UInt8) : goodT [a, b] ↔ (194 ≤ a.toNat ∧ a.toNat ≤ 223) ∧ ¬ (b.toNat < 128 ∨ 191 < b.toNat) := by
  have e : bitsI [a, b] = ((a.toNat : Int) - 192) * 64 + b.toNat - 128 := rfl
  unfold goodT
  rw [e]
  constructor
  · rintro ⟨h0, h⟩
    exact (put2 (by omega)).1 h
  · intro h
    have h0 : 0 ≤ ((a.toNat : Int) - 192) * 64 + b.toNat - 128 := by omega
    exact ⟨h0, (put2 (by omega)).2 h⟩
theorem good3 (a b c : UInt8) : goodT [a, b, c] ↔ (224 ≤ a.toNat ∧ a.toNat ≤ 239) ∧ ¬ (b.toNat < 128 ∨ 191 < b.toNat ∨ c.toNat < 128 ∨ 191 < c.toNat ∨ (a.toNat = 224 ∧ b.toNat < 160) ∨ (a.toNat = 237 ∧ 159 < b.toNat)) := by
  have e : bitsI [a, b, c] = (((a.toNat : Int) - 224) * 64 + b.toNat - 128) * 64 + c.toNat - 128 := rfl
  unfold goodT
  rw [e]
  constructor
  · rintro ⟨h0, h⟩
    exact (put3 (by omega)).1 h
  · intro h
    have h0 : 0 ≤ (((a.toNat : Int) - 224) * 64 + b.toNat - 128) * 64 + c.toNat - 128 := by omega
    exact ⟨h0, (put3 (by omega)).2 h⟩
theorem good4 (a b c d : UInt8) : goodT [a, b, c, d] ↔ (240 ≤ a.toNat ∧ a.toNat ≤ 244) ∧ ¬ (b.toNat < 128 ∨ 191 < b.toNat ∨ c.toNat < 128 ∨ 191 < c.toNat ∨ d.toNat < 128 ∨ 191 < d.toNat ∨ (a.toNat = 240 ∧ b.toNat < 144) ∨ (a.toNat = 244 ∧ 143 < b.toNat)) := by
  have e : bitsI [a, b, c, d] = ((((a.toNat : Int) - 240) * 64 + b.toNat - 128) * 64 + c.toNat - 128) * 64 + d.toNat - 128 := rfl
  unfold goodT
  rw [e]
  constructor
  · rintro ⟨h0, h⟩
    exact (put4 (by omega)).1 h
  · intro h
    have h0 : 0 ≤ ((((a.toNat : Int) - 240) * 64 + b.toNat - 128) * 64 + c.toNat - 128) * 64 + d.toNat - 128 := by omega
    exact ⟨h0, (put4 (by omega)).2 h⟩
theorem bits_bound : ∀ (l : List UInt8), l.length ≤ 4 → bitsI l ≤ 100000000
  | [], _ => by simp [bitsI]
  | [a], _ => by have := UInt8.toNat_lt a; simp only [bitsI]; omega
  | [a, b], _ => by
    have := UInt8.toNat_lt a; have := UInt8.toNat_lt b
    have e : bitsI [a, b] = ((a.toNat : Int) - 192) * 64 + b.toNat - 128 := rfl
    omega
  | [a, b, c], _ => by
    have := UInt8.toNat_lt a; have := UInt8.toNat_lt b; have := UInt8.toNat_lt c
    have e : bitsI [a, b, c] = (((a.toNat : Int) - 224) * 64 + b.toNat - 128) * 64 + c.toNat - 128 := rfl
    omega
  | [a, b, c, d], _ => by
    have := UInt8.toNat_lt a; have := UInt8.toNat_lt b; have := UInt8.toNat_lt c; have := UInt8.toNat_lt d
    have e : bitsI [a, b, c, d] = ((((a.toNat : Int) - 240) * 64 + b.toNat - 128) * 64 + c.toNat - 128) * 64 + d.toNat - 128 := rfl
    omega
  | _ :: _ :: _ :: _ :: _ :: _, h => by simp at h
section
variable {s : List UInt8} (st : St) {n : Nat} (h1 : 1 ≤ n) (h4 : n ≤ 4) (hl : n ≤ s.length)
include h1 h4 hl
theorem rune_calls : (s.take n ≠ [] ∧ (s.take n).length ≤ 4) ∧ (∀ {β : Type} (st : St) (K : Kv β), callS (orc vE) 48 [.str (s.take n)] st K = K (.int .i64 (bitsI (s.take n))) st q0) := by
  have hlen : (s.take n).length = n := by rw [List.length_take]; omega
  have hne : s.take n ≠ [] := by
    intro e
    rw [e] at hlen
    simp at hlen; omega
  exact ⟨⟨hne, by omega⟩, fun st K => callS_bare st K rfl rfl rfl (bits_ok hne (by omega))⟩
theorem rune_yes (hg : goodT (s.take n)) : loopO (g29_L1 s) ([.int .i64 0, .int .i64 0, .int .i64 (n : Int)], st) = some (1, [.int .i64 (bitsI (s.take n)), .int .i64 (n : Int)], st) := by
  obtain ⟨⟨hne, h4'⟩, hb⟩ := rune_calls h1 h4 hl
  have hbd := bits_bound (s.take n) h4'
  obtain ⟨g0, g1⟩ := hg
  obtain ⟨k, hk⟩ := Int.eq_ofNat_of_zero_le g0
  have hp : ∀ {β : Type} (st : St) (K : Kv β), callS (orc vE) 49 [.int .i64 (bitsI (s.take n))] st K = K (.str (s.take n)) st q0 := fun st K => by
    rw [hk, callS_bare st K rfl rfl rfl (put_ok' k (by omega))]
    rw [hk] at g1
    rw [show (s.take n) = putN k from g1.symm]
  refine loopO_inr ?_
  have q1 : (n : Int) ≤ 4 := by omega
  have q2 : (n : Int) ≤ (s.length : Int) := by omega
  simp only [g29_L1, unc_cons, asI_int, un0_nil, ifB_decide, if_pos q1, decide_eq_true q2, bindO_ok, asB_bool, ifB_true, uptoS_nat hl, List.drop_zero, letV_eq, hb, if_pos (show bitsI (s.take n) ≥ 0 from g0), hp, asS_str, apart_kept, apart_kept2, Bool.and_self, chk_true, beq_self_eq_true]
theorem rune_no (hg : ¬ goodT (s.take n)) : loopO (g29_L1 s) ([.int .i64 0, .int .i64 0, .int .i64 (n : Int)], st) = loopO (g29_L1 s) ([.int .i64 0, .int .i64 0, .int .i64 ((n + 1 : Nat) : Int)], st) := by
  obtain ⟨⟨hne, h4'⟩, hb⟩ := rune_calls h1 h4 hl
  have hbd := bits_bound (s.take n) h4'
  have q1 : (n : Int) ≤ 4 := by omega
  have q2 : (n : Int) ≤ (s.length : Int) := by omega
  refine loopO_inl ?_
  by_cases g0 : bitsI (s.take n) ≥ 0
  · obtain ⟨k, hk⟩ := Int.eq_ofNat_of_zero_le g0
    have hne2 : (putN k == s.take n) = false := by
      rw [beq_eq_false_iff_ne]
      intro e
      exact hg ⟨g0, by rw [hk]; exact e⟩
    have hp : ∀ {β : Type} (st : St) (K : Kv β), callS (orc vE) 49 [.int .i64 (bitsI (s.take n))] st K = K (.str (putN k)) st q0 := fun st K => by
      rw [hk, callS_bare st K rfl rfl rfl (put_ok' k (by omega))]
    simp only [g29_L1, unc_cons, asI_int, un0_nil, ifB_decide, if_pos q1, decide_eq_true q2, bindO_ok, asB_bool, ifB_true, uptoS_nat hl, List.drop_zero, letV_eq, hb, if_pos g0, hp, asS_str, apart_kept, apart_kept2, Bool.and_self, chk_true, hne2, ifB_false, wrapA1 (show n + 1 ≤ 9223372036854775807 by omega)]
  · simp only [g29_L1, unc_cons, asI_int, un0_nil, ifB_decide, if_pos q1, decide_eq_true q2, bindO_ok, asB_bool, ifB_true, uptoS_nat hl, List.drop_zero, letV_eq, hb, if_neg g0, ifB_false, wrapA1 (show n + 1 ≤ 9223372036854775807 by omega)]
end
theorem rune_end {s : List UInt8} (st : St) {n : Nat} (h : 4 < n ∨ s.length < n) : loopO (g29_L1 s) ([.int .i64 0, .int .i64 0, .int .i64 (n : Int)], st) = some (0, [.int .i64 0, .int .i64 0], st) := by
  refine loopO_inr ?_
  by_cases q1 : (n : Int) ≤ 4
  · have q2 : ¬ (n : Int) ≤ (s.length : Int) := by omega
    simp only [g29_L1, unc_cons, asI_int, un0_nil, ifB_decide, if_pos q1, decide_eq_false q2, bindO_ok, asB_bool, ifB_false]
  · simp only [g29_L1, unc_cons, asI_int, un0_nil, ifB_decide, if_neg q1, bindO_ok, asB_bool, ifB_false]
theorem good_pos {t : List UInt8} (h : goodT t) : 0 ≤ bitsI t := h.1
/-- The first character's size. -/
theorem rune_loop {s : List UInt8} (hne : s ≠ []) (st : St) : (szL s = 0 ∧ loopO (g29_L1 s) ([.int .i64 0, .int .i64 0, .int .i64 ((1 : Nat) : Int)], st) = some (0, [.int .i64 0, .int .i64 0], st)) ∨
    (szL s ≠ 0 ∧ ∃ p : Int, 0 ≤ p ∧ loopO (g29_L1 s) ([.int .i64 0, .int .i64 0, .int .i64 ((1 : Nat) : Int)], st) = some (1, [.int .i64 p, .int .i64 (szL s : Int)], st)) := by
  cases s with
  | nil => exact absurd rfl hne
  | cons a s1 =>
  have l1 : 1 ≤ (a :: s1).length := by simp
  by_cases g1 : a.toNat < 128
  · have gg : goodT ((a :: s1).take 1) := (good1 a).2 g1
    have hz : szL (a :: s1) = 1 := by
      show szN _ a.toNat _ _ _ = 1
      unfold szN; rw [if_pos g1]
    exact .inr ⟨by omega, _, good_pos gg, by rw [hz]; exact rune_yes st (Nat.le_refl _) (by omega) l1 gg⟩
  have n1 := rune_no st (n := 1) (Nat.le_refl _) (by omega) l1 (fun h => g1 ((good1 a).1 h))
  rw [n1]
  have hsz : szL (a :: s1) = szN (a :: s1).length a.toNat (s1.getD 0 0).toNat (s1.getD 1 0).toNat (s1.getD 2 0).toNat := rfl
  unfold szN at hsz
  rw [if_neg g1] at hsz
  cases s1 with
  | nil =>
    refine .inl ⟨?_, rune_end st (.inr (by simp))⟩
    rw [hsz]
    repeat' split
    all_goals first | rfl | (exfalso; simp at *; done)
  | cons b s2 =>
  have l2 : 2 ≤ (a :: b :: s2).length := by simp
  by_cases g2 : (194 ≤ a.toNat ∧ a.toNat ≤ 223) ∧ ¬ (b.toNat < 128 ∨ 191 < b.toNat)
  · have gg : goodT ((a :: b :: s2).take 2) := (good2 a b).2 g2
    have hz : szL (a :: b :: s2) = 2 := by
      rw [hsz, if_pos g2.1, if_neg]
      intro h
      rcases h with h | h
      · omega
      · exact g2.2 h
    exact .inr ⟨by omega, _, good_pos gg, by rw [hz]; exact rune_yes st (by omega) (by omega) l2 gg⟩
  have n2 := rune_no st (n := 2) (by omega) (by omega) l2 (fun h => g2 ((good2 a b).1 h))
  rw [n2]
  have hb2 : (194 ≤ a.toNat ∧ a.toNat ≤ 223) → szL (a :: b :: s2) = 0 := by
    intro h
    rw [hsz, if_pos h, if_pos]
    have := fun k => g2 ⟨h, k⟩
    refine .inr ?_
    show b.toNat < 128 ∨ 191 < b.toNat
    omega
  cases s2 with
  | nil =>
    refine .inl ⟨?_, rune_end st (.inr (by simp))⟩
    by_cases h : 194 ≤ a.toNat ∧ a.toNat ≤ 223
    · exact hb2 h
    · rw [hsz, if_neg h]
      repeat' split
      all_goals first | rfl | (exfalso; simp at *; done)
  | cons c s3 =>
  have l3 : 3 ≤ (a :: b :: c :: s3).length := by simp
  by_cases g3 : (224 ≤ a.toNat ∧ a.toNat ≤ 239) ∧ ¬ (b.toNat < 128 ∨ 191 < b.toNat ∨ c.toNat < 128 ∨ 191 < c.toNat ∨ (a.toNat = 224 ∧ b.toNat < 160) ∨ (a.toNat = 237 ∧ 159 < b.toNat))
  · have gg : goodT ((a :: b :: c :: s3).take 3) := (good3 a b c).2 g3
    have hz : szL (a :: b :: c :: s3) = 3 := by
      rw [hsz, if_neg (by omega), if_pos g3.1, if_neg]
      intro h
      rcases h with h | h
      · omega
      · exact g3.2 h
    exact .inr ⟨by omega, _, good_pos gg, by rw [hz]; exact rune_yes st (by omega) (by omega) l3 gg⟩
  have n3 := rune_no st (n := 3) (by omega) (by omega) l3 (fun h => g3 ((good3 a b c).1 h))
  rw [n3]
  have hb3 : (224 ≤ a.toNat ∧ a.toNat ≤ 239) → szL (a :: b :: c :: s3) = 0 := by
    intro h
    rw [hsz, if_neg (by omega), if_pos h, if_pos]
    refine .inr ?_
    show b.toNat < 128 ∨ 191 < b.toNat ∨ c.toNat < 128 ∨ 191 < c.toNat ∨ (a.toNat = 224 ∧ b.toNat < 160) ∨ (a.toNat = 237 ∧ 159 < b.toNat)
    exact Classical.byContradiction fun k => g3 ⟨h, k⟩
  cases s3 with
  | nil =>
    refine .inl ⟨?_, rune_end st (.inr (by simp))⟩
    by_cases h : 194 ≤ a.toNat ∧ a.toNat ≤ 223
    · exact hb2 h
    · by_cases h3 : 224 ≤ a.toNat ∧ a.toNat ≤ 239
      · exact hb3 h3
      · rw [hsz, if_neg h, if_neg h3]
        repeat' split
        all_goals first | rfl | (exfalso; simp at *; done)
  | cons d s4 =>
  have l4 : 4 ≤ (a :: b :: c :: d :: s4).length := by simp
  by_cases g4 : (240 ≤ a.toNat ∧ a.toNat ≤ 244) ∧ ¬ (b.toNat < 128 ∨ 191 < b.toNat ∨ c.toNat < 128 ∨ 191 < c.toNat ∨ d.toNat < 128 ∨ 191 < d.toNat ∨ (a.toNat = 240 ∧ b.toNat < 144) ∨ (a.toNat = 244 ∧ 143 < b.toNat))
  · have gg : goodT ((a :: b :: c :: d :: s4).take 4) := (good4 a b c d).2 g4
    have hz : szL (a :: b :: c :: d :: s4) = 4 := by
      rw [hsz, if_neg (by omega), if_neg (by omega), if_pos g4.1, if_neg]
      intro h
      rcases h with h | h
      · omega
      · exact g4.2 h
    exact .inr ⟨by omega, _, good_pos gg, by rw [hz]; exact rune_yes st (by omega) (by omega) l4 gg⟩
  have n4 := rune_no st (n := 4) (by omega) (by omega) l4 (fun h => g4 ((good4 a b c d).1 h))
  rw [n4]
  refine .inl ⟨?_, rune_end st (.inl (by omega))⟩
  by_cases h : 194 ≤ a.toNat ∧ a.toNat ≤ 223
  · exact hb2 h
  · by_cases h3 : 224 ≤ a.toNat ∧ a.toNat ≤ 239
    · exact hb3 h3
    · rw [hsz, if_neg h, if_neg h3]
      by_cases h4 : 240 ≤ a.toNat ∧ a.toNat ≤ 244
      · rw [if_pos h4, if_pos]
        refine .inr ?_
        show b.toNat < 128 ∨ 191 < b.toNat ∨ c.toNat < 128 ∨ 191 < c.toNat ∨ d.toNat < 128 ∨ 191 < d.toNat ∨ (a.toNat = 240 ∧ b.toNat < 144) ∨ (a.toNat = 244 ∧ 143 < b.toNat)
        exact Classical.byContradiction fun k => g4 ⟨h4, k⟩
      · rw [if_neg h4]
theorem ref_rune {s : List UInt8} (hne : s ≠ []) : ∃ p : Int, (orc vE).bare 29 [.str s] = some (.tup [.int .i64 p, .int .i64 (chN s : Int)]) ∧ ((p < 0 ∧ szL s = 0) ∨ (0 ≤ p ∧ szL s ≠ 0)) := by
  have he : (s == []) = false := by simpa using hne
  rcases rune_loop hne (St.mk 0 0 Tr.leaf) with ⟨h, e⟩ | ⟨h, p, hp, e⟩
  · refine ⟨-1, bare_of rfl ((g29_eq _).trans ?_), .inl ⟨by omega, h⟩⟩
    have e : loopO (g29_L1 s) ([.int .i64 0, .int .i64 0, .int .i64 1], St.mk 0 0 Tr.leaf) = _ := e
    simp only [g29, asS_str, he, ifB_false, e, bindO_ok, unc_cons, asI_int, un0_nil, sel2_zero, chN, if_pos h]
    rfl
  · refine ⟨p, bare_of rfl ((g29_eq _).trans ?_), .inr ⟨hp, h⟩⟩
    have e : loopO (g29_L1 s) ([.int .i64 0, .int .i64 0, .int .i64 1], St.mk 0 0 Tr.leaf) = _ := e
    simp only [g29, asS_str, he, ifB_false, e, bindO_ok, unc_cons, asI_int, un0_nil, sel2_one, chN, if_neg h]
theorem valid_loop (st : St) : ∀ (n : Nat) (s : List UInt8), s.length ≤ n → loopO g17_L1 ([.bool false, .str s], st) = some (if validS s then (0, [.bool false], st) else (1, [.bool false], st))
  | n, [], _ => by
    refine loopO_inr ?_
    simp only [g17_L1, unc_cons, asB_bool, asS_str, un0_nil, show (!(([] : List UInt8) == [])) = false from rfl, ifB_false]
    rfl
  | 0, _ :: _, h => by simp at h
  | n + 1, c :: l, h => by
    obtain ⟨p, e, hp⟩ := ref_rune (s := c :: l) (by simp)
    have hc : ∀ {β : Type} (st : St) (K : Kv β), callS (orc vE) 29 [.str (c :: l)] st K = K (.tup [.int .i64 p, .int .i64 (chN (c :: l) : Int)]) st q0 := fun st K => callS_bare st K rfl rfl rfl e
    rw [validS_step (l := c :: l) (by simp)]
    rcases hp with ⟨h1, h2⟩ | ⟨h1, h2⟩
    · rw [if_pos h2]
      refine loopO_inr ?_
      simp only [g17_L1, unc_cons, asB_bool, asS_str, un0_nil, show (!((c :: l : List UInt8) == [])) = true from rfl, ifB_true, hc, unT_tup, nthS_zero, nthS_one, asI_int, ifB_decide, if_pos h1]
      rfl
    · rw [if_neg h2]
      have hz := szL_le (l := c :: l) (by simp)
      have hch : chN (c :: l) = szL (c :: l) := by unfold chN; rw [if_neg h2]
      have h1' : ¬ p < 0 := by omega
      rw [loopO_inl (s' := ([.bool false, .str ((c :: l).drop (szL (c :: l)))], st)), valid_loop st n _ (by rw [List.length_drop]; omega)]
      simp only [g17_L1, unc_cons, asB_bool, asS_str, un0_nil, show (!((c :: l : List UInt8) == [])) = true from rfl, ifB_true, hc, hch, unT_tup, nthS_zero, nthS_one, asI_int, ifB_decide, if_neg h1', uptoS_nat hz, List.take_length, letV_eq]
theorem ref_valid (s : List UInt8) : (orc vE).bare 17 [.str s] = some (.bool (validS s)) := by
  refine bare_of rfl ((g17_eq _).trans ?_)
  have e := valid_loop (St.mk 0 0 Tr.leaf) s.length s (Nat.le_refl _)
  simp only [g17, asS_str, e]
  cases validS s <;> simp [sel2_zero, sel2_one]
end Go.Proofs.YtcghfoagjphaoaaGreatDoor.Vm
/- Tokens: the reference's ways to cut. -/
namespace Go.Proofs.YtcghfoagjphaoaaGreatDoor.Vm
open Go Go.VM Go.Proofs Go.Lex
theorem at_nil {s : List UInt8} {n : Nat} (h : s.drop n = []) : s.getD n 0 = 0 := by
  have := List.drop_eq_nil_iff.1 h
  rw [List.getD_eq_getElem?_getD, List.getElem?_eq_none this]; rfl
theorem at_cons {s l : List UInt8} {n : Nat} {c : UInt8} (h : s.drop n = c :: l) : s.getD n 0 = c := by
  rw [List.getD_eq_getElem?_getD, (drop_cons h).1]; rfl
theorem at_ok (s : List UInt8) (i : Nat) : (orc vE).bare 31 [.str s, .int .i64 (i : Int)] = some (.int .u8 ((s.getD i 0).toNat : Int)) := by
  refine bare_of rfl ((g31_eq _ _).trans ?_)
  have q : ¬ (i : Int) < 0 := by omega
  by_cases h : i < s.length
  · have h' : ¬ (i : Int) ≥ (s.length : Int) := by omega
    have e : s.getD i 0 = s[i] := by rw [List.getD_eq_getElem?_getD, List.getElem?_eq_getElem h]; rfl
    rw [e]
    simp only [g31, asS_str, asI_int, ifB_decide, if_neg q, if_neg h', bindO_ok, unc_cons, asB_bool, un0_nil, idxStr_nat h]
  · have h' : (i : Int) ≥ (s.length : Int) := by omega
    have e : s.getD i 0 = 0 := by rw [List.getD_eq_getElem?_getD, List.getElem?_eq_none (by omega)]; rfl
    rw [e]
    simp only [g31, asS_str, asI_int, ifB_decide, if_neg q, if_pos h', bindO_ok, unc_cons, asB_bool, un0_nil]
    rfl
theorem call_at {β : Type} (s : List UInt8) (i : Nat) (st : St) (K : Kv β) : callS (orc vE) 31 [.str s, .int .i64 (i : Int)] st K = K (.int .u8 ((s.getD i 0).toNat : Int)) st q0 := callS_bare st K rfl rfl rfl (at_ok s i)
theorem byte_beq (c d : UInt8) : ((c.toNat : Int) == (d.toNat : Int)) = (c == d) := by
  by_cases h : c = d
  · subst h; simp
  · rw [beq_eq_false_iff_ne.2 h, beq_eq_false_iff_ne.2 (byte_ne h)]
theorem rblank (c : UInt8) : (orc vE).bare 30 [.int .u8 (c.toNat : Int)] = some (.bool (isBlank c)) := by
  refine bare_of rfl ((g30_eq _).trans ?_)
  have b1 : ((c.toNat : Int) == 32) = (c == 32) := byte_beq c 32
  have b2 : ((c.toNat : Int) == 9) = (c == 9) := byte_beq c 9
  have b3 : ((c.toNat : Int) == 10) = (c == 10) := byte_beq c 10
  have b4 : ((c.toNat : Int) == 13) = (c == 13) := byte_beq c 13
  simp only [g30, asI_int, b1, b2, b3, b4, isBlank]
  cases c == 32 <;> cases c == 9 <;> cases c == 10 <;> rfl
theorem rlow (c : UInt8) : (orc vE).bare 34 [.int .u8 (c.toNat : Int)] = some (.bool (isLow c)) := by
  refine bare_of rfl ((g34_eq _).trans ?_)
  have b1 : decide ((c.toNat : Int) ≥ 97) = decide (97 ≤ c.toNat) := decide_eq_decide.2 (by omega)
  have b2 : decide ((c.toNat : Int) ≤ 122) = decide (c.toNat ≤ 122) := decide_eq_decide.2 (by omega)
  have b3 : ((c.toNat : Int) == 95) = (c == 95) := byte_beq c 95
  simp only [g34, asI_int, b1, b2, b3, isLow]
  cases decide (97 ≤ c.toNat) <;> cases decide (c.toNat ≤ 122) <;> rfl
theorem rdigit (c : UInt8) : (orc vE).bare 37 [.int .u8 (c.toNat : Int)] = some (.bool (isDig c)) := by
  refine bare_of rfl ((g37_eq _).trans ?_)
  have b1 : decide ((c.toNat : Int) ≥ 48) = decide (48 ≤ c.toNat) := decide_eq_decide.2 (by omega)
  have b2 : decide ((c.toNat : Int) ≤ 57) = decide (c.toNat ≤ 57) := decide_eq_decide.2 (by omega)
  simp only [g37, asI_int, b1, b2, isDig]
  cases decide (48 ≤ c.toNat) <;> cases decide (c.toNat ≤ 57) <;> rfl
theorem call_rblank {β : Type} (c : UInt8) (st : St) (K : Kv β) : callS (orc vE) 30 [.int .u8 (c.toNat : Int)] st K = K (.bool (isBlank c)) st q0 := callS_bare st K rfl rfl rfl (rblank c)
theorem call_rlow {β : Type} (c : UInt8) (st : St) (K : Kv β) : callS (orc vE) 34 [.int .u8 (c.toNat : Int)] st K = K (.bool (isLow c)) st q0 := callS_bare st K rfl rfl rfl (rlow c)
theorem call_rdigit {β : Type} (c : UInt8) (st : St) (K : Kv β) : callS (orc vE) 37 [.int .u8 (c.toNat : Int)] st K = K (.bool (isDig c)) st q0 := callS_bare st K rfl rfl rfl (rdigit c)
theorem rbehind (c : UInt8) : (orc vE).bare 35 [.int .u8 (c.toNat : Int)] = some (.bool (isBeh c)) := by
  refine bare_of rfl ((g35_eq _).trans ?_)
  have b1 : decide ((c.toNat : Int) ≥ 65) = decide (65 ≤ c.toNat) := decide_eq_decide.2 (by omega)
  have b2 : decide ((c.toNat : Int) ≤ 90) = decide (c.toNat ≤ 90) := decide_eq_decide.2 (by omega)
  have b3 : ((c.toNat : Int) == 39) = (c == 39) := byte_beq c 39
  simp only [g35, asI_int, b1, b2, b3, call_rlow, call_rdigit, asB_bool, isBeh]
  cases isLow c <;> cases isDig c <;> cases decide (65 ≤ c.toNat) <;> cases decide (c.toNat ≤ 90) <;> rfl
theorem call_rbehind {β : Type} (c : UInt8) (st : St) (K : Kv β) : callS (orc vE) 35 [.int .u8 (c.toNat : Int)] st K = K (.bool (isBeh c)) st q0 := callS_bare st K rfl rfl rfl (rbehind c)
theorem rhas {s t : List UInt8} {i : Nat} (ht : t.length = 2) (hi : i ≤ 1000000) : (orc vE).bare 32 [.str s, .int .i64 (i : Int), .str t] = some (.bool ((s.drop i).take 2 == t)) := by
  refine bare_of rfl ((g32_eq _ _ _).trans ?_)
  by_cases h : i + 2 ≤ s.length
  · have h' : ((i + 2 : Nat) : Int) ≤ (s.length : Int) := by omega
    have e : (s.take (i + 2)).drop i = (s.drop i).take 2 := by rw [List.drop_take]; congr 1; omega
    simp only [g32, asS_str, asI_int, letV_eq, wrapA2 (show i + 2 ≤ 9223372036854775807 by omega), ifB_decide, if_pos h', uptoS_nat h, uptoS_nat (show i ≤ i + 2 by omega), e, bindO_ok, unc_cons, asB_bool, un0_nil]
  · have h' : ¬ ((i + 2 : Nat) : Int) ≤ (s.length : Int) := by omega
    have e : ((s.drop i).take 2 == t) = false := by
      rw [beq_eq_false_iff_ne]
      intro e
      have := congrArg List.length e
      rw [List.length_take, List.length_drop, ht] at this
      omega
    simp only [g32, asS_str, asI_int, letV_eq, wrapA2 (show i + 2 ≤ 9223372036854775807 by omega), ifB_decide, if_neg h', e, bindO_ok, unc_cons, asB_bool, un0_nil]
theorem call_has {β : Type} (s : List UInt8) {t : List UInt8} {i : Nat} (ht : t.length = 2) (hi : i ≤ 1000000) (st : St) (K : Kv β) : callS (orc vE) 32 [.str s, .int .i64 (i : Int), .str t] st K = K (.bool ((s.drop i).take 2 == t)) st q0 := callS_bare st K rfl rfl rfl (rhas ht hi)
theorem call_has0 {β : Type} (s : List UInt8) {t : List UInt8} (ht : t.length = 2) (st : St) (K : Kv β) : callS (orc vE) 32 [.str s, .int .i64 0, .str t] st K = K (.bool (s.take 2 == t)) st q0 := call_has s (i := 0) ht (by omega) st K
/-- A loop that counts bytes. -/
theorem wh_loop {p : UInt8 → Bool} {L : Car → Option (Car ⊕ Nat × Car)} {s : List UInt8} {st : St} (hp : p 0 = false)
    (h1 : ∀ n : Nat, n < s.length → p (s.getD n 0) = true → L ([.int .i64 (n : Int)], st) = some (.inl ([.int .i64 ((n + 1 : Nat) : Int)], st)))
    (h0 : ∀ n : Nat, p (s.getD n 0) = false → L ([.int .i64 (n : Int)], st) = some (.inr (0, [.int .i64 (n : Int)], st))) :
    ∀ (l : List UInt8) (n : Nat), s.drop n = l → loopO L ([.int .i64 (n : Int)], st) = some (0, [.int .i64 ((n + wh p l : Nat) : Int)], st)
  | [], n, hd => by
    rw [loopO_inr (h0 n (by rw [at_nil hd]; exact hp))]; rfl
  | c :: l, n, hd => by
    obtain ⟨_, hr, hlt⟩ := drop_cons hd
    have ha := at_cons hd
    rw [wh_cons]
    cases hc : p c with
    | true =>
      rw [loopO_inl (h1 n hlt (by rw [ha]; exact hc)), wh_loop hp h1 h0 l (n + 1) hr]
      simp only [if_true]
      rw [show n + 1 + wh p l = n + (wh p l + 1) by omega]
    | false =>
      rw [loopO_inr (h0 n (by rw [ha]; exact hc))]; rfl
section
variable {s : List UInt8} (hs : s.length ≤ 1000000) (st : St) {l : List UInt8} {n : Nat} (hd : s.drop n = l)
include hs hd
theorem num_loop1 : loopO (g38_L1 s) ([.int .i64 (n : Int)], st) = some (0, [.int .i64 ((n + wh isDig l : Nat) : Int)], st) := by
  refine wh_loop (p := isDig) rfl (fun n hn h => ?_) (fun n h => ?_) l n hd
  · simp only [g38_L1, unc_cons, asI_int, un0_nil, call_at, call_rdigit, h, asB_bool, ifB_true, letV_eq, wrapA1 (show n + 1 ≤ 9223372036854775807 by omega)]
  · simp only [g38_L1, unc_cons, asI_int, un0_nil, call_at, call_rdigit, h, asB_bool, ifB_false]
theorem num_loop2 : loopO (g38_L2 s) ([.int .i64 (n : Int)], st) = some (0, [.int .i64 ((n + wh isDig l : Nat) : Int)], st) := by
  refine wh_loop (p := isDig) rfl (fun n hn h => ?_) (fun n h => ?_) l n hd
  · simp only [g38_L2, unc_cons, asI_int, un0_nil, call_at, call_rdigit, h, asB_bool, ifB_true, letV_eq, wrapA1 (show n + 1 ≤ 9223372036854775807 by omega)]
  · simp only [g38_L2, unc_cons, asI_int, un0_nil, call_at, call_rdigit, h, asB_bool, ifB_false]
theorem cut_loop1 : loopO (g18_L1 s) ([.int .i64 (n : Int)], st) = some (0, [.int .i64 ((n + wh isBlank l : Nat) : Int)], st) := by
  refine wh_loop (p := isBlank) rfl (fun n hn h => ?_) (fun n h => ?_) l n hd
  · simp only [g18_L1, unc_cons, asI_int, un0_nil, call_at, call_rblank, h, asB_bool, ifB_true, letV_eq, wrapA1 (show n + 1 ≤ 9223372036854775807 by omega)]
  · simp only [g18_L1, unc_cons, asI_int, un0_nil, call_at, call_rblank, h, asB_bool, ifB_false]
theorem cut_loop2 : loopO (g18_L2 s) ([.int .i64 (n : Int)], st) = some (0, [.int .i64 ((n + wh isBeh l : Nat) : Int)], st) := by
  refine wh_loop (p := isBeh) rfl (fun n hn h => ?_) (fun n h => ?_) l n hd
  · simp only [g18_L2, unc_cons, asI_int, un0_nil, call_at, call_rbehind, h, asB_bool, ifB_true, letV_eq, wrapA1 (show n + 1 ≤ 9223372036854775807 by omega)]
  · simp only [g18_L2, unc_cons, asI_int, un0_nil, call_at, call_rbehind, h, asB_bool, ifB_false]
end
/-- A power, never above a million. -/
def stepC (a : Nat) (c : UInt8) : Nat := min (stepV a c) 1000000
def numC (a : Nat) (l : List UInt8) : Nat := l.foldl stepC a
theorem numC_nil (a : Nat) : numC a [] = a := id rfl
theorem numC_cons (a : Nat) (c : UInt8) (l : List UInt8) : numC a (c :: l) = numC (stepC a c) l := id rfl
theorem numC_min : ∀ (l : List UInt8) (a : Nat), numC (min a 1000000) l = min (numV a l) 1000000
  | [], a => by rw [numC_nil, numV_nil]
  | c :: l, a => by
    rw [numC_cons, numV_cons, ← numC_min l (stepV a c)]
    congr 1
    unfold stepC stepV
    omega
theorem pow_loop {s : List UInt8} (hs : s.length ≤ 1000000) (st : St) : ∀ (l : List UInt8) (n a : Nat), s.drop n = l → a ≤ 1000000 →
    loopO (g38_L3 s) ([.int .i64 (a : Int), .int .i64 (n : Int)], st) = some (0, [.int .i64 (numC a (l.take (wh isDig l)) : Int), .int .i64 ((n + wh isDig l : Nat) : Int)], st)
  | [], n, a, hd, ha => by
    have h : isDig (s.getD n 0) = false := by rw [at_nil hd]; rfl
    refine loopO_inr ?_
    simp only [g38_L3, unc_cons, asI_int, un0_nil, call_at, call_rdigit, h, asB_bool, ifB_false]
    rfl
  | c :: l, n, a, hd, ha => by
    obtain ⟨hg, hr, hlt⟩ := drop_cons hd
    have hat := at_cons hd
    rw [wh_cons]
    cases hc : isDig c with
    | false =>
      have h : isDig (s.getD n 0) = false := by rw [hat]; exact hc
      refine loopO_inr ?_
      simp only [g38_L3, unc_cons, asI_int, un0_nil, call_at, call_rdigit, h, asB_bool, ifB_false]
      rfl
    | true =>
      have h : isDig (s.getD n 0) = true := by rw [hat]; exact hc
      have hcc : 48 ≤ c.toNat ∧ c.toNat ≤ 57 := by
        simpa only [isDig, Bool.and_eq_true, decide_eq_true_eq] using hc
      have he : s[n] = c := getElem_of hlt hg
      have w1 : IntKind.wrap .i64 ((a : Int) * 10) = ((a * 10 : Nat) : Int) := wrapN (n := a * 10) (by omega)
      have w2 : IntKind.wrap .i64 ((c.toNat : Nat) : Int) = ((c.toNat : Nat) : Int) := wrapN (by omega)
      have w3 : IntKind.wrap .i64 (((a * 10 : Nat) : Int) + ((c.toNat : Nat) : Int)) = ((a * 10 + c.toNat : Nat) : Int) := wrapA (by omega)
      have w4 : IntKind.wrap .i64 (((a * 10 + c.toNat : Nat) : Int) - 48) = ((a * 10 + c.toNat - 48 : Nat) : Int) := wrapS (m := 48) (by omega) (by omega)
      have w5 : (if (1000000 : Int) < ((a * 10 + c.toNat - 48 : Nat) : Int) then (1000000 : Int) else ((a * 10 + c.toNat - 48 : Nat) : Int)) = (stepC a c : Int) := by
        unfold stepC stepV
        split <;> omega
      have hb : stepC a c ≤ 1000000 := by unfold stepC; omega
      rw [loopO_inl (s' := ([.int .i64 (stepC a c : Int), .int .i64 ((n + 1 : Nat) : Int)], st)), pow_loop hs st l (n + 1) _ hr hb]
      · simp only [if_true, List.take_succ_cons, numC_cons]
        rw [show n + 1 + wh isDig l = n + (wh isDig l + 1) by omega]
      · simp only [g38_L3, unc_cons, asI_int, un0_nil, call_at, call_rdigit, h, asB_bool, ifB_true, letV_eq, w1, idxStr_nat hlt, he, w2, w3, w4, w5, wrapA1 (show n + 1 ≤ 9223372036854775807 by omega)]
theorem rremark_loop (s : List UInt8) (hs : s.length ≤ 1000000) (st : St) : ∀ (l : List UInt8) (i d : Nat), s.drop i = l → i ≤ s.length → 1 ≤ d → d ≤ i →
    loopO (g33_L1 s) ([.int .i64 (d : Int), .int .i64 0, .bool false, .int .i64 (i : Int)], st) = some (match rem l d with | some n => (1, [.int .i64 ((i + n : Nat) : Int), .bool true], st) | none => (0, [.int .i64 0, .bool false], st))
  | [], i, d, hd, hi, h1, h2 => by
    have := List.drop_eq_nil_iff.1 hd
    have q : ¬ (i : Int) < (s.length : Int) := by omega
    refine loopO_inr ?_
    simp only [g33_L1, unc_cons, asI_int, asB_bool, un0_nil, ifB_decide, if_neg q]
    rfl
  | [a], i, d, hd, hi, h1, h2 => by
    obtain ⟨hg, hr, hlt⟩ := drop_cons hd
    have q : (i : Int) < (s.length : Int) := by omega
    have ih := rremark_loop s hs st [] (i + 1) d hr (by omega) h1 (by omega)
    rw [loopO_inl (s' := ([.int .i64 (d : Int), .int .i64 0, .bool false, .int .i64 ((i + 1 : Nat) : Int)], st)), ih]
    · rfl
    · simp only [g33_L1, unc_cons, asI_int, un0_nil, ifB_decide, if_pos q, call_has s (t := [40, 42]) rfl (show i ≤ 1000000 by omega), call_has s (t := [42, 41]) rfl (show i ≤ 1000000 by omega), hd, asB_bool]
      simp only [show ([a].take 2 == [(40 : UInt8), 42]) = false by simp, show ([a].take 2 == [(42 : UInt8), 41]) = false by simp, ifB_false, letV_eq, bindO_ok, onSum_inl, unc_cons, asI_int, asB_bool, un0_nil, wrapA1 (show i + 1 ≤ 9223372036854775807 by omega)]
  | a :: b :: l, i, d, hd, hi, h1, h2 => by
    obtain ⟨hg, hr, hlt⟩ := drop_cons hd
    obtain ⟨hg2, hr2, hlt2⟩ := drop_cons hr
    have q : (i : Int) < (s.length : Int) := by omega
    have t1 : ((a :: b :: l).take 2 == [40, 42]) = (decide (a = 40 ∧ b = 42)) := by
      show ([a, b] == [40, 42]) = _
      by_cases h : a = 40 ∧ b = 42
      · rw [h.1, h.2]; rfl
      · rw [decide_eq_false h, beq_eq_false_iff_ne]
        intro e
        simp only [List.cons.injEq, and_true] at e
        exact h e
    have t2 : ((a :: b :: l).take 2 == [42, 41]) = (decide (a = 42 ∧ b = 41)) := by
      show ([a, b] == [42, 41]) = _
      by_cases h : a = 42 ∧ b = 41
      · rw [h.1, h.2]; rfl
      · rw [decide_eq_false h, beq_eq_false_iff_ne]
        intro e
        simp only [List.cons.injEq, and_true] at e
        exact h e
    by_cases c1 : a = 40 ∧ b = 42
    · have ih := rremark_loop s hs st l (i + 2) (d + 1) hr2 (by omega) (by omega) (by omega)
      rw [loopO_inl (s' := ([.int .i64 ((d + 1 : Nat) : Int), .int .i64 0, .bool false, .int .i64 ((i + 2 : Nat) : Int)], st)), ih]
      · simp only [rem, if_pos c1]
        cases rem l (d + 1) with
        | none => rfl
        | some n => simp only [Option.map_some]; rw [show i + 2 + n = i + (n + 2) by omega]
      · simp only [g33_L1, unc_cons, asI_int, un0_nil, ifB_decide, if_pos q, call_has s (t := [40, 42]) rfl (show i ≤ 1000000 by omega), hd, t1, if_pos c1, asB_bool, letV_eq, bindO_ok, onSum_inl, wrapA1 (show d + 1 ≤ 9223372036854775807 by omega), wrapA2 (show i + 2 ≤ 9223372036854775807 by omega)]
    · by_cases c2 : a = 42 ∧ b = 41
      · have w := wrapS (n := d) (m := 1) h1 (by omega)
        have w : IntKind.wrap .i64 ((d : Int) - 1) = ((d - 1 : Nat) : Int) := w
        by_cases c3 : d = 1
        · subst c3
          simp only [rem, if_neg c1, if_pos c2, if_true]
          refine loopO_inr ?_
          simp only [g33_L1, unc_cons, asI_int, un0_nil, ifB_decide, if_pos q, call_has s (t := [40, 42]) rfl (show i ≤ 1000000 by omega), call_has s (t := [42, 41]) rfl (show i ≤ 1000000 by omega), hd, t1, t2, if_neg c1, if_pos c2, asB_bool, letV_eq, bindO_ok, w, wrapA2 (show i + 2 ≤ 9223372036854775807 by omega), ifB_beq]
          rfl
        · have ih := rremark_loop s hs st l (i + 2) (d - 1) hr2 (by omega) (by omega) (by omega)
          have z : ¬ ((d - 1 : Nat) : Int) = 0 := by omega
          rw [loopO_inl (s' := ([.int .i64 ((d - 1 : Nat) : Int), .int .i64 0, .bool false, .int .i64 ((i + 2 : Nat) : Int)], st)), ih]
          · simp only [rem, if_neg c1, if_pos c2, if_neg c3]
            cases rem l (d - 1) with
            | none => rfl
            | some n => simp only [Option.map_some]; rw [show i + 2 + n = i + (n + 2) by omega]
          · simp only [g33_L1, unc_cons, asI_int, un0_nil, ifB_decide, if_pos q, call_has s (t := [40, 42]) rfl (show i ≤ 1000000 by omega), call_has s (t := [42, 41]) rfl (show i ≤ 1000000 by omega), hd, t1, t2, if_neg c1, if_pos c2, asB_bool, letV_eq, bindO_ok, w, wrapA2 (show i + 2 ≤ 9223372036854775807 by omega), ifB_beq, if_neg z, onSum_inl]
      · have ih := rremark_loop s hs st (b :: l) (i + 1) d hr (by omega) h1 (by omega)
        rw [loopO_inl (s' := ([.int .i64 (d : Int), .int .i64 0, .bool false, .int .i64 ((i + 1 : Nat) : Int)], st)), ih]
        · simp only [rem, if_neg c1, if_neg c2]
          cases rem (b :: l) d with
          | none => rfl
          | some n => simp only [Option.map_some]; rw [show i + 1 + n = i + (n + 1) by omega]
        · simp only [g33_L1, unc_cons, asI_int, un0_nil, ifB_decide, if_pos q, call_has s (t := [40, 42]) rfl (show i ≤ 1000000 by omega), call_has s (t := [42, 41]) rfl (show i ≤ 1000000 by omega), hd, t1, t2, if_neg c1, if_neg c2, asB_bool, letV_eq, bindO_ok, onSum_inl, wrapA1 (show i + 1 ≤ 9223372036854775807 by omega)]
theorem rremark_ok {s : List UInt8} (hs : s.length ≤ 1000000) (h2 : 2 ≤ s.length) : (orc vE).bare 33 [.str s] = some (match rem (s.drop 2) 1 with | some n => .tup [.int .i64 ((n + 2 : Nat) : Int), .bool true] | none => .tup [.int .i64 (s.length : Int), .bool false]) := by
  refine bare_of rfl ((g33_eq _).trans ?_)
  have e : loopO (g33_L1 s) ([.int .i64 1, .int .i64 0, .bool false, .int .i64 2], St.mk 0 0 Tr.leaf) = _ := rremark_loop s hs (St.mk 0 0 Tr.leaf) (s.drop 2) 2 1 rfl h2 (by omega) (by omega)
  simp only [g33, asS_str]
  rw [e]
  cases rem (s.drop 2) 1 with
  | none => simp only [bindO_ok, unc_cons, asI_int, asB_bool, un0_nil, sel2_zero]
  | some n => simp only [bindO_ok, unc_cons, asI_int, asB_bool, un0_nil, sel2_one]; rw [Nat.add_comm 2 n]
end Go.Proofs.YtcghfoagjphaoaaGreatDoor.Vm
/- Tokens: the reference's texts, numbers, cut. -/
namespace Go.Proofs.YtcghfoagjphaoaaGreatDoor.Vm
open Go Go.VM Go.Proofs Go.Lex
/-- How a text's loop ends. -/
def Ends (st : St) (r : Option (Nat × Car)) (p : Nat × Nat) : Prop :=
  (∃ c : Int, r = some (1, [.int .u8 (p.1 : Int), .int .i64 (p.2 : Int), .int .i64 c], st)) ∨ (p.1 = 9 ∧ r = some (0, [.int .u8 0, .int .i64 0, .int .i64 (p.2 : Int)], st))
theorem bad_loop {s : List UInt8} (hs : s.length ≤ 1000000) (st : St) : ∀ (l : List UInt8) (i : Nat), s.drop i = l → i ≤ s.length →
    Ends st (loopO (g39_L1 s) ([.int .u8 0, .int .i64 0, .bool true, .int .i64 (i : Int)], st)) (9, i + badT l)
  | [], i, hd, hi => by
    have := List.drop_eq_nil_iff.1 hd
    have q : ¬ (i : Int) < (s.length : Int) := by omega
    refine .inr ⟨rfl, loopO_inr ?_⟩
    simp only [g39_L1, unc_cons, asI_int, asB_bool, un0_nil, ifB_decide, if_neg q, bindO_ok, ifB_false]
    rfl
  | c :: l, i, hd, hi => by
    obtain ⟨hg, hr, hlt⟩ := drop_cons hd
    have q : (i : Int) < (s.length : Int) := by omega
    have hc : s[i] = c := getElem_of hlt hg
    have b1 : ((c.toNat : Int) != 10) = (c != 10) := by unfold bne; rw [show ((c.toNat : Int) == 10) = (c == 10) from byte_beq c 10]
    have b2 : ((c.toNat : Int) == 34) = (c == 34) := byte_beq c 34
    have b3 : ((c.toNat : Int) == 92) = (c == 92) := byte_beq c 92
    by_cases c1 : c = 10
    · have z : (c != 10) = false := by simp [c1]
      simp only [badT, if_pos c1]
      refine .inr ⟨rfl, loopO_inr ?_⟩
      simp only [g39_L1, unc_cons, asI_int, asB_bool, un0_nil, ifB_decide, if_pos q, idxStr_nat hlt, hc, b1, z, bindO_ok, ifB_false]
      rfl
    · have z : (c != 10) = true := by simp [c1]
      by_cases c2 : c = 34
      · have z2 : (c == 34) = true := by simp [c2]
        simp only [badT, if_neg c1, if_pos c2]
        refine .inl ⟨(i : Int), loopO_inr ?_⟩
        simp only [g39_L1, unc_cons, asI_int, asB_bool, un0_nil, ifB_decide, if_pos q, idxStr_nat hlt, hc, b1, b2, z, z2, bindO_ok, ifB_true, letV_eq, wrapA1 (show i + 1 ≤ 9223372036854775807 by omega)]
        rfl
      · have z2 : (c == 34) = false := by simp [c2]
        have ih := bad_loop hs st l (i + 1) hr (by omega)
        rw [loopO_inl (s' := ([.int .u8 0, .int .i64 0, .bool true, .int .i64 ((i + 1 : Nat) : Int)], st))]
        · simp only [badT, if_neg c1, if_neg c2]
          rw [show i + (badT l + 1) = i + 1 + badT l by omega]
          exact ih
        · simp only [g39_L1, unc_cons, asI_int, asB_bool, un0_nil, ifB_decide, if_pos q, idxStr_nat hlt, hc, b1, b2, b3, z, z2, bindO_ok, ifB_true, ifB_false, letV_eq, Bool.not_true]
          cases c == 92 <;> simp only [ifB_true, ifB_false, bindO_ok, unc_cons, asB_bool, asI_int, un0_nil, letV_eq, wrapA1 (show i + 1 ≤ 9223372036854775807 by omega)]
theorem rtext_loop {s : List UInt8} (hs : s.length ≤ 1000000) (st : St) : ∀ (l : List UInt8) (i : Nat), s.drop i = l → i ≤ s.length →
    Ends st (loopO (g39_L1 s) ([.int .u8 0, .int .i64 0, .bool false, .int .i64 (i : Int)], st)) ((txt l).1, i + (txt l).2)
  | [], i, hd, hi => by
    have := List.drop_eq_nil_iff.1 hd
    have q : ¬ (i : Int) < (s.length : Int) := by omega
    refine .inr ⟨rfl, loopO_inr ?_⟩
    simp only [g39_L1, unc_cons, asI_int, asB_bool, un0_nil, ifB_decide, if_neg q, bindO_ok, ifB_false]
    rfl
  | [c], i, hd, hi => by
    obtain ⟨hg, hr, hlt⟩ := drop_cons hd
    have q : (i : Int) < (s.length : Int) := by omega
    have hc : s[i] = c := getElem_of hlt hg
    have b1 : ((c.toNat : Int) != 10) = (c != 10) := by unfold bne; rw [show ((c.toNat : Int) == 10) = (c == 10) from byte_beq c 10]
    have b2 : ((c.toNat : Int) == 34) = (c == 34) := byte_beq c 34
    have b3 : ((c.toNat : Int) == 92) = (c == 92) := byte_beq c 92
    by_cases c1 : c = 10
    · have z : (c != 10) = false := by simp [c1]
      simp only [txt, if_pos c1]
      refine .inr ⟨rfl, loopO_inr ?_⟩
      simp only [g39_L1, unc_cons, asI_int, asB_bool, un0_nil, ifB_decide, if_pos q, idxStr_nat hlt, hc, b1, z, bindO_ok, ifB_false]
      rfl
    · have z : (c != 10) = true := by simp [c1]
      by_cases c2 : c = 34
      · have z2 : (c == 34) = true := by simp [c2]
        simp only [txt, if_neg c1, if_pos c2]
        refine .inl ⟨(i : Int), loopO_inr ?_⟩
        simp only [g39_L1, unc_cons, asI_int, asB_bool, un0_nil, ifB_decide, if_pos q, idxStr_nat hlt, hc, b1, b2, z, z2, bindO_ok, ifB_true, ifB_false, letV_eq, wrapA1 (show i + 1 ≤ 9223372036854775807 by omega)]
        rfl
      · have z2 : (c == 34) = false := by simp [c2]
        simp only [txt, if_neg c1, if_neg c2]
        cases hb : c == 92 with
        | true =>
          rw [loopO_inl (s' := ([.int .u8 0, .int .i64 0, .bool true, .int .i64 ((i + 1 : Nat) : Int)], st))]
          · exact bad_loop hs st [] (i + 1) hr (by omega)
          · have ha := at_nil hr
            have e : (((0 : UInt8).toNat : Nat) : Int) = 0 := rfl
            simp only [g39_L1, unc_cons, asI_int, asB_bool, un0_nil, ifB_decide, if_pos q, idxStr_nat hlt, hc, b1, b2, b3, z, z2, hb, bindO_ok, ifB_true, ifB_false, letV_eq, Bool.not_false, wrapA1 (show i + 1 ≤ 9223372036854775807 by omega), call_at, ha, e]
            simp only [show ((0 : Int) == 110) = false from rfl, show ((0 : Int) == 116) = false from rfl, show ((0 : Int) == 92) = false from rfl, show ((0 : Int) == 34) = false from rfl, ifB_false, bindO_ok, unc_cons, asB_bool, asI_int, un0_nil, letV_eq, wrapA1 (show i + 1 ≤ 9223372036854775807 by omega)]
        | false =>
          rw [loopO_inl (s' := ([.int .u8 0, .int .i64 0, .bool false, .int .i64 ((i + 1 : Nat) : Int)], st))]
          · exact rtext_loop hs st [] (i + 1) hr (by omega)
          · simp only [g39_L1, unc_cons, asI_int, asB_bool, un0_nil, ifB_decide, if_pos q, idxStr_nat hlt, hc, b1, b2, b3, z, z2, hb, bindO_ok, ifB_true, ifB_false, letV_eq, wrapA1 (show i + 1 ≤ 9223372036854775807 by omega)]
  | c :: d :: l, i, hd, hi => by
    obtain ⟨hg, hr, hlt⟩ := drop_cons hd
    obtain ⟨hg2, hr2, hlt2⟩ := drop_cons hr
    have q : (i : Int) < (s.length : Int) := by omega
    have hc : s[i] = c := getElem_of hlt hg
    have b1 : ((c.toNat : Int) != 10) = (c != 10) := by unfold bne; rw [show ((c.toNat : Int) == 10) = (c == 10) from byte_beq c 10]
    have b2 : ((c.toNat : Int) == 34) = (c == 34) := byte_beq c 34
    have b3 : ((c.toNat : Int) == 92) = (c == 92) := byte_beq c 92
    by_cases c1 : c = 10
    · have z : (c != 10) = false := by simp [c1]
      simp only [txt, if_pos c1]
      refine .inr ⟨rfl, loopO_inr ?_⟩
      simp only [g39_L1, unc_cons, asI_int, asB_bool, un0_nil, ifB_decide, if_pos q, idxStr_nat hlt, hc, b1, z, bindO_ok, ifB_false]
      rfl
    · have z : (c != 10) = true := by simp [c1]
      by_cases c2 : c = 34
      · have z2 : (c == 34) = true := by simp [c2]
        simp only [txt, if_neg c1, if_pos c2]
        refine .inl ⟨(i : Int), loopO_inr ?_⟩
        simp only [g39_L1, unc_cons, asI_int, asB_bool, un0_nil, ifB_decide, if_pos q, idxStr_nat hlt, hc, b1, b2, z, z2, bindO_ok, ifB_true, ifB_false, letV_eq, wrapA1 (show i + 1 ≤ 9223372036854775807 by omega)]
        rfl
      · have z2 : (c == 34) = false := by simp [c2]
        simp only [txt, if_neg c1, if_neg c2]
        cases hb : c == 92 with
        | true =>
          have hb' : c = 92 := eq_of_beq hb
          simp only [if_pos hb']
          have ha := at_cons hr
          have d1 : ((d.toNat : Int) == 110) = (d == 110) := byte_beq d 110
          have d2 : ((d.toNat : Int) == 116) = (d == 116) := byte_beq d 116
          have d3 : ((d.toNat : Int) == 92) = (d == 92) := byte_beq d 92
          have d4 : ((d.toNat : Int) == 34) = (d == 34) := byte_beq d 34
          have esc : ∀ (st : St) {β : Type} (K : List AV × St → Option β), (bindO (ifB (d == 110) (some ([AV.bool true], st)) (ifB (d == 116) (some ([AV.bool true], st)) (ifB (d == 92) (some ([AV.bool true], st)) (some ([AV.bool (d == 34)], st))))) K) = K ([AV.bool (isEsc d)], st) := by
            intro st β K
            unfold isEsc
            cases d == 110 <;> cases d == 116 <;> cases d == 92 <;> rfl
          cases he : isEsc d with
          | true =>
            simp only [if_true]
            rw [loopO_inl (s' := ([.int .u8 0, .int .i64 0, .bool false, .int .i64 ((i + 2 : Nat) : Int)], st)), show i + ((txt l).2 + 2) = i + 2 + (txt l).2 by omega]
            · exact rtext_loop hs st l (i + 2) hr2 (by omega)
            · simp only [g39_L1, unc_cons, asI_int, asB_bool, un0_nil, ifB_decide, if_pos q, idxStr_nat hlt, hc, b1, b2, b3, z, z2, hb, bindO_ok, ifB_true, ifB_false, letV_eq, Bool.not_false, wrapA1 (show i + 1 ≤ 9223372036854775807 by omega), call_at, ha, d1, d2, d3, d4, esc, he, wrapA1 (show i + 1 + 1 ≤ 9223372036854775807 by omega)]
          | false =>
            simp only [Bool.false_eq_true, if_false]
            rw [loopO_inl (s' := ([.int .u8 0, .int .i64 0, .bool true, .int .i64 ((i + 1 : Nat) : Int)], st)), show i + (badT (d :: l) + 1) = i + 1 + badT (d :: l) by omega]
            · exact bad_loop hs st (d :: l) (i + 1) hr (by omega)
            · simp only [g39_L1, unc_cons, asI_int, asB_bool, un0_nil, ifB_decide, if_pos q, idxStr_nat hlt, hc, b1, b2, b3, z, z2, hb, bindO_ok, ifB_true, ifB_false, letV_eq, Bool.not_false, wrapA1 (show i + 1 ≤ 9223372036854775807 by omega), call_at, ha, d1, d2, d3, d4, esc, he]
        | false =>
          have hb' : ¬ c = 92 := by simpa using hb
          simp only [if_neg hb']
          rw [loopO_inl (s' := ([.int .u8 0, .int .i64 0, .bool false, .int .i64 ((i + 1 : Nat) : Int)], st)), show i + ((txt (d :: l)).2 + 1) = i + 1 + (txt (d :: l)).2 by omega]
          · exact rtext_loop hs st (d :: l) (i + 1) hr (by omega)
          · simp only [g39_L1, unc_cons, asI_int, asB_bool, un0_nil, ifB_decide, if_pos q, idxStr_nat hlt, hc, b1, b2, b3, z, z2, hb, bindO_ok, ifB_true, ifB_false, letV_eq, wrapA1 (show i + 1 ≤ 9223372036854775807 by omega)]
theorem rtext_ok {c : UInt8} {l : List UInt8} (hs : (c :: l).length ≤ 1000000) : (orc vE).bare 39 [.str (c :: l)] = some (.tup [.int .u8 ((txt l).1 : Int), .int .i64 (((txt l).2 + 1 : Nat) : Int)]) := by
  refine bare_of rfl ((g39_eq _).trans ?_)
  have e := rtext_loop hs (St.mk 0 0 Tr.leaf) l 1 rfl (by simp)
  rw [Nat.add_comm 1 (txt l).2] at e
  simp only [g39, asS_str]
  rcases e with ⟨x, e⟩ | ⟨h9, e⟩
  · have e : loopO (g39_L1 (c :: l)) ([.int .u8 0, .int .i64 0, .bool false, .int .i64 1], St.mk 0 0 Tr.leaf) = _ := e
    rw [e]
    simp only [bindO_ok, unc_cons, asI_int, un0_nil, sel2_one]
  · have e : loopO (g39_L1 (c :: l)) ([.int .u8 0, .int .i64 0, .bool false, .int .i64 1], St.mk 0 0 Tr.leaf) = _ := e
    have h9 : (txt l).1 = 9 := h9
    rw [e, h9]
    simp only [bindO_ok, unc_cons, asI_int, un0_nil, sel2_zero]
    rfl
end Go.Proofs.YtcghfoagjphaoaaGreatDoor.Vm
/- Tokens: the reference's numbers, cut. -/
namespace Go.Proofs.YtcghfoagjphaoaaGreatDoor.Vm
open Go Go.VM Go.Proofs Go.Lex
theorem head_at (s : List UInt8) (n : Nat) (d : UInt8) (hd : d ≠ 0) : (s.getD n 0 == d) = decide ((s.drop n).head? = some d) := by
  cases h : s.drop n with
  | nil =>
    rw [at_nil h]
    simp
    exact fun e => hd e.symm
  | cons c l =>
    rw [at_cons h]
    by_cases e : c = d
    · subst e; simp
    · rw [beq_eq_false_iff_ne.2 e]
      simp [e]
/-- What the reference makes of an exponent. -/
theorem rexpo {s : List UInt8} (hs : s.length ≤ 1000000) (e : Nat) (pw : Int) (hp : -2000000 ≤ pw) (hp2 : pw ≤ 2000000) (he : e ≤ s.length) {β : Type} (st : St) (K : Car → Option β) :
    (bindO (callS (orc vE) 31 [AV.str s, AV.int .i64 (e : Int)] st fun v43 st44 _x => asI .u8 v43 fun n46 => ifB (n46 == 101) (some
 ([AV.bool true], st44)) (callS (orc vE) 31 [AV.str s, AV.int .i64 (e : Int)] st44 fun v47 st48 _x => asI .u8 v47 fun n50 => some ([AV.bool (n50 == 69)], st48))) fun c51 => unc (Prod.fst c51) fun v52 l53 => asB v52 fun b54 =>
 un0 l53 (bindO (ifB b54 (letV (IntKind.wrap .i64 ((e : Int) + 1)) fun n55 => callS (orc vE) 31 [AV.str s, AV.int .i64 n55] (Prod.snd c51) fun v56 st57 _x => asI .u8 v56 fun n59 => bindO (ifB (n59 == 45) (some ([AV.bool
 true], st57)) (callS (orc vE) 31 [AV.str s, AV.int .i64 n55] st57 fun v60 st61 _x => asI .u8 v60 fun n63 => some ([AV.bool (n63 == 43)], st61))) fun c64 => unc (Prod.fst c64) fun v65 l66 => asB v65 fun b67 => un0 l66
 (bindO (ifB b67 (letV (IntKind.wrap .i64 (n55 + 1)) fun n68 => some ([AV.int .i64 n68], Prod.snd c64)) (some ([AV.int .i64 n55], Prod.snd c64))) fun c69 => unc (Prod.fst c69) fun v70 l71 => asI .i64 v70 fun n72 => un0
 l71 (bindO (loopO (g38_L3 s) ([AV.int .i64 0, AV.int .i64 n72], Prod.snd c69)) fun c95 => unc (Prod.fst (Prod.snd c95)) fun v96 l97 => asI .i64 v96 fun n98 => unc l97 fun v99 l100 => asI .i64 v99 fun n101 => un0 l100
 (bindO (ifB (decide (n101 > n72)) (bindO (ifB (n59 == 45) (letV (IntKind.wrap .i64 (0 - n98)) fun n102 => some ([AV.int .i64 n102], Prod.snd (Prod.snd c95))) (some ([AV.int .i64 n98], Prod.snd (Prod.snd c95)))) fun c103
 => unc (Prod.fst c103) fun v104 l105 => asI .i64 v104 fun n106 => un0 l105 (letV (IntKind.wrap .i64 (pw + n106)) fun n107 => some ([AV.int .i64 n101, AV.int .i64 n107], Prod.snd c103))) (some ([AV.int .i64 (e : Int), AV.int .i64
 pw], Prod.snd (Prod.snd c95)))) fun c108 => unc (Prod.fst c108) fun v109 l110 => asI .i64 v109 fun n111 => unc l110 fun v112 l113 => asI .i64 v112 fun n114 => un0 l113 (some ([AV.int .i64 n111, AV.int .i64 n114],
 Prod.snd c108)))))) (some ([AV.int .i64 (e : Int), AV.int .i64 pw], Prod.snd c51))) K)) = K ([.int .i64 ((e + (expo (s.drop e)).1 : Nat) : Int), .int .i64 (pw + (expo (s.drop e)).2)], st) := by
  have a1 : ((((s.getD e 0).toNat : Nat) : Int) == 101) = (s.getD e 0 == 101) := byte_beq _ 101
  have a2 : ((((s.getD e 0).toNat : Nat) : Int) == 69) = (s.getD e 0 == 69) := byte_beq _ 69
  have w1 := wrapA1 (show e + 1 ≤ 9223372036854775807 by omega)
  have a3 : ((((s.getD (e + 1) 0).toNat : Nat) : Int) == 45) = (s.getD (e + 1) 0 == 45) := byte_beq _ 45
  have a4 : ((((s.getD (e + 1) 0).toNat : Nat) : Int) == 43) = (s.getD (e + 1) 0 == 43) := byte_beq _ 43
  have isE : ∀ (st : St) {γ : Type} (K : List AV × St → Option γ), bindO (ifB (s.getD e 0 == 101) (some ([AV.bool true], st)) (some ([AV.bool (s.getD e 0 == 69)], st))) K = K ([AV.bool (s.getD e 0 == 101 || s.getD e 0 == 69)], st) := by
    intro st γ K
    cases s.getD e 0 == 101 <;> rfl
  have isS : ∀ (st : St) {γ : Type} (K : List AV × St → Option γ), bindO (ifB (s.getD (e + 1) 0 == 45) (some ([AV.bool true], st)) (some ([AV.bool (s.getD (e + 1) 0 == 43)], st))) K = K ([AV.bool (isSgn (s.getD (e + 1) 0))], st) := by
    intro st γ K
    unfold isSgn
    cases s.getD (e + 1) 0 == 45 <;> cases s.getD (e + 1) 0 == 43 <;> rfl
  simp only [call_at, asI_int, a1, a2, isE, unc_cons, asB_bool, un0_nil]
  cases hd : s.drop e with
  | nil =>
    rw [at_nil hd]
    simp only [show ((0 : UInt8) == 101 || (0 : UInt8) == 69) = false from rfl, ifB_false, bindO_ok, expo]
    simp
  | cons c l =>
    obtain ⟨hg, hr, hlt⟩ := drop_cons hd
    rw [at_cons hd]
    by_cases hc : c = 101 ∨ c = 69
    · have hc' : (c == 101 || c == 69) = true := by simpa using hc
      have hsg : sgn l = if isSgn (s.getD (e + 1) 0) = true then 1 else 0 := by
        cases l with
        | nil => rw [at_nil hr]; rfl
        | cons d r => rw [at_cons hr]; rfl
      have hsl := sgn_le l
      have hll : l.length = s.length - (e + 1) := by rw [← hr, List.length_drop]
      have hmi : (s.getD (e + 1) 0 == 45) = decide (l.head? = some 45) := by rw [head_at s (e + 1) 45 (by decide), hr]
      have sg : ∀ (st : St) {γ : Type} (K : List AV × St → Option γ), bindO (ifB (isSgn (s.getD (e + 1) 0)) (some ([AV.int .i64 ((e + 1 + 1 : Nat) : Int)], st)) (some ([AV.int .i64 ((e + 1 : Nat) : Int)], st))) K = K ([AV.int .i64 ((e + 1 + sgn l : Nat) : Int)], st) := by
        intro st γ K
        rw [hsg]
        cases isSgn (s.getD (e + 1) 0) <;> rfl
      have hd2 : s.drop (e + 1 + sgn l) = l.drop (sgn l) := by rw [← hr, List.drop_drop]
      have lp := fun st => pow_loop hs st (l.drop (sgn l)) (e + 1 + sgn l) 0 hd2 (by omega)
      have lp : ∀ st, loopO (g38_L3 s) ([.int .i64 0, .int .i64 ((e + 1 + sgn l : Nat) : Int)], st) = _ := lp
      simp only [hc', ifB_true, letV_eq, w1, call_at, asI_int, a3, a4, isS, unc_cons, asB_bool, un0_nil, wrapA1 (show e + 1 + 1 ≤ 9223372036854775807 by omega), sg, lp, bindO_ok]
      have hx : numC 0 ((l.drop (sgn l)).take (wh isDig (l.drop (sgn l)))) = min (numV 0 ((l.drop (sgn l)).take (wh isDig (l.drop (sgn l))))) 1000000 := numC_min _ 0
      simp only [expo, if_pos hc]
      by_cases hz : wh isDig (l.drop (sgn l)) = 0
      · have q : ¬ (((e + 1 + sgn l + wh isDig (l.drop (sgn l)) : Nat) : Int) > ((e + 1 + sgn l : Nat) : Int)) := by omega
        simp only [ifB_decide, if_neg q, bindO_ok, unc_cons, asI_int, un0_nil, if_pos hz]
        simp
      · have q : (((e + 1 + sgn l + wh isDig (l.drop (sgn l)) : Nat) : Int) > ((e + 1 + sgn l : Nat) : Int)) := by omega
        simp only [ifB_decide, if_pos q, bindO_ok, unc_cons, asI_int, un0_nil, if_neg hz, hx, hmi]
        generalize hN : numV 0 ((l.drop (sgn l)).take (wh isDig (l.drop (sgn l)))) = N
        by_cases hm : l.head? = some 45
        · have w2 : IntKind.wrap .i64 (0 - ((min N 1000000 : Nat) : Int)) = -((min N 1000000 : Nat) : Int) := by
            rw [wrap_i64 (by omega) (by omega)]; omega
          have w3 : IntKind.wrap .i64 (pw + -((min N 1000000 : Nat) : Int)) = pw + -((min N 1000000 : Nat) : Int) := wrap_i64 (by omega) (by omega)
          simp only [if_pos hm, letV_eq, w2, bindO_ok, unc_cons, asI_int, un0_nil, w3]
          rw [show e + 1 + sgn l + wh isDig (l.drop (sgn l)) = e + (1 + sgn l + wh isDig (l.drop (sgn l))) by omega]
        · have w3 : IntKind.wrap .i64 (pw + ((min N 1000000 : Nat) : Int)) = pw + ((min N 1000000 : Nat) : Int) := wrap_i64 (by omega) (by omega)
          simp only [if_neg hm, letV_eq, bindO_ok, unc_cons, asI_int, un0_nil, w3]
          rw [show e + 1 + sgn l + wh isDig (l.drop (sgn l)) = e + (1 + sgn l + wh isDig (l.drop (sgn l))) by omega]
    · have hc' : (c == 101 || c == 69) = false := by simpa using hc
      simp only [hc', ifB_false, bindO_ok, expo, if_neg hc]
      simp
theorem expo_bound (s : List UInt8) : -1000000 ≤ (expo s).2 ∧ (expo s).2 ≤ 1000000 := by
  unfold expo
  split
  · simp
  · split
    · dsimp only
      split
      · simp
      · dsimp only
        split <;> omega
    · simp
theorem rnumber {s : List UInt8} (hs : s.length ≤ 1000000) (h1 : 1 ≤ wh isDig s) : (orc vE).bare 38 [.str s] = some (.tup [.int .u8 ((number s).1 : Int), .int .i64 ((number s).2 : Int)]) := by
  refine bare_of rfl ((g38_eq _).trans ?_)
  have l1 : loopO (g38_L1 s) ([.int .i64 0], St.mk 0 0 Tr.leaf) = some (0, [.int .i64 ((wh isDig s : Nat) : Int)], St.mk 0 0 Tr.leaf) := by
    have := num_loop1 hs (St.mk 0 0 Tr.leaf) (n := 0) (l := s) rfl
    rw [Nat.zero_add] at this
    exact this
  have hw := wh_le isDig s
  have hd := head_at s (wh isDig s) 46 (by decide)
  have hd' : ((((s.getD (wh isDig s) 0).toNat : Nat) : Int) != 46) = !(decide ((s.drop (wh isDig s)).head? = some 46)) := by
    unfold bne
    rw [← hd, show ((((s.getD (wh isDig s) 0).toNat : Nat) : Int) == 46) = (s.getD (wh isDig s) 0 == 46) from byte_beq _ 46]
  simp only [g38, asS_str, l1, bindO_ok, unc_cons, asI_int, un0_nil, call_at, hd']
  have hnum : number s = if (s.drop (wh isDig s)).head? = some 46 then (if wh isDig s + wh isDig (s.drop (wh isDig s + 1)) > 15 ∨ (expo (s.drop (wh isDig s + 1 + wh isDig (s.drop (wh isDig s + 1))))).2 - (wh isDig (s.drop (wh isDig s + 1)) : Int) < -22 ∨ (expo (s.drop (wh isDig s + 1 + wh isDig (s.drop (wh isDig s + 1))))).2 - (wh isDig (s.drop (wh isDig s + 1)) : Int) > 22 then 9 else 6, wh isDig s + 1 + wh isDig (s.drop (wh isDig s + 1)) + (expo (s.drop (wh isDig s + 1 + wh isDig (s.drop (wh isDig s + 1))))).1) else (5, wh isDig s) := rfl
  rw [hnum]
  by_cases h46 : (s.drop (wh isDig s)).head? = some 46
  · have hlt : wh isDig s < s.length := by
      rcases Nat.lt_or_ge (wh isDig s) s.length with q | q
      · exact q
      · rw [List.drop_of_length_le q] at h46; cases h46
    have l2 := num_loop2 hs (St.mk 0 0 Tr.leaf) (n := wh isDig s + 1) (l := s.drop (wh isDig s + 1)) rfl
    have hk := wh_le isDig (s.drop (wh isDig s + 1))
    rw [List.length_drop] at hk
    generalize hn : wh isDig s = n at *
    generalize hkk : wh isDig (s.drop (n + 1)) = k at *
    have w1 := wrapA1 (show n + 1 ≤ 9223372036854775807 by omega)
    have w2 : IntKind.wrap .i64 (((n + 1 : Nat) : Int) - ((n + 1 + k : Nat) : Int)) = -(k : Int) := by rw [wrap_i64 (by omega) (by omega)]; omega
    have w3 : IntKind.wrap .i64 (((n + 1 + k : Nat) : Int) - 1) = ((n + k : Nat) : Int) := by rw [wrap_i64 (by omega) (by omega)]; omega
    simp only [decide_eq_true h46, Bool.not_true, ifB_false, letV_eq, w1, l2, bindO_ok, unc_cons, asI_int, un0_nil, w2, w3, if_pos h46]
    have re := fun (K : Car → Option AV) => rexpo hs (n + 1 + k) (-(k : Int)) (by omega) (by omega) (by omega) (St.mk 0 0 Tr.leaf) K
    simp only [letV_eq] at re
    rw [re]
    have hb := expo_bound (s.drop (n + 1 + k))
    generalize (expo (s.drop (n + 1 + k))).1 = x1 at *
    generalize (expo (s.drop (n + 1 + k))).2 = x2 at *
    simp only [unc_cons, asI_int, un0_nil]
    by_cases c1 : n + k > 15
    · have q : ((n + k : Nat) : Int) > 15 := by omega
      simp only [ifB_decide, if_pos q, bindO_ok, unc_cons, asB_bool, un0_nil, ifB_true, if_pos (show n + k > 15 ∨ x2 - (k : Int) < -22 ∨ x2 - (k : Int) > 22 from .inl c1)]
      rfl
    · have q : ¬ ((n + k : Nat) : Int) > 15 := by omega
      by_cases c2 : x2 - (k : Int) < -22
      · have q2 : -(k : Int) + x2 < -22 := by omega
        simp only [ifB_decide, if_neg q, if_pos q2, bindO_ok, unc_cons, asB_bool, un0_nil, ifB_true, if_pos (show n + k > 15 ∨ x2 - (k : Int) < -22 ∨ x2 - (k : Int) > 22 from .inr (.inl c2))]
        rfl
      · have q2 : ¬ -(k : Int) + x2 < -22 := by omega
        by_cases c3 : x2 - (k : Int) > 22
        · have q3 : -(k : Int) + x2 > 22 := by omega
          simp only [ifB_decide, if_neg q, if_neg q2, if_pos q3, bindO_ok, unc_cons, asB_bool, un0_nil, if_pos (show n + k > 15 ∨ x2 - (k : Int) < -22 ∨ x2 - (k : Int) > 22 from .inr (.inr c3))]
          rfl
        · have q3 : ¬ -(k : Int) + x2 > 22 := by omega
          simp only [ifB_decide, if_neg q, if_neg q2, if_neg q3, bindO_ok, unc_cons, asB_bool, un0_nil, if_neg (show ¬ (n + k > 15 ∨ x2 - (k : Int) < -22 ∨ x2 - (k : Int) > 22) by omega)]
          rfl
  · simp only [decide_eq_false h46, Bool.not_false, ifB_true, if_neg h46]
    rfl
end Go.Proofs.YtcghfoagjphaoaaGreatDoor.Vm
/- Tokens: the reference's cut and its tokens. -/
namespace Go.Proofs.YtcghfoagjphaoaaGreatDoor.Vm
open Go Go.VM Go.Proofs Go.Lex
def wordsL : AV := AV.sl 1 [AV.str [108, 101, 116], AV.str [114, 101, 99], AV.str [105, 110], AV.str [102, 117, 110], AV.str [105, 102], AV.str [116, 104, 101, 110], AV.str [101, 108, 115, 101], AV.str [109, 97, 116, 99, 104], AV.str [119, 105, 116, 104], AV.str [116, 114, 117, 101], AV.str [102, 97, 108, 115, 101], AV.str [109, 111, 100]] Perm.shut
def twosL : AV := AV.sl 1 [AV.str [45, 62], AV.str [58, 58], AV.str [60, 62], AV.str [60, 61], AV.str [62, 61], AV.str [43, 46], AV.str [45, 46], AV.str [42, 46], AV.str [47, 46], AV.str [38, 38], AV.str [124, 124]] Perm.shut
theorem strs_idx (l : List (List UInt8)) (hl : l.length ≤ 1000) {j : Nat} {w : List UInt8} (h : l[j]? = some w) {β : Type} (st : St) (K : AV → List Nat → Option β) : idxA 1 (AV.sl 1 (l.map AV.str) .shut) (j : Int) st K = K (.ip [.str w]) [] :=
  (IsSl.shut (z := 1) (es := l.map AV.str) (by rw [List.length_map]; omega)).idx (by rw [List.getElem?_map, h]; rfl) st K
theorem words_idx {j : Nat} {w : List UInt8} (h : words[j]? = some w) {β : Type} (st : St) (K : AV → List Nat → Option β) : idxA 1 wordsL (j : Int) st K = K (.ip [.str w]) [] := strs_idx words (by decide) h st K
theorem twos_idx {j : Nat} {w : List UInt8} (h : twos[j]? = some w) {β : Type} (st : St) (K : AV → List Nat → Option β) : idxA 1 twosL (j : Int) st K = K (.ip [.str w]) [] := strs_idx twos (by decide) h st K
theorem word_loop (w : List UInt8) (st : St) : ∀ (l : List (List UInt8)) (j : Nat), words.drop j = l → l.length + j = 12 →
    loopO (g36_L1 w) ([.bool false, .int .i64 (j : Int)], st) = some (if l.contains w then (1, [.bool true], st) else (0, [.bool false], st))
  | [], j, hd, hj => by
    have q : ¬ (j : Int) < 12 := by simp at hj; omega
    refine loopO_inr ?_
    simp only [g36_L1, unc_cons, asB_bool, asI_int, un0_nil, ifB_decide, if_neg q]
    rfl
  | x :: l, j, hd, hj => by
    obtain ⟨hg, hr, hlt⟩ := drop_cons hd
    have q : (j : Int) < 12 := by simp at hj; omega
    have hidx := fun {β : Type} (st : St) (K : AV → List Nat → Option β) => words_idx hg st K
    unfold wordsL at hidx
    rw [List.contains_cons, BEq.comm]
    cases hx : x == w with
    | true =>
      refine loopO_inr ?_
      simp only [g36_L1, unc_cons, asB_bool, asI_int, un0_nil, ifB_decide, if_pos q, hidx, loadS_ip, takeO_one, bindO_ok, asS_str, hx, ifB_true, Bool.true_or, if_true]
    | false =>
      rw [loopO_inl (s' := ([.bool false, .int .i64 ((j + 1 : Nat) : Int)], st)), word_loop w st l (j + 1) hr (by simp at hj; omega), Bool.false_or]
      simp only [g36_L1, unc_cons, asB_bool, asI_int, un0_nil, ifB_decide, if_pos q, hidx, loadS_ip, takeO_one, bindO_ok, asS_str, hx, ifB_false, letV_eq, wrapA1 (show j + 1 ≤ 9223372036854775807 by simp at hj; omega)]
theorem rword (w : List UInt8) : (orc vE).bare 36 [.str w] = some (.bool (words.contains w)) := by
  refine bare_of rfl ((g36_eq _).trans ?_)
  have e : loopO (g36_L1 w) ([.bool false, .int .i64 0], St.mk 0 0 Tr.leaf) = _ := word_loop w (St.mk 0 0 Tr.leaf) words 0 rfl rfl
  simp only [g36, asS_str]
  rw [e]
  cases words.contains w <;> rfl
theorem call_rword {β : Type} (w : List UInt8) (st : St) (K : Kv β) : callS (orc vE) 36 [.str w] st K = K (.bool (words.contains w)) st q0 := callS_bare st K rfl rfl rfl (rword w)
theorem twos_len {t : List UInt8} {j : Nat} (h : twos[j]? = some t) : t.length = 2 := by
  have hm := List.mem_of_getElem? h
  simp only [twos, List.mem_cons, List.not_mem_nil, or_false] at hm
  rcases hm with rfl | rfl | rfl | rfl | rfl | rfl | rfl | rfl | rfl | rfl | rfl <;> rfl
theorem two_loop (s : List UInt8) (st : St) : ∀ (l : List (List UInt8)) (j : Nat), twos.drop j = l → l.length + j = 11 →
    loopO (g18_L3 s) ([.int .u8 0, .int .i64 0, .int .i64 (j : Int)], st) = some (if l.contains (s.take 2) then (1, [.int .u8 8, .int .i64 2], st) else (0, [.int .u8 0, .int .i64 0], st))
  | [], j, hd, hj => by
    have q : ¬ (j : Int) < 11 := by simp at hj; omega
    refine loopO_inr ?_
    simp only [g18_L3, unc_cons, asI_int, un0_nil, ifB_decide, if_neg q]
    rfl
  | x :: l, j, hd, hj => by
    obtain ⟨hg, hr, hlt⟩ := drop_cons hd
    have q : (j : Int) < 11 := by simp at hj; omega
    have hidx := fun {β : Type} (st : St) (K : AV → List Nat → Option β) => twos_idx hg st K
    have hh := fun {β : Type} (st : St) (K : Kv β) => call_has0 s (twos_len hg) st K
    unfold twosL at hidx
    rw [List.contains_cons]
    cases hx : s.take 2 == x with
    | true =>
      refine loopO_inr ?_
      simp only [g18_L3, unc_cons, asI_int, un0_nil, ifB_decide, if_pos q, hidx, loadS_ip, takeO_one, bindO_ok, asS_str, hh, hx, asB_bool, ifB_true, Bool.true_or, if_true]
    | false =>
      rw [loopO_inl (s' := ([.int .u8 0, .int .i64 0, .int .i64 ((j + 1 : Nat) : Int)], st)), two_loop s st l (j + 1) hr (by simp at hj; omega), Bool.false_or]
      simp only [g18_L3, unc_cons, asI_int, un0_nil, ifB_decide, if_pos q, hidx, loadS_ip, takeO_one, bindO_ok, asS_str, hh, hx, asB_bool, ifB_false, letV_eq, wrapA1 (show j + 1 ≤ 9223372036854775807 by simp at hj; omega)]
theorem one_loop (c : UInt8) (st : St) : ∀ (l : List UInt8) (j : Nat), ones1.drop j = l → l.length + j = 16 →
    loopO (g18_L4 c) ([.int .u8 0, .int .i64 0, .int .i64 (j : Int)], st) = some (if l.contains c then (1, [.int .u8 8, .int .i64 1], st) else (0, [.int .u8 0, .int .i64 0], st))
  | [], j, hd, hj => by
    have q : ¬ (j : Int) < 16 := by simp at hj; omega
    refine loopO_inr ?_
    simp only [g18_L4, unc_cons, asI_int, un0_nil, ifB_decide, if_neg q]
    rfl
  | x :: l, j, hd, hj => by
    obtain ⟨hg, hr, hlt⟩ := drop_cons hd
    have q : (j : Int) < 16 := by simp at hj; omega
    have hi := fun {β : Type} (K : UInt8 → Option β) => idxStr_nat hlt K
    have he : ones1[j] = x := getElem_of hlt hg
    rw [he] at hi
    unfold ones1 at hi
    have hb := byte_beq x c
    rw [List.contains_cons, BEq.comm]
    cases hx : x == c with
    | true =>
      rw [hx] at hb
      refine loopO_inr ?_
      simp only [g18_L4, unc_cons, asI_int, un0_nil, ifB_decide, if_pos q, hi, hb, ifB_true, Bool.true_or, if_true]
    | false =>
      rw [hx] at hb
      rw [loopO_inl (s' := ([.int .u8 0, .int .i64 0, .int .i64 ((j + 1 : Nat) : Int)], st)), one_loop c st l (j + 1) hr (by simp at hj; omega), Bool.false_or]
      simp only [g18_L4, unc_cons, asI_int, un0_nil, ifB_decide, if_pos q, hi, hb, ifB_false, letV_eq, wrapA1 (show j + 1 ≤ 9223372036854775807 by simp at hj; omega)]
theorem rcut {s : List UInt8} (hne : s ≠ []) (hs : s.length ≤ 1000000) : (orc vE).bare 18 [.str s] = some (.tup [.int .u8 ((cut s).1 : Int), .int .i64 ((cut s).2 : Int)]) := by
  cases s with
  | nil => exact absurd rfl hne
  | cons c l =>
  refine bare_of rfl ((g18_eq _).trans ?_)
  have i0 : ∀ {β : Type} (K : UInt8 → Option β), idxStr (c :: l) 0 K = K c := fun K => idxStr_nat (k := 0) (by simp) K
  have hh := fun {β : Type} (st : St) (K : Kv β) => call_has0 (c :: l) (t := [40, 42]) rfl st K
  simp only [g18, asS_str, i0, call_rblank, asB_bool]
  unfold cut
  dsimp only
  cases hb : isBlank c with
  | true =>
    have e : loopO (g18_L1 (c :: l)) ([.int .i64 0], St.mk 0 0 Tr.leaf) = some (0, [.int .i64 ((wh isBlank (c :: l) : Nat) : Int)], St.mk 0 0 Tr.leaf) := by
      have := cut_loop1 hs (St.mk 0 0 Tr.leaf) (n := 0) (l := c :: l) rfl
      rw [Nat.zero_add] at this
      exact this
    simp only [ifB_true, e, bindO_ok, unc_cons, asI_int, un0_nil, if_true]
    rfl
  | false =>
  simp only [ifB_false, hh, asB_bool, Bool.false_eq_true, if_false]
  by_cases hr : (c :: l).take 2 = [40, 42]
  · have hr' : ((c :: l).take 2 == [40, 42]) = true := beq_iff_eq.2 hr
    have hl : 2 ≤ (c :: l).length := by
      have := congrArg List.length hr
      rw [List.length_take] at this
      simp at this; simp; omega
    have e := fun {β : Type} (st : St) (K : Kv β) => callS_bare st K rfl rfl rfl (rremark_ok hs hl)
    simp only [hr', ifB_true, e, if_pos hr]
    cases rem (List.drop 2 (c :: l)) 1 with
    | some n => simp only [unT_tup, nthS_zero, nthS_one, asI_int, asB_bool, ifB_true]; rfl
    | none => simp only [unT_tup, nthS_zero, nthS_one, asI_int, asB_bool, ifB_false]; rfl
  have hr' : ((c :: l).take 2 == [40, 42]) = false := beq_eq_false_iff_ne.2 hr
  simp only [hr', ifB_false, if_neg hr, call_rlow, asB_bool]
  cases hlo : isLow c with
  | true =>
    have e : loopO (g18_L2 (c :: l)) ([.int .i64 0], St.mk 0 0 Tr.leaf) = some (0, [.int .i64 ((wh isBeh (c :: l) : Nat) : Int)], St.mk 0 0 Tr.leaf) := by
      have := cut_loop2 hs (St.mk 0 0 Tr.leaf) (n := 0) (l := c :: l) rfl
      rw [Nat.zero_add] at this
      exact this
    have hw := wh_take isBeh (c :: l)
    simp only [ifB_true, e, bindO_ok, unc_cons, asI_int, un0_nil, uptoS_nat (wh_le isBeh (c :: l)), List.drop_zero, letV_eq, hw, call_rword, asB_bool, if_true]
    unfold nameK
    by_cases h1 : (c :: l).takeWhile isBeh = [95]
    · have h2 : wh isBeh (c :: l) = 1 := by
        show ((c :: l).takeWhile isBeh).length = 1
        rw [h1]; rfl
      rw [h1, h2]; rfl
    · rw [beq_eq_false_iff_ne.2 h1, if_neg h1]
      cases words.contains ((c :: l).takeWhile isBeh) <;> rfl
  | false =>
  simp only [ifB_false, Bool.false_eq_true, if_false, call_rdigit, asB_bool]
  cases hdi : isDig c with
  | true =>
    have e := fun {β : Type} (st : St) (K : Kv β) => callS_bare st K rfl rfl rfl (rnumber hs (by rw [wh_cons, if_pos hdi]; omega))
    simp only [ifB_true, e, unT_tup, nthS_zero, nthS_one, asI_int, if_true]
  | false =>
  have b34 : ((c.toNat : Int) == 34) = (c == 34) := byte_beq c 34
  simp only [ifB_false, Bool.false_eq_true, if_false, b34]
  by_cases hq : c = 34
  · have hq' : (c == 34) = true := beq_iff_eq.2 hq
    have e := fun {β : Type} (st : St) (K : Kv β) => callS_bare st K rfl rfl rfl (rtext_ok (c := c) hs)
    simp only [hq', ifB_true, e, unT_tup, nthS_zero, nthS_one, asI_int, if_pos hq]
  have hq' : (c == 34) = false := beq_eq_false_iff_ne.2 hq
  have e3 : loopO (g18_L3 (c :: l)) ([.int .u8 0, .int .i64 0, .int .i64 0], St.mk 0 0 Tr.leaf) = _ := two_loop (c :: l) (St.mk 0 0 Tr.leaf) twos 0 rfl rfl
  simp only [hq', ifB_false, if_neg hq]
  rw [e3]
  cases ht : twos.contains ((c :: l).take 2) with
  | true => rfl
  | false =>
  have e4 : loopO (g18_L4 c) ([.int .u8 0, .int .i64 0, .int .i64 0], St.mk 0 0 Tr.leaf) = some (if isOne c then (1, [.int .u8 8, .int .i64 1], St.mk 0 0 Tr.leaf) else (0, [.int .u8 0, .int .i64 0], St.mk 0 0 Tr.leaf)) := one_loop c (St.mk 0 0 Tr.leaf) ones1 0 rfl rfl
  simp only [Bool.false_eq_true, if_false, bindO_ok, unc_cons, asI_int, un0_nil, sel2_zero]
  rw [e4]
  cases ho : isOne c with
  | true => rfl
  | false =>
  obtain ⟨p, e, _⟩ := ref_rune (s := c :: l) (by simp)
  have e := fun {β : Type} (st : St) (K : Kv β) => callS_bare st K rfl rfl rfl e
  simp only [Bool.false_eq_true, if_false, bindO_ok, unc_cons, asI_int, un0_nil, sel2_zero, e, unT_tup, nthS_zero, nthS_one]
  rfl
theorem rtoks_loop : ∀ (n : Nat) (s : List UInt8) (st : St) (v : AV) (es : List AV), s.length ≤ n → n ≤ 500000 → Own st 2 39 v es → es.length + n ≤ 500000 →
    ∃ v' st', loopO g11_L1 ([v, .str s], st) = some (0, [v'], st') ∧ Own st' 2 39 v' (es ++ (tokens s).map tok)
  | n, [], st, v, es, _, _, ho, _ => by
    refine ⟨v, st, loopO_inr ?_, by simpa [tokens_nil] using ho⟩
    simp only [g11_L1, unc_cons, asS_str, un0_nil, show (!(([] : List UInt8) == [])) = false from rfl, ifB_false]
  | 0, c :: l, _, _, _, h, _, _, _ => by simp at h
  | n + 1, c :: l, st, v, es, h, hn, ho, he => by
    have hc := cut_le (s := c :: l) (by simp)
    have hcut := fun {β : Type} (st : St) (K : Kv β) => callS_bare st K rfl rfl rfl (rcut (s := c :: l) (by simp) (by omega))
    obtain ⟨v1, st1, o1, k1, x1, a1⟩ := own_app (b := 24) (tok ((cut (c :: l)).1, (c :: l).take (cut (c :: l)).2)) ho (room_of (by omega) (by omega) (by omega))
    have a1 : ∀ {β : Type} (K : Kv β), appS 2 24 39 v [.agg [.int .u8 ((cut (c :: l)).1 : Int), .str ((c :: l).take (cut (c :: l)).2)]] st K = K v1 st1 x1 := fun K => a1 K
    have hd : ((c :: l).drop (cut (c :: l)).2).length ≤ n := by rw [List.length_drop]; omega
    obtain ⟨v2, st2, e2, o2⟩ := rtoks_loop n ((c :: l).drop (cut (c :: l)).2) st1 v1 _ hd (by omega) o1 (by rw [List.length_append]; simp; omega)
    refine ⟨v2, st2, ?_, ?_⟩
    · rw [loopO_inl (s' := ([v1, .str ((c :: l).drop (cut (c :: l)).2)], st1)), e2]
      simp only [g11_L1, unc_cons, asS_str, un0_nil, show (!((c :: l : List UInt8) == [])) = true from rfl, ifB_true, hcut, unT_tup, nthS_zero, nthS_one, asI_int, uptoS_nat hc.2, List.drop_zero, letV_eq, a1, List.take_length]
    · rw [tokens_cons (by simp), List.map_cons]
      rw [List.append_assoc] at o2
      exact o2
theorem call_rvalid {β : Type} (s : List UInt8) (st : St) (K : Kv β) : callS (orc vE) 17 [.str s] st K = K (.bool (validS s)) st q0 := callS_bare st K rfl rfl rfl (ref_valid s)
theorem rtokens_large {s : List UInt8} (h : 65536 < s.length) : (orc vE).bare 11 [.str s] = some (.tup [.nils, .int .i64 40]) := by
  refine bare_of rfl ((g11_eq _).trans ?_)
  have q : (s.length : Int) > 65536 := by omega
  simp only [g11, asS_str, ifB_decide, if_pos q]
theorem rtokens_form {s : List UInt8} (h : s.length ≤ 65536) (hv : validS s = false) : (orc vE).bare 11 [.str s] = some (.tup [.nils, .int .i64 4]) := by
  refine bare_of rfl ((g11_eq _).trans ?_)
  have q : ¬ (s.length : Int) > 65536 := by omega
  simp only [g11, asS_str, ifB_decide, if_neg q, call_rvalid, hv, asB_bool, Bool.not_false, ifB_true]
theorem rtokens_ok {s : List UInt8} (h : s.length ≤ 65536) (hv : validS s = true) : ∃ x, (orc vE).bare 11 [.str s] = some (.tup [x, .int .i64 0]) ∧ IsSl 2 x ((tokens s).map tok) := by
  have q : ¬ (s.length : Int) > 65536 := by omega
  obtain ⟨v', st', e, o⟩ := rtoks_loop s.length s (St.mk 0 0 Tr.leaf) .nils [] (Nat.le_refl _) (by omega) (Own.nils (Nat.le_refl _) _ _) (by simp; omega)
  rw [List.nil_append] at o
  obtain ⟨x, hx, hf⟩ := frz_own2 o (fz_int .i64 0) rfl
  refine ⟨x, bare_of rfl ((g11_eq _).trans ?_), hx⟩
  simp only [g11, asS_str, ifB_decide, if_neg q, call_rvalid, hv, asB_bool, Bool.not_true, ifB_false, e, bindO_ok, unc_cons, un0_nil, hf]
end Go.Proofs.YtcghfoagjphaoaaGreatDoor.Vm
/- Tokens as values: for seats that do not reach lex.One (else LexK has these). -/
namespace Go.Proofs.YtcghfoagjphaoaaGreatDoor.Vm
open Go Go.VM Go.Proofs Go.Lex
theorem eq_tok (a b : Int) (s t : List UInt8) : eqT (Env.T vE) 20 39 (.agg [.int .u8 a, .str s]) (.agg [.int .u8 b, .str t]) = .ok (a == b && s == t) := by
  have h : eqT (Env.T vE) 20 39 (.agg [.int .u8 a, .str s]) (.agg [.int .u8 b, .str t]) = (match a == b with | true => (match s == t with | true => .ok true | false => .ok false) | false => .ok false) := by kernel_rfl
  rw [h]
  cases a == b <;> cases s == t <;> rfl
theorem eql_tok (a b : Int) (s t : List UInt8) : toO (VM.binOp (Env.T vE) BinOp.eql 39 (.agg [.int .u8 a, .str s]) (.agg [.int .u8 b, .str t])) = some (.bool (a == b && s == t)) := by
  have h : VM.binOp (Env.T vE) BinOp.eql 39 (.agg [.int .u8 a, .str s]) (.agg [.int .u8 b, .str t]) = (do pure (.bool (← eqT (Env.T vE) 20 39 (.agg [.int .u8 a, .str s]) (.agg [.int .u8 b, .str t])))) := by kernel_rfl
  rw [h, eq_tok]; rfl
theorem tok_cells (p : Nat × List UInt8) : (tok p).cells = [.int .u8 (p.1 : Int), .str p.2] := rfl
theorem toks_idx {x : AV} {es : List (Nat × List UInt8)} (h : IsSl 2 x (es.map tok)) {j : Nat} {p : Nat × List UInt8} (hj : es[j]? = some p) {β : Type} (st : St) (K : AV → List Nat → Option β) : idxA 2 x (j : Int) st K = K (.ip [.int .u8 (p.1 : Int), .str p.2]) [] :=
  h.idx (by rw [List.getElem?_map, hj]; rfl) st K
end Go.Proofs.YtcghfoagjphaoaaGreatDoor.Vm
/- How many tokens at the beginnings of two rows are the same. -/
namespace Go.Proofs.YtcghfoagjphaoaaGreatDoor.Vm
open Go Go.VM Go.Proofs Go.Lex
theorem beq_tok (p q : Nat × List UInt8) : (((p.1 : Int) == (q.1 : Int)) && (p.2 == q.2)) = decide (p = q) := by
  by_cases h : p = q
  · subst h; simp
  · rw [decide_eq_false h, Bool.and_eq_false_iff]
    by_cases h1 : p.1 = q.1
    · refine .inr ?_
      rw [beq_eq_false_iff_ne]
      exact fun h2 => h (Prod.ext h1 h2)
    · refine .inl ?_
      rw [beq_eq_false_iff_ne]
      omega
theorem alike_loop {x y : AV} {es fs : List (Nat × List UInt8)} (hx : IsSl 2 x (es.map tok)) (hy : IsSl 2 y (fs.map tok)) (st : St) : ∀ (l m : List (Nat × List UInt8)) (j : Nat), es.drop j = l → fs.drop j = m →
    loopO (g12_L1 x y) ([.int .i64 (j : Int)], st) = some (0, [.int .i64 ((j + alike l m : Nat) : Int)], st) := by
  intro l
  induction l with
  | nil =>
    intro m j hd _
    have := List.drop_eq_nil_iff.1 hd
    refine loopO_inr ?_
    have q : ¬ (j : Int) < (if ((fs.map tok).length : Int) < ((es.map tok).length : Int) then ((fs.map tok).length : Int) else ((es.map tok).length : Int)) := by
      rw [List.length_map, List.length_map]; split <;> omega
    simp only [g12_L1, unc_cons, asI_int, un0_nil, hx.len, hy.len, letV_eq, ifB_decide, if_neg q, bindO_ok, asB_bool, ifB_false, alike, Nat.add_zero]
  | cons p l ih =>
    intro m j hd he
    obtain ⟨hg, hr, hlt⟩ := drop_cons hd
    cases m with
    | nil =>
      have := List.drop_eq_nil_iff.1 he
      refine loopO_inr ?_
      have q : ¬ (j : Int) < (if ((fs.map tok).length : Int) < ((es.map tok).length : Int) then ((fs.map tok).length : Int) else ((es.map tok).length : Int)) := by
        rw [List.length_map, List.length_map]; split <;> omega
      simp only [g12_L1, unc_cons, asI_int, un0_nil, hx.len, hy.len, letV_eq, ifB_decide, if_neg q, bindO_ok, asB_bool, ifB_false, alike, Nat.add_zero]
    | cons r m =>
      obtain ⟨hg2, hr2, hlt2⟩ := drop_cons he
      have hl := hx.1
      rw [List.length_map] at hl
      have q : (j : Int) < (if ((fs.map tok).length : Int) < ((es.map tok).length : Int) then ((fs.map tok).length : Int) else ((es.map tok).length : Int)) := by
        rw [List.length_map, List.length_map]; split <;> omega
      by_cases h : p = r
      · have hb : (((p.1 : Int) == (r.1 : Int)) && (p.2 == r.2)) = true := by rw [beq_tok, decide_eq_true h]
        rw [loopO_inl (s' := ([.int .i64 ((j + 1 : Nat) : Int)], st)), ih m (j + 1) hr hr2]
        · simp only [alike, if_pos h]
          rw [show j + 1 + alike l m = j + (alike l m + 1) by omega]
        · simp only [g12_L1, unc_cons, asI_int, un0_nil, hx.len, hy.len, letV_eq, ifB_decide, if_pos q, toks_idx hx hg, toks_idx hy hg2, loadS_ip, takeO2, bindO_ok, unA_agg, asS_str, eql_tok, hb, asB_bool, ifB_true, wrapA1 (show j + 1 ≤ 9223372036854775807 by omega)]
      · have hb : (((p.1 : Int) == (r.1 : Int)) && (p.2 == r.2)) = false := by rw [beq_tok, decide_eq_false h]
        refine loopO_inr ?_
        simp only [g12_L1, unc_cons, asI_int, un0_nil, hx.len, hy.len, letV_eq, ifB_decide, if_pos q, toks_idx hx hg, toks_idx hy hg2, loadS_ip, takeO2, bindO_ok, unA_agg, asS_str, eql_tok, hb, asB_bool, ifB_false, alike, if_neg h, Nat.add_zero]
theorem alike_ok {x y : AV} {es fs : List (Nat × List UInt8)} (hx : IsSl 2 x (es.map tok)) (hy : IsSl 2 y (fs.map tok)) : (orc vE).bare 12 [x, y] = some (.int .i64 (alike es fs : Int)) := by
  refine bare_of rfl ((g12_eq _ _).trans ?_)
  have e := alike_loop hx hy (St.mk 0 0 Tr.leaf) es fs 0 rfl rfl
  rw [Nat.zero_add] at e
  have e : loopO (g12_L1 x y) ([.int .i64 0], St.mk 0 0 Tr.leaf) = _ := e
  simp only [g12]
  rw [e]
  simp only [bindO_ok, unc_cons, asI_int, un0_nil]
end Go.Proofs.YtcghfoagjphaoaaGreatDoor.Vm
/- The reference's count of tokens that are the same. -/
namespace Go.Proofs.YtcghfoagjphaoaaGreatDoor.Vm
open Go Go.VM Go.Proofs Go.Lex
theorem ralike_loop {x y : AV} {es fs : List (Nat × List UInt8)} (hx : IsSl 2 x (es.map tok)) (hy : IsSl 2 y (fs.map tok)) (st : St) : ∀ (l m : List (Nat × List UInt8)) (j : Nat), es.drop j = l → fs.drop j = m →
    loopO (g14_L1 x y) ([.int .i64 (j : Int)], st) = some (0, [.int .i64 ((j + alike l m : Nat) : Int)], st) := by
  intro l
  induction l with
  | nil =>
    intro m j hd _
    have := List.drop_eq_nil_iff.1 hd
    refine loopO_inr ?_
    have q : ¬ (j : Int) < ((es.map tok).length : Int) := by rw [List.length_map]; omega
    simp only [g14_L1, unc_cons, asI_int, un0_nil, hx.len, hy.len, letV_eq, ifB_decide, if_neg q, bindO_ok, asB_bool, ifB_false, alike, Nat.add_zero]
  | cons p l ih =>
    intro m j hd he
    obtain ⟨hg, hr, hlt⟩ := drop_cons hd
    cases m with
    | nil =>
      have := List.drop_eq_nil_iff.1 he
      refine loopO_inr ?_
      have q0 : (j : Int) < ((es.map tok).length : Int) := by rw [List.length_map]; omega
      have q : ¬ (j : Int) < ((fs.map tok).length : Int) := by rw [List.length_map]; omega
      simp only [g14_L1, unc_cons, asI_int, un0_nil, hx.len, hy.len, letV_eq, ifB_decide, if_pos q0, if_neg q, bindO_ok, asB_bool, ifB_false, alike, Nat.add_zero]
    | cons r m =>
      obtain ⟨hg2, hr2, hlt2⟩ := drop_cons he
      have hl := hx.1
      rw [List.length_map] at hl
      have q0 : (j : Int) < ((es.map tok).length : Int) := by rw [List.length_map]; omega
      have q : (j : Int) < ((fs.map tok).length : Int) := by rw [List.length_map]; omega
      by_cases h : p = r
      · have hb : (((p.1 : Int) == (r.1 : Int)) && (p.2 == r.2)) = true := by rw [beq_tok, decide_eq_true h]
        rw [loopO_inl (s' := ([.int .i64 ((j + 1 : Nat) : Int)], st)), ih m (j + 1) hr hr2]
        · simp only [alike, if_pos h]
          rw [show j + 1 + alike l m = j + (alike l m + 1) by omega]
        · simp only [g14_L1, unc_cons, asI_int, un0_nil, hx.len, hy.len, letV_eq, ifB_decide, if_pos q0, if_pos q, toks_idx hx hg, toks_idx hy hg2, loadS_ip, takeO2, bindO_ok, unA_agg, asS_str, eql_tok, hb, asB_bool, ifB_true, wrapA1 (show j + 1 ≤ 9223372036854775807 by omega)]
      · have hb : (((p.1 : Int) == (r.1 : Int)) && (p.2 == r.2)) = false := by rw [beq_tok, decide_eq_false h]
        refine loopO_inr ?_
        simp only [g14_L1, unc_cons, asI_int, un0_nil, hx.len, hy.len, letV_eq, ifB_decide, if_pos q0, if_pos q, toks_idx hx hg, toks_idx hy hg2, loadS_ip, takeO2, bindO_ok, unA_agg, asS_str, eql_tok, hb, asB_bool, ifB_false, alike, if_neg h, Nat.add_zero]
theorem ralike_ok {x y : AV} {es fs : List (Nat × List UInt8)} (hx : IsSl 2 x (es.map tok)) (hy : IsSl 2 y (fs.map tok)) : (orc vE).bare 14 [x, y] = some (.int .i64 (alike es fs : Int)) := by
  refine bare_of rfl ((g14_eq _ _).trans ?_)
  have e := ralike_loop hx hy (St.mk 0 0 Tr.leaf) es fs 0 rfl rfl
  rw [Nat.zero_add] at e
  have e : loopO (g14_L1 x y) ([.int .i64 0], St.mk 0 0 Tr.leaf) = _ := e
  simp only [g14]
  rw [e]
  simp only [bindO_ok, unc_cons, asI_int, un0_nil]
end Go.Proofs.YtcghfoagjphaoaaGreatDoor.Vm
/- The reference's Same; the law's texts. -/
namespace Go.Proofs.YtcghfoagjphaoaaGreatDoor.Vm
open Go Go.VM Go.Proofs Go.Lex
theorem rsame_ok {x y : AV} {es : List (Nat × List UInt8)} (hx : IsSl 2 x (es.map tok)) (hy : IsSl 2 y (es.map tok)) : (orc vE).bare 9 [x, y] = some (.bool true) := by
  refine bare_of rfl ((g9_eq _ _).trans ?_)
  have ca := fun {β : Type} (st : St) (K : Kv β) => callS_bare (f := 14) st K rfl (by simp only [List.map_cons, List.map_nil, hx.strip, hy.strip]) (by simp [bares, VM.bare.bareAll, hx.bare, hy.bare]) (ralike_ok hx hy)
  have hl : (((es.length : Nat) : Int) == (((es.map tok).length : Nat) : Int)) = true := by rw [List.length_map]; simp
  simp only [g9, hx.len, hy.len, beq_self_eq_true, ifB_true, ca, asI_int, alike_refl, hl, bindO_ok, unc_cons, asB_bool, un0_nil]
end Go.Proofs.YtcghfoagjphaoaaGreatDoor.Vm
/- The text behind an edit, by the reference. -/
namespace Go.Proofs.YtcghfoagjphaoaaGreatDoor.Vm
open Go Go.VM Go.Proofs Go.Lex
/-- The reference's tokens, or why not. -/
theorem rtokens_any (s : List UInt8) : ∃ x, (orc vE).bare 11 [.str s] = some (.tup [x, .int .i64 (okS s)]) ∧ IsSl 2 x (if okS s = 0 then (tokens s).map tok else []) := by
  by_cases h1 : 65536 < s.length
  · have e : okS s = 40 := by unfold okS; rw [if_pos h1]
    exact ⟨.nils, by rw [e]; exact rtokens_large h1, by rw [e]; exact IsSl.nils⟩
  · cases hv : validS s with
    | false =>
      have e : okS s = 4 := by unfold okS; rw [if_neg h1, hv]; rfl
      exact ⟨.nils, by rw [e]; exact rtokens_form (by omega) hv, by rw [e]; exact IsSl.nils⟩
    | true =>
      obtain ⟨x, hx, h⟩ := rtokens_ok (by omega) hv
      have e : okS s = 0 := okS_of (by omega) hv
      exact ⟨x, by rw [e]; exact hx, by rw [e]; exact h⟩
theorem tokens_any (s : List UInt8) : ∃ x, (orc vE).bare 16 [.str s] = some (.tup [x, .int .i64 (okS s)]) ∧ IsSl 2 x (if okS s = 0 then (tokens s).map tok else []) := by
  by_cases h1 : 65536 < s.length
  · have e : okS s = 40 := by unfold okS; rw [if_pos h1]
    exact ⟨.nils, by rw [e]; exact tokens_large h1, by rw [e]; exact IsSl.nils⟩
  · cases hv : validS s with
    | false =>
      have e : okS s = 4 := by unfold okS; rw [if_neg h1, hv]; rfl
      exact ⟨.nils, by rw [e]; exact tokens_form (by omega) hv, by rw [e]; exact IsSl.nils⟩
    | true =>
      obtain ⟨x, hx, h⟩ := tokens_ok (by omega) hv
      have e : okS s = 0 := okS_of (by omega) hv
      exact ⟨x, by rw [e]; exact hx, by rw [e]; exact h⟩
end Go.Proofs.YtcghfoagjphaoaaGreatDoor.Vm
/- The text behind an edit, by the reference: Do. -/
namespace Go.Proofs.YtcghfoagjphaoaaGreatDoor.Vm
open Go Go.VM Go.Proofs Go.Lex
def edV (f t : Int) (x : List UInt8) : AV := .agg [.int .i64 f, .int .i64 t, .str x]
theorem rdo_ok {s x : List UInt8} (f t : Int) (hx : x.length ≤ 1000000) : (orc vE).bare 6 [.str s, edV f t x] = some (.tup [.str (doS s f t x).1, .int .i64 (doS s f t x).2]) := by
  refine bare_of rfl ((g6_eq _ _).trans ?_)
  obtain ⟨a, ha, _⟩ := rtokens_any s
  have c1 := fun {β : Type} (st : St) (K : Kv β) => callS_bare st K rfl rfl rfl ha
  by_cases h1 : okS s = 0
  · have hs := (okS_zero h1).1
    obtain ⟨s1, g1, k1, n1, fx1, e1⟩ := local_var (O := orc vE) (st := St.mk 0 0 Tr.leaf) (t := 23) (z := 2) (old := [.int .i64 0, .int .i64 0]) (cs := [.int .i64 f, .int .i64 t]) (.agg [.int .i64 f, .int .i64 t]) rfl rfl (Nat.le_refl _)
    unfold doS
    rw [if_neg (by simpa using h1)]
    by_cases h2 : f < 0 ∨ f > t ∨ t > (s.length : Int)
    · rw [if_pos h2]
      by_cases a1 : f < 0
      · simp only [g6, edV, asS_str, unA_agg, unc_cons, asI_int, un0_nil, c1, unT_tup, nthS_zero, nthS_one, ifB_bne, h1, if_true, letSt_eq, e1, loadS_mp g1, List.drop_zero, takeO_one, bindO_ok, ifB_decide, if_pos a1, asB_bool, ifB_true]
      · by_cases a2 : f > t
        · simp only [g6, edV, asS_str, unA_agg, unc_cons, asI_int, un0_nil, c1, unT_tup, nthS_zero, nthS_one, ifB_bne, h1, if_true, letSt_eq, e1, loadS_mp g1, List.drop_zero, List.drop_succ_cons, takeO_one, bindO_ok, ifB_decide, if_neg a1, if_pos a2, asB_bool, ifB_true]
        · have a3 : t > (s.length : Int) := by omega
          simp only [g6, edV, asS_str, unA_agg, unc_cons, asI_int, un0_nil, c1, unT_tup, nthS_zero, nthS_one, ifB_bne, h1, if_true, letSt_eq, e1, loadS_mp g1, List.drop_zero, List.drop_succ_cons, takeO_one, bindO_ok, ifB_decide, if_neg a1, if_neg a2, asB_bool, if_pos a3]
    · rw [if_neg h2]
      have a1 : ¬ f < 0 := by omega
      have a2 : ¬ f > t := by omega
      have a3 : ¬ t > (s.length : Int) := by omega
      obtain ⟨n, rfl⟩ := Int.eq_ofNat_of_zero_le (show 0 ≤ f by omega)
      obtain ⟨m, rfl⟩ := Int.eq_ofNat_of_zero_le (show 0 ≤ t by omega)
      obtain ⟨b, hb, _⟩ := rtokens_any (outE s n m x)
      have c2 := fun {β : Type} (st : St) (K : Kv β) => callS_bare st K rfl rfl rfl hb
      have ho : outE s (n : Int) (m : Int) x = s.take n ++ x ++ s.drop m := rfl
      rw [ho] at c2 ⊢
      have b1 : Nat.ble ((s.take n).length + x.length) 9223372036854775807 = true := ble_of (by rw [List.length_take]; omega)
      have b2 : Nat.ble ((s.take n ++ x).length + (s.drop m).length) 9223372036854775807 = true := ble_of (by rw [List.length_append, List.length_take, List.length_drop]; omega)
      simp only [g6, edV, asS_str, unA_agg, unc_cons, asI_int, un0_nil, c1, unT_tup, nthS_zero, nthS_one, ifB_bne, h1, if_true, letSt_eq, e1, loadS_mp g1, List.drop_zero, List.drop_succ_cons, takeO_one, bindO_ok, ifB_decide, if_neg a1, if_neg a2, asB_bool, if_neg a3, uptoS_nat (show n ≤ s.length by omega), uptoS_nat (show m ≤ s.length by omega), letV_eq, b1, b2, chk_true, List.take_length, c2]
      by_cases h3 : okS (s.take n ++ x ++ s.drop m) = 0
      · rw [if_pos h3, if_neg (by simpa using h3)]
      · rw [if_neg h3, if_pos h3]
  · unfold doS
    rw [if_pos h1]
    simp only [g6, edV, asS_str, unA_agg, unc_cons, asI_int, un0_nil, c1, unT_tup, nthS_zero, nthS_one, ifB_bne, if_neg h1]
end Go.Proofs.YtcghfoagjphaoaaGreatDoor.Vm
/- How many tokens stay, by the program. -/
namespace Go.Proofs.YtcghfoagjphaoaaGreatDoor.Vm
open Go Go.VM Go.Proofs Go.Lex
theorem keep_loop {x : AV} {es : List (Nat × List UInt8)} (hx : IsSl 2 x (es.map tok)) (hes : es.length ≤ 1000000) (f : Nat) (st : St) : ∀ (l : List (Nat × List UInt8)) (j a : Nat), es.drop j = l → a ≤ f → a + (bytesL l).length ≤ 1000000 →
    loopO (g10_L1 (f : Int) x) ([.int .i64 (a : Int), .int .i64 (j : Int)], st) = some (0, [.int .i64 ((a + (bytesL (l.take (keeps (f - a) l))).length : Nat) : Int), .int .i64 ((j + keeps (f - a) l : Nat) : Int)], st)
  | [], j, a, hd, ha, hb => by
    have := List.drop_eq_nil_iff.1 hd
    have q : ¬ (j : Int) < ((es.map tok).length : Int) := by rw [List.length_map]; omega
    refine loopO_inr ?_
    simp only [g10_L1, unc_cons, asI_int, un0_nil, hx.len, ifB_decide, if_neg q, bindO_ok, asB_bool, ifB_false]
    rfl
  | p :: l, j, a, hd, ha, hb => by
    obtain ⟨hg, hr, hlt⟩ := drop_cons hd
    have q : (j : Int) < ((es.map tok).length : Int) := by rw [List.length_map]; omega
    rw [bytesL_cons, List.length_append] at hb
    have f1 : ∀ {β : Type} (K : AV → Option β), fldA 1 (.ip [.int .u8 (p.1 : Int), .str p.2]) K = K (.ip [.str p.2]) := fun K => rfl
    have w1 := wrapA (show a + p.2.length ≤ 9223372036854775807 by omega)
    have w2 := wrapA2 (show a + p.2.length + 2 ≤ 9223372036854775807 by omega)
    simp only [keeps]
    by_cases hk : p.2.length + 2 < f - a
    · have hk' : ((a + p.2.length + 2 : Nat) : Int) < (f : Int) := by omega
      have e : f - a - p.2.length = f - (a + p.2.length) := by omega
      rw [if_pos hk, e, loopO_inl (s' := ([.int .i64 ((a + p.2.length : Nat) : Int), .int .i64 ((j + 1 : Nat) : Int)], st)), keep_loop hx hes f st l (j + 1) (a + p.2.length) hr (by omega) (by omega)]
      · rw [List.take_succ_cons, bytesL_cons, List.length_append, ← Nat.add_assoc, show j + 1 + keeps (f - (a + p.2.length)) l = j + (keeps (f - (a + p.2.length)) l + 1) by omega]
      · simp only [g10_L1, unc_cons, asI_int, un0_nil, hx.len, ifB_decide, if_pos q, toks_idx hx hg, f1, loadS_ip, takeO_one, bindO_ok, asS_str, letV_eq, w1, w2, if_pos hk', asB_bool, wrapA1 (show j + 1 ≤ 9223372036854775807 by omega)]
    · have hk' : ¬ ((a + p.2.length + 2 : Nat) : Int) < (f : Int) := by omega
      rw [if_neg hk]
      refine loopO_inr ?_
      simp only [g10_L1, unc_cons, asI_int, un0_nil, hx.len, ifB_decide, if_pos q, toks_idx hx hg, f1, loadS_ip, takeO_one, bindO_ok, asS_str, letV_eq, w1, w2, if_neg hk', asB_bool, ifB_false]
      rfl
end Go.Proofs.YtcghfoagjphaoaaGreatDoor.Vm
