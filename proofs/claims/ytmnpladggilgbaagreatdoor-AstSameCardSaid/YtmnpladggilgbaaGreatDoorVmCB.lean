/-
  A part of the proof.
-/
import Derived.Test.YtmnpladggilgbaaGreatDoorVmCA
import Derived.Test.YtmnpladggilgbaaGreatDoorVmBH
import Derived.Test.YtmnpladggilgbaaGreatDoorVmBF
import Derived.Test.YtmnpladggilgbaaGreatDoorVmAA
import Derived.Test.YtmnpladggilgbaaGreatDoorVmBG
import Derived.Test.YtmnpladggilgbaaGreatDoorRows
set_option maxRecDepth 1000000
set_option maxHeartbeats 0
set_option linter.unusedSimpArgs false
namespace Go.Proofs.YtmnpladggilgbaaGreatDoor.Vm
open Go Go.VM Go.Proofs
noncomputable def vT : TT := Tr.of 8 (tiOf Tryz.prog)
theorem vT_ok : TOk Tryz.prog vT := tt_ok (d := 8) rfl
def vFl : List Nat := [3, 4, 5, 6, 7, 8, 9, 10, 11, 12, 13, 14, 15, 16, 17, 18, 19, 20, 21, 22, 23, 24, 25, 26, 27, 28, 29, 30, 31, 32, 33, 34, 35, 36, 37, 38, 39, 40, 41, 42, 43, 44, 45, 46, 47, 48, 50, 51, 52, 54, 55, 56, 57, 58, 59, 60, 61, 62, 63, 64, 65, 66, 67, 68, 69, 70, 71, 72, 73, 74, 77, 78, 81, 82, 84, 85, 86, 87, 88, 89, 105, 106, 107, 108, 117, 118]
noncomputable def vF : Tr Func := Tr.of 7 (fnsOf Tryz.prog vFl)
theorem vF_ok : ∀ f fn, vF.get f = some fn → FnOk Tryz.prog f fn := fns_ok (by kernel_rfl)
noncomputable def vP : List (Nat × Prim) := [(49, (.lib libValid)), (53, (.lib (libAtoi 149))), (76, (.lib libTrimLeft)), (83, (.lib libDecode)), (103, .indexByte)]
noncomputable def vG : Tr (List AV) := (.node (some [(.int .u8 (240)), (.int .u8 (240)), (.int .u8 (240)), (.int .u8 (240)), (.int .u8 (240)), (.int .u8 (240)), (.int .u8 (240)), (.int .u8 (240)), (.int .u8 (240)), (.int .u8 (240)), (.int .u8 (240)), (.int .u8 (240)), (.int .u8 (240)), (.int .u8 (240)), (.int .u8 (240)), (.int .u8 (240)), (.int .u8 (240)), (.int .u8 (240)), (.int .u8 (240)), (.int .u8 (240)), (.int .u8 (240)), (.int .u8 (240)), (.int .u8 (240)), (.int .u8 (240)), (.int .u8 (240)), (.int .u8 (240)), (.int .u8 (240)), (.int .u8 (240)), (.int .u8 (240)), (.int .u8 (240)), (.int .u8 (240)), (.int .u8 (240)), (.int .u8 (240)), (.int .u8 (240)), (.int .u8 (240)), (.int .u8 (240)), (.int .u8 (240)), (.int .u8 (240)), (.int .u8 (240)), (.int .u8 (240)), (.int .u8 (240)), (.int .u8 (240)), (.int .u8 (240)), (.int .u8 (240)), (.int .u8 (240)), (.int .u8 (240)), (.int .u8 (240)), (.int .u8 (240)), (.int .u8 (240)), (.int .u8 (240)), (.int .u8 (240)), (.int .u8 (240)), (.int .u8 (240)), (.int .u8 (240)), (.int .u8 (240)), (.int .u8 (240)), (.int .u8 (240)), (.int .u8 (240)), (.int .u8 (240)), (.int .u8 (240)), (.int .u8 (240)), (.int .u8 (240)), (.int .u8 (240)), (.int .u8 (240)), (.int .u8 (240)), (.int .u8 (240)), (.int .u8 (240)), (.int .u8 (240)), (.int .u8 (240)), (.int .u8 (240)), (.int .u8 (240)), (.int .u8 (240)), (.int .u8 (240)), (.int .u8 (240)), (.int .u8 (240)), (.int .u8 (240)), (.int .u8 (240)), (.int .u8 (240)), (.int .u8 (240)), (.int .u8 (240)), (.int .u8 (240)), (.int .u8 (240)), (.int .u8 (240)), (.int .u8 (240)), (.int .u8 (240)), (.int .u8 (240)), (.int .u8 (240)), (.int .u8 (240)), (.int .u8 (240)), (.int .u8 (240)), (.int .u8 (240)), (.int .u8 (240)), (.int .u8 (240)), (.int .u8 (240)), (.int .u8 (240)), (.int .u8 (240)), (.int .u8 (240)), (.int .u8 (240)), (.int .u8 (240)), (.int .u8 (240)), (.int .u8 (240)), (.int .u8 (240)), (.int .u8 (240)), (.int .u8 (240)), (.int .u8 (240)), (.int .u8 (240)), (.int .u8 (240)), (.int .u8 (240)), (.int .u8 (240)), (.int .u8 (240)), (.int .u8 (240)), (.int .u8 (240)), (.int .u8 (240)), (.int .u8 (240)), (.int .u8 (240)), (.int .u8 (240)), (.int .u8 (240)), (.int .u8 (240)), (.int .u8 (240)), (.int .u8 (240)), (.int .u8 (240)), (.int .u8 (240)), (.int .u8 (240)), (.int .u8 (240)), (.int .u8 (240)), (.int .u8 (240)), (.int .u8 (240)), (.int .u8 (240)), (.int .u8 (241)), (.int .u8 (241)), (.int .u8 (241)), (.int .u8 (241)), (.int .u8 (241)), (.int .u8 (241)), (.int .u8 (241)), (.int .u8 (241)), (.int .u8 (241)), (.int .u8 (241)), (.int .u8 (241)), (.int .u8 (241)), (.int .u8 (241)), (.int .u8 (241)), (.int .u8 (241)), (.int .u8 (241)), (.int .u8 (241)), (.int .u8 (241)), (.int .u8 (241)), (.int .u8 (241)), (.int .u8 (241)), (.int .u8 (241)), (.int .u8 (241)), (.int .u8 (241)), (.int .u8 (241)), (.int .u8 (241)), (.int .u8 (241)), (.int .u8 (241)), (.int .u8 (241)), (.int .u8 (241)), (.int .u8 (241)), (.int .u8 (241)), (.int .u8 (241)), (.int .u8 (241)), (.int .u8 (241)), (.int .u8 (241)), (.int .u8 (241)), (.int .u8 (241)), (.int .u8 (241)), (.int .u8 (241)), (.int .u8 (241)), (.int .u8 (241)), (.int .u8 (241)), (.int .u8 (241)), (.int .u8 (241)), (.int .u8 (241)), (.int .u8 (241)), (.int .u8 (241)), (.int .u8 (241)), (.int .u8 (241)), (.int .u8 (241)), (.int .u8 (241)), (.int .u8 (241)), (.int .u8 (241)), (.int .u8 (241)), (.int .u8 (241)), (.int .u8 (241)), (.int .u8 (241)), (.int .u8 (241)), (.int .u8 (241)), (.int .u8 (241)), (.int .u8 (241)), (.int .u8 (241)), (.int .u8 (241)), (.int .u8 (241)), (.int .u8 (241)), (.int .u8 (2)), (.int .u8 (2)), (.int .u8 (2)), (.int .u8 (2)), (.int .u8 (2)), (.int .u8 (2)), (.int .u8 (2)), (.int .u8 (2)), (.int .u8 (2)), (.int .u8 (2)), (.int .u8 (2)), (.int .u8 (2)), (.int .u8 (2)), (.int .u8 (2)), (.int .u8 (2)), (.int .u8 (2)), (.int .u8 (2)), (.int .u8 (2)), (.int .u8 (2)), (.int .u8 (2)), (.int .u8 (2)), (.int .u8 (2)), (.int .u8 (2)), (.int .u8 (2)), (.int .u8 (2)), (.int .u8 (2)), (.int .u8 (2)), (.int .u8 (2)), (.int .u8 (2)), (.int .u8 (2)), (.int .u8 (19)), (.int .u8 (3)), (.int .u8 (3)), (.int .u8 (3)), (.int .u8 (3)), (.int .u8 (3)), (.int .u8 (3)), (.int .u8 (3)), (.int .u8 (3)), (.int .u8 (3)), (.int .u8 (3)), (.int .u8 (3)), (.int .u8 (3)), (.int .u8 (35)), (.int .u8 (3)), (.int .u8 (3)), (.int .u8 (52)), (.int .u8 (4)), (.int .u8 (4)), (.int .u8 (4)), (.int .u8 (68)), (.int .u8 (241)), (.int .u8 (241)), (.int .u8 (241)), (.int .u8 (241)), (.int .u8 (241)), (.int .u8 (241)), (.int .u8 (241)), (.int .u8 (241)), (.int .u8 (241)), (.int .u8 (241)), (.int .u8 (241))]) (.node (some [(.int .u8 (128)), (.int .u8 (191)), (.int .u8 (160)), (.int .u8 (191)), (.int .u8 (128)), (.int .u8 (159)), (.int .u8 (144)), (.int .u8 (191)), (.int .u8 (128)), (.int .u8 (143)), (.int .u8 (0)), (.int .u8 (0)), (.int .u8 (0)), (.int .u8 (0)), (.int .u8 (0)), (.int .u8 (0)), (.int .u8 (0)), (.int .u8 (0)), (.int .u8 (0)), (.int .u8 (0)), (.int .u8 (0)), (.int .u8 (0)), (.int .u8 (0)), (.int .u8 (0)), (.int .u8 (0)), (.int .u8 (0)), (.int .u8 (0)), (.int .u8 (0)), (.int .u8 (0)), (.int .u8 (0)), (.int .u8 (0)), (.int .u8 (0))]) (.node none (.node none .leaf .leaf) .leaf) (.node (some [(.opq true)]) (.node none .leaf .leaf) .leaf)) (.node (some [(.int .u8 (0)), (.int .u8 (0)), (.int .u8 (0)), (.int .u8 (0)), (.int .u8 (0)), (.int .u8 (0)), (.int .u8 (0)), (.int .u8 (0)), (.int .u8 (0)), (.int .u8 (1)), (.int .u8 (1)), (.int .u8 (1)), (.int .u8 (1)), (.int .u8 (1)), (.int .u8 (0)), (.int .u8 (0)), (.int .u8 (0)), (.int .u8 (0)), (.int .u8 (0)), (.int .u8 (0)), (.int .u8 (0)), (.int .u8 (0)), (.int .u8 (0)), (.int .u8 (0)), (.int .u8 (0)), (.int .u8 (0)), (.int .u8 (0)), (.int .u8 (0)), (.int .u8 (0)), (.int .u8 (0)), (.int .u8 (0)), (.int .u8 (0)), (.int .u8 (1)), (.int .u8 (0)), (.int .u8 (0)), (.int .u8 (0)), (.int .u8 (0)), (.int .u8 (0)), (.int .u8 (0)), (.int .u8 (0)), (.int .u8 (0)), (.int .u8 (0)), (.int .u8 (0)), (.int .u8 (0)), (.int .u8 (0)), (.int .u8 (0)), (.int .u8 (0)), (.int .u8 (0)), (.int .u8 (0)), (.int .u8 (0)), (.int .u8 (0)), (.int .u8 (0)), (.int .u8 (0)), (.int .u8 (0)), (.int .u8 (0)), (.int .u8 (0)), (.int .u8 (0)), (.int .u8 (0)), (.int .u8 (0)), (.int .u8 (0)), (.int .u8 (0)), (.int .u8 (0)), (.int .u8 (0)), (.int .u8 (0)), (.int .u8 (0)), (.int .u8 (0)), (.int .u8 (0)), (.int .u8 (0)), (.int .u8 (0)), (.int .u8 (0)), (.int .u8 (0)), (.int .u8 (0)), (.int .u8 (0)), (.int .u8 (0)), (.int .u8 (0)), (.int .u8 (0)), (.int .u8 (0)), (.int .u8 (0)), (.int .u8 (0)), (.int .u8 (0)), (.int .u8 (0)), (.int .u8 (0)), (.int .u8 (0)), (.int .u8 (0)), (.int .u8 (0)), (.int .u8 (0)), (.int .u8 (0)), (.int .u8 (0)), (.int .u8 (0)), (.int .u8 (0)), (.int .u8 (0)), (.int .u8 (0)), (.int .u8 (0)), (.int .u8 (0)), (.int .u8 (0)), (.int .u8 (0)), (.int .u8 (0)), (.int .u8 (0)), (.int .u8 (0)), (.int .u8 (0)), (.int .u8 (0)), (.int .u8 (0)), (.int .u8 (0)), (.int .u8 (0)), (.int .u8 (0)), (.int .u8 (0)), (.int .u8 (0)), (.int .u8 (0)), (.int .u8 (0)), (.int .u8 (0)), (.int .u8 (0)), (.int .u8 (0)), (.int .u8 (0)), (.int .u8 (0)), (.int .u8 (0)), (.int .u8 (0)), (.int .u8 (0)), (.int .u8 (0)), (.int .u8 (0)), (.int .u8 (0)), (.int .u8 (0)), (.int .u8 (0)), (.int .u8 (0)), (.int .u8 (0)), (.int .u8 (0)), (.int .u8 (0)), (.int .u8 (0)), (.int .u8 (0)), (.int .u8 (0)), (.int .u8 (0)), (.int .u8 (0)), (.int .u8 (0)), (.int .u8 (0)), (.int .u8 (0)), (.int .u8 (0)), (.int .u8 (0)), (.int .u8 (0)), (.int .u8 (0)), (.int .u8 (0)), (.int .u8 (0)), (.int .u8 (0)), (.int .u8 (0)), (.int .u8 (0)), (.int .u8 (0)), (.int .u8 (0)), (.int .u8 (0)), (.int .u8 (0)), (.int .u8 (0)), (.int .u8 (0)), (.int .u8 (0)), (.int .u8 (0)), (.int .u8 (0)), (.int .u8 (0)), (.int .u8 (0)), (.int .u8 (0)), (.int .u8 (0)), (.int .u8 (0)), (.int .u8 (0)), (.int .u8 (0)), (.int .u8 (0)), (.int .u8 (0)), (.int .u8 (0)), (.int .u8 (0)), (.int .u8 (0)), (.int .u8 (0)), (.int .u8 (0)), (.int .u8 (0)), (.int .u8 (0)), (.int .u8 (0)), (.int .u8 (0)), (.int .u8 (0)), (.int .u8 (0)), (.int .u8 (0)), (.int .u8 (0)), (.int .u8 (0)), (.int .u8 (0)), (.int .u8 (0)), (.int .u8 (0)), (.int .u8 (0)), (.int .u8 (0)), (.int .u8 (0)), (.int .u8 (0)), (.int .u8 (0)), (.int .u8 (0)), (.int .u8 (0)), (.int .u8 (0)), (.int .u8 (0)), (.int .u8 (0)), (.int .u8 (0)), (.int .u8 (0)), (.int .u8 (0)), (.int .u8 (0)), (.int .u8 (0)), (.int .u8 (0)), (.int .u8 (0)), (.int .u8 (0)), (.int .u8 (0)), (.int .u8 (0)), (.int .u8 (0)), (.int .u8 (0)), (.int .u8 (0)), (.int .u8 (0)), (.int .u8 (0)), (.int .u8 (0)), (.int .u8 (0)), (.int .u8 (0)), (.int .u8 (0)), (.int .u8 (0)), (.int .u8 (0)), (.int .u8 (0)), (.int .u8 (0)), (.int .u8 (0)), (.int .u8 (0)), (.int .u8 (0)), (.int .u8 (0)), (.int .u8 (0)), (.int .u8 (0)), (.int .u8 (0)), (.int .u8 (0)), (.int .u8 (0)), (.int .u8 (0)), (.int .u8 (0)), (.int .u8 (0)), (.int .u8 (0)), (.int .u8 (0)), (.int .u8 (0)), (.int .u8 (0)), (.int .u8 (0)), (.int .u8 (0)), (.int .u8 (0)), (.int .u8 (0)), (.int .u8 (0)), (.int .u8 (0)), (.int .u8 (0)), (.int .u8 (0)), (.int .u8 (0)), (.int .u8 (0)), (.int .u8 (0)), (.int .u8 (0)), (.int .u8 (0)), (.int .u8 (0)), (.int .u8 (0)), (.int .u8 (0)), (.int .u8 (0)), (.int .u8 (0)), (.int .u8 (0)), (.int .u8 (0)), (.int .u8 (0)), (.int .u8 (0)), (.int .u8 (0)), (.int .u8 (0)), (.int .u8 (0)), (.int .u8 (0)), (.int .u8 (0)), (.int .u8 (0)), (.int .u8 (0))]) (.node none (.node none .leaf .leaf) .leaf) (.node none (.node none .leaf .leaf) .leaf)))
noncomputable def vI : List (Nat × List Nat) := [(3, [27]), (4, [27]), (6, [27]), (7, [27]), (8, [27]), (10, [27]), (11, [42]), (14, [42]), (17, [27]), (19, [55]), (20, [61]), (22, [61]), (23, [42]), (27, [55]), (28, [55]), (30, [61]), (31, [55]), (32, [52]), (46, [61]), (47, [52]), (57, [52]), (74, [1000024, 1000025])]
noncomputable def vfull : List Nat := [8, 29, 66]
noncomputable def vlook : List Nat := []
theorem prim49 : OnePrim Tryz.prog vT (fun b => vG.get b) 49 (.lib libValid) := valid_prim (g3 := 0) (g4 := 1) Tryz.call49 (fun s w h hT => Tryz.utf8_ValidString s w h hT) rfl rfl (by kernel_rfl) (by kernel_rfl)
theorem prim53 : OnePrim Tryz.prog vT (fun b => vG.get b) 53 (.lib (libAtoi 149)) := atoi_prim (g16 := 5) (fun w w' h => by rcases h with rfl | ⟨t, rfl⟩; exact Go.RowKit.Below.refl _ _; exact Lib.bytesWorld_below _ _ _) Tryz.call53 (fun s h1 v h2 w => Tryz.strconv_Atoi_ok s h1 v h2 w) (fun s h1 h2 ev w h3 h4 => (Tryz.strconv_Atoi_range s h1 h2 ev w h3 h4).mono fun e w' ⟨N, e1, _, _, e2⟩ => ⟨N, e1, e2⟩) rfl
theorem prim76 : OnePrim Tryz.prog vT (fun b => vG.get b) 76 (.lib libTrimLeft) := trimLeft_prim Tryz.call76 fun s c w h1 h2 => Tryz.strings_TrimLeft s c w h1 h2
theorem prim83 : OnePrim Tryz.prog vT (fun b => vG.get b) 83 (.lib libDecode) := decode_prim (g3 := 0) (g4 := 1) Tryz.call83 (fun s w hT => Tryz.utf8_DecodeRuneInString s w hT) rfl rfl (by kernel_rfl) (by kernel_rfl)
theorem prim103 : OnePrim Tryz.prog vT (fun b => vG.get b) 103 .indexByte := indexByte_prim (fun s c w => by
  rw [run_callFunc_extern Tryz.func103 (by kernel_rfl) (by kernel_rfl) (by kernel_rfl) (e := Extern.BytealgIndexByte.indexByte) (by kernel_rfl), Lib.run_indexByteString]
  rfl)
theorem vP_ok : AllP (fun f q => OnePrim Tryz.prog vT (fun b => vG.get b) f q) vP := ⟨prim49, prim53, prim76, prim83, prim103, trivial⟩
noncomputable def vE : Env where
  T := vT
  F i := vF.get i
  prim i := lookP vP i
  full i := vfull.any fun j => i.beq j
  isLook i := vlook.any fun j => i.beq j
  imm f t := match lookP vI f with
    | some l => l.any fun j => t.beq j
    | none => false
  G b := vG.get b
  memo _ := []
theorem vE_ok : EnvOk Tryz.prog vE := ⟨vT_ok, fun f fn h => vF_ok f fn h, primOk_of fun f q h => lookP_all vP_ok f q h, by kernel_rfl, (fun _ _ h => by cases h), fun _ r _ _ h _ => absurd (show (none : Option (List AV → Option AV)) = some r from h) (by simp), fun _ r _ _ _ _ h => absurd (show (none : Option (List AV → St → Res (AV × St))) = some r from h) (by simp)⟩
/-- rostrum/rostrumlaw14.exprs -/
noncomputable def g4_L1 (n21 : Int) (v22 : AV) : Car → Option (Car ⊕ Nat × Car) := fun c24 => unc (Prod.fst c24) fun v25 l26 => asI .i64 v25 fun n27 => unc l26 fun v28 l29 => asI .i64 v28 fun n30 => un0 l29 (bindO (lenS
 v22 fun k31 => ifB (decide (n30 < (↑k31 : Int))) (some ([AV.bool (decide (n27 < n21))], Prod.snd c24)) (some ([AV.bool false], Prod.snd c24))) fun c32 => unc (Prod.fst c32) fun v33 l34 => asB v33 fun b35 => un0 l34 (ifB
 b35 (idxA 6 v22 n30 (Prod.snd c32) fun v36 _x => loadS 6 true v36 (Prod.snd c32) fun v38 _x => unA v38 fun l41 => unc l41 fun v42 l43 => asI .u8 v42 fun n44 => unc l43 fun v45 l46 => asI .u8 v45 fun n47 => unc l46 fun
 v48 l49 => asI .i64 v48 fun n50 => unc l49 fun v51 l52 => asI .i64 v51 fun n53 => unc l52 fun v54 l55 => asS v54 fun l56 => unc l55 fun v57 l58 => un0 l58 (letV (IntKind.wrap .i64 (n21 - n27)) fun n59 => callS (orc vE)
 11 [AV.agg [AV.int .u8 n44, AV.int .u8 n47, AV.int .i64 n50, AV.int .i64 n53, AV.str l56, v57], AV.int .i64 n59] (Prod.snd c32) fun v60 st61 _x => asI .i64 v60 fun n63 => letV (IntKind.wrap .i64 (n27 + n63)) fun n64 =>
 letV (IntKind.wrap .i64 (n30 + 1)) fun n65 => some (Sum.inl ([AV.int .i64 n64, AV.int .i64 n65], st61)))) (some (Sum.inr (0, [AV.int .i64 n27], Prod.snd c32)))))
noncomputable def g4_L2 (n21 : Int) (v23 : AV) : Car → Option (Car ⊕ Nat × Car) := fun c70 => unc (Prod.fst c70) fun v71 l72 => asI .i64 v71 fun n73 => unc l72 fun v74 l75 => asI .i64 v74 fun n76 => un0 l75 (bindO (lenS
 v23 fun k77 => ifB (decide (n76 < (↑k77 : Int))) (some ([AV.bool (decide (n73 < n21))], Prod.snd c70)) (some ([AV.bool false], Prod.snd c70))) fun c78 => unc (Prod.fst c78) fun v79 l80 => asB v79 fun b81 => un0 l80 (ifB
 b81 (idxA 7 v23 n76 (Prod.snd c78) fun v82 _x => loadS 7 true v82 (Prod.snd c78) fun v84 _x => unA v84 fun l87 => unc l87 fun v88 l89 => asI .u8 v88 fun n90 => unc l89 fun v91 l92 => asI .i64 v91 fun n93 => unc l92 fun
 v94 l95 => asI .i64 v94 fun n96 => unc l95 fun v97 l98 => asB v97 fun b99 => unc l98 fun v100 l101 => asS v100 fun l102 => unc l101 fun v103 l104 => unc l104 fun v105 l106 => un0 l106 (letV (IntKind.wrap .i64 (n21 -
 n73)) fun n107 => callS (orc vE) 4 [AV.agg [AV.int .u8 n90, AV.int .i64 n93, AV.int .i64 n96, AV.bool b99, AV.str l102, v103, v105], AV.int .i64 n107] (Prod.snd c78) fun v108 st109 _x => asI .i64 v108 fun n111 => letV
 (IntKind.wrap .i64 (n73 + n111)) fun n112 => letV (IntKind.wrap .i64 (n76 + 1)) fun n113 => some (Sum.inl ([AV.int .i64 n112, AV.int .i64 n113], st109)))) (some (Sum.inr (0, [AV.int .i64 n73], Prod.snd c78)))))
noncomputable def g4 : AV → AV → Option AV := fun x0 x1 => unA x0 fun l1 => unc l1 fun v2 l3 => asI .u8 v2 fun _x => unc l3 fun v5 l6 => asI .i64 v5 fun _x => unc l6 fun v8 l9 => asI .i64 v8 fun _x => unc l9 fun v11 l12
 => asB v11 fun _x => unc l12 fun v14 l15 => asS v14 fun _x => unc l15 fun v17 l18 => unc l18 fun v19 l20 => un0 l20 (asI .i64 x1 fun n21 => asOne v17 (asOne v19 (fit1 v17 fun v22 => fit1 v19 fun v23 => bindO (loopO
 (g4_L1 n21 v22) ([AV.int .i64 1, AV.int .i64 0], St.mk 0 0 Tr.leaf)) fun c66 => unc (Prod.fst (Prod.snd c66)) fun v67 l68 => asI .i64 v67 fun n69 => un0 l68 (bindO (loopO (g4_L2 n21 v23) ([AV.int .i64 n69, AV.int .i64
 0], Prod.snd (Prod.snd c66))) fun c114 => unc (Prod.fst (Prod.snd c114)) fun v115 l116 => asI .i64 v115 fun n117 => un0 l116 (some (AV.int .i64 n117))))))
theorem g4_eq (x0 x1 : AV) : bareS vE 4 [x0, x1] = g4 x0 x1 := by kernel_rfl
/-- rostrum/rostrumlaw14.pats -/
noncomputable def g11_L1 (n19 : Int) (v20 : AV) : Car → Option (Car ⊕ Nat × Car) := fun c21 => unc (Prod.fst c21) fun v22 l23 => asI .i64 v22 fun n24 => unc l23 fun v25 l26 => asI .i64 v25 fun n27 => un0 l26 (bindO
 (lenS v20 fun k28 => ifB (decide (n27 < (↑k28 : Int))) (some ([AV.bool (decide (n24 < n19))], Prod.snd c21)) (some ([AV.bool false], Prod.snd c21))) fun c29 => unc (Prod.fst c29) fun v30 l31 => asB v30 fun b32 => un0
 l31 (ifB b32 (idxA 6 v20 n27 (Prod.snd c29) fun v33 _x => loadS 6 true v33 (Prod.snd c29) fun v35 _x => unA v35 fun l38 => unc l38 fun v39 l40 => asI .u8 v39 fun n41 => unc l40 fun v42 l43 => asI .u8 v42 fun n44 => unc
 l43 fun v45 l46 => asI .i64 v45 fun n47 => unc l46 fun v48 l49 => asI .i64 v48 fun n50 => unc l49 fun v51 l52 => asS v51 fun l53 => unc l52 fun v54 l55 => un0 l55 (letV (IntKind.wrap .i64 (n19 - n24)) fun n56 => callS
 (orc vE) 11 [AV.agg [AV.int .u8 n41, AV.int .u8 n44, AV.int .i64 n47, AV.int .i64 n50, AV.str l53, v54], AV.int .i64 n56] (Prod.snd c29) fun v57 st58 _x => asI .i64 v57 fun n60 => letV (IntKind.wrap .i64 (n24 + n60))
 fun n61 => letV (IntKind.wrap .i64 (n27 + 1)) fun n62 => some (Sum.inl ([AV.int .i64 n61, AV.int .i64 n62], st58)))) (some (Sum.inr (0, [AV.int .i64 n24], Prod.snd c29)))))
noncomputable def g11 : AV → AV → Option AV := fun x0 x1 => unA x0 fun l1 => unc l1 fun v2 l3 => asI .u8 v2 fun _x => unc l3 fun v5 l6 => asI .u8 v5 fun _x => unc l6 fun v8 l9 => asI .i64 v8 fun _x => unc l9 fun v11 l12
 => asI .i64 v11 fun _x => unc l12 fun v14 l15 => asS v14 fun _x => unc l15 fun v17 l18 => un0 l18 (asI .i64 x1 fun n19 => asOne v17 (fit1 v17 fun v20 => bindO (loopO (g11_L1 n19 v20) ([AV.int .i64 1, AV.int .i64 0],
 St.mk 0 0 Tr.leaf)) fun c63 => unc (Prod.fst (Prod.snd c63)) fun v64 l65 => asI .i64 v64 fun n66 => un0 l65 (some (AV.int .i64 n66))))
theorem g11_eq (x0 x1 : AV) : bareS vE 11 [x0, x1] = g11 x0 x1 := by kernel_rfl
/-- rostrum/rostrumref14.Same -/
noncomputable def g7_L1 (b42 : Bool) (v44 : AV) (v46 : AV) : Car → Option (Car ⊕ Nat × Car) := fun c65 => unc (Prod.fst c65) fun v66 l67 => asB v66 fun b68 => unc l67 fun v69 l70 => asI .i64 v69 fun n71 => un0 l70 (lenS
 v44 fun k72 => ifB (decide (n71 < (↑k72 : Int))) (idxA 7 v44 n71 (Prod.snd c65) fun v73 _x => loadS 7 true v73 (Prod.snd c65) fun v75 _x => unA v75 fun l78 => unc l78 fun v79 l80 => asI .u8 v79 fun n81 => unc l80 fun
 v82 l83 => asI .i64 v82 fun n84 => unc l83 fun v85 l86 => asI .i64 v85 fun n87 => unc l86 fun v88 l89 => asB v88 fun b90 => unc l89 fun v91 l92 => asS v91 fun l93 => unc l92 fun v94 l95 => unc l95 fun v96 l97 => un0 l97
 (idxA 7 v46 n71 (Prod.snd c65) fun v98 _x => loadS 7 true v98 (Prod.snd c65) fun v100 _x => unA v100 fun l103 => unc l103 fun v104 l105 => asI .u8 v104 fun n106 => unc l105 fun v107 l108 => asI .i64 v107 fun n109 => unc
 l108 fun v110 l111 => asI .i64 v110 fun n112 => unc l111 fun v113 l114 => asB v113 fun b115 => unc l114 fun v116 l117 => asS v116 fun l118 => unc l117 fun v119 l120 => unc l120 fun v121 l122 => un0 l122 (callS (orc vE)
 7 [AV.agg [AV.int .u8 n81, AV.int .i64 n84, AV.int .i64 n87, AV.bool b90, AV.str l93, v94, v96], AV.agg [AV.int .u8 n106, AV.int .i64 n109, AV.int .i64 n112, AV.bool b115, AV.str l118, v119, v121], AV.bool b42]
 (Prod.snd c65) fun v123 st124 _x => asB v123 fun b126 => ifB (!b126) (some (Sum.inr (1, [AV.bool false], st124))) (letV (IntKind.wrap .i64 (n71 + 1)) fun n127 => some (Sum.inl ([AV.bool b68, AV.int .i64 n127],
 st124)))))) (some (Sum.inr (0, [AV.bool b68], Prod.snd c65))))
noncomputable def g7 : AV → AV → AV → Option AV := fun x0 x1 x2 => unA x0 fun l1 => unc l1 fun v2 l3 => asI .u8 v2 fun n4 => unc l3 fun v5 l6 => asI .i64 v5 fun n7 => unc l6 fun v8 l9 => asI .i64 v8 fun n10 => unc l9
 fun v11 l12 => asB v11 fun b13 => unc l12 fun v14 l15 => asS v14 fun l16 => unc l15 fun v17 l18 => unc l18 fun v19 l20 => un0 l20 (unA x1 fun l22 => unc l22 fun v23 l24 => asI .u8 v23 fun n25 => unc l24 fun v26 l27 =>
 asI .i64 v26 fun n28 => unc l27 fun v29 l30 => asI .i64 v29 fun n31 => unc l30 fun v32 l33 => asB v32 fun b34 => unc l33 fun v35 l36 => asS v35 fun l37 => unc l36 fun v38 l39 => unc l39 fun v40 l41 => un0 l41 (asB x2
 fun b42 => asOne v17 (asOne v19 (fit1 v17 fun v43 => fit1 v19 fun v44 => asOne v38 (asOne v40 (fit1 v38 fun v45 => fit1 v40 fun v46 => bindO (ifB (n4 != n25) (some ([AV.bool true], St.mk 0 0 Tr.leaf)) (ifB (!b13 == b34)
 (some ([AV.bool true], St.mk 0 0 Tr.leaf)) (ifB (!l16 == l37) (some ([AV.bool true], St.mk 0 0 Tr.leaf)) (lenS v44 fun k47 => lenS v46 fun k48 => ifB ((↑k47 : Int) != (↑k48 : Int)) (some ([AV.bool true], St.mk 0 0
 Tr.leaf)) (ifB b42 (bindO (toO (VM.binOp (Env.T vE) BinOp.neq 23 (AV.agg [AV.int .i64 n7, AV.int .i64 n10]) (AV.agg [AV.int .i64 n28, AV.int .i64 n31]))) fun v51 => asB v51 fun b52 => ifB b52 (some ([AV.bool true],
 St.mk 0 0 Tr.leaf)) (callS (orc vE) 16 [v43, v45, AV.bool b42] (St.mk 0 0 Tr.leaf) fun v53 st54 _x => asB v53 fun b56 => some ([AV.bool !b56], st54))) (callS (orc vE) 16 [v43, v45, AV.bool b42] (St.mk 0 0 Tr.leaf) fun
 v57 st58 _x => asB v57 fun b60 => some ([AV.bool !b60], st58))))))) fun c61 => unc (Prod.fst c61) fun v62 l63 => asB v62 fun b64 => un0 l63 (ifB b64 (some (AV.bool false)) (bindO (loopO (g7_L1 b42 v44 v46) ([AV.bool
 false, AV.int .i64 0], Prod.snd c61)) fun c128 => unc (Prod.fst (Prod.snd c128)) fun v129 l130 => asB v129 fun b131 => un0 l130 (sel2 (Prod.fst c128) (some (AV.bool true)) fun _x => some (AV.bool b131))))))))))
theorem g7_eq (x0 x1 x2 : AV) : bareS vE 7 [x0, x1, x2] = g7 x0 x1 x2 := by kernel_rfl
/-- rostrum/rostrumref14.SamePats -/
noncomputable def g16_L1 (x0 : AV) (x1 : AV) (b0 : Bool) : Car → Option (Car ⊕ Nat × Car) := fun c3 => unc (Prod.fst c3) fun v4 l5 => asB v4 fun b6 => unc l5 fun v7 l8 => asI .i64 v7 fun n9 => un0 l8 (lenS x0 fun k10 =>
 ifB (decide (n9 < (↑k10 : Int))) (idxA 6 x0 n9 (Prod.snd c3) fun v11 _x => loadS 6 true v11 (Prod.snd c3) fun v13 _x => unA v13 fun l16 => unc l16 fun v17 l18 => asI .u8 v17 fun n19 => unc l18 fun v20 l21 => asI .u8 v20
 fun n22 => unc l21 fun v23 l24 => asI .i64 v23 fun n25 => unc l24 fun v26 l27 => asI .i64 v26 fun n28 => unc l27 fun v29 l30 => asS v29 fun l31 => unc l30 fun v32 l33 => un0 l33 (idxA 6 x1 n9 (Prod.snd c3) fun v34 _x =>
 loadS 6 true v34 (Prod.snd c3) fun v36 _x => unA v36 fun l39 => unc l39 fun v40 l41 => asI .u8 v40 fun n42 => unc l41 fun v43 l44 => asI .u8 v43 fun n45 => unc l44 fun v46 l47 => asI .i64 v46 fun n48 => unc l47 fun v49
 l50 => asI .i64 v49 fun n51 => unc l50 fun v52 l53 => asS v52 fun l54 => unc l53 fun v55 l56 => un0 l56 (callS (orc vE) 23 [AV.agg [AV.int .u8 n19, AV.int .u8 n22, AV.int .i64 n25, AV.int .i64 n28, AV.str l31, v32],
 AV.agg [AV.int .u8 n42, AV.int .u8 n45, AV.int .i64 n48, AV.int .i64 n51, AV.str l54, v55], AV.bool b0] (Prod.snd c3) fun v57 st58 _x => asB v57 fun b60 => ifB (!b60) (some (Sum.inr (1, [AV.bool false], st58))) (letV
 (IntKind.wrap .i64 (n9 + 1)) fun n61 => some (Sum.inl ([AV.bool b6, AV.int .i64 n61], st58)))))) (some (Sum.inr (0, [AV.bool b6], Prod.snd c3))))
noncomputable def g16 : AV → AV → AV → Option AV := fun x0 x1 x2 => asB x2 fun b0 => lenS x0 fun k1 => lenS x1 fun k2 => ifB ((↑k1 : Int) != (↑k2 : Int)) (some (AV.bool false)) (bindO (loopO (g16_L1 x0 x1 b0) ([AV.bool
 false, AV.int .i64 0], St.mk 0 0 Tr.leaf)) fun c62 => unc (Prod.fst (Prod.snd c62)) fun v63 l64 => asB v63 fun b65 => un0 l64 (sel2 (Prod.fst c62) (some (AV.bool true)) fun _x => some (AV.bool b65)))
theorem g16_eq (x0 x1 x2 : AV) : bareS vE 16 [x0, x1, x2] = g16 x0 x1 x2 := by kernel_rfl
/-- rostrum/rostrumref14.SamePat -/
noncomputable def g23 : AV → AV → AV → Option AV := fun x0 x1 x2 => unA x0 fun l1 => unc l1 fun v2 l3 => asI .u8 v2 fun n4 => unc l3 fun v5 l6 => asI .u8 v5 fun n7 => unc l6 fun v8 l9 => asI .i64 v8 fun n10 => unc l9
 fun v11 l12 => asI .i64 v11 fun n13 => unc l12 fun v14 l15 => asS v14 fun l16 => unc l15 fun v17 l18 => un0 l18 (unA x1 fun l20 => unc l20 fun v21 l22 => asI .u8 v21 fun n23 => unc l22 fun v24 l25 => asI .u8 v24 fun n26
 => unc l25 fun v27 l28 => asI .i64 v27 fun n29 => unc l28 fun v30 l31 => asI .i64 v30 fun n32 => unc l31 fun v33 l34 => asS v33 fun l35 => unc l34 fun v36 l37 => un0 l37 (asB x2 fun b38 => asOne v17 (fit1 v17 fun v39 =>
 asOne v36 (fit1 v36 fun v40 => bindO (ifB (n4 != n23) (some ([AV.bool true], St.mk 0 0 Tr.leaf)) (ifB (n7 != n26) (some ([AV.bool true], St.mk 0 0 Tr.leaf)) (ifB (!l16 == l35) (some ([AV.bool true], St.mk 0 0 Tr.leaf))
 (ifB b38 (bindO (toO (VM.binOp (Env.T vE) BinOp.neq 23 (AV.agg [AV.int .i64 n10, AV.int .i64 n13]) (AV.agg [AV.int .i64 n29, AV.int .i64 n32]))) fun v43 => asB v43 fun b44 => some ([AV.bool b44], St.mk 0 0 Tr.leaf))
 (some ([AV.bool false], St.mk 0 0 Tr.leaf)))))) fun c45 => unc (Prod.fst c45) fun v46 l47 => asB v46 fun b48 => un0 l47 (ifB b48 (some (AV.bool false)) (callS (orc vE) 16 [v39, v40, AV.bool b38] (Prod.snd c45) fun v49
 _x _x_1 => asB v49 fun b52 => some (AV.bool b52)))))))
theorem g23_eq (x0 x1 x2 : AV) : bareS vE 23 [x0, x1, x2] = g23 x0 x1 x2 := by kernel_rfl
/-- rostrum/ast.Same -/
noncomputable def g6 : AV → AV → Option AV := fun x0 x1 => unA x0 fun l1 => unc l1 fun v2 l3 => asI .u8 v2 fun n4 => unc l3 fun v5 l6 => asI .i64 v5 fun _x => unc l6 fun v8 l9 => asI .i64 v8 fun _x => unc l9 fun v11 l12
 => asB v11 fun b13 => unc l12 fun v14 l15 => asS v14 fun l16 => unc l15 fun v17 l18 => unc l18 fun v19 l20 => un0 l20 (unA x1 fun l22 => unc l22 fun v23 l24 => asI .u8 v23 fun n25 => unc l24 fun v26 l27 => asI .i64 v26
 fun _x => unc l27 fun v29 l30 => asI .i64 v29 fun _x => unc l30 fun v32 l33 => asB v32 fun b34 => unc l33 fun v35 l36 => asS v35 fun l37 => unc l36 fun v38 l39 => unc l39 fun v40 l41 => un0 l41 (asOne v17 (asOne v19
 (fit1 v17 fun v42 => fit1 v19 fun v43 => asOne v38 (asOne v40 (fit1 v38 fun v44 => fit1 v40 fun v45 => bindO (ifB (n4 == n25) (ifB (b13 == b34) (ifB (l16 == l37) (callS (orc vE) 13 [v42, v44, AV.fn (Fn.func 14) [] []]
 (St.mk 0 0 Tr.leaf) fun v46 st47 _x => asB v46 fun b49 => ifB b49 (callS (orc vE) 15 [v43, v45, AV.fn (Fn.func 6) [] []] st47 fun v50 st51 _x => asB v50 fun b53 => some ([AV.bool b53], st51)) (some ([AV.bool false],
 st47))) (some ([AV.bool false], St.mk 0 0 Tr.leaf))) (some ([AV.bool false], St.mk 0 0 Tr.leaf))) (some ([AV.bool false], St.mk 0 0 Tr.leaf))) fun c54 => unc (Prod.fst c54) fun v55 l56 => asB v55 fun b57 => un0 l56
 (some (AV.bool b57))))))))
theorem g6_eq (x0 x1 : AV) : bareS vE 6 [x0, x1] = g6 x0 x1 := by kernel_rfl
/-- rostrum/ast.samePat -/
noncomputable def g14 : AV → AV → Option AV := fun x0 x1 => unA x0 fun l1 => unc l1 fun v2 l3 => asI .u8 v2 fun n4 => unc l3 fun v5 l6 => asI .u8 v5 fun n7 => unc l6 fun v8 l9 => asI .i64 v8 fun _x => unc l9 fun v11 l12
 => asI .i64 v11 fun _x => unc l12 fun v14 l15 => asS v14 fun l16 => unc l15 fun v17 l18 => un0 l18 (unA x1 fun l20 => unc l20 fun v21 l22 => asI .u8 v21 fun n23 => unc l22 fun v24 l25 => asI .u8 v24 fun n26 => unc l25
 fun v27 l28 => asI .i64 v27 fun _x => unc l28 fun v30 l31 => asI .i64 v30 fun _x => unc l31 fun v33 l34 => asS v33 fun l35 => unc l34 fun v36 l37 => un0 l37 (asOne v17 (fit1 v17 fun v38 => asOne v36 (fit1 v36 fun v39 =>
 bindO (ifB (n4 == n23) (ifB (n7 == n26) (ifB (l16 == l35) (callS (orc vE) 13 [v38, v39, AV.fn (Fn.func 14) [] []] (St.mk 0 0 Tr.leaf) fun v40 st41 _x => asB v40 fun b43 => some ([AV.bool b43], st41)) (some ([AV.bool
 false], St.mk 0 0 Tr.leaf))) (some ([AV.bool false], St.mk 0 0 Tr.leaf))) (some ([AV.bool false], St.mk 0 0 Tr.leaf))) fun c44 => unc (Prod.fst c44) fun v45 l46 => asB v45 fun b47 => un0 l46 (some (AV.bool b47))))))
theorem g14_eq (x0 x1 : AV) : bareS vE 14 [x0, x1] = g14 x0 x1 := by kernel_rfl
/-- slices.EqualFunc[[]rostrum/api.Pat,[]rostrum/api.Pat,rostrum/api.Pat,rostrum/api.Pat] -/
noncomputable def g13_L1 (x0 : AV) (x1 : AV) (x2 : AV) (k2 : Nat) : Car → Option (Car ⊕ Nat × Car) := fun c3 => unc (Prod.fst c3) fun v4 l5 => asB v4 fun b6 => unc l5 fun v7 l8 => asI .i64 v7 fun n9 => un0 l8 (ifB
 (decide (n9 < (↑k2 : Int))) (idxA 6 x0 n9 (Prod.snd c3) fun v10 _x => loadS 6 true v10 (Prod.snd c3) fun v12 _x => unA v12 fun l15 => unc l15 fun v16 l17 => asI .u8 v16 fun n18 => unc l17 fun v19 l20 => asI .u8 v19 fun
 n21 => unc l20 fun v22 l23 => asI .i64 v22 fun n24 => unc l23 fun v25 l26 => asI .i64 v25 fun n27 => unc l26 fun v28 l29 => asS v28 fun l30 => unc l29 fun v31 l32 => un0 l32 (letSt (St.add (Prod.snd c3) (VM.Obj.cells 42
 [AV.int .u8 0, AV.int .u8 0, AV.int .i64 0, AV.int .i64 0, AV.str [], AV.nils])) fun st33 => asOne v31 (storeS (orc vE) 6 (AV.mp (St.h (Prod.snd c3)) 0) (AV.agg [AV.int .u8 n18, AV.int .u8 n21, AV.int .i64 n24, AV.int
 .i64 n27, AV.str l30, v31]) [AV.int .u8 n18, AV.int .u8 n21, AV.int .i64 n24, AV.int .i64 n27, AV.str l30, v31] st33 fun _x st35 _x_1 => idxA 6 x1 n9 st35 fun v37 _x => loadS 6 true v37 st35 fun v39 _x => unA v39 fun
 l42 => unc l42 fun v43 l44 => asI .u8 v43 fun n45 => unc l44 fun v46 l47 => asI .u8 v46 fun n48 => unc l47 fun v49 l50 => asI .i64 v49 fun n51 => unc l50 fun v52 l53 => asI .i64 v52 fun n54 => unc l53 fun v55 l56 => asS
 v55 fun l57 => unc l56 fun v58 l59 => un0 l59 (letSt (St.add st35 (VM.Obj.cells 42 [AV.int .u8 0, AV.int .u8 0, AV.int .i64 0, AV.int .i64 0, AV.str [], AV.nils])) fun st60 => asOne v58 (storeS (orc vE) 6 (AV.mp (St.h
 st35) 0) (AV.agg [AV.int .u8 n45, AV.int .u8 n48, AV.int .i64 n51, AV.int .i64 n54, AV.str l57, v58]) [AV.int .u8 n45, AV.int .u8 n48, AV.int .i64 n51, AV.int .i64 n54, AV.str l57, v58] st60 fun _x st62 _x_2 => loadS 6
 true (AV.mp (St.h (Prod.snd c3)) 0) st62 fun v64 _x => unA v64 fun l67 => unc l67 fun v68 l69 => asI .u8 v68 fun n70 => unc l69 fun v71 l72 => asI .u8 v71 fun n73 => unc l72 fun v74 l75 => asI .i64 v74 fun n76 => unc
 l75 fun v77 l78 => asI .i64 v77 fun n79 => unc l78 fun v80 l81 => asS v80 fun l82 => unc l81 fun v83 l84 => un0 l84 (loadS 6 true (AV.mp (St.h st35) 0) st62 fun v85 _x => unA v85 fun l88 => unc l88 fun v89 l90 => asI
 .u8 v89 fun n91 => unc l90 fun v92 l93 => asI .u8 v92 fun n94 => unc l93 fun v95 l96 => asI .i64 v95 fun n97 => unc l96 fun v98 l99 => asI .i64 v98 fun n100 => unc l99 fun v101 l102 => asS v101 fun l103 => unc l102 fun
 v104 l105 => un0 l105 (callF (orc vE) (Sx.prim (sx vE 13)) x2 [AV.agg [AV.int .u8 n70, AV.int .u8 n73, AV.int .i64 n76, AV.int .i64 n79, AV.str l82, v83], AV.agg [AV.int .u8 n91, AV.int .u8 n94, AV.int .i64 n97, AV.int
 .i64 n100, AV.str l103, v104]] st62 fun v106 st107 _x => asB v106 fun b109 => ifB (!b109) (some (Sum.inr (1, [AV.bool false], st107))) (letV (IntKind.wrap .i64 (n9 + 1)) fun n110 => some (Sum.inl ([AV.bool b6, AV.int
 .i64 n110], st107)))))))))) (some (Sum.inr (0, [AV.bool b6], Prod.snd c3))))
noncomputable def g13 : AV → AV → AV → Option AV := fun x0 x1 x2 => lenS x0 fun k0 => lenS x1 fun k1 => ifB ((↑k0 : Int) != (↑k1 : Int)) (some (AV.bool false)) (lenS x0 fun k2 => bindO (loopO (g13_L1 x0 x1 x2 k2)
 ([AV.bool false, AV.int .i64 0], St.mk 0 0 Tr.leaf)) fun c111 => unc (Prod.fst (Prod.snd c111)) fun v112 l113 => asB v112 fun b114 => un0 l113 (sel2 (Prod.fst c111) (some (AV.bool true)) fun _x => some (AV.bool b114)))
theorem g13_eq (x0 x1 x2 : AV) : bareS vE 13 [x0, x1, x2] = g13 x0 x1 x2 := by kernel_rfl
/-- slices.EqualFunc[[]rostrum/api.Expr,[]rostrum/api.Expr,rostrum/api.Expr,rostrum/api.Expr] -/
noncomputable def g15_L1 (x0 : AV) (x1 : AV) (x2 : AV) (k2 : Nat) : Car → Option (Car ⊕ Nat × Car) := fun c3 => unc (Prod.fst c3) fun v4 l5 => asB v4 fun b6 => unc l5 fun v7 l8 => asI .i64 v7 fun n9 => un0 l8 (ifB
 (decide (n9 < (↑k2 : Int))) (idxA 7 x0 n9 (Prod.snd c3) fun v10 _x => loadS 7 true v10 (Prod.snd c3) fun v12 _x => unA v12 fun l15 => unc l15 fun v16 l17 => asI .u8 v16 fun n18 => unc l17 fun v19 l20 => asI .i64 v19 fun
 n21 => unc l20 fun v22 l23 => asI .i64 v22 fun n24 => unc l23 fun v25 l26 => asB v25 fun b27 => unc l26 fun v28 l29 => asS v28 fun l30 => unc l29 fun v31 l32 => unc l32 fun v33 l34 => un0 l34 (letSt (St.add (Prod.snd
 c3) (VM.Obj.cells 27 [AV.int .u8 0, AV.int .i64 0, AV.int .i64 0, AV.bool false, AV.str [], AV.nils, AV.nils])) fun st35 => asOne v31 (asOne v33 (storeS (orc vE) 7 (AV.mp (St.h (Prod.snd c3)) 0) (AV.agg [AV.int .u8 n18,
 AV.int .i64 n21, AV.int .i64 n24, AV.bool b27, AV.str l30, v31, v33]) [AV.int .u8 n18, AV.int .i64 n21, AV.int .i64 n24, AV.bool b27, AV.str l30, v31, v33] st35 fun _x st37 _x_1 => idxA 7 x1 n9 st37 fun v39 _x => loadS
 7 true v39 st37 fun v41 _x => unA v41 fun l44 => unc l44 fun v45 l46 => asI .u8 v45 fun n47 => unc l46 fun v48 l49 => asI .i64 v48 fun n50 => unc l49 fun v51 l52 => asI .i64 v51 fun n53 => unc l52 fun v54 l55 => asB v54
 fun b56 => unc l55 fun v57 l58 => asS v57 fun l59 => unc l58 fun v60 l61 => unc l61 fun v62 l63 => un0 l63 (letSt (St.add st37 (VM.Obj.cells 27 [AV.int .u8 0, AV.int .i64 0, AV.int .i64 0, AV.bool false, AV.str [],
 AV.nils, AV.nils])) fun st64 => asOne v60 (asOne v62 (storeS (orc vE) 7 (AV.mp (St.h st37) 0) (AV.agg [AV.int .u8 n47, AV.int .i64 n50, AV.int .i64 n53, AV.bool b56, AV.str l59, v60, v62]) [AV.int .u8 n47, AV.int .i64
 n50, AV.int .i64 n53, AV.bool b56, AV.str l59, v60, v62] st64 fun _x st66 _x_2 => loadS 7 true (AV.mp (St.h (Prod.snd c3)) 0) st66 fun v68 _x => unA v68 fun l71 => unc l71 fun v72 l73 => asI .u8 v72 fun n74 => unc l73
 fun v75 l76 => asI .i64 v75 fun n77 => unc l76 fun v78 l79 => asI .i64 v78 fun n80 => unc l79 fun v81 l82 => asB v81 fun b83 => unc l82 fun v84 l85 => asS v84 fun l86 => unc l85 fun v87 l88 => unc l88 fun v89 l90 => un0
 l90 (loadS 7 true (AV.mp (St.h st37) 0) st66 fun v91 _x => unA v91 fun l94 => unc l94 fun v95 l96 => asI .u8 v95 fun n97 => unc l96 fun v98 l99 => asI .i64 v98 fun n100 => unc l99 fun v101 l102 => asI .i64 v101 fun n103
 => unc l102 fun v104 l105 => asB v104 fun b106 => unc l105 fun v107 l108 => asS v107 fun l109 => unc l108 fun v110 l111 => unc l111 fun v112 l113 => un0 l113 (callF (orc vE) (Sx.prim (sx vE 15)) x2 [AV.agg [AV.int .u8
 n74, AV.int .i64 n77, AV.int .i64 n80, AV.bool b83, AV.str l86, v87, v89], AV.agg [AV.int .u8 n97, AV.int .i64 n100, AV.int .i64 n103, AV.bool b106, AV.str l109, v110, v112]] st66 fun v114 st115 _x => asB v114 fun b117
 => ifB (!b117) (some (Sum.inr (1, [AV.bool false], st115))) (letV (IntKind.wrap .i64 (n9 + 1)) fun n118 => some (Sum.inl ([AV.bool b6, AV.int .i64 n118], st115)))))))))))) (some (Sum.inr (0, [AV.bool b6], Prod.snd c3))))
noncomputable def g15 : AV → AV → AV → Option AV := fun x0 x1 x2 => lenS x0 fun k0 => lenS x1 fun k1 => ifB ((↑k0 : Int) != (↑k1 : Int)) (some (AV.bool false)) (lenS x0 fun k2 => bindO (loopO (g15_L1 x0 x1 x2 k2)
 ([AV.bool false, AV.int .i64 0], St.mk 0 0 Tr.leaf)) fun c119 => unc (Prod.fst (Prod.snd c119)) fun v120 l121 => asB v120 fun b122 => un0 l121 (sel2 (Prod.fst c119) (some (AV.bool true)) fun _x => some (AV.bool b122)))
theorem g15_eq (x0 x1 x2 : AV) : bareS vE 15 [x0, x1, x2] = g15 x0 x1 x2 := by kernel_rfl
end Go.Proofs.YtmnpladggilgbaaGreatDoor.Vm
/- Patterns, expressions, declarations, each with its value; how large they are is a number. -/
namespace Go.Proofs.YtmnpladggilgbaaGreatDoor.Vm
open Go Go.VM Go.Proofs Go.Scope
mutual
def IsP : Pat → AV → Prop
  | .mk k lit sp nm ps, v => ∃ x es, v = .agg [.int .u8 (k : Int), .int .u8 (lit : Int), .int .i64 sp.1, .int .i64 sp.2, .str nm, x] ∧ IsSl 6 x es ∧ IsPs ps es
def IsPs : List Pat → List AV → Prop
  | [], es => es = []
  | p :: ps, es => ∃ v vs, es = v :: vs ∧ IsP p v ∧ IsPs ps vs
end
mutual
def IsE : Exr → AV → Prop
  | .mk k sp rc nm ps ls, v => ∃ x es y fs, v = .agg [.int .u8 (k : Int), .int .i64 sp.1, .int .i64 sp.2, .bool rc, .str nm, x, y] ∧ IsSl 6 x es ∧ IsPs ps es ∧ IsSl 7 y fs ∧ IsEs ls fs ∧ ps.length ≤ 100000000
def IsEs : List Exr → List AV → Prop
  | [], es => es = []
  | e :: l, es => ∃ v vs, es = v :: vs ∧ IsE e v ∧ IsEs l vs
end
def IsD (d : Bd) (v : AV) : Prop := ∃ x es be, v = .agg ([.int .i64 d.sp.1, .int .i64 d.sp.2, .bool d.rc, x] ++ be) ∧ IsSl 6 x es ∧ IsPs d.ps es ∧ IsE d.body (.agg be)
def IsDs : List Bd → List AV → Prop
  | [], es => es = []
  | d :: l, es => ∃ v vs, es = v :: vs ∧ IsD d v ∧ IsDs l vs
section
variable {p : Pat} {ps : List Pat} {e : Exr} {l : List Exr} {es : List AV} {v : AV}
theorem IsPs.nil : IsPs [] [] := by simp only [IsPs]
theorem IsPs.cons {vs : List AV} (h : IsP p v) (k : IsPs ps vs) : IsPs (p :: ps) (v :: vs) := by simp only [IsPs]; exact ⟨v, vs, rfl, h, k⟩
theorem IsEs.nil : IsEs [] [] := by simp only [IsEs]
theorem IsEs.cons {vs : List AV} (h : IsE e v) (k : IsEs l vs) : IsEs (e :: l) (v :: vs) := by simp only [IsEs]; exact ⟨v, vs, rfl, h, k⟩
theorem IsPs.len : ∀ {ps : List Pat} {es : List AV}, IsPs ps es → es.length = ps.length
  | [], _, h => by simp only [IsPs] at h; rw [h]; rfl
  | p :: ps, _, h => by
    simp only [IsPs] at h
    obtain ⟨v, vs, rfl, _, h⟩ := h
    simp [IsPs.len h]
theorem IsEs.len : ∀ {l : List Exr} {es : List AV}, IsEs l es → es.length = l.length
  | [], _, h => by simp only [IsEs] at h; rw [h]; rfl
  | e :: l, _, h => by
    simp only [IsEs] at h
    obtain ⟨v, vs, rfl, _, h⟩ := h
    simp [IsEs.len h]
theorem IsDs.len : ∀ {l : List Bd} {es : List AV}, IsDs l es → es.length = l.length
  | [], _, h => by simp only [IsDs] at h; rw [h]; rfl
  | e :: l, _, h => by
    simp only [IsDs] at h
    obtain ⟨v, vs, rfl, _, h⟩ := h
    simp [IsDs.len h]
theorem IsPs.drop : ∀ {ps : List Pat} {es : List AV} (i : Nat), IsPs ps es → IsPs (ps.drop i) (es.drop i)
  | ps, es, 0, h => by simpa using h
  | [], _, i + 1, h => by simp only [IsPs] at h; subst h; simp [IsPs]
  | p :: ps, _, i + 1, h => by
    simp only [IsPs] at h
    obtain ⟨v, vs, rfl, _, h⟩ := h
    simpa using IsPs.drop i h
theorem IsEs.drop : ∀ {l : List Exr} {es : List AV} (i : Nat), IsEs l es → IsEs (l.drop i) (es.drop i)
  | l, es, 0, h => by simpa using h
  | [], _, i + 1, h => by simp only [IsEs] at h; subst h; simp [IsEs]
  | e :: l, _, i + 1, h => by
    simp only [IsEs] at h
    obtain ⟨v, vs, rfl, _, h⟩ := h
    simpa using IsEs.drop i h
theorem IsDs.drop : ∀ {l : List Bd} {es : List AV} (i : Nat), IsDs l es → IsDs (l.drop i) (es.drop i)
  | l, es, 0, h => by simpa using h
  | [], _, i + 1, h => by simp only [IsDs] at h; subst h; simp [IsDs]
  | e :: l, _, i + 1, h => by
    simp only [IsDs] at h
    obtain ⟨v, vs, rfl, _, h⟩ := h
    simpa using IsDs.drop i h
theorem IsPs.take : ∀ {ps : List Pat} {es : List AV} (i : Nat), IsPs ps es → IsPs (ps.take i) (es.take i)
  | ps, es, 0, h => by simp [IsPs]
  | [], _, i + 1, h => by simp only [IsPs] at h; subst h; simp [IsPs]
  | p :: ps, _, i + 1, h => by
    simp only [IsPs] at h
    obtain ⟨v, vs, rfl, hp, h⟩ := h
    simp only [List.take_succ_cons]
    exact IsPs.cons hp (IsPs.take i h)
theorem IsEs.take : ∀ {l : List Exr} {es : List AV} (i : Nat), IsEs l es → IsEs (l.take i) (es.take i)
  | ps, es, 0, h => by simp [IsEs]
  | [], _, i + 1, h => by simp only [IsEs] at h; subst h; simp [IsEs]
  | p :: ps, _, i + 1, h => by
    simp only [IsEs] at h
    obtain ⟨v, vs, rfl, hp, h⟩ := h
    simp only [List.take_succ_cons]
    exact IsEs.cons hp (IsEs.take i h)
/-- The element there. -/
theorem IsPs.get {r : List Pat} {i : Nat} (h : IsPs ps es) (hd : ps.drop i = p :: r) : ∃ v, es[i]? = some v ∧ IsP p v ∧ i < ps.length := by
  have h1 := IsPs.drop i h
  rw [hd] at h1
  simp only [IsPs] at h1
  obtain ⟨v, vs, he, hp, _⟩ := h1
  exact ⟨v, (drop_cons he).1, hp, (drop_cons hd).2.2⟩
theorem IsEs.get {r : List Exr} {i : Nat} (h : IsEs l es) (hd : l.drop i = e :: r) : ∃ v, es[i]? = some v ∧ IsE e v ∧ i < l.length := by
  have h1 := IsEs.drop i h
  rw [hd] at h1
  simp only [IsEs] at h1
  obtain ⟨v, vs, he, hp, _⟩ := h1
  exact ⟨v, (drop_cons he).1, hp, (drop_cons hd).2.2⟩
theorem IsDs.get {l r : List Bd} {d : Bd} {i : Nat} (h : IsDs l es) (hd : l.drop i = d :: r) : ∃ v, es[i]? = some v ∧ IsD d v ∧ i < l.length := by
  have h1 := IsDs.drop i h
  rw [hd] at h1
  simp only [IsDs] at h1
  obtain ⟨v, vs, he, hp, _⟩ := h1
  exact ⟨v, (drop_cons he).1, hp, (drop_cons hd).2.2⟩
theorem IsP.opn {k lit : Nat} {sp : Sp} {nm : Tx} (h : IsP (.mk k lit sp nm ps) v) : ∃ x es, v = .agg [.int .u8 (k : Int), .int .u8 (lit : Int), .int .i64 sp.1, .int .i64 sp.2, .str nm, x] ∧ IsSl 6 x es ∧ IsPs ps es := by
  simpa only [IsP] using h
theorem IsE.opn {k : Nat} {sp : Sp} {rc : Bool} {nm : Tx} {ls : List Exr} (h : IsE (.mk k sp rc nm ps ls) v) : ∃ x es y fs, v = .agg [.int .u8 (k : Int), .int .i64 sp.1, .int .i64 sp.2, .bool rc, .str nm, x, y] ∧ IsSl 6 x es ∧ IsPs ps es ∧ IsSl 7 y fs ∧ IsEs ls fs := by
  simp only [IsE] at h
  obtain ⟨x, es, y, fs, h0, h1, h2, h3, h4, _⟩ := h
  exact ⟨x, es, y, fs, h0, h1, h2, h3, h4⟩
theorem IsE.few {k : Nat} {sp : Sp} {rc : Bool} {nm : Tx} {ls : List Exr} (h : IsE (.mk k sp rc nm ps ls) v) : ps.length ≤ 100000000 := by
  simp only [IsE] at h
  obtain ⟨x, es, y, fs, _, _, _, _, _, h5⟩ := h
  exact h5
end
/-- What a loop's turn comes to. -/
def Lp {σ β : Type} (I : σ → Prop) (Q : β → Prop) : Sum σ β → Prop
  | .inl s => I s
  | .inr b => Q b
theorem Goes.inl {σ β : Type} {I : σ → Prop} {Q : β → Prop} {s : σ} (h : I s) : Goes (some (Sum.inl s : Sum σ β)) (Lp I Q) := ⟨_, rfl, h⟩
theorem Goes.inr {σ β : Type} {I : σ → Prop} {Q : β → Prop} {b : β} (h : Q b) : Goes (some (Sum.inr b : Sum σ β)) (Lp I Q) := ⟨_, rfl, h⟩
/-- A loop that goes up. -/
theorem Goes.upto {σ β : Type} {Q : β → Prop} {F : σ → Option (Sum σ β)} {n : Nat} {I : Nat → σ → Prop} (step : ∀ i s, i < n → I i s → Goes (F s) (Lp (I (i + 1)) Q))
    (last : ∀ s, I n s → Goes (F s) (Lp (fun _ => False) Q)) : ∀ (k i : Nat) (s : σ), i + k = n → I i s → Goes (loopO F s) Q := by
  intro k
  induction k with
  | zero =>
    intro i s hi h
    obtain ⟨r, e, hr⟩ := last s (by rw [← show i = n by omega]; exact h)
    cases r with
    | inl s' => exact hr.elim
    | inr b => exact ⟨b, loopO_inr e, hr⟩
  | succ k ih =>
    intro i s hi h
    obtain ⟨r, e, hr⟩ := step i s (by omega) h
    cases r with
    | inl s' => rw [loopO_inl e]; exact ih (i + 1) s' (by omega) hr
    | inr b => exact ⟨b, loopO_inr e, hr⟩
@[simp] theorem notNil_mp (i o : Nat) : notNil (.mp i o) = true := id rfl
/-! A slice, whatever its end. -/
def IsW (z : Nat) (x : AV) (es : List AV) : Prop := IsSl z x es ∨ (es.length ≤ 9223372036854775807 ∧ ∃ k, x = .sl z es (.own k))
section
variable {β : Type} {z : Nat} {x : AV} {es : List AV}
theorem IsW.len (h : IsW z x es) (K : Nat → Option β) : lenS x K = K es.length := by
  rcases h with h | ⟨_, k, rfl⟩
  · exact h.len K
  · rfl
theorem IsW.elems (h : IsW z x es) (K : List AV → Option β) : elemsS x K = K es := by
  rcases h with h | ⟨_, k, rfl⟩
  · exact h.elems K
  · rfl
theorem IsW.one (h : IsW z x es) : VM.one x = true := by
  rcases h with h | ⟨_, k, rfl⟩
  · exact h.one
  · rfl
theorem IsW.asOne (h : IsW z x es) (K : Option β) : asOne x K = K := asOne_of h.one K
theorem IsW.idx (h : IsW z x es) {k : Nat} {v : AV} (hk : es[k]? = some v) (st : St) (K : AV → List Nat → Option β) : idxA z x (k : Int) st K = K (.ip v.cells) [] := by
  rcases h with h | ⟨_, j, rfl⟩
  · exact h.idx hk st K
  · have hlt := (List.getElem?_eq_some_iff.1 hk).1
    have hz : z.beq z = true := Nat.beq_refl z
    have hi : insideO ((k : Nat) : Int) es.length = some k := by
      show (match k.blt es.length with | true => some k | false => none) = _
      rw [blt_true.2 hlt]
    simp only [idxA, idxO, hz, hi, nthO_of hk, bindO_ok]
theorem IsW.le (h : IsW z x es) : es.length ≤ 9223372036854775807 := by
  rcases h with h | h
  · exact h.1
  · exact h.1
theorem IsW.fit (h : IsW z x es) : ∃ x', IsSl z x' es ∧ ∀ {β : Type} (K : AV → Option β), fit1 x K = K x' := by
  rcases h with h | ⟨hl, k, rfl⟩
  · exact ⟨x, h, fun K => h.fit1 K⟩
  · exact ⟨_, IsSl.wide hl, fun K => rfl⟩
end
theorem IsW.strip {z : Nat} {x : AV} {es : List AV} (h : IsW z x es) : IsSl z (VM.strip x) es := by
  rcases h with h | ⟨hl, k, rfl⟩
  · rw [h.strip]; exact h
  · exact IsSl.wide hl
/-! What is kept but for some places, and for tokens. -/
structure Kt (but : Nat → Prop) (st st' : St) : Prop where
  ro : st'.ro = st.ro
  h : st.h ≤ st'.h
  old : ∀ j o, ¬ but j → (∀ n e, o ≠ .tok n e) → st.get j = .ok o → st'.get j = .ok o
section
variable {p q : Nat → Prop} {a b c : St}
theorem Kt.refl (p : Nat → Prop) (a : St) : Kt p a a := ⟨rfl, Nat.le_refl _, fun _ _ _ _ h => h⟩
theorem Kt.trans (h : Kt p a b) (k : Kt p b c) : Kt p a c := ⟨k.ro.trans h.ro, Nat.le_trans h.h k.h, fun j o hj ho hg => k.old j o hj ho (h.old j o hj ho hg)⟩
theorem Kt.join (h : Kt p a b) (k : Kt q b c) (hq : ∀ j, q j → p j ∨ a.h ≤ j) : Kt p a c := ⟨k.ro.trans h.ro, Nat.le_trans h.h k.h, fun j o hj ho hg => k.old j o (fun f => by
  rcases hq j f with h1 | h1
  · exact hj h1
  · have := (St.get_ok.1 hg).1
    omega) ho (h.old j o hj ho hg)⟩
theorem Kt.keeps (h : Keeps a b p) : Kt p a b := ⟨h.ro, h.h, fun j o hj _ hg => h.old j o hj hg⟩
theorem Kt.own {z : Nat} {e : TypeId} {v : AV} {es : List AV} (h : Keeps a b (ownerOf v)) (ho : Own a z e v es) : Kt p a b := ⟨h.ro, h.h, fun j o _ hn hg => h.old j o (fun ⟨z', es', hv⟩ => by
  subst hv
  rcases ho.2.2 with ⟨h1 | h1, _⟩ | h1 | ⟨k, h1, h2, _⟩
  · cases h1
  · cases h1
  · cases h1
  · cases h1
    rw [hg] at h2
    exact hn _ _ (Except.ok.inj h2)) hg⟩
theorem Kt.cells (h : Kt p a b) {i : Nat} {t : TypeId} {cs : List AV} (hi : ¬ p i) (hg : a.get i = .ok (.cells t cs)) : b.get i = .ok (.cells t cs) := h.old i _ hi (fun _ _ e => by cases e) hg
theorem Kt.map (h : Kt p a b) {i : Nat} {es : List (AV × AV)} (hi : ¬ p i) (hg : a.get i = .ok (.map es)) : b.get i = .ok (.map es) := h.old i _ hi (fun _ _ e => by cases e) hg
end
/-! What an append did lies apart from reading what else there is. -/
structure Fine (st : St) (x : Fx) : Prop where
  l0 : apart ⟨[], .kept⟩ x = true
  r0 : apart x ⟨[], .kept⟩ = true
  l : ∀ i t cs, st.get i = .ok (.cells t cs) → apart ⟨[i], .kept⟩ x = true
  r : ∀ i t cs, st.get i = .ok (.cells t cs) → apart x ⟨[i], .kept⟩ = true
end Go.Proofs.YtmnpladggilgbaaGreatDoor.Vm
/- Expressions with no bound on how many patterns; how many parts. -/
namespace Go.Proofs.YtmnpladggilgbaaGreatDoor.Vm
open Go Go.VM Go.Proofs Go.Scope
mutual
def IsX : Exr → AV → Prop
  | .mk k sp rc nm ps ls, v => ∃ x es y fs, v = .agg [.int .u8 (k : Int), .int .i64 sp.1, .int .i64 sp.2, .bool rc, .str nm, x, y] ∧ IsSl 6 x es ∧ IsPs ps es ∧ IsSl 7 y fs ∧ IsXs ls fs
def IsXs : List Exr → List AV → Prop
  | [], es => es = []
  | e :: l, es => ∃ v vs, es = v :: vs ∧ IsX e v ∧ IsXs l vs
end
section
variable {p : Pat} {ps : List Pat} {e : Exr} {l : List Exr} {es : List AV} {v : AV}
theorem IsXs.nil : IsXs [] [] := by simp only [IsXs]
theorem IsXs.cons {vs : List AV} (h : IsX e v) (k : IsXs l vs) : IsXs (e :: l) (v :: vs) := by simp only [IsXs]; exact ⟨v, vs, rfl, h, k⟩
theorem IsXs.len : ∀ {l : List Exr} {es : List AV}, IsXs l es → es.length = l.length
  | [], _, h => by simp only [IsXs] at h; rw [h]; rfl
  | e :: l, _, h => by
    simp only [IsXs] at h
    obtain ⟨v, vs, rfl, _, h⟩ := h
    simp [IsXs.len h]
theorem IsXs.drop : ∀ {l : List Exr} {es : List AV} (i : Nat), IsXs l es → IsXs (l.drop i) (es.drop i)
  | l, es, 0, h => by simpa using h
  | [], _, i + 1, h => by simp only [IsXs] at h; subst h; simp [IsXs]
  | e :: l, _, i + 1, h => by
    simp only [IsXs] at h
    obtain ⟨v, vs, rfl, _, h⟩ := h
    simpa using IsXs.drop i h
theorem IsXs.get {r : List Exr} {i : Nat} (h : IsXs l es) (hd : l.drop i = e :: r) : ∃ v, es[i]? = some v ∧ IsX e v ∧ i < l.length := by
  have h1 := IsXs.drop i h
  rw [hd] at h1
  simp only [IsXs] at h1
  obtain ⟨v, vs, he, hp, _⟩ := h1
  exact ⟨v, (drop_cons he).1, hp, (drop_cons hd).2.2⟩
theorem isX_opn {k : Nat} {sp : Sp} {rc : Bool} {nm : Tx} {ls : List Exr} (h : IsX (.mk k sp rc nm ps ls) v) : ∃ x es y fs, v = .agg [.int .u8 (k : Int), .int .i64 sp.1, .int .i64 sp.2, .bool rc, .str nm, x, y] ∧ IsSl 6 x es ∧ IsPs ps es ∧ IsSl 7 y fs ∧ IsXs ls fs := by
  simpa only [IsX] using h
theorem isX_open (h : IsX e v) : ∃ k sp rc nm ps ls x es y fs, e = .mk k sp rc nm ps ls ∧ v = .agg [.int .u8 (k : Int), .int .i64 sp.1, .int .i64 sp.2, .bool rc, .str nm, x, y] ∧ IsSl 6 x es ∧ IsPs ps es ∧ IsSl 7 y fs ∧ IsXs ls fs := by
  cases e with
  | mk k sp rc nm ps ls =>
    obtain ⟨x, es, y, fs, h⟩ := isX_opn h
    exact ⟨k, sp, rc, nm, ps, ls, x, es, y, fs, rfl, h⟩
theorem isQ_open (h : IsP p v) : ∃ k lit sp nm ps x es, p = .mk k lit sp nm ps ∧ v = .agg [.int .u8 (k : Int), .int .u8 (lit : Int), .int .i64 sp.1, .int .i64 sp.2, .str nm, x] ∧ IsSl 6 x es ∧ IsPs ps es := by
  cases p with
  | mk k lit sp nm ps =>
    obtain ⟨x, es, h⟩ := IsP.opn h
    exact ⟨k, lit, sp, nm, ps, x, es, rfl, h⟩
theorem isQ_bare (h : IsP p v) : VM.bare v = true ∧ VM.strip v = v := by
  obtain ⟨k, lit, sp, nm, ps, x, es, rfl, rfl, hx, _⟩ := isQ_open h
  refine ⟨?_, rfl⟩
  rw [bare_agg]
  simp only [bares_cons, hx.bare]
  rfl
theorem isX_bare (h : IsX e v) : VM.bare v = true ∧ VM.strip v = v := by
  obtain ⟨k, sp, rc, nm, ps, ls, x, es, y, fs, rfl, rfl, hx, _, hy, _⟩ := isX_open h
  refine ⟨?_, rfl⟩
  rw [bare_agg]
  simp only [bares_cons, hx.bare, hy.bare]
  rfl
theorem xs_at (h : IsXs l es) {i : Nat} (hi : i < l.length) : ∃ v, es[i]? = some v ∧ IsX l[i] v := by
  obtain ⟨v, h1, h2, _⟩ := h.get (i := i) (List.drop_eq_getElem_cons hi)
  exact ⟨v, h1, h2⟩
end
end Go.Proofs.YtmnpladggilgbaaGreatDoor.Vm
/- How many parts an expression has, as far as a bound. -/
namespace Go.Proofs.YtmnpladggilgbaaGreatDoor.Vm
open Go Go.VM Go.Proofs Go.Scope
abbrev S0 : St := St.mk 0 0 Tr.leaf
theorem takeP6 {a b c d e f : AV} : takeO 6 true [a, b, c, d, e, f] = some (.agg [a, b, c, d, e, f]) := rfl
theorem takeP7 {a b c d e f g : AV} : takeO 7 true [a, b, c, d, e, f, g] = some (.agg [a, b, c, d, e, f, g]) := rfl
theorem callX2 {F : FuncId} {v u r : AV} (hN : VM.bare v = true ∧ VM.strip v = v) (hu : VM.bare u = true) (hsu : VM.strip u = u) (hf : vE.full F = false) (h : (orc vE).bare F [v, u] = some r) {β : Type} (st : St) (K : Kv β) : callS (orc vE) F [v, u] st K = K r st q0 :=
  callS_bare st K hf (by simp only [List.map_cons, List.map_nil, hN.2, hsu]) (by simp only [bares_cons, hN.1, hu]; rfl) h
theorem slen_lt {z : Nat} {x : AV} {es : List AV} (h : IsSl z x es) : es.length ≤ 9223372036854775807 := h.1
/-- What a count comes to. -/
def Cnt (most n r : Nat) : Prop := 1 ≤ r ∧ r ≤ most ∧ (r < most → r = n)
theorem pats_loop {most : Nat} (hmost : most ≤ 1000000) {l : List Pat} {x : AV} {es : List AV} (hx : IsSl 6 x es) (hs : IsPs l es) (hg : ∀ t ∈ l, ∀ v (k : Nat), IsP t v → 1 ≤ k → k ≤ 1000000 → ∃ n : Nat, Cnt k (nP t) n ∧ (orc vE).bare 11 [v, .int .i64 (k : Int)] = some (.int .i64 (n : Int))) (st : St) : ∀ (m : List Pat) (j n : Nat), 1 ≤ n → n ≤ most → l.drop j = m →
    ∃ n' : Nat, Cnt most (n + nPs m) n' ∧ loopO (g11_L1 (most : Int) x) ([.int .i64 (n : Int), .int .i64 (j : Int)], st) = some (0, [.int .i64 (n' : Int)], st)
  | [], j, n, h1, h2, hd => by
    have := List.drop_eq_nil_iff.1 hd
    have hl := hs.len
    have q : ¬ (j : Int) < (es.length : Int) := by omega
    refine ⟨n, ⟨h1, h2, fun _ => by simp [nPs]⟩, loopO_inr ?_⟩
    simp only [g11_L1, unc_cons, asI_int, asB_bool, un0_nil, hx.len, ifB_decide, if_neg q, bindO_ok, ifB_false]
  | t :: m, j, n, h1, h2, hd => by
    obtain ⟨hgt, hr, hlt⟩ := drop_cons hd
    have hl := hs.len
    have q : (j : Int) < (es.length : Int) := by omega
    have hlen := slen_lt hx
    by_cases hn : n < most
    · obtain ⟨v, hv, hV, _⟩ := hs.get hd
      obtain ⟨k, ⟨k1, k2, k3⟩, hk⟩ := hg t (List.mem_of_getElem? hgt) _ (most - n) hV (by omega) (by omega)
      have c := fun {γ : Type} (st : St) (K : Kv γ) => callX2 (isQ_bare hV) rfl rfl rfl hk st K
      obtain ⟨n', ⟨a1, a2, a4⟩, a3⟩ := pats_loop hmost hx hs hg st m (j + 1) (n + k) (by omega) (by omega) hr
      obtain ⟨k0, lit, sp, nm, ps, y, fs, rfl, rfl, _, _⟩ := isQ_open hV
      refine ⟨n', ⟨a1, a2, fun hlt' => ?_⟩, ?_⟩
      · have h5 := a4 hlt'
        simp only [nPs] at h5 ⊢
        have : k < most - n := by omega
        have := k3 this
        omega
      rw [loopO_inl (s' := ([.int .i64 ((n + k : Nat) : Int), .int .i64 ((j + 1 : Nat) : Int)], st)), a3]
      have hnn : (n : Int) < (most : Int) := by omega
      simp only [g11_L1, unc_cons, asI_int, asB_bool, asS_str, un0_nil, hx.len, ifB_decide, if_pos q, bindO_ok, if_pos hnn, hx.idx hv, cells_agg, loadS_ip, takeP6, unA_agg, letV_eq, wrapS (Nat.le_of_lt hn) (show most ≤ 9223372036854775807 by omega), c, wrapA (show n + k ≤ 9223372036854775807 by omega), wrapA1 (show j + 1 ≤ 9223372036854775807 by omega)]
    · refine ⟨n, ⟨h1, h2, fun h => absurd h hn⟩, loopO_inr ?_⟩
      have hnn : ¬ (n : Int) < (most : Int) := by omega
      simp only [g11_L1, unc_cons, asI_int, asB_bool, un0_nil, hx.len, ifB_decide, if_pos q, bindO_ok, if_neg hnn]
theorem pats_ok : ∀ (n : Nat) (t : Pat), SizeOf.sizeOf t < n → ∀ (v : AV) (k : Nat), IsP t v → 1 ≤ k → k ≤ 1000000 → ∃ n : Nat, Cnt k (nP t) n ∧ (orc vE).bare 11 [v, .int .i64 (k : Int)] = some (.int .i64 (n : Int)) := by
  intro n
  induction n with
  | zero => intro t h; omega
  | succ n ih =>
    intro t hn v most hv h1 h2
    obtain ⟨k0, lit, sp, nm, ps, y, fs, rfl, rfl, hx, hs⟩ := isQ_open hv
    simp only [Pat.mk.sizeOf_spec] at hn
    obtain ⟨n', a1, lp⟩ := pats_loop h2 hx hs (fun t ht => ih t (by have := List.sizeOf_lt_of_mem ht; omega)) S0 ps 0 1 (by omega) h1 rfl
    have lp : loopO (g11_L1 (most : Int) y) ([.int .i64 1, .int .i64 0], S0) = _ := lp
    refine ⟨n', a1, bare_of rfl ((g11_eq _ _).trans ?_)⟩
    simp only [g11, unA_agg, unc_cons, asI_int, asS_str, un0_nil, hx.asOne, hx.fit1, lp, bindO_ok]
theorem pats_cnt {t : Pat} {v : AV} {k : Nat} (hv : IsP t v) (h1 : 1 ≤ k) (h2 : k ≤ 1000000) : ∃ n : Nat, Cnt k (nP t) n ∧ (orc vE).bare 11 [v, .int .i64 (k : Int)] = some (.int .i64 (n : Int)) := pats_ok _ t (Nat.lt_succ_self _) v k hv h1 h2
theorem epats_loop {most : Nat} (hmost : most ≤ 1000000) {l : List Pat} {x : AV} {es : List AV} (hx : IsSl 6 x es) (hs : IsPs l es) (hg : ∀ t ∈ l, ∀ v (k : Nat), IsP t v → 1 ≤ k → k ≤ 1000000 → ∃ n : Nat, Cnt k (nP t) n ∧ (orc vE).bare 11 [v, .int .i64 (k : Int)] = some (.int .i64 (n : Int))) (st : St) : ∀ (m : List Pat) (j n : Nat), 1 ≤ n → n ≤ most → l.drop j = m →
    ∃ n' : Nat, Cnt most (n + nPs m) n' ∧ loopO (g4_L1 (most : Int) x) ([.int .i64 (n : Int), .int .i64 (j : Int)], st) = some (0, [.int .i64 (n' : Int)], st)
  | [], j, n, h1, h2, hd => by
    have := List.drop_eq_nil_iff.1 hd
    have hl := hs.len
    have q : ¬ (j : Int) < (es.length : Int) := by omega
    refine ⟨n, ⟨h1, h2, fun _ => by simp [nPs]⟩, loopO_inr ?_⟩
    simp only [g4_L1, unc_cons, asI_int, asB_bool, un0_nil, hx.len, ifB_decide, if_neg q, bindO_ok, ifB_false]
  | t :: m, j, n, h1, h2, hd => by
    obtain ⟨hgt, hr, hlt⟩ := drop_cons hd
    have hl := hs.len
    have q : (j : Int) < (es.length : Int) := by omega
    have hlen := slen_lt hx
    by_cases hn : n < most
    · obtain ⟨v, hv, hV, _⟩ := hs.get hd
      obtain ⟨k, ⟨k1, k2, k3⟩, hk⟩ := hg t (List.mem_of_getElem? hgt) _ (most - n) hV (by omega) (by omega)
      have c := fun {γ : Type} (st : St) (K : Kv γ) => callX2 (isQ_bare hV) rfl rfl rfl hk st K
      obtain ⟨n', ⟨a1, a2, a4⟩, a3⟩ := epats_loop hmost hx hs hg st m (j + 1) (n + k) (by omega) (by omega) hr
      obtain ⟨k0, lit, sp, nm, ps, y, fs, rfl, rfl, _, _⟩ := isQ_open hV
      refine ⟨n', ⟨a1, a2, fun hlt' => ?_⟩, ?_⟩
      · have h5 := a4 hlt'
        simp only [nPs] at h5 ⊢
        have : k < most - n := by omega
        have := k3 this
        omega
      rw [loopO_inl (s' := ([.int .i64 ((n + k : Nat) : Int), .int .i64 ((j + 1 : Nat) : Int)], st)), a3]
      have hnn : (n : Int) < (most : Int) := by omega
      simp only [g4_L1, unc_cons, asI_int, asB_bool, asS_str, un0_nil, hx.len, ifB_decide, if_pos q, bindO_ok, if_pos hnn, hx.idx hv, cells_agg, loadS_ip, takeP6, unA_agg, letV_eq, wrapS (Nat.le_of_lt hn) (show most ≤ 9223372036854775807 by omega), c, wrapA (show n + k ≤ 9223372036854775807 by omega), wrapA1 (show j + 1 ≤ 9223372036854775807 by omega)]
    · refine ⟨n, ⟨h1, h2, fun h => absurd h hn⟩, loopO_inr ?_⟩
      have hnn : ¬ (n : Int) < (most : Int) := by omega
      simp only [g4_L1, unc_cons, asI_int, asB_bool, un0_nil, hx.len, ifB_decide, if_pos q, bindO_ok, if_neg hnn]
theorem args_loop {most : Nat} (hmost : most ≤ 1000000) {l : List Exr} {x : AV} {es : List AV} (hx : IsSl 7 x es) (hs : IsXs l es) (hg : ∀ t ∈ l, ∀ v (k : Nat), IsX t v → 1 ≤ k → k ≤ 1000000 → ∃ n : Nat, Cnt k (nE t) n ∧ (orc vE).bare 4 [v, .int .i64 (k : Int)] = some (.int .i64 (n : Int))) (st : St) : ∀ (m : List Exr) (j n : Nat), 1 ≤ n → n ≤ most → l.drop j = m →
    ∃ n' : Nat, Cnt most (n + nEs m) n' ∧ loopO (g4_L2 (most : Int) x) ([.int .i64 (n : Int), .int .i64 (j : Int)], st) = some (0, [.int .i64 (n' : Int)], st)
  | [], j, n, h1, h2, hd => by
    have := List.drop_eq_nil_iff.1 hd
    have hl := hs.len
    have q : ¬ (j : Int) < (es.length : Int) := by omega
    refine ⟨n, ⟨h1, h2, fun _ => by simp [nEs]⟩, loopO_inr ?_⟩
    simp only [g4_L2, unc_cons, asI_int, asB_bool, un0_nil, hx.len, ifB_decide, if_neg q, bindO_ok, ifB_false]
  | t :: m, j, n, h1, h2, hd => by
    obtain ⟨hgt, hr, hlt⟩ := drop_cons hd
    have hl := hs.len
    have q : (j : Int) < (es.length : Int) := by omega
    have hlen := slen_lt hx
    by_cases hn : n < most
    · obtain ⟨v, hv, hV, _⟩ := hs.get hd
      obtain ⟨k, ⟨k1, k2, k3⟩, hk⟩ := hg t (List.mem_of_getElem? hgt) _ (most - n) hV (by omega) (by omega)
      have c := fun {γ : Type} (st : St) (K : Kv γ) => callX2 (isX_bare hV) rfl rfl rfl hk st K
      obtain ⟨n', ⟨a1, a2, a4⟩, a3⟩ := args_loop hmost hx hs hg st m (j + 1) (n + k) (by omega) (by omega) hr
      obtain ⟨k0, sp, rc, nm, ps, ls, u, fs, y, gs, rfl, rfl, _, _, _, _⟩ := isX_open hV
      refine ⟨n', ⟨a1, a2, fun hlt' => ?_⟩, ?_⟩
      · have h5 := a4 hlt'
        simp only [nEs] at h5 ⊢
        have : k < most - n := by omega
        have := k3 this
        omega
      rw [loopO_inl (s' := ([.int .i64 ((n + k : Nat) : Int), .int .i64 ((j + 1 : Nat) : Int)], st)), a3]
      have hnn : (n : Int) < (most : Int) := by omega
      simp only [g4_L2, unc_cons, asI_int, asB_bool, asS_str, un0_nil, hx.len, ifB_decide, if_pos q, bindO_ok, if_pos hnn, hx.idx hv, cells_agg, loadS_ip, takeP7, unA_agg, letV_eq, wrapS (Nat.le_of_lt hn) (show most ≤ 9223372036854775807 by omega), c, wrapA (show n + k ≤ 9223372036854775807 by omega), wrapA1 (show j + 1 ≤ 9223372036854775807 by omega)]
    · refine ⟨n, ⟨h1, h2, fun h => absurd h hn⟩, loopO_inr ?_⟩
      have hnn : ¬ (n : Int) < (most : Int) := by omega
      simp only [g4_L2, unc_cons, asI_int, asB_bool, un0_nil, hx.len, ifB_decide, if_pos q, bindO_ok, if_neg hnn]
theorem exprs_ok : ∀ (n : Nat) (t : Exr), SizeOf.sizeOf t < n → ∀ (v : AV) (k : Nat), IsX t v → 1 ≤ k → k ≤ 1000000 → ∃ n : Nat, Cnt k (nE t) n ∧ (orc vE).bare 4 [v, .int .i64 (k : Int)] = some (.int .i64 (n : Int)) := by
  intro n
  induction n with
  | zero => intro t h; omega
  | succ n ih =>
    intro t hn v most hv h1 h2
    obtain ⟨k0, sp, rc, nm, ps, ls, x, es, y, fs, rfl, rfl, hx, hs, hy, ht⟩ := isX_open hv
    simp only [Exr.mk.sizeOf_spec] at hn
    obtain ⟨n1, ⟨a1, a2, a3⟩, lp⟩ := epats_loop h2 hx hs (fun t ht v k hv => pats_cnt hv) S0 ps 0 1 (by omega) h1 rfl
    have lp : loopO (g4_L1 (most : Int) x) ([.int .i64 1, .int .i64 0], S0) = _ := lp
    obtain ⟨n2, ⟨b1, b2, b3⟩, lq⟩ := args_loop h2 hy ht (fun t ht => ih t (by have := List.sizeOf_lt_of_mem ht; omega)) S0 ls 0 n1 a1 a2 rfl
    have lq : loopO (g4_L2 (most : Int) y) ([.int .i64 n1, .int .i64 0], S0) = _ := lq
    refine ⟨n2, ⟨b1, b2, fun h => ?_⟩, bare_of rfl ((g4_eq _ _).trans ?_)⟩
    · have h6 := b3 h
      have := a3 (by omega)
      simp only [nE]
      omega
    · simp only [g4, unA_agg, unc_cons, asI_int, asB_bool, asS_str, un0_nil, hx.asOne, hx.fit1, hy.asOne, hy.fit1, lp, lq, bindO_ok]
theorem exprs_cnt {t : Exr} {v : AV} {k : Nat} (hv : IsX t v) (h1 : 1 ≤ k) (h2 : k ≤ 1000000) : ∃ n : Nat, Cnt k (nE t) n ∧ (orc vE).bare 4 [v, .int .i64 (k : Int)] = some (.int .i64 (n : Int)) := exprs_ok _ t (Nat.lt_succ_self _) v k hv h1 h2
end Go.Proofs.YtmnpladggilgbaaGreatDoor.Vm
/- The same expressions, as the document compares them: both answers. -/
namespace Go.Proofs.YtmnpladggilgbaaGreatDoor.Vm
open Go Go.VM Go.Proofs Go.Scope
theorem nat_beq (a b : Nat) : ((a : Int) == (b : Int)) = (a == b) := by
  by_cases h : a = b
  · rw [h]; simp
  · rw [beq_eq_false_iff_ne.2 h, beq_eq_false_iff_ne.2 (show ¬ (a : Int) = (b : Int) by omega)]
theorem neq_span (a b c d : Int) : toO (VM.binOp (Env.T vE) BinOp.neq 23 (.agg [.int .i64 a, .int .i64 b]) (.agg [.int .i64 c, .int .i64 d])) = some (.bool (!((a, b) == (c, d)))) := by
  have e : eqT (Env.T vE) 20 23 (.agg [.int .i64 a, .int .i64 b]) (.agg [.int .i64 c, .int .i64 d]) = .ok ((a, b) == (c, d)) := by
    have h : eqT (Env.T vE) 20 23 (.agg [.int .i64 a, .int .i64 b]) (.agg [.int .i64 c, .int .i64 d]) = (match a == c with | true => (match b == d with | true => .ok true | false => .ok false) | false => .ok false) := by kernel_rfl
    rw [h]
    have h2 : ((a, b) == (c, d)) = ((a == c) && (b == d)) := rfl
    rw [h2]
    cases a == c <;> cases b == d <;> rfl
  have h : VM.binOp (Env.T vE) BinOp.neq 23 (.agg [.int .i64 a, .int .i64 b]) (.agg [.int .i64 c, .int .i64 d]) = (do pure (.bool !(← eqT (Env.T vE) 20 23 (.agg [.int .i64 a, .int .i64 b]) (.agg [.int .i64 c, .int .i64 d])))) := by kernel_rfl
  rw [h, e]; rfl
theorem callX3 {F : FuncId} {v w u r : AV} (hv : VM.bare v = true ∧ VM.strip v = v) (hw : VM.bare w = true ∧ VM.strip w = w) (hu : VM.bare u = true ∧ VM.strip u = u) (hf : vE.full F = false) (h : (orc vE).bare F [v, w, u] = some r) {β : Type} (st : St) (K : Kv β) : callS (orc vE) F [v, w, u] st K = K r st q0 :=
  callS_bare st K hf (by simp only [List.map_cons, List.map_nil, hv.2, hw.2, hu.2]) (by simp only [bares_cons, hv.1, hw.1, hu.1]; rfl) h
theorem sl_bare {z : Nat} {x : AV} {es : List AV} (h : IsSl z x es) : VM.bare x = true ∧ VM.strip x = x := ⟨h.bare, h.strip⟩
theorem bool_bare (b : Bool) : VM.bare (.bool b) = true ∧ VM.strip (.bool b) = .bool b := ⟨rfl, rfl⟩
theorem spats_loop (b : Bool) {l1 l2 : List Pat} {x y : AV} {es fs : List AV} (hx : IsSl 6 x es) (hy : IsSl 6 y fs) (hp : IsPs l1 es) (hq : IsPs l2 fs) (hl : l1.length = l2.length)
    (ih : ∀ p ∈ l1, ∀ q v w, IsP p v → IsP q w → (orc vE).bare 23 [v, w, .bool b] = some (.bool (sameP b p q))) (st : St) : ∀ (m m' : List Pat) (j : Nat), l1.drop j = m → l2.drop j = m' →
    loopO (g16_L1 x y b) ([.bool false, .int .i64 (j : Int)], st) = some (if samePs b m m' then 0 else 1, [.bool false], st)
  | [], m', j, hd, hd' => by
    have h1 := List.drop_eq_nil_iff.1 hd
    have hm : m' = [] := by rw [← hd']; exact List.drop_eq_nil_iff.2 (by omega)
    subst hm
    have hle := hp.len
    have q : ¬ (j : Int) < (es.length : Int) := by omega
    refine loopO_inr ?_
    simp only [g16_L1, unc_cons, asI_int, asB_bool, un0_nil, hx.len, ifB_decide, if_neg q, samePs, if_true]
  | p :: m, m', j, hd, hd' => by
    obtain ⟨hgt, hr, hlt⟩ := drop_cons hd
    have hle := hp.len
    have hlq := hq.len
    have hlen := slen_lt hx
    have q : (j : Int) < (es.length : Int) := by omega
    have hd2 : l2.drop j = l2[j] :: l2.drop (j + 1) := List.drop_eq_getElem_cons (by omega)
    rw [hd2] at hd'
    subst hd'
    obtain ⟨v, hv, hV, _⟩ := hp.get hd
    obtain ⟨w, hw, hW, _⟩ := hq.get hd2
    have c := fun {γ : Type} (st : St) (K : Kv γ) => callX3 (isQ_bare hV) (isQ_bare hW) (bool_bare b) rfl (ih p (List.mem_of_getElem? hgt) _ v w hV hW) st K
    have e' : g16_L1 x y b ([.bool false, .int .i64 (j : Int)], st) = ifB (!sameP b p l2[j]) (some (.inr (1, [.bool false], st))) (some (.inl ([.bool false, .int .i64 ((j + 1 : Nat) : Int)], st))) := by
      obtain ⟨k0, lit, sp, nm, ps, u, gs, e1, rfl, _, _⟩ := isQ_open hV
      obtain ⟨k1, lit1, sp1, nm1, ps1, u1, gs1, e2, rfl, _, _⟩ := isQ_open hW
      simp only [g16_L1, unc_cons, asI_int, asB_bool, asS_str, un0_nil, hx.len, ifB_decide, if_pos q, hx.idx hv, hy.idx hw, cells_agg, loadS_ip, takeP6, bindO_ok, unA_agg, c, letV_eq, wrapA1 (show j + 1 ≤ 9223372036854775807 by omega)]
    rcases Bool.eq_false_or_eq_true (sameP b p l2[j]) with ht | ht
    · rw [ht] at e'
      rw [loopO_inl e', spats_loop b hx hy hp hq hl ih st m (l2.drop (j + 1)) (j + 1) hr rfl]
      simp only [samePs, ht, Bool.true_and]
    · rw [ht] at e'
      rw [loopO_inr e']
      simp only [samePs, ht, Bool.false_and, Bool.false_eq_true, if_false]
theorem spats_ok (b : Bool) {l1 l2 : List Pat} {x y : AV} {es fs : List AV} (hx : IsSl 6 x es) (hy : IsSl 6 y fs) (hp : IsPs l1 es) (hq : IsPs l2 fs)
    (ih : ∀ p ∈ l1, ∀ q v w, IsP p v → IsP q w → (orc vE).bare 23 [v, w, .bool b] = some (.bool (sameP b p q))) : (orc vE).bare 16 [x, y, .bool b] = some (.bool (samePs b l1 l2)) := by
  refine bare_of rfl ((g16_eq _ _ _).trans ?_)
  have h1 := hp.len
  have h2 := hq.len
  by_cases hl : l1.length = l2.length
  · have lp := spats_loop b hx hy hp hq hl ih S0 l1 l2 0 rfl rfl
    have lp : loopO (g16_L1 x y b) ([.bool false, .int .i64 0], S0) = _ := lp
    have hne : ((es.length : Int) != (fs.length : Int)) = false := by rw [show es.length = fs.length by omega]; simp
    simp only [g16, asB_bool, hx.len, hy.len, hne, ifB_false, lp, bindO_ok]
    cases samePs b l1 l2 <;> rfl
  · have hne : ((es.length : Int) != (fs.length : Int)) = true := by simp; omega
    simp only [g16, asB_bool, hx.len, hy.len, hne, ifB_true, samePs_len hl]
theorem spat_ok (b : Bool) : ∀ (n : Nat) (p : Pat), SizeOf.sizeOf p < n → ∀ (q : Pat) (v w : AV), IsP p v → IsP q w → (orc vE).bare 23 [v, w, .bool b] = some (.bool (sameP b p q)) := by
  intro n
  induction n with
  | zero => intro p h; omega
  | succ n ih =>
    intro p hn q v w hv hw
    obtain ⟨k0, lit0, sp0, nm0, ps0, x, es, rfl, rfl, hx, hp⟩ := isQ_open hv
    obtain ⟨k1, lit1, sp1, nm1, ps1, y, fs, rfl, rfl, hy, hq⟩ := isQ_open hw
    simp only [Pat.mk.sizeOf_spec] at hn
    have hc := spats_ok b hx hy hp hq (fun p hp => ih p (by have := List.sizeOf_lt_of_mem hp; omega))
    have c := fun {γ : Type} (st : St) (K : Kv γ) => callX3 (sl_bare hx) (sl_bare hy) (bool_bare b) rfl hc st K
    refine bare_of rfl ((g23_eq _ _ _).trans ?_)
    have hsp : ((sp0.1, sp0.2) == (sp1.1, sp1.2)) = (sp0 == sp1) := rfl
    simp only [g23, unA_agg, unc_cons, asI_int, asS_str, asB_bool, un0_nil, hx.asOne, hx.fit1, hy.asOne, hy.fit1, neq_span, bne, nat_beq, hsp, sameP]
    rcases Bool.eq_false_or_eq_true (k0 == k1) with h1 | h1 <;> simp only [h1, Bool.not_true, Bool.not_false, ifB_true, ifB_false, bindO_ok, unc_cons, asB_bool, un0_nil, Bool.false_and, Bool.true_and]
    rcases Bool.eq_false_or_eq_true (lit0 == lit1) with h2 | h2 <;> simp only [h2, Bool.not_true, Bool.not_false, ifB_true, ifB_false, bindO_ok, unc_cons, asB_bool, un0_nil, Bool.false_and, Bool.true_and]
    rcases Bool.eq_false_or_eq_true (nm0 == nm1) with h3 | h3 <;> simp only [h3, Bool.not_true, Bool.not_false, ifB_true, ifB_false, bindO_ok, unc_cons, asB_bool, un0_nil, Bool.false_and, Bool.true_and]
    cases b with
    | false => simp only [ifB_false, bindO_ok, unc_cons, asB_bool, un0_nil, Bool.not_false, Bool.true_or, Bool.true_and, c]
    | true =>
      simp only [ifB_true, bindO_ok, unc_cons, asB_bool, un0_nil, Bool.not_true, Bool.false_or]
      rcases Bool.eq_false_or_eq_true (sp0 == sp1) with h4 | h4 <;> simp only [h4, Bool.not_true, Bool.not_false, ifB_true, ifB_false, c, asB_bool, Bool.false_and, Bool.true_and]
theorem rpat_ok (b : Bool) {p q : Pat} {v w : AV} (hv : IsP p v) (hw : IsP q w) : (orc vE).bare 23 [v, w, .bool b] = some (.bool (sameP b p q)) := spat_ok b _ p (Nat.lt_succ_self _) q v w hv hw
theorem rpats_ok (b : Bool) {l1 l2 : List Pat} {x y : AV} {es fs : List AV} (hx : IsSl 6 x es) (hy : IsSl 6 y fs) (hp : IsPs l1 es) (hq : IsPs l2 fs) : (orc vE).bare 16 [x, y, .bool b] = some (.bool (samePs b l1 l2)) :=
  spats_ok b hx hy hp hq fun _ _ _ _ _ h1 h2 => rpat_ok b h1 h2
theorem sargs_loop (b : Bool) {l1 l2 : List Exr} {x y : AV} {es fs : List AV} (hx : IsSl 7 x es) (hy : IsSl 7 y fs) (hp : IsXs l1 es) (hq : IsXs l2 fs) (hl : l1.length = l2.length)
    (ih : ∀ p ∈ l1, ∀ q v w, IsX p v → IsX q w → (orc vE).bare 7 [v, w, .bool b] = some (.bool (sameE b p q))) (st : St) : ∀ (m m' : List Exr) (j : Nat), l1.drop j = m → l2.drop j = m' →
    loopO (g7_L1 b x y) ([.bool false, .int .i64 (j : Int)], st) = some (if sameEs b m m' then 0 else 1, [.bool false], st)
  | [], m', j, hd, hd' => by
    have h1 := List.drop_eq_nil_iff.1 hd
    have hm : m' = [] := by rw [← hd']; exact List.drop_eq_nil_iff.2 (by omega)
    subst hm
    have hle := hp.len
    have q : ¬ (j : Int) < (es.length : Int) := by omega
    refine loopO_inr ?_
    simp only [g7_L1, unc_cons, asI_int, asB_bool, un0_nil, hx.len, ifB_decide, if_neg q, sameEs, if_true]
  | p :: m, m', j, hd, hd' => by
    obtain ⟨hgt, hr, hlt⟩ := drop_cons hd
    have hle := hp.len
    have hlq := hq.len
    have hlen := slen_lt hx
    have q : (j : Int) < (es.length : Int) := by omega
    have hd2 : l2.drop j = l2[j] :: l2.drop (j + 1) := List.drop_eq_getElem_cons (by omega)
    rw [hd2] at hd'
    subst hd'
    obtain ⟨v, hv, hV, _⟩ := hp.get hd
    obtain ⟨w, hw, hW, _⟩ := hq.get hd2
    have c := fun {γ : Type} (st : St) (K : Kv γ) => callX3 (isX_bare hV) (isX_bare hW) (bool_bare b) rfl (ih p (List.mem_of_getElem? hgt) _ v w hV hW) st K
    have e' : g7_L1 b x y ([.bool false, .int .i64 (j : Int)], st) = ifB (!sameE b p l2[j]) (some (.inr (1, [.bool false], st))) (some (.inl ([.bool false, .int .i64 ((j + 1 : Nat) : Int)], st))) := by
      obtain ⟨k0, sp, rc, nm, ps, ls, u, gs, u2, gs2, e1, rfl, _, _, _, _⟩ := isX_open hV
      obtain ⟨k1, sp1, rc1, nm1, ps1, ls1, u1, gs1, u3, gs3, e2, rfl, _, _, _, _⟩ := isX_open hW
      simp only [g7_L1, unc_cons, asI_int, asB_bool, asS_str, un0_nil, hx.len, ifB_decide, if_pos q, hx.idx hv, hy.idx hw, cells_agg, loadS_ip, takeP7, bindO_ok, unA_agg, c, letV_eq, wrapA1 (show j + 1 ≤ 9223372036854775807 by omega)]
    rcases Bool.eq_false_or_eq_true (sameE b p l2[j]) with ht | ht
    · rw [ht] at e'
      rw [loopO_inl e', sargs_loop b hx hy hp hq hl ih st m (l2.drop (j + 1)) (j + 1) hr rfl]
      simp only [sameEs, ht, Bool.true_and]
    · rw [ht] at e'
      rw [loopO_inr e']
      simp only [sameEs, ht, Bool.false_and, Bool.false_eq_true, if_false]
theorem sexpr_ok (b : Bool) : ∀ (n : Nat) (p : Exr), SizeOf.sizeOf p < n → ∀ (q : Exr) (v w : AV), IsX p v → IsX q w → (orc vE).bare 7 [v, w, .bool b] = some (.bool (sameE b p q)) := by
  intro n
  induction n with
  | zero => intro p h; omega
  | succ n ih =>
    intro p hn q v w hv hw
    obtain ⟨k0, sp0, rc0, nm0, ps0, ls0, x, es, x2, es2, rfl, rfl, hx, hp, hx2, hp2⟩ := isX_open hv
    obtain ⟨k1, sp1, rc1, nm1, ps1, ls1, y, fs, y2, fs2, rfl, rfl, hy, hq, hy2, hq2⟩ := isX_open hw
    simp only [Exr.mk.sizeOf_spec] at hn
    have hc := rpats_ok b hx hy hp hq
    have c := fun {γ : Type} (st : St) (K : Kv γ) => callX3 (sl_bare hx) (sl_bare hy) (bool_bare b) rfl hc st K
    refine bare_of rfl ((g7_eq _ _ _).trans ?_)
    have hsp : ((sp0.1, sp0.2) == (sp1.1, sp1.2)) = (sp0 == sp1) := rfl
    have hl1 := hp2.len
    have hl2 := hq2.len
    have hrc : ((!rc0) == rc1) = !(rc0 == rc1) := by cases rc0 <;> cases rc1 <;> rfl
    simp only [g7, unA_agg, unc_cons, asI_int, asS_str, asB_bool, un0_nil, hx.asOne, hx.fit1, hy.asOne, hy.fit1, hx2.asOne, hx2.fit1, hy2.asOne, hy2.fit1, hx2.len, hy2.len, neq_span, bne, nat_beq, hsp, sameE]
    rcases Bool.eq_false_or_eq_true (k0 == k1) with h1 | h1 <;> simp only [h1, Bool.not_true, Bool.not_false, ifB_true, ifB_false, bindO_ok, unc_cons, asB_bool, un0_nil, Bool.false_and, Bool.true_and]
    rcases Bool.eq_false_or_eq_true (rc0 == rc1) with h2 | h2 <;> simp only [h2, Bool.not_true, Bool.not_false, ifB_true, ifB_false, bindO_ok, unc_cons, asB_bool, un0_nil, Bool.false_and, Bool.true_and]
    rcases Bool.eq_false_or_eq_true (nm0 == nm1) with h3 | h3 <;> simp only [h3, Bool.not_true, Bool.not_false, ifB_true, ifB_false, bindO_ok, unc_cons, asB_bool, un0_nil, Bool.false_and, Bool.true_and]
    by_cases hl' : ls0.length ≠ ls1.length
    · have hl := hl'
      have hne : (es2.length == fs2.length) = false := by simp; omega
      simp only [hne, Bool.not_true, Bool.not_false, ifB_true, ifB_false, bindO_ok, unc_cons, asB_bool, un0_nil, sameEs_len hl, Bool.and_false]
    have hl : ls0.length = ls1.length := by omega
    have hne : (es2.length == fs2.length) = true := by simp; omega
    have lp := sargs_loop b hx2 hy2 hp2 hq2 hl (fun p hp => ih p (by have := List.sizeOf_lt_of_mem hp; omega)) S0 ls0 ls1 0 rfl rfl
    have lp : loopO (g7_L1 b x2 y2) ([.bool false, .int .i64 0], S0) = _ := lp
    simp only [hne, Bool.not_true, Bool.not_false, ifB_true, ifB_false]
    have fin : (if sameEs b ls0 ls1 = true then (0 : Nat) else 1) = 0 ∧ sameEs b ls0 ls1 = true ∨ (if sameEs b ls0 ls1 = true then (0 : Nat) else 1) = 1 ∧ sameEs b ls0 ls1 = false := by
      cases sameEs b ls0 ls1 <;> simp
    cases b with
    | false =>
      simp only [ifB_false, bindO_ok, unc_cons, asB_bool, un0_nil, Bool.not_false, Bool.true_or, Bool.true_and, c]
      rcases Bool.eq_false_or_eq_true (samePs false ps0 ps1) with h5 | h5 <;> simp only [h5, Bool.not_true, Bool.not_false, ifB_true, ifB_false, Bool.false_and, Bool.true_and]
      simp only [lp, bindO_ok, unc_cons, asB_bool, un0_nil]
      rcases fin with ⟨h6, h7⟩ | ⟨h6, h7⟩ <;> rw [h6, h7] <;> rfl
    | true =>
      simp only [ifB_true, bindO_ok, unc_cons, asB_bool, un0_nil, Bool.not_true, Bool.false_or]
      rcases Bool.eq_false_or_eq_true (sp0 == sp1) with h4 | h4 <;> simp only [h4, Bool.not_true, Bool.not_false, ifB_true, ifB_false, c, bindO_ok, unc_cons, asB_bool, un0_nil, Bool.false_and, Bool.true_and]
      rcases Bool.eq_false_or_eq_true (samePs true ps0 ps1) with h5 | h5 <;> simp only [h5, Bool.not_true, Bool.not_false, ifB_true, ifB_false, Bool.false_and, Bool.true_and]
      simp only [lp, bindO_ok, unc_cons, asB_bool, un0_nil]
      rcases fin with ⟨h6, h7⟩ | ⟨h6, h7⟩ <;> rw [h6, h7] <;> rfl
theorem rsameE_ok (b : Bool) {p q : Exr} {v w : AV} (hv : IsX p v) (hw : IsX q w) : (orc vE).bare 7 [v, w, .bool b] = some (.bool (sameE b p q)) := sexpr_ok b _ p (Nat.lt_succ_self _) q v w hv hw
end Go.Proofs.YtmnpladggilgbaaGreatDoor.Vm
/- The same expressions, as the program compares them: over slices.EqualFunc. -/
namespace Go.Proofs.YtmnpladggilgbaaGreatDoor.Vm
open Go Go.VM Go.Proofs Go.Scope
theorem lvP (st : St) (k lit a b : Int) (nm : List UInt8) (x : AV) (h : st.ro ≤ st.h) : ∃ st', st'.get st.h = .ok (.cells 42 [.int .u8 k, .int .u8 lit, .int .i64 a, .int .i64 b, .str nm, x]) ∧ Keeps st st' (fun _ => False) ∧ st'.h = st.h + 1 ∧ ∃ fx, ∀ {β : Type} (K : Kv β), storeS (orc vE) 6 (AV.mp st.h 0) (.agg [.int .u8 k, .int .u8 lit, .int .i64 a, .int .i64 b, .str nm, x]) [.int .u8 k, .int .u8 lit, .int .i64 a, .int .i64 b, .str nm, x] (st.add (.cells 42 [.int .u8 0, .int .u8 0, .int .i64 0, .int .i64 0, .str [], .nils])) K = K VM.undef st' fx := by
  obtain ⟨st', g, k1, n, fx, e⟩ := local_var (O := orc vE) (st := st) (t := 42) (z := 6) (old := [.int .u8 0, .int .u8 0, .int .i64 0, .int .i64 0, .str [], .nils]) (cs := [.int .u8 k, .int .u8 lit, .int .i64 a, .int .i64 b, .str nm, x]) (.agg [.int .u8 k, .int .u8 lit, .int .i64 a, .int .i64 b, .str nm, x]) rfl rfl h
  exact ⟨st', g, k1, n, fx, e⟩
theorem lvE (st : St) (k a b : Int) (rc : Bool) (nm : List UInt8) (x y : AV) (h : st.ro ≤ st.h) : ∃ st', st'.get st.h = .ok (.cells 27 [.int .u8 k, .int .i64 a, .int .i64 b, .bool rc, .str nm, x, y]) ∧ Keeps st st' (fun _ => False) ∧ st'.h = st.h + 1 ∧ ∃ fx, ∀ {β : Type} (K : Kv β), storeS (orc vE) 7 (AV.mp st.h 0) (.agg [.int .u8 k, .int .i64 a, .int .i64 b, .bool rc, .str nm, x, y]) [.int .u8 k, .int .i64 a, .int .i64 b, .bool rc, .str nm, x, y] (st.add (.cells 27 [.int .u8 0, .int .i64 0, .int .i64 0, .bool false, .str [], .nils, .nils])) K = K VM.undef st' fx := by
  obtain ⟨st', g, k1, n, fx, e⟩ := local_var (O := orc vE) (st := st) (t := 27) (z := 7) (old := [.int .u8 0, .int .i64 0, .int .i64 0, .bool false, .str [], .nils, .nils]) (cs := [.int .u8 k, .int .i64 a, .int .i64 b, .bool rc, .str nm, x, y]) (.agg [.int .u8 k, .int .i64 a, .int .i64 b, .bool rc, .str nm, x, y]) rfl rfl h
  exact ⟨st', g, k1, n, fx, e⟩
theorem callX2' {F : FuncId} {v w r : AV} (hv : VM.bare v = true ∧ VM.strip v = v) (hw : VM.bare w = true ∧ VM.strip w = w) (hf : vE.full F = false) (h : (orc vE).bare F [v, w] = some r) {β : Type} (st : St) (K : Kv β) : callS (orc vE) F [v, w] st K = K r st q0 :=
  callX2 hv hw.1 hw.2 hf h st K
theorem sel_end (b : Bool) (st : St) : bindO (some (if b = true then 0 else 1, [AV.bool false], st) : Option (Nat × Car)) (fun c37 => unc (Prod.fst (Prod.snd c37)) fun v38 l39 => asB v38 fun b40 => un0 l39 (sel2 (Prod.fst c37) (some (AV.bool true)) fun _x => some (AV.bool b40))) = some (AV.bool b) := by
  cases b <;> rfl
theorem epat_loop {l m : List Pat} {x y : AV} {es fs : List AV} (hx : IsSl 6 x es) (hs : IsPs l es) (hy : IsSl 6 y fs) (hs' : IsPs m fs) (hl : l.length = m.length) (ih : ∀ t ∈ l, ∀ u v w, IsP t v → IsP u w → (orc vE).bare 14 [v, w] = some (.bool (sameP false t u))) : ∀ (a b : List Pat) (j : Nat) (st : St), l.drop j = a → m.drop j = b → st.ro ≤ st.h →
    ∃ st', loopO (g13_L1 x y (.fn (.func 14) [] []) es.length) ([.bool false, .int .i64 (j : Int)], st) = some (if samePs false a b then 0 else 1, [.bool false], st')
  | [], b, j, st, ha, hb, _ => by
    have h1 := List.drop_eq_nil_iff.1 ha
    have h2 := hs.len
    have hm : b = [] := by rw [← hb]; exact List.drop_eq_nil_iff.2 (by omega)
    subst hm
    have q : ¬ (j : Int) < (es.length : Int) := by omega
    refine ⟨st, loopO_inr ?_⟩
    simp only [g13_L1, unc_cons, asB_bool, asI_int, un0_nil, ifB_decide, if_neg q, samePs, if_true]
  | t :: a, [], j, st, ha, hb, _ => by
    have h1 := List.drop_eq_nil_iff.1 hb
    have h2 := (drop_cons ha).2.2
    omega
  | t :: a, u :: b, j, st, ha, hb, hro => by
    obtain ⟨hg, hr, hlt⟩ := drop_cons ha
    obtain ⟨hg', hr', _⟩ := drop_cons hb
    have hle := hs.len
    have q : (j : Int) < (es.length : Int) := by omega
    have h1 := slen_lt hx
    obtain ⟨v, hv, hV, _⟩ := hs.get ha
    obtain ⟨w, hw, hW, _⟩ := hs'.get hb
    have hh := ih t (List.mem_of_getElem? hg) u v w hV hW
    have bv := isQ_bare hV
    have bw := isQ_bare hW
    obtain ⟨k1, lit1, sp1, nm1, ps1, z1, gs1, e1, rfl, hz1, _⟩ := isQ_open hV
    obtain ⟨k2, lit2, sp2, nm2, ps2, z2, gs2, e2, rfl, hz2, _⟩ := isQ_open hW
    obtain ⟨sa, ga, ka, na, fa, ea⟩ := lvP st (k1 : Int) (lit1 : Int) sp1.1 sp1.2 nm1 z1 hro
    obtain ⟨sb, gb, kb, nb, fb, eb⟩ := lvP sa (k2 : Int) (lit2 : Int) sp2.1 sp2.2 nm2 z2 (by rw [ka.ro]; have := ka.h; omega)
    have ga' := kb.old _ _ (fun f => f) ga
    have c := fun {γ : Type} (st : St) (K : Kv γ) => (show callF (orc vE) (Sx.prim (sx vE 13)) (.fn (.func 14) [] []) [_, _] st K = callS (orc vE) 14 [_, _] st K from rfl).trans (callX2' bv bw rfl hh st K)
    have e : g13_L1 x y (.fn (.func 14) [] []) es.length ([.bool false, .int .i64 (j : Int)], st) = ifB (!sameP false t u) (some (.inr (1, [.bool false], sb))) (some (.inl ([.bool false, .int .i64 ((j + 1 : Nat) : Int)], sb))) := by
      simp only [g13_L1, unc_cons, asB_bool, asI_int, asS_str, un0_nil, ifB_decide, if_pos q, hx.idx hv, hy.idx hw, cells_agg, loadS_ip, takeP6, bindO_ok, unA_agg, letSt_eq, hz1.asOne, ea, hz2.asOne, eb, loadS_mp ga', loadS_mp gb, List.drop_zero, c, letV_eq, wrapA1 (show j + 1 ≤ 9223372036854775807 by omega)]
    rcases Bool.eq_false_or_eq_true (sameP false t u) with h | h
    · rw [h] at e
      obtain ⟨st', e'⟩ := epat_loop hx hs hy hs' hl ih a b (j + 1) sb hr hr' (by rw [kb.ro, ka.ro]; have := ka.h; have := kb.h; omega)
      exact ⟨st', by rw [loopO_inl e, e']; simp only [samePs, h, Bool.true_and]⟩
    · rw [h] at e
      exact ⟨sb, by rw [loopO_inr e]; simp only [samePs, h, Bool.false_and, Bool.false_eq_true, if_false]⟩
theorem epats_ok {l m : List Pat} {x y : AV} {es fs : List AV} (hx : IsSl 6 x es) (hs : IsPs l es) (hy : IsSl 6 y fs) (hs' : IsPs m fs) (ih : ∀ t ∈ l, ∀ u v w, IsP t v → IsP u w → (orc vE).bare 14 [v, w] = some (.bool (sameP false t u))) :
    (orc vE).bare 13 [x, y, .fn (.func 14) [] []] = some (.bool (samePs false l m)) := by
  refine bare_of rfl ((g13_eq _ _ _).trans ?_)
  have h1 := hs.len
  have h2 := hs'.len
  by_cases hl : l.length = m.length
  · have hne : ((es.length : Int) != (fs.length : Int)) = false := by rw [show es.length = fs.length by omega]; simp
    obtain ⟨st', e⟩ := epat_loop hx hs hy hs' hl ih l m 0 S0 rfl rfl (Nat.le_refl _)
    have e : loopO (g13_L1 x y (.fn (.func 14) [] []) es.length) ([.bool false, .int .i64 0], St.mk 0 0 Tr.leaf) = _ := e
    simp only [g13, hx.len, hy.len, hne, ifB_false]
    rw [e]
    exact sel_end _ _
  · have hne : ((es.length : Int) != (fs.length : Int)) = true := by simp; omega
    simp only [g13, hx.len, hy.len, hne, ifB_true, samePs_len hl]
theorem gpat_ok : ∀ (n : Nat) (p : Pat), SizeOf.sizeOf p < n → ∀ (q : Pat) (v w : AV), IsP p v → IsP q w → (orc vE).bare 14 [v, w] = some (.bool (sameP false p q)) := by
  intro n
  induction n with
  | zero => intro p h; omega
  | succ n ih =>
    intro p hn q v w hv hw
    obtain ⟨k0, lit0, sp0, nm0, ps0, x, es, rfl, rfl, hx, hp⟩ := isQ_open hv
    obtain ⟨k1, lit1, sp1, nm1, ps1, y, fs, rfl, rfl, hy, hq⟩ := isQ_open hw
    simp only [Pat.mk.sizeOf_spec] at hn
    have hc := epats_ok hx hp hy hq (fun p hp => ih p (by have := List.sizeOf_lt_of_mem hp; omega))
    have c := fun {γ : Type} (st : St) (K : Kv γ) => callX3 (sl_bare hx) (sl_bare hy) (show VM.bare (.fn (.func 14) [] []) = true ∧ VM.strip (.fn (.func 14) [] []) = .fn (.func 14) [] [] from ⟨rfl, rfl⟩) rfl hc st K
    refine bare_of rfl ((g14_eq _ _).trans ?_)
    simp only [g14, unA_agg, unc_cons, asI_int, asS_str, asB_bool, un0_nil, hx.asOne, hx.fit1, hy.asOne, hy.fit1, nat_beq, sameP, Bool.not_false, Bool.true_or, Bool.and_true]
    rcases Bool.eq_false_or_eq_true (k0 == k1) with h1 | h1 <;> simp only [h1, ifB_true, ifB_false, bindO_ok, unc_cons, asB_bool, un0_nil, Bool.false_and, Bool.true_and]
    rcases Bool.eq_false_or_eq_true (lit0 == lit1) with h2 | h2 <;> simp only [h2, ifB_true, ifB_false, bindO_ok, unc_cons, asB_bool, un0_nil, Bool.false_and, Bool.true_and]
    rcases Bool.eq_false_or_eq_true (nm0 == nm1) with h3 | h3 <;> simp only [h3, ifB_true, ifB_false, bindO_ok, unc_cons, asB_bool, un0_nil, Bool.false_and, Bool.true_and, c]
theorem epats_all {l m : List Pat} {x y : AV} {es fs : List AV} (hx : IsSl 6 x es) (hs : IsPs l es) (hy : IsSl 6 y fs) (hs' : IsPs m fs) : (orc vE).bare 13 [x, y, .fn (.func 14) [] []] = some (.bool (samePs false l m)) :=
  epats_ok hx hs hy hs' fun t _ u v w h1 h2 => gpat_ok _ t (Nat.lt_succ_self _) u v w h1 h2
theorem eexp_loop {l m : List Exr} {x y : AV} {es fs : List AV} (hx : IsSl 7 x es) (hs : IsXs l es) (hy : IsSl 7 y fs) (hs' : IsXs m fs) (hl : l.length = m.length) (ih : ∀ t ∈ l, ∀ u v w, IsX t v → IsX u w → (orc vE).bare 6 [v, w] = some (.bool (sameE false t u))) : ∀ (a b : List Exr) (j : Nat) (st : St), l.drop j = a → m.drop j = b → st.ro ≤ st.h →
    ∃ st', loopO (g15_L1 x y (.fn (.func 6) [] []) es.length) ([.bool false, .int .i64 (j : Int)], st) = some (if sameEs false a b then 0 else 1, [.bool false], st')
  | [], b, j, st, ha, hb, _ => by
    have h1 := List.drop_eq_nil_iff.1 ha
    have h2 := hs.len
    have hm : b = [] := by rw [← hb]; exact List.drop_eq_nil_iff.2 (by omega)
    subst hm
    have q : ¬ (j : Int) < (es.length : Int) := by omega
    refine ⟨st, loopO_inr ?_⟩
    simp only [g15_L1, unc_cons, asB_bool, asI_int, un0_nil, ifB_decide, if_neg q, sameEs, if_true]
  | t :: a, [], j, st, ha, hb, _ => by
    have h1 := List.drop_eq_nil_iff.1 hb
    have h2 := (drop_cons ha).2.2
    omega
  | t :: a, u :: b, j, st, ha, hb, hro => by
    obtain ⟨hg, hr, hlt⟩ := drop_cons ha
    obtain ⟨hg', hr', _⟩ := drop_cons hb
    have hle := hs.len
    have q : (j : Int) < (es.length : Int) := by omega
    have h1 := slen_lt hx
    obtain ⟨v, hv, hV, _⟩ := hs.get ha
    obtain ⟨w, hw, hW, _⟩ := hs'.get hb
    have hh := ih t (List.mem_of_getElem? hg) u v w hV hW
    have bv := isX_bare hV
    have bw := isX_bare hW
    obtain ⟨k1, sp1, rc1, nm1, ps1, ls1, z1, gs1, y1, fs1, e1, rfl, hz1, _, hy1, _⟩ := isX_open hV
    obtain ⟨k2, sp2, rc2, nm2, ps2, ls2, z2, gs2, y2, fs2, e2, rfl, hz2, _, hy2, _⟩ := isX_open hW
    obtain ⟨sa, ga, ka, na, fa, ea⟩ := lvE st (k1 : Int) sp1.1 sp1.2 rc1 nm1 z1 y1 hro
    obtain ⟨sb, gb, kb, nb, fb, eb⟩ := lvE sa (k2 : Int) sp2.1 sp2.2 rc2 nm2 z2 y2 (by rw [ka.ro]; have := ka.h; omega)
    have ga' := kb.old _ _ (fun f => f) ga
    have c := fun {γ : Type} (st : St) (K : Kv γ) => (show callF (orc vE) (Sx.prim (sx vE 15)) (.fn (.func 6) [] []) [_, _] st K = callS (orc vE) 6 [_, _] st K from rfl).trans (callX2' bv bw rfl hh st K)
    have e : g15_L1 x y (.fn (.func 6) [] []) es.length ([.bool false, .int .i64 (j : Int)], st) = ifB (!sameE false t u) (some (.inr (1, [.bool false], sb))) (some (.inl ([.bool false, .int .i64 ((j + 1 : Nat) : Int)], sb))) := by
      simp only [g15_L1, unc_cons, asB_bool, asI_int, asS_str, un0_nil, ifB_decide, if_pos q, hx.idx hv, hy.idx hw, cells_agg, loadS_ip, takeP7, bindO_ok, unA_agg, letSt_eq, hz1.asOne, hy1.asOne, ea, hz2.asOne, hy2.asOne, eb, loadS_mp ga', loadS_mp gb, List.drop_zero, c, letV_eq, wrapA1 (show j + 1 ≤ 9223372036854775807 by omega)]
    rcases Bool.eq_false_or_eq_true (sameE false t u) with h | h
    · rw [h] at e
      obtain ⟨st', e'⟩ := eexp_loop hx hs hy hs' hl ih a b (j + 1) sb hr hr' (by rw [kb.ro, ka.ro]; have := ka.h; have := kb.h; omega)
      exact ⟨st', by rw [loopO_inl e, e']; simp only [sameEs, h, Bool.true_and]⟩
    · rw [h] at e
      exact ⟨sb, by rw [loopO_inr e]; simp only [sameEs, h, Bool.false_and, Bool.false_eq_true, if_false]⟩
theorem eexps_ok {l m : List Exr} {x y : AV} {es fs : List AV} (hx : IsSl 7 x es) (hs : IsXs l es) (hy : IsSl 7 y fs) (hs' : IsXs m fs) (ih : ∀ t ∈ l, ∀ u v w, IsX t v → IsX u w → (orc vE).bare 6 [v, w] = some (.bool (sameE false t u))) :
    (orc vE).bare 15 [x, y, .fn (.func 6) [] []] = some (.bool (sameEs false l m)) := by
  refine bare_of rfl ((g15_eq _ _ _).trans ?_)
  have h1 := hs.len
  have h2 := hs'.len
  by_cases hl : l.length = m.length
  · have hne : ((es.length : Int) != (fs.length : Int)) = false := by rw [show es.length = fs.length by omega]; simp
    obtain ⟨st', e⟩ := eexp_loop hx hs hy hs' hl ih l m 0 S0 rfl rfl (Nat.le_refl _)
    have e : loopO (g15_L1 x y (.fn (.func 6) [] []) es.length) ([.bool false, .int .i64 0], St.mk 0 0 Tr.leaf) = _ := e
    simp only [g15, hx.len, hy.len, hne, ifB_false]
    rw [e]
    exact sel_end _ _
  · have hne : ((es.length : Int) != (fs.length : Int)) = true := by simp; omega
    simp only [g15, hx.len, hy.len, hne, ifB_true, sameEs_len hl]
theorem gexpr_ok : ∀ (n : Nat) (p : Exr), SizeOf.sizeOf p < n → ∀ (q : Exr) (v w : AV), IsX p v → IsX q w → (orc vE).bare 6 [v, w] = some (.bool (sameE false p q)) := by
  intro n
  induction n with
  | zero => intro p h; omega
  | succ n ih =>
    intro p hn q v w hv hw
    obtain ⟨k0, sp0, rc0, nm0, ps0, ls0, x, es, x2, es2, rfl, rfl, hx, hp, hx2, hp2⟩ := isX_open hv
    obtain ⟨k1, sp1, rc1, nm1, ps1, ls1, y, fs, y2, fs2, rfl, rfl, hy, hq, hy2, hq2⟩ := isX_open hw
    simp only [Exr.mk.sizeOf_spec] at hn
    have hc := epats_all hx hp hy hq
    have c := fun {γ : Type} (st : St) (K : Kv γ) => callX3 (sl_bare hx) (sl_bare hy) (show VM.bare (.fn (.func 14) [] []) = true ∧ VM.strip (.fn (.func 14) [] []) = .fn (.func 14) [] [] from ⟨rfl, rfl⟩) rfl hc st K
    have hd := eexps_ok hx2 hp2 hy2 hq2 (fun p hp => ih p (by have := List.sizeOf_lt_of_mem hp; omega))
    have d := fun {γ : Type} (st : St) (K : Kv γ) => callX3 (sl_bare hx2) (sl_bare hy2) (show VM.bare (.fn (.func 6) [] []) = true ∧ VM.strip (.fn (.func 6) [] []) = .fn (.func 6) [] [] from ⟨rfl, rfl⟩) rfl hd st K
    refine bare_of rfl ((g6_eq _ _).trans ?_)
    simp only [g6, unA_agg, unc_cons, asI_int, asS_str, asB_bool, un0_nil, hx.asOne, hx.fit1, hy.asOne, hy.fit1, hx2.asOne, hx2.fit1, hy2.asOne, hy2.fit1, nat_beq, sameE, Bool.not_false, Bool.true_or, Bool.and_true]
    rcases Bool.eq_false_or_eq_true (k0 == k1) with h1 | h1 <;> simp only [h1, ifB_true, ifB_false, bindO_ok, unc_cons, asB_bool, un0_nil, Bool.false_and, Bool.true_and]
    rcases Bool.eq_false_or_eq_true (rc0 == rc1) with h2 | h2 <;> simp only [h2, ifB_true, ifB_false, bindO_ok, unc_cons, asB_bool, un0_nil, Bool.false_and, Bool.true_and]
    rcases Bool.eq_false_or_eq_true (nm0 == nm1) with h3 | h3 <;> simp only [h3, ifB_true, ifB_false, bindO_ok, unc_cons, asB_bool, un0_nil, Bool.false_and, Bool.true_and, c]
    rcases Bool.eq_false_or_eq_true (samePs false ps0 ps1) with h4 | h4 <;> simp only [h4, ifB_true, ifB_false, bindO_ok, unc_cons, asB_bool, un0_nil, Bool.false_and, Bool.true_and, d]
theorem gsameE_ok {p q : Exr} {v w : AV} (hv : IsX p v) (hw : IsX q w) : (orc vE).bare 6 [v, w] = some (.bool (sameE false p q)) := gexpr_ok _ p (Nat.lt_succ_self _) q v w hv hw
end Go.Proofs.YtmnpladggilgbaaGreatDoor.Vm
/- The values that a visit meets, in their order. -/
namespace Go.Proofs.YtmnpladggilgbaaGreatDoor.Vm
open Go Go.VM Go.Proofs Go.Scope Go.RowKit
theorem agg7 {g : Gh} {a b c d e f h : AV} {y : Value} (q : VM.R g (.agg [a, b, c, d, e, f, h]) y) : ∃ y0 y1 y2 y3 y4 y5 y6, y = .agg #[y0, y1, y2, y3, y4, y5, y6] ∧ VM.R g a y0 ∧ VM.R g b y1 ∧ VM.R g c y2 ∧ VM.R g d y3 ∧ VM.R g e y4 ∧ VM.R g f y5 ∧ VM.R g h y6 := by
  simp only [VM.R, RL] at q
  obtain ⟨ys, rfl, y0, l0, h0, r0, y1, l1, rfl, r1, y2, l2, rfl, r2, y3, l3, rfl, r3, y4, l4, rfl, r4, y5, l5, rfl, r5, y6, l6, rfl, r6, rfl⟩ := q
  refine ⟨y0, y1, y2, y3, y4, y5, y6, ?_, r0, r1, r2, r3, r4, r5, r6⟩
  cases ys; simp only at h0; subst h0; rfl
abbrev eV (k a b : Int) (rc : Bool) (nm : ByteArray) (x y : Value) : Value := .agg #[.int .u8 k, .int .i64 a, .int .i64 b, .bool rc, .string nm, x, y]
/-- The value of a kid. -/
def kidV (g : Gh) (y : Value) (i : Nat) : Value := match y with
  | .slice (some ad) _ _ => .agg #[(g.F ad.block (ad.off + i * 7)).getD .nilIface, (g.F ad.block (ad.off + i * 7 + 1)).getD .nilIface, (g.F ad.block (ad.off + i * 7 + 2)).getD .nilIface, (g.F ad.block (ad.off + i * 7 + 3)).getD .nilIface, (g.F ad.block (ad.off + i * 7 + 4)).getD .nilIface, (g.F ad.block (ad.off + i * 7 + 5)).getD .nilIface, (g.F ad.block (ad.off + i * 7 + 6)).getD .nilIface]
  | _ => .nilIface
def kidsOf (y : Value) : Value := match y with
  | .agg a => a.getD 6 .nilIface
  | _ => .nilIface
mutual
/-- The values of an expression's expressions, each ahead of those in it. -/
def pre (g : Gh) : Exr → Value → List Value
  | .mk _ _ _ _ _ ls, y => y :: pres g ls (kidsOf y) 0
def pres (g : Gh) : List Exr → Value → Nat → List Value
  | [], _, _ => []
  | e :: l, z, i => pre g e (kidV g z i) ++ pres g l z (i + 1)
end
theorem pre_len (g : Gh) : ∀ (n : Nat), (∀ e : Exr, SizeOf.sizeOf e < n → ∀ y, (pre g e y).length = (Scope.allE e).length) ∧ (∀ l : List Exr, SizeOf.sizeOf l < n → ∀ z i, (pres g l z i).length = (allEs l).length) := by
  intro n
  induction n with
  | zero => exact ⟨fun _ h => by omega, fun _ h => by omega⟩
  | succ n ih =>
    constructor
    · intro p h y
      cases p with
      | mk k s rc nm ps ls =>
        simp only [Exr.mk.sizeOf_spec] at h
        simp only [pre, Scope.allE, List.length_cons, ih.2 ls (by omega)]
    · intro l h z i
      cases l with
      | nil => simp only [pres, allEs, List.length_nil]
      | cons p l =>
        simp only [List.cons.sizeOf_spec] at h
        simp only [pres, allEs, List.length_append, ih.1 p (by omega), ih.2 l (by omega)]
theorem pre_all (g : Gh) (e : Exr) (y : Value) : (pre g e y).length = (Scope.allE e).length := (pre_len g _).1 e (Nat.lt_succ_self _) y
/-- A kid of an expression whose kids lie there. -/
theorem ekid {l : List Exr} {x : AV} {fs : List AV} {g : Gh} {y : Value} (hx : IsSl 7 x fs) (hs : IsXs l fs) (hr : VM.R g x y) {i : Nat} (hi : i < l.length) :
    ∃ (blk o cap : Nat) (v : AV) (k a b : Int) (rc : Bool) (nm : ByteArray) (ya yb : Value), y = .slice (some ⟨blk, o, none⟩) l.length cap ∧ IsX l[i] v ∧ kidV g y i = eV k a b rc nm ya yb ∧ VM.R g v (eV k a b rc nm ya yb) ∧
      g.F blk (o + i * 7) = some (.int .u8 k) ∧ g.F blk (o + i * 7 + 1) = some (.int .i64 a) ∧ g.F blk (o + i * 7 + 2) = some (.int .i64 b) ∧ g.F blk (o + i * 7 + 3) = some (.bool rc) ∧ g.F blk (o + i * 7 + 4) = some (.string nm) ∧ g.F blk (o + i * 7 + 5) = some ya ∧ g.F blk (o + i * 7 + 6) = some yb ∧ (∃ p m c, ya = .slice p m c) ∧ (∃ p m c, yb = .slice p m c) := by
  obtain ⟨a0, cap, rfl, _, h5⟩ := slv hx hr
  have hlen : fs.length = l.length := hs.len
  have hne : fs ≠ [] := by intro e; rw [e] at hlen; simp at hlen; omega
  obtain ⟨blk, o, rfl, h6⟩ := h5 hne
  obtain ⟨v, he, hN⟩ := xs_at hs hi
  obtain ⟨k, sp, rc, nm, ps, ls, x1, es1, x2, es2, el, rfl, hx1, hs1, hx2, hs2⟩ := isX_open hN
  obtain ⟨_, h7⟩ := RAtE_el h6 he
  have h7 : RAt g [.int .u8 (k : Int), .int .i64 sp.1, .int .i64 sp.2, .bool rc, .str nm, x1, x2] blk (o + i * 7) := h7
  obtain ⟨v0, f0, r0⟩ := RAt_el (k := 0) h7 rfl
  obtain ⟨v1, f1, r1⟩ := RAt_el (k := 1) h7 rfl
  obtain ⟨v2, f2, r2⟩ := RAt_el (k := 2) h7 rfl
  obtain ⟨v3, f3, r3⟩ := RAt_el (k := 3) h7 rfl
  obtain ⟨v4, f4, r4⟩ := RAt_el (k := 4) h7 rfl
  obtain ⟨v5, f5, r5⟩ := RAt_el (k := 5) h7 rfl
  obtain ⟨v6, f6, r6⟩ := RAt_el (k := 6) h7 rfl
  simp only [VM.R] at r0 r1 r2 r3 r4
  subst r0; subst r1; subst r2; subst r3; subst r4
  have o5 : ∃ p m c, v5 = .slice p m c := by obtain ⟨a5, c5, e5, _, _⟩ := slv hx1 r5; exact ⟨_, _, _, e5⟩
  have o6 : ∃ p m c, v6 = .slice p m c := by obtain ⟨a5, c5, e5, _, _⟩ := slv hx2 r6; exact ⟨_, _, _, e5⟩
  rw [hlen]
  have f0 : g.F blk (o + i * 7) = _ := f0
  refine ⟨blk, o, cap, _, k, sp.1, sp.2, rc, ⟨nm.toArray⟩, v5, v6, rfl, hN, ?_, ?_, f0, f1, f2, f3, f4, f5, f6, o5, o6⟩
  · simp only [kidV, f0, show g.F blk (o + i * 7 + 1) = _ from f1, show g.F blk (o + i * 7 + 2) = _ from f2, f3, f4, f5, f6, Option.getD_some]
  · simp only [VM.R, RL]
    exact ⟨_, rfl, _, _, rfl, rfl, _, _, rfl, rfl, _, _, rfl, rfl, _, _, rfl, rfl, _, _, rfl, rfl, _, _, rfl, r5, _, _, rfl, r6, rfl⟩
/-- An expression's value. -/
theorem xval {e : Exr} {v : AV} {g : Gh} {y : Value} (h : IsX e v) (hr : VM.R g v y) : ∃ (k a b : Int) (rc : Bool) (nm : ByteArray) (ya yb : Value) (ls : List Exr) (x : AV) (fs : List AV), y = eV k a b rc nm ya yb ∧ (∃ k' sp rc' nm' ps, e = .mk k' sp rc' nm' ps ls) ∧ IsSl 7 x fs ∧ IsXs ls fs ∧ VM.R g x yb ∧ ya.oneCell' = true ∧ yb.oneCell' = true := by
  obtain ⟨k, sp, rc, nm, ps, ls, x1, es1, x2, es2, rfl, rfl, hx1, hs1, hx2, hs2⟩ := isX_open h
  obtain ⟨y0, y1, y2, y3, y4, y5, y6, rfl, r0, r1, r2, r3, r4, r5, r6⟩ := agg7 hr
  simp only [VM.R] at r0 r1 r2 r3 r4
  subst r0; subst r1; subst r2; subst r3; subst r4
  have o5 : y5.oneCell' = true := by obtain ⟨a5, c5, e5, _, _⟩ := slv hx1 r5; rw [e5]; rfl
  have o6 : y6.oneCell' = true := by obtain ⟨a5, c5, e5, _, _⟩ := slv hx2 r6; rw [e5]; rfl
  exact ⟨k, sp.1, sp.2, rc, ⟨nm.toArray⟩, y5, y6, ls, x2, es2, rfl, ⟨k, sp, rc, nm, ps, rfl⟩, hx2, hs2, r6, o5, o6⟩
/-- All values that are visited are expressions' ones. -/
def AllX (g : Gh) (L : List Value) : Prop := ∀ y ∈ L, ∃ e v, IsX e v ∧ VM.R g v y
theorem AllX.append {g : Gh} {L M : List Value} (h : AllX g L) (k : AllX g M) : AllX g (L ++ M) := fun y hy => by
  rcases List.mem_append.1 hy with q | q
  · exact h y q
  · exact k y q
theorem pre_X (g : Gh) : ∀ (n : Nat), (∀ e : Exr, SizeOf.sizeOf e < n → ∀ v y, IsX e v → VM.R g v y → AllX g (pre g e y)) ∧ (∀ l : List Exr, SizeOf.sizeOf l < n → ∀ (l0 : List Exr) (x : AV) (fs : List AV) (z : Value) (i : Nat), IsSl 7 x fs → IsXs l0 fs → VM.R g x z → l0.drop i = l → AllX g (pres g l z i)) := by
  intro n
  induction n with
  | zero => exact ⟨fun _ h => by omega, fun _ h => by omega⟩
  | succ n ih =>
    constructor
    · intro p h v y hv hy
      obtain ⟨k, a, b, rc, nm, ya, yb, ls, x, fs, rfl, ⟨k', sp, rc', nm', ps, rfl⟩, hx, hs, hr, _, _⟩ := xval hv hy
      simp only [Exr.mk.sizeOf_spec] at h
      simp only [pre]
      intro u hu
      rcases List.mem_cons.1 hu with rfl | q
      · exact ⟨_, v, hv, hy⟩
      · exact ih.2 ls (by omega) ls x fs yb 0 hx hs hr rfl u q
    · intro l h l0 x fs z i hx hs hr hd
      cases l with
      | nil => intro u hu; simp [pres] at hu
      | cons p l =>
        simp only [List.cons.sizeOf_spec] at h
        obtain ⟨h1, h2, h3⟩ := drop_cons hd
        obtain ⟨blk, o, cap, v, k, a, b, rc, nm, ya, yb, _, hX, hk, hR, _⟩ := ekid hx hs hr h3
        have he : l0[i] = p := by rw [List.getElem?_eq_getElem h3] at h1; cases h1; rfl
        rw [he] at hX
        simp only [pres]
        refine AllX.append (ih.1 p (by omega) v _ hX (by rw [hk]; exact hR)) (ih.2 l (by omega) l0 x fs z (i + 1) hx hs hr h2)
theorem pre_allX {g : Gh} {e : Exr} {v : AV} {y : Value} (h : IsX e v) (hr : VM.R g v y) : AllX g (pre g e y) := (pre_X g _).1 e (Nat.lt_succ_self _) v y h hr
def cellsL (l : List Value) : List Value := l.flatMap fun y => match y with | .agg a => a.toList | _ => []
theorem cellsL_append (l m : List Value) : cellsL (l ++ m) = cellsL l ++ cellsL m := by simp [cellsL]
end Go.Proofs.YtmnpladggilgbaaGreatDoor.Vm
/- The examples run. -/
namespace Go.Proofs.YtmnpladggilgbaaGreatDoor.Vm
open Go Go.VM Go.Proofs
theorem awake_run : (caller vE 3000).bare 5 [] = .ok (.bool true) := by kernel_rfl
end Go.Proofs.YtmnpladggilgbaaGreatDoor.Vm
