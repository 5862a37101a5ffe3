/-
  A part of the proof.
-/
import Derived.Test.YtlfilkniobkbiaaDoorVmCB
import Derived.Test.YtlfilkniobkbiaaDoorVmBI
import Derived.Test.YtlfilkniobkbiaaDoorVmBF
import Derived.Test.YtlfilkniobkbiaaDoorVmBG
import Derived.Test.YtlfilkniobkbiaaDoorVmBH
import Derived.Test.YtlfilkniobkbiaaDoorVmCA
import Derived.Test.YtlfilkniobkbiaaDoorRows
set_option maxRecDepth 1000000
set_option maxHeartbeats 0
set_option linter.unusedSimpArgs false
namespace Go.Proofs.YtlfilkniobkbiaaDoor.Vm
open Go Go.VM Go.Proofs
noncomputable def vT : TT := Tr.of 8 (tiOf Tryd.prog)
theorem vT_ok : TOk Tryd.prog vT := tt_ok (d := 8) rfl
def vFl : List Nat := [3, 6, 8, 9, 10, 11, 12, 13, 15, 16, 17, 18, 19, 21, 22, 23, 24, 25, 26, 27, 28, 29, 31, 32, 33, 34, 35, 37, 38, 39, 40, 41, 42, 43, 44, 45, 46, 49, 50, 51, 53, 54, 55, 56, 57, 58, 65, 66, 67, 78]
noncomputable def vF : Tr Func := Tr.of 7 (fnsOf Tryd.prog vFl)
theorem vF_ok : ∀ f fn, vF.get f = some fn → FnOk Tryd.prog f fn := fns_ok (by kernel_rfl)
noncomputable def vP : List (Nat × Prim) := [(47, (.lib libItoa)), (52, (.lib libJoin)), (59, (.lib libTrim))]
noncomputable def vG : Tr (List AV) := (.node none (.node none (.node none .leaf .leaf) (.node none .leaf .leaf)) (.node none (.node none .leaf .leaf) .leaf))
noncomputable def vI : List (Nat × List Nat) := [(3, [24]), (6, [24]), (8, [24]), (10, [24]), (11, [24]), (12, [24]), (13, [24]), (16, [24]), (17, [24]), (18, [24]), (19, [24]), (21, [24]), (23, [24]), (24, [45]), (26, [24]), (27, [24]), (28, [24]), (31, [24]), (32, [24]), (33, [24]), (34, [24, 56]), (35, [24]), (42, [24]), (43, [24]), (45, [24]), (49, [24]), (55, [24]), (57, [24]), (65, [24])]
noncomputable def vfull : List Nat := [15, 19]
noncomputable def vlook : List Nat := [54]
theorem prim47 : OnePrim Tryd.prog vT (fun b => vG.get b) 47 (.lib libItoa) := itoa_prim Tryd.call47 fun i w h => Tryd.strconv_Itoa_small i h w
theorem prim52 : OnePrim Tryd.prog vT (fun b => vG.get b) 52 (.lib libJoin) := join_prim Tryd.call52 (fun a c s w => Tryd.strings_Join_none a c s w) fun b o c xs s w h1 h2 h3 h4 h5 => Tryd.strings_Join b o c xs s w h1 h2 h3 h4 h5
theorem prim59 : OnePrim Tryd.prog vT (fun b => vG.get b) 59 (.lib libTrim) := trim_prim Tryd.call59 fun s c w h1 h2 h3 => Tryd.strings_Trim s c w h1 h2 h3
theorem vP_ok : AllP (fun f q => OnePrim Tryd.prog vT (fun b => vG.get b) f q) vP := ⟨prim47, prim52, prim59, trivial⟩
noncomputable def vE : Env where
  T := vT
  F i := vF.get i
  prim i := lookP vP i
  full i := vfull.any fun j => i.beq j
  isLook i := vlook.any fun j => i.beq j
  imm f t := match lookP vI f with
    | some l => l.any fun j => t.beq j
    | none => false
  G b := vG.get b
  memo _ := []
theorem vE_ok : EnvOk Tryd.prog vE := ⟨vT_ok, fun f fn h => vF_ok f fn h, primOk_of fun f q h => lookP_all vP_ok f q h, by kernel_rfl, (fun _ _ h => by cases h), fun _ r _ _ h _ => absurd (show (none : Option (List AV → Option AV)) = some r from h) (by simp), fun _ r _ _ _ _ h => absurd (show (none : Option (List AV → St → Res (AV × St))) = some r from h) (by simp)⟩
/-- rostrum/rostrumlaw16.TyShows -/
noncomputable def g3 : AV → Option AV := fun x0 => unA x0 fun l1 => unc l1 fun v2 l3 => asS v2 fun l4 => unc l3 fun v5 l6 => un0 l6 (asOne v5 (fit1 v5 fun v7 => callS (orc vE) 8 [AV.agg [AV.str l4, v7], AV.int .i64
 3000] (St.mk 0 0 Tr.leaf) fun v9 st10 _x => asI .i64 v9 fun n12 => ifB (decide (n12 ≥ 3000)) (callS (orc vE) 9 [] st10 fun v13 _x _x_1 => asB v13 fun b16 => some (AV.bool b16)) (bindO (callS (orc vE) 10 [AV.agg [AV.str
 l4, v7]] st10 fun v18 st19 x20 => asB v18 fun b21 => chk (apart x20 (Fx.mk [] Did.kept) && true) (callS (orc vE) 11 [AV.agg [AV.str l4, v7]] st19 fun v23 st24 _x => asB v23 fun b26 => ifB (b21 == b26) (callS (orc vE) 12
 [AV.agg [AV.str l4, v7]] st24 fun v28 st29 x30 => asS v28 fun l31 => chk (apart x30 (Fx.mk [] Did.kept) && true) (callS (orc vE) 13 [AV.agg [AV.str l4, v7]] st29 fun v33 st34 _x => asS v33 fun l36 => ifB (l31 == l36)
 (callS (orc vE) 9 [] st34 fun v37 st38 _x => asB v37 fun b40 => some ([AV.bool b40], st38)) (some ([AV.bool false], st34)))) (some ([AV.bool false], st24)))) fun c41 => unc (Prod.fst c41) fun v42 l43 => asB v42 fun b44
 => un0 l43 (some (AV.bool b44)))))
/-- rostrum/rostrumref16.Parts -/
noncomputable def g8_L1 (n7 : Int) (v8 : AV) : Car → Option (Car ⊕ Nat × Car) := fun c9 => unc (Prod.fst c9) fun v10 l11 => asI .i64 v10 fun n12 => unc l11 fun v13 l14 => asI .i64 v13 fun n15 => un0 l14 (bindO (lenS v8
 fun k16 => ifB (decide (n15 < (↑k16 : Int))) (some ([AV.bool (decide (n12 < n7))], Prod.snd c9)) (some ([AV.bool false], Prod.snd c9))) fun c17 => unc (Prod.fst c17) fun v18 l19 => asB v18 fun b20 => un0 l19 (ifB b20
 (idxA 2 v8 n15 (Prod.snd c17) fun v21 _x => loadS 2 true v21 (Prod.snd c17) fun v23 _x => unA v23 fun l26 => unc l26 fun v27 l28 => asS v27 fun l29 => unc l28 fun v30 l31 => un0 l31 (letV (IntKind.wrap .i64 (n7 - n12))
 fun n32 => callS (orc vE) 8 [AV.agg [AV.str l29, v30], AV.int .i64 n32] (Prod.snd c17) fun v33 st34 _x => asI .i64 v33 fun n36 => letV (IntKind.wrap .i64 (n12 + n36)) fun n37 => letV (IntKind.wrap .i64 (n15 + 1)) fun
 n38 => some (Sum.inl ([AV.int .i64 n37, AV.int .i64 n38], st34)))) (some (Sum.inr (0, [AV.int .i64 n12], Prod.snd c17)))))
noncomputable def g8 : AV → AV → Option AV := fun x0 x1 => unA x0 fun l1 => unc l1 fun v2 l3 => asS v2 fun _x => unc l3 fun v5 l6 => un0 l6 (asI .i64 x1 fun n7 => asOne v5 (fit1 v5 fun v8 => bindO (loopO (g8_L1 n7 v8)
 ([AV.int .i64 1, AV.int .i64 0], St.mk 0 0 Tr.leaf)) fun c39 => unc (Prod.fst (Prod.snd c39)) fun v40 l41 => asI .i64 v40 fun n42 => un0 l41 (some (AV.int .i64 n42))))
theorem g8_eq (x0 x1 : AV) : bareS vE 8 [x0, x1] = g8 x0 x1 := by kernel_rfl
/-- rostrum/ty.May -/
noncomputable def g10 : AV → Option AV := fun x0 => unA x0 fun l1 => unc l1 fun v2 l3 => asS v2 fun l4 => unc l3 fun v5 l6 => un0 l6 (asOne v5 (fit1 v5 fun v7 => callS (orc vE) 31 [AV.agg [AV.str l4, v7], AV.int .i64
 512] (St.mk 0 0 Tr.leaf) fun v9 _x _x_1 => unT v9 fun l12 => nthS l12 0 fun v13 => asB v13 fun b14 => unT v9 fun l15 => nthS l15 1 fun v16 => asI .i64 v16 fun _x => some (AV.bool b14)))
theorem g10_eq (x0 : AV) : bareS vE 10 [x0] = g10 x0 := by kernel_rfl
/-- rostrum/ty.Show -/
noncomputable def g12 : AV → Option AV := fun x0 => unA x0 fun l1 => unc l1 fun v2 l3 => asS v2 fun l4 => unc l3 fun v5 l6 => un0 l6 (asOne v5 (fit1 v5 fun v7 => callS (orc vE) 10 [AV.agg [AV.str l4, v7]] (St.mk 0 0
 Tr.leaf) fun v9 st10 _x => asB v9 fun b12 => ifB (!b12) (some (AV.str [])) (callS (orc vE) 33 [AV.agg [AV.str l4, v7]] st10 fun v14 st15 x16 => asOne v14 (chk (apart x16 (Fx.mk [] Did.kept) && true) (callS (orc vE) 34
 [AV.agg [v14], AV.agg [AV.str l4, v7], AV.int .i64 0] st15 fun v19 _x _x_1 => asS v19 fun l22 => some (AV.str l22))))))
theorem g12_eq (x0 : AV) : bareS vE 12 [x0] = g12 x0 := by kernel_rfl
/-- rostrum/ty.form -/
noncomputable def g31_L1 (v8 : AV) (k9 : Nat) : Car → Option (Car ⊕ Nat × Car) := fun c51 => unc (Prod.fst c51) fun v52 l53 => asB v52 fun b54 => unc l53 fun v55 l56 => asI .i64 v55 fun n57 => unc l56 fun v58 l59 => asI
 .i64 v58 fun n60 => un0 l59 (bindO (ifB (decide (n60 < (↑k9 : Int))) (ifB b54 (some ([AV.bool (decide (n57 ≥ 0))], Prod.snd c51)) (some ([AV.bool false], Prod.snd c51))) (some ([AV.bool false], Prod.snd c51))) fun c61
 => unc (Prod.fst c61) fun v62 l63 => asB v62 fun b64 => un0 l63 (ifB b64 (idxA 2 v8 n60 (Prod.snd c61) fun v65 _x => loadS 2 true v65 (Prod.snd c61) fun v67 _x => unA v67 fun l70 => unc l70 fun v71 l72 => asS v71 fun
 l73 => unc l72 fun v74 l75 => un0 l75 (callS (orc vE) 31 [AV.agg [AV.str l73, v74], AV.int .i64 n57] (Prod.snd c61) fun v76 st77 _x => unT v76 fun l79 => nthS l79 0 fun v80 => asB v80 fun b81 => unT v76 fun l82 => nthS
 l82 1 fun v83 => asI .i64 v83 fun n84 => letV (IntKind.wrap .i64 (n60 + 1)) fun n85 => some (Sum.inl ([AV.bool b81, AV.int .i64 n84, AV.int .i64 n85], st77)))) (some (Sum.inr (0, [AV.bool b54, AV.int .i64 n57], Prod.snd
 c61)))))
noncomputable def g31 : AV → AV → Option AV := fun x0 x1 => unA x0 fun l1 => unc l1 fun v2 l3 => asS v2 fun l4 => unc l3 fun v5 l6 => un0 l6 (asI .i64 x1 fun n7 => asOne v5 (fit1 v5 fun v8 => lenS v8 fun k9 => bindO
 (ifB (l4 == [105, 110, 116]) (some ([AV.bool (l4 == [105, 110, 116])], St.mk 0 0 Tr.leaf)) (bindO (ifB (l4 == [102, 108, 111, 97, 116]) (some ([AV.bool (l4 == [102, 108, 111, 97, 116])], St.mk 0 0 Tr.leaf)) (bindO (ifB
 (l4 == [98, 111, 111, 108]) (some ([AV.bool (l4 == [98, 111, 111, 108])], St.mk 0 0 Tr.leaf)) (bindO (ifB (l4 == [115, 116, 114, 105, 110, 103]) (some ([AV.bool (l4 == [115, 116, 114, 105, 110, 103])], St.mk 0 0
 Tr.leaf)) (some ([AV.bool (l4 == [117, 110, 105, 116])], St.mk 0 0 Tr.leaf))) fun c10 => unc (Prod.fst c10) fun v11 l12 => asB v11 fun b13 => un0 l12 (some ([AV.bool b13], Prod.snd c10)))) fun c14 => unc (Prod.fst c14)
 fun v15 l16 => asB v15 fun b17 => un0 l16 (some ([AV.bool b17], Prod.snd c14)))) fun c18 => unc (Prod.fst c18) fun v19 l20 => asB v19 fun b21 => un0 l20 (some ([AV.bool b21], Prod.snd c18)))) fun c22 => unc (Prod.fst
 c22) fun v23 l24 => asB v23 fun b25 => un0 l24 (bindO (ifB b25 (some ([AV.bool ((↑k9 : Int) == 0)], Prod.snd c22)) (bindO (ifB (l4 == [45, 62]) (some ([AV.bool ((↑k9 : Int) == 2)], Prod.snd c22)) (bindO (ifB (l4 ==
 [116, 117, 112, 108, 101]) (some ([AV.bool (decide ((↑k9 : Int) ≥ 2))], Prod.snd c22)) (bindO (ifB (l4 == [108, 105, 115, 116]) (some ([AV.bool ((↑k9 : Int) == 1)], Prod.snd c22)) (bindO (ifB ((↑k9 : Int) == 0) (callS
 (orc vE) 46 [AV.str l4] (Prod.snd c22) fun v26 st27 _x => asB v26 fun b29 => some ([AV.bool b29], st27)) (some ([AV.bool false], Prod.snd c22))) fun c30 => unc (Prod.fst c30) fun v31 l32 => asB v31 fun b33 => un0 l32
 (some ([AV.bool b33], Prod.snd c30)))) fun c34 => unc (Prod.fst c34) fun v35 l36 => asB v35 fun b37 => un0 l36 (some ([AV.bool b37], Prod.snd c34)))) fun c38 => unc (Prod.fst c38) fun v39 l40 => asB v39 fun b41 => un0
 l40 (some ([AV.bool b41], Prod.snd c38)))) fun c42 => unc (Prod.fst c42) fun v43 l44 => asB v43 fun b45 => un0 l44 (some ([AV.bool b45], Prod.snd c42)))) fun c46 => unc (Prod.fst c46) fun v47 l48 => asB v47 fun b49 =>
 un0 l48 (letV (IntKind.wrap .i64 (n7 - 1)) fun n50 => bindO (loopO (g31_L1 v8 k9) ([AV.bool b49, AV.int .i64 n50, AV.int .i64 0], Prod.snd c46)) fun c86 => unc (Prod.fst (Prod.snd c86)) fun v87 l88 => asB v87 fun b89 =>
 unc l88 fun v90 l91 => asI .i64 v90 fun n92 => un0 l91 (bindO (ifB b89 (some ([AV.bool (decide (n92 ≥ 0)), AV.int .i64 n92], Prod.snd (Prod.snd c86))) (some ([AV.bool false, AV.int .i64 n92], Prod.snd (Prod.snd c86))))
 fun c93 => unc (Prod.fst c93) fun v94 l95 => asB v94 fun b96 => unc l95 fun v97 l98 => asI .i64 v97 fun n99 => un0 l98 (some (AV.tup [AV.bool b96, AV.int .i64 n99])))))))
theorem g31_eq (x0 x1 : AV) : bareS vE 31 [x0, x1] = g31 x0 x1 := by kernel_rfl
/-- rostrum/ty.vars -/
noncomputable def g33 : AV → Option AV := fun x0 => unA x0 fun l1 => unc l1 fun v2 l3 => asS v2 fun l4 => unc l3 fun v5 l6 => un0 l6 (asOne v5 (fit1 v5 fun v7 => callS (orc vE) 49 [AV.agg [AV.str l4, v7], AV.mp 0 0,
 AV.mp 1 0] (St.mk 2 0 (Tr.node (some (VM.Obj.cells 38 [AV.nils])) (Tr.node (some (VM.Obj.cells 78 [AV.fn (Fn.func 49) [] [AV.mp 0 0, AV.mp 1 0]])) Tr.leaf Tr.leaf) Tr.leaf)) fun _x st10 _x_1 => loadS 1 false (AV.mp 0 0)
 st10 fun v12 _x => frzS st10 0 (oneOf [v12]) fun v14 => some v14))
theorem g33_eq (x0 : AV) : bareS vE 33 [x0] = g33 x0 := by kernel_rfl
/-- (rostrum/ty.shower).text -/
noncomputable def g34_L1 (v12 : AV) (v13 : AV) (k71 : Nat) : Car → Option (Car ⊕ Nat × Car) := fun c72 => unc (Prod.fst c72) fun v73 l74 => unc l74 fun v75 l76 => asI .i64 v75 fun n77 => un0 l76 (ifB (decide (n77 <
 (↑k71 : Int))) (idxA 2 v13 n77 (Prod.snd c72) fun v78 _x => loadS 2 true v78 (Prod.snd c72) fun v80 _x => unA v80 fun l83 => unc l83 fun v84 l85 => asS v84 fun l86 => unc l85 fun v87 l88 => un0 l88 (letSt (St.add
 (Prod.snd c72) (VM.Obj.cells 24 [AV.str [], AV.nils])) fun st89 => asOne v87 (storeS (orc vE) 2 (AV.mp (St.h (Prod.snd c72)) 0) (AV.agg [AV.str l86, v87]) [AV.str l86, v87] st89 fun _x st91 _x_1 => loadS 2 true (AV.mp
 (St.h (Prod.snd c72)) 0) st91 fun v94 _x => unA v94 fun l97 => unc l97 fun v98 l99 => asS v98 fun l100 => unc l99 fun v101 l102 => un0 l102 (callS (orc vE) 34 [AV.agg [v12], AV.agg [AV.str l100, v101], AV.int .i64 2]
 st91 fun v103 st104 _x => asS v103 fun l106 => appS 1 16 9 v73 [AV.str l106] st104 fun v107 st108 _x => letV (IntKind.wrap .i64 (n77 + 1)) fun n110 => some (Sum.inl ([v107, AV.int .i64 n110], st108)))))) (some (Sum.inr
 (0, [v73], Prod.snd c72))))
noncomputable def g34 : AV → AV → AV → Option AV := fun x0 x1 x2 => unA x0 fun l1 => unc l1 fun v2 l3 => un0 l3 (unA x1 fun l5 => unc l5 fun v6 l7 => asS v6 fun l8 => unc l7 fun v9 l10 => un0 l10 (asI .i64 x2 fun n11 =>
 asOne v2 (fit1 v2 fun v12 => asOne v9 (fit1 v9 fun v13 => callS (orc vE) 51 [v12, AV.str l8] (St.mk 0 0 Tr.leaf) fun v14 st15 _x => asI .i64 v14 fun n17 => ifB (decide (n17 ≥ 0)) (letV (Int.tmod n17 26) fun n18 => letV
 (IntKind.wrap .i64 (97 + n18)) fun n19 => letV (IntKind.wrap .i32 n19) fun n20 => planS (orc vE) (convertP (Env.T vE) 21 9 (AV.int .i32 n20)) st15 fun v21 st22 _x => asS v21 fun l24 => letV l24 fun l25 => chk (Nat.ble
 (1 + List.length l25) 9223372036854775807) (letV (39 :: l25) fun l26 => bindO (ifB (decide (n17 ≥ 26)) (letV (IntKind.wrap .i64 (Int.tdiv n17 26)) fun n27 => planS (orc vE) (primP (Prim.lib libItoa) [AV.int .i64 n27])
 st22 fun v28 st29 _x => asS v28 fun l31 => chk (Nat.ble (List.length l26 + List.length l31) 9223372036854775807) (letV (l26 ++ l31) fun l32 => some ([AV.str l32], st29))) (some ([AV.str l26], st22))) fun c33 => unc
 (Prod.fst c33) fun v34 l35 => asS v34 fun l36 => un0 l35 (some (AV.str l36)))) (bindO (ifB (l8 == [45, 62]) (idxA 2 v13 0 st15 fun v38 _x => loadS 2 true v38 st15 fun v40 _x => unA v40 fun l43 => unc l43 fun v44 l45 =>
 asS v44 fun l46 => unc l45 fun v47 l48 => un0 l48 (callS (orc vE) 34 [AV.agg [v12], AV.agg [AV.str l46, v47], AV.int .i64 1] st15 fun v49 st50 x51 => asS v49 fun l52 => chk (Nat.ble (Nat.succ (Nat.succ (Nat.succ
 ((List.length l52 + 1))))) 9223372036854775807) (letV (l52 ++ [32, 45, 62, 32]) fun l53 => chk (apart x51 (Fx.mk [] Did.kept) && true) (chk (apart x51 (Fx.mk [] Did.kept) && true) (chk (apart x51 (Fx.mk [] Did.kept) &&
 true) (idxA 2 v13 1 st50 fun v55 l56 => chk (apart x51 (Fx.mk l56 Did.kept) && true) (loadS 2 true v55 st50 fun v57 l58 => unA v57 fun l60 => unc l60 fun v61 l62 => asS v61 fun l63 => unc l62 fun v64 l65 => un0 l65 (chk
 (apart x51 (Fx.mk l58 Did.kept) && true) (callS (orc vE) 34 [AV.agg [v12], AV.agg [AV.str l63, v64], AV.int .i64 0] st50 fun v66 st67 x68 => asS v66 fun l69 => chk (apart (Fx.mk [] Did.kept) x68 && true) (chk (Nat.ble
 (List.length l53 + List.length l69) 9223372036854775807) (letV (l53 ++ l69) fun l70 => some ([AV.int .i64 0, AV.str l70], st67)))))))))))) (bindO (ifB (l8 == [116, 117, 112, 108, 101]) (lenS v13 fun k71 => bindO (loopO
 (g34_L1 v12 v13 k71) ([AV.nils, AV.int .i64 0], st15)) fun c111 => unc (Prod.fst (Prod.snd c111)) fun v112 l113 => un0 l113 (planS (orc vE) (primP (Prim.lib libJoin) [v112, AV.str [32, 42, 32]]) (Prod.snd (Prod.snd
 c111)) fun v114 st115 _x => asS v114 fun l117 => some ([AV.int .i64 1, AV.str l117], st115))) (bindO (ifB (l8 == [108, 105, 115, 116]) (idxA 2 v13 0 st15 fun v119 _x => loadS 2 true v119 st15 fun v121 _x => unA v121 fun
 l124 => unc l124 fun v125 l126 => asS v125 fun l127 => unc l126 fun v128 l129 => un0 l129 (callS (orc vE) 34 [AV.agg [v12], AV.agg [AV.str l127, v128], AV.int .i64 2] st15 fun v130 st131 _x => asS v130 fun l133 => chk
 (Nat.ble (Nat.succ (Nat.succ (Nat.succ (Nat.succ ((List.length l133 + 1)))))) 9223372036854775807) (letV (l133 ++ [32, 108, 105, 115, 116]) fun l134 => some ([AV.str l134], st131)))) (some ([AV.str l8], st15))) fun c135
 => unc (Prod.fst c135) fun v136 l137 => asS v136 fun l138 => un0 l137 (some ([AV.int .i64 2, AV.str l138], Prod.snd c135)))) fun c139 => unc (Prod.fst c139) fun v140 l141 => asI .i64 v140 fun n142 => unc l141 fun v143
 l144 => asS v143 fun l145 => un0 l144 (some ([AV.int .i64 n142, AV.str l145], Prod.snd c139)))) fun c146 => unc (Prod.fst c146) fun v147 l148 => asI .i64 v147 fun n149 => unc l148 fun v150 l151 => asS v150 fun l152 =>
 un0 l151 (ifB (decide (n149 < n11)) (chk (Nat.ble (1 + List.length l152) 9223372036854775807) (letV (40 :: l152) fun l153 => chk (Nat.ble ((List.length l153 + 1)) 9223372036854775807) (letV (l153 ++ [41]) fun l154 =>
 some (AV.str l154)))) (some (AV.str l152))))))))
theorem g34_eq (x0 x1 x2 : AV) : bareS vE 34 [x0, x1, x2] = g34 x0 x1 x2 := by kernel_rfl
/-- rostrum/rostrumref16.Var -/
noncomputable def g39_L1 (l0 : List UInt8) : Car → Option (Car ⊕ Nat × Car) := fun c6 => unc (Prod.fst c6) fun v7 l8 => asB v7 fun b9 => unc l8 fun v10 l11 => asI .i64 v10 fun n12 => un0 l11 (ifB (decide (n12 <
 (↑(List.length l0) : Int))) (bindO (idxStr l0 n12 fun c13 => ifB (decide ((↑(UInt8.toNat c13) : Int) ≥ 97)) (idxStr l0 n12 fun c14 => ifB (!decide ((↑(UInt8.toNat c14) : Int) ≤ 122)) (idxStr l0 n12 fun c15 => ifB
 (decide ((↑(UInt8.toNat c15) : Int) ≥ 48)) (idxStr l0 n12 fun c16 => some ([AV.bool !decide ((↑(UInt8.toNat c16) : Int) ≤ 57)], Prod.snd c6)) (some ([AV.bool true], Prod.snd c6))) (some ([AV.bool false], Prod.snd c6)))
 (idxStr l0 n12 fun c17 => ifB (decide ((↑(UInt8.toNat c17) : Int) ≥ 48)) (idxStr l0 n12 fun c18 => some ([AV.bool !decide ((↑(UInt8.toNat c18) : Int) ≤ 57)], Prod.snd c6)) (some ([AV.bool true], Prod.snd c6)))) fun c19
 => unc (Prod.fst c19) fun v20 l21 => asB v20 fun b22 => un0 l21 (ifB b22 (some (Sum.inr (1, [AV.bool false], Prod.snd c19))) (letV (IntKind.wrap .i64 (n12 + 1)) fun n23 => some (Sum.inl ([AV.bool b9, AV.int .i64 n23],
 Prod.snd c19))))) (some (Sum.inr (0, [AV.bool b9], Prod.snd c6))))
noncomputable def g39 : AV → Option AV := fun x0 => asS x0 fun l0 => bindO (ifB (decide ((↑(List.length l0) : Int) < 2)) (some ([AV.bool true], St.mk 0 0 Tr.leaf)) (ifB (decide ((↑(List.length l0) : Int) > 65)) (some
 ([AV.bool true], St.mk 0 0 Tr.leaf)) (idxStr l0 0 fun c1 => some ([AV.bool ((↑(UInt8.toNat c1) : Int) != 39)], St.mk 0 0 Tr.leaf)))) fun c2 => unc (Prod.fst c2) fun v3 l4 => asB v3 fun b5 => un0 l4 (ifB b5 (some
 (AV.bool false)) (bindO (loopO (g39_L1 l0) ([AV.bool false, AV.int .i64 1], Prod.snd c2)) fun c24 => unc (Prod.fst (Prod.snd c24)) fun v25 l26 => asB v25 fun b27 => un0 l26 (sel2 (Prod.fst c24) (some (AV.bool true)) fun
 _x => some (AV.bool b27))))
theorem g39_eq (x0 : AV) : bareS vE 39 [x0] = g39 x0 := by kernel_rfl
/-- rostrum/rostrumref16.Digits -/
noncomputable def g40 : AV → Option AV := fun x0 => asI .i64 x0 fun n0 => ifB (decide (n0 < 10)) (letV (IntKind.wrap .i64 (48 + n0)) fun n1 => letV (IntKind.wrap .u8 n1) fun n2 => letV [UInt8.ofNat (Int.toNat n2)] fun
 l3 => some (AV.str l3)) (letV (IntKind.wrap .i64 (Int.tdiv n0 10)) fun n4 => callS (orc vE) 40 [AV.int .i64 n4] (St.mk 0 0 Tr.leaf) fun v5 _x x7 => asS v5 fun l8 => chk (apart x7 (Fx.mk [] Did.kept) && true) (letV
 (Int.tmod n0 10) fun n9 => chk (apart x7 (Fx.mk [] Did.kept) && true) (letV (IntKind.wrap .i64 (48 + n9)) fun n10 => chk (apart x7 (Fx.mk [] Did.kept) && true) (letV (IntKind.wrap .u8 n10) fun n11 => chk (apart x7
 (Fx.mk [] Did.kept) && true) (chk (apart x7 (Fx.mk [] Did.kept) && true) (letV [UInt8.ofNat (Int.toNat n11)] fun l12 => chk (apart x7 (Fx.mk [] Did.kept) && true) (chk (Nat.ble (List.length l8 + List.length l12)
 9223372036854775807) (letV (l8 ++ l12) fun l13 => some (AV.str l13)))))))))
theorem g40_eq (x0 : AV) : bareS vE 40 [x0] = g40 x0 := by kernel_rfl
/-- rostrum/ty.variable -/
noncomputable def g46 : AV → Option AV := fun x0 => asS x0 fun l0 => callS (orc vE) 58 [AV.str l0, AV.str [39]] (St.mk 0 0 Tr.leaf) fun v1 st2 _x => unT v1 fun l4 => nthS l4 0 fun v5 => asS v5 fun l6 => unT v1 fun l7 =>
 nthS l7 1 fun v8 => asB v8 fun b9 => bindO (ifB b9 (ifB (!l6 == []) (ifB (decide ((↑(List.length l6) : Int) ≤ 64)) (planS (orc vE) (primP (Prim.lib libTrim) [AV.str l6, AV.str [97, 98, 99, 100, 101, 102, 103, 104, 105,
 106, 107, 108, 109, 110, 111, 112, 113, 114, 115, 116, 117, 118, 119, 120, 121, 122, 48, 49, 50, 51, 52, 53, 54, 55, 56, 57]]) st2 fun v10 st11 _x => asS v10 fun l13 => some ([AV.bool (l13 == [])], st11)) (some
 ([AV.bool false], st2))) (some ([AV.bool false], st2))) (some ([AV.bool false], st2))) fun c14 => unc (Prod.fst c14) fun v15 l16 => asB v15 fun b17 => un0 l16 (some (AV.bool b17))
theorem g46_eq (x0 : AV) : bareS vE 46 [x0] = g46 x0 := by kernel_rfl
/-- slices.Contains[[]string,string] -/
noncomputable def g50 : AV → AV → Option AV := fun x0 x1 => asS x1 fun l0 => callS (orc vE) 51 [x0, AV.str l0] (St.mk 0 0 Tr.leaf) fun v1 _x _x_1 => asI .i64 v1 fun n4 => some (AV.bool (decide (n4 ≥ 0)))
theorem g50_eq (x0 x1 : AV) : bareS vE 50 [x0, x1] = g50 x0 x1 := by kernel_rfl
/-- slices.Index[[]string,string] -/
noncomputable def g51_L1 (x0 : AV) (l0 : List UInt8) (k1 : Nat) : Car → Option (Car ⊕ Nat × Car) := fun c2 => unc (Prod.fst c2) fun v3 l4 => asI .i64 v3 fun n5 => unc l4 fun v6 l7 => asI .i64 v6 fun n8 => un0 l7 (ifB
 (decide (n8 < (↑k1 : Int))) (idxA 1 x0 n8 (Prod.snd c2) fun v9 _x => loadS 1 false v9 (Prod.snd c2) fun v11 _x => asS v11 fun l13 => ifB (l0 == l13) (some (Sum.inr (1, [AV.int .i64 n8], Prod.snd c2))) (letV
 (IntKind.wrap .i64 (n8 + 1)) fun n14 => some (Sum.inl ([AV.int .i64 n5, AV.int .i64 n14], Prod.snd c2)))) (some (Sum.inr (0, [AV.int .i64 n5], Prod.snd c2))))
noncomputable def g51 : AV → AV → Option AV := fun x0 x1 => asS x1 fun l0 => lenS x0 fun k1 => bindO (loopO (g51_L1 x0 l0 k1) ([AV.int .i64 0, AV.int .i64 0], St.mk 0 0 Tr.leaf)) fun c15 => unc (Prod.fst (Prod.snd c15))
 fun v16 l17 => asI .i64 v16 fun n18 => un0 l17 (sel2 (Prod.fst c15) (some (AV.int .i64 (-1))) fun _x => some (AV.int .i64 n18))
theorem g51_eq (x0 x1 : AV) : bareS vE 51 [x0, x1] = g51 x0 x1 := by kernel_rfl
/-- strings.CutPrefix -/
noncomputable def g58 : AV → AV → Option AV := fun x0 x1 => asS x0 fun l0 => asS x1 fun l1 => callS (orc vE) 67 [AV.str l0, AV.str l1] (St.mk 0 0 Tr.leaf) fun v2 _x _x_1 => unT v2 fun l5 => nthS l5 0 fun v6 => asS v6
 fun l7 => unT v2 fun l8 => nthS l8 1 fun v9 => asB v9 fun b10 => some (AV.tup [AV.str l7, AV.bool b10])
theorem g58_eq (x0 x1 : AV) : bareS vE 58 [x0, x1] = g58 x0 x1 := by kernel_rfl
/-- internal/stringslite.CutPrefix -/
noncomputable def g67 : AV → AV → Option AV := fun x0 x1 => asS x0 fun l0 => asS x1 fun l1 => callS (orc vE) 78 [AV.str l0, AV.str l1] (St.mk 0 0 Tr.leaf) fun v2 _x _x_1 => asB v2 fun b5 => ifB (!b5) (some (AV.tup
 [AV.str l0, AV.bool false])) (chk (Nat.ble (List.length l1) (List.length l0)) (letV (List.drop (List.length l1) (List.take (List.length l0) l0)) fun l6 => some (AV.tup [AV.str l6, AV.bool true])))
theorem g67_eq (x0 x1 : AV) : bareS vE 67 [x0, x1] = g67 x0 x1 := by kernel_rfl
/-- internal/stringslite.HasPrefix -/
noncomputable def g78 : AV → AV → Option AV := fun x0 x1 => asS x0 fun l0 => asS x1 fun l1 => bindO (ifB (decide ((↑(List.length l0) : Int) ≥ (↑(List.length l1) : Int))) (chk (Nat.ble (List.length l1) (List.length l0))
 (letV (List.drop 0 (List.take (List.length l1) l0)) fun l2 => some ([AV.bool (l2 == l1)], St.mk 0 0 Tr.leaf))) (some ([AV.bool false], St.mk 0 0 Tr.leaf))) fun c3 => unc (Prod.fst c3) fun v4 l5 => asB v4 fun b6 => un0
 l5 (some (AV.bool b6))
theorem g78_eq (x0 x1 : AV) : bareS vE 78 [x0, x1] = g78 x0 x1 := by kernel_rfl
/-- rostrum/rostrumref16.Vars -/
noncomputable def w19_L1 (x0 : AV) (l4 : List UInt8) : Car → Option (Car ⊕ Nat × Car) := fun c12 => unc (Prod.fst c12) fun v13 l14 => unc l14 fun v15 l16 => asI .i64 v15 fun n17 => un0 l16 (lenS x0 fun k18 => ifB
 (decide (n17 < (↑k18 : Int))) (idxA 1 x0 n17 (Prod.snd c12) fun v19 _x => loadS 1 false v19 (Prod.snd c12) fun v21 _x => asS v21 fun l23 => ifB (l23 == l4) (some (Sum.inr (1, [x0], Prod.snd c12))) (letV (IntKind.wrap
 .i64 (n17 + 1)) fun n24 => some (Sum.inl ([v13, AV.int .i64 n24], Prod.snd c12)))) (some (Sum.inr (0, [v13], Prod.snd c12))))
noncomputable def w19_L2 (v7 : AV) : Car → Option (Car ⊕ Nat × Car) := fun c32 => unc (Prod.fst c32) fun v33 l34 => unc l34 fun v35 l36 => asI .i64 v35 fun n37 => un0 l36 (lenS v7 fun k38 => ifB (decide (n37 < (↑k38 :
 Int))) (idxA 2 v7 n37 (Prod.snd c32) fun v39 _x => loadS 2 true v39 (Prod.snd c32) fun v41 _x => unA v41 fun l44 => unc l44 fun v45 l46 => asS v45 fun l47 => unc l46 fun v48 l49 => un0 l49 (callS (orc vE) 19 [v33,
 AV.agg [AV.str l47, v48]] (Prod.snd c32) fun v50 st51 _x => letV (IntKind.wrap .i64 (n37 + 1)) fun n53 => some (Sum.inl ([v50, AV.int .i64 n53], st51)))) (some (Sum.inr (0, [v33], Prod.snd c32))))
noncomputable def w19 : AV → AV → St → Option (AV × St) := fun x0 x1 st => unA x1 fun l1 => unc l1 fun v2 l3 => asS v2 fun l4 => unc l3 fun v5 l6 => un0 l6 (asOne v5 (fit1 v5 fun v7 => callS (orc vE) 39 [AV.str l4] st
 fun v8 st9 _x => asB v8 fun b11 => ifB b11 (bindO (loopO (w19_L1 x0 l4) ([AV.nils, AV.int .i64 0], st9)) fun c25 => unc (Prod.fst (Prod.snd c25)) fun v26 l27 => un0 l27 (sel2 (Prod.fst c25) (appS 1 16 9 x0 [AV.str l4]
 (Prod.snd (Prod.snd c25)) fun v28 st29 _x => some (oneOf [v28], st29)) fun _x => some (oneOf [v26], Prod.snd (Prod.snd c25)))) (bindO (loopO (w19_L2 v7) ([x0, AV.int .i64 0], st9)) fun c54 => unc (Prod.fst (Prod.snd
 c54)) fun v55 l56 => un0 l56 (some (oneOf [v55], Prod.snd (Prod.snd c54))))))
theorem w19_eq (x0 x1 : AV) (st : St) : wideS vE 19 [x0, x1] st = w19 x0 x1 st := by kernel_rfl
/-- rostrum/ty.vars$1 -/
noncomputable def w49_L1 (x2 : AV) (v7 : AV) (k31 : Nat) : Car → Option (Car ⊕ Nat × Car) := fun c32 => unc (Prod.fst c32) fun v33 l34 => asI .i64 v33 fun n35 => un0 l34 (ifB (decide (n35 < (↑k31 : Int))) (idxA 2 v7 n35
 (Prod.snd c32) fun v36 _x => loadS 2 true v36 (Prod.snd c32) fun v38 _x => unA v38 fun l41 => unc l41 fun v42 l43 => asS v42 fun l44 => unc l43 fun v45 l46 => un0 l46 (letSt (St.add (Prod.snd c32) (VM.Obj.cells 24
 [AV.str [], AV.nils])) fun st47 => asOne v45 (storeS (orc vE) 2 (AV.mp (St.h (Prod.snd c32)) 0) (AV.agg [AV.str l44, v45]) [AV.str l44, v45] st47 fun _x st49 _x_1 => loadS 1 false x2 st49 fun v51 _x => loadS 2 true
 (AV.mp (St.h (Prod.snd c32)) 0) st49 fun v53 _x => unA v53 fun l56 => unc l56 fun v57 l58 => asS v57 fun l59 => unc l58 fun v60 l61 => un0 l61 (callF (orc vE) (Sx.prim (sx vE 49)) v51 [AV.agg [AV.str l59, v60]] st49 fun
 _x st63 _x_2 => letV (IntKind.wrap .i64 (n35 + 1)) fun n65 => some (Sum.inl ([AV.int .i64 n65], st63)))))) (some (Sum.inr (0, [], Prod.snd c32))))
noncomputable def w49 : AV → AV → AV → St → Option (AV × St) := fun x0 x1 x2 st => unA x0 fun l1 => unc l1 fun v2 l3 => asS v2 fun l4 => unc l3 fun v5 l6 => un0 l6 (asOne v5 (fit1 v5 fun v7 => bindO (callS (orc vE) 46
 [AV.str l4] st fun v8 st9 _x => asB v8 fun b11 => ifB b11 (loadS 1 false x1 st9 fun v12 _x => callS (orc vE) 50 [v12, AV.str l4] st9 fun v14 st15 _x => asB v14 fun b17 => some ([AV.bool !b17], st15)) (some ([AV.bool
 false], st9))) fun c18 => unc (Prod.fst c18) fun v19 l20 => asB v19 fun b21 => un0 l20 (bindO (ifB b21 (loadS 1 false x1 (Prod.snd c18) fun v22 _x => appS 1 16 9 v22 [AV.str l4] (Prod.snd c18) fun v24 st25 _x => asOne
 v24 (asOne v24 (storeS (orc vE) 1 x1 v24 [v24] st25 fun _x st28 _x_1 => some ([], st28)))) (some ([], Prod.snd c18))) fun c30 => un0 (Prod.fst c30) (lenS v7 fun k31 => bindO (loopO (w49_L1 x2 v7 k31) ([AV.int .i64 0],
 Prod.snd c30)) fun c66 => un0 (Prod.fst (Prod.snd c66)) (some (AV.tup [], Prod.snd (Prod.snd c66)))))))
theorem w49_eq (x0 x1 x2 : AV) (st : St) : wideS vE 49 [x0, x1, x2] st = w49 x0 x1 x2 st := by kernel_rfl
end Go.Proofs.YtlfilkniobkbiaaDoor.Vm
/- Types in the machine; a variable's name, by the program and by the document. -/
namespace Go.Proofs.YtlfilkniobkbiaaDoor.Vm
open Go Go.VM Go.Proofs Go.Ty
abbrev S0 : St := St.mk 0 0 Tr.leaf
theorem ifB_sel {β : Type} (b x y : Bool) (s : St) (K : Car → Option β) : bindO (ifB b (some ([AV.bool x], s)) (some ([AV.bool y], s))) K = K ([AV.bool (cond b x y)], s) := by cases b <;> rfl
theorem ifB_idem {β : Type} (b : Bool) (x : Option β) : ifB b x x = x := by cases b <;> rfl
mutual
def IsT : Ty → AV → Prop
  | .mk nm l, v => ∃ x es, v = .agg [.str nm, x] ∧ IsSl 2 x es ∧ IsTs l es
def IsTs : List Ty → List AV → Prop
  | [], es => es = []
  | e :: l, es => ∃ v vs, es = v :: vs ∧ IsT e v ∧ IsTs l vs
end
section
variable {t : Ty} {l : List Ty} {es : List AV} {v : AV}
theorem IsTs.nil : IsTs [] [] := by simp only [IsTs]
theorem IsTs.cons {vs : List AV} (h : IsT t v) (k : IsTs l vs) : IsTs (t :: l) (v :: vs) := by simp only [IsTs]; exact ⟨v, vs, rfl, h, k⟩
theorem IsTs.len : ∀ {l : List Ty} {es : List AV}, IsTs l es → es.length = l.length
  | [], _, h => by simp only [IsTs] at h; rw [h]; rfl
  | e :: l, _, h => by
    simp only [IsTs] at h
    obtain ⟨v, vs, rfl, _, h⟩ := h
    simp [IsTs.len h]
theorem IsTs.drop : ∀ {l : List Ty} {es : List AV} (i : Nat), IsTs l es → IsTs (l.drop i) (es.drop i)
  | l, es, 0, h => by simpa using h
  | [], _, i + 1, h => by simp only [IsTs] at h; subst h; simp [IsTs]
  | e :: l, _, i + 1, h => by
    simp only [IsTs] at h
    obtain ⟨v, vs, rfl, _, h⟩ := h
    simpa using IsTs.drop i h
theorem IsTs.get {r : List Ty} {i : Nat} (h : IsTs l es) (hd : l.drop i = t :: r) : ∃ v, es[i]? = some v ∧ IsT t v ∧ i < l.length := by
  have h1 := IsTs.drop i h
  rw [hd] at h1
  simp only [IsTs] at h1
  obtain ⟨v, vs, he, hp, _⟩ := h1
  exact ⟨v, (drop_cons he).1, hp, (drop_cons hd).2.2⟩
theorem isT_open (h : IsT t v) : ∃ nm l x es, t = .mk nm l ∧ v = .agg [.str nm, x] ∧ IsSl 2 x es ∧ IsTs l es := by
  cases t with
  | mk nm l =>
    simp only [IsT] at h
    obtain ⟨x, es, h⟩ := h
    exact ⟨nm, l, x, es, rfl, h⟩
theorem isT_bare (h : IsT t v) : VM.bare v = true ∧ VM.strip v = v := by
  obtain ⟨nm, l, x, es, rfl, rfl, hx, _⟩ := isT_open h
  refine ⟨?_, rfl⟩
  rw [bare_agg]
  simp only [bares_cons, hx.bare]
  rfl
theorem ts_at (h : IsTs l es) {i : Nat} (hi : i < l.length) : ∃ v, es[i]? = some v ∧ IsT l[i] v := by
  obtain ⟨v, h1, h2, _⟩ := h.get (i := i) (List.drop_eq_getElem_cons hi)
  exact ⟨v, h1, h2⟩
end
theorem takeT2 {a b : AV} : takeO 2 true [a, b] = some (.agg [a, b]) := rfl
theorem slenT {z : Nat} {x : AV} {es : List AV} (h : IsSl z x es) : es.length ≤ 9223372036854775807 := h.1
theorem callT1 {F : FuncId} {v r : AV} (hN : VM.bare v = true ∧ VM.strip v = v) (hf : vE.full F = false) (h : (orc vE).bare F [v] = some r) {β : Type} (st : St) (K : Kv β) : callS (orc vE) F [v] st K = K r st q0 :=
  callS_bare st K hf (by simp only [List.map_cons, List.map_nil, hN.2]) (by simp only [bares_cons, hN.1]; rfl) h
theorem callT2 {F : FuncId} {v u r : AV} (hN : VM.bare v = true ∧ VM.strip v = v) (hu : VM.bare u = true ∧ VM.strip u = u) (hf : vE.full F = false) (h : (orc vE).bare F [v, u] = some r) {β : Type} (st : St) (K : Kv β) : callS (orc vE) F [v, u] st K = K r st q0 :=
  callS_bare st K hf (by simp only [List.map_cons, List.map_nil, hN.2, hu.2]) (by simp only [bares_cons, hN.1, hu.1]; rfl) h
theorem callT3 {F : FuncId} {v u y r : AV} (hN : VM.bare v = true ∧ VM.strip v = v) (hu : VM.bare u = true ∧ VM.strip u = u) (hy : VM.bare y = true ∧ VM.strip y = y) (hf : vE.full F = false) (h : (orc vE).bare F [v, u, y] = some r) {β : Type} (st : St) (K : Kv β) : callS (orc vE) F [v, u, y] st K = K r st q0 :=
  callS_bare st K hf (by simp only [List.map_cons, List.map_nil, hN.2, hu.2, hy.2]) (by simp only [bares_cons, hN.1, hu.1, hy.1]; rfl) h
theorem int_b (k : IntKind) (n : Int) : VM.bare (.int k n) = true ∧ VM.strip (.int k n) = .int k n := ⟨rfl, rfl⟩
theorem str_b (s : List UInt8) : VM.bare (.str s) = true ∧ VM.strip (.str s) = .str s := ⟨rfl, rfl⟩
theorem hasPre (s p : List UInt8) : (orc vE).bare 78 [.str s, .str p] = some (.bool (decide ((s.length : Int) ≥ (p.length : Int)) && ((s.take p.length) == p))) := by
  refine bare_of rfl ((g78_eq _ _).trans ?_)
  by_cases h : p.length ≤ s.length
  · have h1 : decide ((s.length : Int) ≥ (p.length : Int)) = true := decide_eq_true (by omega)
    simp only [g78, asS_str, h1, ifB_true, Nat.ble_eq_true_of_le h, chk_true, letV_eq, List.drop_zero, bindO_ok, unc_cons, asB_bool, un0_nil, Bool.true_and]
  · have h1 : decide ((s.length : Int) ≥ (p.length : Int)) = false := decide_eq_false (by omega)
    simp only [g78, asS_str, h1, ifB_false, bindO_ok, unc_cons, asB_bool, un0_nil, Bool.false_and]
theorem cutPre (s : List UInt8) : (orc vE).bare 58 [.str s, .str [39]] = some (.tup [.str (if s.head? == some 39 then s.drop 1 else s), .bool (s.head? == some 39)]) := by
  have e : (decide ((s.length : Int) ≥ (([39] : List UInt8).length : Int)) && ((s.take ([39] : List UInt8).length) == [39])) = (s.head? == some 39) := by
    cases s with
    | nil => rfl
    | cons c s =>
      simp only [List.length_cons, List.length_nil, List.take_succ_cons, List.take_zero, List.head?_cons]
      rw [decide_eq_true (by omega), Bool.true_and]
      rw [Bool.eq_iff_iff]; simp
  have c := fun {γ : Type} (st : St) (K : Kv γ) => callT2 (str_b s) (str_b [39]) rfl ((hasPre s [39]).trans (by rw [e])) st K
  have h67 : (orc vE).bare 67 [.str s, .str [39]] = some (.tup [.str (if s.head? == some 39 then s.drop 1 else s), .bool (s.head? == some 39)]) := by
    refine bare_of rfl ((g67_eq _ _).trans ?_)
    cases hb : s.head? == some 39 with
    | true =>
      have hl : 1 ≤ s.length := by cases s with | nil => simp at hb | cons => simp
      have hl' : Nat.ble ([39] : List UInt8).length s.length = true := Nat.ble_eq_true_of_le hl
      rw [hb] at c
      simp only [g67, asS_str, c, asB_bool, Bool.not_true, ifB_false, hl', chk_true, letV_eq, List.take_length, if_true]
      rfl
    | false =>
      rw [hb] at c
      simp only [g67, asS_str, c, asB_bool, Bool.not_false, ifB_true, Bool.false_eq_true, if_false]
  have d := fun {γ : Type} (st : St) (K : Kv γ) => callT2 (str_b s) (str_b [39]) rfl h67 st K
  refine bare_of rfl ((g58_eq _ _).trans ?_)
  simp only [g58, asS_str, d, unT_tup, nthS_zero, nthS_one, asB_bool]
def idSet : List UInt8 := [97, 98, 99, 100, 101, 102, 103, 104, 105, 106, 107, 108, 109, 110, 111, 112, 113, 114, 115, 116, 117, 118, 119, 120, 121, 122, 48, 49, 50, 51, 52, 53, 54, 55, 56, 57]
theorem idSet_has (b : UInt8) : idSet.contains b = idB b := by
  have h : ∀ n, n < 256 → idSet.contains (UInt8.ofNat n) = idB (UInt8.ofNat n) := by decide
  simpa using h b.toNat b.toNat_lt
theorem dropWhile_nil {p : UInt8 → Bool} : ∀ {l : List UInt8}, l.dropWhile p = [] ↔ l.all p = true
  | [] => by simp
  | c :: l => by
    rw [List.dropWhile_cons, List.all_cons]
    cases h : p c with
    | true => simpa using dropWhile_nil (p := p) (l := l)
    | false => simp
theorem trim_nil (s : List UInt8) : (Lib.trimS s idSet == []) = s.all idB := by
  have e : (fun b => idSet.contains b) = idB := funext idSet_has
  rw [Bool.eq_iff_iff, beq_iff_eq]
  unfold Lib.trimS Lib.trimLeftS Lib.trimRightS
  rw [e]
  constructor
  · intro h
    rw [dropWhile_nil] at h
    have h1 : (s.reverse.dropWhile idB).all idB = true := by rw [← List.all_reverse]; exact h
    have h2 : s.reverse.dropWhile idB = [] := by
      cases hd : s.reverse.dropWhile idB with
      | nil => rfl
      | cons c l =>
        rw [hd, List.all_cons, Bool.and_eq_true] at h1
        have := List.head_dropWhile_not (p := idB) (l := s.reverse) (by rw [hd]; simp)
        simp only [hd, List.head_cons] at this
        rw [h1.1] at this; cases this
    rw [dropWhile_nil, List.all_reverse] at h2
    exact h2
  · intro h
    have : s.reverse.dropWhile idB = [] := dropWhile_nil.2 (by rw [List.all_reverse]; exact h)
    rw [this]; rfl
theorem var_prog (s : List UInt8) : (orc vE).bare 46 [.str s] = some (.bool (varB s)) := by
  have c := fun {γ : Type} (st : St) (K : Kv γ) => callT2 (str_b s) (str_b [39]) rfl (cutPre s) st K
  refine bare_of rfl ((g46_eq _).trans ?_)
  unfold varB
  cases hb : s.head? == some 39 with
  | false =>
    rw [hb] at c
    simp only [g46, asS_str, c, unT_tup, nthS_zero, nthS_one, asB_bool, ifB_false, bindO_ok, unc_cons, un0_nil, Bool.false_and, Bool.and_false]
  | true =>
    obtain ⟨r, rfl⟩ : ∃ r, s = 39 :: r := by
      cases s with
      | nil => simp at hb
      | cons c r => simp at hb; exact ⟨r, by rw [hb]⟩
    rw [hb] at c
    simp only [if_true, List.drop_succ_cons, List.drop_zero] at c
    by_cases h0 : r = []
    · subst h0
      simp only [g46, asS_str, c, unT_tup, nthS_zero, nthS_one, asB_bool, ifB_true, bindO_ok, unc_cons, un0_nil, show (!([] : List UInt8) == []) = false from rfl, ifB_false, List.length_cons, List.length_nil]
      rfl
    · have hne : (!r == []) = true := by simp [h0]
      have hl1 : 1 ≤ r.length := List.length_pos_iff.2 h0
      by_cases h64 : r.length ≤ 64
      · have h1 : decide ((r.length : Int) ≤ 64) = true := decide_eq_true (by omega)
        have hlib : libTrim [AV.str r, AV.str idSet] = .ok (.str (Lib.trimS r idSet)) := by
          have h2 : (Nat.blt idSet.length 4294967281 && idSet.all (fun b => b.toNat.blt 128) && Nat.ble r.length 9223372036854775807) = true := by
            rw [Nat.ble_eq_true_of_le (by omega)]; rfl
          simp only [libTrim, h2]
        have p := fun {γ : Type} (st : St) (K : Kv γ) => (planS_lib (O := orc vE) hlib st K)
        have p : ∀ {γ : Type} (st : St) (K : Kv γ), planS (orc vE) (primP (Prim.lib libTrim) [AV.str r, AV.str [97, 98, 99, 100, 101, 102, 103, 104, 105, 106, 107, 108, 109, 110, 111, 112, 113, 114, 115, 116, 117, 118, 119, 120, 121, 122, 48, 49, 50, 51, 52, 53, 54, 55, 56, 57]]) st K = _ := p
        simp only [g46, asS_str, c, unT_tup, nthS_zero, nthS_one, asB_bool, ifB_true, hne, h1, p, bindO_ok, unc_cons, un0_nil, trim_nil, List.length_cons, List.drop_succ_cons, List.drop_zero]
        rw [decide_eq_true (show 2 ≤ r.length + 1 by omega), decide_eq_true (show r.length + 1 ≤ 65 by omega)]
        rfl
      · have h1 : decide ((r.length : Int) ≤ 64) = false := decide_eq_false (by omega)
        simp only [g46, asS_str, c, unT_tup, nthS_zero, nthS_one, asB_bool, ifB_true, hne, h1, ifB_false, bindO_ok, unc_cons, un0_nil, List.length_cons]
        rw [decide_eq_false (show ¬ r.length + 1 ≤ 65 by omega), Bool.and_false, Bool.false_and]
end Go.Proofs.YtlfilkniobkbiaaDoor.Vm
/- How many parts a type has; whether it may be. -/
namespace Go.Proofs.YtlfilkniobkbiaaDoor.Vm
open Go Go.VM Go.Proofs Go.Ty
theorem idxStr_c {β : Type} {s : List UInt8} {i : Nat} {c : UInt8} (h : s[i]? = some c) (K : UInt8 → Option β) : idxStr s (i : Int) K = K c := by
  have hl : i < s.length := by
    rcases Nat.lt_or_ge i s.length with q | q
    · exact q
    · rw [List.getElem?_eq_none q] at h; cases h
  rw [idxStr_nat hl]
  rw [List.getElem?_eq_getElem hl] at h
  cases h; rfl
theorem var_loop (s : List UInt8) (hs : s.length ≤ 65) (st : St) : ∀ (r : List UInt8) (i : Nat), s.drop i = r → loopO (g39_L1 s) ([.bool false, .int .i64 (i : Int)], st) = some (if r.all idB = true then 0 else 1, [.bool false], st)
  | [], i, hd => by
    have h1 := List.drop_eq_nil_iff.1 hd
    have q : decide ((i : Int) < (s.length : Int)) = false := decide_eq_false (by omega)
    refine loopO_inr ?_
    simp only [g39_L1, unc_cons, asB_bool, asI_int, un0_nil, q, ifB_false, List.all_nil, if_true]
  | c :: r, i, hd => by
    obtain ⟨hg, hr, hlt⟩ := drop_cons hd
    have q : decide ((i : Int) < (s.length : Int)) = true := decide_eq_true (by omega)
    have e : ∀ b, idB c = b → g39_L1 s ([.bool false, .int .i64 (i : Int)], st) = ifB (!b) (some (.inr (1, [.bool false], st))) (some (.inl ([.bool false, .int .i64 ((i + 1 : Nat) : Int)], st))) := by
      intro b hb
      unfold idB at hb
      simp only [g39_L1, unc_cons, asB_bool, asI_int, un0_nil, q, ifB_true, idxStr_c hg]
      by_cases h1 : 97 ≤ c.toNat
      · have k1 : decide ((c.toNat : Int) ≥ 97) = true := decide_eq_true (by omega)
        by_cases h2 : c.toNat ≤ 122
        · have k2 : decide ((c.toNat : Int) ≤ 122) = true := decide_eq_true (by omega)
          have hb1 : b = true := by rw [← hb, decide_eq_true h1, decide_eq_true h2]; rfl
          subst hb1
          simp only [k1, k2, ifB_true, Bool.not_true, ifB_false, bindO_ok, unc_cons, asB_bool, un0_nil, wrapA1 (show i + 1 ≤ 9223372036854775807 by omega), letV_eq]
        · have k2 : decide ((c.toNat : Int) ≤ 122) = false := decide_eq_false (by omega)
          have k3 : decide ((c.toNat : Int) ≥ 48) = true := decide_eq_true (by omega)
          have k4 : decide ((c.toNat : Int) ≤ 57) = false := decide_eq_false (by omega)
          have hb1 : b = false := by rw [← hb, decide_eq_false h2, decide_eq_false (show ¬ c.toNat ≤ 57 by omega)]; simp
          subst hb1
          simp only [k1, k2, k3, k4, ifB_true, Bool.not_false, ifB_false, bindO_ok, unc_cons, asB_bool, un0_nil]
      · have k1 : decide ((c.toNat : Int) ≥ 97) = false := decide_eq_false (by omega)
        by_cases h3 : 48 ≤ c.toNat
        · have k3 : decide ((c.toNat : Int) ≥ 48) = true := decide_eq_true (by omega)
          by_cases h4 : c.toNat ≤ 57
          · have k4 : decide ((c.toNat : Int) ≤ 57) = true := decide_eq_true (by omega)
            have hb1 : b = true := by rw [← hb, decide_eq_true h3, decide_eq_true h4]; simp
            subst hb1
            simp only [k1, k3, k4, ifB_true, Bool.not_true, ifB_false, bindO_ok, unc_cons, asB_bool, un0_nil, wrapA1 (show i + 1 ≤ 9223372036854775807 by omega), letV_eq]
          · have k4 : decide ((c.toNat : Int) ≤ 57) = false := decide_eq_false (by omega)
            have hb1 : b = false := by rw [← hb, decide_eq_false h1, decide_eq_false h4]; simp
            subst hb1
            simp only [k1, k3, k4, ifB_true, Bool.not_false, ifB_false, bindO_ok, unc_cons, asB_bool, un0_nil]
        · have k3 : decide ((c.toNat : Int) ≥ 48) = false := decide_eq_false (by omega)
          have hb1 : b = false := by rw [← hb, decide_eq_false h1, decide_eq_false h3]; simp
          subst hb1
          simp only [k1, k3, ifB_true, Bool.not_false, ifB_false, bindO_ok, unc_cons, asB_bool, un0_nil]
    cases hc : idB c with
    | true =>
      have e := e true hc
      rw [loopO_inl e, var_loop s hs st r (i + 1) hr, List.all_cons, hc, Bool.true_and]
    | false =>
      have e := e false hc
      rw [loopO_inr e, List.all_cons, hc, Bool.false_and]
      rfl
theorem var_ref (s : List UInt8) : (orc vE).bare 39 [.str s] = some (.bool (varB s)) := by
  refine bare_of rfl ((g39_eq _).trans ?_)
  unfold varB
  by_cases h2 : 2 ≤ s.length
  · have k2 : decide ((s.length : Int) < 2) = false := decide_eq_false (by omega)
    by_cases h65 : s.length ≤ 65
    · have k65 : decide ((s.length : Int) > 65) = false := decide_eq_false (by omega)
      obtain ⟨c, r, rfl⟩ : ∃ c r, s = c :: r := by
        cases s with
        | nil => simp at h2
        | cons c r => exact ⟨c, r, rfl⟩
      have hi : ∀ {β : Type} (K : UInt8 → Option β), idxStr (c :: r) 0 K = K c := fun K => idxStr_c (i := 0) (c := c) rfl K
      have hh : ((c.toNat : Int) != 39) = !(some c == some (39 : UInt8)) := by
        rw [Bool.eq_iff_iff]
        simp only [bne_iff_ne, ne_eq, Bool.not_eq_true', beq_eq_false_iff_ne, Option.some.injEq]
        constructor
        · intro h e; apply h; rw [e]; rfl
        · intro h e; apply h
          have : c.toNat = 39 := by omega
          have := congrArg UInt8.ofNat this
          simpa using this
      have hl := var_loop (c :: r) h65 S0 r 1 rfl
      have hl : loopO (g39_L1 (c :: r)) ([.bool false, .int .i64 1], St.mk 0 0 Tr.leaf) = _ := hl
      rw [decide_eq_true h2, decide_eq_true h65]
      simp only [g39, asS_str, k2, k65, ifB_false, hi, bindO_ok, unc_cons, asB_bool, un0_nil, hh, List.head?_cons, List.drop_succ_cons, List.drop_zero, Bool.true_and]
      cases hc : (some c == some (39 : UInt8)) with
      | false => simp only [Bool.not_false, ifB_true, Bool.false_and]
      | true =>
        simp only [Bool.not_true, ifB_false, Bool.true_and, hl, bindO_ok, unc_cons, asB_bool, un0_nil]
        cases r.all idB <;> rfl
    · have k65 : decide ((s.length : Int) > 65) = true := decide_eq_true (by omega)
      simp only [g39, asS_str, k2, k65, ifB_false, ifB_true, bindO_ok, unc_cons, asB_bool, un0_nil]
      rw [decide_eq_false h65, Bool.and_false, Bool.false_and]
  · have k2 : decide ((s.length : Int) < 2) = true := decide_eq_true (by omega)
    simp only [g39, asS_str, k2, ifB_true, bindO_ok, unc_cons, asB_bool, un0_nil]
    rw [decide_eq_false h2, Bool.false_and, Bool.false_and]
/-- What a count comes to. -/
def Cnt (most n r : Nat) : Prop := 1 ≤ r ∧ r ≤ most ∧ (r < most → r = n) ∧ r ≤ n
theorem parts_loop {most : Nat} (hmost : most ≤ 1000000) {l : List Ty} {x : AV} {es : List AV} (hx : IsSl 2 x es) (hs : IsTs l es) (hg : ∀ t ∈ l, ∀ v (k : Nat), IsT t v → 1 ≤ k → k ≤ 1000000 → ∃ n : Nat, Cnt k (szT t) n ∧ (orc vE).bare 8 [v, .int .i64 (k : Int)] = some (.int .i64 (n : Int))) (st : St) : ∀ (m : List Ty) (j n : Nat), 1 ≤ n → n ≤ most → l.drop j = m →
    ∃ n' : Nat, Cnt most (n + szTs m) n' ∧ loopO (g8_L1 (most : Int) x) ([.int .i64 (n : Int), .int .i64 (j : Int)], st) = some (0, [.int .i64 (n' : Int)], st)
  | [], j, n, h1, h2, hd => by
    have := List.drop_eq_nil_iff.1 hd
    have hl := hs.len
    have q : ¬ (j : Int) < (es.length : Int) := by omega
    refine ⟨n, ⟨h1, h2, fun _ => by simp [szTs], by simp [szTs]⟩, loopO_inr ?_⟩
    simp only [g8_L1, unc_cons, asI_int, asB_bool, un0_nil, hx.len, ifB_decide, if_neg q, bindO_ok, ifB_false]
  | t :: m, j, n, h1, h2, hd => by
    obtain ⟨hgt, hr, hlt⟩ := drop_cons hd
    have hl := hs.len
    have q : (j : Int) < (es.length : Int) := by omega
    have hlen := slenT hx
    by_cases hn : n < most
    · obtain ⟨v, hv, hV, _⟩ := hs.get hd
      obtain ⟨k, ⟨k1, k2, k3, k4⟩, hk⟩ := hg t (List.mem_of_getElem? hgt) _ (most - n) hV (by omega) (by omega)
      have c := fun {γ : Type} (st : St) (K : Kv γ) => callT2 (isT_bare hV) (int_b _ _) rfl hk st K
      obtain ⟨n', ⟨a1, a2, a4, a5⟩, a3⟩ := parts_loop hmost hx hs hg st m (j + 1) (n + k) (by omega) (by omega) hr
      obtain ⟨nm, ls, y, fs, rfl, rfl, _, _⟩ := isT_open hV
      refine ⟨n', ⟨a1, a2, fun hlt' => ?_, by simp only [szTs] at a5 ⊢; omega⟩, ?_⟩
      · have h5 := a4 hlt'
        simp only [szTs] at h5 ⊢
        have : k < most - n := by omega
        have := k3 this
        omega
      rw [loopO_inl (s' := ([.int .i64 ((n + k : Nat) : Int), .int .i64 ((j + 1 : Nat) : Int)], st)), a3]
      have hnn : (n : Int) < (most : Int) := by omega
      simp only [g8_L1, unc_cons, asI_int, asB_bool, asS_str, un0_nil, hx.len, ifB_decide, if_pos q, bindO_ok, if_pos hnn, hx.idx hv, cells_agg, loadS_ip, takeT2, unA_agg, letV_eq, wrapS (Nat.le_of_lt hn) (show most ≤ 9223372036854775807 by omega), c, wrapA (show n + k ≤ 9223372036854775807 by omega), wrapA1 (show j + 1 ≤ 9223372036854775807 by omega)]
    · refine ⟨n, ⟨h1, h2, fun h => absurd h hn, by omega⟩, loopO_inr ?_⟩
      have hnn : ¬ (n : Int) < (most : Int) := by omega
      simp only [g8_L1, unc_cons, asI_int, asB_bool, un0_nil, hx.len, ifB_decide, if_pos q, bindO_ok, if_neg hnn]
theorem parts_all : ∀ (n : Nat) (t : Ty), SizeOf.sizeOf t < n → ∀ (v : AV) (k : Nat), IsT t v → 1 ≤ k → k ≤ 1000000 → ∃ n : Nat, Cnt k (szT t) n ∧ (orc vE).bare 8 [v, .int .i64 (k : Int)] = some (.int .i64 (n : Int)) := by
  intro n
  induction n with
  | zero => intro t h; omega
  | succ n ih =>
    intro t hn v most hv h1 h2
    obtain ⟨nm, ls, y, fs, rfl, rfl, hx, hs⟩ := isT_open hv
    simp only [Ty.mk.sizeOf_spec] at hn
    obtain ⟨n', a1, lp⟩ := parts_loop h2 hx hs (fun t ht => ih t (by have := List.sizeOf_lt_of_mem ht; omega)) S0 ls 0 1 (by omega) h1 rfl
    have lp : loopO (g8_L1 (most : Int) y) ([.int .i64 1, .int .i64 0], S0) = _ := lp
    refine ⟨n', a1, bare_of rfl ((g8_eq _ _).trans ?_)⟩
    simp only [g8, unA_agg, unc_cons, asI_int, asS_str, un0_nil, hx.asOne, hx.fit1, lp, bindO_ok]
theorem parts_ok {t : Ty} {v : AV} {k : Nat} (hv : IsT t v) (h1 : 1 ≤ k) (h2 : k ≤ 1000000) : ∃ n : Nat, Cnt k (szT t) n ∧ (orc vE).bare 8 [v, .int .i64 (k : Int)] = some (.int .i64 (n : Int)) := parts_all _ t (Nat.lt_succ_self _) v k hv h1 h2
theorem ifB_and {β : Type} (b c : Bool) (s : St) (K : Car → Option β) : bindO (ifB b (some ([AV.bool c], s)) (some ([AV.bool false], s))) K = K ([AV.bool (b && c)], s) := by cases b <;> rfl
theorem cond_and' (a b : Bool) : cond a b false = (b && a) := by cases a <;> cases b <;> rfl
theorem cond_self (a b : Bool) : cond a a b = (a || b) := by cases a <;> rfl
end Go.Proofs.YtlfilkniobkbiaaDoor.Vm
/- Whether a type may be. -/
namespace Go.Proofs.YtlfilkniobkbiaaDoor.Vm
open Go Go.VM Go.Proofs Go.Ty
def FoQ (t : Ty) (k : Nat) (r : AV) : Prop := ∃ (b : Bool) (m : Int), r = .tup [.bool b, .int .i64 m] ∧ b = (formT t && decide ((szT t : Int) ≤ (k : Int))) ∧ (b = true → m = (k : Int) - (szT t : Int))
theorem form_loop {L : Nat} (hL : L ≤ 1000000) {l : List Ty} {x : AV} {es : List AV} (hx : IsSl 2 x es) (hs : IsTs l es) (hg : ∀ t ∈ l, ∀ v (k : Nat), IsT t v → k ≤ L → ∃ r, FoQ t k r ∧ (orc vE).bare 31 [v, .int .i64 (k : Int)] = some r) (st : St) : ∀ (r : List Ty) (j : Nat) (b : Bool) (m : Int), m ≤ (L : Int) → l.drop j = r →
    ∃ (b' : Bool) (m' : Int), loopO (g31_L1 x es.length) ([.bool b, .int .i64 m, .int .i64 (j : Int)], st) = some (0, [.bool b', .int .i64 m'], st) ∧ (b' && decide (m' ≥ 0)) = (b && (formTs r && decide ((szTs r : Int) ≤ m))) ∧ ((b' && decide (m' ≥ 0)) = true → m' = m - (szTs r : Int))
  | [], j, b, m, hm, hd => by
    have := List.drop_eq_nil_iff.1 hd
    have hl := hs.len
    have q : decide ((j : Int) < (es.length : Int)) = false := decide_eq_false (by omega)
    refine ⟨b, m, loopO_inr ?_, ?_, fun _ => by simp [szTs]⟩
    · simp only [g31_L1, unc_cons, asI_int, asB_bool, un0_nil, q, ifB_false, bindO_ok]
    · rw [Bool.eq_iff_iff]
      simp only [Bool.and_eq_true, decide_eq_true_eq]
      simp [formTs, szTs]
  | t :: r, j, b, m, hm, hd => by
    obtain ⟨hgt, hr, hlt⟩ := drop_cons hd
    have hl := hs.len
    have q : decide ((j : Int) < (es.length : Int)) = true := decide_eq_true (by omega)
    have hlen := slenT hx
    by_cases hgo : b = true ∧ 0 ≤ m
    · obtain ⟨rfl, h0⟩ := hgo
      obtain ⟨k, rfl⟩ := Int.eq_ofNat_of_zero_le h0
      obtain ⟨v, hv, hV, _⟩ := hs.get hd
      obtain ⟨rr, ⟨b1, m1, rfl, hb1, hm1⟩, hk⟩ := hg t (List.mem_of_getElem? hgt) v k hV (by omega)
      have c := fun {γ : Type} (st : St) (K : Kv γ) => callT2 (isT_bare hV) (int_b _ _) rfl hk st K
      have q2 : decide ((k : Int) ≥ 0) = true := decide_eq_true (by omega)
      obtain ⟨nm, ls, y, fs, e0, rfl, _, _⟩ := isT_open hV
      by_cases hbt : b1 = true
      · have hm1' := hm1 hbt
        have hsz : 1 ≤ szT t := by rw [e0, szT]; omega
        obtain ⟨b', m', lp, e1, e2⟩ := form_loop hL hx hs hg st r (j + 1) b1 m1 (by omega) hr
        refine ⟨b', m', ?_, ?_, ?_⟩
        · rw [loopO_inl (s' := ([.bool b1, .int .i64 m1, .int .i64 ((j + 1 : Nat) : Int)], st)), lp]
          simp only [g31_L1, unc_cons, asI_int, asB_bool, asS_str, un0_nil, q, q2, ifB_true, bindO_ok, hx.idx hv, cells_agg, loadS_ip, takeT2, unA_agg, c, unT_tup, nthS_zero, nthS_one, letV_eq, wrapA1 (show j + 1 ≤ 9223372036854775807 by omega)]
        · rw [e1, hm1']
          rw [hbt] at hb1 ⊢
          have hb1 := hb1.symm
          rw [Bool.and_eq_true, decide_eq_true_eq] at hb1
          rw [Bool.eq_iff_iff]
          simp only [Bool.true_and, Bool.and_eq_true, decide_eq_true_eq]
          simp only [formTs, szTs, hb1.1, Bool.true_and]
          constructor
          · intro h; exact ⟨h.1, by omega⟩
          · intro h; exact ⟨h.1, by omega⟩
        · intro h
          rw [e2 h, hm1']
          simp only [szTs]
          omega
      · have hbf : b1 = false := by simpa using hbt
        subst hbf
        have hlp : loopO (g31_L1 x es.length) ([.bool false, .int .i64 m1, .int .i64 ((j + 1 : Nat) : Int)], st) = some (0, [.bool false, .int .i64 m1], st) := by
          refine loopO_inr ?_
          simp only [g31_L1, unc_cons, asI_int, asB_bool, un0_nil, ifB_false, ifB_idem, bindO_ok]
        refine ⟨false, m1, ?_, ?_, fun h => by simp at h⟩
        · rw [loopO_inl (s' := ([.bool false, .int .i64 m1, .int .i64 ((j + 1 : Nat) : Int)], st)), hlp]
          simp only [g31_L1, unc_cons, asI_int, asB_bool, asS_str, un0_nil, q, q2, ifB_true, bindO_ok, hx.idx hv, cells_agg, loadS_ip, takeT2, unA_agg, c, unT_tup, nthS_zero, nthS_one, letV_eq, wrapA1 (show j + 1 ≤ 9223372036854775807 by omega)]
        · have hb1 := hb1.symm
          rw [Bool.and_eq_false_iff, decide_eq_false_iff_not] at hb1
          rw [Bool.eq_iff_iff]
          simp only [Bool.false_and, Bool.true_and, Bool.and_eq_true, decide_eq_true_eq]
          simp only [formTs, szTs, Bool.and_eq_true]
          constructor
          · intro h; cases h
          · intro h
            rcases hb1 with q | q
            · rw [q] at h; exact h.1.1
            · omega
    · refine ⟨b, m, loopO_inr ?_, ?_, ?_⟩
      · cases b with
        | false => simp only [g31_L1, unc_cons, asI_int, asB_bool, un0_nil, ifB_false, ifB_idem, bindO_ok]
        | true =>
          have hm0 : ¬ 0 ≤ m := fun h => hgo ⟨rfl, h⟩
          have q2 : decide (m ≥ 0) = false := decide_eq_false hm0
          simp only [g31_L1, unc_cons, asI_int, asB_bool, un0_nil, q, q2, ifB_true, ifB_false, bindO_ok]
      · cases b with
        | false => simp
        | true =>
          have hm0 : ¬ 0 ≤ m := fun h => hgo ⟨rfl, h⟩
          rw [Bool.eq_iff_iff]
          simp only [Bool.true_and, Bool.and_eq_true, decide_eq_true_eq]
          constructor
          · intro h; exact absurd h hm0
          · intro h; omega
      · intro h
        simp only [Bool.and_eq_true, decide_eq_true_eq] at h
        exact absurd ⟨h.1, h.2⟩ hgo
theorem form_ok : ∀ (n : Nat) (t : Ty), SizeOf.sizeOf t < n → ∀ (v : AV) (k : Nat), IsT t v → k ≤ 1000000 → ∃ r, FoQ t k r ∧ (orc vE).bare 31 [v, .int .i64 (k : Int)] = some r := by
  intro n
  induction n with
  | zero => intro t h; omega
  | succ n ih =>
    intro t hn v k hv hk
    obtain ⟨nm, ls, y, fs, rfl, rfl, hx, hs⟩ := isT_open hv
    simp only [Ty.mk.sizeOf_spec] at hn
    obtain ⟨b', m', lp, e1, e2⟩ := form_loop (L := 1000000) (Nat.le_refl _) hx hs (fun t ht v k hV hk => ih t (by have := List.sizeOf_lt_of_mem ht; omega) v k hV hk) S0 ls 0 (nameOk nm ls.length) ((k : Int) - 1) (by omega) rfl
    have lp : loopO (g31_L1 y fs.length) ([.bool (nameOk nm ls.length), .int .i64 ((k : Int) - 1), .int .i64 0], St.mk 0 0 Tr.leaf) = _ := lp
    have c := fun {γ : Type} (st : St) (K : Kv γ) => callT1 (str_b nm) rfl (var_prog nm) st K
    have hw : IntKind.wrap .i64 ((k : Int) - 1) = (k : Int) - 1 := by rw [IntKind.wrap_i64]; omega
    refine ⟨.tup [.bool (b' && decide (m' ≥ 0)), .int .i64 m'], ⟨_, m', rfl, ?_, fun h => ?_⟩, bare_of rfl ((g31_eq _ _).trans ?_)⟩
    · rw [e1, Bool.eq_iff_iff]
      simp only [Bool.and_eq_true, decide_eq_true_eq]
      simp only [formT, szT, Bool.and_eq_true]
      constructor
      · intro h; exact ⟨⟨h.1, h.2.1⟩, by omega⟩
      · intro h; exact ⟨h.1.1, h.1.2, by omega⟩
    · rw [e2 h]
      simp only [szT]
      omega
    · have hcore : nameOk nm ls.length = _ := rfl
      simp only [g31, unA_agg, unc_cons, asI_int, asS_str, asB_bool, un0_nil, hx.asOne, hx.fit1, hx.len, c, ifB_sel, ifB_and, bindO_ok, cond_self, cond_and', letV_eq, hw, hs.len]
      have key : (bif nm == [105, 110, 116] || (nm == [102, 108, 111, 97, 116] || (nm == [98, 111, 111, 108] || (nm == [115, 116, 114, 105, 110, 103] || nm == [117, 110, 105, 116]))) then (ls.length : Int) == 0 else bif nm == [45, 62] then (ls.length : Int) == 2 else bif nm == [116, 117, 112, 108, 101] then decide ((ls.length : Int) ≥ 2) else bif nm == [108, 105, 115, 116] then (ls.length : Int) == 1 else (varB nm && ((ls.length : Int) == 0))) = nameOk nm ls.length := by
        simp only [nameOk, baseB, sInt, sFloat, sBool, sString, sUnit, sArrow, sTuple, sList]
        rw [Bool.and_comm (varB nm)]
      rw [hs.len] at lp
      rw [key, lp]
      simp only [bindO_ok, unc_cons, asB_bool, asI_int, un0_nil]
      cases b' <;> simp only [ifB_true, ifB_false, bindO_ok, unc_cons, asB_bool, asI_int, un0_nil, Bool.true_and, Bool.false_and]
theorem may_prog {t : Ty} {v : AV} (hv : IsT t v) : (orc vE).bare 10 [v] = some (.bool (mayT t)) := by
  obtain ⟨r, ⟨b, m, rfl, hb, _⟩, hk⟩ := form_ok _ t (Nat.lt_succ_self _) v 512 hv (by omega)
  have c := fun {γ : Type} (st : St) (K : Kv γ) => callT2 (isT_bare hv) (int_b .i64 512) rfl hk st K
  have e : b = mayT t := by
    rw [hb, Bool.eq_iff_iff]
    simp only [mayT, Bool.and_eq_true, decide_eq_true_eq]
    constructor
    · intro h; exact ⟨by omega, h.1⟩
    · intro h; exact ⟨h.2, by omega⟩
  obtain ⟨nm, ls, y, fs, rfl, rfl, hx, hs⟩ := isT_open hv
  refine bare_of rfl ((g10_eq _).trans ?_)
  simp only [g10, unA_agg, unc_cons, asI_int, asS_str, un0_nil, hx.asOne, hx.fit1, c, unT_tup, nthS_zero, nthS_one, asB_bool, e]
end Go.Proofs.YtlfilkniobkbiaaDoor.Vm
/- The variables of a type. -/
namespace Go.Proofs.YtlfilkniobkbiaaDoor.Vm
open Go Go.VM Go.Proofs Go.Ty
/-- What a loop's turn comes to. -/
def Lp {σ β : Type} (I : σ → Prop) (Q : β → Prop) : Sum σ β → Prop
  | .inl s => I s
  | .inr b => Q b
theorem Goes.inl {σ β : Type} {I : σ → Prop} {Q : β → Prop} {s : σ} (h : I s) : Goes (some (Sum.inl s : Sum σ β)) (Lp I Q) := ⟨_, rfl, h⟩
theorem Goes.inr {σ β : Type} {I : σ → Prop} {Q : β → Prop} {b : β} (h : Q b) : Goes (some (Sum.inr b : Sum σ β)) (Lp I Q) := ⟨_, rfl, h⟩
theorem Goes.upto {σ β : Type} {Q : β → Prop} {F : σ → Option (Sum σ β)} {n : Nat} {I : Nat → σ → Prop} (step : ∀ i s, i < n → I i s → Goes (F s) (Lp (I (i + 1)) Q))
    (last : ∀ s, I n s → Goes (F s) (Lp (fun _ => False) Q)) : ∀ (k i : Nat) (s : σ), i + k = n → I i s → Goes (loopO F s) Q := by
  intro k
  induction k with
  | zero =>
    intro i s hi h
    obtain ⟨r, e, hr⟩ := last s (by rw [← show i = n by omega]; exact h)
    cases r with
    | inl s' => exact hr.elim
    | inr b => exact ⟨b, loopO_inr e, hr⟩
  | succ k ih =>
    intro i s hi h
    obtain ⟨r, e, hr⟩ := step i s (by omega) h
    cases r with
    | inl s' => rw [loopO_inl e]; exact ih (i + 1) s' (by omega) hr
    | inr b => exact ⟨b, loopO_inr e, hr⟩
theorem callS_strip {β : Type} {f : FuncId} {args args' : List AV} {v : AV} (st : St) (K : Kv β) (hf : vE.full f = false) (hs : args.map strip = args') (hb : bares args' = true) (h : (orc vE).bare f args' = some v) :
    callS (orc vE) f args st K = K v st q0 := by
  have h1 : (bares (args.map strip) && !(orc vE).full f) = true := by
    rw [hs, hb]
    show (true && !vE.full f) = true
    rw [hf]; rfl
  unfold callS outS callO
  rw [h1, hs, h]
  rfl
theorem own_isSl {st : St} {z : Nat} {e : TypeId} {v : AV} {es : List AV} (h : Own st z e v es) : IsSl z (VM.strip v) es := by
  rcases h with ⟨_, hl, ⟨rfl | rfl, rfl⟩ | rfl | ⟨k, rfl, _, _⟩⟩
  · exact IsSl.nils
  · exact IsSl.emp
  · exact IsSl.shut hl
  · exact IsSl.wide hl
theorem strs_sl {x : AV} {L : List (List UInt8)} (h : IsSl 1 x (L.map AV.str)) : VM.bare x = true ∧ VM.strip x = x := by
  exact ⟨h.bare, h.strip⟩
def idxI (L : List Tx) (s : Tx) : Int := if L.contains s = true then ((L.idxOf s : Nat) : Int) else -1
theorem index_loop {x : AV} {L : List Tx} (hx : IsSl 1 x (L.map AV.str)) (s : Tx) (st : St) : ∀ (r : List Tx) (i : Nat), L.drop i = r →
    loopO (g51_L1 x s L.length) ([.int .i64 0, .int .i64 (i : Int)], st) = some (if r.contains s = true then 1 else 0, [.int .i64 (if r.contains s = true then ((i + r.idxOf s : Nat) : Int) else 0)], st)
  | [], i, hd => by
    have h1 := List.drop_eq_nil_iff.1 hd
    have q : decide ((i : Int) < (L.length : Int)) = false := decide_eq_false (by omega)
    refine loopO_inr ?_
    simp only [g51_L1, unc_cons, asI_int, un0_nil, q, ifB_false]
    rfl
  | c :: r, i, hd => by
    obtain ⟨hg, hr, hlt⟩ := drop_cons hd
    have q : decide ((i : Int) < (L.length : Int)) = true := decide_eq_true (by omega)
    have hlen : L.length ≤ 9223372036854775807 := by have := hx.1; simpa using this
    have hv : (L.map AV.str)[i]? = some (.str c) := by rw [List.getElem?_map, hg]; rfl
    cases hb : (s == c) with
    | true =>
      have hsc : s = c := beq_iff_eq.1 hb
      subst hsc
      have hcc : (s :: r).contains s = true := by simp
      rw [if_pos hcc, if_pos hcc, List.idxOf_cons_self, Nat.add_zero]
      refine loopO_inr ?_
      simp only [g51_L1, unc_cons, asI_int, un0_nil, q, ifB_true, hx.idx hv, AV.cells, loadS_ip, List.drop_zero, takeO_one, bindO_ok, asS_str, hb, ifB_true]
    | false =>
      have hne : s ≠ c := fun e => by rw [e] at hb; simp at hb
      have ec : (c :: r).contains s = r.contains s := by simp [hne]
      have ei : (c :: r).idxOf s = r.idxOf s + 1 := by
        have hb2 : (c == s) = false := by rw [beq_eq_false_iff_ne]; exact fun e => hne e.symm
        rw [List.idxOf_cons, hb2]; rfl
      rw [loopO_inl (s' := ([.int .i64 0, .int .i64 ((i + 1 : Nat) : Int)], st)), index_loop hx s st r (i + 1) hr, ec, ei]
      · rw [show i + 1 + r.idxOf s = i + (r.idxOf s + 1) by omega]
      · simp only [g51_L1, unc_cons, asI_int, un0_nil, q, ifB_true, hx.idx hv, AV.cells, loadS_ip, asS_str, hb, ifB_false, letV_eq, wrapA1 (show i + 1 ≤ 9223372036854775807 by omega), List.drop_zero, takeO_one, bindO_ok]
theorem index_ok {x : AV} {L : List Tx} (hx : IsSl 1 x (L.map AV.str)) (s : Tx) : (orc vE).bare 51 [x, .str s] = some (.int .i64 (idxI L s)) := by
  have lp := index_loop hx s S0 L 0 rfl
  have lp : loopO (g51_L1 x s L.length) ([.int .i64 0, .int .i64 0], St.mk 0 0 Tr.leaf) = _ := lp
  refine bare_of rfl ((g51_eq _ _).trans ?_)
  simp only [g51, asS_str, hx.len, List.length_map, lp, bindO_ok, unc_cons, asI_int, un0_nil]
  unfold idxI
  cases hc : L.contains s with
  | true => simp
  | false => simp
theorem contains_ok {x : AV} {L : List Tx} (hx : IsSl 1 x (L.map AV.str)) (s : Tx) : (orc vE).bare 50 [x, .str s] = some (.bool (L.contains s)) := by
  have c := fun {γ : Type} (st : St) (K : Kv γ) => callT2 (strs_sl hx) (str_b s) rfl (index_ok hx s) st K
  refine bare_of rfl ((g50_eq _ _).trans ?_)
  simp only [g50, asS_str, c, asI_int]
  unfold idxI
  cases hc : L.contains s with
  | true => rw [if_pos rfl, decide_eq_true (by omega)]
  | false => rw [if_neg (by simp), decide_eq_false (by omega)]
theorem var_leaf {nm : Tx} {l : List Ty} (h : formT (.mk nm l) = true) (hv : varB nm = true) : l = [] := by
  simp only [formT, Bool.and_eq_true] at h
  have h0 : nm.head? = some 39 := by
    unfold varB at hv
    simp only [Bool.and_eq_true, beq_iff_eq] at hv
    exact hv.2.1
  have hn : ∀ s : Tx, s.head? ≠ some 39 → (nm == s) = false := fun s hs => by
    rw [beq_eq_false_iff_ne]; rintro rfl; exact hs h0
  have h1 := h.1
  unfold nameOk baseB at h1
  rw [hn sInt (by decide), hn sFloat (by decide), hn sBool (by decide), hn sString (by decide), hn sUnit (by decide), hn sArrow (by decide), hn sTuple (by decide), hn sList (by decide)] at h1
  simp only [Bool.or_self, cond_false, Bool.and_eq_true, beq_iff_eq] at h1
  exact List.length_eq_zero_iff.1 (by omega)
theorem varsT_len (n : Nat) : (∀ t : Ty, SizeOf.sizeOf t < n → ∀ out, (varsT out t).length ≤ out.length + szT t) ∧ (∀ l : List Ty, SizeOf.sizeOf l < n → ∀ out, (varsTs out l).length ≤ out.length + szTs l) := by
  induction n with
  | zero => exact ⟨fun _ h => by omega, fun _ h => by omega⟩
  | succ n ih =>
    constructor
    · intro t h out
      cases t with
      | mk nm l =>
        simp only [Ty.mk.sizeOf_spec] at h
        simp only [varsT, szT]
        have := ih.2 l (by omega) out
        split
        · split
          · omega
          · simp
        · omega
    · intro l h out
      cases l with
      | nil => simp [varsTs, szTs]
      | cons t l =>
        simp only [List.cons.sizeOf_spec] at h
        simp only [varsTs, szTs]
        have := ih.1 t (by omega) out
        have := ih.2 l (by omega) (varsT out t)
        omega
theorem vars_len (t : Ty) (out : List Tx) : (varsT out t).length ≤ out.length + szT t := (varsT_len _).1 t (Nat.lt_succ_self _) out
theorem varsTs_app : ∀ (a b : List Ty) (out : List Tx), varsTs out (a ++ b) = varsTs (varsTs out a) b
  | [], b, out => rfl
  | t :: a, b, out => by simp only [List.cons_append, varsTs, varsTs_app a b]
abbrev sT : TypeId := 9
theorem map_app (out : List Tx) (s : Tx) : (out ++ [s]).map AV.str = out.map AV.str ++ [AV.str s] := by simp
theorem Goes.oapp {β : Type} {Q : β → Prop} {st : St} {l : Vrs} {z : Nat} {e : TypeId} {v : AV} {ws : List AV} (w : Vo st l z e v ws) {b : Nat} {x : AV} (hr : ws.length + 1 ≤ 1000000000) (hb : b ≤ 1000) (hz : 1 ≤ z) {K : Kv β} (g : ∀ v' s fx, Vo s l z e v' (ws ++ [x]) → Goes (K v' s fx) Q) : Goes (appS z b e v [x] st K) Q := by
  obtain ⟨v', s, fx, e1, o1, k1, n1⟩ := app_own (b := b) (new := [x]) w.o (by simp) (room_of (by simpa using hr) hb hz)
  exact Goes.step (appS_of e1 K) (g v' s fx ⟨w.w.keeps k1 (fun q hq h => w.o.not (w.w.v q hq).1 h), o1⟩)
theorem Goes.oalloc {β : Type} {Q : β → Prop} {st : St} {l : Vrs} {z : Nat} {e : TypeId} {v : AV} {ws : List AV} (w : Vo st l z e v ws) {ty : TypeId} {cs : List AV} {K : St → Option β} (g : ∀ s, Vo s ((st.h, ty, cs) :: l) z e v ws → Goes (K s) Q) : Goes (letSt (st.add (.cells ty cs)) K) Q :=
  g _ ⟨w.w.alloc ty cs, own_keep w.o (Keeps.add _ _ (fun _ => False)) (fun _ _ f => f)⟩
theorem vo_sub {st : St} {l l' : Vrs} {z : Nat} {e : TypeId} {v : AV} {ws : List AV} (w : Vo st l z e v ws) (h : List.Sublist l' l) : Vo st l' z e v ws := ⟨w.w.sub h, w.o⟩
/-- The document's variables. -/
theorem rvars_L1 {st : St} {a : AV} {out : List Tx} (ho : Own st 1 sT a (out.map AV.str)) (s : Tx) (st' : St) : ∀ (r : List Tx) (i : Nat), out.drop i = r →
    loopO (w19_L1 a s) ([.nils, .int .i64 (i : Int)], st') = some (if r.contains s = true then 1 else 0, [if r.contains s = true then a else .nils], st')
  | [], i, hd => by
    have h1 := List.drop_eq_nil_iff.1 hd
    have q : ¬ (i : Int) < ((out.map AV.str).length : Int) := by simp; omega
    refine loopO_inr ?_
    simp only [w19_L1, unc_cons, asI_int, un0_nil, own_len ho, ifB_decide, if_neg q]
    rfl
  | c :: r, i, hd => by
    obtain ⟨hg, hr, hlt⟩ := drop_cons hd
    have q : (i : Int) < ((out.map AV.str).length : Int) := by simp; omega
    have hlen : out.length ≤ 9223372036854775807 := by have := ho.2.1; simpa using this
    have hv : (out.map AV.str)[i]? = some (.str c) := by rw [List.getElem?_map, hg]; rfl
    cases hb : (c == s) with
    | true =>
      have hsc : c = s := beq_iff_eq.1 hb
      subst hsc
      have hcc : (c :: r).contains c = true := by simp
      rw [if_pos hcc, if_pos hcc]
      refine loopO_inr ?_
      simp only [w19_L1, unc_cons, asI_int, un0_nil, own_len ho, ifB_decide, if_pos q, own_idx ho hv, AV.cells, loadS_ip, List.drop_zero, takeO_one, bindO_ok, asS_str, hb, ifB_true]
    | false =>
      have hne : c ≠ s := fun e => by rw [e] at hb; simp at hb
      have hne2 : ¬ s = c := fun e => hne e.symm
      have ec : (c :: r).contains s = r.contains s := by simp [hne2]
      rw [loopO_inl (s' := ([.nils, .int .i64 ((i + 1 : Nat) : Int)], st')), rvars_L1 ho s st' r (i + 1) hr, ec]
      simp only [w19_L1, unc_cons, asI_int, un0_nil, own_len ho, ifB_decide, if_pos q, own_idx ho hv, AV.cells, loadS_ip, asS_str, hb, ifB_false, letV_eq, wrapA1 (show i + 1 ≤ 9223372036854775807 by omega), List.drop_zero, takeO_one, bindO_ok]
theorem rvars_ok : ∀ (n : Nat) (t : Ty), SizeOf.sizeOf t < n → ∀ (v : AV) (st : St) (a : AV) (out : List Tx), IsT t v → Own st 1 sT a (out.map AV.str) → out.length + szT t ≤ 1000000 →
    Goes ((orc vE).wide 19 [a, v] st) fun r => Own r.2 1 sT r.1 ((varsT out t).map AV.str) := by
  intro n
  induction n with
  | zero => intro t h; omega
  | succ n ih =>
    intro t hn v st a out hv ho hz
    obtain ⟨nm, ls, y, fs, rfl, rfl, hx, hs⟩ := isT_open hv
    simp only [Ty.mk.sizeOf_spec] at hn
    simp only [szT] at hz
    have c := fun {γ : Type} (st : St) (K : Kv γ) => callT1 (str_b nm) rfl (var_ref nm) st K
    refine Goes.wide (Goes.step (w19_eq _ _ _) ?_)
    simp only [w19, unA_agg, unc_cons, asS_str, un0_nil, hx.asOne, hx.fit1, c, asB_bool]
    cases hvb : varB nm with
    | true =>
      have lp := rvars_L1 ho nm st out 0 rfl
      have lp : loopO (w19_L1 a nm) ([.nils, .int .i64 0], st) = _ := lp
      simp only [ifB_true, lp, bindO_ok, unc_cons, un0_nil, varsT, hvb, if_true]
      cases hc : out.contains nm with
      | true =>
        simp only [if_true]
        exact Goes.some ho
      | false =>
        simp only [Bool.false_eq_true, if_false, sel2_zero]
        have w : Vo st [] 1 sT a (out.map AV.str) := ⟨Vw.start ho.1, ho⟩
        refine Goes.oapp w (by simp; omega) (by omega) (by omega) fun v' s fx w' => Goes.some ?_
        rw [map_app]; exact w'.o
    | false =>
      simp only [ifB_false, varsT, hvb, Bool.false_eq_true]
      rw [if_neg (by simp)]
      have hlen := hs.len
      have hsl := slenT hx
      refine Goes.bind (R := fun c => ∃ s a', c = (0, [a'], s) ∧ Own s 1 sT a' ((varsTs out ls).map AV.str)) ?_ ?_
      · refine Goes.upto (n := ls.length) (I := fun i c => ∃ s a', c = ([a', .int .i64 (i : Int)], s) ∧ Own s 1 sT a' ((varsTs out (ls.take i)).map AV.str)) ?_ ?_ ls.length 0 _ (by omega) ⟨st, a, rfl, by simpa [varsTs] using ho⟩
        · rintro i c hi ⟨s, a', rfl, w⟩
          have htk := take_snoc hi
          have hq : (i : Int) < (fs.length : Int) := by omega
          obtain ⟨v, hv1, hV⟩ := ts_at hs hi
          have hih := ih ls[i] (by have := List.sizeOf_lt_of_mem (List.getElem_mem hi); omega) v s a' (varsTs out (ls.take i)) hV w (by
            have h1 := (varsT_len _).2 (ls.take i) (Nat.lt_succ_self _) out
            have h2 : szTs ls = szTs (ls.take i) + szTs (ls.drop i) := by rw [← szTs_app, List.take_append_drop]
            have h3 : szTs (ls.drop i) = szT ls[i] + szTs (ls.drop (i + 1)) := by rw [List.drop_eq_getElem_cons hi, szTs]
            omega)
          have hbv := isT_bare hV
          obtain ⟨nm2, ls2, y2, fs2, e0, rfl, hx2, _⟩ := isT_open hV
          simp only [w19_L2, unc_cons, asI_int, un0_nil, hx.len, ifB_decide, if_pos hq, hx.idx hv1, cells_agg, loadS_ip, List.drop_zero, takeT2, bindO_ok, unA_agg, unc_cons, asS_str, un0_nil]
          refine Goes.callW hih rfl (by simp only [Bool.and_false, show vE.full 19 = true from rfl, Bool.not_true]) ?_
          rintro u s3 w3
          simp only [letV_eq, wrapA1 (show i + 1 ≤ 9223372036854775807 by omega)]
          refine Goes.inl ⟨s3, u, rfl, ?_⟩
          rw [htk, varsTs_app]
          exact w3
        · rintro c ⟨s, a', rfl, w⟩
          rw [List.take_length] at w
          have hq : ¬ ((ls.length : Nat) : Int) < (fs.length : Int) := by omega
          simp only [w19_L2, unc_cons, asI_int, un0_nil, hx.len, ifB_decide, if_neg hq]
          exact Goes.inr ⟨s, a', rfl, w⟩
      · rintro c ⟨s, a', rfl, w⟩
        simp only [unc_cons, un0_nil]
        exact Goes.some w
/-- The program's variables. -/
abbrev LkV : AV := .fn (.func 49) [] [.mp 0 0, .mp 1 0]
abbrev Vx (v : AV) : Vrs := [(1, 78, [LkV]), (0, 38, [v])]
theorem nbM (v : AV) (i o : Nat) (l : List AV) (x : Bool) : (bares ((v :: .mp i o :: l).map strip) && x) = false := by
  simp only [List.map_cons, bares_cons, show strip (.mp i o) = .mp i o from rfl, show VM.bare (.mp i o) = false from rfl, Bool.false_and, Bool.and_false]
theorem szTs_take {ls : List Ty} {i : Nat} (hi : i < ls.length) (out : List Tx) : (varsTs out (ls.take i)).length + szT ls[i] ≤ out.length + szTs ls := by
  have h1 := (varsT_len _).2 (ls.take i) (Nat.lt_succ_self _) out
  have h2 : szTs ls = szTs (ls.take i) + szTs (ls.drop i) := by rw [← szTs_app, List.take_append_drop]
  have h3 : szTs (ls.drop i) = szT ls[i] + szTs (ls.drop (i + 1)) := by rw [List.drop_eq_getElem_cons hi, szTs]
  omega
theorem formTs_mem : ∀ {l : List Ty}, formTs l = true → ∀ t ∈ l, formT t = true
  | u :: l, h, t, ht => by
    simp only [formTs, Bool.and_eq_true] at h
    rcases List.mem_cons.1 ht with rfl | ht
    · exact h.1
    · exact formTs_mem h.2 t ht
theorem look_ok : ∀ (n : Nat) (t : Ty), SizeOf.sizeOf t < n → formT t = true → ∀ (v : AV) (st : St) (a : AV) (out : List Tx), IsT t v → Vo st (Vx a) 1 sT a (out.map AV.str) → out.length + szT t ≤ 1000000 →
    Goes ((orc vE).wide 49 [v, .mp 0 0, .mp 1 0] st) fun r => r.1 = .tup [] ∧ ∃ a', Vo r.2 (Vx a') 1 sT a' ((varsT out t).map AV.str) := by
  intro n
  induction n with
  | zero => intro t h; omega
  | succ n ih =>
    intro t hn hf v st a out hv w hz
    obtain ⟨nm, ls, y, fs, rfl, rfl, hx, hs⟩ := isT_open hv
    have hleaf := var_leaf hf
    simp only [formT, Bool.and_eq_true] at hf
    simp only [Ty.mk.sizeOf_spec] at hn
    simp only [szT] at hz
    have c := fun {γ : Type} (st : St) (K : Kv γ) => callT1 (str_b nm) rfl (var_prog nm) st K
    refine Goes.wide (Goes.step (w49_eq _ _ _ _) ?_)
    simp only [w49, unA_agg, unc_cons, asS_str, un0_nil, hx.asOne, hx.fit1, c, asB_bool]
    have key : ∀ (s : St) (a' : AV) (out' : List Tx), Vo s (Vx a') 1 sT a' (out'.map AV.str) → out'.length + szTs ls ≤ 1000000 → Goes (loopO (w49_L1 (.mp 1 0) y fs.length) ([.int .i64 0], s)) fun c => ∃ s2 a2, c = (0, [], s2) ∧ Vo s2 (Vx a2) 1 sT a2 ((varsTs out' ls).map AV.str) := by
      intro s a' out' w hz'
      have hlen := hs.len
      have hsl := slenT hx
      refine Goes.upto (n := ls.length) (I := fun i c => ∃ s a', c = ([.int .i64 (i : Int)], s) ∧ Vo s (Vx a') 1 sT a' ((varsTs out' (ls.take i)).map AV.str)) ?_ ?_ ls.length 0 _ (by omega) ⟨s, a', rfl, by simpa [varsTs] using w⟩
      · rintro i c hi ⟨s, a', rfl, w⟩
        have htk := take_snoc hi
        have hq : decide ((i : Int) < (fs.length : Int)) = true := decide_eq_true (by omega)
        obtain ⟨v, hv1, hV⟩ := ts_at hs hi
        have hIH := fun s a' w => ih ls[i] (by have := List.sizeOf_lt_of_mem (List.getElem_mem hi); omega) (formTs_mem hf.2 _ (List.getElem_mem hi)) v s a' (varsTs out' (ls.take i)) hV w (by have := szTs_take hi out'; omega)
        obtain ⟨nm2, ls2, y2, fs2, e0, rfl, hx2, _⟩ := isT_open hV
        simp only [w49_L1, unc_cons, asI_int, un0_nil, hq, ifB_true, hx.idx hv1, cells_agg, loadS_ip, List.drop_zero, takeT2, bindO_ok, unA_agg, asS_str]
        refine Goes.oalloc w fun s1 w => Goes.step (hx2.asOne _) ?_
        refine Goes.ost [] w (Nat.le_refl _) fun s2 _ _ w => ?_
        refine Goes.vload1 (List.mem_cons_of_mem _ List.mem_cons_self) w.w rfl (Goes.vload List.mem_cons_self w.w rfl ?_)
        simp only [splice, List.take_zero, List.nil_append, List.length_cons, List.length_nil, List.drop_succ_cons, List.drop_zero, List.append_nil, unA_agg, unc_cons, asS_str, un0_nil]
        refine Goes.step (show callF _ _ _ _ _ _ = callS (orc vE) 49 [_, .mp 0 0, .mp 1 0] s2 _ from rfl) ?_
        refine Goes.callW (hIH s2 a' (vo_sub w (List.sublist_cons_self _ _))) rfl (nbM _ _ _ _ _) ?_
        rintro u s3 ⟨_, a3, w3⟩
        simp only [letV_eq, wrapA1 (show i + 1 ≤ 9223372036854775807 by omega)]
        refine Goes.inl ⟨s3, a3, rfl, ?_⟩
        rw [htk, varsTs_app]
        exact w3
      · rintro c ⟨s, a', rfl, w⟩
        rw [List.take_length] at w
        have hq : decide (((ls.length : Nat) : Int) < (fs.length : Int)) = false := decide_eq_false (by omega)
        simp only [w49_L1, unc_cons, asI_int, un0_nil, hq, ifB_false]
        exact Goes.inr ⟨s, a', rfl, w⟩
    cases hvb : varB nm with
    | false =>
      simp only [ifB_false, bindO_ok, unc_cons, asB_bool, un0_nil, hx.len, varsT, hvb, Bool.false_eq_true]
      rw [if_neg (by simp)]
      refine Goes.bind (key st a out w (by omega)) ?_
      rintro c ⟨s2, a2, rfl, w2⟩
      simp only [un0_nil]
      exact Goes.some ⟨rfl, a2, w2⟩
    | true =>
      obtain rfl := hleaf hvb
      have ho := own_isSl w.o
      have cc := fun {γ : Type} (st : St) (K : Kv γ) => callS_strip (f := 50) (args := [a, .str nm]) (args' := [VM.strip a, .str nm]) st K rfl rfl (by simp only [bares_cons, (strs_sl ho).1]; rfl) (contains_ok ho nm)
      simp only [ifB_true]
      refine Goes.bind (R := fun c => c = ([AV.bool (!out.contains nm)], st)) ?_ ?_
      · refine Goes.vload1 (List.mem_cons_of_mem _ List.mem_cons_self) w.w rfl ?_
        simp only [cc, asB_bool]
        exact Goes.some rfl
      · rintro c rfl
        simp only [unc_cons, asB_bool, un0_nil, varsT, hvb, if_true]
        refine Goes.bind (R := fun c => ∃ s a', c = ([], s) ∧ Vo s (Vx a') 1 sT a' ((if out.contains nm = true then out else out ++ [nm]).map AV.str)) ?_ ?_
        · cases hc : out.contains nm with
          | true =>
            simp only [Bool.not_true, ifB_false, if_true]
            exact Goes.some ⟨st, a, rfl, w⟩
          | false =>
            simp only [Bool.not_false, ifB_true, Bool.false_eq_true, if_false]
            refine Goes.vload1 (List.mem_cons_of_mem _ List.mem_cons_self) w.w rfl ?_
            refine Goes.oapp w (by simp; omega) (by omega) (by omega) fun v' s fx w' => ?_
            have h1 := w'.o.one
            refine Goes.step (asOne_of h1 _) (Goes.step (asOne_of h1 _) ?_)
            refine Goes.ost [_] w' (Nat.le_refl _) fun s2 _ _ w2 => ?_
            refine Goes.some ⟨s2, v', rfl, ?_⟩
            rw [map_app]
            exact w2
        · rintro c ⟨s, a', rfl, w⟩
          simp only [un0_nil, hx.len]
          refine Goes.bind (key s a' _ w (by split <;> simp [szTs] <;> omega)) ?_
          rintro c ⟨s2, a2, rfl, w2⟩
          simp only [un0_nil]
          exact Goes.some ⟨rfl, a2, by simpa only [varsTs] using w2⟩
theorem vars_ok {t : Ty} {v : AV} (hv : IsT t v) (hf : formT t = true) (hz : szT t ≤ 1000000) : ∃ x, (orc vE).bare 33 [v] = some x ∧ IsSl 1 x ((varsT [] t).map AV.str) := by
  have h0 : Vo (St.mk 2 0 (Tr.node (some (VM.Obj.cells 38 [AV.nils])) (Tr.node (some (VM.Obj.cells 78 [LkV])) Tr.leaf Tr.leaf) Tr.leaf)) (Vx .nils) 1 sT .nils (([] : List Tx).map AV.str) := by
    have w0 : Vw S0 [] := Vw.start (Nat.le_refl _)
    have w1 := (w0.alloc 38 [.nils]).alloc 78 [LkV]
    exact ⟨w1, Own.nils w1.ro 1 sT⟩
  obtain ⟨⟨u, s⟩, e, hu, a', w⟩ := look_ok _ t (Nat.lt_succ_self _) hf v _ .nils [] hv h0 (by simpa using hz)
  have hu : u = .tup [] := hu
  subst hu
  obtain ⟨x, hx, e3⟩ := frz_own (β := AV) w.o
  refine ⟨x, ?_, hx⟩
  have cw := fun {γ : Type} (K : Kv γ) => callS_wide (E := vE) K (show vE.isLook 49 = false from rfl) (nbM v 0 0 [.mp 1 0] _) e
  have hl := fun {γ : Type} (z : Nat) (g : Bool) (o : Nat) (K : AV → List Nat → Option γ) => loadS_mp (w.w.get (List.mem_cons_of_mem _ List.mem_cons_self)) z g o K
  obtain ⟨nm, ls, y, fs, rfl, rfl, hy, hs⟩ := isT_open hv
  refine bare_of rfl ((g33_eq _).trans ?_)
  simp only [g33, unA_agg, unc_cons, asS_str, un0_nil, hy.asOne, hy.fit1, cw, hl, List.drop_zero, takeO_one, bindO_ok]
  rw [oneOf_one, e3]
end Go.Proofs.YtlfilkniobkbiaaDoor.Vm
/- A variable's letter. -/
namespace Go.Proofs.YtlfilkniobkbiaaDoor.Vm
open Go Go.VM Go.Proofs Go.Ty
theorem tdivN (n m : Nat) : Int.tdiv (n : Int) (m : Int) = ((n / m : Nat) : Int) := (Int.ofNat_tdiv n m).symm
theorem tmodN (n m : Nat) : Int.tmod (n : Int) (m : Int) = ((n % m : Nat) : Int) := (Int.ofNat_tmod n m).symm
theorem w64 {n : Int} (h : -9223372036854775808 ≤ n ∧ n ≤ 9223372036854775807) : IntKind.wrap .i64 n = n := by rw [IntKind.wrap_i64]; omega
theorem w8 {n : Int} (h : 0 ≤ n ∧ n ≤ 255) : IntKind.wrap .u8 n = n := by rw [IntKind.wrap_u8]; omega
theorem w32 {n : Int} (h : -2147483648 ≤ n ∧ n ≤ 2147483647) : IntKind.wrap .i32 n = n := by rw [IntKind.wrap_i32]; omega
theorem dig_ok : ∀ (f n : Nat), n < f → n ≤ 1000 → (orc vE).bare 40 [.int .i64 (n : Int)] = some (.str (digF f n)) := by
  intro f
  induction f with
  | zero => intro n h; omega
  | succ f ih =>
    intro n h hn
    refine bare_of rfl ((g40_eq _).trans ?_)
    by_cases h10 : n < 10
    · have q : decide ((n : Int) < 10) = true := decide_eq_true (by omega)
      have e : UInt8.ofNat (Int.toNat (48 + (n : Int))) = UInt8.ofNat (48 + n) := by congr 1
      simp only [g40, asI_int, q, ifB_true, letV_eq, w64 (n := 48 + (n : Int)) (by omega), w8 (n := 48 + (n : Int)) (by omega), e, digF, if_pos h10]
    · have q : decide ((n : Int) < 10) = false := decide_eq_false (by omega)
      have c := fun {γ : Type} (st : St) (K : Kv γ) => callT1 (int_b .i64 ((n / 10 : Nat) : Int)) rfl (ih (n / 10) (by omega) (by omega)) st K
      have e : UInt8.ofNat (Int.toNat (48 + ((n % 10 : Nat) : Int))) = UInt8.ofNat (48 + n % 10) := by congr 1
      have ed := tdivN n 10
      have em := tmodN n 10
      have ed : Int.tdiv (n : Int) 10 = _ := ed
      have em : Int.tmod (n : Int) 10 = _ := em
      have hl := digF_len f (n / 10) (by omega)
      have hlen : Nat.ble ((digF f (n / 10)).length + [UInt8.ofNat (48 + n % 10)].length) 9223372036854775807 = true := Nat.ble_eq_true_of_le (by simp; omega)
      simp only [g40, asI_int, q, ifB_false, letV_eq, ed, em, w64 (n := ((n / 10 : Nat) : Int)) (by omega), c, asS_str, w64 (n := 48 + ((n % 10 : Nat) : Int)) (by omega), w8 (n := 48 + ((n % 10 : Nat) : Int)) (by omega), e, digF, if_neg h10, hlen, show (apart q0 (Fx.mk [] Did.kept) && true) = true from rfl, chk_true]
end Go.Proofs.YtlfilkniobkbiaaDoor.Vm
/- A type's text, by the program. -/
namespace Go.Proofs.YtlfilkniobkbiaaDoor.Vm
open Go Go.VM Go.Proofs Go.Ty
theorem conv_rune {n : Int} (h0 : 0 ≤ n) (h1 : n < 128) {β : Type} (st : St) (K : Kv β) : planS (orc vE) (convertP (Env.T vE) 21 9 (AV.int .i32 n)) st K = K (.str [UInt8.ofNat n.toNat]) st q0 := by
  have e1 : ti (Env.T vE) 21 = .ok ⟨.int .i32, 1, 4, [.int .i32 0], false, false⟩ := by kernel_rfl
  have e2 : ti (Env.T vE) 9 = .ok ⟨.str, 1, 16, [.str []], false, false⟩ := by kernel_rfl
  have hb : (Nat.blt 0 (n + 1).toNat && Nat.blt n.toNat 128) = true := by
    rw [blt_true.2 (show 0 < (n + 1).toNat by omega), blt_true.2 (show n.toNat < 128 by omega)]; rfl
  have e : convertP (Env.T vE) 21 9 (AV.int .i32 n) = .ok (.val (.str [UInt8.ofNat n.toNat])) := by
    unfold convertP
    rw [e1, e2]
    simp only [ok_bind, hb, pure_eq]
  rw [e]; rfl
theorem dec_dig (k : Nat) (h : k < 100) : Lib.decDigits k = digits k := by
  unfold digits digF
  rw [Lib.decDigits]
  by_cases h10 : k < 10
  · rw [dif_pos h10, if_pos h10]
  · rw [dif_neg h10, if_neg h10, Lib.decDigits, dif_pos (by omega)]
    obtain ⟨f, rfl⟩ : ∃ f, k = f + 1 := ⟨k - 1, by omega⟩
    rw [digF, if_pos (by omega)]
theorem itoa_ok {k : Nat} (h : k < 100) {β : Type} (st : St) (K : Kv β) : planS (orc vE) (primP (Prim.lib libItoa) [AV.int .i64 (k : Int)]) st K = K (.str (digits k)) st q0 := by
  have e : libItoa [AV.int .i64 (k : Int)] = .ok (.str (digits k)) := by
    show (match Nat.blt k 100 with | true => Except.ok (AV.str (Lib.decDigits k)) | false => _) = _
    rw [blt_true.2 h, dec_dig k h]
  exact planS_lib e st K
theorem wrap_tail (own close : Nat) (s : Tx) (hs : s.length ≤ 1000000) : ifB (decide ((own : Int) < (close : Int))) (chk (Nat.ble (1 + s.length) 9223372036854775807) (letV (40 :: s) fun l => chk (Nat.ble (l.length + 1) 9223372036854775807) (letV (l ++ [41]) fun m => some (AV.str m)))) (some (AV.str s)) = some (AV.str (wrapT own close s)) := by
  unfold wrapT
  have h1 : Nat.ble (1 + s.length) 9223372036854775807 = true := Nat.ble_eq_true_of_le (by omega)
  have h2 : Nat.ble ((40 :: s).length + 1) 9223372036854775807 = true := Nat.ble_eq_true_of_le (by simp; omega)
  by_cases h : own < close
  · rw [decide_eq_true (show (own : Int) < (close : Int) by omega), if_pos h]
    simp only [ifB_true, h1, chk_true, letV_eq, h2]
  · rw [decide_eq_false (show ¬ (own : Int) < (close : Int) by omega), if_neg h]
    rfl
theorem names_b {x : AV} {vs : List Tx} (hx : IsSl 1 x (vs.map AV.str)) : VM.bare (.agg [x]) = true ∧ VM.strip (.agg [x]) = .agg [x] := by
  refine ⟨?_, rfl⟩
  rw [bare_agg]
  simp only [bares_cons, (strs_sl hx).1]
  rfl
theorem showTs_map (vs : List Tx) {nm : Tx} (h : nm ≠ sArrow) : ∀ (l : List Ty) (i : Nat), showTs vs nm i l = l.map (showT vs 2)
  | [], _ => rfl
  | t :: l, i => by
    rw [showTs, showTs_map vs h l (i + 1), List.map_cons]
    unfold closeA
    rw [if_neg h]
theorem tup_loop {x y : AV} {vs : List Tx} {ls : List Ty} {fs : List AV} (hy : IsSl 2 y fs) (hlen : fs.length = ls.length) (h1 : ls.length ≤ 100000)
    (IH : ∀ {i : Nat} (hi : i < ls.length), ∃ (nm2 : Tx) (y2 : AV) (es2 : List AV), fs[i]? = some (.agg [.str nm2, y2]) ∧ IsSl 2 y2 es2 ∧ ∀ {γ : Type} (st : St) (K : Kv γ), callS (orc vE) 34 [.agg [x], .agg [.str nm2, y2], .int .i64 (2 : Nat)] st K = K (.str (showT vs 2 ls[i])) st q0) {st0 : St} (hro : st0.ro ≤ st0.h) :
    Goes (loopO (g34_L1 x y fs.length) ([.nils, .int .i64 0], st0)) fun c => ∃ s v, c = (0, [v], s) ∧ Own s 1 sT v ((ls.map (showT vs 2)).map AV.str) := by
  refine Goes.upto (n := ls.length) (I := fun i c => ∃ s v, c = ([v, .int .i64 (i : Int)], s) ∧ Wv st0 s [] 1 sT v (((ls.take i).map (showT vs 2)).map AV.str)) ?_ ?_ ls.length 0 _ (by omega) ⟨st0, .nils, rfl, Wv.start hro 1 sT⟩
  · rintro i c hi ⟨s, v, rfl, w⟩
    have htk := take_snoc hi
    have hq : decide ((i : Int) < (fs.length : Int)) = true := decide_eq_true (by omega)
    obtain ⟨nm2, y2, es2, hv, hy2, c2⟩ := IH hi
    have c2 : ∀ {γ : Type} (st : St) (K : Kv γ), callS (orc vE) 34 [.agg [x], .agg [.str nm2, y2], .int .i64 2] st K = _ := c2
    simp only [g34_L1, unc_cons, asI_int, un0_nil, hq, ifB_true, hy.idx hv, cells_agg, loadS_ip, List.drop_zero, takeT2, bindO_ok, unA_agg, asS_str]
    refine Goes.walloc w fun s1 _ w => Goes.step (hy2.asOne _) ?_
    refine Goes.wstore [] w fun s2 _ _ w => ?_
    refine Goes.vload List.mem_cons_self w.w rfl ?_
    simp only [unA_agg, unc_cons, asS_str, un0_nil, c2]
    refine Goes.wapp w.none (by simp; omega) (by omega) (by omega) fun v' s3 fx w3 => ?_
    simp only [letV_eq, wrapA1 (show i + 1 ≤ 9223372036854775807 by omega)]
    refine Goes.inl ⟨s3, v', rfl, ?_⟩
    rw [htk, List.map_append, List.map_append]
    exact w3
  · rintro c ⟨s, v, rfl, w⟩
    rw [List.take_length] at w
    have hq : decide (((ls.length : Nat) : Int) < (fs.length : Int)) = false := decide_eq_false (by omega)
    simp only [g34_L1, unc_cons, asI_int, un0_nil, hq, ifB_false]
    exact Goes.inr ⟨s, v, rfl, w.o⟩
theorem strsOf_str : ∀ (L : List Tx), strsOf (L.map AV.str) = .ok L
  | [] => rfl
  | s :: L => by
    rw [List.map_cons, strsOf, strsOf_str L]
theorem join_ok {s : St} {v : AV} {L : List Tx} (ho : Own s 1 sT v (L.map AV.str)) (hne : L ≠ []) (hl : (Lib.join L sepT).length ≤ 1000000) (h2 : L.length ≤ 1000000) {β : Type} (st : St) (K : Kv β) : planS (orc vE) (primP (Prim.lib libJoin) [v, AV.str [32, 42, 32]]) st K = K (.str (sepT.intercalate L)) st q0 := by
  have hb : (Nat.ble (Lib.join L sepT).length 140737488355328 && Nat.ble L.length 140737488355328) = true := by
    rw [Nat.ble_eq_true_of_le (by omega), Nat.ble_eq_true_of_le (by omega)]; rfl
  have hb : (Nat.ble (Lib.join L [32, 42, 32]).length 140737488355328 && Nat.ble L.length 140737488355328) = true := hb
  have e : libJoin [v, AV.str [32, 42, 32]] = .ok (.str (sepT.intercalate L)) := by
    rcases ho with ⟨_, _, ⟨_, he⟩ | rfl | ⟨k, rfl, _, _⟩⟩
    · exact absurd (List.map_eq_nil_iff.1 he) hne
    · simp only [libJoin, strsOf_str, hb]; rfl
    · simp only [libJoin, strsOf_str, hb]; rfl
  exact planS_lib e st K
theorem text_ok {x : AV} {vs : List Tx} (hx : IsSl 1 x (vs.map AV.str)) (hvs : vs.length ≤ 1000) : ∀ (n : Nat) (t : Ty), SizeOf.sizeOf t < n → formT t = true → szT t ≤ 1000 → ∀ (v : AV) (c : Nat), IsT t v → (orc vE).bare 34 [.agg [x], v, .int .i64 (c : Int)] = some (.str (showT vs c t)) := by
  intro n
  induction n with
  | zero => intro t h; omega
  | succ n ih =>
    intro t hn hf hsz v c hv
    obtain ⟨nm, ls, y, fs, rfl, rfl, hy, hs⟩ := isT_open hv
    have hlenT := showT_len (vs := vs) (by omega) hf c
    have hf0 := hf
    simp only [formT, Bool.and_eq_true] at hf
    simp only [Ty.mk.sizeOf_spec] at hn
    simp only [szT] at hsz
    have ci := fun {γ : Type} (st : St) (K : Kv γ) => callT2 (strs_sl hx) (str_b nm) rfl (index_ok hx nm) st K
    have IH : ∀ {i : Nat} (hi : i < ls.length) (c : Nat), ∃ (nm2 : Tx) (y2 : AV) (es2 : List AV), fs[i]? = some (.agg [.str nm2, y2]) ∧ IsSl 2 y2 es2 ∧ ∀ {γ : Type} (st : St) (K : Kv γ), callS (orc vE) 34 [.agg [x], .agg [.str nm2, y2], .int .i64 (c : Int)] st K = K (.str (showT vs c ls[i])) st q0 := by
      intro i hi c
      obtain ⟨v, hv1, hV⟩ := ts_at hs hi
      have h1 : szT ls[i] ≤ szTs ls := by
        have := szTs_take hi ([] : List Tx)
        simp at this; omega
      have hb := isT_bare hV
      have hk := ih ls[i] (by have := List.sizeOf_lt_of_mem (List.getElem_mem hi); omega) (formTs_mem hf.2 _ (List.getElem_mem hi)) (by omega) v c hV
      obtain ⟨nm2, ls2, y2, fs2, e0, rfl, hx2, _⟩ := isT_open hV
      exact ⟨nm2, y2, fs2, hv1, hx2, fun st K => callT3 (names_b hx) hb (int_b .i64 (c : Int)) rfl hk st K⟩
    refine bare_of rfl ((g34_eq _ _ _).trans ?_)
    by_cases hc : vs.contains nm = true
    · have hi : vs.idxOf nm < vs.length := List.idxOf_lt_length_iff.2 (by simpa using hc)
      have e0 : idxI vs nm = ((vs.idxOf nm : Nat) : Int) := by unfold idxI; rw [if_pos hc]
      simp only [showT, if_pos hc]
      generalize vs.idxOf nm = i at *
      rw [e0] at ci
      have q : decide ((i : Int) ≥ 0) = true := decide_eq_true (by omega)
      have em : Int.tmod (i : Int) 26 = ((i % 26 : Nat) : Int) := tmodN i 26
      have ed : Int.tdiv (i : Int) 26 = ((i / 26 : Nat) : Int) := tdivN i 26
      have e : UInt8.ofNat (Int.toNat (97 + ((i % 26 : Nat) : Int))) = UInt8.ofNat (97 + i % 26) := by congr 1
      have h1 : Nat.ble (1 + [UInt8.ofNat (97 + i % 26)].length) 9223372036854775807 = true := rfl
      unfold letter
      by_cases h26 : 26 ≤ i
      · have q2 : decide ((i : Int) ≥ 26) = true := decide_eq_true (by omega)
        have hl := digF_len (i / 26 + 1) (i / 26) (by omega)
        have h2 : Nat.ble ((39 :: [UInt8.ofNat (97 + i % 26)]).length + (digits (i / 26)).length) 9223372036854775807 = true := Nat.ble_eq_true_of_le (by simp [digits]; omega)
        have it := fun {γ : Type} (st : St) (K : Kv γ) => itoa_ok (k := i / 26) (by omega) st K
        simp only [g34, unA_agg, unc_cons, un0_nil, asS_str, asI_int, hx.asOne, hx.fit1, hy.asOne, hy.fit1, ci, q, ifB_true, letV_eq, em, ed, w64 (n := 97 + ((i % 26 : Nat) : Int)) (by omega), w32 (n := 97 + ((i % 26 : Nat) : Int)) (by omega), conv_rune (n := 97 + ((i % 26 : Nat) : Int)) (by omega) (by omega), e, h1, chk_true, q2, w64 (n := ((i / 26 : Nat) : Int)) (by omega), it, h2, bindO_ok, if_pos h26]
      · have q2 : decide ((i : Int) ≥ 26) = false := decide_eq_false (by omega)
        simp only [g34, unA_agg, unc_cons, un0_nil, asS_str, asI_int, hx.asOne, hx.fit1, hy.asOne, hy.fit1, ci, q, ifB_true, letV_eq, em, w64 (n := 97 + ((i % 26 : Nat) : Int)) (by omega), w32 (n := 97 + ((i % 26 : Nat) : Int)) (by omega), conv_rune (n := 97 + ((i % 26 : Nat) : Int)) (by omega) (by omega), e, h1, chk_true, q2, ifB_false, bindO_ok, if_neg h26, List.append_nil]
    · have e0 : idxI vs nm = -1 := by unfold idxI; rw [if_neg hc]
      rw [e0] at ci
      simp only [showT, if_neg hc]
      have hbl := bodyT_len nm (showTs vs nm 0 ls)
      have h3 := nameOk_len hf.1
      have h4 := (show_len vs (by omega) _).2 ls (Nat.lt_succ_self _) hf.2 nm 0
      have h7 := showTs_len vs nm ls 0
      have hB : (bodyT nm (showTs vs nm 0 ls)).length ≤ 1000000 := by omega
      have hq : decide ((-1 : Int) ≥ 0) = false := rfl
      by_cases ha : nm = sArrow
      · subst ha
        have h2 : ls.length = 2 := by
          have := hf.1
          have e : nameOk sArrow ls.length = ((ls.length : Int) == 2) := rfl
          rw [e, beq_iff_eq] at this
          omega
        obtain ⟨t0, t1, rfl⟩ : ∃ t0 t1, ls = [t0, t1] := by
          match ls, h2 with
          | [t0, t1], _ => exact ⟨t0, t1, rfl⟩
        obtain ⟨nm0, y0, es0, hv0, hy0, c0⟩ := IH (i := 0) (by simp) 1
        obtain ⟨nm1, y1, es1, hv1, hy1, c1⟩ := IH (i := 1) (by simp) 0
        have i0 := fun {γ : Type} (st : St) (K : AV → List Nat → Option γ) => hy.idx hv0 st K
        have i1 := fun {γ : Type} (st : St) (K : AV → List Nat → Option γ) => hy.idx hv1 st K
        have i0 : ∀ {γ : Type} (st : St) (K : AV → List Nat → Option γ), idxA 2 y 0 st K = _ := i0
        have i1 : ∀ {γ : Type} (st : St) (K : AV → List Nat → Option γ), idxA 2 y 1 st K = _ := i1
        have c0 : ∀ {γ : Type} (st : St) (K : Kv γ), callS (orc vE) 34 [.agg [x], .agg [.str nm0, y0], .int .i64 1] st K = K (.str (showT vs 1 t0)) st q0 := c0
        have c1 : ∀ {γ : Type} (st : St) (K : Kv γ), callS (orc vE) 34 [.agg [x], .agg [.str nm1, y1], .int .i64 0] st K = K (.str (showT vs 0 t1)) st q0 := c1
        have hbo : bodyT sArrow (showTs vs sArrow 0 [t0, t1]) = showT vs 1 t0 ++ [32, 45, 62, 32] ++ showT vs 0 t1 := rfl
        rw [hbo] at hB ⊢
        simp only [List.length_append] at hB
        have hb1 : Nat.ble (Nat.succ (Nat.succ (Nat.succ ((showT vs 1 t0).length + 1)))) 9223372036854775807 = true := Nat.ble_eq_true_of_le (by omega)
        have hb2 : Nat.ble ((showT vs 1 t0 ++ [32, 45, 62, 32]).length + (showT vs 0 t1).length) 9223372036854775807 = true := Nat.ble_eq_true_of_le (by simp only [List.length_append]; omega)
        have wt := wrap_tail 0 c (showT vs 1 t0 ++ [32, 45, 62, 32] ++ showT vs 0 t1) (by simp only [List.length_append]; omega)
        have wt : ifB (decide ((0 : Int) < (c : Int))) _ _ = _ := wt
        have hown : ownB sArrow = 0 := rfl
        rw [hown, ← wt]
        simp only [g34, unA_agg, unc_cons, un0_nil, asS_str, asI_int, hx.asOne, hx.fit1, hy.asOne, hy.fit1, ci, hq, ifB_false, show (sArrow == ([45, 62] : Tx)) = true from rfl, ifB_true, i0, i1, cells_agg, loadS_ip, List.drop_zero, takeT2, bindO_ok, c0, c1, hb1, hb2, chk_true, letV_eq, show (apart q0 (Fx.mk [] Did.kept) && true) = true from rfl, show (apart (Fx.mk [] Did.kept) q0 && true) = true from rfl]
      · have ha' : (nm == ([45, 62] : Tx)) = false := by rw [beq_eq_false_iff_ne]; exact ha
        by_cases ht : nm = sTuple
        · subst ht
          have h2 : 2 ≤ ls.length := by
            have := hf.1
            have e : nameOk sTuple ls.length = decide ((ls.length : Int) ≥ 2) := rfl
            rw [e, decide_eq_true_eq] at this
            omega
          have hsl := hs.len
          have hll := szTs_len ls
          obtain ⟨c2, lp, s, v, rfl, ho⟩ := tup_loop (x := x) (vs := vs) hy hsl (by omega) (fun {i} hi => IH hi 2) (st0 := S0) (Nat.le_refl _)
          have lp : loopO (g34_L1 x y fs.length) ([.nils, .int .i64 0], St.mk 0 0 Tr.leaf) = _ := lp
          rw [showTs_map vs ha] at hB ⊢
          have hbo : bodyT sTuple (ls.map (showT vs 2)) = sepT.intercalate (ls.map (showT vs 2)) := rfl
          rw [hbo] at hB ⊢
          have hne : ls.map (showT vs 2) ≠ [] := fun e => by
            have := congrArg List.length e
            simp at this
            rw [this] at h2; simp at h2
          have jo := fun {γ : Type} (st : St) (K : Kv γ) => join_ok ho hne hB (by simp; omega) st K
          have wt := wrap_tail 1 c (sepT.intercalate (ls.map (showT vs 2))) hB
          have wt : ifB (decide ((1 : Int) < (c : Int))) _ _ = _ := wt
          have hown : ownB sTuple = 1 := rfl
          rw [hown, ← wt]
          simp only [g34, unA_agg, unc_cons, un0_nil, asS_str, asI_int, hx.asOne, hx.fit1, hy.asOne, hy.fit1, ci, hq, ifB_false, show (sTuple == ([45, 62] : Tx)) = false from rfl, show (sTuple == ([116, 117, 112, 108, 101] : Tx)) = true from rfl, ifB_true, hy.len, lp, bindO_ok, jo]
        · have ht' : (nm == ([116, 117, 112, 108, 101] : Tx)) = false := by rw [beq_eq_false_iff_ne]; exact ht
          have hown : ownB nm = 2 := by unfold ownB; rw [if_neg ha, if_neg ht]
          rw [hown]
          by_cases hl : nm = sList
          · subst hl
            have h2 : ls.length = 1 := by
              have := hf.1
              have e : nameOk sList ls.length = ((ls.length : Int) == 1) := rfl
              rw [e, beq_iff_eq] at this
              omega
            obtain ⟨t0, rfl⟩ : ∃ t0, ls = [t0] := by
              match ls, h2 with
              | [t0], _ => exact ⟨t0, rfl⟩
            obtain ⟨nm0, y0, es0, hv0, hy0, c0⟩ := IH (i := 0) (by simp) 2
            have i0 := fun {γ : Type} (st : St) (K : AV → List Nat → Option γ) => hy.idx hv0 st K
            have i0 : ∀ {γ : Type} (st : St) (K : AV → List Nat → Option γ), idxA 2 y 0 st K = _ := i0
            have c0 : ∀ {γ : Type} (st : St) (K : Kv γ), callS (orc vE) 34 [.agg [x], .agg [.str nm0, y0], .int .i64 2] st K = K (.str (showT vs 2 t0)) st q0 := c0
            have hbo : bodyT sList (showTs vs sList 0 [t0]) = showT vs 2 t0 ++ [32, 108, 105, 115, 116] := rfl
            rw [hbo] at hB ⊢
            simp only [List.length_append] at hB
            have hb1 : Nat.ble (Nat.succ (Nat.succ (Nat.succ (Nat.succ ((showT vs 2 t0).length + 1))))) 9223372036854775807 = true := Nat.ble_eq_true_of_le (by omega)
            have wt := wrap_tail 2 c (showT vs 2 t0 ++ [32, 108, 105, 115, 116]) (by simp only [List.length_append]; omega)
            have wt : ifB (decide ((2 : Int) < (c : Int))) _ _ = _ := wt
            rw [← wt]
            simp only [g34, unA_agg, unc_cons, un0_nil, asS_str, asI_int, hx.asOne, hx.fit1, hy.asOne, hy.fit1, ci, hq, ifB_false, show (sList == ([45, 62] : Tx)) = false from rfl, show (sList == ([116, 117, 112, 108, 101] : Tx)) = false from rfl, show (sList == ([108, 105, 115, 116] : Tx)) = true from rfl, ifB_true, i0, cells_agg, loadS_ip, List.drop_zero, takeT2, bindO_ok, c0, hb1, chk_true, letV_eq]
          · have hl' : (nm == ([108, 105, 115, 116] : Tx)) = false := by rw [beq_eq_false_iff_ne]; exact hl
            have hbo : bodyT nm (showTs vs nm 0 ls) = nm := by unfold bodyT; rw [if_neg ha, if_neg ht, if_neg hl]
            rw [hbo] at hB ⊢
            have wt := wrap_tail 2 c nm hB
            have wt : ifB (decide ((2 : Int) < (c : Int))) _ _ = _ := wt
            rw [← wt]
            simp only [g34, unA_agg, unc_cons, un0_nil, asS_str, asI_int, hx.asOne, hx.fit1, hy.asOne, hy.fit1, ci, hq, ifB_false, ha', ht', hl', bindO_ok]
end Go.Proofs.YtlfilkniobkbiaaDoor.Vm
/- A type's text, by the document. -/
namespace Go.Proofs.YtlfilkniobkbiaaDoor.Vm
open Go Go.VM Go.Proofs Go.Ty
end Go.Proofs.YtlfilkniobkbiaaDoor.Vm
/- The examples run. -/
namespace Go.Proofs.YtlfilkniobkbiaaDoor.Vm
open Go Go.VM Go.Proofs
theorem awake_run : (caller vE 3000).bare 9 [] = .ok (.bool true) := by kernel_rfl
end Go.Proofs.YtlfilkniobkbiaaDoor.Vm
/- The texts of types; the law TyShows. -/
namespace Go.Proofs.YtlfilkniobkbiaaDoor.Vm
open Go Go.VM Go.Proofs Go.Ty
theorem may_facts {t : Ty} (h : mayT t = true) : szT t ≤ 512 ∧ formT t = true := by
  unfold mayT at h
  rw [Bool.and_eq_true, decide_eq_true_eq] at h
  exact h
theorem show_prog {t : Ty} {v : AV} (hv : IsT t v) : (orc vE).bare 12 [v] = some (.str (textT t)) := by
  have cm := fun {γ : Type} (st : St) (K : Kv γ) => callT1 (isT_bare hv) rfl (may_prog hv) st K
  refine bare_of rfl ((g12_eq _).trans ?_)
  unfold textT
  cases hm : mayT t with
  | false =>
    rw [hm] at cm
    obtain ⟨nm, ls, y, fs, rfl, rfl, hy, hs⟩ := isT_open hv
    simp only [g12, unA_agg, unc_cons, un0_nil, asS_str, hy.asOne, hy.fit1, cm, asB_bool, Bool.not_false, ifB_true, Bool.false_eq_true, if_false]
  | true =>
    obtain ⟨h1, h2⟩ := may_facts hm
    obtain ⟨x, hk, hx⟩ := vars_ok hv h2 (by omega)
    have cv := fun {γ : Type} (st : St) (K : Kv γ) => callT1 (isT_bare hv) rfl hk st K
    have hlen := vars_len t []
    have ht := text_ok hx (by simp at hlen; omega) _ t (Nat.lt_succ_self _) h2 (by omega) v 0 hv
    have ct := fun {γ : Type} (st : St) (K : Kv γ) => callT3 (names_b hx) (isT_bare hv) (int_b .i64 (0 : Nat)) rfl ht st K
    have ct : ∀ {γ : Type} (st : St) (K : Kv γ), callS (orc vE) 34 [.agg [x], v, .int .i64 0] st K = _ := ct
    have h1' : VM.one x = true := by rcases hx.2 with ⟨rfl | rfl, _⟩ | rfl | rfl <;> rfl
    rw [hm] at cm
    obtain ⟨nm, ls, y, fs, rfl, rfl, hy, hs⟩ := isT_open hv
    simp only [g12, unA_agg, unc_cons, un0_nil, asS_str, hy.asOne, hy.fit1, cm, asB_bool, Bool.not_true, ifB_false, cv, asOne_of h1', show (apart q0 (Fx.mk [] Did.kept) && true) = true from rfl, chk_true, ct, if_true]
end Go.Proofs.YtlfilkniobkbiaaDoor.Vm
namespace Go.Proofs.YtlfilkniobkbiaaDoor.Vm
open Go Go.VM Go.Proofs
/-- rostrum/rostrumlaw16.TyTexts -/
noncomputable def g6 : AV → AV → Option AV := fun x0 x1 => unA x0 fun l1 => unc l1 fun v2 l3 => asS v2 fun l4 => unc l3 fun v5 l6 => un0 l6 (unA x1 fun l8 => unc l8 fun v9 l10 => asS v9 fun l11 => unc l10 fun v12 l13 =>
 un0 l13 (asOne v5 (fit1 v5 fun v14 => asOne v12 (fit1 v12 fun v15 => bindO (callS (orc vE) 8 [AV.agg [AV.str l4, v14], AV.int .i64 600] (St.mk 0 0 Tr.leaf) fun v17 st18 _x => asI .i64 v17 fun n20 => ifB (decide (n20 ≥
 600)) (some ([AV.bool true], st18)) (callS (orc vE) 8 [AV.agg [AV.str l11, v15], AV.int .i64 600] st18 fun v22 st23 _x => asI .i64 v22 fun n25 => ifB (decide (n25 ≥ 600)) (some ([AV.bool true], st23)) (callS (orc vE) 9
 [] st23 fun v26 st27 _x => asB v26 fun b29 => some ([AV.bool !b29], st27)))) fun c30 => unc (Prod.fst c30) fun v31 l32 => asB v31 fun b33 => un0 l32 (ifB b33 (callS (orc vE) 9 [] (Prod.snd c30) fun v34 _x _x_1 => asB
 v34 fun b37 => some (AV.bool b37)) (bindO (callS (orc vE) 10 [AV.agg [AV.str l4, v14]] (Prod.snd c30) fun v39 st40 _x => asB v39 fun b42 => ifB (!b42) (some ([AV.bool true], st40)) (callS (orc vE) 10 [AV.agg [AV.str
 l11, v15]] st40 fun v44 st45 _x => asB v44 fun b47 => some ([AV.bool !b47], st45))) fun c48 => unc (Prod.fst c48) fun v49 l50 => asB v49 fun b51 => un0 l50 (ifB b51 (some (AV.bool true)) (callS (orc vE) 19 [AV.nils,
 AV.agg [AV.str l4, v14]] (Prod.snd c48) fun v53 st54 x55 => chk (apart x55 (Fx.mk [] Did.kept) && true) (callS (orc vE) 19 [AV.nils, AV.agg [AV.str l11, v15]] st54 fun v57 st58 _x => bindO (callS (orc vE) 12 [AV.agg
 [AV.str l4, v14]] st58 fun v61 st62 x63 => asS v61 fun l64 => chk (apart x63 (Fx.mk [] Did.kept) && true) (callS (orc vE) 12 [AV.agg [AV.str l11, v15]] st62 fun v66 st67 x68 => asS v66 fun l69 => chk (apart x68 (Fx.mk
 [] Did.kept) && (apart x63 (Fx.mk [] Did.kept) && true)) (lenS v53 fun k70 => chk (apart x68 (Fx.mk [] Did.kept) && (apart x63 (Fx.mk [] Did.kept) && true)) (chk (apart x68 (Fx.mk [] Did.kept) && (apart x63 (Fx.mk []
 Did.kept) && true)) (lenS v57 fun k71 => chk (apart x68 (Fx.mk [] Did.kept) && (apart x63 (Fx.mk [] Did.kept) && true)) (chk (apart x68 (Fx.mk [] Did.kept) && (apart x63 (Fx.mk [] Did.kept) && true)) (ifB ((↑k70 : Int)
 == (↑k71 : Int)) (callS (orc vE) 21 [AV.agg [AV.str l4, v14], v53] st67 fun v73 st74 x75 => unA v73 fun l77 => unc l77 fun v78 l79 => asS v78 fun l80 => unc l79 fun v81 l82 => un0 l82 (chk (apart (Fx.mk [] Did.kept) x75
 && true) (chk (apart x75 (Fx.mk [] Did.kept) && true) (chk (apart x75 (Fx.mk [] Did.kept) && true) (callS (orc vE) 21 [AV.agg [AV.str l11, v15], v57] st74 fun v84 st85 x86 => unA v84 fun l88 => unc l88 fun v89 l90 =>
 asS v89 fun l91 => unc l90 fun v92 l93 => un0 l93 (chk (apart (Fx.mk [] Did.kept) x86 && true) (callS (orc vE) 18 [AV.agg [AV.str l80, v81], AV.agg [AV.str l91, v92]] st85 fun v94 st95 x96 => asB v94 fun b97 => chk
 (apart (Fx.mk [] Did.kept) x96 && true) (some ([AV.bool ((l64 == l69) == b97)], st95))))))))) (some ([AV.bool ((l64 == l69) == false)], st67))))))))) fun c98 => unc (Prod.fst c98) fun v99 l100 => asB v99 fun b101 => un0
 l100 (some (AV.bool b101)))))))))))
theorem g6_eq (x0 x1 : AV) : bareS vE 6 [x0, x1] = g6 x0 x1 := by kernel_rfl
/-- rostrum/rostrumref16.Same -/
noncomputable def g18_L1 (v14 : AV) (v15 : AV) : Car → Option (Car ⊕ Nat × Car) := fun c22 => unc (Prod.fst c22) fun v23 l24 => asB v23 fun b25 => unc l24 fun v26 l27 => asI .i64 v26 fun n28 => un0 l27 (lenS v14 fun k29
 => ifB (decide (n28 < (↑k29 : Int))) (idxA 2 v14 n28 (Prod.snd c22) fun v30 _x => loadS 2 true v30 (Prod.snd c22) fun v32 _x => unA v32 fun l35 => unc l35 fun v36 l37 => asS v36 fun l38 => unc l37 fun v39 l40 => un0 l40
 (idxA 2 v15 n28 (Prod.snd c22) fun v41 _x => loadS 2 true v41 (Prod.snd c22) fun v43 _x => unA v43 fun l46 => unc l46 fun v47 l48 => asS v47 fun l49 => unc l48 fun v50 l51 => un0 l51 (callS (orc vE) 18 [AV.agg [AV.str
 l38, v39], AV.agg [AV.str l49, v50]] (Prod.snd c22) fun v52 st53 _x => asB v52 fun b55 => ifB (!b55) (some (Sum.inr (1, [AV.bool false], st53))) (letV (IntKind.wrap .i64 (n28 + 1)) fun n56 => some (Sum.inl ([AV.bool
 b25, AV.int .i64 n56], st53)))))) (some (Sum.inr (0, [AV.bool b25], Prod.snd c22))))
noncomputable def g18 : AV → AV → Option AV := fun x0 x1 => unA x0 fun l1 => unc l1 fun v2 l3 => asS v2 fun l4 => unc l3 fun v5 l6 => un0 l6 (unA x1 fun l8 => unc l8 fun v9 l10 => asS v9 fun l11 => unc l10 fun v12 l13
 => un0 l13 (asOne v5 (fit1 v5 fun v14 => asOne v12 (fit1 v12 fun v15 => bindO (ifB (!l4 == l11) (some ([AV.bool true], St.mk 0 0 Tr.leaf)) (lenS v14 fun k16 => lenS v15 fun k17 => some ([AV.bool ((↑k16 : Int) != (↑k17 :
 Int))], St.mk 0 0 Tr.leaf))) fun c18 => unc (Prod.fst c18) fun v19 l20 => asB v19 fun b21 => un0 l20 (ifB b21 (some (AV.bool false)) (bindO (loopO (g18_L1 v14 v15) ([AV.bool false, AV.int .i64 0], Prod.snd c18)) fun c57
 => unc (Prod.fst (Prod.snd c57)) fun v58 l59 => asB v58 fun b60 => un0 l59 (sel2 (Prod.fst c57) (some (AV.bool true)) fun _x => some (AV.bool b60))))))))
theorem g18_eq (x0 x1 : AV) : bareS vE 18 [x0, x1] = g18 x0 x1 := by kernel_rfl
/-- rostrum/rostrumlaw16.named -/
noncomputable def g21_L1 (x1 : AV) (l4 : List UInt8) : Car → Option (Car ⊕ Nat × Car) := fun c8 => unc (Prod.fst c8) fun v9 l10 => asI .i64 v9 fun n11 => un0 l10 (lenS x1 fun k12 => ifB (decide (n11 < (↑k12 : Int)))
 (idxA 1 x1 n11 (Prod.snd c8) fun v13 _x => loadS 1 false v13 (Prod.snd c8) fun v15 _x => asS v15 fun l17 => ifB (l17 == l4) (callS (orc vE) 40 [AV.int .i64 n11] (Prod.snd c8) fun v18 st19 _x => asS v18 fun l21 => storeS
 (orc vE) 2 (AV.mp 0 0) (AV.agg [AV.str l21, AV.nils]) [AV.str l21, AV.nils] st19 fun _x st24 _x_1 => some (Sum.inr (1, [], st24))) (letV (IntKind.wrap .i64 (n11 + 1)) fun n26 => some (Sum.inl ([AV.int .i64 n26],
 Prod.snd c8)))) (some (Sum.inr (0, [], Prod.snd c8))))
noncomputable def g21_L2 (x1 : AV) (v7 : AV) (c27 : Nat × Car) : Car → Option (Car ⊕ Nat × Car) := fun c33 => unc (Prod.fst c33) fun v34 l35 => asI .i64 v34 fun n36 => un0 l35 (lenS v7 fun k37 => ifB (decide (n36 <
 (↑k37 : Int))) (loadS 1 false (AV.mp (St.h (Prod.snd (Prod.snd c27))) 1) (Prod.snd c33) fun v38 l39 => idxA 2 v7 n36 (Prod.snd c33) fun v40 _x => loadS 2 true v40 (Prod.snd c33) fun v42 _x => unA v42 fun l45 => unc l45
 fun v46 l47 => asS v46 fun l48 => unc l47 fun v49 l50 => un0 l50 (callS (orc vE) 21 [AV.agg [AV.str l48, v49], x1] (Prod.snd c33) fun v51 st52 x53 => unA v51 fun l55 => unc l55 fun v56 l57 => asS v56 fun l58 => unc l57
 fun v59 l60 => un0 l60 (chk (apart (Fx.mk l39 Did.kept) x53 && (apart (Fx.mk [] Did.kept) x53 && true)) (asOne v59 (asOne v59 (fit1 v59 fun v61 => asOne v61 (fit1 v61 fun v62 => appS 2 40 24 v38 [AV.agg [AV.str l58,
 v62]] st52 fun v63 st64 _x => asOne v63 (asOne v63 (storeS (orc vE) 1 (AV.mp (St.h (Prod.snd (Prod.snd c27))) 1) v63 [v63] st64 fun _x st67 _x_1 => letV (IntKind.wrap .i64 (n36 + 1)) fun n69 => some (Sum.inl ([AV.int
 .i64 n69], st67))))))))))) (some (Sum.inr (0, [], Prod.snd c33))))
noncomputable def g21 : AV → AV → Option AV := fun x0 x1 => unA x0 fun l1 => unc l1 fun v2 l3 => asS v2 fun l4 => unc l3 fun v5 l6 => un0 l6 (asOne v5 (fit1 v5 fun v7 => bindO (loopO (g21_L1 x1 l4) ([AV.int .i64 0],
 St.mk 1 0 (Tr.node (some (VM.Obj.cells 24 [AV.str [], AV.nils])) Tr.leaf Tr.leaf))) fun c27 => un0 (Prod.fst (Prod.snd c27)) (sel2 (Prod.fst c27) (letSt (St.add (Prod.snd (Prod.snd c27)) (VM.Obj.cells 24 [AV.str [],
 AV.nils])) fun st29 => storeS (orc vE) 2 (AV.mp (St.h (Prod.snd (Prod.snd c27))) 0) (AV.agg [AV.str l4, AV.nils]) [AV.str l4, AV.nils] st29 fun _x st31 _x_1 => bindO (loopO (g21_L2 x1 v7 c27) ([AV.int .i64 0], st31))
 fun c70 => un0 (Prod.fst (Prod.snd c70)) (loadS 2 true (AV.mp (St.h (Prod.snd (Prod.snd c27))) 0) (Prod.snd (Prod.snd c70)) fun v71 _x => unA v71 fun l74 => unc l74 fun v75 l76 => asS v75 fun l77 => unc l76 fun v78 l79
 => un0 l79 (asOne v78 (storeS (orc vE) 2 (AV.mp 0 0) (AV.agg [AV.str l77, v78]) [AV.str l77, v78] (Prod.snd (Prod.snd c70)) fun _x st81 _x_2 => loadS 2 true (AV.mp 0 0) st81 fun v83 _x => unA v83 fun l86 => unc l86 fun
 v87 l88 => asS v87 fun l89 => unc l88 fun v90 l91 => un0 l91 (frzS st81 0 (AV.agg [AV.str l89, v90]) fun v92 => some v92))))) fun _x => loadS 2 true (AV.mp 0 0) (Prod.snd (Prod.snd c27)) fun v94 _x => unA v94 fun l97 =>
 unc l97 fun v98 l99 => asS v98 fun l100 => unc l99 fun v101 l102 => un0 l102 (frzS (Prod.snd (Prod.snd c27)) 0 (AV.agg [AV.str l100, v101]) fun v103 => some v103))))
theorem g21_eq (x0 x1 : AV) : bareS vE 21 [x0, x1] = g21 x0 x1 := by kernel_rfl
end Go.Proofs.YtlfilkniobkbiaaDoor.Vm
/- The law TyTexts. -/
namespace Go.Proofs.YtlfilkniobkbiaaDoor.Vm
open Go Go.VM Go.Proofs Go.Ty
abbrev TTy : TypeId := 24
abbrev z2 : List AV := [.str [], .nils]
theorem splice2 (a : Tx) : splice z2 0 [.str a, .nils] = [.str a, .nils] := rfl
theorem named_hit {x : AV} {vs : List Tx} (hx : IsSl 1 x (vs.map AV.str)) (hvs : vs.length ≤ 1000) (s : Tx) {st : St} (hg : st.get 0 = .ok (.cells TTy z2)) (hro : st.ro ≤ 0) : ∀ (r : List Tx) (i : Nat), vs.drop i = r →
    loopO (g21_L1 x s) ([.int .i64 (i : Int)], st) = some (if r.contains s = true then (1, [], st.put 0 (.cells TTy [.str (digits (i + r.idxOf s)), .nils])) else (0, [], st))
  | [], i, hd => by
    have h1 := List.drop_eq_nil_iff.1 hd
    have q : ¬ (i : Int) < ((vs.map AV.str).length : Int) := by simp; omega
    refine loopO_inr ?_
    simp only [g21_L1, unc_cons, asI_int, un0_nil, hx.len, ifB_decide, if_neg q]
    rfl
  | c :: r, i, hd => by
    obtain ⟨hg2, hr, hlt⟩ := drop_cons hd
    have q : (i : Int) < ((vs.map AV.str).length : Int) := by simp; omega
    have hv : (vs.map AV.str)[i]? = some (.str c) := by rw [List.getElem?_map, hg2]; rfl
    have hst := fun {γ : Type} (u : AV) (a : Tx) (K : Kv γ) => (storeS_at (O := orc vE) (off := 0) (v := u) (cs := [.str a, .nils]) (z := 2) hg rfl (Nat.le_refl _) hro K)
    cases hb : (c == s) with
    | true =>
      have hsc : c = s := beq_iff_eq.1 hb
      subst hsc
      have hcc : (c :: r).contains c = true := by simp
      have cl := fun {γ : Type} (st : St) (K : Kv γ) => callT1 (int_b .i64 (i : Int)) rfl (dig_ok (i + 1) i (Nat.lt_succ_self _) (by omega)) st K
      rw [if_pos hcc, List.idxOf_cons_self, Nat.add_zero]
      refine loopO_inr ?_
      simp only [g21_L1, unc_cons, asI_int, asS_str, un0_nil, hx.len, ifB_decide, if_pos q, hx.idx hv, AV.cells, loadS_ip, List.drop_zero, takeO_one, bindO_ok, hb, ifB_true, cl, hst, splice2, digits]
    | false =>
      have hb2 : (c == s) = false := hb
      have hne : ¬ s = c := fun e => by rw [e] at hb; simp at hb
      have ec : (c :: r).contains s = r.contains s := by simp [hne]
      have ei : (c :: r).idxOf s = r.idxOf s + 1 := by rw [List.idxOf_cons, hb2]; rfl
      rw [loopO_inl (s' := ([.int .i64 ((i + 1 : Nat) : Int)], st)), named_hit hx hvs s hg hro r (i + 1) hr, ec, ei]
      · rw [show i + 1 + r.idxOf s = i + (r.idxOf s + 1) by omega]
      · simp only [g21_L1, unc_cons, asI_int, asS_str, un0_nil, hx.len, ifB_decide, if_pos q, hx.idx hv, AV.cells, loadS_ip, List.drop_zero, takeO_one, bindO_ok, hb, ifB_false, letV_eq, wrapA1 (show i + 1 ≤ 9223372036854775807 by omega)]
theorem frzType {st : St} {x x' : AV} {ws : List AV} (hx : IsSl 2 x' ws) (hf : ∀ n, VM.freeze st 0 (n + 1) x = .ok x') (nm : Tx) {β : Type} (K : AV → Option β) :
    frzS st 0 (.agg [.str nm, x]) K = K (.agg [.str nm, x']) := by
  refine frz_agg (allE_cons (fz_str _ st 0 99 (by omega)) (allE_cons (hf 98) allE_nil)) ?_ K
  simp only [bares_cons, hx.bare]
  rfl
theorem isTs_snoc : ∀ {l : List Ty} {es : List AV} {t : Ty} {v : AV}, IsTs l es → IsT t v → IsTs (l ++ [t]) (es ++ [v])
  | [], es, t, v, h, hv => by
    simp only [IsTs] at h
    subst h
    exact IsTs.cons hv IsTs.nil
  | u :: l, es, t, v, h, hv => by
    simp only [IsTs] at h
    obtain ⟨w, ws, rfl, hw, h⟩ := h
    exact IsTs.cons hw (isTs_snoc h hv)
theorem namedTs_map (vs : List Tx) : ∀ (l : List Ty), namedTs vs l = l.map (namedT vs)
  | [] => rfl
  | t :: l => by simp only [namedTs, List.map_cons, namedTs_map vs l]
theorem named_ok {x : AV} {vs : List Tx} (hx : IsSl 1 x (vs.map AV.str)) (hvs : vs.length ≤ 1000) : ∀ (n : Nat) (t : Ty), SizeOf.sizeOf t < n → szT t ≤ 1000 → ∀ (v : AV), IsT t v → Goes ((orc vE).bare 21 [v, x]) (IsT (namedT vs t)) := by
  intro n
  induction n with
  | zero => intro t h; omega
  | succ n ih =>
    intro t hn hsz v hv
    obtain ⟨nm, ls, y, fs, rfl, rfl, hy, hs⟩ := isT_open hv
    simp only [Ty.mk.sizeOf_spec] at hn
    simp only [szT] at hsz
    have hlen := hs.len
    have hll := szTs_len ls
    have IH : ∀ {i : Nat} (hi : i < ls.length), ∃ (nm2 : Tx) (y2 : AV) (es2 : List AV) (r : AV), fs[i]? = some (.agg [.str nm2, y2]) ∧ IsSl 2 y2 es2 ∧ IsT (namedT vs ls[i]) r ∧ ∀ {γ : Type} (st : St) (K : Kv γ), callS (orc vE) 21 [.agg [.str nm2, y2], x] st K = K r st q0 := by
      intro i hi
      obtain ⟨v, hv1, hV⟩ := ts_at hs hi
      have h1 : szT ls[i] ≤ szTs ls := by
        have := szTs_take hi ([] : List Tx)
        simp at this; omega
      have hb := isT_bare hV
      obtain ⟨r, hk, hr⟩ := ih ls[i] (by have := List.sizeOf_lt_of_mem (List.getElem_mem hi); omega) (by omega) v hV
      obtain ⟨nm2, ls2, y2, fs2, e0, rfl, hx2, _⟩ := isT_open hV
      exact ⟨nm2, y2, fs2, r, hv1, hx2, hr, fun st K => callT2 hb (strs_sl hx) rfl hk st K⟩
    refine Goes.bare rfl (Goes.step (g21_eq _ _) ?_)
    simp only [g21, unA_agg, unc_cons, asS_str, un0_nil, hy.asOne, hy.fit1]
    have hst0 : (St.mk 1 0 (Tr.node (some (VM.Obj.cells TTy z2)) Tr.leaf Tr.leaf)).get 0 = .ok (.cells TTy z2) := rfl
    have nl := named_hit hx hvs nm hst0 (Nat.le_refl _) vs 0 rfl
    have nl : loopO (g21_L1 x nm) ([.int .i64 0], St.mk 1 0 (Tr.node (some (VM.Obj.cells TTy z2)) Tr.leaf Tr.leaf)) = _ := nl
    have w0 : Wv S0 (St.mk 1 0 (Tr.node (some (VM.Obj.cells TTy z2)) Tr.leaf Tr.leaf)) [(0, TTy, z2)] 2 TTy .nils [] := by
      refine ⟨⟨fun q hq => ?_, by show ([0] : List Nat).Nodup; decide, Nat.zero_le _⟩, Own.nils (Nat.zero_le _) _ _, (fun j hj => by obtain ⟨_, _, h⟩ := hj; cases h), ?_, fun q hq => Nat.zero_le _⟩
      · simp only [List.mem_cons, List.mem_nil_iff, or_false] at hq
        subst hq
        exact ⟨hst0, Nat.zero_le _⟩
      · exact Keeps.add S0 (VM.Obj.cells TTy z2) _
    by_cases hc : vs.contains nm = true
    · rw [if_pos hc, Nat.zero_add] at nl
      refine Goes.step (congrArg (bindO · _) nl) ?_
      simp only [bindO_ok, un0_nil, sel2_one]
      refine Goes.step (loadS_mp (St.get_put_same (St.get_ok.1 hst0).1) _ _ _ _) ?_
      simp only [List.drop_zero, takeT2, bindO_ok, unA_agg, unc_cons, asS_str, un0_nil]
      refine Goes.step (frzType (x' := .nils) IsSl.nils (fun _ => rfl) _ _) (Goes.some ?_)
      simp only [namedT, if_pos hc, IsT]
      exact ⟨_, [], rfl, IsSl.nils, IsTs.nil⟩
    · rw [if_neg hc] at nl
      refine Goes.step (congrArg (bindO · _) nl) ?_
      simp only [bindO_ok, un0_nil, sel2_zero]
      refine Goes.walloc w0 fun s1 _ w1 => Goes.wstore [] w1 fun s2 _ _ w2 => ?_
      refine Goes.bind (R := fun c => ∃ s v ws, c = (0, [], s) ∧ Wv S0 s [(1, TTy, [.str nm, v]), (0, TTy, z2)] 2 TTy v ws ∧ IsTs (namedTs vs ls) ws) ?_ ?_
      · refine Goes.upto (n := ls.length) (I := fun i c => ∃ s v ws, c = ([.int .i64 (i : Int)], s) ∧ Wv S0 s [(1, TTy, [.str nm, v]), (0, TTy, z2)] 2 TTy v ws ∧ IsTs ((ls.take i).map (namedT vs)) ws) ?_ ?_ ls.length 0 _ (by omega) ⟨s2, .nils, [], rfl, w2, IsTs.nil⟩
        · rintro i c hi ⟨s, v, ws, rfl, w, hw⟩
          have hq : decide ((i : Int) < (fs.length : Int)) = true := decide_eq_true (by omega)
          obtain ⟨nm2, y2, es2, r, hv, hy2, hr, c2⟩ := IH hi
          obtain ⟨nm3, ls3, y3, fs3, hq3, rfl, hy3, hs3⟩ := isT_open hr
          have hwl := hw.len
          simp only [List.length_map, List.length_take] at hwl
          simp only [g21_L2, unc_cons, asI_int, un0_nil, hy.len, hq, ifB_true]
          refine Goes.vload1 List.mem_cons_self w.w (o := 1) rfl ?_
          simp only [hy.idx hv, cells_agg, loadS_ip, List.drop_zero, takeT2, bindO_ok, unA_agg, unc_cons, asS_str, un0_nil, c2, apart_kept, Bool.and_self, Bool.and_true, chk_true, hy3.asOne, hy3.fit1]
          refine Goes.wapp w (by omega) (by omega) (by omega) fun v' s3 fx w3 => ?_
          refine Goes.one w3.o.one (Goes.one w3.o.one (Goes.wstoreF [] w3 (Nat.le_refl _) fun s4 _ _ w4 => ?_))
          simp only [letV_eq, wrapA1 (show i + 1 ≤ 9223372036854775807 by omega)]
          refine Goes.inl ⟨s4, v', _, rfl, w4, ?_⟩
          rw [take_snoc hi, List.map_append]
          exact isTs_snoc hw hr
        · rintro c ⟨s, v, ws, rfl, w, hw⟩
          rw [List.take_length] at hw
          have hq : decide (((ls.length : Nat) : Int) < (fs.length : Int)) = false := decide_eq_false (by omega)
          simp only [g21_L2, unc_cons, asI_int, un0_nil, hy.len, hq, ifB_false]
          exact Goes.inr ⟨s, v, ws, rfl, w, by rw [namedTs_map]; exact hw⟩
      · rintro c ⟨s, v, ws, rfl, w, hw⟩
        simp only [un0_nil]
        refine Goes.vload List.mem_cons_self w.w rfl ?_
        simp only [unA_agg, unc_cons, asS_str, un0_nil]
        refine Goes.one w.o.one (Goes.wstore [(1, TTy, [.str nm, v])] w fun s5 _ _ w5 => ?_)
        refine Goes.vload (List.mem_cons_of_mem _ List.mem_cons_self) w5.w rfl ?_
        simp only [unA_agg, unc_cons, asS_str, un0_nil]
        obtain ⟨x', hx', hf⟩ := own_freeze w5.o
        refine Goes.step (frzType hx' hf _ _) (Goes.some ?_)
        simp only [namedT, if_neg hc, IsT]
        exact ⟨x', ws, rfl, hx', hw⟩
/-! the same? -/
theorem sameTs_len : ∀ {l k : List Ty}, sameTs l k = true → l.length = k.length
  | [], [], _ => rfl
  | [], _ :: _, h => by simp [sameTs] at h
  | _ :: _, [], h => by simp [sameTs] at h
  | _ :: l, _ :: k, h => by
    simp only [sameTs, Bool.and_eq_true] at h
    rw [List.length_cons, List.length_cons, sameTs_len h.2]
theorem same_ok : ∀ (n : Nat) (a : Ty), SizeOf.sizeOf a < n → ∀ (b : Ty) (u v : AV), IsT a u → IsT b v → (orc vE).bare 18 [u, v] = some (.bool (sameT a b)) := by
  intro n
  induction n with
  | zero => intro a h; omega
  | succ n ih =>
    intro a hn b u v hu hv
    obtain ⟨nm, ls, y, fs, rfl, rfl, hy, hs⟩ := isT_open hu
    obtain ⟨mm, ks, z, gs, rfl, rfl, hz, ht⟩ := isT_open hv
    simp only [Ty.mk.sizeOf_spec] at hn
    have hl1 := hs.len
    have hl2 := ht.len
    have hfl := slenT hy
    refine bare_of rfl ((g18_eq _ _).trans ?_)
    simp only [sameT]
    cases he : (nm == mm) with
    | false =>
      have he : (nm == mm) = false := he
      simp only [g18, unA_agg, unc_cons, asS_str, un0_nil, hy.asOne, hy.fit1, hz.asOne, hz.fit1, he, Bool.not_false, ifB_true, bindO_ok, asB_bool, Bool.false_and]
    | true =>
      have he : (nm == mm) = true := he
      by_cases hne : ls.length = ks.length
      · have q : ((fs.length : Int) != (gs.length : Int)) = false := by rw [hl1, hl2, hne]; simp
        have lp : ∀ (m : List Ty) (j : Nat) (st : St), ls.drop j = m → loopO (g18_L1 y z) ([.bool false, .int .i64 (j : Int)], st) = some (if sameTs m (ks.drop j) = true then 0 else 1, [.bool false], st) := by
          intro m
          induction m with
          | nil =>
            intro j st hd
            have h1 := List.drop_eq_nil_iff.1 hd
            have q2 : decide ((j : Int) < (fs.length : Int)) = false := decide_eq_false (by omega)
            have hk : ks.drop j = [] := List.drop_eq_nil_iff.2 (by omega)
            rw [hk]
            refine loopO_inr ?_
            simp only [g18_L1, unc_cons, asB_bool, asI_int, un0_nil, hy.len, q2, ifB_false, sameTs, if_true]
          | cons t m ihm =>
            intro j st hd
            obtain ⟨hg, hr, hlt⟩ := drop_cons hd
            have q2 : decide ((j : Int) < (fs.length : Int)) = true := decide_eq_true (by omega)
            have hlt2 : j < ks.length := by omega
            obtain ⟨v1, hv1, hV1, -⟩ := hs.get hd
            obtain ⟨v2, hv2, hV2⟩ := ts_at ht hlt2
            have hmem : t ∈ ls := List.mem_of_getElem? hg
            have hk := ih t (by have := List.sizeOf_lt_of_mem hmem; omega) ks[j] v1 v2 hV1 hV2
            have hb1 := isT_bare hV1
            have hb2 := isT_bare hV2
            have cc := fun {γ : Type} (st : St) (K : Kv γ) => callT2 hb1 hb2 rfl hk st K
            rw [List.drop_eq_getElem_cons hlt2]
            obtain ⟨nm1, l1, y1, f1, -, rfl, hy1, -⟩ := isT_open hV1
            obtain ⟨nm2, l2, y2, f2, -, rfl, hy2, -⟩ := isT_open hV2
            cases hsame : sameT t ks[j] with
            | false =>
              rw [hsame] at cc
              refine loopO_inr ?_
              simp only [g18_L1, unc_cons, asB_bool, asI_int, un0_nil, hy.len, q2, ifB_true, hy.idx hv1, hz.idx hv2, cells_agg, loadS_ip, List.drop_zero, takeT2, bindO_ok, unA_agg, asS_str, cc, Bool.not_false, sameTs, hsame, Bool.false_and, Bool.false_eq_true, if_false]
            | true =>
              rw [hsame] at cc
              rw [loopO_inl (s' := ([.bool false, .int .i64 ((j + 1 : Nat) : Int)], st)), ihm (j + 1) st hr]
              · simp only [sameTs, hsame, Bool.true_and]
              · simp only [g18_L1, unc_cons, asB_bool, asI_int, un0_nil, hy.len, q2, ifB_true, hy.idx hv1, hz.idx hv2, cells_agg, loadS_ip, List.drop_zero, takeT2, bindO_ok, unA_agg, asS_str, cc, Bool.not_true, ifB_false, letV_eq, wrapA1 (show j + 1 ≤ 9223372036854775807 by omega)]
        have lp0 := lp ls 0 S0 rfl
        have lp0 : loopO (g18_L1 y z) ([.bool false, .int .i64 0], St.mk 0 0 Tr.leaf) = some (if sameTs ls ks = true then 0 else 1, [.bool false], St.mk 0 0 Tr.leaf) := lp0
        cases hsm : sameTs ls ks with
        | true =>
          rw [hsm, if_pos rfl] at lp0
          simp only [g18, unA_agg, unc_cons, asS_str, un0_nil, hy.asOne, hy.fit1, hz.asOne, hz.fit1, he, Bool.not_true, ifB_false, hy.len, hz.len, q, bindO_ok, asB_bool, lp0, sel2_zero, Bool.and_self]
        | false =>
          rw [hsm] at lp0
          simp only [Bool.false_eq_true, if_false] at lp0
          simp only [g18, unA_agg, unc_cons, asS_str, un0_nil, hy.asOne, hy.fit1, hz.asOne, hz.fit1, he, Bool.not_true, ifB_false, hy.len, hz.len, q, bindO_ok, asB_bool, lp0, sel2_one, Bool.and_false]
      · have q : ((fs.length : Int) != (gs.length : Int)) = true := by rw [hl1, hl2, bne_iff_ne]; omega
        have hsm : sameTs ls ks = false := by
          cases h : sameTs ls ks with
          | false => rfl
          | true => exact absurd (sameTs_len h) hne
        simp only [g18, unA_agg, unc_cons, asS_str, un0_nil, hy.asOne, hy.fit1, hz.asOne, hz.fit1, he, Bool.not_true, ifB_false, hy.len, hz.len, q, bindO_ok, asB_bool, ifB_true, hsm, Bool.and_false]
/-! the law -/
theorem law_texts {a b : Ty} {u v : AV} (hu : IsT a u) (hv : IsT b v) : (orc vE).bare 6 [u, v] = some (.bool true) := by
  obtain ⟨n, hn, hk⟩ := parts_ok (k := 600) hu (by omega) (by omega)
  obtain ⟨m, hm, hj⟩ := parts_ok (k := 600) hv (by omega) (by omega)
  have cp1 := fun {γ : Type} (st : St) (K : Kv γ) => callT2 (isT_bare hu) (int_b .i64 (600 : Nat)) rfl hk st K
  have cp1 : ∀ {γ : Type} (st : St) (K : Kv γ), callS (orc vE) 8 [u, .int .i64 600] st K = _ := cp1
  have cp2 := fun {γ : Type} (st : St) (K : Kv γ) => callT2 (isT_bare hv) (int_b .i64 (600 : Nat)) rfl hj st K
  have cp2 : ∀ {γ : Type} (st : St) (K : Kv γ), callS (orc vE) 8 [v, .int .i64 600] st K = _ := cp2
  have ca := fun {γ : Type} (st : St) (K : Kv γ) => callS_bare (f := 9) st K rfl rfl rfl (orc_bare awake_run)
  have c1 := fun {γ : Type} (st : St) (K : Kv γ) => callT1 (isT_bare hu) rfl (may_prog hu) st K
  have c2 := fun {γ : Type} (st : St) (K : Kv γ) => callT1 (isT_bare hv) rfl (may_prog hv) st K
  have c3 := fun {γ : Type} (st : St) (K : Kv γ) => callT1 (isT_bare hu) rfl (show_prog hu) st K
  have c4 := fun {γ : Type} (st : St) (K : Kv γ) => callT1 (isT_bare hv) rfl (show_prog hv) st K
  by_cases h1 : 600 ≤ n
  · have q1 : decide ((n : Int) ≥ 600) = true := decide_eq_true (by omega)
    obtain ⟨nm, ls, y, fs, rfl, rfl, hy, hs⟩ := isT_open hu
    obtain ⟨mm, ks, z, gs, rfl, rfl, hz, ht⟩ := isT_open hv
    refine bare_of rfl ((g6_eq _ _).trans ?_)
    simp only [g6, unA_agg, unc_cons, un0_nil, asS_str, asI_int, hy.asOne, hy.fit1, hz.asOne, hz.fit1, cp1, q1, ifB_true, bindO_ok, asB_bool, ca]
  · have q1 : decide ((n : Int) ≥ 600) = false := decide_eq_false (by omega)
    by_cases h2 : 600 ≤ m
    · have q2 : decide ((m : Int) ≥ 600) = true := decide_eq_true (by omega)
      obtain ⟨nm, ls, y, fs, rfl, rfl, hy, hs⟩ := isT_open hu
      obtain ⟨mm, ks, z, gs, rfl, rfl, hz, ht⟩ := isT_open hv
      refine bare_of rfl ((g6_eq _ _).trans ?_)
      simp only [g6, unA_agg, unc_cons, un0_nil, asS_str, asI_int, hy.asOne, hy.fit1, hz.asOne, hz.fit1, cp1, cp2, q1, q2, ifB_true, ifB_false, bindO_ok, asB_bool, ca]
    · have q2 : decide ((m : Int) ≥ 600) = false := decide_eq_false (by omega)
      cases ma : mayT a with
      | false =>
        rw [ma] at c1
        obtain ⟨nm, ls, y, fs, rfl, rfl, hy, hs⟩ := isT_open hu
        obtain ⟨mm, ks, z, gs, rfl, rfl, hz, ht⟩ := isT_open hv
        refine bare_of rfl ((g6_eq _ _).trans ?_)
        simp only [g6, unA_agg, unc_cons, un0_nil, asS_str, asI_int, hy.asOne, hy.fit1, hz.asOne, hz.fit1, cp1, cp2, q1, q2, ifB_true, ifB_false, bindO_ok, asB_bool, ca, Bool.not_true, Bool.not_false, c1]
      | true =>
        rw [ma] at c1
        cases mb : mayT b with
        | false =>
          rw [mb] at c2
          obtain ⟨nm, ls, y, fs, rfl, rfl, hy, hs⟩ := isT_open hu
          obtain ⟨mm, ks, z, gs, rfl, rfl, hz, ht⟩ := isT_open hv
          refine bare_of rfl ((g6_eq _ _).trans ?_)
          simp only [g6, unA_agg, unc_cons, un0_nil, asS_str, asI_int, hy.asOne, hy.fit1, hz.asOne, hz.fit1, cp1, cp2, q1, q2, ifB_true, ifB_false, bindO_ok, asB_bool, ca, Bool.not_true, Bool.not_false, c1, c2]
        | true =>
          rw [mb] at c2
          have za := (may_facts ma).1
          have zb := (may_facts mb).1
          have hla := vars_len a []
          have hlb := vars_len b []
          simp only [List.length_nil, Nat.zero_add] at hla hlb
          obtain ⟨⟨x, s⟩, e, ho⟩ := rvars_ok _ a (Nat.lt_succ_self _) u S0 .nils [] hu (Own.nils (Nat.le_refl _) 1 sT) (by simpa using (show szT a ≤ 1000000 by omega))
          have ho : Own s 1 sT x ((varsT [] a).map AV.str) := ho
          obtain ⟨⟨x', s'⟩, e', ho'⟩ := rvars_ok _ b (Nat.lt_succ_self _) v s .nils [] hv (Own.nils ho.1 1 sT) (by simpa using (show szT b ≤ 1000000 by omega))
          have ho' : Own s' 1 sT x' ((varsT [] b).map AV.str) := ho'
          have hx := own_isSl ho
          have hx' := own_isSl ho'
          have cw := fun {γ : Type} (K : Kv γ) => callS_wide (E := vE) K (show vE.isLook 19 = false from rfl) (by simp only [Bool.and_false, show vE.full 19 = true from rfl, Bool.not_true]) e
          have cw : ∀ {γ : Type} (K : Kv γ), callS (orc vE) 19 [.nils, u] (St.mk 0 0 Tr.leaf) K = _ := cw
          have cw' := fun {γ : Type} (K : Kv γ) => callS_wide (E := vE) K (show vE.isLook 19 = false from rfl) (by simp only [Bool.and_false, show vE.full 19 = true from rfl, Bool.not_true]) e'
          obtain ⟨na, ena, hna⟩ := named_ok hx (by omega) _ a (Nat.lt_succ_self _) (by omega) u hu
          obtain ⟨nb, enb, hnb⟩ := named_ok hx' (by omega) _ b (Nat.lt_succ_self _) (by omega) v hv
          have cn := fun {γ : Type} (st : St) (K : Kv γ) => callS_strip (f := 21) (args := [u, x]) (args' := [u, VM.strip x]) st K rfl (by simp only [List.map_cons, List.map_nil, (isT_bare hu).2]) (by simp only [bares_cons, (isT_bare hu).1, (strs_sl hx).1]; rfl) ena
          have cn' := fun {γ : Type} (st : St) (K : Kv γ) => callS_strip (f := 21) (args := [v, x']) (args' := [v, VM.strip x']) st K rfl (by simp only [List.map_cons, List.map_nil, (isT_bare hv).2]) (by simp only [bares_cons, (isT_bare hv).1, (strs_sl hx').1]; rfl) enb
          have cs := fun {γ : Type} (st : St) (K : Kv γ) => callT2 (isT_bare hna) (isT_bare hnb) rfl (same_ok _ _ (Nat.lt_succ_self _) _ na nb hna hnb) st K
          have key := texts_law ma mb
          have al : ∀ st st' : St, apart (Fx.mk [] (Did.all st st')) (Fx.mk [] Did.kept) = true := fun _ _ => rfl
          have l1 : ((varsT [] a).map AV.str).length = (varsT [] a).length := List.length_map ..
          have l2 : ((varsT [] b).map AV.str).length = (varsT [] b).length := List.length_map ..
          obtain ⟨nm1, ls1, y1, fs1, eA, rfl, hy1, -⟩ := isT_open hna
          obtain ⟨nm2, ls2, y2, fs2, eB, rfl, hy2, -⟩ := isT_open hnb
          obtain ⟨nm, ls, y, fs, rfl, rfl, hy, hs⟩ := isT_open hu
          obtain ⟨mm, ks, z, gs, rfl, rfl, hz, ht⟩ := isT_open hv
          have aq : apart q0 (Fx.mk [] Did.kept) = true := rfl
          have aq2 : apart (Fx.mk [] Did.kept) q0 = true := rfl
          refine bare_of rfl ((g6_eq _ _).trans ?_)
          simp only [g6, unA_agg, unc_cons, un0_nil, asS_str, asI_int, hy.asOne, hy.fit1, hz.asOne, hz.fit1, cp1, cp2, q1, q2, ifB_false, bindO_ok, asB_bool, ca, Bool.not_true, c1, c2, cw, cw', al, aq, aq2, Bool.and_self, chk_true, c3, c4, own_len ho, own_len ho', l1, l2]
          have ei : ((((varsT [] (Ty.mk nm ls)).length : Nat) : Int) == (((varsT [] (Ty.mk mm ks)).length : Nat) : Int)) = ((varsT [] (Ty.mk nm ls)).length == (varsT [] (Ty.mk mm ks)).length) := by
            rw [Bool.eq_iff_iff, beq_iff_eq, beq_iff_eq]; omega
          rw [ei]
          cases hlen : ((varsT [] (Ty.mk nm ls)).length == (varsT [] (Ty.mk mm ks)).length) with
          | false =>
            rw [hlen, Bool.false_and] at key
            simp only [ifB_false, bindO_ok, unc_cons, un0_nil, asB_bool, key, beq_self_eq_true]
          | true =>
            rw [hlen, Bool.true_and] at key
            simp only [ifB_true, cn, cn', cs, unA_agg, unc_cons, asS_str, un0_nil, aq, aq2, Bool.and_self, chk_true, asB_bool, bindO_ok, key, beq_self_eq_true]
end Go.Proofs.YtlfilkniobkbiaaDoor.Vm
/- Types as arguments. -/
namespace Go.Proofs.YtlfilkniobkbiaaDoor.Vm
open Go Go.VM Go.Proofs Go.Ty
def lawS : List TypeId := [9, 24, 22]
theorem lawS_ok : ∀ t, inS lawS t = true → okTy Tryd.prog lawS t = true := by
  intro t ht
  have : t ∈ lawS := by
    obtain ⟨u, hu, e⟩ := List.any_eq_true.1 ht
    rw [← Nat.eq_of_beq_eq_true e]; exact hu
  exact List.all_eq_true.1 (show (lawS.all fun t => okTy Tryd.prog lawS t) = true by kernel_rfl) t this
theorem av_str {n t : Nat} {cs : List AV} (hu : Tryd.prog.underlying t = some .string) (h : AvOf Tryd.prog n t cs) : ∃ s, cs = [.str s] ∧ s.length ≤ maxLen := by
  cases n with
  | zero => cases h
  | succ n => simp only [AvOf, hu] at h; exact h
/-- A slice as an argument. -/
theorem av_sl {n t e : Nat} {cs : List AV} (hu : Tryd.prog.underlying t = some (.slice e)) (h : AvOf Tryd.prog (n + 1) t cs) (hst : isSt Tryd.prog e = true) {z : Nat} (hz : Tryd.prog.cellsOf e = z) :
    ∃ (x : AV) (L : List (List AV)), cs = [x] ∧ IsSl z x (L.map .agg) ∧ (∀ a ∈ L, AvOf Tryd.prog n e a) := by
  simp only [AvOf, hu] at h
  rcases h with rfl | rfl | ⟨L, rfl, hl, hL⟩
  · exact ⟨_, [], rfl, IsSl.nils, fun _ h => by cases h⟩
  · exact ⟨_, [], rfl, IsSl.emp, fun _ h => by cases h⟩
  · rw [hst, hz]
    exact ⟨_, L, rfl, IsSl.wide (by rw [List.length_map]; simpa [maxLen] using hl), hL⟩
theorem types_in : ∀ {L : List (List AV)}, (∀ a ∈ L, ∃ p, IsT p (.agg a)) → ∃ ps, IsTs ps (L.map .agg)
  | [], _ => ⟨[], IsTs.nil⟩
  | a :: L, h => by
    obtain ⟨p, hp⟩ := h a List.mem_cons_self
    obtain ⟨ps, hps⟩ := types_in (L := L) fun b hb => h b (List.mem_cons_of_mem _ hb)
    exact ⟨p :: ps, IsTs.cons hp hps⟩
theorem type_of : ∀ (n : Nat) {cs : List AV}, AvOf Tryd.prog n 24 cs → ∃ p, IsT p (.agg cs) := by
  intro n
  induction n using Nat.strongRecOn with
  | _ n ih =>
    intro cs h
    cases n with
    | zero => cases h
    | succ n =>
      simp only [AvOf, Tryd.underlying24] at h
      obtain ⟨a0, b0, rfl, h0, a1, b1, rfl, h1, rfl⟩ := h
      obtain ⟨nm, rfl, _⟩ := av_str Tryd.underlying9 h0
      cases n with
      | zero => cases h1
      | succ n =>
        obtain ⟨x, L, rfl, hx, hL⟩ := av_sl Tryd.underlying22 h1 (by kernel_rfl) (z := 2) (by kernel_rfl)
        obtain ⟨ps, hps⟩ := types_in (L := L) fun a ha => ih n (by omega) (hL a ha)
        exact ⟨.mk nm ps, by simp only [IsT]; exact ⟨x, _, rfl, hx, hps⟩⟩
end Go.Proofs.YtlfilkniobkbiaaDoor.Vm
