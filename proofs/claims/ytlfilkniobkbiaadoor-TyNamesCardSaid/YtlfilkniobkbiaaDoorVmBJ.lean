/-
  A part of the proof.
-/
import Derived.Test.YtlfilkniobkbiaaDoorVmBI
import Derived.Test.YtlfilkniobkbiaaDoorVmBF
import Derived.Test.YtlfilkniobkbiaaDoorVmBG
import Derived.Test.YtlfilkniobkbiaaDoorVmBH
import Derived.Test.YtlfilkniobkbiaaDoorRows
set_option maxRecDepth 1000000
set_option maxHeartbeats 0
set_option linter.unusedSimpArgs false
namespace Go.Proofs.YtlfilkniobkbiaaDoor.Vm
open Go Go.VM Go.Proofs
noncomputable def vT : TT := Tr.of 8 (tiOf Tryd.prog)
theorem vT_ok : TOk Tryd.prog vT := tt_ok (d := 8) rfl
def vFl : List Nat := [3, 4, 5, 6, 7, 8, 9, 10, 11, 12, 13, 14, 15, 16, 17, 18, 19, 20, 21, 22, 23, 24, 25, 26, 27, 28, 29, 30, 31, 32, 33, 34, 35, 36, 37, 38, 39, 40, 41, 42, 43, 44, 45, 46, 48, 49, 50, 51, 53, 54, 55, 56, 57, 58, 65, 66, 67, 78]
noncomputable def vF : Tr Func := Tr.of 7 (fnsOf Tryd.prog vFl)
theorem vF_ok : ∀ f fn, vF.get f = some fn → FnOk Tryd.prog f fn := fns_ok (by kernel_rfl)
noncomputable def vP : List (Nat × Prim) := [(47, (.lib libItoa)), (52, (.lib libJoin)), (59, (.lib libTrim))]
noncomputable def vG : Tr (List AV) := (.node none (.node none (.node none .leaf .leaf) (.node none .leaf .leaf)) (.node none (.node none .leaf .leaf) .leaf))
noncomputable def vI : List (Nat × List Nat) := [(3, [24]), (5, [24, 4000000]), (6, [24]), (8, [24]), (10, [24]), (11, [24]), (12, [24]), (13, [24]), (16, [24]), (17, [24]), (18, [24]), (19, [24]), (20, [24]), (21, [24]), (23, [24]), (24, [45]), (26, [24]), (27, [24]), (28, [24]), (31, [24]), (32, [24]), (33, [24]), (34, [24, 56]), (35, [24]), (36, [24]), (42, [24]), (43, [24]), (45, [24]), (49, [24]), (55, [24, 3000068]), (57, [24]), (65, [24])]
noncomputable def vfull : List Nat := [15, 19, 36]
noncomputable def vlook : List Nat := [54]
theorem prim47 : OnePrim Tryd.prog vT (fun b => vG.get b) 47 (.lib libItoa) := itoa_prim Tryd.call47 fun i w h => Tryd.strconv_Itoa_small i h w
theorem prim52 : OnePrim Tryd.prog vT (fun b => vG.get b) 52 (.lib libJoin) := join_prim Tryd.call52 (fun a c s w => Tryd.strings_Join_none a c s w) fun b o c xs s w h1 h2 h3 h4 h5 => Tryd.strings_Join b o c xs s w h1 h2 h3 h4 h5
theorem prim59 : OnePrim Tryd.prog vT (fun b => vG.get b) 59 (.lib libTrim) := trim_prim Tryd.call59 fun s c w h1 h2 h3 => Tryd.strings_Trim s c w h1 h2 h3
theorem vP_ok : AllP (fun f q => OnePrim Tryd.prog vT (fun b => vG.get b) f q) vP := ⟨prim47, prim52, prim59, trivial⟩
noncomputable def vE : Env where
  T := vT
  F i := vF.get i
  prim i := lookP vP i
  full i := vfull.any fun j => i.beq j
  isLook i := vlook.any fun j => i.beq j
  imm f t := match lookP vI f with
    | some l => l.any fun j => t.beq j
    | none => false
  G b := vG.get b
  memo _ := []
theorem vE_ok : EnvOk Tryd.prog vE := ⟨vT_ok, fun f fn h => vF_ok f fn h, primOk_of fun f q h => lookP_all vP_ok f q h, by kernel_rfl, (fun _ _ h => by cases h), fun _ r _ _ h _ => absurd (show (none : Option (List AV → Option AV)) = some r from h) (by simp), fun _ r _ _ _ _ h => absurd (show (none : Option (List AV → St → Res (AV × St))) = some r from h) (by simp)⟩
/-- rostrum/rostrumlaw16.TyShows -/
noncomputable def g3 : AV → Option AV := fun x0 => unA x0 fun l1 => unc l1 fun v2 l3 => asS v2 fun l4 => unc l3 fun v5 l6 => un0 l6 (asOne v5 (fit1 v5 fun v7 => callS (orc vE) 8 [AV.agg [AV.str l4, v7], AV.int .i64
 3000] (St.mk 0 0 Tr.leaf) fun v9 st10 _x => asI .i64 v9 fun n12 => ifB (decide (n12 ≥ 3000)) (callS (orc vE) 9 [] st10 fun v13 _x _x_1 => asB v13 fun b16 => some (AV.bool b16)) (bindO (callS (orc vE) 10 [AV.agg [AV.str
 l4, v7]] st10 fun v18 st19 x20 => asB v18 fun b21 => chk (apart x20 (Fx.mk [] Did.kept) && true) (callS (orc vE) 11 [AV.agg [AV.str l4, v7]] st19 fun v23 st24 _x => asB v23 fun b26 => ifB (b21 == b26) (callS (orc vE) 12
 [AV.agg [AV.str l4, v7]] st24 fun v28 st29 x30 => asS v28 fun l31 => chk (apart x30 (Fx.mk [] Did.kept) && true) (callS (orc vE) 13 [AV.agg [AV.str l4, v7]] st29 fun v33 st34 _x => asS v33 fun l36 => ifB (l31 == l36)
 (callS (orc vE) 9 [] st34 fun v37 st38 _x => asB v37 fun b40 => some ([AV.bool b40], st38)) (some ([AV.bool false], st34)))) (some ([AV.bool false], st24)))) fun c41 => unc (Prod.fst c41) fun v42 l43 => asB v42 fun b44
 => un0 l43 (some (AV.bool b44)))))
/-- rostrum/ty.May -/
noncomputable def g10 : AV → Option AV := fun x0 => unA x0 fun l1 => unc l1 fun v2 l3 => asS v2 fun l4 => unc l3 fun v5 l6 => un0 l6 (asOne v5 (fit1 v5 fun v7 => callS (orc vE) 31 [AV.agg [AV.str l4, v7], AV.int .i64
 512] (St.mk 0 0 Tr.leaf) fun v9 _x _x_1 => unT v9 fun l12 => nthS l12 0 fun v13 => asB v13 fun b14 => unT v9 fun l15 => nthS l15 1 fun v16 => asI .i64 v16 fun _x => some (AV.bool b14)))
theorem g10_eq (x0 : AV) : bareS vE 10 [x0] = g10 x0 := by kernel_rfl
/-- rostrum/ty.form -/
noncomputable def g31_L1 (v8 : AV) (k9 : Nat) : Car → Option (Car ⊕ Nat × Car) := fun c51 => unc (Prod.fst c51) fun v52 l53 => asB v52 fun b54 => unc l53 fun v55 l56 => asI .i64 v55 fun n57 => unc l56 fun v58 l59 => asI
 .i64 v58 fun n60 => un0 l59 (bindO (ifB (decide (n60 < (↑k9 : Int))) (ifB b54 (some ([AV.bool (decide (n57 ≥ 0))], Prod.snd c51)) (some ([AV.bool false], Prod.snd c51))) (some ([AV.bool false], Prod.snd c51))) fun c61
 => unc (Prod.fst c61) fun v62 l63 => asB v62 fun b64 => un0 l63 (ifB b64 (idxA 2 v8 n60 (Prod.snd c61) fun v65 _x => loadS 2 true v65 (Prod.snd c61) fun v67 _x => unA v67 fun l70 => unc l70 fun v71 l72 => asS v71 fun
 l73 => unc l72 fun v74 l75 => un0 l75 (callS (orc vE) 31 [AV.agg [AV.str l73, v74], AV.int .i64 n57] (Prod.snd c61) fun v76 st77 _x => unT v76 fun l79 => nthS l79 0 fun v80 => asB v80 fun b81 => unT v76 fun l82 => nthS
 l82 1 fun v83 => asI .i64 v83 fun n84 => letV (IntKind.wrap .i64 (n60 + 1)) fun n85 => some (Sum.inl ([AV.bool b81, AV.int .i64 n84, AV.int .i64 n85], st77)))) (some (Sum.inr (0, [AV.bool b54, AV.int .i64 n57], Prod.snd
 c61)))))
noncomputable def g31 : AV → AV → Option AV := fun x0 x1 => unA x0 fun l1 => unc l1 fun v2 l3 => asS v2 fun l4 => unc l3 fun v5 l6 => un0 l6 (asI .i64 x1 fun n7 => asOne v5 (fit1 v5 fun v8 => lenS v8 fun k9 => bindO
 (ifB (l4 == [105, 110, 116]) (some ([AV.bool (l4 == [105, 110, 116])], St.mk 0 0 Tr.leaf)) (bindO (ifB (l4 == [102, 108, 111, 97, 116]) (some ([AV.bool (l4 == [102, 108, 111, 97, 116])], St.mk 0 0 Tr.leaf)) (bindO (ifB
 (l4 == [98, 111, 111, 108]) (some ([AV.bool (l4 == [98, 111, 111, 108])], St.mk 0 0 Tr.leaf)) (bindO (ifB (l4 == [115, 116, 114, 105, 110, 103]) (some ([AV.bool (l4 == [115, 116, 114, 105, 110, 103])], St.mk 0 0
 Tr.leaf)) (some ([AV.bool (l4 == [117, 110, 105, 116])], St.mk 0 0 Tr.leaf))) fun c10 => unc (Prod.fst c10) fun v11 l12 => asB v11 fun b13 => un0 l12 (some ([AV.bool b13], Prod.snd c10)))) fun c14 => unc (Prod.fst c14)
 fun v15 l16 => asB v15 fun b17 => un0 l16 (some ([AV.bool b17], Prod.snd c14)))) fun c18 => unc (Prod.fst c18) fun v19 l20 => asB v19 fun b21 => un0 l20 (some ([AV.bool b21], Prod.snd c18)))) fun c22 => unc (Prod.fst
 c22) fun v23 l24 => asB v23 fun b25 => un0 l24 (bindO (ifB b25 (some ([AV.bool ((↑k9 : Int) == 0)], Prod.snd c22)) (bindO (ifB (l4 == [45, 62]) (some ([AV.bool ((↑k9 : Int) == 2)], Prod.snd c22)) (bindO (ifB (l4 ==
 [116, 117, 112, 108, 101]) (some ([AV.bool (decide ((↑k9 : Int) ≥ 2))], Prod.snd c22)) (bindO (ifB (l4 == [108, 105, 115, 116]) (some ([AV.bool ((↑k9 : Int) == 1)], Prod.snd c22)) (bindO (ifB ((↑k9 : Int) == 0) (callS
 (orc vE) 46 [AV.str l4] (Prod.snd c22) fun v26 st27 _x => asB v26 fun b29 => some ([AV.bool b29], st27)) (some ([AV.bool false], Prod.snd c22))) fun c30 => unc (Prod.fst c30) fun v31 l32 => asB v31 fun b33 => un0 l32
 (some ([AV.bool b33], Prod.snd c30)))) fun c34 => unc (Prod.fst c34) fun v35 l36 => asB v35 fun b37 => un0 l36 (some ([AV.bool b37], Prod.snd c34)))) fun c38 => unc (Prod.fst c38) fun v39 l40 => asB v39 fun b41 => un0
 l40 (some ([AV.bool b41], Prod.snd c38)))) fun c42 => unc (Prod.fst c42) fun v43 l44 => asB v43 fun b45 => un0 l44 (some ([AV.bool b45], Prod.snd c42)))) fun c46 => unc (Prod.fst c46) fun v47 l48 => asB v47 fun b49 =>
 un0 l48 (letV (IntKind.wrap .i64 (n7 - 1)) fun n50 => bindO (loopO (g31_L1 v8 k9) ([AV.bool b49, AV.int .i64 n50, AV.int .i64 0], Prod.snd c46)) fun c86 => unc (Prod.fst (Prod.snd c86)) fun v87 l88 => asB v87 fun b89 =>
 unc l88 fun v90 l91 => asI .i64 v90 fun n92 => un0 l91 (bindO (ifB b89 (some ([AV.bool (decide (n92 ≥ 0)), AV.int .i64 n92], Prod.snd (Prod.snd c86))) (some ([AV.bool false, AV.int .i64 n92], Prod.snd (Prod.snd c86))))
 fun c93 => unc (Prod.fst c93) fun v94 l95 => asB v94 fun b96 => unc l95 fun v97 l98 => asI .i64 v97 fun n99 => un0 l98 (some (AV.tup [AV.bool b96, AV.int .i64 n99])))))))
theorem g31_eq (x0 x1 : AV) : bareS vE 31 [x0, x1] = g31 x0 x1 := by kernel_rfl
/-- rostrum/ty.variable -/
noncomputable def g46 : AV → Option AV := fun x0 => asS x0 fun l0 => callS (orc vE) 58 [AV.str l0, AV.str [39]] (St.mk 0 0 Tr.leaf) fun v1 st2 _x => unT v1 fun l4 => nthS l4 0 fun v5 => asS v5 fun l6 => unT v1 fun l7 =>
 nthS l7 1 fun v8 => asB v8 fun b9 => bindO (ifB b9 (ifB (!l6 == []) (ifB (decide ((↑(List.length l6) : Int) ≤ 64)) (planS (orc vE) (primP (Prim.lib libTrim) [AV.str l6, AV.str [97, 98, 99, 100, 101, 102, 103, 104, 105,
 106, 107, 108, 109, 110, 111, 112, 113, 114, 115, 116, 117, 118, 119, 120, 121, 122, 48, 49, 50, 51, 52, 53, 54, 55, 56, 57]]) st2 fun v10 st11 _x => asS v10 fun l13 => some ([AV.bool (l13 == [])], st11)) (some
 ([AV.bool false], st2))) (some ([AV.bool false], st2))) (some ([AV.bool false], st2))) fun c14 => unc (Prod.fst c14) fun v15 l16 => asB v15 fun b17 => un0 l16 (some (AV.bool b17))
theorem g46_eq (x0 : AV) : bareS vE 46 [x0] = g46 x0 := by kernel_rfl
/-- slices.Contains[[]string,string] -/
noncomputable def g50 : AV → AV → Option AV := fun x0 x1 => asS x1 fun l0 => callS (orc vE) 51 [x0, AV.str l0] (St.mk 0 0 Tr.leaf) fun v1 _x _x_1 => asI .i64 v1 fun n4 => some (AV.bool (decide (n4 ≥ 0)))
/-- slices.Index[[]string,string] -/
noncomputable def g51_L1 (x0 : AV) (l0 : List UInt8) (k1 : Nat) : Car → Option (Car ⊕ Nat × Car) := fun c2 => unc (Prod.fst c2) fun v3 l4 => asI .i64 v3 fun n5 => unc l4 fun v6 l7 => asI .i64 v6 fun n8 => un0 l7 (ifB
 (decide (n8 < (↑k1 : Int))) (idxA 1 x0 n8 (Prod.snd c2) fun v9 _x => loadS 1 false v9 (Prod.snd c2) fun v11 _x => asS v11 fun l13 => ifB (l0 == l13) (some (Sum.inr (1, [AV.int .i64 n8], Prod.snd c2))) (letV
 (IntKind.wrap .i64 (n8 + 1)) fun n14 => some (Sum.inl ([AV.int .i64 n5, AV.int .i64 n14], Prod.snd c2)))) (some (Sum.inr (0, [AV.int .i64 n5], Prod.snd c2))))
noncomputable def g51 : AV → AV → Option AV := fun x0 x1 => asS x1 fun l0 => lenS x0 fun k1 => bindO (loopO (g51_L1 x0 l0 k1) ([AV.int .i64 0, AV.int .i64 0], St.mk 0 0 Tr.leaf)) fun c15 => unc (Prod.fst (Prod.snd c15))
 fun v16 l17 => asI .i64 v16 fun n18 => un0 l17 (sel2 (Prod.fst c15) (some (AV.int .i64 (-1))) fun _x => some (AV.int .i64 n18))
/-- strings.CutPrefix -/
noncomputable def g58 : AV → AV → Option AV := fun x0 x1 => asS x0 fun l0 => asS x1 fun l1 => callS (orc vE) 67 [AV.str l0, AV.str l1] (St.mk 0 0 Tr.leaf) fun v2 _x _x_1 => unT v2 fun l5 => nthS l5 0 fun v6 => asS v6
 fun l7 => unT v2 fun l8 => nthS l8 1 fun v9 => asB v9 fun b10 => some (AV.tup [AV.str l7, AV.bool b10])
theorem g58_eq (x0 x1 : AV) : bareS vE 58 [x0, x1] = g58 x0 x1 := by kernel_rfl
/-- internal/stringslite.CutPrefix -/
noncomputable def g67 : AV → AV → Option AV := fun x0 x1 => asS x0 fun l0 => asS x1 fun l1 => callS (orc vE) 78 [AV.str l0, AV.str l1] (St.mk 0 0 Tr.leaf) fun v2 _x _x_1 => asB v2 fun b5 => ifB (!b5) (some (AV.tup
 [AV.str l0, AV.bool false])) (chk (Nat.ble (List.length l1) (List.length l0)) (letV (List.drop (List.length l1) (List.take (List.length l0) l0)) fun l6 => some (AV.tup [AV.str l6, AV.bool true])))
theorem g67_eq (x0 x1 : AV) : bareS vE 67 [x0, x1] = g67 x0 x1 := by kernel_rfl
/-- internal/stringslite.HasPrefix -/
noncomputable def g78 : AV → AV → Option AV := fun x0 x1 => asS x0 fun l0 => asS x1 fun l1 => bindO (ifB (decide ((↑(List.length l0) : Int) ≥ (↑(List.length l1) : Int))) (chk (Nat.ble (List.length l1) (List.length l0))
 (letV (List.drop 0 (List.take (List.length l1) l0)) fun l2 => some ([AV.bool (l2 == l1)], St.mk 0 0 Tr.leaf))) (some ([AV.bool false], St.mk 0 0 Tr.leaf))) fun c3 => unc (Prod.fst c3) fun v4 l5 => asB v4 fun b6 => un0
 l5 (some (AV.bool b6))
theorem g78_eq (x0 x1 : AV) : bareS vE 78 [x0, x1] = g78 x0 x1 := by kernel_rfl
/-- rostrum/rostrumref16.Vars -/
noncomputable def w19_L1 (x0 : AV) (l4 : List UInt8) : Car → Option (Car ⊕ Nat × Car) := fun c12 => unc (Prod.fst c12) fun v13 l14 => unc l14 fun v15 l16 => asI .i64 v15 fun n17 => un0 l16 (lenS x0 fun k18 => ifB
 (decide (n17 < (↑k18 : Int))) (idxA 1 x0 n17 (Prod.snd c12) fun v19 _x => loadS 1 false v19 (Prod.snd c12) fun v21 _x => asS v21 fun l23 => ifB (l23 == l4) (some (Sum.inr (1, [x0], Prod.snd c12))) (letV (IntKind.wrap
 .i64 (n17 + 1)) fun n24 => some (Sum.inl ([v13, AV.int .i64 n24], Prod.snd c12)))) (some (Sum.inr (0, [v13], Prod.snd c12))))
noncomputable def w19_L2 (v7 : AV) : Car → Option (Car ⊕ Nat × Car) := fun c32 => unc (Prod.fst c32) fun v33 l34 => unc l34 fun v35 l36 => asI .i64 v35 fun n37 => un0 l36 (lenS v7 fun k38 => ifB (decide (n37 < (↑k38 :
 Int))) (idxA 2 v7 n37 (Prod.snd c32) fun v39 _x => loadS 2 true v39 (Prod.snd c32) fun v41 _x => unA v41 fun l44 => unc l44 fun v45 l46 => asS v45 fun l47 => unc l46 fun v48 l49 => un0 l49 (callS (orc vE) 19 [v33,
 AV.agg [AV.str l47, v48]] (Prod.snd c32) fun v50 st51 _x => letV (IntKind.wrap .i64 (n37 + 1)) fun n53 => some (Sum.inl ([v50, AV.int .i64 n53], st51)))) (some (Sum.inr (0, [v33], Prod.snd c32))))
noncomputable def w19 : AV → AV → St → Option (AV × St) := fun x0 x1 st => unA x1 fun l1 => unc l1 fun v2 l3 => asS v2 fun l4 => unc l3 fun v5 l6 => un0 l6 (asOne v5 (fit1 v5 fun v7 => callS (orc vE) 39 [AV.str l4] st
 fun v8 st9 _x => asB v8 fun b11 => ifB b11 (bindO (loopO (w19_L1 x0 l4) ([AV.nils, AV.int .i64 0], st9)) fun c25 => unc (Prod.fst (Prod.snd c25)) fun v26 l27 => un0 l27 (sel2 (Prod.fst c25) (appS 1 16 9 x0 [AV.str l4]
 (Prod.snd (Prod.snd c25)) fun v28 st29 _x => some (oneOf [v28], st29)) fun _x => some (oneOf [v26], Prod.snd (Prod.snd c25)))) (bindO (loopO (w19_L2 v7) ([x0, AV.int .i64 0], st9)) fun c54 => unc (Prod.fst (Prod.snd
 c54)) fun v55 l56 => un0 l56 (some (oneOf [v55], Prod.snd (Prod.snd c54))))))
end Go.Proofs.YtlfilkniobkbiaaDoor.Vm
/- Types in the machine; a variable's name, by the program and by the document. -/
namespace Go.Proofs.YtlfilkniobkbiaaDoor.Vm
open Go Go.VM Go.Proofs Go.Ty
abbrev S0 : St := St.mk 0 0 Tr.leaf
theorem ifB_sel {β : Type} (b x y : Bool) (s : St) (K : Car → Option β) : bindO (ifB b (some ([AV.bool x], s)) (some ([AV.bool y], s))) K = K ([AV.bool (cond b x y)], s) := by cases b <;> rfl
theorem ifB_idem {β : Type} (b : Bool) (x : Option β) : ifB b x x = x := by cases b <;> rfl
mutual
def IsT : Ty → AV → Prop
  | .mk nm l, v => ∃ x es, v = .agg [.str nm, x] ∧ IsSl 2 x es ∧ IsTs l es
def IsTs : List Ty → List AV → Prop
  | [], es => es = []
  | e :: l, es => ∃ v vs, es = v :: vs ∧ IsT e v ∧ IsTs l vs
end
section
variable {t : Ty} {l : List Ty} {es : List AV} {v : AV}
theorem IsTs.nil : IsTs [] [] := by simp only [IsTs]
theorem IsTs.cons {vs : List AV} (h : IsT t v) (k : IsTs l vs) : IsTs (t :: l) (v :: vs) := by simp only [IsTs]; exact ⟨v, vs, rfl, h, k⟩
theorem IsTs.len : ∀ {l : List Ty} {es : List AV}, IsTs l es → es.length = l.length
  | [], _, h => by simp only [IsTs] at h; rw [h]; rfl
  | e :: l, _, h => by
    simp only [IsTs] at h
    obtain ⟨v, vs, rfl, _, h⟩ := h
    simp [IsTs.len h]
theorem IsTs.drop : ∀ {l : List Ty} {es : List AV} (i : Nat), IsTs l es → IsTs (l.drop i) (es.drop i)
  | l, es, 0, h => by simpa using h
  | [], _, i + 1, h => by simp only [IsTs] at h; subst h; simp [IsTs]
  | e :: l, _, i + 1, h => by
    simp only [IsTs] at h
    obtain ⟨v, vs, rfl, _, h⟩ := h
    simpa using IsTs.drop i h
theorem IsTs.get {r : List Ty} {i : Nat} (h : IsTs l es) (hd : l.drop i = t :: r) : ∃ v, es[i]? = some v ∧ IsT t v ∧ i < l.length := by
  have h1 := IsTs.drop i h
  rw [hd] at h1
  simp only [IsTs] at h1
  obtain ⟨v, vs, he, hp, _⟩ := h1
  exact ⟨v, (drop_cons he).1, hp, (drop_cons hd).2.2⟩
theorem isT_open (h : IsT t v) : ∃ nm l x es, t = .mk nm l ∧ v = .agg [.str nm, x] ∧ IsSl 2 x es ∧ IsTs l es := by
  cases t with
  | mk nm l =>
    simp only [IsT] at h
    obtain ⟨x, es, h⟩ := h
    exact ⟨nm, l, x, es, rfl, h⟩
theorem isT_bare (h : IsT t v) : VM.bare v = true ∧ VM.strip v = v := by
  obtain ⟨nm, l, x, es, rfl, rfl, hx, _⟩ := isT_open h
  refine ⟨?_, rfl⟩
  rw [bare_agg]
  simp only [bares_cons, hx.bare]
  rfl
theorem ts_at (h : IsTs l es) {i : Nat} (hi : i < l.length) : ∃ v, es[i]? = some v ∧ IsT l[i] v := by
  obtain ⟨v, h1, h2, _⟩ := h.get (i := i) (List.drop_eq_getElem_cons hi)
  exact ⟨v, h1, h2⟩
end
theorem takeT2 {a b : AV} : takeO 2 true [a, b] = some (.agg [a, b]) := rfl
theorem slenT {z : Nat} {x : AV} {es : List AV} (h : IsSl z x es) : es.length ≤ 9223372036854775807 := h.1
theorem callT1 {F : FuncId} {v r : AV} (hN : VM.bare v = true ∧ VM.strip v = v) (hf : vE.full F = false) (h : (orc vE).bare F [v] = some r) {β : Type} (st : St) (K : Kv β) : callS (orc vE) F [v] st K = K r st q0 :=
  callS_bare st K hf (by simp only [List.map_cons, List.map_nil, hN.2]) (by simp only [bares_cons, hN.1]; rfl) h
theorem callT2 {F : FuncId} {v u r : AV} (hN : VM.bare v = true ∧ VM.strip v = v) (hu : VM.bare u = true ∧ VM.strip u = u) (hf : vE.full F = false) (h : (orc vE).bare F [v, u] = some r) {β : Type} (st : St) (K : Kv β) : callS (orc vE) F [v, u] st K = K r st q0 :=
  callS_bare st K hf (by simp only [List.map_cons, List.map_nil, hN.2, hu.2]) (by simp only [bares_cons, hN.1, hu.1]; rfl) h
theorem int_b (k : IntKind) (n : Int) : VM.bare (.int k n) = true ∧ VM.strip (.int k n) = .int k n := ⟨rfl, rfl⟩
theorem str_b (s : List UInt8) : VM.bare (.str s) = true ∧ VM.strip (.str s) = .str s := ⟨rfl, rfl⟩
theorem hasPre (s p : List UInt8) : (orc vE).bare 78 [.str s, .str p] = some (.bool (decide ((s.length : Int) ≥ (p.length : Int)) && ((s.take p.length) == p))) := by
  refine bare_of rfl ((g78_eq _ _).trans ?_)
  by_cases h : p.length ≤ s.length
  · have h1 : decide ((s.length : Int) ≥ (p.length : Int)) = true := decide_eq_true (by omega)
    simp only [g78, asS_str, h1, ifB_true, Nat.ble_eq_true_of_le h, chk_true, letV_eq, List.drop_zero, bindO_ok, unc_cons, asB_bool, un0_nil, Bool.true_and]
  · have h1 : decide ((s.length : Int) ≥ (p.length : Int)) = false := decide_eq_false (by omega)
    simp only [g78, asS_str, h1, ifB_false, bindO_ok, unc_cons, asB_bool, un0_nil, Bool.false_and]
theorem cutPre (s : List UInt8) : (orc vE).bare 58 [.str s, .str [39]] = some (.tup [.str (if s.head? == some 39 then s.drop 1 else s), .bool (s.head? == some 39)]) := by
  have e : (decide ((s.length : Int) ≥ (([39] : List UInt8).length : Int)) && ((s.take ([39] : List UInt8).length) == [39])) = (s.head? == some 39) := by
    cases s with
    | nil => rfl
    | cons c s =>
      simp only [List.length_cons, List.length_nil, List.take_succ_cons, List.take_zero, List.head?_cons]
      rw [decide_eq_true (by omega), Bool.true_and]
      rw [Bool.eq_iff_iff]; simp
  have c := fun {γ : Type} (st : St) (K : Kv γ) => callT2 (str_b s) (str_b [39]) rfl ((hasPre s [39]).trans (by rw [e])) st K
  have h67 : (orc vE).bare 67 [.str s, .str [39]] = some (.tup [.str (if s.head? == some 39 then s.drop 1 else s), .bool (s.head? == some 39)]) := by
    refine bare_of rfl ((g67_eq _ _).trans ?_)
    cases hb : s.head? == some 39 with
    | true =>
      have hl : 1 ≤ s.length := by cases s with | nil => simp at hb | cons => simp
      have hl' : Nat.ble ([39] : List UInt8).length s.length = true := Nat.ble_eq_true_of_le hl
      rw [hb] at c
      simp only [g67, asS_str, c, asB_bool, Bool.not_true, ifB_false, hl', chk_true, letV_eq, List.take_length, if_true]
      rfl
    | false =>
      rw [hb] at c
      simp only [g67, asS_str, c, asB_bool, Bool.not_false, ifB_true, Bool.false_eq_true, if_false]
  have d := fun {γ : Type} (st : St) (K : Kv γ) => callT2 (str_b s) (str_b [39]) rfl h67 st K
  refine bare_of rfl ((g58_eq _ _).trans ?_)
  simp only [g58, asS_str, d, unT_tup, nthS_zero, nthS_one, asB_bool]
def idSet : List UInt8 := [97, 98, 99, 100, 101, 102, 103, 104, 105, 106, 107, 108, 109, 110, 111, 112, 113, 114, 115, 116, 117, 118, 119, 120, 121, 122, 48, 49, 50, 51, 52, 53, 54, 55, 56, 57]
theorem idSet_has (b : UInt8) : idSet.contains b = idB b := by
  have h : ∀ n, n < 256 → idSet.contains (UInt8.ofNat n) = idB (UInt8.ofNat n) := by decide
  simpa using h b.toNat b.toNat_lt
theorem dropWhile_nil {p : UInt8 → Bool} : ∀ {l : List UInt8}, l.dropWhile p = [] ↔ l.all p = true
  | [] => by simp
  | c :: l => by
    rw [List.dropWhile_cons, List.all_cons]
    cases h : p c with
    | true => simpa using dropWhile_nil (p := p) (l := l)
    | false => simp
theorem trim_nil (s : List UInt8) : (Lib.trimS s idSet == []) = s.all idB := by
  have e : (fun b => idSet.contains b) = idB := funext idSet_has
  rw [Bool.eq_iff_iff, beq_iff_eq]
  unfold Lib.trimS Lib.trimLeftS Lib.trimRightS
  rw [e]
  constructor
  · intro h
    rw [dropWhile_nil] at h
    have h1 : (s.reverse.dropWhile idB).all idB = true := by rw [← List.all_reverse]; exact h
    have h2 : s.reverse.dropWhile idB = [] := by
      cases hd : s.reverse.dropWhile idB with
      | nil => rfl
      | cons c l =>
        rw [hd, List.all_cons, Bool.and_eq_true] at h1
        have := List.head_dropWhile_not (p := idB) (l := s.reverse) (by rw [hd]; simp)
        simp only [hd, List.head_cons] at this
        rw [h1.1] at this; cases this
    rw [dropWhile_nil, List.all_reverse] at h2
    exact h2
  · intro h
    have : s.reverse.dropWhile idB = [] := dropWhile_nil.2 (by rw [List.all_reverse]; exact h)
    rw [this]; rfl
theorem var_prog (s : List UInt8) : (orc vE).bare 46 [.str s] = some (.bool (varB s)) := by
  have c := fun {γ : Type} (st : St) (K : Kv γ) => callT2 (str_b s) (str_b [39]) rfl (cutPre s) st K
  refine bare_of rfl ((g46_eq _).trans ?_)
  unfold varB
  cases hb : s.head? == some 39 with
  | false =>
    rw [hb] at c
    simp only [g46, asS_str, c, unT_tup, nthS_zero, nthS_one, asB_bool, ifB_false, bindO_ok, unc_cons, un0_nil, Bool.false_and, Bool.and_false]
  | true =>
    obtain ⟨r, rfl⟩ : ∃ r, s = 39 :: r := by
      cases s with
      | nil => simp at hb
      | cons c r => simp at hb; exact ⟨r, by rw [hb]⟩
    rw [hb] at c
    simp only [if_true, List.drop_succ_cons, List.drop_zero] at c
    by_cases h0 : r = []
    · subst h0
      simp only [g46, asS_str, c, unT_tup, nthS_zero, nthS_one, asB_bool, ifB_true, bindO_ok, unc_cons, un0_nil, show (!([] : List UInt8) == []) = false from rfl, ifB_false, List.length_cons, List.length_nil]
      rfl
    · have hne : (!r == []) = true := by simp [h0]
      have hl1 : 1 ≤ r.length := List.length_pos_iff.2 h0
      by_cases h64 : r.length ≤ 64
      · have h1 : decide ((r.length : Int) ≤ 64) = true := decide_eq_true (by omega)
        have hlib : libTrim [AV.str r, AV.str idSet] = .ok (.str (Lib.trimS r idSet)) := by
          have h2 : (Nat.blt idSet.length 4294967281 && idSet.all (fun b => b.toNat.blt 128) && Nat.ble r.length 9223372036854775807) = true := by
            rw [Nat.ble_eq_true_of_le (by omega)]; rfl
          simp only [libTrim, h2]
        have p := fun {γ : Type} (st : St) (K : Kv γ) => (planS_lib (O := orc vE) hlib st K)
        have p : ∀ {γ : Type} (st : St) (K : Kv γ), planS (orc vE) (primP (Prim.lib libTrim) [AV.str r, AV.str [97, 98, 99, 100, 101, 102, 103, 104, 105, 106, 107, 108, 109, 110, 111, 112, 113, 114, 115, 116, 117, 118, 119, 120, 121, 122, 48, 49, 50, 51, 52, 53, 54, 55, 56, 57]]) st K = _ := p
        simp only [g46, asS_str, c, unT_tup, nthS_zero, nthS_one, asB_bool, ifB_true, hne, h1, p, bindO_ok, unc_cons, un0_nil, trim_nil, List.length_cons, List.drop_succ_cons, List.drop_zero]
        rw [decide_eq_true (show 2 ≤ r.length + 1 by omega), decide_eq_true (show r.length + 1 ≤ 65 by omega)]
        rfl
      · have h1 : decide ((r.length : Int) ≤ 64) = false := decide_eq_false (by omega)
        simp only [g46, asS_str, c, unT_tup, nthS_zero, nthS_one, asB_bool, ifB_true, hne, h1, ifB_false, bindO_ok, unc_cons, un0_nil, List.length_cons]
        rw [decide_eq_false (show ¬ r.length + 1 ≤ 65 by omega), Bool.and_false, Bool.false_and]
end Go.Proofs.YtlfilkniobkbiaaDoor.Vm
/- How many parts a type has; whether it may be. -/
namespace Go.Proofs.YtlfilkniobkbiaaDoor.Vm
open Go Go.VM Go.Proofs Go.Ty
theorem ifB_and {β : Type} (b c : Bool) (s : St) (K : Car → Option β) : bindO (ifB b (some ([AV.bool c], s)) (some ([AV.bool false], s))) K = K ([AV.bool (b && c)], s) := by cases b <;> rfl
theorem cond_and' (a b : Bool) : cond a b false = (b && a) := by cases a <;> cases b <;> rfl
theorem cond_self (a b : Bool) : cond a a b = (a || b) := by cases a <;> rfl
end Go.Proofs.YtlfilkniobkbiaaDoor.Vm
/- Whether a type may be. -/
namespace Go.Proofs.YtlfilkniobkbiaaDoor.Vm
open Go Go.VM Go.Proofs Go.Ty
def FoQ (t : Ty) (k : Nat) (r : AV) : Prop := ∃ (b : Bool) (m : Int), r = .tup [.bool b, .int .i64 m] ∧ b = (formT t && decide ((szT t : Int) ≤ (k : Int))) ∧ (b = true → m = (k : Int) - (szT t : Int))
theorem form_loop {L : Nat} (hL : L ≤ 1000000) {l : List Ty} {x : AV} {es : List AV} (hx : IsSl 2 x es) (hs : IsTs l es) (hg : ∀ t ∈ l, ∀ v (k : Nat), IsT t v → k ≤ L → ∃ r, FoQ t k r ∧ (orc vE).bare 31 [v, .int .i64 (k : Int)] = some r) (st : St) : ∀ (r : List Ty) (j : Nat) (b : Bool) (m : Int), m ≤ (L : Int) → l.drop j = r →
    ∃ (b' : Bool) (m' : Int), loopO (g31_L1 x es.length) ([.bool b, .int .i64 m, .int .i64 (j : Int)], st) = some (0, [.bool b', .int .i64 m'], st) ∧ (b' && decide (m' ≥ 0)) = (b && (formTs r && decide ((szTs r : Int) ≤ m))) ∧ ((b' && decide (m' ≥ 0)) = true → m' = m - (szTs r : Int))
  | [], j, b, m, hm, hd => by
    have := List.drop_eq_nil_iff.1 hd
    have hl := hs.len
    have q : decide ((j : Int) < (es.length : Int)) = false := decide_eq_false (by omega)
    refine ⟨b, m, loopO_inr ?_, ?_, fun _ => by simp [szTs]⟩
    · simp only [g31_L1, unc_cons, asI_int, asB_bool, un0_nil, q, ifB_false, bindO_ok]
    · rw [Bool.eq_iff_iff]
      simp only [Bool.and_eq_true, decide_eq_true_eq]
      simp [formTs, szTs]
  | t :: r, j, b, m, hm, hd => by
    obtain ⟨hgt, hr, hlt⟩ := drop_cons hd
    have hl := hs.len
    have q : decide ((j : Int) < (es.length : Int)) = true := decide_eq_true (by omega)
    have hlen := slenT hx
    by_cases hgo : b = true ∧ 0 ≤ m
    · obtain ⟨rfl, h0⟩ := hgo
      obtain ⟨k, rfl⟩ := Int.eq_ofNat_of_zero_le h0
      obtain ⟨v, hv, hV, _⟩ := hs.get hd
      obtain ⟨rr, ⟨b1, m1, rfl, hb1, hm1⟩, hk⟩ := hg t (List.mem_of_getElem? hgt) v k hV (by omega)
      have c := fun {γ : Type} (st : St) (K : Kv γ) => callT2 (isT_bare hV) (int_b _ _) rfl hk st K
      have q2 : decide ((k : Int) ≥ 0) = true := decide_eq_true (by omega)
      obtain ⟨nm, ls, y, fs, e0, rfl, _, _⟩ := isT_open hV
      by_cases hbt : b1 = true
      · have hm1' := hm1 hbt
        have hsz : 1 ≤ szT t := by rw [e0, szT]; omega
        obtain ⟨b', m', lp, e1, e2⟩ := form_loop hL hx hs hg st r (j + 1) b1 m1 (by omega) hr
        refine ⟨b', m', ?_, ?_, ?_⟩
        · rw [loopO_inl (s' := ([.bool b1, .int .i64 m1, .int .i64 ((j + 1 : Nat) : Int)], st)), lp]
          simp only [g31_L1, unc_cons, asI_int, asB_bool, asS_str, un0_nil, q, q2, ifB_true, bindO_ok, hx.idx hv, cells_agg, loadS_ip, takeT2, unA_agg, c, unT_tup, nthS_zero, nthS_one, letV_eq, wrapA1 (show j + 1 ≤ 9223372036854775807 by omega)]
        · rw [e1, hm1']
          rw [hbt] at hb1 ⊢
          have hb1 := hb1.symm
          rw [Bool.and_eq_true, decide_eq_true_eq] at hb1
          rw [Bool.eq_iff_iff]
          simp only [Bool.true_and, Bool.and_eq_true, decide_eq_true_eq]
          simp only [formTs, szTs, hb1.1, Bool.true_and]
          constructor
          · intro h; exact ⟨h.1, by omega⟩
          · intro h; exact ⟨h.1, by omega⟩
        · intro h
          rw [e2 h, hm1']
          simp only [szTs]
          omega
      · have hbf : b1 = false := by simpa using hbt
        subst hbf
        have hlp : loopO (g31_L1 x es.length) ([.bool false, .int .i64 m1, .int .i64 ((j + 1 : Nat) : Int)], st) = some (0, [.bool false, .int .i64 m1], st) := by
          refine loopO_inr ?_
          simp only [g31_L1, unc_cons, asI_int, asB_bool, un0_nil, ifB_false, ifB_idem, bindO_ok]
        refine ⟨false, m1, ?_, ?_, fun h => by simp at h⟩
        · rw [loopO_inl (s' := ([.bool false, .int .i64 m1, .int .i64 ((j + 1 : Nat) : Int)], st)), hlp]
          simp only [g31_L1, unc_cons, asI_int, asB_bool, asS_str, un0_nil, q, q2, ifB_true, bindO_ok, hx.idx hv, cells_agg, loadS_ip, takeT2, unA_agg, c, unT_tup, nthS_zero, nthS_one, letV_eq, wrapA1 (show j + 1 ≤ 9223372036854775807 by omega)]
        · have hb1 := hb1.symm
          rw [Bool.and_eq_false_iff, decide_eq_false_iff_not] at hb1
          rw [Bool.eq_iff_iff]
          simp only [Bool.false_and, Bool.true_and, Bool.and_eq_true, decide_eq_true_eq]
          simp only [formTs, szTs, Bool.and_eq_true]
          constructor
          · intro h; cases h
          · intro h
            rcases hb1 with q | q
            · rw [q] at h; exact h.1.1
            · omega
    · refine ⟨b, m, loopO_inr ?_, ?_, ?_⟩
      · cases b with
        | false => simp only [g31_L1, unc_cons, asI_int, asB_bool, un0_nil, ifB_false, ifB_idem, bindO_ok]
        | true =>
          have hm0 : ¬ 0 ≤ m := fun h => hgo ⟨rfl, h⟩
          have q2 : decide (m ≥ 0) = false := decide_eq_false hm0
          simp only [g31_L1, unc_cons, asI_int, asB_bool, un0_nil, q, q2, ifB_true, ifB_false, bindO_ok]
      · cases b with
        | false => simp
        | true =>
          have hm0 : ¬ 0 ≤ m := fun h => hgo ⟨rfl, h⟩
          rw [Bool.eq_iff_iff]
          simp only [Bool.true_and, Bool.and_eq_true, decide_eq_true_eq]
          constructor
          · intro h; exact absurd h hm0
          · intro h; omega
      · intro h
        simp only [Bool.and_eq_true, decide_eq_true_eq] at h
        exact absurd ⟨h.1, h.2⟩ hgo
theorem form_ok : ∀ (n : Nat) (t : Ty), SizeOf.sizeOf t < n → ∀ (v : AV) (k : Nat), IsT t v → k ≤ 1000000 → ∃ r, FoQ t k r ∧ (orc vE).bare 31 [v, .int .i64 (k : Int)] = some r := by
  intro n
  induction n with
  | zero => intro t h; omega
  | succ n ih =>
    intro t hn v k hv hk
    obtain ⟨nm, ls, y, fs, rfl, rfl, hx, hs⟩ := isT_open hv
    simp only [Ty.mk.sizeOf_spec] at hn
    obtain ⟨b', m', lp, e1, e2⟩ := form_loop (L := 1000000) (Nat.le_refl _) hx hs (fun t ht v k hV hk => ih t (by have := List.sizeOf_lt_of_mem ht; omega) v k hV hk) S0 ls 0 (nameOk nm ls.length) ((k : Int) - 1) (by omega) rfl
    have lp : loopO (g31_L1 y fs.length) ([.bool (nameOk nm ls.length), .int .i64 ((k : Int) - 1), .int .i64 0], St.mk 0 0 Tr.leaf) = _ := lp
    have c := fun {γ : Type} (st : St) (K : Kv γ) => callT1 (str_b nm) rfl (var_prog nm) st K
    have hw : IntKind.wrap .i64 ((k : Int) - 1) = (k : Int) - 1 := by rw [IntKind.wrap_i64]; omega
    refine ⟨.tup [.bool (b' && decide (m' ≥ 0)), .int .i64 m'], ⟨_, m', rfl, ?_, fun h => ?_⟩, bare_of rfl ((g31_eq _ _).trans ?_)⟩
    · rw [e1, Bool.eq_iff_iff]
      simp only [Bool.and_eq_true, decide_eq_true_eq]
      simp only [formT, szT, Bool.and_eq_true]
      constructor
      · intro h; exact ⟨⟨h.1, h.2.1⟩, by omega⟩
      · intro h; exact ⟨h.1.1, h.1.2, by omega⟩
    · rw [e2 h]
      simp only [szT]
      omega
    · have hcore : nameOk nm ls.length = _ := rfl
      simp only [g31, unA_agg, unc_cons, asI_int, asS_str, asB_bool, un0_nil, hx.asOne, hx.fit1, hx.len, c, ifB_sel, ifB_and, bindO_ok, cond_self, cond_and', letV_eq, hw, hs.len]
      have key : (bif nm == [105, 110, 116] || (nm == [102, 108, 111, 97, 116] || (nm == [98, 111, 111, 108] || (nm == [115, 116, 114, 105, 110, 103] || nm == [117, 110, 105, 116]))) then (ls.length : Int) == 0 else bif nm == [45, 62] then (ls.length : Int) == 2 else bif nm == [116, 117, 112, 108, 101] then decide ((ls.length : Int) ≥ 2) else bif nm == [108, 105, 115, 116] then (ls.length : Int) == 1 else (varB nm && ((ls.length : Int) == 0))) = nameOk nm ls.length := by
        simp only [nameOk, baseB, sInt, sFloat, sBool, sString, sUnit, sArrow, sTuple, sList]
        rw [Bool.and_comm (varB nm)]
      rw [hs.len] at lp
      rw [key, lp]
      simp only [bindO_ok, unc_cons, asB_bool, asI_int, un0_nil]
      cases b' <;> simp only [ifB_true, ifB_false, bindO_ok, unc_cons, asB_bool, asI_int, un0_nil, Bool.true_and, Bool.false_and]
theorem may_prog {t : Ty} {v : AV} (hv : IsT t v) : (orc vE).bare 10 [v] = some (.bool (mayT t)) := by
  obtain ⟨r, ⟨b, m, rfl, hb, _⟩, hk⟩ := form_ok _ t (Nat.lt_succ_self _) v 512 hv (by omega)
  have c := fun {γ : Type} (st : St) (K : Kv γ) => callT2 (isT_bare hv) (int_b .i64 512) rfl hk st K
  have e : b = mayT t := by
    rw [hb, Bool.eq_iff_iff]
    simp only [mayT, Bool.and_eq_true, decide_eq_true_eq]
    constructor
    · intro h; exact ⟨by omega, h.1⟩
    · intro h; exact ⟨h.2, by omega⟩
  obtain ⟨nm, ls, y, fs, rfl, rfl, hx, hs⟩ := isT_open hv
  refine bare_of rfl ((g10_eq _).trans ?_)
  simp only [g10, unA_agg, unc_cons, asI_int, asS_str, un0_nil, hx.asOne, hx.fit1, c, unT_tup, nthS_zero, nthS_one, asB_bool, e]
end Go.Proofs.YtlfilkniobkbiaaDoor.Vm
/- The variables of a type. -/
namespace Go.Proofs.YtlfilkniobkbiaaDoor.Vm
open Go Go.VM Go.Proofs Go.Ty
/-- What a loop's turn comes to. -/
def Lp {σ β : Type} (I : σ → Prop) (Q : β → Prop) : Sum σ β → Prop
  | .inl s => I s
  | .inr b => Q b
theorem Goes.inl {σ β : Type} {I : σ → Prop} {Q : β → Prop} {s : σ} (h : I s) : Goes (some (Sum.inl s : Sum σ β)) (Lp I Q) := ⟨_, rfl, h⟩
theorem Goes.inr {σ β : Type} {I : σ → Prop} {Q : β → Prop} {b : β} (h : Q b) : Goes (some (Sum.inr b : Sum σ β)) (Lp I Q) := ⟨_, rfl, h⟩
theorem Goes.upto {σ β : Type} {Q : β → Prop} {F : σ → Option (Sum σ β)} {n : Nat} {I : Nat → σ → Prop} (step : ∀ i s, i < n → I i s → Goes (F s) (Lp (I (i + 1)) Q))
    (last : ∀ s, I n s → Goes (F s) (Lp (fun _ => False) Q)) : ∀ (k i : Nat) (s : σ), i + k = n → I i s → Goes (loopO F s) Q := by
  intro k
  induction k with
  | zero =>
    intro i s hi h
    obtain ⟨r, e, hr⟩ := last s (by rw [← show i = n by omega]; exact h)
    cases r with
    | inl s' => exact hr.elim
    | inr b => exact ⟨b, loopO_inr e, hr⟩
  | succ k ih =>
    intro i s hi h
    obtain ⟨r, e, hr⟩ := step i s (by omega) h
    cases r with
    | inl s' => rw [loopO_inl e]; exact ih (i + 1) s' (by omega) hr
    | inr b => exact ⟨b, loopO_inr e, hr⟩
end Go.Proofs.YtlfilkniobkbiaaDoor.Vm
/- A variable's letter. -/
namespace Go.Proofs.YtlfilkniobkbiaaDoor.Vm
open Go Go.VM Go.Proofs Go.Ty
theorem w8 {n : Int} (h : 0 ≤ n ∧ n ≤ 255) : IntKind.wrap .u8 n = n := by rw [IntKind.wrap_u8]; omega
end Go.Proofs.YtlfilkniobkbiaaDoor.Vm
/- A type's text, by the program. -/
namespace Go.Proofs.YtlfilkniobkbiaaDoor.Vm
open Go Go.VM Go.Proofs Go.Ty
theorem dec_dig (k : Nat) (h : k < 100) : Lib.decDigits k = digits k := by
  unfold digits digF
  rw [Lib.decDigits]
  by_cases h10 : k < 10
  · rw [dif_pos h10, if_pos h10]
  · rw [dif_neg h10, if_neg h10, Lib.decDigits, dif_pos (by omega)]
    obtain ⟨f, rfl⟩ : ∃ f, k = f + 1 := ⟨k - 1, by omega⟩
    rw [digF, if_pos (by omega)]
theorem itoa_ok {k : Nat} (h : k < 100) {β : Type} (st : St) (K : Kv β) : planS (orc vE) (primP (Prim.lib libItoa) [AV.int .i64 (k : Int)]) st K = K (.str (digits k)) st q0 := by
  have e : libItoa [AV.int .i64 (k : Int)] = .ok (.str (digits k)) := by
    show (match Nat.blt k 100 with | true => Except.ok (AV.str (Lib.decDigits k)) | false => _) = _
    rw [blt_true.2 h, dec_dig k h]
  exact planS_lib e st K
end Go.Proofs.YtlfilkniobkbiaaDoor.Vm
/- A type's text, by the document. -/
namespace Go.Proofs.YtlfilkniobkbiaaDoor.Vm
open Go Go.VM Go.Proofs Go.Ty
end Go.Proofs.YtlfilkniobkbiaaDoor.Vm
/- The examples run. -/
namespace Go.Proofs.YtlfilkniobkbiaaDoor.Vm
open Go Go.VM Go.Proofs
theorem awake_run : (caller vE 3000).bare 9 [] = .ok (.bool true) := by kernel_rfl
end Go.Proofs.YtlfilkniobkbiaaDoor.Vm
/- The texts of types; the law TyShows. -/
namespace Go.Proofs.YtlfilkniobkbiaaDoor.Vm
open Go Go.VM Go.Proofs Go.Ty
end Go.Proofs.YtlfilkniobkbiaaDoor.Vm
namespace Go.Proofs.YtlfilkniobkbiaaDoor.Vm
open Go Go.VM Go.Proofs
/-- rostrum/rostrumlaw16.TyTexts -/
noncomputable def g6 : AV → AV → Option AV := fun x0 x1 => unA x0 fun l1 => unc l1 fun v2 l3 => asS v2 fun l4 => unc l3 fun v5 l6 => un0 l6 (unA x1 fun l8 => unc l8 fun v9 l10 => asS v9 fun l11 => unc l10 fun v12 l13 =>
 un0 l13 (asOne v5 (fit1 v5 fun v14 => asOne v12 (fit1 v12 fun v15 => bindO (callS (orc vE) 8 [AV.agg [AV.str l4, v14], AV.int .i64 600] (St.mk 0 0 Tr.leaf) fun v17 st18 _x => asI .i64 v17 fun n20 => ifB (decide (n20 ≥
 600)) (some ([AV.bool true], st18)) (callS (orc vE) 8 [AV.agg [AV.str l11, v15], AV.int .i64 600] st18 fun v22 st23 _x => asI .i64 v22 fun n25 => ifB (decide (n25 ≥ 600)) (some ([AV.bool true], st23)) (callS (orc vE) 9
 [] st23 fun v26 st27 _x => asB v26 fun b29 => some ([AV.bool !b29], st27)))) fun c30 => unc (Prod.fst c30) fun v31 l32 => asB v31 fun b33 => un0 l32 (ifB b33 (callS (orc vE) 9 [] (Prod.snd c30) fun v34 _x _x_1 => asB
 v34 fun b37 => some (AV.bool b37)) (bindO (callS (orc vE) 10 [AV.agg [AV.str l4, v14]] (Prod.snd c30) fun v39 st40 _x => asB v39 fun b42 => ifB (!b42) (some ([AV.bool true], st40)) (callS (orc vE) 10 [AV.agg [AV.str
 l11, v15]] st40 fun v44 st45 _x => asB v44 fun b47 => some ([AV.bool !b47], st45))) fun c48 => unc (Prod.fst c48) fun v49 l50 => asB v49 fun b51 => un0 l50 (ifB b51 (some (AV.bool true)) (callS (orc vE) 19 [AV.nils,
 AV.agg [AV.str l4, v14]] (Prod.snd c48) fun v53 st54 x55 => chk (apart x55 (Fx.mk [] Did.kept) && true) (callS (orc vE) 19 [AV.nils, AV.agg [AV.str l11, v15]] st54 fun v57 st58 _x => bindO (callS (orc vE) 12 [AV.agg
 [AV.str l4, v14]] st58 fun v61 st62 x63 => asS v61 fun l64 => chk (apart x63 (Fx.mk [] Did.kept) && true) (callS (orc vE) 12 [AV.agg [AV.str l11, v15]] st62 fun v66 st67 x68 => asS v66 fun l69 => chk (apart x68 (Fx.mk
 [] Did.kept) && (apart x63 (Fx.mk [] Did.kept) && true)) (lenS v53 fun k70 => chk (apart x68 (Fx.mk [] Did.kept) && (apart x63 (Fx.mk [] Did.kept) && true)) (chk (apart x68 (Fx.mk [] Did.kept) && (apart x63 (Fx.mk []
 Did.kept) && true)) (lenS v57 fun k71 => chk (apart x68 (Fx.mk [] Did.kept) && (apart x63 (Fx.mk [] Did.kept) && true)) (chk (apart x68 (Fx.mk [] Did.kept) && (apart x63 (Fx.mk [] Did.kept) && true)) (ifB ((↑k70 : Int)
 == (↑k71 : Int)) (callS (orc vE) 21 [AV.agg [AV.str l4, v14], v53] st67 fun v73 st74 x75 => unA v73 fun l77 => unc l77 fun v78 l79 => asS v78 fun l80 => unc l79 fun v81 l82 => un0 l82 (chk (apart (Fx.mk [] Did.kept) x75
 && true) (chk (apart x75 (Fx.mk [] Did.kept) && true) (chk (apart x75 (Fx.mk [] Did.kept) && true) (callS (orc vE) 21 [AV.agg [AV.str l11, v15], v57] st74 fun v84 st85 x86 => unA v84 fun l88 => unc l88 fun v89 l90 =>
 asS v89 fun l91 => unc l90 fun v92 l93 => un0 l93 (chk (apart (Fx.mk [] Did.kept) x86 && true) (callS (orc vE) 18 [AV.agg [AV.str l80, v81], AV.agg [AV.str l91, v92]] st85 fun v94 st95 x96 => asB v94 fun b97 => chk
 (apart (Fx.mk [] Did.kept) x96 && true) (some ([AV.bool ((l64 == l69) == b97)], st95))))))))) (some ([AV.bool ((l64 == l69) == false)], st67))))))))) fun c98 => unc (Prod.fst c98) fun v99 l100 => asB v99 fun b101 => un0
 l100 (some (AV.bool b101)))))))))))
/-- rostrum/rostrumref16.Same -/
noncomputable def g18_L1 (v14 : AV) (v15 : AV) : Car → Option (Car ⊕ Nat × Car) := fun c22 => unc (Prod.fst c22) fun v23 l24 => asB v23 fun b25 => unc l24 fun v26 l27 => asI .i64 v26 fun n28 => un0 l27 (lenS v14 fun k29
 => ifB (decide (n28 < (↑k29 : Int))) (idxA 2 v14 n28 (Prod.snd c22) fun v30 _x => loadS 2 true v30 (Prod.snd c22) fun v32 _x => unA v32 fun l35 => unc l35 fun v36 l37 => asS v36 fun l38 => unc l37 fun v39 l40 => un0 l40
 (idxA 2 v15 n28 (Prod.snd c22) fun v41 _x => loadS 2 true v41 (Prod.snd c22) fun v43 _x => unA v43 fun l46 => unc l46 fun v47 l48 => asS v47 fun l49 => unc l48 fun v50 l51 => un0 l51 (callS (orc vE) 18 [AV.agg [AV.str
 l38, v39], AV.agg [AV.str l49, v50]] (Prod.snd c22) fun v52 st53 _x => asB v52 fun b55 => ifB (!b55) (some (Sum.inr (1, [AV.bool false], st53))) (letV (IntKind.wrap .i64 (n28 + 1)) fun n56 => some (Sum.inl ([AV.bool
 b25, AV.int .i64 n56], st53)))))) (some (Sum.inr (0, [AV.bool b25], Prod.snd c22))))
noncomputable def g18 : AV → AV → Option AV := fun x0 x1 => unA x0 fun l1 => unc l1 fun v2 l3 => asS v2 fun l4 => unc l3 fun v5 l6 => un0 l6 (unA x1 fun l8 => unc l8 fun v9 l10 => asS v9 fun l11 => unc l10 fun v12 l13
 => un0 l13 (asOne v5 (fit1 v5 fun v14 => asOne v12 (fit1 v12 fun v15 => bindO (ifB (!l4 == l11) (some ([AV.bool true], St.mk 0 0 Tr.leaf)) (lenS v14 fun k16 => lenS v15 fun k17 => some ([AV.bool ((↑k16 : Int) != (↑k17 :
 Int))], St.mk 0 0 Tr.leaf))) fun c18 => unc (Prod.fst c18) fun v19 l20 => asB v19 fun b21 => un0 l20 (ifB b21 (some (AV.bool false)) (bindO (loopO (g18_L1 v14 v15) ([AV.bool false, AV.int .i64 0], Prod.snd c18)) fun c57
 => unc (Prod.fst (Prod.snd c57)) fun v58 l59 => asB v58 fun b60 => un0 l59 (sel2 (Prod.fst c57) (some (AV.bool true)) fun _x => some (AV.bool b60))))))))
end Go.Proofs.YtlfilkniobkbiaaDoor.Vm
/- The law TyTexts. -/
namespace Go.Proofs.YtlfilkniobkbiaaDoor.Vm
open Go Go.VM Go.Proofs Go.Ty
abbrev TTy : TypeId := 24
abbrev z2 : List AV := [.str [], .nils]
theorem frzType {st : St} {x x' : AV} {ws : List AV} (hx : IsSl 2 x' ws) (hf : ∀ n, VM.freeze st 0 (n + 1) x = .ok x') (nm : Tx) {β : Type} (K : AV → Option β) :
    frzS st 0 (.agg [.str nm, x]) K = K (.agg [.str nm, x']) := by
  refine frz_agg (allE_cons (fz_str _ st 0 99 (by omega)) (allE_cons (hf 98) allE_nil)) ?_ K
  simp only [bares_cons, hx.bare]
  rfl
theorem isTs_snoc : ∀ {l : List Ty} {es : List AV} {t : Ty} {v : AV}, IsTs l es → IsT t v → IsTs (l ++ [t]) (es ++ [v])
  | [], es, t, v, h, hv => by
    simp only [IsTs] at h
    subst h
    exact IsTs.cons hv IsTs.nil
  | u :: l, es, t, v, h, hv => by
    simp only [IsTs] at h
    obtain ⟨w, ws, rfl, hw, h⟩ := h
    exact IsTs.cons hw (isTs_snoc h hv)
/-! the same? -/
/-! the law -/
end Go.Proofs.YtlfilkniobkbiaaDoor.Vm
namespace Go.Proofs.YtlfilkniobkbiaaDoor.Vm
open Go Go.VM Go.Proofs
/-- rostrum/rostrumlaw16.TyAlike -/
noncomputable def g4_L1 (x0 : AV) (v17 : AV) (v21 : AV) : Car → Option (Car ⊕ Nat × Car) := fun c24 => unc (Prod.fst c24) fun v25 l26 => asB v25 fun b27 => unc l26 fun v28 l29 => asI .i64 v28 fun n30 => un0 l29 (letV
 (IntKind.wrap .i64 (n30 + 1)) fun n31 => lenS x0 fun k32 => ifB (decide (n31 < (↑k32 : Int))) (idxA 2 x0 n30 (Prod.snd c24) fun v33 _x => loadS 2 true v33 (Prod.snd c24) fun v35 _x => unA v35 fun l38 => unc l38 fun v39
 l40 => asS v39 fun l41 => unc l40 fun v42 l43 => un0 l43 (callS (orc vE) 16 [v17, AV.agg [AV.str l41, v42]] (Prod.snd c24) fun v44 st45 _x => unT v44 fun l47 => nthS l47 0 fun v48 => unA v48 fun l50 => unc l50 fun v51
 l52 => asS v51 fun l53 => unc l52 fun v54 l55 => un0 l55 (unT v44 fun l56 => nthS l56 1 fun v57 => asI .i64 v57 fun n58 => letSt (St.add st45 (VM.Obj.cells 24 [AV.str [], AV.nils])) fun st59 => asOne v54 (storeS (orc
 vE) 2 (AV.mp (St.h st45) 0) (AV.agg [AV.str l53, v54]) [AV.str l53, v54] st59 fun _x st61 _x_1 => idxA 2 x0 n30 st61 fun v63 _x => loadS 2 true v63 st61 fun v65 _x => unA v65 fun l68 => unc l68 fun v69 l70 => asS v69
 fun l71 => unc l70 fun v72 l73 => un0 l73 (letV (IntKind.wrap .i64 (n30 + 1)) fun n74 => idxA 2 x0 n74 st61 fun v75 _x => loadS 2 true v75 st61 fun v77 _x => unA v77 fun l80 => unc l80 fun v81 l82 => asS v81 fun l83 =>
 unc l82 fun v84 l85 => un0 l85 (callS (orc vE) 17 [v17, AV.agg [AV.str l71, v72], AV.agg [AV.str l83, v84]] st61 fun v86 st87 _x => asI .i64 v86 fun n89 => idxA 1 v21 n30 st87 fun v90 _x => storeS (orc vE) 1 v90
 (AV.bool (n89 == 0)) [AV.bool (n89 == 0)] st87 fun _x st93 _x_2 => idxA 2 x0 n30 st93 fun v95 _x => loadS 2 true v95 st93 fun v97 _x => unA v97 fun l100 => unc l100 fun v101 l102 => asS v101 fun l103 => unc l102 fun
 v104 l105 => un0 l105 (callS (orc vE) 16 [v17, AV.agg [AV.str l103, v104]] st93 fun v106 st107 _x => unT v106 fun l109 => nthS l109 0 fun v110 => unA v110 fun l112 => unc l112 fun v113 l114 => asS v113 fun l115 => unc
 l114 fun v116 l117 => un0 l117 (unT v106 fun l118 => nthS l118 1 fun v119 => asI .i64 v119 fun n120 => letSt (St.add st107 (VM.Obj.cells 24 [AV.str [], AV.nils])) fun st121 => asOne v116 (storeS (orc vE) 2 (AV.mp (St.h
 st107) 0) (AV.agg [AV.str l115, v116]) [AV.str l115, v116] st121 fun _x st123 _x_3 => bindO (ifB (n89 != 0) (ifB (n58 != n120) (some ([AV.bool true], st123)) (loadS 2 true (AV.mp (St.h st45) 0) st123 fun v125 _x => unA
 v125 fun l128 => unc l128 fun v129 l130 => asS v129 fun l131 => unc l130 fun v132 l133 => un0 l133 (loadS 2 true (AV.mp (St.h st107) 0) st123 fun v134 _x => unA v134 fun l137 => unc l137 fun v138 l139 => asS v138 fun
 l140 => unc l139 fun v141 l142 => un0 l142 (callS (orc vE) 18 [AV.agg [AV.str l131, v132], AV.agg [AV.str l140, v141]] st123 fun v143 st144 _x => asB v143 fun b146 => some ([AV.bool !b146], st144))))) (some ([AV.bool
 false], st123))) fun c147 => unc (Prod.fst c147) fun v148 l149 => asB v148 fun b150 => un0 l149 (ifB b150 (some (Sum.inr (1, [AV.bool false], Prod.snd c147))) (letV (IntKind.wrap .i64 (n30 + 2)) fun n151 => some
 (Sum.inl ([AV.bool b27, AV.int .i64 n151], Prod.snd c147))))))))))))) (some (Sum.inr (0, [AV.bool b27], Prod.snd c24))))
noncomputable def g4_L2 (x0 : AV) (v17 : AV) (v21 : AV) : Car → Option (Car ⊕ Nat × Car) := fun c156 => unc (Prod.fst c156) fun v157 l158 => asB v157 fun b159 => unc l158 fun v160 l161 => asI .i64 v160 fun n162 => un0
 l161 (letV (IntKind.wrap .i64 (n162 + 1)) fun n163 => lenS x0 fun k164 => ifB (decide (n163 < (↑k164 : Int))) (idxA 2 x0 n162 (Prod.snd c156) fun v165 _x => loadS 2 true v165 (Prod.snd c156) fun v167 _x => unA v167 fun
 l170 => unc l170 fun v171 l172 => asS v171 fun l173 => unc l172 fun v174 l175 => un0 l175 (callS (orc vE) 16 [v17, AV.agg [AV.str l173, v174]] (Prod.snd c156) fun v176 st177 _x => unT v176 fun l179 => nthS l179 0 fun
 v180 => unA v180 fun l182 => unc l182 fun v183 l184 => asS v183 fun l185 => unc l184 fun v186 l187 => un0 l187 (unT v176 fun l188 => nthS l188 1 fun v189 => asI .i64 v189 fun n190 => letSt (St.add st177 (VM.Obj.cells 24
 [AV.str [], AV.nils])) fun st191 => asOne v186 (storeS (orc vE) 2 (AV.mp (St.h st177) 0) (AV.agg [AV.str l185, v186]) [AV.str l185, v186] st191 fun _x st193 _x_1 => letV (IntKind.wrap .i64 (n162 + 1)) fun n195 => idxA 2
 x0 n195 st193 fun v196 _x => loadS 2 true v196 st193 fun v198 _x => unA v198 fun l201 => unc l201 fun v202 l203 => asS v202 fun l204 => unc l203 fun v205 l206 => un0 l206 (callS (orc vE) 16 [v17, AV.agg [AV.str l204,
 v205]] st193 fun v207 st208 _x => unT v207 fun l210 => nthS l210 0 fun v211 => unA v211 fun l213 => unc l213 fun v214 l215 => asS v214 fun l216 => unc l215 fun v217 l218 => un0 l218 (unT v207 fun l219 => nthS l219 1 fun
 v220 => asI .i64 v220 fun n221 => letSt (St.add st208 (VM.Obj.cells 24 [AV.str [], AV.nils])) fun st222 => asOne v217 (storeS (orc vE) 2 (AV.mp (St.h st208) 0) (AV.agg [AV.str l216, v217]) [AV.str l216, v217] st222 fun
 _x st224 _x_2 => bindO (idxA 1 v21 n162 st224 fun v226 _x => loadS 1 false v226 st224 fun v228 _x => asB v228 fun b230 => ifB b230 (ifB (n190 != n221) (some ([AV.bool true], st224)) (loadS 2 true (AV.mp (St.h st177) 0)
 st224 fun v231 _x => unA v231 fun l234 => unc l234 fun v235 l236 => asS v235 fun l237 => unc l236 fun v238 l239 => un0 l239 (loadS 2 true (AV.mp (St.h st208) 0) st224 fun v240 _x => unA v240 fun l243 => unc l243 fun
 v244 l245 => asS v244 fun l246 => unc l245 fun v247 l248 => un0 l248 (callS (orc vE) 18 [AV.agg [AV.str l237, v238], AV.agg [AV.str l246, v247]] st224 fun v249 st250 _x => asB v249 fun b252 => some ([AV.bool !b252],
 st250))))) (some ([AV.bool false], st224))) fun c253 => unc (Prod.fst c253) fun v254 l255 => asB v254 fun b256 => un0 l255 (ifB b256 (some (Sum.inr (1, [AV.bool false], Prod.snd c253))) (letV (IntKind.wrap .i64 (n162 +
 2)) fun n257 => some (Sum.inl ([AV.bool b159, AV.int .i64 n257], Prod.snd c253))))))))))) (some (Sum.inr (0, [AV.bool b159], Prod.snd c156))))
noncomputable def g4 : AV → Option AV := fun x0 => bindO (lenS x0 fun k0 => ifB (decide ((↑k0 : Int) > 8)) (some ([AV.bool true], St.mk 0 0 Tr.leaf)) (callS (orc vE) 14 [x0] (St.mk 0 0 Tr.leaf) fun v1 st2 _x => asB v1
 fun b4 => ifB (!b4) (some ([AV.bool true], st2)) (callS (orc vE) 9 [] st2 fun v5 st6 _x => asB v5 fun b8 => some ([AV.bool !b8], st6)))) fun c9 => unc (Prod.fst c9) fun v10 l11 => asB v10 fun b12 => un0 l11 (ifB b12
 (callS (orc vE) 9 [] (Prod.snd c9) fun v13 _x _x_1 => asB v13 fun b16 => some (AV.bool b16)) (callS (orc vE) 15 [] (Prod.snd c9) fun v17 st18 _x => lenS x0 fun k20 => planS (orc vE) (makeSliceP (Env.T vE) 32 (AV.int
 .i64 (↑k20 : Int)) (AV.int .i64 (↑k20 : Int))) st18 fun v21 st22 _x => bindO (loopO (g4_L1 x0 v17 v21) ([AV.bool false, AV.int .i64 0], st22)) fun c152 => unc (Prod.fst (Prod.snd c152)) fun v153 l154 => asB v153 fun
 b155 => un0 l154 (sel2 (Prod.fst c152) (bindO (loopO (g4_L2 x0 v17 v21) ([AV.bool b155, AV.int .i64 0], Prod.snd (Prod.snd c152))) fun c258 => unc (Prod.fst (Prod.snd c258)) fun v259 l260 => asB v259 fun b261 => un0
 l260 (sel2 (Prod.fst c258) (some (AV.bool true)) fun _x => some (AV.bool b261))) fun _x => some (AV.bool b155))))
/-- rostrum/rostrumlaw16.TyLeast -/
noncomputable def g5_L1 (x2 : AV) : Car → Option (Car ⊕ Nat × Car) := fun c63 => unc (Prod.fst c63) fun v64 l65 => asB v64 fun b66 => unc l65 fun v67 l68 => asI .i64 v67 fun n69 => un0 l68 (lenS x2 fun k70 => ifB
 (decide (n69 < (↑k70 : Int))) (bindO (idxA 2 x2 n69 (Prod.snd c63) fun v71 _x => loadS 2 true v71 (Prod.snd c63) fun v73 _x => unA v73 fun l76 => unc l76 fun v77 l78 => asS v77 fun l79 => unc l78 fun v80 l81 => un0 l81
 (callS (orc vE) 10 [AV.agg [AV.str l79, v80]] (Prod.snd c63) fun v82 st83 _x => asB v82 fun b85 => ifB (!b85) (some ([AV.bool true], st83)) (idxA 2 x2 n69 st83 fun v86 _x => loadS 2 true v86 st83 fun v88 _x => unA v88
 fun l91 => unc l91 fun v92 l93 => asS v92 fun l94 => unc l93 fun v95 l96 => un0 l96 (callS (orc vE) 19 [AV.nils, AV.agg [AV.str l94, v95]] st83 fun v97 st98 _x => lenS v97 fun k100 => some ([AV.bool (decide ((↑k100 :
 Int) > 0))], st98))))) fun c101 => unc (Prod.fst c101) fun v102 l103 => asB v102 fun b104 => un0 l103 (ifB b104 (some (Sum.inr (1, [AV.bool true], Prod.snd c101))) (letV (IntKind.wrap .i64 (n69 + 1)) fun n105 => some
 (Sum.inl ([AV.bool b66, AV.int .i64 n105], Prod.snd c101))))) (some (Sum.inr (0, [AV.bool b66], Prod.snd c63))))
noncomputable def g5 : AV → AV → AV → Option AV := fun x0 x1 x2 => unA x0 fun l1 => unc l1 fun v2 l3 => asS v2 fun l4 => unc l3 fun v5 l6 => un0 l6 (unA x1 fun l8 => unc l8 fun v9 l10 => asS v9 fun l11 => unc l10 fun
 v12 l13 => un0 l13 (asOne v5 (fit1 v5 fun v14 => asOne v12 (fit1 v12 fun v15 => bindO (lenS x2 fun k16 => ifB (decide ((↑k16 : Int) > 9)) (some ([AV.bool true], St.mk 0 0 Tr.leaf)) (asOne v14 (asOne v15 (asOne v14 (fit1
 v14 fun v19 => asOne v15 (fit1 v15 fun v20 => callS (orc vE) 14 [AV.sl 2 [AV.agg [AV.str l4, v19], AV.agg [AV.str l11, v20]] Perm.shut] (St.mk 0 0 Tr.leaf) fun v21 st22 _x => asB v21 fun b24 => ifB (!b24) (some
 ([AV.bool true], st22)) (callS (orc vE) 14 [x2] st22 fun v25 st26 _x => asB v25 fun b28 => ifB (!b28) (some ([AV.bool true], st26)) (callS (orc vE) 9 [] st26 fun v29 st30 _x => asB v29 fun b32 => some ([AV.bool !b32],
 st30))))))))) fun c33 => unc (Prod.fst c33) fun v34 l35 => asB v34 fun b36 => un0 l35 (ifB b36 (callS (orc vE) 9 [] (Prod.snd c33) fun v37 _x _x_1 => asB v37 fun b40 => some (AV.bool b40)) (bindO (callS (orc vE) 10
 [AV.agg [AV.str l4, v14]] (Prod.snd c33) fun v42 st43 _x => asB v42 fun b45 => ifB (!b45) (some ([AV.bool true], st43)) (callS (orc vE) 10 [AV.agg [AV.str l11, v15]] st43 fun v47 st48 _x => asB v47 fun b50 => some
 ([AV.bool !b50], st48))) fun c51 => unc (Prod.fst c51) fun v52 l53 => asB v52 fun b54 => un0 l53 (ifB b54 (some (AV.bool true)) (callS (orc vE) 19 [AV.nils, AV.agg [AV.str l4, v14]] (Prod.snd c51) fun v56 st57 x58 =>
 chk (apart x58 (Fx.mk [] Did.kept) && true) (callS (orc vE) 19 [v56, AV.agg [AV.str l11, v15]] st57 fun v60 st61 _x => bindO (loopO (g5_L1 x2) ([AV.bool false, AV.int .i64 0], st61)) fun c106 => unc (Prod.fst (Prod.snd
 c106)) fun v107 l108 => asB v107 fun b109 => un0 l108 (sel2 (Prod.fst c106) (letSt (St.add (Prod.snd (Prod.snd c106)) Obj.egg) fun st110 => letSt (St.add st110 Obj.egg) fun st111 => callS (orc vE) 20 [AV.agg [AV.str l4,
 v14], v60, x2] st111 fun v113 st114 x115 => unA v113 fun l117 => unc l117 fun v118 l119 => asS v118 fun l120 => unc l119 fun v121 l122 => un0 l122 (chk (apart x115 (Fx.mk [] Did.kept) && true) (chk (apart x115 (Fx.mk []
 Did.kept) && true) (chk (apart x115 (Fx.mk [] Did.kept) && true) (callS (orc vE) 20 [AV.agg [AV.str l11, v15], v60, x2] st114 fun v124 st125 x126 => unA v124 fun l128 => unc l128 fun v129 l130 => asS v129 fun l131 =>
 unc l130 fun v132 l133 => un0 l133 (hatchS 24 [AV.str [], AV.nils] (St.h (Prod.snd (Prod.snd c106))) st125 fun v134 st135 x136 => chk (apart x126 x136 && (apart (Fx.mk [] Did.kept) x136 && (apart (Fx.mk [] Did.kept)
 x136 && (apart (Fx.mk [] Did.kept) x136 && (apart x115 x136 && (apart (Fx.mk [] Did.kept) x136 && (apart (Fx.mk [] Did.kept) x136 && (apart (Fx.mk [] Did.kept) x136 && true)))))))) (hatchS 24 [AV.str [], AV.nils] ((St.h
 (Prod.snd (Prod.snd c106))) + 1) st135 fun v137 st138 x139 => chk (apart x136 x139 && (apart x126 x139 && (apart (Fx.mk [] Did.kept) x139 && (apart (Fx.mk [] Did.kept) x139 && (apart (Fx.mk [] Did.kept) x139 && (apart
 x115 x139 && (apart (Fx.mk [] Did.kept) x139 && (apart (Fx.mk [] Did.kept) x139 && (apart (Fx.mk [] Did.kept) x139 && true))))))))) (asOne v121 (storeS (orc vE) 2 v134 (AV.agg [AV.str l120, v121]) [AV.str l120, v121]
 st138 fun _x st141 _x_1 => asOne v132 (storeS (orc vE) 2 v137 (AV.agg [AV.str l131, v132]) [AV.str l131, v132] st141 fun _x st144 _x_2 => bindO (lenS x2 fun k146 => lenS v60 fun k147 => ifB (decide ((↑k146 : Int) <
 (↑k147 : Int))) (some ([AV.bool true], st144)) (loadS 2 true v134 st144 fun v148 _x => unA v148 fun l151 => unc l151 fun v152 l153 => asS v152 fun l154 => unc l153 fun v155 l156 => un0 l156 (loadS 2 true v137 st144 fun
 v157 _x => unA v157 fun l160 => unc l160 fun v161 l162 => asS v161 fun l163 => unc l162 fun v164 l165 => un0 l165 (callS (orc vE) 18 [AV.agg [AV.str l154, v155], AV.agg [AV.str l163, v164]] st144 fun v166 st167 _x =>
 asB v166 fun b169 => some ([AV.bool !b169], st167))))) fun c170 => unc (Prod.fst c170) fun v171 l172 => asB v171 fun b173 => un0 l172 (ifB b173 (some (AV.bool true)) (callS (orc vE) 15 [] (Prod.snd c170) fun v174 st175
 _x => callS (orc vE) 17 [v174, AV.agg [AV.str l4, v14], AV.agg [AV.str l11, v15]] st175 fun v179 st180 _x => asI .i64 v179 fun n182 => ifB (n182 != 0) (some (AV.bool false)) (callS (orc vE) 16 [v174, AV.agg [AV.str l4,
 v14]] st180 fun v184 st185 _x => unT v184 fun l187 => nthS l187 0 fun v188 => unA v188 fun l190 => unc l190 fun v191 l192 => asS v191 fun l193 => unc l192 fun v194 l195 => un0 l195 (unT v184 fun l196 => nthS l196 1 fun
 v197 => asI .i64 v197 fun n198 => letSt (St.add st185 (VM.Obj.cells 24 [AV.str [], AV.nils])) fun st199 => asOne v194 (storeS (orc vE) 2 (AV.mp (St.h st185) 0) (AV.agg [AV.str l193, v194]) [AV.str l193, v194] st199 fun
 _x st201 _x_3 => bindO (ifB (n198 == 40) (some ([AV.bool true], st201)) (ifB (n198 == 0) (loadS 2 true (AV.mp (St.h st185) 0) st201 fun v203 _x => unA v203 fun l206 => unc l206 fun v207 l208 => asS v207 fun l209 => unc
 l208 fun v210 l211 => un0 l211 (callS (orc vE) 20 [AV.agg [AV.str l209, v210], v60, x2] st201 fun v212 st213 x214 => unA v212 fun l216 => unc l216 fun v217 l218 => asS v217 fun l219 => unc l218 fun v220 l221 => un0 l221
 (loadS 2 true v134 st213 fun v222 l223 => unA v222 fun l225 => unc l225 fun v226 l227 => asS v226 fun l228 => unc l227 fun v229 l230 => un0 l230 (chk (apart x214 (Fx.mk l223 Did.kept) && true) (callS (orc vE) 18 [AV.agg
 [AV.str l219, v220], AV.agg [AV.str l228, v229]] st213 fun v231 st232 _x => asB v231 fun b234 => some ([AV.bool b234], st232)))))) (some ([AV.bool false], st201)))) fun c235 => unc (Prod.fst c235) fun v236 l237 => asB
 v236 fun b238 => un0 l237 (some (AV.bool b238))))))))))))))))) fun _x => some (AV.bool b109)))))))))))
/-- rostrum/ty.New -/
noncomputable def w15 : St → Option (AV × St) := fun st => letSt (St.add st (VM.Obj.map [])) fun st0 => letSt (St.add st0 (VM.Obj.cells 63 [AV.mm (St.h st), AV.int .i64 0])) fun st2 => some (AV.mp (St.h st0) 0, st2)
theorem w15_eq (st : St) : wideS vE 15 [] st = w15 st := by kernel_rfl
/-- (*rostrum/ty.Table).Full -/
noncomputable def w16 : AV → AV → St → Option (AV × St) := fun x0 x1 st => unA x1 fun l1 => unc l1 fun v2 l3 => asS v2 fun l4 => unc l3 fun v5 l6 => un0 l6 (asOne v5 (fit1 v5 fun v7 => letSt (St.add st (VM.Obj.cells 24
 [AV.str [], AV.nils])) fun st8 => nilS (U.ptr 63) x0 AV.nilp fun b9 => ifB b9 (storeS (orc vE) 2 (AV.mp (St.h st) 0) (AV.agg [AV.str [], AV.nils]) [AV.str [], AV.nils] st8 fun _x st12 _x_1 => loadS 2 true (AV.mp (St.h
 st) 0) st12 fun v14 _x => unA v14 fun l17 => unc l17 fun v18 l19 => asS v18 fun l20 => unc l19 fun v21 l22 => un0 l22 (some (AV.tup [AV.agg [AV.str l20, v21], AV.int .i64 2], st12))) (callS (orc vE) 10 [AV.agg [AV.str
 l4, v7]] st8 fun v24 st25 _x => asB v24 fun b27 => ifB (!b27) (storeS (orc vE) 2 (AV.mp (St.h st) 0) (AV.agg [AV.str [], AV.nils]) [AV.str [], AV.nils] st25 fun _x st30 _x_1 => loadS 2 true (AV.mp (St.h st) 0) st30 fun
 v32 _x => unA v32 fun l35 => unc l35 fun v36 l37 => asS v36 fun l38 => unc l37 fun v39 l40 => un0 l40 (some (AV.tup [AV.agg [AV.str l38, v39], AV.int .i64 4], st30))) (callS (orc vE) 37 [x0, AV.agg [AV.str l4, v7],
 AV.int .i64 512] st25 fun v42 st43 _x => unT v42 fun l45 => nthS l45 0 fun v46 => unA v46 fun l48 => unc l48 fun v49 l50 => asS v49 fun l51 => unc l50 fun v52 l53 => un0 l53 (unT v42 fun l54 => nthS l54 1 fun v55 => asI
 .i64 v55 fun n56 => letSt (St.add st43 (VM.Obj.cells 24 [AV.str [], AV.nils])) fun st57 => asOne v52 (storeS (orc vE) 2 (AV.mp (St.h st43) 0) (AV.agg [AV.str l51, v52]) [AV.str l51, v52] st57 fun _x st59 _x_1 => ifB
 (decide (n56 < 0)) (storeS (orc vE) 2 (AV.mp (St.h st) 0) (AV.agg [AV.str [], AV.nils]) [AV.str [], AV.nils] st59 fun _x st63 _x_2 => loadS 2 true (AV.mp (St.h st) 0) st63 fun v65 _x => unA v65 fun l68 => unc l68 fun
 v69 l70 => asS v69 fun l71 => unc l70 fun v72 l73 => un0 l73 (some (AV.tup [AV.agg [AV.str l71, v72], AV.int .i64 40], st63))) (loadS 2 true (AV.mp (St.h st43) 0) st59 fun v74 _x => unA v74 fun l77 => unc l77 fun v78
 l79 => asS v78 fun l80 => unc l79 fun v81 l82 => un0 l82 (asOne v81 (storeS (orc vE) 2 (AV.mp (St.h st) 0) (AV.agg [AV.str l80, v81]) [AV.str l80, v81] st59 fun _x st84 _x_2 => loadS 2 true (AV.mp (St.h st) 0) st84 fun
 v86 _x => unA v86 fun l89 => unc l89 fun v90 l91 => asS v90 fun l92 => unc l91 fun v93 l94 => un0 l94 (some (AV.tup [AV.agg [AV.str l92, v93], AV.int .i64 0], st84)))))))))))
theorem w16_eq (x0 x1 : AV) (st : St) : wideS vE 16 [x0, x1] st = w16 x0 x1 st := by kernel_rfl
/-- (*rostrum/ty.Table).Alike -/
noncomputable def w17_L1 (v40 : AV) (k42 : Nat) : Car → Option (Car ⊕ Nat × Car) := fun c43 => unc (Prod.fst c43) fun v44 l45 => asI .i64 v44 fun n46 => un0 l45 (ifB (decide (n46 < (↑k42 : Int))) (idxA 1 v40 n46
 (Prod.snd c43) fun v47 _x => loadS 1 false v47 (Prod.snd c43) fun v49 _x => callF (orc vE) (Sx.prim (sx vE 17)) v49 [] (Prod.snd c43) fun _x st52 _x_1 => letV (IntKind.wrap .i64 (n46 + 1)) fun n54 => some (Sum.inl
 ([AV.int .i64 n54], st52))) (some (Sum.inr (0, [], Prod.snd c43))))
noncomputable def w17 : AV → AV → AV → St → Option (AV × St) := fun x0 x1 x2 st => unA x1 fun l1 => unc l1 fun v2 l3 => asS v2 fun l4 => unc l3 fun v5 l6 => un0 l6 (unA x2 fun l8 => unc l8 fun v9 l10 => asS v9 fun l11
 => unc l10 fun v12 l13 => un0 l13 (asOne v5 (fit1 v5 fun v14 => asOne v12 (fit1 v12 fun v15 => nilS (U.ptr 63) x0 AV.nilp fun b16 => ifB b16 (some (AV.int .i64 2, st)) (bindO (callS (orc vE) 10 [AV.agg [AV.str l4, v14]]
 st fun v18 st19 _x => asB v18 fun b21 => ifB (!b21) (some ([AV.bool true], st19)) (callS (orc vE) 10 [AV.agg [AV.str l11, v15]] st19 fun v23 st24 _x => asB v23 fun b26 => some ([AV.bool !b26], st24))) fun c27 => unc
 (Prod.fst c27) fun v28 l29 => asB v28 fun b30 => un0 l29 (ifB b30 (some (AV.int .i64 4, Prod.snd c27)) (letSt (St.add (Prod.snd c27) (VM.Obj.map [])) fun st31 => asOne x0 (asOne x0 (letSt (St.add st31 (VM.Obj.cells 70
 [x0, AV.mm (St.h (Prod.snd c27)), AV.nils])) fun st33 => callS (orc vE) 38 [AV.mp (St.h st31) 0, AV.agg [AV.str l4, v14], AV.agg [AV.str l11, v15]] st33 fun v36 st37 _x => asI .i64 v36 fun n39 => bindO (ifB (n39 != 0)
 (loadS 1 false (AV.mp (St.h st31) 2) st37 fun v40 _x => lenS v40 fun k42 => bindO (loopO (w17_L1 v40 k42) ([AV.int .i64 0], st37)) fun c55 => un0 (Prod.fst (Prod.snd c55)) (some ([], Prod.snd (Prod.snd c55)))) (some
 ([], st37))) fun c56 => un0 (Prod.fst c56) (some (AV.int .i64 n39, Prod.snd c56)))))))))))
theorem w17_eq (x0 x1 x2 : AV) (st : St) : wideS vE 17 [x0, x1, x2] st = w17 x0 x1 x2 st := by kernel_rfl
/-- (*rostrum/ty.Table).full -/
noncomputable def w37_L1 (x0 : AV) (st : St) (st30 : St) : Car → Option (Car ⊕ Nat × Car) := fun c41 => unc (Prod.fst c41) fun v42 l43 => asI .i64 v42 fun n44 => unc l43 fun v45 l46 => asI .i64 v45 fun n47 => un0 l46
 (bindO (loadS 1 false (AV.mp (St.h st) 1) (Prod.snd c41) fun v48 _x => lenS v48 fun k50 => ifB (decide (n47 < (↑k50 : Int))) (some ([AV.bool (decide (n44 ≥ 0))], Prod.snd c41)) (some ([AV.bool false], Prod.snd c41)))
 fun c51 => unc (Prod.fst c51) fun v52 l53 => asB v52 fun b54 => un0 l53 (ifB b54 (letSt (St.add (Prod.snd c51) (VM.Obj.cells 24 [AV.str [], AV.nils])) fun st55 => loadS 1 false (AV.mp (St.h st) 1) st55 fun v56 _x =>
 idxA 2 v56 n47 st55 fun v58 _x => loadS 2 true v58 st55 fun v60 _x => unA v60 fun l63 => unc l63 fun v64 l65 => asS v64 fun l66 => unc l65 fun v67 l68 => un0 l68 (callS (orc vE) 37 [x0, AV.agg [AV.str l66, v67], AV.int
 .i64 n44] st55 fun v69 st70 _x => unT v69 fun l72 => nthS l72 0 fun v73 => unA v73 fun l75 => unc l75 fun v76 l77 => asS v76 fun l78 => unc l77 fun v79 l80 => un0 l80 (unT v69 fun l81 => nthS l81 1 fun v82 => asI .i64
 v82 fun n83 => asOne v79 (storeS (orc vE) 2 (AV.mp (St.h (Prod.snd c51)) 0) (AV.agg [AV.str l78, v79]) [AV.str l78, v79] st70 fun _x st85 _x_1 => loadS 1 false (AV.mp (St.h st30) 1) st85 fun v87 _x => loadS 2 true
 (AV.mp (St.h (Prod.snd c51)) 0) st85 fun v89 _x => unA v89 fun l92 => unc l92 fun v93 l94 => asS v93 fun l95 => unc l94 fun v96 l97 => un0 l97 (asOne v96 (asOne v96 (fit1 v96 fun v98 => asOne v98 (fit1 v98 fun v99 =>
 appS 2 40 24 v87 [AV.agg [AV.str l95, v99]] st85 fun v100 st101 _x => asOne v100 (asOne v100 (storeS (orc vE) 1 (AV.mp (St.h st30) 1) v100 [v100] st101 fun _x st104 _x_2 => letV (IntKind.wrap .i64 (n47 + 1)) fun n106 =>
 some (Sum.inl ([AV.int .i64 n83, AV.int .i64 n106], st104)))))))))))) (some (Sum.inr (0, [AV.int .i64 n44], Prod.snd c51)))))
noncomputable def w37 : AV → AV → AV → St → Option (AV × St) := fun x0 x1 x2 st => unA x1 fun l1 => unc l1 fun v2 l3 => asS v2 fun l4 => unc l3 fun v5 l6 => un0 l6 (asI .i64 x2 fun n7 => asOne v5 (letSt (St.add st
 (VM.Obj.cells 24 [AV.str l4, v5])) fun st8 => letSt (St.add st8 (VM.Obj.cells 24 [AV.str [], AV.nils])) fun st9 => loadS 2 true (AV.mp (St.h st) 0) st9 fun v10 _x => unA v10 fun l13 => unc l13 fun v14 l15 => asS v14 fun
 l16 => unc l15 fun v17 l18 => un0 l18 (callS (orc vE) 54 [x0, AV.agg [AV.str l16, v17]] st9 fun v19 st20 _x => unA v19 fun l23 => unc l23 fun v24 l25 => asS v24 fun l26 => unc l25 fun v27 l28 => un0 l28 (asOne v27
 (storeS (orc vE) 2 (AV.mp (St.h st) 0) (AV.agg [AV.str l26, v27]) [AV.str l26, v27] st20 fun _x st30 _x_1 => loadS 1 false (AV.mp (St.h st) 0) st30 fun v32 _x => asS v32 fun l34 => letSt (St.add st30 (VM.Obj.cells 24
 [AV.str [], AV.nils])) fun st36 => storeS (orc vE) 2 (AV.mp (St.h st30) 0) (AV.agg [AV.str l34, AV.nils]) [AV.str l34, AV.nils] st36 fun _x st38 _x_2 => letV (IntKind.wrap .i64 (n7 - 1)) fun n40 => bindO (loopO (w37_L1
 x0 st st30) ([AV.int .i64 n40, AV.int .i64 0], st38)) fun c107 => unc (Prod.fst (Prod.snd c107)) fun v108 l109 => asI .i64 v108 fun n110 => un0 l109 (loadS 2 true (AV.mp (St.h st30) 0) (Prod.snd (Prod.snd c107)) fun
 v111 _x => unA v111 fun l114 => unc l114 fun v115 l116 => asS v115 fun l117 => unc l116 fun v118 l119 => un0 l119 (asOne v118 (storeS (orc vE) 2 (AV.mp (St.h st8) 0) (AV.agg [AV.str l117, v118]) [AV.str l117, v118]
 (Prod.snd (Prod.snd c107)) fun _x st121 _x_3 => loadS 2 true (AV.mp (St.h st8) 0) st121 fun v123 _x => unA v123 fun l126 => unc l126 fun v127 l128 => asS v127 fun l129 => unc l128 fun v130 l131 => un0 l131 (some (AV.tup
 [AV.agg [AV.str l129, v130], AV.int .i64 n110], st121))))))))))
theorem w37_eq (x0 x1 x2 : AV) (st : St) : wideS vE 37 [x0, x1, x2] st = w37 x0 x1 x2 st := by kernel_rfl
/-- (*rostrum/ty.trial).alike -/
noncomputable def w38_L1 (x0 : AV) (st : St) (st14 : St) (k214 : Nat) : Car → Option (Car ⊕ Nat × Car) := fun c215 => unc (Prod.fst c215) fun v216 l217 => asI .i64 v216 fun n218 => unc l217 fun v219 l220 => asI .i64
 v219 fun n221 => un0 l220 (ifB (decide (n221 < (↑k214 : Int))) (loadS 1 false (AV.mp (St.h st) 1) (Prod.snd c215) fun v222 _x => idxA 2 v222 n221 (Prod.snd c215) fun v224 _x => loadS 2 true v224 (Prod.snd c215) fun v226
 _x => unA v226 fun l229 => unc l229 fun v230 l231 => asS v230 fun l232 => unc l231 fun v233 l234 => un0 l234 (loadS 1 false (AV.mp (St.h st14) 1) (Prod.snd c215) fun v235 _x => idxA 2 v235 n221 (Prod.snd c215) fun v237
 _x => loadS 2 true v237 (Prod.snd c215) fun v239 _x => unA v239 fun l242 => unc l242 fun v243 l244 => asS v243 fun l245 => unc l244 fun v246 l247 => un0 l247 (callS (orc vE) 38 [x0, AV.agg [AV.str l232, v233], AV.agg
 [AV.str l245, v246]] (Prod.snd c215) fun v248 st249 _x => asI .i64 v248 fun n251 => ifB (n251 != 0) (some (Sum.inr (1, [AV.int .i64 n251], st249))) (letV (IntKind.wrap .i64 (n221 + 1)) fun n252 => some (Sum.inl ([AV.int
 .i64 n218, AV.int .i64 n252], st249)))))) (some (Sum.inr (0, [AV.int .i64 n218], Prod.snd c215))))
noncomputable def w38 : AV → AV → AV → St → Option (AV × St) := fun x0 x1 x2 st => unA x1 fun l1 => unc l1 fun v2 l3 => asS v2 fun l4 => unc l3 fun v5 l6 => un0 l6 (unA x2 fun l8 => unc l8 fun v9 l10 => asS v9 fun l11
 => unc l10 fun v12 l13 => un0 l13 (asOne v5 (letSt (St.add st (VM.Obj.cells 24 [AV.str l4, v5])) fun st14 => asOne v12 (letSt (St.add st14 (VM.Obj.cells 24 [AV.str l11, v12])) fun st15 => loadS 1 false (AV.mp (St.h st)
 0) st15 fun v16 _x => asS v16 fun l18 => loadS 1 false (AV.mp (St.h st14) 0) st15 fun v19 _x => asS v19 fun l21 => letSt (St.add st15 (VM.Obj.cells 83 [AV.str [], AV.str []])) fun st23 => storeS (orc vE) 2 (AV.mp (St.h
 st15) 0) (AV.agg [AV.str l18, AV.str l21]) [AV.str l18, AV.str l21] st23 fun _x st25 _x_1 => bindO (loadS 1 false (AV.mp (St.h st) 0) st25 fun v27 _x => asS v27 fun l29 => callS (orc vE) 46 [AV.str l29] st25 fun v30
 st31 _x => asB v30 fun b33 => ifB b33 (loadS 1 false (AV.mp (St.h st14) 0) st31 fun v34 _x => asS v34 fun l36 => callS (orc vE) 46 [AV.str l36] st31 fun v37 st38 _x => asB v37 fun b40 => some ([AV.bool b40], st38))
 (some ([AV.bool false], st31))) fun c41 => unc (Prod.fst c41) fun v42 l43 => asB v42 fun b44 => un0 l43 (bindO (ifB b44 (chk (notNil x0) (fldA 1 x0 fun v45 => loadS 1 false v45 (Prod.snd c41) fun v46 _x => loadS 2 true
 (AV.mp (St.h st15) 0) (Prod.snd c41) fun v48 _x => unA v48 fun l51 => unc l51 fun v52 l53 => asS v52 fun l54 => unc l53 fun v55 l56 => asS v55 fun l57 => un0 l56 (planS (orc vE) (lookupP (Env.T vE) 67 v46 (AV.agg
 [AV.str l54, AV.str l57]) false) (Prod.snd c41) fun v58 st59 _x => asB v58 fun b61 => ifB b61 (some (Sum.inr (AV.int .i64 0, st59))) (chk (notNil x0) (fldA 1 x0 fun v62 => loadS 1 false v62 st59 fun v63 _x => loadS 2
 true (AV.mp (St.h st15) 0) st59 fun v65 _x => unA v65 fun l68 => unc l68 fun v69 l70 => asS v69 fun l71 => unc l70 fun v72 l73 => asS v72 fun l74 => un0 l73 (planS (orc vE) (mapUpdateP (Env.T vE) 67 v63 (AV.agg [AV.str
 l71, AV.str l74]) (AV.bool true)) st59 fun _x st76 _x_2 => some (Sum.inl ([AV.int .i64 0], st76)))))))) (some (Sum.inl ([AV.int .i64 0], Prod.snd c41)))) fun c78 => onSum c78 fun c79 => unc (Prod.fst c79) fun v80 l81 =>
 asI .i64 v80 fun n82 => un0 l81 (chk (notNil x0) (fldA 0 x0 fun v83 => loadS 1 false v83 (Prod.snd c79) fun v84 _x => loadS 2 true (AV.mp (St.h st) 0) (Prod.snd c79) fun v86 _x => unA v86 fun l89 => unc l89 fun v90 l91
 => asS v90 fun l92 => unc l91 fun v93 l94 => un0 l94 (callS (orc vE) 54 [v84, AV.agg [AV.str l92, v93]] (Prod.snd c79) fun v95 st96 x97 => unA v95 fun l99 => unc l99 fun v100 l101 => asS v100 fun l102 => unc l101 fun
 v103 l104 => un0 l104 (chk (apart x97 (Fx.mk [] Did.kept) && true) (chk (notNil x0) (chk (apart x97 (Fx.mk [] Did.kept) && true) (fldA 0 x0 fun v105 => chk (apart x97 (Fx.mk [] Did.kept) && true) (loadS 1 false v105
 st96 fun v106 l107 => chk (apart x97 (Fx.mk l107 Did.kept) && true) (loadS 2 true (AV.mp (St.h st14) 0) st96 fun v108 l109 => unA v108 fun l111 => unc l111 fun v112 l113 => asS v112 fun l114 => unc l113 fun v115 l116 =>
 un0 l116 (chk (apart x97 (Fx.mk l109 Did.kept) && true) (callS (orc vE) 54 [v106, AV.agg [AV.str l114, v115]] st96 fun v117 st118 _x => unA v117 fun l121 => unc l121 fun v122 l123 => asS v122 fun l124 => unc l123 fun
 v125 l126 => un0 l126 (asOne v103 (storeS (orc vE) 2 (AV.mp (St.h st) 0) (AV.agg [AV.str l102, v103]) [AV.str l102, v103] st118 fun _x st128 _x_2 => asOne v125 (storeS (orc vE) 2 (AV.mp (St.h st14) 0) (AV.agg [AV.str
 l124, v125]) [AV.str l124, v125] st128 fun _x st131 _x_3 => bindO (loadS 1 false (AV.mp (St.h st) 0) st131 fun v133 _x => asS v133 fun l135 => callS (orc vE) 46 [AV.str l135] st131 fun v136 st137 _x => asB v136 fun b139
 => ifB b139 (loadS 1 false (AV.mp (St.h st) 0) st137 fun v140 _x => asS v140 fun l142 => loadS 1 false (AV.mp (St.h st14) 0) st137 fun v143 _x => asS v143 fun l145 => some ([AV.bool (l142 == l145)], st137)) (some
 ([AV.bool false], st137))) fun c146 => unc (Prod.fst c146) fun v147 l148 => asB v147 fun b149 => un0 l148 (ifB b149 (some (AV.int .i64 0, Prod.snd c146)) (loadS 1 false (AV.mp (St.h st) 0) (Prod.snd c146) fun v150 _x =>
 asS v150 fun l152 => callS (orc vE) 46 [AV.str l152] (Prod.snd c146) fun v153 st154 _x => asB v153 fun b156 => ifB b156 (loadS 1 false (AV.mp (St.h st) 0) st154 fun v157 _x => asS v157 fun l159 => loadS 2 true (AV.mp
 (St.h st14) 0) st154 fun v160 _x => unA v160 fun l163 => unc l163 fun v164 l165 => asS v164 fun l166 => unc l165 fun v167 l168 => un0 l168 (callS (orc vE) 55 [x0, AV.str l159, AV.agg [AV.str l166, v167]] st154 fun v169
 st170 _x => asI .i64 v169 fun n172 => some (AV.int .i64 n172, st170))) (loadS 1 false (AV.mp (St.h st14) 0) st154 fun v173 _x => asS v173 fun l175 => callS (orc vE) 46 [AV.str l175] st154 fun v176 st177 _x => asB v176
 fun b179 => ifB b179 (loadS 1 false (AV.mp (St.h st14) 0) st177 fun v180 _x => asS v180 fun l182 => loadS 2 true (AV.mp (St.h st) 0) st177 fun v183 _x => unA v183 fun l186 => unc l186 fun v187 l188 => asS v187 fun l189
 => unc l188 fun v190 l191 => un0 l191 (callS (orc vE) 55 [x0, AV.str l182, AV.agg [AV.str l189, v190]] st177 fun v192 st193 _x => asI .i64 v192 fun n195 => some (AV.int .i64 n195, st193))) (bindO (loadS 1 false (AV.mp
 (St.h st) 0) st177 fun v196 _x => asS v196 fun l198 => loadS 1 false (AV.mp (St.h st14) 0) st177 fun v199 _x => asS v199 fun l201 => ifB (!l198 == l201) (some ([AV.bool true], st177)) (loadS 1 false (AV.mp (St.h st) 1)
 st177 fun v202 _x => lenS v202 fun k204 => loadS 1 false (AV.mp (St.h st14) 1) st177 fun v205 _x => lenS v205 fun k207 => some ([AV.bool ((↑k204 : Int) != (↑k207 : Int))], st177))) fun c208 => unc (Prod.fst c208) fun
 v209 l210 => asB v209 fun b211 => un0 l210 (ifB b211 (some (AV.int .i64 65, Prod.snd c208)) (loadS 1 false (AV.mp (St.h st) 1) (Prod.snd c208) fun v212 _x => lenS v212 fun k214 => bindO (loopO (w38_L1 x0 st st14 k214)
 ([AV.int .i64 n82, AV.int .i64 0], Prod.snd c208)) fun c253 => unc (Prod.fst (Prod.snd c253)) fun v254 l255 => asI .i64 v254 fun n256 => un0 l255 (sel2 (Prod.fst c253) (some (AV.int .i64 0, Prod.snd (Prod.snd c253)))
 fun _x => some (AV.int .i64 n256, Prod.snd (Prod.snd c253))))))))))))))))))))))))))))
theorem w38_eq (x0 x1 x2 : AV) (st : St) : wideS vE 38 [x0, x1, x2] st = w38 x0 x1 x2 st := by kernel_rfl
/-- (*rostrum/ty.Table).in -/
noncomputable def w44 : AV → AV → AV → AV → St → Option (AV × St) := fun x0 x1 x2 x3 st => asS x1 fun l0 => unA x2 fun l2 => unc l2 fun v3 l4 => asS v3 fun l5 => unc l4 fun v6 l7 => un0 l7 (asOne x0 (asOne x0 (letSt
 (St.add st (VM.Obj.cells 30 [x0])) fun st8 => letSt (St.add st8 (VM.Obj.cells 9 [AV.str l0])) fun st9 => asOne v6 (letSt (St.add st9 (VM.Obj.cells 24 [AV.str l5, v6])) fun st10 => asOne x3 (asOne x3 (letSt (St.add st10
 (VM.Obj.cells 75 [x3])) fun st11 => loadS 1 false (AV.mp (St.h st10) 0) st11 fun v12 _x => loadS 1 false (AV.mp (St.h st9) 0) st11 fun v14 _x => asS v14 fun l16 => planS (orc vE) (lookupP (Env.T vE) 75 v12 (AV.str l16)
 false) st11 fun v17 st18 _x => asB v17 fun b20 => ifB b20 (some (AV.bool false, st18)) (loadS 1 false (AV.mp (St.h st9) 0) st18 fun v21 _x => asS v21 fun l23 => callS (orc vE) 46 [AV.str l23] st18 fun v24 st25 _x => asB
 v24 fun b27 => bindO (ifB b27 (loadS 1 false (AV.mp (St.h st10) 0) st25 fun v28 _x => loadS 1 false (AV.mp (St.h st9) 0) st25 fun v30 _x => asS v30 fun l32 => planS (orc vE) (mapUpdateP (Env.T vE) 75 v28 (AV.str l32)
 (AV.bool true)) st25 fun _x st34 _x_1 => some ([], st34)) (some ([], st25))) fun c36 => un0 (Prod.fst c36) (loadS 1 false (AV.mp (St.h st) 0) (Prod.snd c36) fun v37 _x => loadS 2 true (AV.mp (St.h st9) 0) (Prod.snd c36)
 fun v39 _x => unA v39 fun l42 => unc l42 fun v43 l44 => asS v43 fun l45 => unc l44 fun v46 l47 => un0 l47 (callS (orc vE) 54 [v37, AV.agg [AV.str l45, v46]] (Prod.snd c36) fun v48 st49 _x => unA v48 fun l52 => unc l52
 fun v53 l54 => asS v53 fun l55 => unc l54 fun v56 l57 => un0 l57 (asOne v56 (storeS (orc vE) 2 (AV.mp (St.h st9) 0) (AV.agg [AV.str l55, v56]) [AV.str l55, v56] st49 fun _x st59 _x_1 => bindO (loadS 1 false (AV.mp (St.h
 st9) 0) st59 fun v61 _x => asS v61 fun l63 => loadS 1 false (AV.mp (St.h st8) 0) st59 fun v64 _x => asS v64 fun l66 => ifB (l63 == l66) (some ([AV.bool true], st59)) (loadS 1 false (AV.mp (St.h st9) 1) st59 fun v67 _x
 => callS (orc vE) 41 [v67, AV.fn (Fn.func 57) [] [AV.mp (St.h st) 0, AV.mp (St.h st8) 0, AV.mp (St.h st10) 0]] st59 fun v69 st70 _x => asB v69 fun b72 => some ([AV.bool b72], st70))) fun c73 => unc (Prod.fst c73) fun
 v74 l75 => asB v74 fun b76 => un0 l75 (some (AV.bool b76, Prod.snd c73)))))))))))))
theorem w44_eq (x0 x1 x2 x3 : AV) (st : St) : wideS vE 44 [x0, x1, x2, x3] st = w44 x0 x1 x2 x3 st := by kernel_rfl
/-- (*rostrum/ty.trial).bind -/
noncomputable def w55 : AV → AV → AV → St → Option (AV × St) := fun x0 x1 x2 st => asS x1 fun l0 => unA x2 fun l2 => unc l2 fun v3 l4 => asS v3 fun l5 => unc l4 fun v6 l7 => un0 l7 (asOne x0 (asOne x0 (letSt (St.add st
 (VM.Obj.cells 66 [x0])) fun st8 => letSt (St.add st8 (VM.Obj.cells 9 [AV.str l0])) fun st9 => asOne v6 (fit1 v6 fun v10 => loadS 1 false (AV.mp (St.h st) 0) st9 fun v11 l12 => chk (notNil v11) (fldA 0 v11 fun v13 =>
 loadS 1 false v13 st9 fun v14 l15 => loadS 1 false (AV.mp (St.h st8) 0) st9 fun v16 l17 => asS v16 fun l18 => letSt (St.add st9 (VM.Obj.map [])) fun st20 => chk (apart (Fx.mk l17 Did.kept) (Fx.mk [] (Did.made (St.h st9)
 (VM.Obj.map []))) && (apart (Fx.mk l15 Did.kept) (Fx.mk [] (Did.made (St.h st9) (VM.Obj.map []))) && (apart (Fx.mk l12 Did.kept) (Fx.mk [] (Did.made (St.h st9) (VM.Obj.map []))) && true))) (callS (orc vE) 44 [v14,
 AV.str l18, AV.agg [AV.str l5, v10], AV.mm (St.h st9)] st20 fun v21 st22 _x => asB v21 fun b24 => ifB b24 (some (AV.int .i64 66, st22)) (loadS 1 false (AV.mp (St.h st) 0) st22 fun v25 l26 => chk (notNil v25) (fldA 0 v25
 fun v27 => loadS 1 false v27 st22 fun v28 l29 => chk (notNil v28) (fldA 0 v28 fun v30 => loadS 1 false v30 st22 fun v31 l32 => loadS 1 false (AV.mp (St.h st8) 0) st22 fun v33 l34 => asS v33 fun l35 => callS (orc vE) 65
 [AV.agg [AV.str l5, v10]] st22 fun v37 st38 x39 => unA v37 fun l41 => unc l41 fun v42 l43 => asS v42 fun l44 => unc l43 fun v45 l46 => un0 l46 (chk (apart (Fx.mk l34 Did.kept) x39 && (apart (Fx.mk l32 Did.kept) x39 &&
 (apart (Fx.mk [] Did.kept) x39 && (apart (Fx.mk [] Did.kept) x39 && (apart (Fx.mk l29 Did.kept) x39 && (apart (Fx.mk [] Did.kept) x39 && (apart (Fx.mk [] Did.kept) x39 && (apart (Fx.mk l26 Did.kept) x39 && true))))))))
 (planS (orc vE) (mapUpdateP (Env.T vE) 61 v31 (AV.str l35) (AV.agg [AV.str l44, v45])) st38 fun _x st48 _x_1 => loadS 1 false (AV.mp (St.h st) 0) st48 fun v50 l51 => loadS 1 false (AV.mp (St.h st) 0) st48 fun v52 _x =>
 chk (notNil v52) (fldA 2 v52 fun v54 => loadS 1 false v54 st48 fun v55 _x => planS (orc vE) (rowAnyP (TI.mk U.func 1 8 [AV.nilfn] false false) 1 v55 (AV.hs 1 1 [AV.fn (Fn.func 66) [] [AV.mp (St.h st) 0, AV.mp (St.h st8)
 0]])) st48 fun v57 st58 x59 => chk (apart (Fx.mk l51 Did.kept) x59 && true) (chk (notNil v50) (fldA 2 v50 fun v60 => asOne v57 (asOne v57 (storeS (orc vE) 1 v60 v57 [v57] st58 fun _x st62 _x_2 => some (AV.int .i64 0,
 st62)))))))))))))))))
theorem w55_eq (x0 x1 x2 : AV) (st : St) : wideS vE 55 [x0, x1, x2] st = w55 x0 x1 x2 st := by kernel_rfl
/-- (*rostrum/ty.Table).look -/
noncomputable def l54_L1 (x0 : AV) (st : St) (st7 : St) : Car → Option (Car ⊕ Nat × Car) := fun c9 => un0 (Prod.fst c9) (chk (notNil x0) (fldA 0 x0 fun v10 => loadS 1 false v10 (Prod.snd c9) fun v11 l12 => loadS 1 false
 (AV.mp (St.h (St.mk (St.h st) (St.h st) (St.objs st))) 0) (Prod.snd c9) fun v13 l14 => asS v13 fun l15 => planS (orc vE) (lookupP (Env.T vE) 61 v11 (AV.str l15) true) (Prod.snd c9) fun v16 st17 x18 => unT v16 fun l19 =>
 nthS l19 0 fun v20 => unA v20 fun l22 => unc l22 fun v23 l24 => asS v23 fun l25 => unc l24 fun v26 l27 => un0 l27 (unT v16 fun l28 => nthS l28 1 fun v29 => asB v29 fun b30 => letSt (St.add st17 (VM.Obj.cells 24 [AV.str
 [], AV.nils])) fun st31 => chk (apart x18 (Fx.mk [] (Did.made (St.h st17) (VM.Obj.cells 24 [AV.str [], AV.nils]))) && (apart (Fx.mk l14 Did.kept) (Fx.mk [] (Did.made (St.h st17) (VM.Obj.cells 24 [AV.str [], AV.nils])))
 && (apart (Fx.mk l12 Did.kept) (Fx.mk [] (Did.made (St.h st17) (VM.Obj.cells 24 [AV.str [], AV.nils]))) && true))) (asOne v26 (storeS (orc vE) 2 (AV.mp (St.h st17) 0) (AV.agg [AV.str l25, v26]) [AV.str l25, v26] st31
 fun _x st33 x34 => chk (apart (Fx.mk [] Did.kept) x34 && true) (ifB (!b30) (loadS 2 true (AV.mp (St.h (St.mk (St.h st) (St.h st) (St.objs st))) 0) st33 fun v35 _x => unA v35 fun l38 => unc l38 fun v39 l40 => asS v39 fun
 l41 => unc l40 fun v42 l43 => un0 l43 (asOne v42 (storeS (orc vE) 2 (AV.mp (St.h st7) 0) (AV.agg [AV.str l41, v42]) [AV.str l41, v42] st33 fun _x st45 _x_1 => some (Sum.inr (0, [], st45))))) (loadS 2 true (AV.mp (St.h
 st17) 0) st33 fun v47 _x => unA v47 fun l50 => unc l50 fun v51 l52 => asS v51 fun l53 => unc l52 fun v54 l55 => un0 l55 (asOne v54 (storeS (orc vE) 2 (AV.mp (St.h (St.mk (St.h st) (St.h st) (St.objs st))) 0) (AV.agg
 [AV.str l53, v54]) [AV.str l53, v54] st33 fun _x st57 _x_1 => some (Sum.inl ([], st57)))))))))))
noncomputable def l54 : AV → AV → St → Option AV := fun x0 x1 st => unA x1 fun l1 => unc l1 fun v2 l3 => asS v2 fun l4 => unc l3 fun v5 l6 => un0 l6 (asOne v5 (letSt (St.add (St.mk (St.h st) (St.h st) (St.objs st))
 (VM.Obj.cells 24 [AV.str l4, v5])) fun st7 => letSt (St.add st7 (VM.Obj.cells 24 [AV.str [], AV.nils])) fun st8 => bindO (loopO (l54_L1 x0 st st7) ([], st8)) fun c59 => un0 (Prod.fst (Prod.snd c59)) (loadS 2 true (AV.mp
 (St.h st7) 0) (Prod.snd (Prod.snd c59)) fun v60 _x => unA v60 fun l63 => unc l63 fun v64 l65 => asS v64 fun l66 => unc l65 fun v67 l68 => un0 l68 (frzS (Prod.snd (Prod.snd c59)) (St.h st) (AV.agg [AV.str l66, v67]) fun
 v69 => some v69))))
theorem l54_eq (x0 x1 : AV) (st : St) : lookS vE 54 [x0, x1] st = l54 x0 x1 st := by kernel_rfl
/-- (*rostrum/ty.Table).in$1 -/
noncomputable def w57 : AV → AV → AV → AV → St → Option (AV × St) := fun x0 x1 x2 x3 st => unA x0 fun l1 => unc l1 fun v2 l3 => asS v2 fun l4 => unc l3 fun v5 l6 => un0 l6 (asOne v5 (fit1 v5 fun v7 => loadS 1 false x1
 st fun v8 _x => loadS 1 false x2 st fun v10 _x => asS v10 fun l12 => loadS 1 false x3 st fun v14 _x => callS (orc vE) 44 [v8, AV.str l12, AV.agg [AV.str l4, v7], v14] st fun v16 st17 _x => asB v16 fun b19 => some
 (AV.bool b19, st17)))
theorem w57_eq (x0 x1 x2 x3 : AV) (st : St) : wideS vE 57 [x0, x1, x2, x3] st = w57 x0 x1 x2 x3 st := by kernel_rfl
/-- slices.ContainsFunc[[]rostrum/api.Type,rostrum/api.Type] -/
noncomputable def w41 : AV → AV → St → Option (AV × St) := fun x0 x1 st => callS (orc vE) 56 [x0, x1] st fun v0 st1 _x => asI .i64 v0 fun n3 => some (AV.bool (decide (n3 ≥ 0)), st1)
theorem w41_eq (x0 x1 : AV) (st : St) : wideS vE 41 [x0, x1] st = w41 x0 x1 st := by kernel_rfl
/-- slices.IndexFunc[[]rostrum/api.Type,rostrum/api.Type] -/
noncomputable def w56_L1 (x0 : AV) (x1 : AV) (k0 : Nat) : Car → Option (Car ⊕ Nat × Car) := fun c1 => unc (Prod.fst c1) fun v2 l3 => asI .i64 v2 fun n4 => unc l3 fun v5 l6 => asI .i64 v5 fun n7 => un0 l6 (ifB (decide
 (n7 < (↑k0 : Int))) (idxA 2 x0 n7 (Prod.snd c1) fun v8 _x => loadS 2 true v8 (Prod.snd c1) fun v10 _x => unA v10 fun l13 => unc l13 fun v14 l15 => asS v14 fun l16 => unc l15 fun v17 l18 => un0 l18 (callF (orc vE)
 (Sx.prim (sx vE 56)) x1 [AV.agg [AV.str l16, v17]] (Prod.snd c1) fun v19 st20 _x => asB v19 fun b22 => ifB b22 (some (Sum.inr (1, [AV.int .i64 n7], st20))) (letV (IntKind.wrap .i64 (n7 + 1)) fun n23 => some (Sum.inl
 ([AV.int .i64 n4, AV.int .i64 n23], st20))))) (some (Sum.inr (0, [AV.int .i64 n4], Prod.snd c1))))
noncomputable def w56 : AV → AV → St → Option (AV × St) := fun x0 x1 st => lenS x0 fun k0 => bindO (loopO (w56_L1 x0 x1 k0) ([AV.int .i64 0, AV.int .i64 0], st)) fun c24 => unc (Prod.fst (Prod.snd c24)) fun v25 l26 =>
 asI .i64 v25 fun n27 => un0 l26 (sel2 (Prod.fst c24) (some (AV.int .i64 (-1), Prod.snd (Prod.snd c24))) fun _x => some (AV.int .i64 n27, Prod.snd (Prod.snd c24)))
theorem w56_eq (x0 x1 : AV) (st : St) : wideS vE 56 [x0, x1] st = w56 x0 x1 st := by kernel_rfl
/-- rostrum/ty.own -/
noncomputable def g65_L1 (v7 : AV) (k9 : Nat) : Car → Option (Car ⊕ Nat × Car) := fun c10 => unc (Prod.fst c10) fun v11 l12 => asI .i64 v11 fun n13 => un0 l12 (ifB (decide (n13 < (↑k9 : Int))) (idxA 2 v7 n13 (Prod.snd
 c10) fun v14 _x => loadS 2 true v14 (Prod.snd c10) fun v16 _x => unA v16 fun l19 => unc l19 fun v20 l21 => asS v20 fun l22 => unc l21 fun v23 l24 => un0 l24 (letSt (St.add (Prod.snd c10) (VM.Obj.cells 24 [AV.str [],
 AV.nils])) fun st25 => asOne v23 (storeS (orc vE) 2 (AV.mp (St.h (Prod.snd c10)) 0) (AV.agg [AV.str l22, v23]) [AV.str l22, v23] st25 fun _x st27 _x_1 => loadS 1 false (AV.mp 1 1) st27 fun v29 l30 => loadS 2 true (AV.mp
 (St.h (Prod.snd c10)) 0) st27 fun v31 _x => unA v31 fun l34 => unc l34 fun v35 l36 => asS v35 fun l37 => unc l36 fun v38 l39 => un0 l39 (callS (orc vE) 65 [AV.agg [AV.str l37, v38]] st27 fun v40 st41 x42 => unA v40 fun
 l44 => unc l44 fun v45 l46 => asS v45 fun l47 => unc l46 fun v48 l49 => un0 l49 (chk (apart (Fx.mk l30 Did.kept) x42 && (apart (Fx.mk [] Did.kept) x42 && true)) (asOne v48 (asOne v48 (fit1 v48 fun v50 => asOne v50 (fit1
 v50 fun v51 => appS 2 40 24 v29 [AV.agg [AV.str l47, v51]] st41 fun v52 st53 _x => asOne v52 (asOne v52 (storeS (orc vE) 1 (AV.mp 1 1) v52 [v52] st53 fun _x st56 _x_2 => letV (IntKind.wrap .i64 (n13 + 1)) fun n58 =>
 some (Sum.inl ([AV.int .i64 n58], st56))))))))))))) (some (Sum.inr (0, [], Prod.snd c10))))
noncomputable def g65 : AV → Option AV := fun x0 => unA x0 fun l1 => unc l1 fun v2 l3 => asS v2 fun l4 => unc l3 fun v5 l6 => un0 l6 (asOne v5 (fit1 v5 fun v7 => lenS v7 fun k9 => bindO (loopO (g65_L1 v7 k9) ([AV.int
 .i64 0], St.mk 2 0 (Tr.node (some (VM.Obj.cells 24 [AV.str [], AV.nils])) (Tr.node (some (VM.Obj.cells 24 [AV.str l4, AV.nils])) Tr.leaf Tr.leaf) Tr.leaf))) fun c59 => un0 (Prod.fst (Prod.snd c59)) (loadS 2 true (AV.mp
 1 0) (Prod.snd (Prod.snd c59)) fun v60 _x => unA v60 fun l63 => unc l63 fun v64 l65 => asS v64 fun l66 => unc l65 fun v67 l68 => un0 l68 (asOne v67 (storeS (orc vE) 2 (AV.mp 0 0) (AV.agg [AV.str l66, v67]) [AV.str l66,
 v67] (Prod.snd (Prod.snd c59)) fun _x st70 _x_1 => loadS 2 true (AV.mp 0 0) st70 fun v72 _x => unA v72 fun l75 => unc l75 fun v76 l77 => asS v76 fun l78 => unc l77 fun v79 l80 => un0 l80 (frzS st70 0 (AV.agg [AV.str
 l78, v79]) fun v81 => some v81))))))
theorem g65_eq (x0 : AV) : bareS vE 65 [x0] = g65 x0 := by kernel_rfl
/-- (*rostrum/ty.trial).bind$1 -/
noncomputable def w66 : AV → AV → St → Option (AV × St) := fun x0 x1 st => loadS 1 false x0 st fun v0 _x => chk (notNil v0) (fldA 0 v0 fun v2 => loadS 1 false v2 st fun v3 _x => chk (notNil v3) (fldA 0 v3 fun v5 =>
 loadS 1 false v5 st fun v6 _x => loadS 1 false x1 st fun v8 _x => asS v8 fun l10 => planS (orc vE) (builtinP (Env.T vE) (Sx.imm (sx vE 66)) Builtin.delete [61, 9] [v6, AV.str l10]) st fun _x st12 _x_1 => some (AV.tup
 [], st12)))
theorem w66_eq (x0 x1 : AV) (st : St) : wideS vE 66 [x0, x1] st = w66 x0 x1 st := by kernel_rfl
end Go.Proofs.YtlfilkniobkbiaaDoor.Vm
/- Tables: what is bound, looked up; a type in memory of its own. -/
namespace Go.Proofs.YtlfilkniobkbiaaDoor.Vm
open Go Go.VM Go.Proofs Go.Ty
abbrev TTb : TypeId := 63
abbrev TMp : TypeId := 61
section
variable {β : Type} {Q : β → Prop} {st0 s : St} {l : Vrs} {X : Nat → Prop}
/-- The variables; but for some, what lay there at the start is kept. -/
structure Wx (X : Nat → Prop) (st0 s : St) (l : Vrs) : Prop where
  w : Vw s l
  k : Keeps st0 s X
  ge : ∀ q ∈ l, st0.h ≤ q.1
theorem Wx.start (h : s.ro ≤ s.h) (X : Nat → Prop) : Wx X s s [] := ⟨Vw.start h, Keeps.refl _ _, fun q hq => by cases hq⟩
theorem Wx.sub {l' : Vrs} (w : Wx X st0 s l) (h : List.Sublist l' l) : Wx X st0 s l' := ⟨w.w.sub h, w.k, fun q hq => w.ge q (h.subset hq)⟩
theorem Goes.xalloc (w : Wx X st0 s l) {ty : TypeId} {cs : List AV} {K : St → Option β} (g : ∀ s', s'.h = s.h + 1 → Wx X st0 s' ((s.h, ty, cs) :: l) → Keeps s s' (fun _ => False) → Goes (K s') Q) : Goes (letSt (s.add (.cells ty cs)) K) Q := by
  refine g _ rfl ⟨w.w.alloc ty cs, w.k.trans (Keeps.add _ _ _), fun q hq => ?_⟩ (Keeps.add _ _ _)
  rcases List.mem_cons.1 hq with rfl | hq
  · exact w.k.h
  · exact w.ge q hq
theorem Goes.xst {O : Orc} (l1 : Vrs) {l2 : Vrs} {a : Nat} {ty : TypeId} {old : List AV} (w : Wx X st0 s (l1 ++ (a, ty, old) :: l2)) {z : Nat} {v : AV} {cs : List AV} {K : Kv β}
    (g : ∀ s', s'.h = s.h → Wx X st0 s' (l1 ++ (a, ty, cs) :: l2) → Keeps s s' (· = a) → Goes (K VM.undef s' ⟨[a], .wrote a (.cells ty cs)⟩) Q) (hz : old.length = z := by rfl) (hc : cs.length = z := by rfl) : Goes (storeS O z (.mp a 0) v cs s K) Q := by
  have hm : (a, ty, old) ∈ l1 ++ (a, ty, old) :: l2 := List.mem_append_right _ List.mem_cons_self
  have e : storeS O z (.mp a 0) v cs s K = K VM.undef (s.put a (.cells ty cs)) ⟨[a], .wrote a (.cells ty cs)⟩ := by
    rw [storeS_at (w.w.get hm) hc (by omega) (w.w.v _ hm).2, splice_all (by omega)]
  have hk : Keeps s (s.put a (.cells ty cs)) (· = a) := Keeps.put rfl
  refine Goes.step e (g _ rfl ⟨w.w.putAt cs, w.k.join hk (fun j hj => .inr (by rw [hj]; exact w.ge _ hm)), fun q hq => ?_⟩ hk)
  rcases List.mem_append.1 hq with h | h
  · exact w.ge q (List.mem_append_left _ h)
  · rcases List.mem_cons.1 h with rfl | h
    · exact w.ge (a, ty, old) hm
    · exact w.ge q (List.mem_append_right _ (List.mem_cons_of_mem _ h))
theorem Goes.look {E : Env} {F : FuncId} {args : List AV} {Q : AV → Prop} (h : Goes (lookS E F args s) Q) : Goes ((orc E).look F args s) Q := by
  obtain ⟨b, e, h⟩ := h
  exact ⟨b, look_of e, h⟩
end
theorem callS_look {β : Type} {E : Env} {f : FuncId} {args : List AV} {v : AV} {st : St} (K : Kv β) (hl : E.isLook f = true) (hb : (bares (args.map strip) && !E.full f) = false) (h : (orc E).look f (args.map strip) st = some v) : callS (orc E) f args st K = K v st ⟨[], .looked⟩ := by
  have h1 : (bares (args.map strip) && !(orc E).full f) = false := hb
  have h2 : (orc E).isLook f = true := hl
  unfold callS outS callO
  rw [h1, h2, h]
  rfl
theorem apart_mk {a b : Nat} (h : a ≠ b) (o : VM.Obj) : apart ⟨[a], .kept⟩ ⟨[], .made b o⟩ = true := by
  show (![a].contains b) = true
  simp [h.symm]
theorem frz_sl {z : Nat} {x : AV} {es : List AV} (h : IsSl z x es) (st : St) (base n : Nat) : VM.freeze st base (n + 1) x = .ok x := by
  rcases h.2 with ⟨rfl | rfl, rfl⟩ | rfl | rfl <;> rfl
theorem fz_str' (a : Tx) (st : St) (base n : Nat) : VM.freeze st base (n + 1) (.str a) = .ok (.str a) := rfl
/-! A type's cells. -/
def CT (t : Ty) (x : AV) : Prop := ∃ es, IsSl 2 x es ∧ IsTs t.l es
theorem isT_iff {t : Ty} {v : AV} : IsT t v ↔ ∃ x, v = .agg [.str t.nm, x] ∧ CT t x := by
  obtain ⟨nm, l⟩ := t
  simp only [IsT]
  constructor
  · rintro ⟨x, es, h1, h2, h3⟩; exact ⟨x, h1, es, h2, h3⟩
  · rintro ⟨x, h1, es, h2, h3⟩; exact ⟨x, es, h1, h2, h3⟩
theorem CT.isT {t : Ty} {x : AV} (h : CT t x) : IsT t (.agg [.str t.nm, x]) := isT_iff.2 ⟨x, rfl, h⟩
section
variable {t : Ty} {x : AV}
theorem CT.one (h : CT t x) : VM.one x = true := by obtain ⟨es, h, _⟩ := h; exact h.one
theorem CT.asOne (h : CT t x) {β : Type} (K : Option β) : asOne x K = K := asOne_of h.one K
theorem CT.fit1 (h : CT t x) {β : Type} (K : AV → Option β) : VM.fit1 x K = K x := by obtain ⟨es, h, _⟩ := h; exact h.fit1 K
theorem CT.b (h : CT t x) : VM.bare (.agg [.str t.nm, x]) = true ∧ VM.strip (.agg [.str t.nm, x]) = .agg [.str t.nm, x] := isT_bare h.isT
theorem CT.frz (h : CT t x) (st : St) (base : Nat) {β : Type} (K : AV → Option β) : frzS st base (.agg [.str t.nm, x]) K = K (.agg [.str t.nm, x]) := by
  obtain ⟨es, h, _⟩ := h
  refine frz_agg (allE_cons (fz_str' _ st base 98) (allE_cons (frz_sl h st base 98) allE_nil)) ?_ K
  simp only [bares_cons, h.bare]; rfl
end
/-! A table. -/
def IsB : Bnd → List (AV × AV) → Prop
  | [], es => es = []
  | (n, t) :: B, es => ∃ v r, es = (.str n, v) :: r ∧ IsT t v ∧ IsB B r
theorem IsB.find : ∀ {B : Bnd} {es : List (AV × AV)} (_ : IsB B es) (n : Tx), ∃ r, findEntry (.str n) es = .ok r ∧ match fnd B n with
    | none => r = none
    | some t => ∃ v, r = some v ∧ IsT t v
  | [], es, h, n => by simp only [IsB] at h; subst h; exact ⟨none, rfl, rfl⟩
  | (m, t) :: B, es, h, n => by
    simp only [IsB] at h
    obtain ⟨v, r, rfl, h1, h2⟩ := h
    simp only [findEntry, keyEq, ok_bind, fnd]
    cases e : n == m with
    | true => exact ⟨some v, rfl, v, rfl, h1⟩
    | false =>
      obtain ⟨r', h3, h4⟩ := h2.find n
      exact ⟨r', h3, by rw [if_neg (by simp)]; exact h4⟩
theorem IsB.set : ∀ {B : Bnd} {es : List (AV × AV)} (_ : IsB B es) {n : Tx} (_ : fnd B n = none) {t : Ty} {v : AV} (_ : IsT t v), ∃ es', setEntry (.str n) v es = .ok es' ∧ IsB (B ++ [(n, t)]) es'
  | [], es, h, n, _, t, v, hv => by simp only [IsB] at h; subst h; exact ⟨[(.str n, v)], rfl, by simp only [List.nil_append, IsB]; exact ⟨v, [], rfl, hv, rfl⟩⟩
  | (m, u) :: B, es, h, n, hn, t, v, hv => by
    simp only [IsB] at h
    obtain ⟨w, r, rfl, h1, h2⟩ := h
    simp only [fnd] at hn
    split at hn
    · cases hn
    · rename_i e
      obtain ⟨es', h3, h4⟩ := h2.set hn hv
      have e' : (n == m) = false := by simpa using e
      refine ⟨(.str m, w) :: es', ?_, ?_⟩
      · simp only [setEntry, keyEq, ok_bind, h3]
        rw [show (n == m) = false from e']
        rfl
      · simp only [List.cons_append, IsB]
        exact ⟨w, es', rfl, h1, h4⟩
theorem IsB.del : ∀ {B E : Bnd} {es : List (AV × AV)} {n : Tx} {t : Ty} (_ : IsB (B ++ (n, t) :: E) es) (_ : fnd B n = none), ∃ es', delEntry (.str n) es = .ok es' ∧ IsB (B ++ E) es'
  | [], E, es, n, t, h, _ => by
    simp only [List.nil_append, IsB] at h
    obtain ⟨v, r, rfl, h1, h2⟩ := h
    refine ⟨r, ?_, h2⟩
    simp only [delEntry, keyEq, ok_bind, beq_self_eq_true, pure_eq]
  | (m, u) :: B, E, es, n, t, h, hn => by
    simp only [List.cons_append, IsB] at h
    obtain ⟨w, r, rfl, h1, h2⟩ := h
    simp only [fnd] at hn
    split at hn
    · cases hn
    · rename_i e
      obtain ⟨es', h3, h4⟩ := IsB.del h2 hn
      have e' : (n == m) = false := by simpa using e
      refine ⟨(.str m, w) :: es', ?_, ?_⟩
      · simp only [delEntry, keyEq, ok_bind, h3]
        rw [show (n == m) = false from e']
        rfl
      · simp only [List.cons_append, IsB]; exact ⟨w, es', rfl, h1, h4⟩
/-- A table of the program: its cells, its map. -/
structure TbR (st : St) (T M : Nat) (B : Bnd) (k : Int) : Prop where
  t : st.get T = .ok (.cells TTb [.mm M, .int .i64 k])
  m : ∃ es, st.get M = .ok (.map es) ∧ IsB B es
/-- One that may be written. -/
structure Tb (st : St) (T M : Nat) (B : Bnd) (k : Int) : Prop extends TbR st T M B k where
  rt : st.ro ≤ T
  rm : st.ro ≤ M
theorem TbR.keep {st s : St} {T M : Nat} {B : Bnd} {k : Int} {X : Nat → Prop} (h : TbR st T M B k) (hk : Keeps st s X) (h1 : ¬ X T) (h2 : ¬ X M) : TbR s T M B k := by
  obtain ⟨es, h3, h4⟩ := h.m
  exact ⟨hk.old _ _ h1 h.t, ⟨es, hk.old _ _ h2 h3, h4⟩⟩
theorem Tb.keep {st s : St} {T M : Nat} {B : Bnd} {k : Int} {X : Nat → Prop} (h : Tb st T M B k) (hk : Keeps st s X) (h1 : ¬ X T) (h2 : ¬ X M) : Tb s T M B k := by
  exact ⟨h.toTbR.keep hk h1 h2, by rw [hk.ro]; exact h.rt, by rw [hk.ro]; exact h.rm⟩
theorem ti_mapT : ti (Env.T vE) TMp = .ok ⟨.map 9 24, 1, 8, [.nilm], false, false⟩ := by kernel_rfl
theorem ti_strT : ti (Env.T vE) 9 = .ok ⟨.str, 1, 16, [.str []], false, false⟩ := by kernel_rfl
theorem ti_typ : ∃ i, ti (Env.T vE) 24 = .ok i ∧ i.agg = true ∧ i.zero = z2 := by
  have h : ((Env.T vE).get 24).isSome = true := by kernel_rfl
  refine ⟨((Env.T vE).get 24).get h, ti_ok.2 (Option.some_get h).symm, by kernel_rfl, by kernel_rfl⟩
theorem find_type {i : TI} (ha : i.agg = true) (hz : i.zero = z2) {B : Bnd} {es : List (AV × AV)} (h : IsB B es) (n : Tx) : ∃ v, found i true (.str n) es = .ok (.tup [v, .bool (fnd B n).isSome]) ∧ match fnd B n with
    | none => v = .agg z2
    | some t => IsT t v := by
  obtain ⟨r, h1, h2⟩ := h.find n
  cases hf : fnd B n with
  | none =>
    rw [hf] at h2
    subst h2
    refine ⟨.agg z2, ?_, rfl⟩
    simp only [found, h1, ok_bind, zeroV, ha, hz, okV, pure_eq, Option.isSome_none]
  | some t =>
    rw [hf] at h2
    obtain ⟨v, rfl, hv⟩ := h2
    refine ⟨v, ?_, hv⟩
    simp only [found, h1, ok_bind, okV, pure_eq, Option.isSome_some]
/-- What is bound to a name. -/
theorem map_look {st : St} {M : Nat} {B : Bnd} (h : ∃ es, st.get M = .ok (.map es) ∧ IsB B es) (n : Tx) : ∃ v, (match fnd B n with
    | none => v = .agg z2
    | some t => IsT t v) ∧ ∀ {β : Type} (K : Kv β), planS (orc vE) (lookupP (Env.T vE) TMp (.mm M) (.str n) true) st K = K (.tup [v, .bool (fnd B n).isSome]) st ⟨[M], .kept⟩ := by
  obtain ⟨es, h1, h2⟩ := h
  obtain ⟨i, e1, e2, e3⟩ := ti_typ
  obtain ⟨v, h3, h4⟩ := find_type e2 e3 h2 n
  refine ⟨v, h4, fun K => ?_⟩
  have e : lookupP (Env.T vE) TMp (.mm M) (.str n) true = .ok (readP M fun o => match o with | .map es => found i true (.str n) es | _ => .error "lookup: no map") := by
    simp only [lookupP, ti_mapT, e1, ti_strT, ok_bind, keyIn, keyOk, pure_eq]
    rfl
  rw [e]
  simp only [planS, planO, readP, h1, h3, ok_bind, pure_eq, outS, bindO_ok]
/-- A name is bound. -/
theorem map_put {st : St} {M : Nat} {B : Bnd} (h : ∃ es, st.get M = .ok (.map es) ∧ IsB B es) (hro : st.ro ≤ M) {n : Tx} (hn : fnd B n = none) {t : Ty} {v : AV} (hv : IsT t v) : ∃ es', IsB (B ++ [(n, t)]) es' ∧ ∀ {β : Type} (K : Kv β), planS (orc vE) (mapUpdateP (Env.T vE) TMp (.mm M) (.str n) v) st K = K VM.undef (st.put M (.map es')) ⟨[M], .wrote M (.map es')⟩ := by
  obtain ⟨es, h1, h2⟩ := h
  obtain ⟨es', h3, h4⟩ := h2.set hn hv
  refine ⟨es', h4, fun K => ?_⟩
  have e2 : mapUpdateP (Env.T vE) TMp (.mm M) (.str n) v = .ok (.obj M fun o => match o with | .map es => do pure (VM.undef, some (.map (← setEntry (.str n) v es))) | _ => .error "mapUpdate: no map") := by
    simp only [mapUpdateP, ti_mapT, ti_strT, ok_bind, keyIn, keyOk, pure_eq]
    rfl
  have h5 : (st.ro.ble M) = true := Nat.ble_eq_true_of_le hro
  rw [e2]
  simp only [planS, planO, h1, h3, ok_bind, pure_eq, wroteO, h5, outS, bindO_ok]
theorem look_bound {st : St} {T M : Nat} {B : Bnd} {k : Int} (h : TbR st T M B k) (n : Tx) : ∃ v, (match fnd B n with
    | none => v = .agg z2
    | some t => IsT t v) ∧ ∀ {β : Type} (K : Kv β), planS (orc vE) (lookupP (Env.T vE) TMp (.mm M) (.str n) true) st K = K (.tup [v, .bool (fnd B n).isSome]) st ⟨[M], .kept⟩ := map_look h.m n
theorem put_bound {st : St} {T M : Nat} {B : Bnd} {k : Int} (h : Tb st T M B k) {n : Tx} (hn : fnd B n = none) {t : Ty} {v : AV} (hv : IsT t v) : ∃ es', IsB (B ++ [(n, t)]) es' ∧ ∀ {β : Type} (K : Kv β), planS (orc vE) (mapUpdateP (Env.T vE) TMp (.mm M) (.str n) v) st K = K VM.undef (st.put M (.map es')) ⟨[M], .wrote M (.map es')⟩ := map_put h.m h.rm hn hv
/-! A type in memory of its own. -/
theorem own_ok : ∀ (n : Nat) (t : Ty), SizeOf.sizeOf t < n → szTs t.l ≤ 1000000000 → ∀ (v : AV), IsT t v → Goes ((orc vE).bare 65 [v]) (IsT t) := by
  intro n
  induction n with
  | zero => intro t h; omega
  | succ n ih =>
    intro t hn hsz v hv
    obtain ⟨nm, ls, y, fs, rfl, rfl, hy, hs⟩ := isT_open hv
    simp only [Ty.mk.sizeOf_spec] at hn
    have hsz : szTs ls ≤ 1000000000 := hsz
    have hlen := hs.len
    have hll := szTs_len ls
    have IH : ∀ {i : Nat} (hi : i < ls.length), ∃ (nm2 : Tx) (y2 : AV) (es2 : List AV) (r : AV), fs[i]? = some (.agg [.str nm2, y2]) ∧ IsSl 2 y2 es2 ∧ IsT ls[i] r ∧ ∀ {γ : Type} (st : St) (K : Kv γ), callS (orc vE) 65 [.agg [.str nm2, y2]] st K = K r st q0 := by
      intro i hi
      obtain ⟨v, hv1, hV⟩ := ts_at hs hi
      have h1 : szT ls[i] ≤ szTs ls := szT_mem (List.getElem_mem hi)
      have h2 : szTs ls[i].l ≤ szT ls[i] := by
        generalize ls[i] = u
        obtain ⟨a, b⟩ := u
        simp only [szT, Ty.l]; omega
      have hb := isT_bare hV
      obtain ⟨r, hk, hr⟩ := ih ls[i] (by have := List.sizeOf_lt_of_mem (List.getElem_mem hi); omega) (by omega) v hV
      obtain ⟨nm2, ls2, y2, fs2, e0, rfl, hx2, _⟩ := isT_open hV
      exact ⟨nm2, y2, fs2, r, hv1, hx2, hr, fun st K => callT1 hb rfl hk st K⟩
    refine Goes.bare rfl (Goes.step (g65_eq _) ?_)
    simp only [g65, unA_agg, unc_cons, asS_str, un0_nil, hy.asOne, hy.fit1, hy.len]
    have w0 : Wv S0 (St.mk 2 0 (Tr.node (some (VM.Obj.cells TTy z2)) (Tr.node (some (VM.Obj.cells TTy [.str nm, .nils])) Tr.leaf Tr.leaf) Tr.leaf)) [(1, TTy, [.str nm, .nils]), (0, TTy, z2)] 2 TTy .nils [] := by
      refine ⟨⟨fun q hq => ?_, by show ([1, 0] : List Nat).Nodup; decide, Nat.zero_le _⟩, Own.nils (Nat.zero_le _) _ _, (fun j hj => by obtain ⟨_, _, h⟩ := hj; cases h), ?_, fun q hq => Nat.zero_le _⟩
      · simp only [List.mem_cons, List.mem_nil_iff, or_false] at hq
        rcases hq with rfl | rfl
        · exact ⟨by kernel_rfl, Nat.zero_le _⟩
        · exact ⟨rfl, Nat.zero_le _⟩
      · exact ⟨rfl, Nat.zero_le _, fun j o _ hg => absurd (St.get_ok.1 hg).1 (Nat.not_lt_zero j)⟩
    refine Goes.bind (R := fun c => ∃ s v ws, c = (0, [], s) ∧ Wv S0 s [(1, TTy, [.str nm, v]), (0, TTy, z2)] 2 TTy v ws ∧ IsTs ls ws) ?_ ?_
    · refine Goes.upto (n := ls.length) (I := fun i c => ∃ s v ws, c = ([.int .i64 (i : Int)], s) ∧ Wv S0 s [(1, TTy, [.str nm, v]), (0, TTy, z2)] 2 TTy v ws ∧ IsTs (ls.take i) ws) ?_ ?_ ls.length 0 _ (by omega) ⟨_, .nils, [], rfl, w0, IsTs.nil⟩
      · rintro i c hi ⟨s, v, ws, rfl, w, hw⟩
        have hq : decide ((i : Int) < (fs.length : Int)) = true := decide_eq_true (by omega)
        obtain ⟨nm2, y2, es2, r, hv, hy2, hr, c2⟩ := IH hi
        obtain ⟨nm3, ls3, y3, fs3, hq3, rfl, hy3, hs3⟩ := isT_open hr
        have hwl := hw.len
        simp only [List.length_take] at hwl
        simp only [g65_L1, unc_cons, asI_int, un0_nil, hq, ifB_true, hy.idx hv, cells_agg, loadS_ip, List.drop_zero, takeT2, bindO_ok, unA_agg, asS_str]
        refine Goes.walloc w fun s1 hs1 w1 => ?_
        rw [asOne_of hy2.one]
        refine Goes.wstore [] w1 fun s2 _ _ w2 => ?_
        refine Goes.vload1 (List.mem_cons_of_mem _ List.mem_cons_self) w2.w (o := 1) rfl ?_
        refine Goes.vload List.mem_cons_self w2.w rfl ?_
        simp only [unA_agg, unc_cons, asS_str, un0_nil, c2, apart_kept, Bool.and_self, Bool.and_true, chk_true, hy3.asOne, hy3.fit1]
        refine Goes.wapp w2 (by omega) (by omega) (by omega) fun v' s3 fx w3 => ?_
        refine Goes.one w3.o.one (Goes.one w3.o.one (Goes.wstoreF [(s.h, TTy, [.str nm2, y2])] w3 (Nat.le_refl _) fun s4 _ _ w4 => ?_))
        simp only [letV_eq, wrapA1 (show i + 1 ≤ 9223372036854775807 by omega)]
        refine Goes.inl ⟨s4, v', _, rfl, w4.sub (List.Sublist.cons _ (List.Sublist.refl _)), ?_⟩
        rw [take_snoc hi]
        exact isTs_snoc hw hr
      · rintro c ⟨s, v, ws, rfl, w, hw⟩
        rw [List.take_length] at hw
        have hq : decide (((ls.length : Nat) : Int) < (fs.length : Int)) = false := decide_eq_false (by omega)
        simp only [g65_L1, unc_cons, asI_int, un0_nil, hq, ifB_false]
        exact Goes.inr ⟨s, v, ws, rfl, w, hw⟩
    · rintro c ⟨s, v, ws, rfl, w, hw⟩
      simp only [un0_nil]
      refine Goes.vload List.mem_cons_self w.w rfl ?_
      simp only [unA_agg, unc_cons, asS_str, un0_nil]
      refine Goes.one w.o.one (Goes.wstore [(1, TTy, [.str nm, v])] w fun s5 _ _ w5 => ?_)
      refine Goes.vload (List.mem_cons_of_mem _ List.mem_cons_self) w5.w rfl ?_
      simp only [unA_agg, unc_cons, asS_str, un0_nil]
      obtain ⟨x', hx', hf⟩ := own_freeze w5.o
      refine Goes.step (frzType hx' hf _ _) (Goes.some ?_)
      simp only [IsT]
      exact ⟨x', ws, rfl, hx', hw⟩
/-! A type, looked up. -/
abbrev lk (st : St) : St := St.mk st.h st.h st.objs
theorem look_loop {st s7 : St} {T M : Nat} {B : Bnd} {k0 : Int} {a : Nat} (ha : s7.h = a) {z : Ty} (hz : fnd B z.nm = none) : ∀ (k : Nat) (s : St) (y : Ty) (vy : AV) (l : Vrs), Stp B k y z → CT y vy → TbR s T M B k0 → Wx (fun _ => False) (lk st) s ((a, TTy, z2) :: (st.h, TTy, [.str y.nm, vy]) :: l) →
    Goes (loopO (l54_L1 (.mp T 0) st s7) ([], s)) (fun c => ∃ s' vz, c = (0, [], s') ∧ CT z vz ∧ Vw s' [(a, TTy, [.str z.nm, vz])]) := by
  intro k
  induction k with
  | zero =>
    intro s y vy l hst hy ht w
    obtain rfl : y = z := hst
    obtain ⟨v, hv, hl⟩ := look_bound ht y.nm
    rw [hz] at hv hl
    subst hv
    have hM : M < s.h := by obtain ⟨es, h1, _⟩ := ht.m; exact (St.get_ok.1 h1).1
    have hT : T < s.h := (St.get_ok.1 ht.t).1
    have hA : st.h < s.h := (St.get_ok.1 (w.w.get (List.mem_cons_of_mem _ List.mem_cons_self))).1
    have main : Goes (l54_L1 (.mp T 0) st s7 ([], s)) (fun r => ∃ c, r = .inr c ∧ ∃ s' vz, c = (0, [], s') ∧ CT y vz ∧ Vw s' [(a, TTy, [.str y.nm, vz])]) := by
      simp only [l54_L1, un0_nil, notNil_mp, chk_true, fldA_mp, Nat.add_zero, loadS_mp ht.t, List.drop_zero, takeO_one, bindO_ok]
      refine Goes.vload1 (List.mem_cons_of_mem _ List.mem_cons_self) w.w (o := 0) rfl ?_
      simp only [asS_str, hl, unT_tup, nthS_zero, nthS_one, unA_agg, z2, unc_cons, un0_nil, Option.isSome_none, asB_bool]
      refine Goes.xalloc w fun s1 hs1 w1 k1 => ?_
      rw [chk_of (by rw [apart_mk (Nat.ne_of_lt hM), apart_mk (Nat.ne_of_lt hT), apart_mk (show st.h ≠ s.h from Nat.ne_of_lt hA)]; rfl)]
      simp only [asOne_nils]
      refine Goes.xst [] w1 fun s2 hs2 w2 k2 => ?_
      simp only [apart_wrote1, Bool.and_true, chk_true, Bool.not_false, ifB_true]
      refine Goes.vload (List.mem_cons_of_mem _ (List.mem_cons_of_mem _ List.mem_cons_self)) w2.w rfl ?_
      simp only [unA_agg, unc_cons, asS_str, un0_nil, hy.asOne]
      rw [ha]
      refine Goes.xst [(s.h, TTy, z2)] w2 fun s3 hs3 w3 k3 => ?_
      refine Goes.some ⟨_, rfl, s3, vy, rfl, hy, w3.w.sub ?_⟩
      exact List.Sublist.cons _ (List.Sublist.cons_cons _ (List.nil_sublist _))
    obtain ⟨r, e, c, rfl, h⟩ := main
    exact ⟨c, loopO_inr e, h⟩
  | succ k ih =>
    intro s y vy l hst hy ht w
    obtain ⟨t, ht1, hst⟩ := hst
    obtain ⟨v, hv, hl⟩ := look_bound ht y.nm
    rw [ht1] at hv hl
    obtain ⟨x, rfl, hx⟩ := isT_iff.1 hv
    have hM : M < s.h := by obtain ⟨es, h1, _⟩ := ht.m; exact (St.get_ok.1 h1).1
    have hT : T < s.h := (St.get_ok.1 ht.t).1
    have hA : st.h < s.h := (St.get_ok.1 (w.w.get (List.mem_cons_of_mem _ List.mem_cons_self))).1
    have hTa : T ≠ st.h := fun e => by
      have h1 := w.w.get (List.mem_cons_of_mem _ List.mem_cons_self)
      have h2 := ht.t
      rw [e] at h2
      rw [h1] at h2
      have : TTy = TTb := by simpa using congrArg (fun (r : Res VM.Obj) => match r with | .ok (.cells t _) => t | _ => 0) h2
      exact absurd this (by decide)
    have hMa : M ≠ st.h := fun e => by
      obtain ⟨es, h1, _⟩ := ht.m
      rw [e] at h1
      have h2 := w.w.get (List.mem_cons_of_mem _ List.mem_cons_self)
      rw [h1] at h2; cases h2
    have main : Goes (l54_L1 (.mp T 0) st s7 ([], s)) (fun r => ∃ s' l', r = .inl ([], s') ∧ TbR s' T M B k0 ∧ Wx (fun _ => False) (lk st) s' ((a, TTy, z2) :: (st.h, TTy, [.str t.nm, x]) :: l')) := by
      simp only [l54_L1, un0_nil, notNil_mp, chk_true, fldA_mp, Nat.add_zero, loadS_mp ht.t, List.drop_zero, takeO_one, bindO_ok]
      refine Goes.vload1 (List.mem_cons_of_mem _ List.mem_cons_self) w.w (o := 0) rfl ?_
      simp only [asS_str, hl, unT_tup, nthS_zero, nthS_one, unA_agg, unc_cons, un0_nil, Option.isSome_some, asB_bool]
      refine Goes.xalloc w fun s1 hs1 w1 k1 => ?_
      rw [chk_of (by rw [apart_mk (Nat.ne_of_lt hM), apart_mk (Nat.ne_of_lt hT), apart_mk (show st.h ≠ s.h from Nat.ne_of_lt hA)]; rfl)]
      rw [hx.asOne]
      refine Goes.xst [] w1 fun s2 hs2 w2 k2 => ?_
      simp only [apart_wrote1, Bool.and_true, chk_true, Bool.not_true, ifB_false]
      refine Goes.vload List.mem_cons_self w2.w rfl ?_
      simp only [unA_agg, unc_cons, asS_str, un0_nil, hx.asOne]
      refine Goes.xst [(s.h, TTy, [.str t.nm, x]), (a, TTy, z2)] w2 fun s3 hs3 w3 k3 => ?_
      refine Goes.some ⟨s3, _, rfl, ?_, w3.sub (List.Sublist.cons _ (List.Sublist.refl _))⟩
      exact ((ht.keep k1 (fun f => f) (fun f => f)).keep k2 (Nat.ne_of_lt hT) (Nat.ne_of_lt hM)).keep k3 hTa hMa
    obtain ⟨r, e, s', l', rfl, h1, h2⟩ := main
    rw [loopO_inl e]
    exact ih s' t x l' hst hx h1 h2
theorem lkup_ok {st : St} {T M : Nat} {B : Bnd} {k0 : Int} (ht : TbR st T M B k0) (hg : Go.Ty.Good B) {x : Ty} {vx : AV} (hx : CT x vx) : Goes ((orc vE).look 54 [.mp T 0, .agg [.str x.nm, vx]] st) (IsT (Go.Ty.lookT B x)) := by
  refine Goes.look (Goes.step (l54_eq _ _ _) ?_)
  simp only [l54, unA_agg, unc_cons, asS_str, un0_nil, hx.asOne]
  have w0 : Wx (fun _ => False) (lk st) (lk st) [] := Wx.start (Nat.le_refl _) _
  refine Goes.xalloc (s := lk st) w0 fun s7 hs7 w1 k1 => Goes.xalloc w1 fun s8 hs8 w2 k2 => ?_
  have ht0 : TbR (lk st) T M B k0 := ⟨ht.t, ht.m⟩
  have ht1 := (ht0.keep k1 (fun f => f) (fun f => f)).keep k2 (fun f => f) (fun f => f)
  obtain ⟨k, _, hst⟩ := look_steps hg x
  refine Goes.bind (look_loop rfl (lookT_free hg x) k s8 x vx [] hst hx ht1 w2) ?_
  rintro c ⟨s', vz, rfl, hz, hw⟩
  simp only [un0_nil]
  refine Goes.vload List.mem_cons_self hw rfl ?_
  simp only [unA_agg, unc_cons, asS_str, un0_nil]
  exact Goes.step (hz.frz _ _ _) (Goes.some hz.isT)
/-- A call of it. -/
theorem call_lkup {st : St} {T M : Nat} {B : Bnd} {k0 : Int} (ht : TbR st T M B k0) (hg : Go.Ty.Good B) {x : Ty} {vx : AV} (hx : CT x vx) : ∃ vy, CT (Go.Ty.lookT B x) vy ∧ ∀ {β : Type} (K : Kv β), callS (orc vE) 54 [.mp T 0, .agg [.str x.nm, vx]] st K = K (.agg [.str (Go.Ty.lookT B x).nm, vy]) st ⟨[], .looked⟩ := by
  obtain ⟨v, e, hv⟩ := lkup_ok ht hg hx
  obtain ⟨vy, rfl, hy⟩ := isT_iff.1 hv
  refine ⟨vy, hy, fun K => callS_look K rfl rfl ?_⟩
  rw [show ([AV.mp T 0, .agg [.str x.nm, vx]].map VM.strip) = [.mp T 0, .agg [.str x.nm, vx]] by rw [List.map_cons, List.map_cons, hx.b.2]; rfl]
  exact e
end Go.Proofs.YtlfilkniobkbiaaDoor.Vm
/- Is a variable in a type? -/
namespace Go.Proofs.YtlfilkniobkbiaaDoor.Vm
open Go Go.VM Go.Proofs Go.Ty
abbrev TSn : TypeId := 75
def encS (l : List Tx) : List (AV × AV) := l.map fun s => (.str s, .bool true)
theorem find_encS (n : Tx) : ∀ (l : List Tx), findEntry (.str n) (encS l) = .ok (if l.contains n = true then some (.bool true) else none)
  | [] => rfl
  | s :: l => by
    have ih := find_encS n l
    unfold encS at ih ⊢
    simp only [List.map_cons, findEntry, keyEq, ok_bind]
    cases e : n == s with
    | true => have : n = s := beq_iff_eq.1 e; subst this; simp [pure_eq]
    | false =>
      rw [ih]
      have : (s :: l).contains n = l.contains n := by simp only [List.contains_cons, e, Bool.false_or]
      rw [this]
theorem set_encS (n : Tx) : ∀ (l : List Tx), l.contains n = false → setEntry (.str n) (.bool true) (encS l) = .ok (encS (l ++ [n]))
  | [], _ => rfl
  | s :: l, h => by
    simp only [List.contains_cons, Bool.or_eq_false_iff] at h
    have ih := set_encS n l h.2
    unfold encS at ih ⊢
    simp only [List.map_cons, List.cons_append, setEntry, keyEq, ok_bind, h.1, ih, pure_eq]
theorem ti_mapS : ti (Env.T vE) TSn = .ok ⟨.map 9 4, 1, 8, [.nilm], false, false⟩ := by kernel_rfl
theorem ti_bool : ti (Env.T vE) 4 = .ok ⟨.bool, 1, 1, [.bool false], false, false⟩ := by kernel_rfl
theorem seen_look {st : St} {S : Nat} {l : List Tx} (h : st.get S = .ok (.map (encS l))) (n : Tx) {β : Type} (K : Kv β) : planS (orc vE) (lookupP (Env.T vE) TSn (.mm S) (.str n) false) st K = K (.bool (l.contains n)) st ⟨[S], .kept⟩ := by
  have e : lookupP (Env.T vE) TSn (.mm S) (.str n) false = .ok (readP S fun o => match o with | .map es => found ⟨.bool, 1, 1, [.bool false], false, false⟩ false (.str n) es | _ => .error "lookup: no map") := by
    simp only [lookupP, ti_mapS, ti_bool, ti_strT, ok_bind, keyIn, keyOk, pure_eq]
    rfl
  have e1 : found ⟨.bool, 1, 1, [.bool false], false, false⟩ false (.str n) (encS l) = .ok (.bool (l.contains n)) := by
    simp only [found, find_encS, ok_bind]
    cases l.contains n <;> rfl
  rw [e]
  simp only [planS, planO, readP, h, e1, ok_bind, pure_eq, outS, bindO_ok]
theorem seen_put {st : St} {S : Nat} {l : List Tx} (h : st.get S = .ok (.map (encS l))) (hro : st.ro ≤ S) {n : Tx} (hn : l.contains n = false) {β : Type} (K : Kv β) : planS (orc vE) (mapUpdateP (Env.T vE) TSn (.mm S) (.str n) (.bool true)) st K = K VM.undef (st.put S (.map (encS (l ++ [n])))) ⟨[S], .wrote S (.map (encS (l ++ [n])))⟩ := by
  have e2 : mapUpdateP (Env.T vE) TSn (.mm S) (.str n) (.bool true) = .ok (.obj S fun o => match o with | .map es => do pure (VM.undef, some (.map (← setEntry (.str n) (.bool true) es))) | _ => .error "mapUpdate: no map") := by
    simp only [mapUpdateP, ti_mapS, ti_strT, ok_bind, keyIn, keyOk, pure_eq]
    rfl
  have h5 : (st.ro.ble S) = true := Nat.ble_eq_true_of_le hro
  rw [e2]
  simp only [planS, planO, h, set_encS n l hn, ok_bind, pure_eq, wroteO, h5, outS, bindO_ok]
theorem callF_cap {β : Type} {f g : FuncId} (hp : vE.prim f = none) (cap args : List AV) (st : St) (K : Kv β) : callF (orc vE) (Sx.prim (sx vE g)) (.fn (.func f) [] cap) args st K = callS (orc vE) f (args ++ cap) st K := by
  have e : callP (Sx.prim (sx vE g)) (.fn (.func f) [] cap) args = .ok (.call f (args ++ cap)) := by
    show (match vE.prim f with | some q => primP q ([] ++ args ++ cap) | none => Except.ok (Plan.call f ([] ++ args ++ cap))) = _
    rw [hp]; rfl
  unfold callF
  rw [e]
  rfl
/-- What was gone into: in none of these the variable is, but for those above. -/
def SnInv (B : Bnd) (n : Tx) (A : Tx → Prop) (l : List Tx) : Prop := ∀ s ∈ l, varB s = true ∧ (occB n (fl B s) = false ∨ A s)
def Abv (B : Bnd) (A : Tx → Prop) (x : Ty) : Prop := ∀ s, A s → varB s = true ∧ PS (subT (fl B) x) (fl B s)
/-- What is known while it is looked for. -/
structure InW (st : St) (T M S : Nat) (B : Bnd) (k0 : Int) (l : List Tx) : Prop where
  t : TbR st T M B k0
  s : st.get S = .ok (.map (encS l))
  rs : st.ro ≤ S
  ro : st.ro ≤ st.h
  ms : M ≠ S
theorem InW.keep {st s : St} {T M S : Nat} {B : Bnd} {k0 : Int} {l : List Tx} {X : Nat → Prop} (h : InW st T M S B k0 l) (k : Keeps st s X) (h1 : ¬ X T) (h2 : ¬ X M) (h3 : ¬ X S) : InW s T M S B k0 l :=
  ⟨h.t.keep k h1 h2, k.old _ _ h3 h.s, by rw [k.ro]; exact h.rs, by rw [k.ro]; exact Nat.le_trans h.ro k.h, h.ms⟩
theorem InW.ts {st : St} {T M S : Nat} {B : Bnd} {k0 : Int} {l : List Tx} (h : InW st T M S B k0 l) : T ≠ S := fun e => by
  have h1 := h.t.t
  rw [e, h.s] at h1; cases h1
/-- The answer of a search. -/
def InA (st : St) (S : Nat) (B : Bnd) (n : Tx) (A : Tx → Prop) (b : Bool) (r : AV × St) : Prop :=
  r.1 = .bool b ∧ Keeps st r.2 (· = S) ∧ ∃ l', r.2.get S = .ok (.map (encS l')) ∧ (b = false → SnInv B n A l')
def InOk (B : Bnd) (k0 : Int) (sz : Nat) : Prop := ∀ (T M S : Nat) (n : Tx) (A : Tx → Prop) (x : Ty) (vx : AV) (st : St) (l : List Tx), szT (subT (fl B) x) < sz → varB n = true → fnd B n = none → formT x = true → CT x vx → InW st T M S B k0 l → SnInv B n A l → Abv B A x →
  Goes ((orc vE).wide 44 [.mp T 0, .str n, .agg [.str x.nm, vx], .mm S] st) (InA st S B n A (occB n (subT (fl B) x)))
theorem in1_ok {B : Bnd} {k0 : Int} {sz : Nat} (IH : InOk B k0 sz) {T M S : Nat} {n : Tx} {A : Tx → Prop} {x : Ty} {vx : AV} {st : St} {l : List Tx} {a0 a1 a3 : Nat} (hsz : szT (subT (fl B) x) < sz) (hn : varB n = true) (hf : fnd B n = none) (hx : formT x = true) (hv : CT x vx) (w : InW st T M S B k0 l) (hi : SnInv B n A l) (ha : Abv B A x)
    (h0 : st.get a0 = .ok (.cells 30 [.mp T 0])) (h1 : st.get a1 = .ok (.cells 9 [.str n])) (h3 : st.get a3 = .ok (.cells TSn [.mm S])) :
    Goes ((orc vE).wide 57 [.agg [.str x.nm, vx], .mp a0 0, .mp a1 0, .mp a3 0] st) (InA st S B n A (occB n (subT (fl B) x))) := by
  refine Goes.wide (Goes.step (w57_eq _ _ _ _ _) ?_)
  simp only [w57, unA_agg, unc_cons, asS_str, un0_nil, hv.asOne, hv.fit1, loadS_mp h0, loadS_mp h1, loadS_mp h3, List.drop_zero, takeO_one, bindO_ok]
  refine Goes.callW (IH T M S n A x vx st l hsz hn hf hx hv w hi ha) rfl (by simp [bares_cons, bares, VM.bare.bareAll, VM.bare, VM.strip]) ?_
  rintro v s ⟨rfl, h⟩
  simp only [asB_bool]
  exact Goes.some ⟨rfl, h⟩
/-- In any of some types? -/
theorem any_ok {B : Bnd} {k0 : Int} {sz : Nat} (IH : InOk B k0 sz) {T M S : Nat} {n : Tx} {A : Tx → Prop} {ls : List Ty} {y : AV} {es : List AV} {st : St} {l : List Tx} {a0 a1 a3 : Nat} (hsz : ∀ x ∈ ls, szT (subT (fl B) x) < sz) (hn : varB n = true) (hf : fnd B n = none) (hx : ∀ x ∈ ls, formT x = true)
    (hy : IsSl 2 y es) (hs : IsTs ls es) (w : InW st T M S B k0 l) (hi : SnInv B n A l) (ha : ∀ x ∈ ls, Abv B A x)
    (h0 : st.get a0 = .ok (.cells 30 [.mp T 0])) (h1 : st.get a1 = .ok (.cells 9 [.str n])) (h3 : st.get a3 = .ok (.cells TSn [.mm S])) :
    Goes ((orc vE).wide 41 [y, .fn (.func 57) [] [.mp a0 0, .mp a1 0, .mp a3 0]] st) (InA st S B n A (occBs n (subTs (fl B) ls))) := by
  have hlen := hs.len
  have hll := slenT hy
  have hnb : VM.bare (.fn (.func 57) [] [.mp a0 0, .mp a1 0, .mp a3 0]) = false := by simp [bares, VM.bare.bareAll, VM.bare]
  have hw : Goes ((orc vE).wide 56 [y, .fn (.func 57) [] [.mp a0 0, .mp a1 0, .mp a3 0]] st) (fun r => ∃ i : Int, r.1 = .int .i64 i ∧ (decide (i ≥ 0) = occBs n (subTs (fl B) ls)) ∧ Keeps st r.2 (· = S) ∧ ∃ l', r.2.get S = .ok (.map (encS l')) ∧ (decide (i ≥ 0) = false → SnInv B n A l')) := by
    refine Goes.wide (Goes.step (w56_eq _ _ _) ?_)
    simp only [w56, hy.len]
    refine Goes.bind (R := fun c => ∃ s l', Keeps st s (· = S) ∧ s.get S = .ok (.map (encS l')) ∧ ((∃ i : Nat, c = (1, [.int .i64 (i : Int)], s) ∧ occBs n (subTs (fl B) ls) = true) ∨ (c = (0, [.int .i64 0], s) ∧ occBs n (subTs (fl B) ls) = false ∧ SnInv B n A l'))) ?_ ?_
    · refine Goes.upto (n := ls.length) (I := fun i c => ∃ s l', c = ([.int .i64 0, .int .i64 (i : Int)], s) ∧ Keeps st s (· = S) ∧ s.get S = .ok (.map (encS l')) ∧ SnInv B n A l' ∧ occBs n (subTs (fl B) (ls.take i)) = false) ?_ ?_ ls.length 0 _ (by omega) ⟨st, l, rfl, Keeps.refl _ _, w.s, hi, by simp [subTs, occBs]⟩
      · rintro i c hilt ⟨s, l', rfl, hk, hS, hi', ho⟩
        have hq : decide ((i : Int) < (es.length : Int)) = true := decide_eq_true (by omega)
        obtain ⟨v, hv, hV⟩ := ts_at hs hilt
        obtain ⟨vx, rfl, hvx⟩ := isT_iff.1 hV
        have hmem : ls[i] ∈ ls := List.getElem_mem hilt
        have w' : InW s T M S B k0 l' := ⟨w.t.keep hk w.ts w.ms, hS, by rw [hk.ro]; exact w.rs, by rw [hk.ro]; exact Nat.le_trans w.ro hk.h, w.ms⟩
        have hne : ∀ {a : Nat} {t : TypeId} {cs : List AV}, st.get a = .ok (.cells t cs) → s.get a = .ok (.cells t cs) := fun {a t cs} hg => hk.old _ _ (fun e => by rw [e, w.s] at hg; cases hg) hg
        have hc := in1_ok IH (hsz _ hmem) hn hf (hx _ hmem) hvx w' hi' (ha _ hmem) (hne h0) (hne h1) (hne h3)
        simp only [w56_L1, unc_cons, asI_int, un0_nil, hq, ifB_true, hy.idx hv, cells_agg, loadS_ip, List.drop_zero, takeT2, bindO_ok, unA_agg, asS_str, callF_cap (f := 57) rfl]
        refine Goes.callW hc rfl (by simp [bares_cons, bares, VM.bare.bareAll, VM.bare, VM.strip]) ?_
        rintro v2 s2 ⟨rfl, k2, l2, hS2, hi2⟩
        have hk2 : Keeps st s2 (· = S) := hk.join k2 (fun j hj => .inl hj)
        have hstep : occBs n (subTs (fl B) (ls.take (i + 1))) = occB n (subT (fl B) ls[i]) := by
          rw [take_snoc hilt, subTs_map, List.map_append, ← subTs_map, occBs_any, List.any_append, ← occBs_any, ho]
          simp
        simp only [asB_bool]
        cases hb : occB n (subT (fl B) ls[i]) with
        | true =>
          simp only [ifB_true]
          refine Goes.inr ⟨s2, l2, hk2, hS2, .inl ⟨i, rfl, ?_⟩⟩
          rw [occBs_any, List.any_eq_true]
          exact ⟨_, subTs_mem hmem, hb⟩
        | false =>
          simp only [ifB_false, letV_eq, wrapA1 (show i + 1 ≤ 9223372036854775807 by omega)]
          exact Goes.inl ⟨s2, l2, rfl, hk2, hS2, hi2 hb, by rw [hstep, hb]⟩
      · rintro c ⟨s, l', rfl, hk, hS, hi', ho⟩
        rw [List.take_length] at ho
        have hq : decide (((ls.length : Nat) : Int) < (es.length : Int)) = false := decide_eq_false (by omega)
        simp only [w56_L1, unc_cons, asI_int, un0_nil, hq, ifB_false]
        exact Goes.inr ⟨s, l', hk, hS, .inr ⟨rfl, ho, hi'⟩⟩
    · rintro c ⟨s, l', hk, hS, ⟨i, rfl, ho⟩ | ⟨rfl, ho, hi'⟩⟩
      · simp only [unc_cons, asI_int, un0_nil, sel2_one]
        refine Goes.some ⟨(i : Int), rfl, ?_, hk, l', hS, fun h => ?_⟩
        · rw [ho]; exact decide_eq_true (by omega)
        · rw [decide_eq_false_iff_not] at h; omega
      · simp only [unc_cons, asI_int, un0_nil, sel2_zero]
        exact Goes.some ⟨-1, rfl, by rw [ho]; rfl, hk, l', hS, fun _ => hi'⟩
  refine Goes.wide (Goes.step (w41_eq _ _ _) ?_)
  simp only [w41]
  refine Goes.callW hw rfl (by simp only [List.map_cons, List.map_nil, bares_cons]; rw [show VM.strip (.fn (.func 57) [] [.mp a0 0, .mp a1 0, .mp a3 0]) = .fn (.func 57) [] [.mp a0 0, .mp a1 0, .mp a3 0] from rfl, hnb]; simp) ?_
  rintro v s ⟨i, h1, h2, h3, l', h4, h5⟩
  have h1 : v = .int .i64 i := h1
  subst h1
  simp only [asI_int]
  refine Goes.some ⟨by rw [h2], h3, l', h4, fun h => h5 (by rw [h2]; exact h)⟩
theorem in_ok {B : Bnd} (hg : Go.Ty.Good B) (k0 : Int) : ∀ sz, InOk B k0 sz := by
  intro sz
  induction sz with
  | zero => intro T M S n A x vx st l h; omega
  | succ sz ih =>
    intro T M S n A x vx st l hsz hn hf hx hv w hi ha
    have hlx := lookT_sub hg (Solves.fl hg) x
    have hlf := lookT_form hg hx
    have hlu := lookT_free hg x
    refine Goes.wide (Goes.step (w44_eq _ _ _ _ _) ?_)
    simp only [w44, unA_agg, unc_cons, asS_str, un0_nil, asOne_mp, asOne_mm]
    refine Goes.xalloc (Wx.start w.ro (· = S)) fun s1 e1 w1 k1 => Goes.xalloc w1 fun s2 e2 w2 k2 => ?_
    rw [hv.asOne]
    refine Goes.xalloc w2 fun s3 e3 w3 k3 => Goes.xalloc w3 fun s4 e4 w4 k4 => ?_
    have f0 : ∀ {P : Nat → Prop}, ¬ (fun _ : Nat => False) T := fun {_} f => f
    have ww : InW s4 T M S B k0 l := (((w.keep k1 (fun f => f) (fun f => f) (fun f => f)).keep k2 (fun f => f) (fun f => f) (fun f => f)).keep k3 (fun f => f) (fun f => f) (fun f => f)).keep k4 (fun f => f) (fun f => f) (fun f => f)
    have kk : Keeps st s4 (· = S) := w4.k
    refine Goes.vload1 (a := s3.h) (List.mem_cons_self) w4.w (o := 0) rfl ?_
    refine Goes.vload1 (a := s2.h) (List.mem_cons_of_mem _ List.mem_cons_self) w4.w (o := 0) rfl ?_
    simp only [asS_str, seen_look ww.s, asB_bool]
    cases hc : l.contains x.nm with
    | true =>
      simp only [ifB_true]
      have hm : x.nm ∈ l := by simpa using hc
      obtain ⟨hvx, hd⟩ := hi _ hm
      have ex : subT (fl B) x = fl B x.nm := by rw [Ty.eta x, subT_var hvx]; rfl
      have hd : occB n (fl B x.nm) = false := by
        rcases hd with hd | hd
        · exact hd
        · have := (ha _ hd).2.size
          rw [ex] at this; omega
      refine Goes.some ⟨by rw [ex, hd], kk, l, ww.s, fun _ => hi⟩
    | false =>
      simp only [ifB_false]
      refine Goes.vload1 (a := s2.h) (List.mem_cons_of_mem _ List.mem_cons_self) w4.w (o := 0) rfl ?_
      simp only [asS_str]
      refine Goes.callB (var_prog x.nm) rfl rfl rfl ?_
      simp only [asB_bool]
      refine Goes.bind (R := fun c => ∃ s5, c = ([], s5) ∧ Wx (· = S) st s5 [(s3.h, TSn, [.mm S]), (s2.h, TTy, [.str x.nm, vx]), (s1.h, 9, [.str n]), (st.h, 30, [.mp T 0])] ∧ InW s5 T M S B k0 (if varB x.nm = true then l ++ [x.nm] else l)) ?_ ?_
      · cases hvx : varB x.nm with
        | false => simp only [ifB_false, Bool.false_eq_true, if_false]; exact Goes.some ⟨s4, rfl, w4, ww⟩
        | true =>
          simp only [ifB_true, if_true]
          refine Goes.vload1 (a := s3.h) List.mem_cons_self w4.w (o := 0) rfl ?_
          refine Goes.vload1 (a := s2.h) (List.mem_cons_of_mem _ List.mem_cons_self) w4.w (o := 0) rfl ?_
          simp only [asS_str, seen_put ww.s ww.rs hc]
          have hk : Keeps s4 (s4.put S (.map (encS (l ++ [x.nm])))) (· = S) := Keeps.put rfl
          have hS : S < s4.h := (St.get_ok.1 ww.s).1
          refine Goes.some ⟨_, rfl, ⟨w4.w.keeps hk (fun q hq e => ?_), kk.join hk (fun j hj => .inl hj), w4.ge⟩, ⟨ww.t.keep hk ww.ts ww.ms, St.get_put_same hS, ww.rs, ww.ro, ww.ms⟩⟩
          have h1 := (w4.w.v q hq).1
          rw [e, ww.s] at h1
          cases h1
      · rintro c ⟨s5, rfl, w5, u5⟩
        simp only [un0_nil]
        obtain ⟨vy, hvy, hcl⟩ := call_lkup u5.t hg hv
        refine Goes.vload1 (a := st.h) (List.mem_cons_of_mem _ (List.mem_cons_of_mem _ (List.mem_cons_of_mem _ List.mem_cons_self))) w5.w (o := 0) rfl ?_
        refine Goes.vload (a := s2.h) (List.mem_cons_of_mem _ List.mem_cons_self) w5.w rfl ?_
        simp only [unA_agg, unc_cons, asS_str, un0_nil, hcl, hvy.asOne]
        generalize hy0 : Go.Ty.lookT B x = y at hlx hlf hlu hvy ⊢
        refine Goes.xst [(s3.h, TSn, [.mm S])] w5 fun s6 e6 w6 k6 => ?_
        have u6 : InW s6 T M S B k0 (if varB x.nm = true then l ++ [x.nm] else l) := by
          have hg2 := w5.w.get (a := s2.h) (t := TTy) (cs := [.str x.nm, vx]) (List.mem_cons_of_mem _ List.mem_cons_self)
          refine u5.keep k6 (fun e => ?_) (fun e => ?_) (fun e => ?_)
          · have h1 := u5.t.t
            rw [e, hg2] at h1
            have : TTy = TTb := by simpa using congrArg (fun (r : Res VM.Obj) => match r with | .ok (.cells t _) => t | _ => 0) h1
            exact absurd this (by decide)
          · obtain ⟨es, h1, _⟩ := u5.t.m
            rw [e, hg2] at h1; cases h1
          · have h1 := u5.s
            rw [e, hg2] at h1; cases h1
        refine Goes.bind (R := fun c => ∃ s7, c = ([.bool (occB n (subT (fl B) x))], s7) ∧ Keeps st s7 (· = S) ∧ ∃ l', s7.get S = .ok (.map (encS l')) ∧ (occB n (subT (fl B) x) = false → SnInv B n A l')) ?_ ?_
        · refine Goes.vload1 (a := s2.h) (List.mem_cons_of_mem _ List.mem_cons_self) w6.w (o := 0) rfl ?_
          simp only [asS_str]
          refine Goes.vload1 (a := s1.h) (List.mem_cons_of_mem _ (List.mem_cons_of_mem _ List.mem_cons_self)) w6.w (o := 0) rfl ?_
          simp only [asS_str]
          cases hyn : y.nm == n with
          | true =>
            rw [beq_iff_eq] at hyn
            have ho : occB n (subT (fl B) x) = true := by
              rw [← hlx, Ty.eta y, hyn, subT_var hn, fl_none hg hf, show occB n (vr n) = (n == n) from occB_var hn]; simp
            rw [ho]
            simp only [ifB_true]
            exact Goes.some ⟨s6, rfl, w6.k, _, u6.s, fun h => by cases h⟩
          | false =>
            have hyn' : y.nm ≠ n := by simpa using hyn
            simp only [ifB_false]
            refine Goes.vload1 (a := s2.h) (List.mem_cons_of_mem _ List.mem_cons_self) w6.w (o := 1) rfl ?_
            obtain ⟨es, hes1, hes2⟩ := hvy
            have hnil : varB y.nm = true → y.l = [] := fun hv => by
              obtain ⟨a, b⟩ := y
              exact form_var hlf hv
            have hps : ∀ z ∈ y.l, PS z y := fun z hz => by
              cases hvv : varB y.nm with
              | true => rw [hnil hvv] at hz; cases hz
              | false =>
                obtain ⟨a, b⟩ := y
                exact .arg hvv hz
            have hocc : occBs n (subTs (fl B) y.l) = occB n (subT (fl B) x) := by
              rw [← hlx]
              cases hvv : varB y.nm with
              | true =>
                rw [hnil hvv]
                conv => rhs; rw [Ty.eta y, subT_var hvv, fl_none hg hlu, show occB n (vr y.nm) = (n == y.nm) from occB_var hvv]
                have : (n == y.nm) = false := by simpa using fun e : n = y.nm => hyn' e.symm
                rw [this]; rfl
              | false =>
                conv => rhs; rw [Ty.eta y, subT_no hvv, occB_no hvv]
            have hA := any_ok ih (A := fun s => A s ∨ (s = x.nm ∧ varB x.nm = true)) (ls := y.l) (y := vy) (es := es) (st := s6) (l := if varB x.nm = true then l ++ [x.nm] else l) (a0 := st.h) (a1 := s1.h) (a3 := s3.h) (T := T) (M := M) (S := S) (n := n)
              (fun z hz => by have := ((hps z hz).sub (fl B)).size; rw [hlx] at this; omega) hn hf (fun z hz => by obtain ⟨a, b⟩ := y; exact form_args hlf z hz) hes1 hes2 u6
              (fun s hs => by
                split at hs
                · rename_i hvx
                  rcases List.mem_append.1 hs with hs | hs
                  · obtain ⟨q1, q2⟩ := hi s hs
                    exact ⟨q1, q2.imp id .inl⟩
                  · rw [List.mem_singleton] at hs
                    subst hs
                    exact ⟨hvx, .inr (.inr ⟨rfl, hvx⟩)⟩
                · obtain ⟨q1, q2⟩ := hi s hs
                  exact ⟨q1, q2.imp id .inl⟩)
              (fun z hz s hs => by
                have h1 := (hps z hz).sub (fl B)
                rw [hlx] at h1
                rcases hs with hs | ⟨rfl, hvx⟩
                · exact ⟨(ha s hs).1, h1.trans (ha s hs).2⟩
                · refine ⟨hvx, ?_⟩
                  have ex : subT (fl B) x = fl B x.nm := by rw [Ty.eta x, subT_var hvx]; rfl
                  rw [← ex]; exact h1)
              (w6.w.get (List.mem_cons_of_mem _ (List.mem_cons_of_mem _ (List.mem_cons_of_mem _ List.mem_cons_self)))) (w6.w.get (List.mem_cons_of_mem _ (List.mem_cons_of_mem _ List.mem_cons_self))) (w6.w.get List.mem_cons_self)
            rw [hocc] at hA
            have hnb : VM.bare (.fn (.func 57) [] [.mp st.h 0, .mp s1.h 0, .mp s3.h 0]) = false := by simp [bares, VM.bare.bareAll, VM.bare]
            refine Goes.callW hA rfl (by simp only [List.map_cons, List.map_nil, bares_cons]; rw [show VM.strip (.fn (.func 57) [] [.mp st.h 0, .mp s1.h 0, .mp s3.h 0]) = .fn (.func 57) [] [.mp st.h 0, .mp s1.h 0, .mp s3.h 0] from rfl, hnb]; simp) ?_
            rintro v s7 ⟨rfl, k7, l', h1, h2⟩
            simp only [asB_bool]
            refine Goes.some ⟨s7, rfl, w6.k.join k7 (fun j hj => .inl hj), l', h1, fun hb s hs => ?_⟩
            obtain ⟨q1, q2⟩ := h2 hb s hs
            refine ⟨q1, ?_⟩
            rcases q2 with q2 | q2 | ⟨rfl, hvx⟩
            · exact .inl q2
            · exact .inr q2
            · refine .inl ?_
              have ex : subT (fl B) x = fl B x.nm := by rw [Ty.eta x, subT_var hvx]; rfl
              rw [← ex]; exact hb
        · rintro c ⟨s7, rfl, h1, l', h2, h3⟩
          simp only [unc_cons, asB_bool, un0_nil]
          exact Goes.some ⟨rfl, h1, l', h2, h3⟩
end Go.Proofs.YtlfilkniobkbiaaDoor.Vm
/- A variable is bound; what was bound is put back. -/
namespace Go.Proofs.YtlfilkniobkbiaaDoor.Vm
open Go Go.VM Go.Proofs Go.Ty
abbrev TTr : TypeId := 70
abbrev TPt : TypeId := 66
abbrev TPm : TypeId := 67
abbrev TPr : TypeId := 83
abbrev TSt : TypeId := 9
def Sm (B : Bnd) : Prop := ∀ p ∈ B, szT p.2 ≤ 512
theorem Sm.look : ∀ {B : Bnd}, Sm B → ∀ {x : Ty}, szT x ≤ 512 → szT (Go.Ty.lookT B x) ≤ 512
  | [], _, x, hx => hx
  | (m, t) :: B, h, x, hx => by
    have h' : Sm B := fun p hp => h p (List.mem_cons_of_mem _ hp)
    simp only [Go.Ty.lookT]
    split
    · exact Sm.look h' (h (m, t) List.mem_cons_self)
    · exact Sm.look h' hx
/-! What is done by pairs. -/
def encP (l : Prs) : List (AV × AV) := l.map fun p => (.agg [.str p.1, .str p.2], .bool true)
theorem key_pr (a b c d : Tx) : keyEq (.agg [.str a, .str b]) (.agg [.str c, .str d]) = .ok ((a, b) == (c, d)) := by
  show strsEq [.str a, .str b] [.str c, .str d] = _
  simp only [strsEq]
  show _ = Except.ok (a == c && b == d)
  cases a == c <;> cases b == d <;> rfl
theorem find_encP (a b : Tx) : ∀ (l : Prs), findEntry (.agg [.str a, .str b]) (encP l) = .ok (if l.contains (a, b) = true then some (.bool true) else none)
  | [] => rfl
  | (c, d) :: l => by
    have ih := find_encP a b l
    unfold encP at ih ⊢
    simp only [List.map_cons, findEntry, key_pr, ok_bind]
    cases e : (a, b) == (c, d) with
    | true => simp only [List.contains_cons, e, Bool.true_or, if_true, pure_eq]
    | false =>
      rw [ih]
      simp only [List.contains_cons, e, Bool.false_or]
theorem set_encP (a b : Tx) : ∀ (l : Prs), l.contains (a, b) = false → setEntry (.agg [.str a, .str b]) (.bool true) (encP l) = .ok (encP (l ++ [(a, b)]))
  | [], _ => rfl
  | (c, d) :: l, h => by
    simp only [List.contains_cons, Bool.or_eq_false_iff] at h
    have ih := set_encP a b l h.2
    unfold encP at ih ⊢
    simp only [List.map_cons, List.cons_append, setEntry, key_pr, ok_bind, h.1, ih, pure_eq]
theorem ti_mapP : ti (Env.T vE) TPm = .ok ⟨.map TPr 4, 1, 8, [.nilm], false, false⟩ := by kernel_rfl
theorem ti_pr : ∃ i, ti (Env.T vE) TPr = .ok i ∧ ∀ a b : Tx, keyIn (Env.T vE) i (.agg [.str a, .str b]) = true := by
  have h : ((Env.T vE).get TPr).isSome = true := by kernel_rfl
  refine ⟨((Env.T vE).get TPr).get h, ti_ok.2 (Option.some_get h).symm, ?_⟩
  intro a b
  kernel_rfl
theorem done_look {st : St} {D : Nat} {l : Prs} (h : st.get D = .ok (.map (encP l))) (a b : Tx) {β : Type} (K : Kv β) : planS (orc vE) (lookupP (Env.T vE) TPm (.mm D) (.agg [.str a, .str b]) false) st K = K (.bool (l.contains (a, b))) st ⟨[D], .kept⟩ := by
  obtain ⟨i, e1, e2⟩ := ti_pr
  have e : lookupP (Env.T vE) TPm (.mm D) (.agg [.str a, .str b]) false = .ok (readP D fun o => match o with | .map es => found ⟨.bool, 1, 1, [.bool false], false, false⟩ false (.agg [.str a, .str b]) es | _ => .error "lookup: no map") := by
    simp only [lookupP, ti_mapP, ti_bool, e1, e2, ok_bind, pure_eq]
    rfl
  have e3 : found ⟨.bool, 1, 1, [.bool false], false, false⟩ false (.agg [.str a, .str b]) (encP l) = .ok (.bool (l.contains (a, b))) := by
    simp only [found, find_encP, ok_bind]
    cases l.contains (a, b) <;> rfl
  rw [e]
  simp only [planS, planO, readP, h, e3, ok_bind, pure_eq, outS, bindO_ok]
theorem done_put {st : St} {D : Nat} {l : Prs} (h : st.get D = .ok (.map (encP l))) (hro : st.ro ≤ D) {a b : Tx} (hn : l.contains (a, b) = false) {β : Type} (K : Kv β) : planS (orc vE) (mapUpdateP (Env.T vE) TPm (.mm D) (.agg [.str a, .str b]) (.bool true)) st K = K VM.undef (st.put D (.map (encP (l ++ [(a, b)])))) ⟨[D], .wrote D (.map (encP (l ++ [(a, b)])))⟩ := by
  obtain ⟨i, e1, e2'⟩ := ti_pr
  have e2 : mapUpdateP (Env.T vE) TPm (.mm D) (.agg [.str a, .str b]) (.bool true) = .ok (.obj D fun o => match o with | .map es => do pure (VM.undef, some (.map (← setEntry (.agg [.str a, .str b]) (.bool true) es))) | _ => .error "mapUpdate: no map") := by
    simp only [mapUpdateP, ti_mapP, e1, e2', ok_bind, pure_eq]
    rfl
  have h5 : (st.ro.ble D) = true := Nat.ble_eq_true_of_le hro
  rw [e2]
  simp only [planS, planO, h, set_encP a b l hn, ok_bind, pure_eq, wroteO, h5, outS, bindO_ok]
/-! What puts back. -/
def Fns (st : St) (R : Nat) : List AV → List Tx → Prop
  | [], [] => True
  | c :: cs, n :: ns => (∃ r s, c = .fn (.func 66) [] [.mp r 0, .mp s 0] ∧ st.get r = .ok (.cells TPt [.mp R 0]) ∧ st.get s = .ok (.cells TSt [.str n])) ∧ Fns st R cs ns
  | _, _ => False
theorem Fns.len {st : St} {R : Nat} : ∀ {cs : List AV} {ns : List Tx}, Fns st R cs ns → cs.length = ns.length
  | [], [], _ => rfl
  | _ :: cs, _ :: ns, h => by rw [List.length_cons, List.length_cons, Fns.len h.2]
  | [], _ :: _, h => by cases h
  | _ :: _, [], h => by cases h
theorem Fns.mono {st s : St} {R : Nat} (hk : ∀ j cs, st.get j = .ok (.cells TPt cs) → s.get j = .ok (.cells TPt cs)) (hs : ∀ j cs, st.get j = .ok (.cells TSt cs) → s.get j = .ok (.cells TSt cs)) : ∀ {cs : List AV} {ns : List Tx}, Fns st R cs ns → Fns s R cs ns
  | [], [], _ => trivial
  | _ :: cs, _ :: ns, h => by
    obtain ⟨⟨r, x, e, h1, h2⟩, h3⟩ := h
    exact ⟨⟨r, x, e, hk _ _ h1, hs _ _ h2⟩, Fns.mono hk hs h3⟩
  | [], _ :: _, h => by cases h
  | _ :: _, [], h => by cases h
theorem Fns.snoc {st : St} {R : Nat} {c : AV} {n : Tx} (hc : ∃ r s, c = .fn (.func 66) [] [.mp r 0, .mp s 0] ∧ st.get r = .ok (.cells TPt [.mp R 0]) ∧ st.get s = .ok (.cells TSt [.str n])) : ∀ {cs : List AV} {ns : List Tx}, Fns st R cs ns → Fns st R (cs ++ [c]) (ns ++ [n])
  | [], [], _ => ⟨hc, trivial⟩
  | _ :: cs, _ :: ns, h => ⟨h.1, Fns.snoc hc h.2⟩
  | [], _ :: _, h => by cases h
  | _ :: _, [], h => by cases h
def Bk (st : St) (R : Nat) (back : AV) (ns : List Tx) : Prop :=
  (back = .nils ∧ ns = []) ∨ ∃ k cs, back = .gs k 1 ns.length ∧ st.get k = .ok (.row ns.length 1 1 cs) ∧ st.ro ≤ k ∧ Fns st R cs ns
/-- A trial under way. -/
structure Trl (st : St) (T M R D : Nat) (U : List Tx) (B0 E : Bnd) (Dn : Prs) (k0 : Int) : Prop where
  tb : Tb st T M (B0 ++ E) k0
  r : ∃ back, st.get R = .ok (.cells TTr [.mp T 0, .mm D, back]) ∧ Bk st R back (E.map (·.1))
  d : st.get D = .ok (.map (encP Dn))
  rr : st.ro ≤ R
  rd : st.ro ≤ D
  ro : st.ro ≤ st.h
  md : M ≠ D
  sm : Sm (B0 ++ E)
  len : E.length + unb U (B0 ++ E) ≤ 1000000000
  cov : Cov U (B0 ++ E)
/-- Objects that may change: these, and rows. -/
def ButT (st : St) (X : Nat → Prop) : Nat → Prop := fun j => X j ∨ ∃ n e z cs, st.get j = .ok (.row n e z cs)
theorem _root_.Go.VM.Keeps.joinT {a b c : St} {X Y : Nat → Prop} (h : Keeps a b (ButT a X)) (k : Keeps b c (ButT b Y)) (hy : ∀ j, Y j → X j ∨ a.h ≤ j) : Keeps a c (ButT a X) := by
  refine ⟨k.ro.trans h.ro, Nat.le_trans h.h k.h, fun j o hj hg => ?_⟩
  have h1 := h.old j o hj hg
  refine k.old j o (fun e => ?_) h1
  rcases e with e | ⟨n, t, z, cs, e⟩
  · rcases hy j e with e | e
    · exact hj (.inl e)
    · have := (St.get_ok.1 hg).1; omega
  · rw [h1] at e
    cases e
    exact hj (.inr ⟨_, _, _, _, hg⟩)
theorem _root_.Go.VM.Keeps.toT {a b : St} {X Y : Nat → Prop} (h : Keeps a b Y) (hy : ∀ j, Y j → X j) : Keeps a b (ButT a X) := ⟨h.ro, h.h, fun j o hj hg => h.old j o (fun e => hj (.inl (hy j e))) hg⟩
theorem get_cells_ne {st : St} {i j : Nat} {t u : TypeId} {cs ds : List AV} (h : st.get i = .ok (.cells t cs)) (k : st.get j = .ok (.cells u ds)) (hn : t ≠ u) : i ≠ j := fun e => by
  subst e
  rw [h] at k
  cases k
  exact hn rfl
/-- What touches nothing of a trial. -/
def Off (st : St) (M D : Nat) (j : Nat) : Prop := (∃ es, st.get j = .ok (.map es) ∧ j ≠ M ∧ j ≠ D) ∨ (∃ t cs, st.get j = .ok (.cells t cs) ∧ t ≠ TTb ∧ t ≠ TTr ∧ t ≠ TPt ∧ t ≠ TSt)
theorem Trl.keep {st s : St} {T M R D : Nat} {U : List Tx} {B0 E : Bnd} {Dn : Prs} {k0 : Int} {X : Nat → Prop} (h : Trl st T M R D U B0 E Dn k0) (k : Keeps st s X) (hX : ∀ j, X j → Off st M D j) : Trl s T M R D U B0 E Dn k0 := by
  obtain ⟨back, h1, h2⟩ := h.r
  have cell : ∀ {j : Nat} {t : TypeId} {cs : List AV}, st.get j = .ok (.cells t cs) → (t = TTb ∨ t = TTr ∨ t = TPt ∨ t = TSt) → ¬ X j := fun {j t cs} hg ht hj => by
    rcases hX _ hj with ⟨es, e, _⟩ | ⟨u, ds, e, u1, u2, u3, u4⟩
    · rw [hg] at e; cases e
    · rw [hg] at e
      cases e
      rcases ht with e | e | e | e
      · exact u1 e
      · exact u2 e
      · exact u3 e
      · exact u4 e
  have mapM : ¬ X M := fun hj => by
    obtain ⟨es, e0, _⟩ := h.tb.m
    rcases hX _ hj with ⟨es, e, u, _⟩ | ⟨u, ds, e, _⟩
    · exact u rfl
    · rw [e0] at e; cases e
  have mapD : ¬ X D := fun hj => by
    rcases hX _ hj with ⟨es, e, _, u⟩ | ⟨u, ds, e, _⟩
    · exact u rfl
    · rw [h.d] at e; cases e
  refine ⟨h.tb.keep k (cell h.tb.t (.inl rfl)) mapM, ⟨back, k.old _ _ (cell h1 (.inr (.inl rfl))) h1, ?_⟩, k.old _ _ mapD h.d, by rw [k.ro]; exact h.rr, by rw [k.ro]; exact h.rd, by rw [k.ro]; exact Nat.le_trans h.ro k.h, h.md, h.sm, h.len, h.cov⟩
  rcases h2 with h2 | ⟨i, cs, e1, e2, e3, e4⟩
  · exact .inl h2
  · refine .inr ⟨i, cs, e1, k.old _ _ (fun hj => ?_) e2, by rw [k.ro]; exact e3, e4.mono (fun j cs hg => k.old _ _ (cell hg (.inr (.inr (.inl rfl)))) hg) (fun j cs hg => k.old _ _ (cell hg (.inr (.inr (.inr rfl)))) hg)⟩
    rcases hX _ hj with ⟨es, e, _⟩ | ⟨u, ds, e, _⟩
    · rw [e2] at e; cases e
    · rw [e2] at e; cases e
theorem Trl.keep0 {st s : St} {T M R D : Nat} {U : List Tx} {B0 E : Bnd} {Dn : Prs} {k0 : Int} (h : Trl st T M R D U B0 E Dn k0) (k : Keeps st s (fun _ => False)) : Trl s T M R D U B0 E Dn k0 := h.keep k (fun _ f => f.elim)
abbrev X3 (M D R : Nat) : Nat → Prop := fun j => j = M ∨ j = D ∨ j = R
theorem row_add {st : St} {back : AV} {R : Nat} {ns : List Tx} (h : Bk st R back ns) (hl : ns.length ≤ 1000000000) (hro : st.ro ≤ st.h) (c : AV) : ∃ v s x, (VM.one v = true) ∧ Keeps st s (ButT st (fun _ => False)) ∧ s.ro ≤ s.h ∧
    (∀ a t cs, st.get a = .ok (.cells t cs) → apart ⟨[a], .kept⟩ x = true) ∧ (∃ k cs, v = .gs k 1 (ns.length + 1) ∧ s.get k = .ok (.row (ns.length + 1) 1 1 (cs ++ [c])) ∧ s.ro ≤ k ∧ Fns st R cs ns) ∧
    ∀ {β : Type} (K : Kv β), planS (orc vE) (rowAnyP (TI.mk U.func 1 8 [.nilfn] false false) 1 back (.hs 1 1 [c])) st K = K v s x := by
  have hroom : ∀ n, n ≤ 1000000001 → roomOk n (TI.mk U.func 1 8 [.nilfn] false false) = true := fun n hn => by
    unfold roomOk
    simp only [Bool.and_eq_true]
    exact ⟨Nat.ble_eq_true_of_le (show n * 8 ≤ 70368744177664 by omega), rfl, Nat.ble_eq_true_of_le (show n ≤ 70368744177664 by omega)⟩
  have e0 : ∀ s : AV, rowAnyP (TI.mk U.func 1 8 [.nilfn] false false) 1 s (.hs 1 1 [c]) = rowHeldP (TI.mk U.func 1 8 [.nilfn] false false) 1 s 1 1 [c] := fun s => rfl
  rcases h with ⟨rfl, rfl⟩ | ⟨k, cs, rfl, h1, h2, h3⟩
  · refine ⟨.gs st.h 1 1, st.add (.row 1 1 1 [c]), ⟨[], .made st.h (.row 1 1 1 [c])⟩, rfl, Keeps.add _ _ _, Nat.le_succ_of_le hro, fun a t cs hg => apart_mk (Nat.ne_of_lt (St.get_ok.1 hg).1) _, ⟨st.h, [], rfl, St.get_add_new, hro, trivial⟩, fun K => ?_⟩
    rw [e0]
    have e1 : rowHeldP (TI.mk U.func 1 8 [.nilfn] false false) 1 .nils 1 1 [c] = .ok (.new (.row 1 1 1 [c]) fun k => .gs k 1 1) := by
      unfold rowHeldP
      rw [show (Nat.blt 0 1 && Nat.beq 1 (TI.mk U.func 1 8 [.nilfn] false false).size) = true from rfl]
      simp only [hroom 1 (by omega)]
    rw [e1]
    rfl
  · refine ⟨.gs k 1 (ns.length + 1), st.put k (.row (ns.length + 1) 1 1 (cs ++ [c])), ⟨[k], .wrote k (.row (ns.length + 1) 1 1 (cs ++ [c]))⟩, rfl, Keeps.put (.inr ⟨_, _, _, _, h1⟩), hro, fun a t ds hg => apart_wr (fun e => by rw [e, h1] at hg; cases hg), ⟨k, cs, rfl, St.get_put_same (St.get_ok.1 h1).1, h2, h3⟩, fun K => ?_⟩
    rw [e0]
    have e1 : rowHeldP (TI.mk U.func 1 8 [.nilfn] false false) 1 (.gs k 1 ns.length) 1 1 [c] = .ok (.obj k fun o => match o with
        | .row m e' z' cs => match ns.length.beq m && (Nat.beq e' 1 && z'.beq 1) with
          | true => .ok (.gs k 1 (ns.length + 1), some (.row (ns.length + 1) 1 1 (cs ++ [c])))
          | false => .error "append: not at the end"
        | _ => .error "append: no right to") := by
      unfold rowHeldP
      rw [show (Nat.blt 0 1 && Nat.beq 1 (TI.mk U.func 1 8 [.nilfn] false false).size) = true from rfl]
      simp only [hroom (ns.length + 1) (by omega)]
      rfl
    have h5 : (st.ro.ble k) = true := Nat.ble_eq_true_of_le h2
    rw [e1]
    simp only [planS, planO, h1, Nat.beq_refl, ok_bind, wroteO, h5, outS, bindO_ok]
    rfl
theorem Goes.lets {β : Type} {Q : β → Prop} {s : St} {K : St → Option β} (g : Goes (K s) Q) : Goes (letSt s K) Q := g
/-- A variable is bound, or it would be in itself. -/
theorem bind_ok {st : St} {T M R D : Nat} {U : List Tx} {B0 E : Bnd} {Dn : Prs} {k0 : Int} (w : Trl st T M R D U B0 E Dn k0) (hg : Go.Ty.Good (B0 ++ E)) {n : Tx} {x : Ty} {vx : AV} (hn : varB n = true) (hf : fnd (B0 ++ E) n = none) (hu : n ∈ U) (hx : formT x = true) (hlx : fnd (B0 ++ E) x.nm = none) (hix : InU U x) (hsz : szT x ≤ 512) (hv : CT x vx) :
    Goes ((orc vE).wide 55 [.mp R 0, .str n, .agg [.str x.nm, vx]] st) (fun r => ∃ e E', bindF (B0 ++ E) Dn n x = (e, B0 ++ E', Dn) ∧ r.1 = .int .i64 e ∧ Trl r.2 T M R D U B0 E' Dn k0 ∧ Keeps st r.2 (ButT st (X3 M D R))) := by
  refine Goes.wide (Goes.step (w55_eq _ _ _ _) ?_)
  simp only [w55, unA_agg, unc_cons, asS_str, un0_nil, asOne_mp]
  refine Goes.xalloc (Wx.start w.ro (fun _ => False)) fun s1 e1 w1 k1 => Goes.xalloc w1 fun s2 e2 w2 k2 => ?_
  simp only [hv.asOne, hv.fit1]
  have u2 := (w.keep0 k1).keep0 k2
  obtain ⟨back, hR, hB⟩ := u2.r
  have hT := u2.tb.t
  have ga0 : s2.get st.h = .ok (.cells TPt [.mp R 0]) := w2.w.get (List.mem_cons_of_mem _ List.mem_cons_self)
  have ga1 : s2.get s1.h = .ok (.cells TSt [.str n]) := w2.w.get List.mem_cons_self
  simp only [loadS_mp ga0, loadS_mp ga1, List.drop_zero, takeO_one, bindO_ok, notNil_mp, chk_true, fldA_mp, Nat.add_zero, Nat.zero_add, loadS_mp hR, asS_str]
  refine Goes.lets ?_
  have hSh : s2.ro ≤ s2.h := w2.w.ro
  have lt0 : st.h < s2.h := (St.get_ok.1 ga0).1
  have lt1 : s1.h < s2.h := (St.get_ok.1 ga1).1
  have ltR : R < s2.h := (St.get_ok.1 hR).1
  have k3 : Keeps s2 (s2.add (.map [])) (fun _ => False) := Keeps.add _ _ _
  have u3 := u2.keep0 k3
  have gS : (s2.add (.map [])).get s2.h = .ok (.map (encS [])) := St.get_add_new
  have hS1 : (s2.add (.map [])).ro ≤ s2.h := hSh
  have hMS : M ≠ s2.h := by
    obtain ⟨es, h1, _⟩ := u2.tb.m
    exact Nat.ne_of_lt (St.get_ok.1 h1).1
  have hDS : D ≠ s2.h := Nat.ne_of_lt (St.get_ok.1 u2.d).1
  generalize hs3 : s2.add (.map []) = s3 at k3 u3 gS hS1
  have hin := in_ok hg k0 (szT (subT (fl (B0 ++ E)) x) + 1) T M s2.h n (fun _ => False) x vx s3 [] (Nat.lt_succ_self _) hn hf hx hv ⟨u3.tb.toTbR, gS, hS1, u3.ro, hMS⟩ (fun s hs => by cases hs) (fun s hs => hs.elim)
  rw [chk_of (by rw [apart_mk (Nat.ne_of_lt lt1), apart_mk (Nat.ne_of_lt ltR), apart_mk (Nat.ne_of_lt lt0)]; rfl)]
  refine Goes.callW hin rfl (by simp [bares_cons, bares, VM.bare.bareAll, VM.bare, VM.strip]) ?_
  rintro v s4 ⟨rfl, k4, l', h4, _⟩
  simp only [asB_bool]
  have hoff : ∀ j, j = s2.h → Off s3 M D j := fun j e => by
    subst e
    exact .inl ⟨_, gS, hMS.symm, hDS.symm⟩
  have u4 := u3.keep k4 hoff
  have hk4 : Keeps st s4 (ButT st (X3 M D R)) := by
    have h1 : Keeps st s3 (ButT st (X3 M D R)) := ((w2.k).trans k3).toT (fun _ f => f.elim)
    exact h1.joinT (k4.toT (X := (· = s2.h)) fun j e => e) (fun j e => .inr (by rw [e]; exact w2.k.h))
  cases ho : occB n (subT (fl (B0 ++ E)) x) with
  | true =>
    simp only [ifB_true]
    refine Goes.some ⟨66, E, ?_, rfl, u4, hk4⟩
    unfold bindF
    rw [if_pos ho]
  | false =>
    simp only [ifB_false]
    have gb0 : s4.get st.h = .ok (.cells TPt [.mp R 0]) := k4.old _ _ (Nat.ne_of_lt lt0) (k3.old _ _ (fun f => f) ga0)
    have gb1 : s4.get s1.h = .ok (.cells TSt [.str n]) := k4.old _ _ (Nat.ne_of_lt lt1) (k3.old _ _ (fun f => f) ga1)
    obtain ⟨back4, hR4, hB4⟩ := u4.r
    have hT4 := u4.tb.t
    have hszl : szTs x.l ≤ 1000000000 := by
      obtain ⟨a, b⟩ := x
      simp only [szT] at hsz
      simp only [Ty.l]; omega
    obtain ⟨vo, hvo, hO⟩ := own_ok _ x (Nat.lt_succ_self _) hszl _ hv.isT
    obtain ⟨vy, rfl, hy⟩ := isT_iff.1 hO
    simp only [loadS_mp gb0, loadS_mp gb1, List.drop_zero, takeO_one, bindO_ok, notNil_mp, chk_true, fldA_mp, Nat.add_zero, Nat.zero_add, loadS_mp hR4, loadS_mp hT4, asS_str]
    refine Goes.callB hvo rfl (by rw [List.map_cons, List.map_nil, hv.b.2]) (by simp only [bares_cons, hv.b.1]; rfl) ?_
    obtain ⟨es', hes, hput⟩ := put_bound u4.tb hf hO
    simp only [unA_agg, unc_cons, asS_str, un0_nil, apart_kept, Bool.and_self, Bool.and_true, chk_true, hput]
    obtain ⟨es0, hM0, _⟩ := u4.tb.m
    have hM4 : M < s4.h := (St.get_ok.1 hM0).1
    have k5 : Keeps s4 (s4.put M (.map es')) (· = M) := Keeps.put rfl
    have cne : ∀ {a : Nat} {t : TypeId} {cs : List AV}, s4.get a = .ok (.cells t cs) → (s4.put M (.map es')).get a = .ok (.cells t cs) := fun {a t cs} hgc => k5.old _ _ (fun e => by rw [e, hM0] at hgc; cases hgc) hgc
    have hB5 : Bk (s4.put M (.map es')) R back4 (E.map (·.1)) := by
      rcases hB4 with h | ⟨i, cs, a1, a2, a3, a4⟩
      · exact .inl h
      · exact .inr ⟨i, cs, a1, k5.old _ _ (fun e => by rw [e, hM0] at a2; cases a2) a2, a3, a4.mono (fun j cs hgc => cne hgc) (fun j cs hgc => cne hgc)⟩
    have hM5 : (s4.put M (.map es')).get M = .ok (.map es') := St.get_put_same hM4
    have hT5 := cne hT4
    have hR5 := cne hR4
    have hD5 : (s4.put M (.map es')).get D = .ok (.map (encP Dn)) := k5.old _ _ (fun e => u4.md e.symm) u4.d
    have g50 := cne gb0
    have g51 := cne gb1
    have hro5 : (s4.put M (.map es')).ro ≤ (s4.put M (.map es')).h := u4.ro
    have hk5 : Keeps st (s4.put M (.map es')) (ButT st (X3 M D R)) := hk4.joinT (k5.toT (X := (· = M)) fun j e => e) (fun j e => .inl (.inl e))
    have rr5 : (s4.put M (.map es')).ro ≤ R := u4.rr
    have rd5 : (s4.put M (.map es')).ro ≤ D := u4.rd
    have rt5 : (s4.put M (.map es')).ro ≤ T := u4.tb.rt
    have rm5 : (s4.put M (.map es')).ro ≤ M := u4.tb.rm
    generalize s4.put M (.map es') = s5 at *
    have hEl : (E.map (·.1)).length ≤ 1000000000 := by
      have := w.len
      rw [List.length_map]; omega
    obtain ⟨vb, s6, fx, ob, k6, ro6, ap, ⟨kk, cs, rfl, gk, rk, fn⟩, hrow⟩ := row_add hB5 hEl hro5 (.fn (.func 66) [] [.mp st.h 0, .mp s1.h 0])
    simp only [loadS_mp g50, List.drop_zero, takeO_one, bindO_ok, notNil_mp, chk_true, fldA_mp, Nat.add_zero, Nat.zero_add, loadS_mp hR5, List.drop_succ_cons]
    have hrow' := fun {β : Type} (K : Kv β) => hrow K
    refine Goes.step (hrow' _) ?_
    rw [chk_of (by rw [ap _ _ _ g50])]
    have nrow : ∀ {a : Nat} {t : TypeId} {ds : List AV}, s5.get a = .ok (.cells t ds) → s6.get a = .ok (.cells t ds) := fun {a t ds} hgc => k6.old _ _ (fun e => by
      rcases e with e | ⟨_, _, _, _, e⟩
      · exact e
      · rw [hgc] at e; cases e) hgc
    have nmap : ∀ {a : Nat} {ds : List (AV × AV)}, s5.get a = .ok (.map ds) → s6.get a = .ok (.map ds) := fun {a ds} hgc => k6.old _ _ (fun e => by
      rcases e with e | ⟨_, _, _, _, e⟩
      · exact e
      · rw [hgc] at e; cases e) hgc
    have hR6 := nrow hR5
    have rr6 : s6.ro ≤ R := by rw [k6.ro]; exact rr5
    rw [asOne_of ob, asOne_of ob, storeS_at (cs := [.gs kk 1 ((E.map (·.1)).length + 1)]) (z := 1) hR6 rfl (by simp) rr6]
    have hsp : splice [AV.mp T 0, .mm D, back4] 2 [.gs kk 1 ((E.map (·.1)).length + 1)] = [.mp T 0, .mm D, .gs kk 1 ((E.map (·.1)).length + 1)] := rfl
    rw [hsp]
    have k7 : Keeps s6 (s6.put R (.cells TTr [.mp T 0, .mm D, .gs kk 1 ((E.map (·.1)).length + 1)])) (· = R) := Keeps.put rfl
    have cne7 : ∀ {a : Nat} {t : TypeId} {ds : List AV}, s6.get a = .ok (.cells t ds) → t ≠ TTr → (s6.put R (.cells TTr [.mp T 0, .mm D, .gs kk 1 ((E.map (·.1)).length + 1)])).get a = .ok (.cells t ds) := fun {a t ds} hgc ht => k7.old _ _ (fun e => get_cells_ne hgc hR6 ht e) hgc
    have nm7 : ∀ {a : Nat} {o : VM.Obj}, s6.get a = .ok o → (∀ t ds, o ≠ .cells t ds) → (s6.put R (.cells TTr [.mp T 0, .mm D, .gs kk 1 ((E.map (·.1)).length + 1)])).get a = .ok o := fun {a o} hgc ht => k7.old _ _ (fun e => by
      rw [e, hR6] at hgc
      cases hgc
      exact ht _ _ rfl) hgc
    refine Goes.some ⟨0, E ++ [(n, x)], ?_, rfl, ⟨⟨⟨cne7 (nrow hT5) (by decide), es', nm7 (nmap hM5) (fun _ _ e => by cases e), by rw [← List.append_assoc]; exact hes⟩, by show s6.ro ≤ T; rw [k6.ro]; exact rt5, by show s6.ro ≤ M; rw [k6.ro]; exact rm5⟩, ⟨_, St.get_put_same (St.get_ok.1 hR6).1, .inr ⟨kk, cs ++ [.fn (.func 66) [] [.mp st.h 0, .mp s1.h 0]], ?_, ?_, rk, ?_⟩⟩, nm7 (nmap hD5) (fun _ _ e => by cases e), rr6, by show s6.ro ≤ D; rw [k6.ro]; exact rd5, ro6, u4.md, ?_, ?_, ?_⟩, ?_⟩
    · unfold bindF
      rw [if_neg (by rw [ho]; simp), List.append_assoc]
    · simp
    · have := nm7 gk (fun _ _ e => by cases e)
      simpa using this
    · rw [List.map_append, List.map_cons, List.map_nil]
      refine Fns.snoc ⟨st.h, s1.h, rfl, cne7 (nrow g50) (by decide), cne7 (nrow g51) (by decide)⟩ ?_
      exact fn.mono (fun j cs hgc => cne7 (nrow hgc) (by decide)) (fun j cs hgc => cne7 (nrow hgc) (by decide))
    · intro p hp
      rw [← List.append_assoc] at hp
      rcases List.mem_append.1 hp with hp | hp
      · exact w.sm p hp
      · rw [List.mem_singleton] at hp; subst hp; exact hsz
    · have h1 := unb_snoc (t := x) hu hf
      have h2 := w.len
      rw [← List.append_assoc, List.length_append, List.length_singleton]; omega
    · rw [← List.append_assoc]
      exact w.cov.snoc hix
    · have hk6 : Keeps st s6 (ButT st (X3 M D R)) := hk5.joinT k6 (fun j e => e.elim)
      exact hk6.joinT (k7.toT (X := (· = R)) fun j e => e) (fun j e => .inl (.inr (.inr e)))
end Go.Proofs.YtlfilkniobkbiaaDoor.Vm
/- Two types are made alike. -/
namespace Go.Proofs.YtlfilkniobkbiaaDoor.Vm
open Go Go.VM Go.Proofs Go.Ty
theorem apart_looked (l : List Nat) : apart ⟨[], .looked⟩ ⟨l, .kept⟩ = true := rfl
theorem Trl.putD {st : St} {T M R D : Nat} {U : List Tx} {B0 E : Bnd} {Dn : Prs} {k0 : Int} (h : Trl st T M R D U B0 E Dn k0) (D1 : Prs) : Trl (st.put D (.map (encP D1))) T M R D U B0 E D1 k0 := by
  have k : Keeps st (st.put D (.map (encP D1))) (· = D) := Keeps.put rfl
  have cne : ∀ {a : Nat} {t : TypeId} {cs : List AV}, st.get a = .ok (.cells t cs) → (st.put D (.map (encP D1))).get a = .ok (.cells t cs) := fun {a t cs} hg => k.old _ _ (fun e => by rw [e, h.d] at hg; cases hg) hg
  obtain ⟨back, h1, h2⟩ := h.r
  obtain ⟨es, m1, m2⟩ := h.tb.m
  refine ⟨⟨⟨cne h.tb.t, es, k.old _ _ h.md m1, m2⟩, h.tb.rt, h.tb.rm⟩, ⟨back, cne h1, ?_⟩, St.get_put_same (St.get_ok.1 h.d).1, h.rr, h.rd, h.ro, h.md, h.sm, h.len, h.cov⟩
  rcases h2 with h2 | ⟨i, cs, e1, e2, e3, e4⟩
  · exact .inl h2
  · exact .inr ⟨i, cs, e1, k.old _ _ (fun e => by rw [e, h.d] at e2; cases e2) e2, e3, e4.mono (fun j cs hg => cne hg) (fun j cs hg => cne hg)⟩
theorem Trl.off {st : St} {T M R D : Nat} {U : List Tx} {B0 E : Bnd} {Dn : Prs} {k0 : Int} (h : Trl st T M R D U B0 E Dn k0) {a : Nat} {cs : List AV} (hg : st.get a = .ok (.cells TTy cs)) : ∀ j, X3 M D R j → j ≠ a := by
  rintro j (rfl | rfl | rfl) e
  · obtain ⟨es, m1, _⟩ := h.tb.m
    rw [e, hg] at m1; cases m1
  · have := h.d
    rw [e, hg] at this; cases this
  · obtain ⟨back, h1, _⟩ := h.r
    exact get_cells_ne h1 hg (by decide) e
/-- A variable is kept by what a trial does. -/
theorem Trl.var {st s : St} {T M R D : Nat} {U : List Tx} {B0 E : Bnd} {Dn : Prs} {k0 : Int} (h : Trl st T M R D U B0 E Dn k0) (k : Keeps st s (ButT st (X3 M D R))) {a : Nat} {cs : List AV} (hg : st.get a = .ok (.cells TTy cs)) : s.get a = .ok (.cells TTy cs) :=
  k.old _ _ (fun e => by
    rcases e with e | ⟨_, _, _, _, e⟩
    · exact h.off hg _ e rfl
    · rw [hg] at e; cases e) hg
section
variable {T M R D : Nat} {U : List Tx} {B0 : Bnd} {k0 : Int}
def AlkP (st : St) (T M R D : Nat) (U : List Tx) (B0 : Bnd) (k0 : Int) (e : Int) (B' : Bnd) (D' : Prs) (r : AV × St) : Prop :=
  ∃ E', B' = B0 ++ E' ∧ r.1 = .int .i64 e ∧ Trl r.2 T M R D U B0 E' D' k0 ∧ Keeps st r.2 (ButT st (X3 M D R))
def AlkOk (T M R D : Nat) (U : List Tx) (B0 : Bnd) (k0 : Int) (k : Nat) : Prop := ∀ (st : St) (E : Bnd) (Dn : Prs) (a b : Ty) (va vb : AV) (e : Int) (B' : Bnd) (D' : Prs), Trl st T M R D U B0 E Dn k0 → Go.Ty.Good (B0 ++ E) → alkF k (B0 ++ E) Dn a b = some (e, B', D') →
  formT a = true → formT b = true → InU U a → InU U b → szT a ≤ 512 → szT b ≤ 512 → CT a va → CT b vb → Goes ((orc vE).wide 38 [.mp R 0, .agg [.str a.nm, va], .agg [.str b.nm, vb]] st) (AlkP st T M R D U B0 k0 e B' D')
theorem args_ok {k : Nat} (IH : AlkOk T M R D U B0 k0 k) {sA sB st : St} {E : Bnd} {Dn : Prs} {xs ys : List Ty} {nA nB : Tx} {va vb : AV} {es fs : List AV} {e : Int} {B' : Bnd} {D' : Prs} (w : Trl st T M R D U B0 E Dn k0) (hg : Go.Ty.Good (B0 ++ E)) (hr : alkL (alkF k) (B0 ++ E) Dn xs ys = some (e, B', D'))
    (hl : xs.length = ys.length) (f1 : ∀ x ∈ xs, formT x = true) (f2 : ∀ x ∈ ys, formT x = true) (i1 : ∀ x ∈ xs, InU U x) (i2 : ∀ x ∈ ys, InU U x) (z1 : ∀ x ∈ xs, szT x ≤ 512) (z2 : ∀ x ∈ ys, szT x ≤ 512)
    (ha : IsSl 2 va es) (has : IsTs xs es) (hb : IsSl 2 vb fs) (hbs : IsTs ys fs) (gA : st.get sA.h = .ok (.cells TTy [.str nA, va])) (gB : st.get sB.h = .ok (.cells TTy [.str nB, vb])) :
    Goes (loopO (w38_L1 (.mp R 0) sA sB es.length) ([.int .i64 0, .int .i64 0], st)) (fun c => ∃ r v s', c = (r, [.int .i64 v], s') ∧ ((r = 0 ∧ e = 0) ∨ (r = 1 ∧ v = e)) ∧ ∃ E', B' = B0 ++ E' ∧ Trl s' T M R D U B0 E' D' k0 ∧ Keeps st s' (ButT st (X3 M D R))) := by
  have hlen := has.len
  have hlen2 := hbs.len
  have hll := slenT ha
  refine Goes.upto (n := xs.length) (I := fun i c => ∃ s E1 D1, c = ([.int .i64 0, .int .i64 (i : Int)], s) ∧ Trl s T M R D U B0 E1 D1 k0 ∧ Go.Ty.Good (B0 ++ E1) ∧ alkL (alkF k) (B0 ++ E1) D1 (xs.drop i) (ys.drop i) = some (e, B', D') ∧ Keeps st s (ButT st (X3 M D R))) ?_ ?_ xs.length 0 _ (by omega) ⟨st, E, Dn, rfl, w, hg, hr, Keeps.refl _ _⟩
  · rintro i c hi ⟨s, E1, D1, rfl, u, g1, r1, k1⟩
    have hq : decide ((i : Int) < (es.length : Int)) = true := decide_eq_true (by omega)
    obtain ⟨v1, hv1, hV1⟩ := ts_at has hi
    obtain ⟨v2, hv2, hV2⟩ := ts_at hbs (show i < ys.length by omega)
    obtain ⟨x1, rfl, hx1⟩ := isT_iff.1 hV1
    obtain ⟨x2, rfl, hx2⟩ := isT_iff.1 hV2
    have m1 : xs[i] ∈ xs := List.getElem_mem hi
    have m2 : ys[i] ∈ ys := List.getElem_mem (show i < ys.length by omega)
    rw [List.drop_eq_getElem_cons hi, List.drop_eq_getElem_cons (show i < ys.length by omega)] at r1
    simp only [alkL] at r1
    have gA1 := w.var k1 gA
    have gB1 := w.var k1 gB
    simp only [w38_L1, unc_cons, asI_int, un0_nil, hq, ifB_true, loadS_mp gA1, loadS_mp gB1, List.drop_succ_cons, List.drop_zero, takeO_one, bindO_ok, ha.idx hv1, hb.idx hv2, cells_agg, loadS_ip, takeT2, unA_agg, asS_str]
    split at r1
    · cases r1
    · rename_i e1 B1 D1' he
      obtain ⟨gg, EE, hE⟩ := alkF_good he g1 (f1 _ m1) (f2 _ m2)
      refine Goes.callW (IH s E1 D1 _ _ x1 x2 e1 B1 D1' u g1 he (f1 _ m1) (f2 _ m2) (i1 _ m1) (i2 _ m2) (z1 _ m1) (z2 _ m2) hx1 hx2) rfl (by simp [bares_cons, bares, VM.bare.bareAll, VM.bare, VM.strip]) ?_
      rintro v s2 ⟨E2, rfl, rfl, u2, k2⟩
      have k12 : Keeps st s2 (ButT st (X3 M D R)) := k1.joinT k2 (fun j h => .inl h)
      simp only [asI_int, ifB_bne]
      split at r1
      · rename_i e0
        rw [if_pos e0]
        simp only [letV_eq, wrapA1 (show i + 1 ≤ 9223372036854775807 by omega)]
        exact Goes.inl ⟨s2, E2, D1', rfl, u2, gg, r1, k12⟩
      · rename_i e0
        rw [if_neg e0]
        simp only [Option.some.injEq, Prod.mk.injEq] at r1
        obtain ⟨rfl, rfl, rfl⟩ := r1
        exact Goes.inr ⟨1, _, s2, rfl, by simp, E2, rfl, u2, k12⟩
  · rintro c ⟨s, E1, D1, rfl, u, g1, r1, k1⟩
    have hq : decide (((xs.length : Nat) : Int) < (es.length : Int)) = false := decide_eq_false (by omega)
    rw [List.drop_length] at r1
    simp only [alkL, Option.some.injEq, Prod.mk.injEq] at r1
    obtain ⟨rfl, rfl, rfl⟩ := r1
    simp only [w38_L1, unc_cons, asI_int, un0_nil, hq, ifB_false]
    exact Goes.inr ⟨0, 0, s, rfl, by simp, E1, rfl, u, k1⟩
theorem alike_ok : ∀ k, AlkOk T M R D U B0 k0 k := by
  intro k
  induction k with
  | zero => intro st E Dn a b va vb e B' D' w hg hr; simp [alkF] at hr
  | succ k IH =>
    intro st E Dn a b va vb e B' D' w hg hr fa fb ia ib za zb ha hb
    refine Goes.wide (Goes.step (w38_eq _ _ _ _) ?_)
    simp only [w38, unA_agg, unc_cons, asS_str, un0_nil, ha.asOne, hb.asOne]
    refine Goes.xalloc (Wx.start w.ro (ButT st (X3 M D R))) fun s1 e1 w1 k1 => ?_
    refine Goes.xalloc w1 fun s2 e2 w2 k2 => ?_
    have u2 := (w.keep0 k1).keep0 k2
    have ga : s2.get st.h = .ok (.cells TTy [.str a.nm, va]) := w2.w.get (List.mem_cons_of_mem _ List.mem_cons_self)
    have gb : s2.get s1.h = .ok (.cells TTy [.str b.nm, vb]) := w2.w.get List.mem_cons_self
    simp only [loadS_mp ga, loadS_mp gb, List.drop_zero, takeO_one, bindO_ok, asS_str]
    refine Goes.xalloc w2 fun s3 e3 w3 k3 => ?_
    have u3 := u2.keep0 k3
    refine Goes.xst [] w3 fun s4 e4 w4 k4 => ?_
    have g3 : s3.get s2.h = .ok (.cells TPr [.str [], .str []]) := w3.w.get List.mem_cons_self
    have u4 := u3.keep k4 (fun j hj => by subst hj; exact .inr ⟨_, _, g3, by decide, by decide, by decide, by decide⟩)
    have gp : s4.get s2.h = .ok (.cells TPr [.str a.nm, .str b.nm]) := w4.w.get List.mem_cons_self
    have ga4 : s4.get st.h = .ok (.cells TTy [.str a.nm, va]) := w4.w.get (List.mem_cons_of_mem _ (List.mem_cons_of_mem _ List.mem_cons_self))
    have gb4 : s4.get s1.h = .ok (.cells TTy [.str b.nm, vb]) := w4.w.get (List.mem_cons_of_mem _ List.mem_cons_self)
    refine Goes.bind (R := fun c => c = ([.bool (bothV a b)], s4)) ?_ ?_
    · simp only [loadS_mp ga4, loadS_mp gb4, List.drop_zero, takeO_one, bindO_ok, asS_str]
      refine Goes.callB (var_prog a.nm) rfl rfl rfl ?_
      simp only [asB_bool]
      unfold bothV
      cases varB a.nm with
      | false => simp only [ifB_false, Bool.false_and]; exact Goes.some rfl
      | true =>
        simp only [ifB_true, Bool.true_and, loadS_mp gb4, List.drop_zero, takeO_one, bindO_ok, asS_str]
        refine Goes.callB (var_prog b.nm) rfl rfl rfl ?_
        simp only [asB_bool]
        exact Goes.some rfl
    rintro c rfl
    simp only [unc_cons, asB_bool, un0_nil]
    rw [alkF] at hr
    refine Goes.bind (R := fun c => (c = .inr (.int .i64 0, s4) ∧ (bothV a b && Dn.contains (a.nm, b.nm)) = true) ∨ ((bothV a b && Dn.contains (a.nm, b.nm)) = false ∧ ∃ s5, c = .inl ([.int .i64 0], s5) ∧ Trl s5 T M R D U B0 E (if bothV a b = true then Dn ++ [(a.nm, b.nm)] else Dn) k0 ∧
      Wx (ButT st (X3 M D R)) st s5 [(s1.h, TTy, [.str b.nm, vb]), (st.h, TTy, [.str a.nm, va])])) ?_ ?_
    · have wsub : Wx (ButT st (X3 M D R)) st s4 [(s1.h, TTy, [.str b.nm, vb]), (st.h, TTy, [.str a.nm, va])] := w4.sub (List.Sublist.cons _ (List.Sublist.refl _))
      cases hbv : bothV a b with
      | false =>
        simp only [ifB_false, Bool.false_and, Bool.false_eq_true, if_false]
        exact Goes.some (.inr ⟨by simp, s4, rfl, u4, wsub⟩)
      | true =>
        obtain ⟨back, hR, _⟩ := u4.r
        simp only [ifB_true, Bool.true_and, if_true, notNil_mp, chk_true, fldA_mp, Nat.add_zero, Nat.zero_add, loadS_mp hR, List.drop_succ_cons, List.drop_zero, takeO_one, bindO_ok]
        have ld : ∀ {β : Type} (K : AV → List Nat → Option β), loadS 2 true (.mp s2.h 0) s4 K = K (.agg [.str a.nm, .str b.nm]) [s2.h] := fun K => by
          rw [loadS_mp gp]; rfl
        simp only [ld, unA_agg, unc_cons, asS_str, un0_nil, done_look u4.d, asB_bool]
        cases hc : Dn.contains (a.nm, b.nm) with
        | true => simp only [ifB_true]; exact Goes.some (.inl ⟨rfl, by simp⟩)
        | false =>
          simp only [ifB_false, loadS_mp hR, List.drop_succ_cons, List.drop_zero, takeO_one, bindO_ok, ld, unA_agg, unc_cons, asS_str, un0_nil, done_put u4.d u4.rd hc]
          have k5 : Keeps s4 (s4.put D (.map (encP (Dn ++ [(a.nm, b.nm)])))) (· = D) := Keeps.put rfl
          refine Goes.some (.inr ⟨by simp, _, rfl, u4.putD _, wsub.w.keeps k5 (fun q hq e => ?_), wsub.k.joinT (k5.toT (X := (· = D)) fun j e => e) (fun j e => .inl (.inr (.inl e))), wsub.ge⟩)
          have h1 := (wsub.w.v q hq).1
          rw [e, u4.d] at h1
          cases h1
    rintro c (⟨rfl, hc⟩ | ⟨hc, s5, rfl, u5, w5⟩)
    · rw [if_pos hc] at hr
      simp only [Option.some.injEq, Prod.mk.injEq] at hr
      obtain ⟨rfl, rfl, rfl⟩ := hr
      simp only [onSum_inr]
      exact Goes.some ⟨E, rfl, rfl, u4, w4.k⟩
    · rw [hc] at hr
      simp only [Bool.false_eq_true, if_false] at hr
      generalize (if bothV a b = true then Dn ++ [(a.nm, b.nm)] else Dn) = D1 at hr u5
      simp only [onSum_inl, unc_cons, asI_int, un0_nil]
      obtain ⟨back, hR, _⟩ := u5.r
      have ga5 : s5.get st.h = .ok (.cells TTy [.str a.nm, va]) := w5.w.get (List.mem_cons_of_mem _ List.mem_cons_self)
      have gb5 : s5.get s1.h = .ok (.cells TTy [.str b.nm, vb]) := w5.w.get List.mem_cons_self
      obtain ⟨va', ha', hca⟩ := call_lkup u5.tb.toTbR hg ha
      obtain ⟨vb', hb', hcb⟩ := call_lkup u5.tb.toTbR hg hb
      have lda : ∀ {β : Type} (K : AV → List Nat → Option β), loadS 2 true (.mp st.h 0) s5 K = K (.agg [.str a.nm, va]) [st.h] := fun K => by rw [loadS_mp ga5]; rfl
      have ldb : ∀ {β : Type} (K : AV → List Nat → Option β), loadS 2 true (.mp s1.h 0) s5 K = K (.agg [.str b.nm, vb]) [s1.h] := fun K => by rw [loadS_mp gb5]; rfl
      simp only [notNil_mp, chk_true, fldA_mp, Nat.add_zero, Nat.zero_add, loadS_mp hR, List.drop_zero, takeO_one, bindO_ok, lda, ldb, unA_agg, unc_cons, asS_str, un0_nil, hca, hcb, apart_looked, Bool.and_true, ha'.asOne]
      have f1 := lookT_form hg fa
      have f2 := lookT_form hg fb
      have i1 := look_in hg u5.cov ia
      have i2 := look_in hg u5.cov ib
      have n1 := lookT_free hg a
      have n2 := lookT_free hg b
      have z1 := Sm.look u5.sm za
      have z2 := Sm.look u5.sm zb
      generalize Go.Ty.lookT (B0 ++ E) a = a' at *
      generalize Go.Ty.lookT (B0 ++ E) b = b' at *
      refine Goes.xst [(s1.h, TTy, [.str b.nm, vb])] w5 fun s6 e6 w6 k6 => ?_
      simp only [hb'.asOne]
      refine Goes.xst [] w6 fun s7 e7 w7 k7 => ?_
      have gb6 : s6.get s1.h = .ok (.cells TTy [.str b.nm, vb]) := w6.w.get List.mem_cons_self
      have u6 := u5.keep k6 (fun j hj => by subst hj; exact .inr ⟨_, _, ga5, by decide, by decide, by decide, by decide⟩)
      have u7 := u6.keep k7 (fun j hj => by subst hj; exact .inr ⟨_, _, gb6, by decide, by decide, by decide, by decide⟩)
      have ga7 : s7.get st.h = .ok (.cells TTy [.str a'.nm, va']) := w7.w.get (List.mem_cons_of_mem _ List.mem_cons_self)
      have gb7 : s7.get s1.h = .ok (.cells TTy [.str b'.nm, vb']) := w7.w.get List.mem_cons_self
      have lda7 : ∀ {β : Type} (K : AV → List Nat → Option β), loadS 2 true (.mp st.h 0) s7 K = K (.agg [.str a'.nm, va']) [st.h] := fun K => by rw [loadS_mp ga7]; rfl
      have ldb7 : ∀ {β : Type} (K : AV → List Nat → Option β), loadS 2 true (.mp s1.h 0) s7 K = K (.agg [.str b'.nm, vb']) [s1.h] := fun K => by rw [loadS_mp gb7]; rfl
      have kk : Keeps st s7 (ButT st (X3 M D R)) := w7.k
      unfold alkG at hr
      refine Goes.bind (R := fun c => c = ([.bool (varB a'.nm && a'.nm == b'.nm)], s7)) ?_ ?_
      · simp only [loadS_mp ga7, loadS_mp gb7, List.drop_zero, takeO_one, bindO_ok, asS_str]
        refine Goes.callB (var_prog a'.nm) rfl rfl rfl ?_
        simp only [asB_bool]
        cases varB a'.nm with
        | false => simp only [ifB_false, Bool.false_and]; exact Goes.some rfl
        | true => simp only [ifB_true, Bool.true_and, loadS_mp ga7, loadS_mp gb7, List.drop_zero, takeO_one, bindO_ok, asS_str]; exact Goes.some rfl
      rintro c rfl
      simp only [unc_cons, asB_bool, un0_nil]
      cases hs : varB a'.nm && a'.nm == b'.nm with
      | true =>
        rw [if_pos hs] at hr
        simp only [Option.some.injEq, Prod.mk.injEq] at hr
        obtain ⟨rfl, rfl, rfl⟩ := hr
        simp only [ifB_true]
        exact Goes.some ⟨E, rfl, rfl, u7, kk⟩
      | false =>
        rw [if_neg (by rw [hs]; simp)] at hr
        simp only [ifB_false, loadS_mp ga7, loadS_mp gb7, List.drop_zero, takeO_one, bindO_ok, asS_str]
        refine Goes.callB (var_prog a'.nm) rfl rfl rfl ?_
        simp only [asB_bool]
        cases hva : varB a'.nm with
        | true =>
          rw [if_pos hva] at hr
          simp only [Option.some.injEq] at hr
          simp only [ifB_true, loadS_mp ga7, List.drop_zero, takeO_one, bindO_ok, asS_str, ldb7, unA_agg, unc_cons, un0_nil]
          refine Goes.callW (bind_ok u7 hg hva n1 (i1.var hva) f2 n2 i2 z2 hb') rfl (by simp [bares_cons, bares, VM.bare.bareAll, VM.bare, VM.strip]) ?_
          rintro v s8 ⟨e', E', h1, rfl, u8, k8⟩
          rw [hr] at h1
          cases h1
          simp only [asI_int]
          exact Goes.some ⟨E', rfl, rfl, u8, kk.joinT k8 (fun j h => .inl h)⟩
        | false =>
          rw [if_neg (by rw [hva]; simp)] at hr
          simp only [ifB_false, loadS_mp gb7, List.drop_zero, takeO_one, bindO_ok, asS_str]
          refine Goes.callB (var_prog b'.nm) rfl rfl rfl ?_
          simp only [asB_bool]
          cases hvb : varB b'.nm with
          | true =>
            rw [if_pos hvb] at hr
            simp only [Option.some.injEq] at hr
            simp only [ifB_true, loadS_mp gb7, List.drop_zero, takeO_one, bindO_ok, asS_str, lda7, unA_agg, unc_cons, un0_nil]
            refine Goes.callW (bind_ok u7 hg hvb n2 (i2.var hvb) f1 n1 i1 z1 ha') rfl (by simp [bares_cons, bares, VM.bare.bareAll, VM.bare, VM.strip]) ?_
            rintro v s8 ⟨e', E', h1, rfl, u8, k8⟩
            rw [hr] at h1
            cases h1
            simp only [asI_int]
            exact Goes.some ⟨E', rfl, rfl, u8, kk.joinT k8 (fun j h => .inl h)⟩
          | false =>
            rw [if_neg (by rw [hvb]; simp)] at hr
            obtain ⟨es, hes1, hes2⟩ := ha'
            obtain ⟨fs, hfs1, hfs2⟩ := hb'
            have l1 := hes2.len
            have l2 := hfs2.len
            simp only [ifB_false, loadS_mp ga7, loadS_mp gb7, List.drop_zero, takeO_one, bindO_ok, asS_str]
            refine Goes.bind (R := fun c => c = ([.bool (!(a'.nm == b'.nm && a'.l.length == b'.l.length))], s7)) ?_ ?_
            · cases hnm : a'.nm == b'.nm with
              | false =>
                simp only [Bool.not_false, ifB_true, Bool.false_and]
                exact Goes.some rfl
              | true =>
                simp only [Bool.not_true, ifB_false, Bool.true_and, loadS_mp ga7, loadS_mp gb7, List.drop_succ_cons, List.drop_zero, takeO_one, bindO_ok, hes1.len, hfs1.len, l1, l2]
                refine Goes.some ?_
                congr 3
                rw [Bool.eq_iff_iff]
                simp
                omega
            rintro c rfl
            simp only [unc_cons, asB_bool, un0_nil]
            cases hcl : (a'.nm == b'.nm && a'.l.length == b'.l.length) with
            | false =>
              rw [if_neg (by rw [hcl]; simp)] at hr
              simp only [Option.some.injEq, Prod.mk.injEq] at hr
              obtain ⟨rfl, rfl, rfl⟩ := hr
              simp only [Bool.not_false, ifB_true]
              exact Goes.some ⟨E, rfl, rfl, u7, kk⟩
            | true =>
              rw [if_pos hcl] at hr
              simp only [Bool.and_eq_true, beq_iff_eq] at hcl
              simp only [Bool.not_true, ifB_false, loadS_mp ga7, List.drop_succ_cons, List.drop_zero, takeO_one, bindO_ok, hes1.len]
              have small : ∀ {t : Ty}, szT t ≤ 512 → ∀ x ∈ t.l, szT x ≤ 512 := fun {t} h x hx => by
                obtain ⟨n, l⟩ := t
                have := szT_mem (show x ∈ l from hx)
                simp only [szT] at h; omega
              refine Goes.bind (args_ok IH u7 hg hr hcl.2 (form_l f1) (form_l f2) (i1.l hva) (i2.l hvb) (small z1) (small z2) hes1 hes2 hfs1 hfs2 ga7 gb7) ?_
              rintro c ⟨r, v, s8, rfl, h1, E', rfl, u8, k8⟩
              have k78 : Keeps st s8 (ButT st (X3 M D R)) := kk.joinT k8 (fun j h => .inl h)
              rcases h1 with ⟨rfl, rfl⟩ | ⟨rfl, rfl⟩
              · simp only [unc_cons, asI_int, un0_nil, sel2_zero]
                exact Goes.some ⟨E', rfl, rfl, u8, k78⟩
              · simp only [unc_cons, asI_int, un0_nil, sel2_one]
                exact Goes.some ⟨E', rfl, rfl, u8, k78⟩
end
end Go.Proofs.YtlfilkniobkbiaaDoor.Vm
/- Alike: what can't be made alike changes nothing. -/
namespace Go.Proofs.YtlfilkniobkbiaaDoor.Vm
open Go Go.VM Go.Proofs Go.Ty
theorem good_fresh {B : Bnd} (h : Go.Ty.Good B) : ∀ {B1 : Bnd} {n : Tx} {t : Ty} {B2 : Bnd}, B = B1 ++ (n, t) :: B2 → fnd B1 n = none := by
  induction h with
  | nil => intro B1 n t B2 e; simp at e
  | @snoc B m u h h1 h2 h3 h4 h5 ih =>
    intro B1 n t B2 e
    rcases List.eq_nil_or_concat B2 with rfl | ⟨B3, p, rfl⟩
    · have e' : B ++ [(m, u)] = B1 ++ [(n, t)] := e
      have := List.append_inj' e' rfl
      obtain ⟨rfl, e2⟩ := this
      simp only [List.cons.injEq, Prod.mk.injEq, and_true] at e2
      rw [← e2.1]; exact h1
    · have e' : B ++ [(m, u)] = (B1 ++ (n, t) :: B3) ++ [p] := by rw [e]; simp
      have := List.append_inj' e' rfl
      exact ih this.1
theorem fnd_pre_none {B E : Bnd} {n : Tx} (h : fnd (B ++ E) n = none) : fnd B n = none := by
  cases hf : fnd B n with
  | none => rfl
  | some t => rw [fnd_pre hf] at h; cases h
/-- One binding is put back. -/
theorem del_ok {st : St} {T M R D : Nat} {B E : Bnd} {n : Tx} {t : Ty} {k0 : Int} {back : AV} {r s : Nat} (gT : st.get T = .ok (.cells TTb [.mm M, .int .i64 k0])) (gR : st.get R = .ok (.cells TTr [.mp T 0, .mm D, back])) (gr : st.get r = .ok (.cells TPt [.mp R 0])) (gs : st.get s = .ok (.cells TSt [.str n]))
    {es : List (AV × AV)} (gM : st.get M = .ok (.map es)) (hM : IsB (B ++ (n, t) :: E) es) (hn : fnd B n = none) (hro : st.ro ≤ M) : Goes ((orc vE).wide 66 [.mp r 0, .mp s 0] st) (fun q => ∃ es', IsB (B ++ E) es' ∧ q.2 = st.put M (.map es')) := by
  obtain ⟨es', h1, h2⟩ := hM.del hn
  refine Goes.wide (Goes.step (w66_eq _ _ _) ?_)
  have hd : ∀ (im : TypeId → Bool), builtinP (Env.T vE) im .delete [TMp, TSt] [.mm M, .str n] = .ok (.obj M fun o => match o with | .map es => do pure (.tup [], some (.map (← delEntry (.str n) es))) | _ => .error "delete: no map") := fun im => by
    show deleteP (Env.T vE) TMp (.mm M) (.str n) = _
    simp only [deleteP, ti_mapT, ti_strT, ok_bind, keyIn, keyOk, pure_eq]
    rfl
  have h5 : (st.ro.ble M) = true := Nat.ble_eq_true_of_le hro
  have hp : ∀ {β : Type} (K : Kv β), planS (orc vE) (builtinP (Env.T vE) (Sx.imm (sx vE 66)) .delete [TMp, TSt] [.mm M, .str n]) st K = K (.tup []) (st.put M (.map es')) ⟨[M], .wrote M (.map es')⟩ := fun K => by
    rw [hd]
    simp only [planS, planO, gM, h1, ok_bind, pure_eq, wroteO, h5, outS, bindO_ok]
  simp only [w66, loadS_mp gr, loadS_mp gs, List.drop_zero, takeO_one, bindO_ok, notNil_mp, chk_true, fldA_mp, Nat.add_zero, Nat.zero_add, loadS_mp gR, loadS_mp gT, asS_str]
  exact Goes.step (hp _) (Goes.some ⟨es', h2, rfl⟩)
/-- What a table and the types that are asked must be. -/
structure TbG (U : List Tx) (B : Bnd) : Prop where
  good : Go.Ty.Good B
  cov : Cov U B
  sm : Sm B
/-- The answer of Alike. -/
def AlkO (B : Bnd) (a b : Ty) (e : Int) (B' : Bnd) : Prop :=
  if (mayT a && mayT b) = true then ∃ k B1 D, alkF k B [] a b = some (e, B1, D) ∧ B' = (if e = 0 then B1 else B) else e = 4 ∧ B' = B
theorem may_form {t : Ty} (h : mayT t = true) : formT t = true ∧ szT t ≤ 512 := by
  simp only [mayT, Bool.and_eq_true, decide_eq_true_eq] at h
  exact ⟨h.2, h.1⟩
theorem nil_ptrT (β : Type) (i o : Nat) (K : Bool → Option β) : nilS (U.ptr TTb) (.mp i o) .nilp K = K false := rfl
theorem Alike_ok {st : St} {T M : Nat} {U : List Tx} {B : Bnd} {k0 : Int} (w : Tb st T M B k0) (hb : TbG U B) (hU : U.length ≤ 1000000000) (hro : st.ro ≤ st.h) {a b : Ty} {va vb : AV} (ia : mayT a = true → InU U a) (ib : mayT b = true → InU U b) (ha : CT a va) (hbv : CT b vb) :
    Goes ((orc vE).wide 17 [.mp T 0, .agg [.str a.nm, va], .agg [.str b.nm, vb]] st) (fun r => ∃ e B', AlkO B a b e B' ∧ r.1 = .int .i64 e ∧ Tb r.2 T M B' k0 ∧ TbG U B' ∧ (∃ E, B' = B ++ E) ∧ Keeps st r.2 (ButT st (· = M))) := by
  refine Goes.wide (Goes.step (w17_eq _ _ _ _) ?_)
  simp only [w17, unA_agg, unc_cons, asS_str, un0_nil, ha.asOne, ha.fit1, hbv.asOne, hbv.fit1, nil_ptrT, ifB_false, asOne_mp]
  refine Goes.bind (R := fun c => c = ([.bool (!(mayT a && mayT b))], st)) ?_ ?_
  · refine Goes.callB (may_prog ha.isT) rfl (by rw [List.map_cons, List.map_nil, ha.b.2]) (by simp only [bares_cons, ha.b.1]; rfl) ?_
    simp only [asB_bool]
    cases mayT a with
    | false => simp only [Bool.not_false, ifB_true, Bool.false_and]; exact Goes.some rfl
    | true =>
      simp only [Bool.not_true, ifB_false, Bool.true_and]
      refine Goes.callB (may_prog hbv.isT) rfl (by rw [List.map_cons, List.map_nil, hbv.b.2]) (by simp only [bares_cons, hbv.b.1]; rfl) ?_
      simp only [asB_bool]
      exact Goes.some rfl
  rintro c rfl
  simp only [unc_cons, asB_bool, un0_nil]
  cases hm : (mayT a && mayT b) with
  | false =>
    simp only [Bool.not_false, ifB_true]
    refine Goes.some ⟨4, B, ?_, rfl, w, hb, ⟨[], by simp⟩, Keeps.refl _ _⟩
    unfold AlkO
    rw [if_neg (by rw [hm]; simp)]
    exact ⟨rfl, rfl⟩
  | true =>
    have hm2 := hm
    simp only [Bool.and_eq_true] at hm2
    obtain ⟨fa, za⟩ := may_form hm2.1
    obtain ⟨fb, zb⟩ := may_form hm2.2
    simp only [Bool.not_true, ifB_false]
    refine Goes.lets ?_
    have k1 : Keeps st (st.add (.map [])) (fun _ => False) := Keeps.add _ _ _
    have g1 : (st.add (.map [])).get st.h = .ok (.map (encP [])) := St.get_add_new
    have h1h : (st.add (.map [])).h = st.h + 1 := rfl
    have r1 : (st.add (.map [])).ro ≤ (st.add (.map [])).h := Nat.le_succ_of_le hro
    have ro1 : (st.add (.map [])).ro ≤ st.h := hro
    generalize st.add (.map []) = s1 at *
    refine Goes.lets ?_
    have k2 : Keeps s1 (s1.add (.cells TTr [.mp T 0, .mm st.h, .nils])) (fun _ => False) := Keeps.add _ _ _
    have g2 : (s1.add (.cells TTr [.mp T 0, .mm st.h, .nils])).get s1.h = .ok (.cells TTr [.mp T 0, .mm st.h, .nils]) := St.get_add_new
    have r2 : (s1.add (.cells TTr [.mp T 0, .mm st.h, .nils])).ro ≤ (s1.add (.cells TTr [.mp T 0, .mm st.h, .nils])).h := Nat.le_succ_of_le r1
    have ro2 : (s1.add (.cells TTr [.mp T 0, .mm st.h, .nils])).ro ≤ s1.h := r1
    generalize s1.add (.cells TTr [.mp T 0, .mm st.h, .nils]) = s2 at *
    have k12 : Keeps st s2 (fun _ => False) := k1.trans k2
    obtain ⟨es0, hM0, _⟩ := w.m
    have u2 : Trl s2 T M s1.h st.h U B [] [] k0 := by
      refine ⟨by rw [List.append_nil]; exact w.keep k12 (fun f => f) (fun f => f), ⟨.nils, g2, .inl ⟨rfl, rfl⟩⟩, k2.old _ _ (fun f => f) g1, ro2, by rw [k2.ro]; exact ro1, r2, Nat.ne_of_lt (St.get_ok.1 hM0).1, by rw [List.append_nil]; exact hb.sm, ?_, by rw [List.append_nil]; exact hb.cov⟩
      have : unb U (B ++ []) ≤ U.length := List.countP_le_length
      simp only [List.length_nil]; omega
    obtain ⟨k, ⟨e, B1, D1⟩, hr⟩ := alkF_ends [] hb.good fa fb
    have kp := alkF_kpt k _ _ _ _ _ _ _ hr hb.good hb.cov fa fb (ia hm2.1) (ib hm2.2)
    have hr' : alkF k (B ++ []) [] a b = some (e, B1, D1) := by rw [List.append_nil]; exact hr
    refine Goes.callW (alike_ok k s2 [] [] a b va vb e B1 D1 u2 (by rw [List.append_nil]; exact hb.good) hr' fa fb (ia hm2.1) (ib hm2.2) za zb ha hbv) rfl (by simp [bares_cons, bares, VM.bare.bareAll, VM.bare, VM.strip]) ?_
    rintro v s3 ⟨E', rfl, rfl, u3, k3⟩
    have k03 : Keeps st s3 (ButT st (· = M)) := by
      have h1 : Keeps st s2 (ButT st (· = M)) := k12.toT (fun _ f => f.elim)
      refine h1.joinT k3 fun j hj => ?_
      rcases hj with hj | hj | hj
      · exact .inl hj
      · exact .inr (by rw [hj]; exact Nat.le_refl _)
      · exact .inr (by rw [hj, h1h]; exact Nat.le_succ _)
    simp only [asI_int, ifB_bne]
    have hO : ∀ B', B' = (if e = 0 then B ++ E' else B) → AlkO B a b e B' := fun B' hB => by
      unfold AlkO
      rw [if_pos hm]
      exact ⟨k, _, _, hr, hB⟩
    by_cases e0 : e = 0
    · rw [if_pos e0]
      simp only [bindO_ok, un0_nil]
      refine Goes.some ⟨e, B ++ E', hO _ (by rw [if_pos e0]), rfl, u3.tb, ⟨kp.good, kp.cov, u3.sm⟩, ⟨E', rfl⟩, k03⟩
    · rw [if_neg e0]
      obtain ⟨back, hR, hB⟩ := u3.r
      obtain ⟨es3, hM3, hI3⟩ := u3.tb.m
      have hT3 := u3.tb.t
      have rm3 := u3.tb.rm
      refine Goes.bind (R := fun c => ∃ s, c = ([], s) ∧ Tb s T M B k0 ∧ Keeps st s (ButT st (· = M))) ?_ ?_
      · simp only [loadS_mp hR, List.drop_succ_cons, List.drop_zero, takeO_one, bindO_ok]
        rcases hB with ⟨rfl, hE⟩ | ⟨kk, cs, rfl, gk, rk, fn⟩
        · have hE : E' = [] := List.map_eq_nil_iff.1 hE
          subst hE
          simp only [lenS_nils]
          refine Goes.bind (R := fun c => c = (0, [], s3)) (Goes.loop (I := fun _ c => c = ([.int .i64 0], s3)) (fun n s hs => ?_) 0 _ rfl) ?_
          · subst hs
            simp only [w17_L1, unc_cons, asI_int, un0_nil, show decide ((0 : Int) < ((0 : Nat) : Int)) = false from rfl, ifB_false]
            exact ⟨_, rfl, rfl⟩
          · rintro c rfl
            simp only [un0_nil]
            have := u3.tb
            rw [List.append_nil] at this
            exact Goes.some ⟨s3, rfl, this, k03⟩
        · have hlen := fn.len
          have hl : ∀ {β : Type} (K : Nat → Option β), lenS (.gs kk 1 (E'.map (·.1)).length) K = K (E'.map (·.1)).length := fun K => rfl
          rw [List.length_map] at hl gk hlen
          have hEl : E'.length ≤ 1000000000 := by have := u3.len; omega
          simp only [List.length_map, hl]
          refine Goes.bind (R := fun c => ∃ s, c = (0, [], s) ∧ Tb s T M B k0 ∧ Keeps st s (ButT st (· = M))) (Goes.upto (n := E'.length) (I := fun i c => ∃ s es, c = ([.int .i64 (i : Int)], s) ∧ Keeps s3 s (· = M) ∧ s.get M = .ok (.map es) ∧ IsB (B ++ E'.drop i) es) ?_ ?_ E'.length 0 _ (by omega) ⟨s3, es3, rfl, Keeps.refl _ _, hM3, by simpa using hI3⟩) ?_
          · rintro i c hi ⟨s', es, rfl, kM, gM, hI⟩
            have cne : ∀ {x : Nat} {t : TypeId} {ds : List AV}, s3.get x = .ok (.cells t ds) → s'.get x = .ok (.cells t ds) := fun {x t ds} hg => kM.old _ _ (fun e => by rw [e, hM3] at hg; cases hg) hg
            have gk' : s'.get kk = .ok (.row E'.length 1 1 cs) := kM.old _ _ (fun e => by rw [e, hM3] at gk; cases gk) gk
            have hq : decide ((i : Int) < (E'.length : Int)) = true := decide_eq_true (by omega)
            have fnth : ∀ {cs : List AV} {ns : List Tx} (_ : Fns s3 s1.h cs ns) {i : Nat} (hi : i < ns.length), ∃ r s post, cs.drop i = .fn (.func 66) [] [.mp r 0, .mp s 0] :: post ∧ s3.get r = .ok (.cells TPt [.mp s1.h 0]) ∧ s3.get s = .ok (.cells TSt [.str ns[i]]) := by
              intro cs
              induction cs with
              | nil => intro ns h i hi; cases ns with
                | nil => simp at hi
                | cons _ _ => cases h
              | cons c cs ih =>
                intro ns h i hi
                cases ns with
                | nil => cases h
                | cons n ns =>
                  obtain ⟨⟨r, s, e1, e2, e3⟩, h2⟩ := h
                  cases i with
                  | zero => exact ⟨r, s, cs, by rw [e1]; rfl, e2, e3⟩
                  | succ i =>
                    obtain ⟨r, s, post, q1, q2, q3⟩ := ih h2 (i := i) (by simpa using hi)
                    exact ⟨r, s, post, by simpa using q1, q2, by simpa using q3⟩
            obtain ⟨r, s, post, q1, q2, q3⟩ := fnth fn (i := i) (by rw [List.length_map]; exact hi)
            rw [List.getElem_map] at q3
            have hx := fun {β : Type} (K : AV → List Nat → Option β) => idxA_gs gk' hi K
            simp only [w17_L1, unc_cons, asI_int, un0_nil, hq, ifB_true, hx, Nat.mul_one]
            rw [loadS_gp gk', q1, takeO_one, bindO_ok, callF_cap (f := 66) rfl]
            have hdrop : E'.drop i = E'[i] :: E'.drop (i + 1) := List.drop_eq_getElem_cons hi
            rw [hdrop] at hI
            have hfr : fnd B E'[i].1 = none := by
              have hg := kp.good
              have e1 : B ++ E' = (B ++ E'.take i) ++ (E'[i].1, E'[i].2) :: E'.drop (i + 1) := by
                rw [List.append_assoc]
                congr 1
                conv => lhs; rw [← List.take_append_drop i E', hdrop]
              exact fnd_pre_none (good_fresh hg e1)
            have hD := del_ok (t := E'[i].2) (cne hT3) (cne hR) (cne q2) (cne q3) gM hI hfr (by rw [kM.ro]; exact rm3)
            refine Goes.callW hD rfl (by simp [bares_cons, bares, VM.bare.bareAll, VM.bare, VM.strip]) ?_
            rintro v s4 ⟨es', h1, rfl⟩
            simp only [letV_eq, wrapA1 (show i + 1 ≤ 9223372036854775807 by omega)]
            have kP : Keeps s' (s'.put M (.map es')) (· = M) := Keeps.put rfl
            exact Goes.inl ⟨_, es', rfl, kM.join kP (fun j hj => .inl hj), St.get_put_same (St.get_ok.1 gM).1, h1⟩
          · rintro c ⟨s', es, rfl, kM, gM, hI⟩
            have hq : decide (((E'.length : Nat) : Int) < (E'.length : Int)) = false := decide_eq_false (by omega)
            rw [List.drop_length, List.append_nil] at hI
            simp only [w17_L1, unc_cons, asI_int, un0_nil, hq, ifB_false]
            refine Goes.inr ⟨s', rfl, ⟨⟨kM.old _ _ (fun e => by rw [e, hM3] at hT3; cases hT3) hT3, es, gM, hI⟩, by rw [kM.ro]; exact u3.tb.rt, by rw [kM.ro]; exact rm3⟩, k03.joinT (kM.toT (X := (· = M)) fun j e => e) (fun j e => .inl e)⟩
          · rintro c ⟨s, rfl, h1, h2⟩
            simp only [un0_nil]
            exact Goes.some ⟨s, rfl, h1, h2⟩
      · rintro c ⟨s, rfl, h1, h2⟩
        simp only [un0_nil]
        exact Goes.some ⟨e, B, hO _ (by rw [if_neg e0]), rfl, h1, hb, ⟨[], by simp⟩, h2⟩
end Go.Proofs.YtlfilkniobkbiaaDoor.Vm
namespace Go.Proofs.YtlfilkniobkbiaaDoor.Vm
open Go Go.VM Go.Proofs
/-- rostrum/rostrumref16.Same -/
noncomputable def w18_L1 (v14 : AV) (v15 : AV) : Car → Option (Car ⊕ Nat × Car) := fun c22 => unc (Prod.fst c22) fun v23 l24 => asB v23 fun b25 => unc l24 fun v26 l27 => asI .i64 v26 fun n28 => un0 l27 (lenS v14 fun k29
 => ifB (decide (n28 < (↑k29 : Int))) (idxA 2 v14 n28 (Prod.snd c22) fun v30 _x => loadS 2 true v30 (Prod.snd c22) fun v32 _x => unA v32 fun l35 => unc l35 fun v36 l37 => asS v36 fun l38 => unc l37 fun v39 l40 => un0 l40
 (idxA 2 v15 n28 (Prod.snd c22) fun v41 _x => loadS 2 true v41 (Prod.snd c22) fun v43 _x => unA v43 fun l46 => unc l46 fun v47 l48 => asS v47 fun l49 => unc l48 fun v50 l51 => un0 l51 (callS (orc vE) 18 [AV.agg [AV.str
 l38, v39], AV.agg [AV.str l49, v50]] (Prod.snd c22) fun v52 st53 _x => asB v52 fun b55 => ifB (!b55) (some (Sum.inr (1, [AV.bool false], st53))) (letV (IntKind.wrap .i64 (n28 + 1)) fun n56 => some (Sum.inl ([AV.bool
 b25, AV.int .i64 n56], st53)))))) (some (Sum.inr (0, [AV.bool b25], Prod.snd c22))))
noncomputable def w18 : AV → AV → St → Option (AV × St) := fun x0 x1 st => unA x0 fun l1 => unc l1 fun v2 l3 => asS v2 fun l4 => unc l3 fun v5 l6 => un0 l6 (unA x1 fun l8 => unc l8 fun v9 l10 => asS v9 fun l11 => unc
 l10 fun v12 l13 => un0 l13 (asOne v5 (fit1 v5 fun v14 => asOne v12 (fit1 v12 fun v15 => bindO (ifB (!l4 == l11) (some ([AV.bool true], st)) (lenS v14 fun k16 => lenS v15 fun k17 => some ([AV.bool ((↑k16 : Int) != (↑k17
 : Int))], st))) fun c18 => unc (Prod.fst c18) fun v19 l20 => asB v19 fun b21 => un0 l20 (ifB b21 (some (AV.bool false, Prod.snd c18)) (bindO (loopO (w18_L1 v14 v15) ([AV.bool false, AV.int .i64 0], Prod.snd c18)) fun
 c57 => unc (Prod.fst (Prod.snd c57)) fun v58 l59 => asB v58 fun b60 => un0 l59 (sel2 (Prod.fst c57) (some (AV.bool true, Prod.snd (Prod.snd c57))) fun _x => some (AV.bool b60, Prod.snd (Prod.snd c57)))))))))
/-- rostrum/rostrumlaw16.put -/
noncomputable def w20_L1 (x1 : AV) (x2 : AV) (st : St) (l4 : List UInt8) : Car → Option (Car ⊕ Nat × Car) := fun c9 => unc (Prod.fst c9) fun v10 l11 => asI .i64 v10 fun n12 => un0 l11 (bindO (lenS x1 fun k13 => ifB
 (decide (n12 < (↑k13 : Int))) (lenS x2 fun k14 => some ([AV.bool (decide (n12 < (↑k14 : Int)))], Prod.snd c9)) (some ([AV.bool false], Prod.snd c9))) fun c15 => unc (Prod.fst c15) fun v16 l17 => asB v16 fun b18 => un0
 l17 (ifB b18 (idxA 1 x1 n12 (Prod.snd c15) fun v19 _x => loadS 1 false v19 (Prod.snd c15) fun v21 _x => asS v21 fun l23 => ifB (l23 == l4) (idxA 2 x2 n12 (Prod.snd c15) fun v24 _x => loadS 2 true v24 (Prod.snd c15) fun
 v26 _x => unA v26 fun l29 => unc l29 fun v30 l31 => asS v30 fun l32 => unc l31 fun v33 l34 => un0 l34 (asOne v33 (storeS (orc vE) 2 (AV.mp (St.h st) 0) (AV.agg [AV.str l32, v33]) [AV.str l32, v33] (Prod.snd c15) fun _x
 st36 _x_1 => some (Sum.inr (1, [], st36))))) (letV (IntKind.wrap .i64 (n12 + 1)) fun n38 => some (Sum.inl ([AV.int .i64 n38], Prod.snd c15)))) (some (Sum.inr (0, [], Prod.snd c15)))))
noncomputable def w20_L2 (x1 : AV) (x2 : AV) (v7 : AV) (c39 : Nat × Car) : Car → Option (Car ⊕ Nat × Car) := fun c45 => unc (Prod.fst c45) fun v46 l47 => asI .i64 v46 fun n48 => un0 l47 (lenS v7 fun k49 => ifB (decide
 (n48 < (↑k49 : Int))) (loadS 1 false (AV.mp (St.h (Prod.snd (Prod.snd c39))) 1) (Prod.snd c45) fun v50 l51 => idxA 2 v7 n48 (Prod.snd c45) fun v52 _x => loadS 2 true v52 (Prod.snd c45) fun v54 _x => unA v54 fun l57 =>
 unc l57 fun v58 l59 => asS v58 fun l60 => unc l59 fun v61 l62 => un0 l62 (callS (orc vE) 20 [AV.agg [AV.str l60, v61], x1, x2] (Prod.snd c45) fun v63 st64 x65 => unA v63 fun l67 => unc l67 fun v68 l69 => asS v68 fun l70
 => unc l69 fun v71 l72 => un0 l72 (chk (apart (Fx.mk l51 Did.kept) x65 && (apart (Fx.mk [] Did.kept) x65 && true)) (asOne v71 (asOne v71 (fit1 v71 fun v73 => asOne v73 (fit1 v73 fun v74 => appS 2 40 24 v50 [AV.agg
 [AV.str l70, v74]] st64 fun v75 st76 _x => asOne v75 (asOne v75 (storeS (orc vE) 1 (AV.mp (St.h (Prod.snd (Prod.snd c39))) 1) v75 [v75] st76 fun _x st79 _x_1 => letV (IntKind.wrap .i64 (n48 + 1)) fun n81 => some
 (Sum.inl ([AV.int .i64 n81], st79))))))))))) (some (Sum.inr (0, [], Prod.snd c45))))
noncomputable def w20 : AV → AV → AV → St → Option (AV × St) := fun x0 x1 x2 st => unA x0 fun l1 => unc l1 fun v2 l3 => asS v2 fun l4 => unc l3 fun v5 l6 => un0 l6 (asOne v5 (fit1 v5 fun v7 => letSt (St.add st
 (VM.Obj.cells 24 [AV.str [], AV.nils])) fun st8 => bindO (loopO (w20_L1 x1 x2 st l4) ([AV.int .i64 0], st8)) fun c39 => un0 (Prod.fst (Prod.snd c39)) (sel2 (Prod.fst c39) (letSt (St.add (Prod.snd (Prod.snd c39))
 (VM.Obj.cells 24 [AV.str [], AV.nils])) fun st41 => storeS (orc vE) 2 (AV.mp (St.h (Prod.snd (Prod.snd c39))) 0) (AV.agg [AV.str l4, AV.nils]) [AV.str l4, AV.nils] st41 fun _x st43 _x_1 => bindO (loopO (w20_L2 x1 x2 v7
 c39) ([AV.int .i64 0], st43)) fun c82 => un0 (Prod.fst (Prod.snd c82)) (loadS 2 true (AV.mp (St.h (Prod.snd (Prod.snd c39))) 0) (Prod.snd (Prod.snd c82)) fun v83 _x => unA v83 fun l86 => unc l86 fun v87 l88 => asS v87
 fun l89 => unc l88 fun v90 l91 => un0 l91 (asOne v90 (storeS (orc vE) 2 (AV.mp (St.h st) 0) (AV.agg [AV.str l89, v90]) [AV.str l89, v90] (Prod.snd (Prod.snd c82)) fun _x st93 _x_2 => loadS 2 true (AV.mp (St.h st) 0)
 st93 fun v95 _x => unA v95 fun l98 => unc l98 fun v99 l100 => asS v99 fun l101 => unc l100 fun v102 l103 => un0 l103 (some (AV.agg [AV.str l101, v102], st93)))))) fun _x => loadS 2 true (AV.mp (St.h st) 0) (Prod.snd
 (Prod.snd c39)) fun v105 _x => unA v105 fun l108 => unc l108 fun v109 l110 => asS v109 fun l111 => unc l110 fun v112 l113 => un0 l113 (some (AV.agg [AV.str l111, v112], Prod.snd (Prod.snd c39))))))
end Go.Proofs.YtlfilkniobkbiaaDoor.Vm
/- A type in full; are two types that were told the same? -/
namespace Go.Proofs.YtlfilkniobkbiaaDoor.Vm
open Go Go.VM Go.Proofs Go.Ty
/-- A slice, owned or not. -/
def OSl (z : Nat) (x : AV) (es : List AV) : Prop := IsSl z x es ∨ (es.length ≤ 9223372036854775807 ∧ ∃ k, x = .sl z es (.own k))
section
variable {z : Nat} {x : AV} {es : List AV}
theorem OSl.len (h : OSl z x es) {β : Type} (K : Nat → Option β) : lenS x K = K es.length := by
  rcases h with h | ⟨_, k, rfl⟩
  · exact h.len K
  · rfl
theorem OSl.one (h : OSl z x es) : VM.one x = true := by
  rcases h with h | ⟨_, k, rfl⟩
  · exact h.one
  · rfl
theorem OSl.fit1 (h : OSl z x es) : ∃ x', IsSl z x' es ∧ ∀ {β : Type} (K : AV → Option β), VM.fit1 x K = K x' := by
  rcases h with h | ⟨hl, k, rfl⟩
  · exact ⟨x, h, fun K => h.fit1 K⟩
  · exact ⟨.sl z es .wide, IsSl.wide hl, fun K => fit1_own z k es K⟩
theorem OSl.strip (h : OSl z x es) : IsSl z (VM.strip x) es := by
  rcases h with h | ⟨hl, k, rfl⟩
  · rw [h.strip]; exact h
  · exact IsSl.wide hl
theorem OSl.idx (h : OSl z x es) {v : AV} {i : Nat} (hv : es[i]? = some v) {β : Type} (st : St) (K : AV → List Nat → Option β) : idxA z x (i : Int) st K = K (.ip v.cells) [] := by
  rcases h with h | ⟨hl, k, rfl⟩
  · exact h.idx hv st K
  · exact (IsSl.wide hl : IsSl z (.sl z es .wide) es).idx hv st K
theorem own_OSl {st : St} {e : TypeId} (h : Own st z e x es) : OSl z x es := by
  rcases h with ⟨_, hl, ⟨rfl | rfl, rfl⟩ | rfl | ⟨k, rfl, _, _⟩⟩
  · exact .inl IsSl.nils
  · exact .inl IsSl.emp
  · exact .inl (IsSl.shut hl)
  · exact .inr ⟨hl, k, rfl⟩
end
/-- A type's cells, as a call hands them back. -/
def CTo (t : Ty) (x : AV) : Prop := ∃ es, OSl 2 x es ∧ IsTs t.l es
theorem CT.o {t : Ty} {x : AV} (h : CT t x) : CTo t x := by obtain ⟨es, h1, h2⟩ := h; exact ⟨es, .inl h1, h2⟩
theorem CTo.one {t : Ty} {x : AV} (h : CTo t x) : VM.one x = true := by obtain ⟨es, h1, h2⟩ := h; exact h1.one
theorem CTo.asOne {t : Ty} {x : AV} (h : CTo t x) {β : Type} (K : Option β) : VM.asOne x K = K := asOne_of h.one K
theorem CTo.fit1 {t : Ty} {x : AV} (h : CTo t x) : ∃ x', CT t x' ∧ ∀ {β : Type} (K : AV → Option β), VM.fit1 x K = K x' := by
  obtain ⟨es, h1, h2⟩ := h
  obtain ⟨x', h3, h4⟩ := h1.fit1
  exact ⟨x', ⟨es, h3, h2⟩, h4⟩
/-! the same? -/
/-! A type in full. -/
theorem small_len {t : Ty} (h : szT t ≤ 512) : t.l.length ≤ 512 := by
  obtain ⟨n, l⟩ := t
  have := szTs_len l
  simp only [szT] at h
  simp only [Ty.l]; omega
theorem small_args {t : Ty} (h : szT t ≤ 512) : ∀ x ∈ t.l, szT x ≤ 512 := fun x hx => by
  obtain ⟨n, l⟩ := t
  have := szT_mem (show x ∈ l from hx)
  simp only [szT] at h; omega
theorem full_shape {B : Bnd} (hg : Go.Ty.Good B) {x : Ty} (hx : formT x = true) : subT (fl B) x = .mk (Go.Ty.lookT B x).nm (subTs (fl B) (Go.Ty.lookT B x).l) := by
  rw [← lookT_sub hg (Solves.fl hg) x]
  have h1 := lookT_free hg x
  have h2 := lookT_form hg hx
  generalize Go.Ty.lookT B x = y at h1 h2
  cases hv : varB y.nm with
  | true =>
    have : y.l = [] := by obtain ⟨a, b⟩ := y; exact form_var h2 hv
    conv => lhs; rw [Ty.eta y, subT_var hv, fl_none hg h1]
    rw [this]; rfl
  | false =>
    conv => lhs; rw [Ty.eta y, subT_no hv]
/-- What full hands back. -/
def FullP (st : St) (z : Ty) (left : Nat) (r : AV × St) : Prop :=
  ∃ (u : Ty) (v : AV) (l : Int), r.1 = .tup [.agg [.str u.nm, v], .int .i64 l] ∧ CTo u v ∧ Keeps st r.2 (fun _ => False) ∧ (szT z ≤ left → u = z ∧ l = (left : Int) - (szT z : Int)) ∧ (left < szT z → -1000 ≤ l ∧ l < 0)
theorem full_ok {T M : Nat} {B : Bnd} {k0 : Int} (hg : Go.Ty.Good B) (hsm : Sm B) : ∀ (sz : Nat) (st : St) (x : Ty) (vx : AV) (left : Nat), szT (subT (fl B) x) < sz → TbR st T M B k0 → st.ro ≤ st.h → formT x = true → szT x ≤ 512 → left ≤ 512 → CT x vx →
    Goes ((orc vE).wide 37 [.mp T 0, .agg [.str x.nm, vx], .int .i64 (left : Int)] st) (FullP st (subT (fl B) x) left) := by
  intro sz
  induction sz with
  | zero => intro st x vx left h; omega
  | succ sz ih =>
    intro st x vx left hsz ht hro hx hz hleft hv
    have hshape := full_shape hg hx
    have hyf := lookT_form hg hx
    have hyz := Sm.look hsm hz
    refine Goes.wide (Goes.step (w37_eq _ _ _ _) ?_)
    simp only [w37, unA_agg, unc_cons, asS_str, un0_nil, asI_int, hv.asOne]
    refine Goes.walloc (Wv.start hro 2 TTy) fun s1 e1 w1 => Goes.walloc w1 fun s2 e2 w2 => ?_
    refine Goes.vload (a := st.h) (List.mem_cons_of_mem _ List.mem_cons_self) w2.w rfl ?_
    obtain ⟨vy, hvy, hcl⟩ := call_lkup (ht.keep w2.k (fun f => f) (fun f => f)) hg hv
    simp only [unA_agg, unc_cons, asS_str, un0_nil, hcl, hvy.asOne]
    generalize Go.Ty.lookT B x = y at *
    refine Goes.wstore [(s1.h, TTy, z2)] w2 fun s3 _ e3 w3 => ?_
    refine Goes.vload1 (a := st.h) (List.mem_cons_of_mem _ List.mem_cons_self) w3.w (o := 0) rfl ?_
    simp only [asS_str]
    refine Goes.walloc w3 fun s4 e4 w4 => Goes.wstore [] w4 fun s5 _ e5 w5 => ?_
    rw [letV_eq, wrap_i64 (by omega) (by omega)]
    obtain ⟨es, hes, hls⟩ := hvy
    have hlen := hls.len
    have hll := small_len hyz
    have hzz : szT (subT (fl B) x) = 1 + szTs (subTs (fl B) y.l) := by rw [hshape]; rfl
    have hsnoc : ∀ {i : Nat} (hi : i < y.l.length), subTs (fl B) (y.l.take (i + 1)) = subTs (fl B) (y.l.take i) ++ [subT (fl B) y.l[i]] := fun {i} hi => by
      rw [take_snoc hi, subTs_map, subTs_map, List.map_append]; rfl
    refine Goes.bind (R := fun c => ∃ s v ws us lf, c = (0, [.int .i64 lf], s) ∧ Wv st s [(s3.h, TTy, [.str y.nm, v]), (s1.h, TTy, z2)] 2 TTy v ws ∧ IsTs us ws ∧ ((szT (subT (fl B) x) ≤ left ∧ lf = (left : Int) - (szT (subT (fl B) x) : Int) ∧ us = subTs (fl B) y.l) ∨ (left < szT (subT (fl B) x) ∧ -1000 ≤ lf ∧ lf < 0))) ?_ ?_
    · have exitQ : ∀ {i : Nat} (_ : i ≤ y.l.length) (s : St) (v : AV) (ws : List AV) (us : List Ty) (lf : Int), Wv st s [(s3.h, TTy, [.str y.nm, v]), (s1.h, TTy, z2), (st.h, TTy, [.str y.nm, vy])] 2 TTy v ws → IsTs us ws → left < 1 + szTs (subTs (fl B) (y.l.take i)) → -1000 ≤ lf → lf < 0 →
          ∃ s' v ws us lf', ((0 : Nat), ([AV.int .i64 lf], s)) = (0, ([.int .i64 lf'], s')) ∧ Wv st s' [(s3.h, TTy, [.str y.nm, v]), (s1.h, TTy, z2)] 2 TTy v ws ∧ IsTs us ws ∧ ((szT (subT (fl B) x) ≤ left ∧ lf' = (left : Int) - (szT (subT (fl B) x) : Int) ∧ us = subTs (fl B) y.l) ∨ (left < szT (subT (fl B) x) ∧ -1000 ≤ lf' ∧ lf' < 0)) := fun {i} hi s v ws us lf w hu h1 h2 h3 => by
        refine ⟨s, v, ws, us, lf, rfl, w.sub (List.Sublist.cons_cons _ (List.Sublist.cons_cons _ (List.nil_sublist _))), hu, .inr ⟨?_, h2, h3⟩⟩
        have e : szTs (subTs (fl B) y.l) = szTs (subTs (fl B) (y.l.take i)) + szTs (subTs (fl B) (y.l.drop i)) := by
          rw [← szTs_app, subTs_map, subTs_map, subTs_map, ← List.map_append, List.take_append_drop]
        omega
      refine Goes.upto (n := y.l.length) (I := fun i c => ∃ s v ws us lf, c = ([.int .i64 lf, .int .i64 (i : Int)], s) ∧ Wv st s [(s3.h, TTy, [.str y.nm, v]), (s1.h, TTy, z2), (st.h, TTy, [.str y.nm, vy])] 2 TTy v ws ∧ IsTs us ws ∧ us.length ≤ i ∧
          ((1 + szTs (subTs (fl B) (y.l.take i)) ≤ left ∧ lf = (left : Int) - ((1 + szTs (subTs (fl B) (y.l.take i)) : Nat) : Int) ∧ us = subTs (fl B) (y.l.take i)) ∨ (left < 1 + szTs (subTs (fl B) (y.l.take i)) ∧ -1000 ≤ lf ∧ lf < 0))) ?_ ?_ y.l.length 0 _ (by omega) ⟨s5, .nils, [], [], _, rfl, ?_, IsTs.nil, Nat.le_refl _, ?_⟩
      · rintro i c hi ⟨s, v, ws, us, lf, rfl, w, hu, hul, hlf⟩
        have hq : decide ((i : Int) < (es.length : Int)) = true := decide_eq_true (by omega)
        have gx : s.get st.h = .ok (.cells TTy [.str y.nm, vy]) := w.w.get (List.mem_cons_of_mem _ (List.mem_cons_of_mem _ List.mem_cons_self))
        simp only [w37_L1, unc_cons, asI_int, un0_nil, loadS_mp gx, List.drop_succ_cons, List.drop_zero, takeO_one, bindO_ok, hes.len, hq, ifB_true, asB_bool]
        rcases hlf with ⟨h1, rfl, hus⟩ | ⟨h1, h2, h3⟩
        · rw [decide_eq_true (show (left : Int) - ((1 + szTs (subTs (fl B) (y.l.take i)) : Nat) : Int) ≥ 0 by omega)]
          simp only [ifB_true]
          refine Goes.walloc w fun s6 e6 w6 => ?_
          have gx6 : s6.get st.h = .ok (.cells TTy [.str y.nm, vy]) := w6.w.get (List.mem_cons_of_mem _ (List.mem_cons_of_mem _ (List.mem_cons_of_mem _ List.mem_cons_self)))
          obtain ⟨v1, hv1, hV1⟩ := ts_at hls hi
          obtain ⟨x1, rfl, hx1⟩ := isT_iff.1 hV1
          have hm1 : y.l[i] ∈ y.l := List.getElem_mem hi
          have hnl : varB y.nm = false := by
            cases hvv : varB y.nm with
            | false => rfl
            | true =>
              have : y.l = [] := by obtain ⟨a, b⟩ := y; exact form_var hyf hvv
              rw [this] at hi; simp at hi
          have hszi : szT (subT (fl B) y.l[i]) ≤ szTs (subTs (fl B) y.l) := szT_mem (subTs_mem hm1)
          have hlow : szTs (subTs (fl B) (y.l.take (i + 1))) = szTs (subTs (fl B) (y.l.take i)) + szT (subT (fl B) y.l[i]) := by
            rw [hsnoc hi, szTs_app]; simp only [szTs, Nat.add_zero]
          simp only [loadS_mp gx6, List.drop_succ_cons, List.drop_zero, takeO_one, bindO_ok, hes.idx hv1, cells_agg, loadS_ip, takeT2, unA_agg, unc_cons, asS_str, un0_nil]
          have hcall := ih s6 y.l[i] x1 (left - (1 + szTs (subTs (fl B) (y.l.take i)))) (by omega) (ht.keep w6.k (fun f => f) (fun f => f)) w6.w.ro (by obtain ⟨a, b⟩ := y; exact form_args hyf _ hm1) (small_args hyz _ hm1) (by omega) hx1
          rw [show (((left - (1 + szTs (subTs (fl B) (y.l.take i))) : Nat)) : Int) = (left : Int) - ((1 + szTs (subTs (fl B) (y.l.take i)) : Nat) : Int) by omega] at hcall
          refine Goes.callW hcall rfl (by simp [bares_cons, bares, VM.bare.bareAll, VM.bare, VM.strip]) ?_
          rintro r s7 ⟨u, vu, l, rfl, hcu, k7, hA, hB⟩
          have w7 := w6.keeps k7
          simp only [unT_tup, nthS_zero, nthS_one, unA_agg, unc_cons, asS_str, un0_nil, asI_int, hcu.asOne]
          refine Goes.wstore [] w7 fun s8 _ e8 w8 => ?_
          refine Goes.vload1 (a := s3.h) (List.mem_cons_of_mem _ List.mem_cons_self) w8.w (o := 1) rfl ?_
          refine Goes.vload (a := s.h) List.mem_cons_self w8.w rfl ?_
          obtain ⟨vu', hcu', hfit⟩ := hcu.fit1
          simp only [unA_agg, unc_cons, asS_str, un0_nil, hcu.asOne, hfit, hcu'.asOne, hcu'.fit1]
          have hwl := hu.len
          refine Goes.wapp w8 (by omega) (by omega) (by omega) fun v' s9 fx w9 => ?_
          refine Goes.one w9.o.one (Goes.one w9.o.one (Goes.wstoreF [(s.h, TTy, [.str u.nm, vu])] w9 (Nat.le_refl _) fun s10 _ e10 w10 => ?_))
          simp only [letV_eq, wrapA1 (show i + 1 ≤ 9223372036854775807 by omega)]
          refine Goes.inl ⟨s10, v', _, us ++ [u], l, rfl, w10.sub (List.Sublist.cons _ (List.Sublist.refl _)), isTs_snoc hu hcu'.isT, by simp; omega, ?_⟩
          by_cases hfits : szT (subT (fl B) y.l[i]) ≤ left - (1 + szTs (subTs (fl B) (y.l.take i)))
          · obtain ⟨q1, q2⟩ := hA hfits
            refine .inl ⟨by omega, by omega, ?_⟩
            rw [hsnoc hi, q1, hus]
          · obtain ⟨q1, q2⟩ := hB (by omega)
            exact .inr ⟨by omega, q1, q2⟩
        · rw [decide_eq_false (show ¬ lf ≥ 0 by omega)]
          simp only [ifB_false]
          exact Goes.inr (exitQ (by omega) s v ws us lf w hu h1 h2 h3)
      · rintro c ⟨s, v, ws, us, lf, rfl, w, hu, hul, hlf⟩
        have hq : decide (((y.l.length : Nat) : Int) < (es.length : Int)) = false := decide_eq_false (by omega)
        have gx : s.get st.h = .ok (.cells TTy [.str y.nm, vy]) := w.w.get (List.mem_cons_of_mem _ (List.mem_cons_of_mem _ List.mem_cons_self))
        simp only [w37_L1, unc_cons, asI_int, un0_nil, loadS_mp gx, List.drop_succ_cons, List.drop_zero, takeO_one, bindO_ok, hes.len, hq, ifB_false, asB_bool]
        rw [List.take_length] at hlf
        refine Goes.inr ⟨s, v, ws, us, lf, rfl, w.sub (List.Sublist.cons_cons _ (List.Sublist.cons_cons _ (List.nil_sublist _))), hu, ?_⟩
        rw [hzz]
        rcases hlf with ⟨h1, h2, h3⟩ | h
        · exact .inl ⟨h1, h2, h3⟩
        · exact .inr h
      · exact w5
      · by_cases h0 : 1 ≤ left
        · exact .inl ⟨by simpa [subTs, szTs] using h0, by simp [subTs, szTs], rfl⟩
        · exact .inr ⟨by simp [subTs, szTs]; omega, by omega, by omega⟩
    · rintro c ⟨s, v, ws, us, lf, rfl, w, hu, hlf⟩
      simp only [unc_cons, asI_int, un0_nil]
      refine Goes.vload (a := s3.h) List.mem_cons_self w.w rfl ?_
      simp only [unA_agg, unc_cons, asS_str, un0_nil]
      refine Goes.one w.o.one (Goes.wstore [(s3.h, TTy, [.str y.nm, v])] w fun s6 _ e6 w6 => ?_)
      refine Goes.vload (a := s1.h) (List.mem_cons_of_mem _ List.mem_cons_self) w6.w rfl ?_
      simp only [unA_agg, unc_cons, asS_str, un0_nil]
      refine Goes.some ⟨.mk y.nm us, v, lf, rfl, ⟨ws, own_OSl w6.o, hu⟩, w6.k, fun h => ?_, fun h => ?_⟩
      · rcases hlf with ⟨h1, h2, h3⟩ | ⟨h1, _⟩
        · exact ⟨by rw [hshape, h3], h2⟩
        · omega
      · rcases hlf with ⟨h1, _⟩ | ⟨_, h2, h3⟩
        · omega
        · exact ⟨h2, h3⟩
end Go.Proofs.YtlfilkniobkbiaaDoor.Vm
/- The law TyAlike. -/
namespace Go.Proofs.YtlfilkniobkbiaaDoor.Vm
open Go Go.VM Go.Proofs Go.Ty
def emT : Ty := .mk [] []
/-- The answer of Full. -/
def fullO (B : Bnd) (x : Ty) : Ty × Int := if mayT x = true then (if szT (subT (fl B) x) ≤ 512 then (subT (fl B) x, 0) else (emT, 40)) else (emT, 4)
theorem CT.em : CT emT .nils := ⟨[], IsSl.nils, IsTs.nil⟩
theorem Full_ok {st : St} {T M : Nat} {U : List Tx} {B : Bnd} {k0 : Int} (w : TbR st T M B k0) (hb : TbG U B) (hro : st.ro ≤ st.h) {x : Ty} {vx : AV} (hv : CT x vx) :
    Goes ((orc vE).wide 16 [.mp T 0, .agg [.str x.nm, vx]] st) (fun r => ∃ v, r.1 = .tup [.agg [.str (fullO B x).1.nm, v], .int .i64 (fullO B x).2] ∧ CTo (fullO B x).1 v ∧ Keeps st r.2 (fun _ => False)) := by
  refine Goes.wide (Goes.step (w16_eq _ _ _) ?_)
  simp only [w16, unA_agg, unc_cons, asS_str, un0_nil, hv.asOne, hv.fit1, nil_ptrT, ifB_false]
  refine Goes.xalloc (Wx.start hro (fun _ => False)) fun s1 e1 w1 k1 => ?_
  refine Goes.callB (may_prog hv.isT) rfl (by rw [List.map_cons, List.map_nil, hv.b.2]) (by simp only [bares_cons, hv.b.1]; rfl) ?_
  simp only [asB_bool]
  cases hm : mayT x with
  | false =>
    have hf : fullO B x = (emT, 4) := by unfold fullO; rw [if_neg (by rw [hm]; simp)]
    simp only [Bool.not_false, ifB_true]
    refine Goes.xst [] w1 fun s2 e2 w2 k2 => ?_
    refine Goes.vload List.mem_cons_self w2.w rfl ?_
    simp only [unA_agg, unc_cons, asS_str, un0_nil]
    exact Goes.some ⟨.nils, by rw [hf]; rfl, by rw [hf]; exact CT.em.o, w2.k⟩
  | true =>
    obtain ⟨fx, zx⟩ := may_form hm
    simp only [Bool.not_true, ifB_false]
    have hc := full_ok (k0 := k0) (T := T) (M := M) hb.good hb.sm _ s1 x vx 512 (Nat.lt_succ_self _) (w.keep w1.k (fun f => f) (fun f => f)) w1.w.ro fx zx (Nat.le_refl _) hv
    refine Goes.callW hc rfl (by simp [bares_cons, bares, VM.bare.bareAll, VM.bare, VM.strip]) ?_
    rintro r s2 ⟨u, v, l, rfl, hu, k2, hA, hB⟩
    simp only [unT_tup, nthS_zero, nthS_one, unA_agg, unc_cons, asS_str, un0_nil, asI_int, hu.asOne]
    have w2 : Wx (fun _ => False) st s2 [(st.h, TTy, z2)] := ⟨w1.w.keeps k2 (fun _ _ f => f), w1.k.trans k2, w1.ge⟩
    refine Goes.xalloc w2 fun s3 e3 w3 k3 => Goes.xst [] w3 fun s4 e4 w4 k4 => ?_
    by_cases hs : szT (subT (fl B) x) ≤ 512
    · obtain ⟨q1, q2⟩ := hA hs
      subst q1
      have hf : fullO B x = (subT (fl B) x, 0) := by unfold fullO; rw [if_pos hm, if_pos hs]
      rw [decide_eq_false (show ¬ l < 0 by omega)]
      simp only [ifB_false]
      refine Goes.vload List.mem_cons_self w4.w rfl ?_
      simp only [unA_agg, unc_cons, asS_str, un0_nil, hu.asOne]
      refine Goes.xst [(s2.h, TTy, [.str (subT (fl B) x).nm, v])] w4 fun s5 e5 w5 k5 => ?_
      refine Goes.vload (List.mem_cons_of_mem _ List.mem_cons_self) w5.w rfl ?_
      simp only [unA_agg, unc_cons, asS_str, un0_nil]
      exact Goes.some ⟨v, by rw [hf], by rw [hf]; exact hu, w5.k⟩
    · obtain ⟨q1, q2⟩ := hB (by omega)
      have hf : fullO B x = (emT, 40) := by unfold fullO; rw [if_pos hm, if_neg hs]
      rw [decide_eq_true (show l < 0 by omega)]
      simp only [ifB_true]
      refine Goes.xst [(s2.h, TTy, [.str u.nm, v])] w4 fun s5 e5 w5 k5 => ?_
      refine Goes.vload (List.mem_cons_of_mem _ List.mem_cons_self) w5.w rfl ?_
      simp only [unA_agg, unc_cons, asS_str, un0_nil]
      exact Goes.some ⟨.nils, by rw [hf]; rfl, by rw [hf]; exact CT.em.o, w5.k⟩
theorem new_ok {st : St} (hro : st.ro ≤ st.h) : Goes ((orc vE).wide 15 [] st) (fun r => ∃ T M, r.1 = .mp T 0 ∧ Tb r.2 T M [] 0 ∧ Keeps st r.2 (fun _ => False) ∧ r.2.ro ≤ r.2.h ∧ st.h ≤ T ∧ st.h ≤ M) := by
  refine Goes.wide (Goes.step (w15_eq _) ?_)
  simp only [w15]
  refine Goes.lets (Goes.lets (Goes.some ⟨st.h + 1, st.h, rfl, ⟨⟨St.get_add_new, [], St.get_add_old St.get_add_new, rfl⟩, Nat.le_succ_of_le hro, hro⟩, (Keeps.add _ _ _).trans (Keeps.add _ _ _), ?_, Nat.le_succ _, Nat.le_refl _⟩))
  show st.ro ≤ st.h + 1 + 1
  omega
/-! few -/
/-! a universe of bounded size -/
mutual
def vlT : Ty → List Tx
  | .mk nm l => if varB nm = true then [nm] else vlTs l
def vlTs : List Ty → List Tx
  | [] => []
  | t :: l => vlT t ++ vlTs l
end
mutual
theorem vlT_in {n : Tx} : ∀ (t : Ty), occB n t = true → n ∈ vlT t
  | .mk nm l, h => by
    simp only [vlT]
    cases hv : varB nm with
    | true => rw [occB_var hv, beq_iff_eq] at h; simp [h]
    | false => rw [occB_no hv] at h; simp only [Bool.false_eq_true, if_false]; exact vlTs_in l h
theorem vlTs_in {n : Tx} : ∀ (l : List Ty), occBs n l = true → n ∈ vlTs l
  | [], h => by simp [occBs] at h
  | t :: l, h => by
    simp only [occBs, Bool.or_eq_true] at h
    simp only [vlTs, List.mem_append]
    exact h.imp (vlT_in t) (vlTs_in l)
end
/-! the law -/
abbrev TBl : TypeId := 4
/-- What is known in the law's loops. -/
structure LawW (st : St) (T M dn : Nat) (U : List Tx) (B : Bnd) (ds : List Bool) : Prop where
  tb : Tb st T M B 0
  g : TbG U B
  d : st.get dn = .ok (.cells TBl (ds.map .bool))
  rd : st.ro ≤ dn
  ro : st.ro ≤ st.h
theorem LawW.keep {st s : St} {T M dn : Nat} {U : List Tx} {B : Bnd} {ds : List Bool} {X : Nat → Prop} (h : LawW st T M dn U B ds) (k : Keeps st s X) (h1 : ¬ X T) (h2 : ¬ X M) (h3 : ¬ X dn) : LawW s T M dn U B ds :=
  ⟨h.tb.keep k h1 h2, h.g, k.old _ _ h3 h.d, by rw [k.ro]; exact h.rd, by rw [k.ro]; exact Nat.le_trans h.ro k.h⟩
theorem LawW.keep0 {st s : St} {T M dn : Nat} {U : List Tx} {B : Bnd} {ds : List Bool} (h : LawW st T M dn U B ds) (k : Keeps st s (fun _ => False)) : LawW s T M dn U B ds := h.keep k (fun f => f) (fun f => f) (fun f => f)
end Go.Proofs.YtlfilkniobkbiaaDoor.Vm
/- The law TyAlike: its loops. -/
namespace Go.Proofs.YtlfilkniobkbiaaDoor.Vm
open Go Go.VM Go.Proofs Go.Ty
end Go.Proofs.YtlfilkniobkbiaaDoor.Vm
/- Types put in the place of variables. -/
namespace Go.Proofs.YtlfilkniobkbiaaDoor.Vm
open Go Go.VM Go.Proofs Go.Ty
section
variable {x1 x2 : AV} {vs : List Tx} {ls : List Ty} {fs : List AV}
end
end Go.Proofs.YtlfilkniobkbiaaDoor.Vm
/- The law TyLeast. -/
namespace Go.Proofs.YtlfilkniobkbiaaDoor.Vm
open Go Go.VM Go.Proofs Go.Ty
end Go.Proofs.YtlfilkniobkbiaaDoor.Vm
namespace Go.Proofs.YtlfilkniobkbiaaDoor.Vm
open Go Go.VM Go.Proofs
/-- rostrum/rostrumlaw16.TyNames -/
noncomputable def g7_L1 (st418 : St) : Car → Option (Car ⊕ Nat × Car) := fun c431 => unc (Prod.fst c431) fun v432 l433 => asI .i64 v432 fun n434 => un0 l433 (ifB (decide (n434 < 7)) (loadS 2 true (AV.mp (St.h st418) 0)
 (Prod.snd c431) fun v435 _x => unA v435 fun l438 => unc l438 fun v439 l440 => asS v439 fun l441 => unc l440 fun v442 l443 => un0 l443 (loadS 2 true (AV.mp (St.h st418) 0) (Prod.snd c431) fun v444 _x => unA v444 fun l447
 => unc l447 fun v448 l449 => asS v448 fun l450 => unc l449 fun v451 l452 => un0 l452 (callS (orc vE) 26 [AV.agg [AV.str l441, v442], AV.agg [AV.str l450, v451]] (Prod.snd c431) fun v453 st454 _x => unA v453 fun l457 =>
 unc l457 fun v458 l459 => asS v458 fun l460 => unc l459 fun v461 l462 => un0 l462 (asOne v461 (storeS (orc vE) 2 (AV.mp (St.h st418) 0) (AV.agg [AV.str l460, v461]) [AV.str l460, v461] st454 fun _x st464 _x_1 => letV
 (IntKind.wrap .i64 (n434 + 1)) fun n466 => some (Sum.inl ([AV.int .i64 n466], st464))))))) (some (Sum.inr (0, [], Prod.snd c431))))
noncomputable def g7 : Option AV := callS (orc vE) 22 [] (St.mk 0 0 Tr.leaf) fun v0 st1 _x => unA v0 fun l4 => unc l4 fun v5 l6 => asS v5 fun l7 => unc l6 fun v8 l9 => un0 l9 (callS (orc vE) 16 [AV.nilp, AV.agg [AV.str
 l7, v8]] st1 fun v10 st11 _x => unT v10 fun l13 => nthS l13 0 fun v14 => unA v14 fun l16 => unc l16 fun v17 l18 => asS v17 fun l19 => unc l18 fun v20 l21 => un0 l21 (unT v10 fun l22 => nthS l22 1 fun v23 => asI .i64 v23
 fun n24 => letSt (St.add st11 (VM.Obj.cells 24 [AV.str [], AV.nils])) fun st25 => asOne v20 (storeS (orc vE) 2 (AV.mp (St.h st11) 0) (AV.agg [AV.str l19, v20]) [AV.str l19, v20] st25 fun _x st27 _x_1 => callS (orc vE)
 22 [] st27 fun v29 st30 _x => unA v29 fun l33 => unc l33 fun v34 l35 => asS v34 fun l36 => unc l35 fun v37 l38 => un0 l38 (callS (orc vE) 23 [AV.nilp, AV.agg [AV.str l36, v37], AV.nils] st30 fun v39 st40 _x => unT v39
 fun l42 => nthS l42 0 fun v43 => unA v43 fun l45 => unc l45 fun v46 l47 => unc l47 fun v48 l49 => asS v48 fun l50 => unc l49 fun v51 l52 => un0 l52 (unT v39 fun l53 => nthS l53 1 fun v54 => asI .i64 v54 fun n55 => letSt
 (St.add st40 (VM.Obj.cells 45 [AV.nils, AV.str [], AV.nils])) fun st56 => asOne v46 (asOne v51 (storeS (orc vE) 3 (AV.mp (St.h st40) 0) (AV.agg [v46, AV.str l50, v51]) [v46, AV.str l50, v51] st56 fun _x st58 _x_2 =>
 callS (orc vE) 22 [] st58 fun v60 st61 _x => unA v60 fun l64 => unc l64 fun v65 l66 => asS v65 fun l67 => unc l66 fun v68 l69 => un0 l69 (callS (orc vE) 24 [AV.nilp, AV.agg [AV.nils, AV.str l67, v68]] st61 fun v71 st72
 _x => unT v71 fun l74 => nthS l74 0 fun v75 => unA v75 fun l77 => unc l77 fun v78 l79 => asS v78 fun l80 => unc l79 fun v81 l82 => un0 l82 (unT v71 fun l83 => nthS l83 1 fun v84 => asI .i64 v84 fun n85 => letSt (St.add
 st72 (VM.Obj.cells 24 [AV.str [], AV.nils])) fun st86 => asOne v81 (storeS (orc vE) 2 (AV.mp (St.h st72) 0) (AV.agg [AV.str l80, v81]) [AV.str l80, v81] st86 fun _x st88 _x_3 => callS (orc vE) 15 [] st88 fun v90 st91 _x
 => callS (orc vE) 25 [AV.str [97]] st91 fun v93 st94 _x => unA v93 fun l97 => unc l97 fun v98 l99 => asS v98 fun l100 => unc l99 fun v101 l102 => un0 l102 (callS (orc vE) 24 [v90, AV.agg [AV.sl 1 [AV.str [39, 97],
 AV.str [39, 97]] Perm.shut, AV.str l100, v101]] st94 fun v104 st105 _x => unT v104 fun l107 => nthS l107 0 fun v108 => unA v108 fun l110 => unc l110 fun v111 l112 => asS v111 fun l113 => unc l112 fun v114 l115 => un0
 l115 (unT v104 fun l116 => nthS l116 1 fun v117 => asI .i64 v117 fun n118 => letSt (St.add st105 (VM.Obj.cells 24 [AV.str [], AV.nils])) fun st119 => asOne v114 (storeS (orc vE) 2 (AV.mp (St.h st105) 0) (AV.agg [AV.str
 l113, v114]) [AV.str l113, v114] st119 fun _x st121 _x_4 => bindO (ifB (n118 != 0) (some ([AV.bool true], st121)) (loadS 1 false (AV.mp (St.h st105) 0) st121 fun v123 _x => asS v123 fun l125 => ifB (!l125 == [39, 49])
 (some ([AV.bool true], st121)) (callS (orc vE) 22 [] st121 fun v126 st127 _x => unA v126 fun l130 => unc l130 fun v131 l132 => asS v131 fun l133 => unc l132 fun v134 l135 => un0 l135 (callS (orc vE) 22 [] st127 fun v136
 st137 _x => unA v136 fun l140 => unc l140 fun v141 l142 => asS v141 fun l143 => unc l142 fun v144 l145 => un0 l145 (callS (orc vE) 22 [] st137 fun v146 st147 _x => unA v146 fun l150 => unc l150 fun v151 l152 => asS v151
 fun l153 => unc l152 fun v154 l155 => un0 l155 (asOne v134 (asOne v144 (asOne v154 (asOne v134 (fit1 v134 fun v156 => asOne v144 (fit1 v144 fun v157 => asOne v154 (fit1 v154 fun v158 => callS (orc vE) 22 [] st147 fun
 v160 st161 _x => unA v160 fun l164 => unc l164 fun v165 l166 => asS v165 fun l167 => unc l166 fun v168 l169 => un0 l169 (callS (orc vE) 22 [] st161 fun v170 st171 _x => unA v170 fun l174 => unc l174 fun v175 l176 => asS
 v175 fun l177 => unc l176 fun v178 l179 => un0 l179 (callS (orc vE) 26 [AV.agg [AV.str l167, v168], AV.agg [AV.str l177, v178]] st171 fun v180 st181 _x => unA v180 fun l184 => unc l184 fun v185 l186 => asS v185 fun l187
 => unc l186 fun v188 l189 => un0 l189 (callS (orc vE) 17 [v90, AV.agg [AV.str [116, 117, 112, 108, 101], AV.sl 2 [AV.agg [AV.str l133, v156], AV.agg [AV.str l143, v157], AV.agg [AV.str l153, v158]] Perm.shut], AV.agg
 [AV.str l187, v188]] st181 fun v190 st191 _x => asI .i64 v190 fun n193 => some ([AV.bool (n193 != 65)], st191)))))))))))))))) fun c194 => unc (Prod.fst c194) fun v195 l196 => asB v195 fun b197 => un0 l196 (ifB b197
 (some (AV.bool false)) (callS (orc vE) 15 [] (Prod.snd c194) fun v198 st199 _x => callS (orc vE) 25 [AV.str [97]] st199 fun v201 st202 _x => unA v201 fun l205 => unc l205 fun v206 l207 => asS v206 fun l208 => unc l207
 fun v209 l210 => un0 l210 (callS (orc vE) 25 [AV.str [97]] st202 fun v211 st212 _x => unA v211 fun l215 => unc l215 fun v216 l217 => asS v216 fun l218 => unc l217 fun v219 l220 => un0 l220 (callS (orc vE) 27 [AV.agg
 [AV.str l218, v219]] st212 fun v221 st222 _x => unA v221 fun l225 => unc l225 fun v226 l227 => asS v226 fun l228 => unc l227 fun v229 l230 => un0 l230 (callS (orc vE) 17 [v198, AV.agg [AV.str l208, v209], AV.agg [AV.str
 l228, v229]] st222 fun v231 st232 _x => asI .i64 v231 fun n234 => callS (orc vE) 22 [] st232 fun v235 st236 _x => unA v235 fun l239 => unc l239 fun v240 l241 => asS v240 fun l242 => unc l241 fun v243 l244 => un0 l244
 (callS (orc vE) 17 [v198, AV.agg [AV.str l242, v243], AV.agg [AV.str [98, 111, 111, 108], AV.nils]] st236 fun v246 st247 _x => asI .i64 v246 fun n249 => callS (orc vE) 22 [] st247 fun v250 st251 _x => unA v250 fun l254
 => unc l254 fun v255 l256 => asS v255 fun l257 => unc l256 fun v258 l259 => un0 l259 (callS (orc vE) 17 [v198, AV.agg [AV.str l257, v258], AV.agg [AV.str [110, 111, 110, 101], AV.nils]] st251 fun v261 st262 _x => asI
 .i64 v261 fun n264 => callS (orc vE) 22 [] st262 fun v265 st266 _x => unA v265 fun l269 => unc l269 fun v270 l271 => asS v270 fun l272 => unc l271 fun v273 l274 => un0 l274 (callS (orc vE) 22 [] st266 fun v275 st276 _x
 => unA v275 fun l279 => unc l279 fun v280 l281 => asS v280 fun l282 => unc l281 fun v283 l284 => un0 l284 (callS (orc vE) 26 [AV.agg [AV.str l272, v273], AV.agg [AV.str l282, v283]] st276 fun v285 st286 _x => unA v285
 fun l289 => unc l289 fun v290 l291 => asS v290 fun l292 => unc l291 fun v293 l294 => un0 l294 (callS (orc vE) 22 [] st286 fun v295 st296 _x => unA v295 fun l299 => unc l299 fun v300 l301 => asS v300 fun l302 => unc l301
 fun v303 l304 => un0 l304 (callS (orc vE) 22 [] st296 fun v305 st306 _x => unA v305 fun l309 => unc l309 fun v310 l311 => asS v310 fun l312 => unc l311 fun v313 l314 => un0 l314 (callS (orc vE) 22 [] st306 fun v315
 st316 _x => unA v315 fun l319 => unc l319 fun v320 l321 => asS v320 fun l322 => unc l321 fun v323 l324 => un0 l324 (asOne v303 (asOne v313 (asOne v323 (asOne v303 (fit1 v303 fun v325 => asOne v313 (fit1 v313 fun v326 =>
 asOne v323 (fit1 v323 fun v327 => callS (orc vE) 17 [v198, AV.agg [AV.str l292, v293], AV.agg [AV.str [116, 117, 112, 108, 101], AV.sl 2 [AV.agg [AV.str l302, v325], AV.agg [AV.str l312, v326], AV.agg [AV.str l322,
 v327]] Perm.shut]] st316 fun v329 st330 _x => asI .i64 v329 fun n332 => callS (orc vE) 25 [AV.str [97]] st330 fun v333 st334 _x => unA v333 fun l337 => unc l337 fun v338 l339 => asS v338 fun l340 => unc l339 fun v341
 l342 => un0 l342 (callS (orc vE) 22 [] st334 fun v343 st344 _x => unA v343 fun l347 => unc l347 fun v348 l349 => asS v348 fun l350 => unc l349 fun v351 l352 => un0 l352 (callS (orc vE) 26 [AV.agg [AV.str l340, v341],
 AV.agg [AV.str l350, v351]] st344 fun v353 st354 _x => unA v353 fun l357 => unc l357 fun v358 l359 => asS v358 fun l360 => unc l359 fun v361 l362 => un0 l362 (callS (orc vE) 22 [] st354 fun v363 st364 _x => unA v363 fun
 l367 => unc l367 fun v368 l369 => asS v368 fun l370 => unc l369 fun v371 l372 => un0 l372 (callS (orc vE) 26 [AV.agg [AV.str l370, v371], AV.agg [AV.str [98, 111, 111, 108], AV.nils]] st364 fun v374 st375 _x => unA v374
 fun l378 => unc l378 fun v379 l380 => asS v379 fun l381 => unc l380 fun v382 l383 => un0 l383 (callS (orc vE) 17 [v198, AV.agg [AV.str l360, v361], AV.agg [AV.str l381, v382]] st375 fun v384 st385 _x => asI .i64 v384
 fun n387 => callS (orc vE) 25 [AV.str [97]] st385 fun v388 st389 _x => unA v388 fun l392 => unc l392 fun v393 l394 => asS v393 fun l395 => unc l394 fun v396 l397 => un0 l397 (callS (orc vE) 16 [v198, AV.agg [AV.str
 l395, v396]] st389 fun v398 st399 _x => unT v398 fun l401 => nthS l401 0 fun v402 => unA v402 fun l404 => unc l404 fun v405 l406 => asS v405 fun l407 => unc l406 fun v408 l409 => un0 l409 (unT v398 fun l410 => nthS l410
 1 fun v411 => asI .i64 v411 fun n412 => letSt (St.add st399 (VM.Obj.cells 24 [AV.str [], AV.nils])) fun st413 => asOne v408 (storeS (orc vE) 2 (AV.mp (St.h st399) 0) (AV.agg [AV.str l407, v408]) [AV.str l407, v408]
 st413 fun _x st415 _x_5 => callS (orc vE) 22 [] st415 fun v417 st418 _x => unA v417 fun l421 => unc l421 fun v422 l423 => asS v422 fun l424 => unc l423 fun v425 l426 => un0 l426 (letSt (St.add st418 (VM.Obj.cells 24
 [AV.str [], AV.nils])) fun st427 => asOne v425 (storeS (orc vE) 2 (AV.mp (St.h st418) 0) (AV.agg [AV.str l424, v425]) [AV.str l424, v425] st427 fun _x st429 _x_6 => bindO (loopO (g7_L1 st418) ([AV.int .i64 0], st429))
 fun c467 => un0 (Prod.fst (Prod.snd c467)) (callS (orc vE) 25 [AV.str [98]] (Prod.snd (Prod.snd c467)) fun v468 st469 x470 => unA v468 fun l472 => unc l472 fun v473 l474 => asS v473 fun l475 => unc l474 fun v476 l477 =>
 un0 l477 (chk (apart (Fx.mk [] Did.kept) x470 && true) (loadS 2 true (AV.mp (St.h st418) 0) st469 fun v478 l479 => unA v478 fun l481 => unc l481 fun v482 l483 => asS v482 fun l484 => unc l483 fun v485 l486 => un0 l486
 (chk (apart x470 (Fx.mk l479 Did.kept) && true) (callS (orc vE) 25 [AV.str [99]] st469 fun v487 st488 x489 => unA v487 fun l491 => unc l491 fun v492 l493 => asS v492 fun l494 => unc l493 fun v495 l496 => un0 l496 (chk
 (apart (Fx.mk l479 Did.kept) x489 && (apart (Fx.mk [] Did.kept) x489 && true)) (callS (orc vE) 26 [AV.agg [AV.str l484, v485], AV.agg [AV.str l494, v495]] st488 fun v497 st498 x499 => unA v497 fun l501 => unc l501 fun
 v502 l503 => asS v502 fun l504 => unc l503 fun v505 l506 => un0 l506 (chk (apart (Fx.mk [] Did.kept) x499 && true) (callS (orc vE) 17 [v198, AV.agg [AV.str l475, v476], AV.agg [AV.str l504, v505]] st498 fun v507 st508
 _x => asI .i64 v507 fun n510 => callS (orc vE) 25 [AV.str [99]] st508 fun v511 st512 x513 => unA v511 fun l515 => unc l515 fun v516 l517 => asS v516 fun l518 => unc l517 fun v519 l520 => un0 l520 (chk (apart (Fx.mk []
 Did.kept) x513 && true) (loadS 2 true (AV.mp (St.h st418) 0) st512 fun v521 l522 => unA v521 fun l524 => unc l524 fun v525 l526 => asS v525 fun l527 => unc l526 fun v528 l529 => un0 l529 (chk (apart x513 (Fx.mk l522
 Did.kept) && true) (callS (orc vE) 25 [AV.str [100]] st512 fun v530 st531 x532 => unA v530 fun l534 => unc l534 fun v535 l536 => asS v535 fun l537 => unc l536 fun v538 l539 => un0 l539 (chk (apart (Fx.mk l522 Did.kept)
 x532 && (apart (Fx.mk [] Did.kept) x532 && true)) (callS (orc vE) 26 [AV.agg [AV.str l527, v528], AV.agg [AV.str l537, v538]] st531 fun v540 st541 x542 => unA v540 fun l544 => unc l544 fun v545 l546 => asS v545 fun l547
 => unc l546 fun v548 l549 => un0 l549 (chk (apart (Fx.mk [] Did.kept) x542 && true) (callS (orc vE) 17 [v198, AV.agg [AV.str l518, v519], AV.agg [AV.str l547, v548]] st541 fun v550 st551 _x => asI .i64 v550 fun n553 =>
 callS (orc vE) 25 [AV.str [99]] st551 fun v554 st555 _x => unA v554 fun l558 => unc l558 fun v559 l560 => asS v559 fun l561 => unc l560 fun v562 l563 => un0 l563 (callS (orc vE) 16 [v198, AV.agg [AV.str l561, v562]]
 st555 fun v564 st565 _x => unT v564 fun l567 => nthS l567 0 fun v568 => unA v568 fun l570 => unc l570 fun v571 l572 => asS v571 fun l573 => unc l572 fun v574 l575 => un0 l575 (unT v564 fun l576 => nthS l576 1 fun v577
 => asI .i64 v577 fun n578 => letSt (St.add st565 (VM.Obj.cells 24 [AV.str [], AV.nils])) fun st579 => asOne v574 (storeS (orc vE) 2 (AV.mp (St.h st565) 0) (AV.agg [AV.str l573, v574]) [AV.str l573, v574] st579 fun _x
 st581 _x_7 => callS (orc vE) 25 [AV.str [98]] st581 fun v583 st584 _x => unA v583 fun l587 => unc l587 fun v588 l589 => asS v588 fun l590 => unc l589 fun v591 l592 => un0 l592 (callS (orc vE) 16 [v198, AV.agg [AV.str
 l590, v591]] st584 fun v593 st594 _x => unT v593 fun l596 => nthS l596 0 fun v597 => unA v597 fun l599 => unc l599 fun v600 l601 => asS v600 fun l602 => unc l601 fun v603 l604 => un0 l604 (unT v593 fun l605 => nthS l605
 1 fun v606 => asI .i64 v606 fun n607 => letSt (St.add st594 (VM.Obj.cells 24 [AV.str [], AV.nils])) fun st608 => asOne v603 (storeS (orc vE) 2 (AV.mp (St.h st594) 0) (AV.agg [AV.str l602, v603]) [AV.str l602, v603]
 st608 fun _x st610 _x_8 => callS (orc vE) 25 [AV.str [98]] st610 fun v612 st613 _x => unA v612 fun l616 => unc l616 fun v617 l618 => asS v617 fun l619 => unc l618 fun v620 l621 => un0 l621 (callS (orc vE) 23 [v198,
 AV.agg [AV.str l619, v620], AV.nils] st613 fun v622 st623 _x => unT v622 fun l625 => nthS l625 0 fun v626 => unA v626 fun l628 => unc l628 fun v629 l630 => unc l630 fun v631 l632 => asS v631 fun l633 => unc l632 fun
 v634 l635 => un0 l635 (unT v622 fun l636 => nthS l636 1 fun v637 => asI .i64 v637 fun n638 => letSt (St.add st623 (VM.Obj.cells 45 [AV.nils, AV.str [], AV.nils])) fun st639 => asOne v629 (asOne v634 (storeS (orc vE) 3
 (AV.mp (St.h st623) 0) (AV.agg [v629, AV.str l633, v634]) [v629, AV.str l633, v634] st639 fun _x st641 _x_9 => callS (orc vE) 25 [AV.str [100]] st641 fun v643 st644 _x => unA v643 fun l647 => unc l647 fun v648 l649 =>
 asS v648 fun l650 => unc l649 fun v651 l652 => un0 l652 (callS (orc vE) 25 [AV.str [98]] st644 fun v653 st654 _x => unA v653 fun l657 => unc l657 fun v658 l659 => asS v658 fun l660 => unc l659 fun v661 l662 => un0 l662
 (callS (orc vE) 22 [] st654 fun v663 st664 _x => unA v663 fun l667 => unc l667 fun v668 l669 => asS v668 fun l670 => unc l669 fun v671 l672 => un0 l672 (callS (orc vE) 26 [AV.agg [AV.str l660, v661], AV.agg [AV.str
 l670, v671]] st664 fun v673 st674 _x => unA v673 fun l677 => unc l677 fun v678 l679 => asS v678 fun l680 => unc l679 fun v681 l682 => un0 l682 (callS (orc vE) 17 [v198, AV.agg [AV.str l650, v651], AV.agg [AV.str l680,
 v681]] st674 fun v683 st684 _x => asI .i64 v683 fun n686 => callS (orc vE) 25 [AV.str [120]] st684 fun v687 st688 _x => unA v687 fun l691 => unc l691 fun v692 l693 => asS v692 fun l694 => unc l693 fun v695 l696 => un0
 l696 (callS (orc vE) 25 [AV.str [121]] st688 fun v697 st698 _x => unA v697 fun l701 => unc l701 fun v702 l703 => asS v702 fun l704 => unc l703 fun v705 l706 => un0 l706 (callS (orc vE) 25 [AV.str [120]] st698 fun v707
 st708 _x => unA v707 fun l711 => unc l711 fun v712 l713 => asS v712 fun l714 => unc l713 fun v715 l716 => un0 l716 (callS (orc vE) 26 [AV.agg [AV.str l704, v705], AV.agg [AV.str l714, v715]] st708 fun v717 st718 _x =>
 unA v717 fun l721 => unc l721 fun v722 l723 => asS v722 fun l724 => unc l723 fun v725 l726 => un0 l726 (callS (orc vE) 25 [AV.str [120]] st718 fun v727 st728 _x => unA v727 fun l731 => unc l731 fun v732 l733 => asS v732
 fun l734 => unc l733 fun v735 l736 => un0 l736 (callS (orc vE) 25 [AV.str [122]] st728 fun v737 st738 _x => unA v737 fun l741 => unc l741 fun v742 l743 => asS v742 fun l744 => unc l743 fun v745 l746 => un0 l746 (callS
 (orc vE) 28 [AV.agg [AV.str l734, v735], AV.agg [AV.str l744, v745]] st738 fun v747 st748 _x => unA v747 fun l751 => unc l751 fun v752 l753 => asS v752 fun l754 => unc l753 fun v755 l756 => un0 l756 (callS (orc vE) 27
 [AV.agg [AV.str l754, v755]] st748 fun v757 st758 _x => unA v757 fun l761 => unc l761 fun v762 l763 => asS v762 fun l764 => unc l763 fun v765 l766 => un0 l766 (asOne v695 (asOne v725 (asOne v765 (asOne v695 (fit1 v695
 fun v767 => asOne v725 (fit1 v725 fun v768 => asOne v765 (fit1 v765 fun v769 => letSt (St.add st758 (VM.Obj.cells 24 [AV.str [], AV.nils])) fun st771 => storeS (orc vE) 2 (AV.mp (St.h st758) 0) (AV.agg [AV.str [116,
 117, 112, 108, 101], AV.sl 2 [AV.agg [AV.str l694, v767], AV.agg [AV.str l724, v768], AV.agg [AV.str l764, v769]] Perm.shut]) [AV.str [116, 117, 112, 108, 101], AV.sl 2 [AV.agg [AV.str l694, v767], AV.agg [AV.str l724,
 v768], AV.agg [AV.str l764, v769]] Perm.shut] st771 fun _x st773 _x_10 => bindO (callS (orc vE) 22 [] st773 fun v775 st776 _x => unA v775 fun l779 => unc l779 fun v780 l781 => asS v780 fun l782 => unc l781 fun v783 l784
 => un0 l784 (callS (orc vE) 22 [] st776 fun v785 st786 _x => unA v785 fun l789 => unc l789 fun v790 l791 => asS v790 fun l792 => unc l791 fun v793 l794 => un0 l794 (callS (orc vE) 17 [AV.nilp, AV.agg [AV.str l782,
 v783], AV.agg [AV.str l792, v793]] st786 fun v795 st796 _x => asI .i64 v795 fun n798 => ifB (n798 == 2) (ifB (n24 == 2) (ifB (n55 == 2) (ifB (n85 == 2) (callS (orc vE) 29 [AV.nilp] st796 fun v799 st800 _x => unA v799
 fun l803 => unc l803 fun v804 l805 => asS v804 fun l806 => unc l805 fun _x l808 => un0 l808 (ifB (l806 == []) (callS (orc vE) 30 [AV.nilp] st800 fun v809 st810 _x => nilS (U.ptr 63) v809 AV.nilp fun b812 => ifB b812
 (ifB (n234 == 66) (ifB (n249 == 65) (ifB (n264 == 4) (ifB (n332 == 65) (ifB (n387 == 65) (loadS 1 false (AV.mp (St.h st399) 0) st810 fun v813 _x => asS v813 fun l815 => ifB (l815 == [39, 97]) (ifB (n412 == 0) (ifB (n510
 == 0) (ifB (n553 == 0) (ifB (n578 == 0) (ifB (n607 == 40) (ifB (n638 == 40) (ifB (n686 == 66) (callS (orc vE) 29 [v198] st810 fun v816 st817 _x => unA v816 fun l820 => unc l820 fun v821 l822 => asS v821 fun l823 => unc
 l822 fun _x l825 => un0 l825 (ifB (l823 == [39, 49]) (callS (orc vE) 29 [v198] st817 fun v826 st827 _x => unA v826 fun l830 => unc l830 fun v831 l832 => asS v831 fun l833 => unc l832 fun _x l835 => un0 l835 (ifB (l833
 == [39, 50]) (loadS 2 true (AV.mp (St.h st758) 0) st827 fun v836 _x => unA v836 fun l839 => unc l839 fun v840 l841 => asS v840 fun l842 => unc l841 fun v843 l844 => un0 l844 (callS (orc vE) 12 [AV.agg [AV.str l842,
 v843]] st827 fun v845 st846 _x => asS v845 fun l848 => ifB (l848 == [39, 97, 32, 42, 32, 40, 39, 98, 32, 42, 32, 39, 97, 41, 32, 42, 32, 40, 39, 97, 32, 45, 62, 32, 39, 99, 41, 32, 108, 105, 115, 116]) (callS (orc vE)
 25 [AV.str [97]] st846 fun v849 st850 _x => unA v849 fun l853 => unc l853 fun v854 l855 => asS v854 fun l856 => unc l855 fun v857 l858 => un0 l858 (callS (orc vE) 25 [AV.str [98]] st850 fun v859 st860 _x => unA v859 fun
 l863 => unc l863 fun v864 l865 => asS v864 fun l866 => unc l865 fun v867 l868 => un0 l868 (callS (orc vE) 25 [AV.str [99]] st860 fun v869 st870 _x => unA v869 fun l873 => unc l873 fun v874 l875 => asS v874 fun l876 =>
 unc l875 fun v877 l878 => un0 l878 (callS (orc vE) 28 [AV.agg [AV.str l866, v867], AV.agg [AV.str l876, v877]] st870 fun v879 st880 _x => unA v879 fun l883 => unc l883 fun v884 l885 => asS v884 fun l886 => unc l885 fun
 v887 l888 => un0 l888 (callS (orc vE) 28 [AV.agg [AV.str l856, v857], AV.agg [AV.str l886, v887]] st880 fun v889 st890 _x => unA v889 fun l893 => unc l893 fun v894 l895 => asS v894 fun l896 => unc l895 fun v897 l898 =>
 un0 l898 (callS (orc vE) 12 [AV.agg [AV.str l896, v897]] st890 fun v899 st900 _x => asS v899 fun l902 => ifB (l902 == [39, 97, 32, 45, 62, 32, 39, 98, 32, 45, 62, 32, 39, 99]) (callS (orc vE) 25 [AV.str [97]] st900 fun
 v903 st904 _x => unA v903 fun l907 => unc l907 fun v908 l909 => asS v908 fun l910 => unc l909 fun v911 l912 => un0 l912 (callS (orc vE) 25 [AV.str [98]] st904 fun v913 st914 _x => unA v913 fun l917 => unc l917 fun v918
 l919 => asS v918 fun l920 => unc l919 fun v921 l922 => un0 l922 (callS (orc vE) 28 [AV.agg [AV.str l910, v911], AV.agg [AV.str l920, v921]] st914 fun v923 st924 _x => unA v923 fun l927 => unc l927 fun v928 l929 => asS
 v928 fun l930 => unc l929 fun v931 l932 => un0 l932 (callS (orc vE) 25 [AV.str [99]] st924 fun v933 st934 _x => unA v933 fun l937 => unc l937 fun v938 l939 => asS v938 fun l940 => unc l939 fun v941 l942 => un0 l942
 (callS (orc vE) 28 [AV.agg [AV.str l930, v931], AV.agg [AV.str l940, v941]] st934 fun v943 st944 _x => unA v943 fun l947 => unc l947 fun v948 l949 => asS v948 fun l950 => unc l949 fun v951 l952 => un0 l952 (callS (orc
 vE) 12 [AV.agg [AV.str l950, v951]] st944 fun v953 st954 _x => asS v953 fun l956 => ifB (l956 == [40, 39, 97, 32, 45, 62, 32, 39, 98, 41, 32, 45, 62, 32, 39, 99]) (callS (orc vE) 22 [] st954 fun v957 st958 _x => unA
 v957 fun l961 => unc l961 fun v962 l963 => asS v962 fun l964 => unc l963 fun v965 l966 => un0 l966 (callS (orc vE) 22 [] st958 fun v967 st968 _x => unA v967 fun l971 => unc l971 fun v972 l973 => asS v972 fun l974 => unc
 l973 fun v975 l976 => un0 l976 (callS (orc vE) 26 [AV.agg [AV.str l964, v965], AV.agg [AV.str l974, v975]] st968 fun v977 st978 _x => unA v977 fun l981 => unc l981 fun v982 l983 => asS v982 fun l984 => unc l983 fun v985
 l986 => un0 l986 (callS (orc vE) 27 [AV.agg [AV.str l984, v985]] st978 fun v987 st988 _x => unA v987 fun l991 => unc l991 fun v992 l993 => asS v992 fun l994 => unc l993 fun v995 l996 => un0 l996 (callS (orc vE) 12
 [AV.agg [AV.str l994, v995]] st988 fun v997 st998 _x => asS v997 fun l1000 => ifB (l1000 == [40, 105, 110, 116, 32, 42, 32, 105, 110, 116, 41, 32, 108, 105, 115, 116]) (callS (orc vE) 22 [] st998 fun v1001 st1002 _x =>
 unA v1001 fun l1005 => unc l1005 fun v1006 l1007 => asS v1006 fun l1008 => unc l1007 fun v1009 l1010 => un0 l1010 (callS (orc vE) 27 [AV.agg [AV.str l1008, v1009]] st1002 fun v1011 st1012 _x => unA v1011 fun l1015 =>
 unc l1015 fun v1016 l1017 => asS v1016 fun l1018 => unc l1017 fun v1019 l1020 => un0 l1020 (callS (orc vE) 27 [AV.agg [AV.str l1018, v1019]] st1012 fun v1021 st1022 _x => unA v1021 fun l1025 => unc l1025 fun v1026 l1027
 => asS v1026 fun l1028 => unc l1027 fun v1029 l1030 => un0 l1030 (callS (orc vE) 12 [AV.agg [AV.str l1028, v1029]] st1022 fun v1031 st1032 _x => asS v1031 fun l1034 => ifB (l1034 == [105, 110, 116, 32, 108, 105, 115,
 116, 32, 108, 105, 115, 116]) (callS (orc vE) 12 [AV.agg [AV.str [], AV.nils]] st1032 fun v1036 st1037 _x => asS v1036 fun l1039 => ifB (l1039 == []) (callS (orc vE) 9 [] st1037 fun v1040 st1041 _x => asB v1040 fun
 b1043 => some ([AV.bool b1043], st1041)) (some ([AV.bool false], st1037))) (some ([AV.bool false], st1032)))))) (some ([AV.bool false], st998))))))) (some ([AV.bool false], st954)))))))) (some ([AV.bool false],
 st900)))))))) (some ([AV.bool false], st846)))) (some ([AV.bool false], st827)))) (some ([AV.bool false], st817)))) (some ([AV.bool false], st810))) (some ([AV.bool false], st810))) (some ([AV.bool false], st810)))
 (some ([AV.bool false], st810))) (some ([AV.bool false], st810))) (some ([AV.bool false], st810))) (some ([AV.bool false], st810))) (some ([AV.bool false], st810))) (some ([AV.bool false], st810))) (some ([AV.bool
 false], st810))) (some ([AV.bool false], st810))) (some ([AV.bool false], st810))) (some ([AV.bool false], st810))) (some ([AV.bool false], st810))) (some ([AV.bool false], st800)))) (some ([AV.bool false], st796)))
 (some ([AV.bool false], st796))) (some ([AV.bool false], st796))) (some ([AV.bool false], st796))))) fun c1044 => unc (Prod.fst c1044) fun v1045 l1046 => asB v1045 fun b1047 => un0 l1046 (some (AV.bool
 b1047)))))))))))))))))))))))))))))))))))))))))))))))))))))))))))))))))))))))))))))))))))))))))
theorem g7_eq : bareS vE 7 [] = g7 := by kernel_rfl
/-- (*rostrum/ty.Table).General -/
noncomputable def w23_L1 (x2 : AV) (st : St) (st76 : St) (v116 : AV) (k119 : Nat) : Car → Option (Car ⊕ Nat × Car) := fun c120 => unc (Prod.fst c120) fun v121 l122 => asI .i64 v121 fun n123 => un0 l122 (ifB (decide
 (n123 < (↑k119 : Int))) (idxA 1 v116 n123 (Prod.snd c120) fun v124 _x => loadS 1 false v124 (Prod.snd c120) fun v126 _x => asS v126 fun l128 => letSt (St.add (Prod.snd c120) (VM.Obj.cells 9 [AV.str []])) fun st129 =>
 storeS (orc vE) 1 (AV.mp (St.h (Prod.snd c120)) 0) (AV.str l128) [AV.str l128] st129 fun _x st131 _x_1 => callS (orc vE) 41 [x2, AV.fn (Fn.func 43) [] [AV.mp (St.h st) 0, AV.mp (St.h (Prod.snd c120)) 0]] st131 fun v133
 st134 _x => asB v133 fun b136 => bindO (ifB (!b136) (loadS 1 false (AV.mp (St.h st76) 0) st134 fun v137 _x => loadS 1 false (AV.mp (St.h (Prod.snd c120)) 0) st134 fun v139 _x => asS v139 fun l141 => appS 1 16 9 v137
 [AV.str l141] st134 fun v142 st143 _x => asOne v142 (asOne v142 (storeS (orc vE) 1 (AV.mp (St.h st76) 0) v142 [v142] st143 fun _x st146 _x_2 => some ([], st146)))) (some ([], st134))) fun c148 => un0 (Prod.fst c148)
 (letV (IntKind.wrap .i64 (n123 + 1)) fun n149 => some (Sum.inl ([AV.int .i64 n149], Prod.snd c148)))) (some (Sum.inr (0, [], Prod.snd c120))))
noncomputable def w23 : AV → AV → AV → St → Option (AV × St) := fun x0 x1 x2 st => unA x1 fun l1 => unc l1 fun v2 l3 => asS v2 fun l4 => unc l3 fun v5 l6 => un0 l6 (asOne x0 (asOne x0 (letSt (St.add st (VM.Obj.cells 30
 [x0])) fun st7 => asOne v5 (fit1 v5 fun v8 => letSt (St.add st7 (VM.Obj.cells 45 [AV.nils, AV.str [], AV.nils])) fun st9 => loadS 1 false (AV.mp (St.h st) 0) st9 fun v10 _x => nilS (U.ptr 63) v10 AV.nilp fun b12 => ifB
 b12 (storeS (orc vE) 3 (AV.mp (St.h st7) 0) (AV.agg [AV.nils, AV.str [], AV.nils]) [AV.nils, AV.str [], AV.nils] st9 fun _x st15 _x_1 => loadS 3 true (AV.mp (St.h st7) 0) st15 fun v17 _x => unA v17 fun l20 => unc l20
 fun v21 l22 => unc l22 fun v23 l24 => asS v23 fun l25 => unc l24 fun v26 l27 => un0 l27 (some (AV.tup [AV.agg [v21, AV.str l25, v26], AV.int .i64 2], st15))) (bindO (callS (orc vE) 10 [AV.agg [AV.str l4, v8]] st9 fun
 v29 st30 _x => asB v29 fun b32 => ifB (!b32) (some ([AV.bool true], st30)) (callS (orc vE) 41 [x2, AV.fn (Fn.func 42) [] []] st30 fun v33 st34 _x => asB v33 fun b36 => some ([AV.bool b36], st34))) fun c37 => unc
 (Prod.fst c37) fun v38 l39 => asB v38 fun b40 => un0 l39 (ifB b40 (storeS (orc vE) 3 (AV.mp (St.h st7) 0) (AV.agg [AV.nils, AV.str [], AV.nils]) [AV.nils, AV.str [], AV.nils] (Prod.snd c37) fun _x st43 _x_1 => loadS 3
 true (AV.mp (St.h st7) 0) st43 fun v45 _x => unA v45 fun l48 => unc l48 fun v49 l50 => unc l50 fun v51 l52 => asS v51 fun l53 => unc l52 fun v54 l55 => un0 l55 (some (AV.tup [AV.agg [v49, AV.str l53, v54], AV.int .i64
 4], st43))) (loadS 1 false (AV.mp (St.h st) 0) (Prod.snd c37) fun v56 _x => callS (orc vE) 16 [v56, AV.agg [AV.str l4, v8]] (Prod.snd c37) fun v59 st60 _x => unT v59 fun l62 => nthS l62 0 fun v63 => unA v63 fun l65 =>
 unc l65 fun v66 l67 => asS v66 fun l68 => unc l67 fun v69 l70 => un0 l70 (unT v59 fun l71 => nthS l71 1 fun v72 => asI .i64 v72 fun n73 => letSt (St.add st60 (VM.Obj.cells 24 [AV.str [], AV.nils])) fun st74 => asOne v69
 (storeS (orc vE) 2 (AV.mp (St.h st60) 0) (AV.agg [AV.str l68, v69]) [AV.str l68, v69] st74 fun _x st76 _x_1 => ifB (n73 != 0) (storeS (orc vE) 3 (AV.mp (St.h st7) 0) (AV.agg [AV.nils, AV.str [], AV.nils]) [AV.nils,
 AV.str [], AV.nils] st76 fun _x st80 _x_2 => loadS 3 true (AV.mp (St.h st7) 0) st80 fun v82 _x => unA v82 fun l85 => unc l85 fun v86 l87 => unc l87 fun v88 l89 => asS v88 fun l90 => unc l89 fun v91 l92 => un0 l92 (some
 (AV.tup [AV.agg [v86, AV.str l90, v91], AV.int .i64 n73], st80))) (loadS 2 true (AV.mp (St.h st60) 0) st76 fun v93 _x => unA v93 fun l96 => unc l96 fun v97 l98 => asS v97 fun l99 => unc l98 fun v100 l101 => un0 l101
 (letSt (St.add st76 (VM.Obj.cells 45 [AV.nils, AV.str [], AV.nils])) fun st103 => asOne v100 (storeS (orc vE) 3 (AV.mp (St.h st76) 0) (AV.agg [AV.nils, AV.str l99, v100]) [AV.nils, AV.str l99, v100] st103 fun _x st105
 _x_2 => loadS 2 true (AV.mp (St.h st60) 0) st105 fun v107 _x => unA v107 fun l110 => unc l110 fun v111 l112 => asS v111 fun l113 => unc l112 fun v114 l115 => un0 l115 (callS (orc vE) 33 [AV.agg [AV.str l113, v114]]
 st105 fun v116 st117 _x => lenS v116 fun k119 => bindO (loopO (w23_L1 x2 st st76 v116 k119) ([AV.int .i64 0], st117)) fun c150 => un0 (Prod.fst (Prod.snd c150)) (loadS 3 true (AV.mp (St.h st76) 0) (Prod.snd (Prod.snd
 c150)) fun v151 _x => unA v151 fun l154 => unc l154 fun v155 l156 => unc l156 fun v157 l158 => asS v157 fun l159 => unc l158 fun v160 l161 => un0 l161 (asOne v155 (asOne v160 (storeS (orc vE) 3 (AV.mp (St.h st7) 0)
 (AV.agg [v155, AV.str l159, v160]) [v155, AV.str l159, v160] (Prod.snd (Prod.snd c150)) fun _x st163 _x_3 => loadS 3 true (AV.mp (St.h st7) 0) st163 fun v165 _x => unA v165 fun l168 => unc l168 fun v169 l170 => unc l170
 fun v171 l172 => asS v171 fun l173 => unc l172 fun v174 l175 => un0 l175 (some (AV.tup [AV.agg [v169, AV.str l173, v174], AV.int .i64 0], st163)))))))))))))))))))
theorem w23_eq (x0 x1 x2 : AV) (st : St) : wideS vE 23 [x0, x1, x2] st = w23 x0 x1 x2 st := by kernel_rfl
/-- (*rostrum/ty.Table).Instance -/
noncomputable def w24_L1 (x0 : AV) (v9 : AV) (st44 : St) (k49 : Nat) : Car → Option (Car ⊕ Nat × Car) := fun c50 => unc (Prod.fst c50) fun v51 l52 => asI .i64 v51 fun n53 => un0 l52 (ifB (decide (n53 < (↑k49 : Int)))
 (idxA 1 v9 n53 (Prod.snd c50) fun v54 _x => loadS 1 false v54 (Prod.snd c50) fun v56 _x => asS v56 fun l58 => callS (orc vE) 29 [x0] (Prod.snd c50) fun v59 st60 _x => unA v59 fun l63 => unc l63 fun v64 l65 => asS v64
 fun l66 => unc l65 fun v67 l68 => un0 l68 (letSt (St.add st60 (VM.Obj.cells 24 [AV.str [], AV.nils])) fun st69 => asOne v67 (storeS (orc vE) 2 (AV.mp (St.h st60) 0) (AV.agg [AV.str l66, v67]) [AV.str l66, v67] st69 fun
 _x st71 _x_1 => loadS 1 false (AV.mp (St.h st44) 0) st71 fun v73 _x => planS (orc vE) (lookupP (Env.T vE) 61 v73 (AV.str l58) true) st71 fun v75 st76 _x => unT v75 fun l78 => nthS l78 0 fun v79 => unA v79 fun l81 => unc
 l81 fun v82 l83 => asS v82 fun l84 => unc l83 fun v85 l86 => un0 l86 (unT v75 fun l87 => nthS l87 1 fun v88 => asB v88 fun b89 => letSt (St.add st76 (VM.Obj.cells 24 [AV.str [], AV.nils])) fun st90 => asOne v85 (storeS
 (orc vE) 2 (AV.mp (St.h st76) 0) (AV.agg [AV.str l84, v85]) [AV.str l84, v85] st90 fun _x st92 _x_2 => bindO (ifB (!b89) (loadS 1 false (AV.mp (St.h st44) 0) st92 fun v94 _x => loadS 2 true (AV.mp (St.h st60) 0) st92
 fun v96 _x => unA v96 fun l99 => unc l99 fun v100 l101 => asS v100 fun l102 => unc l101 fun v103 l104 => un0 l104 (planS (orc vE) (mapUpdateP (Env.T vE) 61 v94 (AV.str l58) (AV.agg [AV.str l102, v103])) st92 fun _x
 st106 _x_3 => some ([], st106))) (some ([], st92))) fun c108 => un0 (Prod.fst c108) (letV (IntKind.wrap .i64 (n53 + 1)) fun n109 => some (Sum.inl ([AV.int .i64 n109], Prod.snd c108)))))))) (some (Sum.inr (0, [],
 Prod.snd c50))))
noncomputable def w24 : AV → AV → St → Option (AV × St) := fun x0 x1 st => unA x1 fun l1 => unc l1 fun v2 l3 => unc l3 fun v4 l5 => asS v4 fun l6 => unc l5 fun v7 l8 => un0 l8 (asOne v2 (asOne v7 (fit1 v2 fun v9 => fit1
 v7 fun v10 => letSt (St.add st (VM.Obj.cells 24 [AV.str [], AV.nils])) fun st11 => nilS (U.ptr 63) x0 AV.nilp fun b12 => ifB b12 (storeS (orc vE) 2 (AV.mp (St.h st) 0) (AV.agg [AV.str [], AV.nils]) [AV.str [], AV.nils]
 st11 fun _x st15 _x_1 => loadS 2 true (AV.mp (St.h st) 0) st15 fun v17 _x => unA v17 fun l20 => unc l20 fun v21 l22 => asS v21 fun l23 => unc l22 fun v24 l25 => un0 l25 (some (AV.tup [AV.agg [AV.str l23, v24], AV.int
 .i64 2], st15))) (callS (orc vE) 10 [AV.agg [AV.str l6, v10]] st11 fun v27 st28 _x => asB v27 fun b30 => ifB (!b30) (storeS (orc vE) 2 (AV.mp (St.h st) 0) (AV.agg [AV.str [], AV.nils]) [AV.str [], AV.nils] st28 fun _x
 st33 _x_1 => loadS 2 true (AV.mp (St.h st) 0) st33 fun v35 _x => unA v35 fun l38 => unc l38 fun v39 l40 => asS v39 fun l41 => unc l40 fun v42 l43 => un0 l43 (some (AV.tup [AV.agg [AV.str l41, v42], AV.int .i64 4],
 st33))) (letSt (St.add st28 (VM.Obj.map [])) fun st44 => letSt (St.add st44 (VM.Obj.cells 61 [AV.nilm])) fun st45 => storeS (orc vE) 1 (AV.mp (St.h st44) 0) (AV.mm (St.h st28)) [AV.mm (St.h st28)] st45 fun _x st47 _x_1
 => lenS v9 fun k49 => bindO (loopO (w24_L1 x0 v9 st44 k49) ([AV.int .i64 0], st47)) fun c110 => un0 (Prod.fst (Prod.snd c110)) (letSt (St.add (Prod.snd (Prod.snd c110)) (VM.Obj.cells 51 [AV.nilfn])) fun st111 => storeS
 (orc vE) 1 (AV.mp (St.h (Prod.snd (Prod.snd c110))) 0) (AV.fn (Fn.func 45) [] [AV.mp (St.h st44) 0, AV.mp (St.h (Prod.snd (Prod.snd c110))) 0]) [AV.fn (Fn.func 45) [] [AV.mp (St.h st44) 0, AV.mp (St.h (Prod.snd
 (Prod.snd c110))) 0]] st111 fun _x st113 _x_2 => loadS 1 false (AV.mp (St.h (Prod.snd (Prod.snd c110))) 0) st113 fun v115 _x => callF (orc vE) (Sx.prim (sx vE 24)) v115 [AV.agg [AV.str l6, v10]] st113 fun v118 st119 _x
 => unA v118 fun l122 => unc l122 fun v123 l124 => asS v123 fun l125 => unc l124 fun v126 l127 => un0 l127 (asOne v126 (storeS (orc vE) 2 (AV.mp (St.h st) 0) (AV.agg [AV.str l125, v126]) [AV.str l125, v126] st119 fun _x
 st129 _x_3 => loadS 2 true (AV.mp (St.h st) 0) st129 fun v131 _x => unA v131 fun l134 => unc l134 fun v135 l136 => asS v135 fun l137 => unc l136 fun v138 l139 => un0 l139 (some (AV.tup [AV.agg [AV.str l137, v138],
 AV.int .i64 0], st129))))))))))
theorem w24_eq (x0 x1 : AV) (st : St) : wideS vE 24 [x0, x1] st = w24 x0 x1 st := by kernel_rfl
/-- (*rostrum/ty.Table).Fresh -/
noncomputable def w29 : AV → St → Option (AV × St) := fun x0 st => letSt (St.add st (VM.Obj.cells 24 [AV.str [], AV.nils])) fun st0 => nilS (U.ptr 63) x0 AV.nilp fun b1 => ifB b1 (storeS (orc vE) 2 (AV.mp (St.h st) 0)
 (AV.agg [AV.str [], AV.nils]) [AV.str [], AV.nils] st0 fun _x st4 _x_1 => loadS 2 true (AV.mp (St.h st) 0) st4 fun v6 _x => unA v6 fun l9 => unc l9 fun v10 l11 => asS v10 fun l12 => unc l11 fun v13 l14 => un0 l14 (some
 (AV.agg [AV.str l12, v13], st4))) (chk (notNil x0) (fldA 1 x0 fun v15 => loadS 1 false v15 st0 fun v16 _x => asI .i64 v16 fun n18 => letV (IntKind.wrap .i64 (n18 + 1)) fun n19 => chk (notNil x0) (fldA 1 x0 fun v20 =>
 storeS (orc vE) 1 v20 (AV.int .i64 n19) [AV.int .i64 n19] st0 fun _x st22 _x_1 => chk (notNil x0) (fldA 1 x0 fun v24 => loadS 1 false v24 st22 fun v25 _x => asI .i64 v25 fun n27 => planS (orc vE) (primP (Prim.lib
 libItoa) [AV.int .i64 n27]) st22 fun v28 st29 _x => asS v28 fun l31 => chk (Nat.ble (1 + List.length l31) 9223372036854775807) (letV (39 :: l31) fun l32 => storeS (orc vE) 2 (AV.mp (St.h st) 0) (AV.agg [AV.str l32,
 AV.nils]) [AV.str l32, AV.nils] st29 fun _x st35 _x_2 => loadS 2 true (AV.mp (St.h st) 0) st35 fun v37 _x => unA v37 fun l40 => unc l40 fun v41 l42 => asS v41 fun l43 => unc l42 fun v44 l45 => un0 l45 (some (AV.agg
 [AV.str l43, v44], st35)))))))
theorem w29_eq (x0 : AV) (st : St) : wideS vE 29 [x0] st = w29 x0 st := by kernel_rfl
/-- (*rostrum/ty.Table).Instance$1 -/
noncomputable def w45_L1 (x2 : AV) (v7 : AV) (c34 : Car) (k64 : Nat) : Car → Option (Car ⊕ Nat × Car) := fun c65 => unc (Prod.fst c65) fun v66 l67 => asI .i64 v66 fun n68 => un0 l67 (ifB (decide (n68 < (↑k64 : Int)))
 (idxA 2 v7 n68 (Prod.snd c65) fun v69 _x => loadS 2 true v69 (Prod.snd c65) fun v71 _x => unA v71 fun l74 => unc l74 fun v75 l76 => asS v75 fun l77 => unc l76 fun v78 l79 => un0 l79 (letSt (St.add (Prod.snd c65)
 (VM.Obj.cells 24 [AV.str [], AV.nils])) fun st80 => asOne v78 (storeS (orc vE) 2 (AV.mp (St.h (Prod.snd c65)) 0) (AV.agg [AV.str l77, v78]) [AV.str l77, v78] st80 fun _x st82 _x_1 => loadS 1 false (AV.mp (St.h (Prod.snd
 c34)) 1) st82 fun v84 l85 => loadS 1 false x2 st82 fun v86 _x => loadS 2 true (AV.mp (St.h (Prod.snd c65)) 0) st82 fun v88 _x => unA v88 fun l91 => unc l91 fun v92 l93 => asS v92 fun l94 => unc l93 fun v95 l96 => un0
 l96 (callF (orc vE) (Sx.prim (sx vE 45)) v86 [AV.agg [AV.str l94, v95]] st82 fun v97 st98 x99 => unA v97 fun l101 => unc l101 fun v102 l103 => asS v102 fun l104 => unc l103 fun v105 l106 => un0 l106 (chk (apart (Fx.mk
 l85 Did.kept) x99 && (apart (Fx.mk [] Did.kept) x99 && true)) (asOne v105 (asOne v105 (fit1 v105 fun v107 => asOne v107 (fit1 v107 fun v108 => appS 2 40 24 v84 [AV.agg [AV.str l104, v108]] st98 fun v109 st110 _x =>
 asOne v109 (asOne v109 (storeS (orc vE) 1 (AV.mp (St.h (Prod.snd c34)) 1) v109 [v109] st110 fun _x st113 _x_2 => letV (IntKind.wrap .i64 (n68 + 1)) fun n115 => some (Sum.inl ([AV.int .i64 n115], st113))))))))))))) (some
 (Sum.inr (0, [], Prod.snd c65))))
noncomputable def w45 : AV → AV → AV → St → Option (AV × St) := fun x0 x1 x2 st => unA x0 fun l1 => unc l1 fun v2 l3 => asS v2 fun l4 => unc l3 fun v5 l6 => un0 l6 (asOne v5 (fit1 v5 fun v7 => letSt (St.add st
 (VM.Obj.cells 24 [AV.str [], AV.nils])) fun st8 => loadS 1 false x1 st8 fun v9 _x => planS (orc vE) (lookupP (Env.T vE) 61 v9 (AV.str l4) true) st8 fun v11 st12 _x => unT v11 fun l14 => nthS l14 0 fun v15 => unA v15 fun
 l17 => unc l17 fun v18 l19 => asS v18 fun l20 => unc l19 fun v21 l22 => un0 l22 (unT v11 fun l23 => nthS l23 1 fun v24 => asB v24 fun b25 => letSt (St.add st12 (VM.Obj.cells 24 [AV.str [], AV.nils])) fun st26 => asOne
 v21 (storeS (orc vE) 2 (AV.mp (St.h st12) 0) (AV.agg [AV.str l20, v21]) [AV.str l20, v21] st26 fun _x st28 _x_1 => bindO (ifB b25 (callS (orc vE) 46 [AV.str l4] st28 fun v30 st31 _x => asB v30 fun b33 => some ([AV.bool
 b33], st31)) (some ([AV.bool false], st28))) fun c34 => unc (Prod.fst c34) fun v35 l36 => asB v35 fun b37 => un0 l36 (ifB b37 (loadS 2 true (AV.mp (St.h st12) 0) (Prod.snd c34) fun v38 _x => unA v38 fun l41 => unc l41
 fun v42 l43 => asS v42 fun l44 => unc l43 fun v45 l46 => un0 l46 (asOne v45 (storeS (orc vE) 2 (AV.mp (St.h st) 0) (AV.agg [AV.str l44, v45]) [AV.str l44, v45] (Prod.snd c34) fun _x st48 _x_2 => loadS 2 true (AV.mp
 (St.h st) 0) st48 fun v50 _x => unA v50 fun l53 => unc l53 fun v54 l55 => asS v54 fun l56 => unc l55 fun v57 l58 => un0 l58 (some (AV.agg [AV.str l56, v57], st48))))) (letSt (St.add (Prod.snd c34) (VM.Obj.cells 24
 [AV.str [], AV.nils])) fun st60 => storeS (orc vE) 2 (AV.mp (St.h (Prod.snd c34)) 0) (AV.agg [AV.str l4, AV.nils]) [AV.str l4, AV.nils] st60 fun _x st62 _x_2 => lenS v7 fun k64 => bindO (loopO (w45_L1 x2 v7 c34 k64)
 ([AV.int .i64 0], st62)) fun c116 => un0 (Prod.fst (Prod.snd c116)) (loadS 2 true (AV.mp (St.h (Prod.snd c34)) 0) (Prod.snd (Prod.snd c116)) fun v117 _x => unA v117 fun l120 => unc l120 fun v121 l122 => asS v121 fun
 l123 => unc l122 fun v124 l125 => un0 l125 (asOne v124 (storeS (orc vE) 2 (AV.mp (St.h st) 0) (AV.agg [AV.str l123, v124]) [AV.str l123, v124] (Prod.snd (Prod.snd c116)) fun _x st127 _x_3 => loadS 2 true (AV.mp (St.h
 st) 0) st127 fun v129 _x => unA v129 fun l132 => unc l132 fun v133 l134 => asS v133 fun l135 => unc l134 fun v136 l137 => un0 l137 (some (AV.agg [AV.str l135, v136], st127)))))))))))
theorem w45_eq (x0 x1 x2 : AV) (st : St) : wideS vE 45 [x0, x1, x2] st = w45 x0 x1 x2 st := by kernel_rfl
/-- rostrum/rostrumlaw16.num -/
noncomputable def g22 : Option AV := some (AV.agg [AV.str [105, 110, 116], AV.nils])
theorem g22_eq : bareS vE 22 [] = g22 := by kernel_rfl
/-- rostrum/rostrumlaw16.v -/
noncomputable def g25 : AV → Option AV := fun x0 => asS x0 fun l0 => chk (Nat.ble (1 + List.length l0) 9223372036854775807) (letV (39 :: l0) fun l1 => some (AV.agg [AV.str l1, AV.nils]))
theorem g25_eq (x0 : AV) : bareS vE 25 [x0] = g25 x0 := by kernel_rfl
/-- rostrum/rostrumlaw16.pair -/
noncomputable def g26 : AV → AV → Option AV := fun x0 x1 => unA x0 fun l1 => unc l1 fun v2 l3 => asS v2 fun l4 => unc l3 fun v5 l6 => un0 l6 (unA x1 fun l8 => unc l8 fun v9 l10 => asS v9 fun l11 => unc l10 fun v12 l13
 => un0 l13 (asOne v5 (fit1 v5 fun v14 => asOne v12 (fit1 v12 fun v15 => asOne v14 (asOne v15 (asOne v14 (fit1 v14 fun v18 => asOne v15 (fit1 v15 fun v19 => some (AV.agg [AV.str [116, 117, 112, 108, 101], AV.sl 2 [AV.agg
 [AV.str l4, v18], AV.agg [AV.str l11, v19]] Perm.shut])))))))))
theorem g26_eq (x0 x1 : AV) : bareS vE 26 [x0, x1] = g26 x0 x1 := by kernel_rfl
/-- rostrum/rostrumlaw16.list -/
noncomputable def g27 : AV → Option AV := fun x0 => unA x0 fun l1 => unc l1 fun v2 l3 => asS v2 fun l4 => unc l3 fun v5 l6 => un0 l6 (asOne v5 (fit1 v5 fun v7 => asOne v7 (asOne v7 (fit1 v7 fun v9 => some (AV.agg
 [AV.str [108, 105, 115, 116], AV.sl 2 [AV.agg [AV.str l4, v9]] Perm.shut])))))
theorem g27_eq (x0 : AV) : bareS vE 27 [x0] = g27 x0 := by kernel_rfl
/-- rostrum/rostrumlaw16.to -/
noncomputable def g28 : AV → AV → Option AV := fun x0 x1 => unA x0 fun l1 => unc l1 fun v2 l3 => asS v2 fun l4 => unc l3 fun v5 l6 => un0 l6 (unA x1 fun l8 => unc l8 fun v9 l10 => asS v9 fun l11 => unc l10 fun v12 l13
 => un0 l13 (asOne v5 (fit1 v5 fun v14 => asOne v12 (fit1 v12 fun v15 => asOne v14 (asOne v15 (asOne v14 (fit1 v14 fun v18 => asOne v15 (fit1 v15 fun v19 => some (AV.agg [AV.str [45, 62], AV.sl 2 [AV.agg [AV.str l4,
 v18], AV.agg [AV.str l11, v19]] Perm.shut])))))))))
theorem g28_eq (x0 x1 : AV) : bareS vE 28 [x0, x1] = g28 x0 x1 := by kernel_rfl
end Go.Proofs.YtlfilkniobkbiaaDoor.Vm
