/-
  A part of the proof.
-/
import Derived.Test.YtkknkhniadiapaaDoorVmCB
import Derived.Test.YtkknkhniadiapaaDoorVmCC
import Derived.Test.YtkknkhniadiapaaDoorVmCD
import Derived.Test.YtkknkhniadiapaaDoorVmBH
import Derived.Test.YtkknkhniadiapaaDoorVmBF
import Derived.Test.YtkknkhniadiapaaDoorVmBG
import Derived.Test.YtkknkhniadiapaaDoorRows
set_option maxRecDepth 1000000
set_option maxHeartbeats 0
set_option linter.unusedSimpArgs false
namespace Go.Proofs.YtkknkhniadiapaaDoor.Vm
open Go Go.VM Go.Proofs
noncomputable def vT : TT := Tr.of 8 (tiOf Tryd.prog)
theorem vT_ok : TOk Tryd.prog vT := tt_ok (d := 8) rfl
def vFl : List Nat := [3, 4, 5, 6, 7, 9, 10, 11, 12, 13, 14, 16, 17, 18, 19, 20, 21, 22, 23, 24, 25, 26, 27, 28, 29, 30, 31, 32, 34, 35, 36, 37, 38, 39, 40, 41, 42, 43, 45, 46, 47, 48, 49, 50, 51, 52, 53, 54, 56, 57, 58, 59, 60, 61, 62, 63, 64, 65, 68, 69, 70, 71, 72, 73, 74, 75]
noncomputable def vF : Tr Func := Tr.of 7 (fnsOf Tryd.prog vFl)
theorem vF_ok : ∀ f fn, vF.get f = some fn → FnOk Tryd.prog f fn := fns_ok (by kernel_rfl)
noncomputable def vP : List (Nat × Prim) := [(44, (.lib libValid)), (66, (.builderString 5)), (67, (.lib libCount)), (79, (.copyCheck [(136, 2, 0), (137, 2, 0)]))]
noncomputable def vG : Tr (List AV) := (.node (some [(.int .u8 (240)), (.int .u8 (240)), (.int .u8 (240)), (.int .u8 (240)), (.int .u8 (240)), (.int .u8 (240)), (.int .u8 (240)), (.int .u8 (240)), (.int .u8 (240)), (.int .u8 (240)), (.int .u8 (240)), (.int .u8 (240)), (.int .u8 (240)), (.int .u8 (240)), (.int .u8 (240)), (.int .u8 (240)), (.int .u8 (240)), (.int .u8 (240)), (.int .u8 (240)), (.int .u8 (240)), (.int .u8 (240)), (.int .u8 (240)), (.int .u8 (240)), (.int .u8 (240)), (.int .u8 (240)), (.int .u8 (240)), (.int .u8 (240)), (.int .u8 (240)), (.int .u8 (240)), (.int .u8 (240)), (.int .u8 (240)), (.int .u8 (240)), (.int .u8 (240)), (.int .u8 (240)), (.int .u8 (240)), (.int .u8 (240)), (.int .u8 (240)), (.int .u8 (240)), (.int .u8 (240)), (.int .u8 (240)), (.int .u8 (240)), (.int .u8 (240)), (.int .u8 (240)), (.int .u8 (240)), (.int .u8 (240)), (.int .u8 (240)), (.int .u8 (240)), (.int .u8 (240)), (.int .u8 (240)), (.int .u8 (240)), (.int .u8 (240)), (.int .u8 (240)), (.int .u8 (240)), (.int .u8 (240)), (.int .u8 (240)), (.int .u8 (240)), (.int .u8 (240)), (.int .u8 (240)), (.int .u8 (240)), (.int .u8 (240)), (.int .u8 (240)), (.int .u8 (240)), (.int .u8 (240)), (.int .u8 (240)), (.int .u8 (240)), (.int .u8 (240)), (.int .u8 (240)), (.int .u8 (240)), (.int .u8 (240)), (.int .u8 (240)), (.int .u8 (240)), (.int .u8 (240)), (.int .u8 (240)), (.int .u8 (240)), (.int .u8 (240)), (.int .u8 (240)), (.int .u8 (240)), (.int .u8 (240)), (.int .u8 (240)), (.int .u8 (240)), (.int .u8 (240)), (.int .u8 (240)), (.int .u8 (240)), (.int .u8 (240)), (.int .u8 (240)), (.int .u8 (240)), (.int .u8 (240)), (.int .u8 (240)), (.int .u8 (240)), (.int .u8 (240)), (.int .u8 (240)), (.int .u8 (240)), (.int .u8 (240)), (.int .u8 (240)), (.int .u8 (240)), (.int .u8 (240)), (.int .u8 (240)), (.int .u8 (240)), (.int .u8 (240)), (.int .u8 (240)), (.int .u8 (240)), (.int .u8 (240)), (.int .u8 (240)), (.int .u8 (240)), (.int .u8 (240)), (.int .u8 (240)), (.int .u8 (240)), (.int .u8 (240)), (.int .u8 (240)), (.int .u8 (240)), (.int .u8 (240)), (.int .u8 (240)), (.int .u8 (240)), (.int .u8 (240)), (.int .u8 (240)), (.int .u8 (240)), (.int .u8 (240)), (.int .u8 (240)), (.int .u8 (240)), (.int .u8 (240)), (.int .u8 (240)), (.int .u8 (240)), (.int .u8 (240)), (.int .u8 (240)), (.int .u8 (240)), (.int .u8 (240)), (.int .u8 (240)), (.int .u8 (240)), (.int .u8 (241)), (.int .u8 (241)), (.int .u8 (241)), (.int .u8 (241)), (.int .u8 (241)), (.int .u8 (241)), (.int .u8 (241)), (.int .u8 (241)), (.int .u8 (241)), (.int .u8 (241)), (.int .u8 (241)), (.int .u8 (241)), (.int .u8 (241)), (.int .u8 (241)), (.int .u8 (241)), (.int .u8 (241)), (.int .u8 (241)), (.int .u8 (241)), (.int .u8 (241)), (.int .u8 (241)), (.int .u8 (241)), (.int .u8 (241)), (.int .u8 (241)), (.int .u8 (241)), (.int .u8 (241)), (.int .u8 (241)), (.int .u8 (241)), (.int .u8 (241)), (.int .u8 (241)), (.int .u8 (241)), (.int .u8 (241)), (.int .u8 (241)), (.int .u8 (241)), (.int .u8 (241)), (.int .u8 (241)), (.int .u8 (241)), (.int .u8 (241)), (.int .u8 (241)), (.int .u8 (241)), (.int .u8 (241)), (.int .u8 (241)), (.int .u8 (241)), (.int .u8 (241)), (.int .u8 (241)), (.int .u8 (241)), (.int .u8 (241)), (.int .u8 (241)), (.int .u8 (241)), (.int .u8 (241)), (.int .u8 (241)), (.int .u8 (241)), (.int .u8 (241)), (.int .u8 (241)), (.int .u8 (241)), (.int .u8 (241)), (.int .u8 (241)), (.int .u8 (241)), (.int .u8 (241)), (.int .u8 (241)), (.int .u8 (241)), (.int .u8 (241)), (.int .u8 (241)), (.int .u8 (241)), (.int .u8 (241)), (.int .u8 (241)), (.int .u8 (241)), (.int .u8 (2)), (.int .u8 (2)), (.int .u8 (2)), (.int .u8 (2)), (.int .u8 (2)), (.int .u8 (2)), (.int .u8 (2)), (.int .u8 (2)), (.int .u8 (2)), (.int .u8 (2)), (.int .u8 (2)), (.int .u8 (2)), (.int .u8 (2)), (.int .u8 (2)), (.int .u8 (2)), (.int .u8 (2)), (.int .u8 (2)), (.int .u8 (2)), (.int .u8 (2)), (.int .u8 (2)), (.int .u8 (2)), (.int .u8 (2)), (.int .u8 (2)), (.int .u8 (2)), (.int .u8 (2)), (.int .u8 (2)), (.int .u8 (2)), (.int .u8 (2)), (.int .u8 (2)), (.int .u8 (2)), (.int .u8 (19)), (.int .u8 (3)), (.int .u8 (3)), (.int .u8 (3)), (.int .u8 (3)), (.int .u8 (3)), (.int .u8 (3)), (.int .u8 (3)), (.int .u8 (3)), (.int .u8 (3)), (.int .u8 (3)), (.int .u8 (3)), (.int .u8 (3)), (.int .u8 (35)), (.int .u8 (3)), (.int .u8 (3)), (.int .u8 (52)), (.int .u8 (4)), (.int .u8 (4)), (.int .u8 (4)), (.int .u8 (68)), (.int .u8 (241)), (.int .u8 (241)), (.int .u8 (241)), (.int .u8 (241)), (.int .u8 (241)), (.int .u8 (241)), (.int .u8 (241)), (.int .u8 (241)), (.int .u8 (241)), (.int .u8 (241)), (.int .u8 (241))]) (.node (some [(.int .u8 (128)), (.int .u8 (191)), (.int .u8 (160)), (.int .u8 (191)), (.int .u8 (128)), (.int .u8 (159)), (.int .u8 (144)), (.int .u8 (191)), (.int .u8 (128)), (.int .u8 (143)), (.int .u8 (0)), (.int .u8 (0)), (.int .u8 (0)), (.int .u8 (0)), (.int .u8 (0)), (.int .u8 (0)), (.int .u8 (0)), (.int .u8 (0)), (.int .u8 (0)), (.int .u8 (0)), (.int .u8 (0)), (.int .u8 (0)), (.int .u8 (0)), (.int .u8 (0)), (.int .u8 (0)), (.int .u8 (0)), (.int .u8 (0)), (.int .u8 (0)), (.int .u8 (0)), (.int .u8 (0)), (.int .u8 (0)), (.int .u8 (0))]) .leaf .leaf) (.node none .leaf .leaf))
noncomputable def vI : List (Nat × List Nat) := [(3, [95, 141]), (4, [95, 141]), (5, [95, 141]), (6, [33, 95, 141]), (7, [95, 141, 3000053]), (9, [95, 141, 3000047]), (10, [95, 141]), (11, [95, 141]), (12, [95, 141]), (13, [95, 141, 3000027]), (14, [95, 141]), (16, [95, 141]), (17, [95, 141]), (18, [95, 141, 3000053]), (19, [95, 141]), (20, [95, 141]), (21, [95, 141]), (22, [95, 141]), (23, [95, 141]), (24, [95, 141]), (25, [95, 141]), (26, [95, 141]), (27, [95, 141]), (28, [95, 141]), (29, [95, 141]), (30, [69, 95, 141]), (31, [95, 141]), (32, [75, 95, 141]), (34, [95, 141]), (35, [95, 141]), (36, [95, 141]), (37, [95, 141]), (38, [95, 141]), (39, [95, 141]), (40, [95, 141]), (41, [95, 141]), (42, [72, 95, 141]), (43, [95, 141]), (45, [95, 141]), (46, [95, 141]), (47, [44, 95, 141]), (48, [95, 98, 141]), (49, [95, 141]), (50, [44, 95, 141]), (51, [95, 98, 141]), (52, [95, 141]), (53, [95, 141]), (54, [95, 141]), (56, [95, 141]), (57, [95, 141]), (58, [42, 95, 141]), (59, [95, 98, 141]), (60, [95, 141]), (61, [95, 141]), (62, [95, 141]), (63, [42, 95, 141]), (64, [42, 95, 141]), (65, [95, 141]), (68, [95, 141]), (69, [95, 141]), (70, [95, 141]), (71, [95, 141]), (72, [95, 141]), (73, [95, 141]), (74, [95, 141]), (75, [95, 141])]
noncomputable def vfull : List Nat := [5]
noncomputable def vlook : List Nat := []
theorem prim44 : OnePrim Tryd.prog vT (markG fun b => vG.get b) 44 (.lib libValid) := valid_prim (g3 := 0) (g4 := 1) Tryd.call44 (fun s w h hT => Tryd.utf8_ValidString s w h hT) rfl rfl (by kernel_rfl) (by kernel_rfl)
theorem prim66 : OnePrim Tryd.prog vT (markG fun b => vG.get b) 66 (.builderString 5) := builderString_prim ⟨Tryd.call66, size_of (by kernel_rfl), run_string_nil, run_string⟩ ⟨_, rfl⟩
theorem prim67 : OnePrim Tryd.prog vT (markG fun b => vG.get b) 67 (.lib libCount) := countS_prim Tryd.call67 fun s c w => Tryd.strings_Count_one s c w
theorem prim79 : OnePrim Tryd.prog vT (markG fun b => vG.get b) 79 (.copyCheck [(136, 2, 0), (137, 2, 0)]) := copyCheck_prim ⟨Tryd.call79, run_used, fun b o w e n h1 h2 h3 h4 h5 => run_fresh b o w e n h1 h2 h3 h4 (lies_of (by kernel_rfl) h5)⟩
theorem vP_ok : AllP (fun f q => OnePrim Tryd.prog vT (markG fun b => vG.get b) f q) vP := ⟨prim44, prim66, prim67, prim79, trivial⟩
noncomputable def vE : Env where
  T := vT
  F i := vF.get i
  prim i := lookP vP i
  full i := vfull.any fun j => i.beq j
  isLook i := vlook.any fun j => i.beq j
  imm f t := match lookP vI f with
    | some l => l.any fun j => t.beq j
    | none => false
  G := markG fun b => vG.get b
  memo _ := []
  wrule f := match f.beq 33 with
    | true => some (delR 72 18)
    | false => match f.beq 8 with
      | true => some (copyR 49 72 18)
      | false => match f.beq 15 with
        | true => some (closeR 82)
        | false => none
theorem delOk : ∀ f r args st v s, vE.wrule f = some r → r args st = .ok (v, s) → s.ro = st.ro ∧ ∀ A g w xs, GR g vE.G → RL g args xs → Inv vE.T A g st w →
    (callFunc f xs.toArray).run Tryd.prog w = .ok (.enter f xs.toArray) w ∧ Calls Tryd.prog f xs.toArray w fun e w' => ∃ x, e = .returned x ∧ Post vE.T A g s w v x w' := by
  intro f r args st v s h h2
  have h : (match f.beq 33 with
    | true => some (delR 72 18)
    | false => match f.beq 8 with
      | true => some (copyR 49 72 18)
      | false => match f.beq 15 with
        | true => some (closeR 82)
        | false => none) = some r := h
  cases hb : f.beq 33 with
  | true =>
    rw [hb] at h
    cases h
    have hf := Nat.eq_of_beq_eq_true hb
    subst hf
    obtain ⟨a, b⟩ := delR_ok (T := vT) (e := 72) (z := 18) (ti := (vT.get 72).get rfl) rfl rfl Tryd.call33 run_delete h2
    exact ⟨a, fun A g w xs _ hr hi => b A g w xs hr hi⟩
  | false =>
    rw [hb] at h
    cases hc : f.beq 8 with
    | true =>
      simp only [hc] at h
      cases h
      have hf := Nat.eq_of_beq_eq_true hc
      subst hf
      obtain ⟨a, b⟩ := copyR_ok (T := vT) (t := 49) (e := 72) (z := 18) (ti := (vT.get 72).get rfl) rfl rfl (Nat.le_of_ble_eq_true rfl) Tryd.call8 run_copyS h2
      exact ⟨a, fun A g w xs _ hr hi => b A g w xs hr hi⟩
    | false =>
      simp only [hc] at h
      cases hl : f.beq 15 with
      | true =>
        simp only [hl] at h
        cases h
        have hf := Nat.eq_of_beq_eq_true hl
        subst hf
        obtain ⟨a, b⟩ := closeR_ok (T := vT) (e := 82) (ti := (vT.get 82).get rfl) rfl rfl Tryd.call15 run_closeN run_closeC h2
        exact ⟨a, fun A g w xs _ hr hi => b A g w xs hr hi⟩
      | false => simp only [hl] at h; cases h
theorem vE_ok : EnvOk Tryd.prog vE := ⟨vT_ok, fun f fn h => vF_ok f fn h, primOk_of fun f q h => lookP_all vP_ok f q h, by kernel_rfl, (fun _ _ h => by cases h), fun _ r _ _ h _ => absurd (show (none : Option (List AV → Option AV)) = some r from h) (by simp), delOk⟩
noncomputable def g4_L1 (x0 : AV) (n9 : Int) : Car → Option (Car ⊕ Nat × Car) := fun c46 => unc (Prod.fst c46) fun v47 l48 => asI .i64 v47 fun n49 => unc l48 fun v50 l51 => asI .i64 v50 fun n52 => un0 l51 (bindO (idxA 5 x0 n9 (Prod.snd c46) fun v53 _x => fldA 4 v53 fun v55 => loadS 1 false v55 (Prod.snd c46) fun v56 _x => lenS v56 fun k58 => ifB (decide (n52 < (↑k58 : Int))) (some ([AV.bool (decide (n49 < 3000))], Prod.snd c46)) (some ([AV.bool false], Prod.snd c46))) fun c59 => unc (Prod.fst c59) fun v60 l61 => asB v60 fun b62 => un0 l61 (ifB b62 (letV (IntKind.wrap .i64 (n49 + 1)) fun n63 => idxA 5 x0 n9 (Prod.snd c59) fun v64 _x => fldA 4 v64 fun v66 => loadS 1 false v66 (Prod.snd c59) fun v67 _x => idxA 6 v67 n52 (Prod.snd c59) fun v69 _x => fldA 5 v69 fun v71 => loadS 1 false v71 (Prod.snd c59) fun v72 _x => asS v72 fun l74 => letV (if 3000 < (↑(List.length l74) : Int) then 3000 else (↑(List.length l74) : Int)) fun n75 => letV (IntKind.wrap .i64 (n63 + n75)) fun n76 => letV (IntKind.wrap .i64 (n52 + 1)) fun n77 => some (Sum.inl ([AV.int .i64 n76, AV.int .i64 n77], Prod.snd c59))) (some (Sum.inr (0, [AV.int .i64 n49], Prod.snd c59)))))
noncomputable def g4_L2 (x0 : AV) : Car → Option (Car ⊕ Nat × Car) := fun c0 => unc (Prod.fst c0) fun v1 l2 => asB v1 fun b3 => unc l2 fun v4 l5 => asI .i64 v4 fun n6 => unc l5 fun v7 l8 => asI .i64 v7 fun n9 => un0 l8 (bindO (lenS x0 fun k10 => ifB (decide (n9 < (↑k10 : Int))) (some ([AV.bool (decide (n6 < 3000))], Prod.snd c0)) (some ([AV.bool false], Prod.snd c0))) fun c11 => unc (Prod.fst c11) fun v12 l13 => asB v12 fun b14 => un0 l13 (ifB b14 (bindO (idxA 5 x0 n9 (Prod.snd c11) fun v15 _x => fldA 3 v15 fun v17 => loadS 1 false v17 (Prod.snd c11) fun v18 _x => asS v18 fun l20 => ifB (decide ((↑(List.length l20) : Int) > 3000)) (some ([AV.bool true], Prod.snd c11)) (idxA 5 x0 n9 (Prod.snd c11) fun v21 _x => fldA 1 v21 fun v23 => loadS 1 false v23 (Prod.snd c11) fun v24 _x => asS v24 fun l26 => some ([AV.bool (decide ((↑(List.length l26) : Int) > 3000))], Prod.snd c11))) fun c27 => unc (Prod.fst c27) fun v28 l29 => asB v28 fun b30 => un0 l29 (ifB b30 (some (Sum.inr (1, [AV.bool true, AV.int .i64 n6], Prod.snd c27))) (letV (IntKind.wrap .i64 (n6 + 1)) fun n31 => idxA 5 x0 n9 (Prod.snd c27) fun v32 _x => fldA 3 v32 fun v34 => loadS 1 false v34 (Prod.snd c27) fun v35 _x => asS v35 fun l37 => letV (IntKind.wrap .i64 (n31 + (↑(List.length l37) : Int))) fun n38 => idxA 5 x0 n9 (Prod.snd c27) fun v39 _x => fldA 1 v39 fun v41 => loadS 1 false v41 (Prod.snd c27) fun v42 _x => asS v42 fun l44 => letV (IntKind.wrap .i64 (n38 + (↑(List.length l44) : Int))) fun n45 => bindO (loopO (g4_L1 x0 n9) ([AV.int .i64 n45, AV.int .i64 0], Prod.snd c27)) fun c78 => unc (Prod.fst (Prod.snd c78)) fun v79 l80 => asI .i64 v79 fun n81 => un0 l80 (letV (IntKind.wrap .i64 (n9 + 1)) fun n82 => some (Sum.inl ([AV.bool b3, AV.int .i64 n81, AV.int .i64 n82], Prod.snd (Prod.snd c78))))))) (some (Sum.inr (0, [AV.bool b3, AV.int .i64 n6], Prod.snd c11)))))
noncomputable def g4 : AV → Option AV := fun x0 => bindO (loopO (g4_L2 x0) ([AV.bool false, AV.int .i64 0, AV.int .i64 0], St.mk 0 0 Tr.leaf)) fun c83 => unc (Prod.fst (Prod.snd c83)) fun v84 l85 => asB v84 fun b86 => unc l85 fun v87 l88 => asI .i64 v87 fun n89 => un0 l88 (sel2 (Prod.fst c83) (bindO (ifB (decide (n89 ≥ 3000)) (some ([AV.bool true], Prod.snd (Prod.snd c83))) (lenS x0 fun k90 => some ([AV.bool (decide ((↑k90 : Int) > 60))], Prod.snd (Prod.snd c83)))) fun c91 => unc (Prod.fst c91) fun v92 l93 => asB v92 fun b94 => un0 l93 (some (AV.bool b94))) fun _x => some (AV.bool b86))
theorem g4_eq (x0 : AV) : bareS vE 4 [x0] = g4 x0 := by kernel_rfl
noncomputable def w5 : St → Option (AV × St) := fun st => letSt (St.add st (VM.Obj.cells 49 [AV.nils])) fun st1 => some (AV.mp (St.h st) 0, st1)
theorem w5_eq (st : St) : wideS vE 5 [] st = w5 st := by kernel_rfl
noncomputable def w9 : AV → AV → AV → AV → St → Option (AV × St) := fun x0 x1 x2 x3 st => asS x1 fun l0 => asI .i64 x2 fun n1 => asS x3 fun l2 => nilS (U.ptr 49) x0 AV.nilp fun b3 => ifB b3 (some (AV.int .i64 2, st)) (callS (orc vE) 26 [x0, AV.str l0] st fun v4 st5 _x => asI .i64 v4 fun n7 => ifB (decide (n7 ≥ 0)) (some (AV.int .i64 6, st5)) (chk (notNil x0) (fldA 0 x0 fun v8 => loadS 1 false v8 st5 fun v9 _x => lenS v9 fun k11 => ifB (decide ((↑k11 : Int) ≥ 32)) (some (AV.int .i64 3, st5)) (callS (orc vE) 27 [AV.int .i64 n1] st5 fun v12 st13 _x => asB v12 fun b15 => ifB b15 (some (AV.int .i64 1, st13)) (callS (orc vE) 28 [AV.str l2] st13 fun v16 st17 _x => unT v16 fun l19 => nthS l19 0 fun v20 => unT v16 fun l21 => nthS l21 1 fun v22 => asI .i64 v22 fun n23 => ifB (n23 != 0) (some (AV.int .i64 n23, st17)) (callS (orc vE) 29 [AV.str l2] st17 fun v24 st25 _x => asB v24 fun b27 => ifB (!b27) (some (AV.int .i64 4, st25)) (letSt (St.add st25 (VM.Obj.cells 72 [AV.str [], AV.int .i64 0, AV.nilp, AV.int .i64 0, AV.nilp, AV.int .i64 0, AV.nilp, AV.int .i64 0, AV.nilp, AV.int .i64 0, AV.nilp, AV.int .i64 0, AV.nilp, AV.int .i64 0, AV.nilp, AV.int .i64 0, AV.nilp, AV.int .i64 0])) fun st29 => storeS (orc vE) 18 (AV.mp (St.h st25) 0) (AV.agg [AV.str l0, AV.int .i64 0, AV.nilp, AV.int .i64 0, AV.nilp, AV.int .i64 0, AV.nilp, AV.int .i64 0, AV.nilp, AV.int .i64 0, AV.nilp, AV.int .i64 0, AV.nilp, AV.int .i64 0, AV.nilp, AV.int .i64 0, AV.nilp, AV.int .i64 0]) [AV.str l0, AV.int .i64 0, AV.nilp, AV.int .i64 0, AV.nilp, AV.int .i64 0, AV.nilp, AV.int .i64 0, AV.nilp, AV.int .i64 0, AV.nilp, AV.int .i64 0, AV.nilp, AV.int .i64 0, AV.nilp, AV.int .i64 0, AV.nilp, AV.int .i64 0] st29 fun _x st31 _x_1 => asOne v20 (callS (orc vE) 30 [AV.mp (St.h st25) 0, AV.agg [AV.int .i64 n1, v20]] st31 fun _x st35 _x_2 => chk (notNil x0) (fldA 0 x0 fun v37 => loadS 1 false v37 st35 fun v38 _x => loadS 18 true (AV.mp (St.h st25) 0) st35 fun v40 _x => un_sivivivivivivivivi v40 fun l46 n49 v50 n54 v55 n59 v60 n64 v65 n69 v70 n74 v75 n79 v80 n84 v85 n89 => (asOne v50 (asOne v55 (asOne v60 (asOne v65 (asOne v70 (asOne v75 (asOne v80 (asOne v85 (asOne v50 (asOne v55 (asOne v60 (asOne v65 (asOne v70 (asOne v75 (asOne v80 (asOne v85 (fit1 v50 fun v90 => fit1 v55 fun v91 => fit1 v60 fun v92 => fit1 v65 fun v93 => fit1 v70 fun v94 => fit1 v75 fun v95 => fit1 v80 fun v96 => fit1 v85 fun v97 => planS (orc vE) (rowAnyP (TI.mk (U.struct [(0, 9), (1, 70), (17, 3)]) 18 152 [AV.str [], AV.int .i64 0, AV.nilp, AV.int .i64 0, AV.nilp, AV.int .i64 0, AV.nilp, AV.int .i64 0, AV.nilp, AV.int .i64 0, AV.nilp, AV.int .i64 0, AV.nilp, AV.int .i64 0, AV.nilp, AV.int .i64 0, AV.nilp, AV.int .i64 0] true true) 72 v38 (AV.sl 18 [AV.agg [AV.str l46, AV.int .i64 n49, v90, AV.int .i64 n54, v91, AV.int .i64 n59, v92, AV.int .i64 n64, v93, AV.int .i64 n69, v94, AV.int .i64 n74, v95, AV.int .i64 n79, v96, AV.int .i64 n84, v97, AV.int .i64 n89]] Perm.shut)) st35 fun v98 st99 x100 => chk (apart (Fx.mk [] Did.kept) x100 && true) (chk (notNil x0) (fldA 0 x0 fun v101 => asOne v98 (asOne v98 (storeS (orc vE) 1 v101 v98 [v98] st99 fun _x st103 _x_3 => some (AV.int .i64 0, st103)))))))))))))))))))))))))))))))
theorem w9_eq (x0 x1 x2 x3 : AV) (st : St) : wideS vE 9 [x0, x1, x2, x3] st = w9 x0 x1 x2 x3 st := by kernel_rfl
noncomputable def w10_L1 (x3 : AV) (st13 : St) (k33 : Nat) : Car → Option (Car ⊕ Nat × Car) := fun c34 => unc (Prod.fst c34) fun v35 l36 => asI .i64 v35 fun n37 => unc l36 fun v38 l39 => asI .i64 v38 fun n40 => un0 l39 (ifB (decide (n40 < (↑k33 : Int))) (idxA 6 x3 n40 (Prod.snd c34) fun v41 _x => loadS 6 true v41 (Prod.snd c34) fun v43 _x => un_oiiiis v43 fun b49 n52 n55 n58 n61 l64 => (letSt (St.add (Prod.snd c34) (VM.Obj.cells 75 [AV.bool false, AV.int .i64 0, AV.int .i64 0, AV.int .i64 0, AV.int .i64 0, AV.str []])) fun st65 => storeS (orc vE) 6 (AV.mp (St.h (Prod.snd c34)) 0) (AV.agg [AV.bool b49, AV.int .i64 n52, AV.int .i64 n55, AV.int .i64 n58, AV.int .i64 n61, AV.str l64]) [AV.bool b49, AV.int .i64 n52, AV.int .i64 n55, AV.int .i64 n58, AV.int .i64 n61, AV.str l64] st65 fun _x st67 _x_1 => loadS 1 false (AV.mp (St.h st13) 1) st67 fun v69 _x => loadS 6 true (AV.mp (St.h (Prod.snd c34)) 0) st67 fun v71 _x => un_oiiiis v71 fun b77 n80 n83 n86 n89 l92 => (callS (orc vE) 32 [v69, AV.agg [AV.bool b77, AV.int .i64 n80, AV.int .i64 n83, AV.int .i64 n86, AV.int .i64 n89, AV.str l92]] st67 fun v93 st94 _x => unT v93 fun l96 => nthS l96 0 fun v97 => unT v93 fun l98 => nthS l98 1 fun v99 => asI .i64 v99 fun n100 => asOne v97 (asOne v97 (storeS (orc vE) 1 (AV.mp (St.h st13) 1) v97 [v97] st94 fun _x st102 _x_2 => ifB (n100 != 0) (some (Sum.inr (1, [AV.int .i64 n100], st102))) (letV (IntKind.wrap .i64 (n40 + 1)) fun n104 => some (Sum.inl ([AV.int .i64 n37, AV.int .i64 n104], st102)))))))) (some (Sum.inr (0, [AV.int .i64 n37], Prod.snd c34))))
noncomputable def w10 : AV → AV → AV → AV → St → Option (AV × St) := fun x0 x1 x2 x3 st => asS x1 fun l0 => asI .i64 x2 fun n1 => nilS (U.ptr 49) x0 AV.nilp fun b2 => ifB b2 (some (AV.int .i64 2, st)) (callS (orc vE) 26 [x0, AV.str l0] st fun v3 st4 _x => asI .i64 v3 fun n6 => ifB (decide (n6 < 0)) (some (AV.int .i64 5, st4)) (chk (notNil x0) (fldA 0 x0 fun v7 => loadS 1 false v7 st4 fun v8 _x => idxA 18 v8 n6 st4 fun v10 _x => callS (orc vE) 31 [v10] st4 fun v12 st13 _x => un_iv v12 fun n19 v20 => (letSt (St.add st13 (VM.Obj.cells 69 [AV.int .i64 0, AV.nilp])) fun st22 => asOne v20 (storeS (orc vE) 2 (AV.mp (St.h st13) 0) (AV.agg [AV.int .i64 n19, v20]) [AV.int .i64 n19, v20] st22 fun _x st24 _x_1 => callS (orc vE) 27 [AV.int .i64 n1] st24 fun v26 st27 _x => asB v26 fun b29 => ifB b29 (some (AV.int .i64 1, st27)) (loadS 1 false (AV.mp (St.h st13) 0) st27 fun v30 _x => asI .i64 v30 fun n32 => ifB (decide (n1 ≤ n32)) (some (AV.int .i64 67, st27)) (lenS x3 fun k33 => bindO (loopO (w10_L1 x3 st13 k33) ([AV.int .i64 0, AV.int .i64 0], st27)) fun c105 => unc (Prod.fst (Prod.snd c105)) fun v106 l107 => asI .i64 v106 fun n108 => un0 l107 (sel2 (Prod.fst c105) (storeS (orc vE) 1 (AV.mp (St.h st13) 0) (AV.int .i64 n1) [AV.int .i64 n1] (Prod.snd (Prod.snd c105)) fun _x st110 _x_2 => chk (notNil x0) (fldA 0 x0 fun v112 => loadS 1 false v112 st110 fun v113 _x => idxA 18 v113 n6 st110 fun v115 _x => loadS 2 true (AV.mp (St.h st13) 0) st110 fun v117 _x => un_iv v117 fun n123 v124 => (callS (orc vE) 30 [v115, AV.agg [AV.int .i64 n123, v124]] st110 fun _x st127 _x_3 => some (AV.int .i64 0, st127)))) fun _x => some (AV.int .i64 n108, Prod.snd (Prod.snd c105))))))))))
theorem w10_eq (x0 x1 x2 x3 : AV) (st : St) : wideS vE 10 [x0, x1, x2, x3] st = w10 x0 x1 x2 x3 st := by kernel_rfl
noncomputable def g11_L1 (x0 : AV) : Car → Option (Car ⊕ Nat × Car) := fun c0 => unc (Prod.fst c0) fun v1 l2 => unc l2 fun v3 l4 => asI .i64 v3 fun n5 => un0 l4 (lenS x0 fun k6 => ifB (decide (n5 < (↑k6 : Int))) (idxA 6 x0 n5 (Prod.snd c0) fun v7 _x => fldA 0 v7 fun v9 => loadS 1 false v9 (Prod.snd c0) fun v10 _x => asB v10 fun b12 => idxA 6 x0 n5 (Prod.snd c0) fun v13 _x => fldA 1 v13 fun v15 => loadS 4 true v15 (Prod.snd c0) fun v16 _x => un_iiii v16 fun n22 n25 n28 n31 => (idxA 6 x0 n5 (Prod.snd c0) fun v32 _x => fldA 5 v32 fun v34 => loadS 1 false v34 (Prod.snd c0) fun v35 _x => asS v35 fun l37 => appS 6 56 75 v1 [AV.agg [AV.bool b12, AV.int .i64 n22, AV.int .i64 n25, AV.int .i64 n28, AV.int .i64 n31, AV.str l37]] (Prod.snd c0) fun v39 st40 _x => letV (IntKind.wrap .i64 (n5 + 1)) fun n42 => some (Sum.inl ([v39, AV.int .i64 n42], st40)))) (some (Sum.inr (0, [v1], Prod.snd c0))))
noncomputable def g11 : AV → Option AV := fun x0 => bindO (loopO (g11_L1 x0) ([AV.nils, AV.int .i64 0], St.mk 0 0 Tr.leaf)) fun c43 => unc (Prod.fst (Prod.snd c43)) fun v44 l45 => un0 l45 (frzS (Prod.snd (Prod.snd c43)) 0 (oneOf [v44]) fun v46 => some v46)
theorem g11_eq (x0 : AV) : bareS vE 11 [x0] = g11 x0 := by kernel_rfl
noncomputable def w12 : AV → AV → St → Option (AV × St) := fun x0 x1 st => asS x1 fun l0 => nilS (U.ptr 49) x0 AV.nilp fun b1 => ifB b1 (some (AV.int .i64 2, st)) (callS (orc vE) 26 [x0, AV.str l0] st fun v2 st3 _x => asI .i64 v2 fun n5 => ifB (decide (n5 < 0)) (some (AV.int .i64 5, st3)) (chk (notNil x0) (fldA 0 x0 fun v6 => loadS 1 false v6 st3 fun v7 _x => letV (IntKind.wrap .i64 (n5 + 1)) fun n9 => callS (orc vE) 33 [v7, AV.int .i64 n5, AV.int .i64 n9] st3 fun v10 st11 _x => chk (notNil x0) (fldA 0 x0 fun v13 => asOne v10 (asOne v10 (storeS (orc vE) 1 v13 v10 [v10] st11 fun _x st15 _x_1 => some (AV.int .i64 0, st15)))))))
theorem w12_eq (x0 x1 : AV) (st : St) : wideS vE 12 [x0, x1] st = w12 x0 x1 st := by kernel_rfl
noncomputable def w16_L1 (n1 : Int) (v10 : AV) (k13 : Nat) : Car → Option (Car ⊕ Nat × Car) := fun c14 => unc (Prod.fst c14) fun v15 l16 => asS v15 fun l17 => unc l16 fun v18 l19 => asI .i64 v18 fun n20 => unc l19 fun v21 l22 => asI .i64 v21 fun n23 => un0 l22 (ifB (decide (n23 < (↑k13 : Int))) (idxA 2 v10 n23 (Prod.snd c14) fun v24 _x => loadS 2 true v24 (Prod.snd c14) fun v26 _x => un_iv v26 fun n32 v33 => (letSt (St.add (Prod.snd c14) (VM.Obj.cells 69 [AV.int .i64 0, AV.nilp])) fun st35 => asOne v33 (storeS (orc vE) 2 (AV.mp (St.h (Prod.snd c14)) 0) (AV.agg [AV.int .i64 n32, v33]) [AV.int .i64 n32, v33] st35 fun _x st37 _x_1 => loadS 1 false (AV.mp (St.h (Prod.snd c14)) 0) st37 fun v39 _x => asI .i64 v39 fun n41 => ifB (n41 == n1) (loadS 1 false (AV.mp (St.h (Prod.snd c14)) 1) st37 fun v42 _x => callS (orc vE) 40 [v42] st37 fun v44 st45 _x => asS v44 fun l47 => some (Sum.inr (1, [AV.str l47, AV.int .i64 0], st45))) (letV (IntKind.wrap .i64 (n23 + 1)) fun n48 => some (Sum.inl ([AV.str l17, AV.int .i64 n20, AV.int .i64 n48], st37)))))) (some (Sum.inr (0, [AV.str l17, AV.int .i64 n20], Prod.snd c14))))
noncomputable def w16 : AV → AV → AV → St → Option (AV × St) := fun x0 x1 x2 st => asS x1 fun l0 => asI .i64 x2 fun n1 => callS (orc vE) 38 [x0, AV.str l0] st fun v2 st3 _x => unT v2 fun l5 => nthS l5 0 fun v6 => unT v2 fun l7 => nthS l7 1 fun v8 => asI .i64 v8 fun n9 => ifB (n9 != 0) (some (AV.tup [AV.str [], AV.int .i64 n9], st3)) (callS (orc vE) 39 [v6] st3 fun v10 st11 _x => lenS v10 fun k13 => bindO (loopO (w16_L1 n1 v10 k13) ([AV.str [], AV.int .i64 0, AV.int .i64 0], st11)) fun c49 => unc (Prod.fst (Prod.snd c49)) fun v50 l51 => asS v50 fun l52 => unc l51 fun v53 l54 => asI .i64 v53 fun n55 => un0 l54 (sel2 (Prod.fst c49) (some (AV.tup [AV.str [], AV.int .i64 5], Prod.snd (Prod.snd c49))) fun _x => some (AV.tup [AV.str l52, AV.int .i64 n55], Prod.snd (Prod.snd c49))))
theorem w16_eq (x0 x1 x2 : AV) (st : St) : wideS vE 16 [x0, x1, x2] st = w16 x0 x1 x2 st := by kernel_rfl
noncomputable def w18_L1 (v2 : AV) (k4 : Nat) : Car → Option (Car ⊕ Nat × Car) := fun c5 => unc (Prod.fst c5) fun v6 l7 => unc l7 fun v8 l9 => asI .i64 v8 fun n10 => un0 l9 (ifB (decide (n10 < (↑k4 : Int))) (idxA 18 v2 n10 (Prod.snd c5) fun v11 _x => loadS 18 true v11 (Prod.snd c5) fun v13 _x => un_sivivivivivivivivi v13 fun l19 n22 v23 n27 v28 n32 v33 n37 v38 n42 v43 n47 v48 n52 v53 n57 v58 n62 => (letSt (St.add (Prod.snd c5) (VM.Obj.cells 72 [AV.str [], AV.int .i64 0, AV.nilp, AV.int .i64 0, AV.nilp, AV.int .i64 0, AV.nilp, AV.int .i64 0, AV.nilp, AV.int .i64 0, AV.nilp, AV.int .i64 0, AV.nilp, AV.int .i64 0, AV.nilp, AV.int .i64 0, AV.nilp, AV.int .i64 0])) fun st63 => asOne v23 (asOne v28 (asOne v33 (asOne v38 (asOne v43 (asOne v48 (asOne v53 (asOne v58 (storeS (orc vE) 18 (AV.mp (St.h (Prod.snd c5)) 0) (AV.agg [AV.str l19, AV.int .i64 n22, v23, AV.int .i64 n27, v28, AV.int .i64 n32, v33, AV.int .i64 n37, v38, AV.int .i64 n42, v43, AV.int .i64 n47, v48, AV.int .i64 n52, v53, AV.int .i64 n57, v58, AV.int .i64 n62]) [AV.str l19, AV.int .i64 n22, v23, AV.int .i64 n27, v28, AV.int .i64 n32, v33, AV.int .i64 n37, v38, AV.int .i64 n42, v43, AV.int .i64 n47, v48, AV.int .i64 n52, v53, AV.int .i64 n57, v58, AV.int .i64 n62] st63 fun _x st65 _x_1 => loadS 1 false (AV.mp (St.h (Prod.snd c5)) 0) st65 fun v67 _x => asS v67 fun l69 => planS (orc vE) (rowAnyP (TI.mk U.str 1 16 [AV.str []] false false) 9 v6 (AV.sl 1 [AV.str l69] Perm.shut)) st65 fun v70 st71 _x => letV (IntKind.wrap .i64 (n10 + 1)) fun n73 => some (Sum.inl ([v70, AV.int .i64 n73], st71)))))))))))) (some (Sum.inr (0, [v6], Prod.snd c5))))
noncomputable def w18 : AV → St → Option (AV × St) := fun x0 st => nilS (U.ptr 49) x0 AV.nilp fun b0 => ifB b0 (some (AV.nils, st)) (chk (notNil x0) (fldA 0 x0 fun v1 => loadS 1 false v1 st fun v2 _x => lenS v2 fun k4 => bindO (loopO (w18_L1 v2 k4) ([AV.nils, AV.int .i64 0], st)) fun c74 => unc (Prod.fst (Prod.snd c74)) fun v75 l76 => un0 l76 (some (oneOf [v75], Prod.snd (Prod.snd c74)))))
theorem w18_eq (x0 : AV) (st : St) : wideS vE 18 [x0] st = w18 x0 st := by kernel_rfl
noncomputable def w21 : AV → AV → St → Option (AV × St) := fun x0 x1 st => asS x1 fun l0 => callS (orc vE) 38 [x0, AV.str l0] st fun v1 st2 _x => unT v1 fun l4 => nthS l4 0 fun v5 => unT v1 fun l6 => nthS l6 1 fun v7 => asI .i64 v7 fun n8 => ifB (n8 != 0) (some (AV.tup [AV.int .i64 0, AV.str [], AV.int .i64 n8], st2)) (callS (orc vE) 31 [v5] st2 fun v9 st10 _x => un_iv v9 fun n16 v17 => (letSt (St.add st10 (VM.Obj.cells 69 [AV.int .i64 0, AV.nilp])) fun st19 => asOne v17 (storeS (orc vE) 2 (AV.mp (St.h st10) 0) (AV.agg [AV.int .i64 n16, v17]) [AV.int .i64 n16, v17] st19 fun _x st21 _x_1 => loadS 1 false (AV.mp (St.h st10) 0) st21 fun v23 l24 => asI .i64 v23 fun n25 => loadS 1 false (AV.mp (St.h st10) 1) st21 fun v26 _x => callS (orc vE) 40 [v26] st21 fun v28 st29 x30 => asS v28 fun l31 => chk (apart (Fx.mk l24 Did.kept) x30 && (apart (Fx.mk [] Did.kept) x30 && true)) (some (AV.tup [AV.int .i64 n25, AV.str l31, AV.int .i64 0], st29)))))
theorem w21_eq (x0 x1 : AV) (st : St) : wideS vE 21 [x0, x1] st = w21 x0 x1 st := by kernel_rfl
noncomputable def w23_L1 (v9 : AV) (k12 : Nat) : Car → Option (Car ⊕ Nat × Car) := fun c13 => unc (Prod.fst c13) fun v14 l15 => unc l15 fun v16 l17 => asI .i64 v16 fun n18 => un0 l17 (ifB (decide (n18 < (↑k12 : Int))) (idxA 2 v9 n18 (Prod.snd c13) fun v19 _x => loadS 2 true v19 (Prod.snd c13) fun v21 _x => un_iv v21 fun n27 v28 => (letSt (St.add (Prod.snd c13) (VM.Obj.cells 69 [AV.int .i64 0, AV.nilp])) fun st30 => asOne v28 (storeS (orc vE) 2 (AV.mp (St.h (Prod.snd c13)) 0) (AV.agg [AV.int .i64 n27, v28]) [AV.int .i64 n27, v28] st30 fun _x st32 _x_1 => loadS 1 false (AV.mp (St.h (Prod.snd c13)) 0) st32 fun v34 _x => asI .i64 v34 fun n36 => appS 1 8 3 v14 [AV.int .i64 n36] st32 fun v37 st38 _x => letV (IntKind.wrap .i64 (n18 + 1)) fun n40 => some (Sum.inl ([v37, AV.int .i64 n40], st38))))) (some (Sum.inr (0, [v14], Prod.snd c13))))
noncomputable def w23 : AV → AV → St → Option (AV × St) := fun x0 x1 st => asS x1 fun l0 => callS (orc vE) 38 [x0, AV.str l0] st fun v1 st2 _x => unT v1 fun l4 => nthS l4 0 fun v5 => unT v1 fun l6 => nthS l6 1 fun v7 => asI .i64 v7 fun n8 => ifB (n8 != 0) (some (AV.tup [AV.nils, AV.int .i64 n8], st2)) (callS (orc vE) 39 [v5] st2 fun v9 st10 _x => lenS v9 fun k12 => bindO (loopO (w23_L1 v9 k12) ([AV.nils, AV.int .i64 0], st10)) fun c41 => unc (Prod.fst (Prod.snd c41)) fun v42 l43 => un0 l43 (some (AV.tup [v42, AV.int .i64 0], Prod.snd (Prod.snd c41))))
theorem w23_eq (x0 x1 : AV) (st : St) : wideS vE 23 [x0, x1] st = w23 x0 x1 st := by kernel_rfl
noncomputable def g25_L1 (x0 : AV) (x1 : AV) : Car → Option (Car ⊕ Nat × Car) := fun c2 => unc (Prod.fst c2) fun v3 l4 => asB v3 fun b5 => unc l4 fun v6 l7 => asI .i64 v6 fun n8 => un0 l7 (lenS x0 fun k9 => ifB (decide (n8 < (↑k9 : Int))) (idxA 1 x0 n8 (Prod.snd c2) fun v10 _x => loadS 1 false v10 (Prod.snd c2) fun v12 _x => asI .i64 v12 fun n14 => idxA 1 x1 n8 (Prod.snd c2) fun v15 _x => loadS 1 false v15 (Prod.snd c2) fun v17 _x => asI .i64 v17 fun n19 => ifB (n14 != n19) (some (Sum.inr (1, [AV.bool false], Prod.snd c2))) (letV (IntKind.wrap .i64 (n8 + 1)) fun n20 => some (Sum.inl ([AV.bool b5, AV.int .i64 n20], Prod.snd c2)))) (some (Sum.inr (0, [AV.bool b5], Prod.snd c2))))
noncomputable def g25 : AV → AV → Option AV := fun x0 x1 => lenS x0 fun k0 => lenS x1 fun k1 => ifB ((↑k0 : Int) != (↑k1 : Int)) (some (AV.bool false)) (bindO (loopO (g25_L1 x0 x1) ([AV.bool false, AV.int .i64 0], St.mk 0 0 Tr.leaf)) fun c21 => unc (Prod.fst (Prod.snd c21)) fun v22 l23 => asB v22 fun b24 => un0 l23 (sel2 (Prod.fst c21) (some (AV.bool true)) fun _x => some (AV.bool b24)))
theorem g25_eq (x0 x1 : AV) : bareS vE 25 [x0, x1] = g25 x0 x1 := by kernel_rfl
noncomputable def w26 : AV → AV → St → Option (AV × St) := fun x0 x1 st => asS x1 fun l0 => letSt (St.add st (VM.Obj.cells 9 [AV.str l0])) fun st1 => chk (notNil x0) (fldA 0 x0 fun v2 => loadS 1 false v2 st1 fun v3 _x => callS (orc vE) 41 [v3, AV.fn (Fn.func 42) [] [AV.mp (St.h st) 0]] st1 fun v5 st6 _x => asI .i64 v5 fun n8 => some (AV.int .i64 n8, st6))
theorem w26_eq (x0 x1 : AV) (st : St) : wideS vE 26 [x0, x1] st = w26 x0 x1 st := by kernel_rfl
noncomputable def g27 : AV → Option AV := fun x0 => asI .i64 x0 fun n0 => bindO (ifB (decide (n0 < 0)) (some ([AV.bool true], St.mk 0 0 Tr.leaf)) (some ([AV.bool (decide (n0 > 2147483647))], St.mk 0 0 Tr.leaf))) fun c1 => unc (Prod.fst c1) fun v2 l3 => asB v2 fun b4 => un0 l3 (some (AV.bool b4))
theorem g27_eq (x0 : AV) : bareS vE 27 [x0] = g27 x0 := by kernel_rfl
noncomputable def g28 : AV → Option AV := fun x0 => asS x0 fun l0 => ifB (decide ((↑(List.length l0) : Int) > 65536)) (some (AV.tup [AV.nilp, AV.int .i64 40])) (callS (orc vE) 43 [AV.str l0] (St.mk 0 0 Tr.leaf) fun v1 _x _x_1 => asOne v1 (asOne v1 (fit1 v1 fun v5 => some (AV.tup [AV.ip [v5], AV.int .i64 0]))))
theorem g28_eq (x0 : AV) : bareS vE 28 [x0] = g28 x0 := by kernel_rfl
noncomputable def g29 : AV → Option AV := fun x0 => asS x0 fun l0 => planS (orc vE) (primP (Prim.lib libValid) [AV.str l0]) (St.mk 0 0 Tr.leaf) fun v1 _x _x_1 => asB v1 fun b4 => some (AV.bool b4)
theorem g29_eq (x0 : AV) : bareS vE 29 [x0] = g29 x0 := by kernel_rfl
noncomputable def w30 : AV → AV → St → Option (AV × St) := fun x0 x1 st => un_iv x1 fun n4 v5 => (asOne v5 (fit1 v5 fun v7 => chk (notNil x0) (fldA 17 x0 fun v8 => loadS 1 false v8 st fun v9 _x => asI .i64 v9 fun n11 => letV (Int.tmod n11 8) fun n12 => chk (notNil x0) (fldA 1 x0 fun v14 => insideS n12 8 fun k15 => fldA (k15 * 2) v14 fun v16 => asOne v7 (storeS (orc vE) 2 v16 (AV.agg [AV.int .i64 n4, v7]) [AV.int .i64 n4, v7] st fun _x st18 _x_1 => chk (notNil x0) (fldA 17 x0 fun v20 => loadS 1 false v20 st18 fun v21 _x => asI .i64 v21 fun n23 => letV (IntKind.wrap .i64 (n23 + 1)) fun n24 => chk (notNil x0) (fldA 17 x0 fun v25 => storeS (orc vE) 1 v25 (AV.int .i64 n24) [AV.int .i64 n24] st18 fun _x st27 _x_2 => some (AV.tup [], st27))))))))
theorem w30_eq (x0 x1 : AV) (st : St) : wideS vE 30 [x0, x1] st = w30 x0 x1 st := by kernel_rfl
noncomputable def w31 : AV → St → Option (AV × St) := fun x0 st => letSt (St.add st (VM.Obj.cells 69 [AV.int .i64 0, AV.nilp])) fun st0 => chk (notNil x0) (fldA 17 x0 fun v1 => loadS 1 false v1 st0 fun v2 _x => asI .i64 v2 fun n4 => letV (IntKind.wrap .i64 (n4 - 1)) fun n5 => letV (Int.tmod n5 8) fun n6 => chk (notNil x0) (fldA 1 x0 fun v7 => insideS n6 8 fun k8 => fldA (k8 * 2) v7 fun v9 => loadS 2 true v9 st0 fun v10 _x => un_iv v10 fun n16 v17 => (asOne v17 (storeS (orc vE) 2 (AV.mp (St.h st) 0) (AV.agg [AV.int .i64 n16, v17]) [AV.int .i64 n16, v17] st0 fun _x st20 _x_1 => loadS 2 true (AV.mp (St.h st) 0) st20 fun v22 _x => un_iv v22 fun n28 v29 => (some (AV.agg [AV.int .i64 n28, v29], st20))))))
theorem w31_eq (x0 : AV) (st : St) : wideS vE 31 [x0] st = w31 x0 st := by kernel_rfl
noncomputable def g32 : AV → AV → Option AV := fun x0 x1 => un_oiiiis x1 fun b4 n7 n10 n13 n16 l19 => (callS (orc vE) 45 [x0] (St.mk 0 0 Tr.leaf) fun v20 st21 _x => asI .i64 v20 fun n23 => letSt (St.add st21 (VM.Obj.cells 98 [AV.int .i64 0, AV.int .i64 0])) fun st25 => storeS (orc vE) 2 (AV.mp (St.h st21) 0) (AV.agg [AV.int .i64 0, AV.int .i64 n23]) [AV.int .i64 0, AV.int .i64 n23] st25 fun _x st27 _x_1 => bindO (ifB (!b4) (callS (orc vE) 40 [x0] st27 fun v29 st30 _x => asS v29 fun l32 => callS (orc vE) 46 [AV.str l32] st30 fun v33 st34 _x => unT v33 fun l36 => nthS l36 0 fun v37 => unT v33 fun l38 => nthS l38 1 fun v39 => asI .i64 v39 fun n40 => ifB (n40 != 0) (some (Sum.inr (AV.tup [AV.nilp, AV.int .i64 n40]))) (callS (orc vE) 47 [v37, AV.agg [AV.int .i64 n7, AV.int .i64 n10, AV.int .i64 n13, AV.int .i64 n16]] st34 fun v42 st43 _x => unT v42 fun l45 => nthS l45 0 fun v46 => un_ii v46 fun n51 n54 => (unT v42 fun l55 => nthS l55 1 fun v56 => asI .i64 v56 fun n57 => storeS (orc vE) 2 (AV.mp (St.h st21) 0) (AV.agg [AV.int .i64 n51, AV.int .i64 n54]) [AV.int .i64 n51, AV.int .i64 n54] st43 fun _x st59 _x_2 => ifB (n57 != 0) (some (Sum.inr (AV.tup [AV.nilp, AV.int .i64 n57]))) (some (Sum.inl ([AV.nilp, AV.int .i64 0], st59)))))) (some (Sum.inl ([AV.nilp, AV.int .i64 0], st27)))) fun c61 => onSum c61 fun c62 => unc (Prod.fst c62) fun _x l64 => unc l64 fun v65 l66 => asI .i64 v65 fun _x => un0 l66 (loadS 2 true (AV.mp (St.h st21) 0) (Prod.snd c62) fun v68 _x => un_ii v68 fun n74 n77 => (callS (orc vE) 48 [x0, AV.agg [AV.int .i64 n74, AV.int .i64 n77], AV.str l19] (Prod.snd c62) fun v78 st79 _x => unT v78 fun l81 => nthS l81 0 fun v82 => unT v78 fun l83 => nthS l83 1 fun v84 => asI .i64 v84 fun n85 => ifB (n85 != 0) (some (AV.tup [AV.nilp, AV.int .i64 n85])) (callS (orc vE) 29 [AV.str l19] st79 fun v86 st87 _x => asB v86 fun b89 => ifB (!b89) (some (AV.tup [AV.nilp, AV.int .i64 4])) (frzS st87 0 (AV.tup [v82, AV.int .i64 0]) fun v90 => some v90)))))
theorem g32_eq (x0 x1 : AV) : bareS vE 32 [x0, x1] = g32 x0 x1 := by kernel_rfl
noncomputable def g36_L1 : Car → Option (Car ⊕ Nat × Car) := fun c1 => unc (Prod.fst c1) fun v2 l3 => asB v2 fun b4 => unc l3 fun v5 l6 => asS v5 fun l7 => un0 l6 (ifB (!l7 == []) (callS (orc vE) 49 [AV.str l7] (Prod.snd c1) fun v8 st9 _x => unT v8 fun l11 => nthS l11 0 fun v12 => asI .i64 v12 fun n13 => unT v8 fun l14 => nthS l14 1 fun v15 => asI .i64 v15 fun n16 => ifB (decide (n13 < 0)) (some (Sum.inr (1, [AV.bool false], st9))) (uptoS n16 (List.length l7) fun k17 => letV (List.drop k17 (List.take (List.length l7) l7)) fun l18 => some (Sum.inl ([AV.bool b4, AV.str l18], st9)))) (some (Sum.inr (0, [AV.bool b4], Prod.snd c1))))
noncomputable def g36 : AV → Option AV := fun x0 => asS x0 fun l0 => bindO (loopO g36_L1 ([AV.bool false, AV.str l0], St.mk 0 0 Tr.leaf)) fun c19 => unc (Prod.fst (Prod.snd c19)) fun v20 l21 => asB v20 fun b22 => un0 l21 (sel2 (Prod.fst c19) (some (AV.bool true)) fun _x => some (AV.bool b22))
theorem g36_eq (x0 : AV) : bareS vE 36 [x0] = g36 x0 := by kernel_rfl
noncomputable def w38 : AV → AV → St → Option (AV × St) := fun x0 x1 st => asS x1 fun l0 => nilS (U.ptr 49) x0 AV.nilp fun b1 => ifB b1 (some (AV.tup [AV.nilp, AV.int .i64 2], st)) (callS (orc vE) 26 [x0, AV.str l0] st fun v2 st3 _x => asI .i64 v2 fun n5 => ifB (decide (n5 < 0)) (some (AV.tup [AV.nilp, AV.int .i64 5], st3)) (chk (notNil x0) (fldA 0 x0 fun v6 => loadS 1 false v6 st3 fun v7 _x => idxA 18 v7 n5 st3 fun v9 _x => some (AV.tup [v9, AV.int .i64 0], st3))))
theorem w38_eq (x0 x1 : AV) (st : St) : wideS vE 38 [x0, x1] st = w38 x0 x1 st := by kernel_rfl
noncomputable def w39_L1 (x0 : AV) : Car → Option (Car ⊕ Nat × Car) := fun c6 => unc (Prod.fst c6) fun v7 l8 => unc l8 fun v9 l10 => asI .i64 v9 fun n11 => un0 l10 (chk (notNil x0) (fldA 17 x0 fun v12 => loadS 1 false v12 (Prod.snd c6) fun v13 _x => asI .i64 v13 fun n15 => ifB (decide (n11 < n15)) (letV (Int.tmod n11 8) fun n16 => chk (notNil x0) (fldA 1 x0 fun v17 => insideS n16 8 fun k18 => fldA (k18 * 2) v17 fun v19 => loadS 2 true v19 (Prod.snd c6) fun v20 _x => un_iv v20 fun n26 v27 => (asOne v27 (asOne v27 (fit1 v27 fun v29 => asOne v29 (fit1 v29 fun v30 => appS 2 16 69 v7 [AV.agg [AV.int .i64 n26, v30]] (Prod.snd c6) fun v31 st32 _x => letV (IntKind.wrap .i64 (n11 + 1)) fun n34 => some (Sum.inl ([v31, AV.int .i64 n34], st32)))))))) (some (Sum.inr (0, [v7], Prod.snd c6)))))
noncomputable def w39 : AV → St → Option (AV × St) := fun x0 st => chk (notNil x0) (fldA 17 x0 fun v0 => loadS 1 false v0 st fun v1 _x => asI .i64 v1 fun n3 => letV (IntKind.wrap .i64 (n3 - 8)) fun n4 => letV (if n4 > 0 then n4 else 0) fun n5 => bindO (loopO (w39_L1 x0) ([AV.nils, AV.int .i64 n5], st)) fun c35 => unc (Prod.fst (Prod.snd c35)) fun v36 l37 => un0 l37 (some (oneOf [v36], Prod.snd (Prod.snd c35))))
theorem w39_eq (x0 : AV) (st : St) : wideS vE 39 [x0] st = w39 x0 st := by kernel_rfl
noncomputable def g40 : AV → Option AV := fun x0 => nilS (U.ptr 95) x0 AV.nilp fun b0 => ifB b0 (some (AV.str [])) (chk (notNil x0) (fldA 0 x0 fun v1 => loadS 1 false v1 (St.mk 0 0 Tr.leaf) fun v2 _x => callS (orc vE) 52 [v2] (St.mk 0 0 Tr.leaf) fun v4 _x _x_1 => asS v4 fun l7 => some (AV.str l7)))
theorem g40_eq (x0 : AV) : bareS vE 40 [x0] = g40 x0 := by kernel_rfl
noncomputable def w41_L1 (x0 : AV) (x1 : AV) (k0 : Nat) : Car → Option (Car ⊕ Nat × Car) := fun c1 => unc (Prod.fst c1) fun v2 l3 => asI .i64 v2 fun n4 => unc l3 fun v5 l6 => asI .i64 v5 fun n7 => un0 l6 (ifB (decide (n7 < (↑k0 : Int))) (idxA 18 x0 n7 (Prod.snd c1) fun v8 _x => loadS 18 true v8 (Prod.snd c1) fun v10 _x => un_sivivivivivivivivi v10 fun l16 n19 v20 n24 v25 n29 v30 n34 v35 n39 v40 n44 v45 n49 v50 n54 v55 n59 => (callF (orc vE) (Sx.prim (sx vE 41)) x1 [AV.agg [AV.str l16, AV.int .i64 n19, v20, AV.int .i64 n24, v25, AV.int .i64 n29, v30, AV.int .i64 n34, v35, AV.int .i64 n39, v40, AV.int .i64 n44, v45, AV.int .i64 n49, v50, AV.int .i64 n54, v55, AV.int .i64 n59]] (Prod.snd c1) fun v60 st61 _x => asB v60 fun b63 => ifB b63 (some (Sum.inr (1, [AV.int .i64 n7], st61))) (letV (IntKind.wrap .i64 (n7 + 1)) fun n64 => some (Sum.inl ([AV.int .i64 n4, AV.int .i64 n64], st61))))) (some (Sum.inr (0, [AV.int .i64 n4], Prod.snd c1))))
noncomputable def w41 : AV → AV → St → Option (AV × St) := fun x0 x1 st => lenS x0 fun k0 => bindO (loopO (w41_L1 x0 x1 k0) ([AV.int .i64 0, AV.int .i64 0], st)) fun c65 => unc (Prod.fst (Prod.snd c65)) fun v66 l67 => asI .i64 v66 fun n68 => un0 l67 (sel2 (Prod.fst c65) (some (AV.int .i64 (-1), Prod.snd (Prod.snd c65))) fun _x => some (AV.int .i64 n68, Prod.snd (Prod.snd c65)))
theorem w41_eq (x0 x1 : AV) (st : St) : wideS vE 41 [x0, x1] st = w41 x0 x1 st := by kernel_rfl
noncomputable def w42 : AV → AV → St → Option (AV × St) := fun x0 x1 st => un_sivivivivivivivivi x0 fun l4 _x v8 _x v13 _x v18 _x v23 _x v28 _x v33 _x v38 _x v43 _x => (asOne v8 (asOne v13 (asOne v18 (asOne v23 (asOne v28 (asOne v33 (asOne v38 (asOne v43 (fit1 v8 fun _x => fit1 v13 fun _x => fit1 v18 fun _x => fit1 v23 fun _x => fit1 v28 fun _x => fit1 v33 fun _x => fit1 v38 fun _x => fit1 v43 fun _x => loadS 1 false x1 st fun v56 _x => asS v56 fun l58 => some (AV.bool (l4 == l58), st))))))))))
theorem w42_eq (x0 x1 : AV) (st : St) : wideS vE 42 [x0, x1] st = w42 x0 x1 st := by kernel_rfl
noncomputable def g43 : AV → Option AV := fun x0 => asS x0 fun l0 => ifB (decide ((↑(List.length l0) : Int) ≤ 128)) (callS (orc vE) 53 [AV.str l0] (St.mk 0 0 Tr.leaf) fun v1 st2 _x => frzS st2 0 (oneOf [v1]) fun v4 => some v4) (letV (IntKind.wrap .i64 (Int.tdiv (↑(List.length l0) : Int) 2)) fun n5 => uptoS n5 (List.length l0) fun k6 => letV (List.drop 0 (List.take k6 l0)) fun l7 => callS (orc vE) 43 [AV.str l7] (St.mk 0 0 Tr.leaf) fun v8 st9 x10 => chk (apart x10 (Fx.mk [] Did.kept) && true) (chk (apart x10 (Fx.mk [] Did.kept) && true) (uptoS n5 (List.length l0) fun k11 => letV (List.drop k11 (List.take (List.length l0) l0)) fun l12 => chk (apart x10 (Fx.mk [] Did.kept) && true) (callS (orc vE) 43 [AV.str l12] st9 fun v13 st14 _x => callS (orc vE) 54 [v8, v13] st14 fun v16 st17 _x => frzS st17 0 (oneOf [v16]) fun v19 => some v19))))
theorem g43_eq (x0 : AV) : bareS vE 43 [x0] = g43 x0 := by kernel_rfl
noncomputable def g45 : AV → Option AV := fun x0 => callS (orc vE) 56 [x0] (St.mk 0 0 Tr.leaf) fun v0 _x _x_1 => un_iii v0 fun n7 _x _x => (some (AV.int .i64 n7))
theorem g45_eq (x0 : AV) : bareS vE 45 [x0] = g45 x0 := by kernel_rfl
noncomputable def g46 : AV → Option AV := fun x0 => asS x0 fun l0 => ifB (decide ((↑(List.length l0) : Int) > 65536)) (some (AV.tup [AV.nilp, AV.int .i64 40])) (planS (orc vE) (primP (Prim.lib libValid) [AV.str l0]) (St.mk 0 0 Tr.leaf) fun v1 st2 _x => asB v1 fun b4 => ifB (!b4) (some (AV.tup [AV.nilp, AV.int .i64 4])) (letSt (St.add st2 (VM.Obj.cells 122 [AV.str l0, AV.nils])) fun st6 => letSt (St.add st6 (VM.Obj.cells 99 [AV.nilp])) fun st7 => storeS (orc vE) 1 (AV.mp (St.h st6) 0) (AV.mp (St.h st2) 0) [AV.mp (St.h st2) 0] st7 fun _x st9 _x_1 => callS (orc vE) 57 [AV.str l0] st9 fun v11 st12 _x => rangeS (orc vE) v11 (lpS vE 46 0 [AV.mp (St.h st6) 0] 0 Ex.normal) st12 fun c14 st15 => jumpIf c14 Ex.normal (loadS 1 false (AV.mp (St.h st6) 0) st15 fun v16 _x => frzS st15 0 (AV.tup [v16, AV.int .i64 0]) fun v18 => some v18) none))
theorem g46_eq (x0 : AV) : bareS vE 46 [x0] = g46 x0 := by kernel_rfl
noncomputable def r46_0 : Nat → AV → AV → St → Option (AV × St) := fun k y0 x0 st => un_ii x0 fun n4 n7 => (letSt (St.add st (VM.Obj.cells 98 [AV.int .i64 0, AV.int .i64 0])) fun st8 => storeS (orc vE) 2 (AV.mp (St.h st) 0) (AV.agg [AV.int .i64 n4, AV.int .i64 n7]) [AV.int .i64 n4, AV.int .i64 n7] st8 fun _x st10 _x_1 => setLoopS k 0 1 Ex.normal st10 fun st12 => loadS 1 false y0 st12 fun v13 l14 => loadS 1 false y0 st12 fun v15 _x => chk (notNil v15) (fldA 1 v15 fun v17 => loadS 1 false v17 st12 fun v18 _x => loadS 2 true (AV.mp (St.h st) 0) st12 fun v20 _x => un_ii v20 fun n26 n29 => (appS 2 16 98 v18 [AV.agg [AV.int .i64 n26, AV.int .i64 n29]] st12 fun v30 st31 x32 => chk (apart (Fx.mk l14 Did.kept) x32 && true) (chk (notNil v13) (fldA 1 v13 fun v33 => asOne v30 (asOne v30 (storeS (orc vE) 1 v33 v30 [v30] st31 fun _x st35 _x_2 => setLoopS k 1 0 Ex.normal st35 fun st37 => some (AV.bool true, st37))))))))
theorem r46_0_eq (k : Nat) (y0 x0 : AV) (st : St) : roundS vE 46 0 k [y0] [x0] st = r46_0 k y0 x0 st := by kernel_rfl
noncomputable def g47 : AV → AV → Option AV := fun x0 x1 => un_iiii x1 fun n4 n7 n10 n13 => (callS (orc vE) 58 [x0, AV.agg [AV.int .i64 n4, AV.int .i64 n7]] (St.mk 1 0 (Tr.node (some (VM.Obj.cells 98 [AV.int .i64 0, AV.int .i64 0])) Tr.leaf Tr.leaf)) fun v15 st16 _x => unT v15 fun l18 => nthS l18 0 fun v19 => asI .i64 v19 fun n20 => unT v15 fun l21 => nthS l21 1 fun v22 => asI .i64 v22 fun n23 => ifB (n23 != 0) (storeS (orc vE) 2 (AV.mp 0 0) (AV.agg [AV.int .i64 0, AV.int .i64 0]) [AV.int .i64 0, AV.int .i64 0] st16 fun _x st26 _x_1 => loadS 2 true (AV.mp 0 0) st26 fun v28 _x => un_ii v28 fun n34 n37 => (some (AV.tup [AV.agg [AV.int .i64 n34, AV.int .i64 n37], AV.int .i64 n23]))) (callS (orc vE) 58 [x0, AV.agg [AV.int .i64 n10, AV.int .i64 n13]] st16 fun v39 st40 _x => unT v39 fun l42 => nthS l42 0 fun v43 => asI .i64 v43 fun n44 => unT v39 fun l45 => nthS l45 1 fun v46 => asI .i64 v46 fun n47 => ifB (n47 != 0) (storeS (orc vE) 2 (AV.mp 0 0) (AV.agg [AV.int .i64 0, AV.int .i64 0]) [AV.int .i64 0, AV.int .i64 0] st40 fun _x st50 _x_1 => loadS 2 true (AV.mp 0 0) st50 fun v52 _x => un_ii v52 fun n58 n61 => (some (AV.tup [AV.agg [AV.int .i64 n58, AV.int .i64 n61], AV.int .i64 n47]))) (ifB (decide (n20 > n44)) (storeS (orc vE) 2 (AV.mp 0 0) (AV.agg [AV.int .i64 0, AV.int .i64 0]) [AV.int .i64 0, AV.int .i64 0] st40 fun _x st64 _x_1 => loadS 2 true (AV.mp 0 0) st64 fun v66 _x => un_ii v66 fun n72 n75 => (some (AV.tup [AV.agg [AV.int .i64 n72, AV.int .i64 n75], AV.int .i64 60]))) (storeS (orc vE) 2 (AV.mp 0 0) (AV.agg [AV.int .i64 n20, AV.int .i64 n44]) [AV.int .i64 n20, AV.int .i64 n44] st40 fun _x st78 _x_1 => loadS 2 true (AV.mp 0 0) st78 fun v80 _x => un_ii v80 fun n86 n89 => (some (AV.tup [AV.agg [AV.int .i64 n86, AV.int .i64 n89], AV.int .i64 0]))))))
theorem g47_eq (x0 x1 : AV) : bareS vE 47 [x0, x1] = g47 x0 x1 := by kernel_rfl
noncomputable def g48 : AV → AV → AV → Option AV := fun x0 x1 x2 => un_ii x1 fun n4 n7 => (asS x2 fun l8 => callS (orc vE) 59 [x0, AV.agg [AV.int .i64 n4, AV.int .i64 n7]] (St.mk 0 0 Tr.leaf) fun v10 st11 _x => asI .i64 v10 fun n13 => ifB (n13 != 0) (some (AV.tup [AV.nilp, AV.int .i64 n13])) (callS (orc vE) 45 [x0] st11 fun v14 st15 x16 => asI .i64 v14 fun n17 => chk (apart (Fx.mk [] Did.kept) x16 && (apart (Fx.mk [] Did.kept) x16 && true)) (chk (apart x16 (Fx.mk [] Did.kept) && true) (chk (apart x16 (Fx.mk [] Did.kept) && true) (chk (apart x16 (Fx.mk [] Did.kept) && true) (chk (apart x16 (Fx.mk [] Did.kept) && true) (letV (IntKind.wrap .i64 (n7 - n4)) fun n18 => chk (apart x16 (Fx.mk [] Did.kept) && true) (letV (IntKind.wrap .i64 (n17 - n18)) fun n19 => letV (IntKind.wrap .i64 (65536 - n19)) fun n20 => ifB (decide ((↑(List.length l8) : Int) > n20)) (some (AV.tup [AV.nilp, AV.int .i64 40])) (chk (notNil x0) (fldA 0 x0 fun v21 => loadS 1 false v21 st15 fun v22 _x => callS (orc vE) 60 [v22, AV.int .i64 n4] st15 fun v24 st25 _x => unT v24 fun l27 => nthS l27 0 fun v28 => unT v24 fun l29 => nthS l29 1 fun v30 => letV (IntKind.wrap .i64 (n7 - n4)) fun n31 => callS (orc vE) 60 [v30, AV.int .i64 n31] st25 fun v32 st33 _x => unT v32 fun l35 => nthS l35 0 fun _x => unT v32 fun l37 => nthS l37 1 fun v38 => callS (orc vE) 43 [AV.str l8] st33 fun v39 st40 _x => callS (orc vE) 54 [v28, v39] st40 fun v42 st43 _x => callS (orc vE) 54 [v42, v38] st43 fun v45 _x _x_1 => asOne v45 (asOne v45 (fit1 v45 fun v49 => some (AV.tup [AV.ip [v49], AV.int .i64 0])))))))))))))
theorem g48_eq (x0 x1 x2 : AV) : bareS vE 48 [x0, x1, x2] = g48 x0 x1 x2 := by kernel_rfl
noncomputable def g49_L1 (l0 : List UInt8) : Car → Option (Car ⊕ Nat × Car) := fun c1 => unc (Prod.fst c1) fun v2 l3 => asI .i64 v2 fun n4 => unc l3 fun v5 l6 => asI .i64 v5 fun n7 => unc l6 fun v8 l9 => asI .i64 v8 fun n10 => un0 l9 (bindO (ifB (decide (n10 ≤ 4)) (some ([AV.bool (decide (n10 ≤ (↑(List.length l0) : Int)))], Prod.snd c1)) (some ([AV.bool false], Prod.snd c1))) fun c11 => unc (Prod.fst c11) fun v12 l13 => asB v12 fun b14 => un0 l13 (ifB b14 (uptoS n10 (List.length l0) fun k15 => letV (List.drop 0 (List.take k15 l0)) fun l16 => callS (orc vE) 61 [AV.str l16] (Prod.snd c11) fun v17 st18 _x => asI .i64 v17 fun n20 => bindO (ifB (decide (n20 ≥ 0)) (callS (orc vE) 62 [AV.int .i64 n20] st18 fun v21 st22 x23 => asS v21 fun l24 => chk (apart x23 (Fx.mk [] Did.kept) && true) (chk (apart x23 (Fx.mk [] Did.kept) && true) (uptoS n10 (List.length l0) fun k25 => letV (List.drop 0 (List.take k25 l0)) fun l26 => chk (apart x23 (Fx.mk [] Did.kept) && true) (some ([AV.bool (l24 == l26)], st22))))) (some ([AV.bool false], st18))) fun c27 => unc (Prod.fst c27) fun v28 l29 => asB v28 fun b30 => un0 l29 (ifB b30 (some (Sum.inr (1, [AV.int .i64 n20, AV.int .i64 n10], Prod.snd c27))) (letV (IntKind.wrap .i64 (n10 + 1)) fun n31 => some (Sum.inl ([AV.int .i64 n4, AV.int .i64 n7, AV.int .i64 n31], Prod.snd c27))))) (some (Sum.inr (0, [AV.int .i64 n4, AV.int .i64 n7], Prod.snd c11)))))
noncomputable def g49 : AV → Option AV := fun x0 => asS x0 fun l0 => ifB (l0 == []) (some (AV.tup [AV.int .i64 (-1), AV.int .i64 0])) (bindO (loopO (g49_L1 l0) ([AV.int .i64 0, AV.int .i64 0, AV.int .i64 1], St.mk 0 0 Tr.leaf)) fun c32 => unc (Prod.fst (Prod.snd c32)) fun v33 l34 => asI .i64 v33 fun n35 => unc l34 fun v36 l37 => asI .i64 v36 fun n38 => un0 l37 (sel2 (Prod.fst c32) (some (AV.tup [AV.int .i64 (-1), AV.int .i64 1])) fun _x => some (AV.tup [AV.int .i64 n35, AV.int .i64 n38])))
theorem g49_eq (x0 : AV) : bareS vE 49 [x0] = g49 x0 := by kernel_rfl
noncomputable def g52 : AV → Option AV := fun x0 => callS (orc vE) 65 [x0, AV.mp 0 0] (St.mk 1 0 (Tr.node (some (VM.Obj.cells 137 [AV.nilp, AV.nils])) Tr.leaf Tr.leaf)) fun _x st1 _x_1 => planS (orc vE) (primP (Prim.builderString 5) [AV.mp 0 0]) st1 fun v3 _x _x_2 => asS v3 fun l6 => some (AV.str l6)
theorem g52_eq (x0 : AV) : bareS vE 52 [x0] = g52 x0 := by kernel_rfl
noncomputable def g53 : AV → Option AV := fun x0 => asS x0 fun l0 => ifB (l0 == []) (some AV.nilp) (planS (orc vE) (primP (Prim.lib libCount) [AV.str l0, AV.str [10]]) (St.mk 0 0 Tr.leaf) fun v1 _x _x_1 => asI .i64 v1 fun n4 => some (AV.ip [AV.int .i64 (↑(List.length l0) : Int), AV.int .i64 n4, AV.int .i64 1, AV.str l0, AV.nilp, AV.nilp]))
theorem g53_eq (x0 : AV) : bareS vE 53 [x0] = g53 x0 := by kernel_rfl
noncomputable def g54 : AV → AV → Option AV := fun x0 x1 => callS (orc vE) 68 [x0] (St.mk 0 0 Tr.leaf) fun v0 st1 _x => un_iii v0 fun n7 n10 n13 => (callS (orc vE) 68 [x1] st1 fun v14 st15 _x => un_iii v14 fun n21 n24 n27 => (letSt (St.add st15 (VM.Obj.cells 118 [AV.int .i64 0, AV.int .i64 0, AV.int .i64 0])) fun st28 => letSt (St.add st28 (VM.Obj.cells 118 [AV.int .i64 0, AV.int .i64 0, AV.int .i64 0])) fun st29 => storeS (orc vE) 3 (AV.mp (St.h st15) 0) (AV.agg [AV.int .i64 n7, AV.int .i64 n10, AV.int .i64 n13]) [AV.int .i64 n7, AV.int .i64 n10, AV.int .i64 n13] st29 fun _x st31 _x_1 => storeS (orc vE) 3 (AV.mp (St.h st28) 0) (AV.agg [AV.int .i64 n21, AV.int .i64 n24, AV.int .i64 n27]) [AV.int .i64 n21, AV.int .i64 n24, AV.int .i64 n27] st31 fun _x st34 _x_2 => nilS (U.ptr 141) x0 AV.nilp fun b36 => ifB b36 (frzS st34 0 (oneOf [x1]) fun v37 => some v37) (nilS (U.ptr 141) x1 AV.nilp fun b38 => ifB b38 (frzS st34 0 (oneOf [x0]) fun v39 => some v39) (bindO (loadS 1 false (AV.mp (St.h st15) 2) st34 fun v40 _x => asI .i64 v40 fun n42 => ifB (n42 == 1) (loadS 1 false (AV.mp (St.h st28) 2) st34 fun v43 _x => asI .i64 v43 fun n45 => ifB (n45 == 1) (loadS 1 false (AV.mp (St.h st15) 0) st34 fun v46 _x => asI .i64 v46 fun n48 => loadS 1 false (AV.mp (St.h st28) 0) st34 fun v49 _x => asI .i64 v49 fun n51 => letV (IntKind.wrap .i64 (n48 + n51)) fun n52 => some ([AV.bool (decide (n52 ≤ 128))], st34)) (some ([AV.bool false], st34))) (some ([AV.bool false], st34))) fun c53 => unc (Prod.fst c53) fun v54 l55 => asB v54 fun b56 => un0 l55 (ifB b56 (chk (notNil x0) (fldA 3 x0 fun v57 => loadS 1 false v57 (Prod.snd c53) fun v58 _x => asS v58 fun l60 => chk (notNil x1) (fldA 3 x1 fun v61 => loadS 1 false v61 (Prod.snd c53) fun v62 _x => asS v62 fun l64 => chk (Nat.ble (List.length l60 + List.length l64) 9223372036854775807) (letV (l60 ++ l64) fun l65 => callS (orc vE) 53 [AV.str l65] (Prod.snd c53) fun v66 st67 _x => frzS st67 0 (oneOf [v66]) fun v69 => some v69)))) (loadS 1 false (AV.mp (St.h st15) 2) (Prod.snd c53) fun v70 _x => asI .i64 v70 fun n72 => loadS 1 false (AV.mp (St.h st28) 2) (Prod.snd c53) fun v73 _x => asI .i64 v73 fun n75 => letV (IntKind.wrap .i64 (n75 + 1)) fun n76 => ifB (decide (n72 > n76)) (chk (notNil x0) (fldA 4 x0 fun v77 => loadS 1 false v77 (Prod.snd c53) fun v78 l79 => chk (notNil x0) (fldA 5 x0 fun v80 => loadS 1 false v80 (Prod.snd c53) fun v81 _x => callS (orc vE) 54 [v81, x1] (Prod.snd c53) fun v83 st84 x85 => chk (apart (Fx.mk l79 Did.kept) x85 && (apart (Fx.mk [] Did.kept) x85 && (apart (Fx.mk [] Did.kept) x85 && (apart (Fx.mk [] Did.kept) x85 && true)))) (callS (orc vE) 69 [v78, v83] st84 fun v86 st87 _x => frzS st87 0 (oneOf [v86]) fun v89 => some v89)))) (loadS 1 false (AV.mp (St.h st28) 2) (Prod.snd c53) fun v90 _x => asI .i64 v90 fun n92 => loadS 1 false (AV.mp (St.h st15) 2) (Prod.snd c53) fun v93 _x => asI .i64 v93 fun n95 => letV (IntKind.wrap .i64 (n95 + 1)) fun n96 => ifB (decide (n92 > n96)) (chk (notNil x1) (fldA 4 x1 fun v97 => loadS 1 false v97 (Prod.snd c53) fun v98 _x => callS (orc vE) 54 [x0, v98] (Prod.snd c53) fun v100 st101 x102 => chk (apart x102 (Fx.mk [] Did.kept) && true) (chk (notNil x1) (chk (apart x102 (Fx.mk [] Did.kept) && true) (fldA 5 x1 fun v103 => chk (apart x102 (Fx.mk [] Did.kept) && true) (loadS 1 false v103 st101 fun v104 l105 => chk (apart x102 (Fx.mk l105 Did.kept) && true) (callS (orc vE) 69 [v100, v104] st101 fun v106 st107 _x => frzS st107 0 (oneOf [v106]) fun v109 => some v109))))))) (callS (orc vE) 70 [x0, x1] (Prod.snd c53) fun v110 st111 _x => frzS st111 0 (oneOf [v110]) fun v113 => some v113))))))))
theorem g54_eq (x0 x1 : AV) : bareS vE 54 [x0, x1] = g54 x0 x1 := by kernel_rfl
noncomputable def g56 : AV → Option AV := fun x0 => nilS (U.ptr 95) x0 AV.nilp fun b0 => ifB b0 (some (AV.agg [AV.int .i64 0, AV.int .i64 0, AV.int .i64 0])) (chk (notNil x0) (fldA 0 x0 fun v3 => loadS 1 false v3 (St.mk 1 0 (Tr.node (some (VM.Obj.cells 118 [AV.int .i64 0, AV.int .i64 0, AV.int .i64 0])) Tr.leaf Tr.leaf)) fun v4 _x => callS (orc vE) 68 [v4] (St.mk 1 0 (Tr.node (some (VM.Obj.cells 118 [AV.int .i64 0, AV.int .i64 0, AV.int .i64 0])) Tr.leaf Tr.leaf)) fun v6 st7 _x => un_iii v6 fun n13 n16 n19 => (storeS (orc vE) 3 (AV.mp 0 0) (AV.agg [AV.int .i64 n13, AV.int .i64 n16, AV.int .i64 n19]) [AV.int .i64 n13, AV.int .i64 n16, AV.int .i64 n19] st7 fun _x st21 _x_1 => loadS 3 true (AV.mp 0 0) st21 fun v23 _x => un_iii v23 fun n29 n32 n35 => (some (AV.agg [AV.int .i64 n29, AV.int .i64 n32, AV.int .i64 n35])))))
theorem g56_eq (x0 : AV) : bareS vE 56 [x0] = g56 x0 := by kernel_rfl
noncomputable def g57 : AV → Option AV := fun x0 => asS x0 fun l0 => some (AV.fn (Fn.func 71) [] [AV.ip [AV.str l0]])
theorem g57_eq (x0 : AV) : bareS vE 57 [x0] = g57 x0 := by kernel_rfl
noncomputable def g58_L1 (n7 : Int) (c13 : Car) (st34 : St) : Car → Option (Car ⊕ Nat × Car) := fun c50 => unc (Prod.fst c50) fun v51 l52 => asI .i64 v51 fun n53 => unc l52 fun v54 l55 => asI .i64 v54 fun n56 => unc l55 fun v57 l58 => asI .i64 v57 fun n59 => un0 l58 (planS (orc vE) (nextP (AV.mp (St.h st34) 0)) (Prod.snd c50) fun v60 st61 _x => unT v60 fun l63 => nthS l63 0 fun v64 => asB v64 fun b65 => ifB b65 (unT v60 fun l66 => nthS l66 1 fun v67 => asI .i64 v67 fun n68 => unT v60 fun l69 => nthS l69 2 fun v70 => asI .i32 v70 fun n71 => ifB (decide (n59 ≥ n7)) (ifB (decide (n59 > n7)) (some (Sum.inr (0, [AV.int .i64 n53, AV.int .i64 n56, AV.int .i64 n59], st61))) (loadS 1 false (AV.mp (St.h (Prod.snd c13)) 0) st61 fun v72 _x => asI .i64 v72 fun n74 => letV (IntKind.wrap .i64 (n74 + n68)) fun n75 => some (Sum.inr (1, [AV.int .i64 n75, AV.int .i64 0, AV.int .i64 n59], st61)))) (callS (orc vE) 72 [AV.int .i32 n71] st61 fun v76 st77 _x => asI .i64 v76 fun n79 => letV (IntKind.wrap .i64 (n59 + n79)) fun n80 => some (Sum.inl ([AV.int .i64 n53, AV.int .i64 n56, AV.int .i64 n80], st77)))) (some (Sum.inr (0, [AV.int .i64 n53, AV.int .i64 n56, AV.int .i64 n59], st61))))
noncomputable def g58 : AV → AV → Option AV := fun x0 x1 => un_ii x1 fun n4 n7 => (nilS (U.ptr 122) x0 AV.nilp fun b8 => ifB b8 (some (AV.tup [AV.int .i64 0, AV.int .i64 2])) (bindO (ifB (decide (n4 < 0)) (some ([AV.bool true], St.mk 0 0 Tr.leaf)) (chk (notNil x0) (fldA 1 x0 fun v9 => loadS 1 false v9 (St.mk 0 0 Tr.leaf) fun v10 _x => lenS v10 fun k12 => ifB (decide (n4 ≥ (↑k12 : Int))) (some ([AV.bool true], St.mk 0 0 Tr.leaf)) (some ([AV.bool (decide (n7 < 0))], St.mk 0 0 Tr.leaf))))) fun c13 => unc (Prod.fst c13) fun v14 l15 => asB v14 fun b16 => un0 l15 (ifB b16 (some (AV.tup [AV.int .i64 0, AV.int .i64 60])) (chk (notNil x0) (fldA 1 x0 fun v17 => loadS 1 false v17 (Prod.snd c13) fun v18 l19 => idxA 2 v18 n4 (Prod.snd c13) fun v20 l21 => loadS 2 true v20 (Prod.snd c13) fun v22 l23 => un_ii v22 fun n28 n31 => (letSt (St.add (Prod.snd c13) (VM.Obj.cells 98 [AV.int .i64 0, AV.int .i64 0])) fun st32 => chk (apart (Fx.mk l23 Did.kept) (Fx.mk [] (Did.made (St.h (Prod.snd c13)) (VM.Obj.cells 98 [AV.int .i64 0, AV.int .i64 0]))) && (apart (Fx.mk l21 Did.kept) (Fx.mk [] (Did.made (St.h (Prod.snd c13)) (VM.Obj.cells 98 [AV.int .i64 0, AV.int .i64 0]))) && (apart (Fx.mk l19 Did.kept) (Fx.mk [] (Did.made (St.h (Prod.snd c13)) (VM.Obj.cells 98 [AV.int .i64 0, AV.int .i64 0]))) && true))) (storeS (orc vE) 2 (AV.mp (St.h (Prod.snd c13)) 0) (AV.agg [AV.int .i64 n28, AV.int .i64 n31]) [AV.int .i64 n28, AV.int .i64 n31] st32 fun _x st34 _x_1 => chk (notNil x0) (fldA 0 x0 fun v36 => loadS 1 false v36 st34 fun v37 _x => asS v37 fun l39 => loadS 1 false (AV.mp (St.h (Prod.snd c13)) 0) st34 fun v40 _x => asI .i64 v40 fun n42 => loadS 1 false (AV.mp (St.h (Prod.snd c13)) 1) st34 fun v43 _x => asI .i64 v43 fun n45 => uptoS n45 (List.length l39) fun k46 => uptoS n42 k46 fun k47 => letV (List.drop k47 (List.take k46 l39)) fun l48 => letSt (St.add st34 (Obj.sit l48 0)) fun st49 => bindO (loopO (g58_L1 n7 c13 st34) ([AV.int .i64 0, AV.int .i64 0, AV.int .i64 0], st49)) fun c81 => unc (Prod.fst (Prod.snd c81)) fun v82 l83 => asI .i64 v82 fun n84 => unc l83 fun v85 l86 => asI .i64 v85 fun n87 => unc l86 fun v88 l89 => asI .i64 v88 fun n90 => un0 l89 (sel2 (Prod.fst c81) (ifB (n90 != n7) (some (AV.tup [AV.int .i64 0, AV.int .i64 60])) (loadS 1 false (AV.mp (St.h (Prod.snd c13)) 1) (Prod.snd (Prod.snd c81)) fun v91 _x => asI .i64 v91 fun n93 => some (AV.tup [AV.int .i64 n93, AV.int .i64 0]))) fun _x => some (AV.tup [AV.int .i64 n84, AV.int .i64 n87]))))))))))
theorem g58_eq (x0 x1 : AV) : bareS vE 58 [x0, x1] = g58 x0 x1 := by kernel_rfl
noncomputable def g59 : AV → AV → Option AV := fun x0 x1 => un_ii x1 fun n4 n7 => (nilS (U.ptr 95) x0 AV.nilp fun b8 => ifB b8 (some (AV.int .i64 2)) (bindO (ifB (decide (n4 < 0)) (some ([AV.bool true], St.mk 0 0 Tr.leaf)) (ifB (decide (n7 < n4)) (some ([AV.bool true], St.mk 0 0 Tr.leaf)) (callS (orc vE) 45 [x0] (St.mk 0 0 Tr.leaf) fun v9 st10 x11 => asI .i64 v9 fun n12 => chk (apart (Fx.mk [] Did.kept) x11 && (apart (Fx.mk [] Did.kept) x11 && true)) (some ([AV.bool (decide (n7 > n12))], st10))))) fun c13 => unc (Prod.fst c13) fun v14 l15 => asB v14 fun b16 => un0 l15 (ifB b16 (some (AV.int .i64 1)) (some (AV.int .i64 0)))))
theorem g59_eq (x0 x1 : AV) : bareS vE 59 [x0, x1] = g59 x0 x1 := by kernel_rfl
noncomputable def g60 : AV → AV → Option AV := fun x0 x1 => asI .i64 x1 fun n0 => nilS (U.ptr 141) x0 AV.nilp fun b1 => ifB b1 (some (AV.tup [AV.nilp, AV.nilp])) (chk (notNil x0) (fldA 0 x0 fun v2 => fldA 2 v2 fun v3 => loadS 1 false v3 (St.mk 0 0 Tr.leaf) fun v4 _x => asI .i64 v4 fun n6 => ifB (n6 == 1) (chk (notNil x0) (fldA 3 x0 fun v7 => loadS 1 false v7 (St.mk 0 0 Tr.leaf) fun v8 _x => asS v8 fun l10 => uptoS n0 (List.length l10) fun k11 => letV (List.drop 0 (List.take k11 l10)) fun l12 => callS (orc vE) 53 [AV.str l12] (St.mk 0 0 Tr.leaf) fun v13 st14 x15 => chk (apart x15 (Fx.mk [] Did.kept) && true) (chk (notNil x0) (chk (apart x15 (Fx.mk [] Did.kept) && true) (fldA 3 x0 fun v16 => chk (apart x15 (Fx.mk [] Did.kept) && true) (loadS 1 false v16 st14 fun v17 l18 => asS v17 fun l19 => chk (apart x15 (Fx.mk l18 Did.kept) && true) (chk (apart x15 (Fx.mk [] Did.kept) && true) (uptoS n0 (List.length l19) fun k20 => letV (List.drop k20 (List.take (List.length l19) l19)) fun l21 => chk (apart x15 (Fx.mk [] Did.kept) && true) (callS (orc vE) 53 [AV.str l21] st14 fun v22 st23 _x => frzS st23 0 (AV.tup [v13, v22]) fun v25 => some v25))))))))) (chk (notNil x0) (fldA 4 x0 fun v26 => loadS 1 false v26 (St.mk 0 0 Tr.leaf) fun v27 _x => callS (orc vE) 68 [v27] (St.mk 0 0 Tr.leaf) fun v29 st30 _x => un_iii v29 fun n36 _x _x => (ifB (decide (n0 > n36)) (chk (notNil x0) (fldA 5 x0 fun v43 => loadS 1 false v43 st30 fun v44 _x => letV (IntKind.wrap .i64 (n0 - n36)) fun n46 => callS (orc vE) 60 [v44, AV.int .i64 n46] st30 fun v47 st48 _x => unT v47 fun l50 => nthS l50 0 fun v51 => unT v47 fun l52 => nthS l52 1 fun v53 => chk (notNil x0) (fldA 4 x0 fun v54 => loadS 1 false v54 st48 fun v55 _x => callS (orc vE) 54 [v55, v51] st48 fun v57 st58 _x => frzS st58 0 (AV.tup [v57, v53]) fun v60 => some v60))) (chk (notNil x0) (fldA 4 x0 fun v61 => loadS 1 false v61 st30 fun v62 _x => callS (orc vE) 60 [v62, AV.int .i64 n0] st30 fun v64 st65 _x => unT v64 fun l67 => nthS l67 0 fun v68 => unT v64 fun l69 => nthS l69 1 fun v70 => chk (notNil x0) (fldA 5 x0 fun v71 => loadS 1 false v71 st65 fun v72 _x => callS (orc vE) 54 [v70, v72] st65 fun v74 st75 _x => frzS st75 0 (AV.tup [v68, v74]) fun v77 => some v77))))))))
theorem g60_eq (x0 x1 : AV) : bareS vE 60 [x0, x1] = g60 x0 x1 := by kernel_rfl
noncomputable def g61_L1 (l0 : List UInt8) : Car → Option (Car ⊕ Nat × Car) := fun c11 => unc (Prod.fst c11) fun v12 l13 => asI .i64 v12 fun n14 => unc l13 fun v15 l16 => asI .i64 v15 fun n17 => un0 l16 (ifB (decide (n17 < (↑(List.length l0) : Int))) (letV (IntKind.wrap .i64 (n14 * 64)) fun n18 => idxStr l0 n17 fun c19 => letV (IntKind.wrap .i64 (↑(UInt8.toNat c19) : Int)) fun n20 => letV (IntKind.wrap .i64 (n18 + n20)) fun n21 => letV (IntKind.wrap .i64 (n21 - 128)) fun n22 => letV (IntKind.wrap .i64 (n17 + 1)) fun n23 => some (Sum.inl ([AV.int .i64 n22, AV.int .i64 n23], Prod.snd c11))) (some (Sum.inr (0, [AV.int .i64 n14], Prod.snd c11))))
noncomputable def g61 : AV → Option AV := fun x0 => asS x0 fun l0 => ifB ((↑(List.length l0) : Int) == 1) (idxStr l0 0 fun c1 => letV (IntKind.wrap .i64 (↑(UInt8.toNat c1) : Int)) fun n2 => some (AV.int .i64 n2)) (idxStr l0 0 fun c3 => letV (IntKind.wrap .i64 (↑(UInt8.toNat c3) : Int)) fun n4 => idxA 1 (AV.sl 1 [AV.int .i64 0, AV.int .i64 0, AV.int .i64 192, AV.int .i64 224, AV.int .i64 240] Perm.shut) (↑(List.length l0) : Int) (St.mk 0 0 Tr.leaf) fun v5 _x => loadS 1 false v5 (St.mk 0 0 Tr.leaf) fun v7 _x => asI .i64 v7 fun n9 => letV (IntKind.wrap .i64 (n4 - n9)) fun n10 => bindO (loopO (g61_L1 l0) ([AV.int .i64 n10, AV.int .i64 1], St.mk 0 0 Tr.leaf)) fun c24 => unc (Prod.fst (Prod.snd c24)) fun v25 l26 => asI .i64 v25 fun n27 => un0 l26 (some (AV.int .i64 n27)))
theorem g61_eq (x0 : AV) : bareS vE 61 [x0] = g61 x0 := by kernel_rfl
noncomputable def g62 : AV → Option AV := fun x0 => asI .i64 x0 fun n0 => bindO (ifB (decide (n0 < 0)) (some ([AV.bool true], St.mk 0 0 Tr.leaf)) (ifB (decide (n0 > 1114111)) (some ([AV.bool true], St.mk 0 0 Tr.leaf)) (ifB (decide (n0 ≥ 55296)) (some ([AV.bool (decide (n0 ≤ 57343))], St.mk 0 0 Tr.leaf)) (some ([AV.bool false], St.mk 0 0 Tr.leaf))))) fun c1 => unc (Prod.fst c1) fun v2 l3 => asB v2 fun b4 => un0 l3 (ifB b4 (some (AV.str [])) (ifB (decide (n0 < 128)) (letV (IntKind.wrap .u8 n0) fun n5 => letV [UInt8.ofNat (Int.toNat n5)] fun l6 => some (AV.str l6)) (ifB (decide (n0 < 2048)) (letV (IntKind.wrap .i64 (Int.tdiv n0 64)) fun n7 => letV (IntKind.wrap .i64 (192 + n7)) fun n8 => letV (IntKind.wrap .u8 n8) fun n9 => letV (Int.tmod n0 64) fun n10 => letV (IntKind.wrap .i64 (128 + n10)) fun n11 => letV (IntKind.wrap .u8 n11) fun n12 => letV [UInt8.ofNat (Int.toNat n9), UInt8.ofNat (Int.toNat n12)] fun l13 => some (AV.str l13)) (ifB (decide (n0 < 65536)) (letV (IntKind.wrap .i64 (Int.tdiv n0 4096)) fun n14 => letV (IntKind.wrap .i64 (224 + n14)) fun n15 => letV (IntKind.wrap .u8 n15) fun n16 => letV (IntKind.wrap .i64 (Int.tdiv n0 64)) fun n17 => letV (Int.tmod n17 64) fun n18 => letV (IntKind.wrap .i64 (128 + n18)) fun n19 => letV (IntKind.wrap .u8 n19) fun n20 => letV (Int.tmod n0 64) fun n21 => letV (IntKind.wrap .i64 (128 + n21)) fun n22 => letV (IntKind.wrap .u8 n22) fun n23 => letV [UInt8.ofNat (Int.toNat n16), UInt8.ofNat (Int.toNat n20), UInt8.ofNat (Int.toNat n23)] fun l24 => some (AV.str l24)) (letV (IntKind.wrap .i64 (Int.tdiv n0 262144)) fun n25 => letV (IntKind.wrap .i64 (240 + n25)) fun n26 => letV (IntKind.wrap .u8 n26) fun n27 => letV (IntKind.wrap .i64 (Int.tdiv n0 4096)) fun n28 => letV (Int.tmod n28 64) fun n29 => letV (IntKind.wrap .i64 (128 + n29)) fun n30 => letV (IntKind.wrap .u8 n30) fun n31 => letV (IntKind.wrap .i64 (Int.tdiv n0 64)) fun n32 => letV (Int.tmod n32 64) fun n33 => letV (IntKind.wrap .i64 (128 + n33)) fun n34 => letV (IntKind.wrap .u8 n34) fun n35 => letV (Int.tmod n0 64) fun n36 => letV (IntKind.wrap .i64 (128 + n36)) fun n37 => letV (IntKind.wrap .u8 n37) fun n38 => letV [UInt8.ofNat (Int.toNat n27), UInt8.ofNat (Int.toNat n31), UInt8.ofNat (Int.toNat n35), UInt8.ofNat (Int.toNat n38)] fun l39 => some (AV.str l39))))))
theorem g62_eq (x0 : AV) : bareS vE 62 [x0] = g62 x0 := by kernel_rfl
noncomputable def w65 : AV → AV → St → Option (AV × St) := fun x0 x1 st => nilS (U.ptr 141) x0 AV.nilp fun b0 => ifB b0 (some (AV.tup [], st)) (chk (notNil x0) (fldA 3 x0 fun v1 => loadS 1 false v1 st fun v2 _x => asS v2 fun l4 => callS (orc vE) 75 [x1, AV.str l4] st fun _x st6 _x_1 => chk (notNil x0) (fldA 4 x0 fun v8 => loadS 1 false v8 st6 fun v9 _x => callS (orc vE) 65 [v9, x1] st6 fun _x st12 _x_2 => chk (notNil x0) (fldA 5 x0 fun v14 => loadS 1 false v14 st12 fun v15 _x => callS (orc vE) 65 [v15, x1] st12 fun _x st18 _x_3 => some (AV.tup [], st18)))))
theorem w65_eq (x0 x1 : AV) (st : St) : wideS vE 65 [x0, x1] st = w65 x0 x1 st := by kernel_rfl
noncomputable def g68 : AV → Option AV := fun x0 => nilS (U.ptr 141) x0 AV.nilp fun b0 => ifB b0 (some (AV.agg [AV.int .i64 0, AV.int .i64 0, AV.int .i64 0])) (chk (notNil x0) (fldA 0 x0 fun v3 => loadS 3 true v3 (St.mk 1 0 (Tr.node (some (VM.Obj.cells 118 [AV.int .i64 0, AV.int .i64 0, AV.int .i64 0])) Tr.leaf Tr.leaf)) fun v4 _x => un_iii v4 fun n10 n13 n16 => (some (AV.agg [AV.int .i64 n10, AV.int .i64 n13, AV.int .i64 n16]))))
theorem g68_eq (x0 : AV) : bareS vE 68 [x0] = g68 x0 := by kernel_rfl
noncomputable def g69 : AV → AV → Option AV := fun x0 x1 => callS (orc vE) 68 [x0] (St.mk 0 0 Tr.leaf) fun v0 st1 _x => un_iii v0 fun n7 n10 n13 => (callS (orc vE) 68 [x1] st1 fun v14 st15 _x => un_iii v14 fun n21 n24 n27 => (letSt (St.add st15 (VM.Obj.cells 118 [AV.int .i64 0, AV.int .i64 0, AV.int .i64 0])) fun st28 => letSt (St.add st28 (VM.Obj.cells 118 [AV.int .i64 0, AV.int .i64 0, AV.int .i64 0])) fun st29 => storeS (orc vE) 3 (AV.mp (St.h st15) 0) (AV.agg [AV.int .i64 n7, AV.int .i64 n10, AV.int .i64 n13]) [AV.int .i64 n7, AV.int .i64 n10, AV.int .i64 n13] st29 fun _x st31 _x_1 => storeS (orc vE) 3 (AV.mp (St.h st28) 0) (AV.agg [AV.int .i64 n21, AV.int .i64 n24, AV.int .i64 n27]) [AV.int .i64 n21, AV.int .i64 n24, AV.int .i64 n27] st31 fun _x st34 _x_2 => loadS 1 false (AV.mp (St.h st15) 2) st34 fun v36 _x => asI .i64 v36 fun n38 => loadS 1 false (AV.mp (St.h st28) 2) st34 fun v39 _x => asI .i64 v39 fun n41 => letV (IntKind.wrap .i64 (n41 + 1)) fun n42 => ifB (decide (n38 > n42)) (chk (notNil x0) (fldA 4 x0 fun v43 => loadS 1 false v43 st34 fun v44 _x => callS (orc vE) 68 [v44] st34 fun v46 st47 x48 => un_iii v46 fun _x _x n59 => (chk (apart x48 (Fx.mk [] Did.kept) && true) (chk (notNil x0) (chk (apart x48 (Fx.mk [] Did.kept) && true) (fldA 5 x0 fun v60 => chk (apart x48 (Fx.mk [] Did.kept) && true) (loadS 1 false v60 st47 fun v61 l62 => chk (apart x48 (Fx.mk l62 Did.kept) && true) (callS (orc vE) 68 [v61] st47 fun v63 st64 x65 => un_iii v63 fun _x _x n76 => (chk (apart (Fx.mk [] Did.kept) x65 && true) (ifB (decide (n59 ≥ n76)) (chk (notNil x0) (fldA 4 x0 fun v77 => loadS 1 false v77 st64 fun v78 l79 => chk (notNil x0) (fldA 5 x0 fun v80 => loadS 1 false v80 st64 fun v81 _x => callS (orc vE) 70 [v81, x1] st64 fun v83 st84 x85 => chk (apart (Fx.mk l79 Did.kept) x85 && (apart (Fx.mk [] Did.kept) x85 && (apart (Fx.mk [] Did.kept) x85 && (apart (Fx.mk [] Did.kept) x85 && true)))) (callS (orc vE) 70 [v78, v83] st84 fun v86 st87 _x => frzS st87 0 (oneOf [v86]) fun v89 => some v89)))) (chk (notNil x0) (fldA 4 x0 fun v90 => loadS 1 false v90 st64 fun v91 _x => chk (notNil x0) (fldA 5 x0 fun v93 => loadS 1 false v93 st64 fun v94 _x => chk (notNil v94) (fldA 4 v94 fun v96 => loadS 1 false v96 st64 fun v97 _x => callS (orc vE) 70 [v91, v97] st64 fun v99 st100 x101 => chk (apart x101 (Fx.mk [] Did.kept) && true) (chk (notNil x0) (chk (apart x101 (Fx.mk [] Did.kept) && true) (fldA 5 x0 fun v102 => chk (apart x101 (Fx.mk [] Did.kept) && true) (loadS 1 false v102 st100 fun v103 l104 => chk (apart x101 (Fx.mk l104 Did.kept) && true) (chk (notNil v103) (chk (apart x101 (Fx.mk [] Did.kept) && true) (fldA 5 v103 fun v105 => chk (apart x101 (Fx.mk [] Did.kept) && true) (loadS 1 false v105 st100 fun v106 l107 => chk (apart x101 (Fx.mk l107 Did.kept) && true) (chk (apart x101 (Fx.mk [] Did.kept) && true) (callS (orc vE) 70 [v106, x1] st100 fun v108 st109 _x => callS (orc vE) 70 [v99, v108] st109 fun v111 st112 _x => frzS st112 0 (oneOf [v111]) fun v114 => some v114)))))))))))))))))))))))) (loadS 1 false (AV.mp (St.h st28) 2) st34 fun v115 _x => asI .i64 v115 fun n117 => loadS 1 false (AV.mp (St.h st15) 2) st34 fun v118 _x => asI .i64 v118 fun n120 => letV (IntKind.wrap .i64 (n120 + 1)) fun n121 => ifB (decide (n117 > n121)) (chk (notNil x1) (fldA 5 x1 fun v122 => loadS 1 false v122 st34 fun v123 _x => callS (orc vE) 68 [v123] st34 fun v125 st126 x127 => un_iii v125 fun _x _x n138 => (chk (apart x127 (Fx.mk [] Did.kept) && true) (chk (notNil x1) (chk (apart x127 (Fx.mk [] Did.kept) && true) (fldA 4 x1 fun v139 => chk (apart x127 (Fx.mk [] Did.kept) && true) (loadS 1 false v139 st126 fun v140 l141 => chk (apart x127 (Fx.mk l141 Did.kept) && true) (callS (orc vE) 68 [v140] st126 fun v142 st143 x144 => un_iii v142 fun _x _x n155 => (chk (apart (Fx.mk [] Did.kept) x144 && true) (ifB (decide (n138 ≥ n155)) (chk (notNil x1) (fldA 4 x1 fun v156 => loadS 1 false v156 st143 fun v157 _x => callS (orc vE) 70 [x0, v157] st143 fun v159 st160 x161 => chk (apart x161 (Fx.mk [] Did.kept) && true) (chk (notNil x1) (chk (apart x161 (Fx.mk [] Did.kept) && true) (fldA 5 x1 fun v162 => chk (apart x161 (Fx.mk [] Did.kept) && true) (loadS 1 false v162 st160 fun v163 l164 => chk (apart x161 (Fx.mk l164 Did.kept) && true) (callS (orc vE) 70 [v159, v163] st160 fun v165 st166 _x => frzS st166 0 (oneOf [v165]) fun v168 => some v168))))))) (chk (notNil x1) (fldA 4 x1 fun v169 => loadS 1 false v169 st143 fun v170 _x => chk (notNil v170) (fldA 4 v170 fun v172 => loadS 1 false v172 st143 fun v173 _x => callS (orc vE) 70 [x0, v173] st143 fun v175 st176 x177 => chk (apart x177 (Fx.mk [] Did.kept) && true) (chk (notNil x1) (chk (apart x177 (Fx.mk [] Did.kept) && true) (fldA 4 x1 fun v178 => chk (apart x177 (Fx.mk [] Did.kept) && true) (loadS 1 false v178 st176 fun v179 l180 => chk (apart x177 (Fx.mk l180 Did.kept) && true) (chk (notNil v179) (chk (apart x177 (Fx.mk [] Did.kept) && true) (fldA 5 v179 fun v181 => chk (apart x177 (Fx.mk [] Did.kept) && true) (loadS 1 false v181 st176 fun v182 l183 => chk (apart x177 (Fx.mk l183 Did.kept) && true) (chk (apart x177 (Fx.mk [] Did.kept) && true) (chk (notNil x1) (chk (apart x177 (Fx.mk [] Did.kept) && true) (fldA 5 x1 fun v184 => chk (apart x177 (Fx.mk [] Did.kept) && true) (loadS 1 false v184 st176 fun v185 l186 => chk (apart x177 (Fx.mk l186 Did.kept) && true) (callS (orc vE) 70 [v182, v185] st176 fun v187 st188 _x => callS (orc vE) 70 [v175, v187] st188 fun v190 st191 _x => frzS st191 0 (oneOf [v190]) fun v193 => some v193))))))))))))))))))))))))))) (callS (orc vE) 70 [x0, x1] st34 fun v194 st195 _x => frzS st195 0 (oneOf [v194]) fun v197 => some v197))))
theorem g69_eq (x0 x1 : AV) : bareS vE 69 [x0, x1] = g69 x0 x1 := by kernel_rfl
noncomputable def g70 : AV → AV → Option AV := fun x0 x1 => callS (orc vE) 68 [x0] (St.mk 0 0 Tr.leaf) fun v0 st1 _x => un_iii v0 fun n7 n10 n13 => (callS (orc vE) 68 [x1] st1 fun v14 st15 _x => un_iii v14 fun n21 n24 n27 => (letSt (St.add st15 (VM.Obj.cells 118 [AV.int .i64 0, AV.int .i64 0, AV.int .i64 0])) fun st28 => letSt (St.add st28 (VM.Obj.cells 118 [AV.int .i64 0, AV.int .i64 0, AV.int .i64 0])) fun st29 => storeS (orc vE) 3 (AV.mp (St.h st15) 0) (AV.agg [AV.int .i64 n7, AV.int .i64 n10, AV.int .i64 n13]) [AV.int .i64 n7, AV.int .i64 n10, AV.int .i64 n13] st29 fun _x st31 _x_1 => storeS (orc vE) 3 (AV.mp (St.h st28) 0) (AV.agg [AV.int .i64 n21, AV.int .i64 n24, AV.int .i64 n27]) [AV.int .i64 n21, AV.int .i64 n24, AV.int .i64 n27] st31 fun _x st34 _x_2 => loadS 1 false (AV.mp (St.h st15) 0) st34 fun v36 _x => asI .i64 v36 fun n38 => loadS 1 false (AV.mp (St.h st28) 0) st34 fun v39 _x => asI .i64 v39 fun n41 => letV (IntKind.wrap .i64 (n38 + n41)) fun n42 => loadS 1 false (AV.mp (St.h st15) 1) st34 fun v43 _x => asI .i64 v43 fun n45 => loadS 1 false (AV.mp (St.h st28) 1) st34 fun v46 _x => asI .i64 v46 fun n48 => letV (IntKind.wrap .i64 (n45 + n48)) fun n49 => loadS 1 false (AV.mp (St.h st15) 2) st34 fun v50 _x => asI .i64 v50 fun n52 => loadS 1 false (AV.mp (St.h st28) 2) st34 fun v53 _x => asI .i64 v53 fun n55 => letV (if n55 > n52 then n55 else n52) fun n56 => letV (IntKind.wrap .i64 (1 + n56)) fun n57 => asOne x0 (asOne x1 (asOne x0 (asOne x1 (fit1 x0 fun v60 => fit1 x1 fun v61 => some (AV.ip [AV.int .i64 n42, AV.int .i64 n49, AV.int .i64 n57, AV.str [], v60, v61])))))))
theorem g70_eq (x0 x1 : AV) : bareS vE 70 [x0, x1] = g70 x0 x1 := by kernel_rfl
noncomputable def w71_L1 (x0 : AV) (x1 : AV) : Car → Option (Car ⊕ Nat × Car) := fun c0 => unc (Prod.fst c0) fun v1 l2 => asI .i64 v1 fun n3 => unc l2 fun v4 l5 => asI .i64 v4 fun n6 => un0 l5 (loadS 1 false x1 (Prod.snd c0) fun v7 _x => asS v7 fun l9 => ifB (decide (n6 < (↑(List.length l9) : Int))) (bindO (bindO (loadS 1 false x1 (Prod.snd c0) fun v10 _x => asS v10 fun l12 => idxStr l12 n6 fun c13 => ifB ((↑(UInt8.toNat c13) : Int) != 10) (loadS 1 false x1 (Prod.snd c0) fun v14 _x => asS v14 fun l16 => idxStr l16 n6 fun c17 => some ([AV.bool ((↑(UInt8.toNat c17) : Int) != 13)], Prod.snd c0)) (some ([AV.bool false], Prod.snd c0))) fun c18 => unc (Prod.fst c18) fun v19 l20 => asB v19 fun b21 => un0 l20 (ifB b21 (some (Sum.inl ([AV.int .i64 n6, AV.int .i64 n3], Prod.snd c18))) (callF (orc vE) (Sx.prim (sx vE 71)) x0 [AV.agg [AV.int .i64 n3, AV.int .i64 n6]] (Prod.snd c18) fun v23 st24 _x => asB v23 fun b26 => ifB (!b26) (some (Sum.inr (Sum.inr (1, [AV.int .i64 n3], st24)))) (bindO (loadS 1 false x1 st24 fun v27 _x => asS v27 fun l29 => idxStr l29 n6 fun c30 => ifB ((↑(UInt8.toNat c30) : Int) == 13) (letV (IntKind.wrap .i64 (n6 + 1)) fun n31 => loadS 1 false x1 st24 fun v32 _x => asS v32 fun l34 => ifB (decide (n31 < (↑(List.length l34) : Int))) (loadS 1 false x1 st24 fun v35 _x => asS v35 fun l37 => letV (IntKind.wrap .i64 (n6 + 1)) fun n38 => idxStr l37 n38 fun c39 => some ([AV.bool ((↑(UInt8.toNat c39) : Int) == 10)], st24)) (some ([AV.bool false], st24))) (some ([AV.bool false], st24))) fun c40 => unc (Prod.fst c40) fun v41 l42 => asB v41 fun b43 => un0 l42 (bindO (ifB b43 (letV (IntKind.wrap .i64 (n6 + 1)) fun n44 => some ([AV.int .i64 n44], Prod.snd c40)) (some ([AV.int .i64 n6], Prod.snd c40))) fun c45 => unc (Prod.fst c45) fun v46 l47 => asI .i64 v46 fun n48 => un0 l47 (letV (IntKind.wrap .i64 (n48 + 1)) fun n49 => some (Sum.inl ([AV.int .i64 n48, AV.int .i64 n49], Prod.snd c45)))))))) fun c50 => onSum c50 fun c51 => unc (Prod.fst c51) fun v52 l53 => asI .i64 v52 fun n54 => unc l53 fun v55 l56 => asI .i64 v55 fun n57 => un0 l56 (letV (IntKind.wrap .i64 (n54 + 1)) fun n58 => some (Sum.inl ([AV.int .i64 n57, AV.int .i64 n58], Prod.snd c51)))) (some (Sum.inr (0, [AV.int .i64 n3], Prod.snd c0))))
noncomputable def w71 : AV → AV → St → Option (AV × St) := fun x0 x1 st => bindO (loopO (w71_L1 x0 x1) ([AV.int .i64 0, AV.int .i64 0], st)) fun c59 => unc (Prod.fst (Prod.snd c59)) fun v60 l61 => asI .i64 v60 fun n62 => un0 l61 (sel2 (Prod.fst c59) (loadS 1 false x1 (Prod.snd (Prod.snd c59)) fun v63 _x => asS v63 fun l65 => callF (orc vE) (Sx.prim (sx vE 71)) x0 [AV.agg [AV.int .i64 n62, AV.int .i64 (↑(List.length l65) : Int)]] (Prod.snd (Prod.snd c59)) fun v67 st68 _x => asB v67 fun _x => some (AV.tup [], st68)) fun _x => some (AV.tup [], Prod.snd (Prod.snd c59)))
theorem w71_eq (x0 x1 : AV) (st : St) : wideS vE 71 [x0, x1] st = w71 x0 x1 st := by kernel_rfl
noncomputable def g72 : AV → Option AV := fun x0 => asI .i32 x0 fun n0 => ifB (decide (n0 > 65535)) (some (AV.int .i64 2)) (some (AV.int .i64 1))
theorem g72_eq (x0 : AV) : bareS vE 72 [x0] = g72 x0 := by kernel_rfl
noncomputable def w75 : AV → AV → St → Option (AV × St) := fun x0 x1 st => asS x1 fun l0 => planS (orc vE) (primP (Prim.copyCheck [(136, 2, 0), (137, 2, 0)]) [x0]) st fun _x st2 _x_1 => chk (notNil x0) (fldA 1 x0 fun v4 => loadS 1 false v4 st2 fun v5 _x => fitTs false (ofBytes l0) fun l7 => chk (sizesOk 1 l7) (appS 1 1 5 v5 l7 st2 fun v8 st9 _x => chk (notNil x0) (fldA 1 x0 fun v11 => asOne v8 (asOne v8 (storeS (orc vE) 1 v11 v8 [v8] st9 fun _x st13 _x_2 => some (AV.tup [AV.int .i64 (↑(List.length l0) : Int), AV.nili], st13))))))
theorem w75_eq (x0 x1 : AV) (st : St) : wideS vE 75 [x0, x1] st = w75 x0 x1 st := by kernel_rfl
end Go.Proofs.YtkknkhniadiapaaDoor.Vm
namespace Go.Proofs.YtkknkhniadiapaaDoor.Vm
open Go Go.VM Go.Proofs Go.Store
def spn (p : Nat × Nat) : AV := .agg [.int .i64 (p.1 : Int), .int .i64 (p.2 : Int)]
section
variable {k : Nat} {all : List (Nat × Nat)} {I : List (Nat × Nat) → St → Prop}
def EachR (k : Nat) (all : List (Nat × Nat)) (I : List (Nat × Nat) → St → Prop) : Prop :=
  ∀ d p r st, d ++ p :: r = all → I d st → ∃ st', (orc vE).round k [spn p] st = some (.bool true, st') ∧ I (d ++ [p]) st'
theorem each_loop (hR : EachR k all I) (s : B) (hs : s.length ≤ 1000000) : ∀ (n a i : Nat) (d : List (Nat × Nat)) (st : St), s.length < n + i → i ≤ s.length → d ++ linesF n s a i = all → I d st →
    ∃ (a' : Nat) (d' : List (Nat × Nat)) (st' : St), loopO (w71_L1 (.yld k) (.ip [.str s])) ([.int .i64 (a : Int), .int .i64 (i : Int)], st) = some (0, [.int .i64 (a' : Int)], st') ∧ d' ++ [(a', s.length)] = all ∧ I d' st'
  | 0, a, i, d, st, hn, hi, ha, h => by omega
  | n + 1, a, i, d, st, hn, hi, ha, h => by
    unfold linesF at ha
    by_cases hlt : i < s.length
    · rw [if_pos hlt] at ha
      have q : (i : Int) < (s.length : Int) := by omega
      have hc : s.getD i 0 = s[i] := by rw [List.getD_eq_getElem?_getD, List.getElem?_eq_getElem hlt]; rfl
      have ix : ∀ {β : Type} (K : UInt8 → Option β), idxStr s (i : Int) K = K (s.getD i 0) := fun K => by rw [idxStr_nat hlt, hc]
      generalize hcc : s.getD i 0 = c at ix ha
      have w1 : IntKind.wrap .i64 ((i : Int) + 1) = ((i + 1 : Nat) : Int) := wrapA1 (by omega)
      by_cases h10 : c = 10
      · subst h10
        rw [if_pos rfl] at ha
        obtain ⟨st1, e1, h1⟩ := hR d (a, i) _ st ha h
        have cy : ∀ {β : Type} (K : Kv β), callF (orc vE) (Sx.prim (sx vE 71)) (.yld k) [.agg [.int .i64 (a : Int), .int .i64 (i : Int)]] st K = K (.bool true) st1 ⟨[], .all st st1⟩ := fun K => callF_yld e1 K
        obtain ⟨a', d', st', e, h2, h3⟩ := each_loop hR s hs n (i + 1) (i + 1) (d ++ [(a, i)]) st1 (by omega) (by omega) (by simpa using ha) h1
        refine ⟨a', d', st', (loopO_inl ?_).trans e, h2, h3⟩
        have t1 : (((10 : UInt8).toNat : Int) != 10) = false := rfl
        have t2 : (((10 : UInt8).toNat : Int) == 13) = false := rfl
        simp only [w71_L1, unc_cons, asI_int, un0_nil, loadS_ip, takeO_one, bindO_ok, asS_str, ifB_decide, if_pos q, ix, t1, t2, ifB_false, asB_bool, cy, ifB_not, ifB_true, letV_eq, w1, onSum_inl]
      · by_cases h13 : c = 13
        · subst h13
          rw [if_neg h10, if_pos rfl] at ha
          have t1 : (((13 : UInt8).toNat : Int) != 10) = true := rfl
          have t2 : (((13 : UInt8).toNat : Int) != 13) = false := rfl
          have t3 : (((13 : UInt8).toNat : Int) == 13) = true := rfl
          by_cases hn10 : s.getD (i + 1) 0 = 10
          · rw [if_pos hn10] at ha
            have hlt1 : i + 1 < s.length := by
              by_cases hl : i + 1 < s.length
              · exact hl
              · rw [List.getD_eq_getElem?_getD, List.getElem?_eq_none (by omega)] at hn10
                cases hn10
            have hc1 : s.getD (i + 1) 0 = s[i + 1] := by rw [List.getD_eq_getElem?_getD, List.getElem?_eq_getElem hlt1]; rfl
            have ix1 : ∀ {β : Type} (K : UInt8 → Option β), idxStr s ((i + 1 : Nat) : Int) K = K 10 := fun K => by rw [idxStr_nat hlt1, ← hc1, hn10]
            obtain ⟨st1, e1, h1⟩ := hR d (a, i) _ st ha h
            have cy : ∀ {β : Type} (K : Kv β), callF (orc vE) (Sx.prim (sx vE 71)) (.yld k) [.agg [.int .i64 (a : Int), .int .i64 (i : Int)]] st K = K (.bool true) st1 ⟨[], .all st st1⟩ := fun K => callF_yld e1 K
            obtain ⟨a', d', st', e, h2, h3⟩ := each_loop hR s hs n (i + 2) (i + 2) (d ++ [(a, i)]) st1 (by omega) (by omega) (by simpa using ha) h1
            refine ⟨a', d', st', (loopO_inl ?_).trans e, h2, h3⟩
            have q1 : ((i + 1 : Nat) : Int) < (s.length : Int) := by omega
            have w2 : IntKind.wrap .i64 (((i + 1 : Nat) : Int) + 1) = ((i + 2 : Nat) : Int) := wrapA1 (by omega)
            have t4 : (((10 : UInt8).toNat : Int) == 10) = true := rfl
            simp only [w71_L1, unc_cons, asI_int, un0_nil, loadS_ip, takeO_one, bindO_ok, asS_str, ifB_decide, if_pos q, if_pos q1, ix, ix1, t1, t2, t3, t4, ifB_false, asB_bool, cy, ifB_not, ifB_true, letV_eq, w1, w2, onSum_inl]
          · rw [if_neg hn10] at ha
            obtain ⟨st1, e1, h1⟩ := hR d (a, i) _ st ha h
            have cy : ∀ {β : Type} (K : Kv β), callF (orc vE) (Sx.prim (sx vE 71)) (.yld k) [.agg [.int .i64 (a : Int), .int .i64 (i : Int)]] st K = K (.bool true) st1 ⟨[], .all st st1⟩ := fun K => callF_yld e1 K
            obtain ⟨a', d', st', e, h2, h3⟩ := each_loop hR s hs n (i + 1) (i + 1) (d ++ [(a, i)]) st1 (by omega) (by omega) (by simpa using ha) h1
            refine ⟨a', d', st', (loopO_inl ?_).trans e, h2, h3⟩
            by_cases hlt1 : i + 1 < s.length
            · have hc1 : s.getD (i + 1) 0 = s[i + 1] := by rw [List.getD_eq_getElem?_getD, List.getElem?_eq_getElem hlt1]; rfl
              have ix1 : ∀ {β : Type} (K : UInt8 → Option β), idxStr s ((i + 1 : Nat) : Int) K = K (s.getD (i + 1) 0) := fun K => by rw [idxStr_nat hlt1, hc1]
              have q1 : ((i + 1 : Nat) : Int) < (s.length : Int) := by omega
              have t4 : (((s.getD (i + 1) 0).toNat : Int) == 10) = false := beq_eq_false_iff_ne.2 (byte_ne (d := 10) hn10)
              simp only [w71_L1, unc_cons, asI_int, un0_nil, loadS_ip, takeO_one, bindO_ok, asS_str, ifB_decide, if_pos q, if_pos q1, ix, ix1, t1, t2, t3, t4, ifB_false, asB_bool, cy, ifB_not, ifB_true, letV_eq, w1, onSum_inl]
            · have q1 : ¬ ((i + 1 : Nat) : Int) < (s.length : Int) := by omega
              simp only [w71_L1, unc_cons, asI_int, un0_nil, loadS_ip, takeO_one, bindO_ok, asS_str, ifB_decide, if_pos q, if_neg q1, ix, t1, t2, t3, ifB_false, asB_bool, cy, ifB_not, ifB_true, letV_eq, w1, onSum_inl]
        · rw [if_neg h10, if_neg h13] at ha
          obtain ⟨a', d', st', e, h2, h3⟩ := each_loop hR s hs n a (i + 1) d st (by omega) (by omega) ha h
          refine ⟨a', d', st', (loopO_inl ?_).trans e, h2, h3⟩
          have t1 : ((c.toNat : Int) != 10) = true := bne_iff_ne.2 (byte_ne (d := 10) h10)
          have t2 : ((c.toNat : Int) != 13) = true := bne_iff_ne.2 (byte_ne (d := 13) h13)
          simp only [w71_L1, unc_cons, asI_int, un0_nil, loadS_ip, takeO_one, bindO_ok, asS_str, ifB_decide, if_pos q, ix, t1, t2, ifB_true, asB_bool, onSum_inl, letV_eq, w1]
    · rw [if_neg hlt] at ha
      have q : ¬ (i : Int) < (s.length : Int) := by omega
      refine ⟨a, d, st, loopO_inr ?_, ha, h⟩
      simp only [w71_L1, unc_cons, asI_int, un0_nil, loadS_ip, takeO_one, bindO_ok, asS_str, ifB_decide, if_neg q]
theorem each_ok {s : B} (hs : s.length ≤ 1000000) (hR : EachR k (linesT s) I) {st : St} (h : I [] st) : ∃ st', (orc vE).wide 71 [.yld k, .ip [.str s]] st = some (.tup [], st') ∧ I (linesT s) st' := by
  obtain ⟨a, d, st1, e, h1, h2⟩ := each_loop hR s hs (s.length + 1) 0 0 [] st (by omega) (Nat.zero_le _) rfl h
  obtain ⟨st2, e1, h3⟩ := hR d (a, s.length) [] st1 h1 h2
  rw [h1] at h3
  have cy : ∀ {β : Type} (K : Kv β), callF (orc vE) (Sx.prim (sx vE 71)) (.yld k) [.agg [.int .i64 (a : Int), .int .i64 (s.length : Int)]] st1 K = K (.bool true) st2 ⟨[], .all st1 st2⟩ := fun K => callF_yld e1 K
  refine ⟨st2, wide_of ((w71_eq _ _ _).trans ?_), h3⟩
  have e : loopO (w71_L1 (.yld k) (.ip [.str s])) ([.int .i64 0, .int .i64 0], st) = _ := e
  simp only [w71, e, bindO_ok, unc_cons, asI_int, un0_nil, sel2_zero, loadS_ip, takeO_one, asS_str, cy, asB_bool]
end
noncomputable abbrev lpN (s : Nat) : VM.Obj := lpS vE 46 0 [.mp 1 0] s .normal
theorem lpN_some : (lpOf vE 46 0).isSome = true := by kernel_rfl
structure NwS (k s : Nat) (tx : B) (l : List (Nat × Nat)) (v : AV) (st : St) : Prop where
  idx : st.get 0 = .ok (.cells 122 [.str tx, v])
  var : st.get 1 = .ok (.cells 99 [.mp 0 0])
  own : Own st 2 98 v (l.map spn)
  loop : st.get k = .ok (lpN s)
  ro : st.ro = 0
section
variable {k s : Nat} {tx : B} {l : List (Nat × Nat)} {v : AV} {st st' : St}
theorem NwS.ne0 (h : NwS k s tx l v st) : k ≠ 0 := by
  rintro rfl
  have h1 := h.loop
  rw [h.idx] at h1
  obtain ⟨imm, ps, a, c, fr, e⟩ := lpS_open lpN_some [.mp 1 0]
  rw [show lpN s = _ from e s .normal] at h1
  cases h1
theorem NwS.ne1 (h : NwS k s tx l v st) : k ≠ 1 := by
  rintro rfl
  have h1 := h.loop
  rw [h.var] at h1
  obtain ⟨imm, ps, a, c, fr, e⟩ := lpS_open lpN_some [.mp 1 0]
  rw [show lpN s = _ from e s .normal] at h1
  cases h1
theorem NwS.lt (h : NwS k s tx l v st) : k < st.h := (St.get_ok.1 h.loop).1
theorem NwS.keeps (h : NwS k s tx l v st) (hk : Keeps st st' (fun _ => False)) : NwS k s tx l v st' :=
  ⟨hk.old _ _ (fun f => f) h.idx, hk.old _ _ (fun f => f) h.var, own_keep h.own hk fun _ _ f => f, hk.old _ _ (fun f => f) h.loop, by rw [hk.ro]; exact h.ro⟩
theorem NwS.notk (h : NwS k s tx l v st) : ¬ ownerOf v k := Own.ne h.own h.loop (lpS_tok lpN_some _ _ _)
theorem NwS.turn (h : NwS k s tx l v st) (s' : Nat) : NwS k s' tx l v (st.put k (lpN s')) := by
  have hk : Keeps st (st.put k (lpN s')) (· = k) := Keeps.put rfl
  exact ⟨hk.of_ne h.ne0.symm h.idx, hk.of_ne h.ne1.symm h.var, own_keep h.own hk fun j hj e => h.notk (e ▸ hj), by rw [St.get_put_same h.lt], h.ro⟩
end
def NwI (k : Nat) (tx : B) (d : List (Nat × Nat)) (st : St) : Prop := ∃ v, NwS k 0 tx d v st
theorem nw_round {k : Nat} {tx : B} {all : List (Nat × Nat)} (hb : all.length ≤ 1000000) : EachR k all (NwI k tx) := by
  rintro d ⟨a, b⟩ r st ha ⟨v, h⟩
  obtain ⟨s1, g1, k1, n1, fx1, e1⟩ := local_var (O := orc vE) (st := st) (t := 98) (z := 2) (old := [.int .i64 0, .int .i64 0]) (cs := [.int .i64 (a : Int), .int .i64 (b : Int)]) (.agg [.int .i64 (a : Int), .int .i64 (b : Int)]) rfl rfl (by rw [h.ro]; omega)
  have h1 := h.keeps k1
  have h2 := h1.turn 1
  have hne : st.h ≠ k := Nat.ne_of_gt h.lt
  have kp : Keeps s1 (s1.put k (lpN 1)) (· = k) := Keeps.put rfl
  have g2 := kp.of_ne hne g1
  obtain ⟨v3, s3, x3, o3, k3, j3, ap3, e3⟩ := own_fx (b := 16) [spn (a, b)] h2.own fun _ => room_of (by
    rw [← ha] at hb
    simp only [List.length_append, List.length_cons, List.length_map, List.length_nil] at hb ⊢
    omega) (by omega) (by omega)
  have gi := k3.old _ _ (h2.own.not h2.idx) h2.idx
  have gv := k3.old _ _ (h2.own.not h2.var) h2.var
  have gk := k3.old _ _ h2.notk h2.loop
  have r3 : s3.ro = 0 := by rw [k3.ro]; exact h2.ro
  have sl1 : ∀ {β : Type} (K : St → Option β), setLoopS k 0 1 .normal s1 K = K (s1.put k (lpN 1)) := fun K => setLoopS_of lpN_some h1.loop K
  have l1 : ∀ {β : Type} (K : AV → List Nat → Option β), loadS 1 false (.mp 1 0) (s1.put k (lpN 1)) K = K (.mp 0 0) [1] := fun K => by rw [loadS_mp h2.var]; rfl
  have l2 : ∀ {β : Type} (K : AV → List Nat → Option β), loadS 1 false (.mp 0 1) (s1.put k (lpN 1)) K = K v [0] := fun K => by rw [loadS_mp h2.idx]; rfl
  have l3 : ∀ {β : Type} (K : AV → List Nat → Option β), loadS 2 true (.mp st.h 0) (s1.put k (lpN 1)) K = K (.agg [.int .i64 (a : Int), .int .i64 (b : Int)]) [st.h] := fun K => by rw [loadS_mp g2]; rfl
  have e3' : ∀ {β : Type} (K : Kv β), appS 2 16 98 v [.agg [.int .i64 (a : Int), .int .i64 (b : Int)]] (s1.put k (lpN 1)) K = K v3 s3 x3 := fun K => e3 K
  have ap : apart ⟨[1], .kept⟩ x3 = true := ap3 1 _ _ h2.var
  have st5 : ∀ {β : Type} (K : Kv β), storeS (orc vE) 1 (.mp 0 1) v3 [v3] s3 K = K VM.undef (s3.put 0 (.cells 122 [.str tx, v3])) ⟨[0], .wrote 0 (.cells 122 [.str tx, v3])⟩ := fun K => by
    rw [storeS_at (z := 1) gi rfl (by show 1 + 1 ≤ 2; omega) (by rw [r3]; omega)]
    rfl
  have k5 : Keeps s3 (s3.put 0 (.cells 122 [.str tx, v3])) (· = 0) := Keeps.put rfl
  have h5 : NwS k 1 tx (d ++ [(a, b)]) v3 (s3.put 0 (.cells 122 [.str tx, v3])) := by
    refine ⟨St.get_put_same (St.get_ok.1 gi).1, k5.of_ne (by decide) gv, own_keep (by simpa using o3) k5 fun j hj e => o3.not gi (e ▸ hj), k5.of_ne h.ne0 gk, r3⟩
  have sl2 : ∀ {β : Type} (K : St → Option β), setLoopS k 1 0 .normal (s3.put 0 (.cells 122 [.str tx, v3])) K = K ((s3.put 0 (.cells 122 [.str tx, v3])).put k (lpN 0)) := fun K => setLoopS_of lpN_some h5.loop K
  refine ⟨_, round_of (vs := [.mp 1 0]) h.loop (by rw [h.ro]; omega) ((r46_0_eq _ _ _ _).trans ?_), v3, h5.turn 0⟩
  simp only [r46_0, spn, unA_agg, unc_cons, asI_int, un0_nil, letSt_eq, e1, sl1, l1, l2, l3, notNil_mp, chk_true, fldA_mp, Nat.zero_add, e3', ap, Bool.and_self, asOne_of o3.one, st5, sl2]
def IsIdx (s : B) (x : AV) : Prop := ∃ v, IsSl 2 v ((linesT s).map spn) ∧ x = .ip [.str s, v]
theorem new_ok {s : B} (hs : s.length ≤ 65536) (hv : validS s = true) : ∃ x, (orc vE).bare 46 [.str s] = some (.tup [x, .int .i64 0]) ∧ IsIdx s x := by
  have q : ¬ (s.length : Int) > 65536 := by omega
  have lv : ∀ {β : Type} (st : St) (K : Kv β), planS (orc vE) (primP (Prim.lib libValid) [.str s]) st K = K (.bool true) st q0 := fun st K => planS_lib (by rw [libValid_ok (by omega), hv]) st K
  generalize hs2 : (((St.mk 0 0 Tr.leaf).add (.cells 122 [.str s, .nils])).add (.cells 99 [.nilp])).put 1 (.cells 99 [.mp 0 0]) = s2
  have hst : ∀ {β : Type} (K : Kv β), storeS (orc vE) 1 (.mp 1 0) (.mp 0 0) [.mp 0 0] (((St.mk 0 0 Tr.leaf).add (.cells 122 [.str s, .nils])).add (.cells 99 [.nilp])) K = K VM.undef s2 ⟨[1], .wrote 1 (.cells 99 [.mp 0 0])⟩ := fun K => by
    rw [storeS_at (z := 1) (old := [.nilp]) (t := 99) (id := 1) (off := 0) (St.get_add_new (st := (St.mk 0 0 Tr.leaf).add (.cells 122 [.str s, .nils]))) rfl (by show 0 + 1 ≤ 1; omega) (Nat.zero_le _), ← hs2]; rfl
  have hh : s2.h = 2 := by rw [← hs2]; rfl
  have hi0 : NwI 2 s [] (s2.add (lpN 0)) := by
    have ga : (s2.add (lpN 0)).get s2.h = .ok (lpN 0) := St.get_add_new
    rw [hh] at ga
    have g0 : s2.get 0 = .ok (.cells 122 [.str s, .nils]) := by rw [← hs2]; rfl
    have g1 : s2.get 1 = .ok (.cells 99 [.mp 0 0]) := by rw [← hs2]; rfl
    have gr : s2.ro = 0 := by rw [← hs2]; rfl
    exact ⟨.nils, St.get_add_old g0, St.get_add_old g1, Own.nils (by rw [St.add_ro, gr]; omega) _ _, ga, gr⟩
  obtain ⟨s3, e, v, h⟩ := each_ok (k := 2) (by omega) (nw_round (k := 2) (tx := s) (all := linesT s) (by have := linesT_len s; omega)) hi0
  have kp : Keeps s3 (s3.put 2 VM.Obj.dead) (· = 2) := Keeps.put rfl
  have g0 := kp.of_ne (by decide) h.idx
  have g1 := kp.of_ne (by decide) h.var
  have ho : Own (s3.put 2 VM.Obj.dead) 2 98 v ((linesT s).map spn) := own_keep h.own kp fun j hj e => h.notk (e ▸ hj)
  obtain ⟨x, hx, hf⟩ := own_freeze ho
  refine ⟨.ip [.str s, x], bare_of rfl ((g46_eq _).trans ?_), x, hx, rfl⟩
  have ce : ∀ {β : Type} (st : St) (K : Kv β), callS (orc vE) 57 [.str s] st K = K (.fn (.func 71) [] [.ip [.str s]]) st q0 := fun st K => callS_bare st K rfl rfl rfl (bare_of rfl ((g57_eq _).trans (by simp only [g57, asS_str])))
  have rg : ∀ {β : Type} (K : Ex → St → Option β), rangeS (orc vE) (.fn (.func 71) [] [.ip [.str s]]) (lpN 0) s2 K = K .normal (s3.put 2 .dead) := fun K => by
    rw [rangeS_lp lpN_some (v := .tup []) (st1 := s3) (s := 0) (p := .normal) (vs := [.mp 1 0]) (by rw [hh]; exact e) (by rw [hh]; exact h.loop) (.inl rfl), hh]
  have h00 : St.h (St.mk 0 0 Tr.leaf) = 0 := rfl
  have h01 : St.h ((St.mk 0 0 Tr.leaf).add (.cells 122 [.str s, .nils])) = 1 := rfl
  simp only [g46, asS_str, ifB_decide, if_neg q, lv, asB_bool, ifB_not, ifB_true, letSt_eq, h00, h01, hst, ce]
  refine (rg _).trans ?_
  simp only [jumpIf_same, loadS_mp g1, List.drop_zero, takeO_one, bindO_ok]
  have hz : (s3.put 2 VM.Obj.dead).get 0 = .ok (.cells 122 [.str s, v]) := g0
  have f1 : VM.freeze (s3.put 2 VM.Obj.dead) 0 99 (.mp 0 0) = .ok (.ip [.str s, x]) := by
    refine freeze_mp (n := 98) hz ?_ ?_
    · simp only [allE, hf 97, fz_str s (s3.put 2 VM.Obj.dead) 0 98 (by omega), ok_bind, pure_eq]
    · have : VM.fit (.str s) = .ok (.str s) := rfl
      simp only [VM.fits, this, hx.fit, ok_bind, pure_eq]
  have f2 : VM.freeze (s3.put 2 VM.Obj.dead) 0 100 (.tup [.mp 0 0, .int .i64 0]) = .ok (.tup [.ip [.str s, x], .int .i64 0]) := by
    show (do pure (.tup (← allE (VM.freeze (s3.put 2 VM.Obj.dead) 0 99) [.mp 0 0, .int .i64 0])) : Res AV) = _
    simp only [allE, f1, fz_int .i64 0 (s3.put 2 VM.Obj.dead) 0 99 (by omega), ok_bind, pure_eq]
  have f3 : VM.bare (.tup [.ip [.str s, x], .int .i64 0]) = true := by rfl
  simp only [frzS, f2, f3, chk_true]
theorem new_bad {s : B} (hs : s.length ≤ 65536) (hv : validS s = false) : (orc vE).bare 46 [.str s] = some (.tup [.nilp, .int .i64 4]) := by
  have q : ¬ (s.length : Int) > 65536 := by omega
  have lv : ∀ {β : Type} (st : St) (K : Kv β), planS (orc vE) (primP (Prim.lib libValid) [.str s]) st K = K (.bool false) st q0 := fun st K => planS_lib (by rw [libValid_ok (by omega), hv]) st K
  refine bare_of rfl ((g46_eq _).trans ?_)
  simp only [g46, asS_str, ifB_decide, if_neg q, lv, asB_bool, ifB_not, ifB_false]
end Go.Proofs.YtkknkhniadiapaaDoor.Vm
namespace Go.Proofs.YtkknkhniadiapaaDoor.Vm
open Go Go.VM Go.Proofs
inductive T where
  | nil
  | leaf (s : List UInt8)
  | node (l r : T)
namespace T
def size : T → Nat
  | nil => 0
  | leaf s => s.length
  | node l r => l.size + r.size
def ends : T → Nat
  | nil => 0
  | leaf s => s.count 10
  | node l r => l.ends + r.ends
def depth : T → Nat
  | nil => 0
  | leaf _ => 1
  | node l r => 1 + max l.depth r.depth
def text : T → List UInt8
  | nil => []
  | leaf s => s
  | node l r => l.text ++ r.text
def own : T → List UInt8
  | leaf s => s
  | _ => []
def left : T → T
  | node l _ => l
  | _ => nil
def right : T → T
  | node _ r => r
  | _ => nil
def enc : T → AV
  | nil => .nilp
  | leaf s => .ip [.int .i64 (s.length : Int), .int .i64 (s.count 10 : Int), .int .i64 1, .str s, .nilp, .nilp]
  | node l r => .ip [.int .i64 ((node l r).size : Int), .int .i64 ((node l r).ends : Int), .int .i64 ((node l r).depth : Int), .str [], l.enc, r.enc]
theorem size_text : ∀ t : T, t.text.length = t.size
  | nil => rfl
  | leaf _ => rfl
  | node l r => by simp [text, size, size_text l, size_text r]
theorem ends_text : ∀ t : T, t.text.count 10 = t.ends
  | nil => rfl
  | leaf _ => rfl
  | node l r => by simp [text, ends, ends_text l, ends_text r]
theorem ends_le (t : T) : t.ends ≤ t.size := by
  rw [← ends_text, ← size_text]; exact List.count_le_length
def isNil : T → Bool
  | nil => true
  | _ => false
theorem enc_cells {t : T} (h : t.isNil = false) : t.enc = .ip [.int .i64 (t.size : Int), .int .i64 (t.ends : Int), .int .i64 (t.depth : Int), .str t.own, t.left.enc, t.right.enc] := by
  cases t with
  | nil => cases h
  | leaf s => rfl
  | node l r => rfl
theorem bare_enc (t : T) : VM.bare t.enc = true := by cases t <;> rfl
theorem strip_enc (t : T) : strip t.enc = t.enc := by cases t <;> rfl
theorem one_enc (t : T) : VM.one t.enc = true := by cases t <;> rfl
theorem fz_enc (t : T) : Fz 1 t.enc := by
  cases t with
  | nil => exact fz_nilp
  | leaf s => exact fz_ip _
  | node l r => exact fz_ip _
theorem asOne_enc {β : Type} (t : T) (K : Option β) : asOne t.enc K = K := asOne_of t.one_enc K
theorem fit1_enc {β : Type} (t : T) (K : AV → Option β) : fit1 t.enc K = K t.enc := by cases t <;> rfl
theorem frz_enc {β : Type} (t : T) (st : St) (b : Nat) (K : AV → Option β) : frzS st b t.enc K = K t.enc := frz_of t.fz_enc (by omega) t.bare_enc st b K
theorem frz_two {β : Type} (a b : T) (st : St) (k : Nat) (K : AV → Option β) : frzS st k (.tup [a.enc, b.enc]) K = K (.tup [a.enc, b.enc]) := by
  refine frz_of (d := 2) (fz_tup ?_) (by omega) ?_ st k K
  · intro c hc
    simp only [List.mem_cons, List.not_mem_nil, or_false] at hc
    rcases hc with rfl | rfl
    · exact fz_enc _
    · exact fz_enc _
  · simp only [bare_tup, bares_cons, bare_enc]; rfl
theorem nil_enc {β : Type} (t : T) (k : TypeId) (K : Bool → Option β) : nilS (.ptr k) t.enc .nilp K = K t.isNil := by cases t <;> rfl
end T
open T
@[simp] theorem oneOf_one (v : AV) : oneOf [v] = v := id rfl
@[simp] theorem notNil_ip (cs : List AV) : notNil (.ip cs) = true := id rfl
@[simp] theorem notNil_mp (i o : Nat) : notNil (.mp i o) = true := id rfl
@[simp] theorem drop3 (a b c : AV) (l : List AV) : (a :: b :: c :: l).drop 3 = l := id rfl
@[simp] theorem drop2 (a b : AV) (l : List AV) : (a :: b :: l).drop 2 = l := id rfl
@[simp] theorem drop4 (a b c d : AV) (l : List AV) : (a :: b :: c :: d :: l).drop 4 = l := id rfl
@[simp] theorem drop5 (a b c d e : AV) (l : List AV) : (a :: b :: c :: d :: e :: l).drop 5 = l := id rfl
@[simp] theorem takeO_three (a b c : AV) (l : List AV) : takeO 3 true (a :: b :: c :: l) = some (.agg [a, b, c]) := id rfl
def kn (t : T) : AV := .agg [.int .i64 (t.size : Int), .int .i64 (t.ends : Int), .int .i64 (t.depth : Int)]
theorem of_ok (t : T) : (orc vE).bare 68 [t.enc] = some (kn t) := by
  refine bare_of rfl ((g68_eq _).trans ?_)
  simp only [g68, T.nil_enc]
  cases h : t.isNil with
  | true =>
    cases t with
    | nil => rfl
    | leaf s => cases h
    | node l r => cases h
  | false =>
    rw [enc_cells h]
    simp only [ifB_false, notNil_ip, chk_true, fldA_ip, List.drop_zero, loadS_ip, takeO_three, bindO_ok, unA_agg, unc_cons, asI_int, un0_nil, kn]
theorem call_bare1 {β : Type} {f : FuncId} {t : T} {r : AV} (st : St) (K : Kv β) (hf : vE.full f = false) (h : (orc vE).bare f [t.enc] = some r) : callS (orc vE) f [t.enc] st K = K r st q0 :=
  callS_bare st K hf (by simp [strip_enc]) (by simp [bares_cons, bare_enc]; rfl) h
theorem call_of {β : Type} (t : T) (st : St) (K : Kv β) : callS (orc vE) 68 [t.enc] st K = K (kn t) st q0 := call_bare1 st K rfl (of_ok t)
theorem count_lib {β : Type} (s : List UInt8) (c : UInt8) (st : St) (K : Kv β) : planS (orc vE) (primP (.lib libCount) [.str s, .str [c]]) st K = K (.int .i64 (s.count c : Int)) st q0 := rfl
def partT (s : List UInt8) : T := if s = [] then .nil else .leaf s
theorem part_ok (s : List UInt8) : (orc vE).bare 53 [.str s] = some (partT s).enc := by
  refine bare_of rfl ((g53_eq _).trans ?_)
  cases s with
  | nil => rfl
  | cons b l => 
    have e : ((b :: l) == ([] : List UInt8)) = false := rfl
    simp only [g53, asS_str, e, ifB_false, count_lib, asI_int, partT]
    rfl
theorem call_part {β : Type} (s : List UInt8) (st : St) (K : Kv β) : callS (orc vE) 53 [.str s] st K = K (partT s).enc st q0 := callS_bare st K rfl rfl rfl (part_ok s)
theorem wrapN {n : Nat} (h : n ≤ 9223372036854775807) : IntKind.wrap .i64 (n : Int) = (n : Int) := wrap_i64 (by omega) (by omega)
abbrev S0 : St := St.mk 0 0 Tr.leaf
def S2 (a b c d e f : Int) : St := ⟨2, 0, .node (some (.cells 118 [.int .i64 a, .int .i64 b, .int .i64 c])) (.node (some (.cells 118 [.int .i64 d, .int .i64 e, .int .i64 f])) .leaf .leaf) .leaf⟩
def S2' (a b c : Int) : St := ⟨2, 0, .node (some (.cells 118 [.int .i64 a, .int .i64 b, .int .i64 c])) (.node (some (.cells 118 [.int .i64 0, .int .i64 0, .int .i64 0])) .leaf .leaf) .leaf⟩
section
variable {β : Type} (a b c d e f : Int)
abbrev O3 : VM.Obj := VM.Obj.cells 118 [AV.int .i64 0, AV.int .i64 0, AV.int .i64 0]
theorem h0 : St.h S0 = 0 := rfl
theorem h1 : St.h (St.add S0 O3) = 1 := rfl
theorem st_one (K : Kv β) : storeS (orc vE) 3 (.mp 0 0) (.agg [.int .i64 a, .int .i64 b, .int .i64 c]) [.int .i64 a, .int .i64 b, .int .i64 c] (St.add (St.add S0 O3) O3) K = K VM.undef (S2' a b c) ⟨[0], .wrote 0 (.cells 118 [.int .i64 a, .int .i64 b, .int .i64 c])⟩ := rfl
theorem st_two (K : Kv β) : storeS (orc vE) 3 (.mp 1 0) (.agg [.int .i64 d, .int .i64 e, .int .i64 f]) [.int .i64 d, .int .i64 e, .int .i64 f] (S2' a b c) K = K VM.undef (S2 a b c d e f) ⟨[1], .wrote 1 (.cells 118 [.int .i64 d, .int .i64 e, .int .i64 f])⟩ := rfl
theorem ld_00 (K : AV → List Nat → Option β) : loadS 1 false (.mp 0 0) (S2 a b c d e f) K = K (.int .i64 a) [0] := rfl
theorem ld_01 (K : AV → List Nat → Option β) : loadS 1 false (.mp 0 1) (S2 a b c d e f) K = K (.int .i64 b) [0] := rfl
theorem ld_02 (K : AV → List Nat → Option β) : loadS 1 false (.mp 0 2) (S2 a b c d e f) K = K (.int .i64 c) [0] := rfl
theorem ld_10 (K : AV → List Nat → Option β) : loadS 1 false (.mp 1 0) (S2 a b c d e f) K = K (.int .i64 d) [1] := rfl
theorem ld_11 (K : AV → List Nat → Option β) : loadS 1 false (.mp 1 1) (S2 a b c d e f) K = K (.int .i64 e) [1] := rfl
theorem ld_12 (K : AV → List Nat → Option β) : loadS 1 false (.mp 1 2) (S2 a b c d e f) K = K (.int .i64 f) [1] := rfl
end
theorem max_if (a b : Nat) : (if (b : Int) > (a : Int) then (b : Int) else (a : Int)) = ((max a b : Nat) : Int) := by
  split <;> omega
theorem two_ok (a b : T) (hs : a.size + b.size ≤ 1000000000) (hd : max a.depth b.depth ≤ 1000000000) : (orc vE).bare 70 [a.enc, b.enc] = some (node a b).enc := by
  refine bare_of rfl ((g70_eq _ _).trans ?_)
  have e1 := a.ends_le
  have e2 := b.ends_le
  have w1 : IntKind.wrap .i64 ((a.size : Int) + (b.size : Int)) = ((a.size + b.size : Nat) : Int) := by rw [← Int.natCast_add]; exact wrapN (by omega)
  have w2 : IntKind.wrap .i64 ((a.ends : Int) + (b.ends : Int)) = ((a.ends + b.ends : Nat) : Int) := by rw [← Int.natCast_add]; exact wrapN (by omega)
  have w3 : IntKind.wrap .i64 (1 + ((max a.depth b.depth : Nat) : Int)) = ((1 + max a.depth b.depth : Nat) : Int) := by
    have := wrapN (n := 1 + max a.depth b.depth) (by omega)
    rw [← this]; congr 1
  simp only [g70, call_of, kn, unA_agg, unc_cons, asI_int, un0_nil, letSt_eq, h0, h1, st_one, st_two, ld_00, ld_01, ld_02, ld_10, ld_11, ld_12, letV_eq, asOne_enc, fit1_enc, max_if, w1, w2, w3]
  rfl
theorem call_two {β : Type} {f : FuncId} {a b : T} {r : AV} (st : St) (K : Kv β) (hf : vE.full f = false) (h : (orc vE).bare f [a.enc, b.enc] = some r) : callS (orc vE) f [a.enc, b.enc] st K = K r st q0 :=
  callS_bare st K hf (by simp [strip_enc]) (by simp [bares_cons, bare_enc]; rfl) h
end Go.Proofs.YtkknkhniadiapaaDoor.Vm
namespace Go.Proofs.YtkknkhniadiapaaDoor.Vm
open Go Go.VM Go.Proofs
open T
def WF : T → Prop
  | .nil => True
  | .leaf s => s ≠ []
  | .node l r => l.isNil = false ∧ r.isNil = false ∧ WF l ∧ WF r ∧ l.depth ≤ r.depth + 1 ∧ r.depth ≤ l.depth + 1
theorem depth_pos {t : T} (h : t.isNil = false) : 1 ≤ t.depth := by
  cases t with
  | nil => cases h
  | leaf s => exact Nat.le_refl _
  | node l r => simp only [T.depth]; omega
theorem size_pos : ∀ {t : T}, WF t → t.isNil = false → 1 ≤ t.size
  | .nil, _, h => by cases h
  | .leaf s, w, _ => by
    cases s with
    | nil => exact absurd rfl w
    | cons b l => simp [T.size]
  | .node l r, w, _ => by
    have := size_pos w.2.2.1 w.1
    simp only [T.size]; omega
theorem depth_size : ∀ {t : T}, WF t → t.depth ≤ t.size
  | .nil, _ => Nat.le_refl _
  | .leaf s, w => size_pos (t := .leaf s) w rfl
  | .node l r, w => by
    have h1 := depth_size w.2.2.1
    have h2 := depth_size w.2.2.2.1
    have h3 := size_pos w.2.2.1 w.1
    have h4 := size_pos w.2.2.2.1 w.2.1
    simp only [T.size, T.depth]; omega
theorem nil_of {t : T} (h : t.isNil = true) : t = .nil := by cases t <;> first | rfl | cases h
theorem isNil_depth {t : T} (h : 1 ≤ t.depth) : t.isNil = false := by
  cases t with
  | nil => simp [T.depth] at h
  | leaf s => rfl
  | node l r => rfl
theorem node_of {t : T} (h : 2 ≤ t.depth) : t = .node t.left t.right := by
  cases t with
  | nil => simp [T.depth] at h
  | leaf s => simp [T.depth] at h
  | node l r => rfl
theorem leaf_of {t : T} (w : WF t) (h : t.depth = 1) : t = .leaf t.own := by
  cases t with
  | nil => simp [T.depth] at h
  | leaf s => rfl
  | node l r =>
    have := depth_pos w.1
    simp only [T.depth] at h; omega
structure Joined (a b t : T) : Prop where
  wf : WF t
  text : t.text = a.text ++ b.text
  lo : max a.depth b.depth ≤ t.depth
  hi : t.depth ≤ max a.depth b.depth + 1
theorem Joined.size {a b t : T} (h : Joined a b t) : t.size = a.size + b.size := by
  rw [← size_text, h.text, List.length_append, size_text, size_text]
theorem joined_two {a b : T} (ha : a.isNil = false) (hb : b.isNil = false) (wa : WF a) (wb : WF b) (h1 : a.depth ≤ b.depth + 1) (h2 : b.depth ≤ a.depth + 1) : Joined a b (.node a b) :=
  ⟨⟨ha, hb, wa, wb, h1, h2⟩, rfl, by simp only [T.depth]; omega, by simp only [T.depth]; omega⟩
theorem level_ok {a b : T} (ha : a.isNil = false) (hb : b.isNil = false) (wa : WF a) (wb : WF b) (d1 : a.depth ≤ b.depth + 2) (d2 : b.depth ≤ a.depth + 2) (hs : a.size + b.size ≤ 100000000) :
    ∃ t, (orc vE).bare 69 [a.enc, b.enc] = some t.enc ∧ Joined a b t ∧ (a.depth ≤ b.depth + 1 → b.depth ≤ a.depth + 1 → t.depth = max a.depth b.depth + 1) := by
  have da := depth_size wa
  have db := depth_size wb
  have pa := depth_pos ha
  have pb := depth_pos hb
  have wr1 : IntKind.wrap .i64 ((b.depth : Int) + 1) = ((b.depth + 1 : Nat) : Int) := by rw [← wrapN (n := b.depth + 1) (by omega)]; rfl
  have wr2 : IntKind.wrap .i64 ((a.depth : Int) + 1) = ((a.depth + 1 : Nat) : Int) := by rw [← wrapN (n := a.depth + 1) (by omega)]; rfl
  by_cases c1 : a.depth > b.depth + 1
  · have c1' : (a.depth : Int) > ((b.depth + 1 : Nat) : Int) := by omega
    obtain ⟨l, r, rfl⟩ : ∃ l r, a = .node l r := ⟨_, _, node_of (by omega)⟩
    obtain ⟨hl, hr, wl, wrr, b1, b2⟩ := wa
    simp only [T.depth] at d1 d2 c1 da
    simp only [T.size] at da hs
    have dl := depth_size wl
    have dr := depth_size wrr
    by_cases c2 : l.depth ≥ r.depth
    · have c2' : (l.depth : Int) ≥ (r.depth : Int) := by omega
      refine ⟨.node l (.node r b), bare_of rfl ((g69_eq _ _).trans ?_), ⟨⟨hl, rfl, wl, ⟨hr, hb, wrr, wb, ?_, ?_⟩, ?_, ?_⟩, ?_, ?_, ?_⟩, ?_⟩
      · have e1 := fun {β : Type} (st : St) (K : Kv β) => call_two st K rfl (two_ok r b (by omega) (by omega))
        have e2 := fun {β : Type} (st : St) (K : Kv β) => call_two st K rfl (two_ok l (.node r b) (by simp only [T.size]; omega) (by simp only [T.depth]; omega))
        simp only [g69, call_of, kn, unA_agg, unc_cons, asI_int, un0_nil, letSt_eq, h0, Vm.h1, st_one, st_two, ld_00, ld_01, ld_02, ld_10, ld_11, ld_12, letV_eq, wr1, wr2, ifB_decide, if_pos c1']
        simp only [enc_cells (t := .node l r) rfl, notNil_ip, chk_true, fldA_ip, drop4, drop5, loadS_ip, takeO_one, bindO_ok, T.left, T.right, call_of, kn, unA_agg, unc_cons, asI_int, un0_nil, apart_kept, apart_kept2, Bool.and_self, ifB_decide, oneOf_one, frz_enc, if_pos c2', e1, e2]
      all_goals try simp only [T.depth, T.text, List.append_assoc]
      all_goals try omega
    · have c2' : ¬ (l.depth : Int) ≥ (r.depth : Int) := by omega
      obtain ⟨rl, rr, rfl⟩ : ∃ rl rr, r = .node rl rr := ⟨_, _, node_of (by have := depth_pos hl; omega)⟩
      obtain ⟨hrl, hrr, wrl, wrr2, b3, b4⟩ := wrr
      have drl := depth_size wrl
      have drr := depth_size wrr2
      simp only [T.depth] at d1 d2 c1 da b1 b2 c2 dr
      simp only [T.size] at da hs dr
      refine ⟨.node (.node l rl) (.node rr b), bare_of rfl ((g69_eq _ _).trans ?_), ⟨⟨rfl, rfl, ⟨hl, hrl, wl, wrl, ?_, ?_⟩, ⟨hrr, hb, wrr2, wb, ?_, ?_⟩, ?_, ?_⟩, ?_, ?_, ?_⟩, ?_⟩
      · have e1 := fun {β : Type} (st : St) (K : Kv β) => call_two st K rfl (two_ok l rl (by omega) (by omega))
        have e2 := fun {β : Type} (st : St) (K : Kv β) => call_two st K rfl (two_ok rr b (by omega) (by omega))
        have e3 := fun {β : Type} (st : St) (K : Kv β) => call_two st K rfl (two_ok (.node l rl) (.node rr b) (by simp only [T.size]; omega) (by simp only [T.depth]; omega))
        simp only [g69, call_of, kn, unA_agg, unc_cons, asI_int, un0_nil, letSt_eq, h0, Vm.h1, st_one, st_two, ld_00, ld_01, ld_02, ld_10, ld_11, ld_12, letV_eq, wr1, wr2, ifB_decide, if_pos c1']
        simp only [enc_cells (t := .node l (.node rl rr)) rfl, notNil_ip, chk_true, fldA_ip, drop4, drop5, loadS_ip, takeO_one, bindO_ok, T.left, T.right, call_of, kn, unA_agg, unc_cons, asI_int, un0_nil, apart_kept, apart_kept2, Bool.and_self, ifB_decide, oneOf_one, frz_enc, if_neg c2']
        simp only [enc_cells (t := .node rl rr) rfl, notNil_ip, chk_true, fldA_ip, drop4, drop5, loadS_ip, takeO_one, bindO_ok, T.left, T.right, call_of, kn, unA_agg, unc_cons, asI_int, un0_nil, apart_kept, apart_kept2, Bool.and_self, ifB_decide, oneOf_one, frz_enc, e1, e2, e3]
      all_goals try simp only [T.depth, T.text, List.append_assoc]
      all_goals try omega
  have c1' : ¬ (a.depth : Int) > ((b.depth + 1 : Nat) : Int) := by omega
  by_cases c3 : b.depth > a.depth + 1
  · have c3' : (b.depth : Int) > ((a.depth + 1 : Nat) : Int) := by omega
    obtain ⟨l, r, rfl⟩ : ∃ l r, b = .node l r := ⟨_, _, node_of (by omega)⟩
    obtain ⟨hl, hr, wl, wrr, b1, b2⟩ := wb
    simp only [T.depth] at d1 d2 c1 db c3
    simp only [T.size] at db hs
    have dl := depth_size wl
    have dr := depth_size wrr
    by_cases c2 : r.depth ≥ l.depth
    · have c2' : (r.depth : Int) ≥ (l.depth : Int) := by omega
      refine ⟨.node (.node a l) r, bare_of rfl ((g69_eq _ _).trans ?_), ⟨⟨rfl, hr, ⟨ha, hl, wa, wl, ?_, ?_⟩, wrr, ?_, ?_⟩, ?_, ?_, ?_⟩, ?_⟩
      · have e1 := fun {β : Type} (st : St) (K : Kv β) => call_two st K rfl (two_ok a l (by omega) (by omega))
        have e2 := fun {β : Type} (st : St) (K : Kv β) => call_two st K rfl (two_ok (.node a l) r (by simp only [T.size]; omega) (by simp only [T.depth]; omega))
        simp only [g69, call_of, kn, unA_agg, unc_cons, asI_int, un0_nil, letSt_eq, h0, Vm.h1, st_one, st_two, ld_00, ld_01, ld_02, ld_10, ld_11, ld_12, letV_eq, wr1, wr2, ifB_decide, if_neg c1', if_pos c3']
        simp only [enc_cells (t := .node l r) rfl, notNil_ip, chk_true, fldA_ip, drop4, drop5, loadS_ip, takeO_one, bindO_ok, T.left, T.right, call_of, kn, unA_agg, unc_cons, asI_int, un0_nil, apart_kept, apart_kept2, Bool.and_self, ifB_decide, oneOf_one, frz_enc, if_pos c2', e1, e2]
      all_goals try simp only [T.depth, T.text, List.append_assoc]
      all_goals try omega
    · have c2' : ¬ (r.depth : Int) ≥ (l.depth : Int) := by omega
      obtain ⟨ll, lr, rfl⟩ : ∃ ll lr, l = .node ll lr := ⟨_, _, node_of (by have := depth_pos hr; omega)⟩
      obtain ⟨hll, hlr, wll, wlr, b3, b4⟩ := wl
      have dll := depth_size wll
      have dlr := depth_size wlr
      simp only [T.depth] at d1 d2 c1 db b1 b2 c2 c3 dl
      simp only [T.size] at db hs dl
      refine ⟨.node (.node a ll) (.node lr r), bare_of rfl ((g69_eq _ _).trans ?_), ⟨⟨rfl, rfl, ⟨ha, hll, wa, wll, ?_, ?_⟩, ⟨hlr, hr, wlr, wrr, ?_, ?_⟩, ?_, ?_⟩, ?_, ?_, ?_⟩, ?_⟩
      · have e1 := fun {β : Type} (st : St) (K : Kv β) => call_two st K rfl (two_ok a ll (by omega) (by omega))
        have e2 := fun {β : Type} (st : St) (K : Kv β) => call_two st K rfl (two_ok lr r (by omega) (by omega))
        have e3 := fun {β : Type} (st : St) (K : Kv β) => call_two st K rfl (two_ok (.node a ll) (.node lr r) (by simp only [T.size]; omega) (by simp only [T.depth]; omega))
        simp only [g69, call_of, kn, unA_agg, unc_cons, asI_int, un0_nil, letSt_eq, h0, Vm.h1, st_one, st_two, ld_00, ld_01, ld_02, ld_10, ld_11, ld_12, letV_eq, wr1, wr2, ifB_decide, if_neg c1', if_pos c3']
        simp only [enc_cells (t := .node (.node ll lr) r) rfl, notNil_ip, chk_true, fldA_ip, drop4, drop5, loadS_ip, takeO_one, bindO_ok, T.left, T.right, call_of, kn, unA_agg, unc_cons, asI_int, un0_nil, apart_kept, apart_kept2, Bool.and_self, ifB_decide, oneOf_one, frz_enc, if_neg c2']
        simp only [enc_cells (t := .node ll lr) rfl, notNil_ip, chk_true, fldA_ip, drop4, drop5, loadS_ip, takeO_one, bindO_ok, T.left, T.right, call_of, kn, unA_agg, unc_cons, asI_int, un0_nil, apart_kept, apart_kept2, Bool.and_self, ifB_decide, oneOf_one, frz_enc, e1, e2, e3]
      all_goals try simp only [T.depth, T.text, List.append_assoc]
      all_goals try omega
  · have c3' : ¬ (b.depth : Int) > ((a.depth + 1 : Nat) : Int) := by omega
    refine ⟨.node a b, bare_of rfl ((g69_eq _ _).trans ?_), joined_two ha hb wa wb (by omega) (by omega), fun _ _ => by simp only [T.depth]; omega⟩
    have e1 := fun {β : Type} (st : St) (K : Kv β) => call_two st K rfl (two_ok a b (by omega) (by omega))
    simp only [g69, call_of, kn, unA_agg, unc_cons, asI_int, un0_nil, letSt_eq, h0, Vm.h1, st_one, st_two, ld_00, ld_01, ld_02, ld_10, ld_11, ld_12, letV_eq, wr1, wr2, ifB_decide, if_neg c1', if_neg c3', e1, frz_enc, oneOf_one]
open T
theorem join_ok (n : Nat) : ∀ (a b : T), WF a → WF b → a.size + b.size ≤ n → n ≤ 100000000 → ∃ t, (orc vE).bare 54 [a.enc, b.enc] = some t.enc ∧ Joined a b t := by
  induction n using Nat.strongRecOn with
  | _ n ih =>
  intro a b wa wb hn hs
  have da := depth_size wa
  have db := depth_size wb
  have wr1 : IntKind.wrap .i64 ((b.depth : Int) + 1) = ((b.depth + 1 : Nat) : Int) := by rw [← wrapN (n := b.depth + 1) (by omega)]; rfl
  have wr2 : IntKind.wrap .i64 ((a.depth : Int) + 1) = ((a.depth + 1 : Nat) : Int) := by rw [← wrapN (n := a.depth + 1) (by omega)]; rfl
  have wr3 : IntKind.wrap .i64 ((a.size : Int) + (b.size : Int)) = ((a.size + b.size : Nat) : Int) := by rw [← wrapN (n := a.size + b.size) (by omega)]; rfl
  cases ha : a.isNil with
  | true =>
    refine ⟨b, bare_of rfl ((g54_eq _ _).trans ?_), ?_⟩
    · simp only [g54, call_of, kn, unA_agg, unc_cons, asI_int, un0_nil, letSt_eq, h0, Vm.h1, st_one, st_two, ld_00, ld_01, ld_02, ld_10, ld_11, ld_12, letV_eq, wr1, wr2, ifB_decide, T.nil_enc, ha, ifB_true, oneOf_one, frz_enc]
    · rw [nil_of ha]; exact ⟨wb, rfl, by simp [T.depth], by simp [T.depth]⟩
  | false =>
  cases hb : b.isNil with
  | true =>
    refine ⟨a, bare_of rfl ((g54_eq _ _).trans ?_), ?_⟩
    · simp only [g54, call_of, kn, unA_agg, unc_cons, asI_int, un0_nil, letSt_eq, h0, Vm.h1, st_one, st_two, ld_00, ld_01, ld_02, ld_10, ld_11, ld_12, letV_eq, wr1, wr2, ifB_decide, T.nil_enc, ha, hb, ifB_true, ifB_false, oneOf_one, frz_enc]
    · rw [nil_of hb]; exact ⟨wa, by simp [T.text], by simp [T.depth], by simp [T.depth]⟩
  | false =>
  have pa := depth_pos ha
  have pb := depth_pos hb
  by_cases c0 : a.depth = 1 ∧ b.depth = 1 ∧ a.size + b.size ≤ 128
  · obtain ⟨k1, k2, k3⟩ := c0
    have q1 : (a.depth : Int) = 1 := by omega
    have q2 : (b.depth : Int) = 1 := by omega
    have q3 : ((a.size + b.size : Nat) : Int) ≤ 128 := by omega
    have la := leaf_of wa k1
    have lb := leaf_of wb k2
    have sa : a.own.length = a.size := by rw [la]; rfl
    have sb : b.own.length = b.size := by rw [lb]; rfl
    have hl : (a.own.length + b.own.length).ble 9223372036854775807 = true := Nat.ble_eq_true_of_le (by omega)
    have ne : a.own ++ b.own ≠ [] := by
      intro h
      have := size_pos wa ha
      have := congrArg List.length h
      simp only [List.length_append, List.length_nil] at this
      omega
    have hp : partT (a.own ++ b.own) = .leaf (a.own ++ b.own) := by rw [partT, if_neg ne]
    refine ⟨.leaf (a.own ++ b.own), bare_of rfl ((g54_eq _ _).trans ?_), ⟨ne, ?_, ?_, ?_⟩⟩
    · simp only [g54, call_of, kn, unA_agg, unc_cons, asI_int, un0_nil, letSt_eq, h0, Vm.h1, st_one, st_two, ld_00, ld_01, ld_02, ld_10, ld_11, ld_12, letV_eq, wr1, wr2, ifB_decide, T.nil_enc, ha, hb, ifB_false, ifB_beq, if_pos q1, if_pos q2, wr3, bindO_ok, asB_bool]
      simp only [if_pos q3]
      simp only [enc_cells ha, enc_cells hb, notNil_ip, chk_true, fldA_ip, drop3, loadS_ip, takeO_one, bindO_ok, asS_str, hl, letV_eq, call_part, hp, oneOf_one, frz_enc]
    · rw [la, lb]; rfl
    · simp only [T.depth]; omega
    · simp only [T.depth]; omega
  have hcond : ∀ {β : Type} (K : Car → Option β), bindO (if (a.depth : Int) = 1 then if (b.depth : Int) = 1 then some ([AV.bool (decide (((a.size + b.size : Nat) : Int) ≤ 128))], S2 a.size a.ends a.depth b.size b.ends b.depth) else some ([AV.bool false], S2 a.size a.ends a.depth b.size b.ends b.depth) else some ([AV.bool false], S2 a.size a.ends a.depth b.size b.ends b.depth)) K = K ([AV.bool false], S2 a.size a.ends a.depth b.size b.ends b.depth) := by
    intro β K
    by_cases k1 : (a.depth : Int) = 1
    · by_cases k2 : (b.depth : Int) = 1
      · have : ¬ ((a.size + b.size : Nat) : Int) ≤ 128 := by omega
        rw [if_pos k1, if_pos k2, decide_eq_false this]; rfl
      · rw [if_pos k1, if_neg k2]; rfl
    · rw [if_neg k1]; rfl
  by_cases c1 : a.depth > b.depth + 1
  · have c1' : (a.depth : Int) > ((b.depth + 1 : Nat) : Int) := by omega
    obtain ⟨l, r, rfl⟩ : ∃ l r, a = .node l r := ⟨_, _, node_of (by omega)⟩
    obtain ⟨hl, hr, wl, wrr, b1, b2⟩ := wa
    have sl := size_pos wl hl
    simp only [T.size] at hn
    obtain ⟨j, hj, J⟩ := ih (r.size + b.size) (by omega) r b wrr wb (Nat.le_refl _) (by omega)
    have jl := J.lo
    have jh := J.hi
    have js := J.size
    have pr := depth_pos hr
    have pj : j.isNil = false := isNil_depth (by omega)
    simp only [T.depth] at c1 c1'
    obtain ⟨t, ht, L, hd⟩ := level_ok hl pj wl J.wf (by omega) (by omega) (by omega)
    have e1 := fun {β : Type} (st : St) (K : Kv β) => call_two st K rfl hj
    have e2 := fun {β : Type} (st : St) (K : Kv β) => call_two st K rfl ht
    have ll := L.lo
    have lh := L.hi
    refine ⟨t, bare_of rfl ((g54_eq _ _).trans ?_), ⟨L.wf, ?_, ?_, ?_⟩⟩
    · simp only [g54, call_of, kn, unA_agg, unc_cons, asI_int, un0_nil, letSt_eq, h0, Vm.h1, st_one, st_two, ld_00, ld_01, ld_02, ld_10, ld_11, ld_12, letV_eq, wr1, wr2, ifB_decide, T.nil_enc, ha, hb, ifB_false, ifB_beq, wr3, asB_bool, hcond]
      simp only [T.depth] at *
      simp only [if_pos c1', enc_cells (t := .node l r) rfl, notNil_ip, chk_true, fldA_ip, drop4, drop5, loadS_ip, takeO_one, bindO_ok, T.left, T.right, e1, e2, apart_kept, apart_kept2, Bool.and_self, oneOf_one, frz_enc]
    · rw [L.text, J.text]; simp [T.text]
    · simp only [T.depth]; omega
    · simp only [T.depth]
      by_cases k : l.depth ≤ j.depth + 1 ∧ j.depth ≤ l.depth + 1
      · have := hd k.1 k.2; omega
      · omega
  have c1' : ¬ (a.depth : Int) > ((b.depth + 1 : Nat) : Int) := by omega
  by_cases c3 : b.depth > a.depth + 1
  · have c3' : (b.depth : Int) > ((a.depth + 1 : Nat) : Int) := by omega
    obtain ⟨l, r, rfl⟩ : ∃ l r, b = .node l r := ⟨_, _, node_of (by omega)⟩
    obtain ⟨hl, hr, wl, wrr, b1, b2⟩ := wb
    have sr := size_pos wrr hr
    simp only [T.size] at hn
    obtain ⟨j, hj, J⟩ := ih (a.size + l.size) (by omega) a l wa wl (Nat.le_refl _) (by omega)
    have jl := J.lo
    have jh := J.hi
    have js := J.size
    have pr := depth_pos hl
    have pj : j.isNil = false := isNil_depth (by omega)
    simp only [T.depth] at c3 c3' c1 c1'
    obtain ⟨t, ht, L, hd⟩ := level_ok pj hr J.wf wrr (by omega) (by omega) (by omega)
    have e1 := fun {β : Type} (st : St) (K : Kv β) => call_two st K rfl hj
    have e2 := fun {β : Type} (st : St) (K : Kv β) => call_two st K rfl ht
    have ll := L.lo
    have lh := L.hi
    refine ⟨t, bare_of rfl ((g54_eq _ _).trans ?_), ⟨L.wf, ?_, ?_, ?_⟩⟩
    · simp only [g54, call_of, kn, unA_agg, unc_cons, asI_int, un0_nil, letSt_eq, h0, Vm.h1, st_one, st_two, ld_00, ld_01, ld_02, ld_10, ld_11, ld_12, letV_eq, wr1, wr2, ifB_decide, T.nil_enc, ha, hb, ifB_false, ifB_beq, wr3, asB_bool, hcond]
      simp only [T.depth] at *
      simp only [if_neg c1', if_pos c3', enc_cells (t := .node l r) rfl, notNil_ip, chk_true, fldA_ip, drop4, drop5, loadS_ip, takeO_one, bindO_ok, T.left, T.right, e1, e2, apart_kept, apart_kept2, Bool.and_self, oneOf_one, frz_enc]
    · rw [L.text, J.text]; simp [T.text]
    · simp only [T.depth]; omega
    · simp only [T.depth]
      by_cases k : j.depth ≤ r.depth + 1 ∧ r.depth ≤ j.depth + 1
      · have := hd k.1 k.2; omega
      · omega
  · have c3' : ¬ (b.depth : Int) > ((a.depth + 1 : Nat) : Int) := by omega
    refine ⟨.node a b, bare_of rfl ((g54_eq _ _).trans ?_), joined_two ha hb wa wb (by omega) (by omega)⟩
    have e1 := fun {β : Type} (st : St) (K : Kv β) => call_two st K rfl (two_ok a b (by omega) (by omega))
    simp only [g54, call_of, kn, unA_agg, unc_cons, asI_int, un0_nil, letSt_eq, h0, Vm.h1, st_one, st_two, ld_00, ld_01, ld_02, ld_10, ld_11, ld_12, letV_eq, wr1, wr2, ifB_decide, T.nil_enc, ha, hb, ifB_false, ifB_beq, wr3, asB_bool, hcond, if_neg c1', if_neg c3', e1, oneOf_one, frz_enc]
open T
theorem partT_ok (s : List UInt8) : WF (partT s) ∧ (partT s).text = s ∧ (partT s).depth ≤ 1 := by
  unfold partT
  split
  · rename_i h; subst h; exact ⟨trivial, rfl, by simp [T.depth]⟩
  · rename_i h; exact ⟨h, rfl, Nat.le_refl _⟩
theorem half (n : Nat) (h : n ≤ 100000000) : IntKind.wrap .i64 (Int.tdiv (n : Int) 2) = ((n / 2 : Nat) : Int) := by
  rw [show Int.tdiv (n : Int) 2 = ((n / 2 : Nat) : Int) from rfl]
  exact wrapN (by omega)
theorem grown_ok (n : Nat) : ∀ (s : List UInt8), s.length ≤ n → n ≤ 100000000 → ∃ t, (orc vE).bare 43 [.str s] = some t.enc ∧ WF t ∧ t.text = s := by
  induction n using Nat.strongRecOn with
  | _ n ih =>
  intro s hn hs
  by_cases c : s.length ≤ 128
  · have c' : (s.length : Int) ≤ 128 := by omega
    refine ⟨partT s, bare_of rfl ((g43_eq _).trans ?_), (partT_ok s).1, (partT_ok s).2.1⟩
    simp only [g43, asS_str, ifB_decide, if_pos c', call_part, oneOf_one, frz_enc]
  · have c' : ¬ (s.length : Int) ≤ 128 := by omega
    have hk : s.length / 2 ≤ s.length := by omega
    have l1 : (s.take (s.length / 2)).length = s.length / 2 := by rw [List.length_take]; omega
    have l2 : (s.drop (s.length / 2)).length = s.length - s.length / 2 := List.length_drop
    obtain ⟨a, ha, wa, ta⟩ := ih (s.length / 2) (by omega) (s.take (s.length / 2)) (by omega) (by omega)
    obtain ⟨b, hb, wb, tb⟩ := ih (s.length - s.length / 2) (by omega) (s.drop (s.length / 2)) (by omega) (by omega)
    have sa : a.size = s.length / 2 := by rw [← size_text, ta, l1]
    have sb : b.size = s.length - s.length / 2 := by rw [← size_text, tb, l2]
    obtain ⟨t, ht, J⟩ := join_ok n a b wa wb (by omega) hs
    have e1 : ∀ {β : Type} (st : St) (K : Kv β), callS (orc vE) 43 [.str (s.take (s.length / 2))] st K = K a.enc st q0 := fun st K => callS_bare st K rfl rfl rfl ha
    have e2 : ∀ {β : Type} (st : St) (K : Kv β), callS (orc vE) 43 [.str (s.drop (s.length / 2))] st K = K b.enc st q0 := fun st K => callS_bare st K rfl rfl rfl hb
    have e3 := fun {β : Type} (st : St) (K : Kv β) => call_two st K rfl ht
    refine ⟨t, bare_of rfl ((g43_eq _).trans ?_), J.wf, by rw [J.text, ta, tb, List.take_append_drop]⟩
    simp only [g43, asS_str, ifB_decide, if_neg c', half _ (show s.length ≤ 100000000 by omega), letV_eq, uptoS_nat hk, List.drop_zero, List.take_length, e1, e2, apart_kept, apart_kept2, Bool.and_self, chk_true, e3, oneOf_one, frz_enc]
theorem split_ok : ∀ (t : T) (n : Nat), WF t → n ≤ t.size → t.size ≤ 100000000 → ∃ a b, (orc vE).bare 60 [t.enc, .int .i64 (n : Int)] = some (.tup [a.enc, b.enc]) ∧ WF a ∧ WF b ∧ a.text = t.text.take n ∧ b.text = t.text.drop n
  | .nil, n, _, _, _ => ⟨.nil, .nil, bare_of rfl ((g60_eq _ _).trans rfl), trivial, trivial, by simp [T.text], by simp [T.text]⟩
  | .leaf s, n, w, hn, _ => by
    have q : ((T.leaf s).depth : Int) = 1 := rfl
    have hn' : n ≤ s.length := hn
    refine ⟨partT (s.take n), partT (s.drop n), bare_of rfl ((g60_eq _ _).trans ?_), (partT_ok _).1, (partT_ok _).1, (partT_ok _).2.1, (partT_ok _).2.1⟩
    simp only [g60, asI_int, T.nil_enc, T.isNil, ifB_false]
    simp only [enc_cells (t := .leaf s) rfl, notNil_ip, chk_true, fldA_ip, List.drop_zero, drop2, drop3, drop4, drop5, loadS_ip, takeO_one, bindO_ok, T.left, T.right, call_of, kn, unA_agg, unc_cons, asI_int, un0_nil, apart_kept, apart_kept2, Bool.and_self, ifB_decide, oneOf_one, frz_enc, ifB_beq, if_pos q, asS_str, T.own, uptoS_nat hn', letV_eq, call_part, List.take_length, frz_two]
  | .node l r, n, w, hn, hs => by
    obtain ⟨hl, hr, wl, wrr, b1, b2⟩ := w
    have pl := depth_pos hl
    have q : ¬ ((T.node l r).depth : Int) = 1 := by simp only [T.depth]; omega
    simp only [T.size] at hn hs
    by_cases c : n > l.size
    · have c' : (n : Int) > (l.size : Int) := by omega
      obtain ⟨a, b, hab, wa, wb, ta, tb⟩ := split_ok r (n - l.size) wrr (by omega) (by omega)
      have wr : IntKind.wrap .i64 ((n : Int) - (l.size : Int)) = ((n - l.size : Nat) : Int) := by rw [← wrapN (n := n - l.size) (by omega)]; congr 1; omega
      have sa : a.size = n - l.size := by rw [← size_text, ta, List.length_take, size_text]; omega
      obtain ⟨t, ht, J⟩ := join_ok 100000000 l a wl wa (by omega) (by omega)
      have e1 : ∀ {β : Type} (st : St) (K : Kv β), callS (orc vE) 60 [r.enc, .int .i64 ((n - l.size : Nat) : Int)] st K = K (.tup [a.enc, b.enc]) st q0 := fun st K => callS_bare st K rfl (by simp [strip_enc]; rfl) (by simp only [bares_cons, bare_enc]; rfl) hab
      have e2 := fun {β : Type} (st : St) (K : Kv β) => call_two st K rfl ht
      refine ⟨t, b, bare_of rfl ((g60_eq _ _).trans ?_), J.wf, wb, ?_, ?_⟩
      · simp only [g60, asI_int, T.nil_enc, T.isNil, ifB_false]
        simp only [enc_cells (t := .node l r) rfl, notNil_ip, chk_true, fldA_ip, List.drop_zero, drop2, drop3, drop4, drop5, loadS_ip, takeO_one, bindO_ok, T.left, T.right, call_of, kn, unA_agg, unc_cons, asI_int, un0_nil, apart_kept, apart_kept2, Bool.and_self, ifB_decide, oneOf_one, frz_enc, ifB_beq, if_neg q, if_pos c', letV_eq, wr, e1, e2, unT_tup, nthS_zero, nthS_one, frz_two]
      · rw [J.text, ta]
        simp only [T.text, List.take_append, size_text]
        rw [show l.text.take n = l.text from List.take_of_length_le (by rw [size_text]; omega)]
      · rw [tb]
        simp only [T.text, List.drop_append, size_text]
        rw [show l.text.drop n = [] from List.drop_of_length_le (by rw [size_text]; omega)]; rfl
    · have c' : ¬ (n : Int) > (l.size : Int) := by omega
      obtain ⟨a, b, hab, wa, wb, ta, tb⟩ := split_ok l n wl (by omega) (by omega)
      have sb : b.size = l.size - n := by rw [← size_text, tb, List.length_drop, size_text]
      obtain ⟨t, ht, J⟩ := join_ok 100000000 b r wb wrr (by omega) (by omega)
      have e1 : ∀ {β : Type} (st : St) (K : Kv β), callS (orc vE) 60 [l.enc, .int .i64 (n : Int)] st K = K (.tup [a.enc, b.enc]) st q0 := fun st K => callS_bare st K rfl (by simp [strip_enc]; rfl) (by simp only [bares_cons, bare_enc]; rfl) hab
      have e2 := fun {β : Type} (st : St) (K : Kv β) => call_two st K rfl ht
      refine ⟨a, t, bare_of rfl ((g60_eq _ _).trans ?_), wa, J.wf, ?_, ?_⟩
      · simp only [g60, asI_int, T.nil_enc, T.isNil, ifB_false]
        simp only [enc_cells (t := .node l r) rfl, notNil_ip, chk_true, fldA_ip, List.drop_zero, drop2, drop3, drop4, drop5, loadS_ip, takeO_one, bindO_ok, T.left, T.right, call_of, kn, unA_agg, unc_cons, asI_int, un0_nil, apart_kept, apart_kept2, Bool.and_self, ifB_decide, oneOf_one, frz_enc, ifB_beq, if_neg q, if_neg c', letV_eq, e1, e2, unT_tup, nthS_zero, nthS_one, frz_two]
      · rw [ta]
        simp only [T.text, List.take_append, size_text]
        rw [show n - l.size = 0 by omega]; simp
      · rw [J.text, tb]
        simp only [T.text, List.drop_append, size_text]
        rw [show n - l.size = 0 by omega]; simp
theorem write_ok : ∀ (t : T) (st : St) (p : Nat) (out : List UInt8), IsB st 137 5 p [] [] out → out.length + t.size ≤ 1000000000 →
    ∃ st', (orc vE).wide 65 [t.enc, .mp p 0] st = some (.tup [], st') ∧ IsB st' 137 5 p [] [] (out ++ t.text)
  | .nil, st, p, out, h, _ => ⟨st, wide_of ((w65_eq _ _ _).trans rfl), by simpa [T.text] using h⟩
  | t, st, p, out, h, hl => by
    have hro : st.ro ≤ st.h := by
      obtain ⟨a0, a1, g, _, _, hr⟩ := h
      exact Nat.le_trans hr (Nat.le_of_lt (St.get_ok.1 g).1)
    have wr : ∀ (s : List UInt8) (st : St) (out : List UInt8), IsB st 137 5 p [] [] out → out.length + s.length ≤ 1000000000 → ∃ st', IsB st' 137 5 p [] [] (out ++ s) ∧ ∃ v fx, ∀ {β : Type} (K : Kv β), callS (orc vE) 75 [.mp p 0, .str s] st K = K v st' fx := by
      intro s st out h hl
      have hro : st.ro ≤ st.h := by
        obtain ⟨a0, a1, g, _, _, hr⟩ := h
        exact Nat.le_trans hr (Nat.le_of_lt (St.get_ok.1 g).1)
      obtain ⟨st', e, hB, _⟩ := bWrite_ok (O := orc vE) (L := [(136, 2, 0), (137, 2, 0)]) (s := s) h rfl (by omega) hro
      have e : w75 (.mp p 0) (.str s) st = _ := e
      exact ⟨st', hB, _, _, fun K => callS_wide K rfl rfl (wide_of ((w75_eq _ _ _).trans e))⟩
    match t, hl with
    | .nil, _ => exact ⟨st, wide_of ((w65_eq _ _ _).trans rfl), by simpa [T.text] using h⟩
    | .leaf s, hl =>
      obtain ⟨st1, h1, v1, x1, e1⟩ := wr s st out h hl
      have en : ∀ {β : Type} (K : Kv β), callS (orc vE) 65 [.nilp, .mp p 0] st1 K = K (.tup []) st1 ⟨[], .all st1 st1⟩ := fun K => callS_wide K rfl rfl (wide_of ((w65_eq _ _ _).trans rfl))
      refine ⟨st1, wide_of ((w65_eq _ _ _).trans ?_), h1⟩
      simp only [w65, T.nil_enc, T.isNil, ifB_false]
      simp only [enc_cells (t := .leaf s) rfl, notNil_ip, chk_true, fldA_ip, List.drop_zero, drop2, drop3, drop4, drop5, loadS_ip, takeO_one, bindO_ok, T.left, T.right, call_of, kn, unA_agg, unc_cons, asI_int, un0_nil, apart_kept, apart_kept2, Bool.and_self, ifB_decide, oneOf_one, frz_enc, asS_str, T.own, e1, T.enc, en]
    | .node l r, hl =>
      simp only [T.size] at hl
      obtain ⟨st1, h1, v1, x1, e1⟩ := wr [] st out h (by simp; omega)
      rw [List.append_nil] at h1
      obtain ⟨st2, e2, h2⟩ := write_ok l st1 p out h1 (by omega)
      obtain ⟨st3, e3, h3⟩ := write_ok r st2 p (out ++ l.text) h2 (by rw [List.length_append, size_text]; omega)
      have c2 : ∀ {β : Type} (K : Kv β), callS (orc vE) 65 [l.enc, .mp p 0] st1 K = K (.tup []) st2 ⟨[], .all st1 st2⟩ := fun K => callS_wide K rfl (by simp only [List.map_cons, List.map_nil, strip_enc, bares_cons, bare_enc]; rfl) e2
      have c3 : ∀ {β : Type} (K : Kv β), callS (orc vE) 65 [r.enc, .mp p 0] st2 K = K (.tup []) st3 ⟨[], .all st2 st3⟩ := fun K => callS_wide K rfl (by simp only [List.map_cons, List.map_nil, strip_enc, bares_cons, bare_enc]; rfl) e3
      refine ⟨st3, wide_of ((w65_eq _ _ _).trans ?_), by simpa [T.text] using h3⟩
      simp only [w65, T.nil_enc, T.isNil, ifB_false]
      simp only [enc_cells (t := .node l r) rfl, notNil_ip, chk_true, fldA_ip, List.drop_zero, drop2, drop3, drop4, drop5, loadS_ip, takeO_one, bindO_ok, T.left, T.right, call_of, kn, unA_agg, unc_cons, asI_int, un0_nil, apart_kept, apart_kept2, Bool.and_self, ifB_decide, oneOf_one, frz_enc, asS_str, T.own, e1, c2, c3]
theorem text_ok (t : T) (hs : t.size ≤ 100000000) : (orc vE).bare 52 [t.enc] = some (.str t.text) := by
  refine bare_of rfl ((g52_eq _).trans ?_)
  have h0 : IsB (St.mk 1 0 (Tr.node (some (VM.Obj.cells 137 [AV.nilp, AV.nils])) Tr.leaf Tr.leaf)) 137 5 0 [] [] [] := ⟨.nilp, .nils, rfl, .inl rfl, .inl ⟨rfl, rfl⟩, Nat.le_refl _⟩
  obtain ⟨st', e, hB⟩ := write_ok t _ 0 [] h0 (by simp; omega)
  rw [List.nil_append] at hB
  have c1 : ∀ {β : Type} (K : Kv β), callS (orc vE) 65 [t.enc, .mp 0 0] (St.mk 1 0 (Tr.node (some (VM.Obj.cells 137 [AV.nilp, AV.nils])) Tr.leaf Tr.leaf)) K = K (.tup []) st' ⟨[], .all _ st'⟩ := fun K => callS_wide K rfl (by simp only [List.map_cons, List.map_nil, strip_enc, bares_cons, bare_enc]; rfl) e
  obtain ⟨fx, e2⟩ := bstring_ok (O := orc vE) hB (by rw [size_text]; omega) (fun v3 _ _ => asS v3 fun l6 => some (AV.str l6))
  rw [g52, c1]
  exact e2
open T
def rp (t : T) : AV := .ip [t.enc]
def spV (x y : Int) : AV := .agg [.int .i64 x, .int .i64 y]
theorem known_ok (t : T) : (orc vE).bare 56 [rp t] = some (kn t) := by
  refine bare_of rfl ((g56_eq _).trans ?_)
  show (chk (notNil (rp t)) _) = _
  simp only [rp, notNil_ip, chk_true, fldA_ip, List.drop_zero, loadS_ip, takeO_one, bindO_ok, call_of, kn, unA_agg, unc_cons, asI_int, un0_nil]
  rfl
theorem call_rp {β : Type} {f : FuncId} {t : T} {r : AV} (st : St) (K : Kv β) (hf : vE.full f = false) (h : (orc vE).bare f [rp t] = some r) : callS (orc vE) f [rp t] st K = K r st q0 := callS_bare st K hf rfl rfl h
theorem call_known {β : Type} (t : T) (st : St) (K : Kv β) : callS (orc vE) 56 [rp t] st K = K (kn t) st q0 := call_rp st K rfl (known_ok t)
theorem len_ok (t : T) : (orc vE).bare 45 [rp t] = some (.int .i64 (t.size : Int)) := by
  refine bare_of rfl ((g45_eq _).trans ?_)
  simp only [g45, call_known, kn, unA_agg, unc_cons, asI_int, un0_nil]
theorem call_len {β : Type} (t : T) (st : St) (K : Kv β) : callS (orc vE) 45 [rp t] st K = K (.int .i64 (t.size : Int)) st q0 := call_rp st K rfl (len_ok t)
theorem call_text {β : Type} {t : T} (hs : t.size ≤ 100000000) (st : St) (K : Kv β) : callS (orc vE) 52 [t.enc] st K = K (.str t.text) st q0 := call_bare1 st K rfl (text_ok t hs)
theorem nil_rp {β : Type} (t : T) (k : TypeId) (K : Bool → Option β) : nilS (.ptr k) (rp t) .nilp K = K false := rfl
theorem string_ok {t : T} (hs : t.size ≤ 100000000) : (orc vE).bare 40 [rp t] = some (.str t.text) := by
  refine bare_of rfl ((g40_eq _).trans ?_)
  simp only [g40, nil_rp, ifB_false]
  simp only [rp, notNil_ip, chk_true, fldA_ip, List.drop_zero, loadS_ip, takeO_one, bindO_ok, call_text hs, asS_str]
theorem call_string {β : Type} {t : T} (hs : t.size ≤ 100000000) (st : St) (K : Kv β) : callS (orc vE) 40 [rp t] st K = K (.str t.text) st q0 := call_rp st K rfl (string_ok hs)
def isS (n : Nat) (x y : Int) : Bool := decide (0 ≤ x ∧ x ≤ y ∧ y ≤ (n : Int))
theorem check_ok (t : T) (x y : Int) : (orc vE).bare 59 [rp t, spV x y] = some (.int .i64 (if isS t.size x y then 0 else 1)) := by
  refine bare_of rfl ((g59_eq _ _).trans ?_)
  simp only [g59, spV, unA_agg, unc_cons, asI_int, un0_nil, nil_rp, ifB_false, ifB_decide, call_len, apart_kept, apart_kept2, Bool.and_self, chk_true]
  by_cases h1 : x < 0
  · rw [if_pos h1]; simp [isS, show ¬ 0 ≤ x by omega]
  · rw [if_neg h1]
    by_cases h2 : y < x
    · rw [if_pos h2]; simp [isS, show ¬ x ≤ y by omega]
    · rw [if_neg h2]
      by_cases h3 : y > (t.size : Int)
      · simp [isS, h3, show ¬ y ≤ (t.size : Int) by omega]
      · simp [isS, h3, show y ≤ (t.size : Int) by omega, show 0 ≤ x by omega, show x ≤ y by omega]
theorem call_check {β : Type} (t : T) (x y : Int) (st : St) (K : Kv β) : callS (orc vE) 59 [rp t, .agg [.int .i64 x, .int .i64 y]] st K = K (.int .i64 (if isS t.size x y then 0 else 1)) st q0 := callS_bare st K rfl rfl rfl (check_ok t x y)
theorem call_split {β : Type} {t a b : T} {n : Nat} (h : (orc vE).bare 60 [t.enc, .int .i64 (n : Int)] = some (.tup [a.enc, b.enc])) (st : St) (K : Kv β) : callS (orc vE) 60 [t.enc, .int .i64 (n : Int)] st K = K (.tup [a.enc, b.enc]) st q0 :=
  callS_bare st K rfl (by simp [strip_enc]; rfl) (by simp only [bares_cons, bare_enc]; rfl) h
theorem isS_nat {n : Nat} {x y : Int} (h : isS n x y = true) : ∃ i j : Nat, x = i ∧ y = j ∧ i ≤ j ∧ j ≤ n := by
  simp only [isS, decide_eq_true_eq] at h
  exact ⟨x.toNat, y.toNat, by omega, by omega, by omega, by omega⟩
def putT (s : List UInt8) (x y : Int) (r : List UInt8) : List UInt8 := s.take x.toNat ++ r ++ s.drop y.toNat
def roomT (n : Nat) (x y : Int) (k : Nat) : Bool := decide ((n : Int) - (y - x) + k ≤ 65536)
section
variable {t : T} {x y : Int} {s : List UInt8}
theorem rwraps (hs : t.size ≤ 1000000) (h : isS t.size x y = true) : IntKind.wrap .i64 (y - x) = y - x ∧ IntKind.wrap .i64 ((t.size : Int) - (y - x)) = (t.size : Int) - (y - x) ∧ IntKind.wrap .i64 (65536 - ((t.size : Int) - (y - x))) = 65536 - ((t.size : Int) - (y - x)) := by
  simp only [isS, decide_eq_true_eq] at h
  exact ⟨wrap_i64 (by omega) (by omega), wrap_i64 (by omega) (by omega), wrap_i64 (by omega) (by omega)⟩
theorem replace_large (hs : t.size ≤ 1000000) (h : isS t.size x y = true) (hr : roomT t.size x y s.length = false) : (orc vE).bare 48 [rp t, spV x y, .str s] = some (.tup [.nilp, .int .i64 40]) := by
  refine bare_of rfl ((g48_eq _ _ _).trans ?_)
  obtain ⟨w1, w2, w3⟩ := rwraps hs h
  have c : (s.length : Int) > 65536 - ((t.size : Int) - (y - x)) := by
    simp only [roomT, decide_eq_false_iff_not] at hr; omega
  simp only [g48, spV, unA_agg, unc_cons, asI_int, un0_nil, asS_str, call_check, h, if_true, ifB_bne, call_len, apart_kept, apart_kept2, Bool.and_self, chk_true, letV_eq, w1, w2, w3, ifB_decide, if_pos c]
theorem replace_yes (w : WF t) (hs : t.size ≤ 1000000) (h : isS t.size x y = true) (hr : roomT t.size x y s.length = true) :
    ∃ u, (orc vE).bare 48 [rp t, spV x y, .str s] = some (.tup [rp u, .int .i64 0]) ∧ WF u ∧ u.text = putT t.text x y s ∧ u.size ≤ 65536 := by
  obtain ⟨w1, w2, w3⟩ := rwraps hs h
  have c : ¬ (s.length : Int) > 65536 - ((t.size : Int) - (y - x)) := by
    simp only [roomT, decide_eq_true_eq] at hr; omega
  obtain ⟨i, j, rfl, rfl, h1, h2⟩ := isS_nat h
  obtain ⟨a, b, e1, wa, wb, ta, tb⟩ := split_ok t i w (by omega) (by omega)
  have sa : a.size = i := by rw [← size_text, ta, List.length_take, size_text]; omega
  have sb : b.size = t.size - i := by rw [← size_text, tb, List.length_drop, size_text]
  obtain ⟨p, d, e2, wp, wd, tp, td⟩ := split_ok b (j - i) wb (by omega) (by omega)
  have sd : d.size = t.size - j := by rw [← size_text, td, List.length_drop, size_text]; omega
  obtain ⟨g, e3, wg, tg⟩ := grown_ok 1000000 s (by simp only [roomT, decide_eq_true_eq] at hr; omega) (by omega)
  have sg : g.size = s.length := by rw [← size_text, tg]
  simp only [roomT, decide_eq_true_eq] at hr
  obtain ⟨m, e4, J⟩ := join_ok 100000000 a g wa wg (by omega) (by omega)
  have sm := J.size
  obtain ⟨u, e5, J2⟩ := join_ok 100000000 m d J.wf wd (by omega) (by omega)
  have su := J2.size
  have e3' : ∀ {β : Type} (st : St) (K : Kv β), callS (orc vE) 43 [.str s] st K = K g.enc st q0 := fun st K => callS_bare st K rfl rfl rfl e3
  have e4' := fun {β : Type} (st : St) (K : Kv β) => call_two st K rfl e4
  have e5' := fun {β : Type} (st : St) (K : Kv β) => call_two st K rfl e5
  have wr : ((j : Int) - (i : Int)) = ((j - i : Nat) : Int) := by omega
  refine ⟨u, bare_of rfl ((g48_eq _ _ _).trans ?_), J2.wf, ?_, by omega⟩
  · simp only [g48, spV, unA_agg, unc_cons, asI_int, un0_nil, asS_str, call_check, h, if_true, ifB_bne, call_len, apart_kept, apart_kept2, Bool.and_self, chk_true, letV_eq, w1, w2, w3, ifB_decide, if_neg c]
    simp only [rp, notNil_ip, chk_true, fldA_ip, List.drop_zero, loadS_ip, takeO_one, bindO_ok, call_split e1, unT_tup, nthS_zero, nthS_one, letV_eq, wr, call_split e2, e3', e4', e5', asOne_enc, fit1_enc]
  · rw [J2.text, J.text, ta, tg, td, tb, putT, List.drop_drop]
    simp only [Int.toNat_natCast]
    rw [show i + (j - i) = j by omega]
end
theorem of_large {s : List UInt8} (h : 65536 < s.length) : (orc vE).bare 28 [.str s] = some (.tup [.nilp, .int .i64 40]) := by
  refine bare_of rfl ((g28_eq _).trans ?_)
  have c : (s.length : Int) > 65536 := by omega
  simp only [g28, asS_str, ifB_decide, if_pos c]
theorem rof_ok {s : List UInt8} (h : s.length ≤ 65536) : ∃ t, (orc vE).bare 28 [.str s] = some (.tup [rp t, .int .i64 0]) ∧ WF t ∧ t.text = s := by
  have c : ¬ (s.length : Int) > 65536 := by omega
  obtain ⟨t, e, w, tt⟩ := grown_ok 1000000 s (by omega) (by omega)
  have e' : ∀ {β : Type} (st : St) (K : Kv β), callS (orc vE) 43 [.str s] st K = K t.enc st q0 := fun st K => callS_bare st K rfl rfl rfl e
  refine ⟨t, bare_of rfl ((g28_eq _).trans ?_), w, tt⟩
  simp only [g28, asS_str, ifB_decide, if_neg c, e', asOne_enc, fit1_enc, rp]
end Go.Proofs.YtkknkhniadiapaaDoor.Vm
namespace Go.Proofs.YtkknkhniadiapaaDoor.Vm
open Go Go.VM Go.Proofs Go.Store Go.Lib T
theorem units_ok (r : Nat) : (orc vE).bare 72 [.int .i32 (r : Int)] = some (.int .i64 (unitsN r : Int)) := by
  refine bare_of rfl ((g72_eq _).trans ?_)
  unfold unitsN
  by_cases h : 65535 < r
  · have q : (r : Int) > 65535 := by omega
    simp only [g72, asI_int, ifB_decide, if_pos q, if_pos h]; rfl
  · have q : ¬ (r : Int) > 65535 := by omega
    simp only [g72, asI_int, ifB_decide, if_neg q, if_neg h]; rfl
theorem call_units {β : Type} (r : Nat) (st : St) (K : Kv β) : callS (orc vE) 72 [.int .i32 (r : Int)] st K = K (.int .i64 (unitsN r : Int)) st q0 := callS_bare st K rfl rfl rfl (units_ok r)
theorem unitsN_le (r : Nat) : unitsN r ≤ 2 := by unfold unitsN; split <;> omega
theorem off_loop (a b : Nat) (l : B) (c : Nat) (cr : Car) (s34 : St) (hc : Prod.snd cr = St.mk 0 0 Tr.leaf) (h34 : s34.h = 1) (ha : a ≤ 1000000) (hl : l.length ≤ 1000000) : ∀ (n i u : Nat) (st : St), l.length < n + i → i ≤ l.length → u ≤ 2 * i → st.ro = 0 → st.get 0 = .ok (.cells 98 [.int .i64 (a : Int), .int .i64 (b : Int)]) → st.get 1 = .ok (.sit l i) →
    ∃ (r : Nat) (x u' : Nat) (st' : St), loopO (g58_L1 (c : Int) cr s34) ([.int .i64 0, .int .i64 0, .int .i64 (u : Int)], st) = some (r, [.int .i64 (x : Int), .int .i64 0, .int .i64 (u' : Int)], st') ∧ st'.get 0 = .ok (.cells 98 [.int .i64 (a : Int), .int .i64 (b : Int)]) ∧
      (match offF n l i u c with | none => r = 0 ∧ u' ≠ c | some k => (r = 1 ∧ x = a + k) ∨ (r = 0 ∧ u' = c ∧ k = l.length))
  | 0, i, u, st, hn, hi, hu, hr, h0, h1 => by omega
  | n + 1, i, u, st, hn, hi, hu, hr, h0, h1 => by
    unfold offF
    have hl0 : ∀ {β : Type} (K : Kv β), St.h (Prod.snd cr) = 0 := fun _ => by rw [hc]
    by_cases hlt : i < l.length
    · rw [if_pos hlt]
      have hne : l.drop i ≠ [] := by
        intro e
        have := congrArg List.length e
        rw [List.length_drop] at this
        simp at this; omega
      have hw := decodeL_w (l.drop i)
      have hw2 := decodeL_le hne
      rw [List.length_drop] at hw2
      generalize hd : decodeL (l.drop i) = dd at hw hw2
      obtain ⟨ch, w⟩ := dd
      have nx : ∀ {β : Type} (K : Kv β), planS (orc vE) (nextP (.mp s34.h 0)) st K = K (.tup [.bool true, .int .i64 (i : Int), .int .i32 (ch : Int)]) (st.put 1 (.sit l (i + w))) ⟨[1], .wrote 1 (.sit l (i + w))⟩ := fun K => by
        rw [h34, next_some h1 (by rw [hr]; omega) hlt, hd]
      have hp : Keeps st (st.put 1 (.sit l (i + w))) (· = 1) := Keeps.put rfl
      have g0 := hp.of_ne (by decide) h0
      have g1 : (st.put 1 (.sit l (i + w))).get 1 = .ok (.sit l (i + w)) := St.get_put_same (St.get_ok.1 h1).1
      by_cases hcu : c ≤ u
      · rw [if_pos hcu]
        have q1 : (u : Int) ≥ (c : Int) := by omega
        by_cases hcu2 : c < u
        · rw [if_pos hcu2]
          have q2 : (u : Int) > (c : Int) := by omega
          refine ⟨0, 0, u, st.put 1 (.sit l (i + w)), loopO_inr ?_, g0, rfl, by omega⟩
          simp only [g58_L1, unc_cons, asI_int, un0_nil, nx, unT_tup, nthS_zero, nthS_one, nthS_two, asB_bool, ifB_true, ifB_decide, if_pos q1, if_pos q2]
          rfl
        · rw [if_neg hcu2]
          have q2 : ¬ (u : Int) > (c : Int) := by omega
          have ld : ∀ {β : Type} (K : AV → List Nat → Option β), loadS 1 false (.mp (St.h (Prod.snd cr)) 0) (st.put 1 (.sit l (i + w))) K = K (.int .i64 (a : Int)) [0] := fun K => by
            rw [hl0 (β := AV) fun _ _ _ => none, loadS_mp g0]; rfl
          have wr : IntKind.wrap .i64 ((a : Int) + (i : Int)) = ((a + i : Nat) : Int) := wrapA (by omega)
          refine ⟨1, a + i, u, st.put 1 (.sit l (i + w)), loopO_inr ?_, g0, .inl ⟨rfl, rfl⟩⟩
          simp only [g58_L1, unc_cons, asI_int, un0_nil, nx, unT_tup, nthS_zero, nthS_one, nthS_two, asB_bool, ifB_true, ifB_decide, if_pos q1, if_neg q2, ld, letV_eq, wr]
      · rw [if_neg hcu]
        have q1 : ¬ (u : Int) ≥ (c : Int) := by omega
        have hun := unitsN_le ch
        have wr : IntKind.wrap .i64 ((u : Int) + (unitsN ch : Int)) = ((u + unitsN ch : Nat) : Int) := wrapA (by omega)
        obtain ⟨r, x, u', st', e, h2, h3⟩ := off_loop a b l c cr s34 hc h34 ha hl n (i + w) (u + unitsN ch) (st.put 1 (.sit l (i + w))) (by simp only at hw; omega) (by simp only at hw2; omega) (by simp only at hw; omega) hr g0 g1
        refine ⟨r, x, u', st', (loopO_inl ?_).trans e, h2, ?_⟩
        · simp only [g58_L1, unc_cons, asI_int, un0_nil, nx, unT_tup, nthS_zero, nthS_one, nthS_two, asB_bool, ifB_true, ifB_decide, if_neg q1, call_units, letV_eq, wr]
        · exact h3
    · rw [if_neg hlt]
      have nx : ∀ {β : Type} (K : Kv β), planS (orc vE) (nextP (.mp s34.h 0)) st K = K (.tup [.bool false]) st ⟨[1], .kept⟩ := fun K => by
        rw [h34, next_none h1 (by omega)]
      refine ⟨0, 0, u, st, loopO_inr ?_, h0, ?_⟩
      · simp only [g58_L1, unc_cons, asI_int, un0_nil, nx, unT_tup, nthS_zero, asB_bool, ifB_false]
        rfl
      · by_cases h : u = c
        · rw [if_pos h]; exact .inr ⟨rfl, h, rfl⟩
        · rw [if_neg h]; exact ⟨rfl, h⟩
theorem nil_ip {β : Type} (cs : List AV) (k : TypeId) (K : Bool → Option β) : nilS (.ptr k) (.ip cs) .nilp K = K false := rfl
theorem offset_ok {s : B} {x : AV} (hs : s.length ≤ 65536) (hx : IsIdx s x) (line char : Int) : (orc vE).bare 58 [x, .agg [.int .i64 line, .int .i64 char]] = some (match offT s line char with | none => .tup [.int .i64 0, .int .i64 60] | some k => .tup [.int .i64 (k : Int), .int .i64 0]) := by
  obtain ⟨v, hv, rfl⟩ := hx
  refine bare_of rfl ((g58_eq _ _).trans ?_)
  have hlen : ((linesT s).map spn).length = (linesT s).length := List.length_map _
  unfold offT
  by_cases h1 : line < 0
  · rw [if_pos (.inl h1)]
    simp only [g58, unA_agg, unc_cons, asI_int, un0_nil, nil_ip, ifB_false, ifB_decide, if_pos h1, bindO_ok, asB_bool, ifB_true]
  · by_cases h2 : ((linesT s).length : Int) ≤ line
    · rw [if_pos (.inr (.inl h2))]
      have q2 : line ≥ ((linesT s).length : Int) := h2
      simp only [g58, unA_agg, unc_cons, asI_int, un0_nil, nil_ip, ifB_false, ifB_decide, if_neg h1, notNil_ip, chk_true, fldA_ip, drop1, loadS_ip, takeO_one, bindO_ok, hv.len, hlen, if_pos q2, asB_bool, ifB_true]
    · have q2 : ¬ line ≥ ((linesT s).length : Int) := h2
      by_cases h3 : char < 0
      · rw [if_pos (.inr (.inr h3))]
        have q3 : decide (char < 0) = true := decide_eq_true h3
        simp only [g58, unA_agg, unc_cons, asI_int, un0_nil, nil_ip, ifB_false, ifB_decide, if_neg h1, notNil_ip, chk_true, fldA_ip, drop1, loadS_ip, takeO_one, bindO_ok, hv.len, hlen, if_neg q2, q3, asB_bool, ifB_true]
      · rw [if_neg (by rintro (h | h | h); exact h1 h; exact h2 h; exact h3 h)]
        obtain ⟨ln, rfl⟩ : ∃ n : Nat, line = (n : Int) := ⟨line.toNat, by omega⟩
        obtain ⟨ch, rfl⟩ : ∃ n : Nat, char = (n : Int) := ⟨char.toNat, by omega⟩
        have hlt : ln < (linesT s).length := by omega
        have hg : (linesT s)[ln]? = some (linesT s)[ln] := List.getElem?_eq_getElem hlt
        have q3 : decide ((ch : Int) < 0) = false := decide_eq_false h3
        simp only [Int.toNat_natCast]
        rw [hg]
        obtain ⟨ha, hb⟩ := linesT_in (List.mem_of_getElem? hg)
        generalize (linesT s)[ln] = p at hg ha hb
        obtain ⟨a, b⟩ := p
        simp only at ha hb
        have hg2 : ((linesT s).map spn)[ln]? = some (spn (a, b)) := by rw [List.getElem?_map, hg]; rfl
        have ix : ∀ {β : Type} (st : St) (K : AV → List Nat → Option β), idxA 2 v (ln : Int) st K = K (.ip [.int .i64 (a : Int), .int .i64 (b : Int)]) [] := fun st K => hv.idx hg2 st K
        obtain ⟨s1, g1, k1, n1, fx1, e1⟩ := local_var (O := orc vE) (st := St.mk 0 0 Tr.leaf) (t := 98) (z := 2) (old := [.int .i64 0, .int .i64 0]) (cs := [.int .i64 (a : Int), .int .i64 (b : Int)]) (.agg [.int .i64 (a : Int), .int .i64 (b : Int)]) rfl rfl (Nat.le_refl _)
        have hz : St.h (St.mk 0 0 Tr.leaf) = 0 := rfl
        rw [hz] at g1 e1 n1
        have l0 : ∀ {β : Type} (K : AV → List Nat → Option β), loadS 1 false (.mp 0 0) s1 K = K (.int .i64 (a : Int)) [0] := fun K => by rw [loadS_mp g1]; rfl
        have l1 : ∀ {β : Type} (K : AV → List Nat → Option β), loadS 1 false (.mp 0 1) s1 K = K (.int .i64 (b : Int)) [0] := fun K => by rw [loadS_mp g1]; rfl
        have tk : ∀ {β : Type} (K : AV → Option β), bindO (takeO 2 true [.int .i64 (a : Int), .int .i64 (b : Int)]) K = K (.agg [.int .i64 (a : Int), .int .i64 (b : Int)]) := fun K => rfl
        have hll : ((s.take b).drop a).length = b - a := by rw [List.length_drop, List.length_take]; omega
        have gs : (s1.add (.sit ((s.take b).drop a) 0)).get 1 = .ok (.sit ((s.take b).drop a) 0) := by
          have := St.get_add_new (st := s1) (o := .sit ((s.take b).drop a) 0)
          rwa [n1] at this
        obtain ⟨r, x, u, st', e, g0, hm⟩ := off_loop a b ((s.take b).drop a) ch ([.bool false], St.mk 0 0 Tr.leaf) s1 rfl n1 (by omega) (by omega) (b - a + 1) 0 0 (s1.add (.sit ((s.take b).drop a) 0)) (by omega) (Nat.zero_le _) (by omega) (by rw [St.add_ro, k1.ro]) (St.get_add_old g1) gs
        have e : loopO (g58_L1 (ch : Int) ([.bool false], St.mk 0 0 Tr.leaf) s1) ([.int .i64 0, .int .i64 0, .int .i64 0], s1.add (.sit ((s.take b).drop a) 0)) = _ := e
        simp only [g58, unA_agg, unc_cons, asI_int, un0_nil, nil_ip, ifB_false, ifB_decide, if_neg h1, notNil_ip, chk_true, fldA_ip, drop1, List.drop_zero, loadS_ip, takeO_one, bindO_ok, hv.len, hlen, if_neg q2, q3, asB_bool, ix, tk, letSt_eq, apart_made2, Bool.and_self, hz, e1, asS_str, l0, l1, uptoS_nat hb, uptoS_nat ha, letV_eq, e]
        cases ho : offF (b - a + 1) ((s.take b).drop a) 0 0 ch with
        | none =>
          rw [ho] at hm
          obtain ⟨rfl, hu⟩ := hm
          have q4 : ¬ (u : Int) = (ch : Int) := by omega
          simp only [sel2_zero, ifB_bne, if_neg q4, Option.map_none]
        | some k =>
          rw [ho] at hm
          rcases hm with ⟨rfl, rfl⟩ | ⟨rfl, rfl, rfl⟩
          · simp only [sel2_one, Option.map_some]
          · have l3 : ∀ {β : Type} (K : AV → List Nat → Option β), loadS 1 false (.mp 0 1) st' K = K (.int .i64 (b : Int)) [0] := fun K => by rw [loadS_mp g0]; rfl
            have : (a + (b - a) : Nat) = b := by omega
            simp only [sel2_zero, ifB_bne, if_true, l3, asI_int, Option.map_some, hll, this]
theorem call_offset {β : Type} {s : B} {x : AV} (hs : s.length ≤ 65536) (hx : IsIdx s x) (line char : Int) (st : St) (K : Kv β) : callS (orc vE) 58 [x, .agg [.int .i64 line, .int .i64 char]] st K = K (match offT s line char with | none => .tup [.int .i64 0, .int .i64 60] | some k => .tup [.int .i64 (k : Int), .int .i64 0]) st q0 := by
  obtain ⟨v, hv, rfl⟩ := hx
  exact callS_bare st K rfl rfl rfl (offset_ok hs ⟨v, hv, rfl⟩ line char)
theorem span_ok {s : B} {x : AV} (hs : s.length ≤ 65536) (hx : IsIdx s x) (l1 c1 l2 c2 : Int) : (orc vE).bare 47 [x, .agg [.int .i64 l1, .int .i64 c1, .int .i64 l2, .int .i64 c2]] = some (match spanT s l1 c1 l2 c2 with | none => .tup [.agg [.int .i64 0, .int .i64 0], .int .i64 60] | some (a, b) => .tup [.agg [.int .i64 (a : Int), .int .i64 (b : Int)], .int .i64 0]) := by
  refine bare_of rfl ((g47_eq _ _).trans ?_)
  generalize hs0 : (St.mk 1 0 (Tr.node (some (VM.Obj.cells 98 [AV.int .i64 0, AV.int .i64 0])) Tr.leaf Tr.leaf)) = s0
  have g0 : s0.get 0 = .ok (.cells 98 [.int .i64 0, .int .i64 0]) := by rw [← hs0]; rfl
  have hr : s0.ro ≤ 0 := by rw [← hs0]; exact Nat.le_refl _
  have put : ∀ (a b : Int), ∃ s1 fx, s1.get 0 = .ok (.cells 98 [.int .i64 a, .int .i64 b]) ∧ ∀ {β : Type} (K : Kv β), storeS (orc vE) 2 (.mp 0 0) (.agg [.int .i64 a, .int .i64 b]) [.int .i64 a, .int .i64 b] s0 K = K VM.undef s1 fx := fun a b => by
    obtain ⟨s1, g, _, _, fx, e⟩ := var_put (O := orc vE) (.agg [.int .i64 a, .int .i64 b]) g0 (z := 2) (cs := [.int .i64 a, .int .i64 b]) rfl rfl hr
    exact ⟨s1, fx, g, e⟩
  have ld : ∀ {s1 : St} {a b : Int}, s1.get 0 = .ok (.cells 98 [.int .i64 a, .int .i64 b]) → ∀ {β : Type} (K : AV → List Nat → Option β), loadS 2 true (.mp 0 0) s1 K = K (.agg [.int .i64 a, .int .i64 b]) [0] := fun g _ K => by rw [loadS_mp g]; rfl
  unfold spanT
  have co := fun {β : Type} (l c : Int) (st : St) (K : Kv β) => call_offset hs hx l c st K
  obtain ⟨sz, fz, gz, ez⟩ := put 0 0
  cases h1 : offT s l1 c1 with
  | none =>
    simp only [g47, unA_agg, unc_cons, asI_int, un0_nil, hs0, co, h1, unT_tup, nthS_zero, nthS_one, ifB_bne, show ¬ ((60 : Int) = 0) by decide, if_false, ez, ld gz]
  | some a =>
    cases h2 : offT s l2 c2 with
    | none =>
      simp only [g47, unA_agg, unc_cons, asI_int, un0_nil, hs0, co, h1, h2, unT_tup, nthS_zero, nthS_one, ifB_bne, show ¬ ((60 : Int) = 0) by decide, if_false, if_true, ez, ld gz]
    | some b =>
      by_cases hab : b < a
      · have q : (a : Int) > (b : Int) := by omega
        simp only [g47, unA_agg, unc_cons, asI_int, un0_nil, hs0, co, h1, h2, unT_tup, nthS_zero, nthS_one, ifB_bne, if_true, ifB_decide, if_pos q, if_pos hab, ez, ld gz]
      · have q : ¬ (a : Int) > (b : Int) := by omega
        obtain ⟨sy, fy, gy, ey⟩ := put a b
        simp only [g47, unA_agg, unc_cons, asI_int, un0_nil, hs0, co, h1, h2, unT_tup, nthS_zero, nthS_one, ifB_bne, if_true, ifB_decide, if_neg q, if_neg hab, ey, ld gy]
theorem call_valid {β : Type} {s : B} (hs : s.length ≤ 100000000) (st : St) (K : Kv β) : callS (orc vE) 29 [.str s] st K = K (.bool (validS s)) st q0 := by
  refine callS_bare st K rfl rfl rfl (bare_of rfl ((g29_eq _).trans ?_))
  simp only [g29, asS_str, planS_lib (libValid_ok (show s.length ≤ 9223372036854775807 by omega)), asB_bool]
def chgV (c : Chg) : AV := .agg [.bool c.whole, .int .i64 c.l1, .int .i64 c.c1, .int .i64 c.l2, .int .i64 c.c2, .str c.text]
def ChgR (s : B) (c : Chg) (r : AV) : Prop := match doneT s c with
  | .error e => e ≠ 0 ∧ r = .tup [.nilp, .int .i64 (e : Int)]
  | .ok u => ∃ t : T, WF t ∧ t.text = u ∧ r = .tup [rp t, .int .i64 0]
theorem fz_rp (t : T) : Fz 1 (rp t) := fz_ip _
theorem change_ok {t : T} (w : WF t) (hs : t.size ≤ 65536) (c : Chg) (hc : c.text.length ≤ 1000000) : ∃ r, (orc vE).bare 32 [rp t, chgV c] = some r ∧ ChgR t.text c r := by
  have hlen : t.text.length = t.size := size_text t
  generalize hs0 : (St.mk 0 0 Tr.leaf) = s0
  have hh : s0.h = 0 := by rw [← hs0]
  have hro : s0.ro = 0 := by rw [← hs0]
  obtain ⟨s1, g1, k1, n1, fx1, e1⟩ := local_var (O := orc vE) (st := s0) (t := 98) (z := 2) (old := [.int .i64 0, .int .i64 0]) (cs := [.int .i64 0, .int .i64 (t.size : Int)]) (.agg [.int .i64 0, .int .i64 (t.size : Int)]) rfl rfl (by rw [hro]; omega)
  rw [hh] at g1 e1
  have r1 : s1.ro ≤ 0 := by rw [k1.ro, hro]; exact Nat.le_refl _
  have ld : ∀ {s1 : St} {a b : Int}, s1.get 0 = .ok (.cells 98 [.int .i64 a, .int .i64 b]) → ∀ {β : Type} (K : AV → List Nat → Option β), loadS 2 true (.mp 0 0) s1 K = K (.agg [.int .i64 a, .int .i64 b]) [0] := fun g _ K => by rw [loadS_mp g]; rfl
  have put : ∀ (a b : Int), ∃ s2 fx, s2.get 0 = .ok (.cells 98 [.int .i64 a, .int .i64 b]) ∧ ∀ {β : Type} (K : Kv β), storeS (orc vE) 2 (.mp 0 0) (.agg [.int .i64 a, .int .i64 b]) [.int .i64 a, .int .i64 b] s1 K = K VM.undef s2 fx := fun a b => by
    obtain ⟨s2, g, _, _, fx, e⟩ := var_put (O := orc vE) (.agg [.int .i64 a, .int .i64 b]) g1 (z := 2) (cs := [.int .i64 a, .int .i64 b]) rfl rfl r1
    exact ⟨s2, fx, g, e⟩
  have cstr := fun {β : Type} (st : St) (K : Kv β) => call_string (t := t) (show t.size ≤ 100000000 by omega) st K
  have cvd := fun {β : Type} (st : St) (K : Kv β) => call_valid (s := c.text) (show c.text.length ≤ 100000000 by omega) st K
  have rest : ∀ (a b : Nat), a ≤ b → b ≤ t.text.length → ∀ (s2 : St), s2.get 0 = .ok (.cells 98 [.int .i64 (a : Int), .int .i64 (b : Int)]) →
      ∃ r, (∀ {β : Type} (K : AV → Option β), (callS (orc vE) 48 [rp t, AV.agg [AV.int .i64 (a : Int), AV.int .i64 (b : Int)], AV.str c.text] s2 fun v78 st79 _x => unT v78 fun l81 => nthS l81 0 fun v82 => unT v78 fun l83 => nthS l83 1 fun v84 => asI .i64 v84 fun n85 => ifB (n85 != 0)
 (K (AV.tup [AV.nilp, AV.int .i64 n85])) (callS (orc vE) 29 [AV.str c.text] st79 fun v86 st87 _x => asB v86 fun b89 => ifB (!b89) (K (AV.tup [AV.nilp, AV.int .i64 4])) (frzS st87 0 (AV.tup [v82, AV.int .i64 0]) fun
 v90 => K v90))) = K r) ∧ (match (if 65536 < t.text.length - (b - a) + c.text.length then Except.error 40 else if validS c.text = true then Except.ok (t.text.take a ++ c.text ++ t.text.drop b) else Except.error 4 : Except Nat B) with
        | .error e => e ≠ 0 ∧ r = .tup [.nilp, .int .i64 (e : Int)]
        | .ok u => ∃ t : T, WF t ∧ t.text = u ∧ r = .tup [rp t, .int .i64 0]) := by
    intro a b hab hb s2 g2
    have his : isS t.size (a : Int) (b : Int) = true := by
      simp only [isS, decide_eq_true_eq]; omega
    by_cases hbig : 65536 < t.text.length - (b - a) + c.text.length
    · rw [if_pos hbig]
      have hr : roomT t.size (a : Int) (b : Int) c.text.length = false := by
        simp only [roomT, decide_eq_false_iff_not]; omega
      have cr : ∀ {β : Type} (st : St) (K : Kv β), callS (orc vE) 48 [rp t, .agg [.int .i64 (a : Int), .int .i64 (b : Int)], .str c.text] st K = K (.tup [.nilp, .int .i64 40]) st q0 := fun st K => callS_bare st K rfl rfl rfl (replace_large (by omega) his hr)
      refine ⟨_, fun K => ?_, by decide, rfl⟩
      simp only [cr, unT_tup, nthS_zero, nthS_one, asI_int, ifB_bne, show ¬ ((40 : Int) = 0) by decide, if_false]
      rfl
    · rw [if_neg hbig]
      have hr : roomT t.size (a : Int) (b : Int) c.text.length = true := by
        simp only [roomT, decide_eq_true_eq]; omega
      obtain ⟨u, eu, wu, tu, _⟩ := replace_yes w (by omega) his hr
      have cr : ∀ {β : Type} (st : St) (K : Kv β), callS (orc vE) 48 [rp t, .agg [.int .i64 (a : Int), .int .i64 (b : Int)], .str c.text] st K = K (.tup [rp u, .int .i64 0]) st q0 := fun st K => callS_bare st K rfl rfl rfl eu
      cases hv : validS c.text with
      | false =>
        refine ⟨_, fun K => ?_, by decide, rfl⟩
        simp only [cr, unT_tup, nthS_zero, nthS_one, asI_int, ifB_bne, if_true, cvd, hv, asB_bool, ifB_not, ifB_false]
        rfl
      | true =>
        refine ⟨.tup [rp u, .int .i64 0], fun K => ?_, u, wu, ?_, rfl⟩
        · have hf : ∀ {β : Type} (st : St) (K : AV → Option β), frzS st 0 (.tup [rp u, .int .i64 0]) K = K (.tup [rp u, .int .i64 0]) := fun st K => frz_of (fz_tup (d := 1) (by
            intro v hv
            rcases List.mem_cons.1 hv with rfl | hv
            · exact fz_rp u
            · rcases List.mem_cons.1 hv with rfl | hv
              · exact fz_int _ _
              · cases hv)) (by omega) rfl st 0 K
          simp only [cr, unT_tup, nthS_zero, nthS_one, asI_int, ifB_bne, if_true, cvd, hv, asB_bool, ifB_not, ifB_true, hf]
        · rw [tu, putT]; simp
  have start : ∀ (r : AV), g32 (rp t) (chgV c) = some r → (orc vE).bare 32 [rp t, chgV c] = some r := fun r h => bare_of rfl ((g32_eq _ _).trans h)
  unfold ChgR doneT placeT
  cases hw : c.whole with
  | true =>
    obtain ⟨r, e, hm⟩ := rest 0 t.text.length (Nat.zero_le _) (Nat.le_refl _) s1 (by rw [hlen]; exact g1)
    refine ⟨r, start r ?_, ?_⟩
    · have e := e (β := AV) fun v => some v
      rw [hlen] at e
      simp only [g32, chgV, unA_agg, unc_cons, asI_int, asB_bool, asS_str, un0_nil, hs0, hh, call_len, letSt_eq, e1, hw, Bool.not_true, ifB_false, bindO_ok, onSum_inl, ld g1]
      exact e
    · rw [if_pos rfl]; exact hm
  | false =>
    rw [if_neg (by simp)]
    cases hv : validS t.text with
    | false =>
      rw [if_neg (by simp)]
      refine ⟨.tup [.nilp, .int .i64 4], start _ ?_, by decide, rfl⟩
      have cn : ∀ {β : Type} (st : St) (K : Kv β), callS (orc vE) 46 [.str t.text] st K = K (.tup [.nilp, .int .i64 4]) st q0 := fun st K => callS_bare st K rfl rfl rfl (new_bad (by omega) hv)
      simp only [g32, chgV, unA_agg, unc_cons, asI_int, asB_bool, asS_str, un0_nil, hs0, hh, call_len, letSt_eq, e1, hw, Bool.not_false, ifB_true, bindO_ok, cstr, cn, unT_tup, nthS_zero, nthS_one, ifB_bne, show ¬ ((4 : Int) = 0) by decide, if_false, onSum_inr]
    | true =>
      rw [if_pos rfl]
      obtain ⟨x, ex, hx⟩ := new_ok (s := t.text) (by omega) hv
      have cn : ∀ {β : Type} (st : St) (K : Kv β), callS (orc vE) 46 [.str t.text] st K = K (.tup [x, .int .i64 0]) st q0 := fun st K => callS_bare st K rfl rfl rfl ex
      have cs := fun {β : Type} (st : St) (K : Kv β) => callS_bare (args := [x, .agg [.int .i64 c.l1, .int .i64 c.c1, .int .i64 c.l2, .int .i64 c.c2]]) st K (show vE.full 47 = false from rfl) (by obtain ⟨v, _, rfl⟩ := hx; rfl) (by obtain ⟨v, _, rfl⟩ := hx; rfl) (span_ok (by omega) hx c.l1 c.c1 c.l2 c.c2)
      cases hp : spanT t.text c.l1 c.c1 c.l2 c.c2 with
      | none =>
        rw [hp] at cs
        obtain ⟨s2, fx, g2, e2⟩ := put 0 0
        refine ⟨.tup [.nilp, .int .i64 60], start _ ?_, by decide, rfl⟩
        simp only [g32, chgV, unA_agg, unc_cons, asI_int, asB_bool, asS_str, un0_nil, hs0, hh, call_len, letSt_eq, e1, hw, Bool.not_false, ifB_true, bindO_ok, cstr, cn, unT_tup, nthS_zero, nthS_one, ifB_bne, if_true, cs, e2, show ¬ ((60 : Int) = 0) by decide, if_false, onSum_inr]
      | some p =>
        obtain ⟨a, b⟩ := p
        rw [hp] at cs
        obtain ⟨ha, hb⟩ := spanT_in hp
        obtain ⟨s2, fx, g2, e2⟩ := put a b
        obtain ⟨r, e, hm⟩ := rest a b ha hb s2 g2
        refine ⟨r, start r ?_, hm⟩
        have e := e (β := AV) fun v => some v
        simp only [g32, chgV, unA_agg, unc_cons, asI_int, asB_bool, asS_str, un0_nil, hs0, hh, call_len, letSt_eq, e1, hw, Bool.not_false, ifB_true, bindO_ok, cstr, cn, unT_tup, nthS_zero, nthS_one, ifB_bne, if_true, cs, e2, onSum_inl, ld g2]
        simpa only [ifB_bne, if_true, unT_tup, asI_int, asB_bool] using e
abbrev DT : TypeId := 72
abbrev VT : TypeId := 69
theorem tmod8 (n : Nat) : Int.tmod (n : Int) 8 = ((n % 8 : Nat) : Int) := rfl
def verV (v : Ver) : AV := .agg [.int .i64 v.1, v.2]
section
variable {p : Pl} {st : St} {nm : B} {vs : List Ver} {n : Nat}
theorem ld_n (h : p.At DT st (docN nm vs n)) {β : Type} (K : AV → List Nat → Option β) : loadS 1 false (p.ad 17) st K = K (.int .i64 (n : Int)) [p.id] := Pl.load h (docN_n nm vs n) (.inr rfl) (by omega) (by omega) K
theorem ld_ver (h : p.At DT st (docN nm vs n)) {k : Nat} (hk : k < 8) {β : Type} (K : AV → List Nat → Option β) : loadS 2 true (p.ad (1 + k * 2)) st K = K (verV (slot vs k)) [p.id] := Pl.load h (docN_ver nm vs n hk) (.inl rfl) (by omega) (by omega) K
theorem put_ok (h : p.At DT st (docC nm vs)) {v : Ver} (hv : PtV v.2) (hn : vs.length ≤ 4611686018427387904) :
    ∃ st', (orc vE).wide 30 [p.ad 0, verV v] st = some (.tup [], st') ∧ ((p.put (docC nm (vs ++ [v])))).At DT st' (docC nm (vs ++ [v])) ∧ Keeps st st' (· = p.id) ∧ st'.h = st.h := by
  have hk : vs.length % 8 < 8 := Nat.mod_lt _ (by decide)
  obtain ⟨s1, fx1, h1, k1, n1, e1⟩ := Pl.store (O := orc vE) h (v := verV v) (u := verV v) (new := [.int .i64 v.1, v.2]) (o := 1 + vs.length % 8 * 2) (y := 2) rfl rfl (by omega) (by
    show (true && (VM.one v.2 && true)) = true
    rw [hv.one]; rfl) (by
    have a : [AV.int .i64 v.1, v.2].map strip = [.int .i64 v.1, v.2] := by simp only [List.map_cons, List.map_nil, hv.strip]; rfl
    have b : VM.bare (.agg [AV.int .i64 v.1, v.2]) = true := by
      show (true && (VM.bare v.2 && true)) = true
      rw [hv.bare]; rfl
    show VM.fit (.agg _) = _
    unfold VM.fit
    simp only [a, b]
    rfl)
  have e1' : splice (docC nm vs) (1 + vs.length % 8 * 2) [.int .i64 v.1, v.2] = docN nm (vs ++ [v]) vs.length := docN_put nm vs v vs.length rfl
  rw [e1'] at h1
  obtain ⟨s2, fx2, h2, k2, n2, e2⟩ := Pl.store (O := orc vE) h1 (v := .int .i64 ((vs.length + 1 : Nat) : Int)) (u := .int .i64 ((vs.length + 1 : Nat) : Int)) (new := [.int .i64 ((vs.length + 1 : Nat) : Int)]) (o := 17) (y := 1) rfl rfl (by omega) rfl rfl
  rw [docN_cnt] at h2
  have hd : docN nm (vs ++ [v]) (vs.length + 1) = docC nm (vs ++ [v]) := by
    unfold docC; rw [List.length_append, List.length_singleton]
  rw [hd] at h2
  have hpp : ((p.put (docN nm (vs ++ [v]) vs.length)).put (docC nm (vs ++ [v]))) = p.put (docC nm (vs ++ [v])) := by
    cases p with
    | loc i => rfl
    | row k n es i => show Pl.row k n ((es.set i _).set i _) i = _; rw [List.set_set]; rfl
  rw [hpp] at h2
  rw [Pl.id_put] at k2
  have hw : IntKind.wrap .i64 ((vs.length : Int) + 1) = ((vs.length + 1 : Nat) : Int) := wrapA1 (by omega)
  have l1 := fun {β : Type} (K : AV → List Nat → Option β) => ld_n h1 K
  simp only [Pl.ad_put, Pl.id_put] at l1 e2
  refine ⟨s2, wide_of ((w30_eq _ _ _).trans ?_), h2, k1.trans k2, by rw [n2, n1]⟩
  simp only [w30, verV, unA_agg, unc_cons, asI_int, un0_nil, hv.asOne, hv.fit1, Pl.nn, chk_true, Pl.fld, Nat.zero_add, ld_n h, letV_eq, tmod8, insideS_nat hk]
  refine (e1 _).trans ?_
  simp only [l1, asI_int, hw, e2]
theorem last_ok (h : p.At DT st (docC nm vs)) (hp : ∀ v ∈ vs, PtV v.2) {v : Ver} (hl : vs.getLast? = some v) (hn : vs.length ≤ 4611686018427387904) (hro : st.ro ≤ st.h) :
    ∃ st', (orc vE).wide 31 [p.ad 0] st = some (verV v, st') ∧ Keeps st st' (fun _ => False) := by
  rw [List.getLast?_eq_getElem?] at hl
  have hne : 1 ≤ vs.length := by
    cases vs with
    | nil => simp at hl
    | cons a l => simp
  have hk : (vs.length - 1) % 8 < 8 := Nat.mod_lt _ (by decide)
  have hs : slot vs ((vs.length - 1) % 8) = v := slot_mod hl (by omega)
  have hv : PtV v.2 := hp v (List.mem_of_getElem? hl)
  have ka : Keeps st (st.add (.cells VT [.int .i64 0, .nilp])) (fun _ => False) := Keeps.add _ _ _
  have h0 := Pl.keep h ka (fun f => f)
  obtain ⟨s1, g1, k1, n1, fx1, e1⟩ := local_var (O := orc vE) (st := st) (t := VT) (z := 2) (old := [.int .i64 0, .nilp]) (cs := [.int .i64 v.1, v.2]) (.agg [.int .i64 v.1, v.2]) rfl rfl hro
  have hw : IntKind.wrap .i64 ((vs.length : Int) - 1) = ((vs.length - 1 : Nat) : Int) := wrapS (m := 1) hne (by omega)
  have l3 : ∀ {β : Type} (K : AV → List Nat → Option β), loadS 2 true (.mp st.h 0) s1 K = K (.agg [.int .i64 v.1, v.2]) [st.h] := fun K => by rw [loadS_mp g1]; rfl
  have l2 := fun {β : Type} (K : AV → List Nat → Option β) => ld_ver h0 hk K
  rw [hs] at l2
  refine ⟨s1, wide_of ((w31_eq _ _).trans ?_), k1⟩
  have l1 := fun {β : Type} (K : AV → List Nat → Option β) => ld_n h0 K
  simp only [w31, letSt_eq, Pl.nn, chk_true, Pl.fld, Nat.zero_add, l1, asI_int, letV_eq, hw, tmod8, insideS_nat hk]
  refine (l2 _).trans ?_
  simp only [verV, unA_agg, unc_cons, asI_int, un0_nil, hv.asOne, e1, l3]
theorem versions_loop (hp : ∀ v ∈ vs, PtV v.2) (hn : vs.length ≤ 4611686018427387904) : ∀ (m : List Ver) (i : Nat) (out : List Ver) (v : AV) (st : St), vs.drop i = m → vs.length ≤ i + 8 → p.At DT st (docC nm vs) → ¬ ownerOf v p.id → Own st 2 VT v (out.map verV) → out.length + m.length ≤ 1000000 →
    ∃ v' i' st', loopO (w39_L1 (p.ad 0)) ([v, .int .i64 (i : Int)], st) = some (0, [v'], st') ∧ Own st' 2 VT v' ((out ++ m).map verV) ∧ Keeps st st' (ownerOf v) ∧ (∀ j, ownerOf v' j → ownerOf v j ∨ st.h ≤ j) ∧ i' = i
  | [], i, out, v, st, hd, h8, h, hno, ho, hl => by
    have := List.drop_eq_nil_iff.1 hd
    have q : ¬ (i : Int) < (vs.length : Int) := by omega
    refine ⟨v, i, st, loopO_inr ?_, by simpa using ho, Keeps.refl _ _, fun j hj => .inl hj, rfl⟩
    have l1 := fun {β : Type} (K : AV → List Nat → Option β) => ld_n h K
    simp only [w39_L1, unc_cons, asI_int, un0_nil, Pl.nn, chk_true, Pl.fld, Nat.zero_add, l1, ifB_decide, if_neg q]
  | u :: m, i, out, v, st, hd, h8, h, hno, ho, hl => by
    obtain ⟨hg, hdr, hlt⟩ := drop_cons hd
    have q : (i : Int) < (vs.length : Int) := by omega
    have hk : i % 8 < 8 := Nat.mod_lt _ (by decide)
    have hs : slot vs (i % 8) = u := slot_mod hg h8
    have hu : PtV u.2 := hp u (List.mem_of_getElem? hg)
    have l1 := fun {β : Type} (K : AV → List Nat → Option β) => ld_n h K
    have l2 := fun {β : Type} (K : AV → List Nat → Option β) => ld_ver h hk K
    rw [hs] at l2
    have hw : IntKind.wrap .i64 ((i : Int) + 1) = ((i + 1 : Nat) : Int) := wrapA1 (by omega)
    obtain ⟨v1, s1, x1, ho1, k1, j1, _, e1⟩ := own_fx (b := 16) [verV u] ho fun _ => room_of (by
      simp only [List.length_map, List.length_cons, List.length_nil] at hl ⊢; omega) (by omega) (by omega)
    have h1 := Pl.keep h k1 hno
    have hno1 : ¬ ownerOf v1 p.id := fun hc => by
      rcases j1 _ hc with hc | hc
      · exact hno hc
      · have := Pl.lt h; omega
    obtain ⟨v', i', st', e, o2, k2, j2, _⟩ := versions_loop hp hn m (i + 1) (out ++ [u]) v1 s1 hdr (by omega) h1 hno1 (by simpa using ho1) (by simp only [List.length_append, List.length_cons, List.length_nil] at hl ⊢; omega)
    refine ⟨v', i, st', (loopO_inl ?_).trans e, by simpa using o2, ?_, ?_, rfl⟩
    · have e1 : ∀ {β : Type} (K : Kv β), appS 2 16 VT v [.agg [.int .i64 u.1, u.2]] st K = K v1 s1 x1 := fun K => e1 K
      simp only [w39_L1, unc_cons, asI_int, un0_nil, Pl.nn, chk_true, Pl.fld, Nat.zero_add, l1, ifB_decide, if_pos q, letV_eq, tmod8, insideS_nat hk]
      refine (l2 _).trans ?_
      simp only [verV, unA_agg, unc_cons, asI_int, un0_nil, hu.asOne, hu.fit1, e1, hw]
    · exact Keeps.join k1 k2 j1
    · intro j hj
      rcases j2 j hj with hj | hj
      · exact j1 j hj
      · exact .inr (Nat.le_trans k1.h hj)
theorem versions_ok (h : p.At DT st (docC nm vs)) (hp : ∀ v ∈ vs, PtV v.2) (hn : vs.length ≤ 4611686018427387904) (hne : 1 ≤ vs.length) (hro : st.ro ≤ st.h) :
    ∃ v' st', (orc vE).wide 39 [p.ad 0] st = some (v', st') ∧ Own st' 2 VT v' ((vs.drop (vs.length - 8)).map verV) ∧ Keeps st st' (fun _ => False) ∧ (∀ j, ownerOf v' j → st.h ≤ j) := by
  have hlen : (vs.drop (vs.length - 8)).length ≤ 8 := by rw [List.length_drop]; omega
  obtain ⟨v', i', st', e, o, k, j, _⟩ := versions_loop (p := p) (nm := nm) hp hn (vs.drop (vs.length - 8)) (vs.length - 8) [] .nils st rfl (by omega) h (by rintro ⟨_, _, h⟩; cases h) (Own.nils hro _ _) (by simp; omega)
  have hno : ∀ j, ¬ ownerOf AV.nils j := fun j => by rintro ⟨_, _, h⟩; cases h
  refine ⟨v', st', wide_of ((w39_eq _ _).trans ?_), by simpa using o, k.weak fun j hj => hno j hj, fun i hi => by
    rcases j i hi with hi | hi
    · exact absurd hi (hno i)
    · exact hi⟩
  have l1 := fun {β : Type} (K : AV → List Nat → Option β) => ld_n h K
  have hw : IntKind.wrap .i64 ((vs.length : Int) - 8) = (vs.length : Int) - 8 := wrap_i64 (by omega) (by omega)
  have hm : (if (vs.length : Int) - 8 > 0 then (vs.length : Int) - 8 else 0) = ((vs.length - 8 : Nat) : Int) := by split <;> omega
  simp only [w39, Pl.nn, chk_true, Pl.fld, Nat.zero_add, l1, asI_int, letV_eq, hw, hm, e, bindO_ok, unc_cons, un0_nil, oneOf_one]
end
abbrev SOT : TypeId := 49
structure Dc where
  nm : B
  vs : List (Int × T)
def Dc.pv (d : Dc) : List Ver := d.vs.map fun v => (v.1, rp v.2)
def Dc.val (d : Dc) : AV := .agg (docC d.nm d.pv)
structure DcOk (d : Dc) : Prop where
  some : d.vs ≠ []
  rise : d.vs.Pairwise fun a b => a.1 < b.1
  nos : ∀ v ∈ d.vs, 0 ≤ v.1 ∧ v.1 ≤ 2147483647
  wf : ∀ v ∈ d.vs, WF v.2 ∧ v.2.size ≤ 65536
theorem Dc.pt (d : Dc) : ∀ v ∈ d.pv, PtV v.2 := by
  intro v hv
  obtain ⟨u, _, rfl⟩ := List.mem_map.1 hv
  exact .inr ⟨_, rfl⟩
theorem Dc.pv_len (d : Dc) : d.pv.length = d.vs.length := List.length_map _
theorem rise_len : ∀ (l : List (Int × T)) (a : Int), (l.Pairwise fun a b => a.1 < b.1) → (∀ v ∈ l, a ≤ v.1 ∧ v.1 ≤ 2147483647) → (l.length : Int) ≤ 2147483648 - a ∨ l = []
  | [], a, _, _ => .inr rfl
  | v :: l, a, hp, h => by
    have h1 := h v (by simp)
    rcases rise_len l (v.1 + 1) hp.tail fun u hu => ⟨by have := List.rel_of_pairwise_cons hp hu; omega, (h u (List.mem_cons_of_mem _ hu)).2⟩ with h2 | rfl
    · left; rw [List.length_cons]; omega
    · left; simp; omega
theorem DcOk.len {d : Dc} (h : DcOk d) : d.vs.length ≤ 2147483648 := by
  rcases rise_len d.vs 0 h.rise h.nos with h1 | h1
  · omega
  · rw [h1]; exact Nat.zero_le _
theorem val_cells (d : Dc) : d.val.cells = docC d.nm d.pv := rfl
theorem vals_len (ds : List Dc) : ∀ v ∈ ds.map Dc.val, v.cells.length = 18 := by
  intro v hv
  obtain ⟨d, _, rfl⟩ := List.mem_map.1 hv
  rfl
def Sto (st : St) (sp ow : Nat) (ds : List Dc) : Prop := st.ro = 0 ∧ ∃ v, st.get sp = .ok (.cells SOT [v]) ∧ ((v = .nils ∧ ds = []) ∨ (v = .gs ow 18 ds.length ∧ st.get ow = .ok (.row ds.length DT 18 (flat (ds.map Dc.val)))))
section
variable {st st' : St} {sp ow : Nat} {ds : List Dc}
theorem Sto.keep {but : Nat → Prop} (h : Sto st sp ow ds) (k : Keeps st st' but) (h1 : ¬ but sp) (h2 : ¬ but ow) : Sto st' sp ow ds := by
  obtain ⟨hr, v, hg, hv⟩ := h
  refine ⟨by rw [k.ro]; exact hr, v, k.old _ _ h1 hg, ?_⟩
  rcases hv with hv | ⟨rfl, hw⟩
  · exact .inl hv
  · exact .inr ⟨rfl, k.old _ _ h2 hw⟩
theorem Sto.keeps (h : Sto st sp ow ds) (k : Keeps st st' (fun _ => False)) : Sto st' sp ow ds := h.keep k (fun f => f) fun f => f
theorem Sto.ro (h : Sto st sp ow ds) : st.ro ≤ st.h := by rw [h.1]; exact Nat.zero_le _
theorem new_store (st : St) (hr : st.ro = 0) : ∃ st', (orc vE).wide 5 [] st = some (.mp st.h 0, st') ∧ Sto st' st.h st.h [] ∧ Keeps st st' (fun _ => False) ∧ st.h < st'.h := by
  refine ⟨st.add (.cells SOT [.nils]), wide_of ((w5_eq _).trans ?_), ⟨hr, .nils, St.get_add_new, .inl ⟨rfl, rfl⟩⟩, Keeps.add _ _ _, Nat.lt_succ_self _⟩
  simp only [w5, letSt_eq]
def findN (nm : B) : List Dc → Nat → Option Nat
  | [], _ => none
  | d :: l, i => if d.nm = nm then some i else findN nm l (i + 1)
theorem findN_some {nm : B} : ∀ {l : List Dc} {i k : Nat}, findN nm l i = some k → i ≤ k ∧ ∃ d, l[k - i]? = some d ∧ d.nm = nm
  | [], _, _, h => by cases h
  | d :: l, i, k, h => by
    unfold findN at h
    split at h
    · cases h
      exact ⟨Nat.le_refl _, d, by rw [Nat.sub_self]; rfl, by assumption⟩
    · obtain ⟨h1, e, h2, h3⟩ := findN_some h
      refine ⟨by omega, e, ?_, h3⟩
      rw [show k - i = (k - (i + 1)) + 1 by omega, List.getElem?_cons_succ]; exact h2
def findI (nm : B) (ds : List Dc) : Int := match findN nm ds 0 with | none => -1 | some k => (k : Int)
theorem f1_ok (d : Dc) {cp : Nat} {nm : B} (hc : st.get cp = .ok (.cells 9 [.str nm])) : (orc vE).wide 42 [d.val, .mp cp 0] st = some (.bool (d.nm == nm), st) := by
  refine wide_of ((w42_eq _ _ _).trans ?_)
  have a := fun j => (slot_pt d.pt j).asOne (β := AV × St)
  have f := fun j => (slot_pt d.pt j).fit1 (β := AV × St)
  have l : ∀ {β : Type} (K : AV → List Nat → Option β), loadS 1 false (.mp cp 0) st K = K (.str nm) [cp] := fun K => by rw [loadS_mp hc]; rfl
  simp only [w42, Dc.val, docC, docN, docS, unA_agg, unc_cons, asS_str, asI_int, un0_nil, a, f, l]
theorem prim_f1 : Sx.prim (sx vE 41) 42 = none := rfl
theorem call_f1 (d : Dc) {cp : Nat} {nm : B} (hc : st.get cp = .ok (.cells 9 [.str nm])) {β : Type} (K : Kv β) :
    callF (orc vE) (Sx.prim (sx vE 41)) (.fn (.func 42) [] [.mp cp 0]) [d.val] st K = K (.bool (d.nm == nm)) st ⟨[], .all st st⟩ := by
  have hcw : ∀ (K : Kv β), callS (orc vE) 42 [d.val, .mp cp 0] st K = K (.bool (d.nm == nm)) st ⟨[], .all st st⟩ := fun K => callS_wide K rfl (by
    have : bares ([d.val, AV.mp cp 0].map strip) = false := by
      show (VM.bare _ && (VM.bare (.mp cp 0) && true)) = false
      show (_ && (false && true)) = false
      simp
    rw [this]; rfl) (f1_ok d hc)
  rw [← hcw K]
  simp only [callF, callP, prim_f1, List.nil_append, List.cons_append]
  rfl
theorem row_at (h : st.get ow = .ok (.row ds.length DT 18 (flat (ds.map Dc.val)))) {i : Nat} {d : Dc} (hd : ds[i]? = some d) (hr : st.ro ≤ ow) : (Pl.row ow ds.length (ds.map Dc.val) i).At DT st (docC d.nm d.pv) :=
  ⟨rfl, hr, h, by rw [List.getElem?_map, hd]; rfl, vals_len ds⟩
theorem row_load (h : st.get ow = .ok (.row ds.length DT 18 (flat (ds.map Dc.val)))) {i : Nat} {d : Dc} (hd : ds[i]? = some d) {β : Type} (K : AV → List Nat → Option β) : loadS 18 true (.gp ow ds.length (i * 18)) st K = K d.val [ow] := by
  obtain ⟨post, e⟩ := flatEl_at (vals_len ds) (show (ds.map Dc.val)[i]? = some d.val by rw [List.getElem?_map, hd]; rfl)
  rw [loadS_gp h, e, takeO_agg (by rw [List.length_append, val_cells]; exact Nat.le_add_right 18 _)]
  show K (.agg ((docC d.nm d.pv ++ post).take 18)) [ow] = _
  rw [List.take_left' (by rfl)]
  rfl
theorem ix_loop (h : st.get ow = .ok (.row ds.length DT 18 (flat (ds.map Dc.val)))) {cp : Nat} {nm : B} (hc : st.get cp = .ok (.cells 9 [.str nm])) (hl : ds.length ≤ 1000000) : ∀ (m : List Dc) (i : Nat), ds.drop i = m →
    ∃ r x, loopO (w41_L1 (.gs ow 18 ds.length) (.fn (.func 42) [] [.mp cp 0]) ds.length) ([.int .i64 0, .int .i64 (i : Int)], st) = some (r, [.int .i64 x], st) ∧ match findN nm m i with | none => r = 0 | some k => r = 1 ∧ x = (k : Int)
  | [], i, hd => by
    have := List.drop_eq_nil_iff.1 hd
    have q : ¬ (i : Int) < (ds.length : Int) := by omega
    refine ⟨0, 0, loopO_inr ?_, rfl⟩
    simp only [w41_L1, unc_cons, asI_int, un0_nil, ifB_decide, if_neg q]
  | d :: m, i, hd => by
    obtain ⟨hg, hdr, hlt⟩ := drop_cons hd
    have q : (i : Int) < (ds.length : Int) := by omega
    have ix := fun {β : Type} (K : AV → List Nat → Option β) => idxA_gs h hlt K
    have ld := fun {β : Type} (K : AV → List Nat → Option β) => row_load h hg K
    have cf := fun {β : Type} (K : Kv β) => call_f1 d hc K
    simp only [Dc.val, docC, docN, docS] at ld cf
    have hw : IntKind.wrap .i64 ((i : Int) + 1) = ((i + 1 : Nat) : Int) := wrapA1 (by omega)
    unfold findN
    by_cases hn : d.nm = nm
    · rw [if_pos hn]
      have hb : (d.nm == nm) = true := beq_iff_eq.2 hn
      refine ⟨1, (i : Int), loopO_inr ?_, rfl, rfl⟩
      simp only [w41_L1, unc_cons, asI_int, un0_nil, ifB_decide, if_pos q, ix, ld, unA_agg, asS_str, cf, hb, asB_bool, ifB_true]
    · rw [if_neg hn]
      have hb : (d.nm == nm) = false := beq_eq_false_iff_ne.2 hn
      obtain ⟨r, x, e, hm⟩ := ix_loop h hc hl m (i + 1) hdr
      refine ⟨r, x, (loopO_inl ?_).trans e, hm⟩
      simp only [w41_L1, unc_cons, asI_int, un0_nil, ifB_decide, if_pos q, ix, ld, unA_agg, asS_str, cf, hb, asB_bool, ifB_false, letV_eq, hw]
theorem find_ok (h : Sto st sp ow ds) (hl : ds.length ≤ 1000000) (nm : B) : ∃ st', (orc vE).wide 26 [.mp sp 0, .str nm] st = some (.int .i64 (findI nm ds), st') ∧ Keeps st st' (fun _ => False) := by
  have ka : Keeps st (st.add (.cells 9 [.str nm])) (fun _ => False) := Keeps.add _ _ _
  have ha := h.keeps ka
  have hc : (st.add (.cells 9 [.str nm])).get st.h = .ok (.cells 9 [.str nm]) := St.get_add_new
  generalize hs : st.add (.cells 9 [.str nm]) = s1 at ka ha hc
  obtain ⟨hr, v, hg, hv⟩ := ha
  have l1 : ∀ {β : Type} (K : AV → List Nat → Option β), loadS 1 false (.mp sp 0) s1 K = K v [sp] := fun K => by rw [loadS_mp hg]; rfl
  have hx : (orc vE).wide 41 [v, .fn (.func 42) [] [.mp st.h 0]] s1 = some (.int .i64 (findI nm ds), s1) := by
    refine wide_of ((w41_eq _ _ _).trans ?_)
    rcases hv with ⟨rfl, rfl⟩ | ⟨rfl, hw⟩
    · have e : loopO (w41_L1 .nils (.fn (.func 42) [] [.mp st.h 0]) 0) ([.int .i64 0, .int .i64 0], s1) = some (0, [.int .i64 0], s1) := by
        refine loopO_inr ?_
        have q : ¬ (0 : Int) < ((0 : Nat) : Int) := by omega
        simp only [w41_L1, unc_cons, asI_int, un0_nil, ifB_decide, if_neg q]
      simp only [w41, lenS_nils, e, bindO_ok, unc_cons, asI_int, un0_nil, sel2_zero]
      rfl
    · obtain ⟨r, x, e, hm⟩ := ix_loop hw hc hl ds 0 rfl
      have e : loopO (w41_L1 (.gs ow 18 ds.length) (.fn (.func 42) [] [.mp st.h 0]) ds.length) ([.int .i64 0, .int .i64 0], s1) = _ := e
      unfold findI
      cases hf : findN nm ds 0 with
      | none =>
        rw [hf] at hm
        have hm : r = 0 := hm
        subst hm
        simp only [w41, lenS_gs, e, bindO_ok, unc_cons, asI_int, un0_nil, sel2_zero]
      | some k =>
        rw [hf] at hm
        obtain ⟨hm, hk⟩ : r = 1 ∧ x = (k : Int) := hm
        subst hm; subst hk
        simp only [w41, lenS_gs, e, bindO_ok, unc_cons, asI_int, un0_nil, sel2_one]
  have cx : ∀ {β : Type} (K : Kv β), callS (orc vE) 41 [v, .fn (.func 42) [] [.mp st.h 0]] s1 K = K (.int .i64 (findI nm ds)) s1 ⟨[], .all s1 s1⟩ := fun K => callS_wide K rfl (by
    have : bares ([v, AV.fn (.func 42) [] [.mp st.h 0]].map strip) = false := by
      show (VM.bare _ && (VM.bare (.fn (.func 42) [] [.mp st.h 0]) && true)) = false
      show (_ && (false && true)) = false
      simp
    rw [this]; rfl) hx
  refine ⟨s1, wide_of ((w26_eq _ _ _).trans ?_), ka⟩
  simp only [w26, asS_str, letSt_eq, hs, notNil_mp, chk_true, fldA_mp, Nat.add_zero, l1, cx, asI_int]
theorem bares_mp (i o : Nat) (l : List AV) (f : FuncId) : (bares ((AV.mp i o :: l).map strip) && !vE.full f) = false := by
  have : bares ((AV.mp i o :: l).map strip) = false := rfl
  rw [this]; rfl
theorem call_find {s1 : St} {nm : B} {n : Int} (e : (orc vE).wide 26 [.mp sp 0, .str nm] st = some (.int .i64 n, s1)) {β : Type} (K : Kv β) : callS (orc vE) 26 [.mp sp 0, .str nm] st K = K (.int .i64 n) s1 ⟨[], .all st s1⟩ := callS_wide K rfl (bares_mp _ _ _ _) e
theorem nil_mp {β : Type} (i o : Nat) (k : TypeId) (K : Bool → Option β) : nilS (.ptr k) (.mp i o) .nilp K = K false := rfl
theorem open_ok (h : Sto st sp ow ds) (hl : ds.length ≤ 1000000) (nm : B) : ∃ st', (orc vE).wide 38 [.mp sp 0, .str nm] st = some ((match findN nm ds 0 with | none => .tup [.nilp, .int .i64 5] | some k => .tup [.gp ow ds.length (k * 18), .int .i64 0]), st') ∧ Keeps st st' (fun _ => False) := by
  obtain ⟨s1, e1, k1⟩ := find_ok h hl nm
  have h1 := h.keeps k1
  have cf := fun {β : Type} (K : Kv β) => call_find e1 K
  refine ⟨s1, wide_of ((w38_eq _ _ _).trans ?_), k1⟩
  unfold findI at cf
  cases hf : findN nm ds 0 with
  | none =>
    rw [hf] at cf
    have q : (-1 : Int) < 0 := by omega
    simp only [w38, asS_str, nil_mp, ifB_false, cf, asI_int, ifB_decide, if_pos q]
  | some k =>
    rw [hf] at cf
    obtain ⟨_, d, hd, _⟩ := findN_some hf
    rw [Nat.sub_zero] at hd
    have hlt : k < ds.length := by
      by_cases hi : k < ds.length
      · exact hi
      · rw [List.getElem?_eq_none (by omega)] at hd; cases hd
    obtain ⟨hr, v, hg, ⟨rfl, rfl⟩ | ⟨rfl, hw⟩⟩ := h1
    · simp at hlt
    · have q : ¬ (k : Int) < 0 := by omega
      have l1 : ∀ {β : Type} (K : AV → List Nat → Option β), loadS 1 false (.mp sp 0) s1 K = K (.gs ow 18 ds.length) [sp] := fun K => by rw [loadS_mp hg]; rfl
      have ix := fun {β : Type} (K : AV → List Nat → Option β) => idxA_gs hw hlt K
      simp only [w38, asS_str, nil_mp, ifB_false, cf, asI_int, ifB_decide, if_neg q, notNil_mp, chk_true, fldA_mp, Nat.add_zero, l1, ix]
theorem call_open {s1 : St} {nm : B} {r : AV} (e : (orc vE).wide 38 [.mp sp 0, .str nm] st = some (r, s1)) {β : Type} (K : Kv β) : callS (orc vE) 38 [.mp sp 0, .str nm] st K = K r s1 ⟨[], .all st s1⟩ := callS_wide K rfl (bares_mp _ _ _ _) e
theorem Sto.row (h : Sto st sp ow ds) {i : Nat} {d : Dc} (hd : ds[i]? = some d) : st.get sp = .ok (.cells SOT [.gs ow 18 ds.length]) ∧ st.get ow = .ok (.row ds.length DT 18 (flat (ds.map Dc.val))) := by
  obtain ⟨hr, v, hg, ⟨rfl, rfl⟩ | ⟨rfl, hw⟩⟩ := h
  · simp at hd
  · exact ⟨hg, hw⟩
theorem Sto.doc (h : Sto st sp ow ds) {i : Nat} {d : Dc} (hd : ds[i]? = some d) : (Pl.row ow ds.length (ds.map Dc.val) i).At DT st (docC d.nm d.pv) := row_at (h.row hd).2 hd (by rw [h.1]; exact Nat.zero_le _)
theorem bares_gp (k n o : Nat) (l : List AV) (f : FuncId) : (bares ((AV.gp k n o :: l).map strip) && !vE.full f) = false := by
  have : bares ((AV.gp k n o :: l).map strip) = false := rfl
  rw [this]; rfl
theorem pv_last {d : Dc} {v : Int × T} (h : d.vs.getLast? = some v) : d.pv.getLast? = some (v.1, rp v.2) := by
  unfold Dc.pv; rw [List.getLast?_map, h]; rfl
theorem call_last (h : Sto st sp ow ds) {i : Nat} {d : Dc} (hd : ds[i]? = some d) (ok : DcOk d) {v : Int × T} (hv : d.vs.getLast? = some v) :
    ∃ st', Keeps st st' (fun _ => False) ∧ ∀ {β : Type} (K : Kv β), callS (orc vE) 31 [.gp ow ds.length (i * 18)] st K = K (.agg [.int .i64 v.1, rp v.2]) st' ⟨[], .all st st'⟩ := by
  obtain ⟨s1, e, k⟩ := last_ok (h.doc hd) d.pt (pv_last hv) (by rw [d.pv_len]; have := ok.len; omega) h.ro
  exact ⟨s1, k, fun K => callS_wide K rfl (bares_gp _ _ _ _ _) e⟩
theorem lastS_ok (h : Sto st sp ow ds) (hok : ∀ d ∈ ds, DcOk d) (hl : ds.length ≤ 1000000) (nm : B) :
    ∃ st', (orc vE).wide 21 [.mp sp 0, .str nm] st = some ((match findN nm ds 0 with | none => .tup [.int .i64 0, .str [], .int .i64 5] | some k => match (ds[k]?).bind fun d => d.vs.getLast? with | none => .nilp | some v => .tup [.int .i64 v.1, .str v.2.text, .int .i64 0]), st') ∧ Keeps st st' (fun _ => False) := by
  obtain ⟨s1, e1, k1⟩ := open_ok h hl nm
  have h1 := h.keeps k1
  have co := fun {β : Type} (K : Kv β) => call_open e1 K
  cases hf : findN nm ds 0 with
  | none =>
    rw [hf] at co
    refine ⟨s1, wide_of ((w21_eq _ _ _).trans ?_), k1⟩
    simp only [w21, asS_str, co, unT_tup, nthS_zero, nthS_one, asI_int, ifB_bne, show ¬ ((5 : Int) = 0) by decide, if_false]
  | some k =>
    rw [hf] at co
    obtain ⟨_, d, hd, _⟩ := findN_some hf
    rw [Nat.sub_zero] at hd
    have ok := hok d (List.mem_of_getElem? hd)
    obtain ⟨v, hv⟩ : ∃ v, d.vs.getLast? = some v := by
      cases e : d.vs.getLast? with
      | none => exact absurd (List.getLast?_eq_none_iff.1 e) ok.some
      | some v => exact ⟨v, rfl⟩
    obtain ⟨s2, k2, cl⟩ := call_last h1 hd ok hv
    have h2 := h1.keeps k2
    obtain ⟨s3, g3, k3, n3, fx3, e3⟩ := local_var (O := orc vE) (st := s2) (t := VT) (z := 2) (old := [.int .i64 0, .nilp]) (cs := [.int .i64 v.1, rp v.2]) (.agg [.int .i64 v.1, rp v.2]) rfl rfl h2.ro
    have l1 : ∀ {β : Type} (K : AV → List Nat → Option β), loadS 1 false (.mp s2.h 0) s3 K = K (.int .i64 v.1) [s2.h] := fun K => by rw [loadS_mp g3]; rfl
    have l2 : ∀ {β : Type} (K : AV → List Nat → Option β), loadS 1 false (.mp s2.h 1) s3 K = K (rp v.2) [s2.h] := fun K => by rw [loadS_mp g3]; rfl
    have wv := ok.wf v (List.mem_of_getLast? hv)
    have cs := fun {β : Type} (st : St) (K : Kv β) => call_string (t := v.2) (by omega) st K
    have ao : ∀ {β : Type} (K : Option β), asOne (rp v.2) K = K := fun K => rfl
    refine ⟨s3, wide_of ((w21_eq _ _ _).trans ?_), (k1.trans k2).trans k3⟩
    simp only [w21, asS_str, co, unT_tup, nthS_zero, nthS_one, asI_int, ifB_bne, if_true, cl, unA_agg, unc_cons, un0_nil, letSt_eq, ao, e3, l1, l2, cs, apart_kept, Bool.and_self, chk_true, hd, Option.bind_some, hv]
end
def badN (n : Int) : Bool := decide (n < 0) || decide (n > 2147483647)
theorem bad_ok (n : Int) : (orc vE).bare 27 [.int .i64 n] = some (.bool (badN n)) := by
  refine bare_of rfl ((g27_eq _).trans ?_)
  unfold badN
  by_cases h : n < 0
  · simp only [g27, asI_int, ifB_decide, if_pos h, bindO_ok, unc_cons, asB_bool, un0_nil, decide_eq_true h, Bool.true_or]
  · simp only [g27, asI_int, ifB_decide, if_neg h, bindO_ok, unc_cons, asB_bool, un0_nil, decide_eq_false h, Bool.false_or]
theorem call_bad {β : Type} (n : Int) (st : St) (K : Kv β) : callS (orc vE) 27 [.int .i64 n] st K = K (.bool (badN n)) st q0 := callS_bare st K rfl rfl rfl (bad_ok n)
theorem badN_no {n : Int} (h : badN n = false) : 0 ≤ n ∧ n ≤ 2147483647 := by
  unfold badN at h
  simp only [Bool.or_eq_false_iff, decide_eq_false_iff_not] at h
  omega
def openE (ds : List Dc) (nm : B) (no : Int) (tx : B) : Nat :=
  match findN nm ds 0 with
  | some _ => 6
  | none => if 32 ≤ ds.length then 3 else if badN no = true then 1 else if 65536 < tx.length then 40 else if validS tx = true then 0 else 4
section
variable {st st' : St} {sp ow : Nat} {ds : List Dc}
theorem fresh_doc {st : St} (hro : st.ro ≤ st.h) (nm : B) : ∃ st', st'.get st.h = .ok (.cells DT (docC nm [])) ∧ Keeps st st' (fun _ => False) ∧ st'.h = st.h + 1 ∧ ∃ fx, ∀ {β : Type} (K : Kv β), storeS (orc vE) 18 (.mp st.h 0) (.agg [.str nm, .int .i64 0, .nilp, .int .i64 0, .nilp, .int .i64 0, .nilp, .int .i64 0, .nilp, .int .i64 0, .nilp, .int .i64 0, .nilp, .int .i64 0, .nilp, .int .i64 0, .nilp, .int .i64 0]) [.str nm, .int .i64 0, .nilp, .int .i64 0, .nilp, .int .i64 0, .nilp, .int .i64 0, .nilp, .int .i64 0, .nilp, .int .i64 0, .nilp, .int .i64 0, .nilp, .int .i64 0, .nilp, .int .i64 0] (st.add (.cells DT [.str [], .int .i64 0, .nilp, .int .i64 0, .nilp, .int .i64 0, .nilp, .int .i64 0, .nilp, .int .i64 0, .nilp, .int .i64 0, .nilp, .int .i64 0, .nilp, .int .i64 0, .nilp, .int .i64 0])) K = K VM.undef st' fx := by
  obtain ⟨st', g, k, n, fx, e⟩ := local_var (O := orc vE) (st := st) (t := DT) (z := 18) (old := [.str [], .int .i64 0, .nilp, .int .i64 0, .nilp, .int .i64 0, .nilp, .int .i64 0, .nilp, .int .i64 0, .nilp, .int .i64 0, .nilp, .int .i64 0, .nilp, .int .i64 0, .nilp, .int .i64 0]) (cs := [.str nm, .int .i64 0, .nilp, .int .i64 0, .nilp, .int .i64 0, .nilp, .int .i64 0, .nilp, .int .i64 0, .nilp, .int .i64 0, .nilp, .int .i64 0, .nilp, .int .i64 0, .nilp, .int .i64 0]) (.agg [.str nm, .int .i64 0, .nilp, .int .i64 0, .nilp, .int .i64 0, .nilp, .int .i64 0, .nilp, .int .i64 0, .nilp, .int .i64 0, .nilp, .int .i64 0, .nilp, .int .i64 0, .nilp, .int .i64 0]) rfl rfl hro
  exact ⟨st', g, k, n, fx, e⟩
abbrev docTI : TI := TI.mk (U.struct [(0, 9), (1, 70), (17, 3)]) 18 152 [AV.str [], AV.int .i64 0, AV.nilp, AV.int .i64 0, AV.nilp, AV.int .i64 0, AV.nilp, AV.int .i64 0, AV.nilp, AV.int .i64 0, AV.nilp, AV.int .i64 0, AV.nilp, AV.int .i64 0, AV.nilp, AV.int .i64 0, AV.nilp, AV.int .i64 0] true true
theorem row_app (h : st.ro = 0) {v : AV} (hg : st.get sp = .ok (.cells SOT [v])) (hv : (v = .nils ∧ ds = []) ∨ (v = .gs ow 18 ds.length ∧ st.get ow = .ok (.row ds.length DT 18 (flat (ds.map Dc.val))))) (d : Dc) (hl : ds.length ≤ 1000) :
    ∃ ow' st' fx, Keeps st st' (· = ow) ∧ (ow' = ow ∨ st.h ≤ ow') ∧ st'.get ow' = .ok (.row (ds ++ [d]).length DT 18 (flat ((ds ++ [d]).map Dc.val))) ∧ apart ⟨[], .kept⟩ fx = true ∧ ∀ {β : Type} (K : Kv β), planS (orc vE) (rowAppendP docTI DT v [d.val]) st K = K (.gs ow' 18 (ds ++ [d]).length) st' fx := by
  have hf : fit d.val = .ok d.val := docN_fit d.pt
  have hfl : flat ((ds ++ [d]).map Dc.val) = flat (ds.map Dc.val) ++ flat [d.val] := by
    rw [List.map_append]
    have : ∀ (a b : List AV), flat (a ++ b) = flat a ++ flat b := by
      intro a b
      induction a with
      | nil => rfl
      | cons x l ih => show x.cells ++ flat (l ++ b) = (x.cells ++ flat l) ++ flat b; rw [ih, List.append_assoc]
    exact this _ _
  have hlen : (ds ++ [d]).length = ds.length + 1 := by simp
  rcases hv with ⟨rfl, rfl⟩ | ⟨rfl, hw⟩
  · refine ⟨st.h, st.add (.row 1 DT 18 (flat [d.val])), ⟨[], .made st.h (.row 1 DT 18 (flat [d.val]))⟩, Keeps.add _ _ _, .inr (Nat.le_refl _), St.get_add_new, rfl, fun K => row_first (i := docTI) hf rfl rfl K⟩
  · have hr : roomOk (ds.length + 1) docTI = true := by
      have := room_of (n := ds.length + 1) (z := 18) (b := 152) (by omega) (by omega) (by omega)
      exact this
    refine ⟨ow, st.put ow (.row (ds.length + 1) DT 18 (flat (ds.map Dc.val) ++ flat [d.val])), ⟨[ow], .wrote ow (.row (ds.length + 1) DT 18 (flat (ds.map Dc.val) ++ flat [d.val]))⟩, Keeps.put rfl, .inl rfl, ?_, rfl, fun K => ?_⟩
    · rw [St.get_put_same (St.get_ok.1 hw).1, hfl, hlen]
    · rw [hlen]; exact row_next (i := docTI) hw (by rw [h]; exact Nat.zero_le _) hf rfl hr K
theorem openS_ok (h : Sto st sp ow ds) (hl : ds.length ≤ 32) (nm : B) (no : Int) (tx : B) (ht : tx.length ≤ 1000000) :
    ∃ st', (orc vE).wide 9 [.mp sp 0, .str nm, .int .i64 no, .str tx] st = some (.int .i64 (openE ds nm no tx : Int), st') ∧
      (openE ds nm no tx ≠ 0 → Keeps st st' (fun _ => False)) ∧ (openE ds nm no tx = 0 → ∃ t ow', WF t ∧ t.text = tx ∧ Sto st' sp ow' (ds ++ [Dc.mk nm [(no, t)]]) ∧ Keeps st st' (fun j => j = sp ∨ j = ow) ∧ (ow' = ow ∨ st.h ≤ ow')) := by
  obtain ⟨s1, e1, k1⟩ := find_ok h (by omega) nm
  have h1 := h.keeps k1
  have cf := fun {β : Type} (K : Kv β) => call_find e1 K
  unfold findI at cf
  unfold openE
  cases hf : findN nm ds 0 with
  | some k =>
    rw [hf] at cf
    have q : (k : Int) ≥ 0 := by omega
    refine ⟨s1, wide_of ((w9_eq _ _ _ _ _).trans ?_), fun _ => k1, fun h => by cases h⟩
    simp only [w9, asS_str, asI_int, nil_mp, ifB_false, cf, ifB_decide, if_pos q]
    rfl
  | none =>
    rw [hf] at cf
    have q : ¬ (-1 : Int) ≥ 0 := by omega
    obtain ⟨hr, v, hg, hv⟩ := id h1
    have l1 : ∀ {β : Type} (K : AV → List Nat → Option β), loadS 1 false (.mp sp 0) s1 K = K v [sp] := fun K => by rw [loadS_mp hg]; rfl
    have ln : ∀ {β : Type} (K : Nat → Option β), lenS v K = K ds.length := fun K => by
      rcases hv with ⟨rfl, rfl⟩ | ⟨rfl, _⟩
      · rfl
      · rfl
    by_cases h32 : 32 ≤ ds.length
    · have q2 : (ds.length : Int) ≥ 32 := by omega
      simp only [if_pos h32]
      refine ⟨s1, wide_of ((w9_eq _ _ _ _ _).trans ?_), fun _ => k1, fun h => by cases h⟩
      simp only [w9, asS_str, asI_int, nil_mp, ifB_false, cf, ifB_decide, if_neg q, notNil_mp, chk_true, fldA_mp, Nat.add_zero, l1, ln, if_pos q2]
      rfl
    · have q2 : ¬ (ds.length : Int) ≥ 32 := by omega
      simp only [if_neg h32]
      cases hb : badN no with
      | true =>
        simp only [if_true]
        refine ⟨s1, wide_of ((w9_eq _ _ _ _ _).trans ?_), fun _ => k1, fun h => by cases h⟩
        simp only [w9, asS_str, asI_int, nil_mp, ifB_false, cf, ifB_decide, if_neg q, notNil_mp, chk_true, fldA_mp, Nat.add_zero, l1, ln, if_neg q2, call_bad, hb, asB_bool, ifB_true]
        rfl
      | false =>
        simp only [Bool.false_eq_true, if_false]
        by_cases hbig : 65536 < tx.length
        · simp only [if_pos hbig]
          have co : ∀ {β : Type} (st : St) (K : Kv β), callS (orc vE) 28 [.str tx] st K = K (.tup [.nilp, .int .i64 40]) st q0 := fun st K => callS_bare st K rfl rfl rfl (of_large hbig)
          refine ⟨s1, wide_of ((w9_eq _ _ _ _ _).trans ?_), fun _ => k1, fun h => by cases h⟩
          simp only [w9, asS_str, asI_int, nil_mp, ifB_false, cf, ifB_decide, if_neg q, notNil_mp, chk_true, fldA_mp, Nat.add_zero, l1, ln, if_neg q2, call_bad, hb, asB_bool, co, unT_tup, nthS_zero, nthS_one, ifB_bne, show ¬ ((40 : Int) = 0) by decide, if_false]
          rfl
        · simp only [if_neg hbig]
          obtain ⟨t, et, wt, tt⟩ := rof_ok (s := tx) (by omega)
          have co : ∀ {β : Type} (st : St) (K : Kv β), callS (orc vE) 28 [.str tx] st K = K (.tup [rp t, .int .i64 0]) st q0 := fun st K => callS_bare st K rfl rfl rfl et
          have cv := fun {β : Type} (st : St) (K : Kv β) => call_valid (s := tx) (show tx.length ≤ 100000000 by omega) st K
          cases hvd : validS tx with
          | false =>
            simp only [Bool.false_eq_true, if_false]
            refine ⟨s1, wide_of ((w9_eq _ _ _ _ _).trans ?_), fun _ => k1, fun h => by cases h⟩
            simp only [w9, asS_str, asI_int, nil_mp, ifB_false, cf, ifB_decide, if_neg q, notNil_mp, chk_true, fldA_mp, Nat.add_zero, l1, ln, if_neg q2, call_bad, hb, asB_bool, co, unT_tup, nthS_zero, nthS_one, ifB_bne, if_true, cv, hvd, ifB_not]
            rfl
          | true =>
            simp only [if_true]
            obtain ⟨s2, g2, k2, n2, fx2, e2⟩ := fresh_doc (st := s1) h1.ro nm
            have h2 := h1.keeps k2
            have hp : (Pl.loc s1.h).At DT s2 (docC nm []) := ⟨rfl, by rw [h2.1]; exact Nat.zero_le _, g2⟩
            obtain ⟨s3, e3, hp3, k3, n3⟩ := put_ok hp (v := (no, rp t)) (.inr ⟨_, rfl⟩) (by simp)
            have e3 : (orc vE).wide 30 [.mp s1.h 0, .agg [.int .i64 no, rp t]] s2 = some (.tup [], s3) := e3
            have cp : ∀ {β : Type} (K : Kv β), callS (orc vE) 30 [.mp s1.h 0, .agg [.int .i64 no, rp t]] s2 K = K (.tup []) s3 ⟨[], .all s2 s3⟩ := fun K => callS_wide K rfl (bares_mp _ _ _ _) e3
            have hlt : sp < s1.h := (St.get_ok.1 hg).1
            have hne : sp ≠ s1.h := Nat.ne_of_lt hlt
            have hg3 : s3.get sp = .ok (.cells SOT [v]) := k3.of_ne hne (k2.old _ _ (fun f => f) hg)
            have hr3 : s3.ro = 0 := by rw [k3.ro, k2.ro, hr]
            have hv3 : (v = .nils ∧ ds = []) ∨ (v = .gs ow 18 ds.length ∧ s3.get ow = .ok (.row ds.length DT 18 (flat (ds.map Dc.val)))) := by
              rcases hv with hv | ⟨rfl, hw⟩
              · exact .inl hv
              · exact .inr ⟨rfl, k3.of_ne (Nat.ne_of_lt (St.get_ok.1 hw).1) (k2.old _ _ (fun f => f) hw)⟩
            obtain ⟨ow', s4, fx4, k4, hw4, g4, ap4, e4⟩ := row_app hr3 hg3 hv3 (Dc.mk nm [(no, t)]) (by omega)
            have gd : s3.get s1.h = .ok (.cells DT (docC nm [(no, rp t)])) := hp3.2.2
            have ld : ∀ {β : Type} (K : AV → List Nat → Option β), loadS 18 true (.mp s1.h 0) s3 K = K (.agg (docC nm [(no, rp t)])) [s1.h] := fun K => by rw [loadS_mp gd]; rfl
            have l3 : ∀ {β : Type} (K : AV → List Nat → Option β), loadS 1 false (.mp sp 0) s3 K = K v [sp] := fun K => by rw [loadS_mp hg3]; rfl
            have hso : sp ≠ ow ∨ v = .nils := by
              rcases hv3 with ⟨rfl, _⟩ | ⟨rfl, hw⟩
              · exact .inr rfl
              · left; rintro rfl; rw [hg3] at hw; cases hw
            have hpt : ∀ u ∈ [((no, rp t) : Ver)], PtV u.2 := fun u hu => by
              rcases List.mem_singleton.1 hu with rfl; exact .inr ⟨_, rfl⟩
            have ao := fun j => (slot_pt hpt j).asOne (β := AV × St)
            have fo := fun j => (slot_pt hpt j).fit1 (β := AV × St)
            have hg4 : s4.get sp = .ok (.cells SOT [v]) := by
              rcases hso with hso | rfl
              · exact k4.old _ _ hso hg3
              · rcases hv3 with ⟨_, rfl⟩ | ⟨hc, _⟩
                · have : s4 = s3.add (.row 1 DT 18 (flat [Dc.val (Dc.mk nm [(no, t)])])) := by
                    have x1 := e4 (β := St) fun _ s _ => some s
                    have x2 := row_first (O := orc vE) (st := s3) (i := docTI) (e := DT) (v := Dc.val (Dc.mk nm [(no, t)])) (u := Dc.val (Dc.mk nm [(no, t)])) (docN_fit (Dc.pt _)) rfl rfl (β := St) fun _ s _ => some s
                    rw [x2] at x1
                    injection x1 with x1
                    exact x1.symm
                  rw [this]
                  exact St.get_add_old hg3
                · cases hc
            have hr4 : s4.ro = 0 := by rw [k4.ro, hr3]
            obtain ⟨s5, g5, k5, n5, fx5, e5⟩ := var_put (O := orc vE) (.gs ow' 18 (ds ++ [Dc.mk nm [(no, t)]]).length) hg4 (z := 1) (cs := [.gs ow' 18 (ds ++ [Dc.mk nm [(no, t)]]).length]) rfl rfl (by rw [hr4]; exact Nat.zero_le _)
            have hne4 : ow' ≠ sp := by
              rintro rfl
              rw [hg4] at g4; cases g4
            have ag : ∀ {β : Type} (K : Option β), asOne (.gs ow' 18 (ds ++ [Dc.mk nm [(no, t)]]).length) K = K := fun K => rfl
            have art : ∀ {β : Type} (K : Option β), asOne (rp t) K = K := fun K => rfl
            refine ⟨s5, wide_of ((w9_eq _ _ _ _ _).trans ?_), fun h => absurd rfl h, fun _ => ⟨t, ow', wt, tt, ⟨by rw [k5.ro, hr4], _, g5, .inr ⟨rfl, k5.of_ne hne4 g4⟩⟩, ?_, ?_⟩⟩
            · have e4' : ∀ {β : Type} (K : Kv β), planS (orc vE) (rowAppendP docTI DT v [.agg (docC nm [(no, rp t)])]) s3 K = K (.gs ow' 18 (ds ++ [Dc.mk nm [(no, t)]]).length) s4 fx4 := fun K => e4 K
              simp only [w9, asS_str, asI_int, nil_mp, ifB_false, cf, ifB_decide, if_neg q, notNil_mp, chk_true, fldA_mp, Nat.add_zero, l1, ln, if_neg q2, call_bad, hb, asB_bool, co, unT_tup, nthS_zero, nthS_one, ifB_bne, if_true, cv, hvd, ifB_not, ifB_true, letSt_eq]
              refine (e2 _).trans ?_
              simp only [art, cp, l3, ld]
              simp only [docC, docN, docS, unA_agg, unc_cons, asS_str, asI_int, un0_nil, ao, fo]
              refine (e4' _).trans ?_
              simp only [ap4, Bool.and_self, chk_true, ag, e5]
              rfl
            · refine Keeps.trans (p := fun j => j = sp ∨ j = ow) (k1.weak fun _ f => f.elim) ?_
              have a : Keeps s1 s3 (fun _ => False) := Keeps.fresh k2 k3 (Nat.le_refl _)
              exact (a.weak fun _ f => f.elim).trans ((k4.weak fun j hj => .inr hj).trans (k5.weak fun j hj => .inl hj))
            · rcases hw4 with hw4 | hw4
              · exact .inl hw4
              · right
                have a1 := k1.h; have a2 := k2.h; have a3 := k3.h
                omega
end
theorem doneT_err {s : B} {c : Chg} {e : Nat} (h : doneT s c = .error e) : e ≠ 0 := by
  unfold doneT at h
  cases hp : placeT s c with
  | error e' =>
    rw [hp] at h
    cases h
    unfold placeT at hp
    split at hp
    · cases hp
    · split at hp
      · split at hp
        · cases hp; decide
        · cases hp
      · cases hp; decide
  | ok p =>
    obtain ⟨a, b⟩ := p
    rw [hp] at h
    simp only at h
    split at h
    · cases h; decide
    · split at h
      · cases h
      · cases h; decide
theorem doneL_err : ∀ {l : List Chg} {s : B} {e : Nat}, doneL s l = .error e → e ≠ 0
  | [], _, _, h => by cases h
  | c :: l, s, e, h => by
    unfold doneL at h
    cases hd : doneT s c with
    | error e' =>
      rw [hd] at h
      cases h
      exact doneT_err hd
    | ok u =>
      rw [hd] at h
      exact doneL_err h
theorem chg_loop {x : AV} {cs : List Chg} (hx : IsSl 6 x (cs.map chgV)) (hcl : ∀ c ∈ cs, c.text.length ≤ 1000000) (no : Int) (s13 : St) (hlen : cs.length ≤ 1000000) : ∀ (m : List Chg) (i : Nat) (st : St) (t : T), cs.drop i = m → st.ro = 0 → st.get s13.h = .ok (.cells VT [.int .i64 no, rp t]) → WF t → t.size ≤ 65536 →
    ∃ r n st', loopO (w10_L1 x s13 cs.length) ([.int .i64 0, .int .i64 (i : Int)], st) = some (r, [.int .i64 n], st') ∧ Keeps st st' (· = s13.h) ∧
      match doneL t.text m with
      | .error e => r = 1 ∧ n = (e : Int)
      | .ok u => r = 0 ∧ ∃ t' : T, WF t' ∧ t'.size ≤ 65536 ∧ t'.text = u ∧ st'.get s13.h = .ok (.cells VT [.int .i64 no, rp t'])
  | [], i, st, t, hd, hr, hg, w, hs => by
    have := List.drop_eq_nil_iff.1 hd
    have q : ¬ (i : Int) < (cs.length : Int) := by omega
    refine ⟨0, 0, st, loopO_inr ?_, Keeps.refl _ _, rfl, t, w, hs, rfl, hg⟩
    simp only [w10_L1, unc_cons, asI_int, un0_nil, ifB_decide, if_neg q]
  | c :: m, i, st, t, hd, hr, hg, w, hs => by
    obtain ⟨hgt, hdr, hlt⟩ := drop_cons hd
    have q : (i : Int) < (cs.length : Int) := by omega
    have hg2 : (cs.map chgV)[i]? = some (chgV c) := by rw [List.getElem?_map, hgt]; rfl
    have ix : ∀ {β : Type} (K : AV → List Nat → Option β), idxA 6 x (i : Int) st K = K (.ip [.bool c.whole, .int .i64 c.l1, .int .i64 c.c1, .int .i64 c.l2, .int .i64 c.c2, .str c.text]) [] := fun K => hx.idx hg2 st K
    have tk6 : ∀ {β : Type} (a b c d e f : AV) (K : AV → Option β), bindO (takeO 6 true [a, b, c, d, e, f]) K = K (.agg [a, b, c, d, e, f]) := fun _ _ _ _ _ _ _ => rfl
    obtain ⟨s1, g1, k1, n1, fx1, e1⟩ := local_var (O := orc vE) (st := st) (t := 75) (z := 6) (old := [.bool false, .int .i64 0, .int .i64 0, .int .i64 0, .int .i64 0, .str []]) (cs := [.bool c.whole, .int .i64 c.l1, .int .i64 c.c1, .int .i64 c.l2, .int .i64 c.c2, .str c.text]) (.agg [.bool c.whole, .int .i64 c.l1, .int .i64 c.c1, .int .i64 c.l2, .int .i64 c.c2, .str c.text]) rfl rfl (by rw [hr]; exact Nat.zero_le _)
    have gv := k1.old _ _ (fun f => f) hg
    have l1 : ∀ {β : Type} (K : AV → List Nat → Option β), loadS 1 false (.mp s13.h 1) s1 K = K (rp t) [s13.h] := fun K => by rw [loadS_mp gv]; rfl
    have l2 : ∀ {β : Type} (K : AV → List Nat → Option β), loadS 6 true (.mp st.h 0) s1 K = K (.agg [.bool c.whole, .int .i64 c.l1, .int .i64 c.c1, .int .i64 c.l2, .int .i64 c.c2, .str c.text]) [st.h] := fun K => by rw [loadS_mp g1]; rfl
    obtain ⟨r, er, hr2⟩ := change_ok w hs c (hcl c (List.mem_of_getElem? hgt))
    have cc : ∀ {β : Type} (st : St) (K : Kv β), callS (orc vE) 32 [rp t, .agg [.bool c.whole, .int .i64 c.l1, .int .i64 c.c1, .int .i64 c.l2, .int .i64 c.c2, .str c.text]] st K = K r st q0 := fun st K => callS_bare st K rfl rfl rfl er
    have hw : IntKind.wrap .i64 ((i : Int) + 1) = ((i + 1 : Nat) : Int) := wrapA1 (by omega)
    have put : ∀ (y : AV), ∃ s2 fx, s2.get s13.h = .ok (.cells VT [.int .i64 no, y]) ∧ Keeps s1 s2 (· = s13.h) ∧ ∀ {β : Type} (K : Kv β), storeS (orc vE) 1 (.mp s13.h 1) y [y] s1 K = K VM.undef s2 fx := fun y => by
      refine ⟨s1.put s13.h (.cells VT [.int .i64 no, y]), ⟨[s13.h], .wrote s13.h (.cells VT [.int .i64 no, y])⟩, St.get_put_same (St.get_ok.1 gv).1, Keeps.put rfl, fun K => ?_⟩
      rw [storeS_at (z := 1) gv rfl (by show 1 + 1 ≤ 2; omega) (by rw [k1.ro, hr]; exact Nat.zero_le _)]
      rfl
    unfold ChgR at hr2
    unfold doneL
    cases hdt : doneT t.text c with
    | error e =>
      rw [hdt] at hr2
      obtain ⟨he, rfl⟩ := hr2
      obtain ⟨s2, fx2, g2, k2, e2⟩ := put .nilp
      have qe : ¬ (e : Int) = 0 := by omega
      refine ⟨1, (e : Int), s2, loopO_inr ?_, (k1.weak fun _ f => f.elim).trans k2, rfl, rfl⟩
      simp only [w10_L1, unc_cons, asI_int, asB_bool, asS_str, un0_nil, ifB_decide, if_pos q, ix, loadS_ip, tk6, unA_agg, letSt_eq, e1, l1, l2, cc, unT_tup, nthS_zero, nthS_one, asOne_nilp, e2, ifB_bne, if_neg qe]
    | ok u =>
      rw [hdt] at hr2
      obtain ⟨t1, w1, tt1, rfl⟩ := hr2
      have hs1 : t1.size ≤ 65536 := by
        have := doneT_len hdt
        rw [← size_text, tt1]; exact this
      obtain ⟨s2, fx2, g2, k2, e2⟩ := put (rp t1)
      have kk : Keeps st s2 (· = s13.h) := (k1.weak fun _ f => f.elim).trans k2
      obtain ⟨r, n, st', e, k3, hm⟩ := chg_loop hx hcl no s13 hlen m (i + 1) s2 t1 hdr (by rw [kk.ro, hr]) g2 w1 hs1
      rw [tt1] at hm
      have art : ∀ {β : Type} (K : Option β), asOne (rp t1) K = K := fun K => rfl
      refine ⟨r, n, st', (loopO_inl ?_).trans e, kk.trans k3, hm⟩
      simp only [w10_L1, unc_cons, asI_int, asB_bool, asS_str, un0_nil, ifB_decide, if_pos q, ix, loadS_ip, tk6, unA_agg, letSt_eq, e1, l1, l2, cc, unT_tup, nthS_zero, nthS_one, art, e2, ifB_bne, if_true, letV_eq, hw]
def changeE (ds : List Dc) (nm : B) (no : Int) (cs : List Chg) : Except Nat (Nat × B) :=
  match findN nm ds 0 with
  | none => .error 5
  | some i => if badN no = true then .error 1 else match (ds[i]?).bind fun d => d.vs.getLast? with
    | none => .error 5
    | some v => if no ≤ v.1 then .error 67 else match doneL v.2.text cs with
      | .error e => .error e
      | .ok u => .ok (i, u)
section
variable {st st' : St} {sp ow : Nat} {ds : List Dc}
theorem last_of {d : Dc} (ok : DcOk d) : ∃ v, d.vs.getLast? = some v := by
  cases e : d.vs.getLast? with
  | none => exact absurd (List.getLast?_eq_none_iff.1 e) ok.some
  | some v => exact ⟨v, rfl⟩
theorem changeS_ok (h : Sto st sp ow ds) (hok : ∀ d ∈ ds, DcOk d) (hl : ds.length ≤ 1000000) (nm : B) (no : Int) {x : AV} {cs : List Chg} (hx : IsSl 6 x (cs.map chgV)) (hcl : ∀ c ∈ cs, c.text.length ≤ 1000000) (hlen : cs.length ≤ 1000000) :
    match changeE ds nm no cs with
    | .error e => e ≠ 0 ∧ ∃ st', (orc vE).wide 10 [.mp sp 0, .str nm, .int .i64 no, x] st = some (.int .i64 (e : Int), st') ∧ Keeps st st' (fun _ => False)
    | .ok (i, u) => ∃ (t : T) (d : Dc) (st' : St), ds[i]? = some d ∧ d.nm = nm ∧ WF t ∧ t.size ≤ 65536 ∧ t.text = u ∧ (orc vE).wide 10 [.mp sp 0, .str nm, .int .i64 no, x] st = some (.int .i64 0, st') ∧ Sto st' sp ow (ds.set i ⟨d.nm, d.vs ++ [(no, t)]⟩) ∧ Keeps st st' (· = ow) := by
  obtain ⟨s1, e1, k1⟩ := find_ok h hl nm
  have h1 := h.keeps k1
  have cf := fun {β : Type} (K : Kv β) => call_find e1 K
  unfold findI at cf
  unfold changeE
  cases hf : findN nm ds 0 with
  | none =>
    rw [hf] at cf
    have q : (-1 : Int) < 0 := by omega
    refine ⟨by decide, s1, wide_of ((w10_eq _ _ _ _ _).trans ?_), k1⟩
    simp only [w10, asS_str, asI_int, nil_mp, ifB_false, cf, ifB_decide, if_pos q]
    rfl
  | some k =>
    rw [hf] at cf
    obtain ⟨_, d, hd, hdn⟩ := findN_some hf
    rw [Nat.sub_zero] at hd
    have hlt : k < ds.length := by
      by_cases hi : k < ds.length
      · exact hi
      · rw [List.getElem?_eq_none (by omega)] at hd; cases hd
    have ok := hok d (List.mem_of_getElem? hd)
    obtain ⟨v, hv⟩ := last_of ok
    obtain ⟨w, hs⟩ := ok.wf v (List.mem_of_getLast? hv)
    obtain ⟨hg1, hw1⟩ := h1.row hd
    obtain ⟨s2, k2, cl⟩ := call_last h1 hd ok hv
    have h2 := h1.keeps k2
    obtain ⟨s3, g3, k3, n3, fx3, e3⟩ := local_var (O := orc vE) (st := s2) (t := VT) (z := 2) (old := [.int .i64 0, .nilp]) (cs := [.int .i64 v.1, rp v.2]) (.agg [.int .i64 v.1, rp v.2]) rfl rfl h2.ro
    have h3 := h2.keeps k3
    have q : ¬ (k : Int) < 0 := by omega
    have l1 : ∀ {β : Type} (K : AV → List Nat → Option β), loadS 1 false (.mp sp 0) s1 K = K (.gs ow 18 ds.length) [sp] := fun K => by rw [loadS_mp hg1]; rfl
    have ix := fun {β : Type} (K : AV → List Nat → Option β) => idxA_gs hw1 hlt K
    have art : ∀ (t : T) {β : Type} (K : Option β), asOne (rp t) K = K := fun t _ K => rfl
    have l3 : ∀ {β : Type} (K : AV → List Nat → Option β), loadS 1 false (.mp s2.h 0) s3 K = K (.int .i64 v.1) [s2.h] := fun K => by rw [loadS_mp g3]; rfl
    have k13 : Keeps st s3 (fun _ => False) := (k1.trans k2).trans k3
    simp only [hd, Option.bind_some, hv]
    cases hb : badN no with
    | true =>
      refine ⟨by decide, s3, wide_of ((w10_eq _ _ _ _ _).trans ?_), k13⟩
      simp only [w10, asS_str, asI_int, nil_mp, ifB_false, cf, ifB_decide, if_neg q, notNil_mp, chk_true, fldA_mp, Nat.add_zero, l1, ix, cl, unA_agg, unc_cons, un0_nil, letSt_eq, art, e3, call_bad, hb, asB_bool, ifB_true]
      rfl
    | false =>
      simp only [Bool.false_eq_true, if_false]
      by_cases hno : no ≤ v.1
      · rw [if_pos hno]
        refine ⟨by decide, s3, wide_of ((w10_eq _ _ _ _ _).trans ?_), k13⟩
        simp only [w10, asS_str, asI_int, nil_mp, ifB_false, cf, ifB_decide, if_neg q, notNil_mp, chk_true, fldA_mp, Nat.add_zero, l1, ix, cl, unA_agg, unc_cons, un0_nil, letSt_eq, art, e3, call_bad, hb, asB_bool, l3, if_pos hno]
        rfl
      · rw [if_neg hno]
        obtain ⟨r, n, s4, e4, k4, hm⟩ := chg_loop hx hcl v.1 s2 hlen cs 0 s3 v.2 rfl h3.1 g3 w hs
        have e4 : loopO (w10_L1 x s2 cs.length) ([.int .i64 0, .int .i64 0], s3) = _ := e4
        have hlx : ∀ {β : Type} (K : Nat → Option β), lenS x K = K cs.length := fun K => by rw [hx.len, List.length_map]
        have ks : Keeps s2 s4 (fun _ => False) := Keeps.fresh k3 k4 (Nat.le_refl _)
        cases hdl : doneL v.2.text cs with
        | error e =>
          rw [hdl] at hm
          obtain ⟨hm, hn⟩ : r = 1 ∧ n = (e : Int) := hm
          subst hm; subst hn
          refine ⟨doneL_err hdl, s4, wide_of ((w10_eq _ _ _ _ _).trans ?_), (k1.trans k2).trans ks⟩
          simp only [w10, asS_str, asI_int, nil_mp, ifB_false, cf, ifB_decide, if_neg q, notNil_mp, chk_true, fldA_mp, Nat.add_zero, l1, ix, cl, unA_agg, unc_cons, un0_nil, letSt_eq, art, e3, call_bad, hb, asB_bool, l3, if_neg hno, hlx, e4, bindO_ok, sel2_one]
        | ok u =>
          rw [hdl] at hm
          obtain ⟨hm, t, wt, st4, tt, g4⟩ := hm
          have hm : r = 0 := hm
          subst hm
          have h4 : Sto s4 sp ow ds := h2.keeps ks
          obtain ⟨hg4, hw4⟩ := h4.row hd
          have hst : ∀ {β : Type} (K : Kv β), storeS (orc vE) 1 (.mp s2.h 0) (.int .i64 no) [.int .i64 no] s4 K = K VM.undef (s4.put s2.h (.cells VT [.int .i64 no, rp t])) ⟨[s2.h], .wrote s2.h (.cells VT [.int .i64 no, rp t])⟩ := fun K => by
            rw [storeS_at (z := 1) g4 rfl (by show 0 + 1 ≤ 2; omega) (by rw [h4.1]; exact Nat.zero_le _)]
            rfl
          have k5 : Keeps s4 (s4.put s2.h (.cells VT [.int .i64 no, rp t])) (· = s2.h) := Keeps.put rfl
          have g5 : (s4.put s2.h (.cells VT [.int .i64 no, rp t])).get s2.h = .ok (.cells VT [.int .i64 no, rp t]) := St.get_put_same (St.get_ok.1 g4).1
          have ks5 : Keeps s2 (s4.put s2.h (.cells VT [.int .i64 no, rp t])) (fun _ => False) := Keeps.fresh ks k5 (Nat.le_refl _)
          generalize s4.put s2.h (.cells VT [.int .i64 no, rp t]) = s5 at hst k5 g5 ks5
          have h5 : Sto s5 sp ow ds := h2.keeps ks5
          obtain ⟨hg5, hw5⟩ := h5.row hd
          have l5 : ∀ {β : Type} (K : AV → List Nat → Option β), loadS 1 false (.mp sp 0) s5 K = K (.gs ow 18 ds.length) [sp] := fun K => by rw [loadS_mp hg5]; rfl
          have ix5 := fun {β : Type} (K : AV → List Nat → Option β) => idxA_gs hw5 hlt K
          have l6 : ∀ {β : Type} (K : AV → List Nat → Option β), loadS 2 true (.mp s2.h 0) s5 K = K (.agg [.int .i64 no, rp t]) [s2.h] := fun K => by rw [loadS_mp g5]; rfl
          obtain ⟨s6, e6, hp6, k6, n6⟩ := put_ok (h5.doc hd) (v := (no, rp t)) (.inr ⟨_, rfl⟩) (by rw [d.pv_len]; have := ok.len; omega)
          have e6 : (orc vE).wide 30 [.gp ow ds.length (k * 18), .agg [.int .i64 no, rp t]] s5 = some (.tup [], s6) := e6
          have cp : ∀ {β : Type} (K : Kv β), callS (orc vE) 30 [.gp ow ds.length (k * 18), .agg [.int .i64 no, rp t]] s5 K = K (.tup []) s6 ⟨[], .all s5 s6⟩ := fun K => callS_wide K rfl (bares_gp _ _ _ _ _) e6
          have hne : sp ≠ ow := by
            rintro rfl
            rw [hg5] at hw5; cases hw5
          have k6 : Keeps s5 s6 (· = ow) := k6
          refine ⟨t, d, s6, hd, hdn, wt, st4, tt, wide_of ((w10_eq _ _ _ _ _).trans ?_), ⟨by rw [k6.ro]; exact h5.1, .gs ow 18 ds.length, k6.of_ne hne hg5, .inr ⟨by rw [List.length_set], ?_⟩⟩, ?_⟩
          · simp only [w10, asS_str, asI_int, nil_mp, ifB_false, cf, ifB_decide, if_neg q, notNil_mp, chk_true, fldA_mp, Nat.add_zero, l1, ix, cl, unA_agg, unc_cons, un0_nil, letSt_eq, art, e3, call_bad, hb, asB_bool, l3, if_neg hno, hlx, e4, bindO_ok, sel2_zero, hst, l5, ix5, l6, cp]
          · have hw6 := hp6.2.2.1
            have em : (ds.set k ⟨d.nm, d.vs ++ [(no, t)]⟩).map Dc.val = (ds.map Dc.val).set k (.agg (docC d.nm (d.pv ++ [(no, rp t)]))) := by
              rw [List.map_set]
              congr 1
              unfold Dc.val Dc.pv
              rw [List.map_append]
              rfl
            rw [em, List.length_set]
            exact hw6
          · exact ((k1.trans k2).weak fun _ f => f.elim).trans ((ks5.weak fun _ f => f.elim).trans k6)
end
structure Stp where
  kind : Int
  name : B
  no : Int
  text : B
  cs : List Chg
def StpV (s : Stp) (e : AV) : Prop := ∃ v, IsSl 6 v (s.cs.map chgV) ∧ e = .agg [.int .u8 s.kind, .str s.name, .int .i64 s.no, .str s.text, v]
def StpsV : List Stp → List AV → Prop
  | [], [] => True
  | s :: l, e :: es => StpV s e ∧ StpsV l es
  | _, _ => False
theorem stps_at : ∀ {l : List Stp} {es : List AV}, StpsV l es → ∀ {i : Nat} {s : Stp}, l[i]? = some s → ∃ e, es[i]? = some e ∧ StpV s e
  | s :: l, e :: es, h, 0, s', hs => by
    simp only [List.getElem?_cons_zero, Option.some.injEq] at hs
    subst hs
    exact ⟨e, rfl, h.1⟩
  | s :: l, e :: es, h, i + 1, s', hs => by
    obtain ⟨e', h1, h2⟩ := stps_at h.2 (show l[i]? = some s' by simpa using hs)
    exact ⟨e', by simpa using h1, h2⟩
  | [], _, _, i, _, hs => by simp at hs
  | _ :: _, [], h, _, _, _ => by cases h
theorem stps_len : ∀ {l : List Stp} {es : List AV}, StpsV l es → es.length = l.length
  | [], [], _ => rfl
  | _ :: l, _ :: es, h => by rw [List.length_cons, List.length_cons, stps_len h.2]
  | [], _ :: _, h => by cases h
  | _ :: _, [], h => by cases h
def inN : Nat → List Chg → Nat
  | n, [] => n
  | n, c :: l => if n < 3000 then inN (n + 1 + min c.text.length 3000) l else n
def outN : Nat → List Stp → Option Nat
  | n, [] => some n
  | n, s :: l => if n < 3000 then (if 3000 < s.text.length ∨ 3000 < s.name.length then none else outN (inN (n + 1 + s.text.length + s.name.length) s.cs) l) else some n
def largeS (ss : List Stp) : Bool := match outN 0 ss with
  | none => true
  | some n => decide (3000 ≤ n) || decide (60 < ss.length)
theorem inN_le : ∀ (l : List Chg) (n : Nat), n ≤ 10000 → inN n l ≤ 10000
  | [], n, h => h
  | c :: l, n, h => by
    unfold inN
    split
    · exact inN_le l _ (by omega)
    · exact h
theorem inN_ge : ∀ (l : List Chg) (n : Nat), n ≤ inN n l
  | [], n => Nat.le_refl _
  | c :: l, n => by
    unfold inN
    split
    · have := inN_ge l (n + 1 + min c.text.length 3000); omega
    · exact Nat.le_refl _
theorem inN_small : ∀ {l : List Chg} {n : Nat}, inN n l < 3000 → (∀ c ∈ l, c.text.length < 3000) ∧ n + l.length ≤ inN n l
  | [], n, h => ⟨fun _ hc => (by cases hc), Nat.le_refl _⟩
  | c :: l, n, h => by
    unfold inN at h ⊢
    by_cases hn : n < 3000
    · rw [if_pos hn] at h ⊢
      obtain ⟨h1, h2⟩ := inN_small h
      have := inN_ge l (n + 1 + min c.text.length 3000)
      refine ⟨fun d hd => ?_, by rw [List.length_cons]; omega⟩
      rcases List.mem_cons.1 hd with rfl | hd
      · omega
      · exact h1 d hd
    · rw [if_neg hn] at h; omega
theorem outN_small : ∀ {l : List Stp} {n k : Nat}, outN n l = some k → k < 3000 → ∀ s ∈ l, s.text.length ≤ 3000 ∧ s.name.length ≤ 3000 ∧ s.cs.length < 3000 ∧ ∀ c ∈ s.cs, c.text.length < 3000
  | [], _, _, _, _, _, hs => by cases hs
  | s :: l, n, k, h, hk, u, hu => by
    have big : ∀ {l : List Stp} {n k : Nat}, outN n l = some k → n ≤ k := by
      intro l
      induction l with
      | nil => intro n k h; unfold outN at h; cases h; exact Nat.le_refl _
      | cons s l ih =>
        intro n k h
        unfold outN at h
        split at h
        · split at h
          · cases h
          · have h1 := ih h
            have h2 := inN_ge s.cs (n + 1 + s.text.length + s.name.length)
            omega
        · cases h; exact Nat.le_refl _
    unfold outN at h
    split at h
    · split at h
      · cases h
      · rename_i hg
        rw [not_or] at hg
        have hb := big h
        obtain ⟨h1, h2⟩ := inN_small (show inN (n + 1 + s.text.length + s.name.length) s.cs < 3000 by omega)
        rcases List.mem_cons.1 hu with rfl | hu
        · exact ⟨by omega, by omega, by omega, h1⟩
        · exact outN_small h hk u hu
    · cases h; omega
theorem largeS_small {ss : List Stp} (h : largeS ss = false) : ss.length ≤ 60 ∧ ∀ s ∈ ss, s.text.length ≤ 3000 ∧ s.name.length ≤ 3000 ∧ s.cs.length < 3000 ∧ ∀ c ∈ s.cs, c.text.length < 3000 := by
  unfold largeS at h
  cases ho : outN 0 ss with
  | none => rw [ho] at h; cases h
  | some k =>
    rw [ho] at h
    simp only [Bool.or_eq_false_iff, decide_eq_false_iff_not] at h
    exact ⟨by omega, outN_small ho (by omega)⟩
section
variable {x : AV} {es : List AV} {ss : List Stp}
theorem tk1 {β : Type} (v : AV) (l : List AV) (K : AV → Option β) : bindO (takeO 1 false (v :: l)) K = K v := rfl
theorem in_loop (hx : IsSl 5 x es) {i : Nat} {s : Stp} {v : AV} (hg : es[i]? = some (.agg [.int .u8 s.kind, .str s.name, .int .i64 s.no, .str s.text, v])) (hv : IsSl 6 v (s.cs.map chgV)) (st : St) : ∀ (m : List Chg) (k n : Nat), s.cs.drop k = m → n ≤ 10000 →
    ∃ k', loopO (g4_L1 x (i : Int)) ([.int .i64 (n : Int), .int .i64 (k : Int)], st) = some (k', [.int .i64 (inN n m : Int)], st)
  | [], k, n, hd, hn => by
    have := List.drop_eq_nil_iff.1 hd
    have q : ¬ (k : Int) < (s.cs.length : Int) := by omega
    have ix : ∀ {β : Type} (K : AV → List Nat → Option β), idxA 5 x (i : Int) st K = K (.ip [.int .u8 s.kind, .str s.name, .int .i64 s.no, .str s.text, v]) [] := fun K => hx.idx hg st K
    have hl : ∀ {β : Type} (K : Nat → Option β), lenS v K = K s.cs.length := fun K => by rw [hv.len, List.length_map]
    refine ⟨0, loopO_inr ?_⟩
    simp only [g4_L1, unc_cons, asI_int, un0_nil, ix, fldA_ip, drop4, loadS_ip, tk1, hl, ifB_decide, if_neg q, bindO_ok, asB_bool, ifB_false, inN]
  | c :: m, k, n, hd, hn => by
    obtain ⟨hgt, hdr, hlt⟩ := drop_cons hd
    have q : (k : Int) < (s.cs.length : Int) := by omega
    have ix : ∀ {β : Type} (K : AV → List Nat → Option β), idxA 5 x (i : Int) st K = K (.ip [.int .u8 s.kind, .str s.name, .int .i64 s.no, .str s.text, v]) [] := fun K => hx.idx hg st K
    have hl : ∀ {β : Type} (K : Nat → Option β), lenS v K = K s.cs.length := fun K => by rw [hv.len, List.length_map]
    have hg2 : (s.cs.map chgV)[k]? = some (chgV c) := by rw [List.getElem?_map, hgt]; rfl
    have ix2 : ∀ {β : Type} (K : AV → List Nat → Option β), idxA 6 v (k : Int) st K = K (.ip [.bool c.whole, .int .i64 c.l1, .int .i64 c.c1, .int .i64 c.l2, .int .i64 c.c2, .str c.text]) [] := fun K => hv.idx hg2 st K
    unfold inN
    by_cases hlt3 : n < 3000
    · rw [if_pos hlt3]
      have q2 : (n : Int) < 3000 := by omega
      have hm : (if (3000 : Int) < (c.text.length : Int) then (3000 : Int) else (c.text.length : Int)) = ((min c.text.length 3000 : Nat) : Int) := by split <;> omega
      have w1 : IntKind.wrap .i64 ((n : Int) + 1) = ((n + 1 : Nat) : Int) := wrapA1 (by omega)
      have w2 : IntKind.wrap .i64 (((n + 1 : Nat) : Int) + ((min c.text.length 3000 : Nat) : Int)) = ((n + 1 + min c.text.length 3000 : Nat) : Int) := wrapA (by omega)
      have w3 : IntKind.wrap .i64 ((k : Int) + 1) = ((k + 1 : Nat) : Int) := wrapA1 (by
        have := hv.1; rw [List.length_map] at this; omega)
      obtain ⟨k', e⟩ := in_loop hx hg hv st m (k + 1) (n + 1 + min c.text.length 3000) hdr (by omega)
      refine ⟨k', (loopO_inl ?_).trans e⟩
      simp only [g4_L1, unc_cons, asI_int, un0_nil, ix, ix2, fldA_ip, drop4, drop5, loadS_ip, tk1, hl, ifB_decide, if_pos q, bindO_ok, asB_bool, if_pos q2, ifB_true, letV_eq, w1, asS_str, hm, w2, w3]
    · rw [if_neg hlt3]
      have q2 : ¬ (n : Int) < 3000 := by omega
      refine ⟨0, loopO_inr ?_⟩
      simp only [g4_L1, unc_cons, asI_int, un0_nil, ix, fldA_ip, drop4, loadS_ip, tk1, hl, ifB_decide, if_pos q, bindO_ok, asB_bool, if_neg q2, ifB_false]
theorem out_loop (hx : IsSl 5 x es) (hs : StpsV ss es) (st : St) : ∀ (m : List Stp) (i n : Nat), ss.drop i = m → n ≤ 10000 →
    ∃ r b k, loopO (g4_L2 x) ([.bool false, .int .i64 (n : Int), .int .i64 (i : Int)], st) = some (r, [.bool b, .int .i64 (k : Int)], st) ∧ match outN n m with | none => r = 1 ∧ b = true | some j => r = 0 ∧ k = (j : Int)
  | [], i, n, hd, hn => by
    have := List.drop_eq_nil_iff.1 hd
    have hln := stps_len hs
    have q : ¬ (i : Int) < (es.length : Int) := by omega
    refine ⟨0, false, (n : Int), loopO_inr ?_, rfl, rfl⟩
    simp only [g4_L2, unc_cons, asI_int, asB_bool, un0_nil, hx.len, ifB_decide, if_neg q, bindO_ok, ifB_false]
  | s :: m, i, n, hd, hn => by
    obtain ⟨hgt, hdr, hlt⟩ := drop_cons hd
    have hln := stps_len hs
    have q : (i : Int) < (es.length : Int) := by omega
    obtain ⟨e, he, v, hv, rfl⟩ := stps_at hs hgt
    have ix : ∀ {β : Type} (K : AV → List Nat → Option β), idxA 5 x (i : Int) st K = K (.ip [.int .u8 s.kind, .str s.name, .int .i64 s.no, .str s.text, v]) [] := fun K => hx.idx he st K
    unfold outN
    by_cases hlt3 : n < 3000
    · rw [if_pos hlt3]
      have q2 : (n : Int) < 3000 := by omega
      by_cases h1 : 3000 < s.text.length
      · rw [if_pos (.inl h1)]
        have q3 : (s.text.length : Int) > 3000 := by omega
        refine ⟨1, true, (n : Int), loopO_inr ?_, rfl, rfl⟩
        simp only [g4_L2, unc_cons, asI_int, asB_bool, un0_nil, hx.len, ifB_decide, if_pos q, bindO_ok, if_pos q2, ifB_true, ix, fldA_ip, drop3, loadS_ip, tk1, asS_str, if_pos q3]
      · have q3 : ¬ (s.text.length : Int) > 3000 := by omega
        by_cases h2 : 3000 < s.name.length
        · rw [if_pos (.inr h2)]
          have q4 : (s.name.length : Int) > 3000 := by omega
          refine ⟨1, true, (n : Int), loopO_inr ?_, rfl, rfl⟩
          simp only [g4_L2, unc_cons, asI_int, asB_bool, un0_nil, hx.len, ifB_decide, if_pos q, bindO_ok, if_pos q2, ifB_true, ix, fldA_ip, drop3, drop1, loadS_ip, tk1, asS_str, if_neg q3, if_pos q4]
        · rw [if_neg (by omega)]
          have q4 : ¬ (s.name.length : Int) > 3000 := by omega
          have w1 : IntKind.wrap .i64 ((n : Int) + 1) = ((n + 1 : Nat) : Int) := wrapA1 (by omega)
          have w2 : IntKind.wrap .i64 (((n + 1 : Nat) : Int) + (s.text.length : Int)) = ((n + 1 + s.text.length : Nat) : Int) := wrapA (by omega)
          have w3 : IntKind.wrap .i64 (((n + 1 + s.text.length : Nat) : Int) + (s.name.length : Int)) = ((n + 1 + s.text.length + s.name.length : Nat) : Int) := wrapA (by omega)
          have w4 : IntKind.wrap .i64 ((i : Int) + 1) = ((i + 1 : Nat) : Int) := wrapA1 (by have := hx.1; omega)
          obtain ⟨k', e1⟩ := in_loop hx he hv st s.cs 0 (n + 1 + s.text.length + s.name.length) rfl (by omega)
          have e1 : loopO (g4_L1 x (i : Int)) ([.int .i64 ((n + 1 + s.text.length + s.name.length : Nat) : Int), .int .i64 0], st) = _ := e1
          obtain ⟨r, b, k, e2, hm⟩ := out_loop hx hs st m (i + 1) (inN (n + 1 + s.text.length + s.name.length) s.cs) hdr (inN_le _ _ (by omega))
          refine ⟨r, b, k, (loopO_inl ?_).trans e2, hm⟩
          simp only [g4_L2, unc_cons, asI_int, asB_bool, un0_nil, hx.len, ifB_decide, if_pos q, bindO_ok, if_pos q2, ifB_true, ix, fldA_ip, drop3, drop1, loadS_ip, tk1, asS_str, if_neg q3, if_neg q4, ifB_false, letV_eq, w1, w2, w3, e1, w4]
    · rw [if_neg hlt3]
      have q2 : ¬ (n : Int) < 3000 := by omega
      refine ⟨0, false, (n : Int), loopO_inr ?_, rfl, rfl⟩
      simp only [g4_L2, unc_cons, asI_int, asB_bool, un0_nil, hx.len, ifB_decide, if_pos q, bindO_ok, if_neg q2, ifB_false]
theorem large_ok (hx : IsSl 5 x es) (hs : StpsV ss es) : (orc vE).bare 4 [x] = some (.bool (largeS ss)) := by
  refine bare_of rfl ((g4_eq _).trans ?_)
  obtain ⟨r, b, k, e, hm⟩ := out_loop hx hs (St.mk 0 0 Tr.leaf) ss 0 0 rfl (by omega)
  have e : loopO (g4_L2 x) ([.bool false, .int .i64 0, .int .i64 0], St.mk 0 0 Tr.leaf) = _ := e
  have hln := stps_len hs
  unfold largeS
  cases ho : outN 0 ss with
  | none =>
    rw [ho] at hm
    obtain ⟨rfl, rfl⟩ := hm
    simp only [g4, e, bindO_ok, unc_cons, asB_bool, asI_int, un0_nil, sel2_one]
  | some j =>
    rw [ho] at hm
    obtain ⟨rfl, rfl⟩ := hm
    by_cases hj : 3000 ≤ j
    · have q : (j : Int) ≥ 3000 := by omega
      simp only [g4, e, bindO_ok, unc_cons, asB_bool, asI_int, un0_nil, sel2_zero, ifB_decide, if_pos q, decide_eq_true hj, Bool.true_or]
    · have q : ¬ (j : Int) ≥ 3000 := by omega
      have q2 : decide ((es.length : Int) > 60) = decide (60 < ss.length) := by
        rw [hln]; exact decide_eq_decide.2 (by omega)
      simp only [g4, e, bindO_ok, unc_cons, asB_bool, asI_int, un0_nil, sel2_zero, ifB_decide, if_neg q, decide_eq_false hj, Bool.false_or, hx.len, q2]
theorem given_loop {cs : List Chg} (hx : IsSl 6 x (cs.map chgV)) (hlen : cs.length ≤ 1000000) : ∀ (m : List Chg) (i : Nat) (out : List Chg) (v : AV) (st : St), cs.drop i = m → Own st 6 75 v (out.map chgV) → out.length + m.length ≤ 1000000 →
    ∃ v' st', loopO (g11_L1 x) ([v, .int .i64 (i : Int)], st) = some (0, [v'], st') ∧ Own st' 6 75 v' ((out ++ m).map chgV)
  | [], i, out, v, st, hd, ho, hl => by
    have := List.drop_eq_nil_iff.1 hd
    have q : ¬ (i : Int) < ((cs.map chgV).length : Int) := by rw [List.length_map]; omega
    refine ⟨v, st, loopO_inr ?_, by simpa using ho⟩
    simp only [g11_L1, unc_cons, asI_int, un0_nil, hx.len, ifB_decide, if_neg q]
  | c :: m, i, out, v, st, hd, ho, hl => by
    obtain ⟨hgt, hdr, hlt⟩ := drop_cons hd
    have q : (i : Int) < ((cs.map chgV).length : Int) := by rw [List.length_map]; omega
    have hg2 : (cs.map chgV)[i]? = some (chgV c) := by rw [List.getElem?_map, hgt]; rfl
    have ix : ∀ {β : Type} (K : AV → List Nat → Option β), idxA 6 x (i : Int) st K = K (.ip [.bool c.whole, .int .i64 c.l1, .int .i64 c.c1, .int .i64 c.l2, .int .i64 c.c2, .str c.text]) [] := fun K => hx.idx hg2 st K
    have tk4 : ∀ {β : Type} (a b c d e : AV) (K : AV → Option β), bindO (takeO 4 true [a, b, c, d, e]) K = K (.agg [a, b, c, d]) := fun _ _ _ _ _ _ => rfl
    have w1 : IntKind.wrap .i64 ((i : Int) + 1) = ((i + 1 : Nat) : Int) := wrapA1 (by omega)
    obtain ⟨v1, s1, x1, ho1, k1, j1, _, e1⟩ := own_fx (b := 56) [chgV c] ho fun _ => room_of (by
      simp only [List.length_map, List.length_cons, List.length_nil] at hl ⊢; omega) (by omega) (by omega)
    have e1 : ∀ {β : Type} (K : Kv β), appS 6 56 75 v [.agg [.bool c.whole, .int .i64 c.l1, .int .i64 c.c1, .int .i64 c.l2, .int .i64 c.c2, .str c.text]] st K = K v1 s1 x1 := fun K => e1 K
    obtain ⟨v', st', e, o2⟩ := given_loop hx hlen m (i + 1) (out ++ [c]) v1 s1 hdr (by simpa using ho1) (by simp only [List.length_append, List.length_cons, List.length_nil] at hl ⊢; omega)
    refine ⟨v', st', (loopO_inl ?_).trans e, by simpa using o2⟩
    simp only [g11_L1, unc_cons, asI_int, un0_nil, hx.len, ifB_decide, if_pos q, ix, fldA_ip, List.drop_zero, drop1, drop5, loadS_ip, tk1, tk4, asB_bool, asS_str, unA_agg, e1, letV_eq, w1]
theorem given_ok {cs : List Chg} (hx : IsSl 6 x (cs.map chgV)) (hlen : cs.length ≤ 1000000) : ∃ y, (orc vE).bare 11 [x] = some y ∧ IsSl 6 y (cs.map chgV) := by
  obtain ⟨v', st', e, ho⟩ := given_loop hx hlen cs 0 [] .nils (St.mk 0 0 Tr.leaf) rfl (Own.nils (Nat.le_refl _) _ _) (by simpa using hlen)
  have e : loopO (g11_L1 x) ([.nils, .int .i64 0], St.mk 0 0 Tr.leaf) = _ := e
  obtain ⟨y, hy, hf⟩ := frz_own (β := AV) ho
  refine ⟨y, bare_of rfl ((g11_eq _).trans ?_), hy⟩
  simp only [g11, e, bindO_ok, unc_cons, un0_nil, oneOf_one, hf]
theorem call_given {cs : List Chg} (hx : IsSl 6 x (cs.map chgV)) (hlen : cs.length ≤ 1000000) : ∃ y, IsSl 6 y (cs.map chgV) ∧ ∀ {β : Type} (st : St) (K : Kv β), callS (orc vE) 11 [x] st K = K y st q0 := by
  obtain ⟨y, e, hy⟩ := given_ok hx hlen
  exact ⟨y, hy, fun st K => callS_bare st K rfl (by simp only [List.map_cons, List.map_nil, hx.strip]) (by simp only [bares_cons, hx.bare]; rfl) e⟩
end
section
variable {st st' : St} {sp ow : Nat} {ds : List Dc}
def lastT (ds : List Dc) (nm : B) : Int × B × Int := match findN nm ds 0 with
  | none => (0, [], 5)
  | some k => match (ds[k]?).bind fun d => d.vs.getLast? with
    | none => (0, [], 5)
    | some v => (v.1, v.2.text, 0)
theorem call_lastS (h : Sto st sp ow ds) (hok : ∀ d ∈ ds, DcOk d) (hl : ds.length ≤ 1000000) (nm : B) :
    ∃ st', Keeps st st' (fun _ => False) ∧ ∀ {β : Type} (K : Kv β), callS (orc vE) 21 [.mp sp 0, .str nm] st K = K (.tup [.int .i64 (lastT ds nm).1, .str (lastT ds nm).2.1, .int .i64 (lastT ds nm).2.2]) st' ⟨[], .all st st'⟩ := by
  obtain ⟨st', e, k⟩ := lastS_ok h hok hl nm
  refine ⟨st', k, fun K => callS_wide K rfl (bares_mp _ _ _ _) (e.trans ?_)⟩
  unfold lastT
  cases hf : findN nm ds 0 with
  | none => rfl
  | some i =>
    obtain ⟨_, d, hd, _⟩ := findN_some hf
    rw [Nat.sub_zero] at hd
    obtain ⟨v, hv⟩ := last_of (hok d (List.mem_of_getElem? hd))
    simp only [hd, Option.bind_some, hv]
end
def Dc.kept (d : Dc) : List (Int × T) := d.vs.drop (d.vs.length - 8)
def verF (no : Int) : List (Int × T) → Option T
  | [] => none
  | v :: l => if v.1 = no then some v.2 else verF no l
def docN' (nm : B) (ds : List Dc) : Option Dc := (findN nm ds 0).bind fun k => ds[k]?
def atT (ds : List Dc) (nm : B) (no : Int) : Option B := (docN' nm ds).bind fun d => (verF no d.kept).map T.text
structure DsOk (ds : List Dc) : Prop where
  ok : ∀ d ∈ ds, DcOk d
  len : ds.length ≤ 32
  apart : ds.Pairwise fun a b => a.nm ≠ b.nm
inductive Does (ds : List Dc) (s : Stp) : Nat → List Dc → Prop where
  | no (e : Nat) (h : e ≠ 0) : Does ds s e ds
  | opened (t : T) (w : WF t) (hs : t.size ≤ 65536) (hf : findN s.name ds 0 = none) (hl : ds.length < 32) (hn : badN s.no = false) : Does ds s 0 (ds ++ [⟨s.name, [(s.no, t)]⟩])
  | changed (i : Nat) (d : Dc) (v : Int × T) (t : T) (hk : s.kind = 1) (w : WF t) (hs : t.size ≤ 65536) (hf : findN s.name ds 0 = some i) (hd : ds[i]? = some d) (hv : d.vs.getLast? = some v) (hlt : v.1 < s.no) (hn : badN s.no = false) : Does ds s 0 (ds.set i ⟨d.nm, d.vs ++ [(s.no, t)]⟩)
  | closed (i : Nat) (hk : s.kind = 2) (hf : findN s.name ds 0 = some i) : Does ds s 0 (ds.eraseIdx i)
theorem findN_none {nm : B} : ∀ {l : List Dc} {i : Nat}, findN nm l i = none → ∀ d ∈ l, d.nm ≠ nm
  | [], _, _, _, h => by cases h
  | c :: l, i, h, d, hd => by
    unfold findN at h
    split at h
    · cases h
    · rcases List.mem_cons.1 hd with rfl | hd
      · assumption
      · exact findN_none h d hd
theorem find_doc {nm : B} {ds : List Dc} {i : Nat} (h : findN nm ds 0 = some i) : ∃ d, ds[i]? = some d ∧ d.nm = nm := by
  obtain ⟨_, d, hd, hn⟩ := findN_some h
  exact ⟨d, by simpa using hd, hn⟩
section
variable {ds ds' : List Dc} {s : Stp} {e : Nat}
theorem pair_erase {l : List Dc} (h : l.Pairwise fun a b => a.nm ≠ b.nm) (i : Nat) : (l.eraseIdx i).Pairwise fun a b => a.nm ≠ b.nm := h.sublist (List.eraseIdx_sublist l i)
theorem pair_set : ∀ {l : List Dc} (_ : l.Pairwise fun a b => a.nm ≠ b.nm) {i : Nat} {d x : Dc}, l[i]? = some d → x.nm = d.nm → (l.set i x).Pairwise fun a b => a.nm ≠ b.nm
  | [], _, _, _, _, hd, _ => by simp at hd
  | c :: l, h, 0, d, x, hd, hn => by
    simp only [List.getElem?_cons_zero, Option.some.injEq] at hd
    subst hd
    exact List.pairwise_cons.2 ⟨fun b hb => by rw [hn]; exact List.rel_of_pairwise_cons h hb, h.tail⟩
  | c :: l, h, i + 1, d, x, hd, hn => by
    have hd : l[i]? = some d := by simpa using hd
    refine List.pairwise_cons.2 ⟨fun b hb => ?_, pair_set h.tail hd hn⟩
    rcases List.mem_or_eq_of_mem_set hb with hb | rfl
    · exact List.rel_of_pairwise_cons h hb
    · rw [hn]; exact List.rel_of_pairwise_cons h (List.mem_of_getElem? hd)
theorem last_top : ∀ {l : List (Int × T)} {v : Int × T}, (l.Pairwise fun a b => a.1 < b.1) → l.getLast? = some v → ∀ u ∈ l, u.1 ≤ v.1
  | [], _, _, h, _, _ => by simp at h
  | [a], v, _, h, u, hu => by
    simp only [List.getLast?_singleton, Option.some.injEq] at h
    subst h
    rw [List.mem_singleton.1 hu]; exact Int.le_refl _
  | a :: b :: l, v, hp, h, u, hu => by
    have h : (b :: l).getLast? = some v := by simpa [List.getLast?_cons_cons] using h
    rcases List.mem_cons.1 hu with rfl | hu
    · have := List.rel_of_pairwise_cons hp (List.mem_of_getLast? h); omega
    · exact last_top hp.tail h u hu
theorem dc_app {d : Dc} (ok : DcOk d) {v : Int × T} (hv : d.vs.getLast? = some v) {no : Int} {t : T} (w : WF t) (hs : t.size ≤ 65536) (hlt : v.1 < no) (hn : badN no = false) : DcOk ⟨d.nm, d.vs ++ [(no, t)]⟩ := by
  refine ⟨by simp, ?_, ?_, ?_⟩
  · refine List.pairwise_append.2 ⟨ok.rise, List.pairwise_singleton _ _, fun a ha b hb => ?_⟩
    rw [List.mem_singleton.1 hb]
    have := last_top ok.rise hv a ha
    show a.1 < no
    omega
  · intro u hu
    rcases List.mem_append.1 hu with hu | hu
    · exact ok.nos u hu
    · rw [List.mem_singleton.1 hu]; exact badN_no hn
  · intro u hu
    rcases List.mem_append.1 hu with hu | hu
    · exact ok.wf u hu
    · rw [List.mem_singleton.1 hu]; exact ⟨w, hs⟩
theorem does_ok (h : DsOk ds) (hd : Does ds s e ds') : DsOk ds' := by
  cases hd with
  | no _ _ => exact h
  | opened t w hs hf hl hn =>
    refine ⟨fun d hd => ?_, by rw [List.length_append, List.length_singleton]; omega, List.pairwise_append.2 ⟨h.apart, List.pairwise_singleton _ _, fun a ha b hb => ?_⟩⟩
    · rcases List.mem_append.1 hd with hd | hd
      · exact h.ok d hd
      · rw [List.mem_singleton.1 hd]
        refine ⟨by simp, List.pairwise_singleton _ _, fun v hv => ?_, fun v hv => ?_⟩
        · rw [List.mem_singleton.1 hv]; exact badN_no hn
        · rw [List.mem_singleton.1 hv]; exact ⟨w, hs⟩
    · rw [List.mem_singleton.1 hb]; exact findN_none hf a ha
  | changed i d v t hk w hs hf hg hv hlt hn =>
    refine ⟨fun c hc => ?_, by rw [List.length_set]; exact h.len, pair_set h.apart hg rfl⟩
    rcases List.mem_or_eq_of_mem_set hc with hc | rfl
    · exact h.ok c hc
    · exact dc_app (h.ok d (List.mem_of_getElem? hg)) hv w hs hlt hn
  | closed i hk hf =>
    exact ⟨fun c hc => h.ok c (List.mem_of_mem_eraseIdx hc), Nat.le_trans (List.length_eraseIdx_le ds i) h.len, pair_erase h.apart i⟩
theorem kept_len (d : Dc) : d.kept.length ≤ 8 := by unfold Dc.kept; rw [List.length_drop]; omega
theorem kept_pos {d : Dc} (ok : DcOk d) : 1 ≤ d.kept.length := by
  have : d.vs.length ≠ 0 := fun h => ok.some (List.length_eq_zero_iff.1 h)
  unfold Dc.kept; rw [List.length_drop]; omega
end
end Go.Proofs.YtkknkhniadiapaaDoor.Vm
