/-
  A part of the proof.
-/
import Derived.Test.YthapbjoekpbhgaaGreatDoorVmCA
import Derived.Test.YthapbjoekpbhgaaGreatDoorVmCB
import Derived.Test.YthapbjoekpbhgaaGreatDoorVmCC
import Derived.Test.YthapbjoekpbhgaaGreatDoorVmBH
import Derived.Test.YthapbjoekpbhgaaGreatDoorVmBF
import Derived.Test.YthapbjoekpbhgaaGreatDoorVmBG
import Derived.Test.YthapbjoekpbhgaaGreatDoorRows
set_option maxRecDepth 1000000
set_option maxHeartbeats 0
set_option linter.unusedSimpArgs false
namespace Go.Proofs.YthapbjoekpbhgaaGreatDoor.Vm
open Go Go.VM Go.Proofs
noncomputable def vT : TT := Tr.of 8 (tiOf Tryz.prog)
theorem vT_ok : TOk Tryz.prog vT := tt_ok (d := 8) rfl
def vFl : List Nat := [3, 4, 5, 6, 7, 8, 9, 10, 11, 12, 13, 14, 15, 16, 17, 18, 19, 20, 21, 22, 23, 24, 25, 27, 28, 29, 30, 31, 32, 33, 34, 35, 36, 37, 38, 39, 40, 41, 43, 44, 45, 47, 48, 49, 50, 51, 52, 53, 54, 55, 56, 58, 59, 62, 63, 66, 67, 69, 70, 71, 72, 73, 74, 76, 77, 91, 92, 93, 94, 103, 104]
noncomputable def vF : Tr Func := Tr.of 7 (fnsOf Tryz.prog vFl)
theorem vF_ok : ∀ f fn, vF.get f = some fn → FnOk Tryz.prog f fn := fns_ok (by kernel_rfl)
noncomputable def vP : List (Nat × Prim) := [(42, (.lib libValid)), (46, (.lib (libAtoi 136))), (57, (.builderString 5)), (61, (.lib libTrimLeft)), (68, (.lib libDecode)), (75, (.copyCheck [(100, 2, 0), (101, 2, 0)])), (89, .indexByte)]
noncomputable def vG : Tr (List AV) := (.node (some [(.int .u8 (240)), (.int .u8 (240)), (.int .u8 (240)), (.int .u8 (240)), (.int .u8 (240)), (.int .u8 (240)), (.int .u8 (240)), (.int .u8 (240)), (.int .u8 (240)), (.int .u8 (240)), (.int .u8 (240)), (.int .u8 (240)), (.int .u8 (240)), (.int .u8 (240)), (.int .u8 (240)), (.int .u8 (240)), (.int .u8 (240)), (.int .u8 (240)), (.int .u8 (240)), (.int .u8 (240)), (.int .u8 (240)), (.int .u8 (240)), (.int .u8 (240)), (.int .u8 (240)), (.int .u8 (240)), (.int .u8 (240)), (.int .u8 (240)), (.int .u8 (240)), (.int .u8 (240)), (.int .u8 (240)), (.int .u8 (240)), (.int .u8 (240)), (.int .u8 (240)), (.int .u8 (240)), (.int .u8 (240)), (.int .u8 (240)), (.int .u8 (240)), (.int .u8 (240)), (.int .u8 (240)), (.int .u8 (240)), (.int .u8 (240)), (.int .u8 (240)), (.int .u8 (240)), (.int .u8 (240)), (.int .u8 (240)), (.int .u8 (240)), (.int .u8 (240)), (.int .u8 (240)), (.int .u8 (240)), (.int .u8 (240)), (.int .u8 (240)), (.int .u8 (240)), (.int .u8 (240)), (.int .u8 (240)), (.int .u8 (240)), (.int .u8 (240)), (.int .u8 (240)), (.int .u8 (240)), (.int .u8 (240)), (.int .u8 (240)), (.int .u8 (240)), (.int .u8 (240)), (.int .u8 (240)), (.int .u8 (240)), (.int .u8 (240)), (.int .u8 (240)), (.int .u8 (240)), (.int .u8 (240)), (.int .u8 (240)), (.int .u8 (240)), (.int .u8 (240)), (.int .u8 (240)), (.int .u8 (240)), (.int .u8 (240)), (.int .u8 (240)), (.int .u8 (240)), (.int .u8 (240)), (.int .u8 (240)), (.int .u8 (240)), (.int .u8 (240)), (.int .u8 (240)), (.int .u8 (240)), (.int .u8 (240)), (.int .u8 (240)), (.int .u8 (240)), (.int .u8 (240)), (.int .u8 (240)), (.int .u8 (240)), (.int .u8 (240)), (.int .u8 (240)), (.int .u8 (240)), (.int .u8 (240)), (.int .u8 (240)), (.int .u8 (240)), (.int .u8 (240)), (.int .u8 (240)), (.int .u8 (240)), (.int .u8 (240)), (.int .u8 (240)), (.int .u8 (240)), (.int .u8 (240)), (.int .u8 (240)), (.int .u8 (240)), (.int .u8 (240)), (.int .u8 (240)), (.int .u8 (240)), (.int .u8 (240)), (.int .u8 (240)), (.int .u8 (240)), (.int .u8 (240)), (.int .u8 (240)), (.int .u8 (240)), (.int .u8 (240)), (.int .u8 (240)), (.int .u8 (240)), (.int .u8 (240)), (.int .u8 (240)), (.int .u8 (240)), (.int .u8 (240)), (.int .u8 (240)), (.int .u8 (240)), (.int .u8 (240)), (.int .u8 (240)), (.int .u8 (240)), (.int .u8 (240)), (.int .u8 (240)), (.int .u8 (240)), (.int .u8 (240)), (.int .u8 (241)), (.int .u8 (241)), (.int .u8 (241)), (.int .u8 (241)), (.int .u8 (241)), (.int .u8 (241)), (.int .u8 (241)), (.int .u8 (241)), (.int .u8 (241)), (.int .u8 (241)), (.int .u8 (241)), (.int .u8 (241)), (.int .u8 (241)), (.int .u8 (241)), (.int .u8 (241)), (.int .u8 (241)), (.int .u8 (241)), (.int .u8 (241)), (.int .u8 (241)), (.int .u8 (241)), (.int .u8 (241)), (.int .u8 (241)), (.int .u8 (241)), (.int .u8 (241)), (.int .u8 (241)), (.int .u8 (241)), (.int .u8 (241)), (.int .u8 (241)), (.int .u8 (241)), (.int .u8 (241)), (.int .u8 (241)), (.int .u8 (241)), (.int .u8 (241)), (.int .u8 (241)), (.int .u8 (241)), (.int .u8 (241)), (.int .u8 (241)), (.int .u8 (241)), (.int .u8 (241)), (.int .u8 (241)), (.int .u8 (241)), (.int .u8 (241)), (.int .u8 (241)), (.int .u8 (241)), (.int .u8 (241)), (.int .u8 (241)), (.int .u8 (241)), (.int .u8 (241)), (.int .u8 (241)), (.int .u8 (241)), (.int .u8 (241)), (.int .u8 (241)), (.int .u8 (241)), (.int .u8 (241)), (.int .u8 (241)), (.int .u8 (241)), (.int .u8 (241)), (.int .u8 (241)), (.int .u8 (241)), (.int .u8 (241)), (.int .u8 (241)), (.int .u8 (241)), (.int .u8 (241)), (.int .u8 (241)), (.int .u8 (241)), (.int .u8 (241)), (.int .u8 (2)), (.int .u8 (2)), (.int .u8 (2)), (.int .u8 (2)), (.int .u8 (2)), (.int .u8 (2)), (.int .u8 (2)), (.int .u8 (2)), (.int .u8 (2)), (.int .u8 (2)), (.int .u8 (2)), (.int .u8 (2)), (.int .u8 (2)), (.int .u8 (2)), (.int .u8 (2)), (.int .u8 (2)), (.int .u8 (2)), (.int .u8 (2)), (.int .u8 (2)), (.int .u8 (2)), (.int .u8 (2)), (.int .u8 (2)), (.int .u8 (2)), (.int .u8 (2)), (.int .u8 (2)), (.int .u8 (2)), (.int .u8 (2)), (.int .u8 (2)), (.int .u8 (2)), (.int .u8 (2)), (.int .u8 (19)), (.int .u8 (3)), (.int .u8 (3)), (.int .u8 (3)), (.int .u8 (3)), (.int .u8 (3)), (.int .u8 (3)), (.int .u8 (3)), (.int .u8 (3)), (.int .u8 (3)), (.int .u8 (3)), (.int .u8 (3)), (.int .u8 (3)), (.int .u8 (35)), (.int .u8 (3)), (.int .u8 (3)), (.int .u8 (52)), (.int .u8 (4)), (.int .u8 (4)), (.int .u8 (4)), (.int .u8 (68)), (.int .u8 (241)), (.int .u8 (241)), (.int .u8 (241)), (.int .u8 (241)), (.int .u8 (241)), (.int .u8 (241)), (.int .u8 (241)), (.int .u8 (241)), (.int .u8 (241)), (.int .u8 (241)), (.int .u8 (241))]) (.node (some [(.int .u8 (128)), (.int .u8 (191)), (.int .u8 (160)), (.int .u8 (191)), (.int .u8 (128)), (.int .u8 (159)), (.int .u8 (144)), (.int .u8 (191)), (.int .u8 (128)), (.int .u8 (143)), (.int .u8 (0)), (.int .u8 (0)), (.int .u8 (0)), (.int .u8 (0)), (.int .u8 (0)), (.int .u8 (0)), (.int .u8 (0)), (.int .u8 (0)), (.int .u8 (0)), (.int .u8 (0)), (.int .u8 (0)), (.int .u8 (0)), (.int .u8 (0)), (.int .u8 (0)), (.int .u8 (0)), (.int .u8 (0)), (.int .u8 (0)), (.int .u8 (0)), (.int .u8 (0)), (.int .u8 (0)), (.int .u8 (0)), (.int .u8 (0))]) (.node none (.node none .leaf .leaf) .leaf) (.node (some [(.opq true)]) (.node none .leaf .leaf) .leaf)) (.node (some [(.int .u8 (0)), (.int .u8 (0)), (.int .u8 (0)), (.int .u8 (0)), (.int .u8 (0)), (.int .u8 (0)), (.int .u8 (0)), (.int .u8 (0)), (.int .u8 (0)), (.int .u8 (1)), (.int .u8 (1)), (.int .u8 (1)), (.int .u8 (1)), (.int .u8 (1)), (.int .u8 (0)), (.int .u8 (0)), (.int .u8 (0)), (.int .u8 (0)), (.int .u8 (0)), (.int .u8 (0)), (.int .u8 (0)), (.int .u8 (0)), (.int .u8 (0)), (.int .u8 (0)), (.int .u8 (0)), (.int .u8 (0)), (.int .u8 (0)), (.int .u8 (0)), (.int .u8 (0)), (.int .u8 (0)), (.int .u8 (0)), (.int .u8 (0)), (.int .u8 (1)), (.int .u8 (0)), (.int .u8 (0)), (.int .u8 (0)), (.int .u8 (0)), (.int .u8 (0)), (.int .u8 (0)), (.int .u8 (0)), (.int .u8 (0)), (.int .u8 (0)), (.int .u8 (0)), (.int .u8 (0)), (.int .u8 (0)), (.int .u8 (0)), (.int .u8 (0)), (.int .u8 (0)), (.int .u8 (0)), (.int .u8 (0)), (.int .u8 (0)), (.int .u8 (0)), (.int .u8 (0)), (.int .u8 (0)), (.int .u8 (0)), (.int .u8 (0)), (.int .u8 (0)), (.int .u8 (0)), (.int .u8 (0)), (.int .u8 (0)), (.int .u8 (0)), (.int .u8 (0)), (.int .u8 (0)), (.int .u8 (0)), (.int .u8 (0)), (.int .u8 (0)), (.int .u8 (0)), (.int .u8 (0)), (.int .u8 (0)), (.int .u8 (0)), (.int .u8 (0)), (.int .u8 (0)), (.int .u8 (0)), (.int .u8 (0)), (.int .u8 (0)), (.int .u8 (0)), (.int .u8 (0)), (.int .u8 (0)), (.int .u8 (0)), (.int .u8 (0)), (.int .u8 (0)), (.int .u8 (0)), (.int .u8 (0)), (.int .u8 (0)), (.int .u8 (0)), (.int .u8 (0)), (.int .u8 (0)), (.int .u8 (0)), (.int .u8 (0)), (.int .u8 (0)), (.int .u8 (0)), (.int .u8 (0)), (.int .u8 (0)), (.int .u8 (0)), (.int .u8 (0)), (.int .u8 (0)), (.int .u8 (0)), (.int .u8 (0)), (.int .u8 (0)), (.int .u8 (0)), (.int .u8 (0)), (.int .u8 (0)), (.int .u8 (0)), (.int .u8 (0)), (.int .u8 (0)), (.int .u8 (0)), (.int .u8 (0)), (.int .u8 (0)), (.int .u8 (0)), (.int .u8 (0)), (.int .u8 (0)), (.int .u8 (0)), (.int .u8 (0)), (.int .u8 (0)), (.int .u8 (0)), (.int .u8 (0)), (.int .u8 (0)), (.int .u8 (0)), (.int .u8 (0)), (.int .u8 (0)), (.int .u8 (0)), (.int .u8 (0)), (.int .u8 (0)), (.int .u8 (0)), (.int .u8 (0)), (.int .u8 (0)), (.int .u8 (0)), (.int .u8 (0)), (.int .u8 (0)), (.int .u8 (0)), (.int .u8 (0)), (.int .u8 (0)), (.int .u8 (0)), (.int .u8 (0)), (.int .u8 (0)), (.int .u8 (0)), (.int .u8 (0)), (.int .u8 (0)), (.int .u8 (0)), (.int .u8 (0)), (.int .u8 (0)), (.int .u8 (0)), (.int .u8 (0)), (.int .u8 (0)), (.int .u8 (0)), (.int .u8 (0)), (.int .u8 (0)), (.int .u8 (0)), (.int .u8 (0)), (.int .u8 (0)), (.int .u8 (0)), (.int .u8 (0)), (.int .u8 (0)), (.int .u8 (0)), (.int .u8 (0)), (.int .u8 (0)), (.int .u8 (0)), (.int .u8 (0)), (.int .u8 (0)), (.int .u8 (0)), (.int .u8 (0)), (.int .u8 (0)), (.int .u8 (0)), (.int .u8 (0)), (.int .u8 (0)), (.int .u8 (0)), (.int .u8 (0)), (.int .u8 (0)), (.int .u8 (0)), (.int .u8 (0)), (.int .u8 (0)), (.int .u8 (0)), (.int .u8 (0)), (.int .u8 (0)), (.int .u8 (0)), (.int .u8 (0)), (.int .u8 (0)), (.int .u8 (0)), (.int .u8 (0)), (.int .u8 (0)), (.int .u8 (0)), (.int .u8 (0)), (.int .u8 (0)), (.int .u8 (0)), (.int .u8 (0)), (.int .u8 (0)), (.int .u8 (0)), (.int .u8 (0)), (.int .u8 (0)), (.int .u8 (0)), (.int .u8 (0)), (.int .u8 (0)), (.int .u8 (0)), (.int .u8 (0)), (.int .u8 (0)), (.int .u8 (0)), (.int .u8 (0)), (.int .u8 (0)), (.int .u8 (0)), (.int .u8 (0)), (.int .u8 (0)), (.int .u8 (0)), (.int .u8 (0)), (.int .u8 (0)), (.int .u8 (0)), (.int .u8 (0)), (.int .u8 (0)), (.int .u8 (0)), (.int .u8 (0)), (.int .u8 (0)), (.int .u8 (0)), (.int .u8 (0)), (.int .u8 (0)), (.int .u8 (0)), (.int .u8 (0)), (.int .u8 (0)), (.int .u8 (0)), (.int .u8 (0)), (.int .u8 (0)), (.int .u8 (0)), (.int .u8 (0)), (.int .u8 (0)), (.int .u8 (0)), (.int .u8 (0)), (.int .u8 (0)), (.int .u8 (0)), (.int .u8 (0)), (.int .u8 (0)), (.int .u8 (0)), (.int .u8 (0)), (.int .u8 (0)), (.int .u8 (0)), (.int .u8 (0)), (.int .u8 (0)), (.int .u8 (0)), (.int .u8 (0)), (.int .u8 (0)), (.int .u8 (0)), (.int .u8 (0)), (.int .u8 (0)), (.int .u8 (0)), (.int .u8 (0)), (.int .u8 (0)), (.int .u8 (0)), (.int .u8 (0)), (.int .u8 (0)), (.int .u8 (0)), (.int .u8 (0)), (.int .u8 (0)), (.int .u8 (0)), (.int .u8 (0)), (.int .u8 (0)), (.int .u8 (0)), (.int .u8 (0)), (.int .u8 (0)), (.int .u8 (0))]) (.node none (.node none .leaf .leaf) .leaf) (.node none (.node none .leaf .leaf) .leaf)))
noncomputable def vI : List (Nat × List Nat) := [(3, [48]), (4, [48]), (5, [48]), (6, [48]), (7, [32, 48]), (8, [48]), (9, [48]), (10, [48]), (11, [48]), (12, [48]), (13, [43, 48]), (14, [48]), (15, [48]), (16, [43, 48]), (17, [48]), (18, [43, 48]), (19, [48]), (20, [48]), (21, [48]), (22, [48]), (23, [48]), (24, [43, 48]), (25, [43, 48]), (27, [48]), (28, [48]), (29, [48]), (30, [48]), (31, [48]), (32, [48]), (33, [48]), (34, [48]), (35, [48]), (36, [48]), (37, [48]), (38, [48]), (39, [48]), (40, [43, 48]), (41, [48]), (43, [48]), (44, [48]), (45, [48]), (47, [48]), (48, [48]), (49, [48]), (50, [40, 48]), (51, [48]), (52, [48]), (53, [48]), (54, [48]), (55, [48]), (56, [48]), (58, [48]), (59, [43, 48]), (62, [48]), (63, [48]), (66, [48]), (67, [48]), (69, [48]), (70, [48]), (71, [48]), (72, [48]), (73, [48]), (74, [48]), (76, [48]), (77, [43, 48]), (91, [48]), (92, [48]), (93, [48]), (94, [48]), (103, [48]), (104, [48])]
noncomputable def vfull : List Nat := [26, 59]
noncomputable def vlook : List Nat := []
theorem prim42 : OnePrim Tryz.prog vT (markG fun b => vG.get b) 42 (.lib libValid) := valid_prim (g3 := 0) (g4 := 1) Tryz.call42 (fun s w h hT => Tryz.utf8_ValidString s w h hT) rfl rfl (by kernel_rfl) (by kernel_rfl)
theorem prim46 : OnePrim Tryz.prog vT (markG fun b => vG.get b) 46 (.lib (libAtoi 136)) := atoi_prim (g16 := 5) (fun w w' h => by rcases h with rfl | ⟨t, rfl⟩; exact Go.RowKit.Below.refl _ _; exact Lib.bytesWorld_below _ _ _) Tryz.call46 (fun s h1 v h2 w => Tryz.strconv_Atoi_ok s h1 v h2 w) (fun s h1 h2 ev w h3 h4 => (Tryz.strconv_Atoi_range s h1 h2 ev w h3 h4).mono fun e w' ⟨N, e1, _, _, e2⟩ => ⟨N, e1, e2⟩) rfl
theorem prim57 : OnePrim Tryz.prog vT (markG fun b => vG.get b) 57 (.builderString 5) := builderString_prim ⟨Tryz.call57, size_of (by kernel_rfl), run_string_nil, run_string⟩ ⟨_, rfl⟩
theorem prim61 : OnePrim Tryz.prog vT (markG fun b => vG.get b) 61 (.lib libTrimLeft) := trimLeft_prim Tryz.call61 fun s c w h1 h2 => Tryz.strings_TrimLeft s c w h1 h2
theorem prim68 : OnePrim Tryz.prog vT (markG fun b => vG.get b) 68 (.lib libDecode) := decode_prim (g3 := 0) (g4 := 1) Tryz.call68 (fun s w hT => Tryz.utf8_DecodeRuneInString s w hT) rfl rfl (by kernel_rfl) (by kernel_rfl)
theorem prim75 : OnePrim Tryz.prog vT (markG fun b => vG.get b) 75 (.copyCheck [(100, 2, 0), (101, 2, 0)]) := copyCheck_prim ⟨Tryz.call75, run_used, fun b o w e n h1 h2 h3 h4 h5 => run_fresh b o w e n h1 h2 h3 h4 (lies_of (by kernel_rfl) h5)⟩
theorem prim89 : OnePrim Tryz.prog vT (markG fun b => vG.get b) 89 .indexByte := indexByte_prim (fun s c w => by
  rw [run_callFunc_extern Tryz.func89 (by kernel_rfl) (by kernel_rfl) (by kernel_rfl) (e := Extern.BytealgIndexByte.indexByte) (by kernel_rfl), Lib.run_indexByteString]
  rfl)
theorem vP_ok : AllP (fun f q => OnePrim Tryz.prog vT (markG fun b => vG.get b) f q) vP := ⟨prim42, prim46, prim57, prim61, prim68, prim75, prim89, trivial⟩
noncomputable def vE : Env where
  T := vT
  F i := vF.get i
  prim i := lookP vP i
  full i := vfull.any fun j => i.beq j
  isLook i := vlook.any fun j => i.beq j
  imm f t := match lookP vI f with
    | some l => l.any fun j => t.beq j
    | none => false
  G := markG fun b => vG.get b
  memo _ := []
  wrule f := match f.beq 26 with
    | true => some (growR 43 4)
    | false => none
theorem growOk : ∀ f r args st v s, vE.wrule f = some r → r args st = .ok (v, s) → s.ro = st.ro ∧ ∀ A g w xs, GR g vE.G → RL g args xs → Inv vE.T A g st w →
    (callFunc f xs.toArray).run Tryz.prog w = .ok (.enter f xs.toArray) w ∧ Calls Tryz.prog f xs.toArray w fun e w' => ∃ x, e = .returned x ∧ Post vE.T A g s w v x w' := by
  intro f r args st v s h h2
  have h : (match f.beq 26 with | true => some (growR 43 4) | false => none) = some r := h
  cases hb : f.beq 26 with
  | false => rw [hb] at h; cases h
  | true =>
    rw [hb] at h
    cases h
    have hf := Nat.eq_of_beq_eq_true hb
    subst hf
    obtain ⟨a, b⟩ := growR_ok (T := vT) (e := 43) (z := 4) (ti := (vT.get 43).get rfl) rfl rfl (by omega) Tryz.call26 run_grow0 h2
    exact ⟨a, fun A g w xs _ hr hi => b A g w xs hr hi⟩
theorem vE_ok : EnvOk Tryz.prog vE := ⟨vT_ok, fun f fn h => vF_ok f fn h, primOk_of fun f q h => lookP_all vP_ok f q h, by kernel_rfl, (fun _ _ h => by cases h), fun _ r _ _ h _ => absurd (show (none : Option (List AV → Option AV)) = some r from h) (by simp), growOk⟩
/-- rostrum/rostrumlaw13.many -/
noncomputable def g6_L1 (n0 : Int) (l1 : List UInt8) : Car → Option (Car ⊕ Nat × Car) := fun c6 => unc (Prod.fst c6) fun v7 l8 => unc l8 fun v9 l10 => asI .i64 v9 fun n11 => un0 l10 (ifB (decide (n11 < n0)) (fitTs false
 (ofBytes l1) fun l12 => chk (sizesOk 1 l12) (appS 1 1 5 v7 l12 (Prod.snd c6) fun v13 st14 _x => letV (IntKind.wrap .i64 (n11 + 1)) fun n16 => some (Sum.inl ([v13, AV.int .i64 n16], st14)))) (some (Sum.inr (0, [v7],
 Prod.snd c6))))
noncomputable def g6 : AV → AV → Option AV := fun x0 x1 => asI .i64 x0 fun n0 => asS x1 fun l1 => letV (IntKind.wrap .i64 (n0 * (↑(List.length l1) : Int))) fun n2 => planS (orc vE) (makeSliceP (Env.T vE) 49 (AV.int .i64
 0) (AV.int .i64 n2)) (St.mk 0 0 Tr.leaf) fun v3 st4 _x => bindO (loopO (g6_L1 n0 l1) ([v3, AV.int .i64 0], st4)) fun c17 => unc (Prod.fst (Prod.snd c17)) fun v18 l19 => un0 l19 (planS (orc vE) (convertP (Env.T vE) 49 9
 v18) (Prod.snd (Prod.snd c17)) fun v20 _x _x_1 => asS v20 fun l23 => letV l23 fun l24 => some (AV.str l24))
theorem g6_eq (x0 x1 : AV) : bareS vE 6 [x0, x1] = g6 x0 x1 := by kernel_rfl
/-- (*rostrum/reparse.Tree).Edit -/
noncomputable def g7_L1 (x0 : AV) (n7 : Int) (l40 : List UInt8) (n45 : Int) (v62 : AV) (n68 : Int) (n78 : Int) (v83 : AV) : Car → Option (Car ⊕ Nat × Car) := fun c84 => unc (Prod.fst c84) fun v85 l86 => asI .i64 v85 fun
 n87 => unc l86 fun v88 l89 => unc l89 fun v90 l91 => asI .i64 v90 fun n92 => unc l91 fun v93 l94 => asI .i64 v93 fun n95 => un0 l94 (lenS v62 fun k96 => ifB (decide (n95 < (↑k96 : Int))) (bindO (bindO (idxA 6 v62 n95
 (Prod.snd c84) fun v97 _x => fldA 0 v97 fun v99 => loadS 1 false v99 (Prod.snd c84) fun v100 _x => asI .i64 v100 fun n102 => ifB (decide (n102 < n7)) (some ([AV.bool true], Prod.snd c84)) (idxA 6 v62 n95 (Prod.snd c84)
 fun v103 _x => fldA 2 v103 fun v105 => fldA 1 v105 fun v106 => fldA 1 v106 fun v107 => loadS 1 false v107 (Prod.snd c84) fun v108 _x => asS v108 fun l110 => some ([AV.bool !l110 == [108, 101, 116]], Prod.snd c84))) fun
 c111 => unc (Prod.fst c111) fun v112 l113 => asB v112 fun b114 => un0 l113 (ifB b114 (some (Sum.inl ([AV.int .i64 n87, v88, AV.int .i64 n92], Prod.snd c111))) (ifB (n87 == 3) (some (Sum.inr (Sum.inr (0, [v88, AV.int
 .i64 n92], Prod.snd c111)))) (letV (IntKind.wrap .i64 (n87 + 1)) fun n115 => idxA 6 v62 n95 (Prod.snd c111) fun v116 _x => fldA 0 v116 fun v118 => loadS 1 false v118 (Prod.snd c111) fun v119 _x => asI .i64 v119 fun n121
 => letV (IntKind.wrap .i64 (n121 + n45)) fun n122 => uptoS n122 (List.length l40) fun k123 => uptoS n78 k123 fun k124 => letV (List.drop k124 (List.take k123 l40)) fun l125 => idxA 6 v62 n95 (Prod.snd c111) fun v126 _x
 => fldA 2 v126 fun v128 => loadS 4 true v128 (Prod.snd c111) fun v129 _x => unA v129 fun l132 => unc l132 fun v133 l134 => asI .u8 v133 fun n135 => unc l134 fun v136 l137 => asI .u8 v136 fun n138 => unc l137 fun v139
 l140 => asS v139 fun l141 => unc l140 fun v142 l143 => un0 l143 (callS (orc vE) 18 [AV.str l125, AV.agg [AV.int .u8 n135, AV.int .u8 n138, AV.str l141, v142]] (Prod.snd c111) fun v144 st145 _x => unT v144 fun l147 =>
 nthS l147 0 fun v148 => unT v144 fun l149 => nthS l149 1 fun v150 => asB v150 fun b151 => ifB b151 (chk (notNil x0) (fldA 1 x0 fun v152 => fldA 3 v152 fun v153 => loadS 1 false v153 st145 fun v154 _x => sliceS 4 v154
 (some n95) none none fun v156 => asOne v83 (asOne v148 (asOne v156 (asOne v83 (asOne v148 (asOne v156 (fit1 v83 fun v157 => fit1 v148 fun v158 => fit1 v156 fun v159 => callS (orc vE) 19 [AV.sl 1 [v157, v158, v159]
 Perm.shut] st145 fun v160 st161 _x => asOne v160 (lenS v62 fun k164 => letV (IntKind.wrap .i64 (n68 + (↑k164 : Int))) fun n165 => letV (IntKind.wrap .i64 (n165 - n95)) fun n166 => asOne v160 (fit1 v160 fun v168 => some
 (Sum.inr (Sum.inr (1, [AV.ip [AV.str l40, AV.int .u8 4, AV.int .u8 0, AV.str [], v168, AV.int .i64 n166], AV.int .i64 0], st161))))))))))))) (some (Sum.inl ([AV.int .i64 n115, v88, AV.int .i64 n92], st145)))))))) fun
 c169 => onSum c169 fun c170 => unc (Prod.fst c170) fun v171 l172 => asI .i64 v171 fun n173 => unc l172 fun v174 l175 => unc l175 fun v176 l177 => asI .i64 v176 fun n178 => un0 l177 (letV (IntKind.wrap .i64 (n95 + 1))
 fun n179 => some (Sum.inl ([AV.int .i64 n173, v174, AV.int .i64 n178, AV.int .i64 n179], Prod.snd c170)))) (some (Sum.inr (0, [v88, AV.int .i64 n92], Prod.snd c84))))
noncomputable def g7 : AV → AV → Option AV := fun x0 x1 => unA x1 fun l1 => unc l1 fun v2 l3 => asI .i64 v2 fun n4 => unc l3 fun v5 l6 => asI .i64 v5 fun n7 => unc l6 fun v8 l9 => asS v8 fun l10 => un0 l9 (nilS (U.ptr
 48) x0 AV.nilp fun b11 => ifB b11 (some (AV.tup [AV.nilp, AV.int .i64 2])) (bindO (ifB (decide (n4 < 0)) (some ([AV.bool true], St.mk 0 0 Tr.leaf)) (ifB (decide (n7 < n4)) (some ([AV.bool true], St.mk 0 0 Tr.leaf)) (chk
 (notNil x0) (fldA 0 x0 fun v12 => loadS 1 false v12 (St.mk 0 0 Tr.leaf) fun v13 _x => asS v13 fun l15 => some ([AV.bool (decide (n7 > (↑(List.length l15) : Int)))], St.mk 0 0 Tr.leaf))))) fun c16 => unc (Prod.fst c16)
 fun v17 l18 => asB v17 fun b19 => un0 l18 (ifB b19 (some (AV.tup [AV.nilp, AV.int .i64 1])) (chk (notNil x0) (fldA 0 x0 fun v20 => loadS 1 false v20 (Prod.snd c16) fun v21 _x => asS v21 fun l23 => letV (IntKind.wrap
 .i64 (n7 - n4)) fun n24 => letV (IntKind.wrap .i64 ((↑(List.length l23) : Int) - n24)) fun n25 => letV (IntKind.wrap .i64 (65536 - n25)) fun n26 => ifB (decide ((↑(List.length l10) : Int) > n26)) (some (AV.tup [AV.nilp,
 AV.int .i64 40])) (chk (notNil x0) (fldA 0 x0 fun v27 => loadS 1 false v27 (Prod.snd c16) fun v28 _x => asS v28 fun l30 => uptoS n4 (List.length l30) fun k31 => letV (List.drop 0 (List.take k31 l30)) fun l32 => chk
 (Nat.ble (List.length l32 + List.length l10) 9223372036854775807) (letV (l32 ++ l10) fun l33 => chk (notNil x0) (fldA 0 x0 fun v34 => loadS 1 false v34 (Prod.snd c16) fun v35 _x => asS v35 fun l37 => uptoS n7
 (List.length l37) fun k38 => letV (List.drop k38 (List.take (List.length l37) l37)) fun l39 => chk (Nat.ble (List.length l33 + List.length l39) 9223372036854775807) (letV (l33 ++ l39) fun l40 => chk (notNil x0) (fldA 0
 x0 fun v41 => loadS 1 false v41 (Prod.snd c16) fun v42 _x => asS v42 fun l44 => letV (IntKind.wrap .i64 ((↑(List.length l40) : Int) - (↑(List.length l44) : Int))) fun n45 => chk (notNil x0) (fldA 1 x0 fun v46 => loadS 4
 true v46 (Prod.snd c16) fun v47 _x => unA v47 fun l50 => unc l50 fun v51 l52 => asI .u8 v51 fun n53 => unc l52 fun v54 l55 => asI .u8 v54 fun n56 => unc l55 fun v57 l58 => asS v57 fun l59 => unc l58 fun v60 l61 => un0
 l61 (callS (orc vE) 16 [AV.agg [AV.int .u8 n53, AV.int .u8 n56, AV.str l59, v60]] (Prod.snd c16) fun v62 st63 _x => callS (orc vE) 17 [v62, AV.int .i64 n4] st63 fun v65 st66 _x => asI .i64 v65 fun n68 => bindO (ifB
 (decide (n68 > 0)) (idxA 6 v62 n68 st66 fun v69 _x => fldA 0 v69 fun v71 => loadS 1 false v71 st66 fun v72 _x => asI .i64 v72 fun n74 => some ([AV.int .i64 n74], st66)) (some ([AV.int .i64 0], st66))) fun c75 => unc
 (Prod.fst c75) fun v76 l77 => asI .i64 v76 fun n78 => un0 l77 (chk (notNil x0) (fldA 1 x0 fun v79 => fldA 3 v79 fun v80 => loadS 1 false v80 (Prod.snd c75) fun v81 _x => sliceS 4 v81 none (some n68) (some n68) fun v83
 => bindO (loopO (g7_L1 x0 n7 l40 n45 v62 n68 n78 v83) ([AV.int .i64 0, AV.nilp, AV.int .i64 0, AV.int .i64 n68], Prod.snd c75)) fun c180 => unc (Prod.fst (Prod.snd c180)) fun v181 l182 => unc l182 fun v183 l184 => asI
 .i64 v183 fun n185 => un0 l184 (sel2 (Prod.fst c180) (uptoS n78 (List.length l40) fun k186 => letV (List.drop k186 (List.take (List.length l40) l40)) fun l187 => callS (orc vE) 15 [AV.str l187] (Prod.snd (Prod.snd
 c180)) fun v188 st189 _x => unT v188 fun l191 => nthS l191 0 fun v192 => unA v192 fun l194 => unc l194 fun v195 l196 => asI .u8 v195 fun n197 => unc l196 fun v198 l199 => asI .u8 v198 fun n200 => unc l199 fun v201 l202
 => asS v201 fun l203 => unc l202 fun v204 l205 => un0 l205 (unT v188 fun l206 => nthS l206 1 fun v207 => asI .i64 v207 fun n208 => letSt (St.add st189 (VM.Obj.cells 43 [AV.int .u8 0, AV.int .u8 0, AV.str [], AV.nils]))
 fun st209 => asOne v204 (storeS (orc vE) 4 (AV.mp (St.h st189) 0) (AV.agg [AV.int .u8 n197, AV.int .u8 n200, AV.str l203, v204]) [AV.int .u8 n197, AV.int .u8 n200, AV.str l203, v204] st209 fun _x st211 _x_1 => ifB (n208
 != 0) (some (AV.tup [AV.nilp, AV.int .i64 n208])) (loadS 1 false (AV.mp (St.h st189) 3) st211 fun v213 _x => asOne v83 (asOne v213 (asOne v83 (asOne v213 (fit1 v83 fun v215 => fit1 v213 fun v216 => callS (orc vE) 19
 [AV.sl 1 [v215, v216] Perm.shut] st211 fun v217 _x _x_2 => asOne v217 (asOne v217 (fit1 v217 fun v222 => some (AV.tup [AV.ip [AV.str l40, AV.int .u8 4, AV.int .u8 0, AV.str [], v222, AV.int .i64 n68], AV.int .i64
 0]))))))))))) fun _x => frzS (Prod.snd (Prod.snd c180)) 0 (AV.tup [v181, AV.int .i64 n185]) fun v224 => some v224))))))))))))))))
theorem g7_eq (x0 x1 : AV) : bareS vE 7 [x0, x1] = g7 x0 x1 := by kernel_rfl
/-- rostrum/lex.Tokens -/
noncomputable def g21_L1 : Car → Option (Car ⊕ Nat × Car) := fun c11 => unc (Prod.fst c11) fun v12 l13 => unc l13 fun v14 l15 => asS v14 fun l16 => unc l15 fun v17 l18 => asI .i64 v17 fun n19 => un0 l18 (ifB (decide
 (n19 < 7)) (idxA 1 (AV.sl 1 [AV.fn (Fn.func 28) [] [], AV.fn (Fn.func 29) [] [], AV.fn (Fn.func 30) [] [], AV.fn (Fn.func 31) [] [], AV.fn (Fn.func 32) [] [], AV.fn (Fn.func 33) [] [], AV.fn (Fn.func 34) [] []]
 Perm.shut) n19 (Prod.snd c11) fun v20 _x => loadS 1 false v20 (Prod.snd c11) fun v22 _x => callF (orc vE) (Sx.prim (sx vE 21)) v22 [AV.str l16] (Prod.snd c11) fun v24 st25 _x => unT v24 fun l27 => nthS l27 0 fun v28 =>
 asI .u8 v28 fun n29 => unT v24 fun l30 => nthS l30 1 fun v31 => asI .i64 v31 fun n32 => ifB (decide (n32 > 0)) (uptoS n32 (List.length l16) fun k33 => letV (List.drop 0 (List.take k33 l16)) fun l34 => appS 2 24 40 v12
 [AV.agg [AV.int .u8 n29, AV.str l34]] st25 fun v36 st37 _x => uptoS n32 (List.length l16) fun k39 => letV (List.drop k39 (List.take (List.length l16) l16)) fun l40 => some (Sum.inr (0, [v36, AV.str l40], st37))) (letV
 (IntKind.wrap .i64 (n19 + 1)) fun n41 => some (Sum.inl ([v12, AV.str l16, AV.int .i64 n41], st25)))) (some (Sum.inr (0, [v12, AV.str l16], Prod.snd c11))))
noncomputable def g21_L2 : Car → Option (Car ⊕ Nat × Car) := fun c5 => unc (Prod.fst c5) fun v6 l7 => unc l7 fun v8 l9 => asS v8 fun l10 => un0 l9 (ifB (!l10 == []) (bindO (loopO g21_L1 ([v6, AV.str l10, AV.int .i64 0],
 Prod.snd c5)) fun c42 => unc (Prod.fst (Prod.snd c42)) fun v43 l44 => unc l44 fun v45 l46 => asS v45 fun l47 => un0 l46 (some (Sum.inl ([v43, AV.str l47], Prod.snd (Prod.snd c42))))) (some (Sum.inr (0, [v6], Prod.snd
 c5))))
noncomputable def g21 : AV → Option AV := fun x0 => asS x0 fun l0 => ifB (decide ((↑(List.length l0) : Int) > 65536)) (some (AV.tup [AV.nils, AV.int .i64 40])) (callS (orc vE) 27 [AV.str l0] (St.mk 0 0 Tr.leaf) fun v1
 st2 _x => asB v1 fun b4 => ifB (!b4) (some (AV.tup [AV.nils, AV.int .i64 4])) (bindO (loopO g21_L2 ([AV.nils, AV.str l0], st2)) fun c48 => unc (Prod.fst (Prod.snd c48)) fun v49 l50 => un0 l50 (frzS (Prod.snd (Prod.snd
 c48)) 0 (AV.tup [v49, AV.int .i64 0]) fun v51 => some v51)))
theorem g21_eq (x0 : AV) : bareS vE 21 [x0] = g21 x0 := by kernel_rfl
/-- rostrum/reparse.New -/
noncomputable def g5 : AV → Option AV := fun x0 => asS x0 fun l0 => callS (orc vE) 15 [AV.str l0] (St.mk 0 0 Tr.leaf) fun v1 st2 _x => unT v1 fun l4 => nthS l4 0 fun v5 => unA v5 fun l7 => unc l7 fun v8 l9 => asI .u8 v8
 fun n10 => unc l9 fun v11 l12 => asI .u8 v11 fun n13 => unc l12 fun v14 l15 => asS v14 fun l16 => unc l15 fun v17 l18 => un0 l18 (unT v1 fun l19 => nthS l19 1 fun v20 => asI .i64 v20 fun n21 => letSt (St.add st2
 (VM.Obj.cells 43 [AV.int .u8 0, AV.int .u8 0, AV.str [], AV.nils])) fun st22 => asOne v17 (storeS (orc vE) 4 (AV.mp (St.h st2) 0) (AV.agg [AV.int .u8 n10, AV.int .u8 n13, AV.str l16, v17]) [AV.int .u8 n10, AV.int .u8
 n13, AV.str l16, v17] st22 fun _x st24 _x_1 => ifB (n21 != 0) (some (AV.tup [AV.nilp, AV.int .i64 n21])) (loadS 4 true (AV.mp (St.h st2) 0) st24 fun v26 _x => unA v26 fun l29 => unc l29 fun v30 l31 => asI .u8 v30 fun
 n32 => unc l31 fun v33 l34 => asI .u8 v33 fun n35 => unc l34 fun v36 l37 => asS v36 fun l38 => unc l37 fun v39 l40 => un0 l40 (asOne v39 (fit1 v39 fun v42 => some (AV.tup [AV.ip [AV.str l0, AV.int .u8 n32, AV.int .u8
 n35, AV.str l38, v42, AV.int .i64 0], AV.int .i64 0]))))))
theorem g5_eq (x0 : AV) : bareS vE 5 [x0] = g5 x0 := by kernel_rfl
/-- rostrum/parse.Parse -/
noncomputable def g15 : AV → Option AV := fun x0 => asS x0 fun l0 => callS (orc vE) 21 [AV.str l0] (St.mk 1 0 (Tr.node (some (VM.Obj.cells 43 [AV.int .u8 0, AV.int .u8 0, AV.str [], AV.nils])) Tr.leaf Tr.leaf)) fun v1
 st2 _x => unT v1 fun l4 => nthS l4 0 fun v5 => unT v1 fun l6 => nthS l6 1 fun v7 => asI .i64 v7 fun n8 => ifB (n8 != 0) (storeS (orc vE) 4 (AV.mp 0 0) (AV.agg [AV.int .u8 0, AV.int .u8 0, AV.str [], AV.nils]) [AV.int
 .u8 0, AV.int .u8 0, AV.str [], AV.nils] st2 fun _x st11 _x_1 => loadS 4 true (AV.mp 0 0) st11 fun v13 _x => unA v13 fun l16 => unc l16 fun v17 l18 => asI .u8 v17 fun n19 => unc l18 fun v20 l21 => asI .u8 v20 fun n22 =>
 unc l21 fun v23 l24 => asS v23 fun l25 => unc l24 fun v26 l27 => un0 l27 (frzS st11 0 (AV.tup [AV.agg [AV.int .u8 n19, AV.int .u8 n22, AV.str l25, v26], AV.int .i64 n8]) fun v28 => some v28)) (asOne v5 (asOne v5 (letSt
 (St.add st2 (VM.Obj.cells 64 [v5, AV.int .i64 0, AV.int .i64 0])) fun st30 => callS (orc vE) 22 [AV.mp (St.h st2) 0] st30 fun v31 st32 _x => unA v31 fun l35 => unc l35 fun v36 l37 => asI .u8 v36 fun n38 => unc l37 fun
 v39 l40 => asI .u8 v39 fun n41 => unc l40 fun v42 l43 => asS v42 fun l44 => unc l43 fun v45 l46 => un0 l46 (asOne v45 (storeS (orc vE) 4 (AV.mp 0 0) (AV.agg [AV.int .u8 n38, AV.int .u8 n41, AV.str l44, v45]) [AV.int .u8
 n38, AV.int .u8 n41, AV.str l44, v45] st32 fun _x st48 _x_1 => loadS 4 true (AV.mp 0 0) st48 fun v50 _x => unA v50 fun l53 => unc l53 fun v54 l55 => asI .u8 v54 fun n56 => unc l55 fun v57 l58 => asI .u8 v57 fun n59 =>
 unc l58 fun v60 l61 => asS v60 fun l62 => unc l61 fun v63 l64 => un0 l64 (frzS st48 0 (AV.tup [AV.agg [AV.int .u8 n56, AV.int .u8 n59, AV.str l62, v63], AV.int .i64 0]) fun v65 => some v65))))))
theorem g15_eq (x0 : AV) : bareS vE 15 [x0] = g15 x0 := by kernel_rfl
end Go.Proofs.YthapbjoekpbhgaaGreatDoor.Vm
/- ReparseNames: what is shown for whatever length; the rest is run. -/
namespace Go.Proofs.YthapbjoekpbhgaaGreatDoor.Vm
open Go Go.VM Go.Proofs
theorem bytesOf_of : ∀ (s : List UInt8), bytesOf (ofBytes s) = .ok s
  | [] => rfl
  | b :: l => by
    have ih := bytesOf_of l
    simp only [ofBytes, List.map_cons] at ih ⊢
    simp only [bytesOf, ih, ok_bind]
    simp [pure_eq]
theorem make_bytes {n : Nat} (h : n ≤ 1000000) : makeSliceP (Env.T vE) 49 (.int .i64 0) (.int .i64 (n : Int)) = .ok (.new (.tok 0 5) fun k => .sl 1 [] (.own k)) := by
  have e1 : ti (Env.T vE) 49 = .ok ⟨.slice 5, 1, 24, [.nils], false, false⟩ := rfl
  have e2 : ti (Env.T vE) 5 = .ok ⟨.int .u8, 1, 1, [.int .u8 0], false, false⟩ := rfl
  have c : (Nat.ble 0 n && Nat.ble (n * 1) 16777216 && Nat.ble (1 * n) 281474976710656 && Nat.ble n 9223372036854775807 && Nat.ble 1 1) = true := by
    rw [Nat.ble_eq_true_of_le (Nat.zero_le n), Nat.ble_eq_true_of_le (show n * 1 ≤ 16777216 by omega), Nat.ble_eq_true_of_le (show 1 * n ≤ 281474976710656 by omega), Nat.ble_eq_true_of_le (show n ≤ 9223372036854775807 by omega)]; rfl
  have h0 : makeSliceP (Env.T vE) 49 (.int .i64 0) (.int .i64 (n : Int)) = (do let it ← ti (Env.T vE) 49; match it.und, AV.int .i64 (Int.ofNat 0), AV.int .i64 (Int.ofNat n) with
    | .slice e, .int _ (.ofNat l), .int _ (.ofNat c) => do
      let i ← ti (Env.T vE) e
      match l.ble c && (c * i.size).ble 16777216 && (i.bytes * c).ble 281474976710656 && c.ble 9223372036854775807 && Nat.ble 1 i.size with
      | true => match l.beq 0 with
        | true => pure (Plan.new (.tok 0 e) fun k => .sl i.size [] (.own k))
        | false => pure (Plan.new (.cells e (zeros i.zero c)) fun k => .ms k 0 i.size l c)
      | false => .error "make: size"
    | _, _, _ => .error "make: what?" : Res Plan) := rfl
  rw [h0]
  simp only [e1, e2, ok_bind, c]
  rfl
theorem conv_bytes (s : List UInt8) (p : Perm) : convertP (Env.T vE) 49 9 (.sl 1 (ofBytes s) p) = .ok (.val (.str s)) := by
  have e1 : ti (Env.T vE) 49 = .ok ⟨.slice 5, 1, 24, [.nils], false, false⟩ := rfl
  have e2 : ti (Env.T vE) 9 = .ok ⟨.str, 1, 16, [.str []], false, false⟩ := rfl
  have e3 : ti (Env.T vE) 5 = .ok ⟨.int .u8, 1, 1, [.int .u8 0], false, false⟩ := rfl
  simp only [convertP, e1, e2, e3, ok_bind, isByte, bytesOf_of, pure_eq]
theorem ofBytes_length (s : List UInt8) : (ofBytes s).length = s.length := by simp [ofBytes]
theorem ofBytes_append (a b : List UInt8) : ofBytes (a ++ b) = ofBytes a ++ ofBytes b := by simp [ofBytes]
theorem many_loop (n : Nat) (c : UInt8) (hn : n ≤ 1000000) : ∀ (k i : Nat) (v : AV) (st : St), i + k = n → Own st 1 5 v (ofBytes (List.replicate i c)) →
    ∃ v' st', loopO (g6_L1 (n : Int) [c]) ([v, .int .i64 (i : Int)], st) = some (0, [v'], st') ∧ Own st' 1 5 v' (ofBytes (List.replicate n c))
  | 0, i, v, st, hi, h => by
    have q : ¬ (i : Int) < (n : Int) := by omega
    have : i = n := by omega
    subst this
    refine ⟨v, st, loopO_inr ?_, h⟩
    simp only [g6_L1, unc_cons, asI_int, un0_nil, ifB_decide, if_neg q]
  | k + 1, i, v, st, hi, h => by
    have q : (i : Int) < (n : Int) := by omega
    have w1 : IntKind.wrap .i64 ((i : Int) + 1) = ((i + 1 : Nat) : Int) := wrapA1 (by omega)
    have hl : (ofBytes (List.replicate i c)).length = i := by rw [ofBytes_length, List.length_replicate]
    obtain ⟨v2, s2, x2, e1, o2, k2, n2⟩ := app_own (b := 1) (new := [.int .u8 (c.toNat : Int)]) h (by simp) (room_of (by rw [hl]; simp; omega) (by omega) (by omega))
    have e : ofBytes (List.replicate i c) ++ [AV.int .u8 (c.toNat : Int)] = ofBytes (List.replicate (i + 1) c) := by
      rw [List.replicate_succ', ofBytes_append]; rfl
    rw [e] at o2
    obtain ⟨v', st', e', o'⟩ := many_loop n c hn k (i + 1) v2 s2 (by omega) o2
    refine ⟨v', st', ?_, o'⟩
    have a2 : ∀ {β : Type} (K : Kv β), appS 1 1 5 v (ofBytes [c]) st K = K v2 s2 x2 := fun K => appS_of e1 K
    rw [loopO_inl (s' := ([v2, .int .i64 ((i + 1 : Nat) : Int)], s2)), e']
    simp only [g6_L1, unc_cons, asI_int, un0_nil, ifB_decide, if_pos q, fitTs_bytes, sizes_bytes, chk_true, a2, letV_eq, w1]
theorem many_ok {n : Nat} (c : UInt8) (h1 : 1 ≤ n) (hn : n ≤ 1000000) : (orc vE).bare 6 [.int .i64 (n : Int), .str [c]] = some (.str (List.replicate n c)) := by
  refine bare_of rfl ((g6_eq _ _).trans ?_)
  have w1 : IntKind.wrap .i64 ((n : Int) * (([c].length : Nat) : Int)) = (n : Int) := by
    rw [show (n : Int) * (([c].length : Nat) : Int) = (n : Int) by simp]; exact wrapN (by omega)
  obtain ⟨v', st', e, o⟩ := many_loop n c hn n 0 (.sl 1 [] (.own 0)) (St.add (St.mk 0 0 Tr.leaf) (.tok 0 5)) (by omega) ⟨by simp [St.add_ro, St.add_h], Nat.zero_le _, .inr (.inr ⟨0, rfl, rfl, Nat.le_refl _⟩)⟩
  have e : loopO (g6_L1 (n : Int) [c]) ([.sl 1 [] (.own 0), .int .i64 0], St.add (St.mk 0 0 Tr.leaf) (.tok 0 5)) = _ := e
  have pm : ∀ {β : Type} (K : Kv β), planS (orc vE) (makeSliceP (Env.T vE) 49 (.int .i64 0) (.int .i64 (n : Int))) (St.mk 0 0 Tr.leaf) K = K (.sl 1 [] (.own 0)) (St.add (St.mk 0 0 Tr.leaf) (.tok 0 5)) ⟨[], .made 0 (.tok 0 5)⟩ := fun K => by
    rw [make_bytes hn]; rfl
  have hne : ofBytes (List.replicate n c) ≠ [] := by
    intro h
    have := congrArg List.length h
    rw [ofBytes_length, List.length_replicate] at this
    simp at this; omega
  obtain ⟨p, rfl⟩ : ∃ p, v' = .sl 1 (ofBytes (List.replicate n c)) p := by
    rcases o.2.2 with ⟨_, h⟩ | h | ⟨k, h, _⟩
    · exact absurd h hne
    · exact ⟨_, h⟩
    · exact ⟨_, h⟩
  have pc : ∀ {β : Type} (st : St) (K : Kv β), planS (orc vE) (convertP (Env.T vE) 49 9 (.sl 1 (ofBytes (List.replicate n c)) p)) st K = K (.str (List.replicate n c)) st q0 := fun st K => by
    rw [conv_bytes]; rfl
  simp only [g6, asI_int, asS_str, letV_eq, w1, pm]
  rw [e]
  simp only [bindO_ok, unc_cons, un0_nil, pc, asS_str, letV_eq]
theorem tokens_large {s : List UInt8} (h : 65536 < s.length) : (orc vE).bare 21 [.str s] = some (.tup [.nils, .int .i64 40]) := by
  refine bare_of rfl ((g21_eq _).trans ?_)
  have q : (s.length : Int) > 65536 := by omega
  simp only [g21, asS_str, ifB_decide, if_pos q]
theorem parse_large {s : List UInt8} (h : 65536 < s.length) : (orc vE).bare 15 [.str s] = some (.tup [.agg [.int .u8 0, .int .u8 0, .str [], .nils], .int .i64 40]) := by
  have c := fun {γ : Type} (st : St) (K : Kv γ) => callS_bare (f := 21) st K rfl rfl rfl (tokens_large h)
  refine bare_of rfl ((g15_eq _).trans ?_)
  simp only [g15, asS_str, c]
  rfl
theorem new_large {s : List UInt8} (h : 65536 < s.length) : (orc vE).bare 5 [.str s] = some (.tup [.nilp, .int .i64 40]) := by
  have c := fun {γ : Type} (st : St) (K : Kv γ) => callS_bare (f := 15) st K rfl rfl rfl (parse_large h)
  refine bare_of rfl ((g5_eq _).trans ?_)
  simp only [g5, asS_str, c]
  rfl
/-- Too large a text. -/
theorem edit_large {tx x : List UInt8} {cs : List AV} (h1 : 65506 < x.length) (h2 : 29 < tx.length) (h3 : tx.length ≤ 65536) :
    (orc vE).bare 7 [.ip (.str tx :: cs), .agg [.int .i64 0, .int .i64 0, .str x]] = some (.tup [.nilp, .int .i64 40]) := by
  refine bare_of rfl ((g7_eq _ _).trans ?_)
  have n0 : ∀ {β : Type} (t : TypeId) (K : Bool → Option β), nilS (U.ptr t) (AV.ip (.str tx :: cs)) AV.nilp K = K false := fun t K => rfl
  have nn : notNil (AV.ip (.str tx :: cs)) = true := rfl
  have f0 : ∀ {β : Type} (K : AV → Option β), fldA 0 (AV.ip (.str tx :: cs)) K = K (AV.ip (.str tx :: cs)) := fun K => rfl
  have l0 : ∀ {β : Type} (st : St) (K : AV → List Nat → Option β), loadS 1 false (AV.ip (.str tx :: cs)) st K = K (.str tx) [] := fun st K => rfl
  have d0 : decide ((0 : Int) < 0) = false := rfl
  have d1 : decide ((0 : Int) > (tx.length : Int)) = false := decide_eq_false (by omega)
  have w0 : IntKind.wrap .i64 ((0 : Int) - 0) = 0 := rfl
  have w1 : IntKind.wrap .i64 ((tx.length : Int) - 0) = (tx.length : Int) := by rw [IntKind.wrap_i64]; omega
  have w2 : IntKind.wrap .i64 ((65536 : Int) - (tx.length : Int)) = 65536 - (tx.length : Int) := by rw [IntKind.wrap_i64]; omega
  have d2 : decide ((x.length : Int) > 65536 - (tx.length : Int)) = true := decide_eq_true (by omega)
  simp only [g7, unA_agg, unc_cons, asI_int, asS_str, un0_nil, n0, ifB_false, d0, nn, chk_true, f0, l0, d1, bindO_ok, asB_bool, letV_eq, w0, w1, w2, d2, ifB_true]
/-- rostrum/green.leaves -/
noncomputable def g58 : AV → Option AV := fun x0 => unA x0 fun l1 => unc l1 fun v2 l3 => asI .u8 v2 fun n4 => unc l3 fun v5 l6 => asI .u8 v5 fun n7 => unc l6 fun v8 l9 => asS v8 fun l10 => unc l9 fun v11 l12 => un0 l12
 (asOne v11 (frzS (St.mk 1 0 (Tr.node (some (VM.Obj.cells 43 [AV.int .u8 n4, AV.int .u8 n7, AV.str l10, v11])) Tr.leaf Tr.leaf)) 0 (AV.fn (Fn.func 76) [] [AV.mp 0 0]) fun v13 => some v13))
theorem g58_eq (x0 : AV) : bareS vE 58 [x0] = g58 x0 := by kernel_rfl
/-- rostrum/green.ahead -/
noncomputable def w59_L1 (v13 : AV) (k14 : Nat) : Car → Option (Car ⊕ Nat × Car) := fun c15 => unc (Prod.fst c15) fun v16 l17 => unc l17 fun v18 l19 => asI .i64 v18 fun n20 => un0 l19 (ifB (decide (n20 < (↑k14 : Int)))
 (idxA 4 v13 n20 (Prod.snd c15) fun v21 _x => loadS 4 true v21 (Prod.snd c15) fun v23 _x => unA v23 fun l26 => unc l26 fun v27 l28 => asI .u8 v27 fun n29 => unc l28 fun v30 l31 => asI .u8 v30 fun n32 => unc l31 fun v33
 l34 => asS v33 fun l35 => unc l34 fun v36 l37 => un0 l37 (letSt (St.add (Prod.snd c15) (VM.Obj.cells 43 [AV.int .u8 0, AV.int .u8 0, AV.str [], AV.nils])) fun st38 => asOne v36 (storeS (orc vE) 4 (AV.mp (St.h (Prod.snd
 c15)) 0) (AV.agg [AV.int .u8 n29, AV.int .u8 n32, AV.str l35, v36]) [AV.int .u8 n29, AV.int .u8 n32, AV.str l35, v36] st38 fun _x st40 _x_1 => loadS 4 true (AV.mp (St.h (Prod.snd c15)) 0) st40 fun v42 _x => unA v42 fun
 l45 => unc l45 fun v46 l47 => asI .u8 v46 fun n48 => unc l47 fun v49 l50 => asI .u8 v49 fun n51 => unc l50 fun v52 l53 => asS v52 fun l54 => unc l53 fun v55 l56 => un0 l56 (callS (orc vE) 40 [AV.agg [AV.int .u8 n48,
 AV.int .u8 n51, AV.str l54, v55]] st40 fun v57 st58 _x => elemsS v57 fun l60 => fitTs true l60 fun l61 => chk (sizesOk 2 l61) (appS 2 24 40 v16 l61 st58 fun v62 st63 _x => letV (IntKind.wrap .i64 (n20 + 1)) fun n65 =>
 some (Sum.inl ([v62, AV.int .i64 n65], st63))))))) (some (Sum.inr (0, [v16], Prod.snd c15))))
noncomputable def w59 : AV → AV → St → Option (AV × St) := fun x0 x1 st => unA x1 fun l1 => unc l1 fun v2 l3 => asI .u8 v2 fun _x => unc l3 fun v5 l6 => asI .u8 v5 fun _x => unc l6 fun v8 l9 => asS v8 fun _x => unc l9
 fun v11 l12 => un0 l12 (asOne v11 (fit1 v11 fun v13 => lenS v13 fun k14 => bindO (loopO (w59_L1 v13 k14) ([x0, AV.int .i64 0], st)) fun c66 => unc (Prod.fst (Prod.snd c66)) fun v67 l68 => un0 l68 (some (oneOf [v67],
 Prod.snd (Prod.snd c66)))))
theorem w59_eq (x0 x1 : AV) (st : St) : wideS vE 59 [x0, x1] st = w59 x0 x1 st := by kernel_rfl
/-- rostrum/green.leaves$1 -/
noncomputable def w76 : AV → AV → St → Option (AV × St) := fun x0 x1 st => loadS 4 true x1 st fun v0 _x => unA v0 fun l3 => unc l3 fun v4 l5 => asI .u8 v4 fun n6 => unc l5 fun v7 l8 => asI .u8 v7 fun n9 => unc l8 fun
 v10 l11 => asS v10 fun l12 => unc l11 fun v13 l14 => un0 l14 (callS (orc vE) 77 [AV.agg [AV.int .u8 n6, AV.int .u8 n9, AV.str l12, v13], AV.nils, x0] st fun v15 st16 _x => asB v15 fun _x => some (AV.tup [], st16))
theorem w76_eq (x0 x1 : AV) (st : St) : wideS vE 76 [x0, x1] st = w76 x0 x1 st := by kernel_rfl
/-- rostrum/green.walk -/
noncomputable def w77_L1 (x1 : AV) (x2 : AV) (v13 : AV) (k19 : Nat) : Car → Option (Car ⊕ Nat × Car) := fun c20 => unc (Prod.fst c20) fun v21 l22 => asB v21 fun b23 => unc l22 fun v24 l25 => asI .i64 v24 fun n26 => un0
 l25 (ifB (decide (n26 < (↑k19 : Int))) (idxA 4 v13 n26 (Prod.snd c20) fun v27 _x => loadS 4 true v27 (Prod.snd c20) fun v29 _x => unA v29 fun l32 => unc l32 fun v33 l34 => asI .u8 v33 fun n35 => unc l34 fun v36 l37 =>
 asI .u8 v36 fun n38 => unc l37 fun v39 l40 => asS v39 fun l41 => unc l40 fun v42 l43 => un0 l43 (letSt (St.add (Prod.snd c20) (VM.Obj.cells 43 [AV.int .u8 0, AV.int .u8 0, AV.str [], AV.nils])) fun st44 => asOne v42
 (storeS (orc vE) 4 (AV.mp (St.h (Prod.snd c20)) 0) (AV.agg [AV.int .u8 n35, AV.int .u8 n38, AV.str l41, v42]) [AV.int .u8 n35, AV.int .u8 n38, AV.str l41, v42] st44 fun _x st46 _x_1 => loadS 4 true (AV.mp (St.h
 (Prod.snd c20)) 0) st46 fun v48 l49 => unA v48 fun l51 => unc l51 fun v52 l53 => asI .u8 v52 fun n54 => unc l53 fun v55 l56 => asI .u8 v55 fun n57 => unc l56 fun v58 l59 => asS v58 fun l60 => unc l59 fun v61 l62 => un0
 l62 (lenS x1 fun k63 => lenS x1 fun k64 => sliceS 1 x1 none (some (↑k63 : Int)) (some (↑k64 : Int)) fun v65 => appS 1 8 3 v65 [AV.int .i64 n26] st46 fun v66 st67 x68 => chk (apart (Fx.mk l49 Did.kept) x68 && true) (chk
 (apart x68 (Fx.mk [] Did.kept) && true) (callS (orc vE) 77 [AV.agg [AV.int .u8 n54, AV.int .u8 n57, AV.str l60, v61], v66, x2] st67 fun v69 st70 _x => asB v69 fun b72 => ifB (!b72) (some (Sum.inr (1, [AV.bool false],
 st70))) (letV (IntKind.wrap .i64 (n26 + 1)) fun n73 => some (Sum.inl ([AV.bool b23, AV.int .i64 n73], st70))))))))) (some (Sum.inr (0, [AV.bool b23], Prod.snd c20))))
noncomputable def w77 : AV → AV → AV → St → Option (AV × St) := fun x0 x1 x2 st => unA x0 fun l1 => unc l1 fun v2 l3 => asI .u8 v2 fun n4 => unc l3 fun v5 l6 => asI .u8 v5 fun n7 => unc l6 fun v8 l9 => asS v8 fun l10 =>
 unc l9 fun v11 l12 => un0 l12 (asOne v11 (fit1 v11 fun v13 => ifB (n4 == 1) (callF (orc vE) (Sx.prim (sx vE 77)) x2 [x1, AV.agg [AV.int .u8 n4, AV.int .u8 n7, AV.str l10, v13]] st fun v15 st16 _x => asB v15 fun b18 =>
 some (AV.bool b18, st16)) (ifB (n4 == 2) (some (AV.bool true, st)) (lenS v13 fun k19 => bindO (loopO (w77_L1 x1 x2 v13 k19) ([AV.bool false, AV.int .i64 0], st)) fun c74 => unc (Prod.fst (Prod.snd c74)) fun v75 l76 =>
 asB v75 fun b77 => un0 l76 (sel2 (Prod.fst c74) (some (AV.bool true, Prod.snd (Prod.snd c74))) fun _x => some (AV.bool b77, Prod.snd (Prod.snd c74)))))))
theorem w77_eq (x0 x1 x2 : AV) (st : St) : wideS vE 77 [x0, x1, x2] st = w77 x0 x1 x2 st := by kernel_rfl
/-- rostrum/green.Tokens -/
noncomputable def g40 : AV → Option AV := fun x0 => unA x0 fun l1 => unc l1 fun v2 l3 => asI .u8 v2 fun n4 => unc l3 fun v5 l6 => asI .u8 v5 fun n7 => unc l6 fun v8 l9 => asS v8 fun l10 => unc l9 fun v11 l12 => un0 l12
 (asOne v11 (fit1 v11 fun v13 => callS (orc vE) 58 [AV.agg [AV.int .u8 n4, AV.int .u8 n7, AV.str l10, v13]] (St.mk 1 0 (Tr.node (some (VM.Obj.cells 59 [AV.nils])) Tr.leaf Tr.leaf)) fun v15 st16 _x => rangeS (orc vE) v15
 (lpS vE 40 0 [AV.mp 0 0] 0 Ex.normal) st16 fun c18 st19 => jumpIf c18 Ex.normal (loadS 1 false (AV.mp 0 0) st19 fun v20 _x => frzS st19 0 (oneOf [v20]) fun v22 => some v22) none))
theorem g40_eq (x0 : AV) : bareS vE 40 [x0] = g40 x0 := by kernel_rfl
/-- rostrum/green.Tokens -/
noncomputable def r40_0 : Nat → AV → AV → AV → St → Option (AV × St) := fun k y0 _x x1 st => unA x1 fun l1 => unc l1 fun v2 l3 => asI .u8 v2 fun n4 => unc l3 fun v5 l6 => asI .u8 v5 fun n7 => unc l6 fun v8 l9 => asS v8
 fun l10 => unc l9 fun v11 l12 => un0 l12 (letSt (St.add st (VM.Obj.cells 43 [AV.int .u8 0, AV.int .u8 0, AV.str [], AV.nils])) fun st13 => asOne v11 (storeS (orc vE) 4 (AV.mp (St.h st) 0) (AV.agg [AV.int .u8 n4, AV.int
 .u8 n7, AV.str l10, v11]) [AV.int .u8 n4, AV.int .u8 n7, AV.str l10, v11] st13 fun _x st15 _x_1 => setLoopS k 0 1 Ex.normal st15 fun st17 => loadS 1 false y0 st17 fun v18 _x => loadS 4 true (AV.mp (St.h st) 0) st17 fun
 v20 _x => unA v20 fun l23 => unc l23 fun v24 l25 => asI .u8 v24 fun n26 => unc l25 fun v27 l28 => asI .u8 v27 fun n29 => unc l28 fun v30 l31 => asS v30 fun l32 => unc l31 fun v33 l34 => un0 l34 (callS (orc vE) 59 [v18,
 AV.agg [AV.int .u8 n26, AV.int .u8 n29, AV.str l32, v33]] st17 fun v35 st36 _x => asOne v35 (asOne v35 (storeS (orc vE) 1 y0 v35 [v35] st36 fun _x st39 _x_2 => loadS 2 true (AV.mp (St.h st) 1) st39 fun v41 _x => unA v41
 fun l44 => unc l44 fun v45 l46 => asI .u8 v45 fun n47 => unc l46 fun v48 l49 => asS v48 fun l50 => un0 l49 (bindO (toO (VM.binOp (Env.T vE) BinOp.neq 40 (AV.agg [AV.int .u8 n47, AV.str l50]) (AV.agg [AV.int .u8 0,
 AV.str []]))) fun v52 => asB v52 fun b53 => bindO (ifB b53 (loadS 1 false y0 st39 fun v54 _x => loadS 2 true (AV.mp (St.h st) 1) st39 fun v56 _x => unA v56 fun l59 => unc l59 fun v60 l61 => asI .u8 v60 fun n62 => unc
 l61 fun v63 l64 => asS v63 fun l65 => un0 l64 (appS 2 24 40 v54 [AV.agg [AV.int .u8 n62, AV.str l65]] st39 fun v66 st67 _x => asOne v66 (asOne v66 (storeS (orc vE) 1 y0 v66 [v66] st67 fun _x st70 _x_3 => some ([],
 st70))))) (some ([], st39))) fun c72 => un0 (Prod.fst c72) (setLoopS k 1 0 Ex.normal (Prod.snd c72) fun st73 => some (AV.bool true, st73))))))))
theorem r40_0_eq (k : Nat) (y0 x0 x1 : AV) (st : St) : roundS vE 40 0 k [y0] [x0, x1] st = r40_0 k y0 x0 x1 st := by kernel_rfl
/-- rostrum/green.Text -/
noncomputable def g24 : AV → Option AV := fun x0 => unA x0 fun l1 => unc l1 fun v2 l3 => asI .u8 v2 fun n4 => unc l3 fun v5 l6 => asI .u8 v5 fun n7 => unc l6 fun v8 l9 => asS v8 fun l10 => unc l9 fun v11 l12 => un0 l12
 (asOne v11 (fit1 v11 fun v13 => callS (orc vE) 40 [AV.agg [AV.int .u8 n4, AV.int .u8 n7, AV.str l10, v13]] (St.mk 0 0 Tr.leaf) fun v15 st16 _x => callS (orc vE) 39 [v15] st16 fun v18 _x _x_1 => asS v18 fun l21 => some
 (AV.str l21)))
theorem g24_eq (x0 : AV) : bareS vE 24 [x0] = g24 x0 := by kernel_rfl
/-- rostrum/lex.Join -/
noncomputable def g39_L1 (x0 : AV) (k0 : Nat) : Car → Option (Car ⊕ Nat × Car) := fun c1 => unc (Prod.fst c1) fun v2 l3 => asI .i64 v2 fun n4 => un0 l3 (ifB (decide (n4 < (↑k0 : Int))) (idxA 2 x0 n4 (Prod.snd c1) fun v5
 _x => loadS 2 true v5 (Prod.snd c1) fun v7 _x => unA v7 fun l10 => unc l10 fun v11 l12 => asI .u8 v11 fun n13 => unc l12 fun v14 l15 => asS v14 fun l16 => un0 l15 (letSt (St.add (Prod.snd c1) (VM.Obj.cells 40 [AV.int
 .u8 0, AV.str []])) fun st17 => storeS (orc vE) 2 (AV.mp (St.h (Prod.snd c1)) 0) (AV.agg [AV.int .u8 n13, AV.str l16]) [AV.int .u8 n13, AV.str l16] st17 fun _x st19 _x_1 => loadS 1 false (AV.mp (St.h (Prod.snd c1)) 1)
 st19 fun v21 _x => asS v21 fun l23 => callS (orc vE) 56 [AV.mp 0 0, AV.str l23] st19 fun _x st25 _x_2 => letV (IntKind.wrap .i64 (n4 + 1)) fun n27 => some (Sum.inl ([AV.int .i64 n27], st25)))) (some (Sum.inr (0, [],
 Prod.snd c1))))
noncomputable def g39 : AV → Option AV := fun x0 => lenS x0 fun k0 => bindO (loopO (g39_L1 x0 k0) ([AV.int .i64 0], St.mk 1 0 (Tr.node (some (VM.Obj.cells 101 [AV.nilp, AV.nils])) Tr.leaf Tr.leaf))) fun c28 => un0
 (Prod.fst (Prod.snd c28)) (planS (orc vE) (primP (Prim.builderString 5) [AV.mp 0 0]) (Prod.snd (Prod.snd c28)) fun v29 _x _x_1 => asS v29 fun l32 => some (AV.str l32))
theorem g39_eq (x0 : AV) : bareS vE 39 [x0] = g39 x0 := by kernel_rfl
/-- (*strings.Builder).WriteString -/
noncomputable def w56 : AV → AV → St → Option (AV × St) := fun x0 x1 st => asS x1 fun l0 => planS (orc vE) (primP (Prim.copyCheck [(100, 2, 0), (101, 2, 0)]) [x0]) st fun _x st2 _x_1 => chk (notNil x0) (fldA 1 x0 fun v4
 => loadS 1 false v4 st2 fun v5 _x => fitTs false (ofBytes l0) fun l7 => chk (sizesOk 1 l7) (appS 1 1 5 v5 l7 st2 fun v8 st9 _x => chk (notNil x0) (fldA 1 x0 fun v11 => asOne v8 (asOne v8 (storeS (orc vE) 1 v11 v8 [v8]
 st9 fun _x st13 _x_2 => some (AV.tup [AV.int .i64 (↑(List.length l0) : Int), AV.nili], st13))))))
theorem w56_eq (x0 x1 : AV) (st : St) : wideS vE 56 [x0, x1] st = w56 x0 x1 st := by kernel_rfl
end Go.Proofs.YthapbjoekpbhgaaGreatDoor.Vm
/- Tokens: put together (as LexJo, on another base). -/
namespace Go.Proofs.YthapbjoekpbhgaaGreatDoor.Vm
open Go Go.VM Go.Proofs Go.Lex
def tok (p : Nat × List UInt8) : AV := .agg [.int .u8 (p.1 : Int), .str p.2]
theorem eq_tok (a b : Int) (s t : List UInt8) : eqT (Env.T vE) 20 40 (.agg [.int .u8 a, .str s]) (.agg [.int .u8 b, .str t]) = .ok (a == b && s == t) := by
  have h : eqT (Env.T vE) 20 40 (.agg [.int .u8 a, .str s]) (.agg [.int .u8 b, .str t]) = (match a == b with | true => (match s == t with | true => .ok true | false => .ok false) | false => .ok false) := by kernel_rfl
  rw [h]
  cases a == b <;> cases s == t <;> rfl
theorem neq_tok (a b : Int) (s t : List UInt8) : toO (VM.binOp (Env.T vE) BinOp.neq 40 (.agg [.int .u8 a, .str s]) (.agg [.int .u8 b, .str t])) = some (.bool !(a == b && s == t)) := by
  have h : VM.binOp (Env.T vE) BinOp.neq 40 (.agg [.int .u8 a, .str s]) (.agg [.int .u8 b, .str t]) = (do pure (.bool !(← eqT (Env.T vE) 20 40 (.agg [.int .u8 a, .str s]) (.agg [.int .u8 b, .str t])))) := by kernel_rfl
  rw [h, eq_tok]; rfl
theorem toks_idx {x : AV} {es : List (Nat × List UInt8)} (h : IsSl 2 x (es.map tok)) {j : Nat} {p : Nat × List UInt8} (hj : es[j]? = some p) {β : Type} (st : St) (K : AV → List Nat → Option β) : idxA 2 x (j : Int) st K = K (.ip [.int .u8 (p.1 : Int), .str p.2]) [] :=
  h.idx (by rw [List.getElem?_map, hj]; rfl) st K
theorem isB_keeps {st st' : St} {T u8 : TypeId} {p : Nat} {pre post : List AV} {out : List UInt8} (h : IsB st T u8 p pre post out) (k : Keeps st st' (fun _ => False)) : IsB st' T u8 p pre post out := by
  obtain ⟨a0, a1, h1, h2, h3, h4⟩ := h
  refine ⟨a0, a1, k.old _ _ (fun h => h) h1, h2, ?_, by rw [k.ro]; exact h4⟩
  rcases h3 with h3 | ⟨n, e, hk, hr, hn⟩
  · exact .inl h3
  · exact .inr ⟨n, e, k.old _ _ (fun h => h) hk, by rw [k.ro]; exact hr, hn⟩
theorem isB_ro {st : St} {T u8 : TypeId} {p : Nat} {pre post : List AV} {out : List UInt8} (h : IsB st T u8 p pre post out) : st.ro ≤ st.h := by
  obtain ⟨a0, a1, g, _, _, hr⟩ := h
  exact Nat.le_trans hr (Nat.le_of_lt (St.get_ok.1 g).1)
theorem write_str {st : St} {out s : List UInt8} (h : IsB st 101 5 0 [] [] out) (hl : out.length + s.length ≤ 1000000000) :
    ∃ st', IsB st' 101 5 0 [] [] (out ++ s) ∧ ∃ v fx, ∀ {β : Type} (K : Kv β), callS (orc vE) 56 [.mp 0 0, .str s] st K = K v st' fx := by
  obtain ⟨st', e, hB, _⟩ := bWrite_ok (O := orc vE) (L := [(100, 2, 0), (101, 2, 0)]) (s := s) h rfl (by omega) (isB_ro h)
  have e : w56 (.mp 0 0) (.str s) st = _ := e
  exact ⟨st', hB, _, _, fun K => callS_wide K rfl rfl (wide_of ((w56_eq _ _ _).trans e))⟩
theorem join_loop {x : AV} {es : List (Nat × List UInt8)} (hx : IsSl 2 x (es.map tok)) : ∀ (l : List (Nat × List UInt8)) (j : Nat) (st : St) (out : List UInt8), es.drop j = l → IsB st 101 5 0 [] [] out → j + l.length ≤ 1000000 → out.length + (l.map (·.2)).flatten.length ≤ 1000000 →
    ∃ st', loopO (g39_L1 x (es.map tok).length) ([.int .i64 (j : Int)], st) = some (0, [], st') ∧ IsB st' 101 5 0 [] [] (out ++ (l.map (·.2)).flatten)
  | [], j, st, out, hd, hB, _, _ => by
    have := List.drop_eq_nil_iff.1 hd
    have q : ¬ (j : Int) < ((es.map tok).length : Int) := by rw [List.length_map]; omega
    refine ⟨st, loopO_inr ?_, by simpa using hB⟩
    simp only [g39_L1, unc_cons, asI_int, un0_nil, ifB_decide, if_neg q]
  | p :: l, j, st, out, hd, hB, hj, hl => by
    obtain ⟨hg, hr, hlt⟩ := drop_cons hd
    have q : (j : Int) < ((es.map tok).length : Int) := by rw [List.length_map]; omega
    simp only [List.map_cons, List.flatten_cons, List.length_append, List.length_cons] at hj hl
    obtain ⟨s1, g1, k1, n1, fx1, e1⟩ := local_var (O := orc vE) (st := st) (t := 40) (z := 2) (old := [.int .u8 0, .str []]) (cs := [.int .u8 (p.1 : Int), .str p.2]) (.agg [.int .u8 (p.1 : Int), .str p.2]) rfl rfl (isB_ro hB)
    obtain ⟨s2, hB2, v2, fx2, e2⟩ := write_str (s := p.2) (isB_keeps hB k1) (by omega)
    obtain ⟨s3, e3, hB3⟩ := join_loop hx l (j + 1) s2 (out ++ p.2) hr hB2 (by omega) (by rw [List.length_append]; omega)
    refine ⟨s3, ?_, by simpa using hB3⟩
    rw [loopO_inl (s' := ([.int .i64 ((j + 1 : Nat) : Int)], s2)), e3]
    simp only [g39_L1, unc_cons, asI_int, un0_nil, ifB_decide, if_pos q, toks_idx hx hg, loadS_ip, takeO2, bindO_ok, unA_agg, asS_str, letSt_eq, e1, loadS_mp g1, List.drop_succ_cons, List.drop_zero, takeO_one, e2, letV_eq, wrapA1 (show j + 1 ≤ 9223372036854775807 by omega)]
theorem join_ok {x : AV} {es : List (Nat × List UInt8)} (hx : IsSl 2 x (es.map tok)) (h1 : es.length ≤ 1000000) (h2 : (es.map (·.2)).flatten.length ≤ 1000000) : (orc vE).bare 39 [x] = some (.str (es.map (·.2)).flatten) := by
  refine bare_of rfl ((g39_eq _).trans ?_)
  have h0 : IsB (St.mk 1 0 (Tr.node (some (VM.Obj.cells 101 [AV.nilp, AV.nils])) Tr.leaf Tr.leaf)) 101 5 0 [] [] [] := ⟨.nilp, .nils, rfl, .inl rfl, .inl ⟨rfl, rfl⟩, Nat.le_refl _⟩
  obtain ⟨st', e, hB⟩ := join_loop hx es 0 _ [] rfl h0 (by omega) (by simpa using h2)
  rw [List.nil_append] at hB
  have e : loopO (g39_L1 x (es.map tok).length) ([.int .i64 0], St.mk 1 0 (Tr.node (some (VM.Obj.cells 101 [AV.nilp, AV.nils])) Tr.leaf Tr.leaf)) = _ := e
  obtain ⟨fx, e2⟩ := bstring_ok (O := orc vE) hB (by omega) (fun v _ _ => asS v fun l => some (AV.str l))
  simp only [g39, hx.len]
  rw [e]
  simp only [bindO_ok, un0_nil]
  exact e2
theorem call_join {β : Type} {x : AV} {es : List (Nat × List UInt8)} (hx : IsSl 2 x (es.map tok)) (h1 : es.length ≤ 1000000) (h2 : (es.map (·.2)).flatten.length ≤ 1000000) (st : St) (K : Kv β) : callS (orc vE) 39 [x] st K = K (.str (es.map (·.2)).flatten) st q0 :=
  callS_bare st K rfl (by simp only [List.map_cons, List.map_nil, hx.strip]) (by simp [bares, VM.bare.bareAll, hx.bare]) (join_ok hx h1 h2)
end Go.Proofs.YthapbjoekpbhgaaGreatDoor.Vm
/- Nodes as values (on another base). -/
namespace Go.Proofs.YthapbjoekpbhgaaGreatDoor.Vm
open Go Go.VM Go.Proofs Go.Lex Go.Parse
mutual
/-- A tree that never changes. -/
def IsN : T → AV → Prop
  | .mk k tk tx l, v => ∃ x es, v = .agg [.int .u8 (k : Int), .int .u8 (tk : Int), .str tx, x] ∧ IsSl 4 x es ∧ IsNs l es
def IsNs : List T → List AV → Prop
  | [], es => es = []
  | t :: l, es => ∃ e r, es = e :: r ∧ IsN t e ∧ IsNs l r
end
theorem IsNs.nil : IsNs [] [] := by simp only [IsNs]
theorem IsNs.cons {t : T} {l : List T} {e : AV} {r : List AV} (h : IsN t e) (hs : IsNs l r) : IsNs (t :: l) (e :: r) := by
  simp only [IsNs]; exact ⟨e, r, rfl, h, hs⟩
theorem IsNs.app : ∀ {l m : List T} {es fs : List AV}, IsNs l es → IsNs m fs → IsNs (l ++ m) (es ++ fs)
  | [], _, _, _, h, k => by simp only [IsNs] at h; subst h; exact k
  | t :: l, _, _, _, h, k => by
    simp only [IsNs] at h
    obtain ⟨e, r, rfl, h1, h2⟩ := h
    exact IsNs.cons h1 (IsNs.app h2 k)
theorem IsNs.len : ∀ {l : List T} {es : List AV}, IsNs l es → es.length = l.length
  | [], _, h => by simp only [IsNs] at h; subst h; rfl
  | t :: l, _, h => by
    simp only [IsNs] at h
    obtain ⟨e, r, rfl, h1, h2⟩ := h
    simp [IsNs.len h2]
/-- Children, which may be appended to or not. -/
def IsK (x : AV) (es : List AV) : Prop := IsSl 4 x es ∨ (es.length ≤ 9223372036854775807 ∧ ∃ k, x = .sl 4 es (.own k))
theorem IsK.one {x : AV} {es : List AV} (h : IsK x es) : VM.one x = true := by
  rcases h with h | ⟨_, k, rfl⟩
  · exact h.one
  · rfl
theorem IsK.asOne {β : Type} {x : AV} {es : List AV} (h : IsK x es) (K : Option β) : asOne x K = K := asOne_of h.one K
theorem IsK.fit {x : AV} {es : List AV} (h : IsK x es) : ∃ x', IsSl 4 x' es ∧ ∀ {β : Type} (K : AV → Option β), fit1 x K = K x' := by
  rcases h with h | ⟨hl, k, rfl⟩
  · exact ⟨x, h, fun K => h.fit1 K⟩
  · exact ⟨.sl 4 es .wide, IsSl.wide hl, fun K => rfl⟩
theorem IsK.own {st : St} {e : TypeId} {x : AV} {es : List AV} (h : Own st 4 e x es) : IsK x es := by
  rcases h.2.2 with ⟨rfl | rfl, rfl⟩ | rfl | ⟨k, rfl, _, _⟩
  · exact .inl IsSl.nils
  · exact .inl IsSl.emp
  · exact .inl (IsSl.shut h.2.1)
  · exact .inr ⟨h.2.1, k, rfl⟩
theorem IsK.elems {β : Type} {x : AV} {es : List AV} (h : IsK x es) (K : List AV → Option β) : elemsS x K = K es := by
  rcases h with h | ⟨_, k, rfl⟩
  · exact h.elems K
  · rfl
/-- A tree, as a call hands it back. -/
structure VN (t : T) (v : AV) : Prop where
  ex : ∃ k tk tx l x es, t = .mk k tk tx l ∧ v = .agg [.int .u8 (k : Int), .int .u8 (tk : Int), .str tx, x] ∧ IsK x es ∧ IsNs l es
/-- The cells of one node. -/
structure Nd (t : T) (k tk : Nat) (tx : List UInt8) (x : AV) : Prop where
  ex : ∃ l es, t = .mk k tk tx l ∧ IsK x es ∧ IsNs l es
theorem Nd.one {t : T} {k tk : Nat} {tx : List UInt8} {x : AV} (h : Nd t k tk tx x) : VM.one x = true := by
  obtain ⟨l, es, _, hk, _⟩ := h.ex
  exact hk.one
theorem Nd.asOne {t : T} {k tk : Nat} {tx : List UInt8} {x : AV} (h : Nd t k tk tx x) {β : Type} (K : Option β) : asOne x K = K := asOne_of h.one K
theorem Nd.fit {t : T} {k tk : Nat} {tx : List UInt8} {x : AV} (h : Nd t k tk tx x) : ∃ x', IsN t (.agg [.int .u8 (k : Int), .int .u8 (tk : Int), .str tx, x']) ∧ ∀ {β : Type} (K : AV → Option β), fit1 x K = K x' := by
  obtain ⟨l, es, rfl, hk, hn⟩ := h.ex
  obtain ⟨x', hx, hf⟩ := hk.fit
  exact ⟨x', by simp only [IsN]; exact ⟨x', es, rfl, hx, hn⟩, hf⟩
theorem VN.cells {t : T} {v : AV} (h : VN t v) : ∃ (k tk : Nat) (tx : List UInt8) (x : AV), v = .agg [.int .u8 (k : Int), .int .u8 (tk : Int), .str tx, x] ∧ Nd t k tk tx x := by
  obtain ⟨k, tk, tx, l, x, es, rfl, rfl, hk, hn⟩ := h.ex
  exact ⟨k, tk, tx, x, rfl, ⟨⟨l, es, rfl, hk, hn⟩⟩⟩
/-- A local node. -/
theorem lvN (st : St) (k tk : Int) (tx : List UInt8) (x : AV) (h : st.ro ≤ st.h) : ∃ st', st'.get st.h = .ok (.cells 43 [.int .u8 k, .int .u8 tk, .str tx, x]) ∧ Keeps st st' (fun _ => False) ∧ st'.h = st.h + 1 ∧ ∃ fx, ∀ {β : Type} (K : Kv β), storeS (orc vE) 4 (AV.mp st.h 0) (.agg [.int .u8 k, .int .u8 tk, .str tx, x]) [.int .u8 k, .int .u8 tk, .str tx, x] (st.add (.cells 43 [.int .u8 0, .int .u8 0, .str [], .nils])) K = K VM.undef st' fx := by
  obtain ⟨st', g, k1, n, fx, e⟩ := local_var (O := orc vE) (st := st) (t := 43) (z := 4) (old := [.int .u8 0, .int .u8 0, .str [], .nils]) (cs := [.int .u8 k, .int .u8 tk, .str tx, x]) (.agg [.int .u8 k, .int .u8 tk, .str tx, x]) rfl rfl h
  exact ⟨st', g, k1, n, fx, e⟩
theorem Keeps.join {a b c : St} {p q : Nat → Prop} (h : Keeps a b p) (k : Keeps b c q) (hq : ∀ j, q j → p j ∨ a.h ≤ j) : Keeps a c p :=
  ⟨k.ro.trans h.ro, Nat.le_trans h.h k.h, fun j o hj hg => k.old j o (fun e => by
    rcases hq j e with h1 | h1
    · exact hj h1
    · have := (St.get_ok.1 hg).1
      omega) (h.old j o hj hg)⟩
abbrev z4 : List AV := [.int .u8 0, .int .u8 0, .str [], .nils]
def unN {β : Type} (v : AV) (K : Int → Int → List UInt8 → AV → Option β) : Option β := unA v fun l => unc l fun v1 l => asI .u8 v1 fun a => unc l fun v2 l => asI .u8 v2 fun b => unc l fun v3 l => asS v3 fun s => unc l fun v4 l => un0 l (K a b s v4)
theorem unN_agg {β : Type} (a b : Int) (s : List UInt8) (y : AV) (K : Int → Int → List UInt8 → AV → Option β) : unN (.agg [.int .u8 a, .int .u8 b, .str s, y]) K = K a b s y := by
  simp only [unN, unA_agg, unc_cons, asI_int, asS_str, un0_nil]
theorem nat_beq (a b : Nat) : ((a : Int) == (b : Int)) = (a == b) := by
  by_cases h : a = b
  · rw [h]; simp
  · rw [beq_eq_false_iff_ne.2 h, beq_eq_false_iff_ne.2 (show ¬ (a : Int) = (b : Int) by omega)]
section
variable {β : Type} {Q : β → Prop} {t : T}
theorem _root_.Go.VM.Goes.two {k tk : Nat} {tx : List UInt8} {y : AV} (hn : Nd t k tk tx y) {e : Option β} (g : Goes e Q) : Goes (asOne y e) Q := Goes.step (Nd.asOne hn e) g
end
theorem isN_one {t : T} {v : AV} (h : IsN t v) : VM.bare v = true ∧ VM.strip v = v := by
  cases t with
  | mk k tk tx l =>
    simp only [IsN] at h
    obtain ⟨x, es, rfl, hx, _⟩ := h
    refine ⟨?_, rfl⟩
    rw [bare_agg]
    simp only [bares_cons, hx.bare]
    rfl
section
variable {t : T}
/-- A tree's parts. -/
theorem isN_open {t : T} {v : AV} (h : IsN t v) : ∃ (k tk : Nat) (tx : List UInt8) (l : List T) (x : AV) (es : List AV), t = .mk k tk tx l ∧ v = .agg [.int .u8 (k : Int), .int .u8 (tk : Int), .str tx, x] ∧ IsSl 4 x es ∧ IsNs l es := by
  cases t with
  | mk k tk tx l =>
    simp only [IsN] at h
    obtain ⟨x, es, rfl, hx, hs⟩ := h
    exact ⟨k, tk, tx, l, x, es, rfl, rfl, hx, hs⟩
theorem IsNs.at : ∀ {l : List T} {es : List AV} {k : Nat} {t : T}, IsNs l es → l[k]? = some t → ∃ e, es[k]? = some e ∧ IsN t e
  | [], _, _, _, _, hk => by simp at hk
  | t :: l, _, 0, _, h, hk => by
    simp only [IsNs] at h
    obtain ⟨a, r, rfl, h1, h2⟩ := h
    obtain rfl : t = _ := by simpa using hk
    exact ⟨a, rfl, h1⟩
  | t :: l, _, k + 1, t', h, hk => by
    simp only [IsNs] at h
    obtain ⟨a, r, rfl, h1, h2⟩ := h
    obtain ⟨e, he, hi⟩ := IsNs.at (k := k) (t := t') h2 (by simpa using hk)
    exact ⟨e, by simpa using he, hi⟩
/-- One of the Kids. -/
theorem kid_at {l : List T} {x : AV} {es : List AV} {k : Nat} (hx : IsSl 4 x es) (hs : IsNs l es) (hk : l[k]? = some t) : ∃ (a b : Nat) (s : List UInt8) (y : AV), IsN t (.agg [.int .u8 (a : Int), .int .u8 (b : Int), .str s, y]) ∧ ∀ {β : Type} (st : St) (K : Int → Int → List UInt8 → AV → Option β), (idxA 4 x (k : Int) st fun u _ => loadS 4 true u st fun u _ => unN u K) = K (a : Int) (b : Int) s y := by
  obtain ⟨e, he, hN⟩ := hs.at hk
  obtain ⟨a, b, s, ll, y, es', rfl, rfl, hy, hys⟩ := isN_open hN
  refine ⟨a, b, s, y, hN, fun st K => ?_⟩
  rw [hx.idx he, cells_agg, loadS_ip, takeO4, bindO_ok, unN_agg]
/-- The same, by the tree's parts. -/
theorem T.ind {Pr : T → Prop} (h : ∀ k tk tx l, (∀ t ∈ l, Pr t) → Pr (.mk k tk tx l)) : ∀ t, Pr t := by
  intro t
  have key : ∀ n (t : T), SizeOf.sizeOf t < n → Pr t := by
    intro n
    induction n with
    | zero => intro t ht; omega
    | succ n ih =>
      intro t ht
      cases t with
      | mk k tk tx l =>
        refine h k tk tx l fun u hu => ih u ?_
        have := List.sizeOf_lt_of_mem hu
        simp only [T.mk.sizeOf_spec] at ht
        omega
  exact key _ t (Nat.lt_succ_self _)
end
theorem callT {F : FuncId} {t : T} {v r : AV} (hN : IsN t v) (hf : vE.full F = false) (h : (orc vE).bare F [v] = some r) {β : Type} (st : St) (K : Kv β) : callS (orc vE) F [v] st K = K r st q0 :=
  callS_bare st K hf (by simp only [List.map_cons, List.map_nil, (isN_one hN).2]) (by simp only [bares_cons, (isN_one hN).1]; rfl) h
theorem ns_len {l : List T} {x : AV} {es : List AV} (hx : IsSl 4 x es) (hs : IsNs l es) {γ : Type} (K : Nat → Option γ) : lenS x K = K l.length := by rw [hx.len, hs.len]
theorem ns_lt {l : List T} {x : AV} {es : List AV} (hx : IsSl 4 x es) (hs : IsNs l es) : l.length ≤ 9223372036854775807 := by rw [← hs.len]; exact hx.1
end Go.Proofs.YthapbjoekpbhgaaGreatDoor.Vm
/- Trees: their leaves, gone through. -/
namespace Go.Proofs.YthapbjoekpbhgaaGreatDoor.Vm
open Go Go.VM Go.Proofs Go.Lex Go.Parse Go.Green
def pathI (p : List Nat) : List AV := p.map fun (i : Nat) => .int .i64 (i : Int)
/-- A path's value. -/
def PathV (x : AV) (p : List Nat) : Prop := (x = .nils ∧ p = []) ∨ ∃ m, x = .sl 1 (pathI p) m ∧ p ≠ []
theorem path_app {x : AV} {p : List Nat} (h : PathV x p) (hp : p.length ≤ 1000000) (i : Nat) (st : St) {β : Type} (K : Kv β) :
    (lenS x fun n => lenS x fun m => sliceS 1 x none (some (n : Int)) (some (m : Int)) fun v => appS 1 8 3 v [.int .i64 (i : Int)] st K) = K (.sl 1 (pathI (p ++ [i])) (.own st.h)) (st.add (.tok (p.length + 1) 3)) ⟨[], .made st.h (.tok (p.length + 1) 3)⟩ := by
  rcases h with ⟨rfl, rfl⟩ | ⟨m, rfl, _⟩
  · have hr : roomOk 1 ⟨.other, 1, 8, [], false, false⟩ = true := room_of (by omega) (by omega) (by omega)
    have ha : appO 1 8 3 .nils [.int .i64 (i : Int)] st = madeO st (.tok 1 3) fun k => .sl 1 [.int .i64 (i : Int)] (.own k) := by
      simp only [appO, List.length_cons, List.length_nil, Nat.zero_add, hr]
    show sliceS 1 .nils none (some ((0 : Nat) : Int)) (some ((0 : Nat) : Int)) (fun v => appS 1 8 3 v [.int .i64 (i : Int)] st K) = _
    have hs : sliceO 1 .nils none (some ((0 : Nat) : Int)) (some ((0 : Nat) : Int)) = some .nils := rfl
    simp only [sliceS, hs, bindO, appS, ha]
    rfl
  · have hl : (pathI p).length = p.length := by simp [pathI]
    have hr : roomOk ((pathI p).length + 1) ⟨.other, 1, 8, [], false, false⟩ = true := room_of (by omega) (by omega) (by omega)
    have hs : sliceO 1 (.sl 1 (pathI p) m) none (some ((pathI p).length : Int)) (some ((pathI p).length : Int)) = some (.sl 1 (pathI p) .shut) := by
      simp only [sliceO, Nat.beq_refl, hiO_nat (Nat.le_refl _), hiO_none, List.take_length, List.drop_zero]
    have ha : appO 1 8 3 (.sl 1 (pathI p) .shut) [.int .i64 (i : Int)] st = madeO st (.tok ((pathI p).length + 1) 3) fun k => .sl 1 (pathI p ++ [.int .i64 (i : Int)]) (.own k) := by
      simp only [appO, List.length_cons, List.length_nil, Nat.zero_add, hr, Nat.beq_refl, Bool.and_self]
    have e : pathI (p ++ [i]) = pathI p ++ [.int .i64 (i : Int)] := by simp [pathI]
    show sliceS 1 (.sl 1 (pathI p) m) none (some ((pathI p).length : Int)) (some ((pathI p).length : Int)) (fun v => appS 1 8 3 v [.int .i64 (i : Int)] st K) = _
    simp only [sliceS, hs, bindO, appS, ha, e, ← hl]
    rfl
theorem path_next {p : List Nat} {i : Nat} {m : Perm} : PathV (.sl 1 (pathI (p ++ [i])) m) (p ++ [i]) := .inr ⟨m, rfl, by simp⟩
/-- What rounds do: by what has been gone through; where one stops. -/
structure Rnds (k : Nat) (all : List (List Nat × T)) (I : List (List Nat × T) → St → Prop) (X : List (List Nat × T) → List Nat × T → St → Prop) : Prop where
  ro : ∀ {d st}, I d st → st.ro ≤ st.h
  keep : ∀ {d st st'}, I d st → Keeps st st' (fun _ => False) → I d st'
  round : ∀ {d q r st x v}, d ++ q :: r = all → I d st → PathV x q.1 → IsN q.2 v → ∃ b st', (orc vE).round k [x, v] st = some (.bool b, st') ∧ (b = true → I (d ++ [q]) st') ∧ (b = false → X d q st')
section
variable {k : Nat} {all : List (List Nat × T)} {I : List (List Nat × T) → St → Prop} {X : List (List Nat × T) → List Nat × T → St → Prop}
/-- What a walk comes to. -/
def Went (I : List (List Nat × T) → St → Prop) (X : List (List Nat × T) → List Nat × T → St → Prop) (d l : List (List Nat × T)) (b : Bool) (st : St) : Prop :=
  (b = true → I (d ++ l) st) ∧ (b = false → ∃ l1 q l2, l = l1 ++ q :: l2 ∧ X (d ++ l1) q st)
def WalkOk (k : Nat) (all : List (List Nat × T)) (I : List (List Nat × T) → St → Prop) (X : List (List Nat × T) → List Nat × T → St → Prop) (t : T) : Prop :=
  ∀ (p : List Nat) (v x : AV) (d r : List (List Nat × T)) (st : St), IsN t v → PathV x p → p.length + depT t ≤ 1000000 → d ++ lv p t ++ r = all → I d st →
    ∃ b st', (orc vE).wide 77 [v, x, .yld k] st = some (.bool b, st') ∧ Went I X d (lv p t) b st'
theorem dep_mem {t : T} : ∀ {l : List T}, t ∈ l → depT t ≤ depL l
  | u :: l, h => by
    rw [depL_cons]
    rcases List.mem_cons.1 h with rfl | h
    · omega
    · have := dep_mem h; omega
theorem bares_yld (u x : AV) (k : Nat) (F : FuncId) : (bares ([u, x, AV.yld k].map strip) && !vE.full F) = false := by
  show (bares [strip u, strip x, .yld k] && _) = false
  simp only [bares_cons]
  show (_ && (_ && (false && true)) && _) = false
  simp
theorem walk_loop (hR : Rnds k all I X) {p : List Nat} {x : AV} (hp : PathV x p) {l : List T} {y : AV} {es : List AV} (hy : IsSl 4 y es) (hs : IsNs l es) (hd : p.length + depL l + 1 ≤ 1000000) (ih : ∀ t ∈ l, WalkOk k all I X t) : ∀ (m : List T) (j : Nat) (d r : List (List Nat × T)) (st : St), l.drop j = m → d ++ lvL p j m ++ r = all → I d st →
    ∃ n b st', loopO (w77_L1 x (.yld k) y l.length) ([.bool false, .int .i64 (j : Int)], st) = some (n, [.bool b], st') ∧ ((n = 0 ∧ I (d ++ lvL p j m) st') ∨ (n = 1 ∧ b = false ∧ ∃ l1 q l2, lvL p j m = l1 ++ q :: l2 ∧ X (d ++ l1) q st'))
  | [], j, d, r, st, hdr, ha, hi => by
    have := List.drop_eq_nil_iff.1 hdr
    have q : ¬ (j : Int) < (l.length : Int) := by omega
    refine ⟨0, false, st, loopO_inr ?_, .inl ⟨rfl, by simpa [lvL] using hi⟩⟩
    simp only [w77_L1, unc_cons, asB_bool, asI_int, un0_nil, ifB_decide, if_neg q]
  | t :: m, j, d, r, st, hdr, ha, hi => by
    obtain ⟨hgt, hr, hlt⟩ := drop_cons hdr
    have q : (j : Int) < (l.length : Int) := by omega
    have hlen := ns_lt hy hs
    obtain ⟨a, b, s, z, hN, e⟩ := kid_at hy hs hgt
    have hz : VM.one z = true := by
      obtain ⟨_, _, _, _, _, _, _, hv, hz, _⟩ := isN_open hN
      injection hv with hv
      injection hv with _ hv; injection hv with _ hv; injection hv with _ hv; injection hv with hv _
      rw [hv]; exact hz.one
    have hro := hR.ro hi
    obtain ⟨s1, g1, k1, n1, fx, e1⟩ := lvN st (a : Int) (b : Int) s z hro
    have hdep := dep_mem (List.mem_of_getElem? hgt)
    have k2 : Keeps s1 (s1.add (.tok (p.length + 1) 3)) (fun _ => False) := Keeps.add _ _ _
    have hi2 := hR.keep (hR.keep hi k1) k2
    simp only [lvL] at ha
    have ha1 : d ++ lv (p ++ [j]) t ++ (lvL p (j + 1) m ++ r) = all := by rw [← ha]; simp
    obtain ⟨c, s3, e3, h3⟩ := ih t (List.mem_of_getElem? hgt) (p ++ [j]) _ (.sl 1 (pathI (p ++ [j])) (.own s1.h)) d _ _ hN path_next (by simp; omega) ha1 hi2
    have c3 : ∀ {γ : Type} (K : Kv γ), callS (orc vE) 77 [.agg [.int .u8 (a : Int), .int .u8 (b : Int), .str s, z], .sl 1 (pathI (p ++ [j])) (.own s1.h), .yld k] (s1.add (.tok (p.length + 1) 3)) K = K (.bool c) s3 _ := fun K => callS_wide K rfl (bares_yld _ _ _ _) e3
    have e' : w77_L1 x (.yld k) y l.length ([.bool false, .int .i64 (j : Int)], st) = ifB (!c) (some (.inr (1, [.bool false], s3))) (some (.inl ([.bool false, .int .i64 ((j + 1 : Nat) : Int)], s3))) := by
      simp only [w77_L1, unc_cons, asB_bool, asI_int, un0_nil, ifB_decide, if_pos q]
      refine (e st _).trans ?_
      have hapart : apart ⟨[st.h], .kept⟩ ⟨[], .made s1.h (.tok (p.length + 1) 3)⟩ = true := by
        show (![st.h].contains s1.h) = true
        rw [n1]; simp
      have hapart2 : apart ⟨[], .made s1.h (.tok (p.length + 1) 3)⟩ ⟨[], .kept⟩ = true := rfl
      simp only [letSt_eq, asOne_of hz, e1, loadS_mp g1, List.drop_zero, takeO4, bindO_ok, unA_agg, unc_cons, asI_int, asS_str, un0_nil]
      refine (path_app hp (by omega) j s1 _).trans ?_
      simp only [hapart, hapart2, Bool.and_self, chk_true, c3, asB_bool, letV_eq, wrapA1 (show j + 1 ≤ 9223372036854775807 by omega)]
    cases c with
    | false =>
      obtain ⟨l1, q, l2, h4, h5⟩ := h3.2 rfl
      refine ⟨1, false, s3, loopO_inr e', .inr ⟨rfl, rfl, l1, q, l2 ++ lvL p (j + 1) m, by simp only [lvL, h4]; simp, h5⟩⟩
    | true =>
      have ha2 : d ++ lv (p ++ [j]) t ++ lvL p (j + 1) m ++ r = all := by rw [← ha]; simp
      obtain ⟨n, b', s4, e4, h4⟩ := walk_loop hR hp hy hs hd ih m (j + 1) _ r s3 hr ha2 (h3.1 rfl)
      refine ⟨n, b', s4, by rw [loopO_inl e', e4], ?_⟩
      rcases h4 with ⟨rfl, h4⟩ | ⟨rfl, rfl, l1, q, l2, h5, h6⟩
      · exact .inl ⟨rfl, by simpa [lvL] using h4⟩
      · exact .inr ⟨rfl, rfl, lv (p ++ [j]) t ++ l1, q, l2, by simp only [lvL, h5]; simp, by simpa using h6⟩
theorem walk_ok (hR : Rnds k all I X) : ∀ t, WalkOk k all I X t := by
  refine T.ind fun kd tk tx l ih => ?_
  intro p v x d r st hN hp hd ha hi
  have hN' := hN
  simp only [IsN] at hN'
  obtain ⟨y, es, rfl, hy, hs⟩ := hN'
  simp only [depT] at hd
  have e1 : ((kd : Int) == 1) = (kd == 1) := nat_beq kd 1
  have e2 : ((kd : Int) == 2) = (kd == 2) := nat_beq kd 2
  by_cases h1 : kd = 1
  · have hl : lv p (.mk kd tk tx l) = [(p, .mk kd tk tx l)] := by simp only [lv, if_pos h1]
    rw [hl] at ha ⊢
    obtain ⟨b, st', e, h2, h3⟩ := hR.round (d := d) (q := (p, .mk kd tk tx l)) (r := r) (by rw [← ha]; simp) hi hp hN
    refine ⟨b, st', wide_of ((w77_eq _ _ _ _).trans ?_), h2, fun hb => ⟨[], _, [], rfl, by rw [List.append_nil]; exact h3 hb⟩⟩
    simp only [w77, unA_agg, unc_cons, asI_int, asS_str, un0_nil, hy.asOne, hy.fit1, e1, beq_iff_eq.2 h1, ifB_true, callF_yld e, asB_bool]
  · by_cases h2 : kd = 2
    · have hl : lv p (.mk kd tk tx l) = [] := by simp only [lv, if_neg h1, if_pos h2]
      rw [hl]
      refine ⟨true, st, wide_of ((w77_eq _ _ _ _).trans ?_), fun _ => by rw [List.append_nil]; exact hi, fun h => by cases h⟩
      simp only [w77, unA_agg, unc_cons, asI_int, asS_str, un0_nil, hy.asOne, hy.fit1, e1, e2, beq_eq_false_iff_ne.2 h1, beq_iff_eq.2 h2, ifB_true, ifB_false]
    · have hl : lv p (.mk kd tk tx l) = lvL p 0 l := by simp only [lv, if_neg h1, if_neg h2]
      rw [hl] at ha ⊢
      obtain ⟨n, b, st', e, h⟩ := walk_loop hR hp hy hs (by omega) ih l 0 d r st rfl ha hi
      have e : loopO (w77_L1 x (.yld k) y l.length) ([.bool false, .int .i64 0], st) = _ := e
      rcases h with ⟨rfl, h⟩ | ⟨rfl, rfl, h⟩
      · refine ⟨true, st', wide_of ((w77_eq _ _ _ _).trans ?_), fun _ => h, fun h => by cases h⟩
        simp only [w77, unA_agg, unc_cons, asI_int, asS_str, un0_nil, hy.asOne, hy.fit1, e1, e2, beq_eq_false_iff_ne.2 h1, beq_eq_false_iff_ne.2 h2, ifB_false, ns_len hy hs, e, bindO_ok, asB_bool, sel2_zero]
      · refine ⟨false, st', wide_of ((w77_eq _ _ _ _).trans ?_), (fun h => by cases h), fun _ => h⟩
        simp only [w77, unA_agg, unc_cons, asI_int, asS_str, un0_nil, hy.asOne, hy.fit1, e1, e2, beq_eq_false_iff_ne.2 h1, beq_eq_false_iff_ne.2 h2, ifB_false, ns_len hy hs, e, bindO_ok, asB_bool, sel2_one]
end
end Go.Proofs.YthapbjoekpbhgaaGreatDoor.Vm
/- Trees: their tokens, by the program. -/
namespace Go.Proofs.YthapbjoekpbhgaaGreatDoor.Vm
open Go Go.VM Go.Proofs Go.Lex Go.Parse Go.Green
theorem tokF (l : List Tok) {β : Type} (K : List AV → Option β) : fitTs true (l.map tok) K = K (l.map tok) :=
  fitTs_of (fun v hv K => by
    obtain ⟨p, _, rfl⟩ := List.mem_map.1 hv
    rfl) K
theorem tokS (l : List Tok) : sizesOk 2 (l.map tok) = true := sizesOk_of fun v hv => by
  obtain ⟨p, _, rfl⟩ := List.mem_map.1 hv
  rfl
theorem own_apps2 {st : St} {z b : Nat} {e : TypeId} {v : AV} {es : List AV} (new : List AV) (h : Own st z e v es) (hr : new ≠ [] → roomOk (es.length + new.length) ⟨.other, z, b, [], false, false⟩ = true) :
    ∃ v' st', Own st' z e v' (es ++ new) ∧ Keeps st st' (ownerOf v) ∧ (∀ j, ownerOf v' j → ownerOf v j ∨ st.h ≤ j) ∧ ∃ x, ∀ {β : Type} (K : Kv β), appS z b e v new st K = K v' st' x := by
  by_cases hn : new = []
  · subst hn
    refine ⟨v, st, by rw [List.append_nil]; exact h, Keeps.refl _ _, fun j hj => .inl hj, q0, fun K => ?_⟩
    have e : appO z b e v [] st = some (v, st, q0) := by
      rcases h.2.2 with ⟨rfl | rfl, _⟩ | rfl | ⟨k, rfl, _⟩ <;> rfl
    exact appS_of e K
  · obtain ⟨v', st', x, e1, e2, e3, e4⟩ := app_own (b := b) (new := new) h hn (hr hn)
    exact ⟨v', st', e2, e3, e4, x, fun K => appS_of e1 K⟩
theorem Own.ne {st : St} {z : Nat} {e : TypeId} {v : AV} {ws : List AV} {j : Nat} {o : VM.Obj} (h : Own st z e v ws) (hj : st.get j = .ok o) (ho : ∀ n e, o ≠ .tok n e) : ¬ ownerOf v j := by
  rintro ⟨z, es, rfl⟩
  rcases h with ⟨_, _, ⟨h | h, _⟩ | h | ⟨k, h, hg, _⟩⟩
  · cases h
  · cases h
  · cases h
  · cases h; rw [hj] at hg; cases hg; exact ho _ _ rfl
/-- A tree's tokens are told. -/
def TokOk (t : T) : Prop := ∀ v, IsN t v → ∃ x, (orc vE).bare 40 [v] = some x ∧ IsSl 2 x ((toksG t).map tok)
theorem ahead_loop {l : List T} {y : AV} {es : List AV} (hy : IsSl 4 y es) (hs : IsNs l es) (ih : ∀ t ∈ l, TokOk t) {st0 : St} {v0 : AV} : ∀ (m : List T) (j : Nat) (v : AV) (ws : List AV) (st : St), l.drop j = m → Own st 2 40 v ws → ws.length + (toksGL m).length ≤ 1000000 → Keeps st0 st (ownerOf v0) → (∀ j, ownerOf v j → ownerOf v0 j ∨ st0.h ≤ j) →
    ∃ v' st', loopO (w59_L1 y l.length) ([v, .int .i64 (j : Int)], st) = some (0, [v'], st') ∧ Own st' 2 40 v' (ws ++ (toksGL m).map tok) ∧ Keeps st0 st' (ownerOf v0) ∧ (∀ j, ownerOf v' j → ownerOf v0 j ∨ st0.h ≤ j)
  | [], j, v, ws, st, hd, ho, _, hk, hj => by
    have := List.drop_eq_nil_iff.1 hd
    have q : ¬ (j : Int) < (l.length : Int) := by omega
    refine ⟨v, st, loopO_inr ?_, by simpa [toksGL] using ho, hk, hj⟩
    simp only [w59_L1, unc_cons, asI_int, un0_nil, ifB_decide, if_neg q]
  | t :: m, j, v, ws, st, hd, ho, hl, hk, hj => by
    obtain ⟨hgt, hr, hlt⟩ := drop_cons hd
    have q : (j : Int) < (l.length : Int) := by omega
    have hlen := ns_lt hy hs
    obtain ⟨a, b, s, z, hN, e⟩ := kid_at hy hs hgt
    have hz : VM.one z = true := by
      obtain ⟨_, _, _, _, _, _, _, hv, hz, _⟩ := isN_open hN
      injection hv with hv
      injection hv with _ hv; injection hv with _ hv; injection hv with _ hv; injection hv with hv _
      rw [hv]; exact hz.one
    obtain ⟨s1, g1, k1, n1, fx, e1⟩ := lvN st (a : Int) (b : Int) s z ho.1
    obtain ⟨x, hx, hsx⟩ := ih t (List.mem_of_getElem? hgt) _ hN
    simp only [toksGL, List.length_append] at hl
    have ho1 : Own s1 2 40 v ws := own_keep ho k1 fun j _ h => h
    obtain ⟨v2, s2, ho2, k2, hj2, fx2, e2⟩ := own_apps2 (b := 24) ((toksG t).map tok) ho1 fun _ => room_of (by rw [List.length_map]; omega) (by omega) (by omega)
    have hk2 : Keeps st0 s2 (ownerOf v0) := Keeps.join (Keeps.join hk k1 fun j h => h.elim) k2 hj
    have hj3 : ∀ j, ownerOf v2 j → ownerOf v0 j ∨ st0.h ≤ j := fun j h => by
      rcases hj2 j h with h | h
      · exact hj j h
      · exact .inr (Nat.le_trans (Nat.le_trans hk.h k1.h) h)
    obtain ⟨v3, s3, e3, ho3, hk3, hj4⟩ := ahead_loop hy hs ih m (j + 1) v2 _ s2 hr ho2 (by rw [List.length_append, List.length_map]; omega) hk2 hj3
    refine ⟨v3, s3, ?_, by simpa [toksGL] using ho3, hk3, hj4⟩
    rw [loopO_inl (s' := ([v2, .int .i64 ((j + 1 : Nat) : Int)], s2)), e3]
    simp only [w59_L1, unc_cons, asI_int, un0_nil, ifB_decide, if_pos q]
    refine (e st _).trans ?_
    simp only [letSt_eq, asOne_of hz, e1, loadS_mp g1, List.drop_zero, takeO4, bindO_ok, unA_agg, unc_cons, asI_int, asS_str, un0_nil, callT hN rfl hx, hsx.elems, tokF, tokS, chk_true, e2, letV_eq, wrapA1 (show j + 1 ≤ 9223372036854775807 by omega)]
theorem ahead_ok {k tk : Nat} {tx : List UInt8} {l : List T} {y : AV} {es : List AV} (hy : IsSl 4 y es) (hs : IsNs l es) (ih : ∀ t ∈ l, TokOk t) {st : St} {v : AV} {ws : List AV} (ho : Own st 2 40 v ws) (hl : ws.length + (toksGL l).length ≤ 1000000) :
    ∃ v' st', (orc vE).wide 59 [v, .agg [.int .u8 (k : Int), .int .u8 (tk : Int), .str tx, y]] st = some (v', st') ∧ Own st' 2 40 v' (ws ++ (toksGL l).map tok) ∧ Keeps st st' (ownerOf v) ∧ (∀ j, ownerOf v' j → ownerOf v j ∨ st.h ≤ j) := by
  obtain ⟨v', st', e, h1, h2, h3⟩ := ahead_loop hy hs ih (v0 := v) l 0 v ws st rfl ho hl (Keeps.refl _ _) fun j h => .inl h
  have e : loopO (w59_L1 y l.length) ([v, .int .i64 0], st) = _ := e
  refine ⟨v', st', wide_of ((w59_eq _ _ _).trans ?_), h1, h2, h3⟩
  simp only [w59, unA_agg, unc_cons, asI_int, asS_str, un0_nil, hy.asOne, hy.fit1, ns_len hy hs, e, bindO_ok]
  rfl
theorem leaves_ok {k tk : Int} {tx : List UInt8} {x : AV} {es : List AV} (hx : IsSl 4 x es) : (orc vE).bare 58 [.agg [.int .u8 k, .int .u8 tk, .str tx, x]] = some (.fn (.func 76) [] [.ip [.int .u8 k, .int .u8 tk, .str tx, x]]) := by
  refine bare_of rfl ((g58_eq _).trans ?_)
  rcases hx.2 with ⟨rfl | rfl, rfl⟩ | rfl | rfl <;> rfl
/-- A range over a tree's leaves. -/
theorem range_ok {t : T} {k tk : Int} {tx : List UInt8} {x : AV} {i : Nat} {all : List (List Nat × T)} {I : List (List Nat × T) → St → Prop} {X : List (List Nat × T) → List Nat × T → St → Prop} (hR : Rnds i all I X) (hN : IsN t (.agg [.int .u8 k, .int .u8 tk, .str tx, x])) (hd : depT t ≤ 1000000) (ha : lv [] t = all) {st : St} (hi : I [] st) :
    ∃ b st', (orc vE).wide 76 [.yld i, .ip [.int .u8 k, .int .u8 tk, .str tx, x]] st = some (.tup [], st') ∧ Went I X [] all b st' := by
  subst ha
  obtain ⟨b, st', e, h⟩ := walk_ok hR t [] _ .nils [] [] st hN (.inl ⟨rfl, rfl⟩) (by simpa using hd) (by simp) hi
  refine ⟨b, st', wide_of ((w76_eq _ _ _).trans ?_), h⟩
  have c : ∀ {γ : Type} (K : Kv γ), callS (orc vE) 77 [.agg [.int .u8 k, .int .u8 tk, .str tx, x], .nils, .yld i] st K = K (.bool b) st' _ := fun K => callS_wide K rfl (bares_yld _ _ _ _) e
  simp only [w76, loadS_ip, takeO4, bindO_ok, unA_agg, unc_cons, asI_int, asS_str, un0_nil, c, asB_bool]
end Go.Proofs.YthapbjoekpbhgaaGreatDoor.Vm
/- Trees: their tokens, by the program: the round; the text. -/
namespace Go.Proofs.YthapbjoekpbhgaaGreatDoor.Vm
open Go Go.VM Go.Proofs Go.Lex Go.Parse Go.Green
noncomputable abbrev lpT (s : Nat) : VM.Obj := lpS vE 40 0 [.mp 0 0] s .normal
theorem lpT_some : (lpOf vE 40 0).isSome = true := by kernel_rfl
structure TkS (k s : Nat) (l : List Tok) (v : AV) (st : St) : Prop where
  out : st.get 0 = .ok (.cells 59 [v])
  own : Own st 2 40 v (l.map tok)
  loop : st.get k = .ok (lpT s)
  ro : st.ro = 0
section
variable {k s : Nat} {l : List Tok} {v : AV} {st st' : St}
theorem TkS.ne (h : TkS k s l v st) : k ≠ 0 := by
  rintro rfl
  have h1 := h.loop
  rw [h.out] at h1
  obtain ⟨imm, ps, a, c, fr, e⟩ := lpS_open lpT_some [.mp 0 0]
  rw [show lpT s = _ from e s .normal] at h1
  cases h1
theorem TkS.lt (h : TkS k s l v st) : k < st.h := (St.get_ok.1 h.loop).1
theorem TkS.lt0 (h : TkS k s l v st) : 0 < st.h := (St.get_ok.1 h.out).1
theorem TkS.keeps (h : TkS k s l v st) (hk : Keeps st st' (fun _ => False)) : TkS k s l v st' :=
  ⟨hk.old _ _ (fun f => f) h.out, own_keep h.own hk fun _ _ f => f, hk.old _ _ (fun f => f) h.loop, by rw [hk.ro]; exact h.ro⟩
theorem TkS.not0 (h : TkS k s l v st) : ¬ ownerOf v 0 := h.own.not h.out
theorem TkS.notk (h : TkS k s l v st) : ¬ ownerOf v k := Own.ne h.own h.loop (lpS_tok lpT_some _ _ _)
/-- The loop, turned. -/
theorem TkS.turn (h : TkS k s l v st) (s' : Nat) : TkS k s' l v (st.put k (lpT s')) := by
  have hk : Keeps st (st.put k (lpT s')) (· = k) := Keeps.put rfl
  exact ⟨hk.of_ne h.ne.symm h.out, own_keep h.own hk fun j hj e => h.notk (e ▸ hj), by rw [St.get_put_same h.lt], h.ro⟩
/-- More is appended. -/
theorem TkS.more (h : TkS k s l v st) {v' : AV} {l' : List Tok} (ho : Own st' 2 40 v' (l'.map tok)) (hk : Keeps st st' (ownerOf v)) :
    ∃ st'', TkS k s l' v' st'' ∧ Keeps st' st'' (· = 0) ∧ ∃ fx, ∀ {β : Type} (K : Kv β), storeS (orc vE) 1 (.mp 0 0) v' [v'] st' K = K VM.undef st'' fx := by
  have g0 := hk.old _ _ h.not0 h.out
  have gk := hk.old _ _ h.notk h.loop
  obtain ⟨s2, g2, k2, n2, fx, e⟩ := var_put (O := orc vE) v' g0 (z := 1) (cs := [v']) rfl rfl (by rw [hk.ro, h.ro]; omega)
  exact ⟨s2, ⟨g2, own_keep ho k2 fun j hj e => ho.not g0 (e ▸ hj), k2.of_ne h.ne gk, by rw [k2.ro, hk.ro]; exact h.ro⟩, k2, fx, e⟩
end
def TkI (k : Nat) (d : List (List Nat × T)) (st : St) : Prop := ∃ v, TkS k 0 (toksV d) v st
theorem callAhead {v x r : AV} {st st' : St} (e : (orc vE).wide 59 [v, x] st = some (r, st')) {β : Type} (K : Kv β) : callS (orc vE) 59 [v, x] st K = K r st' ⟨[], .all st st'⟩ :=
  callS_wide K rfl (by rw [show vE.full 59 = true from rfl]; simp) e
theorem tk_round {k : Nat} {all : List (List Nat × T)} (hb : (toksV all).length ≤ 1000000) (hall : ∀ q ∈ all, q.2.kind = 1 ∧ ∀ u ∈ q.2.kids, TokOk u) : Rnds k all (TkI k) (fun _ _ _ => False) where
  ro := fun ⟨_, h⟩ => by rw [h.ro]; omega
  keep := fun ⟨v, h⟩ hk => ⟨v, h.keeps hk⟩
  round := by
    rintro d ⟨p, t⟩ r st x nv ha ⟨v, h⟩ _ hN
    obtain ⟨kd, tk, tx, l, y, es, rfl, rfl, hy, hs⟩ := isN_open hN
    obtain ⟨hkd, hkids⟩ := hall (p, .mk kd tk tx l) (by rw [← ha]; simp)
    have hkd : kd = 1 := hkd
    have hkids : ∀ u ∈ l, TokOk u := hkids
    subst hkd
    have hto : toksG (.mk 1 tk tx l) = toksGL l ++ (if ¬ (tk = 0 ∧ tx = []) then [(tk, tx)] else []) := by
      simp only [toksG, true_and]; rfl
    have hle : (toksV d).length + (toksG (.mk 1 tk tx l)).length ≤ 1000000 := by
      rw [← ha, toksV_app] at hb
      simp only [List.length_append, toksV, List.map_cons, List.flatten_cons] at hb
      simp only [toksV]
      omega
    rw [hto, List.length_append] at hle
    obtain ⟨s1, g1, k1, n1, fx1, e1⟩ := lvN st ((1 : Nat) : Int) (tk : Int) tx y (by rw [h.ro]; omega)
    have h1 := h.keeps k1
    have h2 := h1.turn 1
    have hne : st.h ≠ k := Nat.ne_of_gt h.lt
    have kp : Keeps s1 (s1.put k (lpT 1)) (· = k) := Keeps.put rfl
    have g2 := kp.of_ne hne g1
    obtain ⟨v3, s3, e3, o3, k3, j3⟩ := ahead_ok (k := 1) (tk := tk) (tx := tx) hy hs hkids h2.own (by rw [List.length_map]; omega)
    rw [← List.map_append] at o3
    obtain ⟨s4, h4, k4, fx4, e4⟩ := h2.more o3 k3
    have g3 := k3.old _ _ (h2.own.not g2) g2
    have g4 := k4.of_ne (Nat.ne_of_gt h.lt0) g3
    have sl1 : ∀ {β : Type} (K : St → Option β), setLoopS k 0 1 .normal s1 K = K (s1.put k (lpT 1)) := fun K => setLoopS_of lpT_some h1.loop K
    have c3 : ∀ {β : Type} (K : Kv β), _ := fun {β : Type} (K : Kv β) => callAhead e3 K
    have ld : ∀ {β : Type} (K : AV → List Nat → Option β), loadS 2 true (.mp st.h 1) s4 K = K (.agg [.int .u8 (tk : Int), .str tx]) [st.h] := fun K => by
      rw [loadS_mp g4]; rfl
    have hneq := neq_tok (tk : Int) 0 tx []
    have fin : ∀ (s' : St) (v' : AV), TkS k 1 (toksV d ++ toksG (.mk 1 tk tx l)) v' s' → (ifB (!((tk : Int) == 0 && tx == [])) (loadS 1 false (.mp 0 0) s4 fun v54 _x => appS 2 24 40 v54 [AV.agg [AV.int .u8 (tk : Int), AV.str tx]] s4 fun v66 st67 _x => asOne v66 (asOne v66 (storeS (orc vE) 1 (.mp 0 0) v66 [v66] st67 fun _x st70 _x_3 => some (([], st70) : Car)))) (some ([], s4))) = some ([], s') →
        ∃ b st', r40_0 k (.mp 0 0) x (.agg [.int .u8 ((1 : Nat) : Int), .int .u8 (tk : Int), .str tx, y]) st = some (.bool b, st') ∧ (b = true → TkI k (d ++ [(p, .mk 1 tk tx l)]) st') ∧ (b = false → False) := by
      intro s' v' h5 e5
      have sl2 : ∀ {β : Type} (K : St → Option β), setLoopS k 1 0 .normal s' K = K (s'.put k (lpT 0)) := fun K => setLoopS_of lpT_some h5.loop K
      refine ⟨true, s'.put k (lpT 0), ?_, fun _ => ⟨v', ?_⟩, fun h => by cases h⟩
      · have e0 : (toksV d).map tok = (toksV d).map tok := rfl
        simp only [r40_0, unA_agg, unc_cons, asI_int, asS_str, un0_nil, letSt_eq, hy.asOne, e1, sl1, loadS_mp h2.out, loadS_mp g2, List.drop_zero, takeO_one, takeO4, bindO_ok, c3, asOne_of o3.one, e4, ld, hneq, asB_bool]
        rw [e5]
        simp only [bindO_ok, un0_nil, sl2]
      · have h6 := h5.turn 0
        have : toksV (d ++ [(p, T.mk 1 tk tx l)]) = toksV d ++ toksG (.mk 1 tk tx l) := by rw [toksV_app]; simp [toksV]
        rw [this]
        exact h6
    have fin2 : ∃ b st', r40_0 k (.mp 0 0) x (.agg [.int .u8 ((1 : Nat) : Int), .int .u8 (tk : Int), .str tx, y]) st = some (.bool b, st') ∧ (b = true → TkI k (d ++ [(p, .mk 1 tk tx l)]) st') ∧ (b = false → False) := by
      by_cases hz : tk = 0 ∧ tx = []
      · refine fin s4 v3 ?_ ?_
        · rw [hto, if_neg (by simp [hz]), List.append_nil]; exact h4
        · rw [hz.1, hz.2]; rfl
      · have hb2 : (!((tk : Int) == 0 && tx == [])) = true := by
          by_cases h0 : tk = 0
          · have : tx ≠ [] := fun h => hz ⟨h0, h⟩
            simp [h0, this]
          · have : ((tk : Int) == 0) = false := beq_eq_false_iff_ne.2 (by omega)
            rw [this]; rfl
        rw [if_pos hz] at hle
        obtain ⟨v5, s5, o5, k5, j5, fx5, e5⟩ := own_apps2 (b := 24) [tok (tk, tx)] h4.own fun _ => room_of (by simp only [List.length_map, List.length_append, List.length_cons, List.length_nil] at hle ⊢; omega) (by omega) (by omega)
        have o5' : Own s5 2 40 v5 ((toksV d ++ toksG (.mk 1 tk tx l)).map tok) := by
          rw [hto, if_pos hz]; simpa using o5
        obtain ⟨s6, h6, k6, fx6, e6⟩ := h4.more o5' k5
        refine fin s6 v5 h6 ?_
        have e5 : ∀ {β : Type} (K : Kv β), appS 2 24 40 v3 [.agg [.int .u8 (tk : Int), .str tx]] s4 K = K v5 s5 fx5 := e5
        simp only [hb2, ifB_true, loadS_mp h4.out, List.drop_zero, takeO_one, bindO_ok, ld, unA_agg, unc_cons, asI_int, asS_str, un0_nil, e5, asOne_of o5.one, e6]
    obtain ⟨b, st', e, h5, h6⟩ := fin2
    exact ⟨b, st', round_of (vs := [.mp 0 0]) h.loop (by rw [h.ro]; omega) ((r40_0_eq _ _ _ _ _).trans e), h5, h6⟩
mutual
theorem lv_cnt : ∀ (t : T) (p : List Nat), ∀ q ∈ lv p t, cntT q.2 ≤ cntT t
  | .mk k tk tx l, p, q, h => by
    simp only [lv] at h
    by_cases h1 : k = 1
    · rw [if_pos h1] at h; simp at h; rw [h]; exact Nat.le_refl _
    · by_cases h2 : k = 2
      · rw [if_neg h1, if_pos h2] at h; cases h
      · rw [if_neg h1, if_neg h2] at h
        have := lv_cntL l p 0 q h
        simp only [cntT]; omega
theorem lv_cntL : ∀ (l : List T) (p : List Nat) (i : Nat), ∀ q ∈ lvL p i l, cntT q.2 ≤ cntL l
  | [], _, _, q, h => by cases h
  | t :: l, p, i, q, h => by
    simp only [lvL] at h
    simp only [cntL]
    rcases List.mem_append.1 h with h | h
    · have := lv_cnt t _ q h; omega
    · have := lv_cntL l p (i + 1) q h; omega
end
theorem cnt_mem {t : T} : ∀ {l : List T}, t ∈ l → cntT t ≤ cntL l
  | u :: l, h => by
    simp only [cntL]
    rcases List.mem_cons.1 h with rfl | h
    · omega
    · have := cnt_mem h; omega
mutual
theorem dep_cnt : ∀ t : T, depT t ≤ cntT t
  | .mk _ _ _ l => by have := dep_cntL l; simp only [depT, cntT]; omega
theorem dep_cntL : ∀ l : List T, depL l ≤ cntL l
  | [] => by simp [depL, cntL]
  | t :: l => by have := dep_cnt t; have := dep_cntL l; simp only [depL, cntL]; omega
end
theorem gtoks_any : ∀ (n : Nat) (t : T), cntT t ≤ n → cntT t ≤ 900000 → TokOk t := by
  intro n
  induction n with
  | zero => intro t h; cases t with | mk k tk tx l => simp only [cntT] at h; omega
  | succ n ih =>
    intro t hn hc v hN
    obtain ⟨kd, tk, tx, l, y, es, rfl, rfl, hy, hs⟩ := isN_open hN
    have hall : ∀ q ∈ lv [] (.mk kd tk tx l), q.2.kind = 1 ∧ ∀ u ∈ q.2.kids, TokOk u := fun q hq => ⟨lv_leaf _ _ q hq, fun u hu => by
      have h1 := lv_cnt _ _ q hq
      obtain ⟨p, t'⟩ := q
      cases t' with
      | mk k' tk' tx' l' =>
        have h2 := cnt_mem (show u ∈ l' from hu)
        simp only [cntT] at h1 hn hc
        exact ih u (by omega) (by omega)⟩
    have htb : (toksV (lv [] (.mk kd tk tx l))).length ≤ 1000000 := by
      rw [toks_lv]
      have := (toks_bound (.mk kd tk tx l)).1
      omega
    have hR := tk_round (k := 1) htb hall
    generalize hs0 : (St.mk 1 0 (Tr.node (some (VM.Obj.cells 59 [AV.nils])) Tr.leaf Tr.leaf)) = s0
    have hi0 : TkI 1 [] (s0.add (lpT 0)) := by
      rw [← hs0]
      refine ⟨.nils, rfl, Own.nils (Nat.zero_le _) _ _, ?_, rfl⟩
      exact St.get_add_new
    obtain ⟨b, s1, e, hw⟩ := range_ok hR hN (by have := dep_cnt (.mk kd tk tx l); omega) rfl hi0
    cases b with
    | false => obtain ⟨_, _, _, _, hf⟩ := hw.2 rfl; exact hf.elim
    | true =>
      obtain ⟨v, h⟩ := hw.1 rfl
      rw [List.nil_append, toks_lv] at h
      have hh : s0.h = 1 := by rw [← hs0]
      have hg : (s1.put 1 VM.Obj.dead).get 0 = .ok (.cells 59 [v]) := by
        rw [St.get_put_ne (by decide)]; exact h.out
      have hk : Keeps s1 (s1.put 1 VM.Obj.dead) (· = 1) := Keeps.put rfl
      have ho : Own (s1.put 1 VM.Obj.dead) 2 40 v ((toksG (.mk kd tk tx l)).map tok) := own_keep h.own hk fun j hj e => h.notk (e ▸ hj)
      obtain ⟨x, hx, hf⟩ := frz_own (β := AV) ho
      refine ⟨x, bare_of rfl ((g40_eq _).trans ?_), hx⟩
      have rg : ∀ {β : Type} (K : Ex → St → Option β), rangeS (orc vE) (.fn (.func 76) [] [.ip [.int .u8 (kd : Int), .int .u8 (tk : Int), .str tx, y]]) (lpT 0) s0 K = K .normal (s1.put 1 .dead) := fun K => by
        rw [rangeS_lp lpT_some (v := .tup []) (st1 := s1) (s := 0) (p := .normal) (vs := [.mp 0 0]) (by rw [hh]; exact e) (by rw [hh]; exact h.loop) (.inl rfl), hh]
      simp only [g40, unA_agg, unc_cons, asI_int, asS_str, un0_nil, hy.asOne, hy.fit1, hs0, callT hN rfl (leaves_ok hy)]
      refine (rg _).trans ?_
      simp only [jumpIf_same, loadS_mp hg, List.drop_zero, takeO_one, bindO_ok]
      exact hf _
theorem gtoks_ok {t : T} (h : cntT t ≤ 900000) : TokOk t := gtoks_any _ t (Nat.le_refl _) h
theorem gtext_ok {t : T} (h1 : cntT t ≤ 900000) (h2 : (textG t).length ≤ 1000000) {v : AV} (hN : IsN t v) : (orc vE).bare 24 [v] = some (.str (textG t)) := by
  obtain ⟨x, e, hx⟩ := gtoks_ok h1 v hN
  obtain ⟨kd, tk, tx, l, y, es, rfl, rfl, hy, hs⟩ := isN_open hN
  refine bare_of rfl ((g24_eq _).trans ?_)
  have hb := (toks_bound (.mk kd tk tx l)).1
  rw [text_toks] at h2
  have cj := fun {β : Type} (st : St) (K : Kv β) => call_join hx (by omega) h2 st K
  simp only [g24, unA_agg, unc_cons, asI_int, asS_str, un0_nil, hy.asOne, hy.fit1, callT hN rfl e, cj]
  rw [text_toks]; rfl
end Go.Proofs.YthapbjoekpbhgaaGreatDoor.Vm
/- ReparseNames: what is known of large texts, as rules. -/
namespace Go.Proofs.YthapbjoekpbhgaaGreatDoor.Vm
open Go Go.VM Go.Proofs Go.Lex Go.Parse Go.Green
/-- Longer than so many? -/
noncomputable def bigger (l : List UInt8) : Nat → Bool := List.rec (motive := fun _ => Nat → Bool) (fun _ => false) (fun _ _ ih n => Nat.rec (motive := fun _ => Bool) true (fun m _ => ih m) n) l
theorem bigger_len : ∀ (l : List UInt8) (n : Nat), bigger l n = decide (n < l.length)
  | [], n => by simp [bigger]
  | c :: l, 0 => by
    show true = _
    simp
  | c :: l, n + 1 => by
    have ih := bigger_len l n
    show bigger l n = _
    rw [ih]
    simp
theorem bigger_t {l : List UInt8} {n : Nat} (h : bigger l n = true) : n < l.length := by rw [bigger_len] at h; simpa using h
theorem bigger_f {l : List UInt8} {n : Nat} (h : bigger l n = false) : l.length ≤ n := by rw [bigger_len] at h; simpa using h
noncomputable def manyR : List AV → Option AV
  | [.int .i64 (.ofNat n), .str [c]] => match Nat.ble 1 n && Nat.ble n 1000000 with
    | true => some (.str (List.replicate n c))
    | false => none
  | _ => none
noncomputable def newR : List AV → Option AV
  | [.str s] => match bigger s 65536 with
    | true => some (.tup [.nilp, .int .i64 40])
    | false => none
  | _ => none
noncomputable def editR : List AV → Option AV
  | [.ip (.str tx :: _), .agg [.int .i64 (.ofNat 0), .int .i64 (.ofNat 0), .str x]] => match bigger x 65506 with
    | true => match bigger tx 29 && !bigger tx 65536 with
      | true => some (.tup [.nilp, .int .i64 40])
      | false => none
    | false => none
  | _ => none
/-- A tree, read. -/
def decN : Nat → AV → Option T
  | 0, _ => none
  | f + 1, .agg [.int .u8 (.ofNat k), .int .u8 (.ofNat tk), .str tx, x] => match x with
    | .nils => some (.mk k tk tx [])
    | .es => some (.mk k tk tx [])
    | .sl z es .shut => match z.beq 4 && Nat.ble es.length 1000000 with
      | true => (es.mapM (decN f)).map (.mk k tk tx)
      | false => none
    | .sl z es .wide => match z.beq 4 && Nat.ble es.length 1000000 with
      | true => (es.mapM (decN f)).map (.mk k tk tx)
      | false => none
    | _ => none
  | _ + 1, _ => none
theorem decNs {f : Nat} (ih : ∀ v t, decN f v = some t → IsN t v) : ∀ {es : List AV} {l : List T}, es.mapM (decN f) = some l → IsNs l es
  | [], l, h => by
    simp only [List.mapM_nil, Option.pure_def, Option.some.injEq] at h
    subst h; exact IsNs.nil
  | e :: es, l, h => by
    simp only [List.mapM_cons, Option.pure_def, Option.bind_eq_bind, Option.bind_eq_some_iff, Option.some.injEq] at h
    obtain ⟨t, h1, m, h2, rfl⟩ := h
    exact IsNs.cons (ih e t h1) (decNs ih h2)
theorem decN_ok : ∀ (f : Nat) (v : AV) (t : T), decN f v = some t → IsN t v := by
  intro f
  induction f with
  | zero => intro v t h; cases h
  | succ f ih =>
    intro v t h
    unfold decN at h
    split at h
    · cases ‹_ = _›
    · rename_i k tk tx x hf
      cases hf
      split at h
      · cases h
        simp only [IsN]
        exact ⟨_, [], rfl, IsSl.nils, IsNs.nil⟩
      · cases h
        simp only [IsN]
        exact ⟨_, [], rfl, IsSl.emp, IsNs.nil⟩
      · split at h
        · rename_i hb
          simp only [Bool.and_eq_true] at hb
          obtain ⟨l, h1, rfl⟩ := Option.map_eq_some_iff.1 h
          have hz := Nat.eq_of_beq_eq_true hb.1
          subst hz
          simp only [IsN]
          exact ⟨_, _, rfl, IsSl.shut (by have := Nat.le_of_ble_eq_true hb.2; omega), decNs ih h1⟩
        · cases h
      · split at h
        · rename_i hb
          simp only [Bool.and_eq_true] at hb
          obtain ⟨l, h1, rfl⟩ := Option.map_eq_some_iff.1 h
          have hz := Nat.eq_of_beq_eq_true hb.1
          subst hz
          simp only [IsN]
          exact ⟨_, _, rfl, IsSl.wide (by have := Nat.le_of_ble_eq_true hb.2; omega), decNs ih h1⟩
        · cases h
      · cases h
    · cases h
def textR : List AV → Option AV
  | [v] => match decN 200 v with
    | some t => match Nat.ble (cntT t) 900000 && Nat.ble (textG t).length 1000000 with
      | true => some (.str (textG t))
      | false => none
    | none => none
  | _ => none
theorem ruled {f : FuncId} {args : List AV} {v : AV} (h : (orc vE).bare f args = some v) : BareOk Tryz.prog vE.T vE.G f args v := by
  obtain ⟨m, hm⟩ := (orc_ok vE).bare f args v h
  exact (caller_ok vE_ok m).1.bare f args v (hm m (Nat.le_refl _))
theorem manyR_ok {args : List AV} {v : AV} (h : manyR args = some v) : BareOk Tryz.prog vE.T vE.G 6 args v := by
  unfold manyR at h
  split at h
  · split at h
    · rename_i hb
      cases h
      simp only [Bool.and_eq_true] at hb
      exact ruled (many_ok _ (Nat.le_of_ble_eq_true hb.1) (Nat.le_of_ble_eq_true hb.2))
    · cases h
  · cases h
theorem newR_ok {args : List AV} {v : AV} (h : newR args = some v) : BareOk Tryz.prog vE.T vE.G 5 args v := by
  unfold newR at h
  split at h
  · split at h
    · rename_i hb
      cases h
      exact ruled (new_large (bigger_t hb))
    · cases h
  · cases h
theorem editR_ok {args : List AV} {v : AV} (h : editR args = some v) : BareOk Tryz.prog vE.T vE.G 7 args v := by
  unfold editR at h
  split at h
  · split at h
    · rename_i hb
      split at h
      · rename_i hc
        cases h
        simp only [Bool.and_eq_true, Bool.not_eq_true'] at hc
        exact ruled (edit_large (bigger_t hb) (bigger_t hc.1) (bigger_f hc.2))
      · cases h
    · cases h
  · cases h
theorem textR_ok {args : List AV} {v : AV} (h : textR args = some v) : BareOk Tryz.prog vE.T vE.G 24 args v := by
  unfold textR at h
  split at h
  · split at h
    · rename_i t ht
      split at h
      · rename_i hb
        cases h
        simp only [Bool.and_eq_true] at hb
        exact ruled (gtext_ok (Nat.le_of_ble_eq_true hb.1) (Nat.le_of_ble_eq_true hb.2) (decN_ok _ _ _ ht))
      · cases h
    · cases h
  · cases h
noncomputable def vR (f : FuncId) : Option (List AV → Option AV) := match f.beq 6 with
  | true => some manyR
  | false => match f.beq 5 with
    | true => some newR
    | false => match f.beq 7 with
      | true => some editR
      | false => match f.beq 24 with
        | true => some textR
        | false => none
noncomputable def vEr : Env := { vE with rule := vR }
theorem vR_ok : ∀ f r args v, vR f = some r → r args = some v → BareOk Tryz.prog vE.T vE.G f args v := by
  intro f r args v h1 h2
  unfold vR at h1
  split at h1
  · rename_i e
    cases h1
    rw [Nat.eq_of_beq_eq_true e]
    exact manyR_ok h2
  · split at h1
    · rename_i e
      cases h1
      rw [Nat.eq_of_beq_eq_true e]
      exact newR_ok h2
    · split at h1
      · rename_i e
        cases h1
        rw [Nat.eq_of_beq_eq_true e]
        exact editR_ok h2
      · split at h1
        · rename_i e
          cases h1
          rw [Nat.eq_of_beq_eq_true e]
          exact textR_ok h2
        · cases h1
theorem vEr_ok : EnvOk Tryz.prog vEr := ⟨vE_ok.T, vE_ok.F, vE_ok.prim, vE_ok.mixed, vE_ok.memo, vR_ok, vE_ok.wrule⟩
end Go.Proofs.YthapbjoekpbhgaaGreatDoor.Vm
namespace Go.Proofs.YthapbjoekpbhgaaGreatDoor.Vm
open Go Go.VM Go.Proofs
def qt (s : List Nat) : AV := .str (bs s)
def q0 (k t : Int) (s : List Nat) : AV := .agg [.int .u8 k, .int .u8 t, .str (bs s), .nils]
def qf (k t : Int) (s : List Nat) (l : List AV) : AV := .agg [.int .u8 k, .int .u8 t, .str (bs s), .sl 4 l .wide]
def qb : AV := .agg [.int .u8 1, .int .u8 1, .str (bs [32]), .nils]
def qn : AV := .agg [.int .u8 1, .int .u8 1, .str (bs [10]), .nils]
def ql (t : Int) (s : List Nat) : AV := .agg [.int .u8 1, .int .u8 t, .str (bs s), .nils]
def qw (t : Int) (s : List Nat) : AV := .agg [.int .u8 1, .int .u8 t, .str (bs s), .sl 4 [qb] .wide]
def qv (t : Int) (s : List Nat) : AV := .agg [.int .u8 1, .int .u8 t, .str (bs s), .sl 4 [qn] .wide]
def qd (k : Int) (l : List AV) : AV := .agg [.int .u8 k, .int .u8 0, .str (bs []), .sl 4 l .wide]
def qs (k : Int) (l : List AV) : AV := .agg [.int .u8 k, .int .u8 0, .str (bs []), .sl 4 l .shut]
abbrev LV : Type := List AV
/-- A call, run. -/
noncomputable abbrev rQ1 (f : FuncId) (a : LV) (v : AV) : Bool := (kcaller vEr (fun f => (ktable vEr vF).get f) 3000).bare f a (sameAV 1000 v)
end Go.Proofs.YthapbjoekpbhgaaGreatDoor.Vm
