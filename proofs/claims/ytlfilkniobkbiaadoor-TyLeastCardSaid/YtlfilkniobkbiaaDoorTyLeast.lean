/-
  Types that become the same when types are put in the place of their variables can be made alike, and what they are then becomes that, too.
-/
import Derived.Test.YtlfilkniobkbiaaDoorVmCA
import Derived.Test.YtlfilkniobkbiaaDoorVmCC
import Derived.Test.YtlfilkniobkbiaaDoorCards
import Derived.Test.YtlfilkniobkbiaaDoorTie
import Derived.WalkKit
import Derived.ProofKit
import Derived.OpenShut
import Derived.Deep.DeepHandedRow
import Derived.Deep.DeepWitnessRowRef
import Derived.Lib.LaidTab
import Derived.Lay
set_option maxRecDepth 1000000
set_option maxHeartbeats 0
namespace Go.Proofs.YtlfilkniobkbiaaDoor.tyLeast
open Go Go.VM Go.Proofs Go.Proofs.YtlfilkniobkbiaaDoor.Vm
open Go.ChangeShapes Go.WideShapes Go.ChangeAt Go.RowKit
theorem own : ownKnob Tryd.prog.godebug = none := by kernel_rfl
theorem tabs (w : World) (_hl : laidMetH Tryd.prog Rows.tyLeastRow.laid w) : TabsAny vE.G w := tabsAny (t := vG) (Tr.every_node noTabQ (Tr.every_node noTabQ (Tr.every_node noTabQ Tr.every_leaf Tr.every_leaf) (Tr.every_node noTabQ Tr.every_leaf Tr.every_leaf)) (Tr.every_node noTabQ (Tr.every_node noTabQ Tr.every_leaf Tr.every_leaf) Tr.every_leaf))
theorem contract (H : Type) (enc : TypeId × Value → H) (W : World) (base : Nat) (args : Array Value) (ds gs : List (DataW H)) (before : List MemPlace)
    (hval : ∀ (j : Nat) t v, Tryd.f5.params[j]? = some t → args[j]? = some v → Value.okWide Tryd.prog W .any base t v)
    (hW : DataW.Whole enc Tryd.prog Tryd.f5.params.toList Rows.tyLeastSpec.vars false W args.toList ds gs before) (hL : laidMetH Tryd.prog Rows.tyLeastRow.laid W)
 :
    Calls Tryd.prog 5 args W fun e W' => ∃ v, e = .returned v ∧ Rows.tyLeastSpec.post enc Tryd.prog Tryd.f5 false true false false W args v W' := by
  have hW' := hW
  obtain ⟨p, q, hA0, hV, rfl, hfz, hnd⟩ := hW
  have hA : DataW.TrodAll enc Tryd.prog W 0 (fun _ => true) true Tryd.f5.params.toList args.toList ds p := hA0
  have hps : Tryd.f5.params.toList = [24, 24, 22] := by rw [Tryd.params5]
  rw [hps] at hA
  obtain ⟨x0, vs0, d0, ds0, p0, q0, hv0, hd0, hT0, hR0', hp0⟩ := trodAll_inv hA
  obtain ⟨x1, vs1, d1, ds1, p1, q1, hv1, hd1, hT1, hR1', hp1⟩ := trodAll_inv hR0'
  obtain ⟨x2, vs2, d2, ds2, p2, q2, hv2, hd2, hT2, hR2', hp2⟩ := trodAll_inv hR1'
  obtain ⟨hve, hde, hqe⟩ := trodAll_nil hR2'
  subst hqe hp2 hp1 hp0
  obtain rfl : args = #[x0, x1, x2] := by
    have : args.toList = [x0, x1, x2] := by rw [hv0, hv1, hv2, hve]
    cases args; simp_all
  obtain rfl : ds = [d0, d1, d2] := by rw [hd0, hd1, hd2, hde]
  obtain ⟨rfl, rfl⟩ := trodVars_none hV
  clear hA0
  simp only [List.append_nil] at hW'
  obtain ⟨n0, as0, hA0, hR0, hB0, _⟩ := arg_of lawS_ok (show inS lawS 24 = true from rfl) (hval 0 24 x0 (by rw [Tryd.params5]; rfl) rfl) hT0
  have st0 : isSt Tryd.prog 24 = true := by kernel_rfl
  rw [st0] at hR0 hB0
  obtain ⟨t0, i0⟩ := type_of _ hA0
  have hB0 : VM.bare (AV.agg as0) = true := hB0
  have hR0 : R (oldGh W) (AV.agg as0) x0 := hR0
  obtain ⟨n1, as1, hA1, hR1, hB1, _⟩ := arg_of lawS_ok (show inS lawS 24 = true from rfl) (hval 1 24 x1 (by rw [Tryd.params5]; rfl) rfl) hT1
  have st1 : isSt Tryd.prog 24 = true := by kernel_rfl
  rw [st1] at hR1 hB1
  obtain ⟨t1, i1⟩ := type_of _ hA1
  have hB1 : VM.bare (AV.agg as1) = true := hB1
  have hR1 : R (oldGh W) (AV.agg as1) x1 := hR1
  obtain ⟨n2, as2, hA2, hR2, hB2, _⟩ := arg_of lawS_ok (show inS lawS 22 = true from rfl) (hval 2 22 x2 (by rw [Tryd.params5]; rfl) rfl) hT2
  have st2 : isSt Tryd.prog 22 = false := by kernel_rfl
  rw [st2] at hR2 hB2
  obtain ⟨z2, l2, es2, rfl, hx2, hs2⟩ := types_of hA2
  have hB2 : VM.bare (z2) = true := hB2
  have hR2 : R (oldGh W) (z2) x2 := hR2
  have hrun : (orc vE).bare 5 [AV.agg as0, AV.agg as1, z2] = some (.bool true) := law_least i0 i1 hx2 hs2
  have hb : bares [AV.agg as0, AV.agg as1, z2] = true := by simp only [bares_cons, hB0, hB1, hB2]; rfl
  have hr : RL (oldGh W) [AV.agg as0, AV.agg as1, z2] #[x0, x1, x2].toList := RL_cons hR0 (RL_cons hR1 (RL_cons hR2 RL_nil))
  have hA2 : DataW.TrodAll enc Tryd.prog W 0 (fun _ => true) true [24, 24, 22] [x0, x1, x2] [d0, d1, d2] (p0 ++ (p1 ++ (p2 ++ ([])))) := trodAll_cons_mk hT0 (trodAll_cons_mk hT1 (trodAll_cons_mk hT2 (trodAll_mk0)))
  have hruns := law_runs vE_ok hrun Tryd.call5 (tabs W hL) hb hr
  refine hruns.mono fun e W' ⟨he, hg⟩ => ?_
  subst he
  exact ⟨_, rfl, post_of_below (pa := p0 ++ (p1 ++ (p2 ++ ([])))) (pv := []) hW' (fun _ _ _ => trodAll_cons_mk (shut_bool Tryd.underlying4 _) trodAll_mk0)
    (fun sp hsp => by
      rw [hps]
      exact trodAll_keep hg lawS_ok (show ([24, 24, 22].all fun t => inS lawS t) = true from rfl) hA2 fun z hz => hsp z (by simpa using hz)) (fun _ _ => rfl) (by simp)
    hg (ok_one (by kernel_rfl) rfl (okWide_bool_mk Tryd.underlying4 _))⟩
noncomputable def laidWorld (os : Os) : World := World.laidAll Tryd.prog os Rows.tyLeastRow.laid
theorem laid_met (os : Os) : laidMet Tryd.prog Rows.tyLeastRow.laid ((laidWorld os).forCall (fun _ _ => 0) ⟨#[], #[.agg #[.string .empty, .slice none 0 0], .agg #[.string .empty, .slice none 0 0], .slice none 0 0], []⟩).memory :=
  laidMet_laidAll #[.agg #[.string .empty, .slice none 0 0], .agg #[.string .empty, .slice none 0 0], .slice none 0 0] (by kernel_rfl) (by kernel_rfl)
theorem reads (os : Os) {H : Type} (enc : TypeId × Value → H) : DataW.whole enc Tryd.prog ((laidWorld os).forCall (fun _ _ => 0) ⟨#[], #[.agg #[.string .empty, .slice none 0 0], .agg #[.string .empty, .slice none 0 0], .slice none 0 0], []⟩).memory Tryd.f5.params.toList Rows.tyLeastSpec.vars false (#[.agg #[.string .empty, .slice none 0 0], .agg #[.string .empty, .slice none 0 0], .slice none 0 0] : Array Value).toList 8 = some ([.agg [.lit (.string []), .nil], .agg [.lit (.string []), .nil], .nil], [], []) := by kernel_rfl
theorem lifted (os : Os) (started : os.Started) (H : Type) (enc : TypeId × Value → H) (F : Stop.Interp) :
    ReturnsInHanded {} Tryd.checked os 5 .any ((OpenSpec.ofChange Rows.tyLeastSpec).preRow enc Tryd.prog Tryd.f5 Rows.tyLeastRow.domain false Rows.tyLeastRow.laid) (((OpenSpec.ofChange Rows.tyLeastSpec).at F).post enc Tryd.prog Tryd.f5 false true false false) := by
  have hx := reads os enc
  refine returnsInHanded_of_row (C := Tryd.checked) (s := OpenSpec.ofChange Rows.tyLeastSpec) own started (by kernel_rfl) Tryd.func5
    (witness_row_atRef (enc := enc) (C := Tryd.checked) false (laidWorld os) #[.agg #[.string .empty, .slice none 0 0], .agg #[.string .empty, .slice none 0 0], .slice none 0 0] (World.laidAll_os _ _ _) (by kernel_rfl) (by kernel_rfl) (by kernel_rfl)
      (OpenSpec.preRow_of_cond 8 hx (by kernel_rfl) (fun k hk => by cases hk) (by kernel_rfl) (laid_met os))) ?_
  intro W base args ds gs before hval hW _ _ _ hL _ _
  exact contract H enc W base args ds gs before hval hW hL
theorem said : Rows.TyLeastSaid :=
  OpenClaim.holds_of_cond 5 Tryd.f5 rfl rfl rfl rfl rfl rfl rfl ⟨rfl, rfl, rfl, rfl, rfl⟩ rfl rfl rfl rfl rfl (by kernel_rfl) Tryd.func5 (by kernel_rfl)
    (of_decide_eq_true (by kernel_rfl)) (by unfold Func.isWrapper; first | (rw [if_pos (by decide +kernel)]; kernel_rfl) | (rw [if_neg (by decide +kernel)]; exact ⟨rfl, rfl⟩))
    (fun os started H enc _ F => by rw [OpenClaim.pre_eq_preRow]; exact lifted os started H enc F)
theorem plain (f : FuncId) (fn : Func) (hf : Tryd.pinned.checked.prog.funcNamed "rostrum/rostrumlaw16.TyLeast" = some f) (hfn : Tryd.pinned.checked.prog.funcs[f]? = some fn) :
    true = Tryd.pinned.checked.prog.looks [] ∧ ∀ (j : Nat) t, fn.params[j]? = some t → Tryd.pinned.checked.prog.wantsStandIn t = false := by
  obtain rfl : f = 5 := Option.some.inj ((show Tryd.prog.funcNamed "rostrum/rostrumlaw16.TyLeast" = some 5 by kernel_rfl).symm.trans hf) |>.symm
  obtain rfl : fn = Tryd.f5 := (Option.some.inj (Tryd.func5.symm.trans hfn)).symm
  refine ⟨by kernel_rfl, fun j t ht => ?_⟩
  rw [Tryd.params5] at ht
  match j, ht with
  | 0, ht =>
    obtain rfl : t = 24 := by simpa using ht.symm
    exact (show Tryd.prog.wantsStandIn 24 = false by kernel_rfl)
  | 1, ht =>
    obtain rfl : t = 24 := by simpa using ht.symm
    exact (show Tryd.prog.wantsStandIn 24 = false by kernel_rfl)
  | 2, ht =>
    obtain rfl : t = 22 := by simpa using ht.symm
    exact (show Tryd.prog.wantsStandIn 22 = false by kernel_rfl)
  | j + 3, ht => simp at ht
theorem card : Rows.TyLeastCardSaid :=
  Claim7.holds_tied_plain_at .later [] _ _ _ _ said (fun _ h => by cases h) (by kernel_rfl) (fun _ h => by cases h) tyLeast_row_tie rfl ⟨rfl, rfl⟩ (by kernel_rfl) rfl plain (by kernel_rfl)
end Go.Proofs.YtlfilkniobkbiaaDoor.tyLeast
