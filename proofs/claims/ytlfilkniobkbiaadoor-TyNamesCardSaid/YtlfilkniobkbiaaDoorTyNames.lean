/-
  The examples; the errors; nobody's table (closed).
-/
import Derived.Test.YtlfilkniobkbiaaDoorVmCA
import Derived.Test.YtlfilkniobkbiaaDoorVmCC
import Derived.Test.YtlfilkniobkbiaaDoorCards
import Derived.Test.YtlfilkniobkbiaaDoorTie
import Derived.WalkKit
import Derived.ProofKit
import Derived.OpenShut
import Derived.Deep.DeepHandedRow
import Derived.Deep.DeepWitnessRowRef
import Derived.Lib.LaidTab
import Derived.Lay
set_option maxRecDepth 1000000
set_option maxHeartbeats 0
namespace Go.Proofs.YtlfilkniobkbiaaDoor.tyNames
open Go Go.VM Go.Proofs Go.Proofs.YtlfilkniobkbiaaDoor.Vm
open Go.ChangeShapes Go.WideShapes Go.ChangeAt Go.RowKit
theorem own : ownKnob Tryd.prog.godebug = none := by kernel_rfl
theorem tabs (w : World) (_hl : laidMetH Tryd.prog Rows.tyNamesRow.laid w) : TabsAny vE.G w := tabsAny (t := vG) (Tr.every_node noTabQ (Tr.every_node noTabQ (Tr.every_node noTabQ Tr.every_leaf Tr.every_leaf) (Tr.every_node noTabQ Tr.every_leaf Tr.every_leaf)) (Tr.every_node noTabQ (Tr.every_node noTabQ Tr.every_leaf Tr.every_leaf) Tr.every_leaf))
theorem contract (H : Type) (enc : TypeId × Value → H) (W : World) (base : Nat) (args : Array Value) (ds gs : List (DataW H)) (before : List MemPlace)
    (hval : ∀ (j : Nat) t v, Tryd.f7.params[j]? = some t → args[j]? = some v → Value.okWide Tryd.prog W .any base t v)
    (hW : DataW.Whole enc Tryd.prog Tryd.f7.params.toList Rows.tyNamesSpec.vars false W args.toList ds gs before) (hL : laidMetH Tryd.prog Rows.tyNamesRow.laid W)
 :
    Calls Tryd.prog 7 args W fun e W' => ∃ v, e = .returned v ∧ Rows.tyNamesSpec.post enc Tryd.prog Tryd.f7 false true false false W args v W' := by
  have hW' := hW
  obtain ⟨p, q, hA0, hV, rfl, hfz, hnd⟩ := hW
  have hA : DataW.TrodAll enc Tryd.prog W 0 (fun _ => true) true Tryd.f7.params.toList args.toList ds p := hA0
  have hps : Tryd.f7.params.toList = [] := by rw [Tryd.params7]
  rw [hps] at hA
  obtain ⟨hve, hde, hqe⟩ := trodAll_nil hA
  subst hqe
  obtain rfl : args = #[] := by
    have : args.toList = [] := by rw [hve]
    cases args; simp_all
  obtain rfl : ds = [] := by rw [hde]
  obtain ⟨rfl, rfl⟩ := trodVars_none hV
  clear hA0
  simp only [List.append_nil] at hW'
  have hrun : (orc vE).bare 7 [] = some (.bool true) := law_names
  have hb : bares [] = true := rfl
  have hr : RL (oldGh W) [] #[].toList := RL_nil
  have hA2 : DataW.TrodAll enc Tryd.prog W 0 (fun _ => true) true [] [] [] ([]) := trodAll_mk0
  have hruns := law_runs vE_ok hrun Tryd.call7 (tabs W hL) hb hr
  refine hruns.mono fun e W' ⟨he, hg⟩ => ?_
  subst he
  exact ⟨_, rfl, post_of_below (pa := []) (pv := []) hW' (fun _ _ _ => trodAll_cons_mk (shut_bool Tryd.underlying4 _) trodAll_mk0)
    (fun sp hsp => by
      rw [hps]
      exact trodAll_keep hg lawS_ok (show ([].all fun t => inS lawS t) = true from rfl) hA2 fun z hz => hsp z (by simp at hz)) (fun _ _ => rfl) (by simp)
    hg (ok_one (by kernel_rfl) rfl (okWide_bool_mk Tryd.underlying4 _))⟩
noncomputable def laidWorld (os : Os) : World := World.laidAll Tryd.prog os Rows.tyNamesRow.laid
theorem laid_met (os : Os) : laidMet Tryd.prog Rows.tyNamesRow.laid ((laidWorld os).forCall (fun _ _ => 0) ⟨#[], #[], []⟩).memory :=
  laidMet_laidAll #[] (by kernel_rfl) (by kernel_rfl)
theorem reads (os : Os) {H : Type} (enc : TypeId × Value → H) : DataW.whole enc Tryd.prog ((laidWorld os).forCall (fun _ _ => 0) ⟨#[], #[], []⟩).memory Tryd.f7.params.toList Rows.tyNamesSpec.vars false (#[] : Array Value).toList 8 = some ([], [], []) := by kernel_rfl
theorem lifted (os : Os) (started : os.Started) (H : Type) (enc : TypeId × Value → H) (F : Stop.Interp) :
    ReturnsInHanded {} Tryd.checked os 7 .any ((OpenSpec.ofChange Rows.tyNamesSpec).preRow enc Tryd.prog Tryd.f7 Rows.tyNamesRow.domain false Rows.tyNamesRow.laid) (((OpenSpec.ofChange Rows.tyNamesSpec).at F).post enc Tryd.prog Tryd.f7 false true false false) := by
  have hx := reads os enc
  refine returnsInHanded_of_row (C := Tryd.checked) (s := OpenSpec.ofChange Rows.tyNamesSpec) own started (by kernel_rfl) Tryd.func7
    (witness_row_atRef (enc := enc) (C := Tryd.checked) false (laidWorld os) #[] (World.laidAll_os _ _ _) (by kernel_rfl) (by kernel_rfl) (by kernel_rfl)
      (OpenSpec.preRow_of_cond 8 hx (by kernel_rfl) (fun k hk => by cases hk) (by kernel_rfl) (laid_met os))) ?_
  intro W base args ds gs before hval hW _ _ _ hL _ _
  exact contract H enc W base args ds gs before hval hW hL
theorem said : Rows.TyNamesSaid :=
  OpenClaim.holds_of_cond 7 Tryd.f7 rfl rfl rfl rfl rfl rfl rfl ⟨rfl, rfl, rfl, rfl, rfl⟩ rfl rfl rfl rfl rfl (by kernel_rfl) Tryd.func7 (by kernel_rfl)
    (of_decide_eq_true (by kernel_rfl)) (by unfold Func.isWrapper; first | (rw [if_pos (by decide +kernel)]; kernel_rfl) | (rw [if_neg (by decide +kernel)]; exact ⟨rfl, rfl⟩))
    (fun os started H enc _ F => by rw [OpenClaim.pre_eq_preRow]; exact lifted os started H enc F)
theorem plain (f : FuncId) (fn : Func) (hf : Tryd.pinned.checked.prog.funcNamed "rostrum/rostrumlaw16.TyNames" = some f) (hfn : Tryd.pinned.checked.prog.funcs[f]? = some fn) :
    true = Tryd.pinned.checked.prog.looks [] ∧ ∀ (j : Nat) t, fn.params[j]? = some t → Tryd.pinned.checked.prog.wantsStandIn t = false := by
  obtain rfl : f = 7 := Option.some.inj ((show Tryd.prog.funcNamed "rostrum/rostrumlaw16.TyNames" = some 7 by kernel_rfl).symm.trans hf) |>.symm
  obtain rfl : fn = Tryd.f7 := (Option.some.inj (Tryd.func7.symm.trans hfn)).symm
  refine ⟨by kernel_rfl, fun j t ht => ?_⟩
  rw [Tryd.params7] at ht
  match j, ht with
  | j + 0, ht => simp at ht
theorem card : Rows.TyNamesCardSaid :=
  Claim7.holds_tied_plain_at .later [] _ _ _ _ said (fun _ h => by cases h) (by kernel_rfl) (fun _ h => by cases h) tyNames_row_tie rfl ⟨rfl, rfl⟩ (by kernel_rfl) rfl plain (by kernel_rfl)
end Go.Proofs.YtlfilkniobkbiaaDoor.tyNames
