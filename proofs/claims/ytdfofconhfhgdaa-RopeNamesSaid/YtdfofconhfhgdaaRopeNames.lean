/-
  RopeNames: the examples, the limits and the errors are as the document has them (closed).
-/
import Derived.Test.YtdfofconhfhgdaaVmCA
import Derived.Test.YtdfofconhfhgdaaRows
import Derived.WalkKit
import Derived.ProofKit
import Derived.OpenShut
import Derived.Deep.DeepHandedRow
import Derived.Deep.DeepWitnessRowRef
import Derived.Lib.LaidTab
import Derived.Lay
set_option maxRecDepth 1000000
set_option maxHeartbeats 0
namespace Go.Proofs.Ytdfofconhfhgdaa.ropeNames
open Go Go.VM Go.Proofs Go.Proofs.Ytdfofconhfhgdaa.Vm
open Go.ChangeShapes Go.WideShapes Go.ChangeAt Go.RowKit
theorem own : ownKnob Try.prog.godebug = none := by kernel_rfl
theorem tabs (w : World) (_hl : laidMetH Try.prog Rows.ropeNamesRow.laid w) : TabsOk vE.G w := tabsOk (t := vG) (Tr.every_node noTab Tr.every_leaf Tr.every_leaf)
theorem contract (H : Type) (enc : TypeId × Value → H) (W : World) (base : Nat) (args : Array Value) (ds gs : List (DataW H)) (before : List MemPlace)
    (hval : ∀ (j : Nat) t v, Try.f5.params[j]? = some t → args[j]? = some v → Value.okWide Try.prog W .any base t v)
    (hW : DataW.Whole enc Try.prog Try.f5.params.toList Rows.ropeNamesSpec.vars false W args.toList ds gs before) (hL : laidMetH Try.prog Rows.ropeNamesRow.laid W) :
    Calls Try.prog 5 args W fun e W' => ∃ v, e = .returned v ∧ Rows.ropeNamesSpec.post enc Try.prog Try.f5 false true false false W args v W' := by
  have hW' := hW
  obtain ⟨p, q, hA0, hV, rfl, hfz, hnd⟩ := hW
  have hA : DataW.TrodAll enc Try.prog W 0 (fun _ => true) true Try.f5.params.toList args.toList ds p := hA0
  have hps : Try.f5.params.toList = [] := by rw [Try.params5]
  rw [hps] at hA
  obtain ⟨hve, hde, hqe⟩ := trodAll_nil hA
  subst hqe
  obtain rfl : args = #[] := by
    have : args.toList = [] := by rw [hve]
    cases args; simp_all
  obtain rfl : ds = [] := by rw [hde]
  obtain ⟨rfl, rfl⟩ := trodVars_none hV
  clear hA0
  simp only [List.append_nil] at hW'
  have hrun : (orc vE).bare 5 [] = some (.bool true) := law_names
  have hb : bares [] = true := rfl
  have hr : RL (oldGh W) [] #[].toList := RL_nil
  have hA2 : DataW.TrodAll enc Try.prog W 0 (fun _ => true) true [] [] [] ([]) := trodAll_mk0
  refine (law_runs vE_ok hrun Try.call5 (tabs W hL) hb hr).mono fun e W' ⟨he, hg⟩ => ?_
  subst he
  exact ⟨_, rfl, post_of_below (pa := []) (pv := []) hW' (fun _ _ _ => trodAll_cons_mk (shut_bool Try.underlying4 _) trodAll_mk0)
    (fun sp hsp => by
      rw [hps]
      exact trodAll_keep hg lawS_ok (show ([].all fun t => inS lawS t) = true from rfl) hA2 fun z hz => hsp z (by simp at hz)) (fun _ _ => rfl) (by simp)
    hg (ok_one (by kernel_rfl) rfl (okWide_bool_mk Try.underlying4 _))⟩
noncomputable def laidWorld (os : Os) : World := World.laidAll Try.prog os Rows.ropeNamesRow.laid
theorem laid_met (os : Os) : laidMet Try.prog Rows.ropeNamesRow.laid ((laidWorld os).forCall (fun _ _ => 0) ⟨#[], #[], []⟩).memory :=
  laidMet_laidAll #[] (by kernel_rfl) (by kernel_rfl)
theorem reads (os : Os) {H : Type} (enc : TypeId × Value → H) : DataW.whole enc Try.prog ((laidWorld os).forCall (fun _ _ => 0) ⟨#[], #[], []⟩).memory Try.f5.params.toList Rows.ropeNamesSpec.vars false (#[] : Array Value).toList 8 = some ([], [], []) := by kernel_rfl
theorem lifted (os : Os) (started : os.Started) (H : Type) (enc : TypeId × Value → H) (F : Stop.Interp) :
    ReturnsInHanded {} Try.checked os 5 .any ((OpenSpec.ofChange Rows.ropeNamesSpec).preRow enc Try.prog Try.f5 Rows.ropeNamesRow.domain false Rows.ropeNamesRow.laid) (((OpenSpec.ofChange Rows.ropeNamesSpec).at F).post enc Try.prog Try.f5 false true false false) := by
  have hx := reads os enc
  refine returnsInHanded_of_row (C := Try.checked) (s := OpenSpec.ofChange Rows.ropeNamesSpec) own started (by kernel_rfl) Try.func5
    (witness_row_atRef (enc := enc) (C := Try.checked) false (laidWorld os) #[] (World.laidAll_os _ _ _) (by kernel_rfl) (by kernel_rfl) (by kernel_rfl)
      (OpenSpec.preRow_of_cond 8 hx (by kernel_rfl) (fun k hk => by cases hk) (by kernel_rfl) (laid_met os))) ?_
  intro W base args ds gs before hval hW _ _ _ hL _ _
  exact contract H enc W base args ds gs before hval hW hL
theorem said : Rows.RopeNamesSaid :=
  OpenClaim.holds_of_cond 5 Try.f5 rfl rfl rfl rfl rfl rfl rfl ⟨rfl, rfl, rfl, rfl, rfl⟩ rfl rfl rfl rfl rfl (by kernel_rfl) Try.func5 (by kernel_rfl)
    (of_decide_eq_true (by kernel_rfl)) (by unfold Func.isWrapper; first | (rw [if_pos (by decide +kernel)]; kernel_rfl) | (rw [if_neg (by decide +kernel)]; exact ⟨rfl, rfl⟩))
    (fun os started H enc _ F => by rw [OpenClaim.pre_eq_preRow]; exact lifted os started H enc F)
end Go.Proofs.Ytdfofconhfhgdaa.ropeNames
