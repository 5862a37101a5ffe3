/-
  ScopeNames holds: the examples of what each use means, and more of each kind, are as the document has them, for the given rows (the listed tables and variables as they are laid).
-/
import Derived.Test.YtjagieigmleneajGreatDoorVmR
import Derived.Test.YtjagieigmleneajGreatDoorCards
import Derived.Test.YtjagieigmleneajGreatDoorTie
import Derived.WalkKit
import Derived.ProofKit
import Derived.OpenShut
import Derived.Deep.DeepHandedRow
import Derived.Lib.LaidTab
import Derived.Lay
import Derived.Deep.DeepWitnessRowRef
set_option maxRecDepth 1000000
set_option maxHeartbeats 0
namespace Go.Proofs.YtjagieigmleneajGreatDoor.scopeNames
open Go Go.VM Go.Proofs Go.Proofs.YtjagieigmleneajGreatDoor.Vm
open Go.ChangeShapes Go.WideShapes Go.ChangeAt Go.RowKit
theorem ran : (caller vE4 3000).bare 3 [] = .ok (.bool true) := ranTrue (fun _ => rfl) ran0
theorem own : ownKnob Tryz.prog.godebug = none := by kernel_rfl
theorem tab2 (w : World) (hl : laidMetH Tryz.prog Rows.scopeNamesRow.laid w) : ∀ o v, ((vG.get 2).getD [])[o]? = some v → w.cell? ⟨2, o, none⟩ = some (intV v) := by
  have h : Lib.VarReads Tryz.prog w "strings.asciiSpace" Rows.laid_strings_asciiSpace := reads_of hl (by kernel_rfl) (List.Mem.tail _ (List.Mem.tail _ (List.Mem.tail _ (List.Mem.tail _ (List.Mem.tail _ (List.Mem.tail _ (List.Mem.tail _ (List.Mem.head _))))))))
  have e : (Rows.laid_strings_asciiSpace : DataW Unit) = Lib.tabData .u8 ((List.range 256).map fun b => if b == 32 || (9 ≤ b && b ≤ 13) then (1 : Int) else 0) := by kernel_rfl
  rw [e] at h
  exact tab_arr (by kernel_rfl) (by kernel_rfl) Tryz.underlying137 Tryz.underlying5 (by kernel_rfl) (by kernel_rfl) h (by kernel_rfl)
theorem tabs (w : World) (hl : laidMetH Tryz.prog Rows.scopeNamesRow.laid w) : TabsOk vE.G w := tabsOk (t := vG) (Tr.every_node noTab (Tr.every_node noTab (Tr.every_node noTab (Tr.every_node noTab Tr.every_leaf Tr.every_leaf) Tr.every_leaf) (Tr.every_node noTab (Tr.every_node noTab Tr.every_leaf Tr.every_leaf) Tr.every_leaf)) (Tr.every_node (oneTab (by kernel_rfl) (tab2 w hl)) (Tr.every_node noTab (Tr.every_node noTab Tr.every_leaf Tr.every_leaf) Tr.every_leaf) (Tr.every_node noTab (Tr.every_node noTab Tr.every_leaf Tr.every_leaf) Tr.every_leaf)))
theorem walk (w : World) (hl : laidMetH Tryz.prog Rows.scopeNamesRow.laid w) : Calls Tryz.prog 3 #[] w fun e w' => e = .returned (.bool true) ∧ Below w.heap.size w w' := by
  refine (closed vE4_ok ran Tryz.call3 (tabs w hl)).mono ?_
  rintro e w' ⟨x, g, rfl, hx, hb⟩
  simp only [R] at hx
  subst hx
  exact ⟨rfl, hb⟩
theorem contract (H : Type) (enc : TypeId × Value → H) (W : World) (args : Array Value) (ds gs : List (DataW H)) (before : List MemPlace)
    (hW : DataW.Whole enc Tryz.prog Tryz.f3.params.toList Rows.scopeNamesSpec.vars false W args.toList ds gs before) (hL : laidMetH Tryz.prog Rows.scopeNamesRow.laid W) :
    Calls Tryz.prog 3 args W fun e W' => ∃ v, e = .returned v ∧ Rows.scopeNamesSpec.post enc Tryz.prog Tryz.f3 false true false false W args v W' := by
  have hW' := hW
  obtain ⟨p, q, hA0, hV, rfl, hfz, hnd⟩ := hW
  have hA : DataW.TrodAll enc Tryz.prog W 0 (fun _ => true) true Tryz.f3.params.toList args.toList ds p := hA0
  rw [Tryz.params3] at hA
  obtain ⟨hargs, rfl, rfl⟩ := trodAll_nil hA
  obtain rfl : args = #[] := by cases args; simp_all
  obtain ⟨rfl, rfl⟩ := trodVars_none hV
  clear hA0
  simp only [List.append_nil] at hW'
  refine (walk W hL).mono fun e W' ⟨he, hg⟩ => ?_
  subst he
  exact ⟨_, rfl, post_of_below (pa := []) (pv := []) hW' (fun _ _ _ => trodAll_cons_mk (shut_bool Tryz.underlying4 _) trodAll_mk0) (fun _ _ => trodAll_mk0) (fun _ _ => rfl) rfl
    hg (ok_one (by kernel_rfl) rfl (okWide_bool_mk Tryz.underlying4 _))⟩
noncomputable def laidWorld (os : Os) : World := World.laidAll Tryz.prog os Rows.scopeNamesRow.laid
theorem laid_met (os : Os) : laidMet Tryz.prog Rows.scopeNamesRow.laid ((laidWorld os).forCall (fun _ _ => 0) ⟨#[], #[], []⟩).memory :=
  laidMet_laidAll #[] (by kernel_rfl) (by kernel_rfl)
theorem reads (os : Os) {H : Type} (enc : TypeId × Value → H) : ∃ places, DataW.whole enc Tryz.prog ((laidWorld os).forCall (fun _ _ => 0) ⟨#[], #[], []⟩).memory Tryz.f3.params.toList Rows.scopeNamesSpec.vars false (#[] : Array Value).toList 8 = some ([], [], places) :=
  ⟨[], by kernel_rfl⟩
theorem lifted (os : Os) (started : os.Started) (H : Type) (enc : TypeId × Value → H) (F : Stop.Interp) :
    ReturnsInHanded {} Tryz.checked os 3 .any ((OpenSpec.ofChange Rows.scopeNamesSpec).preRow enc Tryz.prog Tryz.f3 Rows.scopeNamesRow.domain false Rows.scopeNamesRow.laid) (((OpenSpec.ofChange Rows.scopeNamesSpec).at F).post enc Tryz.prog Tryz.f3 false true false false) := by
  obtain ⟨places, hx⟩ := reads os enc
  refine returnsInHanded_of_row (C := Tryz.checked) (s := OpenSpec.ofChange Rows.scopeNamesSpec) own started (by kernel_rfl) Tryz.func3
    (witness_row_atRef (enc := enc) (C := Tryz.checked) false (laidWorld os) #[] (World.laidAll_os _ _ _) (by kernel_rfl) (by kernel_rfl) (by kernel_rfl)
      (OpenSpec.preRow_of_cond 8 hx (by kernel_rfl) (fun k hk => by cases hk) (by kernel_rfl) (laid_met os))) ?_
  intro W base args ds gs before hval hW _ _ _ hL _ _
  exact contract H enc W args ds gs before hW hL
theorem said : Rows.ScopeNamesSaid :=
  OpenClaim.holds_of_cond 3 Tryz.f3 rfl rfl rfl rfl rfl rfl rfl ⟨rfl, rfl, rfl, rfl, rfl⟩ rfl rfl rfl rfl rfl (by kernel_rfl) Tryz.func3 (by kernel_rfl)
    (of_decide_eq_true (by kernel_rfl)) (by unfold Func.isWrapper; first | (rw [if_pos (by decide +kernel)]; kernel_rfl) | (rw [if_neg (by decide +kernel)]; exact ⟨rfl, rfl⟩))
    (fun os started H enc _ F => by rw [OpenClaim.pre_eq_preRow]; exact lifted os started H enc F)
theorem plain (f : FuncId) (fn : Func) (hf : Tryz.pinned.checked.prog.funcNamed "rostrum/rostrumlaw15.ScopeNames" = some f) (hfn : Tryz.pinned.checked.prog.funcs[f]? = some fn) :
    true = Tryz.pinned.checked.prog.looks [] ∧ ∀ (j : Nat) t, fn.params[j]? = some t → Tryz.pinned.checked.prog.wantsStandIn t = false := by
  obtain rfl : f = 3 := Option.some.inj ((show Tryz.prog.funcNamed "rostrum/rostrumlaw15.ScopeNames" = some 3 by kernel_rfl).symm.trans hf) |>.symm
  obtain rfl : fn = Tryz.f3 := (Option.some.inj (Tryz.func3.symm.trans hfn)).symm
  refine ⟨by kernel_rfl, fun j t ht => ?_⟩
  rw [Tryz.params3] at ht
  simp at ht
theorem card : Rows.ScopeNamesCardSaid :=
  Claim7.holds_tied_plain_at .later [] _ _ _ _ said (fun _ h => by cases h) (by kernel_rfl) (fun _ h => by cases h) scopeNames_row_tie rfl ⟨rfl, rfl⟩ (by kernel_rfl) rfl plain (by kernel_rfl)
end Go.Proofs.YtjagieigmleneajGreatDoor.scopeNames
