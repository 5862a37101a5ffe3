/-
  Types that were made alike are the same in full, and stay so; what can't be made alike changes nothing.
-/
import Derived.Test.YtlfilkniobkbiaaDoorVmCA
import Derived.Test.YtlfilkniobkbiaaDoorVmCC
import Derived.Test.YtlfilkniobkbiaaDoorCards
import Derived.Test.YtlfilkniobkbiaaDoorTie
import Derived.WalkKit
import Derived.ProofKit
import Derived.OpenShut
import Derived.Deep.DeepHandedRow
import Derived.Deep.DeepWitnessRowRef
import Derived.Lib.LaidTab
import Derived.Lay
set_option maxRecDepth 1000000
set_option maxHeartbeats 0
namespace Go.Proofs.YtlfilkniobkbiaaDoor.tyAlike
open Go Go.VM Go.Proofs Go.Proofs.YtlfilkniobkbiaaDoor.Vm
open Go.ChangeShapes Go.WideShapes Go.ChangeAt Go.RowKit
theorem own : ownKnob Tryd.prog.godebug = none := by kernel_rfl
theorem tabs (w : World) (_hl : laidMetH Tryd.prog Rows.tyAlikeRow.laid w) : TabsAny vE.G w := tabsAny (t := vG) (Tr.every_node noTabQ (Tr.every_node noTabQ (Tr.every_node noTabQ Tr.every_leaf Tr.every_leaf) (Tr.every_node noTabQ Tr.every_leaf Tr.every_leaf)) (Tr.every_node noTabQ (Tr.every_node noTabQ Tr.every_leaf Tr.every_leaf) Tr.every_leaf))
theorem contract (H : Type) (enc : TypeId × Value → H) (W : World) (base : Nat) (args : Array Value) (ds gs : List (DataW H)) (before : List MemPlace)
    (hval : ∀ (j : Nat) t v, Tryd.f4.params[j]? = some t → args[j]? = some v → Value.okWide Tryd.prog W .any base t v)
    (hW : DataW.Whole enc Tryd.prog Tryd.f4.params.toList Rows.tyAlikeSpec.vars false W args.toList ds gs before) (hL : laidMetH Tryd.prog Rows.tyAlikeRow.laid W)
 :
    Calls Tryd.prog 4 args W fun e W' => ∃ v, e = .returned v ∧ Rows.tyAlikeSpec.post enc Tryd.prog Tryd.f4 false true false false W args v W' := by
  have hW' := hW
  obtain ⟨p, q, hA0, hV, rfl, hfz, hnd⟩ := hW
  have hA : DataW.TrodAll enc Tryd.prog W 0 (fun _ => true) true Tryd.f4.params.toList args.toList ds p := hA0
  have hps : Tryd.f4.params.toList = [22] := by rw [Tryd.params4]
  rw [hps] at hA
  obtain ⟨x0, vs0, d0, ds0, p0, q0, hv0, hd0, hT0, hR0', hp0⟩ := trodAll_inv hA
  obtain ⟨hve, hde, hqe⟩ := trodAll_nil hR0'
  subst hqe hp0
  obtain rfl : args = #[x0] := by
    have : args.toList = [x0] := by rw [hv0, hve]
    cases args; simp_all
  obtain rfl : ds = [d0] := by rw [hd0, hde]
  obtain ⟨rfl, rfl⟩ := trodVars_none hV
  clear hA0
  simp only [List.append_nil] at hW'
  obtain ⟨n0, as0, hA0, hR0, hB0, _⟩ := arg_of lawS_ok (show inS lawS 22 = true from rfl) (hval 0 22 x0 (by rw [Tryd.params4]; rfl) rfl) hT0
  have st0 : isSt Tryd.prog 22 = false := by kernel_rfl
  rw [st0] at hR0 hB0
  obtain ⟨z0, l0, es0, rfl, hx0, hs0⟩ := types_of hA0
  have hB0 : VM.bare (z0) = true := hB0
  have hR0 : R (oldGh W) (z0) x0 := hR0
  have hrun : (orc vE).bare 4 [z0] = some (.bool true) := law_alike hx0 hs0
  have hb : bares [z0] = true := by simp only [bares_cons, hB0]; rfl
  have hr : RL (oldGh W) [z0] #[x0].toList := RL_cons hR0 RL_nil
  have hA2 : DataW.TrodAll enc Tryd.prog W 0 (fun _ => true) true [22] [x0] [d0] (p0 ++ ([])) := trodAll_cons_mk hT0 (trodAll_mk0)
  have hruns := law_runs vE_ok hrun Tryd.call4 (tabs W hL) hb hr
  refine hruns.mono fun e W' ⟨he, hg⟩ => ?_
  subst he
  exact ⟨_, rfl, post_of_below (pa := p0 ++ ([])) (pv := []) hW' (fun _ _ _ => trodAll_cons_mk (shut_bool Tryd.underlying4 _) trodAll_mk0)
    (fun sp hsp => by
      rw [hps]
      exact trodAll_keep hg lawS_ok (show ([22].all fun t => inS lawS t) = true from rfl) hA2 fun z hz => hsp z (by simpa using hz)) (fun _ _ => rfl) (by simp)
    hg (ok_one (by kernel_rfl) rfl (okWide_bool_mk Tryd.underlying4 _))⟩
noncomputable def laidWorld (os : Os) : World := World.laidAll Tryd.prog os Rows.tyAlikeRow.laid
theorem laid_met (os : Os) : laidMet Tryd.prog Rows.tyAlikeRow.laid ((laidWorld os).forCall (fun _ _ => 0) ⟨#[], #[.slice none 0 0], []⟩).memory :=
  laidMet_laidAll #[.slice none 0 0] (by kernel_rfl) (by kernel_rfl)
theorem reads (os : Os) {H : Type} (enc : TypeId × Value → H) : DataW.whole enc Tryd.prog ((laidWorld os).forCall (fun _ _ => 0) ⟨#[], #[.slice none 0 0], []⟩).memory Tryd.f4.params.toList Rows.tyAlikeSpec.vars false (#[.slice none 0 0] : Array Value).toList 8 = some ([.nil], [], []) := by kernel_rfl
theorem lifted (os : Os) (started : os.Started) (H : Type) (enc : TypeId × Value → H) (F : Stop.Interp) :
    ReturnsInHanded {} Tryd.checked os 4 .any ((OpenSpec.ofChange Rows.tyAlikeSpec).preRow enc Tryd.prog Tryd.f4 Rows.tyAlikeRow.domain false Rows.tyAlikeRow.laid) (((OpenSpec.ofChange Rows.tyAlikeSpec).at F).post enc Tryd.prog Tryd.f4 false true false false) := by
  have hx := reads os enc
  refine returnsInHanded_of_row (C := Tryd.checked) (s := OpenSpec.ofChange Rows.tyAlikeSpec) own started (by kernel_rfl) Tryd.func4
    (witness_row_atRef (enc := enc) (C := Tryd.checked) false (laidWorld os) #[.slice none 0 0] (World.laidAll_os _ _ _) (by kernel_rfl) (by kernel_rfl) (by kernel_rfl)
      (OpenSpec.preRow_of_cond 8 hx (by kernel_rfl) (fun k hk => by cases hk) (by kernel_rfl) (laid_met os))) ?_
  intro W base args ds gs before hval hW _ _ _ hL _ _
  exact contract H enc W base args ds gs before hval hW hL
theorem said : Rows.TyAlikeSaid :=
  OpenClaim.holds_of_cond 4 Tryd.f4 rfl rfl rfl rfl rfl rfl rfl ⟨rfl, rfl, rfl, rfl, rfl⟩ rfl rfl rfl rfl rfl (by kernel_rfl) Tryd.func4 (by kernel_rfl)
    (of_decide_eq_true (by kernel_rfl)) (by unfold Func.isWrapper; first | (rw [if_pos (by decide +kernel)]; kernel_rfl) | (rw [if_neg (by decide +kernel)]; exact ⟨rfl, rfl⟩))
    (fun os started H enc _ F => by rw [OpenClaim.pre_eq_preRow]; exact lifted os started H enc F)
theorem plain (f : FuncId) (fn : Func) (hf : Tryd.pinned.checked.prog.funcNamed "rostrum/rostrumlaw16.TyAlike" = some f) (hfn : Tryd.pinned.checked.prog.funcs[f]? = some fn) :
    true = Tryd.pinned.checked.prog.looks [] ∧ ∀ (j : Nat) t, fn.params[j]? = some t → Tryd.pinned.checked.prog.wantsStandIn t = false := by
  obtain rfl : f = 4 := Option.some.inj ((show Tryd.prog.funcNamed "rostrum/rostrumlaw16.TyAlike" = some 4 by kernel_rfl).symm.trans hf) |>.symm
  obtain rfl : fn = Tryd.f4 := (Option.some.inj (Tryd.func4.symm.trans hfn)).symm
  refine ⟨by kernel_rfl, fun j t ht => ?_⟩
  rw [Tryd.params4] at ht
  match j, ht with
  | 0, ht =>
    obtain rfl : t = 22 := by simpa using ht.symm
    exact (show Tryd.prog.wantsStandIn 22 = false by kernel_rfl)
  | j + 1, ht => simp at ht
theorem card : Rows.TyAlikeCardSaid :=
  Claim7.holds_tied_plain_at .later [] _ _ _ _ said (fun _ h => by cases h) (by kernel_rfl) (fun _ h => by cases h) tyAlike_row_tie rfl ⟨rfl, rfl⟩ (by kernel_rfl) rfl plain (by kernel_rfl)
end Go.Proofs.YtlfilkniobkbiaaDoor.tyAlike
