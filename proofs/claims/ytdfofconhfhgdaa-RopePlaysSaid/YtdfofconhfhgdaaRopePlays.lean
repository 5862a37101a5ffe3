/-
  RopePlays: whatever is edited and asked, each rope, old and new, answers and stands as the document says; for every input.
-/
import Derived.Test.YtdfofconhfhgdaaVmBJ
import Derived.Test.YtdfofconhfhgdaaRows
import Derived.WalkKit
import Derived.ProofKit
import Derived.OpenShut
import Derived.Deep.DeepHandedRow
import Derived.Deep.DeepWitnessRowRef
import Derived.Lib.LaidTab
import Derived.Lay
set_option maxRecDepth 1000000
set_option maxHeartbeats 0
namespace Go.Proofs.Ytdfofconhfhgdaa.ropePlays
open Go Go.VM Go.Proofs Go.Proofs.Ytdfofconhfhgdaa.Vm
open Go.ChangeShapes Go.WideShapes Go.ChangeAt Go.RowKit
theorem own : ownKnob Try.prog.godebug = none := by kernel_rfl
theorem tabs (w : World) (_hl : laidMetH Try.prog Rows.ropePlaysRow.laid w) : TabsOk vE.G w := tabsOk (t := vG) (Tr.every_node noTab Tr.every_leaf Tr.every_leaf)
theorem contract (H : Type) (enc : TypeId × Value → H) (W : World) (base : Nat) (args : Array Value) (ds gs : List (DataW H)) (before : List MemPlace)
    (hval : ∀ (j : Nat) t v, Try.f6.params[j]? = some t → args[j]? = some v → Value.okWide Try.prog W .any base t v)
    (hW : DataW.Whole enc Try.prog Try.f6.params.toList Rows.ropePlaysSpec.vars false W args.toList ds gs before) (hL : laidMetH Try.prog Rows.ropePlaysRow.laid W) :
    Calls Try.prog 6 args W fun e W' => ∃ v, e = .returned v ∧ Rows.ropePlaysSpec.post enc Try.prog Try.f6 false true false false W args v W' := by
  have hW' := hW
  obtain ⟨p, q, hA0, hV, rfl, hfz, hnd⟩ := hW
  have hA : DataW.TrodAll enc Try.prog W 0 (fun _ => true) true Try.f6.params.toList args.toList ds p := hA0
  have hps : Try.f6.params.toList = [9, 42] := by rw [Try.params6]
  rw [hps] at hA
  obtain ⟨x0, vs0, d0, ds0, p0, q0, hv0, hd0, hT0, hR0', hp0⟩ := trodAll_inv hA
  obtain ⟨x1, vs1, d1, ds1, p1, q1, hv1, hd1, hT1, hR1', hp1⟩ := trodAll_inv hR0'
  obtain ⟨hve, hde, hqe⟩ := trodAll_nil hR1'
  subst hqe hp1 hp0
  obtain rfl : args = #[x0, x1] := by
    have : args.toList = [x0, x1] := by rw [hv0, hv1, hve]
    cases args; simp_all
  obtain rfl : ds = [d0, d1] := by rw [hd0, hd1, hde]
  obtain ⟨rfl, rfl⟩ := trodVars_none hV
  clear hA0
  simp only [List.append_nil] at hW'
  obtain ⟨n0, as0, hA0, hR0, hB0, _⟩ := arg_of lawS_ok (show inS lawS 9 = true from rfl) (hval 0 9 x0 (by rw [Try.params6]; rfl) rfl) hT0
  have st0 : isSt Try.prog 9 = false := by kernel_rfl
  rw [st0] at hR0 hB0
  obtain ⟨s0, rfl, _⟩ := av_str Try.underlying9 hA0
  have hB0 : VM.bare (AV.str s0) = true := hB0
  have hR0 : R (oldGh W) (AV.str s0) x0 := hR0
  obtain ⟨n1, as1, hA1, hR1, hB1, _⟩ := arg_of lawS_ok (show inS lawS 42 = true from rfl) (hval 1 42 x1 (by rw [Try.params6]; rfl) rfl) hT1
  have st1 : isSt Try.prog 42 = false := by kernel_rfl
  rw [st1] at hR1 hB1
  have hz1 : Try.prog.cellsOf 51 = 6 := by kernel_rfl
  obtain ⟨z1, es1, rfl, hx1, hes1⟩ := sl_of (Q := fun v => ∃ p : Step, v = p.enc ∧ p.ok) Try.underlying42 hA1 fun a ha => by
    have hst : isSt Try.prog 51 = true := by kernel_rfl
    rw [hst]
    exact step_of ha
  rw [hz1] at hx1
  obtain ⟨ks1, rfl, hk1⟩ := steps_of hes1
  have hB1 : VM.bare (z1) = true := hB1
  have hR1 : R (oldGh W) (z1) x1 := hR1
  have hrun : (orc vE).bare 6 [AV.str s0, z1] = some (.bool true) := law_plays s0 hx1 hk1
  have hb : bares [AV.str s0, z1] = true := by simp only [bares_cons, hB0, hB1]; rfl
  have hr : RL (oldGh W) [AV.str s0, z1] #[x0, x1].toList := RL_cons hR0 (RL_cons hR1 RL_nil)
  have hA2 : DataW.TrodAll enc Try.prog W 0 (fun _ => true) true [9, 42] [x0, x1] [d0, d1] (p0 ++ (p1 ++ ([]))) := trodAll_cons_mk hT0 (trodAll_cons_mk hT1 (trodAll_mk0))
  refine (law_runs vE_ok hrun Try.call6 (tabs W hL) hb hr).mono fun e W' ⟨he, hg⟩ => ?_
  subst he
  exact ⟨_, rfl, post_of_below (pa := p0 ++ (p1 ++ ([]))) (pv := []) hW' (fun _ _ _ => trodAll_cons_mk (shut_bool Try.underlying4 _) trodAll_mk0)
    (fun sp hsp => by
      rw [hps]
      exact trodAll_keep hg lawS_ok (show ([9, 42].all fun t => inS lawS t) = true from rfl) hA2 fun z hz => hsp z (by simpa using hz)) (fun _ _ => rfl) (by simp)
    hg (ok_one (by kernel_rfl) rfl (okWide_bool_mk Try.underlying4 _))⟩
noncomputable def laidWorld (os : Os) : World := World.laidAll Try.prog os Rows.ropePlaysRow.laid
theorem laid_met (os : Os) : laidMet Try.prog Rows.ropePlaysRow.laid ((laidWorld os).forCall (fun _ _ => 0) ⟨#[], #[.string .empty, .slice none 0 0], []⟩).memory :=
  laidMet_laidAll #[.string .empty, .slice none 0 0] (by kernel_rfl) (by kernel_rfl)
theorem reads (os : Os) {H : Type} (enc : TypeId × Value → H) : DataW.whole enc Try.prog ((laidWorld os).forCall (fun _ _ => 0) ⟨#[], #[.string .empty, .slice none 0 0], []⟩).memory Try.f6.params.toList Rows.ropePlaysSpec.vars false (#[.string .empty, .slice none 0 0] : Array Value).toList 8 = some ([.lit (.string []), .nil], [], []) := by kernel_rfl
theorem lifted (os : Os) (started : os.Started) (H : Type) (enc : TypeId × Value → H) (F : Stop.Interp) :
    ReturnsInHanded {} Try.checked os 6 .any ((OpenSpec.ofChange Rows.ropePlaysSpec).preRow enc Try.prog Try.f6 Rows.ropePlaysRow.domain false Rows.ropePlaysRow.laid) (((OpenSpec.ofChange Rows.ropePlaysSpec).at F).post enc Try.prog Try.f6 false true false false) := by
  have hx := reads os enc
  refine returnsInHanded_of_row (C := Try.checked) (s := OpenSpec.ofChange Rows.ropePlaysSpec) own started (by kernel_rfl) Try.func6
    (witness_row_atRef (enc := enc) (C := Try.checked) false (laidWorld os) #[.string .empty, .slice none 0 0] (World.laidAll_os _ _ _) (by kernel_rfl) (by kernel_rfl) (by kernel_rfl)
      (OpenSpec.preRow_of_cond 8 hx (by kernel_rfl) (fun k hk => by cases hk) (by kernel_rfl) (laid_met os))) ?_
  intro W base args ds gs before hval hW _ _ _ hL _ _
  exact contract H enc W base args ds gs before hval hW hL
theorem said : Rows.RopePlaysSaid :=
  OpenClaim.holds_of_cond 6 Try.f6 rfl rfl rfl rfl rfl rfl rfl ⟨rfl, rfl, rfl, rfl, rfl⟩ rfl rfl rfl rfl rfl (by kernel_rfl) Try.func6 (by kernel_rfl)
    (of_decide_eq_true (by kernel_rfl)) (by unfold Func.isWrapper; first | (rw [if_pos (by decide +kernel)]; kernel_rfl) | (rw [if_neg (by decide +kernel)]; exact ⟨rfl, rfl⟩))
    (fun os started H enc _ F => by rw [OpenClaim.pre_eq_preRow]; exact lifted os started H enc F)
end Go.Proofs.Ytdfofconhfhgdaa.ropePlays
