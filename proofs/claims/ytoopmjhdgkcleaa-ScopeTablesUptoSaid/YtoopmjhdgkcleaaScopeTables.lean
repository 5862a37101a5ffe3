/-
  For every declarations that hold together at most 1048576 values and letters: the law ScopeTables returns true, and its argument reads as it did. Condition: that of the second form.
-/
import Derived.Test.YtoopmjhdgkcleaaVmBI
import Derived.Test.YtoopmjhdgkcleaaRows
import Derived.WalkKit
import Derived.ProofKit
import Derived.OpenShut
import Derived.Deep.DeepHandedRow
import Derived.Deep.DeepWitnessRowRef
import Derived.Lib.LaidTab
import Derived.Lay
set_option maxRecDepth 1000000
set_option maxHeartbeats 0
namespace Go.Proofs.Ytoopmjhdgkcleaa.scopeTables
open Go Go.VM Go.Proofs Go.Proofs.Ytoopmjhdgkcleaa.Vm
open Go.ChangeShapes Go.WideShapes Go.ChangeAt Go.RowKit
theorem own : ownKnob Try.prog.godebug = none := by kernel_rfl
theorem tabs (w : World) (_hl : laidMetH Try.prog Rows.scopeTablesUptoRow.laid w) : TabsAny vE.G w := tabsAny (t := vG) Tr.every_leaf
theorem bulk_one {H : Type} (d : DataW H) : 1 ≤ Rows.uptoBulk d := by
  cases d with
  | lit l => cases l <;> simp [Rows.uptoBulk]
  | nil => simp [Rows.uptoBulk]
  | ptr d => simp [Rows.uptoBulk]
  | slice elems spare => simp [Rows.uptoBulk]
  | agg parts => simp [Rows.uptoBulk]
  | iface t d => simp [Rows.uptoBulk]
  | map entries => simp [Rows.uptoBulk]
  | held h => simp [Rows.uptoBulk]
theorem bulk_all {H : Type} : ∀ (l : List (DataW H)), Rows.uptoBulkAll l = (l.map Rows.uptoBulk).sum
  | [] => rfl
  | d :: l => by simp only [Rows.uptoBulkAll, List.map_cons, List.sum_cons, bulk_all l]
theorem bulk_ok {H : Type} : Bulk (H := H) Rows.uptoBulk where
  one := bulk_one
  str s := by simp only [Rows.uptoBulk]; exact Nat.le_refl _
  slice es sp := by simp only [Rows.uptoBulk, bulk_all]; omega
  agg ps := by simp only [Rows.uptoBulk, bulk_all]; omega
theorem contract (H : Type) (enc : TypeId × Value → H) (W : World) (base : Nat) (args : Array Value) (ds gs : List (DataW H)) (before : List MemPlace)
    (hval : ∀ (j : Nat) t v, Try.f3.params[j]? = some t → args[j]? = some v → Value.okWide Try.prog W .any base t v)
    (hW : DataW.Whole enc Try.prog Try.f3.params.toList Rows.scopeTablesSpec.vars false W args.toList ds gs before) (hL : laidMetH Try.prog Rows.scopeTablesUptoRow.laid W) (hc : Rows.uptoBulkAll (ds ++ gs) ≤ 1048576)
 :
    Calls Try.prog 3 args W fun e W' => ∃ v, e = .returned v ∧ Rows.scopeTablesSpec.post enc Try.prog Try.f3 false true false false W args v W' := by
  have hW' := hW
  obtain ⟨p, q, hA0, hV, rfl, hfz, hnd⟩ := hW
  have hA : DataW.TrodAll enc Try.prog W 0 (fun _ => true) true Try.f3.params.toList args.toList ds p := hA0
  have hps : Try.f3.params.toList = [22] := by rw [Try.params3]
  rw [hps] at hA
  obtain ⟨x0, vs0, d0, ds0, p0, q0, hv0, hd0, hT0, hR0', hp0⟩ := trodAll_inv hA
  obtain ⟨hve, hde, hqe⟩ := trodAll_nil hR0'
  subst hqe hp0
  obtain rfl : args = #[x0] := by
    have : args.toList = [x0] := by rw [hv0, hve]
    cases args; simp_all
  obtain rfl : ds = [d0] := by rw [hd0, hde]
  obtain ⟨rfl, rfl⟩ := trodVars_none hV
  clear hA0
  simp only [List.append_nil] at hW'
  obtain ⟨n0, as0, hA0, hR0, hB0, _, hV0⟩ := arg_up bulk_ok lawS_ok (show inS lawS 22 = true from rfl) (hval 0 22 x0 (by rw [Try.params3]; rfl) rfl) hT0
  have hU0 : bulkAs as0 ≤ 1048576 := by
    simp only [List.append_nil, bulk_all, List.map_cons, List.map_nil, List.sum_cons, List.sum_nil] at hc
    omega
  have st0 : isSt Try.prog 22 = false := by kernel_rfl
  rw [st0] at hR0 hB0
  obtain ⟨xx0, l0, es0, rfl, hx0, hl0, hn0⟩ := decls_of hA0 hU0
  have hB0 : VM.bare (xx0) = true := hB0
  have hR0 : R (oldGh W) (xx0) x0 := hR0
  have hrun : (orc vE).bare 3 [xx0] = some (.bool true) := law_tables hl0 hx0 (sm_of (by omega))
  have hb : bares [xx0] = true := by simp only [bares_cons, hB0]; rfl
  have hr : RL (oldGh W) [xx0] #[x0].toList := RL_cons hR0 RL_nil
  have hA2 : DataW.TrodAll enc Try.prog W 0 (fun _ => true) true [22] [x0] [d0] (p0 ++ ([])) := trodAll_cons_mk hT0 (trodAll_mk0)
  refine (law_runs vE_ok hrun Try.call3 (tabs W hL) hb hr).mono fun e W' ⟨he, hg⟩ => ?_
  subst he
  exact ⟨_, rfl, post_of_below (pa := p0 ++ ([])) (pv := []) hW' (fun _ _ _ => trodAll_cons_mk (shut_bool Try.underlying4 _) trodAll_mk0)
    (fun sp hsp => by
      rw [hps]
      exact trodAll_keep hg lawS_ok (show ([22].all fun t => inS lawS t) = true from rfl) hA2 fun z hz => hsp z (by simpa using hz)) (fun _ _ => rfl) (by simp)
    hg (ok_one (by kernel_rfl) rfl (okWide_bool_mk Try.underlying4 _))⟩
noncomputable def laidWorld (os : Os) : World := World.laidAll Try.prog os Rows.scopeTablesUptoRow.laid
theorem laid_met (os : Os) : laidMet Try.prog Rows.scopeTablesUptoRow.laid ((laidWorld os).forCall (fun _ _ => 0) ⟨#[], #[.slice none 0 0], []⟩).memory :=
  laidMet_laidAll #[.slice none 0 0] (by kernel_rfl) (by kernel_rfl)
theorem reads (os : Os) {H : Type} (enc : TypeId × Value → H) : DataW.whole enc Try.prog ((laidWorld os).forCall (fun _ _ => 0) ⟨#[], #[.slice none 0 0], []⟩).memory Try.f3.params.toList Rows.scopeTablesSpec.vars false (#[.slice none 0 0] : Array Value).toList 8 = some ([.nil], [], []) := by kernel_rfl
theorem lifted (os : Os) (started : os.Started) (H : Type) (enc : TypeId × Value → H) (F : Stop.Interp) :
    ReturnsInHanded {} Try.checked os 3 .any ((Rows.OpenSpec.upto Rows.scopeTablesSpec).preRow enc Try.prog Try.f3 Rows.scopeTablesUptoRow.domain false Rows.scopeTablesUptoRow.laid) (((Rows.OpenSpec.upto Rows.scopeTablesSpec).at F).post enc Try.prog Try.f3 false true false false) := by
  have hx := reads os enc
  refine returnsInHanded_of_row (C := Try.checked) (s := Rows.OpenSpec.upto Rows.scopeTablesSpec) own started (by kernel_rfl) Try.func3
    (witness_row_atRef (enc := enc) (C := Try.checked) false (laidWorld os) #[.slice none 0 0] (World.laidAll_os _ _ _) (by kernel_rfl) (by kernel_rfl) (by kernel_rfl)
      (OpenSpec.preRow_of_cond 8 hx (by kernel_rfl) (fun k hk => by cases hk; kernel_rfl) (by kernel_rfl) (laid_met os))) ?_
  intro W base args ds gs before hval hW _ hc _ hL _ _
  exact contract H enc W base args ds gs before hval hW hL (of_decide_eq_true (hc _ rfl))
theorem said : Rows.ScopeTablesUptoSaid :=
  OpenClaim.holds_of_cond 3 Try.f3 rfl rfl rfl rfl rfl rfl rfl ⟨rfl, rfl, rfl, rfl, rfl⟩ rfl rfl rfl rfl rfl (by kernel_rfl) Try.func3 (by kernel_rfl)
    (of_decide_eq_true (by kernel_rfl)) (by unfold Func.isWrapper; first | (rw [if_pos (by decide +kernel)]; kernel_rfl) | (rw [if_neg (by decide +kernel)]; exact ⟨rfl, rfl⟩))
    (fun os started H enc _ F => by rw [OpenClaim.pre_eq_preRow]; exact lifted os started H enc F)
end Go.Proofs.Ytoopmjhdgkcleaa.scopeTables
