/-
  Whatever steps are done to the program's store (documents opened, changed, closed, asked for, and the store copied and then changed apart), each answer, and what the store tells behind each step, are those of the document's store.
-/
import Derived.Test.YtkknkhniadiapaaDoorVmCF
import Derived.Test.YtkknkhniadiapaaDoorVmCG
import Derived.Test.YtkknkhniadiapaaDoorCards
import Derived.Test.YtkknkhniadiapaaDoorTie
import Derived.WalkKit
import Derived.ProofKit
import Derived.OpenShut
import Derived.Deep.DeepHandedRow
import Derived.Deep.DeepWitnessRowRef
import Derived.Lib.LaidTab
import Derived.Lay
set_option maxRecDepth 1000000
set_option maxHeartbeats 0
namespace Go.Proofs.YtkknkhniadiapaaDoor.storePlays
open Go Go.VM Go.Proofs Go.Proofs.YtkknkhniadiapaaDoor.Vm
open Go.ChangeShapes Go.WideShapes Go.ChangeAt Go.RowKit
theorem own : ownKnob Tryd.prog.godebug = none := by kernel_rfl
theorem tab0 (w : World) (hl : laidMetH Tryd.prog Rows.storePlaysRow.laid w) : ∀ o v, ((vG.get 0).getD [])[o]? = some v → w.cell? ⟨0, o, none⟩ = some (intV v) := by
  have h : Lib.VarReads Tryd.prog w "unicode/utf8.first" Rows.laid_unicode_utf8_first := reads_of hl (by kernel_rfl) (List.Mem.tail _ (List.Mem.head _))
  have e : (Rows.laid_unicode_utf8_first : DataW Unit) = Lib.tabData .u8 (Go.Pinned.utf8FirstZ.map Int.ofNat) := by kernel_rfl
  rw [e] at h
  exact tab_arr (by kernel_rfl) (by kernel_rfl) Tryd.underlying112 Tryd.underlying5 (by kernel_rfl) (by kernel_rfl) h (by kernel_rfl)
theorem tab1 (w : World) (hl : laidMetH Tryd.prog Rows.storePlaysRow.laid w) : ∀ o v, ((vG.get 1).getD [])[o]? = some v → w.cell? ⟨1, o, none⟩ = some (intV v) := by
  have h : Lib.VarReads Tryd.prog w "unicode/utf8.acceptRanges" Rows.laid_unicode_utf8_acceptRanges := reads_of hl (by kernel_rfl) (List.Mem.head _)
  have e : (Rows.laid_unicode_utf8_acceptRanges : DataW Unit) = .agg ((([[128, 191], [160, 191], [128, 159], [144, 191], [128, 143]] ++ List.replicate 11 [0, 0] : List (List Int))).map fun zs => .agg (zs.map fun z => .lit (.int .u8 z))) := by kernel_rfl
  rw [e] at h
  exact tab_structs (by kernel_rfl) (by kernel_rfl) Tryd.underlying115 Tryd.underlying114 (fun i f hi => by
    match i, hi with
    | 0, hi => simp at hi; subst hi; exact ⟨Tryd.underlying5, rfl, by kernel_rfl⟩
    | 1, hi => simp at hi; subst hi; exact ⟨Tryd.underlying5, rfl, by kernel_rfl⟩
    | i + 2, hi => simp at hi) (by kernel_rfl) (by kernel_rfl) (by decide) (by decide) h (by kernel_rfl)
theorem tabs (w : World) (hl : laidMetH Tryd.prog Rows.storePlaysRow.laid w) : TabsAny vE.G w := tabsMark (tabsAny (t := vG) (Tr.every_node (intTab (by kernel_rfl) (tab0 w hl)) (Tr.every_node (intTab (by kernel_rfl) (tab1 w hl)) Tr.every_leaf Tr.every_leaf) (Tr.every_node noTabQ Tr.every_leaf Tr.every_leaf)))
theorem contract (H : Type) (enc : TypeId × Value → H) (W : World) (base : Nat) (args : Array Value) (ds gs : List (DataW H)) (before : List MemPlace)
    (hval : ∀ (j : Nat) t v, Tryd.f3.params[j]? = some t → args[j]? = some v → Value.okWide Tryd.prog W .any base t v)
    (hW : DataW.Whole enc Tryd.prog Tryd.f3.params.toList Rows.storePlaysSpec.vars false W args.toList ds gs before) (hL : laidMetH Tryd.prog Rows.storePlaysRow.laid W)
 :
    Calls Tryd.prog 3 args W fun e W' => ∃ v, e = .returned v ∧ Rows.storePlaysSpec.post enc Tryd.prog Tryd.f3 false true false false W args v W' := by
  have hW' := hW
  obtain ⟨p, q, hA0, hV, rfl, hfz, hnd⟩ := hW
  have hA : DataW.TrodAll enc Tryd.prog W 0 (fun _ => true) true Tryd.f3.params.toList args.toList ds p := hA0
  have hps : Tryd.f3.params.toList = [22] := by rw [Tryd.params3]
  rw [hps] at hA
  obtain ⟨x0, vs0, d0, ds0, p0, q0, hv0, hd0, hT0, hR0', hp0⟩ := trodAll_inv hA
  obtain ⟨hve, hde, hqe⟩ := trodAll_nil hR0'
  subst hqe hp0
  obtain rfl : args = #[x0] := by
    have : args.toList = [x0] := by rw [hv0, hve]
    cases args; simp_all
  obtain rfl : ds = [d0] := by rw [hd0, hde]
  obtain ⟨rfl, rfl⟩ := trodVars_none hV
  clear hA0
  simp only [List.append_nil] at hW'
  obtain ⟨n0, as0, hA0, hR0, hB0, _⟩ := arg_of lawS_ok (show inS lawS 22 = true from rfl) (hval 0 22 x0 (by rw [Tryd.params3]; rfl) rfl) hT0
  have st0 : isSt Tryd.prog 22 = false := by kernel_rfl
  rw [st0] at hR0 hB0
  obtain ⟨z0, es0, cs0, rfl, hx0, hs0, hk0⟩ := stepsl_of hA0
  have hB0 : VM.bare (z0) = true := hB0
  have hR0 : R (oldGh W) (z0) x0 := hR0
  have hrun : (orc vE).bare 3 [z0] = some (.bool true) := law_plays hx0 hs0
  have hb : bares [z0] = true := by simp only [bares_cons, hB0]; rfl
  have hr : RL (oldGh W) [z0] #[x0].toList := RL_cons hR0 RL_nil
  have hA2 : DataW.TrodAll enc Tryd.prog W 0 (fun _ => true) true [22] [x0] [d0] (p0 ++ ([])) := trodAll_cons_mk hT0 (trodAll_mk0)
  have hruns := law_runs vE_ok hrun Tryd.call3 (tabs W hL) hb hr
  refine hruns.mono fun e W' ⟨he, hg⟩ => ?_
  subst he
  exact ⟨_, rfl, post_of_below (pa := p0 ++ ([])) (pv := []) hW' (fun _ _ _ => trodAll_cons_mk (shut_bool Tryd.underlying4 _) trodAll_mk0)
    (fun sp hsp => by
      rw [hps]
      exact trodAll_keep hg lawS_ok (show ([22].all fun t => inS lawS t) = true from rfl) hA2 fun z hz => hsp z (by simpa using hz)) (fun _ _ => rfl) (by simp)
    hg (ok_one (by kernel_rfl) rfl (okWide_bool_mk Tryd.underlying4 _))⟩
noncomputable def laidWorld (os : Os) : World := World.laidAll Tryd.prog os Rows.storePlaysRow.laid
theorem laid_met (os : Os) : laidMet Tryd.prog Rows.storePlaysRow.laid ((laidWorld os).forCall (fun _ _ => 0) ⟨#[], #[.slice none 0 0], []⟩).memory :=
  laidMet_laidAll #[.slice none 0 0] (by kernel_rfl) (by kernel_rfl)
theorem reads (os : Os) {H : Type} (enc : TypeId × Value → H) : DataW.whole enc Tryd.prog ((laidWorld os).forCall (fun _ _ => 0) ⟨#[], #[.slice none 0 0], []⟩).memory Tryd.f3.params.toList Rows.storePlaysSpec.vars false (#[.slice none 0 0] : Array Value).toList 8 = some ([.nil], [], []) := by kernel_rfl
theorem lifted (os : Os) (started : os.Started) (H : Type) (enc : TypeId × Value → H) (F : Stop.Interp) :
    ReturnsInHanded {} Tryd.checked os 3 .any ((OpenSpec.ofChange Rows.storePlaysSpec).preRow enc Tryd.prog Tryd.f3 Rows.storePlaysRow.domain false Rows.storePlaysRow.laid) (((OpenSpec.ofChange Rows.storePlaysSpec).at F).post enc Tryd.prog Tryd.f3 false true false false) := by
  have hx := reads os enc
  refine returnsInHanded_of_row (C := Tryd.checked) (s := OpenSpec.ofChange Rows.storePlaysSpec) own started (by kernel_rfl) Tryd.func3
    (witness_row_atRef (enc := enc) (C := Tryd.checked) false (laidWorld os) #[.slice none 0 0] (World.laidAll_os _ _ _) (by kernel_rfl) (by kernel_rfl) (by kernel_rfl)
      (OpenSpec.preRow_of_cond 8 hx (by kernel_rfl) (fun k hk => by cases hk) (by kernel_rfl) (laid_met os))) ?_
  intro W base args ds gs before hval hW _ _ _ hL _ _
  exact contract H enc W base args ds gs before hval hW hL
theorem said : Rows.StorePlaysSaid :=
  OpenClaim.holds_of_cond 3 Tryd.f3 rfl rfl rfl rfl rfl rfl rfl ⟨rfl, rfl, rfl, rfl, rfl⟩ rfl rfl rfl rfl rfl (by kernel_rfl) Tryd.func3 (by kernel_rfl)
    (of_decide_eq_true (by kernel_rfl)) (by unfold Func.isWrapper; first | (rw [if_pos (by decide +kernel)]; kernel_rfl) | (rw [if_neg (by decide +kernel)]; exact ⟨rfl, rfl⟩))
    (fun os started H enc _ F => by rw [OpenClaim.pre_eq_preRow]; exact lifted os started H enc F)
theorem plain (f : FuncId) (fn : Func) (hf : Tryd.pinned.checked.prog.funcNamed "rostrum/rostrumlaw25.StorePlays" = some f) (hfn : Tryd.pinned.checked.prog.funcs[f]? = some fn) :
    false = Tryd.pinned.checked.prog.looks [] ∧ ∀ (j : Nat) t, fn.params[j]? = some t → Tryd.pinned.checked.prog.wantsStandIn t = false := by
  obtain rfl : f = 3 := Option.some.inj ((show Tryd.prog.funcNamed "rostrum/rostrumlaw25.StorePlays" = some 3 by kernel_rfl).symm.trans hf) |>.symm
  obtain rfl : fn = Tryd.f3 := (Option.some.inj (Tryd.func3.symm.trans hfn)).symm
  refine ⟨by kernel_rfl, fun j t ht => ?_⟩
  rw [Tryd.params3] at ht
  match j, ht with
  | 0, ht =>
    obtain rfl : t = 22 := by simpa using ht.symm
    exact (show Tryd.prog.wantsStandIn 22 = false by kernel_rfl)
  | j + 1, ht => simp at ht
theorem card : Rows.StorePlaysCardSaid :=
  Claim7.holds_tied_plain_at .later [] _ _ _ _ said (fun _ h => by cases h) (by kernel_rfl) (fun _ h => by cases h) storePlays_row_tie rfl ⟨rfl, rfl⟩ (by kernel_rfl) rfl plain (by kernel_rfl)
end Go.Proofs.YtkknkhniadiapaaDoor.storePlays
