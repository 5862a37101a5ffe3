/-
  The examples, the limits, the errors of parsing again behind an edit are as the document has them (a closed statement).
-/
import Derived.Test.YthapbjoekpbhgaaGreatDoorVmFB
import Derived.Test.YthapbjoekpbhgaaGreatDoorCards
import Derived.Test.YthapbjoekpbhgaaGreatDoorTie
import Derived.WalkKit
import Derived.ProofKit
import Derived.OpenShut
import Derived.Deep.DeepHandedRow
import Derived.Deep.DeepWitnessRowRef
import Derived.Lib.LaidTab
import Derived.Lay
set_option maxRecDepth 1000000
set_option maxHeartbeats 0
namespace Go.Proofs.YthapbjoekpbhgaaGreatDoor.reparseNames
open Go Go.VM Go.Proofs Go.Proofs.YthapbjoekpbhgaaGreatDoor.Vm
open Go.ChangeShapes Go.WideShapes Go.ChangeAt Go.RowKit
theorem own : ownKnob Tryz.prog.godebug = none := by kernel_rfl
theorem tab0 (w : World) (hl : laidMetH Tryz.prog Rows.reparseNamesRow.laid w) : ∀ o v, ((vG.get 0).getD [])[o]? = some v → w.cell? ⟨0, o, none⟩ = some (intV v) := by
  have h : Lib.VarReads Tryz.prog w "unicode/utf8.first" Rows.laid_unicode_utf8_first := reads_of hl (by kernel_rfl) (List.Mem.tail _ (List.Mem.tail _ (List.Mem.tail _ (List.Mem.tail _ (List.Mem.tail _ (List.Mem.tail _ (List.Mem.tail _ (List.Mem.tail _ (List.Mem.head _)))))))))
  have e : (Rows.laid_unicode_utf8_first : DataW Unit) = Lib.tabData .u8 (Go.Pinned.utf8FirstZ.map Int.ofNat) := by kernel_rfl
  rw [e] at h
  exact tab_arr (by kernel_rfl) (by kernel_rfl) Tryz.underlying108 Tryz.underlying5 (by kernel_rfl) (by kernel_rfl) h (by kernel_rfl)
theorem tab1 (w : World) (hl : laidMetH Tryz.prog Rows.reparseNamesRow.laid w) : ∀ o v, ((vG.get 1).getD [])[o]? = some v → w.cell? ⟨1, o, none⟩ = some (intV v) := by
  have h : Lib.VarReads Tryz.prog w "unicode/utf8.acceptRanges" Rows.laid_unicode_utf8_acceptRanges := reads_of hl (by kernel_rfl) (List.Mem.tail _ (List.Mem.tail _ (List.Mem.tail _ (List.Mem.head _))))
  have e : (Rows.laid_unicode_utf8_acceptRanges : DataW Unit) = .agg ((([[128, 191], [160, 191], [128, 159], [144, 191], [128, 143]] ++ List.replicate 11 [0, 0] : List (List Int))).map fun zs => .agg (zs.map fun z => .lit (.int .u8 z))) := by kernel_rfl
  rw [e] at h
  exact tab_structs (by kernel_rfl) (by kernel_rfl) Tryz.underlying111 Tryz.underlying110 (fun i f hi => by
    match i, hi with
    | 0, hi => simp at hi; subst hi; exact ⟨Tryz.underlying5, rfl, by kernel_rfl⟩
    | 1, hi => simp at hi; subst hi; exact ⟨Tryz.underlying5, rfl, by kernel_rfl⟩
    | i + 2, hi => simp at hi) (by kernel_rfl) (by kernel_rfl) (by decide) (by decide) h (by kernel_rfl)
theorem tab2 (w : World) (hl : laidMetH Tryz.prog Rows.reparseNamesRow.laid w) : ∀ o v, ((vG.get 2).getD [])[o]? = some v → w.cell? ⟨2, o, none⟩ = some (intV v) := by
  have h : Lib.VarReads Tryz.prog w "strings.asciiSpace" Rows.laid_strings_asciiSpace := reads_of hl (by kernel_rfl) (List.Mem.tail _ (List.Mem.tail _ (List.Mem.tail _ (List.Mem.tail _ (List.Mem.tail _ (List.Mem.tail _ (List.Mem.tail _ (List.Mem.head _))))))))
  have e : (Rows.laid_strings_asciiSpace : DataW Unit) = Lib.tabData .u8 ((List.range 256).map fun b => if b == 32 || (9 ≤ b && b ≤ 13) then (1 : Int) else 0) := by kernel_rfl
  rw [e] at h
  exact tab_arr (by kernel_rfl) (by kernel_rfl) Tryz.underlying108 Tryz.underlying5 (by kernel_rfl) (by kernel_rfl) h (by kernel_rfl)
theorem tab5 (w : World) (hl : laidMetH Tryz.prog Rows.reparseNamesRow.laid w) : ∃ t y, w.cell? ⟨5, 0, none⟩ = some (.iface t y) := by
  have h : Lib.VarReads Tryz.prog w "strconv.ErrRange" Rows.laid_strconv_ErrRange := reads_of hl (by kernel_rfl) (List.Mem.tail _ (List.Mem.tail _ (List.Mem.tail _ (List.Mem.tail _ (List.Mem.head _)))))
  exact var_iface (by kernel_rfl) (by kernel_rfl) Tryz.underlying86 h
theorem tabs (w : World) (hl : laidMetH Tryz.prog Rows.reparseNamesRow.laid w) : TabsAny vE4.G w := tabsMark (tabsAny (t := vG) (Tr.every_node (intTab (by kernel_rfl) (tab0 w hl)) (Tr.every_node (intTab (by kernel_rfl) (tab1 w hl)) (Tr.every_node noTabQ (Tr.every_node noTabQ Tr.every_leaf Tr.every_leaf) Tr.every_leaf) (Tr.every_node (ifTab (tab5 w hl)) (Tr.every_node noTabQ Tr.every_leaf Tr.every_leaf) Tr.every_leaf)) (Tr.every_node (intTab (by kernel_rfl) (tab2 w hl)) (Tr.every_node noTabQ (Tr.every_node noTabQ Tr.every_leaf Tr.every_leaf) Tr.every_leaf) (Tr.every_node noTabQ (Tr.every_node noTabQ Tr.every_leaf Tr.every_leaf) Tr.every_leaf))))
theorem contract (H : Type) (enc : TypeId × Value → H) (W : World) (base : Nat) (args : Array Value) (ds gs : List (DataW H)) (before : List MemPlace)
    (hval : ∀ (j : Nat) t v, Tryz.f3.params[j]? = some t → args[j]? = some v → Value.okWide Tryz.prog W .any base t v)
    (hW : DataW.Whole enc Tryz.prog Tryz.f3.params.toList Rows.reparseNamesSpec.vars false W args.toList ds gs before) (hL : laidMetH Tryz.prog Rows.reparseNamesRow.laid W)
 :
    Calls Tryz.prog 3 args W fun e W' => ∃ v, e = .returned v ∧ Rows.reparseNamesSpec.post enc Tryz.prog Tryz.f3 false true false false W args v W' := by
  have hW' := hW
  obtain ⟨p, q, hA0, hV, rfl, hfz, hnd⟩ := hW
  have hA : DataW.TrodAll enc Tryz.prog W 0 (fun _ => true) true Tryz.f3.params.toList args.toList ds p := hA0
  have hps : Tryz.f3.params.toList = [] := by rw [Tryz.params3]
  rw [hps] at hA
  obtain ⟨hve, hde, hqe⟩ := trodAll_nil hA
  subst hqe
  obtain rfl : args = #[] := by
    have : args.toList = [] := by rw [hve]
    cases args; simp_all
  obtain rfl : ds = [] := by rw [hde]
  obtain ⟨rfl, rfl⟩ := trodVars_none hV
  clear hA0
  simp only [List.append_nil] at hW'
  have hrun : (orc vE4).bare 3 [] = some (.bool true) := law_run
  have hb : bares [] = true := rfl
  have hr : RL (oldGh W) [] #[].toList := RL_nil
  have hA2 : DataW.TrodAll enc Tryz.prog W 0 (fun _ => true) true [] [] [] ([]) := trodAll_mk0
  have hruns := law_runs vE4_ok hrun Tryz.call3 (tabs W hL) hb hr
  refine hruns.mono fun e W' ⟨he, hg⟩ => ?_
  subst he
  exact ⟨_, rfl, post_of_below (pa := []) (pv := []) hW' (fun _ _ _ => trodAll_cons_mk (shut_bool Tryz.underlying4 _) trodAll_mk0)
    (fun sp hsp => by
      rw [hps]
      exact trodAll_keep hg lawS_ok (show ([].all fun t => inS lawS t) = true from rfl) hA2 fun z hz => hsp z (by simp at hz)) (fun _ _ => rfl) (by simp)
    hg (ok_one (by kernel_rfl) rfl (okWide_bool_mk Tryz.underlying4 _))⟩
noncomputable def laidWorld (os : Os) : World := World.laidAll Tryz.prog os Rows.reparseNamesRow.laid
theorem laid_met (os : Os) : laidMet Tryz.prog Rows.reparseNamesRow.laid ((laidWorld os).forCall (fun _ _ => 0) ⟨#[], #[], []⟩).memory :=
  laidMet_laidAll #[] (by kernel_rfl) (by kernel_rfl)
theorem reads (os : Os) {H : Type} (enc : TypeId × Value → H) : DataW.whole enc Tryz.prog ((laidWorld os).forCall (fun _ _ => 0) ⟨#[], #[], []⟩).memory Tryz.f3.params.toList Rows.reparseNamesSpec.vars false (#[] : Array Value).toList 8 = some ([], [], []) := by kernel_rfl
theorem lifted (os : Os) (started : os.Started) (H : Type) (enc : TypeId × Value → H) (F : Stop.Interp) :
    ReturnsInHanded {} Tryz.checked os 3 .any ((OpenSpec.ofChange Rows.reparseNamesSpec).preRow enc Tryz.prog Tryz.f3 Rows.reparseNamesRow.domain false Rows.reparseNamesRow.laid) (((OpenSpec.ofChange Rows.reparseNamesSpec).at F).post enc Tryz.prog Tryz.f3 false true false false) := by
  have hx := reads os enc
  refine returnsInHanded_of_row (C := Tryz.checked) (s := OpenSpec.ofChange Rows.reparseNamesSpec) own started (by kernel_rfl) Tryz.func3
    (witness_row_atRef (enc := enc) (C := Tryz.checked) false (laidWorld os) #[] (World.laidAll_os _ _ _) (by kernel_rfl) (by kernel_rfl) (by kernel_rfl)
      (OpenSpec.preRow_of_cond 8 hx (by kernel_rfl) (fun k hk => by cases hk) (by kernel_rfl) (laid_met os))) ?_
  intro W base args ds gs before hval hW _ _ _ hL _ _
  exact contract H enc W base args ds gs before hval hW hL
theorem said : Rows.ReparseNamesSaid :=
  OpenClaim.holds_of_cond 3 Tryz.f3 rfl rfl rfl rfl rfl rfl rfl ⟨rfl, rfl, rfl, rfl, rfl⟩ rfl rfl rfl rfl rfl (by kernel_rfl) Tryz.func3 (by kernel_rfl)
    (of_decide_eq_true (by kernel_rfl)) (by unfold Func.isWrapper; first | (rw [if_pos (by decide +kernel)]; kernel_rfl) | (rw [if_neg (by decide +kernel)]; exact ⟨rfl, rfl⟩))
    (fun os started H enc _ F => by rw [OpenClaim.pre_eq_preRow]; exact lifted os started H enc F)
theorem plain (f : FuncId) (fn : Func) (hf : Tryz.pinned.checked.prog.funcNamed "rostrum/rostrumlaw13.ReparseNames" = some f) (hfn : Tryz.pinned.checked.prog.funcs[f]? = some fn) :
    true = Tryz.pinned.checked.prog.looks [] ∧ ∀ (j : Nat) t, fn.params[j]? = some t → Tryz.pinned.checked.prog.wantsStandIn t = false := by
  obtain rfl : f = 3 := Option.some.inj ((show Tryz.prog.funcNamed "rostrum/rostrumlaw13.ReparseNames" = some 3 by kernel_rfl).symm.trans hf) |>.symm
  obtain rfl : fn = Tryz.f3 := (Option.some.inj (Tryz.func3.symm.trans hfn)).symm
  refine ⟨by kernel_rfl, fun j t ht => ?_⟩
  rw [Tryz.params3] at ht
  match j, ht with
  | j + 0, ht => simp at ht
theorem card : Rows.ReparseNamesCardSaid :=
  Claim7.holds_tied_plain_at .later [] _ _ _ _ said (fun _ h => by cases h) (by kernel_rfl) (fun _ h => by cases h) reparseNames_row_tie rfl ⟨rfl, rfl⟩ (by kernel_rfl) rfl plain (by kernel_rfl)
end Go.Proofs.YthapbjoekpbhgaaGreatDoor.reparseNames
