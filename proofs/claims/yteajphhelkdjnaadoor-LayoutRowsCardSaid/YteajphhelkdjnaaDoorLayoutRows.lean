/-
  A Row in a Row, and a Nest of 0, change nothing; what stands behind a Hard at the top is laid out as by itself.
-/
import Derived.Test.YteajphhelkdjnaaDoorVmCB
import Derived.Test.YteajphhelkdjnaaDoorCards
import Derived.Test.YteajphhelkdjnaaDoorTie
import Derived.WalkKit
import Derived.ProofKit
import Derived.OpenShut
import Derived.Deep.DeepHandedRow
import Derived.Deep.DeepWitnessRowRef
import Derived.Lib.LaidTab
import Derived.Lay
set_option maxRecDepth 1000000
set_option maxHeartbeats 0
namespace Go.Proofs.YteajphhelkdjnaaDoor.layoutRows
open Go Go.VM Go.Proofs Go.Proofs.YteajphhelkdjnaaDoor.Vm
open Go.ChangeShapes Go.WideShapes Go.ChangeAt Go.RowKit
theorem own : ownKnob Tryd.prog.godebug = none := by kernel_rfl
theorem tab0 (w : World) (hl : laidMetH Tryd.prog Rows.layoutRowsRow.laid w) : ∀ o v, ((vG.get 0).getD [])[o]? = some v → w.cell? ⟨0, o, none⟩ = some (intV v) := by
  have h : Lib.VarReads Tryd.prog w "unicode/utf8.first" Rows.laid_unicode_utf8_first := reads_of hl (by kernel_rfl) (List.Mem.tail _ (List.Mem.head _))
  have e : (Rows.laid_unicode_utf8_first : DataW Unit) = Lib.tabData .u8 (Go.Pinned.utf8FirstZ.map Int.ofNat) := by kernel_rfl
  rw [e] at h
  exact tab_arr (by kernel_rfl) (by kernel_rfl) Tryd.underlying79 Tryd.underlying5 (by kernel_rfl) (by kernel_rfl) h (by kernel_rfl)
theorem tab1 (w : World) (hl : laidMetH Tryd.prog Rows.layoutRowsRow.laid w) : ∀ o v, ((vG.get 1).getD [])[o]? = some v → w.cell? ⟨1, o, none⟩ = some (intV v) := by
  have h : Lib.VarReads Tryd.prog w "unicode/utf8.acceptRanges" Rows.laid_unicode_utf8_acceptRanges := reads_of hl (by kernel_rfl) (List.Mem.head _)
  have e : (Rows.laid_unicode_utf8_acceptRanges : DataW Unit) = .agg ((([[128, 191], [160, 191], [128, 159], [144, 191], [128, 143]] ++ List.replicate 11 [0, 0] : List (List Int))).map fun zs => .agg (zs.map fun z => .lit (.int .u8 z))) := by kernel_rfl
  rw [e] at h
  exact tab_structs (by kernel_rfl) (by kernel_rfl) Tryd.underlying82 Tryd.underlying81 (fun i f hi => by
    match i, hi with
    | 0, hi => simp at hi; subst hi; exact ⟨Tryd.underlying5, rfl, by kernel_rfl⟩
    | 1, hi => simp at hi; subst hi; exact ⟨Tryd.underlying5, rfl, by kernel_rfl⟩
    | i + 2, hi => simp at hi) (by kernel_rfl) (by kernel_rfl) (by decide) (by decide) h (by kernel_rfl)
theorem tabs (w : World) (hl : laidMetH Tryd.prog Rows.layoutRowsRow.laid w) : TabsAny vE.G w := tabsAny (t := vG) (Tr.every_node (intTab (by kernel_rfl) (tab0 w hl)) (Tr.every_node (intTab (by kernel_rfl) (tab1 w hl)) Tr.every_leaf Tr.every_leaf) (Tr.every_node noTabQ Tr.every_leaf Tr.every_leaf))
theorem contract (H : Type) (enc : TypeId × Value → H) (W : World) (base : Nat) (args : Array Value) (ds gs : List (DataW H)) (before : List MemPlace)
    (hval : ∀ (j : Nat) t v, Tryd.f7.params[j]? = some t → args[j]? = some v → Value.okWide Tryd.prog W .any base t v)
    (hW : DataW.Whole enc Tryd.prog Tryd.f7.params.toList Rows.layoutRowsSpec.vars false W args.toList ds gs before) (hL : laidMetH Tryd.prog Rows.layoutRowsRow.laid W)
 :
    Calls Tryd.prog 7 args W fun e W' => ∃ v, e = .returned v ∧ Rows.layoutRowsSpec.post enc Tryd.prog Tryd.f7 false true false false W args v W' := by
  have hW' := hW
  obtain ⟨p, q, hA0, hV, rfl, hfz, hnd⟩ := hW
  have hA : DataW.TrodAll enc Tryd.prog W 0 (fun _ => true) true Tryd.f7.params.toList args.toList ds p := hA0
  have hps : Tryd.f7.params.toList = [24, 24, 3] := by rw [Tryd.params7]
  rw [hps] at hA
  obtain ⟨x0, vs0, d0, ds0, p0, q0, hv0, hd0, hT0, hR0', hp0⟩ := trodAll_inv hA
  obtain ⟨x1, vs1, d1, ds1, p1, q1, hv1, hd1, hT1, hR1', hp1⟩ := trodAll_inv hR0'
  obtain ⟨x2, vs2, d2, ds2, p2, q2, hv2, hd2, hT2, hR2', hp2⟩ := trodAll_inv hR1'
  obtain ⟨hve, hde, hqe⟩ := trodAll_nil hR2'
  subst hqe hp2 hp1 hp0
  obtain rfl : args = #[x0, x1, x2] := by
    have : args.toList = [x0, x1, x2] := by rw [hv0, hv1, hv2, hve]
    cases args; simp_all
  obtain rfl : ds = [d0, d1, d2] := by rw [hd0, hd1, hd2, hde]
  obtain ⟨rfl, rfl⟩ := trodVars_none hV
  clear hA0
  simp only [List.append_nil] at hW'
  obtain ⟨n0, as0, hA0, hR0, hB0, _⟩ := arg_of lawS_ok (show inS lawS 24 = true from rfl) (hval 0 24 x0 (by rw [Tryd.params7]; rfl) rfl) hT0
  have st0 : isSt Tryd.prog 24 = true := by kernel_rfl
  rw [st0] at hR0 hB0
  obtain ⟨e0, he0⟩ := doc_of n0 as0 hA0
  have hB0 : VM.bare (AV.agg as0) = true := hB0
  have hR0 : R (oldGh W) (AV.agg as0) x0 := hR0
  obtain ⟨n1, as1, hA1, hR1, hB1, _⟩ := arg_of lawS_ok (show inS lawS 24 = true from rfl) (hval 1 24 x1 (by rw [Tryd.params7]; rfl) rfl) hT1
  have st1 : isSt Tryd.prog 24 = true := by kernel_rfl
  rw [st1] at hR1 hB1
  obtain ⟨e1, he1⟩ := doc_of n1 as1 hA1
  have hB1 : VM.bare (AV.agg as1) = true := hB1
  have hR1 : R (oldGh W) (AV.agg as1) x1 := hR1
  obtain ⟨n2, as2, hA2, hR2, hB2, _⟩ := arg_of lawS_ok (show inS lawS 3 = true from rfl) (hval 2 3 x2 (by rw [Tryd.params7]; rfl) rfl) hT2
  have st2 : isSt Tryd.prog 3 = false := by kernel_rfl
  rw [st2] at hR2 hB2
  obtain ⟨m2, rfl, hm2⟩ := av_int Tryd.underlying3 hA2
  have hB2 : VM.bare (AV.int .i64 m2) = true := hB2
  have hR2 : R (oldGh W) (AV.int .i64 m2) x2 := hR2
  have hrun : (orc vE).bare 7 [AV.agg as0, AV.agg as1, AV.int .i64 m2] = some (.bool true) := law_rows he0 he1 m2
  have hb : bares [AV.agg as0, AV.agg as1, AV.int .i64 m2] = true := by simp only [bares_cons, hB0, hB1, hB2]; rfl
  have hr : RL (oldGh W) [AV.agg as0, AV.agg as1, AV.int .i64 m2] #[x0, x1, x2].toList := RL_cons hR0 (RL_cons hR1 (RL_cons hR2 RL_nil))
  have hA2 : DataW.TrodAll enc Tryd.prog W 0 (fun _ => true) true [24, 24, 3] [x0, x1, x2] [d0, d1, d2] (p0 ++ (p1 ++ (p2 ++ ([])))) := trodAll_cons_mk hT0 (trodAll_cons_mk hT1 (trodAll_cons_mk hT2 (trodAll_mk0)))
  refine (law_runs vE_ok hrun Tryd.call7 (tabs W hL) hb hr).mono fun e W' ⟨he, hg⟩ => ?_
  subst he
  exact ⟨_, rfl, post_of_below (pa := p0 ++ (p1 ++ (p2 ++ ([])))) (pv := []) hW' (fun _ _ _ => trodAll_cons_mk (shut_bool Tryd.underlying4 _) trodAll_mk0)
    (fun sp hsp => by
      rw [hps]
      exact trodAll_keep hg lawS_ok (show ([24, 24, 3].all fun t => inS lawS t) = true from rfl) hA2 fun z hz => hsp z (by simpa using hz)) (fun _ _ => rfl) (by simp)
    hg (ok_one (by kernel_rfl) rfl (okWide_bool_mk Tryd.underlying4 _))⟩
noncomputable def laidWorld (os : Os) : World := World.laidAll Tryd.prog os Rows.layoutRowsRow.laid
theorem laid_met (os : Os) : laidMet Tryd.prog Rows.layoutRowsRow.laid ((laidWorld os).forCall (fun _ _ => 0) ⟨#[], #[.agg #[.int .u8 0, .string .empty, .int .i64 0, .slice none 0 0], .agg #[.int .u8 0, .string .empty, .int .i64 0, .slice none 0 0], .int .i64 0], []⟩).memory :=
  laidMet_laidAll #[.agg #[.int .u8 0, .string .empty, .int .i64 0, .slice none 0 0], .agg #[.int .u8 0, .string .empty, .int .i64 0, .slice none 0 0], .int .i64 0] (by kernel_rfl) (by kernel_rfl)
theorem reads (os : Os) {H : Type} (enc : TypeId × Value → H) : DataW.whole enc Tryd.prog ((laidWorld os).forCall (fun _ _ => 0) ⟨#[], #[.agg #[.int .u8 0, .string .empty, .int .i64 0, .slice none 0 0], .agg #[.int .u8 0, .string .empty, .int .i64 0, .slice none 0 0], .int .i64 0], []⟩).memory Tryd.f7.params.toList Rows.layoutRowsSpec.vars false (#[.agg #[.int .u8 0, .string .empty, .int .i64 0, .slice none 0 0], .agg #[.int .u8 0, .string .empty, .int .i64 0, .slice none 0 0], .int .i64 0] : Array Value).toList 8 = some ([.agg [.lit (.int .u8 0), .lit (.string []), .lit (.int .i64 0), .nil], .agg [.lit (.int .u8 0), .lit (.string []), .lit (.int .i64 0), .nil], .lit (.int .i64 0)], [], []) := by kernel_rfl
theorem lifted (os : Os) (started : os.Started) (H : Type) (enc : TypeId × Value → H) (F : Stop.Interp) :
    ReturnsInHanded {} Tryd.checked os 7 .any ((OpenSpec.ofChange Rows.layoutRowsSpec).preRow enc Tryd.prog Tryd.f7 Rows.layoutRowsRow.domain false Rows.layoutRowsRow.laid) (((OpenSpec.ofChange Rows.layoutRowsSpec).at F).post enc Tryd.prog Tryd.f7 false true false false) := by
  have hx := reads os enc
  refine returnsInHanded_of_row (C := Tryd.checked) (s := OpenSpec.ofChange Rows.layoutRowsSpec) own started (by kernel_rfl) Tryd.func7
    (witness_row_atRef (enc := enc) (C := Tryd.checked) false (laidWorld os) #[.agg #[.int .u8 0, .string .empty, .int .i64 0, .slice none 0 0], .agg #[.int .u8 0, .string .empty, .int .i64 0, .slice none 0 0], .int .i64 0] (World.laidAll_os _ _ _) (by kernel_rfl) (by kernel_rfl) (by kernel_rfl)
      (OpenSpec.preRow_of_cond 8 hx (by kernel_rfl) (fun k hk => by cases hk) (by kernel_rfl) (laid_met os))) ?_
  intro W base args ds gs before hval hW _ _ _ hL _ _
  exact contract H enc W base args ds gs before hval hW hL
theorem said : Rows.LayoutRowsSaid :=
  OpenClaim.holds_of_cond 7 Tryd.f7 rfl rfl rfl rfl rfl rfl rfl ⟨rfl, rfl, rfl, rfl, rfl⟩ rfl rfl rfl rfl rfl (by kernel_rfl) Tryd.func7 (by kernel_rfl)
    (of_decide_eq_true (by kernel_rfl)) (by unfold Func.isWrapper; first | (rw [if_pos (by decide +kernel)]; kernel_rfl) | (rw [if_neg (by decide +kernel)]; exact ⟨rfl, rfl⟩))
    (fun os started H enc _ F => by rw [OpenClaim.pre_eq_preRow]; exact lifted os started H enc F)
theorem plain (f : FuncId) (fn : Func) (hf : Tryd.pinned.checked.prog.funcNamed "rostrum/rostrumlaw19.LayoutRows" = some f) (hfn : Tryd.pinned.checked.prog.funcs[f]? = some fn) :
    false = Tryd.pinned.checked.prog.looks [] ∧ ∀ (j : Nat) t, fn.params[j]? = some t → Tryd.pinned.checked.prog.wantsStandIn t = false := by
  obtain rfl : f = 7 := Option.some.inj ((show Tryd.prog.funcNamed "rostrum/rostrumlaw19.LayoutRows" = some 7 by kernel_rfl).symm.trans hf) |>.symm
  obtain rfl : fn = Tryd.f7 := (Option.some.inj (Tryd.func7.symm.trans hfn)).symm
  refine ⟨by kernel_rfl, fun j t ht => ?_⟩
  rw [Tryd.params7] at ht
  match j, ht with
  | 0, ht =>
    obtain rfl : t = 24 := by simpa using ht.symm
    exact (show Tryd.prog.wantsStandIn 24 = false by kernel_rfl)
  | 1, ht =>
    obtain rfl : t = 24 := by simpa using ht.symm
    exact (show Tryd.prog.wantsStandIn 24 = false by kernel_rfl)
  | 2, ht =>
    obtain rfl : t = 3 := by simpa using ht.symm
    exact (show Tryd.prog.wantsStandIn 3 = false by kernel_rfl)
  | j + 3, ht => simp at ht
theorem card : Rows.LayoutRowsCardSaid :=
  Claim7.holds_tied_plain_at .later [] _ _ _ _ said (fun _ h => by cases h) (by kernel_rfl) (fun _ h => by cases h) layoutRows_row_tie rfl ⟨rfl, rfl⟩ (by kernel_rfl) rfl plain (by kernel_rfl)
end Go.Proofs.YteajphhelkdjnaaDoor.layoutRows
