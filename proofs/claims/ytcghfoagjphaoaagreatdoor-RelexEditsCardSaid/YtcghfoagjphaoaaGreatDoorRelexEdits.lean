/-
  RelexEdits: for every text and every edit, the text behind the edit, its tokens and what is kept are the document's, or it is refused, and what was handed back may be written over (the given statement, nothing besides).
-/
import Derived.Test.YtcghfoagjphaoaaGreatDoorVmCD
import Derived.Test.YtcghfoagjphaoaaGreatDoorCards
import Derived.Test.YtcghfoagjphaoaaGreatDoorTie
import Derived.WalkKit
import Derived.ProofKit
import Derived.OpenShut
import Derived.Deep.DeepHandedRow
import Derived.Deep.DeepWitnessRowRef
import Derived.Lib.LaidTab
import Derived.Lay
set_option maxRecDepth 1000000
set_option maxHeartbeats 0
namespace Go.Proofs.YtcghfoagjphaoaaGreatDoor.relexEdits
open Go Go.VM Go.Proofs Go.Proofs.YtcghfoagjphaoaaGreatDoor.Vm
open Go.ChangeShapes Go.WideShapes Go.ChangeAt Go.RowKit
theorem own : ownKnob Tryz.prog.godebug = none := by kernel_rfl
theorem tab0 (w : World) (hl : laidMetH Tryz.prog Rows.relexEditsRow.laid w) : ∀ o v, ((vG.get 0).getD [])[o]? = some v → w.cell? ⟨0, o, none⟩ = some (intV v) := by
  have h : Lib.VarReads Tryz.prog w "unicode/utf8.first" Rows.laid_unicode_utf8_first := reads_of hl (by kernel_rfl) (List.Mem.tail _ (List.Mem.tail _ (List.Mem.tail _ (List.Mem.tail _ (List.Mem.tail _ (List.Mem.tail _ (List.Mem.tail _ (List.Mem.tail _ (List.Mem.head _)))))))))
  have e : (Rows.laid_unicode_utf8_first : DataW Unit) = Lib.tabData .u8 (Go.Pinned.utf8FirstZ.map Int.ofNat) := by kernel_rfl
  rw [e] at h
  exact tab_arr (by kernel_rfl) (by kernel_rfl) Tryz.underlying75 Tryz.underlying5 (by kernel_rfl) (by kernel_rfl) h (by kernel_rfl)
theorem tab1 (w : World) (hl : laidMetH Tryz.prog Rows.relexEditsRow.laid w) : ∀ o v, ((vG.get 1).getD [])[o]? = some v → w.cell? ⟨1, o, none⟩ = some (intV v) := by
  have h : Lib.VarReads Tryz.prog w "unicode/utf8.acceptRanges" Rows.laid_unicode_utf8_acceptRanges := reads_of hl (by kernel_rfl) (List.Mem.tail _ (List.Mem.tail _ (List.Mem.tail _ (List.Mem.head _))))
  have e : (Rows.laid_unicode_utf8_acceptRanges : DataW Unit) = .agg ((([[128, 191], [160, 191], [128, 159], [144, 191], [128, 143]] ++ List.replicate 11 [0, 0] : List (List Int))).map fun zs => .agg (zs.map fun z => .lit (.int .u8 z))) := by kernel_rfl
  rw [e] at h
  exact tab_structs (by kernel_rfl) (by kernel_rfl) Tryz.underlying78 Tryz.underlying77 (fun i f hi => by
    match i, hi with
    | 0, hi => simp at hi; subst hi; exact ⟨Tryz.underlying5, rfl, by kernel_rfl⟩
    | 1, hi => simp at hi; subst hi; exact ⟨Tryz.underlying5, rfl, by kernel_rfl⟩
    | i + 2, hi => simp at hi) (by kernel_rfl) (by kernel_rfl) (by decide) (by decide) h (by kernel_rfl)
theorem tab2 (w : World) (hl : laidMetH Tryz.prog Rows.relexEditsRow.laid w) : ∀ o v, ((vG.get 2).getD [])[o]? = some v → w.cell? ⟨2, o, none⟩ = some (intV v) := by
  have h : Lib.VarReads Tryz.prog w "strings.asciiSpace" Rows.laid_strings_asciiSpace := reads_of hl (by kernel_rfl) (List.Mem.tail _ (List.Mem.tail _ (List.Mem.tail _ (List.Mem.tail _ (List.Mem.tail _ (List.Mem.tail _ (List.Mem.tail _ (List.Mem.head _))))))))
  have e : (Rows.laid_strings_asciiSpace : DataW Unit) = Lib.tabData .u8 ((List.range 256).map fun b => if b == 32 || (9 ≤ b && b ≤ 13) then (1 : Int) else 0) := by kernel_rfl
  rw [e] at h
  exact tab_arr (by kernel_rfl) (by kernel_rfl) Tryz.underlying75 Tryz.underlying5 (by kernel_rfl) (by kernel_rfl) h (by kernel_rfl)
theorem tab5 (w : World) (hl : laidMetH Tryz.prog Rows.relexEditsRow.laid w) : ∃ t y, w.cell? ⟨5, 0, none⟩ = some (.iface t y) := by
  have h : Lib.VarReads Tryz.prog w "strconv.ErrRange" Rows.laid_strconv_ErrRange := reads_of hl (by kernel_rfl) (List.Mem.tail _ (List.Mem.tail _ (List.Mem.tail _ (List.Mem.tail _ (List.Mem.head _)))))
  exact var_iface (by kernel_rfl) (by kernel_rfl) Tryz.underlying67 h
theorem tabs (w : World) (hl : laidMetH Tryz.prog Rows.relexEditsRow.laid w) : TabsAny vE.G w := tabsAny (t := vG) (Tr.every_node (intTab (by kernel_rfl) (tab0 w hl)) (Tr.every_node (intTab (by kernel_rfl) (tab1 w hl)) (Tr.every_node noTabQ (Tr.every_node noTabQ Tr.every_leaf Tr.every_leaf) Tr.every_leaf) (Tr.every_node (ifTab (tab5 w hl)) (Tr.every_node noTabQ Tr.every_leaf Tr.every_leaf) Tr.every_leaf)) (Tr.every_node (intTab (by kernel_rfl) (tab2 w hl)) (Tr.every_node noTabQ (Tr.every_node noTabQ Tr.every_leaf Tr.every_leaf) Tr.every_leaf) (Tr.every_node noTabQ (Tr.every_node noTabQ Tr.every_leaf Tr.every_leaf) Tr.every_leaf)))
theorem contract (H : Type) (enc : TypeId × Value → H) (W : World) (base : Nat) (args : Array Value) (ds gs : List (DataW H)) (before : List MemPlace)
    (hval : ∀ (j : Nat) t v, Tryz.f3.params[j]? = some t → args[j]? = some v → Value.okWide Tryz.prog W .any base t v)
    (hW : DataW.Whole enc Tryz.prog Tryz.f3.params.toList Rows.relexEditsSpec.vars false W args.toList ds gs before) (hL : laidMetH Tryz.prog Rows.relexEditsRow.laid W)
 :
    Calls Tryz.prog 3 args W fun e W' => ∃ v, e = .returned v ∧ Rows.relexEditsSpec.post enc Tryz.prog Tryz.f3 false true false false W args v W' := by
  have hW' := hW
  obtain ⟨p, q, hA0, hV, rfl, hfz, hnd⟩ := hW
  have hA : DataW.TrodAll enc Tryz.prog W 0 (fun _ => true) true Tryz.f3.params.toList args.toList ds p := hA0
  have hps : Tryz.f3.params.toList = [9, 25] := by rw [Tryz.params3]
  rw [hps] at hA
  obtain ⟨x0, vs0, d0, ds0, p0, q0, hv0, hd0, hT0, hR0', hp0⟩ := trodAll_inv hA
  obtain ⟨x1, vs1, d1, ds1, p1, q1, hv1, hd1, hT1, hR1', hp1⟩ := trodAll_inv hR0'
  obtain ⟨hve, hde, hqe⟩ := trodAll_nil hR1'
  subst hqe hp1 hp0
  obtain rfl : args = #[x0, x1] := by
    have : args.toList = [x0, x1] := by rw [hv0, hv1, hve]
    cases args; simp_all
  obtain rfl : ds = [d0, d1] := by rw [hd0, hd1, hde]
  obtain ⟨rfl, rfl⟩ := trodVars_none hV
  clear hA0
  simp only [List.append_nil] at hW'
  obtain ⟨n0, as0, hA0, hR0, hB0, _⟩ := arg_of lawS_ok (show inS lawS 9 = true from rfl) (hval 0 9 x0 (by rw [Tryz.params3]; rfl) rfl) hT0
  have st0 : isSt Tryz.prog 9 = false := by kernel_rfl
  rw [st0] at hR0 hB0
  obtain ⟨s0, rfl, _⟩ := av_str Tryz.underlying9 hA0
  have hB0 : VM.bare (AV.str s0) = true := hB0
  have hR0 : R (oldGh W) (AV.str s0) x0 := hR0
  obtain ⟨n1, as1, hA1, hR1, hB1, _⟩ := arg_of lawS_ok (show inS lawS 25 = true from rfl) (hval 1 25 x1 (by rw [Tryz.params3]; rfl) rfl) hT1
  have st1 : isSt Tryz.prog 25 = true := by kernel_rfl
  rw [st1] at hR1 hB1
  obtain ⟨e1, rfl⟩ := edit_of hA1
  have hB1 : VM.bare (AV.agg [.int .i64 e1.1, .int .i64 e1.2.1, .str e1.2.2]) = true := hB1
  have hR1 : R (oldGh W) (AV.agg [.int .i64 e1.1, .int .i64 e1.2.1, .str e1.2.2]) x1 := hR1
  have hb : bares [AV.str s0, AV.agg [.int .i64 e1.1, .int .i64 e1.2.1, .str e1.2.2]] = true := by simp only [bares_cons, hB0, hB1]; rfl
  have hr : RL (oldGh W) [AV.str s0, AV.agg [.int .i64 e1.1, .int .i64 e1.2.1, .str e1.2.2]] #[x0, x1].toList := RL_cons hR0 (RL_cons hR1 RL_nil)
  have hA2 : DataW.TrodAll enc Tryz.prog W 0 (fun _ => true) true [9, 25] [x0, x1] [d0, d1] (p0 ++ (p1 ++ ([]))) := trodAll_cons_mk hT0 (trodAll_cons_mk hT1 (trodAll_mk0))
  have hx0 : x0 = sV s0 := by simpa only [R] using hR0
  have hx1 : x1 = eV e1.1 e1.2.1 e1.2.2 := by
    have h := hR1
    simp only [R, RL] at h
    obtain ⟨ys, rfl, a, l1, h1, rfl, b, l2, rfl, rfl, c, l3, rfl, rfl, rfl⟩ := h
    cases ys; simp only at h1; subst h1; rfl
  have hruns : Calls Tryz.prog 3 #[x0, x1] W fun e W' => e = .returned (.bool true) ∧ Below W.heap.size W W' := by
    rw [hx0, hx1]; exact law_walk s0 e1.1 e1.2.1 e1.2.2 W (tabs W hL)
  refine hruns.mono fun e W' ⟨he, hg⟩ => ?_
  subst he
  exact ⟨_, rfl, post_of_below (pa := p0 ++ (p1 ++ ([]))) (pv := []) hW' (fun _ _ _ => trodAll_cons_mk (shut_bool Tryz.underlying4 _) trodAll_mk0)
    (fun sp hsp => by
      rw [hps]
      exact trodAll_keep hg lawS_ok (show ([9, 25].all fun t => inS lawS t) = true from rfl) hA2 fun z hz => hsp z (by simpa using hz)) (fun _ _ => rfl) (by simp)
    hg (ok_one (by kernel_rfl) rfl (okWide_bool_mk Tryz.underlying4 _))⟩
noncomputable def laidWorld (os : Os) : World := World.laidAll Tryz.prog os Rows.relexEditsRow.laid
theorem laid_met (os : Os) : laidMet Tryz.prog Rows.relexEditsRow.laid ((laidWorld os).forCall (fun _ _ => 0) ⟨#[], #[.string .empty, .agg #[.int .i64 0, .int .i64 0, .string .empty]], []⟩).memory :=
  laidMet_laidAll #[.string .empty, .agg #[.int .i64 0, .int .i64 0, .string .empty]] (by kernel_rfl) (by kernel_rfl)
theorem reads (os : Os) {H : Type} (enc : TypeId × Value → H) : DataW.whole enc Tryz.prog ((laidWorld os).forCall (fun _ _ => 0) ⟨#[], #[.string .empty, .agg #[.int .i64 0, .int .i64 0, .string .empty]], []⟩).memory Tryz.f3.params.toList Rows.relexEditsSpec.vars false (#[.string .empty, .agg #[.int .i64 0, .int .i64 0, .string .empty]] : Array Value).toList 8 = some ([.lit (.string []), .agg [.agg [.lit (.int .i64 0), .lit (.int .i64 0)], .lit (.string [])]], [], []) := by kernel_rfl
theorem lifted (os : Os) (started : os.Started) (H : Type) (enc : TypeId × Value → H) (F : Stop.Interp) :
    ReturnsInHanded {} Tryz.checked os 3 .any ((OpenSpec.ofChange Rows.relexEditsSpec).preRow enc Tryz.prog Tryz.f3 Rows.relexEditsRow.domain false Rows.relexEditsRow.laid) (((OpenSpec.ofChange Rows.relexEditsSpec).at F).post enc Tryz.prog Tryz.f3 false true false false) := by
  have hx := reads os enc
  refine returnsInHanded_of_row (C := Tryz.checked) (s := OpenSpec.ofChange Rows.relexEditsSpec) own started (by kernel_rfl) Tryz.func3
    (witness_row_atRef (enc := enc) (C := Tryz.checked) false (laidWorld os) #[.string .empty, .agg #[.int .i64 0, .int .i64 0, .string .empty]] (World.laidAll_os _ _ _) (by kernel_rfl) (by kernel_rfl) (by kernel_rfl)
      (OpenSpec.preRow_of_cond 8 hx (by kernel_rfl) (fun k hk => by cases hk) (by kernel_rfl) (laid_met os))) ?_
  intro W base args ds gs before hval hW _ _ _ hL _ _
  exact contract H enc W base args ds gs before hval hW hL
theorem said : Rows.RelexEditsSaid :=
  OpenClaim.holds_of_cond 3 Tryz.f3 rfl rfl rfl rfl rfl rfl rfl ⟨rfl, rfl, rfl, rfl, rfl⟩ rfl rfl rfl rfl rfl (by kernel_rfl) Tryz.func3 (by kernel_rfl)
    (of_decide_eq_true (by kernel_rfl)) (by unfold Func.isWrapper; first | (rw [if_pos (by decide +kernel)]; kernel_rfl) | (rw [if_neg (by decide +kernel)]; exact ⟨rfl, rfl⟩))
    (fun os started H enc _ F => by rw [OpenClaim.pre_eq_preRow]; exact lifted os started H enc F)
theorem plain (f : FuncId) (fn : Func) (hf : Tryz.pinned.checked.prog.funcNamed "rostrum/rostrumlaw10.RelexEdits" = some f) (hfn : Tryz.pinned.checked.prog.funcs[f]? = some fn) :
    true = Tryz.pinned.checked.prog.looks [] ∧ ∀ (j : Nat) t, fn.params[j]? = some t → Tryz.pinned.checked.prog.wantsStandIn t = false := by
  obtain rfl : f = 3 := Option.some.inj ((show Tryz.prog.funcNamed "rostrum/rostrumlaw10.RelexEdits" = some 3 by kernel_rfl).symm.trans hf) |>.symm
  obtain rfl : fn = Tryz.f3 := (Option.some.inj (Tryz.func3.symm.trans hfn)).symm
  refine ⟨by kernel_rfl, fun j t ht => ?_⟩
  rw [Tryz.params3] at ht
  match j, ht with
  | 0, ht =>
    obtain rfl : t = 9 := by simpa using ht.symm
    exact (show Tryz.prog.wantsStandIn 9 = false by kernel_rfl)
  | 1, ht =>
    obtain rfl : t = 25 := by simpa using ht.symm
    exact (show Tryz.prog.wantsStandIn 25 = false by kernel_rfl)
  | j + 2, ht => simp at ht
theorem card : Rows.RelexEditsCardSaid :=
  Claim7.holds_tied_plain_at .later [] _ _ _ _ said (fun _ h => by cases h) (by kernel_rfl) (fun _ h => by cases h) relexEdits_row_tie rfl ⟨rfl, rfl⟩ (by kernel_rfl) rfl plain (by kernel_rfl)
end Go.Proofs.YtcghfoagjphaoaaGreatDoor.relexEdits
