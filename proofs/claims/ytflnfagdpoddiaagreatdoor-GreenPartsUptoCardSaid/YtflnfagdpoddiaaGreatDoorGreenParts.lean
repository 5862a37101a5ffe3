/-
  GreenParts, in its second form: of a tree that may be, a node's text stands in its full span, the Kids' full spans lie side by side in it, a leaf's ahead of its token, and the own span lies within; for arguments of bulk at most 1048576.
-/
import Derived.Test.YtflnfagdpoddiaaGreatDoorVmCD
import Derived.Test.YtflnfagdpoddiaaGreatDoorCards
import Derived.Test.YtflnfagdpoddiaaGreatDoorTie
import Derived.WalkKit
import Derived.ProofKit
import Derived.OpenShut
import Derived.Deep.DeepHandedRow
import Derived.Deep.DeepWitnessRowRef
import Derived.Lib.LaidTab
import Derived.Lay
import Derived.SizedLaws
set_option maxRecDepth 1000000
set_option maxHeartbeats 0
namespace Go.Proofs.YtflnfagdpoddiaaGreatDoor.greenParts
open Go Go.VM Go.Proofs Go.Proofs.YtflnfagdpoddiaaGreatDoor.Vm
open Go.ChangeShapes Go.WideShapes Go.ChangeAt Go.RowKit
theorem own : ownKnob Tryz.prog.godebug = none := by kernel_rfl
theorem tab0 (w : World) (hl : laidMetH Tryz.prog Rows.greenPartsUptoRow.laid w) : ∀ o v, ((vG.get 0).getD [])[o]? = some v → w.cell? ⟨0, o, none⟩ = some (intV v) := by
  have h : Lib.VarReads Tryz.prog w "unicode/utf8.first" Rows.laid_unicode_utf8_first := reads_of hl (by kernel_rfl) (List.Mem.tail _ (List.Mem.tail _ (List.Mem.tail _ (List.Mem.tail _ (List.Mem.tail _ (List.Mem.tail _ (List.Mem.tail _ (List.Mem.tail _ (List.Mem.head _)))))))))
  have e : (Rows.laid_unicode_utf8_first : DataW Unit) = Lib.tabData .u8 (Go.Pinned.utf8FirstZ.map Int.ofNat) := by kernel_rfl
  rw [e] at h
  exact tab_arr (by kernel_rfl) (by kernel_rfl) Tryz.underlying111 Tryz.underlying5 (by kernel_rfl) (by kernel_rfl) h (by kernel_rfl)
theorem tab1 (w : World) (hl : laidMetH Tryz.prog Rows.greenPartsUptoRow.laid w) : ∀ o v, ((vG.get 1).getD [])[o]? = some v → w.cell? ⟨1, o, none⟩ = some (intV v) := by
  have h : Lib.VarReads Tryz.prog w "unicode/utf8.acceptRanges" Rows.laid_unicode_utf8_acceptRanges := reads_of hl (by kernel_rfl) (List.Mem.tail _ (List.Mem.tail _ (List.Mem.tail _ (List.Mem.head _))))
  have e : (Rows.laid_unicode_utf8_acceptRanges : DataW Unit) = .agg ((([[128, 191], [160, 191], [128, 159], [144, 191], [128, 143]] ++ List.replicate 11 [0, 0] : List (List Int))).map fun zs => .agg (zs.map fun z => .lit (.int .u8 z))) := by kernel_rfl
  rw [e] at h
  exact tab_structs (by kernel_rfl) (by kernel_rfl) Tryz.underlying114 Tryz.underlying113 (fun i f hi => by
    match i, hi with
    | 0, hi => simp at hi; subst hi; exact ⟨Tryz.underlying5, rfl, by kernel_rfl⟩
    | 1, hi => simp at hi; subst hi; exact ⟨Tryz.underlying5, rfl, by kernel_rfl⟩
    | i + 2, hi => simp at hi) (by kernel_rfl) (by kernel_rfl) (by decide) (by decide) h (by kernel_rfl)
theorem tab2 (w : World) (hl : laidMetH Tryz.prog Rows.greenPartsUptoRow.laid w) : ∀ o v, ((vG.get 2).getD [])[o]? = some v → w.cell? ⟨2, o, none⟩ = some (intV v) := by
  have h : Lib.VarReads Tryz.prog w "strings.asciiSpace" Rows.laid_strings_asciiSpace := reads_of hl (by kernel_rfl) (List.Mem.tail _ (List.Mem.tail _ (List.Mem.tail _ (List.Mem.tail _ (List.Mem.tail _ (List.Mem.tail _ (List.Mem.tail _ (List.Mem.head _))))))))
  have e : (Rows.laid_strings_asciiSpace : DataW Unit) = Lib.tabData .u8 ((List.range 256).map fun b => if b == 32 || (9 ≤ b && b ≤ 13) then (1 : Int) else 0) := by kernel_rfl
  rw [e] at h
  exact tab_arr (by kernel_rfl) (by kernel_rfl) Tryz.underlying111 Tryz.underlying5 (by kernel_rfl) (by kernel_rfl) h (by kernel_rfl)
theorem tab5 (w : World) (hl : laidMetH Tryz.prog Rows.greenPartsUptoRow.laid w) : ∃ t y, w.cell? ⟨5, 0, none⟩ = some (.iface t y) := by
  have h : Lib.VarReads Tryz.prog w "strconv.ErrRange" Rows.laid_strconv_ErrRange := reads_of hl (by kernel_rfl) (List.Mem.tail _ (List.Mem.tail _ (List.Mem.tail _ (List.Mem.tail _ (List.Mem.head _)))))
  exact var_iface (by kernel_rfl) (by kernel_rfl) Tryz.underlying76 h
theorem tabs (w : World) (hl : laidMetH Tryz.prog Rows.greenPartsUptoRow.laid w) : TabsAny vE.G w := tabsAny (t := vG) (Tr.every_node (intTab (by kernel_rfl) (tab0 w hl)) (Tr.every_node (intTab (by kernel_rfl) (tab1 w hl)) (Tr.every_node noTabQ (Tr.every_node noTabQ Tr.every_leaf Tr.every_leaf) Tr.every_leaf) (Tr.every_node (ifTab (tab5 w hl)) (Tr.every_node noTabQ Tr.every_leaf Tr.every_leaf) Tr.every_leaf)) (Tr.every_node (intTab (by kernel_rfl) (tab2 w hl)) (Tr.every_node noTabQ (Tr.every_node noTabQ Tr.every_leaf Tr.every_leaf) Tr.every_leaf) (Tr.every_node noTabQ (Tr.every_node noTabQ Tr.every_leaf Tr.every_leaf) Tr.every_leaf)))
theorem bulk_one {H : Type} (d : DataW H) : 1 ≤ Rows.uptoBulk d := by
  cases d with
  | lit l => cases l <;> simp [Rows.uptoBulk]
  | nil => simp [Rows.uptoBulk]
  | ptr d => simp [Rows.uptoBulk]
  | slice elems spare => simp [Rows.uptoBulk]
  | agg parts => simp [Rows.uptoBulk]
  | iface t d => simp [Rows.uptoBulk]
  | map entries => simp [Rows.uptoBulk]
  | held h => simp [Rows.uptoBulk]
theorem bulk_all {H : Type} : ∀ (l : List (DataW H)), Rows.uptoBulkAll l = (l.map Rows.uptoBulk).sum
  | [] => rfl
  | d :: l => by simp only [Rows.uptoBulkAll, List.map_cons, List.sum_cons, bulk_all l]
theorem bulk_ok {H : Type} : Bulk (H := H) Rows.uptoBulk where
  one := bulk_one
  str s := by simp only [Rows.uptoBulk]; exact Nat.le_refl _
  slice es sp := by simp only [Rows.uptoBulk, bulk_all]; omega
  agg ps := by simp only [Rows.uptoBulk, bulk_all]; omega
theorem contract (H : Type) (enc : TypeId × Value → H) (W : World) (base : Nat) (args : Array Value) (ds gs : List (DataW H)) (before : List MemPlace)
    (hval : ∀ (j : Nat) t v, Tryz.f4.params[j]? = some t → args[j]? = some v → Value.okWide Tryz.prog W .any base t v)
    (hW : DataW.Whole enc Tryz.prog Tryz.f4.params.toList Rows.greenPartsSpec.vars false W args.toList ds gs before) (hL : laidMetH Tryz.prog Rows.greenPartsUptoRow.laid W) (hc : Rows.uptoBulkAll (ds ++ gs) ≤ 1048576)
 :
    Calls Tryz.prog 4 args W fun e W' => ∃ v, e = .returned v ∧ Rows.greenPartsSpec.post enc Tryz.prog Tryz.f4 false true false false W args v W' := by
  have hW' := hW
  obtain ⟨p, q, hA0, hV, rfl, hfz, hnd⟩ := hW
  have hA : DataW.TrodAll enc Tryz.prog W 0 (fun _ => true) true Tryz.f4.params.toList args.toList ds p := hA0
  have hps : Tryz.f4.params.toList = [26, 36] := by rw [Tryz.params4]
  rw [hps] at hA
  obtain ⟨x0, vs0, d0, ds0, p0, q0, hv0, hd0, hT0, hR0', hp0⟩ := trodAll_inv hA
  obtain ⟨x1, vs1, d1, ds1, p1, q1, hv1, hd1, hT1, hR1', hp1⟩ := trodAll_inv hR0'
  obtain ⟨hve, hde, hqe⟩ := trodAll_nil hR1'
  subst hqe hp1 hp0
  obtain rfl : args = #[x0, x1] := by
    have : args.toList = [x0, x1] := by rw [hv0, hv1, hve]
    cases args; simp_all
  obtain rfl : ds = [d0, d1] := by rw [hd0, hd1, hde]
  obtain ⟨rfl, rfl⟩ := trodVars_none hV
  clear hA0
  simp only [List.append_nil] at hW'
  obtain ⟨n0, as0, hA0, hR0, hB0, _, hV0⟩ := arg_up bulk_ok lawS_ok (show inS lawS 26 = true from rfl) (hval 0 26 x0 (by rw [Tryz.params4]; rfl) rfl) hT0
  have hU0 : bulkAs as0 ≤ 1048576 := by
    simp only [List.append_nil, bulk_all, List.map_cons, List.map_nil, List.sum_cons, List.sum_nil] at hc
    omega
  have st0 : isSt Tryz.prog 26 = true := by kernel_rfl
  rw [st0] at hR0 hB0
  obtain ⟨t0, hN0, hC0⟩ := node_of _ hA0
  have hB0 : VM.bare (AV.agg as0) = true := hB0
  have hR0 : R (oldGh W) (AV.agg as0) x0 := hR0
  obtain ⟨n1, as1, hA1, hR1, hB1, _, hV1⟩ := arg_up bulk_ok lawS_ok (show inS lawS 36 = true from rfl) (hval 1 36 x1 (by rw [Tryz.params4]; rfl) rfl) hT1
  have hU1 : bulkAs as1 ≤ 1048576 := by
    simp only [List.append_nil, bulk_all, List.map_cons, List.map_nil, List.sum_cons, List.sum_nil] at hc
    omega
  have st1 : isSt Tryz.prog 36 = false := by kernel_rfl
  rw [st1] at hR1 hB1
  obtain ⟨xx1, pp1, rfl, hx1, hp1⟩ := path_of hA1
  have hB1 : VM.bare (xx1) = true := hB1
  have hR1 : R (oldGh W) (xx1) x1 := hR1
  have hrun : (orc vE).bare 4 [AV.agg as0, xx1] = some (.bool true) := law_parts (by omega) hN0 hx1
  have hb : bares [AV.agg as0, xx1] = true := by simp only [bares_cons, hB0, hB1]; rfl
  have hr : RL (oldGh W) [AV.agg as0, xx1] #[x0, x1].toList := RL_cons hR0 (RL_cons hR1 RL_nil)
  have hA2 : DataW.TrodAll enc Tryz.prog W 0 (fun _ => true) true [26, 36] [x0, x1] [d0, d1] (p0 ++ (p1 ++ ([]))) := trodAll_cons_mk hT0 (trodAll_cons_mk hT1 (trodAll_mk0))
  refine (law_runs vE_ok hrun Tryz.call4 (tabs W hL) hb hr).mono fun e W' ⟨he, hg⟩ => ?_
  subst he
  exact ⟨_, rfl, post_of_below (pa := p0 ++ (p1 ++ ([]))) (pv := []) hW' (fun _ _ _ => trodAll_cons_mk (shut_bool Tryz.underlying4 _) trodAll_mk0)
    (fun sp hsp => by
      rw [hps]
      exact trodAll_keep hg lawS_ok (show ([26, 36].all fun t => inS lawS t) = true from rfl) hA2 fun z hz => hsp z (by simpa using hz)) (fun _ _ => rfl) (by simp)
    hg (ok_one (by kernel_rfl) rfl (okWide_bool_mk Tryz.underlying4 _))⟩
noncomputable def laidWorld (os : Os) : World := World.laidAll Tryz.prog os Rows.greenPartsUptoRow.laid
theorem laid_met (os : Os) : laidMet Tryz.prog Rows.greenPartsUptoRow.laid ((laidWorld os).forCall (fun _ _ => 0) ⟨#[], #[.agg #[.int .u8 0, .int .u8 0, .string .empty, .slice none 0 0], .slice none 0 0], []⟩).memory :=
  laidMet_laidAll #[.agg #[.int .u8 0, .int .u8 0, .string .empty, .slice none 0 0], .slice none 0 0] (by kernel_rfl) (by kernel_rfl)
theorem reads (os : Os) {H : Type} (enc : TypeId × Value → H) : DataW.whole enc Tryz.prog ((laidWorld os).forCall (fun _ _ => 0) ⟨#[], #[.agg #[.int .u8 0, .int .u8 0, .string .empty, .slice none 0 0], .slice none 0 0], []⟩).memory Tryz.f4.params.toList Rows.greenPartsSpec.vars false (#[.agg #[.int .u8 0, .int .u8 0, .string .empty, .slice none 0 0], .slice none 0 0] : Array Value).toList 8 = some ([.agg [.lit (.int .u8 0), .agg [.lit (.int .u8 0), .lit (.string [])], .nil], .nil], [], []) := by kernel_rfl
theorem lifted (os : Os) (started : os.Started) (H : Type) (enc : TypeId × Value → H) (F : Stop.Interp) :
    ReturnsInHanded {} Tryz.checked os 4 .any ((Rows.OpenSpec.upto Rows.greenPartsSpec).preRow enc Tryz.prog Tryz.f4 Rows.greenPartsUptoRow.domain false Rows.greenPartsUptoRow.laid) (((Rows.OpenSpec.upto Rows.greenPartsSpec).at F).post enc Tryz.prog Tryz.f4 false true false false) := by
  have hx := reads os enc
  refine returnsInHanded_of_row (C := Tryz.checked) (s := Rows.OpenSpec.upto Rows.greenPartsSpec) own started (by kernel_rfl) Tryz.func4
    (witness_row_atRef (enc := enc) (C := Tryz.checked) false (laidWorld os) #[.agg #[.int .u8 0, .int .u8 0, .string .empty, .slice none 0 0], .slice none 0 0] (World.laidAll_os _ _ _) (by kernel_rfl) (by kernel_rfl) (by kernel_rfl)
      (OpenSpec.preRow_of_cond 8 hx (by kernel_rfl) (fun k hk => by cases hk; kernel_rfl) (by kernel_rfl) (laid_met os))) ?_
  intro W base args ds gs before hval hW _ hc _ hL _ _
  exact contract H enc W base args ds gs before hval hW hL (of_decide_eq_true (hc _ rfl))
theorem said : Rows.GreenPartsUptoSaid :=
  OpenClaim.holds_of_cond 4 Tryz.f4 rfl rfl rfl rfl rfl rfl rfl ⟨rfl, rfl, rfl, rfl, rfl⟩ rfl rfl rfl rfl rfl (by kernel_rfl) Tryz.func4 (by kernel_rfl)
    (of_decide_eq_true (by kernel_rfl)) (by unfold Func.isWrapper; first | (rw [if_pos (by decide +kernel)]; kernel_rfl) | (rw [if_neg (by decide +kernel)]; exact ⟨rfl, rfl⟩))
    (fun os started H enc _ F => by rw [OpenClaim.pre_eq_preRow]; exact lifted os started H enc F)
theorem plain (f : FuncId) (fn : Func) (hf : Tryz.pinned.checked.prog.funcNamed "rostrum/rostrumlaw11.GreenParts" = some f) (hfn : Tryz.pinned.checked.prog.funcs[f]? = some fn) :
    true = Tryz.pinned.checked.prog.looks [] ∧ ∀ (j : Nat) t, fn.params[j]? = some t → Tryz.pinned.checked.prog.wantsStandIn t = false := by
  obtain rfl : f = 4 := Option.some.inj ((show Tryz.prog.funcNamed "rostrum/rostrumlaw11.GreenParts" = some 4 by kernel_rfl).symm.trans hf) |>.symm
  obtain rfl : fn = Tryz.f4 := (Option.some.inj (Tryz.func4.symm.trans hfn)).symm
  refine ⟨by kernel_rfl, fun j t ht => ?_⟩
  rw [Tryz.params4] at ht
  match j, ht with
  | 0, ht =>
    obtain rfl : t = 26 := by simpa using ht.symm
    exact (show Tryz.prog.wantsStandIn 26 = false by kernel_rfl)
  | 1, ht =>
    obtain rfl : t = 36 := by simpa using ht.symm
    exact (show Tryz.prog.wantsStandIn 36 = false by kernel_rfl)
  | j + 2, ht => simp at ht
theorem card : Rows.GreenPartsUptoCardSaid :=
  Claim7.holds_tied_plain_at .later [] _ _ _ _ said (fun _ h => by cases h) (by kernel_rfl) (fun _ h => by cases h) greenPartsUpto_row_tie rfl ⟨rfl, rfl⟩ (by kernel_rfl) rfl plain (by kernel_rfl)
end Go.Proofs.YtflnfagdpoddiaaGreatDoor.greenParts
