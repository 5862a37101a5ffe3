/-
  For any text the tree and its order are the document's, and neither is kept by what handed it back.
-/
import Derived.Test.YtpinfliihpdjcaaGreatDoorVmCE
import Derived.Test.YtpinfliihpdjcaaGreatDoorCards
import Derived.Test.YtpinfliihpdjcaaGreatDoorTie
import Derived.WalkKit
import Derived.ProofKit
import Derived.OpenShut
import Derived.Deep.DeepHandedRow
import Derived.Deep.DeepWitnessRowRef
import Derived.Lib.LaidTab
import Derived.Lay
set_option maxRecDepth 1000000
set_option maxHeartbeats 0
namespace Go.Proofs.YtpinfliihpdjcaaGreatDoor.parseTrees
open Go Go.VM Go.Proofs Go.Proofs.YtpinfliihpdjcaaGreatDoor.Vm
open Go.ChangeShapes Go.WideShapes Go.ChangeAt Go.RowKit
theorem own : ownKnob Tryz.prog.godebug = none := by kernel_rfl
theorem Mp (w : World) (hl : laidMetH Tryz.prog Rows.parseTreesRow.laid w) : ∀ o v, ((vG.get 0).getD [])[o]? = some v → w.cell? ⟨0, o, none⟩ = some (qB v) := by
  have h : Lib.VarReads Tryz.prog w "unicode/utf8.first" Rows.laid_unicode_utf8_first := oN hl (by kernel_rfl) (List.Mem.tail _ (List.Mem.tail _ (List.Mem.tail _ (List.Mem.tail _ (List.Mem.tail _ (List.Mem.tail _ (List.Mem.tail _ (List.Mem.tail _ (List.Mem.head _)))))))))
  have e : (Rows.laid_unicode_utf8_first : DataW Unit) = Lib.tabData .u8 (Go.Pinned.utf8FirstZ.map Int.ofNat) := by kernel_rfl
  rw [e] at h
  exact Bb (by kernel_rfl) (by kernel_rfl) Tryz.underlying87 Tryz.underlying5 (by kernel_rfl) (by kernel_rfl) h (by kernel_rfl)
theorem Md (w : World) (hl : laidMetH Tryz.prog Rows.parseTreesRow.laid w) : ∀ o v, ((vG.get 1).getD [])[o]? = some v → w.cell? ⟨1, o, none⟩ = some (qB v) := by
  have h : Lib.VarReads Tryz.prog w "unicode/utf8.acceptRanges" Rows.laid_unicode_utf8_acceptRanges := oN hl (by kernel_rfl) (List.Mem.tail _ (List.Mem.tail _ (List.Mem.tail _ (List.Mem.head _))))
  have e : (Rows.laid_unicode_utf8_acceptRanges : DataW Unit) = .agg ((([[128, 191], [160, 191], [128, 159], [144, 191], [128, 143]] ++ List.replicate 11 [0, 0] : List (List Int))).map fun zs => .agg (zs.map fun z => .lit (.int .u8 z))) := by kernel_rfl
  rw [e] at h
  exact xu (by kernel_rfl) (by kernel_rfl) Tryz.underlying90 Tryz.underlying89 (fun i f hi => by
    match i, hi with
    | 0, hi => simp at hi; subst hi; exact ⟨Tryz.underlying5, rfl, by kernel_rfl⟩
    | 1, hi => simp at hi; subst hi; exact ⟨Tryz.underlying5, rfl, by kernel_rfl⟩
    | i + 2, hi => simp at hi) (by kernel_rfl) (by kernel_rfl) (by decide) (by decide) h (by kernel_rfl)
theorem Ms (w : World) (hl : laidMetH Tryz.prog Rows.parseTreesRow.laid w) : ∀ o v, ((vG.get 2).getD [])[o]? = some v → w.cell? ⟨2, o, none⟩ = some (qB v) := by
  have h : Lib.VarReads Tryz.prog w "strings.asciiSpace" Rows.laid_strings_asciiSpace := oN hl (by kernel_rfl) (List.Mem.tail _ (List.Mem.tail _ (List.Mem.tail _ (List.Mem.tail _ (List.Mem.tail _ (List.Mem.tail _ (List.Mem.tail _ (List.Mem.head _))))))))
  have e : (Rows.laid_strings_asciiSpace : DataW Unit) = Lib.tabData .u8 ((List.range 256).map fun b => if b == 32 || (9 ≤ b && b ≤ 13) then (1 : Int) else 0) := by kernel_rfl
  rw [e] at h
  exact Bb (by kernel_rfl) (by kernel_rfl) Tryz.underlying87 Tryz.underlying5 (by kernel_rfl) (by kernel_rfl) h (by kernel_rfl)
theorem Mx (w : World) (hl : laidMetH Tryz.prog Rows.parseTreesRow.laid w) : ∃ t y, w.cell? ⟨5, 0, none⟩ = some (.iface t y) := by
  have h : Lib.VarReads Tryz.prog w "strconv.ErrRange" Rows.laid_strconv_ErrRange := oN hl (by kernel_rfl) (List.Mem.tail _ (List.Mem.tail _ (List.Mem.tail _ (List.Mem.tail _ (List.Mem.head _)))))
  exact BV (by kernel_rfl) (by kernel_rfl) Tryz.underlying67 h
theorem MH (w : World) (hl : laidMetH Tryz.prog Rows.parseTreesRow.laid w) : ca vE.G w := GX (t := vG) (Tr.dO (Al (by kernel_rfl) (Mp w hl)) (Tr.dO (Al (by kernel_rfl) (Md w hl)) (Tr.dO nz (Tr.dO nz Tr.dD Tr.dD) Tr.dD) (Tr.dO (KJ (Mx w hl)) (Tr.dO nz Tr.dD Tr.dD) Tr.dD)) (Tr.dO (Al (by kernel_rfl) (Ms w hl)) (Tr.dO nz (Tr.dO nz Tr.dD Tr.dD) Tr.dD) (Tr.dO nz (Tr.dO nz Tr.dD Tr.dD) Tr.dD)))
theorem contract (H : Type) (enc : TypeId × Value → H) (W : World) (base : Nat) (args : Array Value) (ds gs : List (DataW H)) (before : List MemPlace)
    (hval : ∀ (j : Nat) t v, Tryz.f3.params[j]? = some t → args[j]? = some v → Value.okWide Tryz.prog W .any base t v)
    (hW : DataW.Whole enc Tryz.prog Tryz.f3.params.toList Rows.parseTreesSpec.vars false W args.toList ds gs before) (hL : laidMetH Tryz.prog Rows.parseTreesRow.laid W)
 :
    Calls Tryz.prog 3 args W fun e W' => ∃ v, e = .returned v ∧ Rows.parseTreesSpec.post enc Tryz.prog Tryz.f3 false true false false W args v W' := by
  have hW' := hW
  obtain ⟨p, q, hA0, hV, rfl, hfz, hnd⟩ := hW
  have hA : DataW.TrodAll enc Tryz.prog W 0 (fun _ => true) true Tryz.f3.params.toList args.toList ds p := hA0
  have hps : Tryz.f3.params.toList = [9] := by rw [Tryz.params3]
  rw [hps] at hA
  obtain ⟨x0, vs0, d0, ds0, p0, q0, hv0, hd0, hT0, hR0', hp0⟩ := xL hA
  obtain ⟨hve, hde, hqe⟩ := trodAll_nil hR0'
  subst hqe hp0
  obtain rfl : args = #[x0] := by
    have : args.toList = [x0] := by rw [hv0, hve]
    cases args; simp_all
  obtain rfl : ds = [d0] := by rw [hd0, hde]
  obtain ⟨rfl, rfl⟩ := trodVars_none hV
  clear hA0
  simp only [List.append_nil] at hW'
  obtain ⟨n0, as0, hA0, hR0, hB0, _⟩ := Jf AR (show xY zA 9 = true from rfl) (hval 0 9 x0 (by rw [Tryz.params3]; rfl) rfl) hT0
  have st0 : fV Tryz.prog 9 = false := by kernel_rfl
  rw [st0] at hR0 hB0
  obtain ⟨s0, rfl, _⟩ := Jb Tryz.underlying9 hA0
  have hB0 : VM.bare (AV.str s0) = true := hB0
  have hR0 : R (eB W) (AV.str s0) x0 := hR0
  have hb : bx [AV.str s0] = true := by simp only [bw, hB0]; rfl
  have hr : RL (eB W) [AV.str s0] #[x0].toList := bJ hR0 dF
  have hA2 : DataW.TrodAll enc Tryz.prog W 0 (fun _ => true) true [9] [x0] [d0] (p0 ++ ([])) := trodAll_cons_mk hT0 (trodAll_mk0)
  have hx0 : x0 = sV s0 := by simpa only [R] using hR0
  have hruns : Calls Tryz.prog 3 #[x0] W fun e W' => e = .returned (.bool true) ∧ Below W.heap.size W W' := by
    rw [hx0]; exact Ec s0 W (MH W hL)
  refine hruns.mono fun e W' ⟨he, hg⟩ => ?_
  subst he
  exact ⟨_, rfl, tP (pa := p0 ++ ([])) (pv := []) hW' (fun _ _ _ => trodAll_cons_mk (shut_bool Tryz.underlying4 _) trodAll_mk0)
    (fun sp hsp => by
      rw [hps]
      exact oF hg AR (show ([9].all fun t => xY zA t) = true from rfl) hA2 fun z hz => hsp z (by simpa using hz)) (fun _ _ => rfl) (by simp)
    hg (ok_one (by kernel_rfl) rfl (okWide_bool_mk Tryz.underlying4 _))⟩
noncomputable def pC (os : Os) : World := World.laidAll Tryz.prog os Rows.parseTreesRow.laid
theorem EK (os : Os) : laidMet Tryz.prog Rows.parseTreesRow.laid ((pC os).forCall (fun _ _ => 0) ⟨#[], #[.string .empty], []⟩).memory :=
  laidMet_laidAll #[.string .empty] (by kernel_rfl) (by kernel_rfl)
theorem reads (os : Os) {H : Type} (enc : TypeId × Value → H) : DataW.whole enc Tryz.prog ((pC os).forCall (fun _ _ => 0) ⟨#[], #[.string .empty], []⟩).memory Tryz.f3.params.toList Rows.parseTreesSpec.vars false (#[.string .empty] : Array Value).toList 8 = some ([.lit (.string [])], [], []) := by kernel_rfl
theorem lifted (os : Os) (started : os.Started) (H : Type) (enc : TypeId × Value → H) (F : Stop.Interp) :
    ReturnsInHanded {} Tryz.checked os 3 .any ((OpenSpec.ofChange Rows.parseTreesSpec).preRow enc Tryz.prog Tryz.f3 Rows.parseTreesRow.domain false Rows.parseTreesRow.laid) (((OpenSpec.ofChange Rows.parseTreesSpec).at F).post enc Tryz.prog Tryz.f3 false true false false) := by
  have hx := reads os enc
  refine returnsInHanded_of_row (C := Tryz.checked) (s := OpenSpec.ofChange Rows.parseTreesSpec) own started (by kernel_rfl) Tryz.func3
    (witness_row_atRef (enc := enc) (C := Tryz.checked) false (pC os) #[.string .empty] (World.laidAll_os _ _ _) (by kernel_rfl) (by kernel_rfl) (by kernel_rfl)
      (OpenSpec.preRow_of_cond 8 hx (by kernel_rfl) (fun k hk => by cases hk) (by kernel_rfl) (EK os))) ?_
  intro W base args ds gs before hval hW _ _ _ hL _ _
  exact contract H enc W base args ds gs before hval hW hL
theorem said : Rows.ParseTreesSaid :=
  OpenClaim.holds_of_cond 3 Tryz.f3 rfl rfl rfl rfl rfl rfl rfl ⟨rfl, rfl, rfl, rfl, rfl⟩ rfl rfl rfl rfl rfl (by kernel_rfl) Tryz.func3 (by kernel_rfl)
    (of_decide_eq_true (by kernel_rfl)) (by unfold Func.isWrapper; first | (rw [if_pos (by decide +kernel)]; kernel_rfl) | (rw [if_neg (by decide +kernel)]; exact ⟨rfl, rfl⟩))
    (fun os started H enc _ F => by rw [OpenClaim.pre_eq_preRow]; exact lifted os started H enc F)
theorem plain (f : FuncId) (fn : Func) (hf : Tryz.pinned.checked.prog.funcNamed "rostrum/rostrumlaw12.ParseTrees" = some f) (hfn : Tryz.pinned.checked.prog.funcs[f]? = some fn) :
    true = Tryz.pinned.checked.prog.looks [] ∧ ∀ (j : Nat) t, fn.params[j]? = some t → Tryz.pinned.checked.prog.wantsStandIn t = false := by
  obtain rfl : f = 3 := Option.some.inj ((show Tryz.prog.funcNamed "rostrum/rostrumlaw12.ParseTrees" = some 3 by kernel_rfl).symm.trans hf) |>.symm
  obtain rfl : fn = Tryz.f3 := (Option.some.inj (Tryz.func3.symm.trans hfn)).symm
  refine ⟨by kernel_rfl, fun j t ht => ?_⟩
  rw [Tryz.params3] at ht
  match j, ht with
  | 0, ht =>
    obtain rfl : t = 9 := by simpa using ht.symm
    exact (show Tryz.prog.wantsStandIn 9 = false by kernel_rfl)
  | j + 1, ht => simp at ht
theorem card : Rows.ParseTreesCardSaid :=
  Claim7.holds_tied_plain_at .later [] _ _ _ _ said (fun _ h => by cases h) (by kernel_rfl) (fun _ h => by cases h) parseTrees_row_tie rfl ⟨rfl, rfl⟩ (by kernel_rfl) rfl plain (by kernel_rfl)
end Go.Proofs.YtpinfliihpdjcaaGreatDoor.parseTrees
