/-
  RopeKept: an edit and the one that puts back what it took away make the same text; edits of spans that lie apart come to the same in either order; for every input.
-/
import Derived.Test.YtdfofconhfhgdaaVmBJ
import Derived.Test.YtdfofconhfhgdaaRows
import Derived.WalkKit
import Derived.ProofKit
import Derived.OpenShut
import Derived.Deep.DeepHandedRow
import Derived.Deep.DeepWitnessRowRef
import Derived.Lib.LaidTab
import Derived.Lay
set_option maxRecDepth 1000000
set_option maxHeartbeats 0
namespace Go.Proofs.Ytdfofconhfhgdaa.ropeKept
open Go Go.VM Go.Proofs Go.Proofs.Ytdfofconhfhgdaa.Vm
open Go.ChangeShapes Go.WideShapes Go.ChangeAt Go.RowKit
theorem own : ownKnob Try.prog.godebug = none := by kernel_rfl
theorem tabs (w : World) (hl : laidMetH Try.prog Rows.ropeKeptRow.laid w) : TabsOk vE.G w := tabsOk (t := vG) (Tr.every_node noTab Tr.every_leaf Tr.every_leaf)
theorem contract (H : Type) (enc : TypeId × Value → H) (W : World) (base : Nat) (args : Array Value) (ds gs : List (DataW H)) (before : List MemPlace)
    (hval : ∀ (j : Nat) t v, Try.f3.params[j]? = some t → args[j]? = some v → Value.okWide Try.prog W .any base t v)
    (hW : DataW.Whole enc Try.prog Try.f3.params.toList Rows.ropeKeptSpec.vars false W args.toList ds gs before) (hL : laidMetH Try.prog Rows.ropeKeptRow.laid W) :
    Calls Try.prog 3 args W fun e W' => ∃ v, e = .returned v ∧ Rows.ropeKeptSpec.post enc Try.prog Try.f3 false true false false W args v W' := by
  have hW' := hW
  obtain ⟨p, q, hA0, hV, rfl, hfz, hnd⟩ := hW
  have hA : DataW.TrodAll enc Try.prog W 0 (fun _ => true) true Try.f3.params.toList args.toList ds p := hA0
  have hps : Try.f3.params.toList = [9, 23, 23, 9, 9] := by rw [Try.params3]
  rw [hps] at hA
  obtain ⟨x0, vs0, d0, ds0, p0, q0, hv0, hd0, hT0, hR0', hp0⟩ := trodAll_inv hA
  obtain ⟨x1, vs1, d1, ds1, p1, q1, hv1, hd1, hT1, hR1', hp1⟩ := trodAll_inv hR0'
  obtain ⟨x2, vs2, d2, ds2, p2, q2, hv2, hd2, hT2, hR2', hp2⟩ := trodAll_inv hR1'
  obtain ⟨x3, vs3, d3, ds3, p3, q3, hv3, hd3, hT3, hR3', hp3⟩ := trodAll_inv hR2'
  obtain ⟨x4, vs4, d4, ds4, p4, q4, hv4, hd4, hT4, hR4', hp4⟩ := trodAll_inv hR3'
  obtain ⟨hve, hde, hqe⟩ := trodAll_nil hR4'
  subst hqe hp4 hp3 hp2 hp1 hp0
  obtain rfl : args = #[x0, x1, x2, x3, x4] := by
    have : args.toList = [x0, x1, x2, x3, x4] := by rw [hv0, hv1, hv2, hv3, hv4, hve]
    cases args; simp_all
  obtain rfl : ds = [d0, d1, d2, d3, d4] := by rw [hd0, hd1, hd2, hd3, hd4, hde]
  obtain ⟨rfl, rfl⟩ := trodVars_none hV
  clear hA0
  simp only [List.append_nil] at hW'
  obtain ⟨n0, as0, hA0, hR0, hB0, _⟩ := arg_of lawS_ok (show inS lawS 9 = true from rfl) (hval 0 9 x0 (by rw [Try.params3]; rfl) rfl) hT0
  have st0 : isSt Try.prog 9 = false := by kernel_rfl
  rw [st0] at hR0 hB0
  obtain ⟨s0, rfl, _⟩ := av_str Try.underlying9 hA0
  have hB0 : VM.bare (AV.str s0) = true := hB0
  have hR0 : R (oldGh W) (AV.str s0) x0 := hR0
  obtain ⟨n1, as1, hA1, hR1, hB1, _⟩ := arg_of lawS_ok (show inS lawS 23 = true from rfl) (hval 1 23 x1 (by rw [Try.params3]; rfl) rfl) hT1
  have st1 : isSt Try.prog 23 = true := by kernel_rfl
  rw [st1] at hR1 hB1
  obtain ⟨x1_, y1_, rfl⟩ := span_of hA1
  have hB1 : VM.bare (AV.agg [.int .i64 x1_, .int .i64 y1_]) = true := hB1
  have hR1 : R (oldGh W) (AV.agg [.int .i64 x1_, .int .i64 y1_]) x1 := hR1
  obtain ⟨n2, as2, hA2, hR2, hB2, _⟩ := arg_of lawS_ok (show inS lawS 23 = true from rfl) (hval 2 23 x2 (by rw [Try.params3]; rfl) rfl) hT2
  have st2 : isSt Try.prog 23 = true := by kernel_rfl
  rw [st2] at hR2 hB2
  obtain ⟨x2_, y2_, rfl⟩ := span_of hA2
  have hB2 : VM.bare (AV.agg [.int .i64 x2_, .int .i64 y2_]) = true := hB2
  have hR2 : R (oldGh W) (AV.agg [.int .i64 x2_, .int .i64 y2_]) x2 := hR2
  obtain ⟨n3, as3, hA3, hR3, hB3, _⟩ := arg_of lawS_ok (show inS lawS 9 = true from rfl) (hval 3 9 x3 (by rw [Try.params3]; rfl) rfl) hT3
  have st3 : isSt Try.prog 9 = false := by kernel_rfl
  rw [st3] at hR3 hB3
  obtain ⟨s3, rfl, _⟩ := av_str Try.underlying9 hA3
  have hB3 : VM.bare (AV.str s3) = true := hB3
  have hR3 : R (oldGh W) (AV.str s3) x3 := hR3
  obtain ⟨n4, as4, hA4, hR4, hB4, _⟩ := arg_of lawS_ok (show inS lawS 9 = true from rfl) (hval 4 9 x4 (by rw [Try.params3]; rfl) rfl) hT4
  have st4 : isSt Try.prog 9 = false := by kernel_rfl
  rw [st4] at hR4 hB4
  obtain ⟨s4, rfl, _⟩ := av_str Try.underlying9 hA4
  have hB4 : VM.bare (AV.str s4) = true := hB4
  have hR4 : R (oldGh W) (AV.str s4) x4 := hR4
  have hrun : (orc vE).bare 3 [AV.str s0, AV.agg [.int .i64 x1_, .int .i64 y1_], AV.agg [.int .i64 x2_, .int .i64 y2_], AV.str s3, AV.str s4] = some (.bool true) := law_kept s0 s3 s4 x1_ y1_ x2_ y2_
  have hb : bares [AV.str s0, AV.agg [.int .i64 x1_, .int .i64 y1_], AV.agg [.int .i64 x2_, .int .i64 y2_], AV.str s3, AV.str s4] = true := by simp only [bares_cons, hB0, hB1, hB2, hB3, hB4]; rfl
  have hr : RL (oldGh W) [AV.str s0, AV.agg [.int .i64 x1_, .int .i64 y1_], AV.agg [.int .i64 x2_, .int .i64 y2_], AV.str s3, AV.str s4] #[x0, x1, x2, x3, x4].toList := RL_cons hR0 (RL_cons hR1 (RL_cons hR2 (RL_cons hR3 (RL_cons hR4 RL_nil))))
  have hA2 : DataW.TrodAll enc Try.prog W 0 (fun _ => true) true [9, 23, 23, 9, 9] [x0, x1, x2, x3, x4] [d0, d1, d2, d3, d4] (p0 ++ (p1 ++ (p2 ++ (p3 ++ (p4 ++ ([])))))) := trodAll_cons_mk hT0 (trodAll_cons_mk hT1 (trodAll_cons_mk hT2 (trodAll_cons_mk hT3 (trodAll_cons_mk hT4 (trodAll_mk0)))))
  refine (law_runs vE_ok hrun Try.call3 (tabs W hL) hb hr).mono fun e W' ⟨he, hg⟩ => ?_
  subst he
  exact ⟨_, rfl, post_of_below (pa := p0 ++ (p1 ++ (p2 ++ (p3 ++ (p4 ++ ([])))))) (pv := []) hW' (fun _ _ _ => trodAll_cons_mk (shut_bool Try.underlying4 _) trodAll_mk0)
    (fun sp hsp => by
      rw [hps]
      exact trodAll_keep hg lawS_ok (show ([9, 23, 23, 9, 9].all fun t => inS lawS t) = true from rfl) hA2 fun z hz => hsp z (by simpa using hz)) (fun _ _ => rfl) (by simp)
    hg (ok_one (by kernel_rfl) rfl (okWide_bool_mk Try.underlying4 _))⟩
noncomputable def laidWorld (os : Os) : World := World.laidAll Try.prog os Rows.ropeKeptRow.laid
theorem laid_met (os : Os) : laidMet Try.prog Rows.ropeKeptRow.laid ((laidWorld os).forCall (fun _ _ => 0) ⟨#[], #[.string .empty, .agg #[.int .i64 0, .int .i64 0], .agg #[.int .i64 0, .int .i64 0], .string .empty, .string .empty], []⟩).memory :=
  laidMet_laidAll #[.string .empty, .agg #[.int .i64 0, .int .i64 0], .agg #[.int .i64 0, .int .i64 0], .string .empty, .string .empty] (by kernel_rfl) (by kernel_rfl)
theorem reads (os : Os) {H : Type} (enc : TypeId × Value → H) : DataW.whole enc Try.prog ((laidWorld os).forCall (fun _ _ => 0) ⟨#[], #[.string .empty, .agg #[.int .i64 0, .int .i64 0], .agg #[.int .i64 0, .int .i64 0], .string .empty, .string .empty], []⟩).memory Try.f3.params.toList Rows.ropeKeptSpec.vars false (#[.string .empty, .agg #[.int .i64 0, .int .i64 0], .agg #[.int .i64 0, .int .i64 0], .string .empty, .string .empty] : Array Value).toList 8 = some ([.lit (.string []), .agg [.lit (.int .i64 0), .lit (.int .i64 0)], .agg [.lit (.int .i64 0), .lit (.int .i64 0)], .lit (.string []), .lit (.string [])], [], []) := by kernel_rfl
theorem lifted (os : Os) (started : os.Started) (H : Type) (enc : TypeId × Value → H) (F : Stop.Interp) :
    ReturnsInHanded {} Try.checked os 3 .any ((OpenSpec.ofChange Rows.ropeKeptSpec).preRow enc Try.prog Try.f3 Rows.ropeKeptRow.domain false Rows.ropeKeptRow.laid) (((OpenSpec.ofChange Rows.ropeKeptSpec).at F).post enc Try.prog Try.f3 false true false false) := by
  have hx := reads os enc
  refine returnsInHanded_of_row (C := Try.checked) (s := OpenSpec.ofChange Rows.ropeKeptSpec) own started (by kernel_rfl) Try.func3
    (witness_row_atRef (enc := enc) (C := Try.checked) false (laidWorld os) #[.string .empty, .agg #[.int .i64 0, .int .i64 0], .agg #[.int .i64 0, .int .i64 0], .string .empty, .string .empty] (World.laidAll_os _ _ _) (by kernel_rfl) (by kernel_rfl) (by kernel_rfl)
      (OpenSpec.preRow_of_cond 8 hx (by kernel_rfl) (fun k hk => by cases hk) (by kernel_rfl) (laid_met os))) ?_
  intro W base args ds gs before hval hW _ _ _ hL _ _
  exact contract H enc W base args ds gs before hval hW hL
theorem said : Rows.RopeKeptSaid :=
  OpenClaim.holds_of_cond 3 Try.f3 rfl rfl rfl rfl rfl rfl rfl ⟨rfl, rfl, rfl, rfl, rfl⟩ rfl rfl rfl rfl rfl (by kernel_rfl) Try.func3 (by kernel_rfl)
    (of_decide_eq_true (by kernel_rfl)) (by unfold Func.isWrapper; first | (rw [if_pos (by decide +kernel)]; kernel_rfl) | (rw [if_neg (by decide +kernel)]; exact ⟨rfl, rfl⟩))
    (fun os started H enc _ F => by rw [OpenClaim.pre_eq_preRow]; exact lifted os started H enc F)
end Go.Proofs.Ytdfofconhfhgdaa.ropeKept
