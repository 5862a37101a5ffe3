/-
  FormatBlanks: for every text, kind of blanks and width, the form of a document does not hang on its blanks (the given statement, nothing besides).
-/
import Derived.Test.YtkpeicabocpbkaaGreatDoorVmCG
import Derived.Test.YtkpeicabocpbkaaGreatDoorCards
import Derived.Test.YtkpeicabocpbkaaGreatDoorTie
import Derived.WalkKit
import Derived.ProofKit
import Derived.OpenShut
import Derived.Deep.DeepHandedRow
import Derived.Deep.DeepWitnessRowRef
import Derived.Lib.LaidTab
import Derived.Lay
set_option maxRecDepth 1000000
set_option maxHeartbeats 0
namespace Go.Proofs.YtkpeicabocpbkaaGreatDoor.formatBlanks
open Go Go.VM Go.Proofs Go.Proofs.YtkpeicabocpbkaaGreatDoor.Vm
open Go.ChangeShapes Go.WideShapes Go.ChangeAt Go.RowKit
theorem own:ownKnob Tryz.prog.godebug=none:=by kernel_rfl
theorem YC (w:World) (hl:laidMetH Tryz.prog Rows.formatBlanksRow.laid w): ∀o v,((vG.get 0).getD [])[o]? =some v→w.cell? ⟨0,o,none⟩=some (yc v):=by
  have h:Lib.VarReads Tryz.prog w "unicode/utf8.first" Rows.laid_unicode_utf8_first:=uO hl (by kernel_rfl) (List.Mem.tail _ (List.Mem.tail _ (List.Mem.tail _ (List.Mem.tail _ (List.Mem.tail _ (List.Mem.tail _ (List.Mem.tail _ (List.Mem.tail _ (List.Mem.head _)))))))))
  have e:(Rows.laid_unicode_utf8_first:DataW Unit)=Lib.tabData .u8 (Go.Pinned.utf8FirstZ.map Int.ofNat):=by kernel_rfl
  rw [e] at h
  exact JA (by kernel_rfl) (by kernel_rfl) Tryz.underlying117 Tryz.underlying5 (by kernel_rfl) (by kernel_rfl) h (by kernel_rfl)
theorem Yw (w:World) (hl:laidMetH Tryz.prog Rows.formatBlanksRow.laid w): ∀o v,((vG.get 1).getD [])[o]? =some v→w.cell? ⟨1,o,none⟩=some (yc v):=by
  have h:Lib.VarReads Tryz.prog w "unicode/utf8.acceptRanges" Rows.laid_unicode_utf8_acceptRanges:=uO hl (by kernel_rfl) (List.Mem.tail _ (List.Mem.tail _ (List.Mem.tail _ (List.Mem.head _))))
  have e:(Rows.laid_unicode_utf8_acceptRanges:DataW Unit)= .agg ((([[128,191],[160,191],[128,159],[144,191],[128,143]]++List.replicate 11 [0,0]:List (List Int))).map fun zs=> .agg (zs.map fun z=> .lit (.int .u8 z))):=by kernel_rfl
  rw [e] at h
  exact Gg (by kernel_rfl) (by kernel_rfl) Tryz.underlying120 Tryz.underlying119 (fun i f hi=>by
    match i,hi with
    | 0,hi=>simp at hi;subst hi;exact ⟨Tryz.underlying5,rfl,by kernel_rfl⟩
    | 1,hi=>simp at hi;subst hi;exact ⟨Tryz.underlying5,rfl,by kernel_rfl⟩
    | i+2,hi=>simp at hi) (by kernel_rfl) (by kernel_rfl) (by decide) (by decide) h (by kernel_rfl)
theorem Ym (w:World) (hl:laidMetH Tryz.prog Rows.formatBlanksRow.laid w): ∀o v,((vG.get 3).getD [])[o]? =some v→w.cell? ⟨3,o,none⟩=some (yc v):=by
  have h:Lib.VarReads Tryz.prog w "strings.asciiSpace" Rows.laid_strings_asciiSpace:=uO hl (by kernel_rfl) (List.Mem.tail _ (List.Mem.tail _ (List.Mem.tail _ (List.Mem.tail _ (List.Mem.tail _ (List.Mem.tail _ (List.Mem.tail _ (List.Mem.head _))))))))
  have e:(Rows.laid_strings_asciiSpace:DataW Unit)=Lib.tabData .u8 ((List.range 256).map fun b=>if b==32||(9≤b&&b≤13) then (1:Int) else 0):=by kernel_rfl
  rw [e] at h
  exact JA (by kernel_rfl) (by kernel_rfl) Tryz.underlying117 Tryz.underlying5 (by kernel_rfl) (by kernel_rfl) h (by kernel_rfl)
theorem YB (w:World) (hl:laidMetH Tryz.prog Rows.formatBlanksRow.laid w): ∃t y,w.cell? ⟨6,0,none⟩=some (.iface t y):=by
  have h:Lib.VarReads Tryz.prog w "strconv.ErrRange" Rows.laid_strconv_ErrRange:=uO hl (by kernel_rfl) (List.Mem.tail _ (List.Mem.tail _ (List.Mem.tail _ (List.Mem.tail _ (List.Mem.head _)))))
  exact LI (by kernel_rfl) (by kernel_rfl) Tryz.underlying123 h
theorem Yf (w:World) (hl:laidMetH Tryz.prog Rows.formatBlanksRow.laid w):uM vE.G w:=Pt (t:=vG) (Tr.fF (HY (by kernel_rfl) (YC w hl)) (Tr.fF (HY (by kernel_rfl) (Yw w hl)) (Tr.fF (HY (by kernel_rfl) (Ym w hl)) (Tr.fF tL Tr.fj Tr.fj) Tr.fj) (Tr.fF tL (Tr.fF tL Tr.fj Tr.fj) Tr.fj)) (Tr.fF tL (Tr.fF tL (Tr.fF tL Tr.fj Tr.fj) Tr.fj) (Tr.fF (Xo (YB w hl)) (Tr.fF tL Tr.fj Tr.fj) Tr.fj)))
theorem contract (H:Type) (enc:TypeId×Value→H) (W:World) (base:Nat) (args:Array Value) (ds gs:List (DataW H)) (before:List MemPlace)
    (hval: ∀(j:Nat) t v,Tryz.f3.params[j]? =some t→args[j]? =some v→Value.okWide Tryz.prog W .any base t v)
    (hW:DataW.Whole enc Tryz.prog Tryz.f3.params.toList Rows.formatBlanksSpec.vars false W args.toList ds gs before) (hL:laidMetH Tryz.prog Rows.formatBlanksRow.laid W)
 :
    Calls Tryz.prog 3 args W fun e W'=> ∃v,e= .returned v∧Rows.formatBlanksSpec.post enc Tryz.prog Tryz.f3 false true false false W args v W':=by
  have hW':=hW
  obtain ⟨p,q,hA0,hV,rfl,hfz,hnd⟩:=hW
  have hA:DataW.TrodAll enc Tryz.prog W 0 (fun _=>true) true Tryz.f3.params.toList args.toList ds p:=hA0
  have hps:Tryz.f3.params.toList=[9,5,3]:=by rw [Tryz.params3]
  rw [hps] at hA
  obtain ⟨x0,vs0,d0,ds0,p0,q0,hv0,hd0,hT0,hR0',hp0⟩:=qi hA
  obtain ⟨x1,vs1,d1,ds1,p1,q1,hv1,hd1,hT1,hR1',hp1⟩:=qi hR0'
  obtain ⟨x2,vs2,d2,ds2,p2,q2,hv2,hd2,hT2,hR2',hp2⟩:=qi hR1'
  obtain ⟨hve,hde,hqe⟩:=trodAll_nil hR2'
  subst hqe hp2 hp1 hp0
  obtain rfl:args= #[x0,x1,x2]:=by
    have:args.toList=[x0,x1,x2]:=by rw [hv0,hv1,hv2,hve]
    cases args;simp_all
  obtain rfl:ds=[d0,d1,d2]:=by rw [hd0,hd1,hd2,hde]
  obtain ⟨rfl,rfl⟩:=trodVars_none hV
  clear hA0
  simp only [List.append_nil] at hW'
  obtain ⟨n0,as0,hA0,hR0,hB0,_⟩:=H6 yi (show EV DA 9=true from rfl) (hval 0 9 x0 (by rw [Tryz.params3];rfl) rfl) hT0
  have st0:fR Tryz.prog 9=false:=by kernel_rfl
  rw [st0] at hR0 hB0
  obtain ⟨s0,rfl,_⟩:=Vj Tryz.underlying9 hA0
  have hB0:VM.bare (AV.str s0)=true:=hB0
  have hR0:R (lf W) (AV.str s0) x0:=hR0
  obtain ⟨n1,as1,hA1,hR1,hB1,_⟩:=H6 yi (show EV DA 5=true from rfl) (hval 1 5 x1 (by rw [Tryz.params3];rfl) rfl) hT1
  have st1:fR Tryz.prog 5=false:=by kernel_rfl
  rw [st1] at hR1 hB1
  obtain ⟨b1,rfl⟩:=Wx Tryz.underlying5 hA1
  have hB1:VM.bare (AV.int .u8 (b1:Int))=true:=hB1
  have hR1:R (lf W) (AV.int .u8 (b1:Int)) x1:=hR1
  obtain ⟨n2,as2,hA2,hR2,hB2,_⟩:=H6 yi (show EV DA 3=true from rfl) (hval 2 3 x2 (by rw [Tryz.params3];rfl) rfl) hT2
  have st2:fR Tryz.prog 3=false:=by kernel_rfl
  rw [st2] at hR2 hB2
  obtain ⟨n2,rfl⟩:=U4 Tryz.underlying3 hA2
  have hB2:VM.bare (AV.int .i64 n2)=true:=hB2
  have hR2:R (lf W) (AV.int .i64 n2) x2:=hR2
  have hrun:(aY vE).bare 3 [AV.str s0,AV.int .u8 (b1:Int),AV.int .i64 n2]=some (.bool true):=Ga s0 b1 n2
  have hb:bN [AV.str s0,AV.int .u8 (b1:Int),AV.int .i64 n2]=true:=by simp only [bf,hB0,hB1,hB2];rfl
  have hr:RL (lf W) [AV.str s0,AV.int .u8 (b1:Int),AV.int .i64 n2] #[x0,x1,x2].toList:=cA hR0 (cA hR1 (cA hR2 gF))
  have hA2:DataW.TrodAll enc Tryz.prog W 0 (fun _=>true) true [9,5,3] [x0,x1,x2] [d0,d1,d2] (p0++(p1++(p2++([])))):=trodAll_cons_mk hT0 (trodAll_cons_mk hT1 (trodAll_cons_mk hT2 (trodAll_mk0)))
  refine (Nr WH hrun Tryz.call3 (Yf W hL) hb hr).mono fun e W' ⟨he,hg⟩=> ?_
  subst he
  exact ⟨_,rfl,BG (pa:=p0++(p1++(p2++([])))) (pv:=[]) hW' (fun _ _ _=>trodAll_cons_mk (shut_bool Tryz.underlying4 _) trodAll_mk0)
    (fun sp hsp=>by
      rw [hps]
      exact ua hg yi (show ([9,5,3].all fun t=>EV DA t)=true from rfl) hA2 fun z hz=>hsp z (by simpa using hz)) (fun _ _=>rfl) (by simp)
    hg (ok_one (by kernel_rfl) rfl (okWide_bool_mk Tryz.underlying4 _))⟩
noncomputable def wK (os:Os):World:=World.laidAll Tryz.prog os Rows.formatBlanksRow.laid
theorem Nj (os:Os):laidMet Tryz.prog Rows.formatBlanksRow.laid ((wK os).forCall (fun _ _=>0) ⟨#[], #[.string .empty,.int .u8 0,.int .i64 0],[]⟩).memory:=
  laidMet_laidAll #[.string .empty,.int .u8 0,.int .i64 0] (by kernel_rfl) (by kernel_rfl)
theorem reads (os:Os) {H:Type} (enc:TypeId×Value→H):DataW.whole enc Tryz.prog ((wK os).forCall (fun _ _=>0) ⟨#[], #[.string .empty,.int .u8 0,.int .i64 0],[]⟩).memory Tryz.f3.params.toList Rows.formatBlanksSpec.vars false (#[.string .empty,.int .u8 0,.int .i64 0]:Array Value).toList 8=some ([.lit (.string []),.lit (.int .u8 0),.lit (.int .i64 0)],[],[]):=by kernel_rfl
theorem lifted (os:Os) (started:os.Started) (H:Type) (enc:TypeId×Value→H) (F:Stop.Interp):
    ReturnsInHanded {} Tryz.checked os 3 .any ((OpenSpec.ofChange Rows.formatBlanksSpec).preRow enc Tryz.prog Tryz.f3 Rows.formatBlanksRow.domain false Rows.formatBlanksRow.laid) (((OpenSpec.ofChange Rows.formatBlanksSpec).at F).post enc Tryz.prog Tryz.f3 false true false false):=by
  have hx:=reads os enc
  refine returnsInHanded_of_row (C:=Tryz.checked) (s:=OpenSpec.ofChange Rows.formatBlanksSpec) own started (by kernel_rfl) Tryz.func3
    (witness_row_atRef (enc:=enc) (C:=Tryz.checked) false (wK os) #[.string .empty,.int .u8 0,.int .i64 0] (World.laidAll_os _ _ _) (by kernel_rfl) (by kernel_rfl) (by kernel_rfl)
      (OpenSpec.preRow_of_cond 8 hx (by kernel_rfl) (fun k hk=>by cases hk) (by kernel_rfl) (Nj os))) ?_
  intro W base args ds gs before hval hW _ _ _ hL _ _
  exact contract H enc W base args ds gs before hval hW hL
theorem said:Rows.FormatBlanksSaid:=
  OpenClaim.holds_of_cond 3 Tryz.f3 rfl rfl rfl rfl rfl rfl rfl ⟨rfl,rfl,rfl,rfl,rfl⟩ rfl rfl rfl rfl rfl (by kernel_rfl) Tryz.func3 (by kernel_rfl)
    (of_decide_eq_true (by kernel_rfl)) (by unfold Func.isWrapper;first | (rw [if_pos (by decide+kernel)];kernel_rfl) | (rw [if_neg (by decide+kernel)];exact ⟨rfl,rfl⟩))
    (fun os started H enc _ F=>by rw [OpenClaim.pre_eq_preRow];exact lifted os started H enc F)
theorem plain (f:FuncId) (fn:Func) (hf:Tryz.pinned.checked.prog.funcNamed "rostrum/rostrumlaw20.FormatBlanks" =some f) (hfn:Tryz.pinned.checked.prog.funcs[f]? =some fn):
    true=Tryz.pinned.checked.prog.looks []∧ ∀(j:Nat) t,fn.params[j]? =some t→Tryz.pinned.checked.prog.wantsStandIn t=false:=by
  obtain rfl:f=3:=Option.some.inj ((show Tryz.prog.funcNamed "rostrum/rostrumlaw20.FormatBlanks" =some 3 by kernel_rfl).symm.trans hf) |>.symm
  obtain rfl:fn=Tryz.f3:=(Option.some.inj (Tryz.func3.symm.trans hfn)).symm
  refine ⟨by kernel_rfl,fun j t ht=> ?_⟩
  rw [Tryz.params3] at ht
  match j,ht with
  | 0,ht=>
    obtain rfl:t=9:=by simpa using ht.symm
    exact (show Tryz.prog.wantsStandIn 9=false by kernel_rfl)
  | 1,ht=>
    obtain rfl:t=5:=by simpa using ht.symm
    exact (show Tryz.prog.wantsStandIn 5=false by kernel_rfl)
  | 2,ht=>
    obtain rfl:t=3:=by simpa using ht.symm
    exact (show Tryz.prog.wantsStandIn 3=false by kernel_rfl)
  | j+3,ht=>simp at ht
theorem card:Rows.FormatBlanksCardSaid:=
  Claim7.holds_tied_plain_at .later [] _ _ _ _ said (fun _ h=>by cases h) (by kernel_rfl) (fun _ h=>by cases h) formatBlanks_row_tie rfl ⟨rfl,rfl⟩ (by kernel_rfl) rfl plain (by kernel_rfl)
end Go.Proofs.YtkpeicabocpbkaaGreatDoor.formatBlanks
