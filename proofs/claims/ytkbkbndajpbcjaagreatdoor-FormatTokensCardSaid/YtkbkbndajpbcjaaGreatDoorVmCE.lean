/-
  A part of the proof.
-/
import Derived.Test.YtkbkbndajpbcjaaGreatDoorVmCC
import Derived.Test.YtkbkbndajpbcjaaGreatDoorVmCD
import Derived.Test.YtkbkbndajpbcjaaGreatDoorVmBH
import Derived.Test.YtkbkbndajpbcjaaGreatDoorVmBE
import Derived.Test.YtkbkbndajpbcjaaGreatDoorVmBJ
import Derived.Test.YtkbkbndajpbcjaaGreatDoorVmBF
import Derived.Test.YtkbkbndajpbcjaaGreatDoorRows
set_option maxRecDepth 1000000
set_option maxHeartbeats 0
set_option linter.all false
namespace Go.Proofs.YtkbkbndajpbcjaaGreatDoor.Vm
open Go Go.VM Go.Proofs
abbrev tE {α:Type}:Tr α:= .node none .leaf .leaf
abbrev tyF:TI:=⟨.func,1,8,[.nilfn],false,false⟩
abbrev tyP (t:Td):TI:=⟨(.ptr t),1,8,[.nilp],false,false⟩
abbrev tyS (t:Td):TI:=⟨(.slice t),1,24,[.ax],false,false⟩
noncomputable def vT:TT:=Tr.of 9 (RI Tryz.prog)
theorem Yz:zm Tryz.prog vT:=Xh (d:=9) rfl
def vFl:Ln:=[3,4,5,6,7,8,9,10,11,12,13,14,15,16,17,18,19,20,21,22,23,24,25,26,27,28,29,30,31,32,33,34,35,36,37,38,39,40,41,42,44,45,48,49,50,51,52,53,54,55,57,58,59,61,62,63,64,65,66,67,68,69,70,71,73,74,75,76,77,78,79,80,81,82,83,84,85,86,87,88,91,92,96,97,100,101,103,104,105,106,107,108,109,110,111,112,113,114,115,116,117,118,119,120,142,143,144,145,146,147,148,163,164,165,166,174,175]
noncomputable def vF:Tr Func:=Tr.of 8 (OJ Tryz.prog vFl)
theorem XO: ∀f fn,vF.get f=some fn->XC Tryz.prog f fn:=T5 (by kernel_rfl)
noncomputable def vP:List (Nat×Prim):=[(43,(.lib oG)),(46,(.lib kK)),(47,(.lib gE)),(56,(.builderString 5)),(60,(.lib (kO 183))),(93,(.lib jB)),(94,(.lib lS)),(95,(.lib jf)),(102,(.lib lJ)),(126,(.copyCheck [(76,2,0),(77,2,0),(78,4,0),(79,4,0)])),(140,.indexByte)]
noncomputable def vG:Tr LA:=(.node (some (List.replicate 128 (.int .u8 240)++List.replicate 66 (.int .u8 241)++List.replicate 30 (.int .u8 2)++[.int .u8 19]++List.replicate 12 (.int .u8 3)++[.int .u8 35,.int .u8 3,.int .u8 3,.int .u8 52,.int .u8 4,.int .u8 4,.int .u8 4,.int .u8 68]++List.replicate 11 (.int .u8 241))) (.node (some ([.int .u8 128,.int .u8 191,.int .u8 160,.int .u8 191,.int .u8 128,.int .u8 159,.int .u8 144,.int .u8 191,.int .u8 128,.int .u8 143]++List.replicate 22 (.int .u8 0))) (.node none tE .leaf) (.node none tE .leaf)) (.node (some (List.replicate 9 (.int .u8 0)++[.int .u8 1,.int .u8 1,.int .u8 1,.int .u8 1,.int .u8 1]++List.replicate 18 (.int .u8 0)++[.int .u8 1]++List.replicate 223 (.int .u8 0))) (.node none tE .leaf) (.node (some [(.opq true)]) tE .leaf)))
noncomputable def vI:List (Nat×Ln):=[(10,[38]),(13,[46]),(14,[52]),(16,[52]),(18,[59]),(19,[46]),(20,[46]),(21,[46]),(24,[38]),(36,[46]),(37,[46]),(39,[52]),(40,[46]),(41,[30]),(42,[99]),(49,[38]),(53,[82]),(54,[38]),(69,[52]),(70,[30]),(77,[46]),(103,[30]),(120,[1000056,1000057])]
noncomputable def XG:Ln:=[38,75,81,112]
noncomputable def W8:Ln:=[]
theorem TD:dR Tryz.prog vT (fun b=>vG.get b) 43 (.lib oG):=Me Tryz.call43 fun s w h=>Any.SK Tryz.lays150 (by kernel_rfl) s w h
theorem Ub:dR Tryz.prog vT (fun b=>vG.get b) 46 (.lib kK):=Iz (g3:=0) (g4:=1) Tryz.call46 (fun s w h hT=>Tryz.utf8_ValidString s w h hT) rfl rfl (by kernel_rfl) (by kernel_rfl)
theorem Uh:dR Tryz.prog vT (fun b=>vG.get b) 47 (.lib gE):=Cs Tryz.call47 fun s c w=>Tryz.strings_Contains_one s c w
theorem TS:dR Tryz.prog vT (fun b=>vG.get b) 56 (.builderString 5):=uL ⟨Tryz.call56,QL (by kernel_rfl),As,Ip⟩
theorem Wm:dR Tryz.prog vT (fun b=>vG.get b) 60 (.lib (kO 183)):=MM (g16:=6) (fun w w' h=>by rcases h with rfl | ⟨t,rfl⟩;exact Go.RowKit.Below.refl _ _;exact Lib.bytesWorld_below _ _ _) Tryz.call60 (fun s h1 v a w=>Tryz.strconv_Atoi_ok s h1 v a w) (fun s h1 a ev w c d=>(Tryz.strconv_Atoi_range s h1 a ev w c d).mono fun e w' ⟨N,f,_,_,g⟩=>⟨N,f,g⟩) rfl
theorem Wb:dR Tryz.prog vT (fun b=>vG.get b) 93 (.lib jB):=Ic Tryz.call93 fun s w h=>Tryz.utf8_RuneCountInString s w h
theorem UD:dR Tryz.prog vT (fun b=>vG.get b) 94 (.lib lS):=Gn Tryz.call94 fun s c w h1 a=>Tryz.strings_Repeat s c w h1 a
theorem VP:dR Tryz.prog vT (fun b=>vG.get b) 95 (.lib jf):=Cr Tryz.call95 fun s c w h1 a=>Tryz.strings_TrimLeft s c w h1 a
theorem RQ:dR Tryz.prog vT (fun b=>vG.get b) 102 (.lib lJ):=F4 (g3:=0) (g4:=1) Tryz.call102 (fun s w hT=>Tryz.utf8_DecodeRuneInString s w hT) rfl rfl (by kernel_rfl) (by kernel_rfl)
theorem Se:dR Tryz.prog vT (fun b=>vG.get b) 126 (.copyCheck [(76,2,0),(77,2,0),(78,4,0),(79,4,0)]):=BZ ⟨Tryz.call126,Py,fun b o w e n h1 a c d f=>Li b o w e n h1 a c d (Qs (by kernel_rfl) f)⟩
theorem QR:dR Tryz.prog vT (fun b=>vG.get b) 140 .indexByte:=BS (fun s c w=>by
 rw [run_callFunc_extern Tryz.func140 (by kernel_rfl) (by kernel_rfl) (by kernel_rfl) (e:=Extern.BytealgIndexByte.indexByte) (by kernel_rfl),Lib.run_indexByteString];rfl)
theorem Ya:Wg (fun f q=>dR Tryz.prog vT (fun b=>vG.get b) f q) vP:=⟨TD,Ub,Uh,TS,Wm,Wb,UD,VP,RQ,Se,QR,trivial⟩
noncomputable def vE:Env where
 T:=vT
 F i:=vF.get i
 prim i:=F7 vP i
 full i:=XG.any fun j=>i.beq j
 isLook i:=W8.any fun j=>i.beq j
 imm f t:=match F7 vI f with
  | some l=>l.any fun j=>t.beq j
  | none=>false
 G b:=vG.get b
 memo _:=[]
theorem Xb:Gw Tryz.prog vE:=⟨Yz,fun f fn h=>XO f fn h,Ld fun f q h=>CR Ya f q h,by kernel_rfl,(fun _ _ h=>by cases h),fun _ r _ _ h _=>absurd (show (none:Oq (LA->Oq AV))=some r from h) (by simp),fun _ r _ _ _ _ h=>absurd (show (none:Oq (LA->St->df (AV×St)))=some r from h) (by simp)⟩
abbrev sZ:St:=St.mk 0 0 Tr.leaf
abbrev nA (a b:Int) (s:LB) (y:AV):AV:= .agg [.int .u8 a,.int .u8 b,.str s,y]
abbrev nC (a b:Int) (s:LB) (y:AV):LA:=[.int .u8 a,.int .u8 b,.str s,y]
abbrev dA (a:Int) (s:LB) (b:Int) (y:AV):AV:= .agg [.int .u8 a,.str s,.int .i64 b,y]
abbrev dC (a:Int) (s:LB) (b:Int) (y:AV):LA:=[.int .u8 a,.str s,.int .i64 b,y]
noncomputable abbrev gi {β:Type} (z:Nat) (p:AV) (cs:LA) (st:St) (K:Kv β):Oq β:=aK (aQ vE) z p (.agg cs) cs st K
noncomputable abbrev wQ {β:Type} (p v:AV) (st:St) (K:Kv β):Oq β:=aK (aQ vE) 1 p v [v] st K
noncomputable abbrev bk {β:Type} (f:FuncId) (a:LA) (st:St) (K:Kv β):Oq β:=bf (aQ vE) f a st K
noncomputable def g5:AV->AV->Oq AV:=fun l m=>fG l fun n=>bK .i64 m fun a=>aC (bu (decide (a < 20)) (some ([.bool true],sZ)) (some ([.bool (decide (a > 200))],sZ))) fun c=>bo c.1 fun o p=>ct o fun q=>bQ p (bu q (some (.tup [.str [],.int .i64 1])) (bk 9 [.str n] c.2 fun d b _=>ig d fun r=>cB r 0 fun s=>aL s fun t u v e=>(ig d fun w=>cB w 1 fun y=>bK .i64 y fun f=>bM (St.add b (.cells 38 (dC 0 [] 0 .ax))) fun z=>ad e (gi 4 (.mp b.h 0) (dC t u v e) z fun _ g _=>bu (f != 0) (some (.tup [.str [],.int .i64 f])) (ao 4 true (.mp b.h 0) g fun x _=>aL x fun A B C D=>(bk 10 [dA A B C D,.int .i64 a] g fun i _ _=>ig i fun E=>cB E 0 fun F=>fG F fun j=>ig i fun G=>cB G 1 fun H=>bK .i64 H fun k=>bu (k != 0) (some (.tup [.str [],.int .i64 k])) (bu (decide ((↑j.length:Int) > 65536)) (some (.tup [.str [],.int .i64 40])) (some (.tup [.str j,.int .i64 0])))))))))
theorem W9 (a b:AV):bB vE 5 [a,b]=g5 a b:=by kernel_rfl
noncomputable def Kc (l:AV) (m:Nat):cJ->Oq (cJ ⊕ Nat×cJ):=fun a=>bo a.1 fun e n=>bo n fun o p=>bK .i64 o fun b=>bQ p (bu (decide (b < (↑m:Int))) (bL 4 l b a.2 fun q _=>ao 4 true q a.2 fun r _=>az r fun f g i c=>(bM (St.add a.2 (.cells 46 (nC 0 0 [] .ax))) fun s=>ad c (aK (aQ vE) 4 (.mp (St.h a.2) 0) (nA f g i c) (nC f g i c) s fun _ j _=>ao 4 true (.mp (St.h a.2) 0) j fun t _=>az t fun u v w y=>(bk 20 [nA u v w y] j fun z x _=>aL z fun A B C d=>(ad d (ad d (aD d fun k=>ad k (aD k fun D=>eI 4 56 38 e [dA A B C D] x fun E F _=>bx (IntKind.wrap .i64 (b+1)) fun G=>some (Sum.inl ([E,.int .i64 G],F)))))))))) (some (Sum.inr (0,[e],a.2))))
noncomputable def K6 (f:AV) (g:Nat):cJ->Oq (cJ ⊕ Nat×cJ):=fun a=>bo a.1 fun d h=>bo h fun i j=>bK .i64 i fun b=>bQ j (bu (decide (b < (↑g:Int))) (bL 1 f b a.2 fun k _=>ao 1 false k a.2 fun l _=>fG l fun m=>bk 22 [.str m] a.2 fun n o _=>aL n fun p q r c=>(ad c (ad c (aD c fun e=>ad e (aD e fun s=>eI 4 56 38 d [dA p q r s] o fun t u _=>bx (IntKind.wrap .i64 (b+1)) fun v=>some (Sum.inl ([t,.int .i64 v],u))))))) (some (Sum.inr (0,[d],a.2))))
noncomputable def KL (o:AV) (b:St) (p:Nat):cJ->Oq (cJ ⊕ Nat×cJ):=fun a=>bo a.1 fun q r=>bK .i64 q fun c=>bQ r (bu (decide (c < (↑p:Int))) (bL 4 o c a.2 fun s _=>ao 4 true s a.2 fun t _=>aL t fun k l m e=>(bM (St.add a.2 (.cells 38 (dC 0 [] 0 .ax))) fun u=>ad e (aK (aQ vE) 4 (.mp (St.h a.2) 0) (dA k l m e) (dC k l m e) u fun _ f _=>aC (bu (decide (c > 0)) (ao 1 false (.mp b.h 3) f fun v _=>eI 4 56 38 v [dA 4 [] 0 .ax] f fun g w _=>ad g (ad g (wQ (.mp b.h 3) g w fun _ y _=>some ([],y)))) (some ([],f))) fun d=>bQ d.1 (ao 1 false (.mp b.h 3) d.2 fun z _=>ao 4 true (.mp (St.h a.2) 0) d.2 fun x _=>aL x fun A B C i=>(ad i (ad i (aD i fun n=>ad n (aD n fun D=>eI 4 56 38 z [dA A B C D,dA 4 [] 0 .ax] d.2 fun j E _=>ad j (ad j (wQ (.mp b.h 3) j E fun _ F _=>bx (IntKind.wrap .i64 (c+1)) fun G=>some (Sum.inl ([.int .i64 G],F)))))))))))) (some (Sum.inr (0,[],a.2))))
noncomputable def g9:AV->Oq AV:=fun w=>fG w fun y=>bk 12 [.str y] (St.mk 1 0 (.node (some (.cells 38 (dC 0 [] 0 .ax))) .leaf .leaf)) fun i a _=>ig i fun z=>cB z 0 fun x=>az x fun A B C j=>(ig i fun D=>cB D 1 fun E=>bK .i64 E fun k=>bM (St.add a (.cells 46 (nC 0 0 [] .ax))) fun F=>ad j (gi 4 (.mp a.h 0) (nC A B C j) F fun _ e _=>bu (k != 0) (gi 4 (.mp 0 0) (dC 0 [] 0 .ax) e fun _ l _=>ao 4 true (.mp 0 0) l fun G _=>aL G fun H I J K=>(eF l 0 (.tup [dA H I J K,.int .i64 k]) fun L=>some L)) (ao 4 true (.mp a.h 0) e fun M _=>az M fun N O P Q=>(bk 13 [nA N O P Q] e fun R f _=>ct R fun S=>bu (!S) (gi 4 (.mp 0 0) (dC 0 [] 0 .ax) f fun _ m _=>ao 4 true (.mp 0 0) m fun T _=>aL T fun U V W X=>(eF m 0 (.tup [dA U V W X,.int .i64 50]) fun Y=>some Y)) (ao 4 true (.mp a.h 0) f fun Z _=>az Z fun c6 c7 c8 c9=>(bk 19 [nA c6 c7 c8 c9] f fun d0 c _=>ct d0 fun d1=>bu d1 (gi 4 (.mp 0 0) (dC 0 [] 0 .ax) c fun _ n _=>ao 4 true (.mp 0 0) n fun d2 _=>aL d2 fun d3 d4 d5 d6=>(eF n 0 (.tup [dA d3 d4 d5 d6,.int .i64 4]) fun d7=>some d7)) (ao 1 false (.mp a.h 3) c fun d8 _=>dm d8 fun d9=>bx (IntKind.wrap .i64 ((↑d9:Int) - 1)) fun o=>ao 1 false (.mp a.h 3) c fun e0 _=>dL 4 e0 none (some o) none fun p=>dm p fun e1=>aC (bl (Kc p e1) ([.ax,.int .i64 0],c)) fun b=>bo b.2.1 fun e2 e3=>bQ e3 (ao 1 false (.mp a.h 3) b.2.2 fun e4 _=>bL 4 e4 o b.2.2 fun e5 _=>ao 4 true e5 b.2.2 fun e6 _=>az e6 fun e7 e8 e9 f0=>(bk 21 [nA e7 e8 e9 f0] b.2.2 fun q f1 _=>dm q fun f2=>aC (bl (K6 q f2) ([e2,.int .i64 0],f1)) fun r=>bo r.2.1 fun s f3=>bQ f3 (bk 23 [.ax] r.2.2 fun f4 d _=>aL f4 fun f5 f6 f7 t=>(bM (St.add d (.cells 38 (dC 0 [] 0 .ax))) fun f8=>ad t (gi 4 (.mp d.h 0) (dC f5 f6 f7 t) f8 fun _ f9 _=>dm s fun h0=>aC (bl (KL s d h0) ([.int .i64 0],f9)) fun g=>bQ g.2.1 (ao 4 true (.mp d.h 0) g.2.2 fun h1 _=>aL h1 fun h2 h3 h4 u=>(ad u (gi 4 (.mp 0 0) (dC h2 h3 h4 u) g.2.2 fun _ v _=>ao 4 true (.mp 0 0) v fun h5 _=>aL h5 fun h6 h7 h8 h9=>(eF v 0 (.tup [dA h6 h7 h8 h9,.int .i64 0]) fun i0=>some i0))))))))))))))))
theorem X4 (a:AV):bB vE 9 [a]=g9 a:=by kernel_rfl
noncomputable def g19:AV->Oq AV:=fun g=>az g fun h b c d=>(ad d (aD d fun a=>aC (bu (h==1) (bu (b==2) (cE (aQ vE) (dK (Prim.lib oG) [.str c,.str [10,13]]) sZ fun i e _=>ct i fun j=>bu j (some ([.bool true],e)) (bk 35 [a,.fn (Fn.func 19) [] []] e fun k l _=>ct k fun m=>some ([.bool m],l))) (bu (b==7) (cE (aQ vE) (dK (Prim.lib oG) [.str c,.str [10,13]]) sZ fun n f _=>ct n fun o=>bu o (some ([.bool true],f)) (bk 35 [a,.fn (Fn.func 19) [] []] f fun p q _=>ct p fun r=>some ([.bool r],q))) (bk 35 [a,.fn (Fn.func 19) [] []] sZ fun s t _=>ct s fun u=>some ([.bool u],t)))) (bk 35 [a,.fn (Fn.func 19) [] []] sZ fun v w _=>ct v fun y=>some ([.bool y],w))) fun z=>bo z.1 fun x A=>ct x fun B=>bQ A (some (.bool B))))
theorem Wh (a:AV):bB vE 19 [a]=g19 a:=by kernel_rfl
noncomputable def Jg (h:AV) (i:Nat):cJ->Oq (cJ ⊕ Nat×cJ):=fun a=>bo a.1 fun e j=>bo j fun k l=>bK .i64 k fun b=>bQ l (bu (decide (b < (↑i:Int))) (bL 1 h b a.2 fun m _=>ao 1 false m a.2 fun n _=>fG n fun o=>bk 22 [.str o] a.2 fun p q _=>aL p fun r s t c=>(bk 45 [] q fun u v _=>aL u fun w y z d=>(ad c (ad d (ad c (aD c fun f=>ad d (aD d fun g=>ad f (aD f fun x=>ad g (aD g fun A=>eI 4 56 38 e [dA r s t x,dA w y z A] v fun B C _=>bx (IntKind.wrap .i64 (b+1)) fun D=>some (Sum.inl ([B,.int .i64 D],C))))))))))) (some (Sum.inr (0,[e],a.2))))
noncomputable def g20:AV->Oq AV:=fun o=>az o fun b p d e=>(ad e (aD e fun f=>bu (b != 1) (bk 44 [] (St.mk 1 0 (.node (some (.cells 38 (dC 0 [] 0 .ax))) .leaf .leaf)) fun q r a=>cf (apart a (⟨[],.kept⟩)&&true) (cf (apart a (⟨[],.kept⟩)&&true) (cE (aQ vE) (iT (Env.T vE) 105 q (.int .u8 b) false) r fun s t g=>cf (apart g (⟨[],.kept⟩)&&(apart a (⟨[],.kept⟩)&&true)) (cf (apart g (⟨[],.kept⟩)&&(apart a (⟨[],.kept⟩)&&true)) (iZ (aQ vE) (Sx.prim (sx vE 20)) s [f] t fun u v _=>aL u fun w y z h=>(ad h (gi 4 (.mp 0 0) (dC w y z h) v fun _ i _=>ao 4 true (.mp 0 0) i fun x _=>aL x fun A B C D=>(eF i 0 (dA A B C D) fun E=>some E)))))))) (bk 21 [nA b p d f] (St.mk 1 0 (.node (some (.cells 38 (dC 0 [] 0 .ax))) .leaf .leaf)) fun j F _=>dm j fun G=>aC (bl (Jg j G) ([.ax,.int .i64 0],F)) fun k=>bo k.2.1 fun H I=>bQ I (bk 22 [.str d] k.2.2 fun J K _=>aL J fun L M N c=>(ad c (ad c (aD c fun l=>ad l (aD l fun O=>eI 4 56 38 H [dA L M N O] K fun P Q _=>bk 23 [P] Q fun R S _=>aL R fun U V W m=>(ad m (gi 4 (.mp 0 0) (dC U V W m) S fun _ n _=>ao 4 true (.mp 0 0) n fun X _=>aL X fun Y Z c6 c7=>(eF n 0 (dA Y Z c6 c7) fun c8=>some c8)))))))))))
theorem OM (a:AV):bB vE 20 [a]=g20 a:=by kernel_rfl
noncomputable def Iv (k:AV) (l:Nat):cJ->Oq (cJ ⊕ Nat×cJ):=fun a=>bo a.1 fun c m=>bo m fun n o=>bK .i64 n fun d=>bQ o (bu (decide (d < (↑l:Int))) (bL 4 k d a.2 fun p _=>ao 4 true p a.2 fun q _=>az q fun f g i e=>(bM (St.add a.2 (.cells 46 (nC 0 0 [] .ax))) fun r=>ad e (aK (aQ vE) 4 (.mp (St.h a.2) 0) (nA f g i e) (nC f g i e) r fun _ b _=>ao 1 false (.mp (St.h a.2) 1) b fun s _=>bK .u8 s fun t=>aC (bu (t==2) (ao 1 false (.mp (St.h a.2) 2) b fun u _=>fG u fun v=>eI 1 16 9 c [.str v] b fun w y _=>some ([w],y)) (some ([c],b))) fun j=>bo j.1 fun z x=>bQ x (bx (IntKind.wrap .i64 (d+1)) fun A=>some (Sum.inl ([z,.int .i64 A],j.2)))))) (some (Sum.inr (0,[c],a.2))))
noncomputable def g21:AV->Oq AV:=fun d=>az d fun _ _ _ a=>(ad a (aD a fun b=>dm b fun e=>aC (bl (Iv b e) ([.ax,.int .i64 0],sZ)) fun c=>bo c.2.1 fun f g=>bQ g (eF c.2.2 0 (oneOf [f]) fun h=>some h)))
theorem T8 (a:AV):bB vE 21 [a]=g21 a:=by kernel_rfl
noncomputable def g22:AV->Oq AV:=fun a=>fG a fun b=>some (dA 1 b 0 .ax)
theorem UP (a:AV):bB vE 22 [a]=g22 a:=by kernel_rfl
noncomputable def g23:AV->Oq AV:=fun a=>ad a (ad a (eF (St.mk 1 0 (.node (some (.cells 38 (dC 7 [] 0 a))) .leaf .leaf)) 0 (dA 7 [] 0 a) fun b=>some b))
theorem VA (a:AV):bB vE 23 [a]=g23 a:=by kernel_rfl
noncomputable def ZU:Oq AV:=some (.im [(.int .u8 5,.fn (Fn.func 73) [] []),(.int .u8 7,.fn (Fn.func 73) [] []),(.int .u8 6,.fn (Fn.func 79) [] []),(.int .u8 8,.fn (Fn.func 80) [] []),(.int .u8 9,.fn (Fn.func 83) [] []),(.int .u8 10,.fn (Fn.func 84) [] []),(.int .u8 11,.fn (Fn.func 85) [] []),(.int .u8 12,.fn (Fn.func 86) [] []),(.int .u8 16,.fn (Fn.func 87) [] []),(.int .u8 13,.fn (Fn.func 88) [] []),(.int .u8 14,.fn (Fn.func 76) [] []),(.int .u8 15,.fn (Fn.func 76) [] []),(.int .u8 17,.fn (Fn.func 76) [] []),(.int .u8 18,.fn (Fn.func 76) [] [])])
theorem TG:bB vE 44 []=ZU:=by kernel_rfl
noncomputable def g45:Oq AV:=some (dA 2 [] 0 .ax)
theorem Vd:bB vE 45 []=g45:=by kernel_rfl
noncomputable def g73:AV->Oq AV:=fun c=>bk 75 [c] (St.mk 1 0 (.node (some (.cells 38 (dC 0 [] 0 .ax))) .leaf .leaf)) fun d e _=>bk 74 [d] e fun f g _=>aL f fun h i j a=>(ad a (gi 4 (.mp 0 0) (dC h i j a) g fun _ b _=>ao 4 true (.mp 0 0) b fun k _=>aL k fun l m n o=>(eF b 0 (dA l m n o) fun p=>some p)))
theorem Ui (a:AV):bB vE 73 [a]=g73 a:=by kernel_rfl
noncomputable def g74:AV->Oq AV:=fun a=>ad a (ad a (eF (St.mk 1 0 (.node (some (.cells 38 (dC 6 [] 0 a))) .leaf .leaf)) 0 (dA 6 [] 0 a) fun b=>some b))
theorem TB (a:AV):bB vE 74 [a]=g74 a:=by kernel_rfl
noncomputable def w75:AV->St->Oq (AV×St):=fun d st=>dm d fun n=>bx (IntKind.wrap .i64 ((↑n:Int) - 1)) fun l=>dL 4 d none (some l) none fun o=>bk 82 [] st fun p q a=>aL p fun r s t e=>(cf (apart (⟨[],.kept⟩) a&&(apart (⟨[],.kept⟩) a&&(apart (⟨[],.kept⟩) a&&true))) (ad e (ad e (aD e fun u=>bk 81 [o,.sl 4 [dA r s t u] .shut] q fun v w b=>bk 45 [] w fun y f c=>aL y fun z x A g=>(cf (apart c (⟨[],.kept⟩)&&(apart b (⟨[],.kept⟩)&&(apart a (⟨[],.kept⟩)&&true))) (cf (apart c (⟨[],.kept⟩)&&(apart b (⟨[],.kept⟩)&&(apart a (⟨[],.kept⟩)&&true))) (bL 4 d l f fun B h=>cf (apart c (Fx.mk h eS.kept)&&(apart b (Fx.mk h eS.kept)&&(apart a (Fx.mk h eS.kept)&&true))) (ao 4 true B f fun C i=>az C fun D E F G=>(cf (apart c (Fx.mk i eS.kept)&&(apart b (Fx.mk i eS.kept)&&(apart a (Fx.mk i eS.kept)&&true))) (bk 20 [nA D E F G] f fun H I _=>aL H fun J K L j=>(ad g (ad j (ad g (aD g fun M=>ad j (aD j fun N=>bk 78 [.int .i64 2,.sl 4 [dA z x A M,dA J K L N] .shut] I fun O P _=>aL O fun Q R S k=>(ad k (ad k (aD k fun m=>ad m (aD m fun T=>eI 4 56 38 v [dA Q R S T] P fun U V _=>some (oneOf [U],V))))))))))))))))))))
theorem UY (a:AV) (st:St):dT vE 75 [a] st=w75 a st:=by kernel_rfl
noncomputable def IM (r:AV) (s:Nat):cJ->Oq (cJ ⊕ Nat×cJ):=fun a=>bo a.1 fun f t=>bo t fun u v=>bK .i64 u fun b=>bQ v (bu (decide (b < (↑s:Int))) (bL 4 r b a.2 fun w _=>ao 4 true w a.2 fun y _=>az y fun g i j c=>(bM (St.add a.2 (.cells 46 (nC 0 0 [] .ax))) fun z=>ad c (aK (aQ vE) 4 (.mp (St.h a.2) 0) (nA g i j c) (nC g i j c) z fun _ k _=>ao 4 true (.mp (St.h a.2) 0) k fun x _=>az x fun A B C D=>(bk 20 [nA A B C D] k fun E F _=>aL E fun G H I d=>(ad d (ad d (aD d fun l=>ad l (aD l fun J=>eI 4 56 38 f [dA G H I J] F fun m n _=>ao 4 true (.mp (St.h a.2) 0) n fun K _=>az K fun L M N O=>(bk 77 [nA L M N O,.sl 1 [.str [44],.str [59]] .shut] n fun P o _=>ct P fun Q=>aC (bu Q (bk 45 [] o fun R S _=>aL R fun T U V e=>(ad e (ad e (aD e fun p=>ad p (aD p fun W=>eI 4 56 38 m [dA T U V W] S fun X Y _=>some ([X],Y)))))) (some ([m],o))) fun q=>bo q.1 fun Z c7=>bQ c7 (bx (IntKind.wrap .i64 (b+1)) fun c8=>some (Sum.inl ([Z,.int .i64 c8],q.2)))))))))))) (some (Sum.inr (0,[f],a.2))))
noncomputable def g76:AV->Oq AV:=fun c=>dm c fun n=>bx (IntKind.wrap .i64 ((↑n:Int) - 1)) fun o=>dL 4 c (some 1) (some o) none fun i=>dm i fun p=>aC (bl (IM i p) ([.ax,.int .i64 0],St.mk 1 0 (.node (some (.cells 38 (dC 0 [] 0 .ax))) .leaf .leaf))) fun d=>bo d.2.1 fun q r=>bQ r (bL 4 c 0 d.2.2 fun s _=>ao 4 true s d.2.2 fun t _=>az t fun u v w y=>(bk 20 [nA u v w y] d.2.2 fun z x a=>aL z fun A B C e=>(cf (apart a (⟨[],.kept⟩)&&true) (bk 78 [.int .i64 1,q] x fun D f b=>aL D fun E F G g=>(cf (apart b (⟨[],.kept⟩)&&(apart a (⟨[],.kept⟩)&&true)) (cf (apart b (⟨[],.kept⟩)&&(apart a (⟨[],.kept⟩)&&true)) (dm c fun H=>cf (apart b (⟨[],.kept⟩)&&(apart a (⟨[],.kept⟩)&&true)) (bx (IntKind.wrap .i64 ((↑H:Int) - 1)) fun I=>cf (apart b (⟨[],.kept⟩)&&(apart a (⟨[],.kept⟩)&&true)) (bL 4 c I f fun J j=>cf (apart b (Fx.mk j eS.kept)&&(apart a (Fx.mk j eS.kept)&&true)) (ao 4 true J f fun K k=>az K fun L M N O=>(cf (apart b (Fx.mk k eS.kept)&&(apart a (Fx.mk k eS.kept)&&true)) (bk 20 [nA L M N O] f fun P Q _=>aL P fun R S T h=>(ad e (ad g (ad h (ad e (aD e fun U=>ad g (aD g fun V=>ad h (aD h fun W=>bk 74 [.sl 4 [dA A B C U,dA E F G V,dA R S T W] .shut] Q fun X Y _=>aL X fun Z c7 c8 l=>(ad l (gi 4 (.mp 0 0) (dC Z c7 c8 l) Y fun _ m _=>ao 4 true (.mp 0 0) m fun c9 _=>aL c9 fun d0 d1 d2 d3=>(eF m 0 (dA d0 d1 d2 d3) fun d4=>some d4))))))))))))))))))))))
theorem VG (a:AV):bB vE 76 [a]=g76 a:=by kernel_rfl
noncomputable def ZQ:AV->AV->Oq AV:=fun b c=>az b fun d e f a=>(ad a (aD a fun _=>aC (bu (d==1) (bu (e==8) (bk 104 [c,.str f] sZ fun g h _=>ct g fun i=>some ([.bool i],h)) (some ([.bool false],sZ))) (some ([.bool false],sZ))) fun j=>bo j.1 fun k l=>ct k fun m=>bQ l (some (.bool m))))
theorem UL (a b:AV):bB vE 77 [a,b]=ZQ a b:=by kernel_rfl
noncomputable def g78:AV->AV->Oq AV:=fun c a=>bK .i64 c fun b=>ad a (ad a (eF (St.mk 1 0 (.node (some (.cells 38 (dC 5 [] b a))) .leaf .leaf)) 0 (dA 5 [] b a) fun d=>some d))
theorem TM (a b:AV):bB vE 78 [a,b]=g78 a b:=by kernel_rfl
noncomputable def ZV:AV->Oq AV:=fun e=>dm e fun w=>bx (IntKind.wrap .i64 ((↑w:Int) - 2)) fun h=>dL 4 e none (some h) none fun y=>bk 75 [y] (St.mk 1 0 (.node (some (.cells 38 (dC 0 [] 0 .ax))) .leaf .leaf)) fun z x a=>bk 45 [] x fun A i b=>aL A fun B C D j=>(cf (apart b (⟨[],.kept⟩)&&(apart a (⟨[],.kept⟩)&&true)) (cf (apart b (⟨[],.kept⟩)&&(apart a (⟨[],.kept⟩)&&true)) (bL 4 e h i fun E o=>cf (apart b (Fx.mk o eS.kept)&&(apart a (Fx.mk o eS.kept)&&true)) (ao 4 true E i fun F p=>az F fun G H I J=>(cf (apart b (Fx.mk p eS.kept)&&(apart a (Fx.mk p eS.kept)&&true)) (bk 20 [nA G H I J] i fun K L c=>aL K fun M N O k=>(bk 45 [] L fun P l d=>aL P fun Q R S m=>(cf (apart d (⟨[],.kept⟩)&&(apart c (⟨[],.kept⟩)&&(apart b (⟨[],.kept⟩)&&(apart a (⟨[],.kept⟩)&&true)))) (cf (apart d (⟨[],.kept⟩)&&(apart c (⟨[],.kept⟩)&&(apart b (⟨[],.kept⟩)&&(apart a (⟨[],.kept⟩)&&true)))) (bx (IntKind.wrap .i64 (h+1)) fun T=>cf (apart d (⟨[],.kept⟩)&&(apart c (⟨[],.kept⟩)&&(apart b (⟨[],.kept⟩)&&(apart a (⟨[],.kept⟩)&&true)))) (bL 4 e T l fun U f=>cf (apart d (Fx.mk f eS.kept)&&(apart c (Fx.mk f eS.kept)&&(apart b (Fx.mk f eS.kept)&&(apart a (Fx.mk f eS.kept)&&true)))) (ao 4 true U l fun V g=>az V fun W X Y Z=>(cf (apart d (Fx.mk g eS.kept)&&(apart c (Fx.mk g eS.kept)&&(apart b (Fx.mk g eS.kept)&&(apart a (Fx.mk g eS.kept)&&true)))) (bk 20 [nA W X Y Z] l fun c6 c7 _=>aL c6 fun c8 c9 d0 n=>(ad j (ad k (ad m (ad n (ad j (aD j fun q=>ad k (aD k fun r=>ad m (aD m fun s=>ad n (aD n fun t=>ad q (aD q fun d1=>ad r (aD r fun d2=>ad s (aD s fun d3=>ad t (aD t fun d4=>eI 4 56 38 z [dA B C D d1,dA M N O d2,dA Q R S d3,dA c8 c9 d0 d4] c7 fun d5 d6 _=>bk 74 [d5] d6 fun d7 d8 _=>aL d7 fun d9 e0 e1 u=>(ad u (gi 4 (.mp 0 0) (dC d9 e0 e1 u) d8 fun _ v _=>ao 4 true (.mp 0 0) v fun e2 _=>aL e2 fun e3 e4 e5 e6=>(eF v 0 (dA e3 e4 e5 e6) fun e7=>some e7))))))))))))))))))))))))))))))
theorem Ut (a:AV):bB vE 79 [a]=ZV a:=by kernel_rfl
noncomputable def g80:AV->Oq AV:=fun h=>bk 82 [] (St.mk 1 0 (.node (some (.cells 38 (dC 0 [] 0 .ax))) .leaf .leaf)) fun i j _=>aL i fun k l m a=>(bk 45 [] j fun n o _=>aL n fun p q r b=>(bk 82 [] o fun s t _=>aL s fun u v w c=>(bk 45 [] t fun y z _=>aL y fun x A B d=>(bk 82 [] z fun C D _=>aL C fun E F G e=>(ad a (ad b (ad c (ad d (ad e (ad a (aD a fun H=>ad b (aD b fun I=>ad c (aD c fun J=>ad d (aD d fun K=>ad e (aD e fun L=>bk 81 [h,.sl 4 [dA k l m H,dA p q r I,dA u v w J,dA x A B K,dA E F G L] .shut] D fun M N _=>bk 74 [M] N fun O P _=>aL O fun Q R S f=>(ad f (gi 4 (.mp 0 0) (dC Q R S f) P fun _ g _=>ao 4 true (.mp 0 0) g fun T _=>aL T fun U V W X=>(eF g 0 (dA U V W X) fun Y=>some Y))))))))))))))))))
theorem V3 (a:AV):bB vE 80 [a]=g80 a:=by kernel_rfl
noncomputable def HY (r:AV) (j:AV) (s:Nat):cJ->Oq (cJ ⊕ Nat×cJ):=fun a=>bo a.1 fun d t=>bo t fun u v=>bK .i64 u fun b=>bQ v (bu (decide (b < (↑s:Int))) (bL 4 r b a.2 fun w _=>ao 4 true w a.2 fun y _=>az y fun k l m e=>(bM (St.add a.2 (.cells 46 (nC 0 0 [] .ax))) fun z=>ad e (aK (aQ vE) 4 (.mp (St.h a.2) 0) (nA k l m e) (nC k l m e) z fun _ c _=>aC (bu (decide (b > 0)) (bx (IntKind.wrap .i64 (b - 1)) fun n=>dm j fun x=>bx (IntKind.wrap .i64 ((↑x:Int) - 1)) fun o=>bx (if o < n then o else n) fun A=>bL 4 j A c fun B _=>ao 4 true B c fun C _=>aL C fun D E F f=>(ad f (ad f (aD f fun p=>ad p (aD p fun G=>eI 4 56 38 d [dA D E F G] c fun H I _=>some ([H],I)))))) (some ([d],c))) fun g=>bo g.1 fun J K=>bQ K (ao 4 true (.mp (St.h a.2) 0) g.2 fun L _=>az L fun M N O P=>(bk 20 [nA M N O P] g.2 fun Q R _=>aL Q fun S T U i=>(ad i (ad i (aD i fun q=>ad q (aD q fun V=>eI 4 56 38 J [dA S T U V] R fun W X _=>bx (IntKind.wrap .i64 (b+1)) fun Y=>some (Sum.inl ([W,.int .i64 Y],X))))))))))) (some (Sum.inr (0,[d],a.2))))
noncomputable def ZT:AV->AV->St->Oq (AV×St):=fun a c st=>dm a fun d=>aC (bl (HY a c d) ([.ax,.int .i64 0],st)) fun b=>bo b.2.1 fun e f=>bQ f (some (oneOf [e],Prod.snd b.2))
theorem Ul (a b:AV) (st:St):dT vE 81 [a,b] st=ZT a b st:=by kernel_rfl
noncomputable def IV (d:AV):cJ->Oq (cJ ⊕ Nat×cJ):=fun e=>bo e.1 fun j q=>bo q fun r s=>bK .i64 r fun b=>bQ s (dm d fun t=>bu (decide (b < (↑t:Int))) (bk 45 [] e.2 fun u c _=>aL u fun v w y k=>(bM (St.add c (.cells 38 (dC 0 [] 0 .ax))) fun z=>ad k (gi 4 (.mp c.h 0) (dC v w y k) z fun _ f _=>bx (IntKind.wrap .i64 (b - 1)) fun x=>bL 4 d x f fun A _=>ao 4 true A f fun B _=>az B fun C D E F=>(bk 77 [nA C D E F,.sl 1 [.str [124]] .shut] f fun G l _=>ct G fun H=>aC (bu H (bk 82 [] l fun I J _=>aL I fun K L M m=>(ad m (gi 4 (.mp c.h 0) (dC K L M m) J fun _ N _=>some ([],N)))) (some ([],l))) fun a=>bQ a.1 (ao 4 true (.mp c.h 0) a.2 fun O P=>aL O fun Q R S g=>(bL 4 d b a.2 fun T _=>ao 4 true T a.2 fun U _=>az U fun V W X Y=>(bk 20 [nA V W X Y] a.2 fun Z c7 n=>aL Z fun c8 c9 d0 i=>(cf (apart (Fx.mk P eS.kept) n&&(apart (⟨[],.kept⟩) n&&true)) (ad g (ad i (ad g (aD g fun o=>ad i (aD i fun p=>ad o (aD o fun d1=>ad p (aD p fun d2=>eI 4 56 38 j [dA Q R S d1,dA c8 c9 d0 d2] c7 fun d3 d4 _=>bx (IntKind.wrap .i64 (b+1)) fun d5=>some (Sum.inl ([d3,.int .i64 d5],d4))))))))))))))))) (some (Sum.inr (0,[j],e.2))))
noncomputable def g83:AV->Oq AV:=fun b=>dL 4 b none (some 3) none fun g=>bk 82 [] (St.mk 1 0 (.node (some (.cells 38 (dC 0 [] 0 .ax))) .leaf .leaf)) fun h i c=>aL h fun j k l a=>(cf (apart (⟨[],.kept⟩) c&&(apart (⟨[],.kept⟩) c&&true)) (ad a (ad a (aD a fun m=>bk 81 [g,.sl 4 [dA j k l m] .shut] i fun n o _=>aC (bl (IV b) ([n,.int .i64 3],o)) fun d=>bo d.2.1 fun p q=>bQ q (bk 74 [p] d.2.2 fun r s _=>aL r fun t u v e=>(ad e (gi 4 (.mp 0 0) (dC t u v e) s fun _ f _=>ao 4 true (.mp 0 0) f fun w _=>aL w fun y z x A=>(eF f 0 (dA y z x A) fun B=>some B))))))))
theorem Tz (a:AV):bB vE 83 [a]=g83 a:=by kernel_rfl
noncomputable def ZR:AV->Oq AV:=fun k=>dL 4 k none (some 2) none fun o=>bk 82 [] (St.mk 1 0 (.node (some (.cells 38 (dC 0 [] 0 .ax))) .leaf .leaf)) fun p q a=>aL p fun r s t b=>(cf (apart (⟨[],.kept⟩) a&&(apart (⟨[],.kept⟩) a&&true)) (ad b (ad b (aD b fun u=>bk 81 [o,.sl 4 [dA r s t u] .shut] q fun v w c=>bk 45 [] w fun y d e=>aL y fun z x A f=>(cf (apart e (⟨[],.kept⟩)&&(apart c (⟨[],.kept⟩)&&(apart a (⟨[],.kept⟩)&&true))) (bL 4 k 2 d fun B g=>cf (apart e (Fx.mk g eS.kept)&&(apart c (Fx.mk g eS.kept)&&(apart a (Fx.mk g eS.kept)&&true))) (ao 4 true B d fun C h=>az C fun D E F G=>(cf (apart e (Fx.mk h eS.kept)&&(apart c (Fx.mk h eS.kept)&&(apart a (Fx.mk h eS.kept)&&true))) (bk 20 [nA D E F G] d fun H I _=>aL H fun J K L i=>(ad f (ad i (ad f (aD f fun M=>ad i (aD i fun N=>bk 78 [.int .i64 4,.sl 4 [dA z x A M,dA J K L N] .shut] I fun O P _=>aL O fun Q R S j=>(ad j (ad j (aD j fun l=>ad l (aD l fun T=>eI 4 56 38 v [dA Q R S T] P fun U V _=>bk 74 [U] V fun W X _=>aL W fun Y Z c7 m=>(ad m (gi 4 (.mp 0 0) (dC Y Z c7 m) X fun _ n _=>ao 4 true (.mp 0 0) n fun c8 _=>aL c8 fun c9 d0 d1 d2=>(eF n 0 (dA c9 d0 d1 d2) fun d3=>some d3)))))))))))))))))))))
theorem U6 (a:AV):bB vE 84 [a]=ZR a:=by kernel_rfl
noncomputable def g85:AV->Oq AV:=fun e=>bk 45 [] (St.mk 1 0 (.node (some (.cells 38 (dC 0 [] 0 .ax))) .leaf .leaf)) fun f g _=>aL f fun h i j a=>(bk 82 [] g fun k l _=>aL k fun m n o b=>(ad a (ad b (ad a (aD a fun p=>ad b (aD b fun q=>bk 81 [e,.sl 4 [dA h i j p,dA m n o q] .shut] l fun r s _=>bk 74 [r] s fun t u _=>aL t fun v w y c=>(ad c (gi 4 (.mp 0 0) (dC v w y c) u fun _ d _=>ao 4 true (.mp 0 0) d fun z _=>aL z fun x A B C=>(eF d 0 (dA x A B C) fun D=>some D)))))))))
theorem Vt (a:AV):bB vE 85 [a]=g85 a:=by kernel_rfl
noncomputable def Z6:AV->Oq AV:=fun d=>bk 82 [] (St.mk 1 0 (.node (some (.cells 38 (dC 0 [] 0 .ax))) .leaf .leaf)) fun e f _=>aL e fun g h i a=>(ad a (ad a (aD a fun j=>bk 81 [d,.sl 4 [dA g h i j] .shut] f fun k l _=>bk 23 [k] l fun m n _=>aL m fun o p q b=>(ad b (gi 4 (.mp 0 0) (dC o p q b) n fun _ c _=>ao 4 true (.mp 0 0) c fun r _=>aL r fun s t u v=>(eF c 0 (dA s t u v) fun w=>some w))))))
theorem Vn (a:AV):bB vE 86 [a]=Z6 a:=by kernel_rfl
noncomputable def g87:AV->Oq AV:=fun d=>bk 82 [] (St.mk 1 0 (.node (some (.cells 38 (dC 0 [] 0 .ax))) .leaf .leaf)) fun e f _=>aL e fun g h i a=>(ad a (ad a (aD a fun j=>bk 81 [d,.sl 4 [dA g h i j] .shut] f fun k l _=>bk 23 [k] l fun m n _=>aL m fun o p q b=>(ad b (gi 4 (.mp 0 0) (dC o p q b) n fun _ c _=>ao 4 true (.mp 0 0) c fun r _=>aL r fun s t u v=>(eF c 0 (dA s t u v) fun w=>some w))))))
theorem UW (a:AV):bB vE 87 [a]=g87 a:=by kernel_rfl
noncomputable def g88:AV->Oq AV:=fun h=>bL 4 h 0 (St.mk 1 0 (.node (some (.cells 38 (dC 0 [] 0 .ax))) .leaf .leaf)) fun m _=>ao 4 true m (St.mk 1 0 (.node (some (.cells 38 (dC 0 [] 0 .ax))) .leaf .leaf)) fun n _=>az n fun o p q r=>(bk 20 [nA o p q r] (St.mk 1 0 (.node (some (.cells 38 (dC 0 [] 0 .ax))) .leaf .leaf)) fun s t a=>aL s fun u v w b=>(bk 45 [] t fun y c d=>aL y fun z x A e=>(cf (apart d (⟨[],.kept⟩)&&(apart a (⟨[],.kept⟩)&&true)) (bL 4 h 1 c fun B i=>cf (apart d (Fx.mk i eS.kept)&&(apart a (Fx.mk i eS.kept)&&true)) (ao 4 true B c fun C j=>az C fun D E F G=>(cf (apart d (Fx.mk j eS.kept)&&(apart a (Fx.mk j eS.kept)&&true)) (bk 20 [nA D E F G] c fun H I _=>aL H fun J K L f=>(ad e (ad f (ad e (aD e fun M=>ad f (aD f fun N=>bk 78 [.int .i64 2,.sl 4 [dA z x A M,dA J K L N] .shut] I fun O P _=>aL O fun Q R S g=>(ad b (ad g (ad b (aD b fun T=>ad g (aD g fun U=>bk 74 [.sl 4 [dA u v w T,dA Q R S U] .shut] P fun V W _=>aL V fun X Y Z k=>(ad k (gi 4 (.mp 0 0) (dC X Y Z k) W fun _ l _=>ao 4 true (.mp 0 0) l fun c7 _=>aL c7 fun c8 c9 d0 d1=>(eF l 0 (dA c8 c9 d0 d1) fun d2=>some d2))))))))))))))))))))
theorem Vl (a:AV):bB vE 88 [a]=g88 a:=by kernel_rfl
noncomputable def g10:AV->AV->Oq AV:=fun j k=>aL j fun c d e f=>(bK .i64 k fun b=>ad f (aD f fun a=>aC (bu (decide (b < 1)) (some ([.bool true],sZ)) (some ([.bool (decide (b > 200))],sZ))) fun g=>bo g.1 fun l m=>ct l fun n=>bQ m (bu n (some (.tup [.str [],.int .i64 1])) (bk 24 [dA c d e a] g.2 fun o i _=>ct o fun p=>bu (!p) (some (.tup [.str [],.int .i64 4])) (bM (St.add i (.cells 79 [.nilp,.ax,.int .i64 0,.int .i64 b])) fun q=>ad a (ad a (aD a fun r=>bk 25 [.mp i.h 0,.sl 6 [.agg [.int .u8 c,.str d,.int .i64 e,r,.int .i64 0,.bool false]] .shut] q fun s _ _=>fG s fun t=>some (.tup [.str t,.int .i64 0]))))))))
theorem TQ (a b:AV):bB vE 10 [a,b]=g10 a b:=by kernel_rfl
noncomputable def BM:cJ->Oq (cJ ⊕ Nat×cJ):=fun b=>bo b.1 fun c h=>bo h fun i j=>fG i fun a=>bo j fun k l=>bK .i64 k fun d=>bQ l (bu (decide (d < 7)) (bL 1 (.sl 1 [.fn (Fn.func 27) [] [],.fn (Fn.func 28) [] [],.fn (Fn.func 29) [] [],.fn (Fn.func 30) [] [],.fn (Fn.func 31) [] [],.fn (Fn.func 32) [] [],.fn (Fn.func 33) [] []] .shut) d b.2 fun m _=>ao 1 false m b.2 fun n _=>iZ (aQ vE) (Sx.prim (sx vE 11)) n [.str a] b.2 fun f g _=>ig f fun o=>cB o 0 fun p=>bK .u8 p fun q=>ig f fun r=>cB r 1 fun s=>bK .i64 s fun e=>bu (decide (e > 0)) (gM e a.length fun t=>bx (List.drop 0 (List.take t a)) fun u=>eI 2 24 30 c [.agg [.int .u8 q,.str u]] g fun v w _=>gM e a.length fun y=>bx (List.drop y (List.take a.length a)) fun z=>some (Sum.inr (0,[v,.str z],w))) (bx (IntKind.wrap .i64 (d+1)) fun x=>some (Sum.inl ([c,.str a,.int .i64 x],g)))) (some (Sum.inr (0,[c,.str a],b.2))))
noncomputable def EB:cJ->Oq (cJ ⊕ Nat×cJ):=fun a=>bo a.1 fun b e=>bo e fun f g=>fG f fun c=>bQ g (bu (!c==[]) (aC (bl BM ([b,.str c,.int .i64 0],a.2)) fun d=>bo d.2.1 fun h i=>bo i fun j k=>fG j fun l=>bQ k (some (Sum.inl ([h,.str l],Prod.snd d.2)))) (some (Sum.inr (0,[b],a.2))))
noncomputable def g11:AV->Oq AV:=fun c=>fG c fun a=>bu (decide ((↑a.length:Int) > 65536)) (some (.tup [.ax,.int .i64 40])) (bk 26 [.str a] sZ fun d e _=>ct d fun f=>bu (!f) (some (.tup [.ax,.int .i64 4])) (aC (bl EB ([.ax,.str a],e)) fun b=>bo b.2.1 fun g h=>bQ h (eF b.2.2 0 (.tup [g,.int .i64 0]) fun i=>some i)))
theorem Is (a:AV):bB vE 11 [a]=g11 a:=by kernel_rfl
noncomputable def g12:AV->Oq AV:=fun i=>fG i fun j=>bk 11 [.str j] (St.mk 1 0 (.node (some (.cells 46 (nC 0 0 [] .ax))) .leaf .leaf)) fun c a _=>ig c fun k=>cB k 0 fun b=>ig c fun l=>cB l 1 fun m=>bK .i64 m fun d=>bu (d != 0) (gi 4 (.mp 0 0) (nC 0 0 [] .ax) a fun _ e _=>ao 4 true (.mp 0 0) e fun n _=>az n fun o p q r=>(eF e 0 (.tup [nA o p q r,.int .i64 d]) fun s=>some s)) (ad b (ad b (bM (St.add a (.cells 92 [b,.int .i64 0,.int .i64 0])) fun t=>bk 34 [.mp a.h 0] t fun u v _=>az u fun w y z f=>(ad f (gi 4 (.mp 0 0) (nC w y z f) v fun _ g _=>ao 4 true (.mp 0 0) g fun x _=>az x fun A B C D=>(eF g 0 (.tup [nA A B C D,.int .i64 0]) fun E=>some E))))))
theorem UO (a:AV):bB vE 12 [a]=g12 a:=by kernel_rfl
noncomputable def g13:AV->Oq AV:=fun d=>az d fun a e _ c=>(ad c (aD c fun f=>aC (bu (a != 2) (bu (a != 3) (bu (a != 1) (some ([.bool true],sZ)) (some ([.bool (e != 9)],sZ))) (some ([.bool false],sZ))) (some ([.bool false],sZ))) fun b=>bo b.1 fun g h=>ct g fun i=>bQ h (aC (bu i (bk 35 [f,.fn (Fn.func 36) [] []] b.2 fun j k _=>ct j fun l=>some ([.bool !l],k)) (some ([.bool false],b.2))) fun m=>bo m.1 fun n o=>ct n fun p=>bQ o (some (.bool p)))))
theorem T4 (a:AV):bB vE 13 [a]=g13 a:=by kernel_rfl
noncomputable def g24:AV->Oq AV:=fun s=>aL s fun a c d h=>(ad h (aD h fun f=>aC (bu (a==1) (aC (bu (d==0) (dm f fun t=>bu ((↑t:Int)==0) (cE (aQ vE) (dK (Prim.lib kK) [.str c]) sZ fun u i _=>ct u fun v=>bu v (cE (aQ vE) (dK (Prim.lib gE) [.str c,.str [10]]) i fun w j _=>ct w fun y=>bu (!y) (cE (aQ vE) (dK (Prim.lib gE) [.str c,.str [13]]) j fun z x _=>ct z fun A=>some ([.bool !A],x)) (some ([.bool false],j))) (some ([.bool false],i))) (some ([.bool false],sZ))) (some ([.bool false],sZ))) fun k=>bo k.1 fun B C=>ct B fun D=>bQ C (some ([.bool D],k.2))) (aC (bu (a==2) (some ([.bool (a==2)],sZ)) (aC (bu (a==3) (some ([.bool (a==3)],sZ)) (some ([.bool (a==4)],sZ))) fun l=>bo l.1 fun E F=>ct E fun G=>bQ F (some ([.bool G],l.2)))) fun b=>bo b.1 fun H I=>ct H fun J=>bQ I (aC (bu J (aC (bu (d==0) (dm f fun K=>bu ((↑K:Int)==0) (some ([.bool (c==[])],b.2)) (some ([.bool false],b.2))) (some ([.bool false],b.2))) fun m=>bo m.1 fun L M=>ct L fun N=>bQ M (some ([.bool N],m.2))) (aC (bu (a==5) (aC (bu (decide (d>=0)) (bu (decide (d<=200)) (some ([.bool (c==[])],b.2)) (some ([.bool false],b.2))) (some ([.bool false],b.2))) fun n=>bo n.1 fun O P=>ct O fun Q=>bQ P (some ([.bool Q],n.2))) (aC (bu (a==6) (some ([.bool (a==6)],b.2)) (some ([.bool (a==7)],b.2))) fun e=>bo e.1 fun R S=>ct R fun T=>bQ S (aC (bu T (aC (bu (d==0) (some ([.bool (c==[])],e.2)) (some ([.bool false],e.2))) fun o=>bo o.1 fun U V=>ct U fun W=>bQ V (some ([.bool W],o.2))) (some ([.bool false],e.2))) fun p=>bo p.1 fun X Y=>ct X fun Z=>bQ Y (some ([.bool Z],p.2))))) fun q=>bo q.1 fun c7 c8=>ct c7 fun c9=>bQ c8 (some ([.bool c9],q.2)))) fun r=>bo r.1 fun d0 d1=>ct d0 fun d2=>bQ d1 (some ([.bool d2],r.2))))) fun g=>bo g.1 fun d3 d4=>ct d3 fun d5=>bQ d4 (aC (bu d5 (bk 48 [f,.fn (Fn.func 49) [] []] g.2 fun d6 d7 _=>ct d6 fun d8=>some ([.bool !d8],d7)) (some ([.bool false],g.2))) fun d9=>bo d9.1 fun e0 e1=>ct e0 fun e2=>bQ e1 (some (.bool e2)))))
theorem TC (a:AV):bB vE 24 [a]=g24 a:=by kernel_rfl
noncomputable def iQ (i:AV):cJ->Oq (cJ ⊕ Nat×cJ):=fun a=>bo a.1 fun l l2=>bQ l2 (dm l fun B=>bu (decide ((↑B:Int) > 0)) (bM (St.add a.2 (.cells 82 [.int .u8 0,.str [],.int .i64 0,.ax,.int .i64 0,.bool false])) fun C=>bk 52 [l] C fun m D _=>ig m fun E=>cB E 0 fun F=>jZ F fun n o p k q r=>(ig m fun G=>cB G 1 fun f=>ad k (aK (aQ vE) 6 (.mp (St.h a.2) 0) (.agg [.int .u8 n,.str o,.int .i64 p,k,.int .i64 q,.bool r]) [.int .u8 n,.str o,.int .i64 p,k,.int .i64 q,.bool r] D fun _ d _=>ao 1 false (.mp (St.h a.2) 0) d fun H _=>bK .u8 H fun c=>aC (bu (c==1) (ao 1 false (.mp (St.h a.2) 1) d fun I _=>fG I fun J=>bk 50 [i,.str J] d fun _ K _=>some ([f],K)) (aC (bu (c==2) (some ([.bool (c==2)],d)) (aC (bu (c==3) (some ([.bool (c==3)],d)) (some ([.bool (c==4)],d))) fun s=>bo s.1 fun L M=>ct L fun N=>bQ M (some ([.bool N],s.2)))) fun b=>bo b.1 fun O P=>ct O fun Q=>bQ P (aC (bu Q (aC (ao 1 false (.mp (St.h a.2) 5) b.2 fun R _=>ct R fun S=>bu (!S) (some ([.bool true],b.2)) (ao 1 false (.mp (St.h a.2) 0) b.2 fun T _=>bK .u8 T fun U=>some ([.bool (U==4)],b.2))) fun e=>bo e.1 fun V W=>ct V fun X=>bQ W (aC (bu X (ao 1 false (.mp (St.h a.2) 4) e.2 fun Y _=>bK .i64 Y fun Z=>bk 51 [i,.int .i64 Z] e.2 fun _ c4 _=>some ([],c4)) (ao 1 false (.mp (St.h a.2) 0) e.2 fun c5 _=>bK .u8 c5 fun c6=>aC (bu (c6==2) (bk 50 [i,.str [32]] e.2 fun _ c7 _=>some ([],c7)) (some ([],e.2))) fun t=>bQ t.1 (some ([],t.2)))) fun u=>bQ u.1 (some ([f],u.2)))) (aC (bu (c==6) (ao 6 true (.mp (St.h a.2) 0) b.2 fun c8 _=>jZ c8 fun c9 d0 d1 d2 d3 d4=>(ao 1 false (.mp (St.h a.2) 4) b.2 fun d5 _=>bK .i64 d5 fun d6=>bk 53 [f,.agg [.int .u8 c9,.str d0,.int .i64 d1,d2,.int .i64 d3,.bool d4],.int .i64 d6,.bool true] b.2 fun v j _=>aC (ao 1 false (.mp (St.h a.2) 5) j fun d7 _=>ct d7 fun d8=>bu d8 (some ([.bool true],j)) (ao 4 true (.mp (St.h a.2) 0) j fun d9 _=>aL d9 fun e0 e1 e2 e3=>(bk 54 [dA e0 e1 e2 e3] j fun e4 w _=>ct e4 fun e5=>bu (!e5) (bk 55 [i,v] w fun e6 e7 _=>ct e6 fun e8=>some ([.bool e8],e7)) (some ([.bool false],w))))) fun g=>bo g.1 fun e9 f0=>ct e9 fun f1=>bQ f0 (aC (bu f1 (some ([v],g.2)) (ao 6 true (.mp (St.h a.2) 0) g.2 fun f2 _=>jZ f2 fun f3 f4 f5 f6 f7 f8=>(ao 1 false (.mp (St.h a.2) 4) g.2 fun f9 _=>bK .i64 f9 fun h0=>bk 53 [f,.agg [.int .u8 f3,.str f4,.int .i64 f5,f6,.int .i64 f7,.bool f8],.int .i64 h0,.bool false] g.2 fun h1 h2 _=>some ([h1],h2)))) fun y=>bo y.1 fun h3 h4=>bQ h4 (some ([h3],y.2))))) (ao 6 true (.mp (St.h a.2) 0) b.2 fun h5 _=>jZ h5 fun h6 h7 h8 h9 i0 i1=>(ao 1 false (.mp (St.h a.2) 4) b.2 fun i2 _=>bK .i64 i2 fun i3=>ao 1 false (.mp (St.h a.2) 2) b.2 fun i4 _=>bK .i64 i4 fun i5=>bx (IntKind.wrap .i64 (i3+i5)) fun i6=>ao 1 false (.mp (St.h a.2) 5) b.2 fun i7 _=>ct i7 fun i8=>bk 53 [f,.agg [.int .u8 h6,.str h7,.int .i64 h8,h9,.int .i64 i0,.bool i1],.int .i64 i6,.bool i8] b.2 fun i9 j0 _=>some ([i9],j0)))) fun z=>bo z.1 fun j1 j2=>bQ j2 (some ([j1],z.2)))) fun x=>bo x.1 fun j3 j4=>bQ j4 (some ([j3],x.2))))) fun A=>bo A.1 fun j5 j6=>bQ j6 (some (Sum.inl ([j5],Prod.snd A)))))) (some (Sum.inr (0,[],a.2))))
noncomputable def Z2:AV->AV->St->Oq (AV×St):=fun a c st=>aC (bl (iQ a) ([c],st)) fun b=>bQ b.2.1 (cf (notNil a) (ch 0 a fun d=>cE (aQ vE) (dK (Prim.builderString 5) [d]) b.2.2 fun e f _=>fG e fun g=>some (.str g,f)))
theorem Ua (a b:AV) (st:St):dT vE 25 [a,b] st=Z2 a b st:=by kernel_rfl
noncomputable def g26:AV->Oq AV:=fun a=>fG a fun b=>cE (aQ vE) (dK (Prim.lib kK) [.str b]) sZ fun c _ _=>ct c fun d=>some (.bool d)
theorem T2 (a:AV):bB vE 26 [a]=g26 a:=by kernel_rfl
noncomputable def g27:AV->Oq AV:=fun a=>fG a fun b=>bk 57 [.str b,.str [32,9,10,13]] sZ fun c _ _=>bK .i64 c fun d=>some (.tup [.int .u8 1,.int .i64 d])
theorem TY (a:AV):bB vE 27 [a]=g27 a:=by kernel_rfl
noncomputable def ph (a:LB):cJ->Oq (cJ ⊕ Nat×cJ):=fun e=>bo e.1 fun m n=>bK .i64 m fun f=>bo n fun o p=>bK .u8 o fun c=>bo p fun q r=>bK .i64 q fun d=>bo r fun s t=>bK .i64 s fun b=>bQ t (bu (decide (b < (↑a.length:Int))) (gM b a.length fun u=>bx (List.drop u (List.take a.length a)) fun v=>bk 58 [.str v,.str [40,42]] e.2 fun w h _=>ct w fun y=>aC (bu y (bx (IntKind.wrap .i64 (f+1)) fun z=>bx (IntKind.wrap .i64 (b+2)) fun x=>some (Sum.inl ([.int .i64 z,.int .u8 c,.int .i64 d,.int .i64 x],h))) (gM b a.length fun A=>bx (List.drop A (List.take a.length a)) fun B=>bk 58 [.str B,.str [42,41]] h fun C g _=>ct C fun D=>aC (bu D (bx (IntKind.wrap .i64 (f - 1)) fun i=>bx (IntKind.wrap .i64 (b+2)) fun j=>bu (i==0) (some (Sum.inr (Sum.inr (Sum.inr (1,[.int .u8 2,.int .i64 j],g))))) (some (Sum.inl ([.int .i64 i,.int .u8 c,.int .i64 d,.int .i64 j],g)))) (bx (IntKind.wrap .i64 (b+1)) fun E=>some (Sum.inl ([.int .i64 f,.int .u8 c,.int .i64 d,.int .i64 E],g)))) fun F=>kZ F fun k=>bo k.1 fun G H=>bK .i64 G fun I=>bo H fun J K=>bK .u8 J fun L=>bo K fun M N=>bK .i64 M fun O=>bo N fun P Q=>bK .i64 P fun R=>bQ Q (some (Sum.inl ([.int .i64 I,.int .u8 L,.int .i64 O,.int .i64 R],k.2))))) fun S=>kZ S fun l=>bo l.1 fun T U=>bK .i64 T fun V=>bo U fun W X=>bK .u8 W fun Y=>bo X fun Z c7=>bK .i64 Z fun c8=>bo c7 fun c9 d0=>bK .i64 c9 fun d1=>bQ d0 (some (Sum.inl ([.int .i64 V,.int .u8 Y,.int .i64 c8,.int .i64 d1],l.2)))) (some (Sum.inr (0,[.int .u8 c,.int .i64 d],e.2))))
noncomputable def Zi:AV->Oq AV:=fun c=>fG c fun a=>bk 58 [.str a,.str [40,42]] sZ fun d e _=>ct d fun f=>bu (!f) (some (.tup [.int .u8 0,.int .i64 0])) (aC (bl (ph a) ([.int .i64 0,.int .u8 0,.int .i64 0,.int .i64 0],e)) fun b=>bo b.2.1 fun g h=>bK .u8 g fun i=>bo h fun j k=>bK .i64 j fun l=>bQ k (rM b.1 (some (.tup [.int .u8 9,.int .i64 (↑a.length:Int)])) fun _=>some (.tup [.int .u8 i,.int .i64 l])))
theorem UU (a:AV):bB vE 28 [a]=Zi a:=by kernel_rfl
noncomputable def Z8:AV->Oq AV:=fun e=>fG e fun a=>cf (Nat.ble 1 a.length) (bx (List.drop 0 (List.take 1 a)) fun f=>bk 57 [.str f,.str [97,98,99,100,101,102,103,104,105,106,107,108,109,110,111,112,113,114,115,116,117,118,119,120,121,122,95]] sZ fun g h _=>bK .i64 g fun i=>bu (i==0) (some (.tup [.int .u8 0,.int .i64 0])) (bk 57 [.str a,.str [97,98,99,100,101,102,103,104,105,106,107,108,109,110,111,112,113,114,115,116,117,118,119,120,121,122,95,65,66,67,68,69,70,71,72,73,74,75,76,77,78,79,80,81,82,83,84,85,86,87,88,89,90,39,48,49,50,51,52,53,54,55,56,57]] h fun j k _=>bK .i64 j fun b=>bk 59 [] k fun l m c=>cf (apart c (⟨[],.kept⟩)&&true) (cf (apart c (⟨[],.kept⟩)&&true) (gM b a.length fun n=>bx (List.drop 0 (List.take n a)) fun o=>cf (apart c (⟨[],.kept⟩)&&true) (cE (aQ vE) (iT (Env.T vE) 118 l (.str o) true) m fun d _ _=>ig d fun p=>cB p 0 fun q=>bK .u8 q fun r=>ig d fun s=>cB s 1 fun t=>ct t fun u=>bu u (some (.tup [.int .u8 r,.int .i64 b])) (some (.tup [.int .u8 4,.int .i64 b])))))))
theorem TN (a:AV):bB vE 29 [a]=Z8 a:=by kernel_rfl
noncomputable def g30:AV->Oq AV:=fun w=>fG w fun a=>bk 57 [.str a,.str [48,49,50,51,52,53,54,55,56,57]] sZ fun y h _=>bK .i64 y fun c=>aC (bu (c==0) (some ([.bool true],h)) (gM c a.length fun z=>bx (List.drop z (List.take a.length a)) fun x=>bk 58 [.str x,.str [46]] h fun A B _=>ct A fun C=>some ([.bool !C],B))) fun i=>bo i.1 fun D E=>ct D fun F=>bQ E (bu F (some (.tup [.int .u8 5,.int .i64 c])) (bx (IntKind.wrap .i64 (c+1)) fun G=>gM G a.length fun H=>bx (List.drop H (List.take a.length a)) fun I=>bk 57 [.str I,.str [48,49,50,51,52,53,54,55,56,57]] i.2 fun J K _=>bK .i64 J fun d=>bx (IntKind.wrap .i64 (c+d)) fun L=>bx (IntKind.wrap .i64 (c+1)) fun M=>bx (IntKind.wrap .i64 (M+d)) fun b=>bx (IntKind.wrap .i64 (b+1)) fun j=>bx (if (↑a.length:Int) < j then (↑a.length:Int) else j) fun N=>gM N a.length fun k=>gM b k fun O=>bx (List.drop O (List.take k a)) fun P=>bk 57 [.str P,.str [101,69]] K fun Q l _=>bK .i64 Q fun R=>aC (bu (decide (R > 0)) (bx (IntKind.wrap .i64 (b+1)) fun S=>bx (IntKind.wrap .i64 (b+2)) fun m=>bx (if (↑a.length:Int) < m then (↑a.length:Int) else m) fun T=>gM T a.length fun n=>gM S n fun U=>bx (List.drop U (List.take n a)) fun V=>bk 57 [.str V,.str [43,45]] l fun W X _=>bK .i64 W fun f=>bx (IntKind.wrap .i64 (b+1)) fun Y=>bx (IntKind.wrap .i64 (Y+f)) fun Z=>gM Z a.length fun c5=>bx (List.drop c5 (List.take a.length a)) fun c6=>bk 57 [.str c6,.str [48,49,50,51,52,53,54,55,56,57]] X fun c7 o _=>bK .i64 c7 fun g=>aC (bu (decide (g > 0)) (bx (IntKind.wrap .i64 (b+1)) fun c8=>bx (IntKind.wrap .i64 (b+1)) fun c9=>bx (IntKind.wrap .i64 (c9+f)) fun d0=>bx (IntKind.wrap .i64 (d0+g)) fun d1=>gM d1 a.length fun p=>gM c8 p fun d2=>bx (List.drop d2 (List.take p a)) fun d3=>bk 61 [.str d3,.str [43]] o fun d4 d5 _=>fG d4 fun d6=>cE (aQ vE) (dK (Prim.lib (kO 183)) [.str d6]) d5 fun q r _=>ig q fun d7=>cB d7 0 fun d8=>bK .i64 d8 fun d9=>ig q fun e0=>cB e0 1 fun e1=>aC (LG BinOp.neq e1) fun e2=>ct e2 fun e3=>aC (bu e3 (some ([.int .i64 1073741824],r)) (some ([.int .i64 d9],r))) fun s=>bo s.1 fun e4 e5=>bK .i64 e4 fun e6=>bQ e5 (bx (IntKind.wrap .i64 (b+1)) fun e7=>bx (IntKind.wrap .i64 (e7+f)) fun e8=>bx (IntKind.wrap .i64 (e8+g)) fun e9=>some ([.int .i64 e9,.int .i64 e6],s.2))) (some ([.int .i64 b,.int .i64 0],o))) fun t=>bo t.1 fun f0 f1=>bK .i64 f0 fun f2=>bo f1 fun f3 f4=>bK .i64 f3 fun f5=>bQ f4 (some ([.int .i64 f2,.int .i64 f5],t.2))) (some ([.int .i64 b,.int .i64 0],l))) fun e=>bo e.1 fun f6 f7=>bK .i64 f6 fun u=>bo f7 fun f8 f9=>bK .i64 f8 fun v=>bQ f9 (aC (bu (decide (L > 15)) (some ([.bool true],e.2)) (bx (IntKind.wrap .i64 (v - d)) fun h0=>bu (decide (h0 < -22)) (some ([.bool true],e.2)) (bx (IntKind.wrap .i64 (v - d)) fun h1=>some ([.bool (decide (h1 > 22))],e.2)))) fun h2=>bo h2.1 fun h3 h4=>ct h3 fun h5=>bQ h4 (bu h5 (some (.tup [.int .u8 9,.int .i64 u])) (some (.tup [.int .u8 6,.int .i64 u]))))))
theorem UB (a:AV):bB vE 30 [a]=g30 a:=by kernel_rfl
noncomputable def iA (b:LB):cJ->Oq (cJ ⊕ Nat×cJ):=fun c=>bo c.1 fun k l=>bK .u8 k fun d=>bo l fun m n=>bK .i64 m fun e=>bo n fun o p=>bK .i64 o fun a=>bQ p (bu (decide (a < (↑b.length:Int))) (aC (kF b a fun g=>bu ((↑(UInt8.toNat g):Int)==34) (bx (IntKind.wrap .i64 (a+1)) fun q=>some (Sum.inr (Sum.inr (1,[.int .u8 7,.int .i64 q],c.2)))) (bu ((↑(UInt8.toNat g):Int)==92) (aC (bx (IntKind.wrap .i64 (a+1)) fun r=>bu (decide (r < (↑b.length:Int))) (bx (IntKind.wrap .i64 (a+1)) fun s=>kF b s fun t=>bk 62 [.str [110,116,92,34],.int .u8 (↑(UInt8.toNat t):Int)] c.2 fun u v _=>bK .i64 u fun w=>some ([.bool (decide (w>=0))],v)) (some ([.bool false],c.2))) fun f=>bo f.1 fun y z=>ct y fun x=>bQ z (bu x (bx (IntKind.wrap .i64 (a+1)) fun A=>some (Sum.inl ([.int .i64 A,.int .u8 d,.int .i64 e],f.2))) (gM a b.length fun B=>bx (List.drop B (List.take b.length b)) fun C=>bk 62 [.str C,.int .u8 34] f.2 fun D h _=>bK .i64 D fun i=>bu (decide (i>=0)) (bx (IntKind.wrap .i64 (a+i)) fun E=>bx (IntKind.wrap .i64 (E+1)) fun F=>some (Sum.inr (Sum.inr (1,[.int .u8 9,.int .i64 F],h)))) (some (Sum.inr (Sum.inr (1,[.int .u8 9,.int .i64 (↑b.length:Int)],h))))))) (some (Sum.inl ([.int .i64 a,.int .u8 d,.int .i64 e],c.2))))) fun G=>kZ G fun j=>bo j.1 fun H I=>bK .i64 H fun J=>bo I fun K L=>bK .u8 K fun M=>bo L fun N O=>bK .i64 N fun P=>bQ O (bx (IntKind.wrap .i64 (J+1)) fun Q=>some (Sum.inl ([.int .u8 M,.int .i64 P,.int .i64 Q],j.2)))) (some (Sum.inr (0,[.int .u8 d,.int .i64 e],c.2))))
noncomputable def Zp:AV->Oq AV:=fun g=>fG g fun a=>kF a 0 fun h=>bu ((↑(UInt8.toNat h):Int) != 34) (some (.tup [.int .u8 0,.int .i64 0])) (bk 62 [.str a,.int .u8 10] sZ fun i b _=>bK .i64 i fun c=>aC (bu (decide (c>=0)) (gM c a.length fun j=>bx (List.drop 0 (List.take j a)) fun k=>some ([.str k],b)) (some ([.str a],b))) fun d=>bo d.1 fun l m=>fG l fun e=>bQ m (aC (bl (iA e) ([.int .u8 0,.int .i64 0,.int .i64 1],d.2)) fun f=>bo f.2.1 fun n o=>bK .u8 n fun p=>bo o fun q r=>bK .i64 q fun s=>bQ r (rM f.1 (some (.tup [.int .u8 9,.int .i64 (↑e.length:Int)])) fun _=>some (.tup [.int .u8 p,.int .i64 s]))))
theorem Vu (a:AV):bB vE 31 [a]=Zp a:=by kernel_rfl
noncomputable def Zk:AV->Oq AV:=fun o=>fG o fun b=>aC (bu (decide ((↑b.length:Int) > 1)) (cf (Nat.ble 2 b.length) (bx (List.drop 0 (List.take 2 b)) fun a=>aC (bu (a==[45,62]) (some ([.bool (a==[45,62])],sZ)) (aC (bu (a==[58,58]) (some ([.bool (a==[58,58])],sZ)) (aC (bu (a==[60,62]) (some ([.bool (a==[60,62])],sZ)) (aC (bu (a==[60,61]) (some ([.bool (a==[60,61])],sZ)) (aC (bu (a==[62,61]) (some ([.bool (a==[62,61])],sZ)) (aC (bu (a==[43,46]) (some ([.bool (a==[43,46])],sZ)) (aC (bu (a==[45,46]) (some ([.bool (a==[45,46])],sZ)) (aC (bu (a==[42,46]) (some ([.bool (a==[42,46])],sZ)) (aC (bu (a==[47,46]) (some ([.bool (a==[47,46])],sZ)) (aC (bu (a==[38,38]) (some ([.bool (a==[38,38])],sZ)) (some ([.bool (a==[124,124])],sZ))) fun c=>bo c.1 fun p q=>ct p fun r=>bQ q (some ([.bool r],c.2)))) fun d=>bo d.1 fun s t=>ct s fun u=>bQ t (some ([.bool u],d.2)))) fun e=>bo e.1 fun v w=>ct v fun y=>bQ w (some ([.bool y],e.2)))) fun f=>bo f.1 fun z x=>ct z fun A=>bQ x (some ([.bool A],f.2)))) fun g=>bo g.1 fun B C=>ct B fun D=>bQ C (some ([.bool D],g.2)))) fun h=>bo h.1 fun E F=>ct E fun G=>bQ F (some ([.bool G],h.2)))) fun i=>bo i.1 fun H I=>ct H fun J=>bQ I (some ([.bool J],i.2)))) fun j=>bo j.1 fun K L=>ct K fun M=>bQ L (some ([.bool M],j.2)))) fun k=>bo k.1 fun N O=>ct N fun P=>bQ O (some ([.bool P],k.2)))) fun l=>bo l.1 fun Q R=>ct Q fun S=>bQ R (bu S (some (Sum.inr (.tup [.int .u8 8,.int .i64 2]))) (some (Sum.inl ([.int .u8 0,.int .i64 0],l.2)))))) (some (Sum.inl ([.int .u8 0,.int .i64 0],sZ)))) fun T=>kZ T fun m=>bo m.1 fun U V=>bK .u8 U fun _=>bo V fun W X=>bK .i64 W fun _=>bQ X (cf (Nat.ble 1 b.length) (bx (List.drop 0 (List.take 1 b)) fun Y=>bk 57 [.str Y,.str [40,41,91,93,44,59,124,61,60,62,43,45,42,47,94,64]] m.2 fun Z _ _=>bK .i64 Z fun n=>bx (if n < 1 then n else 1) fun c7=>some (.tup [.int .u8 8,.int .i64 c7])))
theorem U7 (a:AV):bB vE 32 [a]=Zk a:=by kernel_rfl
noncomputable def g33:AV->Oq AV:=fun b=>fG b fun c=>bk 63 [.str c] sZ fun a _ _=>ig a fun d=>cB d 0 fun e=>bK .i64 e fun _=>ig a fun f=>cB f 1 fun g=>bK .i64 g fun h=>some (.tup [.int .u8 9,.int .i64 h])
theorem VJ (a:AV):bB vE 33 [a]=g33 a:=by kernel_rfl
noncomputable def sk (e:AV) (g:cJ):cJ->Oq (cJ ⊕ Nat×cJ):=fun b=>bo b.1 fun i m=>bQ m (aC (ch 0 i fun n=>ao 1 false n b.2 fun o _=>bK .u8 o fun p=>bu (p != 0) (bk 65 [e,.sl 1 [.str [108,101,116]] .shut] b.2 fun q r _=>ct q fun s=>some ([.bool !s],r)) (some ([.bool false],b.2))) fun c=>bo c.1 fun t u=>ct t fun v=>bQ u (bu v (ao 1 false (.mp (St.h g.2) 3) c.2 fun w y=>bk 66 [e] c.2 fun z x j=>az z fun A B C f=>(cf (apart (Fx.mk y eS.kept) j&&(apart (⟨[],.kept⟩) j&&true)) (ad f (ad f (aD f fun k=>ad k (aD k fun D=>eI 4 56 46 w [nA A B C D] x fun d E _=>ad d (ad d (aK (aQ vE) 1 (.mp (St.h g.2) 3) d [d] E fun _ a _=>ao 2 true i a fun F _=>iH F fun G H=>(bM (St.add a (.cells 30 [.int .u8 0,.str []])) fun I=>gi 2 (.mp a.h 0) [.int .u8 G,.str H] I fun _ J _=>bk 64 [e] J fun l K _=>ig l fun L=>cB L 0 fun M=>iH M fun N O=>(ig l fun P=>cB P 1 fun Q=>bK .i64 Q fun _=>gi 2 (.mp a.h 0) [.int .u8 N,.str O] K fun _ R _=>some (Sum.inl ([.mp a.h 0],R)))))))))))) (some (Sum.inr (0,[],c.2)))))
noncomputable def uZ (b:AV) (k:St):cJ->Oq (cJ ⊕ Nat×cJ):=fun a=>bo a.1 fun l s=>bQ s (ch 0 l fun t=>ao 1 false t a.2 fun u _=>bK .u8 u fun v=>bu (v != 0) (bM (St.add a.2 (.cells 46 (nC 0 0 [] .ax))) fun w=>bk 65 [b,.sl 1 [.str [108,101,116]] .shut] w fun y m _=>ct y fun z=>aC (bu z (bk 66 [b] m fun x A _=>az x fun B C D f=>(ad f (ad f (aD f fun E=>bk 67 [b] A fun F G _=>oY F fun H=>ou true H fun n=>cf (nz 4 n) (eI 4 56 46 (.sl 4 [nA B C D E] .shut) n G fun d I _=>ad d (ad d (aK (aQ vE) 4 (.mp (St.h a.2) 0) (nA 5 0 [] d) (nC 5 0 [] d) I fun _ J _=>some ([],J)))))))) (aK (aQ vE) 1 (.mp (St.h a.2) 0) (.int .u8 3) [.int .u8 3] m fun _ K _=>bk 64 [b] K fun o g _=>ig o fun L=>cB L 0 fun M=>iH M fun N O=>(ig o fun P=>cB P 1 fun Q=>bK .i64 Q fun _=>bM (St.add g (.cells 30 [.int .u8 0,.str []])) fun R=>gi 2 (.mp g.h 0) [.int .u8 N,.str O] R fun _ S _=>aC (bl (sk b a) ([.mp g.h 0],S)) fun p=>bQ p.2.1 (some ([],Prod.snd p.2))))) fun e=>bQ e.1 (ao 1 false (.mp k.h 3) e.2 fun T _=>ao 4 true (.mp (St.h a.2) 0) e.2 fun U _=>az U fun V W X i=>(ad i (ad i (aD i fun q=>ad q (aD q fun Y=>eI 4 56 46 T [nA V W X Y] e.2 fun j Z _=>ad j (ad j (wQ (.mp k.h 3) j Z fun _ c _=>ao 2 true l c fun c7 _=>iH c7 fun c8 c9=>(bM (St.add c (.cells 30 [.int .u8 0,.str []])) fun d0=>gi 2 (.mp c.h 0) [.int .u8 c8,.str c9] d0 fun _ d1 _=>bk 64 [b] d1 fun r d2 _=>ig r fun d3=>cB d3 0 fun d4=>iH d4 fun d5 d6=>(ig r fun d7=>cB d7 1 fun d8=>bK .i64 d8 fun _=>gi 2 (.mp c.h 0) [.int .u8 d5,.str d6] d2 fun _ d9 _=>some (Sum.inl ([.mp c.h 0],d9)))))))))))) (some (Sum.inr (0,[],a.2))))
noncomputable def w34:AV->St->Oq (AV×St):=fun b st=>bM (St.add st (.cells 46 (nC 0 0 [] .ax))) fun a=>bM (St.add a (.cells 46 (nC 0 0 [] .ax))) fun n=>gi 4 (.mp a.h 0) (nC 4 0 [] .ax) n fun _ o _=>bk 64 [b] o fun g c _=>ig g fun p=>cB p 0 fun q=>iH q fun r s=>(ig g fun t=>cB t 1 fun u=>bK .i64 u fun _=>bM (St.add c (.cells 30 [.int .u8 0,.str []])) fun v=>gi 2 (.mp c.h 0) [.int .u8 r,.str s] v fun _ w _=>aC (bl (uZ b a) ([.mp c.h 0],w)) fun d=>bQ d.2.1 (ao 1 false (.mp a.h 3) d.2.2 fun y z=>bk 66 [b] d.2.2 fun x A i=>az x fun B C D e=>(cf (apart (Fx.mk z eS.kept) i&&(apart (⟨[],.kept⟩) i&&true)) (ad e (ad e (aD e fun j=>ad j (aD j fun E=>eI 4 56 46 y [nA B C D E] A fun f F _=>ad f (ad f (wQ (.mp a.h 3) f F fun _ k _=>ao 4 true (.mp a.h 0) k fun G _=>az G fun H I J l=>(ad l (gi 4 (.mp st.h 0) (nC H I J l) k fun _ m _=>ao 4 true (.mp st.h 0) m fun K _=>az K fun L M N O=>(some (nA L M N O,m)))))))))))))
theorem V5 (a:AV) (st:St):dT vE 34 [a] st=w34 a st:=by kernel_rfl
noncomputable def Zb:AV->AV->Oq AV:=fun a b=>bk 68 [a,b] sZ fun c _ _=>bK .i64 c fun d=>some (.bool (decide (d>=0)))
theorem Od (a b:AV):bB vE 35 [a,b]=Zb a b:=by kernel_rfl
noncomputable def g36:AV->Oq AV:=fun b=>az b fun c d e a=>(ad a (aD a fun f=>bk 13 [nA c d e f] sZ fun g _ _=>ct g fun h=>some (.bool !h)))
theorem VE (a:AV):bB vE 36 [a]=g36 a:=by kernel_rfl
noncomputable def Z3:AV->AV->Oq AV:=fun a b=>bk 91 [a,b] sZ fun c _ _=>bK .i64 c fun d=>some (.bool (decide (d>=0)))
theorem Uf (a b:AV):bB vE 48 [a,b]=Z3 a b:=by kernel_rfl
noncomputable def Z0:AV->Oq AV:=fun b=>aL b fun c d e a=>(ad a (aD a fun f=>bk 24 [dA c d e f] sZ fun g _ _=>ct g fun h=>some (.bool !h)))
theorem TJ (a:AV):bB vE 49 [a]=Z0 a:=by kernel_rfl
noncomputable def w50:AV->AV->St->Oq (AV×St):=fun a f st=>fG f fun c=>cf (notNil a) (ch 0 a fun g=>bk 92 [g,.str c] st fun _ d _=>cf (notNil a) (ch 2 a fun h=>ao 1 false h d fun i j=>bK .i64 i fun k=>cE (aQ vE) (dK (Prim.lib jB) [.str c]) d fun l m b=>bK .i64 l fun n=>cf (apart (Fx.mk j eS.kept) b&&(apart (⟨[],.kept⟩) b&&(apart (⟨[],.kept⟩) b&&(apart (⟨[],.kept⟩) b&&true)))) (bx (IntKind.wrap .i64 (k+n)) fun e=>cf (notNil a) (ch 2 a fun o=>aK (aQ vE) 1 o (.int .i64 e) [.int .i64 e] m fun _ p _=>some (.tup [],p)))))
theorem V2 (a b:AV) (st:St):dT vE 50 [a,b] st=w50 a b st:=by kernel_rfl
noncomputable def ZW:AV->AV->St->Oq (AV×St):=fun a e st=>bK .i64 e fun b=>cf (notNil a) (ch 0 a fun f=>cE (aQ vE) (dK (Prim.lib lS) [.str [32],.int .i64 b]) st fun g h c=>fG g fun d=>cf (apart (⟨[],.kept⟩) c&&(apart (⟨[],.kept⟩) c&&(apart (⟨[],.kept⟩) c&&true))) (cf (Nat.ble (1+d.length) 9223372036854775807) (bx (10::d) fun i=>bk 92 [f,.str i] h fun _ j _=>cf (notNil a) (ch 2 a fun k=>aK (aQ vE) 1 k (.int .i64 b) [.int .i64 b] j fun _ l _=>some (.tup [],l)))))
theorem Wj (a b:AV) (st:St):dT vE 51 [a,b] st=ZW a b st:=by kernel_rfl
noncomputable def g52:AV->Oq AV:=fun a=>dm a fun h=>bx (IntKind.wrap .i64 ((↑h:Int) - 1)) fun i=>bL 6 a i (St.mk 1 0 (.node (some (.cells 82 [.int .u8 0,.str [],.int .i64 0,.ax,.int .i64 0,.bool false])) .leaf .leaf)) fun j _=>ao 6 true j (St.mk 1 0 (.node (some (.cells 82 [.int .u8 0,.str [],.int .i64 0,.ax,.int .i64 0,.bool false])) .leaf .leaf)) fun k _=>jZ k fun c d e b f g=>(dm a fun l=>bx (IntKind.wrap .i64 ((↑l:Int) - 1)) fun m=>dL 6 a none (some m) none fun n=>ad b (eF (St.mk 1 0 (.node (some (.cells 82 [.int .u8 c,.str d,.int .i64 e,b,.int .i64 f,.bool g])) .leaf .leaf)) 0 (.tup [.agg [.int .u8 c,.str d,.int .i64 e,b,.int .i64 f,.bool g],n]) fun o=>some o))
theorem Wl (a:AV):bB vE 52 [a]=g52 a:=by kernel_rfl
noncomputable def Ed (f:Int) (g:Bool) (h:AV):cJ->Oq (cJ ⊕ Nat×cJ):=fun a=>bo a.1 fun d i=>bo i fun j k=>bK .i64 j fun b=>bQ k (bu (decide (b>=0)) (bL 4 h b a.2 fun l _=>ao 4 true l a.2 fun m _=>aL m fun n o p c=>(ad c (ad c (aD c fun e=>ad e (aD e fun q=>eI 6 72 82 d [.agg [.int .u8 n,.str o,.int .i64 p,q,.int .i64 f,.bool g]] a.2 fun r s _=>bx (IntKind.wrap .i64 (b - 1)) fun t=>some (Sum.inl ([r,.int .i64 t],s))))))) (some (Sum.inr (0,[d],a.2))))
noncomputable def g53:AV->AV->AV->AV->Oq AV:=fun a e f g=>jZ e fun _ _ _ b _ _=>(bK .i64 f fun h=>ct g fun i=>ad b (aD b fun c=>dm a fun j=>dm a fun k=>dL 6 a none (some (↑j:Int)) (some (↑k:Int)) fun l=>dm c fun m=>bx (IntKind.wrap .i64 ((↑m:Int) - 1)) fun n=>aC (bl (Ed h i c) ([l,.int .i64 n],sZ)) fun d=>bo d.2.1 fun o p=>bQ p (eF d.2.2 0 (oneOf [o]) fun q=>some q)))
theorem Vj (a b c d:AV):bB vE 53 [a,b,c,d]=g53 a b c d:=by kernel_rfl
noncomputable def Z5:AV->Oq AV:=fun b=>aL b fun c _ _ a=>(ad a (aD a fun d=>aC (bu (c==4) (some ([.bool true],sZ)) (bk 48 [d,.fn (Fn.func 54) [] []] sZ fun e f _=>ct e fun g=>some ([.bool g],f))) fun h=>bo h.1 fun i j=>ct i fun k=>bQ j (some (.bool k))))
theorem VU (a:AV):bB vE 54 [a]=Z5 a:=by kernel_rfl
noncomputable def mO (l:AV):cJ->Oq (cJ ⊕ Nat×cJ):=fun g=>bo g.1 fun F G=>ct F fun i=>bo G fun H I=>bK .i64 H fun c=>bo I fun m J=>bQ J (aC (dm m fun K=>bu (decide ((↑K:Int) > 0)) (cf (notNil l) (ch 3 l fun L=>ao 1 false L g.2 fun M _=>bK .i64 M fun N=>some ([.bool (decide (c<=N))],g.2))) (some ([.bool false],g.2))) fun a=>bo a.1 fun O P=>ct O fun Q=>bQ P (bu Q (bM (St.add a.2 (.cells 82 [.int .u8 0,.str [],.int .i64 0,.ax,.int .i64 0,.bool false])) fun R=>bk 52 [m] R fun n S _=>ig n fun T=>cB T 0 fun U=>jZ U fun o p q k r s=>(ig n fun V=>cB V 1 fun j=>ad k (aK (aQ vE) 6 (.mp (St.h a.2) 0) (.agg [.int .u8 o,.str p,.int .i64 q,k,.int .i64 r,.bool s]) [.int .u8 o,.str p,.int .i64 q,k,.int .i64 r,.bool s] S fun _ d _=>ao 1 false (.mp (St.h a.2) 0) d fun W _=>bK .u8 W fun e=>aC (bu (e==1) (ao 1 false (.mp (St.h a.2) 1) d fun X _=>fG X fun Y=>cE (aQ vE) (dK (Prim.lib jB) [.str Y]) d fun Z c3 _=>bK .i64 Z fun c4=>bx (IntKind.wrap .i64 (c+c4)) fun c5=>some (Sum.inl ([.bool i,.int .i64 c5,j],c3))) (aC (bu (e==2) (some ([.bool (e==2)],d)) (aC (bu (e==3) (some ([.bool (e==3)],d)) (some ([.bool (e==4)],d))) fun t=>bo t.1 fun c6 c7=>ct c6 fun c8=>bQ c7 (some ([.bool c8],t.2)))) fun b=>bo b.1 fun c9 d0=>ct c9 fun d1=>bQ d0 (aC (bu d1 (aC (ao 1 false (.mp (St.h a.2) 5) b.2 fun d2 _=>ct d2 fun d3=>bu (!d3) (some ([.bool true],b.2)) (ao 1 false (.mp (St.h a.2) 0) b.2 fun d4 _=>bK .u8 d4 fun d5=>some ([.bool (d5==4)],b.2))) fun f=>bo f.1 fun d6 d7=>ct d6 fun d8=>bQ d7 (bu d8 (some (Sum.inr (Sum.inr (Sum.inr (1,[.bool true,.int .i64 c],f.2))))) (ao 1 false (.mp (St.h a.2) 0) f.2 fun d9 _=>bK .u8 d9 fun e0=>aC (bu (e0==2) (bx (IntKind.wrap .i64 (c+1)) fun e1=>some ([.int .i64 e1],f.2)) (some ([.int .i64 c],f.2))) fun u=>bo u.1 fun e2 e3=>bK .i64 e2 fun e4=>bQ e3 (some (Sum.inl ([.bool i,.int .i64 e4,j],u.2)))))) (aC (ao 6 true (.mp (St.h a.2) 0) b.2 fun e5 _=>jZ e5 fun v w y z x A=>(ao 1 false (.mp (St.h a.2) 4) b.2 fun e6 _=>bK .i64 e6 fun B=>ao 1 false (.mp (St.h a.2) 5) b.2 fun e7 _=>ct e7 fun e8=>bu e8 (bk 53 [j,.agg [.int .u8 v,.str w,.int .i64 y,z,.int .i64 x,.bool A],.int .i64 B,.bool true] b.2 fun e9 f0 _=>some ([e9],f0)) (ao 1 false (.mp (St.h a.2) 0) b.2 fun f1 _=>bK .u8 f1 fun f2=>bk 53 [j,.agg [.int .u8 v,.str w,.int .i64 y,z,.int .i64 x,.bool A],.int .i64 B,.bool (f2==6)] b.2 fun f3 f4 _=>some ([f3],f4)))) fun C=>bo C.1 fun f5 f6=>bQ f6 (some (Sum.inl ([.bool i,.int .i64 c,f5],Prod.snd C))))) fun f7=>kZ f7 fun D=>bo D.1 fun f8 f9=>ct f8 fun h0=>bo f9 fun h1 h2=>bK .i64 h1 fun h3=>bo h2 fun h4 h5=>bQ h5 (some (Sum.inl ([.bool h0,.int .i64 h3,h4],Prod.snd D)))))) fun h6=>kZ h6 fun E=>bo E.1 fun h7 h8=>ct h7 fun h9=>bo h8 fun i0 i1=>bK .i64 i0 fun i2=>bo i1 fun i3 i4=>bQ i4 (some (Sum.inl ([.bool h9,.int .i64 i2,i3],Prod.snd E)))))) (some (Sum.inr (0,[.bool i,.int .i64 c],a.2)))))
noncomputable def Y5:AV->AV->St->Oq (AV×St):=fun a c st=>cf (notNil a) (ch 2 a fun d=>ao 1 false d st fun e _=>bK .i64 e fun f=>aC (bl (mO a) ([.bool false,.int .i64 f,c],st)) fun b=>bo b.2.1 fun g h=>ct g fun i=>bo h fun j k=>bK .i64 j fun l=>bQ k (rM b.1 (cf (notNil a) (ch 3 a fun m=>ao 1 false m b.2.2 fun n _=>bK .i64 n fun o=>some (.bool (decide (l<=o)),Prod.snd b.2))) fun _=>some (.bool i,Prod.snd b.2)))
theorem UT (a b:AV) (st:St):dT vE 55 [a,b] st=Y5 a b st:=by kernel_rfl
noncomputable def g57:AV->AV->Oq AV:=fun b c=>fG b fun a=>fG c fun d=>cE (aQ vE) (dK (Prim.lib jf) [.str a,.str d]) sZ fun e _ _=>fG e fun f=>bx (IntKind.wrap .i64 ((↑a.length:Int) - (↑f.length:Int))) fun g=>some (.int .i64 g)
theorem UG (a b:AV):bB vE 57 [a,b]=g57 a b:=by kernel_rfl
noncomputable def Z7:AV->AV->Oq AV:=fun a b=>fG a fun c=>fG b fun d=>bk 96 [.str c,.str d] sZ fun e _ _=>ct e fun f=>some (.bool f)
theorem Ur (a b:AV):bB vE 58 [a,b]=Z7 a b:=by kernel_rfl
noncomputable def g61:AV->AV->Oq AV:=fun a b=>fG a fun c=>fG b fun d=>bk 100 [.str c,.str d] sZ fun e _ _=>fG e fun f=>some (.str f)
theorem T7 (a b:AV):bB vE 61 [a,b]=g61 a b:=by kernel_rfl
noncomputable def g62:AV->AV->Oq AV:=fun a b=>fG a fun c=>bK .u8 b fun d=>bk 101 [.str c,.int .u8 d] sZ fun e _ _=>bK .i64 e fun f=>some (.int .i64 f)
theorem Tt (a b:AV):bB vE 62 [a,b]=g62 a b:=by kernel_rfl
noncomputable def YJ:AV->Oq AV:=fun f=>fG f fun a=>bu (a==[]) (some (.tup [.int .i64 (-1),.int .i64 0])) (cE (aQ vE) (dK (Prim.lib lJ) [.str a]) sZ fun b c _=>ig b fun g=>cB g 0 fun h=>bK .i32 h fun d=>ig b fun i=>cB i 1 fun j=>bK .i64 j fun e=>aC (bu (d==65533) (some ([.bool (decide (e < 2))],c)) (some ([.bool false],c))) fun k=>bo k.1 fun l m=>ct l fun n=>bQ m (bu n (some (.tup [.int .i64 (-1),.int .i64 1])) (bx (IntKind.wrap .i64 d) fun o=>some (.tup [.int .i64 o,.int .i64 e]))))
theorem Ni (a:AV):bB vE 63 [a]=YJ a:=by kernel_rfl
noncomputable def Al (b:AV) (st:St):cJ->Oq (cJ ⊕ Nat×cJ):=fun a=>bo a.1 fun f g=>bK .i64 f fun e=>bo g fun i j=>bK .i64 i fun c=>bQ j (cf (notNil b) (ch 0 b fun k=>ao 1 false k a.2 fun l _=>dm l fun m=>bu (decide (c < (↑m:Int))) (cf (notNil b) (ch 0 b fun n=>ao 1 false n a.2 fun o _=>bL 2 o c a.2 fun p _=>ao 2 true p a.2 fun q _=>iH q fun r s=>(bk 103 [.agg [.int .u8 r,.str s]] a.2 fun t d _=>ct t fun u=>bu (!u) (cf (notNil b) (ch 0 b fun v=>ao 1 false v d fun w _=>bL 2 w c d fun y _=>ao 2 true y d fun z _=>iH z fun x A=>(gi 2 (.mp st.h 0) [.int .u8 x,.str A] d fun _ B _=>some (Sum.inr (1,[.int .i64 c],B))))) (bx (IntKind.wrap .i64 (c+1)) fun C=>some (Sum.inl ([.int .i64 e,.int .i64 C],d)))))) (some (Sum.inr (0,[.int .i64 e],a.2)))))
noncomputable def Y3:AV->St->Oq (AV×St):=fun b st=>bM (St.add st (.cells 30 [.int .u8 0,.str []])) fun d=>cf (notNil b) (ch 1 b fun f=>ao 1 false f d fun g _=>bK .i64 g fun i=>aC (bl (Al b st) ([.int .i64 0,.int .i64 i],d)) fun a=>bo a.2.1 fun j k=>bK .i64 j fun l=>bQ k (rM a.1 (cf (notNil b) (ch 0 b fun m=>ao 1 false m a.2.2 fun n o=>dm n fun p=>gi 2 (.mp st.h 0) [.int .u8 0,.str []] a.2.2 fun _ e c=>cf (apart (⟨[],.kept⟩) c&&(apart (Fx.mk o eS.kept) c&&(apart (⟨[],.kept⟩) c&&(apart (⟨[],.kept⟩) c&&(apart (⟨[],.kept⟩) c&&true))))) (ao 2 true (.mp st.h 0) e fun q _=>iH q fun r s=>(some (.tup [.agg [.int .u8 r,.str s],.int .i64 (↑p:Int)],e))))) fun _=>ao 2 true (.mp st.h 0) a.2.2 fun t _=>iH t fun u v=>(some (.tup [.agg [.int .u8 u,.str v],.int .i64 l],Prod.snd a.2))))
theorem O2 (a:AV) (st:St):dT vE 64 [a] st=Y3 a st:=by kernel_rfl
noncomputable def YO:AV->AV->St->Oq (AV×St):=fun f c st=>bk 64 [f] st fun d b _=>ig d fun g=>cB g 0 fun i=>iH i fun j k=>(ig d fun l=>cB l 1 fun m=>bK .i64 m fun _=>bM (St.add b (.cells 30 [.int .u8 0,.str []])) fun n=>gi 2 (.mp b.h 0) [.int .u8 j,.str k] n fun _ a _=>aC (ao 1 false (.mp b.h 0) a fun o _=>bK .u8 o fun p=>bu (p==3) (ao 1 false (.mp b.h 1) a fun q _=>fG q fun r=>bk 104 [c,.str r] a fun s t _=>ct s fun u=>some ([.bool u],t)) (ao 1 false (.mp b.h 0) a fun v _=>bK .u8 v fun w=>bu (w==8) (ao 1 false (.mp b.h 1) a fun y _=>fG y fun z=>bk 104 [c,.str z] a fun x A _=>ct x fun B=>some ([.bool B],A)) (some ([.bool false],a)))) fun e=>bo e.1 fun C D=>ct C fun E=>bQ D (some (.bool E,e.2)))
theorem Uy (a b:AV) (st:St):dT vE 65 [a,b] st=YO a b st:=by kernel_rfl
noncomputable def AO (e:St) (i:AV) (j:Nat):cJ->Oq (cJ ⊕ Nat×cJ):=fun a=>bo a.1 fun k l=>bK .i64 k fun b=>bQ l (bu (decide (b < (↑j:Int))) (bL 2 i b a.2 fun m _=>ao 2 true m a.2 fun n _=>iH n fun f g=>(bM (St.add a.2 (.cells 30 [.int .u8 0,.str []])) fun o=>aK (aQ vE) 2 (.mp (St.h a.2) 0) (.agg [.int .u8 f,.str g]) [.int .u8 f,.str g] o fun _ c _=>ao 1 false (.mp e.h 3) c fun p _=>ao 2 true (.mp (St.h a.2) 0) c fun q _=>iH q fun r s=>(eI 4 56 46 p [nA 1 r s .ax] c fun d t _=>ad d (ad d (wQ (.mp e.h 3) d t fun _ u _=>bx (IntKind.wrap .i64 (b+1)) fun v=>some (Sum.inl ([.int .i64 v],u))))))) (some (Sum.inr (0,[],a.2))))
noncomputable def Z1:AV->St->Oq (AV×St):=fun a st=>bM (St.add st (.cells 46 (nC 0 0 [] .ax))) fun p=>bk 64 [a] p fun f c _=>ig f fun q=>cB q 0 fun r=>iH r fun s t=>(ig f fun u=>cB u 1 fun v=>bK .i64 v fun g=>bM (St.add c (.cells 30 [.int .u8 0,.str []])) fun w=>gi 2 (.mp c.h 0) [.int .u8 s,.str t] w fun _ b _=>ao 2 true (.mp c.h 0) b fun y _=>iH y fun z x=>(bM (St.add b (.cells 46 (nC 0 0 [] .ax))) fun A=>gi 4 (.mp b.h 0) (nC 1 z x .ax) A fun _ d _=>cf (notNil a) (ch 0 a fun B=>ao 1 false B d fun C _=>cf (notNil a) (ch 1 a fun D=>ao 1 false D d fun E _=>bK .i64 E fun F=>dL 2 C (some F) (some g) none fun i=>dm i fun G=>aC (bl (AO b i G) ([.int .i64 0],d)) fun e=>bQ e.2.1 (bx (IntKind.wrap .i64 (g+1)) fun j=>cf (notNil a) (ch 0 a fun H=>ao 1 false H e.2.2 fun I _=>dm I fun k=>bx (if (↑k:Int) < j then (↑k:Int) else j) fun l=>cf (notNil a) (ch 1 a fun J=>aK (aQ vE) 1 J (.int .i64 l) [.int .i64 l] e.2.2 fun _ m _=>ao 4 true (.mp b.h 0) m fun K _=>az K fun L M N n=>(ad n (gi 4 (.mp st.h 0) (nC L M N n) m fun _ o _=>ao 4 true (.mp st.h 0) o fun O _=>az O fun P Q R S=>(some (nA P Q R S,o)))))))))))
theorem VW (a:AV) (st:St):dT vE 66 [a] st=Z1 a st:=by kernel_rfl
noncomputable def wV (b:AV):cJ->Oq (cJ ⊕ Nat×cJ):=fun c=>bo c.1 fun d g=>bQ g (bk 105 [b,.int .u8 5,.str [95]] c.2 fun h e _=>ct h fun i=>bu i (bk 106 [b,.bool true] e fun j k _=>az j fun l m n a=>(ad a (ad a (aD a fun f=>ad f (aD f fun o=>eI 4 56 46 d [nA l m n o] k fun p q _=>some (Sum.inl ([p],q))))))) (some (Sum.inr (0,[d],e))))
noncomputable def w67:AV->St->Oq (AV×St):=fun a st=>bk 65 [a,.sl 1 [.str [114,101,99]] .shut] st fun v j _=>ct v fun w=>aC (bu w (bk 66 [a] j fun y k _=>az y fun z x A b=>(ad b (ad b (aD b fun l=>ad l (aD l fun B=>bM (St.add k (Obj.tok 1 46)) fun C=>some ([.sl 4 [nA z x A B] (Perm.own k.h)],C)))))) (some ([.ax],j))) fun m=>bo m.1 fun n D=>bQ D (bk 64 [a] m.2 fun o c _=>ig o fun E=>cB E 0 fun F=>iH F fun G H=>(ig o fun I=>cB I 1 fun J=>bK .i64 J fun _=>bM (St.add c (.cells 30 [.int .u8 0,.str []])) fun K=>gi 2 (.mp c.h 0) [.int .u8 G,.str H] K fun _ d _=>ao 1 false (.mp c.h 0) d fun L _=>bK .u8 L fun M=>aC (bu (M==4) (bk 66 [a] d fun N O _=>az N fun P Q R e=>(ad e (ad e (aD e fun p=>ad p (aD p fun S=>eI 4 56 46 n [nA P Q R S] O fun T U _=>aC (bl (wV a) ([T],U)) fun q=>bo q.2.1 fun V W=>bQ W (some ([V],Prod.snd q.2))))))) (bk 106 [a,.bool true] d fun X Y _=>az X fun Z c7 c8 f=>(ad f (ad f (aD f fun r=>ad r (aD r fun c9=>eI 4 56 46 n [nA Z c7 c8 c9] Y fun d0 d1 _=>some ([d0],d1))))))) fun s=>bo s.1 fun d2 d3=>bQ d3 (bk 107 [a,.str [61]] s.2 fun d4 d5 _=>az d4 fun d6 d7 d8 g=>(bk 108 [a] d5 fun d9 e0 _=>az d9 fun e1 e2 e3 i=>(ad g (ad i (ad g (aD g fun t=>ad i (aD i fun u=>ad t (aD t fun e4=>ad u (aD u fun e5=>eI 4 56 46 d2 [nA d6 d7 d8 e4,nA e1 e2 e3 e5] e0 fun e6 e7 _=>some (oneOf [e6],e7))))))))))))
theorem U8 (a:AV) (st:St):dT vE 67 [a] st=w67 a st:=by kernel_rfl
noncomputable def oa (e:AV) (f:AV) (g:Nat):cJ->Oq (cJ ⊕ Nat×cJ):=fun a=>bo a.1 fun h i=>bK .i64 h fun c=>bo i fun j k=>bK .i64 j fun b=>bQ k (bu (decide (b < (↑g:Int))) (bL 4 e b a.2 fun l _=>ao 4 true l a.2 fun m _=>az m fun n o p q=>(iZ (aQ vE) (Sx.prim (sx vE 68)) f [nA n o p q] a.2 fun r d _=>ct r fun s=>bu s (some (Sum.inr (1,[.int .i64 b],d))) (bx (IntKind.wrap .i64 (b+1)) fun t=>some (Sum.inl ([.int .i64 c,.int .i64 t],d))))) (some (Sum.inr (0,[.int .i64 c],a.2))))
noncomputable def XD:AV->AV->Oq AV:=fun a c=>dm a fun d=>aC (bl (oa a c d) ([.int .i64 0,.int .i64 0],sZ)) fun b=>bo b.2.1 fun e f=>bK .i64 e fun g=>bQ f (rM b.1 (some (.int .i64 (-1))) fun _=>some (.int .i64 g))
theorem E5 (a b:AV):bB vE 68 [a,b]=XD a b:=by kernel_rfl
noncomputable def A0 (e:AV) (f:AV) (g:Nat):cJ->Oq (cJ ⊕ Nat×cJ):=fun a=>bo a.1 fun h i=>bK .i64 h fun c=>bo i fun j k=>bK .i64 j fun b=>bQ k (bu (decide (b < (↑g:Int))) (bL 4 e b a.2 fun l _=>ao 4 true l a.2 fun m _=>aL m fun n o p q=>(iZ (aQ vE) (Sx.prim (sx vE 91)) f [dA n o p q] a.2 fun r d _=>ct r fun s=>bu s (some (Sum.inr (1,[.int .i64 b],d))) (bx (IntKind.wrap .i64 (b+1)) fun t=>some (Sum.inl ([.int .i64 c,.int .i64 t],d))))) (some (Sum.inr (0,[.int .i64 c],a.2))))
noncomputable def ZP:AV->AV->Oq AV:=fun a c=>dm a fun d=>aC (bl (A0 a c d) ([.int .i64 0,.int .i64 0],sZ)) fun b=>bo b.2.1 fun e f=>bK .i64 e fun g=>bQ f (rM b.1 (some (.int .i64 (-1))) fun _=>some (.int .i64 g))
theorem Vk (a b:AV):bB vE 91 [a,b]=ZP a b:=by kernel_rfl
noncomputable def w92:AV->AV->St->Oq (AV×St):=fun a f st=>fG f fun c=>cE (aQ vE) (dK (Prim.copyCheck [(76,2,0),(77,2,0),(78,4,0),(79,4,0)]) [a]) st fun _ d _=>cf (notNil a) (ch 1 a fun g=>ao 1 false g d fun h _=>ou false (ofBytes c) fun e=>cf (nz 1 e) (eI 1 1 5 h e d fun b i _=>cf (notNil a) (ch 1 a fun j=>ad b (ad b (wQ j b i fun _ k _=>some (.tup [.int .i64 (↑c.length:Int),.nili],k))))))
theorem Uc (a b:AV) (st:St):dT vE 92 [a,b] st=w92 a b st:=by kernel_rfl
noncomputable def ZB:AV->AV->Oq AV:=fun c d=>fG c fun b=>fG d fun a=>aC (bu (decide ((↑b.length:Int)>=(↑a.length:Int))) (cf (Nat.ble a.length b.length) (bx (List.drop 0 (List.take a.length b)) fun e=>some ([.bool (e==a)],sZ))) (some ([.bool false],sZ))) fun f=>bo f.1 fun g h=>ct g fun i=>bQ h (some (.bool i))
theorem UX (a b:AV):bB vE 96 [a,b]=ZB a b:=by kernel_rfl
noncomputable def Yj:AV->AV->Oq AV:=fun c d=>fG c fun a=>fG d fun b=>bk 96 [.str a,.str b] sZ fun e _ _=>ct e fun f=>bu f (cf (Nat.ble b.length a.length) (bx (List.drop b.length (List.take a.length a)) fun g=>some (.str g))) (some (.str a))
theorem Sj (a b:AV):bB vE 100 [a,b]=Yj a b:=by kernel_rfl
noncomputable def XX:AV->AV->Oq AV:=fun a b=>fG a fun c=>bK .u8 b fun d=>cE (aQ vE) (dK Prim.indexByte [.str c,.int .u8 d]) sZ fun e _ _=>bK .i64 e fun f=>some (.int .i64 f)
theorem Ri (a b:AV):bB vE 101 [a,b]=XX a b:=by kernel_rfl
noncomputable def Vq:AV->Oq AV:=fun b=>iH b fun a _=>(aC (bu (a==1) (some ([.bool true],sZ)) (some ([.bool (a==2)],sZ))) fun c=>bo c.1 fun d e=>ct d fun f=>bQ e (some (.bool f)))
theorem Re (a:AV):bB vE 103 [a]=Vq a:=by kernel_rfl
noncomputable def Yw:AV->AV->Oq AV:=fun a b=>fG b fun c=>bk 142 [a,.str c] sZ fun d _ _=>bK .i64 d fun e=>some (.bool (decide (e>=0)))
theorem Qo (a b:AV):bB vE 104 [a,b]=Yw a b:=by kernel_rfl
noncomputable def U1:AV->AV->AV->St->Oq (AV×St):=fun e k l st=>bK .u8 k fun m=>fG l fun n=>bk 64 [e] st fun f c _=>ig f fun o=>cB o 0 fun p=>iH p fun q r=>(ig f fun s=>cB s 1 fun t=>bK .i64 t fun _=>bM (St.add c (.cells 30 [.int .u8 0,.str []])) fun u=>gi 2 (.mp c.h 0) [.int .u8 q,.str r] u fun _ b _=>ao 1 false (.mp c.h 0) b fun v _=>bK .u8 v fun a=>aC (bu (a==4) (some ([.bool (a==4)],b)) (aC (bu (a==5) (some ([.bool (a==5)],b)) (aC (bu (a==7) (some ([.bool (a==7)],b)) (aC (bu (a==9) (some ([.bool (a==9)],b)) (some ([.bool (a==m)],b))) fun g=>bo g.1 fun w y=>ct w fun z=>bQ y (some ([.bool z],g.2)))) fun i=>bo i.1 fun x A=>ct x fun B=>bQ A (some ([.bool B],i.2)))) fun j=>bo j.1 fun C D=>ct C fun E=>bQ D (some ([.bool E],j.2)))) fun d=>bo d.1 fun F G=>ct F fun H=>bQ G (bu H (some (.bool true,d.2)) (bk 65 [e,.sl 1 [.str [116,114,117,101],.str [102,97,108,115,101],.str [40],.str [91],.str n] .shut] d.2 fun I J _=>ct I fun K=>some (.bool K,J))))
theorem JT (a b c:AV) (st:St):dT vE 105 [a,b,c] st=U1 a b c st:=by kernel_rfl
noncomputable def X7:AV->AV->St->Oq (AV×St):=fun a u st=>ct u fun v=>bM (St.add st (.cells 46 (nC 0 0 [] .ax))) fun e=>aC (bu v (some ([.str [112,97,116,116,101,114,110],.int .u8 17,.int .u8 18,.str [95],.fn (Fn.func 143) [a] [],.int .u8 5],e)) (some ([.str [101,120,112,114],.int .u8 14,.int .u8 15,.str [40],.fn (Fn.func 108) [a] [],.int .u8 6],e))) fun f=>bo f.1 fun w y=>fG w fun z=>bo y fun x A=>bK .u8 x fun B=>bo A fun C D=>bK .u8 C fun E=>bo D fun F G=>fG F fun H=>bo G fun g I=>bo I fun J K=>bK .u8 J fun L=>bQ K (bk 64 [a] f.2 fun i c _=>ig i fun M=>cB M 0 fun N=>iH N fun O P=>(ig i fun Q=>cB Q 1 fun R=>bK .i64 R fun _=>bM (St.add c (.cells 30 [.int .u8 0,.str []])) fun S=>gi 2 (.mp c.h 0) [.int .u8 O,.str P] S fun _ T _=>bk 105 [a,.int .u8 L,.str H] T fun U b _=>ct U fun V=>bu (!V) (bk 144 [.str z] b fun W X _=>az W fun Y Z c3 j=>(ad j (gi 4 (.mp st.h 0) (nC Y Z c3 j) X fun _ k _=>ao 4 true (.mp st.h 0) k fun c4 _=>az c4 fun c5 c6 c7 c8=>(some (nA c5 c6 c7 c8,k))))) (ao 1 false (.mp c.h 0) b fun c9 _=>bK .u8 c9 fun d0=>bu (d0==9) (bk 66 [a] b fun d1 d2 _=>az d1 fun d3 d4 d5 d=>(ad d (ad d (aD d fun d6=>gi 4 (.mp st.h 0) [.int .u8 3,.int .u8 0,.str [],.sl 4 [nA d3 d4 d5 d6] .shut] d2 fun _ l _=>ao 4 true (.mp st.h 0) l fun d7 _=>az d7 fun d8 d9 e0 e1=>(some (nA d8 d9 e0 e1,l)))))) (bk 65 [a,.sl 1 [.str [40]] .shut] b fun e2 m _=>ct e2 fun e3=>bu e3 (bk 145 [a,.int .u8 B,.str [44],.str [41],g] m fun e4 e5 _=>az e4 fun e6 e7 e8 n=>(ad n (gi 4 (.mp st.h 0) (nC e6 e7 e8 n) e5 fun _ o _=>ao 4 true (.mp st.h 0) o fun e9 _=>az e9 fun f0 f1 f2 f3=>(some (nA f0 f1 f2 f3,o))))) (bk 65 [a,.sl 1 [.str [91]] .shut] m fun f4 p _=>ct f4 fun f5=>bu f5 (bk 145 [a,.int .u8 E,.str [59],.str [93],g] p fun f6 f7 _=>az f6 fun f8 f9 h0 q=>(ad q (gi 4 (.mp st.h 0) (nC f8 f9 h0 q) f7 fun _ r _=>ao 4 true (.mp st.h 0) r fun h1 _=>az h1 fun h2 h3 h4 h5=>(some (nA h2 h3 h4 h5,r))))) (bk 66 [a] p fun h6 h7 _=>az h6 fun h8 h9 i0 s=>(ad s (gi 4 (.mp st.h 0) (nC h8 h9 i0 s) h7 fun _ t _=>ao 4 true (.mp st.h 0) t fun i1 _=>az i1 fun i2 i3 i4 i5=>(some (nA i2 i3 i4 i5,t))))))))))
theorem R6 (a b:AV) (st:St):dT vE 106 [a,b] st=X7 a b st:=by kernel_rfl
noncomputable def Uq:AV->AV->St->Oq (AV×St):=fun a i st=>fG i fun b=>bM (St.add st (.cells 46 (nC 0 0 [] .ax))) fun j=>bk 65 [a,.sl 1 [.str b] .shut] j fun k c _=>ct k fun l=>bu l (bk 66 [a] c fun m n _=>az m fun o p q d=>(ad d (gi 4 (.mp st.h 0) (nC o p q d) n fun _ e _=>ao 4 true (.mp st.h 0) e fun r _=>az r fun s t u v=>(some (nA s t u v,e))))) (bk 144 [.str b] c fun w y _=>az w fun z x A f=>(ad f (gi 4 (.mp st.h 0) (nC z x A f) y fun _ g _=>ao 4 true (.mp st.h 0) g fun B _=>az B fun C D E F=>(some (nA C D E F,g)))))
theorem JO (a b:AV) (st:St):dT vE 107 [a,b] st=Uq a b st:=by kernel_rfl
noncomputable def Ye:AV->St->Oq (AV×St):=fun a st=>bM (St.add st (.cells 46 (nC 0 0 [] .ax))) fun d=>bk 146 [a,.str [101,120,112,114],.fn (Fn.func 147) [a] []] d fun e f _=>az e fun g i j b=>(ad b (gi 4 (.mp st.h 0) (nC g i j b) f fun _ c _=>ao 4 true (.mp st.h 0) c fun k _=>az k fun l m n o=>(some (nA l m n o,c))))
theorem SH (a:AV) (st:St):dT vE 108 [a] st=Ye a st:=by kernel_rfl
noncomputable def sY (d:AV) (e:LB) (f:Nat):cJ->Oq (cJ ⊕ Nat×cJ):=fun a=>bo a.1 fun g h=>bK .i64 g fun c=>bo h fun i j=>bK .i64 i fun b=>bQ j (bu (decide (b < (↑f:Int))) (bL 1 d b a.2 fun k _=>ao 1 false k a.2 fun l _=>fG l fun m=>bu (e==m) (some (Sum.inr (1,[.int .i64 b],a.2))) (bx (IntKind.wrap .i64 (b+1)) fun n=>some (Sum.inl ([.int .i64 c,.int .i64 n],a.2)))) (some (Sum.inr (0,[.int .i64 c],a.2))))
noncomputable def T9:AV->AV->Oq AV:=fun a c=>fG c fun d=>dm a fun e=>aC (bl (sY a d e) ([.int .i64 0,.int .i64 0],sZ)) fun b=>bo b.2.1 fun f g=>bK .i64 f fun h=>bQ g (rM b.1 (some (.int .i64 (-1))) fun _=>some (.int .i64 h))
theorem Km (a b:AV):bB vE 142 [a,b]=T9 a b:=by kernel_rfl
noncomputable def W7:AV->St->Oq (AV×St):=fun a st=>ad a (ad a (bM (St.add st (.cells 90 [a])) fun b=>bM (St.add b (.cells 46 (nC 0 0 [] .ax))) fun c=>ao 1 false (.mp st.h 0) c fun f _=>bk 146 [f,.str [112,97,116,116,101,114,110],.fn (Fn.func 163) [] [.mp st.h 0]] c fun g i _=>az g fun j k l d=>(ad d (gi 4 (.mp b.h 0) (nC j k l d) i fun _ e _=>ao 4 true (.mp b.h 0) e fun m _=>az m fun n o p q=>(some (nA n o p q,e))))))
theorem Qj (a:AV) (st:St):dT vE 143 [a] st=W7 a st:=by kernel_rfl
noncomputable def XT:AV->Oq AV:=fun a=>fG a fun b=>some (nA 2 0 b .ax)
theorem Qm (a:AV):bB vE 144 [a]=XT a:=by kernel_rfl
noncomputable def oK (g:AV) (o:AV) (p:LB) (a:St):cJ->Oq (cJ ⊕ Nat×cJ):=fun i=>bQ i.1 (bk 65 [g,.sl 1 [.str p] .shut] i.2 fun q b _=>ct q fun r=>bu r (ao 1 false (.mp a.h 3) b fun s t=>bk 66 [g] b fun u v j=>az u fun w y z c=>(cf (apart (Fx.mk t eS.kept) j&&(apart (⟨[],.kept⟩) j&&true)) (ad c (ad c (aD c fun k=>ad k (aD k fun x=>eI 4 56 46 s [nA w y z x] v fun d A _=>ad d (ad d (wQ (.mp a.h 3) d A fun _ l _=>ao 1 false (.mp a.h 3) l fun B C=>iZ (aQ vE) (Sx.prim (sx vE 145)) o [] l fun D E m=>az D fun F G H e=>(cf (apart (Fx.mk C eS.kept) m&&(apart (⟨[],.kept⟩) m&&true)) (ad e (ad e (aD e fun n=>ad n (aD n fun I=>eI 4 56 46 B [nA F G H I] E fun f J _=>ad f (ad f (wQ (.mp a.h 3) f J fun _ K _=>some (Sum.inl ([],K))))))))))))))))) (some (Sum.inr (0,[],b))))
noncomputable def Xe:AV->AV->AV->AV->AV->St->Oq (AV×St):=fun b A B C m st=>bK .u8 A fun D=>fG B fun l1=>fG C fun n=>bM (St.add st (.cells 46 (nC 0 0 [] .ax))) fun E=>bk 66 [b] E fun F a _=>az F fun G H I d=>(ad d (ad d (aD d fun J=>bM (St.add a (.cells 46 (nC 0 0 [] .ax))) fun K=>gi 4 (.mp a.h 0) [.int .u8 D,.int .u8 0,.str [],.sl 4 [nA G H I J] .shut] K fun _ L _=>bk 65 [b,.sl 1 [.str n] .shut] L fun M c _=>ct M fun N=>bu N (ao 1 false (.mp a.h 3) c fun O P=>bk 66 [b] c fun Q R o=>az Q fun S T U e=>(cf (apart (Fx.mk P eS.kept) o&&(apart (⟨[],.kept⟩) o&&true)) (ad e (ad e (aD e fun p=>ad p (aD p fun V=>eI 4 56 46 O [nA S T U V] R fun f W _=>ad f (ad f (wQ (.mp a.h 3) f W fun _ q _=>ao 4 true (.mp a.h 0) q fun X _=>az X fun Y Z c2 r=>(ad r (gi 4 (.mp st.h 0) (nC Y Z c2 r) q fun _ s _=>ao 4 true (.mp st.h 0) s fun c3 _=>az c3 fun c4 c5 c6 c7=>(some (nA c4 c5 c6 c7,s)))))))))))) (ao 1 false (.mp a.h 3) c fun c8 c9=>iZ (aQ vE) (Sx.prim (sx vE 145)) m [] c fun d0 d1 t=>az d0 fun d2 d3 d4 g=>(cf (apart (Fx.mk c9 eS.kept) t&&(apart (⟨[],.kept⟩) t&&true)) (ad g (ad g (aD g fun u=>ad u (aD u fun d5=>eI 4 56 46 c8 [nA d2 d3 d4 d5] d1 fun i d6 _=>ad i (ad i (wQ (.mp a.h 3) i d6 fun _ d7 _=>aC (bl (oK b m l1 a) ([],d7)) fun j=>bQ j.2.1 (ao 1 false (.mp a.h 3) j.2.2 fun d8 d9=>bk 107 [b,.str n] j.2.2 fun e0 e1 v=>az e0 fun e2 e3 e4 k=>(cf (apart (Fx.mk d9 eS.kept) v&&(apart (⟨[],.kept⟩) v&&true)) (ad k (ad k (aD k fun w=>ad w (aD w fun e5=>eI 4 56 46 d8 [nA e2 e3 e4 e5] e1 fun l e6 _=>ad l (ad l (wQ (.mp a.h 3) l e6 fun _ y _=>ao 4 true (.mp a.h 0) y fun e7 _=>az e7 fun e8 e9 f0 z=>(ad z (gi 4 (.mp st.h 0) (nC e8 e9 f0 z) y fun _ x _=>ao 4 true (.mp st.h 0) x fun f1 _=>az f1 fun f2 f3 f4 f5=>(some (nA f2 f3 f4 f5,x)))))))))))))))))))))))
theorem SA (a b c d e:AV) (st:St):dT vE 145 [a,b,c,d,e] st=Xe a b c d e st:=by kernel_rfl
noncomputable def TL:AV->AV->AV->St->Oq (AV×St):=fun a s t st=>fG s fun u=>bM (St.add st (.cells 46 (nC 0 0 [] .ax))) fun b=>cf (notNil a) (ch 2 a fun v=>ao 1 false v b fun w _=>bK .i64 w fun y=>bu (y==64) (bk 64 [a] b fun g c _=>ig g fun z=>cB z 0 fun x=>iH x fun A B=>(ig g fun C=>cB C 1 fun D=>bK .i64 D fun _=>bM (St.add c (.cells 30 [.int .u8 0,.str []])) fun E=>gi 2 (.mp c.h 0) [.int .u8 A,.str B] E fun _ d _=>ao 1 false (.mp c.h 0) d fun F _=>bK .u8 F fun G=>bu (G==0) (bk 144 [.str u] d fun H I _=>az H fun J K L i=>(ad i (gi 4 (.mp st.h 0) (nC J K L i) I fun _ j _=>ao 4 true (.mp st.h 0) j fun M _=>az M fun N O P Q=>(some (nA N O P Q,j))))) (bk 66 [a] d fun R S _=>az R fun T U V e=>(ad e (ad e (aD e fun W=>gi 4 (.mp st.h 0) [.int .u8 3,.int .u8 0,.str [],.sl 4 [nA T U V W] .shut] S fun _ k _=>ao 4 true (.mp st.h 0) k fun X _=>az X fun Y Z c7 c8=>(some (nA Y Z c7 c8,k)))))))) (cf (notNil a) (ch 2 a fun c9=>ao 1 false c9 b fun d0 _=>bK .i64 d0 fun d1=>bx (IntKind.wrap .i64 (d1+1)) fun l=>cf (notNil a) (ch 2 a fun d2=>aK (aQ vE) 1 d2 (.int .i64 l) [.int .i64 l] b fun _ d3 _=>iZ (aQ vE) (Sx.prim (sx vE 146)) t [] d3 fun d4 f _=>az d4 fun d5 d6 d7 m=>(bM (St.add f (.cells 46 (nC 0 0 [] .ax))) fun d8=>ad m (gi 4 (.mp f.h 0) (nC d5 d6 d7 m) d8 fun _ n _=>cf (notNil a) (ch 2 a fun d9=>ao 1 false d9 n fun e0 _=>bK .i64 e0 fun e1=>bx (IntKind.wrap .i64 (e1 - 1)) fun o=>cf (notNil a) (ch 2 a fun e2=>aK (aQ vE) 1 e2 (.int .i64 o) [.int .i64 o] n fun _ p _=>ao 4 true (.mp f.h 0) p fun e3 _=>az e3 fun e4 e5 e6 q=>(ad q (gi 4 (.mp st.h 0) (nC e4 e5 e6 q) p fun _ r _=>ao 4 true (.mp st.h 0) r fun e7 _=>az e7 fun e8 e9 f0 f1=>(some (nA e8 e9 f0 f1,r))))))))))))
theorem J9 (a b c:AV) (st:St):dT vE 146 [a,b,c] st=TL a b c st:=by kernel_rfl
noncomputable def tF (b:AV) (e:St):cJ->Oq (cJ ⊕ Nat×cJ):=fun c=>bQ c.1 (bk 105 [b,.int .u8 5,.str [95]] c.2 fun f d _=>ct f fun g=>bu g (bk 106 [b,.bool true] d fun i j _=>az i fun k l m a=>(ad a (ad a (aD a fun n=>bk 164 [.sl 4 [nA k l m n] .shut,.mp e.h 0] j fun _ o _=>some (Sum.inl ([],o)))))) (some (Sum.inr (0,[],d))))
noncomputable def tN (a:AV) (d:St):cJ->Oq (cJ ⊕ Nat×cJ):=fun e=>bQ e.1 (bk 65 [a,.sl 1 [.str [124]] .shut] e.2 fun g f _=>ct g fun i=>bu i (bk 66 [a] f fun j k _=>az j fun l m n b=>(ad b (ad b (aD b fun o=>bk 164 [.sl 4 [nA l m n o] .shut,.mp d.h 0] k fun _ p _=>bk 165 [a] p fun q r _=>az q fun s t u c=>(ad c (ad c (aD c fun v=>bk 164 [.sl 4 [nA s t u v] .shut,.mp d.h 0] r fun _ w _=>some (Sum.inl ([],w))))))))) (some (Sum.inr (0,[],f))))
noncomputable def X3:AV->St->Oq (AV×St):=fun b st=>bM (St.add st (.cells 46 (nC 0 0 [] .ax))) fun a=>bM (St.add a (.cells 46 (nC 0 0 [] .ax))) fun L=>bk 65 [b,.sl 1 [.str [108,101,116]] .shut] L fun M u _=>ct M fun x=>aC (bu x (aK (aQ vE) 1 (.mp a.h 0) (.int .u8 6) [.int .u8 6] u fun _ N _=>bk 66 [b] N fun O P _=>az O fun Q x R c=>(ad c (ad c (aD c fun S=>bk 164 [.sl 4 [nA Q x R S] .shut,.mp a.h 0] P fun _ T _=>bk 67 [b] T fun U V _=>bk 164 [U,.mp a.h 0] V fun _ W _=>bk 107 [b,.str [105,110]] W fun X Y _=>az X fun Z c5 c6 d=>(ad d (ad d (aD d fun c7=>bk 164 [.sl 4 [nA Z c5 c6 c7] .shut,.mp a.h 0] Y fun _ c8 _=>some (Sum.inl ([],c8))))))))) (bk 65 [b,.sl 1 [.str [102,117,110]] .shut] u fun c9 v _=>ct c9 fun d0=>aC (bu d0 (aK (aQ vE) 1 (.mp a.h 0) (.int .u8 7) [.int .u8 7] v fun _ d1 _=>bk 66 [b] d1 fun d2 d3 _=>az d2 fun d4 d5 d6 e=>(ad e (ad e (aD e fun d7=>bk 164 [.sl 4 [nA d4 d5 d6 d7] .shut,.mp a.h 0] d3 fun _ d8 _=>bk 106 [b,.bool true] d8 fun d9 e0 _=>az d9 fun e1 e2 e3 f=>(ad f (ad f (aD f fun e4=>bk 164 [.sl 4 [nA e1 e2 e3 e4] .shut,.mp a.h 0] e0 fun _ e5 _=>aC (bl (tF b a) ([],e5)) fun w=>bQ w.2.1 (bk 107 [b,.str [45,62]] w.2.2 fun e6 e7 _=>az e6 fun e8 e9 f0 g=>(ad g (ad g (aD g fun f1=>bk 164 [.sl 4 [nA e8 e9 f0 f1] .shut,.mp a.h 0] e7 fun _ f2 _=>some (Sum.inl ([],f2))))))))))))) (bk 65 [b,.sl 1 [.str [105,102]] .shut] v fun f3 y _=>ct f3 fun f4=>bu f4 (aK (aQ vE) 1 (.mp a.h 0) (.int .u8 8) [.int .u8 8] y fun _ f5 _=>bk 66 [b] f5 fun f6 f7 _=>az f6 fun f8 f9 h0 i=>(ad i (ad i (aD i fun h1=>bk 164 [.sl 4 [nA f8 f9 h0 h1] .shut,.mp a.h 0] f7 fun _ h2 _=>bk 108 [b] h2 fun h3 h4 _=>az h3 fun h5 h6 h7 j=>(ad j (ad j (aD j fun h8=>bk 164 [.sl 4 [nA h5 h6 h7 h8] .shut,.mp a.h 0] h4 fun _ h9 _=>bk 107 [b,.str [116,104,101,110]] h9 fun i0 i1 _=>az i0 fun i2 i3 i4 k=>(ad k (ad k (aD k fun i5=>bk 164 [.sl 4 [nA i2 i3 i4 i5] .shut,.mp a.h 0] i1 fun _ i6 _=>bk 108 [b] i6 fun i7 i8 _=>az i7 fun i9 j0 j1 l=>(ad l (ad l (aD l fun j2=>bk 164 [.sl 4 [nA i9 j0 j1 j2] .shut,.mp a.h 0] i8 fun _ j3 _=>bk 107 [b,.str [101,108,115,101]] j3 fun j4 j5 _=>az j4 fun j6 j7 j8 m=>(ad m (ad m (aD m fun j9=>bk 164 [.sl 4 [nA j6 j7 j8 j9] .shut,.mp a.h 0] j5 fun _ k0 _=>some (Sum.inl ([],k0)))))))))))))))))) (bk 65 [b,.sl 1 [.str [109,97,116,99,104]] .shut] y fun k1 z _=>ct k1 fun k2=>bu k2 (aK (aQ vE) 1 (.mp a.h 0) (.int .u8 9) [.int .u8 9] z fun _ k3 _=>bk 66 [b] k3 fun k4 k5 _=>az k4 fun k6 k7 k8 n=>(ad n (ad n (aD n fun k9=>bk 164 [.sl 4 [nA k6 k7 k8 k9] .shut,.mp a.h 0] k5 fun _ m0 _=>bk 108 [b] m0 fun m1 m2 _=>az m1 fun m3 m4 m5 o=>(ad o (ad o (aD o fun m6=>bk 164 [.sl 4 [nA m3 m4 m5 m6] .shut,.mp a.h 0] m2 fun _ m7 _=>bk 107 [b,.str [119,105,116,104]] m7 fun m8 m9 _=>az m8 fun n0 n1 n2 p=>(ad p (ad p (aD p fun n3=>bk 164 [.sl 4 [nA n0 n1 n2 n3] .shut,.mp a.h 0] m9 fun _ n4 _=>bk 65 [b,.sl 1 [.str [124]] .shut] n4 fun n5 A _=>ct n5 fun n6=>aC (bu n6 (bk 66 [b] A fun n7 n8 _=>az n7 fun n9 o0 o1 q=>(ad q (ad q (aD q fun o2=>bk 164 [.sl 4 [nA n9 o0 o1 o2] .shut,.mp a.h 0] n8 fun _ o3 _=>some ([],o3))))) (some ([],A))) fun B=>bQ B.1 (bk 165 [b] B.2 fun o4 o5 _=>az o4 fun o6 o7 o8 r=>(ad r (ad r (aD r fun o9=>bk 164 [.sl 4 [nA o6 o7 o8 o9] .shut,.mp a.h 0] o5 fun _ p0 _=>aC (bl (tN b a) ([],p0)) fun s=>bQ s.2.1 (ao 4 true (.mp a.h 0) s.2.2 fun p1 _=>az p1 fun p2 p3 p4 C=>(ad C (gi 4 (.mp st.h 0) (nC p2 p3 p4 C) s.2.2 fun _ D _=>aC (aC (ao 4 true (.mp st.h 0) D fun p5 _=>az p5 fun p6 p7 p8 p9=>(some (nA p6 p7 p8 p9,D))) fun q0=>some (Sum.inr q0)) fun q1=>some (Sum.inr q1)))))))))))))))))) (bk 166 [b,.int .i64 0] z fun q2 q3 _=>az q2 fun q4 q5 q6 E=>(ad E (gi 4 (.mp st.h 0) (nC q4 q5 q6 E) q3 fun _ F _=>aC (aC (ao 4 true (.mp st.h 0) F fun q7 _=>az q7 fun q8 q9 s0 s1=>(some (nA q8 q9 s0 s1,F))) fun s2=>some (Sum.inr s2)) fun s3=>some (Sum.inr s3))))))) fun s4=>kZ s4 fun G=>bQ G.1 (some (Sum.inl ([],Prod.snd G))))) fun s5=>kZ s5 fun H=>bQ H.1 (bk 108 [b] H.2 fun s6 s7 _=>az s6 fun s8 s9 t0 t=>(ad t (ad t (aD t fun t1=>bk 164 [.sl 4 [nA s8 s9 t0 t1] .shut,.mp a.h 0] s7 fun _ I _=>ao 4 true (.mp a.h 0) I fun t2 _=>az t2 fun t3 t4 t5 J=>(ad J (gi 4 (.mp st.h 0) (nC t3 t4 t5 J) I fun _ K _=>ao 4 true (.mp st.h 0) K fun t6 _=>az t6 fun t7 t8 t9 u0=>(some (nA t7 t8 t9 u0,K))))))))
theorem R1 (a:AV) (st:St):dT vE 147 [a] st=X3 a st:=by kernel_rfl
noncomputable def XB:AV->AV->St->Oq (AV×St):=fun a d st=>bK .u8 d fun e=>cE (aQ vE) (dK (Prim.copyCheck [(76,2,0),(77,2,0),(78,4,0),(79,4,0)]) [a]) st fun _ c _=>cf (notNil a) (ch 1 a fun f=>ao 1 false f c fun g _=>eI 1 1 5 g [.int .u8 e] c fun b h _=>cf (notNil a) (ch 1 a fun i=>ad b (ad b (wQ i b h fun _ j _=>some (.nili,j)))))
theorem Sw (a b:AV) (st:St):dT vE 148 [a,b] st=XB a b st:=by kernel_rfl
noncomputable def Yl:AV->St->Oq (AV×St):=fun b st=>bM (St.add st (.cells 46 (nC 0 0 [] .ax))) fun k=>ao 1 false b k fun r _=>bk 106 [r,.bool true] k fun s a _=>az s fun t u v l=>(bM (St.add a (.cells 46 (nC 0 0 [] .ax))) fun w=>ad l (gi 4 (.mp a.h 0) (nC t u v l) w fun _ m _=>ao 1 false b m fun y _=>bk 65 [y,.sl 1 [.str [58,58]] .shut] m fun z d _=>ct z fun x=>aC (bu x (ao 1 false b d fun A _=>bk 66 [A] d fun B e _=>az B fun C D E n=>(bM (St.add e (.cells 46 (nC 0 0 [] .ax))) fun F=>ad n (gi 4 (.mp e.h 0) (nC C D E n) F fun _ c _=>ao 4 true (.mp a.h 0) c fun G H=>az G fun I J K f=>(ao 4 true (.mp e.h 0) c fun L M=>az L fun N O P g=>(ao 1 false b c fun Q _=>bk 143 [Q] c fun R S o=>az R fun T U V i=>(cf (apart (Fx.mk M eS.kept) o&&(apart (Fx.mk H eS.kept) o&&true)) (ad f (ad g (ad i (ad f (aD f fun W=>ad g (aD g fun X=>ad i (aD i fun Y=>gi 4 (.mp a.h 0) [.int .u8 16,.int .u8 0,.str [],.sl 4 [nA I J K W,nA N O P X,nA T U V Y] .shut] S fun _ Z _=>some ([],Z)))))))))))))) (some ([],d))) fun j=>bQ j.1 (ao 4 true (.mp a.h 0) j.2 fun c7 _=>az c7 fun c8 c9 d0 p=>(ad p (gi 4 (.mp st.h 0) (nC c8 c9 d0 p) j.2 fun _ q _=>ao 4 true (.mp st.h 0) q fun d1 _=>az d1 fun d2 d3 d4 d5=>(some (nA d2 d3 d4 d5,q)))))))
theorem SE (a:AV) (st:St):dT vE 163 [a] st=Yl a st:=by kernel_rfl
noncomputable def Yi:AV->AV->St->Oq (AV×St):=fun d b st=>ch 3 b fun e=>ao 1 false e st fun f _=>oY d fun g=>ou true g fun c=>cf (nz 4 c) (eI 4 56 46 f c st fun a h _=>ch 3 b fun i=>ad a (ad a (wQ i a h fun _ j _=>some (.tup [],j))))
theorem Q6 (a b:AV) (st:St):dT vE 164 [a,b] st=Yi a b st:=by kernel_rfl
noncomputable def Yf:AV->St->Oq (AV×St):=fun a st=>bM (St.add st (.cells 46 (nC 0 0 [] .ax))) fun m=>bk 143 [a] m fun n b _=>az n fun o p q i=>(bM (St.add b (.cells 46 (nC 0 0 [] .ax))) fun r=>ad i (gi 4 (.mp b.h 0) (nC o p q i) r fun _ s _=>bk 107 [a,.str [45,62]] s fun t c _=>az t fun u v w j=>(bM (St.add c (.cells 46 (nC 0 0 [] .ax))) fun y=>ad j (gi 4 (.mp c.h 0) (nC u v w j) y fun _ d _=>ao 4 true (.mp b.h 0) d fun z x=>az z fun A B C e=>(ao 4 true (.mp c.h 0) d fun D E=>az D fun F G H f=>(bk 108 [a] d fun I J k=>az I fun K L M g=>(cf (apart (Fx.mk E eS.kept) k&&(apart (Fx.mk x eS.kept) k&&true)) (ad e (ad f (ad g (ad e (aD e fun N=>ad f (aD f fun O=>ad g (aD g fun P=>gi 4 (.mp st.h 0) [.int .u8 10,.int .u8 0,.str [],.sl 4 [nA A B C N,nA F G H O,nA K L M P] .shut] J fun _ l _=>ao 4 true (.mp st.h 0) l fun Q _=>az Q fun R S T U=>(some (nA R S T U,l))))))))))))))))
theorem QF (a:AV) (st:St):dT vE 165 [a] st=Yf a st:=by kernel_rfl
noncomputable def tA (e:AV) (a:Int) (k:AV) (l:St):cJ->Oq (cJ ⊕ Nat×cJ):=fun b=>bQ b.1 (bL 2 k a b.2 fun p _=>ch 0 p fun q=>ao 1 false q b.2 fun r _=>bk 65 [e,r] b.2 fun s m _=>ct s fun t=>bu t (bk 66 [e] m fun u f _=>az u fun v w y n=>(bM (St.add f (.cells 46 (nC 0 0 [] .ax))) fun z=>ad n (gi 4 (.mp f.h 0) (nC v w y n) z fun _ c _=>bL 2 k a c fun x _=>ch 1 x fun A=>ao 1 false A c fun B _=>ct B fun C=>aC (bu C (bx (IntKind.wrap .i64 (a+1)) fun D=>some ([.int .i64 D],c)) (some ([.int .i64 a],c))) fun d=>bo d.1 fun E F=>bK .i64 E fun G=>bQ F (ao 4 true (.mp l.h 0) d.2 fun H I=>az H fun J K L g=>(ao 4 true (.mp f.h 0) d.2 fun M N=>az M fun O P Q i=>(bk 166 [e,.int .i64 G] d.2 fun R S o=>az R fun T U V j=>(cf (apart (Fx.mk N eS.kept) o&&(apart (Fx.mk I eS.kept) o&&true)) (ad g (ad i (ad j (ad g (aD g fun W=>ad i (aD i fun X=>ad j (aD j fun Y=>gi 4 (.mp l.h 0) [.int .u8 11,.int .u8 0,.str [],.sl 4 [nA J K L W,nA O P Q X,nA T U V Y] .shut] S fun _ Z _=>some (Sum.inl ([],Z)))))))))))))))) (some (Sum.inr (0,[],m))))
noncomputable def Xf:AV->AV->St->Oq (AV×St):=fun b m st=>bK .i64 m fun c=>bM (St.add st (.cells 46 (nC 0 0 [] .ax))) fun n=>bk 174 [] n fun e f _=>dm e fun o=>bu (c==(↑o:Int)) (bk 175 [b] f fun p q _=>az p fun r s t g=>(ad g (gi 4 (.mp st.h 0) (nC r s t g) q fun _ i _=>ao 4 true (.mp st.h 0) i fun u _=>az u fun v w y z=>(some (nA v w y z,i))))) (bx (IntKind.wrap .i64 (c+1)) fun x=>bk 166 [b,.int .i64 x] f fun A a _=>az A fun B C D j=>(bM (St.add a (.cells 46 (nC 0 0 [] .ax))) fun E=>ad j (gi 4 (.mp a.h 0) (nC B C D j) E fun _ F _=>aC (bl (tA b c e a) ([],F)) fun d=>bQ d.2.1 (ao 4 true (.mp a.h 0) d.2.2 fun G _=>az G fun H I J k=>(ad k (gi 4 (.mp st.h 0) (nC H I J k) d.2.2 fun _ l _=>ao 4 true (.mp st.h 0) l fun K _=>az K fun L M N O=>(some (nA L M N O,l))))))))
theorem RP (a b:AV) (st:St):dT vE 166 [a,b] st=Xf a b st:=by kernel_rfl
noncomputable def Zv:Oq AV:=some (.sl 2 [.agg [.sl 1 [.str [124,124]] .shut,.bool false],.agg [.sl 1 [.str [38,38]] .shut,.bool false],.agg [.sl 1 [.str [61],.str [60,62],.str [60],.str [60,61],.str [62],.str [62,61]] .shut,.bool true],.agg [.sl 1 [.str [64],.str [94]] .shut,.bool false],.agg [.sl 1 [.str [58,58]] .shut,.bool false],.agg [.sl 1 [.str [43],.str [45],.str [43,46],.str [45,46]] .shut,.bool true],.agg [.sl 1 [.str [42],.str [47],.str [42,46],.str [47,46],.str [109,111,100]] .shut,.bool true]] .shut)
theorem R9:bB vE 174 []=Zv:=by kernel_rfl
noncomputable def tg (d:AV) (e:St):cJ->Oq (cJ ⊕ Nat×cJ):=fun f=>bQ f.1 (bk 105 [d,.int .u8 6,.str [40]] f.2 fun g a _=>ct g fun i=>bu i (ao 4 true (.mp e.h 0) a fun j k=>az j fun l m n b=>(bk 106 [d,.bool false] a fun o p q=>az o fun r s t c=>(cf (apart (Fx.mk k eS.kept) q&&true) (ad b (ad c (ad b (aD b fun u=>ad c (aD c fun v=>gi 4 (.mp e.h 0) [.int .u8 13,.int .u8 0,.str [],.sl 4 [nA l m n u,nA r s t v] .shut] p fun _ w _=>some (Sum.inl ([],w)))))))))) (some (Sum.inr (0,[],a))))
noncomputable def XI:AV->St->Oq (AV×St):=fun a st=>bM (St.add st (.cells 46 (nC 0 0 [] .ax))) fun o=>bk 65 [a,.sl 1 [.str [45],.str [45,46]] .shut] o fun p g _=>ct p fun q=>bu (!q) (bk 106 [a,.bool false] g fun r b _=>az r fun s t u i=>(bM (St.add b (.cells 46 (nC 0 0 [] .ax))) fun v=>ad i (gi 4 (.mp b.h 0) (nC s t u i) v fun _ w _=>aC (bl (tg a b) ([],w)) fun c=>bQ c.2.1 (ao 4 true (.mp b.h 0) c.2.2 fun y _=>az y fun z x A j=>(ad j (gi 4 (.mp st.h 0) (nC z x A j) c.2.2 fun _ k _=>ao 4 true (.mp st.h 0) k fun B _=>az B fun C D E F=>(some (nA C D E F,k)))))))) (bk 66 [a] g fun G d _=>az G fun H I J l=>(bM (St.add d (.cells 46 (nC 0 0 [] .ax))) fun K=>ad l (gi 4 (.mp d.h 0) (nC H I J l) K fun _ m _=>ao 4 true (.mp d.h 0) m fun L M=>az L fun N O P e=>(bk 146 [a,.str [101,120,112,114],.fn (Fn.func 175) [a] []] m fun Q R S=>az Q fun T U V f=>(cf (apart (Fx.mk M eS.kept) S&&true) (ad e (ad f (ad e (aD e fun W=>ad f (aD f fun X=>gi 4 (.mp st.h 0) [.int .u8 12,.int .u8 0,.str [],.sl 4 [nA N O P W,nA T U V X] .shut] R fun _ n _=>ao 4 true (.mp st.h 0) n fun Y _=>az Y fun Z c7 c8 c9=>(some (nA Z c7 c8 c9,n))))))))))))
theorem RE (a:AV) (st:St):dT vE 175 [a] st=XI a st:=by kernel_rfl
end Go.Proofs.YtkbkbndajpbcjaaGreatDoor.Vm
namespace Go.Proofs.YtkbkbndajpbcjaaGreatDoor.Vm
open Go Go.VM Go.Proofs Go.Lay
mutual
def dc:Doc->AV->Prop
 | .mk k s n kids,v=> ∃x es,v= .agg [.int .u8 k,.str s,.int .i64 n,x]/\(0<=k/\k<=255)/\s.length<=9223372036854775807/\(-9223372036854775808<=n/\n<=9223372036854775807)/\aO 4 x es/\bO kids es
def bO:List Doc->LA->Prop
 | [],es=>es=[]
 | d::ds,es=> ∃v vs,es=v::vs/\dc d v/\bO ds vs
end
theorem dc.bare {d:Doc} {v:AV} (h:dc d v):VM.bare v=true/\strip v=v:=by
 cases d with
 | mk k s n kids=>
  obtain ⟨x,es,rfl,_,_,_,hx,_⟩:=h;refine ⟨?_,rfl⟩;show (true&&(true&&(true&&(VM.bare x&&true))))=true;rw [hx.bare];rfl
theorem Kz {f:FuncId} {v r:AV} (st:St) (hf:vE.full f=false) (a:VM.bare v=true/\strip v=v) (h:(aQ vE).bare f [v]=some r) {β:Type} (K:Kv β):bf (aQ vE) f [v] st K=K r st q0:=
 aI st K hf (by simp [a.2]) (by simp [aJ,a.1];rfl) h
theorem Nr {β:Type} {ds:List Doc} {d:Doc} {x:AV} {es:LA} {i:Nat} (hx:aO 4 x es) (a:bO (d::ds) (es.drop i)): ∃v,dc d v/\bO ds (es.drop (i+1))/\((i:Int) < (es.length:Int))/\
  IntKind.wrap .i64 ((i:Int)+1)=((i+1:Nat):Int)/\(∀(st:St) (K:AV->Ln->Oq β),bL 4 x (i:Int) st K=K (.ip v.cells) [])/\jx 4 true v.cells=some v:=by
 obtain ⟨v,vs,he,b,a⟩:=a;obtain ⟨c,e,f⟩:=drop_cons he;refine ⟨v,b,by rw [e];exact a,by omega,wrap_i64 (by omega) (by have:=hx.1;omega),fun st K=>hx.idx c st K, ?_⟩;obtain ⟨k,s,n,kids⟩:=d;obtain ⟨y,es',rfl,_⟩:=b;rfl
theorem Wn {es:LA} {i:Nat} (a:bO [] (es.drop i)):¬ ((i:Int) < (es.length:Int)):=by
 have a:es.drop i=[]:=a;have:=abi.1 a;omega
def findD (p:Doc->Bool):List Doc->Nat->Oq Nat
 | [],_=>none
 | d::l,i=>if p d then some i else findD p l (i+1)
theorem Cd {p:Doc->Bool}: ∀{l:List Doc} {i:Nat},(findD p l i).isSome=l.any p
 | [],_=>rfl
 | d::l,i=>by
  simp only [findD,aby];cases h:p d
  .simpa [h] using Cd (p:=p) (l:=l) (i:=i+1)
  .simp
theorem uj {f:FuncId} (hf:vE.full f=false) (hp:vE.prim f=none) (p:Doc->Bool): ∀(ds:List Doc) (x:AV) (es:LA) (i:Nat) (st:St),aO 4 x es->bO ds (es.drop i)->
  (∀d∈ds,∀v,dc d v->(aQ vE).bare f [v]=some (.bool (p d)))->
  bl (A0 x (.fn (.func f) [] []) es.length) ([.int .i64 0,.int .i64 (i:Int)],st)=some (match findD p ds i with | some j=>(1,[.int .i64 (j:Int)],st) | none=>(0,[.int .i64 0],st))
 | [],x,es,i,st,hx,b,_=>by
  have hi:=Wn b;rw [pX];simp [A0,hi,findD]
 | d::ds,x,es,i,st,hx,b,h=>by
  obtain ⟨v,g,b,hi,m,e,o⟩:=Nr (β:=Sum cJ (Nat×cJ)) hx b;have c:=fun K=>Kz (β:=Sum cJ (Nat×cJ)) (f:=f) st hf g.bare (h d (by simp) v g) K;have ih:=uj hf hp p ds x es (i+1) st hx b fun d b=>h d (by simp [b]);have q: ∀(a:AV) (K:Kv (Sum cJ (Nat×cJ))),iZ (aQ vE) (Sx.prim (sx vE 91)) (.fn (.func f) [] []) [a] st K=bf (aQ vE) f [a] st K:=fun a K=>by
   have hp:Sx.prim (sx vE 91) f=none:=hp;simp only [iZ,jw,hp,aaq,aay];rfl
  obtain ⟨k,s,n,kids⟩:=d;obtain ⟨y,es',rfl,_⟩:=g;rw [pX];simp only [A0,ab,af,ae,ak,if_pos hi,e,bj,o,ai,al,ah,q,c,aF,m,au];cases l:p (.mk k s n kids)
  .simp only [aq,findD,l];exact ih
  .simp [findD,l]
theorem contains_of {f:FuncId} (hf:vE.full f=false) (hp:vE.prim f=none) (p:Doc->Bool) {ds:List Doc} {x:AV} {es:LA} (hx:aO 4 x es) (e:bO ds es)
  (g: ∀d∈ds,∀v,dc d v->(aQ vE).bare f [v]=some (.bool (p d))) {β:Type} (st:St) (K:Kv β):bf (aQ vE) 48 [x,.fn (.func f) [] []] st K=K (.bool (ds.any p)) st q0:=by
 have c:(aQ vE).bare 91 [x,.fn (.func f) [] []]=some (.int .i64 (match findD p ds 0 with | some j=>(j:Int) | none=> -1)):=by
  refine aU rfl ((Vk _ _).trans ?_);have hl:bl (A0 x (.fn (.func f) [] []) es.length) ([.int .i64 0,.int .i64 0],St.mk 0 0 Tr.leaf)= _:=uj hf hp p ds x es 0 (St.mk 0 0 Tr.leaf) hx (by simpa using e) g;simp only [ZP,hx.len,hl];cases findD p ds 0 <;> simp
 have a:[x,AV.fn (.func f) [] []].map strip=[x,AV.fn (.func f) [] []]:=by simp [hx.strip];rfl
 have b:bH [x,AV.fn (.func f) [] []]=true:=by simp only [aJ,hx.bare];rfl
 refine aI st K rfl a b (aU rfl ((Uf _ _).trans ?_));unfold Z3;refine (aI _ _ rfl a b c).trans ?_;have:=Cd (p:=p) (l:=ds) (i:=0);cases h:findD p ds 0 with
 | none=>rw [h] at this;simp [<- this]
 | some j=>rw [h] at this;simp [<- this]
theorem BD: ∀(ds:List Doc),Ep ds=ds.any sK
 | []=>rfl
 | d::ds=>by simp [Ep,BD ds]
theorem BB {d:Doc}: ∀{ds:List Doc},d∈ds->SizeOf.sizeOf d < SizeOf.sizeOf ds
 | _:: _,h=>by
  rcases aao.1 h with rfl | h
  .simp;omega
  .have:=BB h;simp;omega
theorem Dp (d:Doc) (v:AV) (a:dc d v):(aQ vE).bare 54 [v]=some (.bool (sK d)):=by
 match d with
 | .mk k s n kids=>
  obtain ⟨x,es,rfl,_,_,_,hx,b⟩:=a;refine aU rfl ((VU _).trans ?_);have e:=fun (K:Kv cJ)=>contains_of (f:=54) rfl rfl sK hx b (fun d g v a=>Dp d v a) (St.mk 0 0 Tr.leaf) K;simp only [Z5,al,ab,af,ah,ae,hx.ad,hx.aD,e];by_cases c:k=4
  .subst c;simp [sK]
  .simp [c,sK,BD]
termination_by SizeOf.sizeOf d
decreasing_by
 have:=BB g
 simp_wf
 omega
end Go.Proofs.YtkbkbndajpbcjaaGreatDoor.Vm
namespace Go.Proofs.YtkbkbndajpbcjaaGreatDoor.Vm
open Go Go.VM Go.Proofs Go.Lex
theorem CB {p:UInt8->Bool} (h:((List.range 256).all fun n=>p (UInt8.ofNat n))=true) (b:UInt8):p b=true:=by
 have:=aa7.1 h b.toNat (List.mem_range.2 (UInt8.toNat_lt b));simpa using this
theorem lN {p q:UInt8->Bool} (h:((List.range 256).all fun n=>p (UInt8.ofNat n)==q (UInt8.ofNat n))=true):p=q:=by
 funext b;exact eq_of_beq (CB (p:=fun b=>p b==q b) h b)
theorem UN {s c:LB} {p:UInt8->Bool} (a:(c.length.blt 4294967281&&c.all (fun b=>b.toNat.blt 128))=true) (hp:(fun b=>c.contains b)=p) (hs:s.length<=1000000):
  (aQ vE).bare 57 [.str s,.str c]=some (.int .i64 (wh p s:Int)):=by
 refine aU rfl ((UG _ _).trans ?_);have h1:jf [.str s,.str c]= .ok (.str (s.dropWhile p)):=by
  simp only [jf,a,Lib.trimLeftS];rw [<- hp]
 have e:=Va p s;have d:IntKind.wrap .i64 ((s.length:Int) - ((s.dropWhile p).length:Int))=(wh p s:Int):=by
  rw [HO (by omega) (by omega)];congr 1;omega
 simp only [g57,ah,fO h1,aF,d]
theorem nS {β:Type} {s c:LB} {p:UInt8->Bool} (a:(c.length.blt 4294967281&&c.all (fun b=>b.toNat.blt 128))=true) (hp:(fun b=>c.contains b)=p) (hs:s.length<=1000000) (st:St) (K:Kv β):
 bf (aQ vE) 57 [.str s,.str c] st K=K (.int .i64 (wh p s:Int)) st q0:=aI st K rfl rfl rfl (UN a hp hs)
theorem LK {β:Type} {s:LB} (hs:s.length<=1000000) (st:St) (K:Kv β):bf (aQ vE) 57 [.str s,.str [32,9,10,13]] st K=K (.int .i64 (wh cr s:Int)) st q0:=
 nS rfl (lN (by decide+kernel)) hs st K
theorem QH {β:Type} {s:LB} (hs:s.length<=1000000) (st:St) (K:Kv β):bf (aQ vE) 57 [.str s,.str [97,98,99,100,101,102,103,104,105,106,107,108,109,110,111,112,113,114,115,116,117,118,119,120,121,122,95]] st K=K (.int .i64 (wh lb s:Int)) st q0:=
 nS (by decide+kernel) (lN (by decide+kernel)) hs st K
theorem Eu {β:Type} {s:LB} (hs:s.length<=1000000) (st:St) (K:Kv β):bf (aQ vE) 57 [.str s,.str [48,49,50,51,52,53,54,55,56,57]] st K=K (.int .i64 (wh aW s:Int)) st q0:=
 nS rfl (lN (by decide+kernel)) hs st K
theorem Sc {β:Type} {s:LB} (hs:s.length<=1000000) (st:St) (K:Kv β):bf (aQ vE) 57 [.str s,.str [97,98,99,100,101,102,103,104,105,106,107,108,109,110,111,112,113,114,115,116,117,118,119,120,121,122,95,65,66,67,68,69,70,71,72,73,74,75,76,77,78,79,80,81,82,83,84,85,86,87,88,89,90,39,48,49,50,51,52,53,54,55,56,57]] st K=K (.int .i64 (wh iI s:Int)) st q0:=
 nS (by decide+kernel) (lN (by decide+kernel)) hs st K
def YN (c:UInt8):Bool:=c==101||c==69
theorem XA {β:Type} {s:LB} (hs:s.length<=1000000) (st:St) (K:Kv β):bf (aQ vE) 57 [.str s,.str [101,69]] st K=K (.int .i64 (wh YN s:Int)) st q0:=
 nS rfl (lN (by decide+kernel)) hs st K
theorem Ro {β:Type} {s:LB} (hs:s.length<=1000000) (st:St) (K:Kv β):bf (aQ vE) 57 [.str s,.str [43,45]] st K=K (.int .i64 (wh A5 s:Int)) st q0:=
 nS rfl (lN (by decide+kernel)) hs st K
theorem QZ {β:Type} {s:LB} (hs:s.length<=1000000) (st:St) (K:Kv β):bf (aQ vE) 57 [.str s,.str [40,41,91,93,44,59,124,61,60,62,43,45,42,47,94,64]] st K=K (.int .i64 (wh kS s:Int)) st q0:=
 nS rfl (lN (by decide+kernel)) hs st K
theorem PU (s p:LB):(aQ vE).bare 96 [.str s,.str p]=some (.bool (s.take p.length==p)):=by
 refine aU rfl ((UX _ _).trans ?_);by_cases h:(s.length:Int)>=(p.length:Int)
 .simp only [ZB,ah,ak,if_pos h,jX (show p.length<=s.length by omega),aG,aaw,aF,ai,ab,au,ae]
 .have e:(s.take p.length==p)=false:=by
   rw [aaB];intro e;have:=aaU List.length e;rw [aau] at this;omega
  simp only [ZB,ah,ak,if_neg h,ai,ab,au,ae,e]
theorem MT (s p:LB):(aQ vE).bare 58 [.str s,.str p]=some (.bool (s.take p.length==p)):=by
 refine aU rfl ((Ur _ _).trans ?_);have h: ∀{β:Type} (st:St) (K:Kv β),bf (aQ vE) 96 [.str s,.str p] st K=K (.bool (s.take p.length==p)) st q0:=fun st K=>aI st K rfl rfl rfl (PU s p);simp only [Z7,ah,h,au]
theorem gx {β:Type} (s p:LB) (st:St) (K:Kv β):bf (aQ vE) 58 [.str s,.str p] st K=K (.bool (s.take p.length==p)) st q0:=aI st K rfl rfl rfl (MT s p)
theorem Rq (s p:LB):(aQ vE).bare 61 [.str s,.str p]=some (.str (if (s.take p.length==p)=true then s.drop p.length else s)):=by
 have h: ∀{β:Type} (st:St) (K:Kv β),bf (aQ vE) 96 [.str s,.str p] st K=K (.bool (s.take p.length==p)) st q0:=fun st K=>aI st K rfl rfl rfl (PU s p);have a:(aQ vE).bare 100 [.str s,.str p]=some (.str (if (s.take p.length==p)=true then s.drop p.length else s)):=by
  refine aU rfl ((Sj _ _).trans ?_);simp only [Yj,ah,h,au];cases e:s.take p.length==p with
  | true=>
   have hl:p.length<=s.length:=by
    have:=aaU List.length (eq_of_beq e);rw [aau] at this;omega
   simp only [ay,jX hl,aG,aaJ,aF,if_true]
  | false=>rfl
 have b: ∀{β:Type} (st:St) (K:Kv β),bf (aQ vE) 100 [.str s,.str p] st K=K (.str (if (s.take p.length==p)=true then s.drop p.length else s)) st q0:=fun st K=>aI st K rfl rfl rfl a;refine aU rfl ((T7 _ _).trans ?_);simp only [g61,ah,b]
theorem MV {β:Type} (s p:LB) (st:St) (K:Kv β):bf (aQ vE) 61 [.str s,.str p] st K=K (.str (if (s.take p.length==p)=true then s.drop p.length else s)) st q0:=aI st K rfl rfl rfl (Rq s p)
def yc (s:LB) (c:UInt8):Int:=match ew c.toNat s with | some i=>(i:Int) | none=> -1
theorem PI (s:LB) (c:UInt8):(aQ vE).bare 62 [.str s,.int .u8 (c.toNat:Int)]=some (.int .i64 (yc s c)):=by
 have h:(aQ vE).bare 101 [.str s,.int .u8 (c.toNat:Int)]=some (.int .i64 (yc s c)):=by
  refine aU rfl ((Ri _ _).trans ?_);have e:((c.toNat:Int).toNat % 256)=c.toNat:=by
   have:=UInt8.toNat_lt c;omega
  simp only [XX,ah,af,cE,oq,dK,oN,ai,e,yc];rfl
 have a: ∀{β:Type} (st:St) (K:Kv β),bf (aQ vE) 101 [.str s,.int .u8 (c.toNat:Int)] st K=K (.int .i64 (yc s c)) st q0:=fun st K=>aI st K rfl rfl rfl h;refine aU rfl ((Tt _ _).trans ?_);simp only [g62,ah,af,a]
theorem nQ {β:Type} (s:LB) (c:UInt8) (st:St) (K:Kv β):bf (aQ vE) 62 [.str s,.int .u8 (c.toNat:Int)] st K=K (.int .i64 (yc s c)) st q0:=aI st K rfl rfl rfl (PI s c)
def xT:AV:= .im ((.str [95],.int .u8 8)::words.map fun w=>(.str w,.int .u8 3))
def AA:df AV->Bool
 | .ok (.im [(.str w0,.int .u8 g),(.str h,.int .u8 i),(.str j,.int .u8 k),(.str l,.int .u8 m),(.str n,.int .u8 o),(.str p,.int .u8 q),(.str r,.int .u8 s),(.str t,.int .u8 u),(.str v,.int .u8 w),(.str x,.int .u8 y),(.str a,.int .u8 b),(.str c,.int .u8 d),(.str e,.int .u8 f)])=>
  ([w0,h,j,l,n,p,r,t,v,x,a,c,e]==[95]::words)&&([g,i,k,m,o,q,s,u,w,y,b,d,f]==8::words.map fun _=>3)
 | _=>false
theorem G4 {r:df AV} (h:AA r=true):r= .ok xT:=by
 unfold AA at h;split at h
 .simp only [aak] at h;have h1:=eq_of_beq h.1;have a:=eq_of_beq h.2;simp only [words,aan,aaH,abx,abZ] at h1 a;obtain ⟨rfl,rfl,rfl,rfl,rfl,rfl,rfl,rfl,rfl,rfl,rfl,rfl,rfl⟩:=h1;obtain ⟨rfl,rfl,rfl,rfl,rfl,rfl,rfl,rfl,rfl,rfl,rfl,rfl,rfl⟩:=a;rfl
 .cases h
theorem N6:(aQ vE).bare 59 []=some xT:=by
 have h:AA ((caller vE 300).bare 59 [])=true:=by kernel_rfl
 exact Ac (G4 h)
theorem Ja {β:Type} (st:St) (K:Kv β):bf (aQ vE) 59 [] st K=K xT st q0:=aI st K rfl rfl rfl N6
theorem A8 (w:LB): ∀(l:List LB),jt (.str w) (l.map fun w=>(AV.str w,AV.int .u8 3))= .ok (if l.contains w then some (.int .u8 3) else none)
 | []=>rfl
 | x::l=>by
  have ih:=A8 w l;simp only [aan,jt,uA,aA,List.contains_cons];cases e:w==x with
  | true=>rfl
  | false=>
   simp only [abo];exact ih
theorem I9 {β:Type} (w:LB) (st:St) (K:Kv β):cE (aQ vE) (iT (Env.T vE) 118 xT (.str w) true) st K=
  K (.tup [.int .u8 (if w=[95] then 8 else if words.contains w then 3 else 0:Int),.bool (decide (w=[95])||words.contains w)]) st q0:=by
 have a:ti (Env.T vE) 118= .ok ⟨.map 9 5,1,8,[.nilm],false,false⟩:=rfl;have b:ti (Env.T vE) 5= .ok ⟨.int .u8,1,1,[.int .u8 0],false,false⟩:=rfl;have c:ti (Env.T vE) 9= .ok ⟨.str,1,16,[.str []],false,false⟩:=rfl;have d:jt (.str w) ((.str [95],.int .u8 8)::words.map fun w=>(.str w,.int .u8 3))= .ok (if w=[95] then some (.int .u8 8) else if words.contains w then some (.int .u8 3) else none):=by
  simp only [jt,uA,aA];cases e:w==[95] with
  | true=>rw [if_pos (eq_of_beq e)];rfl
  | false=>rw [if_neg (by simpa using e)];exact A8 w words
 have f:iT (Env.T vE) 118 xT (.str w) true= .ok (.val (.tup [.int .u8 (if w=[95] then 8 else if words.contains w then 3 else 0:Int),.bool (decide (w=[95])||words.contains w)])):=by
  simp only [iT,a,b,c,aA,rv,xT,found,d];by_cases h:w=[95]
  .simp [h];rfl
  .cases g:words.contains w <;> simp [h] <;> rfl
 rw [f];rfl
theorem Oj {s:LB} (hs:s.length<=1000000):(aQ vE).bare 27 [.str s]=some (.tup [.int .u8 1,.int .i64 (wh cr s:Int)]):=by
 refine aU rfl ((TY _).trans ?_);simp only [g27,ah,LK hs,af]
theorem mn (s:LB) (hs:s.length<=1000000) (st:St): ∀(l:LB) (i d:Nat),s.drop i=l->i<=s.length->1<=d->d<=i->
  bl (ph s) ([.int .i64 (d:Int),.int .u8 0,.int .i64 0,.int .i64 (i:Int)],st)=some (match rem l d with | some n=>(1,[.int .u8 2,.int .i64 ((i+n:Nat):Int)],st) | none=>(0,[.int .u8 0,.int .i64 0],st))
 | [],i,d,c,hi,h1,t=>by
  have:=abi.1 c;have q:¬ (i:Int) < (s.length:Int):=by omega
  refine bE ?_;simp only [ph,ab,af,ae,ak,if_neg q];rfl
 | [a],i,d,c,hi,h1,t=>by
  obtain ⟨x,k,p⟩:=drop_cons c;have q:(i:Int) < (s.length:Int):=by omega
  have ih:=mn s hs st [] (i+1) d k (by omega) h1 (by omega);rw [bA (s':=([.int .i64 (d:Int),.int .u8 0,.int .i64 0,.int .i64 ((i+1:Nat):Int)],st)),ih]
  .rfl
  .simp only [ph,ab,af,ae,ak,if_pos q,db (show i<=s.length by omega),aaJ,aF,c,gx,au];simp only [show ([a].take [(40:UInt8),42].length==[40,42])=false by simp,show ([a].take [(42:UInt8),41].length==[42,41])=false by simp,aq,ai,bz,ab,af,ae,ck (show i+1<=9223372036854775807 by omega)]
 | a::b::l,i,d,c,hi,h1,t=>by
  obtain ⟨x,k,p⟩:=drop_cons c;obtain ⟨y,j,u⟩:=drop_cons k;have q:(i:Int) < (s.length:Int):=by omega
  have o:((a::b::l).take [(40:UInt8),42].length==[40,42])=(decide (a=40/\b=42)):=by
   show ([a,b]==[40,42])= _;by_cases h:a=40/\b=42
   .rw [h.1,h.2];rfl
   .rw [abu h,aaB];intro e;simp only [abx,abZ] at e;exact h e
  have r:((a::b::l).take [(42:UInt8),41].length==[42,41])=(decide (a=42/\b=41)):=by
   show ([a,b]==[42,41])= _;by_cases h:a=42/\b=41
   .rw [h.1,h.2];rfl
   .rw [abu h,aaB];intro e;simp only [abx,abZ] at e;exact h e
  by_cases f:a=40/\b=42
  .have ih:=mn s hs st l (i+2) (d+1) j (by omega) (by omega) (by omega);rw [bA (s':=([.int .i64 ((d+1:Nat):Int),.int .u8 0,.int .i64 0,.int .i64 ((i+2:Nat):Int)],st)),ih]
   .simp only [rem,if_pos f];cases rem l (d+1) with
    | none=>rfl
    | some n=>simp only [Option.map_some];rw [show i+2+n=i+(n+2) by omega]
   .simp only [ph,ab,af,ae,ak,if_pos q,db (show i<=s.length by omega),aaJ,aF,c,gx,au,o,if_pos f,ai,bz,ck (show d+1<=9223372036854775807 by omega),A7 (show i+2<=9223372036854775807 by omega)]
  .by_cases g:a=42/\b=41
   .have w:=HO (n:=d) (m:=1) h1 (by omega);have w:IntKind.wrap .i64 ((d:Int) - 1)=((d - 1:Nat):Int):=w;by_cases v:d=1
    .subst v;simp only [rem,if_neg f,if_pos g,if_true];refine bE ?_;simp only [ph,ab,af,ae,ak,if_pos q,db (show i<=s.length by omega),aaJ,aF,c,gx,au,o,r,if_neg f,if_pos g,ai,w,A7 (show i+2<=9223372036854775807 by omega),bZ];rfl
    .have ih:=mn s hs st l (i+2) (d - 1) j (by omega) (by omega) (by omega);have z:¬ ((d - 1:Nat):Int)=0:=by omega
     rw [bA (s':=([.int .i64 ((d - 1:Nat):Int),.int .u8 0,.int .i64 0,.int .i64 ((i+2:Nat):Int)],st)),ih]
     .simp only [rem,if_neg f,if_pos g,if_neg v];cases rem l (d - 1) with
      | none=>rfl
      | some n=>simp only [Option.map_some];rw [show i+2+n=i+(n+2) by omega]
     .simp only [ph,ab,af,ae,ak,if_pos q,db (show i<=s.length by omega),aaJ,aF,c,gx,au,o,r,if_neg f,if_pos g,ai,w,A7 (show i+2<=9223372036854775807 by omega),bZ,if_neg z,bz]
   .have ih:=mn s hs st (b::l) (i+1) d k (by omega) h1 (by omega);rw [bA (s':=([.int .i64 (d:Int),.int .u8 0,.int .i64 0,.int .i64 ((i+1:Nat):Int)],st)),ih]
    .simp only [rem,if_neg f,if_neg g];cases rem (b::l) d with
     | none=>rfl
     | some n=>simp only [Option.map_some];rw [show i+1+n=i+(n+1) by omega]
    .simp only [ph,ab,af,ae,ak,if_pos q,db (show i<=s.length by omega),aaJ,aF,c,gx,au,o,r,if_neg f,if_neg g,ai,bz,ck (show i+1<=9223372036854775807 by omega)]
theorem L5 {s:LB} (hs:s.length<=1000000):(aQ vE).bare 28 [.str s]=some (if s.take 2=[40,42] then (match rem (s.drop 2) 1 with | some n=> .tup [.int .u8 2,.int .i64 ((n+2:Nat):Int)] | none=> .tup [.int .u8 9,.int .i64 (s.length:Int)]) else .tup [.int .u8 0,.int .i64 0]):=by
 refine aU rfl ((UU _).trans ?_);by_cases h:s.take 2=[40,42]
 .have a:(s.take [(40:UInt8),42].length==[40,42])=true:=by simpa using h
  have hl:2<=s.length:=by
   have:=aaU List.length h;rw [aau] at this;simp at this;omega
  have q:(0:Int) < (s.length:Int):=by omega
  have e:bl (ph s) ([.int .i64 0,.int .u8 0,.int .i64 0,.int .i64 0],St.mk 0 0 Tr.leaf)=some (match rem (s.drop 2) 1 with | some n=>(1,[.int .u8 2,.int .i64 ((2+n:Nat):Int)],St.mk 0 0 Tr.leaf) | none=>(0,[.int .u8 0,.int .i64 0],St.mk 0 0 Tr.leaf)):=by
   rw [bA (s':=([.int .i64 ((1:Nat):Int),.int .u8 0,.int .i64 0,.int .i64 ((2:Nat):Int)],St.mk 0 0 Tr.leaf)),mn s hs (St.mk 0 0 Tr.leaf) (s.drop 2) 2 1 rfl hl (by omega) (by omega)];simp only [ph,ab,af,ae,ak,if_pos q,show gM (0:Int) s.length=gM ((0:Nat):Int) s.length from rfl,db (show 0<=s.length by omega),aaJ,aaw,aF,gx,au,a,ay,ai,bz];rfl
  simp only [Zi,ah,gx,au,a,aa2,aq,if_pos h];rw [e];cases rem (s.drop 2) 1 with
  | none=>simp only [ai,ab,af,ae,gU]
  | some n=>simp only [ai,ab,af,ae,pE];rw [abv 2 n]
 .have a:(s.take [(40:UInt8),42].length==[40,42])=false:=by simpa using h
  simp only [Zi,ah,gx,au,a,abe,ay,if_neg h]
theorem Sl {c:UInt8} {l:LB} (hs:(c::l).length<=1000000):(aQ vE).bare 29 [.str (c::l)]=some (if lb c then .tup [.int .u8 (um ((c::l).takeWhile iI):Int),.int .i64 (wh iI (c::l):Int)] else .tup [.int .u8 0,.int .i64 0]):=by
 refine aU rfl ((TN _).trans ?_);have h1:(List.drop 0 (List.take 1 (c::l)))=[c]:=rfl;have b:wh lb [c]=if lb c then 1 else 0:=by rw [gf];rfl
 simp only [Z8,ah,jX (show 1<=(c::l).length by simp),aG,aF,h1,QH (show [c].length<=1000000 by simp),af,bZ,b];cases d:lb c with
 | false=>rfl
 | true=>
  simp only [if_true,show ¬ (((1:Nat):Int)=0) by omega,if_false,Sc hs,af,Ja,cI,cA,aaI,aG,db (qd iI (c::l)),aaw,aF,tD,I9,br,aP,ba,au];generalize (c::l).takeWhile iI=w;unfold um;by_cases a:w=[95]
  .simp [a]
  .cases e:words.contains w <;> simp [a] <;> rfl
theorem Kh: ∀(l:LB) (a:Nat),a<=nB a l
  | [],a=>by rw [HQ];exact aal _
  | c::l,a=>by
    have:=Kh l (yi a c);rw [Dr];unfold yi at this ⊢;omega
theorem vc: ∀(l:LB) (a:Nat),l.all aW=true->a < 18446744073709551616->Lib.parseUint10 a l=if nB a l < 18446744073709551616 then .ok (nB a l) else .range
  | [],a,_,b=>by rw [HQ,if_pos b,Lib.parseUint10]
  | c::l,a,h,b=>by
    simp only [abI,aak] at h;have f:48<=c.toNat/\c.toNat<=57:=by
      have:=h.1;simp only [aW,aak,aaZ] at this;exact this
    have i:=Kh l (yi a c);have hs:a * 10+(c.toNat - 48)=yi a c:=id rfl;have g:a * 10<=yi a c:=by rw [<- hs];omega
    rw [Lib.parseUint10,if_pos f,Dr,hs];by_cases d:1844674407370955162<=a
    · rw [if_pos d,if_neg (by omega)]
    · rw [if_neg d]
      by_cases e:18446744073709551616<=yi a c
      · rw [if_pos e,if_neg (by omega)]
      · rw [if_neg e]
        exact vc l _ h.2 (by omega)
theorem B3 {l:LB} (a:l≠[]) (h:l.all aW=true):Lib.atoiAll l=if nB 0 l < 9223372036854775808 then .ok (nB 0 l:Int) else .range:=by
  cases l with
  | nil=>exact absurd rfl a
  | cons c r=>
    have g:48<=c.toNat/\c.toNat<=57:=by
      simp only [abI,aak] at h;have:=h.1;simp only [aW,aak,aaZ] at this;exact this
    have e:¬ (c.toNat=43\/c.toNat=45):=by omega
    have f:¬ c.toNat=45:=by omega
    have hp:=vc (c::r) 0 h (by omega);simp only [Lib.atoiAll,if_neg e,Lib.parseMag,if_neg a,hp];by_cases b:nB 0 (c::r) < 18446744073709551616
    · rw [if_pos b]
      dsimp only;by_cases d:nB 0 (c::r) < 9223372036854775808
      · rw [if_pos d,if_neg (by omega),if_neg (by omega),if_neg f]
      · rw [if_neg d,if_pos (by omega)]
    · rw [if_neg b,if_neg (by omega)]
theorem Ih {l:LB} (a:l≠[]) (h:l.all aW=true):Lib.atoiAll (45::l)=if nB 0 l<=9223372036854775808 then .ok (-(nB 0 l:Int)) else .range:=by
  have e:(45:UInt8).toNat=45:=rfl;have hp:=vc l 0 h (by omega);simp only [Lib.atoiAll,e,or_true,if_true,Lib.parseMag,if_neg a,hp];by_cases b:nB 0 l < 18446744073709551616
  · rw [if_pos b]
    dsimp only;by_cases c:nB 0 l<=9223372036854775808
    · rw [if_pos c,if_neg (by simp),if_neg (by omega)]
    · rw [if_neg c,if_neg (by simp),if_pos ⟨trivial,by omega⟩]
  · rw [if_neg b,if_neg (by omega)]
theorem uk (p:UInt8->Bool) (l:LB):(l.takeWhile p).all p=true:=by
  induction l with
  | nil=>rfl
  | cons c l ih=>
    rw [aa1];split
    · rename_i h;simp [h,ih]
    · rfl
def V7 (k:Nat) (x:Int):Bool:=decide (x - k < -22)||decide (x - k > 22)
theorem Ns {n:Int} (h1:n < -9223372036854775808) (a: -18446744073709551616<=n):IntKind.wrap .i64 n=n+18446744073709551616:=by
  have e:IntKind.wrap .i64 n=if n % 18446744073709551616>=9223372036854775808 then n % 18446744073709551616 - 18446744073709551616 else n % 18446744073709551616:=by
    show (if (true&&decide (n % (2 ^ 64:Int)>=(2 ^ 63:Int)))=true then n % (2 ^ 64:Int) - (2 ^ 64:Int) else n % (2 ^ 64:Int))= _;simp
  rw [e];split <;> omega
structure XU (k v:Nat) (neg:Bool) (x:Int):Prop where
  lo: -9223372036854775808<=x
  hi:x<=9223372036854775807
  eq:v<=1000000->x=if neg then -(v:Int) else v
  far:1000000 < v->1000000 < x\/x < -1000000
theorem OC {k v:Nat} {neg:Bool} {x:Int} (h:XU k v neg x) (f:k<=500000):
    (decide (IntKind.wrap .i64 (x - k) < -22)||decide (IntKind.wrap .i64 (x - k) > 22))=V7 k (if neg then -((min v 1000000:Nat):Int) else ((min v 1000000:Nat):Int)):=by
  obtain ⟨h1,g,d,e⟩:=h;have a:(IntKind.wrap .i64 (x - k)=x - k)\/(x - k < -9223372036854775808/\IntKind.wrap .i64 (x - k)=x - k+18446744073709551616):=by
    by_cases c: -9223372036854775808<=x - k
    · exact .inl (wrap_i64 c (by omega))
    · exact .inr ⟨by omega,Ns (by omega) (by omega)⟩
  unfold V7;by_cases b:v<=1000000
  · have hx:=d b
    have a:IntKind.wrap .i64 (x - k)=x - k:=by
      rcases a with a | ⟨a,_⟩
      · exact a
      · exfalso
        cases neg <;> simp at hx <;> omega
    rw [a,abG b,hx]
  · have hx:=e (by omega)
    rw [ab2 (by omega)];have l:(decide (IntKind.wrap .i64 (x - k) < -22)||decide (IntKind.wrap .i64 (x - k) > 22))=true:=by
      rw [aa0,aaZ,aaZ];rcases a with a | ⟨_,a⟩ <;> rw [a] <;> omega
    have r: ∀y:Int,(y=1000000\/y= -1000000)->(decide (y - (k:Int) < -22)||decide (y - (k:Int) > 22))=true:=by
      intro y hy;rw [aa0,aaZ,aaZ];omega
    rw [l];cases neg
    · exact (r _ (.inl rfl)).symm
    · exact (r _ (.inr rfl)).symm
theorem Rd:LG BinOp.neq AV.nili=some (.bool false):=rfl
theorem RX (t:Td) (v:AV):LG BinOp.neq (AV.iface t v)=some (.bool true):=rfl
theorem Lw {l:LB} (hs:l.length<=1000000) {d:Nat} (E:wh aW (l.drop (iL l))=d) (h0:0 < d) (k:Nat):
    ∃x:Int,XU k (nB 0 ((l.drop (iL l)).take d)) (decide (l.head?=some 45)) x/\ ∀{β:Type} (st:St) (K:Int->cJ->Oq β),
      (cE (aQ vE) (dK (Prim.lib (kO 183)) [AV.str (if ((l.take (iL l+d)).take [(43:UInt8)].length==[43])=true then (l.take (iL l+d)).drop [(43:UInt8)].length else l.take (iL l+d))]) st fun g f _x=>ig g fun m=>cB m 0 fun n=>bK .i64 n fun o=>ig g fun p=>cB p 1 fun q=>aC (LG BinOp.neq q) fun s=>ct
 s fun t=>aC (bu t (some (([AV.int .i64 1073741824],f):cJ)) (some ([AV.int .i64 o],f))) fun h=>bo (Prod.fst h) fun u v=>bK .i64 u fun w=>bQ v (K w h))=K x ([AV.int .i64 x],st):=by
  have i:(l.drop (iL l)).take d=(l.drop (iL l)).takeWhile aW:=by rw [<- E,tD]
  have a:((l.drop (iL l)).take d).all aW=true:=by rw [i];exact uk _ _
  have hlen:((l.drop (iL l)).take d).length=d:=by rw [i, <- E];rfl
  have b:(l.drop (iL l)).take d≠[]:=by
    intro e;rw [e] at hlen;simp at hlen;omega
  have fin: ∀(D:LB),D.length<=1000001-> ∀{β:Type} (st:St) (K:Int->cJ->Oq β) (x:Int),(Lib.atoiAll D= .ok x\/(Lib.atoiAll D= .range/\x=1073741824))->
      (cE (aQ vE) (dK (Prim.lib (kO 183)) [AV.str D]) st fun g f _x=>ig g fun m=>cB m 0 fun n=>bK .i64 n fun o=>ig g fun p=>cB p 1 fun q=>aC (LG BinOp.neq q) fun s=>ct
 s fun t=>aC (bu t (some (([AV.int .i64 1073741824],f):cJ)) (some ([AV.int .i64 o],f))) fun h=>bo (Prod.fst h) fun u v=>bK .i64 u fun w=>bQ v (K w h))=K x ([AV.int .i64 x],st):=by
    intro D F β st K x hx;rcases hx with hx | ⟨hx,rfl⟩
    · have hl:kO 183 [.str D]= .ok (.tup [.int .i64 x,.nili]):=by simp only [kO,jX (show D.length<=281474976710656 by omega),hx]
      simp only [fO hl,br,aP,ba,af,Rd,ai,au,aq,ab,ae]
    · have hl:kO 183 [.str D]= .ok (.tup [.int .i64 (Lib.atoiSat D),.iface 183 (.opq false)]):=by simp only [kO,jX (show D.length<=281474976710656 by omega),hx]
      simp only [fO hl,br,aP,ba,af,RX,ai,au,ay,ab,ae]
  cases l with
  | nil=>simp [iL] at b
  | cons c r=>
    by_cases A:c=43
    · subst A
      have y:iL ((43:UInt8)::r)=1:=rfl;rw [y] at a hlen b i ⊢;simp only [aaD,aaw] at a hlen b i ⊢;have hp:=B3 b a;have z:(if (((43::r).take (1+d)).take [(43:UInt8)].length==[43])=true then ((43:UInt8)::r |>.take (1+d)).drop [(43:UInt8)].length else (43::r).take (1+d))=r.take d:=by
        rw [abv 1 d];rfl
      rw [z];by_cases j:nB 0 (r.take d) < 9223372036854775808
      · rw [if_pos j] at hp
        exact ⟨nB 0 (r.take d),⟨by omega,by omega,fun _=>by simp,fun _=>by omega⟩,fun st K=>fin _ (by rw [aau];simp at hs;omega) st K _ (.inl hp)⟩
      · rw [if_neg j] at hp
        exact ⟨1073741824,⟨by omega,by omega,fun _=>by omega,fun _=>by omega⟩,fun st K=>fin _ (by rw [aau];simp at hs;omega) st K _ (.inr ⟨hp,rfl⟩)⟩
    · by_cases B:c=45
      · subst B
        have y:iL ((45:UInt8)::r)=1:=rfl;rw [y] at a hlen b i ⊢;simp only [aaD,aaw] at a hlen b i ⊢;have hp:=Ih b a;have z:(if (((45::r).take (1+d)).take [(43:UInt8)].length==[43])=true then ((45:UInt8)::r |>.take (1+d)).drop [(43:UInt8)].length else (45::r).take (1+d))=45::r.take d:=by
          rw [abv 1 d];rfl
        rw [z];by_cases j:nB 0 (r.take d)<=9223372036854775808
        · rw [if_pos j] at hp
          exact ⟨-(nB 0 (r.take d):Int),⟨by omega,by omega,fun _=>by simp,fun _=>by omega⟩,fun st K=>fin _ (by rw [aae,aau];simp at hs;omega) st K _ (.inl hp)⟩
        · rw [if_neg j] at hp
          exact ⟨1073741824,⟨by omega,by omega,fun _=>by omega,fun _=>by omega⟩,fun st K=>fin _ (by rw [aae,aau];simp at hs;omega) st K _ (.inr ⟨hp,rfl⟩)⟩
      · have C:A5 c=false:=by simp [A5,A,B]
        have y:iL (c::r)=0:=by simp only [iL,C];rfl
        rw [y] at a hlen b i ⊢;simp only [aaw,aax] at a hlen b i ⊢;have hp:=B3 b a;have z:(if (((c::r).take d).take [(43:UInt8)].length==[43])=true then ((c::r).take d).drop [(43:UInt8)].length else (c::r).take d)=(c::r).take d:=by
          rw [if_neg];intro e;have e:=eq_of_beq e;cases d with
          | zero=>simp at h0
          | succ d=>simp at e;exact A e
        rw [z];by_cases j:nB 0 ((c::r).take d) < 9223372036854775808
        · rw [if_pos j] at hp
          exact ⟨nB 0 ((c::r).take d),⟨by omega,by omega,fun _=>by simp [B],fun _=>by omega⟩,fun st K=>fin _ (by rw [aau];omega) st K _ (.inl hp)⟩
        · rw [if_neg j] at hp
          exact ⟨1073741824,⟨by omega,by omega,fun _=>by omega,fun _=>by omega⟩,fun st K=>fin _ (by rw [aau];omega) st K _ (.inr ⟨hp,rfl⟩)⟩
theorem Pv (p:UInt8->Bool) (c:UInt8) (l:LB):wh p ((c::l).take 1)=if p c then 1 else 0:=by
  show wh p [c]= _;rw [gf];rfl
theorem Gu (s:LB) (e:Nat):s.take (min s.length e)=s.take e:=by
  rcases Nat.le_total e s.length with h | h
  · rw [ab2 h]
  · rw [abG h,aaJ,List.take_of_length_le h]
theorem Ke (a b:Nat):(if (a:Int) < (b:Int) then (a:Int) else (b:Int))=((min a b:Nat):Int):=by split <;> omega
theorem pj (s:LB) (e n:Nat):(s.take (e+n)).drop e=(s.drop e).take n:=by
  rw [List.drop_take];congr 1;omega
theorem DC {all k:Nat} {x:Int} {e:Int} (st:St) (b:Bool) (j:(decide (IntKind.wrap .i64 (x - k) < -22)||decide (IntKind.wrap .i64 (x - k) > 22))=b):
    (aC (bu (decide ((all:Int) > 15)) (some (([AV.bool true],st):cJ)) (bx (IntKind.wrap .i64 (x - (k:Int))) fun c=>bu (decide (c < -22)) (some ([AV.bool true],st)) (bx (IntKind.wrap .i64 (x - (k:Int))) fun d=>some ([AV.bool (decide (d > 22))],st)))) fun f=>
 bo (Prod.fst f) fun g h=>ct g fun i=>bQ h (bu i (some (AV.tup [AV.int .u8 9,AV.int .i64 e])) (some (AV.tup [AV.int .u8 6,AV.int .i64 e]))))=some (AV.tup [AV.int .u8 (if all > 15\/b=true then 9 else 6:Int),AV.int .i64 e]):=by
  simp only [ak,aF];by_cases l:(all:Int) > 15
  · have:all > 15:=by omega
    simp only [if_pos l,ai,ab,au,ae,ay,this,true_or,if_true]
  · have h1:¬ all > 15:=by omega
    rw [if_neg l];by_cases a:IntKind.wrap .i64 (x - (k:Int)) < -22
    · have:b=true:=by rw [<- j,abz a];rfl
      subst this;simp only [if_pos a,ai,ab,au,ae,ay,or_true,if_true]
    · rw [if_neg a]
      have:b=decide (IntKind.wrap .i64 (x - (k:Int)) > 22):=by rw [<- j,abu a];rfl
      subst this;simp only [ai,ab,au,ae,h1,false_or];cases decide (IntKind.wrap .i64 (x - (k:Int)) > 22) <;> rfl
theorem Mp {s:LB} (hs:s.length<=500000):(aQ vE).bare 30 [.str s]=some (if wh aW s=0 then .tup [.int .u8 5,.int .i64 0] else .tup [.int .u8 ((number s).1:Int),.int .i64 ((number s).2:Int)]):=by
  refine aU rfl ((UB _).trans ?_);have hn:=qd aW s;simp only [g30,ah,Eu (show s.length<=1000000 by omega),af,bZ];by_cases o:wh aW s=0
  · have b:((wh aW s:Nat):Int)=0:=by omega
    rw [if_pos b,if_pos o,o];rfl
  have b:¬ ((wh aW s:Nat):Int)=0:=by omega
  simp only [if_neg b,if_neg o,db hn,aaJ,aF,gx,au,ai,ab,ae];generalize O:wh aW s=n at hn o b;have i:((s.drop n).take [(46:UInt8)].length==[46])=decide ((s.drop n).head?=some 46):=by
    cases s.drop n with
    | nil=>rfl
    | cons c l=>
      show ([c]==[46])= _;by_cases h:c=46
      · subst h;rfl
      · simp [h]
  rw [i];unfold number;rw [O];by_cases p:(s.drop n).head?=some 46
  · have P:n < s.length:=by
      rcases Nat.lt_or_ge n s.length with q | q
      · exact q
      · rw [List.drop_of_length_le q] at p;cases p
    simp only [p,decide_true,aa2,aq,if_true];have I:=qd aW (s.drop (n+1));rw [aaz] at I;have r:(s.drop (n+1)).length<=1000000:=by rw [aaz];omega
    simp only [ck (show n+1<=9223372036854775807 by omega),db (show n+1<=s.length by omega),aaJ,Eu r,af];generalize hK:wh aW (s.drop (n+1))=k at I;simp only [rA (show n+k<=9223372036854775807 by omega),rA (show n+1+k<=9223372036854775807 by omega),ck (show n+1+k+1<=9223372036854775807 by omega),Ke,db (Nat.min_le_left s.length (n+1+k+1)),db (show n+1+k<=min s.length (n+1+k+1) by omega),Gu,pj];generalize hE:n+1+k=e at *;have Q:e<=s.length:=by omega
    have t:((s.drop e).take 1).length<=1000000:=by rw [aau,aaz];omega
    simp only [XA t,af,ak];have a: ∀(x:Nat×Int),x=(0,0)->(aC (bu (decide (((n+k:Nat):Int) > 15)) (some (([AV.bool true],St.mk 0 0 Tr.leaf):cJ)) (bx (IntKind.wrap .i64 ((0:Int) - (k:Int))) fun u=>bu (decide (u < -22)) (some ([AV.bool true],St.mk 0 0 Tr.leaf)) (bx (IntKind.wrap .i64 ((0:Int) - (k:Int))) fun v=>some ([AV.bool (decide (v > 22))],St.mk 0 0 Tr.leaf)))) fun w=>
 bo (Prod.fst w) fun y z=>ct y fun A=>bQ z (bu A (some (AV.tup [AV.int .u8 9,AV.int .i64 (e:Int)])) (some (AV.tup [AV.int .u8 6,AV.int .i64 (e:Int)]))))=some (AV.tup [AV.int .u8 ((if n+k > 15\/x.2 - (k:Int) < -22\/x.2 - (k:Int) > 22 then 9 else 6:Nat):Int),AV.int .i64 ((e+x.1:Nat):Int)]):=by
      rintro _ rfl;have R:IntKind.wrap .i64 ((0:Int) - (k:Int))=0 - (k:Int):=wrap_i64 (by omega) (by omega);rw [DC (St.mk 0 0 Tr.leaf) (decide ((0:Int) - k < -22)||decide ((0:Int) - k > 22)) (by rw [R])];simp only [aa0,aaZ,abf];by_cases h:n+k > 15\/(0:Int) - (k:Int) < -22\/(0:Int) - (k:Int) > 22
      · rw [if_pos h,if_pos h];rfl
      · rw [if_neg h,if_neg h];rfl
    simp only [ak,aF] at a;cases B:s.drop e with
    | nil=>
      have h0:¬ (((wh YN ([].take 1):Nat):Int) > 0):=by simp [wh]
      simp only [if_neg h0,ai,ab,af,ae];exact a _ rfl
    | cons c l=>
      have f:s.drop (e+1)=l:=by rw [<- abw,B];rfl
      have S:e < s.length:=by
        rcases Nat.lt_or_ge e s.length with q | q
        · exact q
        · rw [List.drop_of_length_le q] at B;cases B
      have T:l.length=s.length - (e+1):=by rw [<- f,aaz]
      rw [Pv];cases J:YN c with
      | false=>
        have hx:jA (c::l)=(0,0):=by
          unfold jA;have:¬ (c=101\/c=69):=by
            intro h;rcases h with rfl | rfl <;> cases J
          simp only [if_neg this]
        simp only [aaT,if_false,show ¬ (((0:Nat):Int) > 0) by omega,ai,ab,af,ae];exact a _ hx
      | true=>
        have j:c=101\/c=69:=by simpa [YN] using J
        have U:=Ij l;have K:iL l<=1:=by
          cases l with
          | nil=>simp [iL]
          | cons c l=>simp only [iL];split <;> omega
        have C:wh A5 (l.take 1)=iL l:=by
          cases l with
          | nil=>rfl
          | cons c l=>rw [Pv];rfl
        simp only [if_true,show (((1:Nat):Int) > 0) by omega];simp only [ck (show e+1<=9223372036854775807 by omega),A7 (show e+2<=9223372036854775807 by omega),Ke,db (Nat.min_le_left s.length (e+2)),db (show e+1<=min s.length (e+2) by omega),Gu,aF,show (s.take (e+2)).drop (e+1)=l.take 1 by rw [<- f];exact pj s (e+1) 1,Ro (show (l.take 1).length<=1000000 by rw [aau];omega),af,C,rA (show e+1+iL l<=9223372036854775807 by omega),db (show e+1+iL l<=s.length by omega),aaJ];have D:s.drop (e+1+iL l)=l.drop (iL l):=by rw [<- abw,f]
        have E:(l.drop (iL l)).length<=1000000:=by rw [aaz];omega
        simp only [D,Eu E,af];have L:=qd aW (l.drop (iL l));rw [aaz] at L;generalize g:wh aW (l.drop (iL l))=d at L;by_cases M:d=0
        · subst M
          have hx:jA (c::l)=(0,0):=by
            simp only [jA,if_pos j,g,if_true]
          simp only [show ¬ (((0:Nat):Int) > 0) by omega,ak,if_false,ai,ab,af,ae];exact a _ hx
        · have F:((d:Nat):Int) > 0:=by omega
          have hx:jA (c::l)=(1+iL l+d,if l.head?=some 45 then -((min (nB 0 ((l.drop (iL l)).take d)) 1000000:Nat):Int) else ((min (nB 0 ((l.drop (iL l)).take d)) 1000000:Nat):Int)):=by
            simp only [jA,if_pos j,g,if_neg M]
          obtain ⟨x,G,H⟩:=Lw (by omega) g (by omega) k;have hf:=OC G (show k<=500000 by omega);have m:(s.take (e+1+iL l+d)).drop (e+1)=l.take (iL l+d):=by
            have:=pj s (e+1) (iL l+d);rw [f, <- abH] at this;exact this
          simp only [ak,if_pos F,rA (show e+1+iL l+d<=9223372036854775807 by omega),db (show e+1+iL l+d<=s.length by omega),db (show e+1<=e+1+iL l+d by omega),m,MV,ah,H,aF,ai,ab,af,ae];have hl:=DC (all:=n+k) (e:=((e+1+iL l+d:Nat):Int)) (St.mk 0 0 Tr.leaf) _ hf;simp only [ak,aF] at hl;rw [hl,hx];have V:e+(1+iL l+d)=e+1+iL l+d:=by omega
          simp only [V];unfold V7;simp only [aa0,aaZ];by_cases N:l.head?=some 45
          · simp only [N,if_true]
            split <;> rfl
          · simp only [N,if_false]
            split <;> rfl
  · simp only [p,decide_false,abe,ay,if_false]
    rfl
theorem UH (c:UInt8):decide (yc [110,116,92,34] c>=0)=Dq c:=by
 have:=CB (p:=fun c=>decide (yc [110,116,92,34] c>=0)==Dq c) (by decide+kernel) c;exact eq_of_beq this
theorem tT (n:Nat) (b:UInt8) (l:LB):ew n (b::l)=if b.toNat=n then some 0 else (ew n l).map (· +1):=by
 show (match b.toNat.beq n with | true=>some 0 | false=>match ew n l with | some i=>some (i+1) | none=>none)= _;cases h:b.toNat.beq n with
 | true=>rw [if_pos (aap h)]
 | false=>
  rw [if_neg (Nat.ne_of_beq_eq_false h)];cases ew n l <;> rfl
theorem CI: ∀(r:LB),(∀b∈r,b≠10)->gH r=match ew 34 r with | some j=>j+1 | none=>r.length
 | [],_=>rfl
 | c::r,h=>by
  have ih:=CI r fun b d=>h b (aam _ d);rw [tT];simp only [gH,if_neg (h c (by simp))];by_cases a:c=34
  .subst a;rfl
  .have:¬ c.toNat=34:=fun e=>a (abt.1 e);rw [if_neg a,if_neg this,ih];cases ew 34 r <;> rfl
theorem tU: ∀(r:LB),gH r=gH (r.takeWhile fun b=>b != 10)
 | []=>rfl
 | c::r=>by
  by_cases h:c=10
  .subst h;rfl
  .have e:(c != 10)=true:=by simpa using h
   rw [aa1,if_pos e];simp only [gH,if_neg h];rw [tU r]
theorem Bf: ∀(l:LB),dD l=dD (l.takeWhile fun b=>b != 10)
 | []=>rfl
 | [c]=>by
  by_cases h:c=10
  .subst h;rfl
  .have e:(c != 10)=true:=by simpa using h
   rw [aa1,if_pos e];rfl
 | c::d::l=>by
  have h1:=Bf l;have f:=Bf (d::l);have k:=tU (d::l);by_cases h:c=10
  .subst h;rfl
  have e:(c != 10)=true:=by simpa using h
  rw [aa1,if_pos e];by_cases g:c=34
  .subst g;cases i:(d::l).takeWhile fun b=>b != 10 with
   | nil=>rfl
   | cons a r=>rfl
  by_cases j:c=92
  .subst j;by_cases m:d=10
   .subst m;rfl
   .have n:(d != 10)=true:=by simpa using m
    rw [aa1,if_pos n] at f k ⊢;simp only [dD,h,g,if_false,if_true];split
    .rw [h1]
    .rw [k]
  .cases i:(d::l).takeWhile fun b=>b != 10 with
   | nil=>
    rw [i] at f;simp only [dD,if_neg h,if_neg g,if_neg j,f]
   | cons a r=>
    rw [i] at f;simp only [dD,if_neg h,if_neg g,if_neg j,f]
theorem tC (line:LB) (h: ∀b∈line,b≠10) (hs:line.length<=1000000) (st:St): ∀(r:LB) (i:Nat),line.drop i=r->i<=line.length->
  (bl (iA line) ([.int .u8 0,.int .i64 0,.int .i64 (i:Int)],st)=some (1,[.int .u8 ((dD r).1:Int),.int .i64 ((i+(dD r).2:Nat):Int)],st))\/
  (bl (iA line) ([.int .u8 0,.int .i64 0,.int .i64 (i:Int)],st)=some (0,[.int .u8 0,.int .i64 0],st)/\dD r=(9,r.length))
 | [],i,n,hi=>by
  have:=abi.1 n;have q:¬ (i:Int) < (line.length:Int):=by omega
  refine .inr ⟨bE ?_,rfl⟩;simp only [iA,ab,af,ae,ak,if_neg q]
 | [c],i,n,hi=>by
  obtain ⟨B,x,a⟩:=drop_cons n;have J:=abi.1 x;have q:(i:Int) < (line.length:Int):=by omega
  have o:line[i]=c:=qO a B;have s:c≠10:=h c (aaK B);by_cases t:c=34
  .subst t;refine .inl (bE ?_);have z:((UInt8.toNat (34:UInt8):Nat):Int)=34:=rfl;simp only [iA,ab,af,ae,ak,if_pos q,gd a,o,z,bZ,if_true,aF,ck (show i+1<=9223372036854775807 by omega),ai,cu];rfl
  .have F:¬ ((c.toNat:Nat):Int)=34:=nr (d:=34) t;by_cases y:c=92
   .subst y;have p:((UInt8.toNat (92:UInt8):Nat):Int)=92:=rfl;have D:¬ ((92:Int)=34):=by omega
    have A:¬ ((i+1:Nat):Int) < (line.length:Int):=by omega
    have u:yc [92] 34= -1:=rfl;have k:=fun {β:Type} (st:St) (K:Kv β)=>nQ [92] 34 st K;have v:((UInt8.toNat (34:UInt8):Nat):Int)=34:=rfl;simp only [v] at k;have el:line.length=i+1:=by omega
    have w:dD [92]=(9,1):=rfl;refine .inl (bE ?_);simp only [iA,ab,af,ae,ak,if_pos q,gd a,o,p,bZ,if_neg D,if_true,aF,ck (show i+1<=9223372036854775807 by omega),if_neg A,ai,au,aq,db (show i<=line.length by omega),aaJ,n,k,u,show ¬ ((-1:Int)>=0) by omega,if_false,cu,w];rw [el];rfl
   .have p:¬ ((c.toNat:Nat):Int)=92:=nr (d:=92) y;refine .inr ⟨?_,by simp only [dD,if_neg s,if_neg t];rfl⟩;have ih:=tC line h hs st [] (i+1) x (by omega);rw [bA (s':=([.int .u8 0,.int .i64 0,.int .i64 ((i+1:Nat):Int)],st))]
    .rcases ih with ih | ih
     .exfalso;have A:¬ ((i+1:Nat):Int) < (line.length:Int):=by omega
      have e:bl (iA line) ([.int .u8 0,.int .i64 0,.int .i64 ((i+1:Nat):Int)],st)=some (0,[.int .u8 0,.int .i64 0],st):=bE (by simp only [iA,ab,af,ae,ak,if_neg A]);rw [e] at ih;cases ih
     .exact ih.1
    .simp only [iA,ab,af,ae,ak,if_pos q,gd a,o,bZ,if_neg F,if_neg p,ai,bz,aF,ck (show i+1<=9223372036854775807 by omega)]
 | c::d::l,i,n,hi=>by
  obtain ⟨B,x,a⟩:=drop_cons n;obtain ⟨G,H,m⟩:=drop_cons x;have q:(i:Int) < (line.length:Int):=by omega
  have A:((i+1:Nat):Int) < (line.length:Int):=by omega
  have o:line[i]=c:=qO a B;have C:line[i+1]=d:=qO m G;have s:c≠10:=h c (aaK B);by_cases t:c=34
  .subst t;refine .inl (bE ?_);have z:((UInt8.toNat (34:UInt8):Nat):Int)=34:=rfl;simp only [iA,ab,af,ae,ak,if_pos q,gd a,o,z,bZ,if_true,aF,ck (show i+1<=9223372036854775807 by omega),ai,cu];rfl
  .have F:¬ ((c.toNat:Nat):Int)=34:=nr (d:=34) t;by_cases y:c=92
   .subst y;have p:((UInt8.toNat (92:UInt8):Nat):Int)=92:=rfl;have D:¬ ((92:Int)=34):=by omega
    have g:=UH d;cases he:Dq d with
    | true=>
     rw [he] at g;have f:=abW g;have ih:=tC line h hs st l (i+2) H (by omega);have step:bl (iA line) ([.int .u8 0,.int .i64 0,.int .i64 (i:Int)],st)=bl (iA line) ([.int .u8 0,.int .i64 0,.int .i64 ((i+2:Nat):Int)],st):=by
      refine bA ?_;simp only [iA,ab,af,ae,ak,if_pos q,gd a,o,p,bZ,if_neg D,if_true,aF,ck (show i+1<=9223372036854775807 by omega),if_pos A,gd m,C,nQ,ai,au,if_pos f,bz,ck (show i+1+1<=9223372036854775807 by omega)]
     have w:dD (92::d::l)=((dD l).1,(dD l).2+2):=by
      simp only [dD,he,if_true];rfl
     rw [step,w];rcases ih with ih | ⟨ih,I⟩
     .refine .inl (ih.trans ?_);show some (_,[_,AV.int .i64 ((i+2+(dD l).2:Nat):Int)],st)= _;rw [show i+2+(dD l).2=i+((dD l).2+2) by omega]
     .exact .inr ⟨ih,by rw [I];rfl⟩
    | false=>
     rw [he] at g;have f:=of_decide_eq_false g;have w:dD (92::d::l)=(9,gH (d::l)+1):=by
      simp only [dD,he];rfl
     have E:=CI (d::l) fun b E=>h b (by
      have:b∈line.drop (i+1):=by rw [x];exact E
      exact List.mem_of_mem_drop this)
     have k:=fun {β:Type} (st:St) (K:Kv β)=>nQ (92::d::l) 34 st K;have v:((UInt8.toNat (34:UInt8):Nat):Int)=34:=rfl;simp only [v] at k;have hl:line.length=i+2+l.length:=by
      have:=aaU List.length n;rw [aaz] at this;simp at this;omega
     rw [w];refine .inl (bE ?_);have u:yc (92::d::l) 34=match ew 34 (d::l) with | some j=>((j+1:Nat):Int) | none=> -1:=by
      unfold yc;rw [show (UInt8.toNat (34:UInt8))=34 from rfl,tT,if_neg (by decide)];cases ew 34 (d::l) <;> rfl
     simp only [iA,ab,af,ae,ak,if_pos q,gd a,o,p,bZ,if_neg D,if_true,aF,ck (show i+1<=9223372036854775807 by omega),if_pos A,gd m,C,nQ,ai,au,if_neg f,db (show i<=line.length by omega),aaJ,n,k,u];rw [E];cases hf:ew 34 (d::l) with
     | none=>
      simp only [show ¬ ((-1:Int)>=0) by omega,if_false,ai,cu];rw [show line.length=i+((d::l).length+1) by simp;omega];rfl
     | some j=>
      have L:j+1<=(d::l).length:=by
       have h1:=Ff (d::l);rw [E,hf] at h1;exact h1
      simp only [aae] at L;simp only [show (((j+1:Nat):Int)>=0) by omega,if_true,rA (show i+(j+1)<=9223372036854775807 by omega),ck (show i+(j+1)+1<=9223372036854775807 by omega),ai,cu];rfl
   .have p:¬ ((c.toNat:Nat):Int)=92:=nr (d:=92) y;have ih:=tC line h hs st (d::l) (i+1) x (by omega);have step:bl (iA line) ([.int .u8 0,.int .i64 0,.int .i64 (i:Int)],st)=bl (iA line) ([.int .u8 0,.int .i64 0,.int .i64 ((i+1:Nat):Int)],st):=by
     refine bA ?_;simp only [iA,ab,af,ae,ak,if_pos q,gd a,o,bZ,if_neg F,if_neg p,ai,bz,aF,ck (show i+1<=9223372036854775807 by omega)]
    have w:dD (c::d::l)=((dD (d::l)).1,(dD (d::l)).2+1):=by
     simp only [dD,if_neg s,if_neg t,if_neg y]
    rw [step,w];rcases ih with ih | ⟨ih,I⟩
    .refine .inl (ih.trans ?_);show some (_,[_,AV.int .i64 ((i+1+(dD (d::l)).2:Nat):Int)],st)= _;rw [show i+1+(dD (d::l)).2=i+((dD (d::l)).2+1) by omega]
    .exact .inr ⟨ih,by rw [I];rfl⟩
theorem DN: ∀(s:LB),(match ew 10 s with | some k=>s.take k | none=>s)=s.takeWhile fun b=>b != 10
 | []=>rfl
 | c::l=>by
  have ih:=DN l;rw [tT,aa1];by_cases h:c=10
  .subst h;rfl
  .have e:(c != 10)=true:=by simpa using h
   have:¬ c.toNat=10:=fun k=>h (abt.1 k);rw [if_neg this,if_pos e, <- ih];cases ew 10 l <;> rfl
theorem KF: ∀(s:LB) (n k:Nat),ew n s=some k->k < s.length
 | [],_,_,h=>by cases h
 | c::l,n,k,h=>by
  rw [tT] at h;split at h
  .cases h;simp
  .obtain ⟨m,hm,rfl⟩:=aaN.1 h;have:=KF l n m hm;simp;omega
theorem QV {c:UInt8} {l:LB} (hs:(c::l).length<=1000000):(aQ vE).bare 31 [.str (c::l)]=some (if c=34 then .tup [.int .u8 ((dD l).1:Int),.int .i64 (((dD l).2+1:Nat):Int)] else .tup [.int .u8 0,.int .i64 0]):=by
 refine aU rfl ((Vu _).trans ?_);have n: ∀{β:Type} (K:UInt8->Oq β),kF (c::l) 0 K=K c:=fun K=>gd (k:=0) (by simp) K;by_cases h:c=34
 .subst h;have z:(((UInt8.toNat (34:UInt8):Nat):Int) != 34)=false:=rfl;have f:=fun {β:Type} (st:St) (K:Kv β)=>nQ (34::l) 10 st K;have g:((UInt8.toNat (10:UInt8):Nat):Int)=10:=rfl;simp only [g] at f;have a:=DN (34::l);have o:(34::l).takeWhile (fun b=>b != 10)=34::l.takeWhile (fun b=>b != 10):=by rw [aa1];rfl
  rw [o] at a;have i: ∀b∈(34::l.takeWhile (fun b=>b != 10):LB),b≠10:=by
   intro b j;rcases aao.1 j with rfl | j
   .decide
   .have:=aa7.1 (uk (fun b=>b != 10) l) b j;simpa using this
  have m:(34::l.takeWhile (fun b=>b != 10):LB).length<=1000000:=by
   have:=(List.takeWhile_sublist (p:=fun b=>b != 10) (l:=l)).length_le;simp at hs ⊢;omega
  have e:=tC (34::l.takeWhile (fun b=>b != 10)) i m (St.mk 0 0 Tr.leaf) (l.takeWhile fun b=>b != 10) 1 rfl (by simp);rw [<- Bf l] at e;have first: ∀(K:cJ->Oq AV),(aC (bu (decide (yc (34::l) 10>=0)) (gM (yc (34::l) 10) (34::l:LB).length fun k6=>bx (List.drop 0 (List.take k6 (34::l))) fun q=>some (([AV.str q],St.mk 0 0 Tr.leaf):cJ)) (some ([AV.str (34::l)],St.mk 0 0 Tr.leaf))) K)=K ([AV.str (34::l.takeWhile fun b=>b != 10)],St.mk 0 0 Tr.leaf):=by
   intro K;unfold yc;rw [show UInt8.toNat (10:UInt8)=10 from rfl];cases hf:ew 10 (34::l) with
   | none=>
    rw [hf] at a;have a:(34::l)=34::l.takeWhile (fun b=>b != 10):=a;simp only [ak,show ¬ ((-1:Int)>=0) by omega,if_false,ai];rw [<- a]
   | some k=>
    rw [hf] at a;have a:(34::l).take k=34::l.takeWhile (fun b=>b != 10):=a;have t:=KF _ _ _ hf;simp only [ak,show ((k:Int)>=0) by omega,if_true,db (show k<=(34::l:LB).length by omega),aaw,aF,a,ai]
  simp only [Zp,ah,n,z,aq,f,af];rw [first];simp only [ab,ah,ae,if_true];rcases e with e | ⟨e,r⟩
  .have e:bl (iA (34::l.takeWhile fun b=>b != 10)) ([.int .u8 0,.int .i64 0,.int .i64 1],St.mk 0 0 Tr.leaf)= _:=e;rw [e];simp only [ai,ab,af,ae,pE];rw [abv 1]
  .have e:bl (iA (34::l.takeWhile fun b=>b != 10)) ([.int .u8 0,.int .i64 0,.int .i64 1],St.mk 0 0 Tr.leaf)= _:=e;rw [e,r];simp only [ai,ab,af,ae,gU];rfl
 .have z:((c.toNat:Int) != 34)=true:=by
   have s:¬ ((c.toNat:Nat):Int)=34:=nr (d:=34) h;rw [bne,beq_false_of_ne s];rfl
  simp only [Zp,ah,n,z,ay,if_neg h]
theorem Sz {c:UInt8} {l:LB}:(aQ vE).bare 32 [.str (c::l)]=some (if iJ.contains ((c::l).take 2) then .tup [.int .u8 8,.int .i64 2] else .tup [.int .u8 8,.int .i64 (if kS c then 1 else 0)]):=by
 refine aU rfl ((U7 _).trans ?_);have h1:(c::l).take 1=[c]:=rfl;have m:wh kS [c]=if kS c then 1 else 0:=by rw [gf];rfl
 have tail: ∀(st:St),(cf (Nat.ble 1 (c::l).length) (bx (List.drop 0 (List.take 1 (c::l))) fun e=>bf (aQ vE) 57 [AV.str e,AV.str [40,41,91,93,44,59,124,61,60,62,43,45,42,47,94,64]] st fun f _x _x_1=>bK .i64 f fun a=>bx (if a < 1 then a else 1) fun g=>some (AV.tup [AV.int .u8 8,AV.int .i64 g])))=some (.tup [.int .u8 8,.int .i64 (if kS c then 1 else 0)]):=by
  intro st;simp only [jX (show 1<=(c::l).length by simp),aG,aF,h1,aaw,QZ (show [c].length<=1000000 by simp),af,m];cases kS c <;> rfl
 by_cases hl:((c::l).length:Int) > 1
 .have h:2<=(c::l).length:=by omega
  simp only [Zk,ah,ak,if_pos hl,jX h,aG,aaw,aF];generalize (c::l).take 2=w;cases b:iJ.contains w with
  | true=>
   have hm:w∈iJ:=List.contains_iff_mem.1 b;simp only [iJ,aao,List.not_mem_nil,or_false] at hm;rcases hm with rfl | rfl | rfl | rfl | rfl | rfl | rfl | rfl | rfl | rfl | rfl <;> rfl
  | false=>
   simp only [iJ,List.contains_cons,List.contains_nil,aaY] at b;obtain ⟨n,o,p,q,r,s,t,u,v,i,j,_⟩:=b;simp only [n,o,p,q,r,s,t,u,v,i,j,aq,ai,ab,au,ae,bz,af];exact tail _
 .have k:l=[]:=by
   cases l with
   | nil=>rfl
   | cons d l=>simp at hl;omega
  subst k;have b:iJ.contains ([c].take 2)=false:=by
   simp [iJ]
  simp only [Zk,ah,ak,if_neg hl,ai,bz,ab,af,ae,b];exact tail _
def Rn (s:LB):Nat:=if iU s=0 then 1 else iU s
theorem LY {s:LB} (h:s≠[]): ∃r n:Int,lJ [.str s]= .ok (.tup [.int .i32 r,.int .i64 n])/\((iU s=0/\r=65533/\n=1)\/(iU s≠0/\n=iU s/\(iU s=1->r≠65533))):=by
 cases s with
 | nil=>exact absurd rfl h
 | cons c l=>
  have e:lJ [.str (c::l)]= .ok (.tup [.int .i32 ((Lib.decodeL (c::l)).1:Int),.int .i64 ((Lib.decodeL (c::l)).2:Int)]):=by
   rw [Lib.decodeL_N];rfl
  refine ⟨_,_,e, ?_⟩;rcases qM (c::l) with ⟨h1,a⟩ | ⟨h1,a,b⟩ | ⟨h1,a⟩
  .exact .inl ⟨h1,by rw [a];rfl,by rw [a];rfl⟩
  .refine .inr ⟨by omega,by rw [b,h1],fun _=> ?_⟩;rw [b];show (((c::l).getD 0 0).toNat:Int)≠65533;omega
  .exact .inr ⟨by omega,by rw [a],fun h=>by omega⟩
theorem QE {s:LB} (h:s≠[]): ∃r:Int,(aQ vE).bare 63 [.str s]=some (.tup [.int .i64 r,.int .i64 (Rn s:Int)]):=by
 obtain ⟨r,n,e,c⟩:=LY h;have a:(s==[])=false:=by simpa using h
 rcases c with ⟨h1,rfl,rfl⟩ | ⟨h1,rfl,d⟩
 .refine ⟨-1,aU rfl ((Ni _).trans ?_)⟩;simp only [YJ,ah,a,aq,fO e,br,aP,ba,af,bZ,if_true,ai,ab,au,ae,ak,show ((1:Int) < 2) by omega,Rn,if_pos h1];rfl
 .refine ⟨IntKind.wrap .i64 r,aU rfl ((Ni _).trans ?_)⟩;by_cases b:r=65533
  .have:¬ iU s=1:=fun k=>d k b;have:¬ ((iU s:Int) < 2):=by omega
   simp only [YJ,ah,a,aq,fO e,br,aP,ba,af,bZ,if_pos b,ai,ab,au,ae,ak,if_neg this,aF,Rn,if_neg h1]
  .simp only [YJ,ah,a,aq,fO e,br,aP,ba,af,bZ,if_neg b,ai,ab,au,ae,aF,Rn,if_neg h1]
theorem VO {s:LB} (h:s≠[]):(aQ vE).bare 33 [.str s]=some (.tup [.int .u8 9,.int .i64 (Rn s:Int)]):=by
 refine aU rfl ((VJ _).trans ?_);obtain ⟨r,e⟩:=QE h;have a: ∀{β:Type} (st:St) (K:Kv β),bf (aQ vE) 63 [.str s] st K=K (.tup [.int .i64 r,.int .i64 (Rn s:Int)]) st q0:=fun st K=>aI st K rfl rfl rfl e;simp only [g33,ah,a,br,aP,ba,af]
def ways (s:LB):List (Nat×Nat):=
 match s with
 | []=>[]
 | c::l=>[(1,wh cr s),(if s.take 2=[40,42] then (match rem (s.drop 2) 1 with | some n=>(2,n+2) | none=>(9,s.length)) else (0,0)),
  (if lb c then (um (s.takeWhile iI),wh iI s) else (0,0)),(if wh aW s=0 then (5,0) else number s),(if c=34 then ((dD l).1,(dD l).2+1) else (0,0)),
  (if iJ.contains (s.take 2) then (8,2) else (8,if kS c then 1 else 0)),(9,Rn s)]
def Mq:List FuncId:=[27,28,29,30,31,32,33]
theorem Qv {s:LB} (hs:s.length<=500000) {j:Nat} {f:FuncId} {p:Nat×Nat} (hf:Mq[j]? =some f) (hp:(ways s)[j]? =some p):
  (aQ vE).bare f [.str s]=some (.tup [.int .u8 (p.1:Int),.int .i64 (p.2:Int)])/\vE.full f=false/\vE.prim f=none:=by
 cases s with
 | nil=>simp [ways] at hp
 | cons c l=>
  match j,hf,hp with
  | 0,hf,hp=>cases hf;cases hp;exact ⟨Oj (by omega),rfl,rfl⟩
  | 1,hf,hp=>
   cases hf;cases hp;refine ⟨(L5 (by omega)).trans ?_,rfl,rfl⟩;split
   .cases rem (List.drop 2 (c::l)) 1 <;> rfl
   .rfl
  | 2,hf,hp=>
   cases hf;cases hp;refine ⟨(Sl (by omega)).trans ?_,rfl,rfl⟩;split <;> rfl
  | 3,hf,hp=>
   cases hf;cases hp;refine ⟨(Mp hs).trans ?_,rfl,rfl⟩;split <;> rfl
  | 4,hf,hp=>
   cases hf;cases hp;refine ⟨(QV (by omega)).trans ?_,rfl,rfl⟩;split <;> rfl
  | 5,hf,hp=>
   cases hf;cases hp;refine ⟨Sz.trans ?_,rfl,rfl⟩;split
   .rfl
   .cases kS c <;> rfl
  | 6,hf,hp=>cases hf;cases hp;exact ⟨VO (by simp),rfl,rfl⟩
  | j+7,hf,hp=>simp [Mq] at hf
def first:List (Nat×Nat)->Nat×Nat
 | []=>(9,0)
 | p::l=>if 0 < p.2 then p else first l
theorem Q4 {c:UInt8} (h:lb c=true):iI c=true:=by unfold iI;rw [h];rfl
theorem LQ {s:LB} (h:s≠[]):first (ways s)=cut s:=by
 cases s with
 | nil=>exact absurd rfl h
 | cons c l=>
  unfold cut;simp only [ways,first];cases a:cr c with
  | true=>
   have:0 < wh cr (c::l):=by rw [gf,if_pos a];omega
   simp only [if_pos this,if_true]
  | false=>
   have:¬ 0 < wh cr (c::l):=by rw [gf,a];simp
   simp only [if_neg this,aaT,if_false];by_cases b:(c::l).take 2=[40,42]
   .simp only [if_pos b];cases rem (List.drop 2 (c::l)) 1 with
    | some n=>simp
    | none=>simp
   .simp only [if_neg b,show ¬ (0:Nat) < 0 by omega,if_false];cases hl:lb c with
    | true=>
     have:0 < wh iI (c::l):=by rw [gf,if_pos (Q4 hl)];omega
     simp only [if_pos this,if_true]
    | false=>
     simp only [aaT,if_false,show ¬ (0:Nat) < 0 by omega];cases d:aW c with
     | true=>
      have h1:0 < wh aW (c::l):=by rw [gf,if_pos d];omega
      have j:=(xj (c::l) h1).1;have g:¬ wh aW (c::l)=0:=by omega
      simp only [if_neg g,show 0 < (number (c::l)).2 by omega,if_true]
     | false=>
      have h1:wh aW (c::l)=0:=by rw [gf,d];simp
      simp only [if_pos h1,show ¬ (0:Nat) < 0 by omega,if_false,aaT];by_cases e:c=34
      .simp only [if_pos e,show 0 < (dD l).2+1 by omega,if_true]
      .simp only [if_neg e,show ¬ (0:Nat) < 0 by omega,if_false];by_cases f:iJ.contains ((c::l).take 2)=true
       .simp only [if_pos f,show (0:Nat) < 2 by omega,if_true]
       .simp only [if_neg f];cases ho:kS c with
        | true=>simp
        | false=>
         have i:0 < Rn (c::l):=by unfold Rn;split <;> omega
         simp only [aaT,if_false,show ¬ (0:Nat) < 0 by omega,i,if_true];rfl
theorem Gz {β:Type} {f g:FuncId} (hp:vE.prim f=none) (args:LA) (st:St) (K:Kv β):iZ (aQ vE) (Sx.prim (sx vE g)) (.fn (.func f) [] []) args st K=bf (aQ vE) f args st K:=by
 have hp:Sx.prim (sx vE g) f=none:=hp;simp only [iZ,jw,hp,aaq,aay];rfl
def tok (p:Nat×LB):AV:= .agg [.int .u8 (p.1:Int),.str p.2]
def XQ:AV:=AV.sl 1 [AV.fn (Fn.func 27) [] [],AV.fn (Fn.func 28) [] [],AV.fn (Fn.func 29) [] [],AV.fn (Fn.func 30) [] [],AV.fn (Fn.func 31) [] [],AV.fn (Fn.func 32) [] [],AV.fn (Fn.func 33) [] []] Perm.shut
theorem RU {β:Type} {j:Nat} {f:FuncId} (hf:Mq[j]? =some f) (st:St) (K:AV->Ln->Oq β):bL 1 XQ (j:Int) st K=K (.ip [.fn (.func f) [] []]) []:=by
 match j,hf with
 | 0,hf=>cases hf;rfl
 | 1,hf=>cases hf;rfl
 | 2,hf=>cases hf;rfl
 | 3,hf=>cases hf;rfl
 | 4,hf=>cases hf;rfl
 | 5,hf=>cases hf;rfl
 | 6,hf=>cases hf;rfl
 | j+7,hf=>simp [Mq] at hf
theorem GG {s:LB} (hs:s.length<=500000) {st:St} {v:AV} {es:LA} (ho:iX st 2 30 v es) (he:es.length<=500000): ∀(l:List (Nat×Nat)) (j:Nat),(ways s).drop j=l->l.length+j=7->0 < (first l).2->(first l).2<=s.length->
  ∃v' st',bl BM ([v,.str s,.int .i64 (j:Int)],st)=some (0,[v',.str (s.drop (first l).2)],st')/\iX st' 2 30 v' (es++[tok ((first l).1,s.take (first l).2)])
 | [],j,m,i,h0,_=>by simp [first] at h0
 | p::l,j,m,i,h0,d=>by
  obtain ⟨o,r,t⟩:=drop_cons (α:=Nat×Nat) m;have k:j < 7:=by simp at i;omega
  obtain ⟨f,hf⟩: ∃f,Mq[j]? =some f:=⟨Mq[j],aav k⟩;obtain ⟨u,e,a⟩:=Qv hs hf o;have n: ∀{β:Type} (st:St) (K:Kv β),bf (aQ vE) f [.str s] st K=K (.tup [.int .u8 (p.1:Int),.int .i64 (p.2:Int)]) st q0:=fun st K=>aI st K e rfl rfl u;have c:=fun {β:Type} (st:St) (K:AV->Ln->Oq β)=>RU hf st K;unfold XQ at c;have q:(j:Int) < 7:=by omega
  by_cases hp:0 < p.2
  .have g:(p.2:Int) > 0:=by omega
   have h:first (p::l)=p:=by simp only [first,if_pos hp]
   rw [h] at d ⊢;obtain ⟨v',st',o',x,x',a'⟩:=QD (b:=24) (tok (p.1,s.take p.2)) ho (vN (by omega) (by omega) (by omega));refine ⟨v',st',bE ?_,o'⟩;have a': ∀{β:Type} (K:Kv β),eI 2 24 30 v [.agg [.int .u8 (p.1:Int),.str (s.take p.2)]] st K=K v' st' x':=fun K=>a' K;simp only [BM,ab,ah,af,ae,ak,if_pos q,c,bj,aR,ai,Gz a,n,br,aP,ba,if_pos g,db d,aaw,aF,a',aaJ]
  .have g:¬ (p.2:Int) > 0:=by omega
   have h:first (p::l)=first l:=by simp only [first,if_neg hp]
   rw [h] at h0 d ⊢;obtain ⟨v',st',w,o'⟩:=GG hs ho he l (j+1) r (by simp at i;omega) h0 d;refine ⟨v',st', ?_,o'⟩;rw [bA (s':=([v,.str s,.int .i64 ((j+1:Nat):Int)],st)),w];simp only [BM,ab,ah,af,ae,ak,if_pos q,c,bj,aR,ai,Gz a,n,br,aP,ba,if_neg g,aF,ck (show j+1<=9223372036854775807 by omega)]
theorem CM: ∀(n:Nat) (s:LB) (st:St) (v:AV) (es:LA),s.length<=n->n<=500000->iX st 2 30 v es->es.length+n<=500000->
  ∃v' st',bl EB ([v,.str s],st)=some (0,[v'],st')/\iX st' 2 30 v' (es++(tokens s).map tok)
 | n,[],st,v,es,_,_,ho,_=>by
  refine ⟨v,st,bE ?_,by simpa [IK] using ho⟩;simp only [EB,ab,ah,ae,show (!(([]:LB)==[]))=false from rfl,aq]
 | 0,c::l,_,_,_,h,_,_,_=>by simp at h
 | n+1,c::l,st,v,es,h,hn,ho,he=>by
  have j:=pd (s:=c::l) (by simp);have a:=LQ (s:=c::l) (by simp);obtain ⟨v1,st1,b,o1⟩:=GG (s:=c::l) (by omega) ho (by omega) (ways (c::l)) 0 rfl rfl (by rw [a];omega) (by rw [a];omega);rw [a] at b o1;have f:((c::l).drop (cut (c::l)).2).length<=n:=by rw [aaz];omega
  obtain ⟨g,d,i,e⟩:=CM n ((c::l).drop (cut (c::l)).2) st1 v1 _ f (by omega) o1 (by rw [aad];simp;omega);refine ⟨g,d, ?_, ?_⟩
  .have b:bl BM ([v,.str (c::l),.int .i64 0],st)= _:=b;rw [bA (s':=([v1,.str ((c::l).drop (cut (c::l)).2)],st1)),i];simp only [EB,ab,ah,ae,show (!((c::l:LB)==[]))=true from rfl,ay,b,ai]
  .rw [yn (by simp),aan];rw [aar] at e;exact e
theorem NZ {s:LB} (hs:s.length<=1000000):(aQ vE).bare 26 [.str s]=some (.bool (cb s)):=by
 refine aU rfl ((T2 _).trans ?_);simp only [g26,ah,fO (yN (show s.length<=9223372036854775807 by omega)),au]
theorem AP {β:Type} {s:LB} (hs:s.length<=1000000) (st:St) (K:Kv β):bf (aQ vE) 26 [.str s] st K=K (.bool (cb s)) st q0:=aI st K rfl rfl rfl (NZ hs)
theorem EH {s:LB} (h:65536 < s.length):(aQ vE).bare 11 [.str s]=some (.tup [.ax,.int .i64 40]):=by
 refine aU rfl ((Is _).trans ?_);have q:(s.length:Int) > 65536:=by omega
 simp only [g11,ah,ak,if_pos q]
theorem FO {s:LB} (h:s.length<=65536) (a:cb s=false):(aQ vE).bare 11 [.str s]=some (.tup [.ax,.int .i64 4]):=by
 refine aU rfl ((Is _).trans ?_);have q:¬ (s.length:Int) > 65536:=by omega
 simp only [g11,ah,ak,if_neg q,AP (show s.length<=1000000 by omega),a,au,abe,ay]
theorem M5 {s:LB} (h:s.length<=65536) (a:cb s=true): ∃x,(aQ vE).bare 11 [.str s]=some (.tup [x,.int .i64 0])/\aO 2 x ((tokens s).map tok):=by
 have q:¬ (s.length:Int) > 65536:=by omega
 obtain ⟨v',st',e,o⟩:=CM s.length s (St.mk 0 0 Tr.leaf) .ax [] (aal _) (by omega) (iX.ax (aal _) _ _) (by simp;omega);rw [aaq] at o;obtain ⟨x,hx,hf⟩:=GO o (fC .i64 0) rfl;refine ⟨x,aU rfl ((Is _).trans ?_),hx⟩;simp only [g11,ah,ak,if_neg q,AP (show s.length<=1000000 by omega),a,au,aa2,aq,e,ai,ab,ae,hf]
theorem Uz (a b:Int) (s t:LB):Fw (Env.T vE) 20 30 (.agg [.int .u8 a,.str s]) (.agg [.int .u8 b,.str t])= .ok (a==b&&s==t):=by
 have h:Fw (Env.T vE) 20 30 (.agg [.int .u8 a,.str s]) (.agg [.int .u8 b,.str t])=(match a==b with | true=>(match s==t with | true=> .ok true | false=> .ok false) | false=> .ok false):=by kernel_rfl
 rw [h];cases a==b <;> cases s==t <;> rfl
theorem QX (a b:Int) (s t:LB):MD (VM.binOp (Env.T vE) BinOp.neq 30 (.agg [.int .u8 a,.str s]) (.agg [.int .u8 b,.str t]))=some (.bool !(a==b&&s==t)):=by
 have h:VM.binOp (Env.T vE) BinOp.neq 30 (.agg [.int .u8 a,.str s]) (.agg [.int .u8 b,.str t])=(do pure (.bool !(<- Fw (Env.T vE) 20 30 (.agg [.int .u8 a,.str s]) (.agg [.int .u8 b,.str t])))):=by kernel_rfl
 rw [h,Uz];rfl
theorem B6 {x:AV} {es:List (Nat×LB)} (h:aO 2 x (es.map tok)) {j:Nat} {p:Nat×LB} (a:es[j]? =some p) {β:Type} (st:St) (K:AV->Ln->Oq β):bL 2 x (j:Int) st K=K (.ip [.int .u8 (p.1:Int),.str p.2]) []:=
 h.idx (by rw [aaW,a];rfl) st K
structure P6 (PT:Td) (st:St) (p:Nat) (L:List Parse.bc) (x:AV) (i d:Nat):Prop where
 get:st.get p= .ok (.cells PT [x,.int .i64 (i:Int),.int .i64 (d:Int)])
 sl:aO 2 x (L.map tok)
 le:i<=L.length
 len:L.length<=1000000
 ro:st.ro<=p
section
variable {PT:Td} {st st':St} {p:Nat} {L:List Parse.bc} {x:AV} {i d:Nat}
theorem P6.lt (h:P6 PT st p L x i d):p < st.h:=(St.ca.1 h.get).1
theorem P6.keeps {but:Nat->Prop} (h:P6 PT st p L x i d) (k:aZ st st' but) (hp:¬ but p):P6 PT st' p L x i d:=
 ⟨k.old _ _ hp h.get,h.sl,h.le,h.len,by rw [k.ro];exact h.ro⟩
theorem P6.Ci (h:P6 PT st p L x i d):st.ro<=st.h:=aaR h.ro (ab3 h.lt)
end
abbrev PS:=P6 92
theorem PS.kG {st st':St} {but:Nat->Prop} (k:aZ st st' but) (h:st.ro<=st.h):st'.ro<=st'.h:=by rw [k.ro];exact aaR h k.h
theorem Rk (t:Parse.bc):(aQ vE).bare 103 [.agg [.int .u8 (t.1:Int),.str t.2]]=some (.bool (Parse.bC t)):=by
 refine aU rfl ((Re _).trans ?_);unfold Parse.bC;by_cases h1:t.1=1
 .have a:(t.1:Int)=1:=by omega
  have e:(t.1==1||t.1==2)=true:=by simp [h1]
  rw [e];simp only [Vq,al,ab,af,ah,ae,bZ,if_pos a,ai,au]
 .have a:¬ (t.1:Int)=1:=by omega
  have b:((t.1:Int)==2)=(t.1==2):=by
   by_cases h:t.1=2
   .rw [h];rfl
   .rw [aaB.2 h,aaB.2 (show ¬ (t.1:Int)=2 by omega)]
  simp only [Vq,al,ab,af,ah,ae,bZ,if_neg a,ai,au,b,aaB.2 h1,abo]
theorem Dy (t:Parse.bc) {β:Type} (st:St) (K:Kv β):bf (aQ vE) 103 [.agg [.int .u8 (t.1:Int),.str t.2]] st K=K (.bool (Parse.bC t)) st q0:=aI st K rfl rfl rfl (Rk t)
def wT (r:List Parse.bc):Nat:=(r.takeWhile Parse.bC).length
theorem DY (t:Parse.bc) (r:List Parse.bc):wT (t::r)=if Parse.bC t=true then wT r+1 else 0:=by
 unfold wT;rw [aa1];split <;> rfl
theorem J7 (t:Parse.bc) (r:List Parse.bc):Parse.nx (t::r)=if Parse.bC t=true then Parse.nx r else t:=by
 unfold Parse.nx;rw [abn];cases Parse.bC t <;> rfl
theorem C1 {p d:Nat} {L:List Parse.bc} {x:AV} {st0:St} {m:Nat}: ∀(l:List Parse.bc) (j:Nat) (st:St),L.drop j=l->PS st p L x m d->st.get st0.h= .ok (.cells 30 [.int .u8 0,.str []])->st0.h≠p->st.ro<=st0.h->
  ∃st' n,bl (Al (.mp p 0) st0) ([.int .i64 0,.int .i64 (j:Int)],st)=some (n,[.int .i64 (if l.dropWhile Parse.bC=[] then 0 else ((j+wT l:Nat):Int))],st')/\
   (n=if l.dropWhile Parse.bC=[] then 0 else 1)/\aZ st st' (· =st0.h)/\st'.h=st.h/\(l.dropWhile Parse.bC=[]->st'=st)/\(l.dropWhile Parse.bC≠[]->st'.get st0.h= .ok (.cells 30 [.int .u8 ((Parse.nx l).1:Int),.str (Parse.nx l).2]))
 | [],j,st,g,hp,i,e,b=>by
  have:=abi.1 g;have q:¬ (j:Int) < ((L.map tok).length:Int):=by rw [aaA];omega
  refine ⟨st,0,bE ?_,rfl,aZ.refl _ _,rfl,fun _=>rfl,fun h=>absurd rfl h⟩;simp only [Al,ab,af,ae,dP,aG,bw,abf,aax,bq hp.get,aaw,aR,ai,hp.sl.len,ak,if_neg q];rfl
 | t::l,j,st,g,hp,i,e,b=>by
  obtain ⟨f,o,r⟩:=drop_cons g;have q:(j:Int) < ((L.map tok).length:Int):=by rw [aaA];omega
  have hlen:=hp.len;cases a:Parse.bC t with
  | true=>
   obtain ⟨st',n,k,s,u,v,w,y⟩:=C1 l (j+1) st o hp i e b;have c:(t::l).dropWhile Parse.bC=l.dropWhile Parse.bC:=by rw [abn,a];rfl
   rw [c,DY,a,if_pos rfl,J7,a,if_pos rfl,show j+(wT l+1)=j+1+wT l by omega];refine ⟨st',n, ?_,s,u,v,w,y⟩;rw [bA (s':=([.int .i64 0,.int .i64 ((j+1:Nat):Int)],st)),k];simp only [Al,ab,af,ae,dP,aG,bw,abf,aax,bq hp.get,aaw,aR,ai,hp.sl.len,ak,if_pos q,B6 hp.sl f,bj,yb,al,ah,Dy,a,au,aa2,aq,aF,ck (show j+1<=9223372036854775807 by omega)]
  | false=>
   have c:(t::l).dropWhile Parse.bC=t::l:=by rw [abn,a];rfl
   obtain ⟨st1,A,k1,B,C,k⟩:=Kr (O:=aQ vE) (.agg [.int .u8 (t.1:Int),.str t.2]) i (z:=2) (cs:=[.int .u8 (t.1:Int),.str t.2]) rfl rfl b;rw [c,DY,a,if_neg (by simp),if_neg (by simp),J7,a,if_neg (by simp)];refine ⟨st1,1,bE ?_,rfl,k1,B,fun h=>by simp at h,fun _=>A⟩;simp only [Al,ab,af,ae,dP,aG,bw,abf,aax,bq hp.get,aaw,aR,ai,hp.sl.len,ak,if_pos q,B6 hp.sl f,bj,yb,al,ah,Dy,a,au,abe,ay,k]
theorem N0: ∀{l:List Parse.bc},l.dropWhile Parse.bC=[]->wT l=l.length
 | [],_=>rfl
 | t::l,h=>by
  rw [abn] at h;rw [DY];cases a:Parse.bC t with
  | true=>rw [a,if_pos rfl] at h;rw [if_pos rfl,N0 h];rfl
  | false=>rw [a,if_neg (by simp)] at h;cases h
theorem U9 {l:List Parse.bc} (h:l.dropWhile Parse.bC=[]):Parse.nx l=(0,[]):=by unfold Parse.nx;rw [h]
theorem Sa {st:St} {p:Nat} {L:List Parse.bc} {x:AV} {i d:Nat} (h:PS st p L x i d):
  ∃st',(aQ vE).wide 64 [.mp p 0] st=some (.tup [.agg [.int .u8 ((Parse.nx (L.drop i)).1:Int),.str (Parse.nx (L.drop i)).2],.int .i64 ((i+wT (L.drop i):Nat):Int)],st')/\aZ st st' (fun _=>False):=by
 have g:aZ st (st.add (.cells 30 [.int .u8 0,.str []])) (fun _=>False):=aZ.add _ _ _;have h0:=h.keeps g (fun f=>f);have k:(st.add (.cells 30 [.int .u8 0,.str []])).get st.h= .ok (.cells 30 [.int .u8 0,.str []]):=St.dZ;have b:st.h≠p:=Nat.ne_of_gt h.lt;obtain ⟨st1,n,c,e,l,w,m,q⟩:=C1 (st0:=st) (L.drop i) i _ rfl h0 k b h.Ci;by_cases a:(L.drop i).dropWhile Parse.bC=[]
 .have:=m a;subst this;rw [if_pos a] at c e;subst e;obtain ⟨j,o,r,k2,y,s⟩:=Oo (O:=aQ vE) (.agg [.int .u8 0,.str []]) k (z:=2) (cs:=[.int .u8 0,.str []]) rfl rfl h.Ci;have t:((i+wT (L.drop i):Nat):Int)=((L.map tok).length:Int):=by
   have u:=h.le;rw [N0 a,aaz,aaA];omega
  refine ⟨j,iB ((O2 _ _).trans ?_),g.fresh k2 (aal _)⟩;rw [t,U9 a];have v:=rN (o:=o) b.symm;simp only [Y3,bP,dP,aG,bw,aax,bq h0.get,vA,aaw,aR,ai,af,c,ab,ae,gU,h0.sl.len,s,M3,v,aaI,bq r,yb,al,ah];rfl
 .rw [if_neg a] at c e;subst e;refine ⟨st1,iB ((O2 _ _).trans ?_),g.fresh l (aal _)⟩;simp only [Y3,bP,dP,aG,bw,aax,bq h0.get,vA,aaw,aR,ai,af,c,ab,ae,pE,bq (q a),yb,al,ah]
theorem pB {st:St} {p:Nat} {L:List Parse.bc} {x:AV} {i d:Nat} (h:PS st p L x i d):
  ∃st',aZ st st' (fun _=>False)/\ ∀{β:Type} (K:Kv β),bf (aQ vE) 64 [.mp p 0] st K=K (.tup [.agg [.int .u8 ((Parse.nx (L.drop i)).1:Int),.str (Parse.nx (L.drop i)).2],.int .i64 ((i+wT (L.drop i):Nat):Int)]) st' ⟨[],.all st st'⟩:=by
 obtain ⟨st',e,k⟩:=Sa h;exact ⟨st',k,fun K=>fX (E:=vE) K rfl rfl e⟩
def LF (s:LB):List LB->Nat->Oq Nat
 | [],_=>none
 | t::l,j=>if s=t then some j else LF s l (j+1)
theorem Gt (s:LB): ∀(l:List LB) (j:Nat),(LF s l j).isSome=l.any fun t=>t==s
 | [],_=>rfl
 | t::l,j=>by
  simp only [LF,aby];by_cases h:s=t
  .rw [if_pos h,h];simp
  .rw [if_neg h,Gt s l (j+1),aaB.2 (fun e=>h e.symm),abo]
theorem KI {x:AV} {a:List LB} (h:aO 1 x (a.map AV.str)) {j:Nat} {s:LB} (b:a[j]? =some s) {β:Type} (st:St) (K:AV->Ln->Oq β):bL 1 x (j:Int) st K=K (.ip [.str s]) []:=
 h.idx (v:= .str s) (by rw [aaW,b];rfl) st K
theorem z8 {x:AV} {a:List LB} (hx:aO 1 x (a.map AV.str)) (s:LB) (st:St): ∀(l:List LB) (j:Nat),a.drop j=l->
  bl (sY x s a.length) ([.int .i64 0,.int .i64 (j:Int)],st)=(match LF s l j with | some k=>some (1,[.int .i64 (k:Int)],st) | none=>some (0,[.int .i64 0],st))
 | [],j,b=>by
  have:=abi.1 b;have q:¬ (j:Int) < (a.length:Int):=by omega
  refine bE ?_;simp only [sY,ab,af,ae,ak,if_neg q]
 | t::l,j,b=>by
  obtain ⟨d,e,f⟩:=drop_cons b;have q:(j:Int) < (a.length:Int):=by omega
  have hlen:=hx.1;rw [aaA] at hlen;simp only [LF];by_cases h:s=t
  .rw [if_pos h];refine bE ?_;have c:(s==t)=true:=by simp [h]
   simp only [sY,ab,af,ae,ak,if_pos q,KI hx d,bj,aR,ai,ah,c,ay]
  .rw [if_neg h,bA (s':=([.int .i64 0,.int .i64 ((j+1:Nat):Int)],st)),z8 hx s st l (j+1) e];have c:(s==t)=false:=aaB.2 h;simp only [sY,ab,af,ae,ak,if_pos q,KI hx d,bj,aR,ai,ah,c,aq,aF,ck (show j+1<=9223372036854775807 by omega)]
theorem HL {x:AV} {a:List LB} (hx:aO 1 x (a.map AV.str)) (s:LB):(aQ vE).bare 104 [x,.str s]=some (.bool (a.any fun t=>t==s)):=by
 have hi: ∃n:Int,(aQ vE).bare 142 [x,.str s]=some (.int .i64 n)/\decide (n>=0)=a.any fun t=>t==s:=by
  have e:=z8 hx s (St.mk 0 0 Tr.leaf) a 0 rfl;have e:bl (sY x s a.length) ([.int .i64 0,.int .i64 0],St.mk 0 0 Tr.leaf)= _:=e;have hl:=fun {β:Type} (K:Nat->Oq β)=>hx.len K;simp only [aaA] at hl;rw [<- Gt s a 0];cases b:LF s a 0 with
  | some k=>
   rw [b] at e;refine ⟨(k:Int),aU rfl ((Km _ _).trans ?_),by simp⟩;simp only [T9,ah,hl,e,ai,ab,af,ae,pE]
  | none=>
   rw [b] at e;refine ⟨-1,aU rfl ((Km _ _).trans ?_),by simp⟩;simp only [T9,ah,hl,e,ai,ab,af,ae,gU]
 obtain ⟨n,h1,d⟩:=hi;refine aU rfl ((Qo _ _).trans ?_);have c:=fun {β:Type} (st:St) (K:Kv β)=>aI (f:=142) st K rfl (by simp only [aan,aaH,hx.strip];rfl) (by simp only [aJ,hx.bare];rfl) h1;simp only [Yw,ah,c,af,d]
theorem pn {x:AV} {a:List LB} (hx:aO 1 x (a.map AV.str)) (s:LB) {β:Type} (st:St) (K:Kv β):bf (aQ vE) 104 [x,.str s] st K=K (.bool (a.any fun t=>t==s)) st q0:=
 aI (f:=104) st K rfl (by simp only [aan,aaH,hx.strip];rfl) (by simp only [aJ,hx.bare];rfl) (HL hx s)
theorem YP (st:St) (k:Nat) (t:LB) (h:st.ro<=st.h): ∃st',st'.get st.h= .ok (.cells 30 [.int .u8 (k:Int),.str t])/\aZ st st' (fun _=>False)/\ ∃a,∀{β:Type} (K:Kv β),aK (aQ vE) 2 (AV.mp st.h 0) (.agg [.int .u8 (k:Int),.str t]) [.int .u8 (k:Int),.str t] (st.add (.cells 30 [.int .u8 0,.str []])) K=K VM.undef st' a:=by
 obtain ⟨st',g,k1,_,a,e⟩:=tR (O:=aQ vE) (st:=st) (t:=30) (z:=2) (old:=[.int .u8 0,.str []]) (cs:=[.int .u8 (k:Int),.str t]) (.agg [.int .u8 (k:Int),.str t]) rfl rfl h;exact ⟨st',g,k1,a,e⟩
theorem Xl {st:St} {p:Nat} {L:List Parse.bc} {x:AV} {i d:Nat} (h:PS st p L x i d) {y:AV} {b:List LB} (hy:aO 1 y (b.map AV.str)):
  ∃st',(aQ vE).wide 65 [.mp p 0,y] st=some (.bool (Parse.isAny b (L.drop i)),st')/\aZ st st' (fun _=>False):=by
 obtain ⟨st1,k1,f⟩:=pB h;obtain ⟨k,g,k2,n,j⟩:=YP st1 (Parse.nx (L.drop i)).1 (Parse.nx (L.drop i)).2 (PS.kG k1 h.Ci);refine ⟨k,iB ((Uy _ _ _).trans ?_),k1.trans k2⟩;unfold Parse.isAny;generalize Parse.nx (L.drop i)=t at f g j;by_cases l:t.1=3
 .have a:(t.1:Int)=3:=by omega
  have e:((t.1==3||t.1==8)&&b.any fun s=>s==t.2)=b.any fun s=>s==t.2:=by simp [l]
  rw [e];simp only [YO,f,br,aP,ba,al,ab,af,ah,ae,bP,j,bq g,aaw,vA,aR,ai,bZ,if_pos a,pn hy,au]
 by_cases m:t.1=8
 .have a:¬ (t.1:Int)=3:=by omega
  have c:(t.1:Int)=8:=by omega
  have e:((t.1==3||t.1==8)&&b.any fun s=>s==t.2)=b.any fun s=>s==t.2:=by simp [m]
  rw [e];simp only [YO,f,br,aP,ba,al,ab,af,ah,ae,bP,j,bq g,aaw,vA,aR,ai,bZ,if_neg a,if_pos c,pn hy,au]
 .have a:¬ (t.1:Int)=3:=by omega
  have c:¬ (t.1:Int)=8:=by omega
  have e:((t.1==3||t.1==8)&&b.any fun s=>s==t.2)=false:=by simp [l,m]
  rw [e];simp only [YO,f,br,aP,ba,al,ab,af,ah,ae,bP,j,bq g,aaw,vA,aR,ai,bZ,if_neg a,if_neg c,au]
theorem DS {st:St} {p:Nat} {L:List Parse.bc} {x:AV} {i d:Nat} (h:PS st p L x i d) {y:AV} {a:List LB} (hy:aO 1 y (a.map AV.str)):
  ∃st',aZ st st' (fun _=>False)/\ ∀{β:Type} (K:Kv β),bf (aQ vE) 65 [.mp p 0,y] st K=K (.bool (Parse.isAny a (L.drop i))) st' ⟨[],.all st st'⟩:=by
 obtain ⟨st',e,k⟩:=Xl h hy;exact ⟨st',k,fun K=>fX (E:=vE) K rfl rfl e⟩
theorem DB (s:LB) (r:List Parse.bc):Parse.isAny [s] r=Parse.eH s r:=by
 unfold Parse.isAny Parse.eH;congr 1;simp only [aby,List.any_nil,ab7];rw [Bool.eq_iff_iff,aaX,aaX];exact eq_comm
theorem pF (l:List LB) (h:l.length<=1000):aO 1 (.sl 1 (l.map AV.str) .shut) (l.map AV.str):=aO.shut (by rw [aaA];omega)
end Go.Proofs.YtkbkbndajpbcjaaGreatDoor.Vm
namespace Go.Proofs.YtkbkbndajpbcjaaGreatDoor.Vm
open Go Go.VM Go.Proofs Go.Lex Go.Parse
mutual
def ky:T->AV->Prop
 | .mk k tk tx l,v=> ∃x es,v= .agg [.int .u8 (k:Int),.int .u8 (tk:Int),.str tx,x]/\aO 4 x es/\bI l es
def bI:List T->LA->Prop
 | [],es=>es=[]
 | t::l,es=> ∃e r,es=e::r/\ky t e/\bI l r
end
theorem bI.nil:bI [] []:=by simp only [bI]
theorem bI.cons {t:T} {l:List T} {e:AV} {r:LA} (h:ky t e) (hs:bI l r):bI (t::l) (e::r):=by
 simp only [bI];exact ⟨e,r,rfl,h,hs⟩
theorem bI.app: ∀{l m:List T} {es fs:LA},bI l es->bI m fs->bI (l++m) (es++fs)
 | [],_,_,_,h,k=>by simp only [bI] at h;subst h;exact k
 | t::l,_,_,_,h,k=>by
  simp only [bI] at h;obtain ⟨e,r,rfl,h1,a⟩:=h;exact bI.cons h1 (bI.app a k)
theorem bI.len: ∀{l:List T} {es:LA},bI l es->es.length=l.length
 | [],_,h=>by simp only [bI] at h;subst h;rfl
 | t::l,_,h=>by
  simp only [bI] at h;obtain ⟨e,r,rfl,h1,a⟩:=h;simp [bI.len a]
def Ft (x:AV) (es:LA):Prop:=aO 4 x es\/(es.length<=9223372036854775807/\ ∃k,x= .sl 4 es (.own k))
theorem Ft.one {x:AV} {es:LA} (h:Ft x es):VM.one x=true:=by
 rcases h with h | ⟨_,k,rfl⟩
 .exact h.one
 .rfl
theorem Ft.ad {β:Type} {x:AV} {es:LA} (h:Ft x es) (K:Oq β):ad x K=K:=jH h.one K
theorem Ft.fit {x:AV} {es:LA} (h:Ft x es): ∃x',aO 4 x' es/\ ∀{β:Type} (K:AV->Oq β),aD x K=K x':=by
 rcases h with h | ⟨hl,k,rfl⟩
 .exact ⟨x,h,fun K=>h.aD K⟩
 .exact ⟨.sl 4 es .wide,aO.wide hl,fun K=>rfl⟩
theorem Ft.own {st:St} {e:Td} {x:AV} {es:LA} (h:iX st 4 e x es):Ft x es:=by
 rcases h.2.2 with ⟨rfl | rfl,rfl⟩ | rfl | ⟨k,rfl,_,_⟩
 .exact .inl aO.ax
 .exact .inl aO.emp
 .exact .inl (aO.shut h.2.1)
 .exact .inr ⟨h.2.1,k,rfl⟩
theorem Ft.elems {β:Type} {x:AV} {es:LA} (h:Ft x es) (K:LA->Oq β):oY x K=K es:=by
 rcases h with h | ⟨_,k,rfl⟩
 .exact h.elems K
 .rfl
structure VN (t:T) (v:AV):Prop where
 ex: ∃k tk tx l x es,t= .mk k tk tx l/\v= .agg [.int .u8 (k:Int),.int .u8 (tk:Int),.str tx,x]/\Ft x es/\bI l es
structure Nd (t:T) (k tk:Nat) (tx:LB) (x:AV):Prop where
 ex: ∃l es,t= .mk k tk tx l/\Ft x es/\bI l es
theorem Nd.one {t:T} {k tk:Nat} {tx:LB} {x:AV} (h:Nd t k tk tx x):VM.one x=true:=by
 obtain ⟨l,es,_,a,_⟩:=h.ex;exact a.one
theorem Nd.ad {t:T} {k tk:Nat} {tx:LB} {x:AV} (h:Nd t k tk tx x) {β:Type} (K:Oq β):ad x K=K:=jH h.one K
theorem Nd.fit {t:T} {k tk:Nat} {tx:LB} {x:AV} (h:Nd t k tk tx x): ∃x',ky t (.agg [.int .u8 (k:Int),.int .u8 (tk:Int),.str tx,x'])/\ ∀{β:Type} (K:AV->Oq β),aD x K=K x':=by
 obtain ⟨l,es,rfl,a,hn⟩:=h.ex;obtain ⟨x',hx,hf⟩:=a.fit;exact ⟨x',by simp only [ky];exact ⟨x',es,rfl,hx,hn⟩,hf⟩
theorem VN.cells {t:T} {v:AV} (h:VN t v): ∃(k tk:Nat) (tx:LB) (x:AV),v= .agg [.int .u8 (k:Int),.int .u8 (tk:Int),.str tx,x]/\Nd t k tk tx x:=by
 obtain ⟨k,tk,tx,l,x,es,rfl,rfl,a,hn⟩:=h.ex;exact ⟨k,tk,tx,x,rfl,⟨⟨l,es,rfl,a,hn⟩⟩⟩
theorem Nd.vn {t:T} {k tk:Nat} {tx:LB} {x:AV} (h:Nd t k tk tx x):VN t (.agg [.int .u8 (k:Int),.int .u8 (tk:Int),.str tx,x]):=by
 obtain ⟨l,es,rfl,a,hn⟩:=h.ex;exact ⟨⟨k,tk,tx,l,x,es,rfl,rfl,a,hn⟩⟩
mutual
theorem ky.rf: ∀{t:T} {v:AV},ky t v->Rf (2 * iD t) v
 | .mk k tk tx l,v,h=>by
  simp only [ky] at h;obtain ⟨x,es,rfl,hx,hn⟩:=h;have he:=bI.rf hn;have hxr:Rf (2 * gm l+1) x:=by
   rcases hx.2 with ⟨rfl | rfl,rfl⟩ | rfl | rfl
   .exact EX.mono (by omega)
   .exact Nt.mono (by omega)
   .exact yR he
   .exact yR he
  simp only [iD];refine (VX (d:=2 * gm l+1) fun c hc=> ?_).mono (by omega);simp only [aao,aaF,or_false] at hc;rcases hc with rfl | rfl | rfl | rfl
  .exact (x7 _ _).mono (by omega)
  .exact (x7 _ _).mono (by omega)
  .exact (IG _).mono (by omega)
  .exact hxr
theorem bI.rf: ∀{l:List T} {es:LA},bI l es-> ∀e∈es,Rf (2 * gm l) e
 | [],_,h,e,he=>by simp only [bI] at h;subst h;cases he
 | t::l,_,h,e,he=>by
  simp only [bI] at h;obtain ⟨a,r,rfl,h1,h2⟩:=h;simp only [gm];rcases aao.1 he with rfl | he
  .exact (ky.rf h1).mono (by omega)
  .exact (bI.rf h2 e he).mono (by omega)
end
theorem Nd.rf {t:T} {k tk:Nat} {tx:LB} {x:AV} (h:Nd t k tk tx x): ∀c∈[AV.int .u8 (k:Int),.int .u8 (tk:Int),.str tx,x],Rf (2 * iD t) c:=by
 obtain ⟨l,es,rfl,d,hn⟩:=h.ex;have he:=bI.rf hn;have a:Rf (2 * gm l+1) x:=by
  rcases d with hx | ⟨_,k,rfl⟩
  .rcases hx.2 with ⟨rfl | rfl,rfl⟩ | rfl | rfl
   .exact EX.mono (by omega)
   .exact Nt.mono (by omega)
   .exact yR he
   .exact yR he
  .exact yR he
 intro c b;simp only [iD];simp only [aao,aaF,or_false] at b;rcases b with rfl | rfl | rfl | rfl
 .exact (x7 _ _).mono (by omega)
 .exact (x7 _ _).mono (by omega)
 .exact (IG _).mono (by omega)
 .exact a.mono (by omega)
theorem lvN (st:St) (k tk:Int) (tx:LB) (x:AV) (h:st.ro<=st.h): ∃st',st'.get st.h= .ok (.cells 46 [.int .u8 k,.int .u8 tk,.str tx,x])/\aZ st st' (fun _=>False)/\st'.h=st.h+1/\ ∃a,∀{β:Type} (K:Kv β),aK (aQ vE) 4 (AV.mp st.h 0) (.agg [.int .u8 k,.int .u8 tk,.str tx,x]) [.int .u8 k,.int .u8 tk,.str tx,x] (st.add (.cells 46 [.int .u8 0,.int .u8 0,.str [],.ax])) K=K VM.undef st' a:=by
 obtain ⟨st',g,k1,n,a,e⟩:=tR (O:=aQ vE) (st:=st) (t:=46) (z:=4) (old:=[.int .u8 0,.int .u8 0,.str [],.ax]) (cs:=[.int .u8 k,.int .u8 tk,.str tx,x]) (.agg [.int .u8 k,.int .u8 tk,.str tx,x]) rfl rfl h;exact ⟨st',g,k1,n,a,e⟩
theorem YE {st:St} {id:Nat} {old:LA} (c:st.get id= .ok (.cells 46 old)) (ho:old.length=4) (k tk:Int) (tx:LB) (x:AV) (a:st.ro<=id): ∃st',st'.get id= .ok (.cells 46 [.int .u8 k,.int .u8 tk,.str tx,x])/\aZ st st' (· =id)/\st'.h=st.h/\ ∃b,∀{β:Type} (K:Kv β),aK (aQ vE) 4 (AV.mp id 0) (.agg [.int .u8 k,.int .u8 tk,.str tx,x]) [.int .u8 k,.int .u8 tk,.str tx,x] st K=K VM.undef st' b:=by
 obtain ⟨st',g,k1,n,b,e⟩:=Kr (O:=aQ vE) (.agg [.int .u8 k,.int .u8 tk,.str tx,x]) c ho (cs:=[.int .u8 k,.int .u8 tk,.str tx,x]) rfl a;exact ⟨st',g,k1,n,b,e⟩
theorem aZ.join {a b c:St} {p q:Nat->Prop} (h:aZ a b p) (k:aZ b c q) (g: ∀j,q j->p j\/a.h<=j):aZ a c p:=
 ⟨k.ro.trans h.ro,aaR h.h k.h,fun j o d f=>k.old j o (fun e=>by
  rcases g j e with h1 | h1
  .exact d h1
  .have:=(St.ca.1 f).1;omega) (h.old j o d f)⟩
def C2 (t:bc):AV:= .agg [.int .u8 ((1:Nat):Int),.int .u8 (t.1:Int),.str t.2,.ax]
theorem HF: ∀(l:List bc),bI (l.map aY) (l.map C2)
 | []=>bI.nil
 | t::l=>bI.cons (by
  show ky (.mk 1 t.1 t.2 []) (C2 t);simp only [ky];exact ⟨.ax,[],rfl,aO.ax,bI.nil⟩) (HF l)
theorem Qn (r:List bc):r.drop (wT r)=r.dropWhile bC:=by
 have h:(r.takeWhile bC++r.dropWhile bC).drop (r.takeWhile bC).length=r.dropWhile bC:=List.drop_left;rw [abC] at h;exact h
theorem WY (r:List bc):wT r<=r.length:=(List.takeWhile_sublist bC).length_le
theorem RG (r:List bc):r.take (wT r)=r.takeWhile bC:=by
 have h:(r.takeWhile bC++r.dropWhile bC).take (r.takeWhile bC).length=r.takeWhile bC:=abL;rw [abC] at h;exact h
def oP (L:List bc) (i:Nat):Nat:=min (i+wT (L.drop i)+1) L.length
theorem Ai (L:List bc) (i:Nat):aS (L.drop i)=L.drop (oP L i):=by
 unfold aS oP;rw [<- Qn,abw,abw];rcases Nat.lt_or_ge (i+wT (L.drop i)+1) L.length with q | q
 .rw [abG (ab3 q)];congr 1
 .rw [ab2 q,List.drop_of_length_le (by omega),List.drop_of_length_le (aal _)]
theorem Dv {x:AV} {Z:List bc} (hx:aO 2 x (Z.map tok)) (J:Z.length<=1000000) {st19:St} {k tk:Int} {tx:LB} {h0:Nat} (B:h0<=st19.h): ∀(l:List bc) (j:Nat) (st:St) (v:AV) (es:LA),Z.drop j=l->st.get st19.h= .ok (.cells 46 [.int .u8 k,.int .u8 tk,.str tx,v])->iX st 4 46 v es->(∀j,eW v j->h0<=j)->es.length+l.length<=2000000->st.ro<=st19.h->h0<=st.h->
  ∃v' st',bl (AO st19 x Z.length) ([.int .i64 (j:Int)],st)=some (0,[],st')/\st'.get st19.h= .ok (.cells 46 [.int .u8 k,.int .u8 tk,.str tx,v'])/\iX st' 4 46 v' (es++l.map C2)/\(∀j,eW v' j->h0<=j)/\aZ st st' (fun j=>h0<=j)
 | [],j,st,v,es,C,p,ho,c,hl,e,L=>by
  have:=abi.1 C;have q:¬ (j:Int) < (Z.length:Int):=by omega
  refine ⟨v,st,bE ?_,p,by simpa using ho,c,aZ.refl _ _⟩;simp only [AO,ab,af,ae,ak,if_neg q]
 | t::l,j,st,v,es,C,p,ho,c,hl,e,L=>by
  obtain ⟨D,M,N⟩:=drop_cons C;have q:(j:Int) < (Z.length:Int):=by omega
  have r:st.ro<=st.h:=aaR e (ab3 (St.ca.1 p).1);obtain ⟨P,Q,k1,R,S⟩:=YP st t.1 t.2 r;have s:=k1.old _ _ (fun f=>f) p;have E:=sA ho k1 (fun _ _ f=>f);simp only [aae] at hl;obtain ⟨a,g,T,F,H,k2,U⟩:=sX (b:=56) (new:=[C2 t]) E (by simp) (vN (by simp only [abd];omega) (by omega) (by omega));have i:¬ eW v st19.h:=ho.not p;have m:=k2.old _ _ i s;have d:g.ro<=st19.h:=by rw [k2.ro,k1.ro];exact e
  have n:=fun {β:Type} (K:Kv β)=>dp (O:=aQ vE) (v:=a) (cs:=[a]) (off:=3) (z:=1) m rfl (by simp) d K;have G:cO [.int .u8 k,.int .u8 tk,.str tx,v] 3 [a]=[.int .u8 k,.int .u8 tk,.str tx,a]:=rfl;rw [G] at n;have u:(g.put st19.h (.cells 46 [.int .u8 k,.int .u8 tk,.str tx,a])).get st19.h= .ok (.cells 46 [.int .u8 k,.int .u8 tk,.str tx,a]):=St.aN (St.ca.1 m).1;have w:iX (g.put st19.h (.cells 46 [.int .u8 k,.int .u8 tk,.str tx,a])) 4 46 a (es++[C2 t]):=H.put m;have A:aZ g (g.put st19.h (.cells 46 [.int .u8 k,.int .u8 tk,.str tx,a])) (· =st19.h):=aZ.put rfl;generalize g.put st19.h (.cells 46 [.int .u8 k,.int .u8 tk,.str tx,a])=I at n u w A;have y: ∀j,eW a j->h0<=j:=fun j o=>by
   rcases U j o with h | h
   .exact c j h
   .have:=k1.h;omega
  obtain ⟨v',st',V,g',o',W,X⟩:=Dv hx J B l (j+1) I a (es++[C2 t]) M u w y (by rw [aad];simp;omega) (by rw [A.ro];exact d) (by have:=k1.h;have:=k2.h;have:=A.h;omega);refine ⟨v',st', ?_,g',by rw [aar] at o';exact o',W, ?_⟩
  .rw [bA (s':=([.int .i64 ((j+1:Nat):Int)],I)),V];have F: ∀{β:Type} (K:Kv β),eI 4 56 46 v [.agg [.int .u8 1,.int .u8 (t.1:Int),.str t.2,.ax]] P K=K a g T:=fun K=>oU F K;have Y: ∀{β:Type} (K:Oq β),ad a K=K:=fun K=>jH H.one K;simp only [AO,ab,af,ae,ak,if_pos q,B6 hx D,bj,yb,ai,al,ah,bP,S,bq s,Xo,aR,bq Q,aaw,F,Y,n,aF,ck (show j+1<=9223372036854775807 by omega)]
  .refine ((k1.LU (q:=fun j=>h0<=j) (fun _ f=>f.elim)).trans (k2.LU fun j o=>c j o)).trans ((A.LU fun j o=> ?_).trans X);have o:j=st19.h:=o;omega
theorem JL {st:St} {p:Nat} {L:List bc} {x:AV} {i d:Nat} (h:PS st p L x i d):
  ∃v st',(aQ vE).wide 66 [.mp p 0] st=some (v,st')/\VN (aV (L.drop i)) v/\PS st' p L x (oP L i) d/\aZ st st' (· =p):=by
 have W:=h.le;have hlen:=h.len;have X:=WY (L.drop i);rw [aaz] at X;have s:aZ st (st.add (.cells 46 [.int .u8 0,.int .u8 0,.str [],.ax])) (fun _=>False):=aZ.add _ _ _;have N:(st.add (.cells 46 [.int .u8 0,.int .u8 0,.str [],.ax])).get st.h= .ok (.cells 46 [.int .u8 0,.int .u8 0,.str [],.ax]):=St.dZ;have w:=h.Ci;have Y:=h.lt;have h1:=h.keeps s (fun f=>f);have Z:(st.add (.cells 46 [.int .u8 0,.int .u8 0,.str [],.ax])).h=st.h+1:=rfl;generalize y:st.add (.cells 46 [.int .u8 0,.int .u8 0,.str [],.ax])=A at s N h1 Z;obtain ⟨s1,k1,P⟩:=pB h1;generalize hT:nx (L.drop i)=c at P;obtain ⟨l,g2,k2,ar,e2⟩:=YP s1 c.1 c.2 (PS.kG k1 h1.Ci);obtain ⟨Q,g3,t,n3,av,e3⟩:=lvN l 1 (c.1:Int) c.2 .ax (PS.kG k2 (PS.kG k1 h1.Ci));have kk:=(s.trans k1).trans (k2.trans t);have h3:=h.keeps kk (fun f=>f);obtain ⟨z,B,ez⟩:=h.sl.cut (lo:=some (i:Int)) (hi:=some ((i+wT (L.drop i):Nat):Int)) (iu (by omega)) (iu (by rw [aaA];omega));have C:((L.map tok).take (i+wT (L.drop i))).drop i=((L.drop i).take (wT (L.drop i))).map tok:=by
  rw [<- List.map_take, <- List.map_drop,List.drop_take];congr 2;omega
 rw [C] at B;have D:((L.drop i).take (wT (L.drop i))).length<=1000000:=by rw [aau,aaz];omega
 have E:A.h<=l.h:=by have:=k1.h;have:=k2.h;omega
 obtain ⟨R,m,F,g4,S,f4,T⟩:=Dv B D (st19:=l) (h0:=A.h) E ((L.drop i).take (wT (L.drop i))) 0 Q .ax [] rfl g3 (iX.ax (PS.kG t (PS.kG k2 (PS.kG k1 h1.Ci))) _ _) (fun j g=>by obtain ⟨_,_,e⟩:=g;cases e) (by simp only [aai];omega) (by rw [kk.ro];omega) (by have:=t.h;omega);rw [aaq,RG] at S;have F:bl (AO l z ((L.drop i).take (wT (L.drop i))).length) ([.int .i64 0],Q)= _:=F;have G: ∀{β:Type} (K:Nat->Oq β),dm z K=K ((L.drop i).take (wT (L.drop i))).length:=fun K=>by rw [B.len,aaA]
 have b:aZ st m (fun _=>False):=aZ.join kk T fun j g=> .inr (by have:=s.h;have g:A.h<=j:=g;omega);have u:=h.keeps b (fun f=>f);have n:(if ((L.map tok).length:Int) < ((i+wT (L.drop i)+1:Nat):Int) then ((L.map tok).length:Int) else ((i+wT (L.drop i)+1:Nat):Int))=((oP L i:Nat):Int):=by
  unfold oP;rw [aaA];split <;> omega
 have a:=fun {β:Type} (K:Kv β)=>dp (O:=aQ vE) (v:= .int .i64 ((oP L i:Nat):Int)) (cs:=[.int .i64 ((oP L i:Nat):Int)]) (off:=1) (z:=1) u.get rfl (by simp) u.ro K;have H:cO [x,.int .i64 (i:Int),.int .i64 (d:Int)] 1 [.int .i64 ((oP L i:Nat):Int)]=[x,.int .i64 ((oP L i:Nat):Int),.int .i64 (d:Int)]:=rfl;rw [H] at a;have o:(m.put p (.cells 92 [x,.int .i64 ((oP L i:Nat):Int),.int .i64 (d:Int)])).get p= .ok (.cells 92 [x,.int .i64 ((oP L i:Nat):Int),.int .i64 (d:Int)]):=St.aN (St.ca.1 u.get).1;have k:aZ m (m.put p (.cells 92 [x,.int .i64 ((oP L i:Nat):Int),.int .i64 (d:Int)])) (· =p):=aZ.put rfl;generalize m.put p (.cells 92 [x,.int .i64 ((oP L i:Nat):Int),.int .i64 (d:Int)])=U at a o k;have I:PS U p L x (oP L i) d:=⟨o,h.sl,Nat.min_le_right _ _,hlen,by rw [k.ro,b.ro];exact h.ro⟩;have q:l.h≠p:=by omega
 have g5:=k.Dw q g4;have r:st.h≠p:=by omega
 have J:=k.Dw r (T.old _ _ (by omega) ((k1.trans (k2.trans t)).old _ _ (fun f=>f) N));obtain ⟨V,M,k6,n6,aw,e6⟩:=YE J rfl 1 (c.1:Int) c.2 R (by rw [k.ro,b.ro];exact w);have nd:Nd (aV (L.drop i)) 1 c.1 c.2 R:=by
  refine ⟨⟨_,_, ?_,Ft.own S,HF _⟩⟩;unfold aV leaf;rw [hT]
 have kf:aZ st V (· =p):=by
  have ka:aZ st U (· =p):=(b.LU fun _ f=>f.elim).trans k;exact aZ.join ka k6 fun j g=> .inr (by have g:j=st.h:=g;omega)
 refine ⟨_,V,iB ((VW _ _).trans ?_),nd.vn,I.keeps k6 (fun e=>r e.symm),kf⟩;have w1:=ck (show i+wT (L.drop i)+1<=9223372036854775807 by omega);simp only [Z1,bP,y,P,br,aP,ba,al,ab,af,ah,ae,e2,bq g2,aaw,yb,ai,e3,dP,aG,bw,aax,bq h3.get,vA,aR,ez,G,F,aF,w1,bq u.get,h.sl.len,n,a,bq g5,EF,nd.ad,e6,bq M];rfl
def NC (F:FuncId) (args:LA) (st:St) (p:Nat) (L:List bc) (x:AV) (d:Nat) (t:T) (r':List bc):Prop:=
 ∃v st' a,(aQ vE).wide F args st=some (v,st')/\VN t v/\PS st' p L x a d/\L.drop a=r'/\aZ st st' (· =p)
theorem NC.call {F:FuncId} {args:LA} {st:St} {p:Nat} {L:List bc} {x:AV} {d:Nat} {t:T} {r':List bc} (h:NC F args st p L x d t r') (h1:vE.isLook F=false) (b:(bH (args.map strip)&& !vE.full F)=false):
  ∃(k tk:Nat) (tx:LB) (y:AV) (st':St) (a:Nat),Nd t k tk tx y/\PS st' p L x a d/\L.drop a=r'/\aZ st st' (· =p)/\ ∀{β:Type} (K:Kv β),bf (aQ vE) F args st K=K (.agg [.int .u8 (k:Int),.int .u8 (tk:Int),.str tx,y]) st' ⟨[],.all st st'⟩:=by
 obtain ⟨v,st',a,e,c,hp,f,g⟩:=h;obtain ⟨k,tk,tx,y,rfl,hn⟩:=c.cells;exact ⟨k,tk,tx,y,st',a,hn,hp,f,g,fun K=>fX (E:=vE) K h1 b e⟩
theorem Sq {st:St} {p:Nat} {L:List bc} {x:AV} {i d:Nat} (h:PS st p L x i d):NC 66 [.mp p 0] st p L x d (aV (L.drop i)) (aS (L.drop i)):=by
 obtain ⟨v,st',e,a,hp,b⟩:=JL h;exact ⟨v,st',_,e,a,hp,(Ai L i).symm,b⟩
theorem K7 {st:St} {p:Nat} {L:List bc} {x:AV} {i d:Nat} (h:PS st p L x i d):
  ∃(k tk:Nat) (tx:LB) (y:AV) (st':St) (a:Nat),Nd (aV (L.drop i)) k tk tx y/\PS st' p L x a d/\L.drop a=aS (L.drop i)/\aZ st st' (· =p)/\ ∀{β:Type} (K:Kv β),bf (aQ vE) 66 [.mp p 0] st K=K (.agg [.int .u8 (k:Int),.int .u8 (tk:Int),.str tx,y]) st' ⟨[],.all st st'⟩:=
 (Sq h).call rfl rfl
theorem rm (s:LB) {β:Type} (st:St) (K:Kv β):bf (aQ vE) 144 [.str s] st K=K (.agg [.int .u8 2,.int .u8 0,.str s,.ax]) st q0:=
 aI st K rfl rfl rfl (aU rfl ((Qm _).trans (by simp only [XT,ah])))
theorem vd (s:LB):Nd (missing s) 2 0 s .ax:=⟨⟨[],[],rfl,.inl aO.ax,bI.nil⟩⟩
theorem Rm {st:St} {p:Nat} {L:List bc} {x:AV} {i d:Nat} (h:PS st p L x i d): ∃a,st.add (.cells 46 [.int .u8 0,.int .u8 0,.str [],.ax])=a/\a.get st.h= .ok (.cells 46 [.int .u8 0,.int .u8 0,.str [],.ax])/\PS a p L x i d/\aZ st a (fun _=>False)/\st.h≠p/\st.ro<=st.h/\a.h=st.h+1:=
 ⟨_,rfl,St.dZ,h.keeps (aZ.add _ _ (fun _=>False)) (fun f=>f),aZ.add _ _ _,Nat.ne_of_gt h.lt,h.Ci,rfl⟩
theorem K5 {st s:St} {p:Nat} {L:List bc} {x:AV} {i d:Nat} {old:LA} (l:s.get st.h= .ok (.cells 46 old)) (ho:old.length=4) (hp:PS s p L x i d) (a:st.h≠p) (f:aZ st s (· =p)) (b:st.ro<=st.h) (k tk:Int) (tx:LB) (y:AV):
  ∃s',s'.get st.h= .ok (.cells 46 [.int .u8 k,.int .u8 tk,.str tx,y])/\PS s' p L x i d/\aZ st s' (· =p)/\ ∃c,∀{β:Type} (K:Kv β),aK (aQ vE) 4 (AV.mp st.h 0) (.agg [.int .u8 k,.int .u8 tk,.str tx,y]) [.int .u8 k,.int .u8 tk,.str tx,y] s K=K VM.undef s' c:=by
 obtain ⟨s',g,k1,_,c,e⟩:=YE l ho k tk tx y (by rw [f.ro];exact b);exact ⟨s',g,hp.keeps k1 (fun e=>a e.symm),aZ.join f k1 fun j m=> .inr (Nat.le_of_eq m.symm),c,e⟩
theorem RJ {st:St} {p:Nat} {L:List bc} {x:AV} {i d:Nat} (h:PS st p L x i d) (s:LB):NC 107 [.mp p 0,.str s] st p L x d (dy s (L.drop i)) (bp s (L.drop i)):=by
 obtain ⟨o,c,v,h0,q,a,e,D⟩:=Rm h;obtain ⟨r,k1,b⟩:=DS h0 (pF [s] (by simp));rw [DB] at b;have b: ∀{β:Type} (K:Kv β),bf (aQ vE) 65 [.mp p 0,.sl 1 [.str s] .shut] o K=K (.bool (eH s (L.drop i))) r ⟨[],.all o r⟩:=fun K=>b K;have h1:=h0.keeps k1 (fun f=>f);have t:=k1.old _ _ (fun f=>f) v;unfold dy bp;cases u:eH s (L.drop i) with
 | true=>
  rw [u] at b;obtain ⟨k,tk,tx,y,E,w,hn,z,g,k2,A⟩:=K7 h1;have B:=k2.Dw a t;obtain ⟨j,g3,l,m,C,n⟩:=K5 B rfl z a (((q.trans k1).LU fun _ f=>f.elim).trans k2) e (k:Int) (tk:Int) tx y;refine ⟨_,j,w,iB ((JO _ _ _).trans ?_),hn.vn,l,g,m⟩;simp only [Uq,ah,bP,c,b,au,ay,A,al,ab,af,ae,hn.ad,n,bq g3,aaw,EF,ai]
 | false=>
  rw [u] at b;obtain ⟨j,g3,l,m,C,n⟩:=K5 t rfl h1 a ((q.trans k1).LU fun _ f=>f.elim) e 2 0 s .ax;refine ⟨_,j,i,iB ((JO _ _ _).trans ?_),(vd s).vn,l,rfl,m⟩;simp only [Uq,ah,bP,c,b,au,aq,rm,al,ab,af,ae,H2,n,bq g3,aaw,EF,ai];rfl
def ud (pat:Bool):Nat:=if pat then 5 else 6
def uy (pat:Bool):LB:=if pat then Ht else py
theorem cY (a b:Nat):((a:Int)==(b:Int))=(a==b):=by
 by_cases h:a=b
 .rw [h];simp
 .rw [aaB.2 h,aaB.2 (show ¬ (a:Int)=(b:Int) by omega)]
theorem LR {st:St} {p:Nat} {L:List bc} {x:AV} {i d:Nat} (h:PS st p L x i d) (pat:Bool):
  ∃st',(aQ vE).wide 105 [.mp p 0,.int .u8 (ud pat:Int),.str (uy pat)] st=some (.bool (dM pat (L.drop i)),st')/\aZ st st' (fun _=>False):=by
 obtain ⟨y,k1,j⟩:=pB h;have z:nx (L.drop i)=nx (L.drop i):=rfl;generalize hT:nx (L.drop i)=t at j z;obtain ⟨k,o,k2,A,q⟩:=YP y t.1 t.2 (PS.kG k1 h.Ci);have B:=h.keeps (k1.trans k2) (fun f=>f);obtain ⟨l,C,m⟩:=DS B (pF [rF,mS,py,qY,uy pat] (by simp));have m: ∀{β:Type} (K:Kv β),bf (aQ vE) 65 [.mp p 0,.sl 1 [.str [116,114,117,101],.str [102,97,108,115,101],.str [40],.str [91],.str (uy pat)] .shut] k K=K (.bool (isAny [rF,mS,py,qY,uy pat] (L.drop i))) l ⟨[],.all k l⟩:=fun K=>m K;have r:((t.1:Int)==4)=(t.1==4):=cY t.1 4;have s:((t.1:Int)==5)=(t.1==5):=cY t.1 5;have u:((t.1:Int)==7)=(t.1==7):=cY t.1 7;have v:((t.1:Int)==9)=(t.1==9):=cY t.1 9;have w:=cY t.1 (ud pat);have D:dM pat (L.drop i)=(t.1==4||t.1==5||t.1==7||t.1==9||t.1==ud pat||isAny [rF,mS,py,qY,uy pat] (L.drop i)):=by
  unfold dM;rw [hT];rfl
 rw [D];by_cases a:(t.1==4||t.1==5||t.1==7||t.1==9||t.1==ud pat)=true
 .refine ⟨k,iB ((JT _ _ _ _).trans ?_),k1.trans k2⟩;rw [a,abY];simp only [U1,af,ah,j,br,aP,ba,al,ab,ae,bP,q,bq o,aaw,aR,ai,r,s,u,v,w];cases b:t.1==4 <;> simp only [b,ay,aq,ai,ab,au,ae]
  cases c:t.1==5 <;> simp only [c,ay,aq,ai,ab,au,ae]
  cases e:t.1==7 <;> simp only [e,ay,aq,ai,ab,au,ae]
  cases g:t.1==9 <;> simp only [g,ay,aq,ai,ab,au,ae]
  simp only [b,c,e,g,abo] at a;simp only [a,ay]
 .have a:(t.1==4||t.1==5||t.1==7||t.1==9||t.1==ud pat)=false:=by simpa using a
  refine ⟨l,iB ((JT _ _ _ _).trans ?_),(k1.trans k2).trans C⟩;rw [a,abo];simp only [aaY] at a;obtain ⟨⟨⟨⟨b,c⟩,e⟩,g⟩,n⟩:=a;simp only [U1,af,ah,j,br,aP,ba,al,ab,ae,bP,q,bq o,aaw,aR,ai,r,s,u,v,w,b,c,e,g,n,aq,au,m]
theorem HH {st:St} {p:Nat} {L:List bc} {x:AV} {i d:Nat} (h:PS st p L x i d) (pat:Bool):
  ∃st',aZ st st' (fun _=>False)/\ ∀{β:Type} (K:Kv β),bf (aQ vE) 105 [.mp p 0,.int .u8 (ud pat:Int),.str (uy pat)] st K=K (.bool (dM pat (L.drop i))) st' ⟨[],.all st st'⟩:=by
 obtain ⟨st',e,k⟩:=LR h pat
 exact ⟨st',k,fun K=>fX (E:=vE) K rfl rfl e⟩
abbrev ND:Td:=46
def Fv {β:Type} (v:AV) (K:Int->Int->LB->AV->Oq β):Oq β:=uz v fun l=>bo l fun v1 l=>bK .u8 v1 fun a=>bo l fun c l=>bK .u8 c fun b=>bo l fun d l=>fG d fun s=>bo l fun e l=>bQ l (K a b s e)
theorem qx {β:Type} (a b:Int) (s:LB) (y:AV) (K:Int->Int->LB->AV->Oq β):Fv (.agg [.int .u8 a,.int .u8 b,.str s,y]) K=K a b s y:=by
 simp only [Fv,al,ab,af,ah,ae]
def Pz (PT:Td) (st:St) (p:Nat) (L:List bc) (x:AV) (d:Nat) (r:List bc):Prop:= ∃i,P6 PT st p L x i d/\L.drop i=r
theorem Pz.keeps {PT:Td} {st st':St} {p:Nat} {L:List bc} {x:AV} {d:Nat} {r:List bc} {but:Nat->Prop} (h:Pz PT st p L x d r) (k:aZ st st' but) (hp:¬ but p):Pz PT st' p L x d r:=by
 obtain ⟨i,h,e⟩:=h;exact ⟨i,h.keeps k hp,e⟩
abbrev Vr:=Nat×Td×LA
structure Wd (PT:Td) (st0 st:St) (p:Nat) (L:List bc) (x:AV) (d:Nat) (r:List bc) (l:List Vr) (os:List (AV×LA)):Prop where
 pz:Pz PT st p L x d r
 k:aZ st0 st (· =p)
 v: ∀q∈l,st.get q.1= .ok (.cells q.2.1 q.2.2)/\st0.h<=q.1
 nd:(l.map (·.1)).Nodup
 o: ∀q∈os,iX st 4 ND q.1 q.2/\ ∀j,eW q.1 j->st0.h<=j
 od:os.Pairwise fun a b=> ∀j,eW a.1 j->¬ eW b.1 j
 p0:p < st0.h
 ro0:st0.ro<=st0.h
section
variable {PT:Td} {st0 st st':St} {p:Nat} {L:List bc} {x:AV} {d d':Nat} {r r':List bc} {l l1 l2:List Vr} {os:List (AV×LA)}
theorem Wd.start {i:Nat} (h:P6 PT st p L x i d):Wd PT st st p L x d (L.drop i) [] []:=
 ⟨⟨i,h,rfl⟩,aZ.refl _ _,(fun _ h=>by cases h),List.nodup_nil,(fun _ h=>by cases h),List.Pairwise.nil,h.lt,h.Ci⟩
theorem Wd.begin (h:Pz PT st p L x d r):Wd PT st st p L x d r [] []:=by
 obtain ⟨i,h,rfl⟩:=h;exact Wd.start h
theorem Wd.ro (w:Wd PT st0 st p L x d r l os):st.ro<=st.h:=PS.kG w.k w.ro0
theorem Wd.h (w:Wd PT st0 st p L x d r l os):st0.h<=st.h:=w.k.h
theorem Wd.get (w:Wd PT st0 st p L x d r l os) {a:Nat} {t:Td} {cs:LA} (h:(a,t,cs)∈l):st.get a= .ok (.cells t cs):=(w.v _ h).1
theorem Wd.ne (w:Wd PT st0 st p L x d r l os) {a:Nat} {t:Td} {cs:LA} (h:(a,t,cs)∈l):a≠p:=by
 have:=(w.v _ h).2;have:=w.p0;simp only at *;omega
theorem Wd.Z9 (w:Wd PT st0 st p L x d r l os) {a:Nat} {t:Td} {cs:LA} (h:(a,t,cs)∈l):st.ro<=a:=by
 have h1:=(w.v _ h).2;have b:=w.ro0;rw [w.k.ro];exact aaR b h1
theorem Ju {v:AV} {es:LA} {j:Nat} {z:Nat} {t:Td} (h:iX st z t v es) (b:eW v j):j < st.h/\ ∃n e,st.get j= .ok (.tok n e):=by
 obtain ⟨z',es',rfl⟩:=b;rcases h.2.2 with ⟨h | h,_⟩ | h | ⟨k,h,a,_⟩
 .cases h
 .cases h
 .cases h
 .cases h;exact ⟨(St.ca.1 a).1,_,_,a⟩
theorem Wd.keeps (w:Wd PT st0 st p L x d r l os) {but:Nat->Prop} (k:aZ st st' but) (c: ∀j,but j->j=p\/st.h<=j) (pz:Pz PT st' p L x d' r'):Wd PT st0 st' p L x d' r' l os where
 pz:=pz
 k:=aZ.join w.k k fun j b=>by
  rcases c j b with h | h
  .exact .inl h
  .exact .inr (aaR w.h h)
 v:=fun q a=>⟨k.old _ _ (fun f=>by
  have h1:=(St.ca.1 (w.v q a).1).1;have g:=(w.v q a).2;have i:=w.p0;rcases c _ f with h | h <;> omega) (w.v q a).1,(w.v q a).2⟩
 nd:=w.nd
 o:=fun q a=>⟨sA (w.o q a).1 k fun j b f=>by
  obtain ⟨h1,n,e,m⟩:=Ju (w.o q a).1 b;have g:=(w.o q a).2 j b;have i:=w.p0;rcases c _ f with h | h <;> omega,(w.o q a).2⟩
 od:=w.od
 p0:=w.p0
 ro0:=w.ro0
theorem Wd.quiet (w:Wd PT st0 st p L x d r l os) (k:aZ st st' (fun _=>False)):Wd PT st0 st' p L x d r l os:=
 w.keeps k (fun _ f=>f.elim) (w.pz.keeps k (fun f=>f))
theorem Wd.move (w:Wd PT st0 st p L x d r l os) (k:aZ st st' (· =p)) (pz:Pz PT st' p L x d' r'):Wd PT st0 st' p L x d' r' l os:=
 w.keeps k (fun _ e=> .inl e) pz
theorem Wd.alloc (w:Wd PT st0 st p L x d r l os) (t:Td) (cs:LA):Wd PT st0 (st.add (.cells t cs)) p L x d r ((st.h,t,cs)::l) os:=by
 have w':=w.quiet (aZ.add st (.cells t cs) _);refine ⟨w'.pz,w'.k,fun q a=> ?_, ?_,w'.o,w'.od,w.p0,w.ro0⟩
 .rcases aao.1 a with rfl | a
  .exact ⟨St.dZ,w.h⟩
  .exact w'.v q a
 .rw [aan,abO];refine ⟨fun hm=> ?_,w.nd⟩;obtain ⟨q,a,e⟩:=aa8.1 hm;have h1:=(St.ca.1 (w.v q a).1).1;simp only at e;omega
theorem Wd.putAt {a:Nat} {t t':Td} {old:LA} (w:Wd PT st0 st p L x d r (l1++(a,t,old)::l2) os) (cs:LA):Wd PT st0 (st.put a (.cells t' cs)) p L x d r (l1++(a,t',cs)::l2) os:=by
 have hm:(a,t,old)∈l1++(a,t,old)::l2:=List.mem_append_right _ aag;have g:=w.get hm;have c:=w.ne hm;have k:aZ st (st.put a (.cells t' cs)) (· =a):=aZ.put rfl;have hnd:=w.nd;rw [aaG,aan] at hnd;refine ⟨w.pz.keeps k (fun e=>c e.symm),aZ.join w.k k fun j l=> .inr (by have:=(w.v _ hm).2;simp only at this;omega),fun q b=> ?_,by rw [aaG,aan];exact hnd,fun q b=>⟨(w.o q b).1.put g,(w.o q b).2⟩,w.od,w.p0,w.ro0⟩;have other: ∀q∈l1++(a,t,old)::l2,q.1≠a->(st.put a (.cells t' cs)).get q.1= .ok (.cells q.2.1 q.2.2)/\st0.h<=q.1:=fun q b f=>
  ⟨k.old _ _ f (w.v q b).1,(w.v q b).2⟩
 rcases aaC.1 b with b | b
 .refine other q (List.mem_append_left _ b) fun e=> ?_;have:=(List.nodup_append.1 hnd).2.2 q.1 (List.mem_map_of_mem b) a aag;exact this e
 .rcases aao.1 b with rfl | b
  .exact ⟨St.aN (St.ca.1 g).1,(w.v _ hm).2⟩
  .refine other q (List.mem_append_right _ (aam _ b)) fun e=> ?_;have h1:=(abO.1 (List.nodup_append.1 hnd).2.1).1;have i:q.1∈l2.map (·.1):=List.mem_map_of_mem b;rw [e] at i;exact h1 i
theorem Wd.store {a:Nat} {t:Td} {old:LA} (l1:List Vr) (w:Wd PT st0 st p L x d r (l1++(a,t,old)::l2) os) {z:Nat} (e:old.length=z) (v:AV) (cs:LA) (b:cs.length=z):
  ∃st' c,Wd PT st0 st' p L x d r (l1++(a,t,cs)::l2) os/\ ∀{β:Type} (K:Kv β),aK (aQ vE) z (.mp a 0) v cs st K=K VM.undef st' c:=by
 have hm:(a,t,old)∈l1++(a,t,old)::l2:=List.mem_append_right _ aag;exact ⟨st.put a (.cells t cs),⟨[a],.wrote a (.cells t cs)⟩,w.putAt cs,fun K=>by rw [dp (w.get hm) b (by omega) (w.Z9 hm),lT (by omega)]⟩
theorem Wd.po {a:Nat} {t:Td} {old:LA} (l1:List Vr) (w:Wd PT st0 st p L x d r (l1++(a,t,old)::l2) os) (off:Nat) (v:AV) (hl:off+1<=old.length):
  ∃st' b,Wd PT st0 st' p L x d r (l1++(a,t,cO old off [v])::l2) os/\ ∀{β:Type} (K:Kv β),aK (aQ vE) 1 (.mp a off) v [v] st K=K VM.undef st' b:=by
 have hm:(a,t,old)∈l1++(a,t,old)::l2:=List.mem_append_right _ aag;exact ⟨st.put a (.cells t (cO old off [v])),⟨[a],.wrote a (.cells t (cO old off [v]))⟩,w.putAt _,fun K=>dp (cs:=[v]) (z:=1) (w.get hm) rfl hl (w.Z9 hm) K⟩
theorem Wd.sub {a:List Vr} (w:Wd PT st0 st p L x d r l os) (h:List.Sublist a l):Wd PT st0 st p L x d r a os:=
 ⟨w.pz,w.k,fun q b=>w.v q (h.subset b),(h.map _).nodup w.nd,w.o,w.od,w.p0,w.ro0⟩
theorem Wd.drop {o:AV×LA} (w:Wd PT st0 st p L x d r l (o::os)):Wd PT st0 st p L x d r l os:=
 ⟨w.pz,w.k,w.v,w.nd,fun q a=>w.o q (aam _ a),(abm.1 w.od).2,w.p0,w.ro0⟩
theorem Wd.loose {v:AV} {es:LA} (w:Wd PT st0 st p L x d r l os) (h:iX st 4 ND v es) (hn: ∀j,¬ eW v j):Wd PT st0 st p L x d r l ((v,es)::os):=
 ⟨w.pz,w.k,w.v,w.nd,fun q a=>by
  rcases aao.1 a with rfl | a
  .exact ⟨h,fun j b=>absurd b (hn j)⟩
  .exact w.o q a,abm.2 ⟨fun _ _ j b=>absurd b (hn j),w.od⟩,w.p0,w.ro0⟩
theorem Wd.ax (w:Wd PT st0 st p L x d r l os):Wd PT st0 st p L x d r l ((.ax,[])::os):=w.loose (iX.ax w.ro 4 ND) fun _ h=>by obtain ⟨_,_,e⟩:=h;cases e
theorem Wd.shut (w:Wd PT st0 st p L x d r l os) {es:LA} (h:es.length<=1000):Wd PT st0 st p L x d r l ((.sl 4 es .shut,es)::os):=w.loose (iX.shut w.ro ND (by omega)) fun _ h=>by obtain ⟨_,_,e⟩:=h;cases e
theorem Wd.app {v:AV} {es:LA} (w:Wd PT st0 st p L x d r l ((v,es)::os)) (new:LA) (hn:new≠[]) (hl:es.length+new.length<=1000000000):
  ∃v' st' n,Wd PT st0 st' p L x d r l ((v',es++new)::os)/\ ∀{β:Type} (K:Kv β),eI 4 56 ND v new st K=K v' st' n:=by
 have ho:=w.o (v,es) aag;obtain ⟨v',t,n,e,u,k2,s⟩:=sX (b:=56) (new:=new) ho.1 hn (vN (by simpa using hl) (by omega) (by omega));have hp:¬ eW v p:=by
  obtain ⟨i,h,_⟩:=w.pz;exact ho.1.not h.get
 refine ⟨v',t,n,⟨w.pz.keeps k2 hp,aZ.join w.k k2 fun j c=> .inr (ho.2 j c),fun q a=>⟨k2.old _ _ (ho.1.not (w.v q a).1) (w.v q a).1,(w.v q a).2⟩,w.nd,fun q a=> ?_, ?_,w.p0,w.ro0⟩,fun K=>oU e K⟩
 .rcases aao.1 a with rfl | a
  .refine ⟨u,fun j c=> ?_⟩;rcases s j c with h | h
   .exact ho.2 j h
   .exact aaR w.h h
  .have g:=w.o q (aam _ a);exact ⟨sA g.1 k2 fun j c f=>(abm.1 w.od).1 q a j f c,g.2⟩
 .refine abm.2 ⟨fun q a j c m=> ?_,(abm.1 w.od).2⟩;rcases s j c with h | h
  .exact (abm.1 w.od).1 q a j h m
  .have:=(Ju (w.o q (aam _ a)).1 m).1;omega
theorem Wd.Xq {v:AV} {es:LA} (w:Wd PT st0 st p L x d r l ((v,es)::os)):Ft v es:=Ft.own (w.o (v,es) aag).1
end
section
variable {β:Type} {Q:β->Prop}
def NQ (PT:Td) (st:St) (p:Nat) (L:List bc) (x:AV) (d:Nat) (t:T) (r':List bc):AV×St->Prop:=fun b=>VN t b.1/\iD t<=1000000000000000/\Pz PT b.2 p L x d r'/\aZ st b.2 (· =p)
abbrev NW (PT:Td) (F:FuncId) (args:LA) (st:St) (p:Nat) (L:List bc) (x:AV) (d:Nat) (t:T) (r':List bc):Prop:=aa ((aQ vE).wide F args st) (NQ PT st p L x d t r')
variable {PT:Td} {st0 st:St} {p:Nat} {L:List bc} {x:AV} {d:Nat} {r r':List bc} {l l1 l2:List Vr} {os:List (AV×LA)} {t:T}
theorem _root_.Go.VM.aa.node {F:FuncId} {args:LA} (w:Wd PT st0 st p L x d r l os) (e:NW PT F args st p L x d t r') (h1:vE.isLook F=false) (f:(bH (args.map strip)&& !vE.full F)=false) {K:Int->Int->LB->AV->St->Fx->Oq β}
  (g: ∀(k tk:Nat) (tx:LB) (y:AV) (s:St),Nd t k tk tx y->iD t<=1000000000000000->Wd PT st0 s p L x d r' l os->aa (K (k:Int) (tk:Int) tx y s ⟨[],.all st s⟩) Q):
  aa (bf (aQ vE) F args st fun v s i=>Fv v fun a b c y=>K a b c y s i) Q:=
 aa.gu e h1 f fun v s h=>by
  obtain ⟨j,m,hp,n⟩:=h;obtain ⟨k,tk,tx,y,rfl,hn⟩:=j.cells;exact aa.step (qx ..) (g k tk tx y s hn m (w.move n hp))
theorem _root_.Go.VM.aa.alloc (w:Wd PT st0 st p L x d r l os) {ty:Td} {cs:LA} {K:St->Oq β} (g: ∀s,s.h=st.h+1->Wd PT st0 s p L x d r ((st.h,ty,cs)::l) os->aa (K s) Q):aa (bM (st.add (.cells ty cs)) K) Q:=
 g _ rfl (w.alloc ty cs)
theorem _root_.Go.VM.aa.store (l1:List Vr) {a:Nat} {ty:Td} {old:LA} (w:Wd PT st0 st p L x d r (l1++(a,ty,old)::l2) os) {z:Nat} {v:AV} {cs:LA} {K:Kv β}
  (g: ∀s b,Wd PT st0 s p L x d r (l1++(a,ty,cs)::l2) os->aa (K VM.undef s b) Q) (c:old.length=z:=by rfl) (f:cs.length=z:=by rfl):aa (aK (aQ vE) z (.mp a 0) v cs st K) Q:=by
 obtain ⟨s,b,w',e⟩:=w.store l1 c v cs f;exact aa.step (e K) (g s b w')
theorem _root_.Go.VM.aa.po (l1:List Vr) {a:Nat} {ty:Td} {old:LA} (w:Wd PT st0 st p L x d r (l1++(a,ty,old)::l2) os) {off:Nat} {v:AV} (hl:off+1<=old.length) {K:Kv β}
  (g: ∀s b,Wd PT st0 s p L x d r (l1++(a,ty,cO old off [v])::l2) os->aa (K VM.undef s b) Q):aa (aK (aQ vE) 1 (.mp a off) v [v] st K) Q:=by
 obtain ⟨s,b,w',e⟩:=w.po l1 off v hl;exact aa.step (e K) (g s b w')
theorem _root_.Go.VM.aa.pS {a:Nat} {ty:Td} {cs:LA} (hm:(a,ty,cs)∈l) (w:Wd PT st0 st p L x d r l os) {o:Nat} {v:AV} {post:LA} (b:cs.drop o=v::post) {K:AV->Ln->Oq β} (g:aa (K v [a]) Q):aa (ao 1 false (.mp a o) st K) Q:=by
 refine aa.step (bq (w.get hm) _ _ _ _) ?_;rw [b];exact g
theorem _root_.Go.VM.aa.og {a:Nat} {ty:Td} {k tk:Int} {tx:LB} {y:AV} (hm:(a,ty,[.int .u8 k,.int .u8 tk,.str tx,y])∈l) (w:Wd PT st0 st p L x d r l os) {K:Int->Int->LB->AV->Ln->Oq β} (g:aa (K k tk tx y [a]) Q):aa (ao 4 true (.mp a 0) st fun v rd=>Fv v fun a b c y=>K a b c y rd) Q:=by
 refine aa.step (bq (w.get hm) _ _ _ _) ?_;exact aa.step (qx ..) g
theorem _root_.Go.VM.aa.Ym {a:Nat} {ty:Td} {u v:AV} (hm:(a,ty,[u,v])∈l) (w:Wd PT st0 st p L x d r l os) {K:AV->Ln->Oq β} (g:aa (K (.agg [u,v]) [a]) Q):aa (ao 2 true (.mp a 0) st K) Q:=
 aa.step (bq (w.get hm) _ _ _ _) g
theorem _root_.Go.VM.aa.res (l1:List Vr) {a:Nat} {old:LA} (w:Wd PT st0 st p L x d r (l1++(a,ND,old)::l2) os) (ho:old.length=4) {k tk:Nat} {tx:LB} {y:AV} (hn:Nd t k tk tx y) (b:iD t<=1000000000000000):
  aa (ad y (aK (aQ vE) 4 (.mp a 0) (.agg [.int .u8 (k:Int),.int .u8 (tk:Int),.str tx,y]) [.int .u8 (k:Int),.int .u8 (tk:Int),.str tx,y] st fun _ s _=>ao 4 true (.mp a 0) s fun v _=>Fv v fun c e f y=>some (.agg [.int .u8 c,.int .u8 e,.str f,y],s))) (NQ PT st0 p L x d t r):=by
 refine aa.step (hn.ad _) (aa.store l1 w (fun s g w'=> ?_) ho);exact aa.og (List.mem_append_right _ aag) w' (aa.some ⟨hn.vn,b,w'.pz,w'.k⟩)
theorem _root_.Go.VM.aa.Pt (l1:List Vr) {a:Nat} {old:LA} (w:Wd PT st0 st p L x d r (l1++(a,ND,old)::l2) os) (ho:old.length=4) {k tk:Nat} {tx:LB} {y:AV} (hn:Nd t k tk tx y) (b:iD t<=1000000000000000):
  aa (aK (aQ vE) 4 (.mp a 0) (.agg [.int .u8 (k:Int),.int .u8 (tk:Int),.str tx,y]) [.int .u8 (k:Int),.int .u8 (tk:Int),.str tx,y] st fun _ s _=>ao 4 true (.mp a 0) s fun v _=>Fv v fun c e f y=>some (.agg [.int .u8 c,.int .u8 e,.str f,y],s)) (NQ PT st0 p L x d t r):=by
 have h:=aa.res l1 w ho hn b;rw [hn.ad] at h;exact h
theorem _root_.Go.VM.aa.fit {k tk:Nat} {tx:LB} {y:AV} (hn:Nd t k tk tx y) {K:AV->Oq β} (g: ∀y',ky t (.agg [.int .u8 (k:Int),.int .u8 (tk:Int),.str tx,y'])->VM.one y'=true->(∀{γ:Type} (K:AV->Oq γ),aD y' K=K y')->aa (K y') Q):aa (ad y (aD y K)) Q:=by
 obtain ⟨l,es,rfl,b,a⟩:=hn.ex;obtain ⟨y',hx,hf⟩:=b.fit;refine aa.step (b.ad _) (aa.step (hf K) (g y' ?_ hx.one fun K=>hx.aD K));simp only [ky];exact ⟨y',es,rfl,hx,a⟩
theorem _root_.Go.VM.aa.two {k tk:Nat} {tx:LB} {y:AV} (hn:Nd t k tk tx y) {e:Oq β} (g:aa e Q):aa (ad y e) Q:=aa.step (hn.ad e) g
theorem _root_.Go.VM.aa.app {v:AV} {es new:LA} (w:Wd PT st0 st p L x d r l ((v,es)::os)) (hn:new≠[]) (hl:es.length+new.length<=1000000000) {K:Kv β} (g: ∀v' s a,VM.one v'=true->Wd PT st0 s p L x d r l ((v',es++new)::os)->aa (K v' s a) Q):aa (eI 4 56 ND v new st K) Q:=by
 obtain ⟨v',s,a,w',e⟩:=w.app new hn hl;exact aa.step (e K) (g v' s a w'.Xq.one w')
theorem Wd.same {a:Nat} {s:St} {k tk:Int} {tx:LB} {v:AV} {es:LA} {ts:List T} (w:Wd PT st0 st p L x d r l os) (w':Wd PT st0 s p L x d r' l os) (hm:(a,ND,[.int .u8 k,.int .u8 tk,.str tx,v])∈l) (e:Ft v es) (hn:bI ts es) (g:gm ts<=1000000000000000):apart ⟨[a],.kept⟩ ⟨[],.all st s⟩=true:=by
 have f:Rf (2 * gm ts+1) v:=by
  have he:=bI.rf hn;rcases e with hx | ⟨_,k,rfl⟩
  .rcases hx.2 with ⟨rfl | rfl,rfl⟩ | rfl | rfl
   .exact EX.mono (by omega)
   .exact Nt.mono (by omega)
   .exact yR he
   .exact yR he
  .exact yR he
 refine Mv (MK (w.get hm) (w'.get hm) (d:=2 * gm ts+1) (fun c b=> ?_) (by omega));simp only [aao,aaF,or_false] at b;rcases b with rfl | rfl | rfl | rfl
 .exact (x7 _ _).mono (by omega)
 .exact (x7 _ _).mono (by omega)
 .exact (IG _).mono (by omega)
 .exact f
theorem Wd.vY {a:Nat} {s:St} {k tk:Nat} {tx:LB} {v:AV} (w:Wd PT st0 st p L x d r l os) (w':Wd PT st0 s p L x d r' l os) (hm:(a,ND,[.int .u8 (k:Int),.int .u8 (tk:Int),.str tx,v])∈l) (hn:Nd t k tk tx v) (c:iD t<=1000000000000000):apart ⟨[a],.kept⟩ ⟨[],.all st s⟩=true:=by
 obtain ⟨ts,es,rfl,e,b⟩:=hn.ex;simp only [iD] at c;exact w.same w' hm e b (by omega)
theorem _root_.Go.VM.aa.grow (l1:List Vr) {F:FuncId} {args:LA} {a:Nat} {k tk:Int} {tx:LB} {v:AV} {es:LA} {ts:List T}
  (w:Wd PT st0 st p L x d r (l1++(a,ND,[.int .u8 k,.int .u8 tk,.str tx,v])::l2) ((v,es)::os)) (h:NW PT F args st p L x d t r') (h1:vE.isLook F=false) (i:(bH (args.map strip)&& !vE.full F)=false)
  (b:bI ts es) (c:gm ts<=1000000000000000) (hl:ts.length<=100000000) {K:St->Oq β}
  (g: ∀v' e s,bI (ts++[t]) (es++[e])->gm (ts++[t])<=1000000000000000->Wd PT st0 s p L x d r' (l1++(a,ND,[.int .u8 k,.int .u8 tk,.str tx,v'])::l2) ((v',es++[e])::os)->aa (K s) Q):
  aa (ao 1 false (.mp a 3) st fun v rd=>bf (aQ vE) F args st fun u s x=>Fv u fun j l tx y=>cf (apart ⟨rd,.kept⟩ x&&(apart ⟨[],.kept⟩ x&&true)) (ad y (ad y (aD y fun y=>ad y (aD y fun y=>eI 4 56 ND v [.agg [.int .u8 j,.int .u8 l,.str tx,y]] s fun v s _=>ad v (ad v (aK (aQ vE) 1 (.mp a 3) v [v] s fun _ s _=>K s))))))) Q:=by
 have hm:(a,ND,[AV.int .u8 k,.int .u8 tk,.str tx,v])∈l1++(a,ND,[AV.int .u8 k,.int .u8 tk,.str tx,v])::l2:=List.mem_append_right _ aag;refine aa.pS hm w rfl (aa.node w h h1 i fun C m n y s hn D w'=> ?_);have f:=w.same w' hm w.Xq b c;refine aa.step (mR (by rw [f];rfl) _) (aa.two hn (aa.fit hn fun y' o h1 hf=>aa.one h1 (aa.step (hf _) (aa.app w' (by simp) (by rw [bI.len b];simp;omega) fun v' s' E ho q=> ?_))));refine aa.one ho (aa.one ho (aa.po l1 q (aah rfl) fun z A B=> ?_));exact g v' _ z (bI.app b (bI.cons o bI.nil)) (by rw [dr,bJ];omega) B
end
abbrev PP:Td:=92
section
variable {β:Type} {Q:β->Prop} {st0 st:St} {p:Nat} {L:List bc} {x:AV} {d d':Nat} {r r':List bc} {l l1 l2:List Vr} {os:List (AV×LA)} {t:T}
theorem _root_.Go.VM.aa.is (a:List LB) (hs:a.length<=1000) (w:Wd PP st0 st p L x d r l os) {K:Bool->St->Fx->Oq β} (g: ∀s,Wd PP st0 s p L x d r l os->aa (K (isAny a r) s ⟨[],.all st s⟩) Q):
  aa (bf (aQ vE) 65 [.mp p 0,.sl 1 (a.map AV.str) .shut] st fun v s c=>ct v fun b=>K b s c) Q:=by
 obtain ⟨i,h,rfl⟩:=w.pz;obtain ⟨s,k,e⟩:=DS h (pF a hs);exact aa.step (e _) (g s (w.quiet k))
theorem _root_.Go.VM.aa.LI {a:LB} (w:Wd PP st0 st p L x d r l os) {K:Bool->St->Fx->Oq β} (g: ∀s,Wd PP st0 s p L x d r l os->aa (K (eH a r) s ⟨[],.all st s⟩) Q):
  aa (bf (aQ vE) 65 [.mp p 0,.sl 1 [.str a] .shut] st fun v s c=>ct v fun b=>K b s c) Q:=
 aa.is [a] (by simp) w fun s w'=>by rw [DB];exact g s w'
theorem _root_.Go.VM.aa.dM (pat:Bool) (w:Wd PP st0 st p L x d r l os) {K:Bool->St->Fx->Oq β} (g: ∀s,Wd PP st0 s p L x d r l os->aa (K (dM pat r) s ⟨[],.all st s⟩) Q):
  aa (bf (aQ vE) 105 [.mp p 0,.int .u8 (ud pat:Int),.str (uy pat)] st fun v s a=>ct v fun b=>K b s a) Q:=by
 obtain ⟨i,h,rfl⟩:=w.pz;obtain ⟨s,k,e⟩:=HH h pat
 exact aa.step (e _) (g s (w.quiet k))
theorem _root_.Go.VM.aa.next (w:Wd PP st0 st p L x d r l os) {K:St->St->Oq β} (g: ∀s s',Wd PP st0 s' p L x d r ((s.h,30,[.int .u8 ((nx r).1:Int),.str (nx r).2])::l) os->aa (K s s') Q):
  aa (bf (aQ vE) 64 [.mp p 0] st fun v s _=>ig v fun vs=>cB vs 0 fun u=>uz u fun cs=>bo cs fun a cs=>bK .u8 a fun n=>bo cs fun b cs=>fG b fun tx=>bQ cs (ig v fun vs=>cB vs 1 fun u=>bK .i64 u fun _=>bM (St.add s (.cells 30 [.int .u8 0,.str []])) fun c=>aK (aQ vE) 2 (.mp (St.h s) 0) (.agg [.int .u8 n,.str tx]) [.int .u8 n,.str tx] c fun _ s' _=>K s s')) Q:=by
 obtain ⟨i,h,rfl⟩:=w.pz;obtain ⟨s,k,e⟩:=pB h;refine aa.step (e _) ?_;simp only [br,aP,ba,al,ab,af,ah,ae];refine aa.alloc (w.quiet k) fun c _ f=> ?_;exact aa.store [] f fun j o m=>g s j m
theorem jL (h:Pz PP st p L x d r):NW PP 66 [.mp p 0] st p L x d (aV r) (aS r):=by
 obtain ⟨i,h,rfl⟩:=h;obtain ⟨v,s,e,a,hp,b⟩:=JL h;exact ⟨(v,s),e,a,aaR (dH _) (by omega),⟨_,hp,(Ai L i).symm⟩,b⟩
theorem qU (h:Pz PP st p L x d r) (s:LB):NW PP 107 [.mp p 0,.str s] st p L x d (dy s r) (bp s r):=by
 obtain ⟨i,h,rfl⟩:=h;obtain ⟨v,s',f,e,a,hp,b,c⟩:=RJ h s;exact ⟨(v,s'),e,a,aaR (gW _ _) (by omega),⟨_,hp,b⟩,c⟩
theorem _root_.Go.VM.aa.take (w:Wd PP st0 st p L x d r l os) {K:Int->Int->LB->AV->St->Fx->Oq β}
 (g: ∀(k tk:Nat) (tx:LB) (y:AV) (s:St),Nd (aV r) k tk tx y->iD (aV r)<=1000000000000000->Wd PP st0 s p L x d (aS r) l os->aa (K (k:Int) (tk:Int) tx y s ⟨[],.all st s⟩) Q):
 aa (bf (aQ vE) 66 [.mp p 0] st fun v s e=>Fv v fun a b c y=>K a b c y s e) Q:=aa.node w (jL w.pz) rfl rfl g
theorem _root_.Go.VM.aa.BX (w:Wd PP st0 st p L x d r l os) {e:LB} {K:Int->Int->LB->AV->St->Fx->Oq β}
 (g: ∀(k tk:Nat) (tx:LB) (y:AV) (s:St),Nd (dy e r) k tk tx y->iD (dy e r)<=1000000000000000->Wd PP st0 s p L x d (bp e r) l os->aa (K (k:Int) (tk:Int) tx y s ⟨[],.all st s⟩) Q):
 aa (bf (aQ vE) 107 [.mp p 0,.str e] st fun v s f=>Fv v fun a b c y=>K a b c y s f) Q:=aa.node w (qU w.pz e) rfl rfl g
theorem _root_.Go.VM.aa.WJ {i o n:Nat} {K:AV->Oq β} (g:aa (K (.mp i (o+n))) Q):aa (cf (notNil (.mp i o)) (ch n (.mp i o) K)) Q:=g
theorem _root_.Go.VM.aa.Kj {PT:Td} (w:Wd PT st0 st p L x d r l os) {K:AV->Ln->Oq β} (g:aa (K (.int .i64 (d:Int)) [p]) Q):aa (ao 1 false (.mp p 2) st K) Q:=by
 obtain ⟨i,h,rfl⟩:=w.pz;exact aa.step (bq h.get _ _ _ _) g
theorem _root_.Go.VM.aa.deep {PT:Td} (d':Nat) (w:Wd PT st0 st p L x d r l os) {K:Kv β} (g: ∀s a,Wd PT st0 s p L x d' r l os->aa (K VM.undef s a) Q):aa (aK (aQ vE) 1 (.mp p 2) (.int .i64 (d':Int)) [.int .i64 (d':Int)] st K) Q:=by
 obtain ⟨i,h,rfl⟩:=w.pz;refine aa.step (dp (cs:=[.int .i64 (d':Int)]) (z:=1) (off:=2) h.get rfl (aah rfl) h.ro K) (g _ _ ?_);have k:aZ st (st.put p (.cells PT (cO [x,.int .i64 (i:Int),.int .i64 (d:Int)] 2 [.int .i64 (d':Int)]))) (· =p):=aZ.put rfl;exact w.move k ⟨i,⟨St.aN (St.ca.1 h.get).1,h.sl,h.le,h.len,by rw [k.ro];exact h.ro⟩,rfl⟩
theorem sQ {k:Nat} {es:LA} {ts:List T} (h:bI ts es) (hl:es.length<=1000):Nd (node k ts) k 0 [] (.sl 4 es .shut):=⟨⟨ts,es,rfl,.inl (aO.shut (by omega)),h⟩⟩
theorem yW {t:T} {e:AV} (h:ky t e):bI [t] [e]:=bI.cons h bI.nil
theorem GL {t u:T} {e f:AV} (h:ky t e) (a:ky u f):bI [t,u] [e,f]:=bI.cons h (yW a)
theorem OI {t u v:T} {e f g:AV} (h:ky t e) (b:ky u f) (a:ky v g):bI [t,u,v] [e,f,g]:=bI.cons h (GL b a)
theorem sG (f:AV) (a:LB) (h:Pz PP st p L x 64 r):NW PP 146 [.mp p 0,.str a,f] st p L x 64 (lr a r) (lq r):=by
 refine aa.wide (aa.step (J9 _ _ _ _) ?_);unfold TL;refine aa.step (ah _ _) (aa.alloc (Wd.begin h) fun c _ w=> ?_);refine aa.WJ (aa.Kj w ?_);refine aa.step (af _ _ _) ?_;refine aa.next w fun d e w=> ?_;refine aa.pS (aag) w rfl (aa.step (af _ _ _) ?_);unfold lr lq;by_cases h0:(nx r).1=0
 .rw [if_pos h0,if_pos h0,show (((nx r).1:Int)==0)=true by rw [h0];rfl];refine aa.step (ay _ _) (aa.step (rm _ _ _) ?_);refine aa.res [_] (old:=[.int .u8 0,.int .u8 0,.str [],.ax]) w rfl (vd a) ?_;rw [mD];omega
 .rw [if_neg h0,if_neg h0,show (((nx r).1:Int)==0)=false from aaB.2 (by omega)];refine aa.step (aq _ _) (aa.take w fun k tk tx y s hn g w=> ?_);refine aa.two hn (aa.fit hn fun y' b _ _=> ?_);refine aa.Pt [_] (old:=[.int .u8 0,.int .u8 0,.str [],.ax]) w rfl (sQ (yW b) (by simp)) ?_;rw [cM,bJ];have:=dH r;omega
theorem xx {f:AV} {F:FuncId} {args:LA} (c:LB) (h:Pz PP st p L x d r) (j:d < 64) (h1:vE.isLook F=false) (e:(bH (args.map strip)&& !vE.full F)=false)
  (hf: ∀{β:Type} (s:St) (K:Kv β),iZ (aQ vE) (Sx.prim (sx vE 146)) f [] s K=bf (aQ vE) F args s K)
  (g: ∀s,aZ st s (· =p)->Pz PP s p L x (d+1) r->NW PP F args s p L x (d+1) t r'):NW PP 146 [.mp p 0,.str c,f] st p L x d t r':=by
 refine aa.wide (aa.step (J9 _ _ _ _) ?_);unfold TL;refine aa.step (ah _ _) (aa.alloc (Wd.begin h) fun l _ w=> ?_);refine aa.WJ (aa.Kj w ?_);refine aa.step (af _ _ _) ?_;rw [show ((d:Int)==64)=false from aaB.2 (by omega)];refine aa.step (aq _ _) (aa.WJ (aa.Kj w ?_));refine aa.step (af _ _ _) ?_;rw [aF,ck (by omega)];refine aa.WJ (aa.deep (d+1) w fun i b w=> ?_);refine aa.step (hf _ _) (aa.node w (g i w.k w.pz) h1 e fun k tk tx y s hn a w=> ?_);refine aa.alloc w fun m _ w=>aa.two hn ?_;refine aa.store [] w fun n b w=> ?_;refine aa.WJ (aa.Kj w ?_);refine aa.step (af _ _ _) ?_;rw [aF,show ((d+1:Nat):Int) - 1=((d+1:Nat):Int) - ((1:Nat):Int) from rfl,HO (by omega) (by omega),Nat.add_sub_cancel];refine aa.WJ (aa.deep d w fun o b w=> ?_);refine aa.og (aag) w ?_;exact aa.res [_] (old:=[.int .u8 0,.int .u8 0,.str [],.ax]) w rfl hn a
end
def tX (F:FuncId) (more:Nat->LA) (job:lX) (n:Nat):Prop:= ∀(st:St) (p:Nat) (L:List bc) (x:AV) (d:Nat) (r:List bc) (t:T) (r':List bc),Pz PP st p L x d r->d<=64->P n job d r=some ([t],r')->NW PP F (.mp p 0::more p) st p L x d t r'
def NP (pat:Bool):FuncId:=match pat with | true=>143 | false=>108
def Bt (pat:Bool) (p:Nat):AV:= .fn (.func (NP pat)) [.mp p 0] []
def BQ (PT:Td) (st:St) (p:Nat) (L:List bc) (x:AV) (d:Nat) (ts:List T) (r':List bc):AV×St->Prop:=fun b=> ∃es,iX b.2 4 ND b.1 es/\(∀j,eW b.1 j->st.h<=j)/\bI ts es/\gm ts<=1000000000000000/\Pz PT b.2 p L x d r'/\aZ st b.2 (· =p)
def PQ (n:Nat):Prop:= ∀(st:St) (p:Nat) (L:List bc) (x:AV) (d:Nat) (r:List bc) (ts:List T) (r':List bc),Pz PP st p L x d r->d<=64->P n .binding d r=some (ts,r')->aa ((aQ vE).wide 67 [.mp p 0] st) (BQ PP st p L x d ts r')
structure IH (n:Nat):Prop where
 expr:tX 108 (fun _=>[]) .expr n
 whole:tX 147 (fun _=>[]) .whole n
 level: ∀k:Nat,k<=7->tX 166 (fun _=>[.int .i64 (k:Int)]) (.level k) n
 neg:tX 175 (fun _=>[]) .neg n
 atom: ∀pat,tX 106 (fun _=>[.bool pat]) (.atom pat) n
 closed: ∀list pat,tX 145 (fun p=>[.int .u8 (kindOf list pat:Int),.str (xX list),.str (jJ list),Bt pat p]) (.closed list pat) n
 pattern:tX 143 (fun _=>[]) .pattern n
 arm:tX 165 (fun _=>[]) .arm n
 binding:PQ n
theorem Jk {n:Nat} (hn:n<=10000000) {job:lX} {d:Nat} {r:List bc} {l:List T} {r':List bc} (h:P n job d r=some (l,r')) (a:dW job=[]):gm l<=100000020000000:=by
 have:=Tp n job d r l r' h;rw [a,bm] at this;have b:n * n<=10000000 * 10000000:=ab6 hn hn;omega
theorem kU {n:Nat} (hn:n<=10000000) {job:lX} {d:Nat} {r:List bc} {t:T} {r':List bc} (h:P n job d r=some ([t],r')) (a:dW job=[]):iD t<=100000020000000:=by
 have:=Jk hn h a
 rwa [bJ] at this
section
variable {β:Type} {Q:β->Prop} {st0 st:St} {p:Nat} {L:List bc} {x:AV} {d d':Nat} {r r':List bc} {l l1 l2:List Vr} {os:List (AV×LA)} {t:T}
abbrev z4:LA:=[.int .u8 0,.int .u8 0,.str [],.ax]
theorem MF {n:Nat} (ih:IH n):tX 108 (fun _=>[]) .expr (n+1):=by
 intro st p L x d r t r' hp a h;simp only [P] at h;refine aa.wide (aa.step (SH _ _) ?_);unfold Ye;refine aa.alloc (Wd.begin hp) fun b _ w=> ?_;split at h
 .rename_i a;subst a;cases h;exact aa.node w (sG _ _ w.pz) rfl rfl fun k tk tx y s hn a w=>aa.res [] (old:=z4) w rfl hn a
 .exact aa.node w (xx (F:=147) (args:=[.mp p 0]) _ w.pz (by omega) rfl rfl (fun _ _=>rfl) fun s _ hp=>ih.whole s p L x (d+1) r t r' hp (by omega) h) rfl rfl fun k tk tx y s hn a w=>aa.res [] (old:=z4) w rfl hn a
def Nv (PT:Td) (st0 s:St) (p:Nat) (L:List bc) (x:AV) (d:Nat) (r:List bc) (a b:Nat) (t:T):Prop:= ∃(k tk:Nat) (tx:LB) (y:AV),Wd PT st0 s p L x d r [(a,ND,[.int .u8 (k:Int),.int .u8 (tk:Int),.str tx,y]),(b,ND,z4)] []/\Nd t k tk tx y
theorem Nv.fin {PT:Td} {s:St} {a b:Nat} (h:Nv PT st0 s p L x d r a b t) (f:iD t<=1000000000000000):
  aa (ao 4 true (.mp a 0) s fun v _=>Fv v fun c e tx y=>ad y (aK (aQ vE) 4 (.mp b 0) (.agg [.int .u8 c,.int .u8 e,.str tx,y]) [.int .u8 c,.int .u8 e,.str tx,y] s fun _ s _=>ao 4 true (.mp b 0) s fun v _=>Fv v fun c e tx y=>some (.agg [.int .u8 c,.int .u8 e,.str tx,y],s))) (NQ PT st0 p L x d t r):=by
 obtain ⟨k,tk,tx,y,w,hn⟩:=h;exact aa.og (aag) w (aa.res [_] (old:=z4) w rfl hn f)
theorem Xj {a b c:Vr}:List.Sublist [b,c] [a,b,c]:=List.Sublist.cons _ (abK _)
theorem fH {b c:Bool} (h:b=c) {α:Type} (x y:Oq α):bu b x y=bu c x y:=by rw [h]
theorem RV {n:Nat} (ih:IH n) {a:Nat} (G:st.get a= .ok (.cells 90 [.mp p 0])) (m:a≠p) (hp:Pz PP st p L x d r) (D:d<=64)
  {b:List bc} {u:T} (h1:P n (.atom true) d r=some ([u],b)) (g:if eH FK b=true then ∃v,P n .pattern d (aS b)=some ([v],r')/\t=node 16 [u,aV b,v] else t=u/\r'=b)
  (hn:n<=10000000):NW PP 163 [.mp a 0] st p L x d t r':=by
 have E:=kU hn h1 rfl;refine aa.wide (aa.step (SE _ _) ?_);unfold Yl;have rd: ∀{s:St} {β:Type} (K:AV->Ln->Oq β),aZ st s (· =p)->ao 1 false (.mp a 0) s K=K (.mp p 0) [a]:=fun K k=>bq (k.Dw m G) _ _ _ _;refine aa.alloc (Wd.begin hp) fun W _ w=> ?_;refine aa.step (rd _ w.k) (aa.node w (ih.atom true _ p L x d r u b w.pz D h1) rfl rfl fun k tk tx y s hnd i w=> ?_);refine aa.alloc w fun X _ w=>aa.two hnd ?_;refine aa.store [] w fun Y F w=> ?_;refine aa.step (rd _ w.k) ?_;refine aa.LI w fun H w=> ?_;cases l:eH FK b with
 | true=>
  rw [l,if_pos rfl] at g;obtain ⟨v,g,rfl⟩:=g;have I:=kU hn g rfl;have J:=dH b;refine aa.bind (R:=fun c=> ∃f,c=([],f)/\Nv PP st f p L x d r' s.h st.h (node 16 [u,aV b,v])) ?_ ?_
  .refine aa.step (fH (c:=true) l _ _) (aa.step (ay _ _) ?_);refine aa.step (rd _ w.k) (aa.take w fun Z M N y' f e o w=> ?_);refine aa.alloc w fun s7 _ w=>aa.two e ?_;refine aa.store [] w fun s8 F w=> ?_;refine aa.og (a:=s.h) (aam _ aag) w ?_;refine aa.og (aag) w ?_;refine aa.step (rd _ w.k) (aa.node w (ih.pattern _ p L x d _ v r' w.pz D g) rfl rfl fun k2 O Q y2 s9 j S q=> ?_);have U:=w.vY q (aag) e o;have V:=w.vY q (a:=s.h) (aam _ aag) hnd i;refine aa.step (mR (by rw [U,V];rfl) _) ?_;refine aa.two hnd (aa.two e (aa.two j (aa.fit hnd fun z1 z _ _=>aa.fit e fun z2 A _ _=>aa.fit j fun z3 B _ _=> ?_)));refine aa.store [_] q fun C F w=> ?_;exact aa.some ⟨C,rfl,16,0,[],_,w.sub Xj,sQ (OI z A B) (by simp)⟩
  .rintro c ⟨f,rfl,h⟩;refine aa.step (ae _) (h.fin ?_);rw [cM];simp only [cw,bm];omega
 | false=>
  rw [l,if_neg (by simp)] at g;obtain ⟨rfl,rfl⟩:=g;refine aa.bind (R:=fun c=> ∃f,c=([],f)/\Nv PP st f p L x d r' s.h st.h t) ?_ ?_
  .exact aa.step (fH (c:=false) l _ _) (aa.step (aq _ _) (aa.some ⟨H,rfl,k,tk,tx,y,w,hnd⟩))
  .rintro c ⟨f,rfl,h⟩;exact aa.step (ae _) (h.fin i)
theorem Fo {n:Nat} (ih:IH n) (hn:n<=10000000):tX 143 (fun _=>[]) .pattern (n+1):=by
 intro st p L x d r t r' hp c h;simp only [P] at h;refine aa.wide (aa.step (Qj _ _) ?_);unfold W7;refine aa.one rfl (aa.one rfl ?_);refine aa.alloc (Wd.begin hp) fun l _ w=> ?_;refine aa.alloc w fun m _ w=> ?_;refine aa.pS (a:=st.h) (aam _ aag) w rfl ?_;have e:st.h≠p:=w.ne (aam _ aag);have j:=w.get (a:=st.h) (aam _ aag);split at h
 .rename_i c;subst c;cases h;exact aa.node w (sG _ _ w.pz) rfl rfl fun k tk tx y s hn c w=>aa.res [] (old:=z4) w rfl hn c
 .obtain ⟨⟨a,o⟩,g,h⟩:=bind_some h;obtain ⟨u,rfl⟩:=gZ _ _ _ _ _ _ g rfl;refine aa.node w (xx (F:=163) (args:=[.mp st.h 0]) (t:=t) (r':=r') _ w.pz (by omega) rfl rfl (fun _ _=>rfl) fun s k hp=> ?_) rfl rfl fun k tk tx y s hn c w=>aa.res [] (old:=z4) w rfl hn c;refine RV ih (k.Dw e j) e hp (by omega) g ?_ hn;dsimp only at h;split at h
  .rename_i f;rw [if_pos f];obtain ⟨⟨b,r2⟩,i,h⟩:=bind_some h;obtain ⟨v,rfl⟩:=gZ _ _ _ _ _ _ i rfl;cases h;exact ⟨v,i,rfl⟩
  .rename_i f;rw [if_neg f];cases h;exact ⟨rfl,rfl⟩
end
section
variable {β:Type} {Q:β->Prop} {st0 st:St} {p:Nat} {L:List bc} {x:AV} {d d':Nat} {r r':List bc} {l l1 l2:List Vr} {os:List (AV×LA)} {t:T}
theorem N9 {n:Nat} (ih:IH n) (hn:n<=10000000):tX 165 (fun _=>[]) .arm (n+1):=by
 intro st p L x d r t r' hp z h;simp only [P] at h;obtain ⟨⟨a,A⟩,g,h⟩:=bind_some h;obtain ⟨u,rfl⟩:=gZ _ _ _ _ _ _ g rfl;obtain ⟨⟨b,r2⟩,i,h⟩:=bind_some h;obtain ⟨v,rfl⟩:=gZ _ _ _ _ _ _ i rfl;cases h;have B:=kU hn g rfl;have C:=kU hn i rfl;have D:=gW iw A;refine aa.wide (aa.step (QF _ _) ?_);unfold Yf;refine aa.alloc (Wd.begin hp) fun N _ w=> ?_;refine aa.node w (ih.pattern _ p L x d _ u A w.pz z g) rfl rfl fun k tk tx y s hnd e w=> ?_;refine aa.alloc w fun O _ w=>aa.two hnd ?_;refine aa.store [] w fun Q E w=> ?_;refine aa.BX w fun R F G y' S c j w=> ?_;refine aa.alloc w fun T _ w=>aa.two c ?_;refine aa.store [] w fun U E w=> ?_;refine aa.og (a:=s.h) (aam _ aag) w ?_;refine aa.og (aag) w ?_;refine aa.node w (ih.expr _ p L x d _ v r2 w.pz z i) rfl rfl fun k2 H I V W f J l=> ?_;have K:=w.vY l (aag) c j;have M:=w.vY l (a:=s.h) (aam _ aag) hnd e;refine aa.step (mR (by rw [K,M];rfl) _) ?_;refine aa.two hnd (aa.two c (aa.two f (aa.fit hnd fun X m _ _=>aa.fit c fun Y o _ _=>aa.fit f fun Z q _ _=> ?_)));refine aa.Pt [_,_] (old:=z4) l rfl (sQ (OI m o q) (by simp)) ?_;simp only [cM,dr,cw,bm];omega
theorem xK (pat:Bool) (p:Nat) {β:Type} (s:St) (K:Kv β):iZ (aQ vE) (Sx.prim (sx vE 145)) (Bt pat p) [] s K=bf (aQ vE) (NP pat) [.mp p 0] s K:=by cases pat <;> rfl
theorem Nu {n:Nat} (ih:IH n) (pat:Bool) (hp:Pz PP st p L x d r) (a:d<=64) (h:P n (if pat then .pattern else .expr) d r=some ([t],r')):NW PP (NP pat) [.mp p 0] st p L x d t r':=by
 cases pat with
 | true=>exact ih.pattern _ p L x d _ t r' hp a h
 | false=>exact ih.expr _ p L x d _ t r' hp a h
theorem F9 (pat:Bool):vE.isLook (NP pat)=false:=by cases pat <;> rfl
theorem GH (pat:Bool) (p:Nat):(bH ([AV.mp p 0].map strip)&& !vE.full (NP pat))=false:=rfl
theorem KM (pat:Bool):single (if pat then lX.pattern else .expr)=true:=by cases pat <;> rfl
def Gv (PT:Td) (st0 s:St) (p:Nat) (L:List bc) (x:AV) (d:Nat) (r:List bc) (a b k:Nat) (ts:List T):Prop:= ∃(v:AV) (es:LA),Wd PT st0 s p L x d r [(a,ND,[.int .u8 (k:Int),.int .u8 0,.str [],v]),(b,ND,z4)] [(v,es)]/\bI ts es/\gm ts<=1000000000000000
theorem Gv.nd {PT:Td} {s:St} {a b k:Nat} {ts:List T} (h:Gv PT st0 s p L x d r a b k ts):Nv PT st0 s p L x d r a b (node k ts):=by
 obtain ⟨v,es,w,hs,c⟩:=h;exact ⟨k,0,[],v,w.drop,⟨⟨ts,es,rfl,w.Xq,hs⟩⟩⟩
theorem Gv.grow {PT:Td} {s:St} {a b k:Nat} {ts:List T} (h:Gv PT st0 s p L x d r a b k ts) {F:FuncId} {args:LA} (i:NW PT F args s p L x d t r') (h1:vE.isLook F=false) (j:(bH (args.map strip)&& !vE.full F)=false) (hl:ts.length<=100000000) {K:St->Oq β} (g: ∀s,Gv PT st0 s p L x d r' a b k (ts++[t])->aa (K s) Q):
  aa (ao 1 false (.mp a 3) s fun v rd=>bf (aQ vE) F args s fun u s x=>Fv u fun l m tx y=>cf (apart ⟨rd,.kept⟩ x&&(apart ⟨[],.kept⟩ x&&true)) (ad y (ad y (aD y fun y=>ad y (aD y fun y=>eI 4 56 ND v [.agg [.int .u8 l,.int .u8 m,.str tx,y]] s fun v s _=>ad v (ad v (aK (aQ vE) 1 (.mp a 3) v [v] s fun _ s _=>K s))))))) Q:=by
 obtain ⟨v,es,w,hs,n⟩:=h;exact aa.grow [] w i h1 j hs n hl fun v' e s c f w'=>g s ⟨v',_,w',c,f⟩
theorem Gv.pz {PT:Td} {s:St} {a b k:Nat} {ts:List T} (h:Gv PT st0 s p L x d r a b k ts):Pz PT s p L x d r:=by
 obtain ⟨v,es,w,hs,c⟩:=h;exact w.pz
theorem Gv.is {s:St} {a b k:Nat} {ts:List T} (h:Gv PP st0 s p L x d r a b k ts) {c:LB} {K:Bool->St->Fx->Oq β} (g: ∀s',Gv PP st0 s' p L x d r a b k ts->aa (K (eH c r) s' ⟨[],.all s s'⟩) Q):
  aa (bf (aQ vE) 65 [.mp p 0,.sl 1 [.str c] .shut] s fun v s e=>ct v fun b=>K b s e) Q:=by
 obtain ⟨v,es,w,hs,f⟩:=h;exact aa.LI w fun s' w'=>g s' ⟨v,es,w',hs,f⟩
theorem IW {n:Nat} (hn:n<=10000000) (ih: ∀m,m < n->IH m) (list pat:Bool) {a b k:Nat} {c:St} (t:c.h=a) (A:d<=64): ∀(m:Nat) (ts bs:List T) (r r':List bc) (s:St),m<=n->P m (.items list pat) d r=some (bs,r')->Gv PP st0 s p L x d r a b k ts->ts.length+2 * m<=100000000->
  aa (bl (oK (.mp p 0) (Bt pat p) (xX list) c) ([],s)) (fun q=> ∃s',q=(0,[],s')/\Gv PP st0 s' p L x d r' a b k (ts++bs)):=by
 intro m
 induction m with
 | zero=>intro ts bs r r' s _ h;cases h
 | succ m j=>
  intro ts bs r r' s hm h f hl;simp only [P] at h;have E:oK (.mp p 0) (Bt pat p) (xX list) c ([],s)=oK (.mp p 0) (Bt pat p) (xX list) c ([],s):=rfl;split at h
  .rename_i l;obtain ⟨⟨F,v⟩,w,h⟩:=bind_some h;obtain ⟨u,rfl⟩:=gZ _ _ _ _ _ _ w (KM pat);obtain ⟨⟨B,r2⟩,C,h⟩:=bind_some h;cases h;have g:aa (oK (.mp p 0) (Bt pat p) (xX list) c ([],s)) (fun q=> ∃s',q= .inl ([],s')/\Gv PP st0 s' p L x d v a b k (ts++[aV r]++[u])):=by
    simp only [oK,xK,t,ae];refine f.is fun y f=> ?_;rw [l];refine aa.step (ay _ _) ?_;refine f.grow (jL f.pz) rfl rfl (by omega) fun z f=> ?_;refine f.grow (Nu (ih m (by omega)) pat f.pz A w) (F9 pat) (GH pat p) (by simp;omega) fun D f=> ?_;exact aa.some ⟨D,rfl,f⟩
   obtain ⟨q,e,s',rfl,i⟩:=g;rw [bA e];refine (j _ B v _ s' (by omega) C i (by simp;omega)).mono ?_;rintro q ⟨z,rfl,o⟩;refine ⟨z,rfl, ?_⟩;simpa using o
  .rename_i l;cases h;have g:aa (oK (.mp p 0) (Bt pat p) (xX list) c ([],s)) (fun q=> ∃s',q= .inr (0,[],s')/\Gv PP st0 s' p L x d r a b k ts):=by
    simp only [oK,xK,t,ae];refine f.is fun y f=> ?_;rw [aa5 l];exact aa.step (aq _ _) (aa.some ⟨y,rfl,f⟩)
   obtain ⟨q,e,s',rfl,i⟩:=g;exact ⟨_,bE e,s',rfl,by simpa using i⟩
theorem F2 {n:Nat} (ih: ∀m,m<=n->IH m) (hn:n<=10000000) (list pat:Bool):tX 145 (fun p=>[.int .u8 (kindOf list pat:Int),.str (xX list),.str (jJ list),Bt pat p]) (.closed list pat) (n+1):=by
 intro st p L x d r t r' hp j h;simp only [P] at h;refine aa.wide (aa.step (SA _ _ _ _ _ _) ?_);simp only [Xe,xK,af,ah];refine aa.alloc (Wd.begin hp) fun B _ w=> ?_;refine aa.take w fun k tk tx y s hnd b w=> ?_;refine aa.two hnd (aa.fit hnd fun C e _ _=> ?_);refine aa.alloc w fun l _ w=> ?_;refine aa.store [] w fun v D w=> ?_;have a:Gv PP st v p L x d (aS r) s.h st.h (kindOf list pat) [aV r]:=⟨_,_,w.shut (by simp),yW e,by rw [bJ];exact b⟩;refine a.is fun E a=> ?_;split at h
 .rename_i f;cases h;rw [f];refine aa.step (ay _ _) ?_;refine a.grow (jL a.pz) rfl rfl (by simp) fun F a=> ?_;refine a.nd.fin ?_;have:=dH r;have:=dH (aS r);simp only [cM,dr,cw,bm];omega
 .rename_i f;rw [aa5 f];obtain ⟨⟨G,H⟩,g,h⟩:=bind_some h;obtain ⟨u,rfl⟩:=gZ _ _ _ _ _ _ g (KM pat);obtain ⟨⟨o,r2⟩,i,h⟩:=bind_some h;cases h;refine aa.step (aq _ _) ?_;refine a.grow (Nu (ih n (aal _)) pat a.pz j g) (F9 pat) (GH pat p) (by simp) fun l a=> ?_;refine aa.bind (IW hn (fun m hm=>ih m (by omega)) list pat rfl j n _ o _ _ l (aal _) i a (by simp;omega)) ?_;rintro q ⟨I,rfl,a⟩;refine aa.step (ae _) ?_;have z:=Jk hn i rfl;have A:=kU hn g (pY pat);have hl:=MQ _ _ _ _ _ _ _ i;refine a.grow (qU a.pz (jJ list)) rfl rfl (by simp;omega) fun J a=> ?_;have c:=a.nd.fin (t:=node (kindOf list pat) ([aV r]++[u]++o++[dy (jJ list) r2])) (by
   have:=dH r;have:=gW (jJ list) r2;simp only [cM,dr,cw,bm];omega)
  exact c
end
section
variable {β:Type} {Q:β->Prop} {st0 st:St} {p:Nat} {L:List bc} {x:AV} {d d':Nat} {r r':List bc} {l l1 l2:List Vr} {os:List (AV×LA)} {t:T}
def Pk (pat:Bool):LB:=if pat then mo else pD
theorem Lr {n:Nat} (ih:IH n) (pat:Bool):tX 106 (fun _=>[.bool pat]) (.atom pat) (n+1):=by
 intro st p L x d r t r' hp i h;simp only [P] at h;refine aa.wide (aa.step (R6 _ _ _) ?_);unfold X7;refine aa.step (au _ _) (aa.alloc (Wd.begin hp) fun b _ w=> ?_);have e: ∀{β:Type} (K:cJ->Oq β),aC (bu pat (some ([AV.str mo,.int .u8 17,.int .u8 18,.str [95],Bt true p,.int .u8 5],b)) (some ([.str pD,.int .u8 14,.int .u8 15,.str [40],Bt false p,.int .u8 6],b))) K
   =K ([.str (Pk pat),.int .u8 (kindOf false pat:Int),.int .u8 (kindOf true pat:Int),.str (uy pat),Bt pat p,.int .u8 (ud pat:Int)],b):=by cases pat <;> exact fun K=>rfl
 refine aa.step (e _) ?_;simp only [ab,ah,af,ae];refine aa.next w fun l m w=> ?_;refine aa.dM pat w fun o w=> ?_;split at h
 .rename_i f;rw [f];refine aa.step (aq _ _) ?_;refine aa.pS (aag) w rfl (aa.step (af _ _ _) ?_);split at h
  .rename_i j;cases h;rw [show (((nx r).1:Int)==9)=true by rw [j];rfl];refine aa.step (ay _ _) (aa.take w fun k tk tx y s hnd a w=> ?_);refine aa.two hnd (aa.fit hnd fun q g _ _=> ?_);refine aa.Pt [_] (old:=z4) w rfl (sQ (yW g) (by simp)) ?_;have:=dH r;simp only [cM,cw,bm];omega
  rename_i j;rw [show (((nx r).1:Int)==9)=false from aaB.2 (by omega)];refine aa.step (aq _ _) (aa.LI w fun u w=> ?_);split at h
  .rename_i ho;refine aa.step (fH (c:=true) ho _ _) (aa.step (ay _ _) ?_);exact aa.node w (ih.closed false pat _ p L x d r t r' w.pz i h) rfl rfl fun k tk tx y s hnd a w=>aa.res [_] (old:=z4) w rfl hnd a
  rename_i ho;refine aa.step (fH (c:=false) (aa5 ho) _ _) (aa.step (aq _ _) (aa.LI w fun v w=> ?_));split at h
  .rename_i ho;refine aa.step (fH (c:=true) ho _ _) (aa.step (ay _ _) ?_);exact aa.node w (ih.closed true pat _ p L x d r t r' w.pz i h) rfl rfl fun k tk tx y s hnd a w=>aa.res [_] (old:=z4) w rfl hnd a
  .rename_i ho;cases h;refine aa.step (fH (c:=false) (aa5 ho) _ _) (aa.step (aq _ _) ?_);exact aa.take w fun k tk tx y s hnd a w=>aa.res [_] (old:=z4) w rfl hnd a
 .rename_i f;cases h;rw [aa5 f];refine aa.step (ay _ _) (aa.step (rm _ _ _) ?_);refine aa.res [_] (old:=z4) w rfl (vd (Pk pat)) ?_;rw [mD];omega
theorem Nv.load {PT:Td} {s:St} {a b:Nat} (h:Nv PT st0 s p L x d r a b t) {K:Int->Int->LB->AV->Ln->Oq β} (g: ∀(k tk:Nat) (tx:LB) (y:AV),Wd PT st0 s p L x d r [(a,ND,[.int .u8 (k:Int),.int .u8 (tk:Int),.str tx,y]),(b,ND,z4)] []->Nd t k tk tx y->aa (K k tk tx y [a]) Q):aa (ao 4 true (.mp a 0) s fun v rd=>Fv v fun a b c y=>K a b c y rd) Q:=by
 obtain ⟨k,tk,tx,y,w,hn⟩:=h;exact aa.og (aag) w (g k tk tx y w hn)
theorem L3 {n:Nat} (hn:n<=10000000) (ih: ∀m,m < n->IH m) {a b:Nat} {c:St} (C:c.h=a) (G:d<=64): ∀(m:Nat) (acc t:T) (r r':List bc) (s:St),m<=n->P m (.args acc) d r=some ([t],r')->Nv PP st0 s p L x d r a b acc->iD acc+m<=900000000000000->
  aa (bl (tg (.mp p 0) c) ([],s)) (fun q=> ∃s',q=(0,[],s')/\Nv PP st0 s' p L x d r' a b t/\iD t<=900000000000000):=by
 intro m
 induction m with
 | zero=>intro acc t r r' s _ h;cases h
 | succ m j=>
  intro acc t r r' s hm h H hl;simp only [P] at h;obtain ⟨k,tk,tx,y,w,hnd⟩:=H;split at h
  .rename_i l;obtain ⟨⟨D,o⟩,v,h⟩:=bind_some h;obtain ⟨u,rfl⟩:=gZ _ _ _ _ _ _ v rfl;have I:=kU (by omega:m<=10000000) v rfl;have f:aa (tg (.mp p 0) c ([],s)) (fun q=> ∃s',q= .inl ([],s')/\Nv PP st0 s' p L x d o a b (node 13 [acc,u])):=by
    simp only [tg,C,ae];refine aa.dM false w fun E w=> ?_;rw [l];refine aa.step (ay _ _) ?_;refine aa.og (aag) w ?_;refine aa.node w ((ih m (by omega)).atom false _ p L x d r u o w.pz G v) rfl rfl fun k2 J K N O i M F=> ?_;have D:=w.vY F (aag) hnd (by omega);refine aa.step (mR (by rw [D];rfl) _) ?_;refine aa.two hnd (aa.two i (aa.fit hnd fun Q z _ _=>aa.fit i fun R A _ _=> ?_));refine aa.store [] F fun B S w=> ?_;exact aa.some ⟨B,rfl,13,0,[],_,w,sQ (GL z A) (by simp)⟩
   obtain ⟨q,e,s',rfl,g⟩:=f;rw [bA e];refine j _ t o _ s' (by omega) h g ?_;simp only [cM,cw,bm];omega
  .rename_i l;cases h;have f:aa (tg (.mp p 0) c ([],s)) (fun q=> ∃s',q= .inr (0,[],s')/\Nv PP st0 s' p L x d r a b acc):=by
    simp only [tg,C,ae];refine aa.dM false w fun E w=> ?_;rw [aa5 l];exact aa.step (aq _ _) (aa.some ⟨E,rfl,k,tk,tx,y,w,hnd⟩)
   obtain ⟨q,e,s',rfl,g⟩:=f;exact ⟨_,bE e,s',rfl,g,by omega⟩
theorem PN {n:Nat} (ih: ∀m,m<=n->IH m) (hn:n<=10000000):tX 175 (fun _=>[]) .neg (n+1):=by
 intro st p L x d r t r' hp j h;simp only [P] at h;refine aa.wide (aa.step (RE _ _) ?_);unfold XI;refine aa.alloc (Wd.begin hp) fun M _ w=> ?_;refine aa.is [[45],[45,46]] (by simp) w fun N w=> ?_;split at h
 .rename_i o;rw [o];refine aa.step (aq _ _) ?_;refine aa.take w fun k tk tx y s hnd f w=> ?_;refine aa.alloc w fun D _ w=>aa.two hnd ?_;refine aa.store [] w fun C E w=> ?_;refine aa.og (aag) w ?_;have O:=dH r;split at h
  .rename_i j;subst j;cases h;refine aa.node w (sG _ _ w.pz) rfl rfl fun k2 v z G H a A g=> ?_;have i:=w.vY g (aag) hnd (by omega);refine aa.step (mR (by rw [i];rfl) _) ?_;refine aa.two hnd (aa.two a (aa.fit hnd fun I b _ _=>aa.fit a fun J c _ _=> ?_));refine aa.Pt [_] (old:=z4) g rfl (sQ (GL b c) (by simp)) ?_;have:=vr pD (aS r);simp only [cM,cw,bm];omega
  .obtain ⟨⟨i,l⟩,e,h⟩:=bind_some h;obtain ⟨u,rfl⟩:=gZ _ _ _ _ _ _ e rfl;cases h;have B:=kU hn e rfl;refine aa.node w (xx (F:=175) (args:=[.mp p 0]) _ w.pz (by omega) rfl rfl (fun _ _=>rfl) fun s _ hp=>(ih n (aal _)).neg s p L x (d+1) _ u l hp (by omega) e) rfl rfl fun k2 v z G H a A g=> ?_;have i:=w.vY g (aag) hnd (by omega);refine aa.step (mR (by rw [i];rfl) _) ?_;refine aa.two hnd (aa.two a (aa.fit hnd fun I b _ _=>aa.fit a fun J c _ _=> ?_));refine aa.Pt [_] (old:=z4) g rfl (sQ (GL b c) (by simp)) ?_;simp only [cM,cw,bm];omega
 .rename_i o;rw [aa5 o];refine aa.step (ay _ _) ?_;obtain ⟨⟨i,l⟩,e,h⟩:=bind_some h;obtain ⟨u,rfl⟩:=gZ _ _ _ _ _ _ e rfl;have B:=kU hn e rfl;refine aa.node w ((ih n (aal _)).atom false _ p L x d r u l w.pz j e) rfl rfl fun k tk tx y s hnd f w=> ?_;refine aa.alloc w fun D _ w=>aa.two hnd ?_;refine aa.store [] w fun C E w=> ?_;refine aa.bind (L3 hn (fun m hm=>ih m (by omega)) rfl j n u t l r' C (aal _) h ⟨k,tk,tx,y,w,hnd⟩ (by omega)) ?_;rintro q ⟨Q,rfl,K,f⟩;exact aa.step (ae _) (K.fin (by omega))
def P4:AV:= .sl 2 [.agg [.sl 1 [.str [124,124]] .shut,.bool false],.agg [.sl 1 [.str [38,38]] .shut,.bool false],.agg [.sl 1 [.str [61],.str [60,62],.str [60],.str [60,61],.str [62],.str [62,61]] .shut,.bool true],.agg [.sl 1 [.str [64],.str [94]] .shut,.bool false],
 .agg [.sl 1 [.str [58,58]] .shut,.bool false],.agg [.sl 1 [.str [43],.str [45],.str [43,46],.str [45,46]] .shut,.bool true],.agg [.sl 1 [.str [42],.str [47],.str [42,46],.str [47,46],.str [109,111,100]] .shut,.bool true]] .shut
theorem Ho {β:Type} (st:St) (K:Kv β):bf (aQ vE) 174 [] st K=K P4 st q0:=aI st K rfl rfl rfl (aU rfl (R9.trans rfl))
theorem JI {k:Nat} (a:k<=6) {β:Type} (st:St) (K:AV->Ln->Oq β):bL 2 P4 (k:Int) st K=K (.ip [.sl 1 ((opsOf k).map AV.str) .shut,.bool (Parse.leftOf k)]) []:=by
 match k,a with
 | 0,_=>rfl
 | 1,_=>rfl
 | 2,_=>rfl
 | 3,_=>rfl
 | 4,_=>rfl
 | 5,_=>rfl
 | 6,_=>rfl
theorem Ng {n:Nat} (hn:n<=10000000) (ih: ∀m,m < n->IH m) {a b k:Nat} (l:k<=6) {c:St} (J:c.h=a) (O:d<=64): ∀(m:Nat) (acc t:T) (r r':List bc) (s:St),m<=n->P m (.ops k acc) d r=some ([t],r')->Nv PP st0 s p L x d r a b acc->iD acc+m<=900000000000000->
  aa (bl (tA (.mp p 0) (k:Int) P4 c) ([],s)) (fun q=> ∃s',q=(0,[],s')/\Nv PP st0 s' p L x d r' a b t/\iD t<=900000000000000):=by
 intro m
 induction m with
 | zero=>intro acc t r r' s _ h;cases h
 | succ m o=>
  intro acc t r r' s hm h Q hl;simp only [P] at h;obtain ⟨k1,tk,tx,y,w,hnd⟩:=Q;have hlen:(opsOf k).length<=1000:=by
   match k,l with
   | 0,_=>simp [opsOf]
   | 1,_=>simp [opsOf]
   | 2,_=>simp [opsOf]
   | 3,_=>simp [opsOf]
   | 4,_=>simp [opsOf]
   | 5,_=>simp [opsOf]
   | 6,_=>simp [opsOf]
  split at h
  .rename_i v;obtain ⟨⟨M,z⟩,A,h⟩:=bind_some h;obtain ⟨u,rfl⟩:=gZ _ _ _ _ _ _ A rfl;have R:=kU (by omega:m<=10000000) A rfl;have S:=dH r;have g:aa (tA (.mp p 0) (k:Int) P4 c ([],s)) (fun q=> ∃s',q= .inl ([],s')/\Nv PP st0 s' p L x d z a b (node 11 [acc,aV r,u])):=by
    simp only [tA,J,ae,JI l,nc,bj,aaw,vA,aR,ai,au];refine aa.is (opsOf k) hlen w fun N w=> ?_;rw [v];refine aa.step (ay _ _) ?_;refine aa.take w fun k' U V y' s6 f B w=> ?_;refine aa.alloc w fun s7 _ w=>aa.two f ?_;refine aa.store [] w fun C W w=> ?_;have e: ∀{β:Type} (K:cJ->Oq β),aC (bu (Parse.leftOf k) (bx (IntKind.wrap .i64 ((k:Int)+1)) fun D=>some ([AV.int .i64 D],C)) (some ([AV.int .i64 (k:Int)],C))) K=K ([.int .i64 ((if Parse.leftOf k then k+1 else k:Nat):Int)],C):=by
     intro β K;cases Parse.leftOf k with
     | true=>
      rw [ay,aF,ck (by omega),if_pos rfl];rfl
     | false=>
      rw [aq,if_neg (by simp)];rfl
    refine aa.step (e _) ?_;simp only [ab,af,ae];refine aa.og (a:=a) (aam _ aag) w ?_;refine aa.og (aag) w ?_;refine aa.node w ((ih m (by omega)).level _ (by split <;> omega) _ p L x d _ u z w.pz O A) rfl rfl fun k2 X Y y2 s9 j Z E=> ?_;have M:=w.vY E (aag) f B;have a2:=w.vY E (a:=a) (aam _ aag) hnd (by omega);refine aa.step (mR (by rw [M,a2];rfl) _) ?_;refine aa.two hnd (aa.two f (aa.two j (aa.fit hnd fun z1 F _ _=>aa.fit f fun z2 G _ _=>aa.fit j fun z3 H _ _=> ?_)));refine aa.store [_] E fun I W w=> ?_;exact aa.some ⟨I,rfl,11,0,[],_,w.sub Xj,sQ (OI F G H) (by simp)⟩
   obtain ⟨q,e,s',rfl,i⟩:=g;rw [bA e];refine o _ t z _ s' (by omega) h i ?_;simp only [cM,cw,bm];omega
  .rename_i v;cases h;have g:aa (tA (.mp p 0) (k:Int) P4 c ([],s)) (fun q=> ∃s',q= .inr (0,[],s')/\Nv PP st0 s' p L x d r a b acc):=by
    simp only [tA,J,ae,JI l,nc,bj,aaw,vA,aR,ai,au];refine aa.is (opsOf k) hlen w fun N w=> ?_;rw [aa5 v];exact aa.step (aq _ _) (aa.some ⟨N,rfl,k1,tk,tx,y,w,hnd⟩)
   obtain ⟨q,e,s',rfl,i⟩:=g;exact ⟨_,bE e,s',rfl,i,by omega⟩
theorem H3 {n:Nat} (ih: ∀m,m<=n->IH m) (hn:n<=10000000) (k:Nat) (o:k<=7):tX 166 (fun _=>[.int .i64 (k:Int)]) (.level k) (n+1):=by
 intro st p L x d r t r' hp b h;simp only [P] at h;refine aa.wide (aa.step (RP _ _ _) ?_);unfold Xf;refine aa.step (af _ _ _) (aa.alloc (Wd.begin hp) fun v _ w=> ?_);refine aa.step (Ho _ _) ?_;refine aa.step (Qk _ _ _ _) ?_;split at h
 .rename_i f;subst f;refine aa.step (ay _ _) ?_;exact aa.node w ((ih n (aal _)).neg _ p L x d r t r' w.pz b h) rfl rfl fun k tk tx y s hnd a w=>aa.res [] (old:=z4) w rfl hnd a
 .rename_i f;refine aa.step (fH (c:=false) (aaB.2 (show (k:Int)≠((7:Nat):Int) by omega)) _ _) (aa.step (aq _ _) ?_);rw [aF,ck (by omega)];obtain ⟨⟨z,g⟩,e,h⟩:=bind_some h;obtain ⟨u,rfl⟩:=gZ _ _ _ _ _ _ e rfl;have i:=kU hn e rfl;refine aa.node w ((ih n (aal _)).level (k+1) (by omega) _ p L x d r u g w.pz b e) rfl rfl fun k1 tk tx y s hnd a w=> ?_;refine aa.alloc w fun A _ w=>aa.two hnd ?_;refine aa.store [] w fun j B w=> ?_;refine aa.bind (Ng hn (fun m hm=>ih m (by omega)) (by omega:k<=6) rfl b n u t g r' j (aal _) h ⟨k1,tk,tx,y,w,hnd⟩ (by omega)) ?_;rintro q ⟨C,rfl,l,a⟩;exact aa.step (ae _) (l.fin (by omega))
end
section
variable {β:Type} {Q:β->Prop} {PT:Td} {st0 st s:St} {p:Nat} {L:List bc} {x:AV} {d d':Nat} {r r':List bc} {l l1 l2:List Vr} {os:List (AV×LA)} {t:T}
theorem Wd.made (w:Wd PT st0 st p L x d r l os) {es:LA} {n:Nat} (hn:n=es.length) (hl:n<=1000000000):Wd PT st0 (st.add (.tok n ND)) p L x d r l ((.sl 4 es (.own st.h),es)::os):=by
 subst hn;have w':=w.quiet (aZ.add st (.tok es.length ND) _);refine ⟨w'.pz,w'.k,w'.v,w'.nd,fun q a=> ?_,abm.2 ⟨fun q a j b c=> ?_,w'.od⟩,w.p0,w.ro0⟩
 .rcases aao.1 a with rfl | a
  .refine ⟨⟨abQ w.ro,by show es.length<=9223372036854775807;omega,.inr (.inr ⟨st.h,rfl,St.dZ,w.ro⟩)⟩,fun j b=> ?_⟩;obtain ⟨_,_,e⟩:=b;cases e;exact w.h
  .exact w'.o q a
 .obtain ⟨_,_,e⟩:=b;cases e;have:=(Ju (w.o q a).1 c).1;omega
def Sv (PT:Td) (st0 s:St) (p:Nat) (L:List bc) (x:AV) (d:Nat) (r:List bc) (v:AV) (ts:List T):Prop:= ∃es,Wd PT st0 s p L x d r [] [(v,es)]/\bI ts es/\gm ts<=1000000000000000
theorem Sv.app {v:AV} {ts:List T} (h:Sv PT st0 s p L x d r v ts) {F:FuncId} {args:LA} (a:NW PT F args s p L x d t r') (h1:vE.isLook F=false) (b:(bH (args.map strip)&& !vE.full F)=false) (hl:ts.length<=100000000) {K:AV->St->Oq β} (g: ∀v s,Sv PT st0 s p L x d r' v (ts++[t])->aa (K v s) Q):
  aa (bf (aQ vE) F args s fun u s _=>Fv u fun c e tx y=>ad y (ad y (aD y fun y=>ad y (aD y fun y=>eI 4 56 ND v [.agg [.int .u8 c,.int .u8 e,.str tx,y]] s fun v s _=>K v s)))) Q:=by
 obtain ⟨es,w,hs,m⟩:=h;refine aa.node w a h1 b fun n f i y s hn j w'=> ?_;refine aa.two hn (aa.fit hn fun y' k h1 hf=>aa.one h1 (aa.step (hf _) (aa.app w' (by simp) (by rw [bI.len hs];simp;omega) fun v' s' o ho l=> ?_)));exact g v' s' ⟨_,l,bI.app hs (yW k),by rw [dr,bJ];omega⟩
theorem Sv.pz {v:AV} {ts:List T} (h:Sv PT st0 s p L x d r v ts):Pz PT s p L x d r:=by
 obtain ⟨es,w,hs,a⟩:=h;exact w.pz
theorem Sv.dM {v:AV} {ts:List T} (pat:Bool) (h:Sv PP st0 s p L x d r v ts) {K:Bool->St->Fx->Oq β} (g: ∀s',Sv PP st0 s' p L x d r v ts->aa (K (dM pat r) s' ⟨[],.all s s'⟩) Q):
  aa (bf (aQ vE) 105 [.mp p 0,.int .u8 (ud pat:Int),.str (uy pat)] s fun v s a=>ct v fun b=>K b s a) Q:=by
 obtain ⟨es,w,hs,c⟩:=h;exact aa.dM pat w fun s' w'=>g s' ⟨es,w',hs,c⟩
theorem Gr {n:Nat} (ih: ∀m,m < n->IH m) (o:d<=64): ∀(m:Nat) (ts bs:List T) (r r':List bc) (v:AV) (s:St),m<=n->P m .params d r=some (bs,r')->Sv PP st0 s p L x d r v ts->ts.length+m<=100000000->
  aa (bl (wV (.mp p 0)) ([v],s)) (fun q=> ∃v' s',q=(0,[v'],s')/\Sv PP st0 s' p L x d r' v' (ts++bs)):=by
 intro m
 induction m with
 | zero=>intro ts bs r r' v s _ h;cases h
 | succ m f=>
  intro ts bs r r' v s hm h a hl;simp only [P] at h;split at h
  .rename_i g;obtain ⟨⟨A,i⟩,k,h⟩:=bind_some h;obtain ⟨u,rfl⟩:=gZ _ _ _ _ _ _ k rfl;obtain ⟨⟨t,r2⟩,w,h⟩:=bind_some h;cases h;have b:aa (wV (.mp p 0) ([v],s)) (fun q=> ∃v' s',q= .inl ([v'],s')/\Sv PP st0 s' p L x d i v' (ts++[u])):=by
    simp only [wV,ab,ae];refine a.dM true fun l a=> ?_;rw [g];refine aa.step (ay _ _) ?_;exact a.app ((ih m (by omega)).atom true _ p L x d r u i a.pz o k) rfl rfl (by omega) fun v' s' a=>aa.some ⟨v',s',rfl,a⟩
   obtain ⟨q,e,v',s',rfl,c⟩:=b;rw [bA e];refine (f _ t i _ v' s' (by omega) w c (by simp;omega)).mono ?_;rintro q ⟨y,z,rfl,j⟩;exact ⟨y,z,rfl,by simpa using j⟩
  .rename_i g;cases h;have b:aa (wV (.mp p 0) ([v],s)) (fun q=> ∃s',q= .inr (0,[v],s')/\Sv PP st0 s' p L x d r v ts):=by
    simp only [wV,ab,ae];refine a.dM true fun l a=> ?_;rw [aa5 g];exact aa.step (aq _ _) (aa.some ⟨l,rfl,a⟩)
   obtain ⟨q,e,s',rfl,c⟩:=b;exact ⟨_,bE e,v,s',rfl,by simpa using c⟩
theorem Eo {n:Nat} (ih: ∀m,m<=n->IH m) (hn:n<=10000000):PQ (n+1):=by
 intro st p L x d r ts r' hp B h;simp only [P] at h;refine aa.wide (aa.step (U8 _ _) ?_);unfold w67;refine aa.LI (Wd.begin hp) fun s1 w=> ?_;have dk:=dH r;refine aa.bind (R:=fun c=> ∃v s,c=([v],s)/\Sv PP st s p L x d (if eH eO r then aS r else r) v (if eH eO r then [aV r] else [])) ?_ ?_
 .cases I:eH eO r with
  | true=>
   refine aa.step (fH (c:=true) I _ _) (aa.step (ay _ _) ?_);refine aa.take w fun k tk tx y s hnd l w=> ?_;refine aa.two hnd (aa.fit hnd fun M f h1 hf=>aa.one h1 (aa.step (hf _) ?_));refine aa.some ⟨_,_,rfl,_,w.made rfl (by simp),yW f, ?_⟩;rw [if_pos rfl,bJ];exact l
  | false=>
   refine aa.step (fH (c:=false) I _ _) (aa.step (aq _ _) ?_);exact aa.some ⟨_,_,rfl,[],w.ax,bI.nil,by simp [bm]⟩
 generalize g:(if eH eO r then [aV r] else [])=rc at h;have N:rc.length<=1:=by rw [<- g];split <;> simp
 generalize (if eH eO r then aS r else r)=r0 at h;rintro c ⟨v,s,rfl,a⟩;simp only [ab,ae];obtain ⟨es,w,hs,C⟩:=a;refine aa.next w fun s2 O w=> ?_;refine aa.pS (aag) w rfl (aa.step (af _ _ _) ?_);have w:=w.sub (List.nil_sublist _);have D: ∃xs b es r2,P n .expr d (bp yu b)=some ([es],r2)/\ts=rc++xs++[dy yu b]++[es]/\r'=r2/\xs.length<=n+1/\
   (if (nx r0).1=4 then ∃ps,P n .params d (aS r0)=some (ps,b)/\xs=aV r0::ps else P n (.atom true) d r0=some (xs,b)):=by
  split at h
  .rename_i i;obtain ⟨⟨xs,b⟩,j,h⟩:=bind_some h;obtain ⟨⟨ps,Q⟩,A,j⟩:=bind_some j;cases j;obtain ⟨⟨es,r2⟩,e,h⟩:=bind_some h;obtain ⟨u,rfl⟩:=gZ _ _ _ _ _ _ e rfl;cases h;have:=va _ _ _ _ _ A;exact ⟨aV r0::ps,Q,u,_,e,rfl,rfl,by simpa using this,by rw [if_pos i];exact ⟨ps,A,rfl⟩⟩
  .rename_i i;obtain ⟨⟨xs,b⟩,j,h⟩:=bind_some h;obtain ⟨⟨es,r2⟩,e,h⟩:=bind_some h;obtain ⟨u,rfl⟩:=gZ _ _ _ _ _ _ e rfl;cases h;have:=qR j rfl;exact ⟨xs,b,u,_,e,rfl,rfl,by omega,by rw [if_neg i];exact j⟩
 clear h;obtain ⟨xs,b,u,r2,e,rfl,rfl,S,hx⟩:=D;have a:Sv PP st O p L x d r0 v rc:=⟨es,w,g ▸ hs,g ▸ C⟩;refine aa.bind (R:=fun c=> ∃v s,c=([v],s)/\Sv PP st s p L x d b v (rc++xs)) ?_ ?_
 .by_cases i:(nx r0).1=4
  .rw [if_pos i] at hx;obtain ⟨ps,A,rfl⟩:=hx;refine aa.step (fH (c:=true) (by rw [i];rfl) _ _) (aa.step (ay _ _) ?_);refine a.app (jL a.pz) rfl rfl (by omega) fun v' s' a=> ?_;refine aa.bind (Gr (fun m hm=>ih m (by omega)) B n _ ps _ b v' s' (aal _) A a (by simp;omega)) ?_;rintro q ⟨T,J,rfl,a⟩;simp only [ab,ae];exact aa.some ⟨T,J,rfl,by simpa using a⟩
  .rw [if_neg i] at hx;obtain ⟨U,rfl⟩:=gZ _ _ _ _ _ _ hx rfl;refine aa.step (fH (c:=false) (aaB.2 (by omega)) _ _) (aa.step (aq _ _) ?_);exact a.app ((ih n (aal _)).atom true _ p L x d r0 U b a.pz B hx) rfl rfl (by omega) fun v' s' a=>aa.some ⟨v',s',rfl,a⟩
 .rintro c ⟨v',J,rfl,V,w,t,E⟩;simp only [ab,ae];have W:=kU hn e rfl;refine aa.BX w fun k tk tx y s5 hnd l w=> ?_;refine aa.node w ((ih n (aal _)).expr _ p L x d _ u r' w.pz B e) rfl rfl fun k2 X Y y2 s6 z Z w=> ?_;refine aa.two hnd (aa.two z (aa.fit hnd fun M f h1 F=>aa.fit z fun z2 G h2 H=>aa.one h1 (aa.step (F _) (aa.one h2 (aa.step (H _) ?_)))));refine aa.app w (by simp) (by rw [bI.len t];simp;omega) fun v5 s7 fx ho w=> ?_;have K:=w.o _ aag;refine aa.some ⟨_,K.1,K.2, ?_, ?_,w.pz,w.k⟩
  .rw [aar (rc++xs)];exact bI.app t (GL f G)
  .have:=gW yu b;simp only [dr,bJ] at E ⊢;omega
end
section
variable {β:Type} {Q:β->Prop} {PT:Td} {st0 st s:St} {p:Nat} {L:List bc} {x:AV} {d d':Nat} {r r':List bc} {l l1 l2:List Vr} {os:List (AV×LA)} {t:T}
theorem Q2 {t:T} {e:AV} (h:ky t e) {β:Type} (K:AV->Oq β):Ml true e K=K e:=by
 cases t with
 | mk k tk tx l=>
  simp only [ky] at h;obtain ⟨x,es,rfl,hx,_⟩:=h;simp only [Ml,al,BE,MO,LM,hx.ad,Ol,Hh,Nf,hx.aD]
theorem L7 {t:T} {e:AV} (h:ky t e):e.cells.length=4:=by
 cases t with
 | mk k tk tx l=>
  simp only [ky] at h;obtain ⟨x,es,rfl,hx,_⟩:=h;rfl
theorem bI.mem: ∀{l:List T} {es:LA},bI l es-> ∀e∈es,∃t∈l,ky t e
 | [],_,h,e,he=>by simp only [bI] at h;subst h;cases he
 | t::l,_,h,e,he=>by
  simp only [bI] at h;obtain ⟨a,r,rfl,h1,b⟩:=h;rcases aao.1 he with rfl | he
  .exact ⟨t,aag,h1⟩
  .obtain ⟨u,c,hi⟩:=bI.mem b e he;exact ⟨u,aam _ c,hi⟩
theorem J1 {l:List T} {es:LA} (h:bI l es) {β:Type} (K:LA->Oq β):ou true es K=K es:=FM (fun v a K=>by
 obtain ⟨t,_,hi⟩:=h.mem v a;exact Q2 hi K) K
theorem FH {l:List T} {es:LA} (h:bI l es):nz 4 es=true:=I6 fun v a=>by
 obtain ⟨t,_,hi⟩:=h.mem v a;exact L7 hi
theorem NI (u:AV) (a o:Nat) (F:FuncId):(bH ([u,AV.mp a o].map strip)&& !vE.full F)=false:=by
 show (bH [strip u,.mp a o]&& _)=false;simp only [aJ];show (_&&(false&&true)&& _)=false;simp
theorem Vy (l1:List Vr) {a:Nat} {k tk:Int} {tx:LB} {v:AV} {es:LA} {ts us:List T} {u:AV} {fs:LA}
  (w:Wd PT st0 st p L x d r (l1++(a,ND,[.int .u8 k,.int .u8 tk,.str tx,v])::l2) ((v,es)::os)) (e:bI ts es) (i: ∀{γ:Type} (K:LA->Oq γ),oY u K=K fs) (c:bI us fs) (f:us≠[]) (hl:ts.length+us.length<=100000000):
  aa ((aQ vE).wide 164 [u,.mp a 0] st) (fun b=>b.1= .tup []/\ ∃v',Wd PT st0 b.2 p L x d r (l1++(a,ND,[.int .u8 k,.int .u8 tk,.str tx,v'])::l2) ((v',es++fs)::os)):=by
 have hm:(a,ND,[AV.int .u8 k,.int .u8 tk,.str tx,v])∈l1++(a,ND,[AV.int .u8 k,.int .u8 tk,.str tx,v])::l2:=List.mem_append_right _ aag;have g:=bI.len c;have j:=bI.len e;have h:fs≠[]:=by
  rintro rfl;cases us with
  | nil=>exact f rfl
  | cons _ _=>cases g
 refine aa.wide (aa.step (Q6 _ _ _) ?_);unfold Yi;refine aa.step (bw _ _ _ _) ?_;refine aa.pS hm w rfl ?_;refine aa.step (i _) (aa.step (J1 c _) (aa.step (mR (FH c) _) ?_));refine aa.app w h (by omega) fun v' s n ho w=> ?_;refine aa.step (bw _ _ _ _) (aa.one ho (aa.one ho ?_));exact aa.po l1 w (aah rfl) fun o l m=>aa.some ⟨rfl,v',m⟩
theorem Gv.add {a b k:Nat} {ts us:List T} {u:AV} {fs:LA} (h:Gv PT st0 s p L x d r a b k ts) (f: ∀{γ:Type} (K:LA->Oq γ),oY u K=K fs) (c:bI us fs) (e:us≠[]) (m:gm us<=1000000000000000) (hl:ts.length+us.length<=100000000) {K:Kv β} (g: ∀s i,Gv PT st0 s p L x d r a b k (ts++us)->aa (K (.tup []) s i) Q):
  aa (bf (aQ vE) 164 [u,.mp a 0] s K) Q:=by
 obtain ⟨v,es,w,hs,j⟩:=h;refine aa.gu (Vy [] w hs f c e hl) rfl (NI u a 0 _) fun n l h=> ?_;obtain ⟨rfl,v',w'⟩:=h;exact g l _ ⟨v',_,w',bI.app hs c,by rw [dr];omega⟩
theorem Gv.addN {a b k:Nat} {ts:List T} (h:Gv PT st0 s p L x d r a b k ts) {F:FuncId} {args:LA} (f:NW PT F args s p L x d t r') (h1:vE.isLook F=false) (i:(bH (args.map strip)&& !vE.full F)=false) (hl:ts.length+1<=100000000) {K:St->Oq β} (g: ∀s,Gv PT st0 s p L x d r' a b k (ts++[t])->aa (K s) Q):
  aa (bf (aQ vE) F args s fun u s _=>Fv u fun j l tx y=>ad y (ad y (aD y fun y=>bf (aQ vE) 164 [.sl 4 [.agg [.int .u8 j,.int .u8 l,.str tx,y]] .shut,.mp a 0] s fun _ s _=>K s))) Q:=by
 obtain ⟨v,es,w,hs,m⟩:=h;refine aa.node w f h1 i fun z n o y s hn c w'=> ?_;refine aa.two hn (aa.fit hn fun y' q h1 hf=> ?_);have e:Gv PT st0 s p L x d r' a b k ts:=⟨v,es,w',hs,m⟩;exact e.add (fun K=>rfl) (yW q) (by simp) (by rw [bJ];exact c) hl fun s A e=>g s e
theorem Gv.dM {a b k:Nat} {ts:List T} (pat:Bool) (h:Gv PP st0 s p L x d r a b k ts) {K:Bool->St->Fx->Oq β} (g: ∀s',Gv PP st0 s' p L x d r a b k ts->aa (K (dM pat r) s' ⟨[],.all s s'⟩) Q):
  aa (bf (aQ vE) 105 [.mp p 0,.int .u8 (ud pat:Int),.str (uy pat)] s fun v s c=>ct v fun b=>K b s c) Q:=by
 obtain ⟨v,es,w,hs,e⟩:=h;exact aa.dM pat w fun s' w'=>g s' ⟨v,es,w',hs,e⟩
theorem EP {n:Nat} (ih: ∀m,m < n->IH m) {a b k:Nat} {c:St} (v:c.h=a) (z:d<=64): ∀(m:Nat) (ts bs:List T) (r r':List bc) (s:St),m<=n->P m .params d r=some (bs,r')->Gv PP st0 s p L x d r a b k ts->ts.length+m<=100000000->
  aa (bl (tF (.mp p 0) c) ([],s)) (fun q=> ∃s',q=(0,[],s')/\Gv PP st0 s' p L x d r' a b k (ts++bs)):=by
 intro m
 induction m with
 | zero=>intro ts bs r r' s _ h;cases h
 | succ m j=>
  intro ts bs r r' s hm h f hl;simp only [P] at h;split at h
  .rename_i l;obtain ⟨⟨D,o⟩,w,h⟩:=bind_some h;obtain ⟨u,rfl⟩:=gZ _ _ _ _ _ _ w rfl;obtain ⟨⟨A,r2⟩,B,h⟩:=bind_some h;cases h;have g:aa (tF (.mp p 0) c ([],s)) (fun q=> ∃s',q= .inl ([],s')/\Gv PP st0 s' p L x d o a b k (ts++[u])):=by
    simp only [tF,ae,v];refine f.dM true fun y f=> ?_;rw [l];refine aa.step (ay _ _) ?_;exact f.addN ((ih m (by omega)).atom true _ p L x d r u o f.pz z w) rfl rfl (by omega) fun s' f=>aa.some ⟨s',rfl,f⟩
   obtain ⟨q,e,s',rfl,i⟩:=g;rw [bA e];refine (j _ A o _ s' (by omega) B i (by simp;omega)).mono ?_;rintro q ⟨C,rfl,t⟩;exact ⟨C,rfl,by simpa using t⟩
  .rename_i l;cases h;have g:aa (tF (.mp p 0) c ([],s)) (fun q=> ∃s',q= .inr (0,[],s')/\Gv PP st0 s' p L x d r a b k ts):=by
    simp only [tF,ae,v];refine f.dM true fun y f=> ?_;rw [aa5 l];exact aa.step (aq _ _) (aa.some ⟨y,rfl,f⟩)
   obtain ⟨q,e,s',rfl,i⟩:=g;exact ⟨_,bE e,s',rfl,by simpa using i⟩
theorem MG {n:Nat} (ih: ∀m,m < n->IH m) {a b k:Nat} {g:St} (w:g.h=a) (A:d<=64): ∀(m:Nat) (ts bs:List T) (r r':List bc) (s:St),m<=n->P m .arms d r=some (bs,r')->Gv PP st0 s p L x d r a b k ts->ts.length+2 * m<=100000000->
  aa (bl (tN (.mp p 0) g) ([],s)) (fun q=> ∃s',q=(0,[],s')/\Gv PP st0 s' p L x d r' a b k (ts++bs)):=by
 intro m
 induction m with
 | zero=>intro ts bs r r' s _ h;cases h
 | succ m l=>
  intro ts bs r r' s hm h f hl;simp only [P] at h;split at h
  .rename_i o;obtain ⟨⟨E,t⟩,y,h⟩:=bind_some h;obtain ⟨u,rfl⟩:=gZ _ _ _ _ _ _ y rfl;obtain ⟨⟨B,r2⟩,C,h⟩:=bind_some h;cases h;have i:aa (tN (.mp p 0) g ([],s)) (fun q=> ∃s',q= .inl ([],s')/\Gv PP st0 s' p L x d t a b k (ts++[aV r]++[u])):=by
    simp only [tN,ae,w];refine f.is fun z f=> ?_;refine aa.step (fH (c:=true) o _ _) (aa.step (ay _ _) ?_);refine f.addN (jL f.pz) rfl rfl (by omega) fun s' f=> ?_;exact f.addN ((ih m (by omega)).arm _ p L x d _ u t f.pz A y) rfl rfl (by simp;omega) fun s' f=>aa.some ⟨s',rfl,f⟩
   obtain ⟨q,e,s',rfl,j⟩:=i;rw [bA e];refine (l _ B t _ s' (by omega) C j (by simp;omega)).mono ?_;rintro q ⟨D,rfl,v⟩;exact ⟨D,rfl,by simpa using v⟩
  .rename_i o;cases h;have i:aa (tN (.mp p 0) g ([],s)) (fun q=> ∃s',q= .inr (0,[],s')/\Gv PP st0 s' p L x d r a b k ts):=by
    simp only [tN,ae,w];refine f.is fun z f=> ?_;exact aa.step (fH (c:=false) (aa5 o) _ _) (aa.step (aq _ _) (aa.some ⟨z,rfl,f⟩))
   obtain ⟨q,e,s',rfl,j⟩:=i;exact ⟨_,bE e,s',rfl,by simpa using j⟩
def Mid (n:Nat) (st s:St) (p:Nat) (L:List bc) (x:AV) (d a b:Nat) (t:T) (r':List bc):Prop:= ∃k ts e c,Gv PP st s p L x d c a b k ts/\P n .expr d c=some ([e],r')/\t=node k (ts++[e])/\ts.length<=50000000
def WR (M:St->Prop) (Q:AV×St->Prop):Sum cJ (AV×St)->Prop
 | .inl q=> ∃s,q=([],s)/\M s
 | .inr b=>Q b
def WR2 (M:St->Prop) (Q:AV×St->Prop):Sum cJ (Sum cJ (AV×St))->Prop
 | .inl q=> ∃s,q=([],s)/\M s
 | .inr b=>WR M Q b
theorem HX {n:Nat} (ih: ∀m,m<=n->IH m) (hn:n<=10000000):tX 147 (fun _=>[]) .whole (n+1):=by
 intro st p L x d r t r' hp j h;have D:iD t<=200000000000000:=by
  have:=Tp (n+1) .whole d r [t] r' h;rw [show dW lX.whole=[] from rfl,bm,bJ] at this;have hq:(n+1) * (n+1)<=10000001 * 10000001:=ab6 (by omega) (by omega);omega
 simp only [P] at h;refine aa.wide (aa.step (R1 _ _) ?_);unfold X3;refine aa.alloc (Wd.begin hp) fun B h0 w=> ?_;refine aa.alloc w fun s1 _ w=> ?_;refine aa.LI w fun s2 w=> ?_;have g:=ih n (aal _);have X:=dH r;refine aa.bind (R:=WR (fun s=>Mid n st s p L x d B.h st.h t r') (NQ PP st p L x d t r')) ?_ ?_
 .split at h
  .rename_i f;obtain ⟨⟨bs,r2⟩,o,h⟩:=bind_some h;obtain ⟨⟨es,H⟩,z,h⟩:=bind_some h;obtain ⟨e,rfl⟩:=gZ _ _ _ _ _ _ z rfl;cases h;refine aa.step (fH (c:=true) f _ _) (aa.step (ay _ _) ?_);refine aa.po [] w (aah rfl) fun V _ w=> ?_;have a:Gv PP st V p L x d r B.h st.h 6 []:=⟨_,_,w.ax,bI.nil,by simp [bm]⟩;refine a.addN (jL a.pz) rfl rfl (by simp) fun l a=> ?_;refine aa.gu (g.binding l p L x d _ bs r2 a.pz j o) rfl rfl fun v F Y=> ?_;obtain ⟨es,ho,_,N,O,Q,S⟩:=Y;have E:=yX _ _ _ _ _ o;have a:Gv PP st F p L x d r2 B.h st.h 6 ([]++[aV r]):=by
    obtain ⟨v,es,w,hs,j⟩:=a;exact ⟨v,es,w.move S Q,hs,j⟩
   refine a.add (fun K=>(Ft.own ho).elems K) N E.2 O (by simp;omega) fun T _ a=> ?_;refine a.addN (qU a.pz _) rfl rfl (by simp;omega) fun G a=> ?_;exact aa.some ⟨G,rfl,6,_,e,_,a,z,by simp [aar];rfl,by simp;omega⟩
  rename_i f;refine aa.step (fH (c:=false) (aa5 f) _ _) (aa.step (aq _ _) ?_);refine aa.LI w fun V w=> ?_;refine aa.bind (R:=WR2 (fun s=>Mid n st s p L x d B.h st.h t r') (NQ PP st p L x d t r')) ?_ ?_
  .split at h
   .rename_i f;obtain ⟨⟨W,i⟩,o,h⟩:=bind_some h;obtain ⟨u,rfl⟩:=gZ _ _ _ _ _ _ o rfl;obtain ⟨⟨ps,r2⟩,z,h⟩:=bind_some h;obtain ⟨⟨es,H⟩,C,h⟩:=bind_some h;obtain ⟨e,rfl⟩:=gZ _ _ _ _ _ _ C rfl;cases h;have Z:=va _ _ _ _ _ z;refine aa.step (fH (c:=true) f _ _) (aa.step (ay _ _) ?_);refine aa.po [] w (aah rfl) fun l _ w=> ?_;have a:Gv PP st l p L x d r B.h st.h 7 []:=⟨_,_,w.ax,bI.nil,by simp [bm]⟩;refine a.addN (jL a.pz) rfl rfl (by simp) fun l a=> ?_;refine a.addN (g.atom true _ p L x d _ u i a.pz j o) rfl rfl (by simp) fun F a=> ?_;refine aa.bind (EP (fun m hm=>ih m (by omega)) rfl j n _ ps _ r2 F (aal _) z a (by simp;omega)) ?_;rintro q ⟨T,rfl,a⟩;refine aa.step (ae _) ?_;refine a.addN (qU a.pz _) rfl rfl (by simp;omega) fun G a=> ?_;exact aa.some ⟨G,rfl,7,_,e,_,a,C,by simp [aar];rfl,by simp;omega⟩
   rename_i f;refine aa.step (fH (c:=false) (aa5 f) _ _) (aa.step (aq _ _) ?_);refine aa.LI w fun l w=> ?_;split at h
   .rename_i f;obtain ⟨⟨W,i⟩,o,h⟩:=bind_some h;obtain ⟨u,rfl⟩:=gZ _ _ _ _ _ _ o rfl;obtain ⟨⟨b1,r2⟩,z,h⟩:=bind_some h;obtain ⟨v,rfl⟩:=gZ _ _ _ _ _ _ z rfl;obtain ⟨⟨es,H⟩,C,h⟩:=bind_some h;obtain ⟨e,rfl⟩:=gZ _ _ _ _ _ _ C rfl;cases h;refine aa.step (fH (c:=true) f _ _) (aa.step (ay _ _) ?_);refine aa.po [] w (aah rfl) fun l _ w=> ?_;have a:Gv PP st l p L x d r B.h st.h 8 []:=⟨_,_,w.ax,bI.nil,by simp [bm]⟩;refine a.addN (jL a.pz) rfl rfl (by simp) fun l a=> ?_;refine a.addN (g.expr _ p L x d _ u i a.pz j o) rfl rfl (by simp) fun F a=> ?_;refine a.addN (qU a.pz _) rfl rfl (by simp) fun T a=> ?_;refine a.addN (g.expr _ p L x d _ v r2 a.pz j z) rfl rfl (by simp) fun G a=> ?_;refine a.addN (qU a.pz _) rfl rfl (by simp) fun M a=> ?_;exact aa.some ⟨M,rfl,8,_,e,_,a,C,rfl,by simp⟩
   rename_i f;refine aa.step (fH (c:=false) (aa5 f) _ _) (aa.step (aq _ _) ?_);refine aa.LI w fun F w=> ?_;split at h
   .rename_i f;obtain ⟨⟨W,i⟩,o,h⟩:=bind_some h;obtain ⟨u,rfl⟩:=gZ _ _ _ _ _ _ o rfl;obtain ⟨⟨b1,H⟩,z,h⟩:=bind_some h;obtain ⟨v,rfl⟩:=gZ _ _ _ _ _ _ z rfl;obtain ⟨⟨cs,r4⟩,C,h⟩:=bind_some h;cases h;have ar:=Nh _ _ _ _ _ C;refine aa.step (fH (c:=true) f _ _) (aa.step (ay _ _) ?_);refine aa.po [] w (aah rfl) fun l _ w=> ?_;have a:Gv PP st l p L x d r B.h st.h 9 []:=⟨_,_,w.ax,bI.nil,by simp [bm]⟩;refine a.addN (jL a.pz) rfl rfl (by simp) fun l a=> ?_;refine a.addN (g.expr _ p L x d _ u i a.pz j o) rfl rfl (by simp) fun F a=> ?_;refine a.addN (qU a.pz _) rfl rfl (by simp) fun T a=> ?_;refine a.is fun G a=> ?_;refine aa.bind (R:=fun c=> ∃s,c=([],s)/\Gv PP st s p L x d (if eH iF (bp bW i)=true then aS (bp bW i) else bp bW i) B.h st.h 9 ([aV r]++[u]++[dy bW i]++if eH iF (bp bW i)=true then [aV (bp bW i)] else [])) ?_ ?_
    .cases I:eH iF (bp bW i) with
     | true=>
      refine aa.step (fH (c:=true) I _ _) (aa.step (ay _ _) ?_);exact a.addN (jL a.pz) rfl rfl (by simp) fun M a=>aa.some ⟨M,rfl,a⟩
     | false=>
      refine aa.step (fH (c:=false) I _ _) (aa.step (aq _ _) ?_);exact aa.some ⟨G,rfl,by rw [if_neg (by simp),if_neg (by simp),aay];exact a⟩
    .rintro c ⟨M,rfl,a⟩;have E:(if eH iF (bp bW i)=true then [aV (bp bW i)] else []).length<=1:=by split <;> simp
     generalize (if eH iF (bp bW i)=true then [aV (bp bW i)] else [])=bar at E a D ⊢;refine aa.step (ae _) ?_;refine a.addN (g.arm _ p L x d _ v H a.pz j z) rfl rfl (by simp;omega) fun s9 a=> ?_;refine aa.bind (MG (fun m hm=>ih m (by omega)) rfl j n _ cs _ _ s9 (aal _) C a (by simp;omega)) ?_;rintro q ⟨av,rfl,a⟩;refine aa.step (ae _) ?_;refine a.nd.load fun k tk tx y w hnd=>aa.two hnd ?_;refine aa.store [_] w fun U _ w=> ?_;refine aa.bind (R:=fun c=> ∃b,c= .inr b/\NQ PP st p L x d _ _ b) (aa.bind (R:=NQ PP st p L x d (node 9 ([aV r]++[u]++[dy bW i]++bar++[v]++cs)) _) (aa.og (aam _ aag) w (aa.some ⟨hnd.vn,aaR D (by omega),w.pz,w.k⟩)) fun b f=>aa.some ⟨b,rfl,f⟩) ?_;rintro c ⟨b,rfl,f⟩;exact aa.some f
   .rename_i f;refine aa.step (fH (c:=false) (aa5 f) _ _) (aa.step (aq _ _) ?_);refine aa.node w (g.level 0 (by omega) _ p L x d r t r' w.pz j h) rfl rfl fun k tk tx y s hnd J w=>aa.two hnd ?_;refine aa.store [_] w fun U _ w=> ?_;refine aa.bind (R:=fun c=> ∃b,c= .inr b/\NQ PP st p L x d t r' b) (aa.bind (R:=NQ PP st p L x d t r') (aa.og (aam _ aag) w (aa.some ⟨hnd.vn,J,w.pz,w.k⟩)) fun b f=>aa.some ⟨b,rfl,f⟩) ?_;rintro c ⟨b,rfl,f⟩;exact aa.some f
  .intro c A
   match c,A with
   | .inl q,A=>
    obtain ⟨s,rfl,hm⟩:=A;exact aa.some ⟨s,rfl,hm⟩
   | .inr b,A=>exact aa.some A
 .intro c A
  match c,A with
  | .inl q,A=>
   obtain ⟨s,rfl,k,ts,e,H,a,he,rfl,hl⟩:=A;refine aa.step (bz _ _) (aa.step (ae _) ?_);refine a.addN (g.expr _ p L x d _ e r' a.pz j he) rfl rfl (by omega) fun l a=> ?_;exact a.nd.fin (aaR D (by omega))
  | .inr b,A=>exact aa.some A
theorem Fb: ∀n,n<=10000000->IH n:=by
 intro n
 induction n using Nat.strongRecOn with
 | _ n ih=>
  intro hn;cases n with
  | zero=>
   refine ⟨?_, ?_,fun k _=> ?_, ?_,fun pat=> ?_,fun list pat=> ?_, ?_, ?_, ?_⟩
   all_goals
    intro st p L x d r t r' _ _ h;cases h
  | succ n=>
   have b: ∀m,m<=n->IH m:=fun m hm=>ih m (by omega) (by omega);have i:=b n (aal _);have a:n<=10000000:=by omega
   exact ⟨MF i,HX b a,fun k c=>H3 b a k c,PN b a,fun pat=>Lr i pat,fun list pat=>F2 b a list pat,Fo i a,N9 i a,Eo b a⟩
end
end Go.Proofs.YtkbkbndajpbcjaaGreatDoor.Vm
