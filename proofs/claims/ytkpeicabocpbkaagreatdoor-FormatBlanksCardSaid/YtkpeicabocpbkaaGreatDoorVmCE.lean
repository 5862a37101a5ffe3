/-
  A part of the proof.
-/
import Derived.Test.YtkpeicabocpbkaaGreatDoorVmCC
import Derived.Test.YtkpeicabocpbkaaGreatDoorVmCD
import Derived.Test.YtkpeicabocpbkaaGreatDoorVmBH
import Derived.Test.YtkpeicabocpbkaaGreatDoorVmBE
import Derived.Test.YtkpeicabocpbkaaGreatDoorVmBJ
import Derived.Test.YtkpeicabocpbkaaGreatDoorVmBF
import Derived.Test.YtkpeicabocpbkaaGreatDoorRows
set_option maxRecDepth 1000000
set_option maxHeartbeats 0
set_option linter.all false
namespace Go.Proofs.YtkpeicabocpbkaaGreatDoor.Vm
open Go Go.VM Go.Proofs
abbrev tE {α:Type}:Tr α:= .node none .leaf .leaf
abbrev tyF:TI:=⟨.func,1,8,[.nilfn],false,false⟩
abbrev tyP (t:Td):TI:=⟨(.ptr t),1,8,[.nilp],false,false⟩
abbrev tyS (t:Td):TI:=⟨(.slice t),1,24,[.aD],false,false⟩
noncomputable def vT:TT:=Tr.of 8 (P0 Tryz.prog)
theorem V1:yp Tryz.prog vT:=WX (d:=8) rfl
def ZX:Ln:=[3,4,5,6,7,8,9,10,11,12,13,14,15,16,17,18,19,20,21,22,23,24,25,26,27,28,29,30,31,32,33,34,35,36,37,38,39,40,41,42,43,44,45,46,47,49,50,53,54,55,56,57,58,59,60,62,63,64,65,66,67,68,69,70,71,72,73,74,75,76,77,78,79,80,81,82,84,85,86,87,88,89,90,91,92,93,94,95,96,97,98,99,102,103,106,107,108,109,110,111,113,114,115,116,117,118,119,120,121,131,132,133,134,136,137,140,141,143,144,145,146,147,148,157,170,171,172,173,176,183,184,185,186]
noncomputable def vF:Tr Func:=Tr.of 8 (MF Tryz.prog ZX)
theorem XA: ∀f fn,vF.get f=some fn->W6 Tryz.prog f fn:=SQ (by kernel_rfl)
noncomputable def vP:List (Nat×Prim):=[(48,(.lib nk)),(51,(.lib jU)),(52,(.lib fY)),(61,(.builderString 5)),(104,(.lib iX)),(105,(.lib kE)),(112,(.lib (jG 172))),(127,(.copyCheck [(65,2,0),(66,2,0),(67,4,0),(68,4,0)])),(135,(.lib ir)),(142,(.lib kC)),(168,.indexByte)]
noncomputable def vG:Tr LA:=(.node (some (List.replicate 128 (.int .u8 240)++List.replicate 66 (.int .u8 241)++List.replicate 30 (.int .u8 2)++[.int .u8 19]++List.replicate 12 (.int .u8 3)++[.int .u8 35,.int .u8 3,.int .u8 3,.int .u8 52,.int .u8 4,.int .u8 4,.int .u8 4,.int .u8 68]++List.replicate 11 (.int .u8 241))) (.node (some ([.int .u8 128,.int .u8 191,.int .u8 160,.int .u8 191,.int .u8 128,.int .u8 159,.int .u8 144,.int .u8 191,.int .u8 128,.int .u8 143]++List.replicate 22 (.int .u8 0))) (.node (some (List.replicate 9 (.int .u8 0)++[.int .u8 1,.int .u8 1,.int .u8 1,.int .u8 1,.int .u8 1]++List.replicate 18 (.int .u8 0)++[.int .u8 1]++List.replicate 223 (.int .u8 0))) tE .leaf) (.node none tE .leaf)) (.node none (.node none tE .leaf) (.node (some [(.opq true)]) tE .leaf)))
noncomputable def vI:List (Nat×Ln):=[(6,[27]),(8,[27]),(12,[44]),(20,[27]),(21,[27]),(22,[27]),(23,[27]),(26,[44]),(47,[27]),(54,[44]),(58,[71]),(59,[44]),(64,[24]),(88,[27]),(116,[24])]
noncomputable def XJ:Ln:=[86,92]
noncomputable def WM:Ln:=[]
theorem Tf:dD Tryz.prog vT (fun b=>vG.get b) 48 (.lib nk):=LX Tryz.call48 fun s w h=>Any.Qg Tryz.lays150 (by kernel_rfl) s w h
theorem SB:dD Tryz.prog vT (fun b=>vG.get b) 51 (.lib jU):=HL (g3:=0) (g4:=1) Tryz.call51 (fun s w h hT=>Tryz.utf8_ValidString s w h hT) rfl rfl (by kernel_rfl) (by kernel_rfl)
theorem UK:dD Tryz.prog vT (fun b=>vG.get b) 52 (.lib fY):=BC Tryz.call52 fun s c w=>Tryz.strings_Contains_one s c w
theorem Ss:dD Tryz.prog vT (fun b=>vG.get b) 61 (.builderString 5):=tD ⟨Tryz.call61,Qj (by kernel_rfl),AY,IJ⟩
theorem Rt:dD Tryz.prog vT (fun b=>vG.get b) 104 (.lib iX):=Iy Tryz.call104 fun s w h=>Tryz.utf8_RuneCountInString s w h
theorem Q3:dD Tryz.prog vT (fun b=>vG.get b) 105 (.lib kE):=FA Tryz.call105 fun s c w h1 a=>Tryz.strings_Repeat s c w h1 a
theorem QT:dD Tryz.prog vT (fun b=>vG.get b) 112 (.lib (jG 172)):=Ld (g16:=6) (fun w w' h=>by rcases h with rfl | ⟨t,rfl⟩;exact Go.RowKit.Below.refl _ _;exact Lib.bytesWorld_below _ _ _) Tryz.call112 (fun s h1 v a w=>Tryz.strconv_Atoi_ok s h1 v a w) (fun s h1 a ev w c h4=>(Tryz.strconv_Atoi_range s h1 a ev w c h4).mono fun e w' ⟨N,d,_,_,f⟩=>⟨N,d,f⟩) rfl
theorem QL:dD Tryz.prog vT (fun b=>vG.get b) 127 (.copyCheck [(65,2,0),(66,2,0),(67,4,0),(68,4,0)]):=Ay ⟨Tryz.call127,M8,fun b o w e n h1 a c h4 d=>Me b o w e n h1 a c h4 (PA (by kernel_rfl) d)⟩
theorem QS:dD Tryz.prog vT (fun b=>vG.get b) 135 (.lib ir):=BH Tryz.call135 fun s c w h1 a=>Tryz.strings_TrimLeft s c w h1 a
theorem PQ:dD Tryz.prog vT (fun b=>vG.get b) 142 (.lib kC):=Fh (g3:=0) (g4:=1) Tryz.call142 (fun s w hT=>Tryz.utf8_DecodeRuneInString s w hT) rfl rfl (by kernel_rfl) (by kernel_rfl)
theorem PN:dD Tryz.prog vT (fun b=>vG.get b) 168 .indexByte:=AB (fun s c w=>by
 rw [run_callFunc_extern Tryz.func168 (by kernel_rfl) (by kernel_rfl) (by kernel_rfl) (e:=Extern.BytealgIndexByte.indexByte) (by kernel_rfl),Lib.run_indexByteString];rfl)
theorem Wt:Vb (fun f q=>dD Tryz.prog vT (fun b=>vG.get b) f q) vP:=⟨Tf,SB,UK,Ss,Rt,Q3,QT,QL,QS,PQ,PN,trivial⟩
noncomputable def vE:Env where
 T:=vT
 F i:=vF.get i
 prim i:=Gl vP i
 full i:=XJ.any fun j=>i.beq j
 isLook i:=WM.any fun j=>i.beq j
 imm f t:=match Gl vI f with
  | some l=>l.any fun j=>t.beq j
  | none=>false
 G b:=vG.get b
 memo _:=[]
theorem WH:Hh Tryz.prog vE:=⟨V1,fun f fn h=>XA f fn h,K0 fun f q h=>C4 Wt f q h,by kernel_rfl,(fun _ _ h=>by cases h),fun _ r _ _ h _=>absurd (show (none:Oq (LA->Oq AV))=some r from h) (by simp),fun _ r _ _ _ _ h=>absurd (show (none:Oq (LA->St->cY (AV×St)))=some r from h) (by simp)⟩
abbrev sZ:St:=St.mk 0 0 Tr.leaf
abbrev nA (a b:Int) (s:LB) (y:AV):AV:= .agg [.int .u8 a,.int .u8 b,.str s,y]
abbrev nC (a b:Int) (s:LB) (y:AV):LA:=[.int .u8 a,.int .u8 b,.str s,y]
abbrev dA (a:Int) (s:LB) (b:Int) (y:AV):AV:= .agg [.int .u8 a,.str s,.int .i64 b,y]
abbrev dC (a:Int) (s:LB) (b:Int) (y:AV):LA:=[.int .u8 a,.str s,.int .i64 b,y]
noncomputable abbrev da {β:Type} (z:Nat) (p:AV) (cs:LA) (st:St) (K:Kv β):Oq β:=bm (aY vE) z p (.agg cs) cs st K
noncomputable abbrev lV {β:Type} (p v:AV) (st:St) (K:Kv β):Oq β:=bm (aY vE) 1 p v [v] st K
noncomputable abbrev aR {β:Type} (f:FuncId) (a:LA) (st:St) (K:Kv β):Oq β:=aV (aY vE) f a st K
noncomputable def g7:AV->AV->Oq AV:=fun l m=>dN l fun n=>bj .i64 m fun a=>ax (aX (decide (a < 20)) (some ([.bool true],sZ)) (some ([.bool (decide (a > 200))],sZ))) fun c=>bg c.1 fun o p=>bG o fun q=>bB p (aX q (some (.tup [.str [],.int .i64 1])) (aR 11 [.str n] c.2 fun d b _=>gN d fun r=>cr r 0 fun s=>aP s fun t u v e=>(gN d fun w=>cr w 1 fun y=>bj .i64 y fun f=>bk (St.add b (.cells 44 (dC 0 [] 0 .aD))) fun z=>ab e (da 4 (.mp b.h 0) (dC t u v e) z fun _ g _=>aX (f != 0) (some (.tup [.str [],.int .i64 f])) (ar 4 true (.mp b.h 0) g fun x _=>aP x fun A B C D=>(aR 12 [dA A B C D,.int .i64 a] g fun i _ _=>gN i fun E=>cr E 0 fun F=>dN F fun j=>gN i fun G=>cr G 1 fun H=>bj .i64 H fun k=>aX (k != 0) (some (.tup [.str [],.int .i64 k])) (aX (decide ((↑j.length:Int) > 65536)) (some (.tup [.str [],.int .i64 40])) (some (.tup [.str j,.int .i64 0])))))))))
theorem Wc (a b:AV):bz vE 7 [a,b]=g7 a b:=by kernel_rfl
noncomputable def DD (l:AV) (m:Nat):bU->Oq (bU ⊕ Nat×bU):=fun a=>bg a.1 fun e n=>bg n fun o p=>bj .i64 o fun b=>bB p (aX (decide (b < (↑m:Int))) (dB 4 l b a.2 fun q _=>ar 4 true q a.2 fun r _=>ag r fun f g i c=>(bk (St.add a.2 (.cells 27 (nC 0 0 [] .aD))) fun s=>ab c (bm (aY vE) 4 (.mp (St.h a.2) 0) (nA f g i c) (nC f g i c) s fun _ j _=>ar 4 true (.mp (St.h a.2) 0) j fun t _=>ag t fun u v w y=>(aR 22 [nA u v w y] j fun z x _=>aP z fun A B C d=>(ab d (ab d (aB d fun k=>ab k (aB k fun D=>cq 4 56 44 e [dA A B C D] x fun E F _=>aN (IntKind.wrap .i64 (b+1)) fun G=>some (Sum.inl ([E,.int .i64 G],F)))))))))) (some (Sum.inr (0,[e],a.2))))
noncomputable def DK (f:AV) (g:Nat):bU->Oq (bU ⊕ Nat×bU):=fun a=>bg a.1 fun d h=>bg h fun i j=>bj .i64 i fun b=>bB j (aX (decide (b < (↑g:Int))) (dB 1 f b a.2 fun k _=>ar 1 false k a.2 fun l _=>dN l fun m=>aR 24 [.str m] a.2 fun n o _=>aP n fun p q r c=>(ab c (ab c (aB c fun e=>ab e (aB e fun s=>cq 4 56 44 d [dA p q r s] o fun t u _=>aN (IntKind.wrap .i64 (b+1)) fun v=>some (Sum.inl ([t,.int .i64 v],u))))))) (some (Sum.inr (0,[d],a.2))))
noncomputable def ES (o:AV) (b:St) (p:Nat):bU->Oq (bU ⊕ Nat×bU):=fun a=>bg a.1 fun q r=>bj .i64 q fun c=>bB r (aX (decide (c < (↑p:Int))) (dB 4 o c a.2 fun s _=>ar 4 true s a.2 fun t _=>aP t fun k l m e=>(bk (St.add a.2 (.cells 44 (dC 0 [] 0 .aD))) fun u=>ab e (bm (aY vE) 4 (.mp (St.h a.2) 0) (dA k l m e) (dC k l m e) u fun _ f _=>ax (aX (decide (c > 0)) (ar 1 false (.mp b.h 3) f fun v _=>cq 4 56 44 v [dA 4 [] 0 .aD] f fun g w _=>ab g (ab g (lV (.mp b.h 3) g w fun _ y _=>some ([],y)))) (some ([],f))) fun d=>bB d.1 (ar 1 false (.mp b.h 3) d.2 fun z _=>ar 4 true (.mp (St.h a.2) 0) d.2 fun x _=>aP x fun A B C i=>(ab i (ab i (aB i fun n=>ab n (aB n fun D=>cq 4 56 44 z [dA A B C D,dA 4 [] 0 .aD] d.2 fun j E _=>ab j (ab j (lV (.mp b.h 3) j E fun _ F _=>aN (IntKind.wrap .i64 (c+1)) fun G=>some (Sum.inl ([.int .i64 G],F)))))))))))) (some (Sum.inr (0,[],a.2))))
noncomputable def g11:AV->Oq AV:=fun w=>dN w fun y=>aR 19 [.str y] (St.mk 1 0 (.node (some (.cells 44 (dC 0 [] 0 .aD))) .leaf .leaf)) fun i a _=>gN i fun z=>cr z 0 fun x=>ag x fun A B C j=>(gN i fun D=>cr D 1 fun E=>bj .i64 E fun k=>bk (St.add a (.cells 27 (nC 0 0 [] .aD))) fun F=>ab j (da 4 (.mp a.h 0) (nC A B C j) F fun _ e _=>aX (k != 0) (da 4 (.mp 0 0) (dC 0 [] 0 .aD) e fun _ l _=>ar 4 true (.mp 0 0) l fun G _=>aP G fun H I J K=>(eQ l 0 (.tup [dA H I J K,.int .i64 k]) fun L=>some L)) (ar 4 true (.mp a.h 0) e fun M _=>ag M fun N O P Q=>(aR 20 [nA N O P Q] e fun R f _=>bG R fun S=>aX (!S) (da 4 (.mp 0 0) (dC 0 [] 0 .aD) f fun _ m _=>ar 4 true (.mp 0 0) m fun T _=>aP T fun U V W X=>(eQ m 0 (.tup [dA U V W X,.int .i64 50]) fun Y=>some Y)) (ar 4 true (.mp a.h 0) f fun Z _=>ag Z fun c6 c7 c8 c9=>(aR 21 [nA c6 c7 c8 c9] f fun d0 c _=>bG d0 fun d1=>aX d1 (da 4 (.mp 0 0) (dC 0 [] 0 .aD) c fun _ n _=>ar 4 true (.mp 0 0) n fun d2 _=>aP d2 fun d3 d4 d5 d6=>(eQ n 0 (.tup [dA d3 d4 d5 d6,.int .i64 4]) fun d7=>some d7)) (ar 1 false (.mp a.h 3) c fun d8 _=>fq d8 fun d9=>aN (IntKind.wrap .i64 ((↑d9:Int) - 1)) fun o=>ar 1 false (.mp a.h 3) c fun e0 _=>fw 4 e0 none (some o) none fun p=>fq p fun e1=>ax (aH (DD p e1) ([.aD,.int .i64 0],c)) fun b=>bg b.2.1 fun e2 e3=>bB e3 (ar 1 false (.mp a.h 3) b.2.2 fun e4 _=>dB 4 e4 o b.2.2 fun e5 _=>ar 4 true e5 b.2.2 fun e6 _=>ag e6 fun e7 e8 e9 f0=>(aR 23 [nA e7 e8 e9 f0] b.2.2 fun q f1 _=>fq q fun f2=>ax (aH (DK q f2) ([e2,.int .i64 0],f1)) fun r=>bg r.2.1 fun s f3=>bB f3 (aR 25 [.aD] r.2.2 fun f4 d _=>aP f4 fun f5 f6 f7 t=>(bk (St.add d (.cells 44 (dC 0 [] 0 .aD))) fun f8=>ab t (da 4 (.mp d.h 0) (dC f5 f6 f7 t) f8 fun _ f9 _=>fq s fun h0=>ax (aH (ES s d h0) ([.int .i64 0],f9)) fun g=>bB g.2.1 (ar 4 true (.mp d.h 0) g.2.2 fun h1 _=>aP h1 fun h2 h3 h4 u=>(ab u (da 4 (.mp 0 0) (dC h2 h3 h4 u) g.2.2 fun _ v _=>ar 4 true (.mp 0 0) v fun h5 _=>aP h5 fun h6 h7 h8 h9=>(eQ v 0 (.tup [dA h6 h7 h8 h9,.int .i64 0]) fun i0=>some i0))))))))))))))))
theorem SJ (a:AV):bz vE 11 [a]=g11 a:=by kernel_rfl
noncomputable def g21:AV->Oq AV:=fun g=>ag g fun h b c d=>(ab d (aB d fun a=>ax (aX (h==1) (aX (b==2) (cX (aY vE) (dy (Prim.lib nk) [.str c,.str [10,13]]) sZ fun i e _=>bG i fun j=>aX j (some ([.bool true],e)) (aR 46 [a,.fn (Fn.func 21) [] []] e fun k l _=>bG k fun m=>some ([.bool m],l))) (aX (b==7) (cX (aY vE) (dy (Prim.lib nk) [.str c,.str [10,13]]) sZ fun n f _=>bG n fun o=>aX o (some ([.bool true],f)) (aR 46 [a,.fn (Fn.func 21) [] []] f fun p q _=>bG p fun r=>some ([.bool r],q))) (aR 46 [a,.fn (Fn.func 21) [] []] sZ fun s t _=>bG s fun u=>some ([.bool u],t)))) (aR 46 [a,.fn (Fn.func 21) [] []] sZ fun v w _=>bG v fun y=>some ([.bool y],w))) fun z=>bg z.1 fun x A=>bG x fun B=>bB A (some (.bool B))))
theorem TU (a:AV):bz vE 21 [a]=g21 a:=by kernel_rfl
noncomputable def Hu (h:AV) (i:Nat):bU->Oq (bU ⊕ Nat×bU):=fun a=>bg a.1 fun e j=>bg j fun k l=>bj .i64 k fun b=>bB l (aX (decide (b < (↑i:Int))) (dB 1 h b a.2 fun m _=>ar 1 false m a.2 fun n _=>dN n fun o=>aR 24 [.str o] a.2 fun p q _=>aP p fun r s t c=>(aR 50 [] q fun u v _=>aP u fun w y z d=>(ab c (ab d (ab c (aB c fun f=>ab d (aB d fun g=>ab f (aB f fun x=>ab g (aB g fun A=>cq 4 56 44 e [dA r s t x,dA w y z A] v fun B C _=>aN (IntKind.wrap .i64 (b+1)) fun D=>some (Sum.inl ([B,.int .i64 D],C))))))))))) (some (Sum.inr (0,[e],a.2))))
noncomputable def g22:AV->Oq AV:=fun o=>ag o fun b p d e=>(ab e (aB e fun f=>aX (b != 1) (aR 49 [] (St.mk 1 0 (.node (some (.cells 44 (dC 0 [] 0 .aD))) .leaf .leaf)) fun q r a=>cg (apart a (⟨[],.kept⟩)&&true) (cg (apart a (⟨[],.kept⟩)&&true) (cX (aY vE) (jM (Env.T vE) 89 q (.int .u8 b) false) r fun s t g=>cg (apart g (⟨[],.kept⟩)&&(apart a (⟨[],.kept⟩)&&true)) (cg (apart g (⟨[],.kept⟩)&&(apart a (⟨[],.kept⟩)&&true)) (jx (aY vE) (Sx.prim (sx vE 22)) s [f] t fun u v _=>aP u fun w y z h=>(ab h (da 4 (.mp 0 0) (dC w y z h) v fun _ i _=>ar 4 true (.mp 0 0) i fun x _=>aP x fun A B C D=>(eQ i 0 (dA A B C D) fun E=>some E)))))))) (aR 23 [nA b p d f] (St.mk 1 0 (.node (some (.cells 44 (dC 0 [] 0 .aD))) .leaf .leaf)) fun j F _=>fq j fun G=>ax (aH (Hu j G) ([.aD,.int .i64 0],F)) fun k=>bg k.2.1 fun H I=>bB I (aR 24 [.str d] k.2.2 fun J K _=>aP J fun L M N c=>(ab c (ab c (aB c fun l=>ab l (aB l fun O=>cq 4 56 44 H [dA L M N O] K fun P Q _=>aR 25 [P] Q fun R S _=>aP R fun U V W m=>(ab m (da 4 (.mp 0 0) (dC U V W m) S fun _ n _=>ar 4 true (.mp 0 0) n fun X _=>aP X fun Y Z c6 c7=>(eQ n 0 (dA Y Z c6 c7) fun c8=>some c8)))))))))))
theorem NG (a:AV):bz vE 22 [a]=g22 a:=by kernel_rfl
noncomputable def H7 (k:AV) (l:Nat):bU->Oq (bU ⊕ Nat×bU):=fun a=>bg a.1 fun c m=>bg m fun n o=>bj .i64 n fun d=>bB o (aX (decide (d < (↑l:Int))) (dB 4 k d a.2 fun p _=>ar 4 true p a.2 fun q _=>ag q fun f g i e=>(bk (St.add a.2 (.cells 27 (nC 0 0 [] .aD))) fun r=>ab e (bm (aY vE) 4 (.mp (St.h a.2) 0) (nA f g i e) (nC f g i e) r fun _ b _=>ar 1 false (.mp (St.h a.2) 1) b fun s _=>bj .u8 s fun t=>ax (aX (t==2) (ar 1 false (.mp (St.h a.2) 2) b fun u _=>dN u fun v=>cq 1 16 9 c [.str v] b fun w y _=>some ([w],y)) (some ([c],b))) fun j=>bg j.1 fun z x=>bB x (aN (IntKind.wrap .i64 (d+1)) fun A=>some (Sum.inl ([z,.int .i64 A],j.2)))))) (some (Sum.inr (0,[c],a.2))))
noncomputable def g23:AV->Oq AV:=fun d=>ag d fun _ _ _ a=>(ab a (aB a fun b=>fq b fun e=>ax (aH (H7 b e) ([.aD,.int .i64 0],sZ)) fun c=>bg c.2.1 fun f g=>bB g (eQ c.2.2 0 (oneOf [f]) fun h=>some h)))
theorem U8 (a:AV):bz vE 23 [a]=g23 a:=by kernel_rfl
noncomputable def g24:AV->Oq AV:=fun a=>dN a fun b=>some (dA 1 b 0 .aD)
theorem UG (a:AV):bz vE 24 [a]=g24 a:=by kernel_rfl
noncomputable def Zp:AV->Oq AV:=fun a=>ab a (ab a (eQ (St.mk 1 0 (.node (some (.cells 44 (dC 7 [] 0 a))) .leaf .leaf)) 0 (dA 7 [] 0 a) fun b=>some b))
theorem TS (a:AV):bz vE 25 [a]=Zp a:=by kernel_rfl
noncomputable def Zv:Oq AV:=some (.im [(.int .u8 5,.fn (Fn.func 84) [] []),(.int .u8 7,.fn (Fn.func 84) [] []),(.int .u8 6,.fn (Fn.func 90) [] []),(.int .u8 8,.fn (Fn.func 91) [] []),(.int .u8 9,.fn (Fn.func 94) [] []),(.int .u8 10,.fn (Fn.func 95) [] []),(.int .u8 11,.fn (Fn.func 96) [] []),(.int .u8 12,.fn (Fn.func 97) [] []),(.int .u8 16,.fn (Fn.func 98) [] []),(.int .u8 13,.fn (Fn.func 99) [] []),(.int .u8 14,.fn (Fn.func 87) [] []),(.int .u8 15,.fn (Fn.func 87) [] []),(.int .u8 17,.fn (Fn.func 87) [] []),(.int .u8 18,.fn (Fn.func 87) [] [])])
theorem TF:bz vE 49 []=Zv:=by kernel_rfl
noncomputable def Z4:Oq AV:=some (dA 2 [] 0 .aD)
theorem UM:bz vE 50 []=Z4:=by kernel_rfl
noncomputable def Za:AV->Oq AV:=fun c=>aR 86 [c] (St.mk 1 0 (.node (some (.cells 44 (dC 0 [] 0 .aD))) .leaf .leaf)) fun d e _=>aR 85 [d] e fun f g _=>aP f fun h i j a=>(ab a (da 4 (.mp 0 0) (dC h i j a) g fun _ b _=>ar 4 true (.mp 0 0) b fun k _=>aP k fun l m n o=>(eQ b 0 (dA l m n o) fun p=>some p)))
theorem UD (a:AV):bz vE 84 [a]=Za a:=by kernel_rfl
noncomputable def ZL:AV->Oq AV:=fun a=>ab a (ab a (eQ (St.mk 1 0 (.node (some (.cells 44 (dC 6 [] 0 a))) .leaf .leaf)) 0 (dA 6 [] 0 a) fun b=>some b))
theorem SK (a:AV):bz vE 85 [a]=ZL a:=by kernel_rfl
noncomputable def Zc:AV->St->Oq (AV×St):=fun d st=>fq d fun n=>aN (IntKind.wrap .i64 ((↑n:Int) - 1)) fun l=>fw 4 d none (some l) none fun o=>aR 93 [] st fun p q a=>aP p fun r s t e=>(cg (apart (⟨[],.kept⟩) a&&(apart (⟨[],.kept⟩) a&&(apart (⟨[],.kept⟩) a&&true))) (ab e (ab e (aB e fun u=>aR 92 [o,.sl 4 [dA r s t u] .shut] q fun v w b=>aR 50 [] w fun y f c=>aP y fun z x A g=>(cg (apart c (⟨[],.kept⟩)&&(apart b (⟨[],.kept⟩)&&(apart a (⟨[],.kept⟩)&&true))) (cg (apart c (⟨[],.kept⟩)&&(apart b (⟨[],.kept⟩)&&(apart a (⟨[],.kept⟩)&&true))) (dB 4 d l f fun B h=>cg (apart c (Fx.mk h du.kept)&&(apart b (Fx.mk h du.kept)&&(apart a (Fx.mk h du.kept)&&true))) (ar 4 true B f fun C i=>ag C fun D E F G=>(cg (apart c (Fx.mk i du.kept)&&(apart b (Fx.mk i du.kept)&&(apart a (Fx.mk i du.kept)&&true))) (aR 22 [nA D E F G] f fun H I _=>aP H fun J K L j=>(ab g (ab j (ab g (aB g fun M=>ab j (aB j fun N=>aR 89 [.int .i64 2,.sl 4 [dA z x A M,dA J K L N] .shut] I fun O P _=>aP O fun Q R S k=>(ab k (ab k (aB k fun m=>ab m (aB m fun T=>cq 4 56 44 v [dA Q R S T] P fun U V _=>some (oneOf [U],V))))))))))))))))))))
theorem UX (a:AV) (st:St):cT vE 86 [a] st=Zc a st:=by kernel_rfl
noncomputable def Hn (r:AV) (s:Nat):bU->Oq (bU ⊕ Nat×bU):=fun a=>bg a.1 fun f t=>bg t fun u v=>bj .i64 u fun b=>bB v (aX (decide (b < (↑s:Int))) (dB 4 r b a.2 fun w _=>ar 4 true w a.2 fun y _=>ag y fun g i j c=>(bk (St.add a.2 (.cells 27 (nC 0 0 [] .aD))) fun z=>ab c (bm (aY vE) 4 (.mp (St.h a.2) 0) (nA g i j c) (nC g i j c) z fun _ k _=>ar 4 true (.mp (St.h a.2) 0) k fun x _=>ag x fun A B C D=>(aR 22 [nA A B C D] k fun E F _=>aP E fun G H I d=>(ab d (ab d (aB d fun l=>ab l (aB l fun J=>cq 4 56 44 f [dA G H I J] F fun m n _=>ar 4 true (.mp (St.h a.2) 0) n fun K _=>ag K fun L M N O=>(aR 88 [nA L M N O,.sl 1 [.str [44],.str [59]] .shut] n fun P o _=>bG P fun Q=>ax (aX Q (aR 50 [] o fun R S _=>aP R fun T U V e=>(ab e (ab e (aB e fun p=>ab p (aB p fun W=>cq 4 56 44 m [dA T U V W] S fun X Y _=>some ([X],Y)))))) (some ([m],o))) fun q=>bg q.1 fun Z c7=>bB c7 (aN (IntKind.wrap .i64 (b+1)) fun c8=>some (Sum.inl ([Z,.int .i64 c8],q.2)))))))))))) (some (Sum.inr (0,[f],a.2))))
noncomputable def Y8:AV->Oq AV:=fun c=>fq c fun n=>aN (IntKind.wrap .i64 ((↑n:Int) - 1)) fun o=>fw 4 c (some 1) (some o) none fun i=>fq i fun p=>ax (aH (Hn i p) ([.aD,.int .i64 0],St.mk 1 0 (.node (some (.cells 44 (dC 0 [] 0 .aD))) .leaf .leaf))) fun d=>bg d.2.1 fun q r=>bB r (dB 4 c 0 d.2.2 fun s _=>ar 4 true s d.2.2 fun t _=>ag t fun u v w y=>(aR 22 [nA u v w y] d.2.2 fun z x a=>aP z fun A B C e=>(cg (apart a (⟨[],.kept⟩)&&true) (aR 89 [.int .i64 1,q] x fun D f b=>aP D fun E F G g=>(cg (apart b (⟨[],.kept⟩)&&(apart a (⟨[],.kept⟩)&&true)) (cg (apart b (⟨[],.kept⟩)&&(apart a (⟨[],.kept⟩)&&true)) (fq c fun H=>cg (apart b (⟨[],.kept⟩)&&(apart a (⟨[],.kept⟩)&&true)) (aN (IntKind.wrap .i64 ((↑H:Int) - 1)) fun I=>cg (apart b (⟨[],.kept⟩)&&(apart a (⟨[],.kept⟩)&&true)) (dB 4 c I f fun J j=>cg (apart b (Fx.mk j du.kept)&&(apart a (Fx.mk j du.kept)&&true)) (ar 4 true J f fun K k=>ag K fun L M N O=>(cg (apart b (Fx.mk k du.kept)&&(apart a (Fx.mk k du.kept)&&true)) (aR 22 [nA L M N O] f fun P Q _=>aP P fun R S T h=>(ab e (ab g (ab h (ab e (aB e fun U=>ab g (aB g fun V=>ab h (aB h fun W=>aR 85 [.sl 4 [dA A B C U,dA E F G V,dA R S T W] .shut] Q fun X Y _=>aP X fun Z c7 c8 l=>(ab l (da 4 (.mp 0 0) (dC Z c7 c8 l) Y fun _ m _=>ar 4 true (.mp 0 0) m fun c9 _=>aP c9 fun d0 d1 d2 d3=>(eQ m 0 (dA d0 d1 d2 d3) fun d4=>some d4))))))))))))))))))))))
theorem SL (a:AV):bz vE 87 [a]=Y8 a:=by kernel_rfl
noncomputable def YU:AV->AV->Oq AV:=fun b c=>ag b fun d e f a=>(ab a (aB a fun _=>ax (aX (d==1) (aX (e==8) (aR 117 [c,.str f] sZ fun g h _=>bG g fun i=>some ([.bool i],h)) (some ([.bool false],sZ))) (some ([.bool false],sZ))) fun j=>bg j.1 fun k l=>bG k fun m=>bB l (some (.bool m))))
theorem Tn (a b:AV):bz vE 88 [a,b]=YU a b:=by kernel_rfl
noncomputable def Y2:AV->AV->Oq AV:=fun c a=>bj .i64 c fun b=>ab a (ab a (eQ (St.mk 1 0 (.node (some (.cells 44 (dC 5 [] b a))) .leaf .leaf)) 0 (dA 5 [] b a) fun d=>some d))
theorem UJ (a b:AV):bz vE 89 [a,b]=Y2 a b:=by kernel_rfl
noncomputable def Zq:AV->Oq AV:=fun e=>fq e fun w=>aN (IntKind.wrap .i64 ((↑w:Int) - 2)) fun h=>fw 4 e none (some h) none fun y=>aR 86 [y] (St.mk 1 0 (.node (some (.cells 44 (dC 0 [] 0 .aD))) .leaf .leaf)) fun z x a=>aR 50 [] x fun A i b=>aP A fun B C D j=>(cg (apart b (⟨[],.kept⟩)&&(apart a (⟨[],.kept⟩)&&true)) (cg (apart b (⟨[],.kept⟩)&&(apart a (⟨[],.kept⟩)&&true)) (dB 4 e h i fun E o=>cg (apart b (Fx.mk o du.kept)&&(apart a (Fx.mk o du.kept)&&true)) (ar 4 true E i fun F p=>ag F fun G H I J=>(cg (apart b (Fx.mk p du.kept)&&(apart a (Fx.mk p du.kept)&&true)) (aR 22 [nA G H I J] i fun K L c=>aP K fun M N O k=>(aR 50 [] L fun P l d=>aP P fun Q R S m=>(cg (apart d (⟨[],.kept⟩)&&(apart c (⟨[],.kept⟩)&&(apart b (⟨[],.kept⟩)&&(apart a (⟨[],.kept⟩)&&true)))) (cg (apart d (⟨[],.kept⟩)&&(apart c (⟨[],.kept⟩)&&(apart b (⟨[],.kept⟩)&&(apart a (⟨[],.kept⟩)&&true)))) (aN (IntKind.wrap .i64 (h+1)) fun T=>cg (apart d (⟨[],.kept⟩)&&(apart c (⟨[],.kept⟩)&&(apart b (⟨[],.kept⟩)&&(apart a (⟨[],.kept⟩)&&true)))) (dB 4 e T l fun U f=>cg (apart d (Fx.mk f du.kept)&&(apart c (Fx.mk f du.kept)&&(apart b (Fx.mk f du.kept)&&(apart a (Fx.mk f du.kept)&&true)))) (ar 4 true U l fun V g=>ag V fun W X Y Z=>(cg (apart d (Fx.mk g du.kept)&&(apart c (Fx.mk g du.kept)&&(apart b (Fx.mk g du.kept)&&(apart a (Fx.mk g du.kept)&&true)))) (aR 22 [nA W X Y Z] l fun c6 c7 _=>aP c6 fun c8 c9 d0 n=>(ab j (ab k (ab m (ab n (ab j (aB j fun q=>ab k (aB k fun r=>ab m (aB m fun s=>ab n (aB n fun t=>ab q (aB q fun d1=>ab r (aB r fun d2=>ab s (aB s fun d3=>ab t (aB t fun d4=>cq 4 56 44 z [dA B C D d1,dA M N O d2,dA Q R S d3,dA c8 c9 d0 d4] c7 fun d5 d6 _=>aR 85 [d5] d6 fun d7 d8 _=>aP d7 fun d9 e0 e1 u=>(ab u (da 4 (.mp 0 0) (dC d9 e0 e1 u) d8 fun _ v _=>ar 4 true (.mp 0 0) v fun e2 _=>aP e2 fun e3 e4 e5 e6=>(eQ v 0 (dA e3 e4 e5 e6) fun e7=>some e7))))))))))))))))))))))))))))))
theorem Uh (a:AV):bz vE 90 [a]=Zq a:=by kernel_rfl
noncomputable def ZE:AV->Oq AV:=fun h=>aR 93 [] (St.mk 1 0 (.node (some (.cells 44 (dC 0 [] 0 .aD))) .leaf .leaf)) fun i j _=>aP i fun k l m a=>(aR 50 [] j fun n o _=>aP n fun p q r b=>(aR 93 [] o fun s t _=>aP s fun u v w c=>(aR 50 [] t fun y z _=>aP y fun x A B d=>(aR 93 [] z fun C D _=>aP C fun E F G e=>(ab a (ab b (ab c (ab d (ab e (ab a (aB a fun H=>ab b (aB b fun I=>ab c (aB c fun J=>ab d (aB d fun K=>ab e (aB e fun L=>aR 92 [h,.sl 4 [dA k l m H,dA p q r I,dA u v w J,dA x A B K,dA E F G L] .shut] D fun M N _=>aR 85 [M] N fun O P _=>aP O fun Q R S f=>(ab f (da 4 (.mp 0 0) (dC Q R S f) P fun _ g _=>ar 4 true (.mp 0 0) g fun T _=>aP T fun U V W X=>(eQ g 0 (dA U V W X) fun Y=>some Y))))))))))))))))))
theorem Uq (a:AV):bz vE 91 [a]=ZE a:=by kernel_rfl
noncomputable def Ik (r:AV) (j:AV) (s:Nat):bU->Oq (bU ⊕ Nat×bU):=fun a=>bg a.1 fun d t=>bg t fun u v=>bj .i64 u fun b=>bB v (aX (decide (b < (↑s:Int))) (dB 4 r b a.2 fun w _=>ar 4 true w a.2 fun y _=>ag y fun k l m e=>(bk (St.add a.2 (.cells 27 (nC 0 0 [] .aD))) fun z=>ab e (bm (aY vE) 4 (.mp (St.h a.2) 0) (nA k l m e) (nC k l m e) z fun _ c _=>ax (aX (decide (b > 0)) (aN (IntKind.wrap .i64 (b - 1)) fun n=>fq j fun x=>aN (IntKind.wrap .i64 ((↑x:Int) - 1)) fun o=>aN (if o < n then o else n) fun A=>dB 4 j A c fun B _=>ar 4 true B c fun C _=>aP C fun D E F f=>(ab f (ab f (aB f fun p=>ab p (aB p fun G=>cq 4 56 44 d [dA D E F G] c fun H I _=>some ([H],I)))))) (some ([d],c))) fun g=>bg g.1 fun J K=>bB K (ar 4 true (.mp (St.h a.2) 0) g.2 fun L _=>ag L fun M N O P=>(aR 22 [nA M N O P] g.2 fun Q R _=>aP Q fun S T U i=>(ab i (ab i (aB i fun q=>ab q (aB q fun V=>cq 4 56 44 J [dA S T U V] R fun W X _=>aN (IntKind.wrap .i64 (b+1)) fun Y=>some (Sum.inl ([W,.int .i64 Y],X))))))))))) (some (Sum.inr (0,[d],a.2))))
noncomputable def ZF:AV->AV->St->Oq (AV×St):=fun a c st=>fq a fun d=>ax (aH (Ik a c d) ([.aD,.int .i64 0],st)) fun b=>bg b.2.1 fun e f=>bB f (some (oneOf [e],Prod.snd b.2))
theorem TW (a b:AV) (st:St):cT vE 92 [a,b] st=ZF a b st:=by kernel_rfl
noncomputable def HT (d:AV):bU->Oq (bU ⊕ Nat×bU):=fun e=>bg e.1 fun j q=>bg q fun r s=>bj .i64 r fun b=>bB s (fq d fun t=>aX (decide (b < (↑t:Int))) (aR 50 [] e.2 fun u c _=>aP u fun v w y k=>(bk (St.add c (.cells 44 (dC 0 [] 0 .aD))) fun z=>ab k (da 4 (.mp c.h 0) (dC v w y k) z fun _ f _=>aN (IntKind.wrap .i64 (b - 1)) fun x=>dB 4 d x f fun A _=>ar 4 true A f fun B _=>ag B fun C D E F=>(aR 88 [nA C D E F,.sl 1 [.str [124]] .shut] f fun G l _=>bG G fun H=>ax (aX H (aR 93 [] l fun I J _=>aP I fun K L M m=>(ab m (da 4 (.mp c.h 0) (dC K L M m) J fun _ N _=>some ([],N)))) (some ([],l))) fun a=>bB a.1 (ar 4 true (.mp c.h 0) a.2 fun O P=>aP O fun Q R S g=>(dB 4 d b a.2 fun T _=>ar 4 true T a.2 fun U _=>ag U fun V W X Y=>(aR 22 [nA V W X Y] a.2 fun Z c7 n=>aP Z fun c8 c9 d0 i=>(cg (apart (Fx.mk P du.kept) n&&(apart (⟨[],.kept⟩) n&&true)) (ab g (ab i (ab g (aB g fun o=>ab i (aB i fun p=>ab o (aB o fun d1=>ab p (aB p fun d2=>cq 4 56 44 j [dA Q R S d1,dA c8 c9 d0 d2] c7 fun d3 d4 _=>aN (IntKind.wrap .i64 (b+1)) fun d5=>some (Sum.inl ([d3,.int .i64 d5],d4))))))))))))))))) (some (Sum.inr (0,[j],e.2))))
noncomputable def Zs:AV->Oq AV:=fun b=>fw 4 b none (some 3) none fun g=>aR 93 [] (St.mk 1 0 (.node (some (.cells 44 (dC 0 [] 0 .aD))) .leaf .leaf)) fun h i c=>aP h fun j k l a=>(cg (apart (⟨[],.kept⟩) c&&(apart (⟨[],.kept⟩) c&&true)) (ab a (ab a (aB a fun m=>aR 92 [g,.sl 4 [dA j k l m] .shut] i fun n o _=>ax (aH (HT b) ([n,.int .i64 3],o)) fun d=>bg d.2.1 fun p q=>bB q (aR 85 [p] d.2.2 fun r s _=>aP r fun t u v e=>(ab e (da 4 (.mp 0 0) (dC t u v e) s fun _ f _=>ar 4 true (.mp 0 0) f fun w _=>aP w fun y z x A=>(eQ f 0 (dA y z x A) fun B=>some B))))))))
theorem Ur (a:AV):bz vE 94 [a]=Zs a:=by kernel_rfl
noncomputable def Zk:AV->Oq AV:=fun k=>fw 4 k none (some 2) none fun o=>aR 93 [] (St.mk 1 0 (.node (some (.cells 44 (dC 0 [] 0 .aD))) .leaf .leaf)) fun p q a=>aP p fun r s t b=>(cg (apart (⟨[],.kept⟩) a&&(apart (⟨[],.kept⟩) a&&true)) (ab b (ab b (aB b fun u=>aR 92 [o,.sl 4 [dA r s t u] .shut] q fun v w c=>aR 50 [] w fun y d e=>aP y fun z x A f=>(cg (apart e (⟨[],.kept⟩)&&(apart c (⟨[],.kept⟩)&&(apart a (⟨[],.kept⟩)&&true))) (dB 4 k 2 d fun B g=>cg (apart e (Fx.mk g du.kept)&&(apart c (Fx.mk g du.kept)&&(apart a (Fx.mk g du.kept)&&true))) (ar 4 true B d fun C h=>ag C fun D E F G=>(cg (apart e (Fx.mk h du.kept)&&(apart c (Fx.mk h du.kept)&&(apart a (Fx.mk h du.kept)&&true))) (aR 22 [nA D E F G] d fun H I _=>aP H fun J K L i=>(ab f (ab i (ab f (aB f fun M=>ab i (aB i fun N=>aR 89 [.int .i64 4,.sl 4 [dA z x A M,dA J K L N] .shut] I fun O P _=>aP O fun Q R S j=>(ab j (ab j (aB j fun l=>ab l (aB l fun T=>cq 4 56 44 v [dA Q R S T] P fun U V _=>aR 85 [U] V fun W X _=>aP W fun Y Z c7 m=>(ab m (da 4 (.mp 0 0) (dC Y Z c7 m) X fun _ n _=>ar 4 true (.mp 0 0) n fun c8 _=>aP c8 fun c9 d0 d1 d2=>(eQ n 0 (dA c9 d0 d1 d2) fun d3=>some d3)))))))))))))))))))))
theorem Vg (a:AV):bz vE 95 [a]=Zk a:=by kernel_rfl
noncomputable def Zu:AV->Oq AV:=fun e=>aR 50 [] (St.mk 1 0 (.node (some (.cells 44 (dC 0 [] 0 .aD))) .leaf .leaf)) fun f g _=>aP f fun h i j a=>(aR 93 [] g fun k l _=>aP k fun m n o b=>(ab a (ab b (ab a (aB a fun p=>ab b (aB b fun q=>aR 92 [e,.sl 4 [dA h i j p,dA m n o q] .shut] l fun r s _=>aR 85 [r] s fun t u _=>aP t fun v w y c=>(ab c (da 4 (.mp 0 0) (dC v w y c) u fun _ d _=>ar 4 true (.mp 0 0) d fun z _=>aP z fun x A B C=>(eQ d 0 (dA x A B C) fun D=>some D)))))))))
theorem TY (a:AV):bz vE 96 [a]=Zu a:=by kernel_rfl
noncomputable def Zi:AV->Oq AV:=fun d=>aR 93 [] (St.mk 1 0 (.node (some (.cells 44 (dC 0 [] 0 .aD))) .leaf .leaf)) fun e f _=>aP e fun g h i a=>(ab a (ab a (aB a fun j=>aR 92 [d,.sl 4 [dA g h i j] .shut] f fun k l _=>aR 25 [k] l fun m n _=>aP m fun o p q b=>(ab b (da 4 (.mp 0 0) (dC o p q b) n fun _ c _=>ar 4 true (.mp 0 0) c fun r _=>aP r fun s t u v=>(eQ c 0 (dA s t u v) fun w=>some w))))))
theorem S4 (a:AV):bz vE 97 [a]=Zi a:=by kernel_rfl
noncomputable def Zd:AV->Oq AV:=fun d=>aR 93 [] (St.mk 1 0 (.node (some (.cells 44 (dC 0 [] 0 .aD))) .leaf .leaf)) fun e f _=>aP e fun g h i a=>(ab a (ab a (aB a fun j=>aR 92 [d,.sl 4 [dA g h i j] .shut] f fun k l _=>aR 25 [k] l fun m n _=>aP m fun o p q b=>(ab b (da 4 (.mp 0 0) (dC o p q b) n fun _ c _=>ar 4 true (.mp 0 0) c fun r _=>aP r fun s t u v=>(eQ c 0 (dA s t u v) fun w=>some w))))))
theorem SW (a:AV):bz vE 98 [a]=Zd a:=by kernel_rfl
noncomputable def ZO:AV->Oq AV:=fun h=>dB 4 h 0 (St.mk 1 0 (.node (some (.cells 44 (dC 0 [] 0 .aD))) .leaf .leaf)) fun m _=>ar 4 true m (St.mk 1 0 (.node (some (.cells 44 (dC 0 [] 0 .aD))) .leaf .leaf)) fun n _=>ag n fun o p q r=>(aR 22 [nA o p q r] (St.mk 1 0 (.node (some (.cells 44 (dC 0 [] 0 .aD))) .leaf .leaf)) fun s t a=>aP s fun u v w b=>(aR 50 [] t fun y c d=>aP y fun z x A e=>(cg (apart d (⟨[],.kept⟩)&&(apart a (⟨[],.kept⟩)&&true)) (dB 4 h 1 c fun B i=>cg (apart d (Fx.mk i du.kept)&&(apart a (Fx.mk i du.kept)&&true)) (ar 4 true B c fun C j=>ag C fun D E F G=>(cg (apart d (Fx.mk j du.kept)&&(apart a (Fx.mk j du.kept)&&true)) (aR 22 [nA D E F G] c fun H I _=>aP H fun J K L f=>(ab e (ab f (ab e (aB e fun M=>ab f (aB f fun N=>aR 89 [.int .i64 2,.sl 4 [dA z x A M,dA J K L N] .shut] I fun O P _=>aP O fun Q R S g=>(ab b (ab g (ab b (aB b fun T=>ab g (aB g fun U=>aR 85 [.sl 4 [dA u v w T,dA Q R S U] .shut] P fun V W _=>aP V fun X Y Z k=>(ab k (da 4 (.mp 0 0) (dC X Y Z k) W fun _ l _=>ar 4 true (.mp 0 0) l fun c7 _=>aP c7 fun c8 c9 d0 d1=>(eQ l 0 (dA c8 c9 d0 d1) fun d2=>some d2))))))))))))))))))))
theorem Vf (a:AV):bz vE 99 [a]=ZO a:=by kernel_rfl
noncomputable def zv (c:AV):bU->Oq (bU ⊕ Nat×bU):=fun a=>bg a.1 fun f g=>bG f fun d=>bg g fun h i=>bj .i64 h fun b=>bB i (fq c fun j=>aX (decide (b < (↑j:Int))) (dB 4 c b a.2 fun k _=>ar 4 true k a.2 fun l _=>ag l fun m n o p=>(aR 6 [nA m n o p] a.2 fun q e _=>bG q fun r=>aX (!r) (some (Sum.inr (1,[.bool false],e))) (aN (IntKind.wrap .i64 (b+1)) fun s=>some (Sum.inl ([.bool d,.int .i64 s],e))))) (some (Sum.inr (0,[.bool d],a.2))))
noncomputable def g6:AV->Oq AV:=fun e=>ag e fun a f _ b=>(ab b (aB b fun g=>ax (aX (a==2) (some ([.bool true],sZ)) (aX (a==3) (some ([.bool true],sZ)) (aX (a==1) (some ([.bool (f==9)],sZ)) (some ([.bool false],sZ))))) fun c=>bg c.1 fun h i=>bG h fun j=>bB i (aX j (some (.bool false)) (ax (aH (zv g) ([.bool false,.int .i64 0],c.2)) fun d=>bg d.2.1 fun k l=>bG k fun m=>bB l (mR d.1 (some (.bool true)) fun _=>some (.bool m))))))
theorem WC (a:AV):bz vE 6 [a]=g6 a:=by kernel_rfl
noncomputable def B8 (e:LB) (i:AV):bU->Oq (bU ⊕ Nat×bU):=fun a=>bg a.1 fun o p=>dN o fun b=>bg p fun q r=>bj .i64 q fun f=>bB r (fq i fun s=>aX (decide (f < (↑s:Int))) (ax (dB 4 i f a.2 fun t _=>ar 4 true t a.2 fun u _=>ag u fun j k l g=>(bk (St.add a.2 (.cells 27 (nC 0 0 [] .aD))) fun v=>ab g (bm (aY vE) 4 (.mp (St.h a.2) 0) (nA j k l g) (nC j k l g) v fun _ c _=>ax (ar 1 false (.mp (St.h a.2) 0) c fun w _=>bj .u8 w fun y=>aX (y==1) (ar 1 false (.mp (St.h a.2) 1) c fun z _=>bj .u8 z fun x=>some ([.bool (x==1)],c)) (some ([.bool false],c))) fun d=>bg d.1 fun A B=>bG A fun C=>bB B (aX C (cg (Nat.ble (b.length+e.length) 9223372036854775807) (aN (b++e) fun D=>some (Sum.inl ([.str D],d.2)))) (ar 4 true (.mp (St.h a.2) 0) d.2 fun E _=>ag E fun F G H I=>(aR 8 [nA F G H I,.str e] d.2 fun J K _=>dN J fun m=>cg (Nat.ble (b.length+m.length) 9223372036854775807) (aN (b++m) fun L=>some (Sum.inl ([.str L],K))))))))) fun M=>ke M fun n=>bg n.1 fun N O=>dN N fun P=>bB O (aN (IntKind.wrap .i64 (f+1)) fun Q=>some (Sum.inl ([.str P,.int .i64 Q],n.2)))) (some (Sum.inr (0,[.str b],a.2))))
noncomputable def g8:AV->AV->Oq AV:=fun e f=>ag e fun g _ c d=>(dN f fun h=>ab d (aB d fun i=>ax (aH (B8 h i) ([.str [],.int .i64 0],sZ)) fun a=>bg a.2.1 fun j k=>dN j fun b=>bB k (ax (aX (g==1) (cg (Nat.ble (b.length+c.length) 9223372036854775807) (aN (b++c) fun l=>some ([.str l],Prod.snd a.2))) (some ([.str b],Prod.snd a.2))) fun m=>bg m.1 fun n o=>dN n fun p=>bB o (some (.str p)))))
theorem V2 (a b:AV):bz vE 8 [a,b]=g8 a b:=by kernel_rfl
noncomputable def JV:bU->Oq (bU ⊕ Nat×bU):=fun b=>bg b.1 fun c f=>bg f fun g h=>dN g fun a=>bB h (aX (!a==[]) (aR 14 [.str a] b.2 fun d i _=>gN d fun j=>cr j 0 fun k=>bj .u8 k fun l=>gN d fun m=>cr m 1 fun n=>bj .i64 n fun e=>eJ e a.length fun o=>aN (List.drop 0 (List.take o a)) fun p=>cq 2 24 24 c [.agg [.int .u8 l,.str p]] i fun q r _=>eJ e a.length fun s=>aN (List.drop s (List.take a.length a)) fun t=>some (Sum.inl ([q,.str t],r))) (some (Sum.inr (0,[c],b.2))))
noncomputable def g9:AV->Oq AV:=fun c=>dN c fun a=>aX (decide ((↑a.length:Int) > 65536)) (some (.tup [.aD,.int .i64 40])) (aR 13 [.str a] sZ fun d e _=>bG d fun f=>aX (!f) (some (.tup [.aD,.int .i64 4])) (ax (aH JV ([.aD,.str a],e)) fun b=>bg b.2.1 fun g h=>bB h (eQ b.2.2 0 (.tup [g,.int .i64 0]) fun i=>some i)))
theorem MQ (a:AV):bz vE 9 [a]=g9 a:=by kernel_rfl
noncomputable def g12:AV->AV->Oq AV:=fun j k=>aP j fun c d e f=>(bj .i64 k fun b=>ab f (aB f fun a=>ax (aX (decide (b < 1)) (some ([.bool true],sZ)) (some ([.bool (decide (b > 200))],sZ))) fun g=>bg g.1 fun l m=>bG l fun n=>bB m (aX n (some (.tup [.str [],.int .i64 1])) (aR 26 [dA c d e a] g.2 fun o i _=>bG o fun p=>aX (!p) (some (.tup [.str [],.int .i64 4])) (bk (St.add i (.cells 68 [.nilp,.aD,.int .i64 0,.int .i64 b])) fun q=>ab a (ab a (aB a fun r=>aR 27 [.mp i.h 0,.sl 6 [.agg [.int .u8 c,.str d,.int .i64 e,r,.int .i64 0,.bool false]] .shut] q fun s _ _=>dN s fun t=>some (.tup [.str t,.int .i64 0]))))))))
theorem Ta (a b:AV):bz vE 12 [a,b]=g12 a b:=by kernel_rfl
noncomputable def zh:bU->Oq (bU ⊕ Nat×bU):=fun b=>bg b.1 fun f g=>bG f fun c=>bg g fun h i=>dN h fun a=>bB i (aX (!a==[]) (aR 28 [.str a] b.2 fun d e _=>gN d fun j=>cr j 0 fun k=>bj .i64 k fun l=>gN d fun m=>cr m 1 fun n=>bj .i64 n fun o=>aX (decide (l < 0)) (some (Sum.inr (1,[.bool false],e))) (eJ o a.length fun p=>aN (List.drop p (List.take a.length a)) fun q=>some (Sum.inl ([.bool c,.str q],e)))) (some (Sum.inr (0,[.bool c],b.2))))
noncomputable def g13:AV->Oq AV:=fun b=>dN b fun c=>ax (aH zh ([.bool false,.str c],sZ)) fun a=>bg a.2.1 fun d e=>bG d fun f=>bB e (mR a.1 (some (.bool true)) fun _=>some (.bool f))
theorem Ud (a:AV):bz vE 13 [a]=g13 a:=by kernel_rfl
noncomputable def Au (d:LB):bU->Oq (bU ⊕ Nat×bU):=fun b=>bg b.1 fun e f=>bj .i64 e fun a=>bB f (aR 30 [.str d,.int .i64 a] b.2 fun g h _=>bj .u8 g fun i=>aR 29 [.int .u8 i] h fun j c _=>bG j fun k=>aX k (aN (IntKind.wrap .i64 (a+1)) fun l=>some (Sum.inl ([.int .i64 l],c))) (some (Sum.inr (0,[.int .i64 a],c))))
noncomputable def yU (d:LB):bU->Oq (bU ⊕ Nat×bU):=fun b=>bg b.1 fun e f=>bj .i64 e fun a=>bB f (aR 30 [.str d,.int .i64 a] b.2 fun g h _=>bj .u8 g fun i=>aR 34 [.int .u8 i] h fun j c _=>bG j fun k=>aX k (aN (IntKind.wrap .i64 (a+1)) fun l=>some (Sum.inl ([.int .i64 l],c))) (some (Sum.inr (0,[.int .i64 a],c))))
noncomputable def wy (f:LB):bU->Oq (bU ⊕ Nat×bU):=fun a=>bg a.1 fun g h=>bj .u8 g fun c=>bg h fun i j=>bj .i64 i fun d=>bg j fun k l=>bj .i64 k fun b=>bB l (aX (decide (b < 11)) (dB 1 (.sl 1 [.str [45,62],.str [58,58],.str [60,62],.str [60,61],.str [62,61],.str [43,46],.str [45,46],.str [42,46],.str [47,46],.str [38,38],.str [124,124]] .shut) b a.2 fun m _=>ar 1 false m a.2 fun n _=>dN n fun o=>aR 31 [.str f,.int .i64 0,.str o] a.2 fun p e _=>bG p fun q=>aX q (some (Sum.inr (1,[.int .u8 8,.int .i64 2],e))) (aN (IntKind.wrap .i64 (b+1)) fun r=>some (Sum.inl ([.int .u8 c,.int .i64 d,.int .i64 r],e)))) (some (Sum.inr (0,[.int .u8 c,.int .i64 d],a.2))))
noncomputable def wu (e:UInt8):bU->Oq (bU ⊕ Nat×bU):=fun a=>bg a.1 fun f g=>bj .u8 f fun c=>bg g fun h i=>bj .i64 h fun d=>bg i fun j k=>bj .i64 j fun b=>bB k (aX (decide (b < 16)) (gv [40,41,91,93,44,59,124,61,60,62,43,45,42,47,94,64] b fun l=>aX ((↑(UInt8.toNat l):Int)==(↑(UInt8.toNat e):Int)) (some (Sum.inr (1,[.int .u8 8,.int .i64 1],a.2))) (aN (IntKind.wrap .i64 (b+1)) fun m=>some (Sum.inl ([.int .u8 c,.int .i64 d,.int .i64 m],a.2)))) (some (Sum.inr (0,[.int .u8 c,.int .i64 d],a.2))))
noncomputable def g14:AV->Oq AV:=fun r=>dN r fun a=>gv a 0 fun b=>aR 29 [.int .u8 (↑(UInt8.toNat b):Int)] sZ fun s g _=>bG s fun t=>aX t (ax (aH (Au a) ([.int .i64 0],g)) fun u=>bg u.2.1 fun v w=>bj .i64 v fun y=>bB w (some (.tup [.int .u8 1,.int .i64 y]))) (aR 31 [.str a,.int .i64 0,.str [40,42]] g fun z h _=>bG z fun x=>aX x (aR 32 [.str a] h fun i _ _=>gN i fun A=>cr A 0 fun B=>bj .i64 B fun j=>gN i fun C=>cr C 1 fun D=>bG D fun E=>aX E (some (.tup [.int .u8 2,.int .i64 j])) (some (.tup [.int .u8 9,.int .i64 j]))) (aR 33 [.int .u8 (↑(UInt8.toNat b):Int)] h fun F k _=>bG F fun G=>aX G (ax (aH (yU a) ([.int .i64 0],k)) fun l=>bg l.2.1 fun H I=>bj .i64 H fun c=>bB I (eJ c a.length fun J=>aN (List.drop 0 (List.take J a)) fun K=>aX (K==[95]) (some (.tup [.int .u8 8,.int .i64 1])) (eJ c a.length fun L=>aN (List.drop 0 (List.take L a)) fun M=>aR 35 [.str M] l.2.2 fun N _ _=>bG N fun O=>aX O (some (.tup [.int .u8 3,.int .i64 c])) (some (.tup [.int .u8 4,.int .i64 c]))))) (aR 36 [.int .u8 (↑(UInt8.toNat b):Int)] k fun P d _=>bG P fun Q=>aX Q (aR 37 [.str a] d fun m _ _=>gN m fun R=>cr R 0 fun S=>bj .u8 S fun T=>gN m fun U=>cr U 1 fun V=>bj .i64 V fun W=>some (.tup [.int .u8 T,.int .i64 W])) (aX ((↑(UInt8.toNat b):Int)==34) (aR 38 [.str a] d fun n _ _=>gN n fun X=>cr X 0 fun Y=>bj .u8 Y fun Z=>gN n fun c7=>cr c7 1 fun c8=>bj .i64 c8 fun c9=>some (.tup [.int .u8 Z,.int .i64 c9])) (ax (aH (wy a) ([.int .u8 0,.int .i64 0,.int .i64 0],d)) fun e=>bg e.2.1 fun d0 d1=>bj .u8 d0 fun o=>bg d1 fun d2 d3=>bj .i64 d2 fun p=>bB d3 (mR e.1 (ax (aH (wu b) ([.int .u8 o,.int .i64 p,.int .i64 0],Prod.snd e.2)) fun f=>bg f.2.1 fun d4 d5=>bj .u8 d4 fun d6=>bg d5 fun d7 d8=>bj .i64 d7 fun d9=>bB d8 (mR f.1 (aR 28 [.str a] f.2.2 fun q _ _=>gN q fun e0=>cr e0 0 fun e1=>bj .i64 e1 fun _=>gN q fun e2=>cr e2 1 fun e3=>bj .i64 e3 fun e4=>some (.tup [.int .u8 9,.int .i64 e4])) fun _=>some (.tup [.int .u8 d6,.int .i64 d9]))) fun _=>some (.tup [.int .u8 o,.int .i64 p])))))))
theorem Uk (a:AV):bz vE 14 [a]=g14 a:=by kernel_rfl
noncomputable def g19:AV->Oq AV:=fun i=>dN i fun j=>aR 44 [.str j] (St.mk 1 0 (.node (some (.cells 27 (nC 0 0 [] .aD))) .leaf .leaf)) fun c a _=>gN c fun k=>cr k 0 fun b=>gN c fun l=>cr l 1 fun m=>bj .i64 m fun d=>aX (d != 0) (da 4 (.mp 0 0) (nC 0 0 [] .aD) a fun _ e _=>ar 4 true (.mp 0 0) e fun n _=>ag n fun o p q r=>(eQ e 0 (.tup [nA o p q r,.int .i64 d]) fun s=>some s)) (ab b (ab b (bk (St.add a (.cells 85 [b,.int .i64 0,.int .i64 0])) fun t=>aR 45 [.mp a.h 0] t fun u v _=>ag u fun w y z f=>(ab f (da 4 (.mp 0 0) (nC w y z f) v fun _ g _=>ar 4 true (.mp 0 0) g fun x _=>ag x fun A B C D=>(eQ g 0 (.tup [nA A B C D,.int .i64 0]) fun E=>some E))))))
theorem TQ (a:AV):bz vE 19 [a]=g19 a:=by kernel_rfl
noncomputable def g20:AV->Oq AV:=fun d=>ag d fun a e _ c=>(ab c (aB c fun f=>ax (aX (a != 2) (aX (a != 3) (aX (a != 1) (some ([.bool true],sZ)) (some ([.bool (e != 9)],sZ))) (some ([.bool false],sZ))) (some ([.bool false],sZ))) fun b=>bg b.1 fun g h=>bG g fun i=>bB h (ax (aX i (aR 46 [f,.fn (Fn.func 47) [] []] b.2 fun j k _=>bG j fun l=>some ([.bool !l],k)) (some ([.bool false],b.2))) fun m=>bg m.1 fun n o=>bG n fun p=>bB o (some (.bool p)))))
theorem TZ (a:AV):bz vE 20 [a]=g20 a:=by kernel_rfl
noncomputable def Is:AV->Oq AV:=fun s=>aP s fun a c d h=>(ab h (aB h fun f=>ax (aX (a==1) (ax (aX (d==0) (fq f fun t=>aX ((↑t:Int)==0) (cX (aY vE) (dy (Prim.lib jU) [.str c]) sZ fun u i _=>bG u fun v=>aX v (cX (aY vE) (dy (Prim.lib fY) [.str c,.str [10]]) i fun w j _=>bG w fun y=>aX (!y) (cX (aY vE) (dy (Prim.lib fY) [.str c,.str [13]]) j fun z x _=>bG z fun A=>some ([.bool !A],x)) (some ([.bool false],j))) (some ([.bool false],i))) (some ([.bool false],sZ))) (some ([.bool false],sZ))) fun k=>bg k.1 fun B C=>bG B fun D=>bB C (some ([.bool D],k.2))) (ax (aX (a==2) (some ([.bool (a==2)],sZ)) (ax (aX (a==3) (some ([.bool (a==3)],sZ)) (some ([.bool (a==4)],sZ))) fun l=>bg l.1 fun E F=>bG E fun G=>bB F (some ([.bool G],l.2)))) fun b=>bg b.1 fun H I=>bG H fun J=>bB I (ax (aX J (ax (aX (d==0) (fq f fun K=>aX ((↑K:Int)==0) (some ([.bool (c==[])],b.2)) (some ([.bool false],b.2))) (some ([.bool false],b.2))) fun m=>bg m.1 fun L M=>bG L fun N=>bB M (some ([.bool N],m.2))) (ax (aX (a==5) (ax (aX (decide (d>=0)) (aX (decide (d<=200)) (some ([.bool (c==[])],b.2)) (some ([.bool false],b.2))) (some ([.bool false],b.2))) fun n=>bg n.1 fun O P=>bG O fun Q=>bB P (some ([.bool Q],n.2))) (ax (aX (a==6) (some ([.bool (a==6)],b.2)) (some ([.bool (a==7)],b.2))) fun e=>bg e.1 fun R S=>bG R fun T=>bB S (ax (aX T (ax (aX (d==0) (some ([.bool (c==[])],e.2)) (some ([.bool false],e.2))) fun o=>bg o.1 fun U V=>bG U fun W=>bB V (some ([.bool W],o.2))) (some ([.bool false],e.2))) fun p=>bg p.1 fun X Y=>bG X fun Z=>bB Y (some ([.bool Z],p.2))))) fun q=>bg q.1 fun c7 c8=>bG c7 fun c9=>bB c8 (some ([.bool c9],q.2)))) fun r=>bg r.1 fun d0 d1=>bG d0 fun d2=>bB d1 (some ([.bool d2],r.2))))) fun g=>bg g.1 fun d3 d4=>bG d3 fun d5=>bB d4 (ax (aX d5 (aR 53 [f,.fn (Fn.func 54) [] []] g.2 fun d6 d7 _=>bG d6 fun d8=>some ([.bool !d8],d7)) (some ([.bool false],g.2))) fun d9=>bg d9.1 fun e0 e1=>bG e0 fun e2=>bB e1 (some (.bool e2)))))
theorem Tk (a:AV):bz vE 26 [a]=Is a:=by kernel_rfl
noncomputable def ij (i:AV):bU->Oq (bU ⊕ Nat×bU):=fun a=>bg a.1 fun l l2=>bB l2 (fq l fun B=>aX (decide ((↑B:Int) > 0)) (bk (St.add a.2 (.cells 71 [.int .u8 0,.str [],.int .i64 0,.aD,.int .i64 0,.bool false])) fun C=>aR 57 [l] C fun m D _=>gN m fun E=>cr E 0 fun F=>jk F fun n o p k q r=>(gN m fun G=>cr G 1 fun f=>ab k (bm (aY vE) 6 (.mp (St.h a.2) 0) (.agg [.int .u8 n,.str o,.int .i64 p,k,.int .i64 q,.bool r]) [.int .u8 n,.str o,.int .i64 p,k,.int .i64 q,.bool r] D fun _ d _=>ar 1 false (.mp (St.h a.2) 0) d fun H _=>bj .u8 H fun c=>ax (aX (c==1) (ar 1 false (.mp (St.h a.2) 1) d fun I _=>dN I fun J=>aR 55 [i,.str J] d fun _ K _=>some ([f],K)) (ax (aX (c==2) (some ([.bool (c==2)],d)) (ax (aX (c==3) (some ([.bool (c==3)],d)) (some ([.bool (c==4)],d))) fun s=>bg s.1 fun L M=>bG L fun N=>bB M (some ([.bool N],s.2)))) fun b=>bg b.1 fun O P=>bG O fun Q=>bB P (ax (aX Q (ax (ar 1 false (.mp (St.h a.2) 5) b.2 fun R _=>bG R fun S=>aX (!S) (some ([.bool true],b.2)) (ar 1 false (.mp (St.h a.2) 0) b.2 fun T _=>bj .u8 T fun U=>some ([.bool (U==4)],b.2))) fun e=>bg e.1 fun V W=>bG V fun X=>bB W (ax (aX X (ar 1 false (.mp (St.h a.2) 4) e.2 fun Y _=>bj .i64 Y fun Z=>aR 56 [i,.int .i64 Z] e.2 fun _ c4 _=>some ([],c4)) (ar 1 false (.mp (St.h a.2) 0) e.2 fun c5 _=>bj .u8 c5 fun c6=>ax (aX (c6==2) (aR 55 [i,.str [32]] e.2 fun _ c7 _=>some ([],c7)) (some ([],e.2))) fun t=>bB t.1 (some ([],t.2)))) fun u=>bB u.1 (some ([f],u.2)))) (ax (aX (c==6) (ar 6 true (.mp (St.h a.2) 0) b.2 fun c8 _=>jk c8 fun c9 d0 d1 d2 d3 d4=>(ar 1 false (.mp (St.h a.2) 4) b.2 fun d5 _=>bj .i64 d5 fun d6=>aR 58 [f,.agg [.int .u8 c9,.str d0,.int .i64 d1,d2,.int .i64 d3,.bool d4],.int .i64 d6,.bool true] b.2 fun v j _=>ax (ar 1 false (.mp (St.h a.2) 5) j fun d7 _=>bG d7 fun d8=>aX d8 (some ([.bool true],j)) (ar 4 true (.mp (St.h a.2) 0) j fun d9 _=>aP d9 fun e0 e1 e2 e3=>(aR 59 [dA e0 e1 e2 e3] j fun e4 w _=>bG e4 fun e5=>aX (!e5) (aR 60 [i,v] w fun e6 e7 _=>bG e6 fun e8=>some ([.bool e8],e7)) (some ([.bool false],w))))) fun g=>bg g.1 fun e9 f0=>bG e9 fun f1=>bB f0 (ax (aX f1 (some ([v],g.2)) (ar 6 true (.mp (St.h a.2) 0) g.2 fun f2 _=>jk f2 fun f3 f4 f5 f6 f7 f8=>(ar 1 false (.mp (St.h a.2) 4) g.2 fun f9 _=>bj .i64 f9 fun h0=>aR 58 [f,.agg [.int .u8 f3,.str f4,.int .i64 f5,f6,.int .i64 f7,.bool f8],.int .i64 h0,.bool false] g.2 fun h1 h2 _=>some ([h1],h2)))) fun y=>bg y.1 fun h3 h4=>bB h4 (some ([h3],y.2))))) (ar 6 true (.mp (St.h a.2) 0) b.2 fun h5 _=>jk h5 fun h6 h7 h8 h9 i0 i1=>(ar 1 false (.mp (St.h a.2) 4) b.2 fun i2 _=>bj .i64 i2 fun i3=>ar 1 false (.mp (St.h a.2) 2) b.2 fun i4 _=>bj .i64 i4 fun i5=>aN (IntKind.wrap .i64 (i3+i5)) fun i6=>ar 1 false (.mp (St.h a.2) 5) b.2 fun i7 _=>bG i7 fun i8=>aR 58 [f,.agg [.int .u8 h6,.str h7,.int .i64 h8,h9,.int .i64 i0,.bool i1],.int .i64 i6,.bool i8] b.2 fun i9 j0 _=>some ([i9],j0)))) fun z=>bg z.1 fun j1 j2=>bB j2 (some ([j1],z.2)))) fun x=>bg x.1 fun j3 j4=>bB j4 (some ([j3],x.2))))) fun A=>bg A.1 fun j5 j6=>bB j6 (some (Sum.inl ([j5],Prod.snd A)))))) (some (Sum.inr (0,[],a.2))))
noncomputable def Zn:AV->AV->St->Oq (AV×St):=fun a c st=>ax (aH (ij a) ([c],st)) fun b=>bB b.2.1 (cg (notNil a) (cV 0 a fun d=>cX (aY vE) (dy (Prim.builderString 5) [d]) b.2.2 fun e f _=>dN e fun g=>some (.str g,f)))
theorem TA (a b:AV) (st:St):cT vE 27 [a,b] st=Zn a b st:=by kernel_rfl
noncomputable def jz (b:LB):bU->Oq (bU ⊕ Nat×bU):=fun c=>bg c.1 fun k l=>bj .i64 k fun h=>bg l fun m n=>bj .i64 m fun i=>bg n fun o p=>bj .i64 o fun a=>bB p (ax (aX (decide (a<=4)) (some ([.bool (decide (a<=(↑b.length:Int)))],c.2)) (some ([.bool false],c.2))) fun d=>bg d.1 fun q r=>bG q fun s=>bB r (aX s (eJ a b.length fun t=>aN (List.drop 0 (List.take t b)) fun u=>aR 62 [.str u] d.2 fun v j _=>bj .i64 v fun e=>ax (aX (decide (e>=0)) (aR 63 [.int .i64 e] j fun w y f=>dN w fun z=>cg (apart f (⟨[],.kept⟩)&&true) (cg (apart f (⟨[],.kept⟩)&&true) (eJ a b.length fun x=>aN (List.drop 0 (List.take x b)) fun A=>cg (apart f (⟨[],.kept⟩)&&true) (some ([.bool (z==A)],y))))) (some ([.bool false],j))) fun g=>bg g.1 fun B C=>bG B fun D=>bB C (aX D (some (Sum.inr (1,[.int .i64 e,.int .i64 a],g.2))) (aN (IntKind.wrap .i64 (a+1)) fun E=>some (Sum.inl ([.int .i64 h,.int .i64 i,.int .i64 E],g.2))))) (some (Sum.inr (0,[.int .i64 h,.int .i64 i],d.2)))))
noncomputable def Yp:AV->Oq AV:=fun c=>dN c fun a=>aX (a==[]) (some (.tup [.int .i64 (-1),.int .i64 0])) (ax (aH (jz a) ([.int .i64 0,.int .i64 0,.int .i64 1],sZ)) fun b=>bg b.2.1 fun d e=>bj .i64 d fun f=>bg e fun g h=>bj .i64 g fun i=>bB h (mR b.1 (some (.tup [.int .i64 (-1),.int .i64 1])) fun _=>some (.tup [.int .i64 f,.int .i64 i])))
theorem Ni (a:AV):bz vE 28 [a]=Yp a:=by kernel_rfl
noncomputable def Zo:AV->Oq AV:=fun b=>bj .u8 b fun a=>ax (aX (a==32) (some ([.bool true],sZ)) (aX (a==9) (some ([.bool true],sZ)) (aX (a==10) (some ([.bool true],sZ)) (some ([.bool (a==13)],sZ))))) fun c=>bg c.1 fun d e=>bG d fun f=>bB e (some (.bool f))
theorem Um (a:AV):bz vE 29 [a]=Zo a:=by kernel_rfl
noncomputable def YJ:AV->AV->Oq AV:=fun c d=>dN c fun b=>bj .i64 d fun a=>ax (aX (decide (a < 0)) (some ([.bool true],sZ)) (some ([.bool (decide (a>=(↑b.length:Int)))],sZ))) fun e=>bg e.1 fun f g=>bG f fun h=>bB g (aX h (some (.int .u8 0)) (gv b a fun i=>some (.int .u8 (↑(UInt8.toNat i):Int))))
theorem Uw (a b:AV):bz vE 30 [a,b]=YJ a b:=by kernel_rfl
noncomputable def YO:AV->AV->AV->Oq AV:=fun d e f=>dN d fun a=>bj .i64 e fun b=>dN f fun g=>ax (aN (IntKind.wrap .i64 (b+2)) fun h=>aX (decide (h<=(↑a.length:Int))) (aN (IntKind.wrap .i64 (b+2)) fun i=>eJ i a.length fun c=>eJ b c fun j=>aN (List.drop j (List.take c a)) fun k=>some ([.bool (k==g)],sZ)) (some ([.bool false],sZ))) fun l=>bg l.1 fun m n=>bG m fun o=>bB n (some (.bool o))
theorem TB (a b c:AV):bz vE 31 [a,b,c]=YO a b c:=by kernel_rfl
noncomputable def pB (d:LB):bU->Oq (bU ⊕ Nat×bU):=fun e=>bg e.1 fun m n=>bj .i64 m fun f=>bg n fun o p=>bj .i64 o fun b=>bg p fun q r=>bG q fun c=>bg r fun s t=>bj .i64 s fun a=>bB t (aX (decide (a < (↑d.length:Int))) (aR 31 [.str d,.int .i64 a,.str [40,42]] e.2 fun u h _=>bG u fun v=>ax (aX v (aN (IntKind.wrap .i64 (f+1)) fun w=>aN (IntKind.wrap .i64 (a+2)) fun y=>some (Sum.inl ([.int .i64 w,.int .i64 b,.bool c,.int .i64 y],h))) (aR 31 [.str d,.int .i64 a,.str [42,41]] h fun z g _=>bG z fun x=>ax (aX x (aN (IntKind.wrap .i64 (f - 1)) fun i=>aN (IntKind.wrap .i64 (a+2)) fun j=>aX (i==0) (some (Sum.inr (Sum.inr (Sum.inr (1,[.int .i64 j,.bool true],g))))) (some (Sum.inl ([.int .i64 i,.int .i64 b,.bool c,.int .i64 j],g)))) (aN (IntKind.wrap .i64 (a+1)) fun A=>some (Sum.inl ([.int .i64 f,.int .i64 b,.bool c,.int .i64 A],g)))) fun B=>ke B fun k=>bg k.1 fun C D=>bj .i64 C fun E=>bg D fun F G=>bj .i64 F fun H=>bg G fun I J=>bG I fun K=>bg J fun L M=>bj .i64 L fun N=>bB M (some (Sum.inl ([.int .i64 E,.int .i64 H,.bool K,.int .i64 N],k.2))))) fun O=>ke O fun l=>bg l.1 fun P Q=>bj .i64 P fun R=>bg Q fun S T=>bj .i64 S fun U=>bg T fun V W=>bG V fun X=>bg W fun Y Z=>bj .i64 Y fun c7=>bB Z (some (Sum.inl ([.int .i64 R,.int .i64 U,.bool X,.int .i64 c7],l.2)))) (some (Sum.inr (0,[.int .i64 b,.bool c],e.2))))
noncomputable def Zw:AV->Oq AV:=fun c=>dN c fun a=>ax (aH (pB a) ([.int .i64 1,.int .i64 0,.bool false,.int .i64 2],sZ)) fun b=>bg b.2.1 fun d e=>bj .i64 d fun f=>bg e fun g h=>bG g fun i=>bB h (mR b.1 (some (.tup [.int .i64 (↑a.length:Int),.bool false])) fun _=>some (.tup [.int .i64 f,.bool i]))
theorem Sw (a:AV):bz vE 32 [a]=Zw a:=by kernel_rfl
noncomputable def YW:AV->Oq AV:=fun b=>bj .u8 b fun a=>ax (aX (decide (a>=97)) (aX (decide (a<=122)) (some ([.bool true],sZ)) (some ([.bool (a==95)],sZ))) (some ([.bool (a==95)],sZ))) fun c=>bg c.1 fun d e=>bG d fun f=>bB e (some (.bool f))
theorem TL (a:AV):bz vE 33 [a]=YW a:=by kernel_rfl
noncomputable def ZU:AV->Oq AV:=fun d=>bj .u8 d fun a=>ax (aR 33 [.int .u8 a] sZ fun e c _=>bG e fun f=>aX f (some ([.bool true],c)) (aR 36 [.int .u8 a] c fun g b _=>bG g fun h=>aX h (some ([.bool true],b)) (aX (decide (a>=65)) (aX (decide (a<=90)) (some ([.bool true],b)) (some ([.bool (a==39)],b))) (some ([.bool (a==39)],b))))) fun i=>bg i.1 fun j k=>bG j fun l=>bB k (some (.bool l))
theorem Ts (a:AV):bz vE 34 [a]=ZU a:=by kernel_rfl
noncomputable def wz (d:LB):bU->Oq (bU ⊕ Nat×bU):=fun a=>bg a.1 fun e f=>bG e fun c=>bg f fun g h=>bj .i64 g fun b=>bB h (aX (decide (b < 12)) (dB 1 (.sl 1 [.str [108,101,116],.str [114,101,99],.str [105,110],.str [102,117,110],.str [105,102],.str [116,104,101,110],.str [101,108,115,101],.str [109,97,116,99,104],.str [119,105,116,104],.str [116,114,117,101],.str [102,97,108,115,101],.str [109,111,100]] .shut) b a.2 fun i _=>ar 1 false i a.2 fun j _=>dN j fun k=>aX (k==d) (some (Sum.inr (1,[.bool true],a.2))) (aN (IntKind.wrap .i64 (b+1)) fun l=>some (Sum.inl ([.bool c,.int .i64 l],a.2)))) (some (Sum.inr (0,[.bool c],a.2))))
noncomputable def Y0:AV->Oq AV:=fun b=>dN b fun c=>ax (aH (wz c) ([.bool false,.int .i64 0],sZ)) fun a=>bg a.2.1 fun d e=>bG d fun f=>bB e (mR a.1 (some (.bool false)) fun _=>some (.bool f))
theorem Vp (a:AV):bz vE 35 [a]=Y0 a:=by kernel_rfl
noncomputable def Zb:AV->Oq AV:=fun b=>bj .u8 b fun a=>ax (aX (decide (a>=48)) (some ([.bool (decide (a<=57))],sZ)) (some ([.bool false],sZ))) fun c=>bg c.1 fun d e=>bG d fun f=>bB e (some (.bool f))
theorem Ub (a:AV):bz vE 36 [a]=Zb a:=by kernel_rfl
noncomputable def zt (d:LB):bU->Oq (bU ⊕ Nat×bU):=fun b=>bg b.1 fun e f=>bj .i64 e fun a=>bB f (aR 30 [.str d,.int .i64 a] b.2 fun g h _=>bj .u8 g fun i=>aR 36 [.int .u8 i] h fun j c _=>bG j fun k=>aX k (aN (IntKind.wrap .i64 (a+1)) fun l=>some (Sum.inl ([.int .i64 l],c))) (some (Sum.inr (0,[.int .i64 a],c))))
noncomputable def Ea (d:LB):bU->Oq (bU ⊕ Nat×bU):=fun b=>bg b.1 fun e f=>bj .i64 e fun a=>bB f (aR 30 [.str d,.int .i64 a] b.2 fun g h _=>bj .u8 g fun i=>aR 36 [.int .u8 i] h fun j c _=>bG j fun k=>aX k (aN (IntKind.wrap .i64 (a+1)) fun l=>some (Sum.inl ([.int .i64 l],c))) (some (Sum.inr (0,[.int .i64 a],c))))
noncomputable def tu (b:LB):bU->Oq (bU ⊕ Nat×bU):=fun c=>bg c.1 fun g h=>bj .i64 g fun d=>bg h fun i j=>bj .i64 i fun a=>bB j (aR 30 [.str b,.int .i64 a] c.2 fun k l _=>bj .u8 k fun m=>aR 36 [.int .u8 m] l fun n e _=>bG n fun o=>aX o (aN (IntKind.wrap .i64 (d * 10)) fun p=>gv b a fun q=>aN (IntKind.wrap .i64 (↑(UInt8.toNat q):Int)) fun r=>aN (IntKind.wrap .i64 (p+r)) fun s=>aN (IntKind.wrap .i64 (s - 48)) fun f=>aN (if 1000000 < f then 1000000 else f) fun t=>aN (IntKind.wrap .i64 (a+1)) fun u=>some (Sum.inl ([.int .i64 t,.int .i64 u],e))) (some (Sum.inr (0,[.int .i64 d,.int .i64 a],e))))
noncomputable def Zj:AV->Oq AV:=fun w=>dN w fun a=>ax (aH (zt a) ([.int .i64 0],sZ)) fun j=>bg j.2.1 fun y z=>bj .i64 y fun c=>bB z (aR 30 [.str a,.int .i64 c] j.2.2 fun x A _=>bj .u8 x fun B=>aX (B != 46) (some (.tup [.int .u8 5,.int .i64 c])) (aN (IntKind.wrap .i64 (c+1)) fun C=>ax (aH (Ea a) ([.int .i64 C],A)) fun k=>bg k.2.1 fun D E=>bj .i64 D fun b=>bB E (aN (IntKind.wrap .i64 (c+1)) fun F=>aN (IntKind.wrap .i64 (F - b)) fun g=>aN (IntKind.wrap .i64 (b - 1)) fun G=>ax (aR 30 [.str a,.int .i64 b] k.2.2 fun H l _=>bj .u8 H fun I=>aX (I==101) (some ([.bool true],l)) (aR 30 [.str a,.int .i64 b] l fun J K _=>bj .u8 J fun L=>some ([.bool (L==69)],K))) fun h=>bg h.1 fun M N=>bG M fun O=>bB N (ax (aX O (aN (IntKind.wrap .i64 (b+1)) fun d=>aR 30 [.str a,.int .i64 d] h.2 fun P m _=>bj .u8 P fun n=>ax (aX (n==45) (some ([.bool true],m)) (aR 30 [.str a,.int .i64 d] m fun Q R _=>bj .u8 Q fun S=>some ([.bool (S==43)],R))) fun i=>bg i.1 fun T U=>bG T fun V=>bB U (ax (aX V (aN (IntKind.wrap .i64 (d+1)) fun W=>some ([.int .i64 W],i.2)) (some ([.int .i64 d],i.2))) fun o=>bg o.1 fun X Y=>bj .i64 X fun p=>bB Y (ax (aH (tu a) ([.int .i64 0,.int .i64 p],o.2)) fun e=>bg e.2.1 fun Z c7=>bj .i64 Z fun q=>bg c7 fun c8 c9=>bj .i64 c8 fun r=>bB c9 (ax (aX (decide (r > p)) (ax (aX (n==45) (aN (IntKind.wrap .i64 (0 - q)) fun d0=>some ([.int .i64 d0],Prod.snd e.2)) (some ([.int .i64 q],Prod.snd e.2))) fun s=>bg s.1 fun d1 d2=>bj .i64 d1 fun d3=>bB d2 (aN (IntKind.wrap .i64 (g+d3)) fun d4=>some ([.int .i64 r,.int .i64 d4],s.2))) (some ([.int .i64 b,.int .i64 g],Prod.snd e.2))) fun t=>bg t.1 fun d5 d6=>bj .i64 d5 fun d7=>bg d6 fun d8 d9=>bj .i64 d8 fun e0=>bB d9 (some ([.int .i64 d7,.int .i64 e0],t.2)))))) (some ([.int .i64 b,.int .i64 g],h.2))) fun f=>bg f.1 fun e1 e2=>bj .i64 e1 fun u=>bg e2 fun e3 e4=>bj .i64 e3 fun v=>bB e4 (ax (aX (decide (G > 15)) (some ([.bool true],f.2)) (aX (decide (v < -22)) (some ([.bool true],f.2)) (some ([.bool (decide (v > 22))],f.2)))) fun e5=>bg e5.1 fun e6 e7=>bG e6 fun e8=>bB e7 (aX e8 (some (.tup [.int .u8 9,.int .i64 u])) (some (.tup [.int .u8 6,.int .i64 u]))))))))
theorem TN (a:AV):bz vE 37 [a]=Zj a:=by kernel_rfl
noncomputable def gV (c:LB):bU->Oq (bU ⊕ Nat×bU):=fun g=>bg g.1 fun n o=>bj .u8 n fun j=>bg o fun p q=>bj .i64 p fun k=>bg q fun r s=>bG r fun d=>bg s fun t u=>bj .i64 t fun a=>bB u (ax (aX (decide (a < (↑c.length:Int))) (gv c a fun v=>some ([.bool ((↑(UInt8.toNat v):Int) != 10)],g.2)) (some ([.bool false],g.2))) fun b=>bg b.1 fun w y=>bG w fun z=>bB y (aX z (gv c a fun x=>aX ((↑(UInt8.toNat x):Int)==34) (aX d (aN (IntKind.wrap .i64 (a+1)) fun A=>some (Sum.inr (1,[.int .u8 9,.int .i64 A,.int .i64 a],b.2))) (aN (IntKind.wrap .i64 (a+1)) fun B=>some (Sum.inr (1,[.int .u8 7,.int .i64 B,.int .i64 a],b.2)))) (ax (gv c a fun C=>aX ((↑(UInt8.toNat C):Int)==92) (some ([.bool !d],b.2)) (some ([.bool false],b.2))) fun h=>bg h.1 fun D E=>bG D fun F=>bB E (ax (aX F (aN (IntKind.wrap .i64 (a+1)) fun G=>aR 30 [.str c,.int .i64 G] h.2 fun H e _=>bj .u8 H fun f=>ax (aX (f==110) (some ([.bool true],e)) (aX (f==116) (some ([.bool true],e)) (aX (f==92) (some ([.bool true],e)) (some ([.bool (f==34)],e))))) fun i=>bg i.1 fun I J=>bG I fun K=>bB J (ax (aX K (aN (IntKind.wrap .i64 (a+1)) fun L=>some ([.int .i64 L,.bool d],i.2)) (some ([.int .i64 a,.bool true],i.2))) fun l=>bg l.1 fun M N=>bj .i64 M fun O=>bg N fun P Q=>bG P fun R=>bB Q (some ([.int .i64 O,.bool R],l.2)))) (some ([.int .i64 a,.bool d],h.2))) fun m=>bg m.1 fun S T=>bj .i64 S fun U=>bg T fun V W=>bG V fun X=>bB W (aN (IntKind.wrap .i64 (U+1)) fun Y=>some (Sum.inl ([.int .u8 j,.int .i64 k,.bool X,.int .i64 Y],m.2)))))) (some (Sum.inr (0,[.int .u8 j,.int .i64 k,.int .i64 a],b.2)))))
noncomputable def ZB:AV->Oq AV:=fun b=>dN b fun c=>ax (aH (gV c) ([.int .u8 0,.int .i64 0,.bool false,.int .i64 1],sZ)) fun a=>bg a.2.1 fun d e=>bj .u8 d fun f=>bg e fun g h=>bj .i64 g fun i=>bg h fun j k=>bj .i64 j fun l=>bB k (mR a.1 (some (.tup [.int .u8 9,.int .i64 l])) fun _=>some (.tup [.int .u8 f,.int .i64 i]))
theorem Ua (a:AV):bz vE 38 [a]=ZB a:=by kernel_rfl
noncomputable def AW:bU->Oq (bU ⊕ Nat×bU):=fun b=>bg b.1 fun c h=>bg h fun i j=>dN i fun a=>bg j fun k l=>bj .i64 k fun d=>bB l (aX (decide (d < 7)) (dB 1 (.sl 1 [.fn (Fn.func 71) [] [],.fn (Fn.func 72) [] [],.fn (Fn.func 73) [] [],.fn (Fn.func 74) [] [],.fn (Fn.func 75) [] [],.fn (Fn.func 76) [] [],.fn (Fn.func 77) [] []] .shut) d b.2 fun m _=>ar 1 false m b.2 fun n _=>jx (aY vE) (Sx.prim (sx vE 44)) n [.str a] b.2 fun f g _=>gN f fun o=>cr o 0 fun p=>bj .u8 p fun q=>gN f fun r=>cr r 1 fun s=>bj .i64 s fun e=>aX (decide (e > 0)) (eJ e a.length fun t=>aN (List.drop 0 (List.take t a)) fun u=>cq 2 24 24 c [.agg [.int .u8 q,.str u]] g fun v w _=>eJ e a.length fun y=>aN (List.drop y (List.take a.length a)) fun z=>some (Sum.inr (0,[v,.str z],w))) (aN (IntKind.wrap .i64 (d+1)) fun x=>some (Sum.inl ([c,.str a,.int .i64 x],g)))) (some (Sum.inr (0,[c,.str a],b.2))))
noncomputable def DJ:bU->Oq (bU ⊕ Nat×bU):=fun a=>bg a.1 fun b e=>bg e fun f g=>dN f fun c=>bB g (aX (!c==[]) (ax (aH AW ([b,.str c,.int .i64 0],a.2)) fun d=>bg d.2.1 fun h i=>bg i fun j k=>dN j fun l=>bB k (some (Sum.inl ([h,.str l],Prod.snd d.2)))) (some (Sum.inr (0,[b],a.2))))
noncomputable def XQ:AV->Oq AV:=fun c=>dN c fun a=>aX (decide ((↑a.length:Int) > 65536)) (some (.tup [.aD,.int .i64 40])) (aR 70 [.str a] sZ fun d e _=>bG d fun f=>aX (!f) (some (.tup [.aD,.int .i64 4])) (ax (aH DJ ([.aD,.str a],e)) fun b=>bg b.2.1 fun g h=>bB h (eQ b.2.2 0 (.tup [g,.int .i64 0]) fun i=>some i)))
theorem IU (a:AV):bz vE 44 [a]=XQ a:=by kernel_rfl
noncomputable def qA (e:AV) (g:bU):bU->Oq (bU ⊕ Nat×bU):=fun b=>bg b.1 fun i m=>bB m (ax (cV 0 i fun n=>ar 1 false n b.2 fun o _=>bj .u8 o fun p=>aX (p != 0) (aR 79 [e,.sl 1 [.str [108,101,116]] .shut] b.2 fun q r _=>bG q fun s=>some ([.bool !s],r)) (some ([.bool false],b.2))) fun c=>bg c.1 fun t u=>bG t fun v=>bB u (aX v (ar 1 false (.mp (St.h g.2) 3) c.2 fun w y=>aR 80 [e] c.2 fun z x j=>ag z fun A B C f=>(cg (apart (Fx.mk y du.kept) j&&(apart (⟨[],.kept⟩) j&&true)) (ab f (ab f (aB f fun k=>ab k (aB k fun D=>cq 4 56 27 w [nA A B C D] x fun d E _=>ab d (ab d (bm (aY vE) 1 (.mp (St.h g.2) 3) d [d] E fun _ a _=>ar 2 true i a fun F _=>dR F fun G H=>(bk (St.add a (.cells 24 [.int .u8 0,.str []])) fun I=>da 2 (.mp a.h 0) [.int .u8 G,.str H] I fun _ J _=>aR 78 [e] J fun l K _=>gN l fun L=>cr L 0 fun M=>dR M fun N O=>(gN l fun P=>cr P 1 fun Q=>bj .i64 Q fun _=>da 2 (.mp a.h 0) [.int .u8 N,.str O] K fun _ R _=>some (Sum.inl ([.mp a.h 0],R)))))))))))) (some (Sum.inr (0,[],c.2)))))
noncomputable def tF (b:AV) (k:St):bU->Oq (bU ⊕ Nat×bU):=fun a=>bg a.1 fun l s=>bB s (cV 0 l fun t=>ar 1 false t a.2 fun u _=>bj .u8 u fun v=>aX (v != 0) (bk (St.add a.2 (.cells 27 (nC 0 0 [] .aD))) fun w=>aR 79 [b,.sl 1 [.str [108,101,116]] .shut] w fun y m _=>bG y fun z=>ax (aX z (aR 80 [b] m fun x A _=>ag x fun B C D f=>(ab f (ab f (aB f fun E=>aR 81 [b] A fun F G _=>nJ F fun H=>mJ true H fun n=>cg (mg 4 n) (cq 4 56 27 (.sl 4 [nA B C D E] .shut) n G fun d I _=>ab d (ab d (bm (aY vE) 4 (.mp (St.h a.2) 0) (nA 5 0 [] d) (nC 5 0 [] d) I fun _ J _=>some ([],J)))))))) (bm (aY vE) 1 (.mp (St.h a.2) 0) (.int .u8 3) [.int .u8 3] m fun _ K _=>aR 78 [b] K fun o g _=>gN o fun L=>cr L 0 fun M=>dR M fun N O=>(gN o fun P=>cr P 1 fun Q=>bj .i64 Q fun _=>bk (St.add g (.cells 24 [.int .u8 0,.str []])) fun R=>da 2 (.mp g.h 0) [.int .u8 N,.str O] R fun _ S _=>ax (aH (qA b a) ([.mp g.h 0],S)) fun p=>bB p.2.1 (some ([],Prod.snd p.2))))) fun e=>bB e.1 (ar 1 false (.mp k.h 3) e.2 fun T _=>ar 4 true (.mp (St.h a.2) 0) e.2 fun U _=>ag U fun V W X i=>(ab i (ab i (aB i fun q=>ab q (aB q fun Y=>cq 4 56 27 T [nA V W X Y] e.2 fun j Z _=>ab j (ab j (lV (.mp k.h 3) j Z fun _ c _=>ar 2 true l c fun c7 _=>dR c7 fun c8 c9=>(bk (St.add c (.cells 24 [.int .u8 0,.str []])) fun d0=>da 2 (.mp c.h 0) [.int .u8 c8,.str c9] d0 fun _ d1 _=>aR 78 [b] d1 fun r d2 _=>gN r fun d3=>cr d3 0 fun d4=>dR d4 fun d5 d6=>(gN r fun d7=>cr d7 1 fun d8=>bj .i64 d8 fun _=>da 2 (.mp c.h 0) [.int .u8 d5,.str d6] d2 fun _ d9 _=>some (Sum.inl ([.mp c.h 0],d9)))))))))))) (some (Sum.inr (0,[],a.2))))
noncomputable def ZC:AV->St->Oq (AV×St):=fun b st=>bk (St.add st (.cells 27 (nC 0 0 [] .aD))) fun a=>bk (St.add a (.cells 27 (nC 0 0 [] .aD))) fun n=>da 4 (.mp a.h 0) (nC 4 0 [] .aD) n fun _ o _=>aR 78 [b] o fun g c _=>gN g fun p=>cr p 0 fun q=>dR q fun r s=>(gN g fun t=>cr t 1 fun u=>bj .i64 u fun _=>bk (St.add c (.cells 24 [.int .u8 0,.str []])) fun v=>da 2 (.mp c.h 0) [.int .u8 r,.str s] v fun _ w _=>ax (aH (tF b a) ([.mp c.h 0],w)) fun d=>bB d.2.1 (ar 1 false (.mp a.h 3) d.2.2 fun y z=>aR 80 [b] d.2.2 fun x A i=>ag x fun B C D e=>(cg (apart (Fx.mk z du.kept) i&&(apart (⟨[],.kept⟩) i&&true)) (ab e (ab e (aB e fun j=>ab j (aB j fun E=>cq 4 56 27 y [nA B C D E] A fun f F _=>ab f (ab f (lV (.mp a.h 3) f F fun _ k _=>ar 4 true (.mp a.h 0) k fun G _=>ag G fun H I J l=>(ab l (da 4 (.mp st.h 0) (nC H I J l) k fun _ m _=>ar 4 true (.mp st.h 0) m fun K _=>ag K fun L M N O=>(some (nA L M N O,m)))))))))))))
theorem TX (a:AV) (st:St):cT vE 45 [a] st=ZC a st:=by kernel_rfl
noncomputable def Yx:AV->AV->Oq AV:=fun a b=>aR 82 [a,b] sZ fun c _ _=>bj .i64 c fun d=>some (.bool (decide (d>=0)))
theorem Nq (a b:AV):bz vE 46 [a,b]=Yx a b:=by kernel_rfl
noncomputable def Y1:AV->Oq AV:=fun b=>ag b fun c d e a=>(ab a (aB a fun f=>aR 20 [nA c d e f] sZ fun g _ _=>bG g fun h=>some (.bool !h)))
theorem TM (a:AV):bz vE 47 [a]=Y1 a:=by kernel_rfl
noncomputable def Zm:AV->AV->Oq AV:=fun a b=>aR 102 [a,b] sZ fun c _ _=>bj .i64 c fun d=>some (.bool (decide (d>=0)))
theorem UI (a b:AV):bz vE 53 [a,b]=Zm a b:=by kernel_rfl
noncomputable def Zz:AV->Oq AV:=fun b=>aP b fun c d e a=>(ab a (aB a fun f=>aR 26 [dA c d e f] sZ fun g _ _=>bG g fun h=>some (.bool !h)))
theorem U5 (a:AV):bz vE 54 [a]=Zz a:=by kernel_rfl
noncomputable def Zy:AV->AV->St->Oq (AV×St):=fun a f st=>dN f fun c=>cg (notNil a) (cV 0 a fun g=>aR 103 [g,.str c] st fun _ d _=>cg (notNil a) (cV 2 a fun h=>ar 1 false h d fun i j=>bj .i64 i fun k=>cX (aY vE) (dy (Prim.lib iX) [.str c]) d fun l m b=>bj .i64 l fun n=>cg (apart (Fx.mk j du.kept) b&&(apart (⟨[],.kept⟩) b&&(apart (⟨[],.kept⟩) b&&(apart (⟨[],.kept⟩) b&&true)))) (aN (IntKind.wrap .i64 (k+n)) fun e=>cg (notNil a) (cV 2 a fun o=>bm (aY vE) 1 o (.int .i64 e) [.int .i64 e] m fun _ p _=>some (.tup [],p)))))
theorem Ut (a b:AV) (st:St):cT vE 55 [a,b] st=Zy a b st:=by kernel_rfl
noncomputable def Y5:AV->AV->St->Oq (AV×St):=fun a e st=>bj .i64 e fun b=>cg (notNil a) (cV 0 a fun f=>cX (aY vE) (dy (Prim.lib kE) [.str [32],.int .i64 b]) st fun g h c=>dN g fun d=>cg (apart (⟨[],.kept⟩) c&&(apart (⟨[],.kept⟩) c&&(apart (⟨[],.kept⟩) c&&true))) (cg (Nat.ble (1+d.length) 9223372036854775807) (aN (10::d) fun i=>aR 103 [f,.str i] h fun _ j _=>cg (notNil a) (cV 2 a fun k=>bm (aY vE) 1 k (.int .i64 b) [.int .i64 b] j fun _ l _=>some (.tup [],l)))))
theorem T2 (a b:AV) (st:St):cT vE 56 [a,b] st=Y5 a b st:=by kernel_rfl
noncomputable def ZQ:AV->Oq AV:=fun a=>fq a fun h=>aN (IntKind.wrap .i64 ((↑h:Int) - 1)) fun i=>dB 6 a i (St.mk 1 0 (.node (some (.cells 71 [.int .u8 0,.str [],.int .i64 0,.aD,.int .i64 0,.bool false])) .leaf .leaf)) fun j _=>ar 6 true j (St.mk 1 0 (.node (some (.cells 71 [.int .u8 0,.str [],.int .i64 0,.aD,.int .i64 0,.bool false])) .leaf .leaf)) fun k _=>jk k fun c d e b f g=>(fq a fun l=>aN (IntKind.wrap .i64 ((↑l:Int) - 1)) fun m=>fw 6 a none (some m) none fun n=>ab b (eQ (St.mk 1 0 (.node (some (.cells 71 [.int .u8 c,.str d,.int .i64 e,b,.int .i64 f,.bool g])) .leaf .leaf)) 0 (.tup [.agg [.int .u8 c,.str d,.int .i64 e,b,.int .i64 f,.bool g],n]) fun o=>some o))
theorem UF (a:AV):bz vE 57 [a]=ZQ a:=by kernel_rfl
noncomputable def DU (f:Int) (g:Bool) (h:AV):bU->Oq (bU ⊕ Nat×bU):=fun a=>bg a.1 fun d i=>bg i fun j k=>bj .i64 j fun b=>bB k (aX (decide (b>=0)) (dB 4 h b a.2 fun l _=>ar 4 true l a.2 fun m _=>aP m fun n o p c=>(ab c (ab c (aB c fun e=>ab e (aB e fun q=>cq 6 72 71 d [.agg [.int .u8 n,.str o,.int .i64 p,q,.int .i64 f,.bool g]] a.2 fun r s _=>aN (IntKind.wrap .i64 (b - 1)) fun t=>some (Sum.inl ([r,.int .i64 t],s))))))) (some (Sum.inr (0,[d],a.2))))
noncomputable def ZM:AV->AV->AV->AV->Oq AV:=fun a e f g=>jk e fun _ _ _ b _ _=>(bj .i64 f fun h=>bG g fun i=>ab b (aB b fun c=>fq a fun j=>fq a fun k=>fw 6 a none (some (↑j:Int)) (some (↑k:Int)) fun l=>fq c fun m=>aN (IntKind.wrap .i64 ((↑m:Int) - 1)) fun n=>ax (aH (DU h i c) ([l,.int .i64 n],sZ)) fun d=>bg d.2.1 fun o p=>bB p (eQ d.2.2 0 (oneOf [o]) fun q=>some q)))
theorem Tg (a b c d:AV):bz vE 58 [a,b,c,d]=ZM a b c d:=by kernel_rfl
noncomputable def Zr:AV->Oq AV:=fun b=>aP b fun c _ _ a=>(ab a (aB a fun d=>ax (aX (c==4) (some ([.bool true],sZ)) (aR 53 [d,.fn (Fn.func 59) [] []] sZ fun e f _=>bG e fun g=>some ([.bool g],f))) fun h=>bg h.1 fun i j=>bG i fun k=>bB j (some (.bool k))))
theorem U2 (a:AV):bz vE 59 [a]=Zr a:=by kernel_rfl
noncomputable def lS (l:AV):bU->Oq (bU ⊕ Nat×bU):=fun g=>bg g.1 fun F G=>bG F fun i=>bg G fun H I=>bj .i64 H fun c=>bg I fun m J=>bB J (ax (fq m fun K=>aX (decide ((↑K:Int) > 0)) (cg (notNil l) (cV 3 l fun L=>ar 1 false L g.2 fun M _=>bj .i64 M fun N=>some ([.bool (decide (c<=N))],g.2))) (some ([.bool false],g.2))) fun a=>bg a.1 fun O P=>bG O fun Q=>bB P (aX Q (bk (St.add a.2 (.cells 71 [.int .u8 0,.str [],.int .i64 0,.aD,.int .i64 0,.bool false])) fun R=>aR 57 [m] R fun n S _=>gN n fun T=>cr T 0 fun U=>jk U fun o p q k r s=>(gN n fun V=>cr V 1 fun j=>ab k (bm (aY vE) 6 (.mp (St.h a.2) 0) (.agg [.int .u8 o,.str p,.int .i64 q,k,.int .i64 r,.bool s]) [.int .u8 o,.str p,.int .i64 q,k,.int .i64 r,.bool s] S fun _ d _=>ar 1 false (.mp (St.h a.2) 0) d fun W _=>bj .u8 W fun e=>ax (aX (e==1) (ar 1 false (.mp (St.h a.2) 1) d fun X _=>dN X fun Y=>cX (aY vE) (dy (Prim.lib iX) [.str Y]) d fun Z c3 _=>bj .i64 Z fun c4=>aN (IntKind.wrap .i64 (c+c4)) fun c5=>some (Sum.inl ([.bool i,.int .i64 c5,j],c3))) (ax (aX (e==2) (some ([.bool (e==2)],d)) (ax (aX (e==3) (some ([.bool (e==3)],d)) (some ([.bool (e==4)],d))) fun t=>bg t.1 fun c6 c7=>bG c6 fun c8=>bB c7 (some ([.bool c8],t.2)))) fun b=>bg b.1 fun c9 d0=>bG c9 fun d1=>bB d0 (ax (aX d1 (ax (ar 1 false (.mp (St.h a.2) 5) b.2 fun d2 _=>bG d2 fun d3=>aX (!d3) (some ([.bool true],b.2)) (ar 1 false (.mp (St.h a.2) 0) b.2 fun d4 _=>bj .u8 d4 fun d5=>some ([.bool (d5==4)],b.2))) fun f=>bg f.1 fun d6 d7=>bG d6 fun d8=>bB d7 (aX d8 (some (Sum.inr (Sum.inr (Sum.inr (1,[.bool true,.int .i64 c],f.2))))) (ar 1 false (.mp (St.h a.2) 0) f.2 fun d9 _=>bj .u8 d9 fun e0=>ax (aX (e0==2) (aN (IntKind.wrap .i64 (c+1)) fun e1=>some ([.int .i64 e1],f.2)) (some ([.int .i64 c],f.2))) fun u=>bg u.1 fun e2 e3=>bj .i64 e2 fun e4=>bB e3 (some (Sum.inl ([.bool i,.int .i64 e4,j],u.2)))))) (ax (ar 6 true (.mp (St.h a.2) 0) b.2 fun e5 _=>jk e5 fun v w y z x A=>(ar 1 false (.mp (St.h a.2) 4) b.2 fun e6 _=>bj .i64 e6 fun B=>ar 1 false (.mp (St.h a.2) 5) b.2 fun e7 _=>bG e7 fun e8=>aX e8 (aR 58 [j,.agg [.int .u8 v,.str w,.int .i64 y,z,.int .i64 x,.bool A],.int .i64 B,.bool true] b.2 fun e9 f0 _=>some ([e9],f0)) (ar 1 false (.mp (St.h a.2) 0) b.2 fun f1 _=>bj .u8 f1 fun f2=>aR 58 [j,.agg [.int .u8 v,.str w,.int .i64 y,z,.int .i64 x,.bool A],.int .i64 B,.bool (f2==6)] b.2 fun f3 f4 _=>some ([f3],f4)))) fun C=>bg C.1 fun f5 f6=>bB f6 (some (Sum.inl ([.bool i,.int .i64 c,f5],Prod.snd C))))) fun f7=>ke f7 fun D=>bg D.1 fun f8 f9=>bG f8 fun h0=>bg f9 fun h1 h2=>bj .i64 h1 fun h3=>bg h2 fun h4 h5=>bB h5 (some (Sum.inl ([.bool h0,.int .i64 h3,h4],Prod.snd D)))))) fun h6=>ke h6 fun E=>bg E.1 fun h7 h8=>bG h7 fun h9=>bg h8 fun i0 i1=>bj .i64 i0 fun i2=>bg i1 fun i3 i4=>bB i4 (some (Sum.inl ([.bool h9,.int .i64 i2,i3],Prod.snd E)))))) (some (Sum.inr (0,[.bool i,.int .i64 c],a.2)))))
noncomputable def Yl:AV->AV->St->Oq (AV×St):=fun a c st=>cg (notNil a) (cV 2 a fun d=>ar 1 false d st fun e _=>bj .i64 e fun f=>ax (aH (lS a) ([.bool false,.int .i64 f,c],st)) fun b=>bg b.2.1 fun g h=>bG g fun i=>bg h fun j k=>bj .i64 j fun l=>bB k (mR b.1 (cg (notNil a) (cV 3 a fun m=>ar 1 false m b.2.2 fun n _=>bj .i64 n fun o=>some (.bool (decide (l<=o)),Prod.snd b.2))) fun _=>some (.bool i,Prod.snd b.2)))
theorem UE (a b:AV) (st:St):cT vE 60 [a,b] st=Yl a b st:=by kernel_rfl
noncomputable def zT (c:LB):bU->Oq (bU ⊕ Nat×bU):=fun a=>bg a.1 fun e f=>bj .i64 e fun d=>bg f fun g h=>bj .i64 g fun b=>bB h (aX (decide (b < (↑c.length:Int))) (aN (IntKind.wrap .i64 (d * 64)) fun i=>gv c b fun j=>aN (IntKind.wrap .i64 (↑(UInt8.toNat j):Int)) fun k=>aN (IntKind.wrap .i64 (i+k)) fun l=>aN (IntKind.wrap .i64 (l - 128)) fun m=>aN (IntKind.wrap .i64 (b+1)) fun n=>some (Sum.inl ([.int .i64 m,.int .i64 n],a.2))) (some (Sum.inr (0,[.int .i64 d],a.2))))
noncomputable def Yb:AV->Oq AV:=fun b=>dN b fun a=>aX ((↑a.length:Int)==1) (gv a 0 fun c=>aN (IntKind.wrap .i64 (↑(UInt8.toNat c):Int)) fun d=>some (.int .i64 d)) (gv a 0 fun e=>aN (IntKind.wrap .i64 (↑(UInt8.toNat e):Int)) fun f=>dB 1 (.sl 1 [.int .i64 0,.int .i64 0,.int .i64 192,.int .i64 224,.int .i64 240] .shut) (↑a.length:Int) sZ fun g _=>ar 1 false g sZ fun h _=>bj .i64 h fun i=>aN (IntKind.wrap .i64 (f - i)) fun j=>ax (aH (zT a) ([.int .i64 j,.int .i64 1],sZ)) fun k=>bg k.2.1 fun l m=>bj .i64 l fun n=>bB m (some (.int .i64 n)))
theorem Tq (a:AV):bz vE 62 [a]=Yb a:=by kernel_rfl
noncomputable def Zx:AV->Oq AV:=fun b=>bj .i64 b fun a=>ax (aX (decide (a < 0)) (some ([.bool true],sZ)) (aX (decide (a > 1114111)) (some ([.bool true],sZ)) (aX (decide (a>=55296)) (some ([.bool (decide (a<=57343))],sZ)) (some ([.bool false],sZ))))) fun c=>bg c.1 fun d e=>bG d fun f=>bB e (aX f (some (.str [])) (aX (decide (a < 128)) (aN (IntKind.wrap .u8 a) fun g=>aN [UInt8.ofNat (Int.toNat g)] fun h=>some (.str h)) (aX (decide (a < 2048)) (aN (IntKind.wrap .i64 (Int.tdiv a 64)) fun i=>aN (IntKind.wrap .i64 (192+i)) fun j=>aN (IntKind.wrap .u8 j) fun k=>aN (Int.tmod a 64) fun l=>aN (IntKind.wrap .i64 (128+l)) fun m=>aN (IntKind.wrap .u8 m) fun n=>aN [UInt8.ofNat (Int.toNat k),UInt8.ofNat (Int.toNat n)] fun o=>some (.str o)) (aX (decide (a < 65536)) (aN (IntKind.wrap .i64 (Int.tdiv a 4096)) fun p=>aN (IntKind.wrap .i64 (224+p)) fun q=>aN (IntKind.wrap .u8 q) fun r=>aN (IntKind.wrap .i64 (Int.tdiv a 64)) fun s=>aN (Int.tmod s 64) fun t=>aN (IntKind.wrap .i64 (128+t)) fun u=>aN (IntKind.wrap .u8 u) fun v=>aN (Int.tmod a 64) fun w=>aN (IntKind.wrap .i64 (128+w)) fun y=>aN (IntKind.wrap .u8 y) fun z=>aN [UInt8.ofNat (Int.toNat r),UInt8.ofNat (Int.toNat v),UInt8.ofNat (Int.toNat z)] fun x=>some (.str x)) (aN (IntKind.wrap .i64 (Int.tdiv a 262144)) fun A=>aN (IntKind.wrap .i64 (240+A)) fun B=>aN (IntKind.wrap .u8 B) fun C=>aN (IntKind.wrap .i64 (Int.tdiv a 4096)) fun D=>aN (Int.tmod D 64) fun E=>aN (IntKind.wrap .i64 (128+E)) fun F=>aN (IntKind.wrap .u8 F) fun G=>aN (IntKind.wrap .i64 (Int.tdiv a 64)) fun H=>aN (Int.tmod H 64) fun I=>aN (IntKind.wrap .i64 (128+I)) fun J=>aN (IntKind.wrap .u8 J) fun K=>aN (Int.tmod a 64) fun L=>aN (IntKind.wrap .i64 (128+L)) fun M=>aN (IntKind.wrap .u8 M) fun N=>aN [UInt8.ofNat (Int.toNat C),UInt8.ofNat (Int.toNat G),UInt8.ofNat (Int.toNat K),UInt8.ofNat (Int.toNat N)] fun O=>some (.str O))))))
theorem UW (a:AV):bz vE 63 [a]=Zx a:=by kernel_rfl
noncomputable def ZN:AV->Oq AV:=fun a=>dN a fun b=>cX (aY vE) (dy (Prim.lib jU) [.str b]) sZ fun c _ _=>bG c fun d=>some (.bool d)
theorem Tl (a:AV):bz vE 70 [a]=ZN a:=by kernel_rfl
noncomputable def ZW:AV->Oq AV:=fun a=>dN a fun b=>aR 109 [.str b,.str [32,9,10,13]] sZ fun c _ _=>bj .i64 c fun d=>some (.tup [.int .u8 1,.int .i64 d])
theorem TC (a:AV):bz vE 71 [a]=ZW a:=by kernel_rfl
noncomputable def nL (a:LB):bU->Oq (bU ⊕ Nat×bU):=fun e=>bg e.1 fun m n=>bj .i64 m fun f=>bg n fun o p=>bj .u8 o fun c=>bg p fun q r=>bj .i64 q fun d=>bg r fun s t=>bj .i64 s fun b=>bB t (aX (decide (b < (↑a.length:Int))) (eJ b a.length fun u=>aN (List.drop u (List.take a.length a)) fun v=>aR 110 [.str v,.str [40,42]] e.2 fun w h _=>bG w fun y=>ax (aX y (aN (IntKind.wrap .i64 (f+1)) fun z=>aN (IntKind.wrap .i64 (b+2)) fun x=>some (Sum.inl ([.int .i64 z,.int .u8 c,.int .i64 d,.int .i64 x],h))) (eJ b a.length fun A=>aN (List.drop A (List.take a.length a)) fun B=>aR 110 [.str B,.str [42,41]] h fun C g _=>bG C fun D=>ax (aX D (aN (IntKind.wrap .i64 (f - 1)) fun i=>aN (IntKind.wrap .i64 (b+2)) fun j=>aX (i==0) (some (Sum.inr (Sum.inr (Sum.inr (1,[.int .u8 2,.int .i64 j],g))))) (some (Sum.inl ([.int .i64 i,.int .u8 c,.int .i64 d,.int .i64 j],g)))) (aN (IntKind.wrap .i64 (b+1)) fun E=>some (Sum.inl ([.int .i64 f,.int .u8 c,.int .i64 d,.int .i64 E],g)))) fun F=>ke F fun k=>bg k.1 fun G H=>bj .i64 G fun I=>bg H fun J K=>bj .u8 J fun L=>bg K fun M N=>bj .i64 M fun O=>bg N fun P Q=>bj .i64 P fun R=>bB Q (some (Sum.inl ([.int .i64 I,.int .u8 L,.int .i64 O,.int .i64 R],k.2))))) fun S=>ke S fun l=>bg l.1 fun T U=>bj .i64 T fun V=>bg U fun W X=>bj .u8 W fun Y=>bg X fun Z c7=>bj .i64 Z fun c8=>bg c7 fun c9 d0=>bj .i64 c9 fun d1=>bB d0 (some (Sum.inl ([.int .i64 V,.int .u8 Y,.int .i64 c8,.int .i64 d1],l.2)))) (some (Sum.inr (0,[.int .u8 c,.int .i64 d],e.2))))
noncomputable def Yz:AV->Oq AV:=fun c=>dN c fun a=>aR 110 [.str a,.str [40,42]] sZ fun d e _=>bG d fun f=>aX (!f) (some (.tup [.int .u8 0,.int .i64 0])) (ax (aH (nL a) ([.int .i64 0,.int .u8 0,.int .i64 0,.int .i64 0],e)) fun b=>bg b.2.1 fun g h=>bj .u8 g fun i=>bg h fun j k=>bj .i64 j fun l=>bB k (mR b.1 (some (.tup [.int .u8 9,.int .i64 (↑a.length:Int)])) fun _=>some (.tup [.int .u8 i,.int .i64 l])))
theorem TE (a:AV):bz vE 72 [a]=Yz a:=by kernel_rfl
noncomputable def Y4:AV->Oq AV:=fun e=>dN e fun a=>cg (Nat.ble 1 a.length) (aN (List.drop 0 (List.take 1 a)) fun f=>aR 109 [.str f,.str [97,98,99,100,101,102,103,104,105,106,107,108,109,110,111,112,113,114,115,116,117,118,119,120,121,122,95]] sZ fun g h _=>bj .i64 g fun i=>aX (i==0) (some (.tup [.int .u8 0,.int .i64 0])) (aR 109 [.str a,.str [97,98,99,100,101,102,103,104,105,106,107,108,109,110,111,112,113,114,115,116,117,118,119,120,121,122,95,65,66,67,68,69,70,71,72,73,74,75,76,77,78,79,80,81,82,83,84,85,86,87,88,89,90,39,48,49,50,51,52,53,54,55,56,57]] h fun j k _=>bj .i64 j fun b=>aR 111 [] k fun l m c=>cg (apart c (⟨[],.kept⟩)&&true) (cg (apart c (⟨[],.kept⟩)&&true) (eJ b a.length fun n=>aN (List.drop 0 (List.take n a)) fun o=>cg (apart c (⟨[],.kept⟩)&&true) (cX (aY vE) (jM (Env.T vE) 132 l (.str o) true) m fun d _ _=>gN d fun p=>cr p 0 fun q=>bj .u8 q fun r=>gN d fun s=>cr s 1 fun t=>bG t fun u=>aX u (some (.tup [.int .u8 r,.int .i64 b])) (some (.tup [.int .u8 4,.int .i64 b])))))))
theorem Ti (a:AV):bz vE 73 [a]=Y4 a:=by kernel_rfl
noncomputable def ZK:AV->Oq AV:=fun w=>dN w fun a=>aR 109 [.str a,.str [48,49,50,51,52,53,54,55,56,57]] sZ fun y h _=>bj .i64 y fun c=>ax (aX (c==0) (some ([.bool true],h)) (eJ c a.length fun z=>aN (List.drop z (List.take a.length a)) fun x=>aR 110 [.str x,.str [46]] h fun A B _=>bG A fun C=>some ([.bool !C],B))) fun i=>bg i.1 fun D E=>bG D fun F=>bB E (aX F (some (.tup [.int .u8 5,.int .i64 c])) (aN (IntKind.wrap .i64 (c+1)) fun G=>eJ G a.length fun H=>aN (List.drop H (List.take a.length a)) fun I=>aR 109 [.str I,.str [48,49,50,51,52,53,54,55,56,57]] i.2 fun J K _=>bj .i64 J fun d=>aN (IntKind.wrap .i64 (c+d)) fun L=>aN (IntKind.wrap .i64 (c+1)) fun M=>aN (IntKind.wrap .i64 (M+d)) fun b=>aN (IntKind.wrap .i64 (b+1)) fun j=>aN (if (↑a.length:Int) < j then (↑a.length:Int) else j) fun N=>eJ N a.length fun k=>eJ b k fun O=>aN (List.drop O (List.take k a)) fun P=>aR 109 [.str P,.str [101,69]] K fun Q l _=>bj .i64 Q fun R=>ax (aX (decide (R > 0)) (aN (IntKind.wrap .i64 (b+1)) fun S=>aN (IntKind.wrap .i64 (b+2)) fun m=>aN (if (↑a.length:Int) < m then (↑a.length:Int) else m) fun T=>eJ T a.length fun n=>eJ S n fun U=>aN (List.drop U (List.take n a)) fun V=>aR 109 [.str V,.str [43,45]] l fun W X _=>bj .i64 W fun f=>aN (IntKind.wrap .i64 (b+1)) fun Y=>aN (IntKind.wrap .i64 (Y+f)) fun Z=>eJ Z a.length fun c5=>aN (List.drop c5 (List.take a.length a)) fun c6=>aR 109 [.str c6,.str [48,49,50,51,52,53,54,55,56,57]] X fun c7 o _=>bj .i64 c7 fun g=>ax (aX (decide (g > 0)) (aN (IntKind.wrap .i64 (b+1)) fun c8=>aN (IntKind.wrap .i64 (b+1)) fun c9=>aN (IntKind.wrap .i64 (c9+f)) fun d0=>aN (IntKind.wrap .i64 (d0+g)) fun d1=>eJ d1 a.length fun p=>eJ c8 p fun d2=>aN (List.drop d2 (List.take p a)) fun d3=>aR 113 [.str d3,.str [43]] o fun d4 d5 _=>dN d4 fun d6=>cX (aY vE) (dy (Prim.lib (jG 172)) [.str d6]) d5 fun q r _=>gN q fun d7=>cr d7 0 fun d8=>bj .i64 d8 fun d9=>gN q fun e0=>cr e0 1 fun e1=>ax (Md BinOp.neq e1) fun e2=>bG e2 fun e3=>ax (aX e3 (some ([.int .i64 1073741824],r)) (some ([.int .i64 d9],r))) fun s=>bg s.1 fun e4 e5=>bj .i64 e4 fun e6=>bB e5 (aN (IntKind.wrap .i64 (b+1)) fun e7=>aN (IntKind.wrap .i64 (e7+f)) fun e8=>aN (IntKind.wrap .i64 (e8+g)) fun e9=>some ([.int .i64 e9,.int .i64 e6],s.2))) (some ([.int .i64 b,.int .i64 0],o))) fun t=>bg t.1 fun f0 f1=>bj .i64 f0 fun f2=>bg f1 fun f3 f4=>bj .i64 f3 fun f5=>bB f4 (some ([.int .i64 f2,.int .i64 f5],t.2))) (some ([.int .i64 b,.int .i64 0],l))) fun e=>bg e.1 fun f6 f7=>bj .i64 f6 fun u=>bg f7 fun f8 f9=>bj .i64 f8 fun v=>bB f9 (ax (aX (decide (L > 15)) (some ([.bool true],e.2)) (aN (IntKind.wrap .i64 (v - d)) fun h0=>aX (decide (h0 < -22)) (some ([.bool true],e.2)) (aN (IntKind.wrap .i64 (v - d)) fun h1=>some ([.bool (decide (h1 > 22))],e.2)))) fun h2=>bg h2.1 fun h3 h4=>bG h3 fun h5=>bB h4 (aX h5 (some (.tup [.int .u8 9,.int .i64 u])) (some (.tup [.int .u8 6,.int .i64 u]))))))
theorem Vk (a:AV):bz vE 74 [a]=ZK a:=by kernel_rfl
noncomputable def gS (b:LB):bU->Oq (bU ⊕ Nat×bU):=fun c=>bg c.1 fun k l=>bj .u8 k fun d=>bg l fun m n=>bj .i64 m fun e=>bg n fun o p=>bj .i64 o fun a=>bB p (aX (decide (a < (↑b.length:Int))) (ax (gv b a fun g=>aX ((↑(UInt8.toNat g):Int)==34) (aN (IntKind.wrap .i64 (a+1)) fun q=>some (Sum.inr (Sum.inr (1,[.int .u8 7,.int .i64 q],c.2)))) (aX ((↑(UInt8.toNat g):Int)==92) (ax (aN (IntKind.wrap .i64 (a+1)) fun r=>aX (decide (r < (↑b.length:Int))) (aN (IntKind.wrap .i64 (a+1)) fun s=>gv b s fun t=>aR 114 [.str [110,116,92,34],.int .u8 (↑(UInt8.toNat t):Int)] c.2 fun u v _=>bj .i64 u fun w=>some ([.bool (decide (w>=0))],v)) (some ([.bool false],c.2))) fun f=>bg f.1 fun y z=>bG y fun x=>bB z (aX x (aN (IntKind.wrap .i64 (a+1)) fun A=>some (Sum.inl ([.int .i64 A,.int .u8 d,.int .i64 e],f.2))) (eJ a b.length fun B=>aN (List.drop B (List.take b.length b)) fun C=>aR 114 [.str C,.int .u8 34] f.2 fun D h _=>bj .i64 D fun i=>aX (decide (i>=0)) (aN (IntKind.wrap .i64 (a+i)) fun E=>aN (IntKind.wrap .i64 (E+1)) fun F=>some (Sum.inr (Sum.inr (1,[.int .u8 9,.int .i64 F],h)))) (some (Sum.inr (Sum.inr (1,[.int .u8 9,.int .i64 (↑b.length:Int)],h))))))) (some (Sum.inl ([.int .i64 a,.int .u8 d,.int .i64 e],c.2))))) fun G=>ke G fun j=>bg j.1 fun H I=>bj .i64 H fun J=>bg I fun K L=>bj .u8 K fun M=>bg L fun N O=>bj .i64 N fun P=>bB O (aN (IntKind.wrap .i64 (J+1)) fun Q=>some (Sum.inl ([.int .u8 M,.int .i64 P,.int .i64 Q],j.2)))) (some (Sum.inr (0,[.int .u8 d,.int .i64 e],c.2))))
noncomputable def Yg:AV->Oq AV:=fun g=>dN g fun a=>gv a 0 fun h=>aX ((↑(UInt8.toNat h):Int) != 34) (some (.tup [.int .u8 0,.int .i64 0])) (aR 114 [.str a,.int .u8 10] sZ fun i b _=>bj .i64 i fun c=>ax (aX (decide (c>=0)) (eJ c a.length fun j=>aN (List.drop 0 (List.take j a)) fun k=>some ([.str k],b)) (some ([.str a],b))) fun d=>bg d.1 fun l m=>dN l fun e=>bB m (ax (aH (gS e) ([.int .u8 0,.int .i64 0,.int .i64 1],d.2)) fun f=>bg f.2.1 fun n o=>bj .u8 n fun p=>bg o fun q r=>bj .i64 q fun s=>bB r (mR f.1 (some (.tup [.int .u8 9,.int .i64 (↑e.length:Int)])) fun _=>some (.tup [.int .u8 p,.int .i64 s]))))
theorem S8 (a:AV):bz vE 75 [a]=Yg a:=by kernel_rfl
noncomputable def Yn:AV->Oq AV:=fun o=>dN o fun b=>ax (aX (decide ((↑b.length:Int) > 1)) (cg (Nat.ble 2 b.length) (aN (List.drop 0 (List.take 2 b)) fun a=>ax (aX (a==[45,62]) (some ([.bool (a==[45,62])],sZ)) (ax (aX (a==[58,58]) (some ([.bool (a==[58,58])],sZ)) (ax (aX (a==[60,62]) (some ([.bool (a==[60,62])],sZ)) (ax (aX (a==[60,61]) (some ([.bool (a==[60,61])],sZ)) (ax (aX (a==[62,61]) (some ([.bool (a==[62,61])],sZ)) (ax (aX (a==[43,46]) (some ([.bool (a==[43,46])],sZ)) (ax (aX (a==[45,46]) (some ([.bool (a==[45,46])],sZ)) (ax (aX (a==[42,46]) (some ([.bool (a==[42,46])],sZ)) (ax (aX (a==[47,46]) (some ([.bool (a==[47,46])],sZ)) (ax (aX (a==[38,38]) (some ([.bool (a==[38,38])],sZ)) (some ([.bool (a==[124,124])],sZ))) fun c=>bg c.1 fun p q=>bG p fun r=>bB q (some ([.bool r],c.2)))) fun d=>bg d.1 fun s t=>bG s fun u=>bB t (some ([.bool u],d.2)))) fun e=>bg e.1 fun v w=>bG v fun y=>bB w (some ([.bool y],e.2)))) fun f=>bg f.1 fun z x=>bG z fun A=>bB x (some ([.bool A],f.2)))) fun g=>bg g.1 fun B C=>bG B fun D=>bB C (some ([.bool D],g.2)))) fun h=>bg h.1 fun E F=>bG E fun G=>bB F (some ([.bool G],h.2)))) fun i=>bg i.1 fun H I=>bG H fun J=>bB I (some ([.bool J],i.2)))) fun j=>bg j.1 fun K L=>bG K fun M=>bB L (some ([.bool M],j.2)))) fun k=>bg k.1 fun N O=>bG N fun P=>bB O (some ([.bool P],k.2)))) fun l=>bg l.1 fun Q R=>bG Q fun S=>bB R (aX S (some (Sum.inr (.tup [.int .u8 8,.int .i64 2]))) (some (Sum.inl ([.int .u8 0,.int .i64 0],l.2)))))) (some (Sum.inl ([.int .u8 0,.int .i64 0],sZ)))) fun T=>ke T fun m=>bg m.1 fun U V=>bj .u8 U fun _=>bg V fun W X=>bj .i64 W fun _=>bB X (cg (Nat.ble 1 b.length) (aN (List.drop 0 (List.take 1 b)) fun Y=>aR 109 [.str Y,.str [40,41,91,93,44,59,124,61,60,62,43,45,42,47,94,64]] m.2 fun Z _ _=>bj .i64 Z fun n=>aN (if n < 1 then n else 1) fun c7=>some (.tup [.int .u8 8,.int .i64 c7])))
theorem U7 (a:AV):bz vE 76 [a]=Yn a:=by kernel_rfl
noncomputable def ZG:AV->Oq AV:=fun b=>dN b fun c=>aR 115 [.str c] sZ fun a _ _=>gN a fun d=>cr d 0 fun e=>bj .i64 e fun _=>gN a fun f=>cr f 1 fun g=>bj .i64 g fun h=>some (.tup [.int .u8 9,.int .i64 h])
theorem Ue (a:AV):bz vE 77 [a]=ZG a:=by kernel_rfl
noncomputable def A8 (b:AV) (st:St):bU->Oq (bU ⊕ Nat×bU):=fun a=>bg a.1 fun f g=>bj .i64 f fun e=>bg g fun i j=>bj .i64 i fun c=>bB j (cg (notNil b) (cV 0 b fun k=>ar 1 false k a.2 fun l _=>fq l fun m=>aX (decide (c < (↑m:Int))) (cg (notNil b) (cV 0 b fun n=>ar 1 false n a.2 fun o _=>dB 2 o c a.2 fun p _=>ar 2 true p a.2 fun q _=>dR q fun r s=>(aR 116 [.agg [.int .u8 r,.str s]] a.2 fun t d _=>bG t fun u=>aX (!u) (cg (notNil b) (cV 0 b fun v=>ar 1 false v d fun w _=>dB 2 w c d fun y _=>ar 2 true y d fun z _=>dR z fun x A=>(da 2 (.mp st.h 0) [.int .u8 x,.str A] d fun _ B _=>some (Sum.inr (1,[.int .i64 c],B))))) (aN (IntKind.wrap .i64 (c+1)) fun C=>some (Sum.inl ([.int .i64 e,.int .i64 C],d)))))) (some (Sum.inr (0,[.int .i64 e],a.2)))))
noncomputable def X6:AV->St->Oq (AV×St):=fun b st=>bk (St.add st (.cells 24 [.int .u8 0,.str []])) fun d=>cg (notNil b) (cV 1 b fun f=>ar 1 false f d fun g _=>bj .i64 g fun i=>ax (aH (A8 b st) ([.int .i64 0,.int .i64 i],d)) fun a=>bg a.2.1 fun j k=>bj .i64 j fun l=>bB k (mR a.1 (cg (notNil b) (cV 0 b fun m=>ar 1 false m a.2.2 fun n o=>fq n fun p=>da 2 (.mp st.h 0) [.int .u8 0,.str []] a.2.2 fun _ e c=>cg (apart (⟨[],.kept⟩) c&&(apart (Fx.mk o du.kept) c&&(apart (⟨[],.kept⟩) c&&(apart (⟨[],.kept⟩) c&&(apart (⟨[],.kept⟩) c&&true))))) (ar 2 true (.mp st.h 0) e fun q _=>dR q fun r s=>(some (.tup [.agg [.int .u8 r,.str s],.int .i64 (↑p:Int)],e))))) fun _=>ar 2 true (.mp st.h 0) a.2.2 fun t _=>dR t fun u v=>(some (.tup [.agg [.int .u8 u,.str v],.int .i64 l],Prod.snd a.2))))
theorem O5 (a:AV) (st:St):cT vE 78 [a] st=X6 a st:=by kernel_rfl
noncomputable def XL:AV->AV->St->Oq (AV×St):=fun f c st=>aR 78 [f] st fun d b _=>gN d fun g=>cr g 0 fun i=>dR i fun j k=>(gN d fun l=>cr l 1 fun m=>bj .i64 m fun _=>bk (St.add b (.cells 24 [.int .u8 0,.str []])) fun n=>da 2 (.mp b.h 0) [.int .u8 j,.str k] n fun _ a _=>ax (ar 1 false (.mp b.h 0) a fun o _=>bj .u8 o fun p=>aX (p==3) (ar 1 false (.mp b.h 1) a fun q _=>dN q fun r=>aR 117 [c,.str r] a fun s t _=>bG s fun u=>some ([.bool u],t)) (ar 1 false (.mp b.h 0) a fun v _=>bj .u8 v fun w=>aX (w==8) (ar 1 false (.mp b.h 1) a fun y _=>dN y fun z=>aR 117 [c,.str z] a fun x A _=>bG x fun B=>some ([.bool B],A)) (some ([.bool false],a)))) fun e=>bg e.1 fun C D=>bG C fun E=>bB D (some (.bool E,e.2)))
theorem S5 (a b:AV) (st:St):cT vE 79 [a,b] st=XL a b st:=by kernel_rfl
noncomputable def AJ (e:St) (i:AV) (j:Nat):bU->Oq (bU ⊕ Nat×bU):=fun a=>bg a.1 fun k l=>bj .i64 k fun b=>bB l (aX (decide (b < (↑j:Int))) (dB 2 i b a.2 fun m _=>ar 2 true m a.2 fun n _=>dR n fun f g=>(bk (St.add a.2 (.cells 24 [.int .u8 0,.str []])) fun o=>bm (aY vE) 2 (.mp (St.h a.2) 0) (.agg [.int .u8 f,.str g]) [.int .u8 f,.str g] o fun _ c _=>ar 1 false (.mp e.h 3) c fun p _=>ar 2 true (.mp (St.h a.2) 0) c fun q _=>dR q fun r s=>(cq 4 56 27 p [nA 1 r s .aD] c fun d t _=>ab d (ab d (lV (.mp e.h 3) d t fun _ u _=>aN (IntKind.wrap .i64 (b+1)) fun v=>some (Sum.inl ([.int .i64 v],u))))))) (some (Sum.inr (0,[],a.2))))
noncomputable def YY:AV->St->Oq (AV×St):=fun a st=>bk (St.add st (.cells 27 (nC 0 0 [] .aD))) fun p=>aR 78 [a] p fun f c _=>gN f fun q=>cr q 0 fun r=>dR r fun s t=>(gN f fun u=>cr u 1 fun v=>bj .i64 v fun g=>bk (St.add c (.cells 24 [.int .u8 0,.str []])) fun w=>da 2 (.mp c.h 0) [.int .u8 s,.str t] w fun _ b _=>ar 2 true (.mp c.h 0) b fun y _=>dR y fun z x=>(bk (St.add b (.cells 27 (nC 0 0 [] .aD))) fun A=>da 4 (.mp b.h 0) (nC 1 z x .aD) A fun _ d _=>cg (notNil a) (cV 0 a fun B=>ar 1 false B d fun C _=>cg (notNil a) (cV 1 a fun D=>ar 1 false D d fun E _=>bj .i64 E fun F=>fw 2 C (some F) (some g) none fun i=>fq i fun G=>ax (aH (AJ b i G) ([.int .i64 0],d)) fun e=>bB e.2.1 (aN (IntKind.wrap .i64 (g+1)) fun j=>cg (notNil a) (cV 0 a fun H=>ar 1 false H e.2.2 fun I _=>fq I fun k=>aN (if (↑k:Int) < j then (↑k:Int) else j) fun l=>cg (notNil a) (cV 1 a fun J=>bm (aY vE) 1 J (.int .i64 l) [.int .i64 l] e.2.2 fun _ m _=>ar 4 true (.mp b.h 0) m fun K _=>ag K fun L M N n=>(ab n (da 4 (.mp st.h 0) (nC L M N n) m fun _ o _=>ar 4 true (.mp st.h 0) o fun O _=>ag O fun P Q R S=>(some (nA P Q R S,o)))))))))))
theorem SC (a:AV) (st:St):cT vE 80 [a] st=YY a st:=by kernel_rfl
noncomputable def wa (b:AV):bU->Oq (bU ⊕ Nat×bU):=fun c=>bg c.1 fun d g=>bB g (aR 118 [b,.int .u8 5,.str [95]] c.2 fun h e _=>bG h fun i=>aX i (aR 119 [b,.bool true] e fun j k _=>ag j fun l m n a=>(ab a (ab a (aB a fun f=>ab f (aB f fun o=>cq 4 56 27 d [nA l m n o] k fun p q _=>some (Sum.inl ([p],q))))))) (some (Sum.inr (0,[d],e))))
noncomputable def Y3:AV->St->Oq (AV×St):=fun a st=>aR 79 [a,.sl 1 [.str [114,101,99]] .shut] st fun v j _=>bG v fun w=>ax (aX w (aR 80 [a] j fun y k _=>ag y fun z x A b=>(ab b (ab b (aB b fun l=>ab l (aB l fun B=>bk (St.add k (Obj.tok 1 27)) fun C=>some ([.sl 4 [nA z x A B] (Perm.own k.h)],C)))))) (some ([.aD],j))) fun m=>bg m.1 fun n D=>bB D (aR 78 [a] m.2 fun o c _=>gN o fun E=>cr E 0 fun F=>dR F fun G H=>(gN o fun I=>cr I 1 fun J=>bj .i64 J fun _=>bk (St.add c (.cells 24 [.int .u8 0,.str []])) fun K=>da 2 (.mp c.h 0) [.int .u8 G,.str H] K fun _ d _=>ar 1 false (.mp c.h 0) d fun L _=>bj .u8 L fun M=>ax (aX (M==4) (aR 80 [a] d fun N O _=>ag N fun P Q R e=>(ab e (ab e (aB e fun p=>ab p (aB p fun S=>cq 4 56 27 n [nA P Q R S] O fun T U _=>ax (aH (wa a) ([T],U)) fun q=>bg q.2.1 fun V W=>bB W (some ([V],Prod.snd q.2))))))) (aR 119 [a,.bool true] d fun X Y _=>ag X fun Z c7 c8 f=>(ab f (ab f (aB f fun r=>ab r (aB r fun c9=>cq 4 56 27 n [nA Z c7 c8 c9] Y fun d0 d1 _=>some ([d0],d1))))))) fun s=>bg s.1 fun d2 d3=>bB d3 (aR 120 [a,.str [61]] s.2 fun d4 d5 _=>ag d4 fun d6 d7 d8 g=>(aR 121 [a] d5 fun d9 e0 _=>ag d9 fun e1 e2 e3 i=>(ab g (ab i (ab g (aB g fun t=>ab i (aB i fun u=>ab t (aB t fun e4=>ab u (aB u fun e5=>cq 4 56 27 d2 [nA d6 d7 d8 e4,nA e1 e2 e3 e5] e0 fun e6 e7 _=>some (oneOf [e6],e7))))))))))))
theorem TV (a:AV) (st:St):cT vE 81 [a] st=Y3 a st:=by kernel_rfl
noncomputable def mP (e:AV) (f:AV) (g:Nat):bU->Oq (bU ⊕ Nat×bU):=fun a=>bg a.1 fun h i=>bj .i64 h fun c=>bg i fun j k=>bj .i64 j fun b=>bB k (aX (decide (b < (↑g:Int))) (dB 4 e b a.2 fun l _=>ar 4 true l a.2 fun m _=>ag m fun n o p q=>(jx (aY vE) (Sx.prim (sx vE 82)) f [nA n o p q] a.2 fun r d _=>bG r fun s=>aX s (some (Sum.inr (1,[.int .i64 b],d))) (aN (IntKind.wrap .i64 (b+1)) fun t=>some (Sum.inl ([.int .i64 c,.int .i64 t],d))))) (some (Sum.inr (0,[.int .i64 c],a.2))))
noncomputable def WB:AV->AV->Oq AV:=fun a c=>fq a fun d=>ax (aH (mP a c d) ([.int .i64 0,.int .i64 0],sZ)) fun b=>bg b.2.1 fun e f=>bj .i64 e fun g=>bB f (mR b.1 (some (.int .i64 (-1))) fun _=>some (.int .i64 g))
theorem DS (a b:AV):bz vE 82 [a,b]=WB a b:=by kernel_rfl
noncomputable def tY (e:AV) (f:AV) (g:Nat):bU->Oq (bU ⊕ Nat×bU):=fun a=>bg a.1 fun h i=>bj .i64 h fun c=>bg i fun j k=>bj .i64 j fun b=>bB k (aX (decide (b < (↑g:Int))) (dB 4 e b a.2 fun l _=>ar 4 true l a.2 fun m _=>aP m fun n o p q=>(jx (aY vE) (Sx.prim (sx vE 102)) f [dA n o p q] a.2 fun r d _=>bG r fun s=>aX s (some (Sum.inr (1,[.int .i64 b],d))) (aN (IntKind.wrap .i64 (b+1)) fun t=>some (Sum.inl ([.int .i64 c,.int .i64 t],d))))) (some (Sum.inr (0,[.int .i64 c],a.2))))
noncomputable def V8:AV->AV->Oq AV:=fun a c=>fq a fun d=>ax (aH (tY a c d) ([.int .i64 0,.int .i64 0],sZ)) fun b=>bg b.2.1 fun e f=>bj .i64 e fun g=>bB f (mR b.1 (some (.int .i64 (-1))) fun _=>some (.int .i64 g))
theorem Qc (a b:AV):bz vE 102 [a,b]=V8 a b:=by kernel_rfl
noncomputable def Yh:AV->AV->St->Oq (AV×St):=fun a f st=>dN f fun c=>cX (aY vE) (dy (Prim.copyCheck [(65,2,0),(66,2,0),(67,4,0),(68,4,0)]) [a]) st fun _ d _=>cg (notNil a) (cV 1 a fun g=>ar 1 false g d fun h _=>mJ false (ofBytes c) fun e=>cg (mg 1 e) (cq 1 1 5 h e d fun b i _=>cg (notNil a) (cV 1 a fun j=>ab b (ab b (lV j b i fun _ k _=>some (.tup [.int .i64 (↑c.length:Int),.nili],k))))))
theorem Qt (a b:AV) (st:St):cT vE 103 [a,b] st=Yh a b st:=by kernel_rfl
noncomputable def Xp:AV->AV->Oq AV:=fun b c=>dN b fun a=>dN c fun d=>cX (aY vE) (dy (Prim.lib ir) [.str a,.str d]) sZ fun e _ _=>dN e fun f=>aN (IntKind.wrap .i64 ((↑a.length:Int) - (↑f.length:Int))) fun g=>some (.int .i64 g)
theorem P4 (a b:AV):bz vE 109 [a,b]=Xp a b:=by kernel_rfl
noncomputable def Xw:AV->AV->Oq AV:=fun a b=>dN a fun c=>dN b fun d=>aR 136 [.str c,.str d] sZ fun e _ _=>bG e fun f=>some (.bool f)
theorem QV (a b:AV):bz vE 110 [a,b]=Xw a b:=by kernel_rfl
noncomputable def Xs:AV->AV->Oq AV:=fun a b=>dN a fun c=>dN b fun d=>aR 140 [.str c,.str d] sZ fun e _ _=>dN e fun f=>some (.str f)
theorem Q6 (a b:AV):bz vE 113 [a,b]=Xs a b:=by kernel_rfl
noncomputable def Xt:AV->AV->Oq AV:=fun a b=>dN a fun c=>bj .u8 b fun d=>aR 141 [.str c,.int .u8 d] sZ fun e _ _=>bj .i64 e fun f=>some (.int .i64 f)
theorem Q0 (a b:AV):bz vE 114 [a,b]=Xt a b:=by kernel_rfl
noncomputable def Rm:AV->Oq AV:=fun f=>dN f fun a=>aX (a==[]) (some (.tup [.int .i64 (-1),.int .i64 0])) (cX (aY vE) (dy (Prim.lib kC) [.str a]) sZ fun b c _=>gN b fun g=>cr g 0 fun h=>bj .i32 h fun d=>gN b fun i=>cr i 1 fun j=>bj .i64 j fun e=>ax (aX (d==65533) (some ([.bool (decide (e < 2))],c)) (some ([.bool false],c))) fun k=>bg k.1 fun l m=>bG l fun n=>bB m (aX n (some (.tup [.int .i64 (-1),.int .i64 1])) (aN (IntKind.wrap .i64 d) fun o=>some (.tup [.int .i64 o,.int .i64 e]))))
theorem JS (a:AV):bz vE 115 [a]=Rm a:=by kernel_rfl
noncomputable def SH:AV->Oq AV:=fun b=>dR b fun a _=>(ax (aX (a==1) (some ([.bool true],sZ)) (some ([.bool (a==2)],sZ))) fun c=>bg c.1 fun d e=>bG d fun f=>bB e (some (.bool f)))
theorem Qi (a:AV):bz vE 116 [a]=SH a:=by kernel_rfl
noncomputable def V6:AV->AV->Oq AV:=fun a b=>dN b fun c=>aR 143 [a,.str c] sZ fun d _ _=>bj .i64 d fun e=>some (.bool (decide (e>=0)))
theorem Pl (a b:AV):bz vE 117 [a,b]=V6 a b:=by kernel_rfl
noncomputable def S6:AV->AV->AV->St->Oq (AV×St):=fun e k l st=>bj .u8 k fun m=>dN l fun n=>aR 78 [e] st fun f c _=>gN f fun o=>cr o 0 fun p=>dR p fun q r=>(gN f fun s=>cr s 1 fun t=>bj .i64 t fun _=>bk (St.add c (.cells 24 [.int .u8 0,.str []])) fun u=>da 2 (.mp c.h 0) [.int .u8 q,.str r] u fun _ b _=>ar 1 false (.mp c.h 0) b fun v _=>bj .u8 v fun a=>ax (aX (a==4) (some ([.bool (a==4)],b)) (ax (aX (a==5) (some ([.bool (a==5)],b)) (ax (aX (a==7) (some ([.bool (a==7)],b)) (ax (aX (a==9) (some ([.bool (a==9)],b)) (some ([.bool (a==m)],b))) fun g=>bg g.1 fun w y=>bG w fun z=>bB y (some ([.bool z],g.2)))) fun i=>bg i.1 fun x A=>bG x fun B=>bB A (some ([.bool B],i.2)))) fun j=>bg j.1 fun C D=>bG C fun E=>bB D (some ([.bool E],j.2)))) fun d=>bg d.1 fun F G=>bG F fun H=>bB G (aX H (some (.bool true,d.2)) (aR 79 [e,.sl 1 [.str [116,114,117,101],.str [102,97,108,115,101],.str [40],.str [91],.str n] .shut] d.2 fun I J _=>bG I fun K=>some (.bool K,J))))
theorem Kj (a b c:AV) (st:St):cT vE 118 [a,b,c] st=S6 a b c st:=by kernel_rfl
noncomputable def WT:AV->AV->St->Oq (AV×St):=fun a u st=>bG u fun v=>bk (St.add st (.cells 27 (nC 0 0 [] .aD))) fun e=>ax (aX v (some ([.str [112,97,116,116,101,114,110],.int .u8 17,.int .u8 18,.str [95],.fn (Fn.func 144) [a] [],.int .u8 5],e)) (some ([.str [101,120,112,114],.int .u8 14,.int .u8 15,.str [40],.fn (Fn.func 121) [a] [],.int .u8 6],e))) fun f=>bg f.1 fun w y=>dN w fun z=>bg y fun x A=>bj .u8 x fun B=>bg A fun C D=>bj .u8 C fun E=>bg D fun F G=>dN F fun H=>bg G fun g I=>bg I fun J K=>bj .u8 J fun L=>bB K (aR 78 [a] f.2 fun i c _=>gN i fun M=>cr M 0 fun N=>dR N fun O P=>(gN i fun Q=>cr Q 1 fun R=>bj .i64 R fun _=>bk (St.add c (.cells 24 [.int .u8 0,.str []])) fun S=>da 2 (.mp c.h 0) [.int .u8 O,.str P] S fun _ T _=>aR 118 [a,.int .u8 L,.str H] T fun U b _=>bG U fun V=>aX (!V) (aR 145 [.str z] b fun W X _=>ag W fun Y Z c3 j=>(ab j (da 4 (.mp st.h 0) (nC Y Z c3 j) X fun _ k _=>ar 4 true (.mp st.h 0) k fun c4 _=>ag c4 fun c5 c6 c7 c8=>(some (nA c5 c6 c7 c8,k))))) (ar 1 false (.mp c.h 0) b fun c9 _=>bj .u8 c9 fun d0=>aX (d0==9) (aR 80 [a] b fun d1 d2 _=>ag d1 fun d3 d4 d5 d=>(ab d (ab d (aB d fun d6=>da 4 (.mp st.h 0) [.int .u8 3,.int .u8 0,.str [],.sl 4 [nA d3 d4 d5 d6] .shut] d2 fun _ l _=>ar 4 true (.mp st.h 0) l fun d7 _=>ag d7 fun d8 d9 e0 e1=>(some (nA d8 d9 e0 e1,l)))))) (aR 79 [a,.sl 1 [.str [40]] .shut] b fun e2 m _=>bG e2 fun e3=>aX e3 (aR 146 [a,.int .u8 B,.str [44],.str [41],g] m fun e4 e5 _=>ag e4 fun e6 e7 e8 n=>(ab n (da 4 (.mp st.h 0) (nC e6 e7 e8 n) e5 fun _ o _=>ar 4 true (.mp st.h 0) o fun e9 _=>ag e9 fun f0 f1 f2 f3=>(some (nA f0 f1 f2 f3,o))))) (aR 79 [a,.sl 1 [.str [91]] .shut] m fun f4 p _=>bG f4 fun f5=>aX f5 (aR 146 [a,.int .u8 E,.str [59],.str [93],g] p fun f6 f7 _=>ag f6 fun f8 f9 h0 q=>(ab q (da 4 (.mp st.h 0) (nC f8 f9 h0 q) f7 fun _ r _=>ar 4 true (.mp st.h 0) r fun h1 _=>ag h1 fun h2 h3 h4 h5=>(some (nA h2 h3 h4 h5,r))))) (aR 80 [a] p fun h6 h7 _=>ag h6 fun h8 h9 i0 s=>(ab s (da 4 (.mp st.h 0) (nC h8 h9 i0 s) h7 fun _ t _=>ar 4 true (.mp st.h 0) t fun i1 _=>ag i1 fun i2 i3 i4 i5=>(some (nA i2 i3 i4 i5,t))))))))))
theorem Rv (a b:AV) (st:St):cT vE 119 [a,b] st=WT a b st:=by kernel_rfl
noncomputable def Tp:AV->AV->St->Oq (AV×St):=fun a i st=>dN i fun b=>bk (St.add st (.cells 27 (nC 0 0 [] .aD))) fun j=>aR 79 [a,.sl 1 [.str b] .shut] j fun k c _=>bG k fun l=>aX l (aR 80 [a] c fun m n _=>ag m fun o p q d=>(ab d (da 4 (.mp st.h 0) (nC o p q d) n fun _ e _=>ar 4 true (.mp st.h 0) e fun r _=>ag r fun s t u v=>(some (nA s t u v,e))))) (aR 145 [.str b] c fun w y _=>ag w fun z x A f=>(ab f (da 4 (.mp st.h 0) (nC z x A f) y fun _ g _=>ar 4 true (.mp st.h 0) g fun B _=>ag B fun C D E F=>(some (nA C D E F,g)))))
theorem JG (a b:AV) (st:St):cT vE 120 [a,b] st=Tp a b st:=by kernel_rfl
noncomputable def Xy:AV->St->Oq (AV×St):=fun a st=>bk (St.add st (.cells 27 (nC 0 0 [] .aD))) fun d=>aR 147 [a,.str [101,120,112,114],.fn (Fn.func 148) [a] []] d fun e f _=>ag e fun g i j b=>(ab b (da 4 (.mp st.h 0) (nC g i j b) f fun _ c _=>ar 4 true (.mp st.h 0) c fun k _=>ag k fun l m n o=>(some (nA l m n o,c))))
theorem PG (a:AV) (st:St):cT vE 121 [a] st=Xy a st:=by kernel_rfl
noncomputable def Uc:AV->AV->Oq AV:=fun c d=>dN c fun b=>dN d fun a=>ax (aX (decide ((↑b.length:Int)>=(↑a.length:Int))) (cg (Nat.ble a.length b.length) (aN (List.drop 0 (List.take a.length b)) fun e=>some ([.bool (e==a)],sZ))) (some ([.bool false],sZ))) fun f=>bg f.1 fun g h=>bG g fun i=>bB h (some (.bool i))
theorem Rq (a b:AV):bz vE 136 [a,b]=Uc a b:=by kernel_rfl
noncomputable def XH:AV->AV->Oq AV:=fun c d=>dN c fun a=>dN d fun b=>aR 136 [.str a,.str b] sZ fun e _ _=>bG e fun f=>aX f (cg (Nat.ble b.length a.length) (aN (List.drop b.length (List.take a.length a)) fun g=>some (.str g))) (some (.str a))
theorem Re (a b:AV):bz vE 140 [a,b]=XH a b:=by kernel_rfl
noncomputable def Wp:AV->AV->Oq AV:=fun a b=>dN a fun c=>bj .u8 b fun d=>cX (aY vE) (dy Prim.indexByte [.str c,.int .u8 d]) sZ fun e _ _=>bj .i64 e fun f=>some (.int .i64 f)
theorem QD (a b:AV):bz vE 141 [a,b]=Wp a b:=by kernel_rfl
noncomputable def rB (d:AV) (e:LB) (f:Nat):bU->Oq (bU ⊕ Nat×bU):=fun a=>bg a.1 fun g h=>bj .i64 g fun c=>bg h fun i j=>bj .i64 i fun b=>bB j (aX (decide (b < (↑f:Int))) (dB 1 d b a.2 fun k _=>ar 1 false k a.2 fun l _=>dN l fun m=>aX (e==m) (some (Sum.inr (1,[.int .i64 b],a.2))) (aN (IntKind.wrap .i64 (b+1)) fun n=>some (Sum.inl ([.int .i64 c,.int .i64 n],a.2)))) (some (Sum.inr (0,[.int .i64 c],a.2))))
noncomputable def T1:AV->AV->Oq AV:=fun a c=>dN c fun d=>fq a fun e=>ax (aH (rB a d e) ([.int .i64 0,.int .i64 0],sZ)) fun b=>bg b.2.1 fun f g=>bj .i64 f fun h=>bB g (mR b.1 (some (.int .i64 (-1))) fun _=>some (.int .i64 h))
theorem Kc (a b:AV):bz vE 143 [a,b]=T1 a b:=by kernel_rfl
noncomputable def WJ:AV->St->Oq (AV×St):=fun a st=>ab a (ab a (bk (St.add st (.cells 83 [a])) fun b=>bk (St.add b (.cells 27 (nC 0 0 [] .aD))) fun c=>ar 1 false (.mp st.h 0) c fun f _=>aR 147 [f,.str [112,97,116,116,101,114,110],.fn (Fn.func 170) [] [.mp st.h 0]] c fun g i _=>ag g fun j k l d=>(ab d (da 4 (.mp b.h 0) (nC j k l d) i fun _ e _=>ar 4 true (.mp b.h 0) e fun m _=>ag m fun n o p q=>(some (nA n o p q,e))))))
theorem P8 (a:AV) (st:St):cT vE 144 [a] st=WJ a st:=by kernel_rfl
noncomputable def Wl:AV->Oq AV:=fun a=>dN a fun b=>some (nA 2 0 b .aD)
theorem Pu (a:AV):bz vE 145 [a]=Wl a:=by kernel_rfl
noncomputable def nD (g:AV) (o:AV) (p:LB) (a:St):bU->Oq (bU ⊕ Nat×bU):=fun i=>bB i.1 (aR 79 [g,.sl 1 [.str p] .shut] i.2 fun q b _=>bG q fun r=>aX r (ar 1 false (.mp a.h 3) b fun s t=>aR 80 [g] b fun u v j=>ag u fun w y z c=>(cg (apart (Fx.mk t du.kept) j&&(apart (⟨[],.kept⟩) j&&true)) (ab c (ab c (aB c fun k=>ab k (aB k fun x=>cq 4 56 27 s [nA w y z x] v fun d A _=>ab d (ab d (lV (.mp a.h 3) d A fun _ l _=>ar 1 false (.mp a.h 3) l fun B C=>jx (aY vE) (Sx.prim (sx vE 146)) o [] l fun D E m=>ag D fun F G H e=>(cg (apart (Fx.mk C du.kept) m&&(apart (⟨[],.kept⟩) m&&true)) (ab e (ab e (aB e fun n=>ab n (aB n fun I=>cq 4 56 27 B [nA F G H I] E fun f J _=>ab f (ab f (lV (.mp a.h 3) f J fun _ K _=>some (Sum.inl ([],K))))))))))))))))) (some (Sum.inr (0,[],b))))
noncomputable def VX:AV->AV->AV->AV->AV->St->Oq (AV×St):=fun b A B C m st=>bj .u8 A fun D=>dN B fun l1=>dN C fun n=>bk (St.add st (.cells 27 (nC 0 0 [] .aD))) fun E=>aR 80 [b] E fun F a _=>ag F fun G H I d=>(ab d (ab d (aB d fun J=>bk (St.add a (.cells 27 (nC 0 0 [] .aD))) fun K=>da 4 (.mp a.h 0) [.int .u8 D,.int .u8 0,.str [],.sl 4 [nA G H I J] .shut] K fun _ L _=>aR 79 [b,.sl 1 [.str n] .shut] L fun M c _=>bG M fun N=>aX N (ar 1 false (.mp a.h 3) c fun O P=>aR 80 [b] c fun Q R o=>ag Q fun S T U e=>(cg (apart (Fx.mk P du.kept) o&&(apart (⟨[],.kept⟩) o&&true)) (ab e (ab e (aB e fun p=>ab p (aB p fun V=>cq 4 56 27 O [nA S T U V] R fun f W _=>ab f (ab f (lV (.mp a.h 3) f W fun _ q _=>ar 4 true (.mp a.h 0) q fun X _=>ag X fun Y Z c2 r=>(ab r (da 4 (.mp st.h 0) (nC Y Z c2 r) q fun _ s _=>ar 4 true (.mp st.h 0) s fun c3 _=>ag c3 fun c4 c5 c6 c7=>(some (nA c4 c5 c6 c7,s)))))))))))) (ar 1 false (.mp a.h 3) c fun c8 c9=>jx (aY vE) (Sx.prim (sx vE 146)) m [] c fun d0 d1 t=>ag d0 fun d2 d3 d4 g=>(cg (apart (Fx.mk c9 du.kept) t&&(apart (⟨[],.kept⟩) t&&true)) (ab g (ab g (aB g fun u=>ab u (aB u fun d5=>cq 4 56 27 c8 [nA d2 d3 d4 d5] d1 fun i d6 _=>ab i (ab i (lV (.mp a.h 3) i d6 fun _ d7 _=>ax (aH (nD b m l1 a) ([],d7)) fun j=>bB j.2.1 (ar 1 false (.mp a.h 3) j.2.2 fun d8 d9=>aR 120 [b,.str n] j.2.2 fun e0 e1 v=>ag e0 fun e2 e3 e4 k=>(cg (apart (Fx.mk d9 du.kept) v&&(apart (⟨[],.kept⟩) v&&true)) (ab k (ab k (aB k fun w=>ab w (aB w fun e5=>cq 4 56 27 d8 [nA e2 e3 e4 e5] e1 fun l e6 _=>ab l (ab l (lV (.mp a.h 3) l e6 fun _ y _=>ar 4 true (.mp a.h 0) y fun e7 _=>ag e7 fun e8 e9 f0 z=>(ab z (da 4 (.mp st.h 0) (nC e8 e9 f0 z) y fun _ x _=>ar 4 true (.mp st.h 0) x fun f1 _=>ag f1 fun f2 f3 f4 f5=>(some (nA f2 f3 f4 f5,x)))))))))))))))))))))))
theorem Rx (a b c d e:AV) (st:St):cT vE 146 [a,b,c,d,e] st=VX a b c d e st:=by kernel_rfl
noncomputable def Ug:AV->AV->AV->St->Oq (AV×St):=fun a s t st=>dN s fun u=>bk (St.add st (.cells 27 (nC 0 0 [] .aD))) fun b=>cg (notNil a) (cV 2 a fun v=>ar 1 false v b fun w _=>bj .i64 w fun y=>aX (y==64) (aR 78 [a] b fun g c _=>gN g fun z=>cr z 0 fun x=>dR x fun A B=>(gN g fun C=>cr C 1 fun D=>bj .i64 D fun _=>bk (St.add c (.cells 24 [.int .u8 0,.str []])) fun E=>da 2 (.mp c.h 0) [.int .u8 A,.str B] E fun _ d _=>ar 1 false (.mp c.h 0) d fun F _=>bj .u8 F fun G=>aX (G==0) (aR 145 [.str u] d fun H I _=>ag H fun J K L i=>(ab i (da 4 (.mp st.h 0) (nC J K L i) I fun _ j _=>ar 4 true (.mp st.h 0) j fun M _=>ag M fun N O P Q=>(some (nA N O P Q,j))))) (aR 80 [a] d fun R S _=>ag R fun T U V e=>(ab e (ab e (aB e fun W=>da 4 (.mp st.h 0) [.int .u8 3,.int .u8 0,.str [],.sl 4 [nA T U V W] .shut] S fun _ k _=>ar 4 true (.mp st.h 0) k fun X _=>ag X fun Y Z c7 c8=>(some (nA Y Z c7 c8,k)))))))) (cg (notNil a) (cV 2 a fun c9=>ar 1 false c9 b fun d0 _=>bj .i64 d0 fun d1=>aN (IntKind.wrap .i64 (d1+1)) fun l=>cg (notNil a) (cV 2 a fun d2=>bm (aY vE) 1 d2 (.int .i64 l) [.int .i64 l] b fun _ d3 _=>jx (aY vE) (Sx.prim (sx vE 147)) t [] d3 fun d4 f _=>ag d4 fun d5 d6 d7 m=>(bk (St.add f (.cells 27 (nC 0 0 [] .aD))) fun d8=>ab m (da 4 (.mp f.h 0) (nC d5 d6 d7 m) d8 fun _ n _=>cg (notNil a) (cV 2 a fun d9=>ar 1 false d9 n fun e0 _=>bj .i64 e0 fun e1=>aN (IntKind.wrap .i64 (e1 - 1)) fun o=>cg (notNil a) (cV 2 a fun e2=>bm (aY vE) 1 e2 (.int .i64 o) [.int .i64 o] n fun _ p _=>ar 4 true (.mp f.h 0) p fun e3 _=>ag e3 fun e4 e5 e6 q=>(ab q (da 4 (.mp st.h 0) (nC e4 e5 e6 q) p fun _ r _=>ar 4 true (.mp st.h 0) r fun e7 _=>ag e7 fun e8 e9 f0 f1=>(some (nA e8 e9 f0 f1,r))))))))))))
theorem Js (a b c:AV) (st:St):cT vE 147 [a,b,c] st=Ug a b c st:=by kernel_rfl
noncomputable def rL (b:AV) (e:St):bU->Oq (bU ⊕ Nat×bU):=fun c=>bB c.1 (aR 118 [b,.int .u8 5,.str [95]] c.2 fun f d _=>bG f fun g=>aX g (aR 119 [b,.bool true] d fun i j _=>ag i fun k l m a=>(ab a (ab a (aB a fun n=>aR 171 [.sl 4 [nA k l m n] .shut,.mp e.h 0] j fun _ o _=>some (Sum.inl ([],o)))))) (some (Sum.inr (0,[],d))))
noncomputable def sa (a:AV) (d:St):bU->Oq (bU ⊕ Nat×bU):=fun e=>bB e.1 (aR 79 [a,.sl 1 [.str [124]] .shut] e.2 fun g f _=>bG g fun i=>aX i (aR 80 [a] f fun j k _=>ag j fun l m n b=>(ab b (ab b (aB b fun o=>aR 171 [.sl 4 [nA l m n o] .shut,.mp d.h 0] k fun _ p _=>aR 172 [a] p fun q r _=>ag q fun s t u c=>(ab c (ab c (aB c fun v=>aR 171 [.sl 4 [nA s t u v] .shut,.mp d.h 0] r fun _ w _=>some (Sum.inl ([],w))))))))) (some (Sum.inr (0,[],f))))
noncomputable def WI:AV->St->Oq (AV×St):=fun b st=>bk (St.add st (.cells 27 (nC 0 0 [] .aD))) fun a=>bk (St.add a (.cells 27 (nC 0 0 [] .aD))) fun L=>aR 79 [b,.sl 1 [.str [108,101,116]] .shut] L fun M u _=>bG M fun x=>ax (aX x (bm (aY vE) 1 (.mp a.h 0) (.int .u8 6) [.int .u8 6] u fun _ N _=>aR 80 [b] N fun O P _=>ag O fun Q x R c=>(ab c (ab c (aB c fun S=>aR 171 [.sl 4 [nA Q x R S] .shut,.mp a.h 0] P fun _ T _=>aR 81 [b] T fun U V _=>aR 171 [U,.mp a.h 0] V fun _ W _=>aR 120 [b,.str [105,110]] W fun X Y _=>ag X fun Z c5 c6 d=>(ab d (ab d (aB d fun c7=>aR 171 [.sl 4 [nA Z c5 c6 c7] .shut,.mp a.h 0] Y fun _ c8 _=>some (Sum.inl ([],c8))))))))) (aR 79 [b,.sl 1 [.str [102,117,110]] .shut] u fun c9 v _=>bG c9 fun d0=>ax (aX d0 (bm (aY vE) 1 (.mp a.h 0) (.int .u8 7) [.int .u8 7] v fun _ d1 _=>aR 80 [b] d1 fun d2 d3 _=>ag d2 fun d4 d5 d6 e=>(ab e (ab e (aB e fun d7=>aR 171 [.sl 4 [nA d4 d5 d6 d7] .shut,.mp a.h 0] d3 fun _ d8 _=>aR 119 [b,.bool true] d8 fun d9 e0 _=>ag d9 fun e1 e2 e3 f=>(ab f (ab f (aB f fun e4=>aR 171 [.sl 4 [nA e1 e2 e3 e4] .shut,.mp a.h 0] e0 fun _ e5 _=>ax (aH (rL b a) ([],e5)) fun w=>bB w.2.1 (aR 120 [b,.str [45,62]] w.2.2 fun e6 e7 _=>ag e6 fun e8 e9 f0 g=>(ab g (ab g (aB g fun f1=>aR 171 [.sl 4 [nA e8 e9 f0 f1] .shut,.mp a.h 0] e7 fun _ f2 _=>some (Sum.inl ([],f2))))))))))))) (aR 79 [b,.sl 1 [.str [105,102]] .shut] v fun f3 y _=>bG f3 fun f4=>aX f4 (bm (aY vE) 1 (.mp a.h 0) (.int .u8 8) [.int .u8 8] y fun _ f5 _=>aR 80 [b] f5 fun f6 f7 _=>ag f6 fun f8 f9 h0 i=>(ab i (ab i (aB i fun h1=>aR 171 [.sl 4 [nA f8 f9 h0 h1] .shut,.mp a.h 0] f7 fun _ h2 _=>aR 121 [b] h2 fun h3 h4 _=>ag h3 fun h5 h6 h7 j=>(ab j (ab j (aB j fun h8=>aR 171 [.sl 4 [nA h5 h6 h7 h8] .shut,.mp a.h 0] h4 fun _ h9 _=>aR 120 [b,.str [116,104,101,110]] h9 fun i0 i1 _=>ag i0 fun i2 i3 i4 k=>(ab k (ab k (aB k fun i5=>aR 171 [.sl 4 [nA i2 i3 i4 i5] .shut,.mp a.h 0] i1 fun _ i6 _=>aR 121 [b] i6 fun i7 i8 _=>ag i7 fun i9 j0 j1 l=>(ab l (ab l (aB l fun j2=>aR 171 [.sl 4 [nA i9 j0 j1 j2] .shut,.mp a.h 0] i8 fun _ j3 _=>aR 120 [b,.str [101,108,115,101]] j3 fun j4 j5 _=>ag j4 fun j6 j7 j8 m=>(ab m (ab m (aB m fun j9=>aR 171 [.sl 4 [nA j6 j7 j8 j9] .shut,.mp a.h 0] j5 fun _ k0 _=>some (Sum.inl ([],k0)))))))))))))))))) (aR 79 [b,.sl 1 [.str [109,97,116,99,104]] .shut] y fun k1 z _=>bG k1 fun k2=>aX k2 (bm (aY vE) 1 (.mp a.h 0) (.int .u8 9) [.int .u8 9] z fun _ k3 _=>aR 80 [b] k3 fun k4 k5 _=>ag k4 fun k6 k7 k8 n=>(ab n (ab n (aB n fun k9=>aR 171 [.sl 4 [nA k6 k7 k8 k9] .shut,.mp a.h 0] k5 fun _ m0 _=>aR 121 [b] m0 fun m1 m2 _=>ag m1 fun m3 m4 m5 o=>(ab o (ab o (aB o fun m6=>aR 171 [.sl 4 [nA m3 m4 m5 m6] .shut,.mp a.h 0] m2 fun _ m7 _=>aR 120 [b,.str [119,105,116,104]] m7 fun m8 m9 _=>ag m8 fun n0 n1 n2 p=>(ab p (ab p (aB p fun n3=>aR 171 [.sl 4 [nA n0 n1 n2 n3] .shut,.mp a.h 0] m9 fun _ n4 _=>aR 79 [b,.sl 1 [.str [124]] .shut] n4 fun n5 A _=>bG n5 fun n6=>ax (aX n6 (aR 80 [b] A fun n7 n8 _=>ag n7 fun n9 o0 o1 q=>(ab q (ab q (aB q fun o2=>aR 171 [.sl 4 [nA n9 o0 o1 o2] .shut,.mp a.h 0] n8 fun _ o3 _=>some ([],o3))))) (some ([],A))) fun B=>bB B.1 (aR 172 [b] B.2 fun o4 o5 _=>ag o4 fun o6 o7 o8 r=>(ab r (ab r (aB r fun o9=>aR 171 [.sl 4 [nA o6 o7 o8 o9] .shut,.mp a.h 0] o5 fun _ p0 _=>ax (aH (sa b a) ([],p0)) fun s=>bB s.2.1 (ar 4 true (.mp a.h 0) s.2.2 fun p1 _=>ag p1 fun p2 p3 p4 C=>(ab C (da 4 (.mp st.h 0) (nC p2 p3 p4 C) s.2.2 fun _ D _=>ax (ax (ar 4 true (.mp st.h 0) D fun p5 _=>ag p5 fun p6 p7 p8 p9=>(some (nA p6 p7 p8 p9,D))) fun q0=>some (Sum.inr q0)) fun q1=>some (Sum.inr q1)))))))))))))))))) (aR 173 [b,.int .i64 0] z fun q2 q3 _=>ag q2 fun q4 q5 q6 E=>(ab E (da 4 (.mp st.h 0) (nC q4 q5 q6 E) q3 fun _ F _=>ax (ax (ar 4 true (.mp st.h 0) F fun q7 _=>ag q7 fun q8 q9 s0 s1=>(some (nA q8 q9 s0 s1,F))) fun s2=>some (Sum.inr s2)) fun s3=>some (Sum.inr s3))))))) fun s4=>ke s4 fun G=>bB G.1 (some (Sum.inl ([],Prod.snd G))))) fun s5=>ke s5 fun H=>bB H.1 (aR 121 [b] H.2 fun s6 s7 _=>ag s6 fun s8 s9 t0 t=>(ab t (ab t (aB t fun t1=>aR 171 [.sl 4 [nA s8 s9 t0 t1] .shut,.mp a.h 0] s7 fun _ I _=>ar 4 true (.mp a.h 0) I fun t2 _=>ag t2 fun t3 t4 t5 J=>(ab J (da 4 (.mp st.h 0) (nC t3 t4 t5 J) I fun _ K _=>ar 4 true (.mp st.h 0) K fun t6 _=>ag t6 fun t7 t8 t9 u0=>(some (nA t7 t8 t9 u0,K))))))))
theorem Pq (a:AV) (st:St):cT vE 148 [a] st=WI a st:=by kernel_rfl
noncomputable def Wi:AV->St->Oq (AV×St):=fun b st=>bk (St.add st (.cells 27 (nC 0 0 [] .aD))) fun k=>ar 1 false b k fun r _=>aR 119 [r,.bool true] k fun s a _=>ag s fun t u v l=>(bk (St.add a (.cells 27 (nC 0 0 [] .aD))) fun w=>ab l (da 4 (.mp a.h 0) (nC t u v l) w fun _ m _=>ar 1 false b m fun y _=>aR 79 [y,.sl 1 [.str [58,58]] .shut] m fun z d _=>bG z fun x=>ax (aX x (ar 1 false b d fun A _=>aR 80 [A] d fun B e _=>ag B fun C D E n=>(bk (St.add e (.cells 27 (nC 0 0 [] .aD))) fun F=>ab n (da 4 (.mp e.h 0) (nC C D E n) F fun _ c _=>ar 4 true (.mp a.h 0) c fun G H=>ag G fun I J K f=>(ar 4 true (.mp e.h 0) c fun L M=>ag L fun N O P g=>(ar 1 false b c fun Q _=>aR 144 [Q] c fun R S o=>ag R fun T U V i=>(cg (apart (Fx.mk M du.kept) o&&(apart (Fx.mk H du.kept) o&&true)) (ab f (ab g (ab i (ab f (aB f fun W=>ab g (aB g fun X=>ab i (aB i fun Y=>da 4 (.mp a.h 0) [.int .u8 16,.int .u8 0,.str [],.sl 4 [nA I J K W,nA N O P X,nA T U V Y] .shut] S fun _ Z _=>some ([],Z)))))))))))))) (some ([],d))) fun j=>bB j.1 (ar 4 true (.mp a.h 0) j.2 fun c7 _=>ag c7 fun c8 c9 d0 p=>(ab p (da 4 (.mp st.h 0) (nC c8 c9 d0 p) j.2 fun _ q _=>ar 4 true (.mp st.h 0) q fun d1 _=>ag d1 fun d2 d3 d4 d5=>(some (nA d2 d3 d4 d5,q)))))))
theorem Px (a:AV) (st:St):cT vE 170 [a] st=Wi a st:=by kernel_rfl
noncomputable def Xx:AV->AV->St->Oq (AV×St):=fun d b st=>cV 3 b fun e=>ar 1 false e st fun f _=>nJ d fun g=>mJ true g fun c=>cg (mg 4 c) (cq 4 56 27 f c st fun a h _=>cV 3 b fun i=>ab a (ab a (lV i a h fun _ j _=>some (.tup [],j))))
theorem Rz (a b:AV) (st:St):cT vE 171 [a,b] st=Xx a b st:=by kernel_rfl
noncomputable def Xu:AV->St->Oq (AV×St):=fun a st=>bk (St.add st (.cells 27 (nC 0 0 [] .aD))) fun m=>aR 144 [a] m fun n b _=>ag n fun o p q i=>(bk (St.add b (.cells 27 (nC 0 0 [] .aD))) fun r=>ab i (da 4 (.mp b.h 0) (nC o p q i) r fun _ s _=>aR 120 [a,.str [45,62]] s fun t c _=>ag t fun u v w j=>(bk (St.add c (.cells 27 (nC 0 0 [] .aD))) fun y=>ab j (da 4 (.mp c.h 0) (nC u v w j) y fun _ d _=>ar 4 true (.mp b.h 0) d fun z x=>ag z fun A B C e=>(ar 4 true (.mp c.h 0) d fun D E=>ag D fun F G H f=>(aR 121 [a] d fun I J k=>ag I fun K L M g=>(cg (apart (Fx.mk E du.kept) k&&(apart (Fx.mk x du.kept) k&&true)) (ab e (ab f (ab g (ab e (aB e fun N=>ab f (aB f fun O=>ab g (aB g fun P=>da 4 (.mp st.h 0) [.int .u8 10,.int .u8 0,.str [],.sl 4 [nA A B C N,nA F G H O,nA K L M P] .shut] J fun _ l _=>ar 4 true (.mp st.h 0) l fun Q _=>ag Q fun R S T U=>(some (nA R S T U,l))))))))))))))))
theorem Pm (a:AV) (st:St):cT vE 172 [a] st=Xu a st:=by kernel_rfl
noncomputable def rY (e:AV) (a:Int) (k:AV) (l:St):bU->Oq (bU ⊕ Nat×bU):=fun b=>bB b.1 (dB 2 k a b.2 fun p _=>cV 0 p fun q=>ar 1 false q b.2 fun r _=>aR 79 [e,r] b.2 fun s m _=>bG s fun t=>aX t (aR 80 [e] m fun u f _=>ag u fun v w y n=>(bk (St.add f (.cells 27 (nC 0 0 [] .aD))) fun z=>ab n (da 4 (.mp f.h 0) (nC v w y n) z fun _ c _=>dB 2 k a c fun x _=>cV 1 x fun A=>ar 1 false A c fun B _=>bG B fun C=>ax (aX C (aN (IntKind.wrap .i64 (a+1)) fun D=>some ([.int .i64 D],c)) (some ([.int .i64 a],c))) fun d=>bg d.1 fun E F=>bj .i64 E fun G=>bB F (ar 4 true (.mp l.h 0) d.2 fun H I=>ag H fun J K L g=>(ar 4 true (.mp f.h 0) d.2 fun M N=>ag M fun O P Q i=>(aR 173 [e,.int .i64 G] d.2 fun R S o=>ag R fun T U V j=>(cg (apart (Fx.mk N du.kept) o&&(apart (Fx.mk I du.kept) o&&true)) (ab g (ab i (ab j (ab g (aB g fun W=>ab i (aB i fun X=>ab j (aB j fun Y=>da 4 (.mp l.h 0) [.int .u8 11,.int .u8 0,.str [],.sl 4 [nA J K L W,nA O P Q X,nA T U V Y] .shut] S fun _ Z _=>some (Sum.inl ([],Z)))))))))))))))) (some (Sum.inr (0,[],m))))
noncomputable def Xj:AV->AV->St->Oq (AV×St):=fun b m st=>bj .i64 m fun c=>bk (St.add st (.cells 27 (nC 0 0 [] .aD))) fun n=>aR 183 [] n fun e f _=>fq e fun o=>aX (c==(↑o:Int)) (aR 184 [b] f fun p q _=>ag p fun r s t g=>(ab g (da 4 (.mp st.h 0) (nC r s t g) q fun _ i _=>ar 4 true (.mp st.h 0) i fun u _=>ag u fun v w y z=>(some (nA v w y z,i))))) (aN (IntKind.wrap .i64 (c+1)) fun x=>aR 173 [b,.int .i64 x] f fun A a _=>ag A fun B C D j=>(bk (St.add a (.cells 27 (nC 0 0 [] .aD))) fun E=>ab j (da 4 (.mp a.h 0) (nC B C D j) E fun _ F _=>ax (aH (rY b c e a) ([],F)) fun d=>bB d.2.1 (ar 4 true (.mp a.h 0) d.2.2 fun G _=>ag G fun H I J k=>(ab k (da 4 (.mp st.h 0) (nC H I J k) d.2.2 fun _ l _=>ar 4 true (.mp st.h 0) l fun K _=>ag K fun L M N O=>(some (nA L M N O,l))))))))
theorem Ry (a b:AV) (st:St):cT vE 173 [a,b] st=Xj a b st:=by kernel_rfl
noncomputable def YK:Oq AV:=some (.sl 2 [.agg [.sl 1 [.str [124,124]] .shut,.bool false],.agg [.sl 1 [.str [38,38]] .shut,.bool false],.agg [.sl 1 [.str [61],.str [60,62],.str [60],.str [60,61],.str [62],.str [62,61]] .shut,.bool true],.agg [.sl 1 [.str [64],.str [94]] .shut,.bool false],.agg [.sl 1 [.str [58,58]] .shut,.bool false],.agg [.sl 1 [.str [43],.str [45],.str [43,46],.str [45,46]] .shut,.bool true],.agg [.sl 1 [.str [42],.str [47],.str [42,46],.str [47,46],.str [109,111,100]] .shut,.bool true]] .shut)
theorem RA:bz vE 183 []=YK:=by kernel_rfl
noncomputable def sj (d:AV) (e:St):bU->Oq (bU ⊕ Nat×bU):=fun f=>bB f.1 (aR 118 [d,.int .u8 6,.str [40]] f.2 fun g a _=>bG g fun i=>aX i (ar 4 true (.mp e.h 0) a fun j k=>ag j fun l m n b=>(aR 119 [d,.bool false] a fun o p q=>ag o fun r s t c=>(cg (apart (Fx.mk k du.kept) q&&true) (ab b (ab c (ab b (aB b fun u=>ab c (aB c fun v=>da 4 (.mp e.h 0) [.int .u8 13,.int .u8 0,.str [],.sl 4 [nA l m n u,nA r s t v] .shut] p fun _ w _=>some (Sum.inl ([],w)))))))))) (some (Sum.inr (0,[],a))))
noncomputable def V7:AV->St->Oq (AV×St):=fun a st=>bk (St.add st (.cells 27 (nC 0 0 [] .aD))) fun o=>aR 79 [a,.sl 1 [.str [45],.str [45,46]] .shut] o fun p g _=>bG p fun q=>aX (!q) (aR 119 [a,.bool false] g fun r b _=>ag r fun s t u i=>(bk (St.add b (.cells 27 (nC 0 0 [] .aD))) fun v=>ab i (da 4 (.mp b.h 0) (nC s t u i) v fun _ w _=>ax (aH (sj a b) ([],w)) fun c=>bB c.2.1 (ar 4 true (.mp b.h 0) c.2.2 fun y _=>ag y fun z x A j=>(ab j (da 4 (.mp st.h 0) (nC z x A j) c.2.2 fun _ k _=>ar 4 true (.mp st.h 0) k fun B _=>ag B fun C D E F=>(some (nA C D E F,k)))))))) (aR 80 [a] g fun G d _=>ag G fun H I J l=>(bk (St.add d (.cells 27 (nC 0 0 [] .aD))) fun K=>ab l (da 4 (.mp d.h 0) (nC H I J l) K fun _ m _=>ar 4 true (.mp d.h 0) m fun L M=>ag L fun N O P e=>(aR 147 [a,.str [101,120,112,114],.fn (Fn.func 184) [a] []] m fun Q R S=>ag Q fun T U V f=>(cg (apart (Fx.mk M du.kept) S&&true) (ab e (ab f (ab e (aB e fun W=>ab f (aB f fun X=>da 4 (.mp st.h 0) [.int .u8 12,.int .u8 0,.str [],.sl 4 [nA N O P W,nA T U V X] .shut] R fun _ n _=>ar 4 true (.mp st.h 0) n fun Y _=>ag Y fun Z c7 c8 c9=>(some (nA Z c7 c8 c9,n))))))))))))
theorem Po (a:AV) (st:St):cT vE 184 [a] st=V7 a st:=by kernel_rfl
end Go.Proofs.YtkpeicabocpbkaaGreatDoor.Vm
namespace Go.Proofs.YtkpeicabocpbkaaGreatDoor.Vm
open Go Go.VM Go.Proofs Go.Lay
mutual
def cW:Doc->AV->Prop
 | .mk k s n kids,v=> ∃x es,v= .agg [.int .u8 k,.str s,.int .i64 n,x]/\(0<=k/\k<=255)/\s.length<=9223372036854775807/\(-9223372036854775808<=n/\n<=9223372036854775807)/\bF 4 x es/\bO kids es
def bO:List Doc->LA->Prop
 | [],es=>es=[]
 | d::ds,es=> ∃v vs,es=v::vs/\cW d v/\bO ds vs
end
theorem cW.bare {d:Doc} {v:AV} (h:cW d v):VM.bare v=true/\strip v=v:=by
 cases d with
 | mk k s n kids=>
  obtain ⟨x,es,rfl,_,_,_,hx,_⟩:=h;refine ⟨?_,rfl⟩;show (true&&(true&&(true&&(VM.bare x&&true))))=true;rw [hx.bare];rfl
theorem Jj {f:FuncId} {v r:AV} (st:St) (hf:vE.full f=false) (a:VM.bare v=true/\strip v=v) (h:(aY vE).bare f [v]=some r) {β:Type} (K:Kv β):aV (aY vE) f [v] st K=K r st q0:=
 aG st K hf (by simp [a.2]) (by simp [bf,a.1];rfl) h
theorem MU {β:Type} {ds:List Doc} {d:Doc} {x:AV} {es:LA} {i:Nat} (hx:bF 4 x es) (hd:bO (d::ds) (es.drop i)): ∃v,cW d v/\bO ds (es.drop (i+1))/\((i:Int) < (es.length:Int))/\
  IntKind.wrap .i64 ((i:Int)+1)=((i+1:Nat):Int)/\(∀(st:St) (K:AV->Ln->Oq β),dB 4 x (i:Int) st K=K (.ip v.cells) [])/\jA 4 true v.cells=some v:=by
 obtain ⟨v,vs,b,a,hd⟩:=hd;obtain ⟨c,e,f⟩:=drop_cons b;refine ⟨v,a,by rw [e];exact hd,by omega,wrap_i64 (by omega) (by have:=hx.1;omega),fun st K=>hx.idx c st K, ?_⟩;obtain ⟨k,s,n,kids⟩:=d;obtain ⟨y,g,rfl,_⟩:=a;rfl
theorem SM {es:LA} {i:Nat} (hd:bO [] (es.drop i)):¬ ((i:Int) < (es.length:Int)):=by
 have hd:es.drop i=[]:=hd;have:=aaQ.1 hd;omega
def findD (p:Doc->Bool):List Doc->Nat->Oq Nat
 | [],_=>none
 | d::l,i=>if p d then some i else findD p l (i+1)
theorem zZ {p:Doc->Bool}: ∀{l:List Doc} {i:Nat},(findD p l i).isSome=l.any p
 | [],_=>rfl
 | d::l,i=>by
  simp only [findD,abr];cases h:p d
  .simpa [h] using zZ (p:=p) (l:=l) (i:=i+1)
  .simp
theorem sB {f:FuncId} (hf:vE.full f=false) (e:vE.prim f=none) (p:Doc->Bool): ∀(ds:List Doc) (x:AV) (es:LA) (i:Nat) (st:St),bF 4 x es->bO ds (es.drop i)->
  (∀d∈ds,∀v,cW d v->(aY vE).bare f [v]=some (.bool (p d)))->
  aH (tY x (.fn (.func f) [] []) es.length) ([.int .i64 0,.int .i64 (i:Int)],st)=some (match findD p ds i with | some j=>(1,[.int .i64 (j:Int)],st) | none=>(0,[.int .i64 0],st))
 | [],x,es,i,st,hx,hd,_=>by
  have hi:=SM hd;rw [oo];simp [tY,hi,findD]
 | d::ds,x,es,i,st,hx,hd,h=>by
  obtain ⟨v,g,hd,hi,m,c,o⟩:=MU (β:=Sum bU (Nat×bU)) hx hd;have b:=fun K=>Jj (β:=Sum bU (Nat×bU)) (f:=f) st hf g.bare (h d (by simp) v g) K;have ih:=sB hf e p ds x es (i+1) st hx hd fun d hd=>h d (by simp [hd]);have q: ∀(a:AV) (K:Kv (Sum bU (Nat×bU))),jx (aY vE) (Sx.prim (sx vE 102)) (.fn (.func f) [] []) [a] st K=aV (aY vE) f [a] st K:=fun a K=>by
   have e:Sx.prim (sx vE 102) f=none:=e;simp only [jx,J6,e,aaj,aaw];rfl
  obtain ⟨k,s,n,kids⟩:=d;obtain ⟨y,r,rfl,_⟩:=g;rw [oo];simp only [tY,ad,af,ae,ak,if_pos hi,c,bK,o,ai,aw,ao,q,b,az,m,al];cases l:p (.mk k s n kids)
  .simp only [aj,findD,l];exact ih
  .simp [findD,l]
theorem contains_of {f:FuncId} (hf:vE.full f=false) (e:vE.prim f=none) (p:Doc->Bool) {ds:List Doc} {x:AV} {es:LA} (hx:bF 4 x es) (hd:bO ds es)
  (g: ∀d∈ds,∀v,cW d v->(aY vE).bare f [v]=some (.bool (p d))) {β:Type} (st:St) (K:Kv β):aV (aY vE) 53 [x,.fn (.func f) [] []] st K=K (.bool (ds.any p)) st q0:=by
 have c:(aY vE).bare 102 [x,.fn (.func f) [] []]=some (.int .i64 (match findD p ds 0 with | some j=>(j:Int) | none=> -1)):=by
  refine aM rfl ((Qc _ _).trans ?_);have hl:aH (tY x (.fn (.func f) [] []) es.length) ([.int .i64 0,.int .i64 0],St.mk 0 0 Tr.leaf)= _:=sB hf e p ds x es 0 (St.mk 0 0 Tr.leaf) hx (by simpa using hd) g;simp only [V8,hx.len,hl];cases findD p ds 0 <;> simp
 have a:[x,AV.fn (.func f) [] []].map strip=[x,AV.fn (.func f) [] []]:=by simp [hx.strip];rfl
 have b:bN [x,AV.fn (.func f) [] []]=true:=by simp only [bf,hx.bare];rfl
 refine aG st K rfl a b (aM rfl ((UI _ _).trans ?_));unfold Zm;refine (aG _ _ rfl a b c).trans ?_;have:=zZ (p:=p) (l:=ds) (i:=0);cases h:findD p ds 0 with
 | none=>rw [h] at this;simp [<- this]
 | some j=>rw [h] at this;simp [<- this]
theorem zu: ∀(ds:List Doc),Ee ds=ds.any qF
 | []=>rfl
 | d::ds=>by simp [Ee,zu ds]
theorem yV {d:Doc}: ∀{ds:List Doc},d∈ds->SizeOf.sizeOf d < SizeOf.sizeOf ds
 | _:: _,h=>by
  rcases aam.1 h with rfl | h
  .simp;omega
  .have:=yV h;simp;omega
theorem CI (d:Doc) (v:AV) (a:cW d v):(aY vE).bare 59 [v]=some (.bool (qF d)):=by
 match d with
 | .mk k s n kids=>
  obtain ⟨x,es,rfl,_,_,_,hx,b⟩:=a;refine aM rfl ((U2 _).trans ?_);have e:=fun (K:Kv bU)=>contains_of (f:=59) rfl rfl qF hx b (fun d hd v a=>CI d v a) (St.mk 0 0 Tr.leaf) K;simp only [Zr,aw,ad,af,ao,ae,hx.ab,hx.aB,e];by_cases c:k=4
  .subst c;simp [qF]
  .simp [c,qF,zu]
termination_by SizeOf.sizeOf d
decreasing_by
 have:=yV hd
 simp_wf
 omega
end Go.Proofs.YtkpeicabocpbkaaGreatDoor.Vm
namespace Go.Proofs.YtkpeicabocpbkaaGreatDoor.Vm
open Go Go.VM Go.Proofs Go.Lex
theorem Cd {p:UInt8->Bool} (h:((List.range 256).all fun n=>p (UInt8.ofNat n))=true) (b:UInt8):p b=true:=by
 have:=abd.1 h b.toNat (List.mem_range.2 (UInt8.toNat_lt b));simpa using this
theorem kR {p q:UInt8->Bool} (h:((List.range 256).all fun n=>p (UInt8.ofNat n)==q (UInt8.ofNat n))=true):p=q:=by
 funext b;exact eq_of_beq (Cd (p:=fun b=>p b==q b) h b)
theorem Uy {s c:LB} {p:UInt8->Bool} (a:(c.length.blt 4294967281&&c.all (fun b=>b.toNat.blt 128))=true) (d:(fun b=>c.contains b)=p) (hs:s.length<=1000000):
  (aY vE).bare 109 [.str s,.str c]=some (.int .i64 (wh p s:Int)):=by
 refine aM rfl ((P4 _ _).trans ?_);have h1:ir [.str s,.str c]= .ok (.str (s.dropWhile p)):=by
  simp only [ir,a,Lib.trimLeftS];rw [<- d]
 have f:=S9 p s;have e:IntKind.wrap .i64 ((s.length:Int) - ((s.dropWhile p).length:Int))=(wh p s:Int):=by
  rw [xH (by omega) (by omega)];congr 1;omega
 simp only [Xp,ao,fC h1,az,e]
theorem mD {β:Type} {s c:LB} {p:UInt8->Bool} (a:(c.length.blt 4294967281&&c.all (fun b=>b.toNat.blt 128))=true) (d:(fun b=>c.contains b)=p) (hs:s.length<=1000000) (st:St) (K:Kv β):
 aV (aY vE) 109 [.str s,.str c] st K=K (.int .i64 (wh p s:Int)) st q0:=aG st K rfl rfl rfl (Uy a d hs)
theorem LK {β:Type} {s:LB} (hs:s.length<=1000000) (st:St) (K:Kv β):aV (aY vE) 109 [.str s,.str [32,9,10,13]] st K=K (.int .i64 (wh bw s:Int)) st q0:=
 mD rfl (kR (by decide+kernel)) hs st K
theorem P3 {β:Type} {s:LB} (hs:s.length<=1000000) (st:St) (K:Kv β):aV (aY vE) 109 [.str s,.str [97,98,99,100,101,102,103,104,105,106,107,108,109,110,111,112,113,114,115,116,117,118,119,120,121,122,95]] st K=K (.int .i64 (wh iP s:Int)) st q0:=
 mD (by decide+kernel) (kR (by decide+kernel)) hs st K
theorem Dm {β:Type} {s:LB} (hs:s.length<=1000000) (st:St) (K:Kv β):aV (aY vE) 109 [.str s,.str [48,49,50,51,52,53,54,55,56,57]] st K=K (.int .i64 (wh aC s:Int)) st q0:=
 mD rfl (kR (by decide+kernel)) hs st K
theorem PM {β:Type} {s:LB} (hs:s.length<=1000000) (st:St) (K:Kv β):aV (aY vE) 109 [.str s,.str [97,98,99,100,101,102,103,104,105,106,107,108,109,110,111,112,113,114,115,116,117,118,119,120,121,122,95,65,66,67,68,69,70,71,72,73,74,75,76,77,78,79,80,81,82,83,84,85,86,87,88,89,90,39,48,49,50,51,52,53,54,55,56,57]] st K=K (.int .i64 (wh eA s:Int)) st q0:=
 mD (by decide+kernel) (kR (by decide+kernel)) hs st K
def VI (c:UInt8):Bool:=c==101||c==69
theorem Wj {β:Type} {s:LB} (hs:s.length<=1000000) (st:St) (K:Kv β):aV (aY vE) 109 [.str s,.str [101,69]] st K=K (.int .i64 (wh VI s:Int)) st q0:=
 mD rfl (kR (by decide+kernel)) hs st K
theorem PW {β:Type} {s:LB} (hs:s.length<=1000000) (st:St) (K:Kv β):aV (aY vE) 109 [.str s,.str [43,45]] st K=K (.int .i64 (wh qe s:Int)) st q0:=
 mD rfl (kR (by decide+kernel)) hs st K
theorem Qk {β:Type} {s:LB} (hs:s.length<=1000000) (st:St) (K:Kv β):aV (aY vE) 109 [.str s,.str [40,41,91,93,44,59,124,61,60,62,43,45,42,47,94,64]] st K=K (.int .i64 (wh jy s:Int)) st q0:=
 mD rfl (kR (by decide+kernel)) hs st K
theorem N5 (s p:LB):(aY vE).bare 136 [.str s,.str p]=some (.bool (s.take p.length==p)):=by
 refine aM rfl ((Rq _ _).trans ?_);by_cases h:(s.length:Int)>=(p.length:Int)
 .simp only [Uc,ao,ak,if_pos h,ky (show p.length<=s.length by omega),aQ,aar,az,ai,ad,al,ae]
 .have e:(s.take p.length==p)=false:=by
   rw [aai];intro e;have:=aaY List.length e;rw [aat] at this;omega
  simp only [Uc,ao,ak,if_neg h,ai,ad,al,ae,e]
theorem Kz (s p:LB):(aY vE).bare 110 [.str s,.str p]=some (.bool (s.take p.length==p)):=by
 refine aM rfl ((QV _ _).trans ?_);have h: ∀{β:Type} (st:St) (K:Kv β),aV (aY vE) 136 [.str s,.str p] st K=K (.bool (s.take p.length==p)) st q0:=fun st K=>aG st K rfl rfl rfl (N5 s p);simp only [Xw,ao,h,al]
theorem fV {β:Type} (s p:LB) (st:St) (K:Kv β):aV (aY vE) 110 [.str s,.str p] st K=K (.bool (s.take p.length==p)) st q0:=aG st K rfl rfl rfl (Kz s p)
theorem PX (s p:LB):(aY vE).bare 113 [.str s,.str p]=some (.str (if (s.take p.length==p)=true then s.drop p.length else s)):=by
 have h: ∀{β:Type} (st:St) (K:Kv β),aV (aY vE) 136 [.str s,.str p] st K=K (.bool (s.take p.length==p)) st q0:=fun st K=>aG st K rfl rfl rfl (N5 s p);have a:(aY vE).bare 140 [.str s,.str p]=some (.str (if (s.take p.length==p)=true then s.drop p.length else s)):=by
  refine aM rfl ((Re _ _).trans ?_);simp only [XH,ao,h,al];cases e:s.take p.length==p with
  | true=>
   have hl:p.length<=s.length:=by
    have:=aaY List.length (eq_of_beq e);rw [aat] at this;omega
   simp only [aq,ky hl,aQ,aaH,az,if_true]
  | false=>rfl
 have b: ∀{β:Type} (st:St) (K:Kv β),aV (aY vE) 140 [.str s,.str p] st K=K (.str (if (s.take p.length==p)=true then s.drop p.length else s)) st q0:=fun st K=>aG st K rfl rfl rfl a;refine aM rfl ((Q6 _ _).trans ?_);simp only [Xs,ao,b]
theorem LW {β:Type} (s p:LB) (st:St) (K:Kv β):aV (aY vE) 113 [.str s,.str p] st K=K (.str (if (s.take p.length==p)=true then s.drop p.length else s)) st q0:=aG st K rfl rfl rfl (PX s p)
def vX (s:LB) (c:UInt8):Int:=match dH c.toNat s with | some i=>(i:Int) | none=> -1
theorem NI (s:LB) (c:UInt8):(aY vE).bare 114 [.str s,.int .u8 (c.toNat:Int)]=some (.int .i64 (vX s c)):=by
 have h:(aY vE).bare 141 [.str s,.int .u8 (c.toNat:Int)]=some (.int .i64 (vX s c)):=by
  refine aM rfl ((QD _ _).trans ?_);have e:((c.toNat:Int).toNat % 256)=c.toNat:=by
   have:=UInt8.toNat_lt c;omega
  simp only [Wp,ao,af,cX,oj,dy,qU,ai,e,vX];rfl
 have a: ∀{β:Type} (st:St) (K:Kv β),aV (aY vE) 141 [.str s,.int .u8 (c.toNat:Int)] st K=K (.int .i64 (vX s c)) st q0:=fun st K=>aG st K rfl rfl rfl h;refine aM rfl ((Q0 _ _).trans ?_);simp only [Xt,ao,af,a]
theorem my {β:Type} (s:LB) (c:UInt8) (st:St) (K:Kv β):aV (aY vE) 114 [.str s,.int .u8 (c.toNat:Int)] st K=K (.int .i64 (vX s c)) st q0:=aG st K rfl rfl rfl (NI s c)
def vZ:AV:= .im ((.str [95],.int .u8 8)::words.map fun w=>(.str w,.int .u8 3))
def yJ:cY AV->Bool
 | .ok (.im [(.str g,.int .u8 h),(.str i,.int .u8 j),(.str k,.int .u8 l),(.str m,.int .u8 n),(.str o,.int .u8 p),(.str q,.int .u8 r),(.str s,.int .u8 t),(.str u,.int .u8 v),(.str w,.int .u8 x),(.str y,.int .u8 z),(.str a,.int .u8 b),(.str c,.int .u8 d),(.str e,.int .u8 f)])=>
  ([g,i,k,m,o,q,s,u,w,y,a,c,e]==[95]::words)&&([h,j,l,n,p,r,t,v,x,z,b,d,f]==8::words.map fun _=>3)
 | _=>false
theorem GA {r:cY AV} (h:yJ r=true):r= .ok vZ:=by
 unfold yJ at h;split at h
 .simp only [aaf] at h;have h1:=eq_of_beq h.1;have a:=eq_of_beq h.2;simp only [words,aal,aaN,abo,abW] at h1 a;obtain ⟨rfl,rfl,rfl,rfl,rfl,rfl,rfl,rfl,rfl,rfl,rfl,rfl,rfl⟩:=h1;obtain ⟨rfl,rfl,rfl,rfl,rfl,rfl,rfl,rfl,rfl,rfl,rfl,rfl,rfl⟩:=a;rfl
 .cases h
theorem O9:(aY vE).bare 111 []=some vZ:=by
 have h:yJ ((caller vE 300).bare 111 [])=true:=by kernel_rfl
 exact Bm (GA h)
theorem Hy {β:Type} (st:St) (K:Kv β):aV (aY vE) 111 [] st K=K vZ st q0:=aG st K rfl rfl rfl O9
theorem Am (w:LB): ∀(l:List LB),iK (.str w) (l.map fun w=>(AV.str w,AV.int .u8 3))= .ok (if l.contains w then some (.int .u8 3) else none)
 | []=>rfl
 | x::l=>by
  have ih:=Am w l;simp only [aal,iK,sI,aA,List.contains_cons];cases e:w==x with
  | true=>rfl
  | false=>
   simp only [aaV];exact ih
theorem Iv {β:Type} (w:LB) (st:St) (K:Kv β):cX (aY vE) (jM (Env.T vE) 132 vZ (.str w) true) st K=
  K (.tup [.int .u8 (if w=[95] then 8 else if words.contains w then 3 else 0:Int),.bool (decide (w=[95])||words.contains w)]) st q0:=by
 have a:ti (Env.T vE) 132= .ok ⟨.map 9 5,1,8,[.nilm],false,false⟩:=rfl;have b:ti (Env.T vE) 5= .ok ⟨.int .u8,1,1,[.int .u8 0],false,false⟩:=rfl;have c:ti (Env.T vE) 9= .ok ⟨.str,1,16,[.str []],false,false⟩:=rfl;have d:iK (.str w) ((.str [95],.int .u8 8)::words.map fun w=>(.str w,.int .u8 3))= .ok (if w=[95] then some (.int .u8 8) else if words.contains w then some (.int .u8 3) else none):=by
  simp only [iK,sI,aA];cases e:w==[95] with
  | true=>rw [if_pos (eq_of_beq e)];rfl
  | false=>rw [if_neg (by simpa using e)];exact Am w words
 have f:jM (Env.T vE) 132 vZ (.str w) true= .ok (.val (.tup [.int .u8 (if w=[95] then 8 else if words.contains w then 3 else 0:Int),.bool (decide (w=[95])||words.contains w)])):=by
  simp only [jM,a,b,c,aA,pZ,vZ,found,d];by_cases h:w=[95]
  .simp [h];rfl
  .cases g:words.contains w <;> simp [h] <;> rfl
 rw [f];rfl
theorem Ol {s:LB} (hs:s.length<=1000000):(aY vE).bare 71 [.str s]=some (.tup [.int .u8 1,.int .i64 (wh bw s:Int)]):=by
 refine aM rfl ((TC _).trans ?_);simp only [ZW,ao,LK hs,af]
theorem lr (s:LB) (hs:s.length<=1000000) (st:St): ∀(l:LB) (i d:Nat),s.drop i=l->i<=s.length->1<=d->d<=i->
  aH (nL s) ([.int .i64 (d:Int),.int .u8 0,.int .i64 0,.int .i64 (i:Int)],st)=some (match rem l d with | some n=>(1,[.int .u8 2,.int .i64 ((i+n:Nat):Int)],st) | none=>(0,[.int .u8 0,.int .i64 0],st))
 | [],i,d,hd,hi,h1,r=>by
  have:=aaQ.1 hd;have q:¬ (i:Int) < (s.length:Int):=by omega
  refine aF ?_;simp only [nL,ad,af,ae,ak,if_neg q];rfl
 | [a],i,d,hd,hi,h1,r=>by
  obtain ⟨v,j,o⟩:=drop_cons hd;have q:(i:Int) < (s.length:Int):=by omega
  have ih:=lr s hs st [] (i+1) d j (by omega) h1 (by omega);rw [aJ (s':=([.int .i64 (d:Int),.int .u8 0,.int .i64 0,.int .i64 ((i+1:Nat):Int)],st)),ih]
  .rfl
  .simp only [nL,ad,af,ae,ak,if_pos q,ca (show i<=s.length by omega),aaH,az,hd,fV,al];simp only [show ([a].take [(40:UInt8),42].length==[40,42])=false by simp,show ([a].take [(42:UInt8),41].length==[42,41])=false by simp,aj,ai,bu,ad,af,ae,br (show i+1<=9223372036854775807 by omega)]
 | a::b::l,i,d,hd,hi,h1,r=>by
  obtain ⟨v,j,o⟩:=drop_cons hd;obtain ⟨x,g,t⟩:=drop_cons j;have q:(i:Int) < (s.length:Int):=by omega
  have k:((a::b::l).take [(40:UInt8),42].length==[40,42])=(decide (a=40/\b=42)):=by
   show ([a,b]==[40,42])= _;by_cases h:a=40/\b=42
   .rw [h.1,h.2];rfl
   .rw [abe h,aai];intro e;simp only [abo,abW] at e;exact h e
  have p:((a::b::l).take [(42:UInt8),41].length==[42,41])=(decide (a=42/\b=41)):=by
   show ([a,b]==[42,41])= _;by_cases h:a=42/\b=41
   .rw [h.1,h.2];rfl
   .rw [abe h,aai];intro e;simp only [abo,abW] at e;exact h e
  by_cases c:a=40/\b=42
  .have ih:=lr s hs st l (i+2) (d+1) g (by omega) (by omega) (by omega);rw [aJ (s':=([.int .i64 ((d+1:Nat):Int),.int .u8 0,.int .i64 0,.int .i64 ((i+2:Nat):Int)],st)),ih]
   .simp only [rem,if_pos c];cases rem l (d+1) with
    | none=>rfl
    | some n=>simp only [Option.map_some];rw [show i+2+n=i+(n+2) by omega]
   .simp only [nL,ad,af,ae,ak,if_pos q,ca (show i<=s.length by omega),aaH,az,hd,fV,al,k,if_pos c,ai,bu,br (show d+1<=9223372036854775807 by omega),oQ (show i+2<=9223372036854775807 by omega)]
  .by_cases f:a=42/\b=41
   .have w:=xH (n:=d) (m:=1) h1 (by omega);have w:IntKind.wrap .i64 ((d:Int) - 1)=((d - 1:Nat):Int):=w;by_cases u:d=1
    .subst u;simp only [rem,if_neg c,if_pos f,if_true];refine aF ?_;simp only [nL,ad,af,ae,ak,if_pos q,ca (show i<=s.length by omega),aaH,az,hd,fV,al,k,p,if_neg c,if_pos f,ai,w,oQ (show i+2<=9223372036854775807 by omega),bP];rfl
    .have ih:=lr s hs st l (i+2) (d - 1) g (by omega) (by omega) (by omega);have z:¬ ((d - 1:Nat):Int)=0:=by omega
     rw [aJ (s':=([.int .i64 ((d - 1:Nat):Int),.int .u8 0,.int .i64 0,.int .i64 ((i+2:Nat):Int)],st)),ih]
     .simp only [rem,if_neg c,if_pos f,if_neg u];cases rem l (d - 1) with
      | none=>rfl
      | some n=>simp only [Option.map_some];rw [show i+2+n=i+(n+2) by omega]
     .simp only [nL,ad,af,ae,ak,if_pos q,ca (show i<=s.length by omega),aaH,az,hd,fV,al,k,p,if_neg c,if_pos f,ai,w,oQ (show i+2<=9223372036854775807 by omega),bP,if_neg z,bu]
   .have ih:=lr s hs st (b::l) (i+1) d j (by omega) h1 (by omega);rw [aJ (s':=([.int .i64 (d:Int),.int .u8 0,.int .i64 0,.int .i64 ((i+1:Nat):Int)],st)),ih]
    .simp only [rem,if_neg c,if_neg f];cases rem (b::l) d with
     | none=>rfl
     | some n=>simp only [Option.map_some];rw [show i+1+n=i+(n+1) by omega]
    .simp only [nL,ad,af,ae,ak,if_pos q,ca (show i<=s.length by omega),aaH,az,hd,fV,al,k,p,if_neg c,if_neg f,ai,bu,br (show i+1<=9223372036854775807 by omega)]
theorem KW {s:LB} (hs:s.length<=1000000):(aY vE).bare 72 [.str s]=some (if s.take 2=[40,42] then (match rem (s.drop 2) 1 with | some n=> .tup [.int .u8 2,.int .i64 ((n+2:Nat):Int)] | none=> .tup [.int .u8 9,.int .i64 (s.length:Int)]) else .tup [.int .u8 0,.int .i64 0]):=by
 refine aM rfl ((TE _).trans ?_);by_cases h:s.take 2=[40,42]
 .have a:(s.take [(40:UInt8),42].length==[40,42])=true:=by simpa using h
  have hl:2<=s.length:=by
   have:=aaY List.length h;rw [aat] at this;simp at this;omega
  have q:(0:Int) < (s.length:Int):=by omega
  have e:aH (nL s) ([.int .i64 0,.int .u8 0,.int .i64 0,.int .i64 0],St.mk 0 0 Tr.leaf)=some (match rem (s.drop 2) 1 with | some n=>(1,[.int .u8 2,.int .i64 ((2+n:Nat):Int)],St.mk 0 0 Tr.leaf) | none=>(0,[.int .u8 0,.int .i64 0],St.mk 0 0 Tr.leaf)):=by
   rw [aJ (s':=([.int .i64 ((1:Nat):Int),.int .u8 0,.int .i64 0,.int .i64 ((2:Nat):Int)],St.mk 0 0 Tr.leaf)),lr s hs (St.mk 0 0 Tr.leaf) (s.drop 2) 2 1 rfl hl (by omega) (by omega)];simp only [nL,ad,af,ae,ak,if_pos q,show eJ (0:Int) s.length=eJ ((0:Nat):Int) s.length from rfl,ca (show 0<=s.length by omega),aaH,aar,az,fV,al,a,aq,ai,bu];rfl
  simp only [Yz,ao,fV,al,a,aaS,aj,if_pos h];rw [e];cases rem (s.drop 2) 1 with
  | none=>simp only [ai,ad,af,ae,eX]
  | some n=>simp only [ai,ad,af,ae,iq];rw [abC 2 n]
 .have a:(s.take [(40:UInt8),42].length==[40,42])=false:=by simpa using h
  simp only [Yz,ao,fV,al,a,aaR,aq,if_neg h]
theorem QU {c:UInt8} {l:LB} (hs:(c::l).length<=1000000):(aY vE).bare 73 [.str (c::l)]=some (if iP c then .tup [.int .u8 (oc ((c::l).takeWhile eA):Int),.int .i64 (wh eA (c::l):Int)] else .tup [.int .u8 0,.int .i64 0]):=by
 refine aM rfl ((Ti _).trans ?_);have h1:(List.drop 0 (List.take 1 (c::l)))=[c]:=rfl;have b:wh iP [c]=if iP c then 1 else 0:=by rw [dr];rfl
 simp only [Y4,ao,ky (show 1<=(c::l).length by simp),aQ,az,h1,P3 (show [c].length<=1000000 by simp),af,bP,b];cases d:iP c with
 | false=>rfl
 | true=>
  simp only [if_true,show ¬ (((1:Nat):Int)=0) by omega,if_false,PM hs,af,Hy,dm,dq,aaW,aQ,ca (jD eA (c::l)),aar,az,pT,Iv,bp,aT,aZ,al];generalize (c::l).takeWhile eA=w;unfold oc;by_cases a:w=[95]
  .simp [a]
  .cases e:words.contains w <;> simp [a] <;> rfl
theorem Ka: ∀(l:LB) (a:Nat),a<=kz a l
  | [],a=>by rw [Aq];exact aah _
  | c::l,a=>by
    have:=Ka l (qa a c);rw [wA];unfold qa at this ⊢;omega
theorem sY: ∀(l:LB) (a:Nat),l.all aC=true->a < 18446744073709551616->Lib.parseUint10 a l=if kz a l < 18446744073709551616 then .ok (kz a l) else .range
  | [],a,_,b=>by rw [Aq,if_pos b,Lib.parseUint10]
  | c::l,a,h,b=>by
    simp only [abU,aaf] at h;have f:48<=c.toNat/\c.toNat<=57:=by
      have:=h.1;simp only [aC,aaf,aaT] at this;exact this
    have i:=Ka l (qa a c);have hs:a * 10+(c.toNat - 48)=qa a c:=id rfl;have g:a * 10<=qa a c:=by rw [<- hs];omega
    rw [Lib.parseUint10,if_pos f,wA,hs];by_cases d:1844674407370955162<=a
    · rw [if_pos d,if_neg (by omega)]
    · rw [if_neg d]
      by_cases e:18446744073709551616<=qa a c
      · rw [if_pos e,if_neg (by omega)]
      · rw [if_neg e]
        exact sY l _ h.2 (by omega)
theorem Ai {l:LB} (a:l≠[]) (h:l.all aC=true):Lib.atoiAll l=if kz 0 l < 9223372036854775808 then .ok (kz 0 l:Int) else .range:=by
  cases l with
  | nil=>exact absurd rfl a
  | cons c r=>
    have i:48<=c.toNat/\c.toNat<=57:=by
      simp only [abU,aaf] at h;have:=h.1;simp only [aC,aaf,aaT] at this;exact this
    have e:¬ (c.toNat=43\/c.toNat=45):=by omega
    have f:¬ c.toNat=45:=by omega
    have g:=sY (c::r) 0 h (by omega);simp only [Lib.atoiAll,if_neg e,Lib.parseMag,if_neg a,g];by_cases b:kz 0 (c::r) < 18446744073709551616
    · rw [if_pos b]
      dsimp only;by_cases d:kz 0 (c::r) < 9223372036854775808
      · rw [if_pos d,if_neg (by omega),if_neg (by omega),if_neg f]
      · rw [if_neg d,if_pos (by omega)]
    · rw [if_neg b,if_neg (by omega)]
theorem HR {l:LB} (a:l≠[]) (h:l.all aC=true):Lib.atoiAll (45::l)=if kz 0 l<=9223372036854775808 then .ok (-(kz 0 l:Int)) else .range:=by
  have e:(45:UInt8).toNat=45:=rfl;have d:=sY l 0 h (by omega);simp only [Lib.atoiAll,e,or_true,if_true,Lib.parseMag,if_neg a,d];by_cases b:kz 0 l < 18446744073709551616
  · rw [if_pos b]
    dsimp only;by_cases c:kz 0 l<=9223372036854775808
    · rw [if_pos c,if_neg (by simp),if_neg (by omega)]
    · rw [if_neg c,if_neg (by simp),if_pos ⟨trivial,by omega⟩]
  · rw [if_neg b,if_neg (by omega)]
theorem sA (p:UInt8->Bool) (l:LB):(l.takeWhile p).all p=true:=by
  induction l with
  | nil=>rfl
  | cons c l ih=>
    rw [aaU];split
    · rename_i h;simp [h,ih]
    · rfl
def Tc (k:Nat) (x:Int):Bool:=decide (x - k < -22)||decide (x - k > 22)
theorem M3 {n:Int} (h1:n < -9223372036854775808) (a: -18446744073709551616<=n):IntKind.wrap .i64 n=n+18446744073709551616:=by
  have e:IntKind.wrap .i64 n=if n % 18446744073709551616>=9223372036854775808 then n % 18446744073709551616 - 18446744073709551616 else n % 18446744073709551616:=by
    show (if (true&&decide (n % (2 ^ 64:Int)>=(2 ^ 63:Int)))=true then n % (2 ^ 64:Int) - (2 ^ 64:Int) else n % (2 ^ 64:Int))= _;simp
  rw [e];split <;> omega
structure Xc (k v:Nat) (neg:Bool) (x:Int):Prop where
  lo: -9223372036854775808<=x
  hi:x<=9223372036854775807
  eq:v<=1000000->x=if neg then -(v:Int) else v
  far:1000000 < v->1000000 < x\/x < -1000000
theorem N4 {k v:Nat} {neg:Bool} {x:Int} (h:Xc k v neg x) (e:k<=500000):
    (decide (IntKind.wrap .i64 (x - k) < -22)||decide (IntKind.wrap .i64 (x - k) > 22))=Tc k (if neg then -((min v 1000000:Nat):Int) else ((min v 1000000:Nat):Int)):=by
  obtain ⟨h1,f,d,h4⟩:=h;have a:(IntKind.wrap .i64 (x - k)=x - k)\/(x - k < -9223372036854775808/\IntKind.wrap .i64 (x - k)=x - k+18446744073709551616):=by
    by_cases c: -9223372036854775808<=x - k
    · exact .inl (wrap_i64 c (by omega))
    · exact .inr ⟨by omega,M3 (by omega) (by omega)⟩
  unfold Tc;by_cases b:v<=1000000
  · have hx:=d b
    have a:IntKind.wrap .i64 (x - k)=x - k:=by
      rcases a with a | ⟨a,_⟩
      · exact a
      · exfalso
        cases neg <;> simp at hx <;> omega
    rw [a,abR b,hx]
  · have hx:=h4 (by omega)
    rw [aco (by omega)];have l:(decide (IntKind.wrap .i64 (x - k) < -22)||decide (IntKind.wrap .i64 (x - k) > 22))=true:=by
      rw [aaP,aaT,aaT];rcases a with a | ⟨_,a⟩ <;> rw [a] <;> omega
    have r: ∀y:Int,(y=1000000\/y= -1000000)->(decide (y - (k:Int) < -22)||decide (y - (k:Int) > 22))=true:=by
      intro y hy;rw [aaP,aaT,aaT];omega
    rw [l];cases neg
    · exact (r _ (.inl rfl)).symm
    · exact (r _ (.inr rfl)).symm
theorem Rr:Md BinOp.neq AV.nili=some (.bool false):=rfl
theorem P1 (t:Td) (v:AV):Md BinOp.neq (AV.iface t v)=some (.bool true):=rfl
theorem KO {l:LB} (hs:l.length<=1000000) {d:Nat} (hd:wh aC (l.drop (eh l))=d) (h0:0 < d) (k:Nat):
    ∃x:Int,Xc k (kz 0 ((l.drop (eh l)).take d)) (decide (l.head?=some 45)) x/\ ∀{β:Type} (st:St) (K:Int->bU->Oq β),
      (cX (aY vE) (dy (Prim.lib (jG 172)) [AV.str (if ((l.take (eh l+d)).take [(43:UInt8)].length==[43])=true then (l.take (eh l+d)).drop [(43:UInt8)].length else l.take (eh l+d))]) st fun h f _x=>gN h fun n=>cr n 0 fun o=>bj .i64 o fun p=>gN h fun q=>cr q 1 fun s=>ax (Md BinOp.neq s) fun t=>bG
 t fun u=>ax (aX u (some (([AV.int .i64 1073741824],f):bU)) (some ([AV.int .i64 p],f))) fun i=>bg (Prod.fst i) fun v w=>bj .i64 v fun y=>bB w (K y i))=K x ([AV.int .i64 x],st):=by
  have j:(l.drop (eh l)).take d=(l.drop (eh l)).takeWhile aC:=by rw [<- hd,pT]
  have a:((l.drop (eh l)).take d).all aC=true:=by rw [j];exact sA _ _
  have hlen:((l.drop (eh l)).take d).length=d:=by rw [j, <- hd];rfl
  have b:(l.drop (eh l)).take d≠[]:=by
    intro e;rw [e] at hlen;simp at hlen;omega
  have fin: ∀(D:LB),D.length<=1000001-> ∀{β:Type} (st:St) (K:Int->bU->Oq β) (x:Int),(Lib.atoiAll D= .ok x\/(Lib.atoiAll D= .range/\x=1073741824))->
      (cX (aY vE) (dy (Prim.lib (jG 172)) [AV.str D]) st fun h f _x=>gN h fun n=>cr n 0 fun o=>bj .i64 o fun p=>gN h fun q=>cr q 1 fun s=>ax (Md BinOp.neq s) fun t=>bG
 t fun u=>ax (aX u (some (([AV.int .i64 1073741824],f):bU)) (some ([AV.int .i64 p],f))) fun i=>bg (Prod.fst i) fun v w=>bj .i64 v fun y=>bB w (K y i))=K x ([AV.int .i64 x],st):=by
    intro D F β st K x hx;rcases hx with hx | ⟨hx,rfl⟩
    · have hl:jG 172 [.str D]= .ok (.tup [.int .i64 x,.nili]):=by simp only [jG,ky (show D.length<=281474976710656 by omega),hx]
      simp only [fC hl,bp,aT,aZ,af,Rr,ai,al,aj,ad,ae]
    · have hl:jG 172 [.str D]= .ok (.tup [.int .i64 (Lib.atoiSat D),.iface 172 (.opq false)]):=by simp only [jG,ky (show D.length<=281474976710656 by omega),hx]
      simp only [fC hl,bp,aT,aZ,af,P1,ai,al,aq,ad,ae]
  cases l with
  | nil=>simp [eh] at b
  | cons c r=>
    by_cases B:c=43
    · subst B
      have z:eh ((43:UInt8)::r)=1:=rfl;rw [z] at a hlen b j ⊢;simp only [aaE,aar] at a hlen b j ⊢;have g:=Ai b a;have A:(if (((43::r).take (1+d)).take [(43:UInt8)].length==[43])=true then ((43:UInt8)::r |>.take (1+d)).drop [(43:UInt8)].length else (43::r).take (1+d))=r.take d:=by
        rw [abC 1 d];rfl
      rw [A];by_cases m:kz 0 (r.take d) < 9223372036854775808
      · rw [if_pos m] at g
        exact ⟨kz 0 (r.take d),⟨by omega,by omega,fun _=>by simp,fun _=>by omega⟩,fun st K=>fin _ (by rw [aat];simp at hs;omega) st K _ (.inl g)⟩
      · rw [if_neg m] at g
        exact ⟨1073741824,⟨by omega,by omega,fun _=>by omega,fun _=>by omega⟩,fun st K=>fin _ (by rw [aat];simp at hs;omega) st K _ (.inr ⟨g,rfl⟩)⟩
    · by_cases C:c=45
      · subst C
        have z:eh ((45:UInt8)::r)=1:=rfl;rw [z] at a hlen b j ⊢;simp only [aaE,aar] at a hlen b j ⊢;have g:=HR b a;have A:(if (((45::r).take (1+d)).take [(43:UInt8)].length==[43])=true then ((45:UInt8)::r |>.take (1+d)).drop [(43:UInt8)].length else (45::r).take (1+d))=45::r.take d:=by
          rw [abC 1 d];rfl
        rw [A];by_cases m:kz 0 (r.take d)<=9223372036854775808
        · rw [if_pos m] at g
          exact ⟨-(kz 0 (r.take d):Int),⟨by omega,by omega,fun _=>by simp,fun _=>by omega⟩,fun st K=>fin _ (by rw [aab,aat];simp at hs;omega) st K _ (.inl g)⟩
        · rw [if_neg m] at g
          exact ⟨1073741824,⟨by omega,by omega,fun _=>by omega,fun _=>by omega⟩,fun st K=>fin _ (by rw [aab,aat];simp at hs;omega) st K _ (.inr ⟨g,rfl⟩)⟩
      · have E:qe c=false:=by simp [qe,B,C]
        have z:eh (c::r)=0:=by simp only [eh,E];rfl
        rw [z] at a hlen b j ⊢;simp only [aar,aau] at a hlen b j ⊢;have g:=Ai b a;have A:(if (((c::r).take d).take [(43:UInt8)].length==[43])=true then ((c::r).take d).drop [(43:UInt8)].length else (c::r).take d)=(c::r).take d:=by
          rw [if_neg];intro e;have e:=eq_of_beq e;cases d with
          | zero=>simp at h0
          | succ d=>simp at e;exact B e
        rw [A];by_cases m:kz 0 ((c::r).take d) < 9223372036854775808
        · rw [if_pos m] at g
          exact ⟨kz 0 ((c::r).take d),⟨by omega,by omega,fun _=>by simp [C],fun _=>by omega⟩,fun st K=>fin _ (by rw [aat];omega) st K _ (.inl g)⟩
        · rw [if_neg m] at g
          exact ⟨1073741824,⟨by omega,by omega,fun _=>by omega,fun _=>by omega⟩,fun st K=>fin _ (by rw [aat];omega) st K _ (.inr ⟨g,rfl⟩)⟩
theorem MP (p:UInt8->Bool) (c:UInt8) (l:LB):wh p ((c::l).take 1)=if p c then 1 else 0:=by
  show wh p [c]= _;rw [dr];rfl
theorem GI (s:LB) (e:Nat):s.take (min s.length e)=s.take e:=by
  rcases Nat.le_total e s.length with h | h
  · rw [aco h]
  · rw [abR h,aaH,List.take_of_length_le h]
theorem JX (a b:Nat):(if (a:Int) < (b:Int) then (a:Int) else (b:Int))=((min a b:Nat):Int):=by split <;> omega
theorem nQ (s:LB) (e n:Nat):(s.take (e+n)).drop e=(s.drop e).take n:=by
  rw [List.drop_take];congr 1;omega
theorem C0 {all k:Nat} {x:Int} {e:Int} (st:St) (b:Bool) (j:(decide (IntKind.wrap .i64 (x - k) < -22)||decide (IntKind.wrap .i64 (x - k) > 22))=b):
    (ax (aX (decide ((all:Int) > 15)) (some (([AV.bool true],st):bU)) (aN (IntKind.wrap .i64 (x - (k:Int))) fun c=>aX (decide (c < -22)) (some ([AV.bool true],st)) (aN (IntKind.wrap .i64 (x - (k:Int))) fun d=>some ([AV.bool (decide (d > 22))],st)))) fun f=>
 bg (Prod.fst f) fun g h=>bG g fun i=>bB h (aX i (some (AV.tup [AV.int .u8 9,AV.int .i64 e])) (some (AV.tup [AV.int .u8 6,AV.int .i64 e]))))=some (AV.tup [AV.int .u8 (if all > 15\/b=true then 9 else 6:Int),AV.int .i64 e]):=by
  simp only [ak,az];by_cases l:(all:Int) > 15
  · have:all > 15:=by omega
    simp only [if_pos l,ai,ad,al,ae,aq,this,true_or,if_true]
  · have h1:¬ all > 15:=by omega
    rw [if_neg l];by_cases a:IntKind.wrap .i64 (x - (k:Int)) < -22
    · have:b=true:=by rw [<- j,abh a];rfl
      subst this;simp only [if_pos a,ai,ad,al,ae,aq,or_true,if_true]
    · rw [if_neg a]
      have:b=decide (IntKind.wrap .i64 (x - (k:Int)) > 22):=by rw [<- j,abe a];rfl
      subst this;simp only [ai,ad,al,ae,h1,false_or];cases decide (IntKind.wrap .i64 (x - (k:Int)) > 22) <;> rfl
theorem L9 {s:LB} (hs:s.length<=500000):(aY vE).bare 74 [.str s]=some (if wh aC s=0 then .tup [.int .u8 5,.int .i64 0] else .tup [.int .u8 ((number s).1:Int),.int .i64 ((number s).2:Int)]):=by
  refine aM rfl ((Vk _).trans ?_);have hn:=jD aC s;simp only [ZK,ao,Dm (show s.length<=1000000 by omega),af,bP];by_cases o:wh aC s=0
  · have b:((wh aC s:Nat):Int)=0:=by omega
    rw [if_pos b,if_pos o,o];rfl
  have b:¬ ((wh aC s:Nat):Int)=0:=by omega
  simp only [if_neg b,if_neg o,ca hn,aaH,az,fV,al,ai,ad,ae];generalize O:wh aC s=n at hn o b;have i:((s.drop n).take [(46:UInt8)].length==[46])=decide ((s.drop n).head?=some 46):=by
    cases s.drop n with
    | nil=>rfl
    | cons c l=>
      show ([c]==[46])= _;by_cases h:c=46
      · subst h;rfl
      · simp [h]
  rw [i];unfold number;rw [O];by_cases p:(s.drop n).head?=some 46
  · have P:n < s.length:=by
      rcases Nat.lt_or_ge n s.length with q | q
      · exact q
      · rw [List.drop_of_length_le q] at p;cases p
    simp only [p,decide_true,aaS,aj,if_true];have I:=jD aC (s.drop (n+1));rw [aas] at I;have r:(s.drop (n+1)).length<=1000000:=by rw [aas];omega
    simp only [br (show n+1<=9223372036854775807 by omega),ca (show n+1<=s.length by omega),aaH,Dm r,af];generalize hK:wh aC (s.drop (n+1))=k at I;simp only [uL (show n+k<=9223372036854775807 by omega),uL (show n+1+k<=9223372036854775807 by omega),br (show n+1+k+1<=9223372036854775807 by omega),JX,ca (Nat.min_le_left s.length (n+1+k+1)),ca (show n+1+k<=min s.length (n+1+k+1) by omega),GI,nQ];generalize hE:n+1+k=e at *;have Q:e<=s.length:=by omega
    have t:((s.drop e).take 1).length<=1000000:=by rw [aat,aas];omega
    simp only [Wj t,af,ak];have a: ∀(x:Nat×Int),x=(0,0)->(ax (aX (decide (((n+k:Nat):Int) > 15)) (some (([AV.bool true],St.mk 0 0 Tr.leaf):bU)) (aN (IntKind.wrap .i64 ((0:Int) - (k:Int))) fun u=>aX (decide (u < -22)) (some ([AV.bool true],St.mk 0 0 Tr.leaf)) (aN (IntKind.wrap .i64 ((0:Int) - (k:Int))) fun v=>some ([AV.bool (decide (v > 22))],St.mk 0 0 Tr.leaf)))) fun w=>
 bg (Prod.fst w) fun y z=>bG y fun A=>bB z (aX A (some (AV.tup [AV.int .u8 9,AV.int .i64 (e:Int)])) (some (AV.tup [AV.int .u8 6,AV.int .i64 (e:Int)]))))=some (AV.tup [AV.int .u8 ((if n+k > 15\/x.2 - (k:Int) < -22\/x.2 - (k:Int) > 22 then 9 else 6:Nat):Int),AV.int .i64 ((e+x.1:Nat):Int)]):=by
      rintro _ rfl;have R:IntKind.wrap .i64 ((0:Int) - (k:Int))=0 - (k:Int):=wrap_i64 (by omega) (by omega);rw [C0 (St.mk 0 0 Tr.leaf) (decide ((0:Int) - k < -22)||decide ((0:Int) - k > 22)) (by rw [R])];simp only [aaP,aaT,abq];by_cases h:n+k > 15\/(0:Int) - (k:Int) < -22\/(0:Int) - (k:Int) > 22
      · rw [if_pos h,if_pos h];rfl
      · rw [if_neg h,if_neg h];rfl
    simp only [ak,az] at a;cases B:s.drop e with
    | nil=>
      have h0:¬ (((wh VI ([].take 1):Nat):Int) > 0):=by simp [wh]
      simp only [if_neg h0,ai,ad,af,ae];exact a _ rfl
    | cons c l=>
      have f:s.drop (e+1)=l:=by rw [<- abD,B];rfl
      have S:e < s.length:=by
        rcases Nat.lt_or_ge e s.length with q | q
        · exact q
        · rw [List.drop_of_length_le q] at B;cases B
      have T:l.length=s.length - (e+1):=by rw [<- f,aas]
      rw [MP];cases J:VI c with
      | false=>
        have hx:eO (c::l)=(0,0):=by
          unfold eO;have:¬ (c=101\/c=69):=by
            intro h;rcases h with rfl | rfl <;> cases J
          simp only [if_neg this]
        simp only [aaB,if_false,show ¬ (((0:Nat):Int) > 0) by omega,ai,ad,af,ae];exact a _ hx
      | true=>
        have j:c=101\/c=69:=by simpa [VI] using J
        have U:=zF l;have K:eh l<=1:=by
          cases l with
          | nil=>simp [eh]
          | cons c l=>simp only [eh];split <;> omega
        have C:wh qe (l.take 1)=eh l:=by
          cases l with
          | nil=>rfl
          | cons c l=>rw [MP];rfl
        simp only [if_true,show (((1:Nat):Int) > 0) by omega];simp only [br (show e+1<=9223372036854775807 by omega),oQ (show e+2<=9223372036854775807 by omega),JX,ca (Nat.min_le_left s.length (e+2)),ca (show e+1<=min s.length (e+2) by omega),GI,az,show (s.take (e+2)).drop (e+1)=l.take 1 by rw [<- f];exact nQ s (e+1) 1,PW (show (l.take 1).length<=1000000 by rw [aat];omega),af,C,uL (show e+1+eh l<=9223372036854775807 by omega),ca (show e+1+eh l<=s.length by omega),aaH];have D:s.drop (e+1+eh l)=l.drop (eh l):=by rw [<- abD,f]
        have E:(l.drop (eh l)).length<=1000000:=by rw [aas];omega
        simp only [D,Dm E,af];have L:=jD aC (l.drop (eh l));rw [aas] at L;generalize g:wh aC (l.drop (eh l))=d at L;by_cases M:d=0
        · subst M
          have hx:eO (c::l)=(0,0):=by
            simp only [eO,if_pos j,g,if_true]
          simp only [show ¬ (((0:Nat):Int) > 0) by omega,ak,if_false,ai,ad,af,ae];exact a _ hx
        · have F:((d:Nat):Int) > 0:=by omega
          have hx:eO (c::l)=(1+eh l+d,if l.head?=some 45 then -((min (kz 0 ((l.drop (eh l)).take d)) 1000000:Nat):Int) else ((min (kz 0 ((l.drop (eh l)).take d)) 1000000:Nat):Int)):=by
            simp only [eO,if_pos j,g,if_neg M]
          obtain ⟨x,G,H⟩:=KO (by omega) g (by omega) k;have hf:=N4 G (show k<=500000 by omega);have m:(s.take (e+1+eh l+d)).drop (e+1)=l.take (eh l+d):=by
            have:=nQ s (e+1) (eh l+d);rw [f, <- acr] at this;exact this
          simp only [ak,if_pos F,uL (show e+1+eh l+d<=9223372036854775807 by omega),ca (show e+1+eh l+d<=s.length by omega),ca (show e+1<=e+1+eh l+d by omega),m,LW,ao,H,az,ai,ad,af,ae];have hl:=C0 (all:=n+k) (e:=((e+1+eh l+d:Nat):Int)) (St.mk 0 0 Tr.leaf) _ hf;simp only [ak,az] at hl;rw [hl,hx];have V:e+(1+eh l+d)=e+1+eh l+d:=by omega
          simp only [V];unfold Tc;simp only [aaP,aaT];by_cases N:l.head?=some 45
          · simp only [N,if_true]
            split <;> rfl
          · simp only [N,if_false]
            split <;> rfl
  · simp only [p,decide_false,aaR,aq,if_false]
    rfl
theorem T9 (c:UInt8):decide (vX [110,116,92,34] c>=0)=uw c:=by
 have:=Cd (p:=fun c=>decide (vX [110,116,92,34] c>=0)==uw c) (by decide+kernel) c;exact eq_of_beq this
theorem rP (n:Nat) (b:UInt8) (l:LB):dH n (b::l)=if b.toNat=n then some 0 else (dH n l).map (· +1):=by
 show (match b.toNat.beq n with | true=>some 0 | false=>match dH n l with | some i=>some (i+1) | none=>none)= _;cases h:b.toNat.beq n with
 | true=>rw [if_pos (aan h)]
 | false=>
  rw [if_neg (Nat.ne_of_beq_eq_false h)];cases dH n l <;> rfl
theorem Cz: ∀(r:LB),(∀b∈r,b≠10)->ff r=match dH 34 r with | some j=>j+1 | none=>r.length
 | [],_=>rfl
 | c::r,h=>by
  have ih:=Cz r fun b d=>h b (aak _ d);rw [rP];simp only [ff,if_neg (h c (by simp))];by_cases a:c=34
  .subst a;rfl
  .have:¬ c.toNat=34:=fun e=>a (abE.1 e);rw [if_neg a,if_neg this,ih];cases dH 34 r <;> rfl
theorem r9: ∀(r:LB),ff r=ff (r.takeWhile fun b=>b != 10)
 | []=>rfl
 | c::r=>by
  by_cases h:c=10
  .subst h;rfl
  .have e:(c != 10)=true:=by simpa using h
   rw [aaU,if_pos e];simp only [ff,if_neg h];rw [r9 r]
theorem Ax: ∀(l:LB),cL l=cL (l.takeWhile fun b=>b != 10)
 | []=>rfl
 | [c]=>by
  by_cases h:c=10
  .subst h;rfl
  .have e:(c != 10)=true:=by simpa using h
   rw [aaU,if_pos e];rfl
 | c::d::l=>by
  have h1:=Ax l;have f:=Ax (d::l);have k:=r9 (d::l);by_cases h:c=10
  .subst h;rfl
  have e:(c != 10)=true:=by simpa using h
  rw [aaU,if_pos e];by_cases g:c=34
  .subst g;cases i:(d::l).takeWhile fun b=>b != 10 with
   | nil=>rfl
   | cons a r=>rfl
  by_cases j:c=92
  .subst j;by_cases hd:d=10
   .subst hd;rfl
   .have m:(d != 10)=true:=by simpa using hd
    rw [aaU,if_pos m] at f k ⊢;simp only [cL,h,g,if_false,if_true];split
    .rw [h1]
    .rw [k]
  .cases i:(d::l).takeWhile fun b=>b != 10 with
   | nil=>
    rw [i] at f;simp only [cL,if_neg h,if_neg g,if_neg j,f]
   | cons a r=>
    rw [i] at f;simp only [cL,if_neg h,if_neg g,if_neg j,f]
theorem rX (line:LB) (h: ∀b∈line,b≠10) (hs:line.length<=1000000) (st:St): ∀(r:LB) (i:Nat),line.drop i=r->i<=line.length->
  (aH (gS line) ([.int .u8 0,.int .i64 0,.int .i64 (i:Int)],st)=some (1,[.int .u8 ((cL r).1:Int),.int .i64 ((i+(cL r).2:Nat):Int)],st))\/
  (aH (gS line) ([.int .u8 0,.int .i64 0,.int .i64 (i:Int)],st)=some (0,[.int .u8 0,.int .i64 0],st)/\cL r=(9,r.length))
 | [],i,hd,hi=>by
  have:=aaQ.1 hd;have q:¬ (i:Int) < (line.length:Int):=by omega
  refine .inr ⟨aF ?_,rfl⟩;simp only [gS,ad,af,ae,ak,if_neg q]
 | [c],i,hd,hi=>by
  obtain ⟨A,w,a⟩:=drop_cons hd;have J:=aaQ.1 w;have q:(i:Int) < (line.length:Int):=by omega
  have n:line[i]=c:=gU a A;have p:c≠10:=h c (aaJ A);by_cases s:c=34
  .subst s;refine .inl (aF ?_);have z:((UInt8.toNat (34:UInt8):Nat):Int)=34:=rfl;simp only [gS,ad,af,ae,ak,if_pos q,bM a,n,z,bP,if_true,az,br (show i+1<=9223372036854775807 by omega),ai,cp];rfl
  .have F:¬ ((c.toNat:Nat):Int)=34:=rM (d:=34) s;by_cases x:c=92
   .subst x;have o:((UInt8.toNat (92:UInt8):Nat):Int)=92:=rfl;have C:¬ ((92:Int)=34):=by omega
    have y:¬ ((i+1:Nat):Int) < (line.length:Int):=by omega
    have t:vX [92] 34= -1:=rfl;have k:=fun {β:Type} (st:St) (K:Kv β)=>my [92] 34 st K;have u:((UInt8.toNat (34:UInt8):Nat):Int)=34:=rfl;simp only [u] at k;have el:line.length=i+1:=by omega
    have v:cL [92]=(9,1):=rfl;refine .inl (aF ?_);simp only [gS,ad,af,ae,ak,if_pos q,bM a,n,o,bP,if_neg C,if_true,az,br (show i+1<=9223372036854775807 by omega),if_neg y,ai,al,aj,ca (show i<=line.length by omega),aaH,hd,k,t,show ¬ ((-1:Int)>=0) by omega,if_false,cp,v];rw [el];rfl
   .have o:¬ ((c.toNat:Nat):Int)=92:=rM (d:=92) x;refine .inr ⟨?_,by simp only [cL,if_neg p,if_neg s];rfl⟩;have ih:=rX line h hs st [] (i+1) w (by omega);rw [aJ (s':=([.int .u8 0,.int .i64 0,.int .i64 ((i+1:Nat):Int)],st))]
    .rcases ih with ih | ih
     .exfalso;have y:¬ ((i+1:Nat):Int) < (line.length:Int):=by omega
      have e:aH (gS line) ([.int .u8 0,.int .i64 0,.int .i64 ((i+1:Nat):Int)],st)=some (0,[.int .u8 0,.int .i64 0],st):=aF (by simp only [gS,ad,af,ae,ak,if_neg y]);rw [e] at ih;cases ih
     .exact ih.1
    .simp only [gS,ad,af,ae,ak,if_pos q,bM a,n,bP,if_neg F,if_neg o,ai,bu,az,br (show i+1<=9223372036854775807 by omega)]
 | c::d::l,i,hd,hi=>by
  obtain ⟨A,w,a⟩:=drop_cons hd;obtain ⟨G,H,m⟩:=drop_cons w;have q:(i:Int) < (line.length:Int):=by omega
  have y:((i+1:Nat):Int) < (line.length:Int):=by omega
  have n:line[i]=c:=gU a A;have B:line[i+1]=d:=gU m G;have p:c≠10:=h c (aaJ A);by_cases s:c=34
  .subst s;refine .inl (aF ?_);have z:((UInt8.toNat (34:UInt8):Nat):Int)=34:=rfl;simp only [gS,ad,af,ae,ak,if_pos q,bM a,n,z,bP,if_true,az,br (show i+1<=9223372036854775807 by omega),ai,cp];rfl
  .have F:¬ ((c.toNat:Nat):Int)=34:=rM (d:=34) s;by_cases x:c=92
   .subst x;have o:((UInt8.toNat (92:UInt8):Nat):Int)=92:=rfl;have C:¬ ((92:Int)=34):=by omega
    have g:=T9 d;cases D:uw d with
    | true=>
     rw [D] at g;have f:=aci g;have ih:=rX line h hs st l (i+2) H (by omega);have step:aH (gS line) ([.int .u8 0,.int .i64 0,.int .i64 (i:Int)],st)=aH (gS line) ([.int .u8 0,.int .i64 0,.int .i64 ((i+2:Nat):Int)],st):=by
      refine aJ ?_;simp only [gS,ad,af,ae,ak,if_pos q,bM a,n,o,bP,if_neg C,if_true,az,br (show i+1<=9223372036854775807 by omega),if_pos y,bM m,B,my,ai,al,if_pos f,bu,br (show i+1+1<=9223372036854775807 by omega)]
     have v:cL (92::d::l)=((cL l).1,(cL l).2+2):=by
      simp only [cL,D,if_true];rfl
     rw [step,v];rcases ih with ih | ⟨ih,I⟩
     .refine .inl (ih.trans ?_);show some (_,[_,AV.int .i64 ((i+2+(cL l).2:Nat):Int)],st)= _;rw [show i+2+(cL l).2=i+((cL l).2+2) by omega]
     .exact .inr ⟨ih,by rw [I];rfl⟩
    | false=>
     rw [D] at g;have f:=of_decide_eq_false g;have v:cL (92::d::l)=(9,ff (d::l)+1):=by
      simp only [cL,D];rfl
     have E:=Cz (d::l) fun b E=>h b (by
      have:b∈line.drop (i+1):=by rw [w];exact E
      exact List.mem_of_mem_drop this)
     have k:=fun {β:Type} (st:St) (K:Kv β)=>my (92::d::l) 34 st K;have u:((UInt8.toNat (34:UInt8):Nat):Int)=34:=rfl;simp only [u] at k;have hl:line.length=i+2+l.length:=by
      have:=aaY List.length hd;rw [aas] at this;simp at this;omega
     rw [v];refine .inl (aF ?_);have t:vX (92::d::l) 34=match dH 34 (d::l) with | some j=>((j+1:Nat):Int) | none=> -1:=by
      unfold vX;rw [show (UInt8.toNat (34:UInt8))=34 from rfl,rP,if_neg (by decide)];cases dH 34 (d::l) <;> rfl
     simp only [gS,ad,af,ae,ak,if_pos q,bM a,n,o,bP,if_neg C,if_true,az,br (show i+1<=9223372036854775807 by omega),if_pos y,bM m,B,my,ai,al,if_neg f,ca (show i<=line.length by omega),aaH,hd,k,t];rw [E];cases hf:dH 34 (d::l) with
     | none=>
      simp only [show ¬ ((-1:Int)>=0) by omega,if_false,ai,cp];rw [show line.length=i+((d::l).length+1) by simp;omega];rfl
     | some j=>
      have L:j+1<=(d::l).length:=by
       have h1:=EU (d::l);rw [E,hf] at h1;exact h1
      simp only [aab] at L;simp only [show (((j+1:Nat):Int)>=0) by omega,if_true,uL (show i+(j+1)<=9223372036854775807 by omega),br (show i+(j+1)+1<=9223372036854775807 by omega),ai,cp];rfl
   .have o:¬ ((c.toNat:Nat):Int)=92:=rM (d:=92) x;have ih:=rX line h hs st (d::l) (i+1) w (by omega);have step:aH (gS line) ([.int .u8 0,.int .i64 0,.int .i64 (i:Int)],st)=aH (gS line) ([.int .u8 0,.int .i64 0,.int .i64 ((i+1:Nat):Int)],st):=by
     refine aJ ?_;simp only [gS,ad,af,ae,ak,if_pos q,bM a,n,bP,if_neg F,if_neg o,ai,bu,az,br (show i+1<=9223372036854775807 by omega)]
    have v:cL (c::d::l)=((cL (d::l)).1,(cL (d::l)).2+1):=by
     simp only [cL,if_neg p,if_neg s,if_neg x]
    rw [step,v];rcases ih with ih | ⟨ih,I⟩
    .refine .inl (ih.trans ?_);show some (_,[_,AV.int .i64 ((i+1+(cL (d::l)).2:Nat):Int)],st)= _;rw [show i+1+(cL (d::l)).2=i+((cL (d::l)).2+1) by omega]
    .exact .inr ⟨ih,by rw [I];rfl⟩
theorem B9: ∀(s:LB),(match dH 10 s with | some k=>s.take k | none=>s)=s.takeWhile fun b=>b != 10
 | []=>rfl
 | c::l=>by
  have ih:=B9 l;rw [rP,aaU];by_cases h:c=10
  .subst h;rfl
  .have e:(c != 10)=true:=by simpa using h
   have:¬ c.toNat=10:=fun k=>h (abE.1 k);rw [if_neg this,if_pos e, <- ih];cases dH 10 l <;> rfl
theorem Je: ∀(s:LB) (n k:Nat),dH n s=some k->k < s.length
 | [],_,_,h=>by cases h
 | c::l,n,k,h=>by
  rw [rP] at h;split at h
  .cases h;simp
  .obtain ⟨m,hm,rfl⟩:=aaF.1 h;have:=Je l n m hm;simp;omega
theorem RM {c:UInt8} {l:LB} (hs:(c::l).length<=1000000):(aY vE).bare 75 [.str (c::l)]=some (if c=34 then .tup [.int .u8 ((cL l).1:Int),.int .i64 (((cL l).2+1:Nat):Int)] else .tup [.int .u8 0,.int .i64 0]):=by
 refine aM rfl ((S8 _).trans ?_);have n: ∀{β:Type} (K:UInt8->Oq β),gv (c::l) 0 K=K c:=fun K=>bM (k:=0) (by simp) K;by_cases h:c=34
 .subst h;have z:(((UInt8.toNat (34:UInt8):Nat):Int) != 34)=false:=rfl;have f:=fun {β:Type} (st:St) (K:Kv β)=>my (34::l) 10 st K;have g:((UInt8.toNat (10:UInt8):Nat):Int)=10:=rfl;simp only [g] at f;have a:=B9 (34::l);have o:(34::l).takeWhile (fun b=>b != 10)=34::l.takeWhile (fun b=>b != 10):=by rw [aaU];rfl
  rw [o] at a;have i: ∀b∈(34::l.takeWhile (fun b=>b != 10):LB),b≠10:=by
   intro b j;rcases aam.1 j with rfl | j
   .decide
   .have:=abd.1 (sA (fun b=>b != 10) l) b j;simpa using this
  have m:(34::l.takeWhile (fun b=>b != 10):LB).length<=1000000:=by
   have:=(List.takeWhile_sublist (p:=fun b=>b != 10) (l:=l)).length_le;simp at hs ⊢;omega
  have e:=rX (34::l.takeWhile (fun b=>b != 10)) i m (St.mk 0 0 Tr.leaf) (l.takeWhile fun b=>b != 10) 1 rfl (by simp);rw [<- Ax l] at e;have first: ∀(K:bU->Oq AV),(ax (aX (decide (vX (34::l) 10>=0)) (eJ (vX (34::l) 10) (34::l:LB).length fun k6=>aN (List.drop 0 (List.take k6 (34::l))) fun q=>some (([AV.str q],St.mk 0 0 Tr.leaf):bU)) (some ([AV.str (34::l)],St.mk 0 0 Tr.leaf))) K)=K ([AV.str (34::l.takeWhile fun b=>b != 10)],St.mk 0 0 Tr.leaf):=by
   intro K;unfold vX;rw [show UInt8.toNat (10:UInt8)=10 from rfl];cases hf:dH 10 (34::l) with
   | none=>
    rw [hf] at a;have a:(34::l)=34::l.takeWhile (fun b=>b != 10):=a;simp only [ak,show ¬ ((-1:Int)>=0) by omega,if_false,ai];rw [<- a]
   | some k=>
    rw [hf] at a;have a:(34::l).take k=34::l.takeWhile (fun b=>b != 10):=a;have t:=Je _ _ _ hf;simp only [ak,show ((k:Int)>=0) by omega,if_true,ca (show k<=(34::l:LB).length by omega),aar,az,a,ai]
  simp only [Yg,ao,n,z,aj,f,af];rw [first];simp only [ad,ao,ae,if_true];rcases e with e | ⟨e,r⟩
  .have e:aH (gS (34::l.takeWhile fun b=>b != 10)) ([.int .u8 0,.int .i64 0,.int .i64 1],St.mk 0 0 Tr.leaf)= _:=e;rw [e];simp only [ai,ad,af,ae,iq];rw [abC 1]
  .have e:aH (gS (34::l.takeWhile fun b=>b != 10)) ([.int .u8 0,.int .i64 0,.int .i64 1],St.mk 0 0 Tr.leaf)= _:=e;rw [e,r];simp only [ai,ad,af,ae,eX];rfl
 .have z:((c.toNat:Int) != 34)=true:=by
   have s:¬ ((c.toNat:Nat):Int)=34:=rM (d:=34) h;rw [bne,beq_false_of_ne s];rfl
  simp only [Yg,ao,n,z,aq,if_neg h]
theorem QC {c:UInt8} {l:LB}:(aY vE).bare 76 [.str (c::l)]=some (if gG.contains ((c::l).take 2) then .tup [.int .u8 8,.int .i64 2] else .tup [.int .u8 8,.int .i64 (if jy c then 1 else 0)]):=by
 refine aM rfl ((U7 _).trans ?_);have h1:(c::l).take 1=[c]:=rfl;have m:wh jy [c]=if jy c then 1 else 0:=by rw [dr];rfl
 have tail: ∀(st:St),(cg (Nat.ble 1 (c::l).length) (aN (List.drop 0 (List.take 1 (c::l))) fun e=>aV (aY vE) 109 [AV.str e,AV.str [40,41,91,93,44,59,124,61,60,62,43,45,42,47,94,64]] st fun f _x _x_1=>bj .i64 f fun a=>aN (if a < 1 then a else 1) fun g=>some (AV.tup [AV.int .u8 8,AV.int .i64 g])))=some (.tup [.int .u8 8,.int .i64 (if jy c then 1 else 0)]):=by
  intro st;simp only [ky (show 1<=(c::l).length by simp),aQ,az,h1,aar,Qk (show [c].length<=1000000 by simp),af,m];cases jy c <;> rfl
 by_cases hl:((c::l).length:Int) > 1
 .have h:2<=(c::l).length:=by omega
  simp only [Yn,ao,ak,if_pos hl,ky h,aQ,aar,az];generalize (c::l).take 2=w;cases b:gG.contains w with
  | true=>
   have hm:w∈gG:=List.contains_iff_mem.1 b;simp only [gG,aam,List.not_mem_nil,or_false] at hm;rcases hm with rfl | rfl | rfl | rfl | rfl | rfl | rfl | rfl | rfl | rfl | rfl <;> rfl
  | false=>
   simp only [gG,List.contains_cons,List.contains_nil,aaO] at b;obtain ⟨n,o,p,q,r,s,t,u,v,i,j,_⟩:=b;simp only [n,o,p,q,r,s,t,u,v,i,j,aj,ai,ad,al,ae,bu,af];exact tail _
 .have k:l=[]:=by
   cases l with
   | nil=>rfl
   | cons d l=>simp at hl;omega
  subst k;have b:gG.contains ([c].take 2)=false:=by
   simp [gG]
  simp only [Yn,ao,ak,if_neg hl,ai,bu,ad,af,ae,b];exact tail _
def HF (s:LB):Nat:=if gC s=0 then 1 else gC s
theorem Kt {s:LB} (h:s≠[]): ∃r n:Int,kC [.str s]= .ok (.tup [.int .i32 r,.int .i64 n])/\((gC s=0/\r=65533/\n=1)\/(gC s≠0/\n=gC s/\(gC s=1->r≠65533))):=by
 cases s with
 | nil=>exact absurd rfl h
 | cons c l=>
  have e:kC [.str (c::l)]= .ok (.tup [.int .i32 ((Lib.decodeL (c::l)).1:Int),.int .i64 ((Lib.decodeL (c::l)).2:Int)]):=by
   rw [Lib.decodeL_N];rfl
  refine ⟨_,_,e, ?_⟩;rcases pH (c::l) with ⟨h1,a⟩ | ⟨h1,a,b⟩ | ⟨h1,a⟩
  .exact .inl ⟨h1,by rw [a];rfl,by rw [a];rfl⟩
  .refine .inr ⟨by omega,by rw [b,h1],fun _=> ?_⟩;rw [b];show (((c::l).getD 0 0).toNat:Int)≠65533;omega
  .exact .inr ⟨by omega,by rw [a],fun h=>by omega⟩
theorem RE {s:LB} (h:s≠[]): ∃r:Int,(aY vE).bare 115 [.str s]=some (.tup [.int .i64 r,.int .i64 (HF s:Int)]):=by
 obtain ⟨r,n,e,c⟩:=Kt h;have a:(s==[])=false:=by simpa using h
 rcases c with ⟨h1,rfl,rfl⟩ | ⟨h1,rfl,d⟩
 .refine ⟨-1,aM rfl ((JS _).trans ?_)⟩;simp only [Rm,ao,a,aj,fC e,bp,aT,aZ,af,bP,if_true,ai,ad,al,ae,ak,show ((1:Int) < 2) by omega,HF,if_pos h1];rfl
 .refine ⟨IntKind.wrap .i64 r,aM rfl ((JS _).trans ?_)⟩;by_cases b:r=65533
  .have:¬ gC s=1:=fun k=>d k b;have:¬ ((gC s:Int) < 2):=by omega
   simp only [Rm,ao,a,aj,fC e,bp,aT,aZ,af,bP,if_pos b,ai,ad,al,ae,ak,if_neg this,az,HF,if_neg h1]
  .simp only [Rm,ao,a,aj,fC e,bp,aT,aZ,af,bP,if_neg b,ai,ad,al,ae,az,HF,if_neg h1]
theorem UU {s:LB} (h:s≠[]):(aY vE).bare 77 [.str s]=some (.tup [.int .u8 9,.int .i64 (HF s:Int)]):=by
 refine aM rfl ((Ue _).trans ?_);obtain ⟨r,e⟩:=RE h;have a: ∀{β:Type} (st:St) (K:Kv β),aV (aY vE) 115 [.str s] st K=K (.tup [.int .i64 r,.int .i64 (HF s:Int)]) st q0:=fun st K=>aG st K rfl rfl rfl e;simp only [ZG,ao,a,bp,aT,aZ,af]
def ways (s:LB):List (Nat×Nat):=
 match s with
 | []=>[]
 | c::l=>[(1,wh bw s),(if s.take 2=[40,42] then (match rem (s.drop 2) 1 with | some n=>(2,n+2) | none=>(9,s.length)) else (0,0)),
  (if iP c then (oc (s.takeWhile eA),wh eA s) else (0,0)),(if wh aC s=0 then (5,0) else number s),(if c=34 then ((cL l).1,(cL l).2+1) else (0,0)),
  (if gG.contains (s.take 2) then (8,2) else (8,if jy c then 1 else 0)),(9,HF s)]
def LY:List FuncId:=[71,72,73,74,75,76,77]
theorem Pj {s:LB} (hs:s.length<=500000) {j:Nat} {f:FuncId} {p:Nat×Nat} (hf:LY[j]? =some f) (a:(ways s)[j]? =some p):
  (aY vE).bare f [.str s]=some (.tup [.int .u8 (p.1:Int),.int .i64 (p.2:Int)])/\vE.full f=false/\vE.prim f=none:=by
 cases s with
 | nil=>simp [ways] at a
 | cons c l=>
  match j,hf,a with
  | 0,hf,a=>cases hf;cases a;exact ⟨Ol (by omega),rfl,rfl⟩
  | 1,hf,a=>
   cases hf;cases a;refine ⟨(KW (by omega)).trans ?_,rfl,rfl⟩;split
   .cases rem (List.drop 2 (c::l)) 1 <;> rfl
   .rfl
  | 2,hf,a=>
   cases hf;cases a;refine ⟨(QU (by omega)).trans ?_,rfl,rfl⟩;split <;> rfl
  | 3,hf,a=>
   cases hf;cases a;refine ⟨(L9 hs).trans ?_,rfl,rfl⟩;split <;> rfl
  | 4,hf,a=>
   cases hf;cases a;refine ⟨(RM (by omega)).trans ?_,rfl,rfl⟩;split <;> rfl
  | 5,hf,a=>
   cases hf;cases a;refine ⟨QC.trans ?_,rfl,rfl⟩;split
   .rfl
   .cases jy c <;> rfl
  | 6,hf,a=>cases hf;cases a;exact ⟨UU (by simp),rfl,rfl⟩
  | j+7,hf,a=>simp [LY] at hf
def first:List (Nat×Nat)->Nat×Nat
 | []=>(9,0)
 | p::l=>if 0 < p.2 then p else first l
theorem Rl {c:UInt8} (h:iP c=true):eA c=true:=by unfold eA;rw [h];rfl
theorem KA {s:LB} (h:s≠[]):first (ways s)=cut s:=by
 cases s with
 | nil=>exact absurd rfl h
 | cons c l=>
  unfold cut;simp only [ways,first];cases a:bw c with
  | true=>
   have:0 < wh bw (c::l):=by rw [dr,if_pos a];omega
   simp only [if_pos this,if_true]
  | false=>
   have:¬ 0 < wh bw (c::l):=by rw [dr,a];simp
   simp only [if_neg this,aaB,if_false];by_cases b:(c::l).take 2=[40,42]
   .simp only [if_pos b];cases rem (List.drop 2 (c::l)) 1 with
    | some n=>simp
    | none=>simp
   .simp only [if_neg b,show ¬ (0:Nat) < 0 by omega,if_false];cases hl:iP c with
    | true=>
     have:0 < wh eA (c::l):=by rw [dr,if_pos (Rl hl)];omega
     simp only [if_pos this,if_true]
    | false=>
     simp only [aaB,if_false,show ¬ (0:Nat) < 0 by omega];cases hd:aC c with
     | true=>
      have h1:0 < wh aC (c::l):=by rw [dr,if_pos hd];omega
      have i:=(we (c::l) h1).1;have f:¬ wh aC (c::l)=0:=by omega
      simp only [if_neg f,show 0 < (number (c::l)).2 by omega,if_true]
     | false=>
      have h1:wh aC (c::l)=0:=by rw [dr,hd];simp
      simp only [if_pos h1,show ¬ (0:Nat) < 0 by omega,if_false,aaB];by_cases d:c=34
      .simp only [if_pos d,show 0 < (cL l).2+1 by omega,if_true]
      .simp only [if_neg d,show ¬ (0:Nat) < 0 by omega,if_false];by_cases e:gG.contains ((c::l).take 2)=true
       .simp only [if_pos e,show (0:Nat) < 2 by omega,if_true]
       .simp only [if_neg e];cases ho:jy c with
        | true=>simp
        | false=>
         have g:0 < HF (c::l):=by unfold HF;split <;> omega
         simp only [aaB,if_false,show ¬ (0:Nat) < 0 by omega,g,if_true];rfl
theorem FL {β:Type} {f g:FuncId} (a:vE.prim f=none) (args:LA) (st:St) (K:Kv β):jx (aY vE) (Sx.prim (sx vE g)) (.fn (.func f) [] []) args st K=aV (aY vE) f args st K:=by
 have a:Sx.prim (sx vE g) f=none:=a;simp only [jx,J6,a,aaj,aaw];rfl
def tok (p:Nat×LB):AV:= .agg [.int .u8 (p.1:Int),.str p.2]
def Wq:AV:=AV.sl 1 [AV.fn (Fn.func 71) [] [],AV.fn (Fn.func 72) [] [],AV.fn (Fn.func 73) [] [],AV.fn (Fn.func 74) [] [],AV.fn (Fn.func 75) [] [],AV.fn (Fn.func 76) [] [],AV.fn (Fn.func 77) [] []] Perm.shut
theorem PO {β:Type} {j:Nat} {f:FuncId} (hf:LY[j]? =some f) (st:St) (K:AV->Ln->Oq β):dB 1 Wq (j:Int) st K=K (.ip [.fn (.func f) [] []]) []:=by
 match j,hf with
 | 0,hf=>cases hf;rfl
 | 1,hf=>cases hf;rfl
 | 2,hf=>cases hf;rfl
 | 3,hf=>cases hf;rfl
 | 4,hf=>cases hf;rfl
 | 5,hf=>cases hf;rfl
 | 6,hf=>cases hf;rfl
 | j+7,hf=>simp [LY] at hf
theorem Hg {s:LB} (hs:s.length<=500000) {st:St} {v:AV} {es:LA} (ho:jg st 2 24 v es) (o:es.length<=500000): ∀(l:List (Nat×Nat)) (j:Nat),(ways s).drop j=l->l.length+j=7->0 < (first l).2->(first l).2<=s.length->
  ∃v' st',aH AW ([v,.str s,.int .i64 (j:Int)],st)=some (0,[v',.str (s.drop (first l).2)],st')/\jg st' 2 24 v' (es++[tok ((first l).1,s.take (first l).2)])
 | [],j,hd,i,h0,_=>by simp [first] at h0
 | p::l,j,hd,i,h0,d=>by
  obtain ⟨r,t,u⟩:=drop_cons (α:=Nat×Nat) hd;have k:j < 7:=by simp at i;omega
  obtain ⟨f,hf⟩: ∃f,LY[j]? =some f:=⟨LY[j],aax k⟩;obtain ⟨w,e,a⟩:=Pj hs hf r;have m: ∀{β:Type} (st:St) (K:Kv β),aV (aY vE) f [.str s] st K=K (.tup [.int .u8 (p.1:Int),.int .i64 (p.2:Int)]) st q0:=fun st K=>aG st K e rfl rfl w;have c:=fun {β:Type} (st:St) (K:AV->Ln->Oq β)=>PO hf st K;unfold Wq at c;have q:(j:Int) < 7:=by omega
  by_cases n:0 < p.2
  .have g:(p.2:Int) > 0:=by omega
   have h:first (p::l)=p:=by simp only [first,if_pos n]
   rw [h] at d ⊢;obtain ⟨v',st',o',y,x',a'⟩:=Jc (b:=24) (tok (p.1,s.take p.2)) ho (rD (by omega) (by omega) (by omega));refine ⟨v',st',aF ?_,o'⟩;have a': ∀{β:Type} (K:Kv β),cq 2 24 24 v [.agg [.int .u8 (p.1:Int),.str (s.take p.2)]] st K=K v' st' x':=fun K=>a' K;simp only [AW,ad,ao,af,ae,ak,if_pos q,c,bK,aL,ai,FL a,m,bp,aT,aZ,if_pos g,ca d,aar,az,a',aaH]
  .have g:¬ (p.2:Int) > 0:=by omega
   have h:first (p::l)=first l:=by simp only [first,if_neg n]
   rw [h] at h0 d ⊢;obtain ⟨v',st',x,o'⟩:=Hg hs ho o l (j+1) t (by simp at i;omega) h0 d;refine ⟨v',st', ?_,o'⟩;rw [aJ (s':=([v,.str s,.int .i64 ((j+1:Nat):Int)],st)),x];simp only [AW,ad,ao,af,ae,ak,if_pos q,c,bK,aL,ai,FL a,m,bp,aT,aZ,if_neg g,az,br (show j+1<=9223372036854775807 by omega)]
theorem C1: ∀(n:Nat) (s:LB) (st:St) (v:AV) (es:LA),s.length<=n->n<=500000->jg st 2 24 v es->es.length+n<=500000->
  ∃v' st',aH DJ ([v,.str s],st)=some (0,[v'],st')/\jg st' 2 24 v' (es++(tokens s).map tok)
 | n,[],st,v,es,_,_,ho,_=>by
  refine ⟨v,st,aF ?_,by simpa [zr] using ho⟩;simp only [DJ,ad,ao,ae,show (!(([]:LB)==[]))=false from rfl,aj]
 | 0,c::l,_,_,_,h,_,_,_=>by simp at h
 | n+1,c::l,st,v,es,h,hn,ho,i=>by
  have j:=jF (s:=c::l) (by simp);have a:=KA (s:=c::l) (by simp);obtain ⟨v1,st1,b,d⟩:=Hg (s:=c::l) (by omega) ho (by omega) (ways (c::l)) 0 rfl rfl (by rw [a];omega) (by rw [a];omega);rw [a] at b d;have hd:((c::l).drop (cut (c::l)).2).length<=n:=by rw [aas];omega
  obtain ⟨f,st2,g,e⟩:=C1 n ((c::l).drop (cut (c::l)).2) st1 v1 _ hd (by omega) d (by rw [aaa];simp;omega);refine ⟨f,st2, ?_, ?_⟩
  .have b:aH AW ([v,.str (c::l),.int .i64 0],st)= _:=b;rw [aJ (s':=([v1,.str ((c::l).drop (cut (c::l)).2)],st1)),g];simp only [DJ,ad,ao,ae,show (!((c::l:LB)==[]))=true from rfl,aq,b,ai]
  .rw [qT (by simp),aal];rw [aao] at e;exact e
theorem NZ {s:LB} (hs:s.length<=1000000):(aY vE).bare 70 [.str s]=some (.bool (bH s)):=by
 refine aM rfl ((Tl _).trans ?_);simp only [ZN,ao,fC (xn (show s.length<=9223372036854775807 by omega)),al]
theorem yS {β:Type} {s:LB} (hs:s.length<=1000000) (st:St) (K:Kv β):aV (aY vE) 70 [.str s] st K=K (.bool (bH s)) st q0:=aG st K rfl rfl rfl (NZ hs)
theorem Ew {s:LB} (h:65536 < s.length):(aY vE).bare 44 [.str s]=some (.tup [.aD,.int .i64 40]):=by
 refine aM rfl ((IU _).trans ?_);have q:(s.length:Int) > 65536:=by omega
 simp only [XQ,ao,ak,if_pos q]
theorem FC {s:LB} (h:s.length<=65536) (a:bH s=false):(aY vE).bare 44 [.str s]=some (.tup [.aD,.int .i64 4]):=by
 refine aM rfl ((IU _).trans ?_);have q:¬ (s.length:Int) > 65536:=by omega
 simp only [XQ,ao,ak,if_neg q,yS (show s.length<=1000000 by omega),a,al,aaR,aq]
theorem L7 {s:LB} (h:s.length<=65536) (a:bH s=true): ∃x,(aY vE).bare 44 [.str s]=some (.tup [x,.int .i64 0])/\bF 2 x ((tokens s).map tok):=by
 have q:¬ (s.length:Int) > 65536:=by omega
 obtain ⟨v',st',e,o⟩:=C1 s.length s (St.mk 0 0 Tr.leaf) .aD [] (aah _) (by omega) (jg.aD (aah _) _ _) (by simp;omega);rw [aaj] at o;obtain ⟨x,hx,hf⟩:=Hd o (ku .i64 0) rfl;refine ⟨x,aM rfl ((IU _).trans ?_),hx⟩;simp only [XQ,ao,ak,if_neg q,yS (show s.length<=1000000 by omega),a,al,aaS,aj,e,ai,ad,ae,hf]
theorem mw {x:AV} {es:List (Nat×LB)} (h:bF 2 x (es.map tok)) {j:Nat} {p:Nat×LB} (a:es[j]? =some p) {β:Type} (st:St) (K:AV->Ln->Oq β):dB 2 x (j:Int) st K=K (.ip [.int .u8 (p.1:Int),.str p.2]) []:=
 h.idx (by rw [abc,a];rfl) st K
structure Hi (PT:Td) (st:St) (p:Nat) (L:List Parse.aW) (x:AV) (i d:Nat):Prop where
 get:st.get p= .ok (.cells PT [x,.int .i64 (i:Int),.int .i64 (d:Int)])
 sl:bF 2 x (L.map tok)
 le:i<=L.length
 len:L.length<=1000000
 ro:st.ro<=p
section
variable {PT:Td} {st st':St} {p:Nat} {L:List Parse.aW} {x:AV} {i d:Nat}
theorem Hi.lt (h:Hi PT st p L x i d):p < st.h:=(St.cZ.1 h.get).1
theorem Hi.keeps {but:Nat->Prop} (h:Hi PT st p L x i d) (k:ba st st' but) (a:¬ but p):Hi PT st' p L x i d:=
 ⟨k.old _ _ a h.get,h.sl,h.le,h.len,by rw [k.ro];exact h.ro⟩
theorem Hi.xU (h:Hi PT st p L x i d):st.ro<=st.h:=aaL h.ro (Nat.le_of_lt h.lt)
end
abbrev PS:=Hi 85
theorem PS.jK {st st':St} {but:Nat->Prop} (k:ba st st' but) (h:st.ro<=st.h):st'.ro<=st'.h:=by rw [k.ro];exact aaL h k.h
theorem PH (t:Parse.aW):(aY vE).bare 116 [.agg [.int .u8 (t.1:Int),.str t.2]]=some (.bool (Parse.bl t)):=by
 refine aM rfl ((Qi _).trans ?_);unfold Parse.bl;by_cases h1:t.1=1
 .have a:(t.1:Int)=1:=by omega
  have e:(t.1==1||t.1==2)=true:=by simp [h1]
  rw [e];simp only [SH,aw,ad,af,ao,ae,bP,if_pos a,ai,al]
 .have a:¬ (t.1:Int)=1:=by omega
  have b:((t.1:Int)==2)=(t.1==2):=by
   by_cases h:t.1=2
   .rw [h];rfl
   .rw [aai.2 h,aai.2 (show ¬ (t.1:Int)=2 by omega)]
  simp only [SH,aw,ad,af,ao,ae,bP,if_neg a,ai,al,b,aai.2 h1,aaV]
theorem Ch (t:Parse.aW) {β:Type} (st:St) (K:Kv β):aV (aY vE) 116 [.agg [.int .u8 (t.1:Int),.str t.2]] st K=K (.bool (Parse.bl t)) st q0:=aG st K rfl rfl rfl (PH t)
def wT (r:List Parse.aW):Nat:=(r.takeWhile Parse.bl).length
theorem yg (t:Parse.aW) (r:List Parse.aW):wT (t::r)=if Parse.bl t=true then wT r+1 else 0:=by
 unfold wT;rw [aaU];split <;> rfl
theorem J7 (t:Parse.aW) (r:List Parse.aW):Parse.nx (t::r)=if Parse.bl t=true then Parse.nx r else t:=by
 unfold Parse.nx;rw [abL];cases Parse.bl t <;> rfl
theorem Da {p d:Nat} {L:List Parse.aW} {x:AV} {st0:St} {m:Nat}: ∀(l:List Parse.aW) (j:Nat) (st:St),L.drop j=l->PS st p L x m d->st.get st0.h= .ok (.cells 24 [.int .u8 0,.str []])->st0.h≠p->st.ro<=st0.h->
  ∃st' n,aH (A8 (.mp p 0) st0) ([.int .i64 0,.int .i64 (j:Int)],st)=some (n,[.int .i64 (if l.dropWhile Parse.bl=[] then 0 else ((j+wT l:Nat):Int))],st')/\
   (n=if l.dropWhile Parse.bl=[] then 0 else 1)/\ba st st' (· =st0.h)/\st'.h=st.h/\(l.dropWhile Parse.bl=[]->st'=st)/\(l.dropWhile Parse.bl≠[]->st'.get st0.h= .ok (.cells 24 [.int .u8 ((Parse.nx l).1:Int),.str (Parse.nx l).2]))
 | [],j,st,hd,a,i,f,c=>by
  have:=aaQ.1 hd;have q:¬ (j:Int) < ((L.map tok).length:Int):=by rw [aay];omega
  refine ⟨st,0,aF ?_,rfl,ba.refl _ _,rfl,fun _=>rfl,fun h=>absurd rfl h⟩;simp only [A8,ad,af,ae,dU,aQ,bE,abq,aau,bh a.get,aar,aL,ai,a.sl.len,ak,if_neg q];rfl
 | t::l,j,st,hd,a,i,f,c=>by
  obtain ⟨g,o,r⟩:=drop_cons hd;have q:(j:Int) < ((L.map tok).length:Int):=by rw [aay];omega
  have hlen:=a.len;cases b:Parse.bl t with
  | true=>
   obtain ⟨st',n,k,s,u,v,w,y⟩:=Da l (j+1) st o a i f c;have e:(t::l).dropWhile Parse.bl=l.dropWhile Parse.bl:=by rw [abL,b];rfl
   rw [e,yg,b,if_pos rfl,J7,b,if_pos rfl,show j+(wT l+1)=j+1+wT l by omega];refine ⟨st',n, ?_,s,u,v,w,y⟩;rw [aJ (s':=([.int .i64 0,.int .i64 ((j+1:Nat):Int)],st)),k];simp only [A8,ad,af,ae,dU,aQ,bE,abq,aau,bh a.get,aar,aL,ai,a.sl.len,ak,if_pos q,mw a.sl g,bK,po,aw,ao,Ch,b,al,aaS,aj,az,br (show j+1<=9223372036854775807 by omega)]
  | false=>
   have e:(t::l).dropWhile Parse.bl=t::l:=by rw [abL,b];rfl
   obtain ⟨st1,A,k1,B,C,k⟩:=Jg (O:=aY vE) (.agg [.int .u8 (t.1:Int),.str t.2]) i (z:=2) (cs:=[.int .u8 (t.1:Int),.str t.2]) rfl rfl c;rw [e,yg,b,if_neg (by simp),if_neg (by simp),J7,b,if_neg (by simp)];refine ⟨st1,1,aF ?_,rfl,k1,B,fun h=>by simp at h,fun _=>A⟩;simp only [A8,ad,af,ae,dU,aQ,bE,abq,aau,bh a.get,aar,aL,ai,a.sl.len,ak,if_pos q,mw a.sl g,bK,po,aw,ao,Ch,b,al,aaR,aq,k]
theorem HU: ∀{l:List Parse.aW},l.dropWhile Parse.bl=[]->wT l=l.length
 | [],_=>rfl
 | t::l,h=>by
  rw [abL] at h;rw [yg];cases a:Parse.bl t with
  | true=>rw [a,if_pos rfl] at h;rw [if_pos rfl,HU h];rfl
  | false=>rw [a,if_neg (by simp)] at h;cases h
theorem Hs {l:List Parse.aW} (h:l.dropWhile Parse.bl=[]):Parse.nx l=(0,[]):=by unfold Parse.nx;rw [h]
theorem Pg {st:St} {p:Nat} {L:List Parse.aW} {x:AV} {i d:Nat} (h:PS st p L x i d):
  ∃st',(aY vE).wide 78 [.mp p 0] st=some (.tup [.agg [.int .u8 ((Parse.nx (L.drop i)).1:Int),.str (Parse.nx (L.drop i)).2],.int .i64 ((i+wT (L.drop i):Nat):Int)],st')/\ba st st' (fun _=>False):=by
 have e:ba st (st.add (.cells 24 [.int .u8 0,.str []])) (fun _=>False):=ba.add _ _ _;have h0:=h.keeps e (fun f=>f);have g:(st.add (.cells 24 [.int .u8 0,.str []])).get st.h= .ok (.cells 24 [.int .u8 0,.str []]):=St.dY;have a:st.h≠p:=Nat.ne_of_gt h.lt;obtain ⟨st1,n,b,c,j,v,k,l⟩:=Da (st0:=st) (L.drop i) i _ rfl h0 g a h.xU;by_cases hd:(L.drop i).dropWhile Parse.bl=[]
 .have:=k hd;subst this;rw [if_pos hd] at b c;subst c;obtain ⟨st2,o,m,q,w,r⟩:=zc (O:=aY vE) (.agg [.int .u8 0,.str []]) g (z:=2) (cs:=[.int .u8 0,.str []]) rfl rfl h.xU;have s:((i+wT (L.drop i):Nat):Int)=((L.map tok).length:Int):=by
   have t:=h.le;rw [HU hd,aas,aay];omega
  refine ⟨st2,fW ((O5 _ _).trans ?_),e.fresh q (aah _)⟩;rw [s,Hs hd];have u:=NS (o:=o) a.symm;simp only [X6,bQ,dU,aQ,bE,aau,bh h0.get,oz,aar,aL,ai,af,b,ad,ae,eX,h0.sl.len,r,Lz,u,aaW,bh m,po,aw,ao];rfl
 .rw [if_neg hd] at b c;subst c;refine ⟨st1,fW ((O5 _ _).trans ?_),e.fresh j (aah _)⟩;simp only [X6,bQ,dU,aQ,bE,aau,bh h0.get,oz,aar,aL,ai,af,b,ad,ae,iq,bh (l hd),po,aw,ao]
theorem oI {st:St} {p:Nat} {L:List Parse.aW} {x:AV} {i d:Nat} (h:PS st p L x i d):
  ∃st',ba st st' (fun _=>False)/\ ∀{β:Type} (K:Kv β),aV (aY vE) 78 [.mp p 0] st K=K (.tup [.agg [.int .u8 ((Parse.nx (L.drop i)).1:Int),.str (Parse.nx (L.drop i)).2],.int .i64 ((i+wT (L.drop i):Nat):Int)]) st' ⟨[],.all st st'⟩:=by
 obtain ⟨st',e,k⟩:=Pg h;exact ⟨st',k,fun K=>fh (E:=vE) K rfl rfl e⟩
def Lb (s:LB):List LB->Nat->Oq Nat
 | [],_=>none
 | t::l,j=>if s=t then some j else Lb s l (j+1)
theorem Fs (s:LB): ∀(l:List LB) (j:Nat),(Lb s l j).isSome=l.any fun t=>t==s
 | [],_=>rfl
 | t::l,j=>by
  simp only [Lb,abr];by_cases h:s=t
  .rw [if_pos h,h];simp
  .rw [if_neg h,Fs s l (j+1),aai.2 (fun e=>h e.symm),aaV]
theorem Ef {x:AV} {a:List LB} (h:bF 1 x (a.map AV.str)) {j:Nat} {s:LB} (b:a[j]? =some s) {β:Type} (st:St) (K:AV->Ln->Oq β):dB 1 x (j:Int) st K=K (.ip [.str s]) []:=
 h.idx (v:= .str s) (by rw [abc,b];rfl) st K
theorem zl {x:AV} {a:List LB} (hx:bF 1 x (a.map AV.str)) (s:LB) (st:St): ∀(l:List LB) (j:Nat),a.drop j=l->
  aH (rB x s a.length) ([.int .i64 0,.int .i64 (j:Int)],st)=(match Lb s l j with | some k=>some (1,[.int .i64 (k:Int)],st) | none=>some (0,[.int .i64 0],st))
 | [],j,hd=>by
  have:=aaQ.1 hd;have q:¬ (j:Int) < (a.length:Int):=by omega
  refine aF ?_;simp only [rB,ad,af,ae,ak,if_neg q]
 | t::l,j,hd=>by
  obtain ⟨c,d,e⟩:=drop_cons hd;have q:(j:Int) < (a.length:Int):=by omega
  have hlen:=hx.1;rw [aay] at hlen;simp only [Lb];by_cases h:s=t
  .rw [if_pos h];refine aF ?_;have b:(s==t)=true:=by simp [h]
   simp only [rB,ad,af,ae,ak,if_pos q,Ef hx c,bK,aL,ai,ao,b,aq]
  .rw [if_neg h,aJ (s':=([.int .i64 0,.int .i64 ((j+1:Nat):Int)],st)),zl hx s st l (j+1) d];have b:(s==t)=false:=aai.2 h;simp only [rB,ad,af,ae,ak,if_pos q,Ef hx c,bK,aL,ai,ao,b,aj,az,br (show j+1<=9223372036854775807 by omega)]
theorem Fw {x:AV} {a:List LB} (hx:bF 1 x (a.map AV.str)) (s:LB):(aY vE).bare 117 [x,.str s]=some (.bool (a.any fun t=>t==s)):=by
 have hi: ∃n:Int,(aY vE).bare 143 [x,.str s]=some (.int .i64 n)/\decide (n>=0)=a.any fun t=>t==s:=by
  have e:=zl hx s (St.mk 0 0 Tr.leaf) a 0 rfl;have e:aH (rB x s a.length) ([.int .i64 0,.int .i64 0],St.mk 0 0 Tr.leaf)= _:=e;have hl:=fun {β:Type} (K:Nat->Oq β)=>hx.len K;simp only [aay] at hl;rw [<- Fs s a 0];cases b:Lb s a 0 with
  | some k=>
   rw [b] at e;refine ⟨(k:Int),aM rfl ((Kc _ _).trans ?_),by simp⟩;simp only [T1,ao,hl,e,ai,ad,af,ae,iq]
  | none=>
   rw [b] at e;refine ⟨-1,aM rfl ((Kc _ _).trans ?_),by simp⟩;simp only [T1,ao,hl,e,ai,ad,af,ae,eX]
 obtain ⟨n,h1,d⟩:=hi;refine aM rfl ((Pl _ _).trans ?_);have c:=fun {β:Type} (st:St) (K:Kv β)=>aG (f:=143) st K rfl (by simp only [aal,aaN,hx.strip];rfl) (by simp only [bf,hx.bare];rfl) h1;simp only [V6,ao,c,af,d]
theorem nU {x:AV} {a:List LB} (hx:bF 1 x (a.map AV.str)) (s:LB) {β:Type} (st:St) (K:Kv β):aV (aY vE) 117 [x,.str s] st K=K (.bool (a.any fun t=>t==s)) st q0:=
 aG (f:=117) st K rfl (by simp only [aal,aaN,hx.strip];rfl) (by simp only [bf,hx.bare];rfl) (Fw hx s)
theorem XO (st:St) (k:Nat) (t:LB) (h:st.ro<=st.h): ∃st',st'.get st.h= .ok (.cells 24 [.int .u8 (k:Int),.str t])/\ba st st' (fun _=>False)/\ ∃a,∀{β:Type} (K:Kv β),bm (aY vE) 2 (AV.mp st.h 0) (.agg [.int .u8 (k:Int),.str t]) [.int .u8 (k:Int),.str t] (st.add (.cells 24 [.int .u8 0,.str []])) K=K VM.undef st' a:=by
 obtain ⟨st',g,k1,_,a,e⟩:=ry (O:=aY vE) (st:=st) (t:=24) (z:=2) (old:=[.int .u8 0,.str []]) (cs:=[.int .u8 (k:Int),.str t]) (.agg [.int .u8 (k:Int),.str t]) rfl rfl h;exact ⟨st',g,k1,a,e⟩
theorem WO {st:St} {p:Nat} {L:List Parse.aW} {x:AV} {i d:Nat} (h:PS st p L x i d) {y:AV} {b:List LB} (hy:bF 1 y (b.map AV.str)):
  ∃st',(aY vE).wide 79 [.mp p 0,y] st=some (.bool (Parse.isAny b (L.drop i)),st')/\ba st st' (fun _=>False):=by
 obtain ⟨st1,k1,f⟩:=oI h;obtain ⟨st2,g,m,n,j⟩:=XO st1 (Parse.nx (L.drop i)).1 (Parse.nx (L.drop i)).2 (PS.jK k1 h.xU);refine ⟨st2,fW ((S5 _ _ _).trans ?_),k1.trans m⟩;unfold Parse.isAny;generalize Parse.nx (L.drop i)=t at f g j;by_cases k:t.1=3
 .have a:(t.1:Int)=3:=by omega
  have e:((t.1==3||t.1==8)&&b.any fun s=>s==t.2)=b.any fun s=>s==t.2:=by simp [k]
  rw [e];simp only [XL,f,bp,aT,aZ,aw,ad,af,ao,ae,bQ,j,bh g,aar,oz,aL,ai,bP,if_pos a,nU hy,al]
 by_cases l:t.1=8
 .have a:¬ (t.1:Int)=3:=by omega
  have c:(t.1:Int)=8:=by omega
  have e:((t.1==3||t.1==8)&&b.any fun s=>s==t.2)=b.any fun s=>s==t.2:=by simp [l]
  rw [e];simp only [XL,f,bp,aT,aZ,aw,ad,af,ao,ae,bQ,j,bh g,aar,oz,aL,ai,bP,if_neg a,if_pos c,nU hy,al]
 .have a:¬ (t.1:Int)=3:=by omega
  have c:¬ (t.1:Int)=8:=by omega
  have e:((t.1==3||t.1==8)&&b.any fun s=>s==t.2)=false:=by simp [k,l]
  rw [e];simp only [XL,f,bp,aT,aZ,aw,ad,af,ao,ae,bQ,j,bh g,aar,oz,aL,ai,bP,if_neg a,if_neg c,al]
theorem D7 {st:St} {p:Nat} {L:List Parse.aW} {x:AV} {i d:Nat} (h:PS st p L x i d) {y:AV} {a:List LB} (hy:bF 1 y (a.map AV.str)):
  ∃st',ba st st' (fun _=>False)/\ ∀{β:Type} (K:Kv β),aV (aY vE) 79 [.mp p 0,y] st K=K (.bool (Parse.isAny a (L.drop i))) st' ⟨[],.all st st'⟩:=by
 obtain ⟨st',e,k⟩:=WO h hy;exact ⟨st',k,fun K=>fh (E:=vE) K rfl rfl e⟩
theorem Cb (s:LB) (r:List Parse.aW):Parse.isAny [s] r=Parse.cf s r:=by
 unfold Parse.isAny Parse.cf;congr 1;simp only [abr,List.any_nil,acj];rw [Bool.eq_iff_iff,aaM,aaM];exact eq_comm
theorem ji (l:List LB) (h:l.length<=1000):bF 1 (.sl 1 (l.map AV.str) .shut) (l.map AV.str):=bF.shut (by rw [aay];omega)
end Go.Proofs.YtkpeicabocpbkaaGreatDoor.Vm
namespace Go.Proofs.YtkpeicabocpbkaaGreatDoor.Vm
open Go Go.VM Go.Proofs Go.Lex Go.Parse
mutual
def iF:T->AV->Prop
 | .mk k tk tx l,v=> ∃x es,v= .agg [.int .u8 (k:Int),.int .u8 (tk:Int),.str tx,x]/\bF 4 x es/\bA l es
def bA:List T->LA->Prop
 | [],es=>es=[]
 | t::l,es=> ∃e r,es=e::r/\iF t e/\bA l r
end
theorem bA.nil:bA [] []:=by simp only [bA]
theorem bA.cons {t:T} {l:List T} {e:AV} {r:LA} (h:iF t e) (hs:bA l r):bA (t::l) (e::r):=by
 simp only [bA];exact ⟨e,r,rfl,h,hs⟩
theorem bA.app: ∀{l m:List T} {es fs:LA},bA l es->bA m fs->bA (l++m) (es++fs)
 | [],_,_,_,h,k=>by simp only [bA] at h;subst h;exact k
 | t::l,_,_,_,h,k=>by
  simp only [bA] at h;obtain ⟨e,r,rfl,h1,a⟩:=h;exact bA.cons h1 (bA.app a k)
theorem bA.len: ∀{l:List T} {es:LA},bA l es->es.length=l.length
 | [],_,h=>by simp only [bA] at h;subst h;rfl
 | t::l,_,h=>by
  simp only [bA] at h;obtain ⟨e,r,rfl,h1,a⟩:=h;simp [bA.len a]
def EJ (x:AV) (es:LA):Prop:=bF 4 x es\/(es.length<=9223372036854775807/\ ∃k,x= .sl 4 es (.own k))
theorem EJ.one {x:AV} {es:LA} (h:EJ x es):VM.one x=true:=by
 rcases h with h | ⟨_,k,rfl⟩
 .exact h.one
 .rfl
theorem EJ.ab {β:Type} {x:AV} {es:LA} (h:EJ x es) (K:Oq β):ab x K=K:=jS h.one K
theorem EJ.fit {x:AV} {es:LA} (h:EJ x es): ∃x',bF 4 x' es/\ ∀{β:Type} (K:AV->Oq β),aB x K=K x':=by
 rcases h with h | ⟨hl,k,rfl⟩
 .exact ⟨x,h,fun K=>h.aB K⟩
 .exact ⟨.sl 4 es .wide,bF.wide hl,fun K=>rfl⟩
theorem EJ.own {st:St} {e:Td} {x:AV} {es:LA} (h:jg st 4 e x es):EJ x es:=by
 rcases h.2.2 with ⟨rfl | rfl,rfl⟩ | rfl | ⟨k,rfl,_,_⟩
 .exact .inl bF.aD
 .exact .inl bF.emp
 .exact .inl (bF.shut h.2.1)
 .exact .inr ⟨h.2.1,k,rfl⟩
theorem EJ.elems {β:Type} {x:AV} {es:LA} (h:EJ x es) (K:LA->Oq β):nJ x K=K es:=by
 rcases h with h | ⟨_,k,rfl⟩
 .exact h.elems K
 .rfl
structure VN (t:T) (v:AV):Prop where
 ex: ∃k tk tx l x es,t= .mk k tk tx l/\v= .agg [.int .u8 (k:Int),.int .u8 (tk:Int),.str tx,x]/\EJ x es/\bA l es
structure Nd (t:T) (k tk:Nat) (tx:LB) (x:AV):Prop where
 ex: ∃l es,t= .mk k tk tx l/\EJ x es/\bA l es
theorem Nd.one {t:T} {k tk:Nat} {tx:LB} {x:AV} (h:Nd t k tk tx x):VM.one x=true:=by
 obtain ⟨l,es,_,a,_⟩:=h.ex;exact a.one
theorem Nd.ab {t:T} {k tk:Nat} {tx:LB} {x:AV} (h:Nd t k tk tx x) {β:Type} (K:Oq β):ab x K=K:=jS h.one K
theorem Nd.fit {t:T} {k tk:Nat} {tx:LB} {x:AV} (h:Nd t k tk tx x): ∃x',iF t (.agg [.int .u8 (k:Int),.int .u8 (tk:Int),.str tx,x'])/\ ∀{β:Type} (K:AV->Oq β),aB x K=K x':=by
 obtain ⟨l,es,rfl,a,hn⟩:=h.ex;obtain ⟨x',hx,hf⟩:=a.fit;exact ⟨x',by simp only [iF];exact ⟨x',es,rfl,hx,hn⟩,hf⟩
theorem VN.cells {t:T} {v:AV} (h:VN t v): ∃(k tk:Nat) (tx:LB) (x:AV),v= .agg [.int .u8 (k:Int),.int .u8 (tk:Int),.str tx,x]/\Nd t k tk tx x:=by
 obtain ⟨k,tk,tx,l,x,es,rfl,rfl,a,hn⟩:=h.ex;exact ⟨k,tk,tx,x,rfl,⟨⟨l,es,rfl,a,hn⟩⟩⟩
theorem Nd.vn {t:T} {k tk:Nat} {tx:LB} {x:AV} (h:Nd t k tk tx x):VN t (.agg [.int .u8 (k:Int),.int .u8 (tk:Int),.str tx,x]):=by
 obtain ⟨l,es,rfl,a,hn⟩:=h.ex;exact ⟨⟨k,tk,tx,l,x,es,rfl,rfl,a,hn⟩⟩
mutual
theorem iF.rf: ∀{t:T} {v:AV},iF t v->Rf (2 * fg t) v
 | .mk k tk tx l,v,h=>by
  simp only [iF] at h;obtain ⟨x,es,rfl,hx,hn⟩:=h;have he:=bA.rf hn;have hxr:Rf (2 * eZ l+1) x:=by
   rcases hx.2 with ⟨rfl | rfl,rfl⟩ | rfl | rfl
   .exact EO.mono (by omega)
   .exact NP.mono (by omega)
   .exact xp he
   .exact xp he
  simp only [fg];refine (SA (d:=2 * eZ l+1) fun c hc=> ?_).mono (by omega);simp only [aam,aaD,or_false] at hc;rcases hc with rfl | rfl | rfl | rfl
  .exact (vy _ _).mono (by omega)
  .exact (vy _ _).mono (by omega)
  .exact (HG _).mono (by omega)
  .exact hxr
theorem bA.rf: ∀{l:List T} {es:LA},bA l es-> ∀e∈es,Rf (2 * eZ l) e
 | [],_,h,e,he=>by simp only [bA] at h;subst h;cases he
 | t::l,_,h,e,he=>by
  simp only [bA] at h;obtain ⟨a,r,rfl,h1,h2⟩:=h;simp only [eZ];rcases aam.1 he with rfl | he
  .exact (iF.rf h1).mono (by omega)
  .exact (bA.rf h2 e he).mono (by omega)
end
theorem Nd.rf {t:T} {k tk:Nat} {tx:LB} {x:AV} (h:Nd t k tk tx x): ∀c∈[AV.int .u8 (k:Int),.int .u8 (tk:Int),.str tx,x],Rf (2 * fg t) c:=by
 obtain ⟨l,es,rfl,e,hn⟩:=h.ex;have a:=bA.rf hn;have b:Rf (2 * eZ l+1) x:=by
  rcases e with hx | ⟨_,k,rfl⟩
  .rcases hx.2 with ⟨rfl | rfl,rfl⟩ | rfl | rfl
   .exact EO.mono (by omega)
   .exact NP.mono (by omega)
   .exact xp a
   .exact xp a
  .exact xp a
 intro c d;simp only [fg];simp only [aam,aaD,or_false] at d;rcases d with rfl | rfl | rfl | rfl
 .exact (vy _ _).mono (by omega)
 .exact (vy _ _).mono (by omega)
 .exact (HG _).mono (by omega)
 .exact b.mono (by omega)
theorem Z8 (st:St) (k tk:Int) (tx:LB) (x:AV) (h:st.ro<=st.h): ∃st',st'.get st.h= .ok (.cells 27 [.int .u8 k,.int .u8 tk,.str tx,x])/\ba st st' (fun _=>False)/\st'.h=st.h+1/\ ∃a,∀{β:Type} (K:Kv β),bm (aY vE) 4 (AV.mp st.h 0) (.agg [.int .u8 k,.int .u8 tk,.str tx,x]) [.int .u8 k,.int .u8 tk,.str tx,x] (st.add (.cells 27 [.int .u8 0,.int .u8 0,.str [],.aD])) K=K VM.undef st' a:=by
 obtain ⟨st',g,k1,n,a,e⟩:=ry (O:=aY vE) (st:=st) (t:=27) (z:=4) (old:=[.int .u8 0,.int .u8 0,.str [],.aD]) (cs:=[.int .u8 k,.int .u8 tk,.str tx,x]) (.agg [.int .u8 k,.int .u8 tk,.str tx,x]) rfl rfl h;exact ⟨st',g,k1,n,a,e⟩
theorem XS {st:St} {id:Nat} {old:LA} (c:st.get id= .ok (.cells 27 old)) (ho:old.length=4) (k tk:Int) (tx:LB) (x:AV) (a:st.ro<=id): ∃st',st'.get id= .ok (.cells 27 [.int .u8 k,.int .u8 tk,.str tx,x])/\ba st st' (· =id)/\st'.h=st.h/\ ∃b,∀{β:Type} (K:Kv β),bm (aY vE) 4 (AV.mp id 0) (.agg [.int .u8 k,.int .u8 tk,.str tx,x]) [.int .u8 k,.int .u8 tk,.str tx,x] st K=K VM.undef st' b:=by
 obtain ⟨st',g,k1,n,b,e⟩:=Jg (O:=aY vE) (.agg [.int .u8 k,.int .u8 tk,.str tx,x]) c ho (cs:=[.int .u8 k,.int .u8 tk,.str tx,x]) rfl a;exact ⟨st',g,k1,n,b,e⟩
theorem ba.join {a b c:St} {p q:Nat->Prop} (h:ba a b p) (k:ba b c q) (g: ∀j,q j->p j\/a.h<=j):ba a c p:=
 ⟨k.ro.trans h.ro,aaL h.h k.h,fun j o d f=>k.old j o (fun e=>by
  rcases g j e with h1 | h1
  .exact d h1
  .have:=(St.cZ.1 f).1;omega) (h.old j o d f)⟩
def uE (t:aW):AV:= .agg [.int .u8 ((1:Nat):Int),.int .u8 (t.1:Int),.str t.2,.aD]
theorem Bg: ∀(l:List aW),bA (l.map bc) (l.map uE)
 | []=>bA.nil
 | t::l=>bA.cons (by
  show iF (.mk 1 t.1 t.2 []) (uE t);simp only [iF];exact ⟨.aD,[],rfl,bF.aD,bA.nil⟩) (Bg l)
theorem Dk (r:List aW):r.drop (wT r)=r.dropWhile bl:=by
 have h:(r.takeWhile bl++r.dropWhile bl).drop (r.takeWhile bl).length=r.dropWhile bl:=acq;rw [abJ] at h;exact h
theorem Sa (r:List aW):wT r<=r.length:=(List.takeWhile_sublist bl).length_le
theorem Ph (r:List aW):r.take (wT r)=r.takeWhile bl:=by
 have h:(r.takeWhile bl++r.dropWhile bl).take (r.takeWhile bl).length=r.takeWhile bl:=abP;rw [abJ] at h;exact h
def nq (L:List aW) (i:Nat):Nat:=min (i+wT (L.drop i)+1) L.length
theorem zN (L:List aW) (i:Nat):aO (L.drop i)=L.drop (nq L i):=by
 unfold aO nq;rw [<- Dk,abD,abD];rcases Nat.lt_or_ge (i+wT (L.drop i)+1) L.length with q | q
 .rw [abR (Nat.le_of_lt q)];congr 1
 .rw [aco q,List.drop_of_length_le (by omega),List.drop_of_length_le (aah _)]
theorem CU {x:AV} {Z:List aW} (hx:bF 2 x (Z.map tok)) (J:Z.length<=1000000) {st19:St} {k tk:Int} {tx:LB} {h0:Nat} (C:h0<=st19.h): ∀(l:List aW) (j:Nat) (st:St) (v:AV) (es:LA),Z.drop j=l->st.get st19.h= .ok (.cells 27 [.int .u8 k,.int .u8 tk,.str tx,v])->jg st 4 27 v es->(∀j,dQ v j->h0<=j)->es.length+l.length<=2000000->st.ro<=st19.h->h0<=st.h->
  ∃v' st',aH (AJ st19 x Z.length) ([.int .i64 (j:Int)],st)=some (0,[],st')/\st'.get st19.h= .ok (.cells 27 [.int .u8 k,.int .u8 tk,.str tx,v'])/\jg st' 4 27 v' (es++l.map uE)/\(∀j,dQ v' j->h0<=j)/\ba st st' (fun j=>h0<=j)
 | [],j,st,v,es,hd,p,ho,c,hl,e,L=>by
  have:=aaQ.1 hd;have q:¬ (j:Int) < (Z.length:Int):=by omega
  refine ⟨v,st,aF ?_,p,by simpa using ho,c,ba.refl _ _⟩;simp only [AJ,ad,af,ae,ak,if_neg q]
 | t::l,j,st,v,es,hd,p,ho,c,hl,e,L=>by
  obtain ⟨D,M,N⟩:=drop_cons hd;have q:(j:Int) < (Z.length:Int):=by omega
  have r:st.ro<=st.h:=aaL e (Nat.le_of_lt (St.cZ.1 p).1);obtain ⟨P,Q,k1,R,S⟩:=XO st t.1 t.2 r;have s:=k1.old _ _ (fun f=>f) p;have E:=qP ho k1 (fun _ _ f=>f);simp only [aab] at hl;obtain ⟨a,g,T,F,H,A,U⟩:=rZ (b:=56) (new:=[uE t]) E (by simp) (rD (by simp only [abl];omega) (by omega) (by omega));have i:¬ dQ v st19.h:=ho.not p;have m:=A.old _ _ i s;have d:g.ro<=st19.h:=by rw [A.ro,k1.ro];exact e
  have n:=fun {β:Type} (K:Kv β)=>eI (O:=aY vE) (v:=a) (cs:=[a]) (off:=3) (z:=1) m rfl (by simp) d K;have G:dj [.int .u8 k,.int .u8 tk,.str tx,v] 3 [a]=[.int .u8 k,.int .u8 tk,.str tx,a]:=rfl;rw [G] at n;have u:(g.put st19.h (.cells 27 [.int .u8 k,.int .u8 tk,.str tx,a])).get st19.h= .ok (.cells 27 [.int .u8 k,.int .u8 tk,.str tx,a]):=St.bx (St.cZ.1 m).1;have w:jg (g.put st19.h (.cells 27 [.int .u8 k,.int .u8 tk,.str tx,a])) 4 27 a (es++[uE t]):=H.put m;have B:ba g (g.put st19.h (.cells 27 [.int .u8 k,.int .u8 tk,.str tx,a])) (· =st19.h):=ba.put rfl;generalize g.put st19.h (.cells 27 [.int .u8 k,.int .u8 tk,.str tx,a])=I at n u w B;have y: ∀j,dQ a j->h0<=j:=fun j o=>by
   rcases U j o with h | h
   .exact c j h
   .have:=k1.h;omega
  obtain ⟨v',st',V,g',o',W,X⟩:=CU hx J C l (j+1) I a (es++[uE t]) M u w y (by rw [aaa];simp;omega) (by rw [B.ro];exact d) (by have:=k1.h;have:=A.h;have:=B.h;omega);refine ⟨v',st', ?_,g',by rw [aao] at o';exact o',W, ?_⟩
  .rw [aJ (s':=([.int .i64 ((j+1:Nat):Int)],I)),V];have F: ∀{β:Type} (K:Kv β),cq 4 56 27 v [.agg [.int .u8 1,.int .u8 (t.1:Int),.str t.2,.aD]] P K=K a g T:=fun K=>nI F K;have Y: ∀{β:Type} (K:Oq β),ab a K=K:=fun K=>jS H.one K;simp only [AJ,ad,af,ae,ak,if_pos q,mw hx D,bK,po,ai,aw,ao,bQ,S,bh s,WS,aL,bh Q,aar,F,Y,n,az,br (show j+1<=9223372036854775807 by omega)]
  .refine ((k1.La (q:=fun j=>h0<=j) (fun _ f=>f.elim)).trans (A.La fun j o=>c j o)).trans ((B.La fun j o=> ?_).trans X);have o:j=st19.h:=o;omega
theorem Jb {st:St} {p:Nat} {L:List aW} {x:AV} {i d:Nat} (h:PS st p L x i d):
  ∃v st',(aY vE).wide 80 [.mp p 0] st=some (v,st')/\VN (aK (L.drop i)) v/\PS st' p L x (nq L i) d/\ba st st' (· =p):=by
 have V:=h.le;have hlen:=h.len;have W:=Sa (L.drop i);rw [aas] at W;have t:ba st (st.add (.cells 27 [.int .u8 0,.int .u8 0,.str [],.aD])) (fun _=>False):=ba.add _ _ _;have M:(st.add (.cells 27 [.int .u8 0,.int .u8 0,.str [],.aD])).get st.h= .ok (.cells 27 [.int .u8 0,.int .u8 0,.str [],.aD]):=St.dY;have w:=h.xU;have X:=h.lt;have h1:=h.keeps t (fun f=>f);have Y:(st.add (.cells 27 [.int .u8 0,.int .u8 0,.str [],.aD])).h=st.h+1:=rfl;generalize y:st.add (.cells 27 [.int .u8 0,.int .u8 0,.str [],.aD])=s0 at t M h1 Y;obtain ⟨Z,k1,N⟩:=oI h1;generalize hT:nx (L.drop i)=c at N;obtain ⟨l,g2,m,av,e2⟩:=XO Z c.1 c.2 (PS.jK k1 h1.xU);obtain ⟨P,g3,u,n3,a1,e3⟩:=Z8 l 1 (c.1:Int) c.2 .aD (PS.jK m (PS.jK k1 h1.xU));have kk:=(t.trans k1).trans (m.trans u);have h3:=h.keeps kk (fun f=>f);obtain ⟨z,A,ez⟩:=h.sl.cut (lo:=some (i:Int)) (hi:=some ((i+wT (L.drop i):Nat):Int)) (jL (by omega)) (jL (by rw [aay];omega));have B:((L.map tok).take (i+wT (L.drop i))).drop i=((L.drop i).take (wT (L.drop i))).map tok:=by
  rw [<- List.map_take, <- List.map_drop,List.drop_take];congr 2;omega
 rw [B] at A;have C:((L.drop i).take (wT (L.drop i))).length<=1000000:=by rw [aat,aas];omega
 have D:s0.h<=l.h:=by have:=k1.h;have:=m.h;omega
 obtain ⟨Q,n,E,g4,R,f4,S⟩:=CU A C (st19:=l) (h0:=s0.h) D ((L.drop i).take (wT (L.drop i))) 0 P .aD [] rfl g3 (jg.aD (PS.jK u (PS.jK m (PS.jK k1 h1.xU))) _ _) (fun j g=>by obtain ⟨_,_,e⟩:=g;cases e) (by simp only [aae];omega) (by rw [kk.ro];omega) (by have:=u.h;omega);rw [aaj,Ph] at R;have E:aH (AJ l z ((L.drop i).take (wT (L.drop i))).length) ([.int .i64 0],P)= _:=E;have F: ∀{β:Type} (K:Nat->Oq β),fq z K=K ((L.drop i).take (wT (L.drop i))).length:=fun K=>by rw [A.len,aay]
 have b:ba st n (fun _=>False):=ba.join kk S fun j g=> .inr (by have:=t.h;have g:s0.h<=j:=g;omega);have h4:=h.keeps b (fun f=>f);have o:(if ((L.map tok).length:Int) < ((i+wT (L.drop i)+1:Nat):Int) then ((L.map tok).length:Int) else ((i+wT (L.drop i)+1:Nat):Int))=((nq L i:Nat):Int):=by
  unfold nq;rw [aay];split <;> omega
 have a:=fun {β:Type} (K:Kv β)=>eI (O:=aY vE) (v:= .int .i64 ((nq L i:Nat):Int)) (cs:=[.int .i64 ((nq L i:Nat):Int)]) (off:=1) (z:=1) h4.get rfl (by simp) h4.ro K;have G:dj [x,.int .i64 (i:Int),.int .i64 (d:Int)] 1 [.int .i64 ((nq L i:Nat):Int)]=[x,.int .i64 ((nq L i:Nat):Int),.int .i64 (d:Int)]:=rfl;rw [G] at a;have q:(n.put p (.cells 85 [x,.int .i64 ((nq L i:Nat):Int),.int .i64 (d:Int)])).get p= .ok (.cells 85 [x,.int .i64 ((nq L i:Nat):Int),.int .i64 (d:Int)]):=St.bx (St.cZ.1 h4.get).1;have k:ba n (n.put p (.cells 85 [x,.int .i64 ((nq L i:Nat):Int),.int .i64 (d:Int)])) (· =p):=ba.put rfl;generalize n.put p (.cells 85 [x,.int .i64 ((nq L i:Nat):Int),.int .i64 (d:Int)])=T at a q k;have H:PS T p L x (nq L i) d:=⟨q,h.sl,Nat.min_le_right _ _,hlen,by rw [k.ro,b.ro];exact h.ro⟩;have r:l.h≠p:=by omega
 have g5:=k.Dc r g4;have s:st.h≠p:=by omega
 have I:=k.Dc s (S.old _ _ (by omega) ((k1.trans (m.trans u)).old _ _ (fun f=>f) M));obtain ⟨U,J,k6,n6,a6,e6⟩:=XS I rfl 1 (c.1:Int) c.2 Q (by rw [k.ro,b.ro];exact w);have nd:Nd (aK (L.drop i)) 1 c.1 c.2 Q:=by
  refine ⟨⟨_,_, ?_,EJ.own R,Bg _⟩⟩;unfold aK leaf;rw [hT]
 have kf:ba st U (· =p):=by
  have ka:ba st T (· =p):=(b.La fun _ f=>f.elim).trans k;exact ba.join ka k6 fun j g=> .inr (by have g:j=st.h:=g;omega)
 refine ⟨_,U,fW ((SC _ _).trans ?_),nd.vn,H.keeps k6 (fun e=>s e.symm),kf⟩;have w1:=br (show i+wT (L.drop i)+1<=9223372036854775807 by omega);simp only [YY,bQ,y,N,bp,aT,aZ,aw,ad,af,ao,ae,e2,bh g2,aar,po,ai,e3,dU,aQ,bE,aau,bh h3.get,oz,aL,ez,F,E,az,w1,bh h4.get,h.sl.len,o,a,bh g5,DX,nd.ab,e6,bh J];rfl
def NC (F:FuncId) (args:LA) (st:St) (p:Nat) (L:List aW) (x:AV) (d:Nat) (t:T) (r':List aW):Prop:=
 ∃v st' a,(aY vE).wide F args st=some (v,st')/\VN t v/\PS st' p L x a d/\L.drop a=r'/\ba st st' (· =p)
theorem NC.call {F:FuncId} {args:LA} {st:St} {p:Nat} {L:List aW} {x:AV} {d:Nat} {t:T} {r':List aW} (h:NC F args st p L x d t r') (h1:vE.isLook F=false) (b:(bN (args.map strip)&& !vE.full F)=false):
  ∃(k tk:Nat) (tx:LB) (y:AV) (st':St) (a:Nat),Nd t k tk tx y/\PS st' p L x a d/\L.drop a=r'/\ba st st' (· =p)/\ ∀{β:Type} (K:Kv β),aV (aY vE) F args st K=K (.agg [.int .u8 (k:Int),.int .u8 (tk:Int),.str tx,y]) st' ⟨[],.all st st'⟩:=by
 obtain ⟨v,st',a,e,c,f,g,i⟩:=h;obtain ⟨k,tk,tx,y,rfl,hn⟩:=c.cells;exact ⟨k,tk,tx,y,st',a,hn,f,g,i,fun K=>fh (E:=vE) K h1 b e⟩
theorem QN {st:St} {p:Nat} {L:List aW} {x:AV} {i d:Nat} (h:PS st p L x i d):NC 80 [.mp p 0] st p L x d (aK (L.drop i)) (aO (L.drop i)):=by
 obtain ⟨v,st',e,a,b,c⟩:=Jb h;exact ⟨v,st',_,e,a,b,(zN L i).symm,c⟩
theorem LN {st:St} {p:Nat} {L:List aW} {x:AV} {i d:Nat} (h:PS st p L x i d):
  ∃(k tk:Nat) (tx:LB) (y:AV) (st':St) (a:Nat),Nd (aK (L.drop i)) k tk tx y/\PS st' p L x a d/\L.drop a=aO (L.drop i)/\ba st st' (· =p)/\ ∀{β:Type} (K:Kv β),aV (aY vE) 80 [.mp p 0] st K=K (.agg [.int .u8 (k:Int),.int .u8 (tk:Int),.str tx,y]) st' ⟨[],.all st st'⟩:=
 (QN h).call rfl rfl
theorem pN (s:LB) {β:Type} (st:St) (K:Kv β):aV (aY vE) 145 [.str s] st K=K (.agg [.int .u8 2,.int .u8 0,.str s,.aD]) st q0:=
 aG st K rfl rfl rfl (aM rfl ((Pu _).trans (by simp only [Wl,ao])))
theorem jf (s:LB):Nd (missing s) 2 0 s .aD:=⟨⟨[],[],rfl,.inl bF.aD,bA.nil⟩⟩
theorem RC {st:St} {p:Nat} {L:List aW} {x:AV} {i d:Nat} (h:PS st p L x i d): ∃s0,st.add (.cells 27 [.int .u8 0,.int .u8 0,.str [],.aD])=s0/\s0.get st.h= .ok (.cells 27 [.int .u8 0,.int .u8 0,.str [],.aD])/\PS s0 p L x i d/\ba st s0 (fun _=>False)/\st.h≠p/\st.ro<=st.h/\s0.h=st.h+1:=
 ⟨_,rfl,St.dY,h.keeps (ba.add _ _ (fun _=>False)) (fun f=>f),ba.add _ _ _,Nat.ne_of_gt h.lt,h.xU,rfl⟩
theorem Jh {st s:St} {p:Nat} {L:List aW} {x:AV} {i d:Nat} {old:LA} (l:s.get st.h= .ok (.cells 27 old)) (ho:old.length=4) (m:PS s p L x i d) (a:st.h≠p) (f:ba st s (· =p)) (b:st.ro<=st.h) (k tk:Int) (tx:LB) (y:AV):
  ∃s',s'.get st.h= .ok (.cells 27 [.int .u8 k,.int .u8 tk,.str tx,y])/\PS s' p L x i d/\ba st s' (· =p)/\ ∃c,∀{β:Type} (K:Kv β),bm (aY vE) 4 (AV.mp st.h 0) (.agg [.int .u8 k,.int .u8 tk,.str tx,y]) [.int .u8 k,.int .u8 tk,.str tx,y] s K=K VM.undef s' c:=by
 obtain ⟨s',g,k1,_,c,e⟩:=XS l ho k tk tx y (by rw [f.ro];exact b);exact ⟨s',g,m.keeps k1 (fun e=>a e.symm),ba.join f k1 fun j n=> .inr (Nat.le_of_eq n.symm),c,e⟩
theorem Q2 {st:St} {p:Nat} {L:List aW} {x:AV} {i d:Nat} (h:PS st p L x i d) (s:LB):NC 120 [.mp p 0,.str s] st p L x d (cP s (L.drop i)) (bo s (L.drop i)):=by
 obtain ⟨s0,c,v,h0,o,a,e,D⟩:=RC h;obtain ⟨q,k1,b⟩:=D7 h0 (ji [s] (by simp));rw [Cb] at b;have b: ∀{β:Type} (K:Kv β),aV (aY vE) 79 [.mp p 0,.sl 1 [.str s] .shut] s0 K=K (.bool (cf s (L.drop i))) q ⟨[],.all s0 q⟩:=fun K=>b K;have h1:=h0.keeps k1 (fun f=>f);have r:=k1.old _ _ (fun f=>f) v;unfold cP bo;cases t:cf s (L.drop i) with
 | true=>
  rw [t] at b;obtain ⟨k,tk,tx,y,E,w,hn,z,g,u,A⟩:=LN h1;have B:=u.Dc a r;obtain ⟨j,g3,l,m,C,n⟩:=Jh B rfl z a (((o.trans k1).La fun _ f=>f.elim).trans u) e (k:Int) (tk:Int) tx y;refine ⟨_,j,w,fW ((JG _ _ _).trans ?_),hn.vn,l,g,m⟩;simp only [Tp,ao,bQ,c,b,al,aq,A,aw,ad,af,ae,hn.ab,n,bh g3,aar,DX,ai]
 | false=>
  rw [t] at b;obtain ⟨j,g3,l,m,C,n⟩:=Jh r rfl h1 a ((o.trans k1).La fun _ f=>f.elim) e 2 0 s .aD;refine ⟨_,j,i,fW ((JG _ _ _).trans ?_),(jf s).vn,l,rfl,m⟩;simp only [Tp,ao,bQ,c,b,al,aj,pN,aw,ad,af,ae,Im,n,bh g3,aar,DX,ai];rfl
def sP (pat:Bool):Nat:=if pat then 5 else 6
def sF (pat:Bool):LB:=if pat then nS else dn
theorem cU (a b:Nat):((a:Int)==(b:Int))=(a==b):=by
 by_cases h:a=b
 .rw [h];simp
 .rw [aai.2 h,aai.2 (show ¬ (a:Int)=(b:Int) by omega)]
theorem KM {st:St} {p:Nat} {L:List aW} {x:AV} {i d:Nat} (h:PS st p L x i d) (pat:Bool):
  ∃st',(aY vE).wide 118 [.mp p 0,.int .u8 (sP pat:Int),.str (sF pat)] st=some (.bool (cJ pat (L.drop i)),st')/\ba st st' (fun _=>False):=by
 obtain ⟨y,k1,g⟩:=oI h;have z:nx (L.drop i)=nx (L.drop i):=rfl;generalize hT:nx (L.drop i)=t at g z;obtain ⟨j,o,k,A,q⟩:=XO y t.1 t.2 (PS.jK k1 h.xU);have B:=h.keeps (k1.trans k) (fun f=>f);obtain ⟨l,C,m⟩:=D7 B (ji [gM,eD,dn,cO,sF pat] (by simp));have m: ∀{β:Type} (K:Kv β),aV (aY vE) 79 [.mp p 0,.sl 1 [.str [116,114,117,101],.str [102,97,108,115,101],.str [40],.str [91],.str (sF pat)] .shut] j K=K (.bool (isAny [gM,eD,dn,cO,sF pat] (L.drop i))) l ⟨[],.all j l⟩:=fun K=>m K;have r:((t.1:Int)==4)=(t.1==4):=cU t.1 4;have s:((t.1:Int)==5)=(t.1==5):=cU t.1 5;have u:((t.1:Int)==7)=(t.1==7):=cU t.1 7;have v:((t.1:Int)==9)=(t.1==9):=cU t.1 9;have w:=cU t.1 (sP pat);have D:cJ pat (L.drop i)=(t.1==4||t.1==5||t.1==7||t.1==9||t.1==sP pat||isAny [gM,eD,dn,cO,sF pat] (L.drop i)):=by
  unfold cJ;rw [hT];rfl
 rw [D];by_cases a:(t.1==4||t.1==5||t.1==7||t.1==9||t.1==sP pat)=true
 .refine ⟨j,fW ((Kj _ _ _ _).trans ?_),k1.trans k⟩;rw [a,abI];simp only [S6,af,ao,g,bp,aT,aZ,aw,ad,ae,bQ,q,bh o,aar,aL,ai,r,s,u,v,w];cases h4:t.1==4 <;> simp only [h4,aq,aj,ai,ad,al,ae]
  cases b:t.1==5 <;> simp only [b,aq,aj,ai,ad,al,ae]
  cases c:t.1==7 <;> simp only [c,aq,aj,ai,ad,al,ae]
  cases e:t.1==9 <;> simp only [e,aq,aj,ai,ad,al,ae]
  simp only [h4,b,c,e,aaV] at a;simp only [a,aq]
 .have a:(t.1==4||t.1==5||t.1==7||t.1==9||t.1==sP pat)=false:=by simpa using a
  refine ⟨l,fW ((Kj _ _ _ _).trans ?_),(k1.trans k).trans C⟩;rw [a,aaV];simp only [aaO] at a;obtain ⟨⟨⟨⟨h4,b⟩,c⟩,e⟩,n⟩:=a;simp only [S6,af,ao,g,bp,aT,aZ,aw,ad,ae,bQ,q,bh o,aar,aL,ai,r,s,u,v,w,h4,b,c,e,n,aj,al,m]
theorem Fm {st:St} {p:Nat} {L:List aW} {x:AV} {i d:Nat} (h:PS st p L x i d) (pat:Bool):
  ∃st',ba st st' (fun _=>False)/\ ∀{β:Type} (K:Kv β),aV (aY vE) 118 [.mp p 0,.int .u8 (sP pat:Int),.str (sF pat)] st K=K (.bool (cJ pat (L.drop i))) st' ⟨[],.all st st'⟩:=by
 obtain ⟨st',e,k⟩:=KM h pat
 exact ⟨st',k,fun K=>fh (E:=vE) K rfl rfl e⟩
abbrev ND:Td:=27
def xM {β:Type} (v:AV) (K:Int->Int->LB->AV->Oq β):Oq β:=Bu v fun l=>bg l fun v1 l=>bj .u8 v1 fun a=>bg l fun c l=>bj .u8 c fun b=>bg l fun d l=>dN d fun s=>bg l fun e l=>bB l (K a b s e)
theorem kY {β:Type} (a b:Int) (s:LB) (y:AV) (K:Int->Int->LB->AV->Oq β):xM (.agg [.int .u8 a,.int .u8 b,.str s,y]) K=K a b s y:=by
 simp only [xM,aw,ad,af,ao,ae]
def Pz (PT:Td) (st:St) (p:Nat) (L:List aW) (x:AV) (d:Nat) (r:List aW):Prop:= ∃i,Hi PT st p L x i d/\L.drop i=r
theorem Pz.keeps {PT:Td} {st st':St} {p:Nat} {L:List aW} {x:AV} {d:Nat} {r:List aW} {but:Nat->Prop} (h:Pz PT st p L x d r) (k:ba st st' but) (a:¬ but p):Pz PT st' p L x d r:=by
 obtain ⟨i,h,e⟩:=h;exact ⟨i,h.keeps k a,e⟩
abbrev Vr:=Nat×Td×LA
structure Wd (PT:Td) (st0 st:St) (p:Nat) (L:List aW) (x:AV) (d:Nat) (r:List aW) (l:List Vr) (os:List (AV×LA)):Prop where
 pz:Pz PT st p L x d r
 k:ba st0 st (· =p)
 v: ∀q∈l,st.get q.1= .ok (.cells q.2.1 q.2.2)/\st0.h<=q.1
 nd:(l.map (·.1)).Nodup
 o: ∀q∈os,jg st 4 ND q.1 q.2/\ ∀j,dQ q.1 j->st0.h<=j
 od:os.Pairwise fun a b=> ∀j,dQ a.1 j->¬ dQ b.1 j
 p0:p < st0.h
 ro0:st0.ro<=st0.h
section
variable {PT:Td} {st0 st st':St} {p:Nat} {L:List aW} {x:AV} {d d':Nat} {r r':List aW} {l l1 l2:List Vr} {os:List (AV×LA)}
theorem Wd.start {i:Nat} (h:Hi PT st p L x i d):Wd PT st st p L x d (L.drop i) [] []:=
 ⟨⟨i,h,rfl⟩,ba.refl _ _,(fun _ h=>by cases h),List.nodup_nil,(fun _ h=>by cases h),List.Pairwise.nil,h.lt,h.xU⟩
theorem Wd.begin (h:Pz PT st p L x d r):Wd PT st st p L x d r [] []:=by
 obtain ⟨i,h,rfl⟩:=h;exact Wd.start h
theorem Wd.ro (w:Wd PT st0 st p L x d r l os):st.ro<=st.h:=PS.jK w.k w.ro0
theorem Wd.h (w:Wd PT st0 st p L x d r l os):st0.h<=st.h:=w.k.h
theorem Wd.get (w:Wd PT st0 st p L x d r l os) {a:Nat} {t:Td} {cs:LA} (h:(a,t,cs)∈l):st.get a= .ok (.cells t cs):=(w.v _ h).1
theorem Wd.ne (w:Wd PT st0 st p L x d r l os) {a:Nat} {t:Td} {cs:LA} (h:(a,t,cs)∈l):a≠p:=by
 have:=(w.v _ h).2;have:=w.p0;simp only at *;omega
theorem Wd.YT (w:Wd PT st0 st p L x d r l os) {a:Nat} {t:Td} {cs:LA} (h:(a,t,cs)∈l):st.ro<=a:=by
 have h1:=(w.v _ h).2;have b:=w.ro0;rw [w.k.ro];exact aaL b h1
theorem I7 {v:AV} {es:LA} {j:Nat} {z:Nat} {t:Td} (h:jg st z t v es) (b:dQ v j):j < st.h/\ ∃n e,st.get j= .ok (.tok n e):=by
 obtain ⟨d,c,rfl⟩:=b;rcases h.2.2 with ⟨h | h,_⟩ | h | ⟨k,h,a,_⟩
 .cases h
 .cases h
 .cases h
 .cases h;exact ⟨(St.cZ.1 a).1,_,_,a⟩
theorem Wd.keeps (w:Wd PT st0 st p L x d r l os) {but:Nat->Prop} (k:ba st st' but) (c: ∀j,but j->j=p\/st.h<=j) (pz:Pz PT st' p L x d' r'):Wd PT st0 st' p L x d' r' l os where
 pz:=pz
 k:=ba.join w.k k fun j b=>by
  rcases c j b with h | h
  .exact .inl h
  .exact .inr (aaL w.h h)
 v:=fun q a=>⟨k.old _ _ (fun f=>by
  have h1:=(St.cZ.1 (w.v q a).1).1;have g:=(w.v q a).2;have i:=w.p0;rcases c _ f with h | h <;> omega) (w.v q a).1,(w.v q a).2⟩
 nd:=w.nd
 o:=fun q a=>⟨qP (w.o q a).1 k fun j b f=>by
  obtain ⟨h1,n,e,m⟩:=I7 (w.o q a).1 b;have g:=(w.o q a).2 j b;have i:=w.p0;rcases c _ f with h | h <;> omega,(w.o q a).2⟩
 od:=w.od
 p0:=w.p0
 ro0:=w.ro0
theorem Wd.quiet (w:Wd PT st0 st p L x d r l os) (k:ba st st' (fun _=>False)):Wd PT st0 st' p L x d r l os:=
 w.keeps k (fun _ f=>f.elim) (w.pz.keeps k (fun f=>f))
theorem Wd.move (w:Wd PT st0 st p L x d r l os) (k:ba st st' (· =p)) (pz:Pz PT st' p L x d' r'):Wd PT st0 st' p L x d' r' l os:=
 w.keeps k (fun _ e=> .inl e) pz
theorem Wd.alloc (w:Wd PT st0 st p L x d r l os) (t:Td) (cs:LA):Wd PT st0 (st.add (.cells t cs)) p L x d r ((st.h,t,cs)::l) os:=by
 have w':=w.quiet (ba.add st (.cells t cs) _);refine ⟨w'.pz,w'.k,fun q a=> ?_, ?_,w'.o,w'.od,w.p0,w.ro0⟩
 .rcases aam.1 a with rfl | a
  .exact ⟨St.dY,w.h⟩
  .exact w'.v q a
 .rw [aal,abT];refine ⟨fun hm=> ?_,w.nd⟩;obtain ⟨q,a,e⟩:=abf.1 hm;have h1:=(St.cZ.1 (w.v q a).1).1;simp only at e;omega
theorem Wd.putAt {a:Nat} {t t':Td} {old:LA} (w:Wd PT st0 st p L x d r (l1++(a,t,old)::l2) os) (cs:LA):Wd PT st0 (st.put a (.cells t' cs)) p L x d r (l1++(a,t',cs)::l2) os:=by
 have hm:(a,t,old)∈l1++(a,t,old)::l2:=List.mem_append_right _ aad;have g:=w.get hm;have c:=w.ne hm;have k:ba st (st.put a (.cells t' cs)) (· =a):=ba.put rfl;have hnd:=w.nd;rw [aaK,aal] at hnd;refine ⟨w.pz.keeps k (fun e=>c e.symm),ba.join w.k k fun j l=> .inr (by have:=(w.v _ hm).2;simp only at this;omega),fun q b=> ?_,by rw [aaK,aal];exact hnd,fun q b=>⟨(w.o q b).1.put g,(w.o q b).2⟩,w.od,w.p0,w.ro0⟩;have other: ∀q∈l1++(a,t,old)::l2,q.1≠a->(st.put a (.cells t' cs)).get q.1= .ok (.cells q.2.1 q.2.2)/\st0.h<=q.1:=fun q b f=>
  ⟨k.old _ _ f (w.v q b).1,(w.v q b).2⟩
 rcases aaA.1 b with b | b
 .refine other q (List.mem_append_left _ b) fun e=> ?_;have:=(List.nodup_append.1 hnd).2.2 q.1 (List.mem_map_of_mem b) a aad;exact this e
 .rcases aam.1 b with rfl | b
  .exact ⟨St.bx (St.cZ.1 g).1,(w.v _ hm).2⟩
  .refine other q (List.mem_append_right _ (aak _ b)) fun e=> ?_;have h1:=(abT.1 (List.nodup_append.1 hnd).2.1).1;have i:q.1∈l2.map (·.1):=List.mem_map_of_mem b;rw [e] at i;exact h1 i
theorem Wd.store {a:Nat} {t:Td} {old:LA} (l1:List Vr) (w:Wd PT st0 st p L x d r (l1++(a,t,old)::l2) os) {z:Nat} (e:old.length=z) (v:AV) (cs:LA) (b:cs.length=z):
  ∃st' c,Wd PT st0 st' p L x d r (l1++(a,t,cs)::l2) os/\ ∀{β:Type} (K:Kv β),bm (aY vE) z (.mp a 0) v cs st K=K VM.undef st' c:=by
 have hm:(a,t,old)∈l1++(a,t,old)::l2:=List.mem_append_right _ aad;exact ⟨st.put a (.cells t cs),⟨[a],.wrote a (.cells t cs)⟩,w.putAt cs,fun K=>by rw [eI (w.get hm) b (by omega) (w.YT hm),kP (by omega)]⟩
theorem Wd.kM {a:Nat} {t:Td} {old:LA} (l1:List Vr) (w:Wd PT st0 st p L x d r (l1++(a,t,old)::l2) os) (off:Nat) (v:AV) (hl:off+1<=old.length):
  ∃st' b,Wd PT st0 st' p L x d r (l1++(a,t,dj old off [v])::l2) os/\ ∀{β:Type} (K:Kv β),bm (aY vE) 1 (.mp a off) v [v] st K=K VM.undef st' b:=by
 have hm:(a,t,old)∈l1++(a,t,old)::l2:=List.mem_append_right _ aad;exact ⟨st.put a (.cells t (dj old off [v])),⟨[a],.wrote a (.cells t (dj old off [v]))⟩,w.putAt _,fun K=>eI (cs:=[v]) (z:=1) (w.get hm) rfl hl (w.YT hm) K⟩
theorem Wd.sub {a:List Vr} (w:Wd PT st0 st p L x d r l os) (h:List.Sublist a l):Wd PT st0 st p L x d r a os:=
 ⟨w.pz,w.k,fun q b=>w.v q (h.subset b),(h.map _).nodup w.nd,w.o,w.od,w.p0,w.ro0⟩
theorem Wd.drop {o:AV×LA} (w:Wd PT st0 st p L x d r l (o::os)):Wd PT st0 st p L x d r l os:=
 ⟨w.pz,w.k,w.v,w.nd,fun q a=>w.o q (aak _ a),(abx.1 w.od).2,w.p0,w.ro0⟩
theorem Wd.loose {v:AV} {es:LA} (w:Wd PT st0 st p L x d r l os) (h:jg st 4 ND v es) (hn: ∀j,¬ dQ v j):Wd PT st0 st p L x d r l ((v,es)::os):=
 ⟨w.pz,w.k,w.v,w.nd,fun q a=>by
  rcases aam.1 a with rfl | a
  .exact ⟨h,fun j b=>absurd b (hn j)⟩
  .exact w.o q a,abx.2 ⟨fun _ _ j b=>absurd b (hn j),w.od⟩,w.p0,w.ro0⟩
theorem Wd.aD (w:Wd PT st0 st p L x d r l os):Wd PT st0 st p L x d r l ((.aD,[])::os):=w.loose (jg.aD w.ro 4 ND) fun _ h=>by obtain ⟨_,_,e⟩:=h;cases e
theorem Wd.shut (w:Wd PT st0 st p L x d r l os) {es:LA} (h:es.length<=1000):Wd PT st0 st p L x d r l ((.sl 4 es .shut,es)::os):=w.loose (jg.shut w.ro ND (by omega)) fun _ h=>by obtain ⟨_,_,e⟩:=h;cases e
theorem Wd.app {v:AV} {es:LA} (w:Wd PT st0 st p L x d r l ((v,es)::os)) (new:LA) (hn:new≠[]) (hl:es.length+new.length<=1000000000):
  ∃v' st' s,Wd PT st0 st' p L x d r l ((v',es++new)::os)/\ ∀{β:Type} (K:Kv β),cq 4 56 ND v new st K=K v' st' s:=by
 have ho:=w.o (v,es) aad;obtain ⟨v',u,s,e,y,n,t⟩:=rZ (b:=56) (new:=new) ho.1 hn (rD (by simpa using hl) (by omega) (by omega));have z:¬ dQ v p:=by
  obtain ⟨i,h,_⟩:=w.pz;exact ho.1.not h.get
 refine ⟨v',u,s,⟨w.pz.keeps n z,ba.join w.k n fun j c=> .inr (ho.2 j c),fun q a=>⟨n.old _ _ (ho.1.not (w.v q a).1) (w.v q a).1,(w.v q a).2⟩,w.nd,fun q a=> ?_, ?_,w.p0,w.ro0⟩,fun K=>nI e K⟩
 .rcases aam.1 a with rfl | a
  .refine ⟨y,fun j c=> ?_⟩;rcases t j c with h | h
   .exact ho.2 j h
   .exact aaL w.h h
  .have g:=w.o q (aak _ a);exact ⟨qP g.1 n fun j c f=>(abx.1 w.od).1 q a j f c,g.2⟩
 .refine abx.2 ⟨fun q a j c m=> ?_,(abx.1 w.od).2⟩;rcases t j c with h | h
  .exact (abx.1 w.od).1 q a j h m
  .have:=(I7 (w.o q (aak _ a)).1 m).1;omega
theorem Wd.Nt {v:AV} {es:LA} (w:Wd PT st0 st p L x d r l ((v,es)::os)):EJ v es:=EJ.own (w.o (v,es) aad).1
end
section
variable {β:Type} {Q:β->Prop}
def NQ (PT:Td) (st:St) (p:Nat) (L:List aW) (x:AV) (d:Nat) (t:T) (r':List aW):AV×St->Prop:=fun b=>VN t b.1/\fg t<=1000000000000000/\Pz PT b.2 p L x d r'/\ba st b.2 (· =p)
abbrev NW (PT:Td) (F:FuncId) (args:LA) (st:St) (p:Nat) (L:List aW) (x:AV) (d:Nat) (t:T) (r':List aW):Prop:=aa ((aY vE).wide F args st) (NQ PT st p L x d t r')
variable {PT:Td} {st0 st:St} {p:Nat} {L:List aW} {x:AV} {d:Nat} {r r':List aW} {l l1 l2:List Vr} {os:List (AV×LA)} {t:T}
theorem _root_.Go.VM.aa.node {F:FuncId} {args:LA} (w:Wd PT st0 st p L x d r l os) (e:NW PT F args st p L x d t r') (h1:vE.isLook F=false) (f:(bN (args.map strip)&& !vE.full F)=false) {K:Int->Int->LB->AV->St->Fx->Oq β}
  (g: ∀(k tk:Nat) (tx:LB) (y:AV) (s:St),Nd t k tk tx y->fg t<=1000000000000000->Wd PT st0 s p L x d r' l os->aa (K (k:Int) (tk:Int) tx y s ⟨[],.all st s⟩) Q):
  aa (aV (aY vE) F args st fun v s i=>xM v fun a b c y=>K a b c y s i) Q:=
 aa.iR e h1 f fun v s h=>by
  obtain ⟨j,hd,m,n⟩:=h;obtain ⟨k,tk,tx,y,rfl,hn⟩:=j.cells;exact aa.step (kY ..) (g k tk tx y s hn hd (w.move n m))
theorem _root_.Go.VM.aa.alloc (w:Wd PT st0 st p L x d r l os) {ty:Td} {cs:LA} {K:St->Oq β} (g: ∀s,s.h=st.h+1->Wd PT st0 s p L x d r ((st.h,ty,cs)::l) os->aa (K s) Q):aa (bk (st.add (.cells ty cs)) K) Q:=
 g _ rfl (w.alloc ty cs)
theorem _root_.Go.VM.aa.store (l1:List Vr) {a:Nat} {ty:Td} {old:LA} (w:Wd PT st0 st p L x d r (l1++(a,ty,old)::l2) os) {z:Nat} {v:AV} {cs:LA} {K:Kv β}
  (g: ∀s b,Wd PT st0 s p L x d r (l1++(a,ty,cs)::l2) os->aa (K VM.undef s b) Q) (c:old.length=z:=by rfl) (f:cs.length=z:=by rfl):aa (bm (aY vE) z (.mp a 0) v cs st K) Q:=by
 obtain ⟨s,b,w',e⟩:=w.store l1 c v cs f;exact aa.step (e K) (g s b w')
theorem _root_.Go.VM.aa.kM (l1:List Vr) {a:Nat} {ty:Td} {old:LA} (w:Wd PT st0 st p L x d r (l1++(a,ty,old)::l2) os) {off:Nat} {v:AV} (hl:off+1<=old.length) {K:Kv β}
  (g: ∀s b,Wd PT st0 s p L x d r (l1++(a,ty,dj old off [v])::l2) os->aa (K VM.undef s b) Q):aa (bm (aY vE) 1 (.mp a off) v [v] st K) Q:=by
 obtain ⟨s,b,w',e⟩:=w.kM l1 off v hl;exact aa.step (e K) (g s b w')
theorem _root_.Go.VM.aa.gQ {a:Nat} {ty:Td} {cs:LA} (hm:(a,ty,cs)∈l) (w:Wd PT st0 st p L x d r l os) {o:Nat} {v:AV} {post:LA} (b:cs.drop o=v::post) {K:AV->Ln->Oq β} (g:aa (K v [a]) Q):aa (ar 1 false (.mp a o) st K) Q:=by
 refine aa.step (bh (w.get hm) _ _ _ _) ?_;rw [b];exact g
theorem _root_.Go.VM.aa.fG {a:Nat} {ty:Td} {k tk:Int} {tx:LB} {y:AV} (hm:(a,ty,[.int .u8 k,.int .u8 tk,.str tx,y])∈l) (w:Wd PT st0 st p L x d r l os) {K:Int->Int->LB->AV->Ln->Oq β} (g:aa (K k tk tx y [a]) Q):aa (ar 4 true (.mp a 0) st fun v rd=>xM v fun a b c y=>K a b c y rd) Q:=by
 refine aa.step (bh (w.get hm) _ _ _ _) ?_;exact aa.step (kY ..) g
theorem _root_.Go.VM.aa.G8 {a:Nat} {ty:Td} {u v:AV} (hm:(a,ty,[u,v])∈l) (w:Wd PT st0 st p L x d r l os) {K:AV->Ln->Oq β} (g:aa (K (.agg [u,v]) [a]) Q):aa (ar 2 true (.mp a 0) st K) Q:=
 aa.step (bh (w.get hm) _ _ _ _) g
theorem _root_.Go.VM.aa.res (l1:List Vr) {a:Nat} {old:LA} (w:Wd PT st0 st p L x d r (l1++(a,ND,old)::l2) os) (ho:old.length=4) {k tk:Nat} {tx:LB} {y:AV} (hn:Nd t k tk tx y) (hd:fg t<=1000000000000000):
  aa (ab y (bm (aY vE) 4 (.mp a 0) (.agg [.int .u8 (k:Int),.int .u8 (tk:Int),.str tx,y]) [.int .u8 (k:Int),.int .u8 (tk:Int),.str tx,y] st fun _ s _=>ar 4 true (.mp a 0) s fun v _=>xM v fun b c e y=>some (.agg [.int .u8 b,.int .u8 c,.str e,y],s))) (NQ PT st0 p L x d t r):=by
 refine aa.step (hn.ab _) (aa.store l1 w (fun s f w'=> ?_) ho);exact aa.fG (List.mem_append_right _ aad) w' (aa.some ⟨hn.vn,hd,w'.pz,w'.k⟩)
theorem _root_.Go.VM.aa.GJ (l1:List Vr) {a:Nat} {old:LA} (w:Wd PT st0 st p L x d r (l1++(a,ND,old)::l2) os) (ho:old.length=4) {k tk:Nat} {tx:LB} {y:AV} (hn:Nd t k tk tx y) (hd:fg t<=1000000000000000):
  aa (bm (aY vE) 4 (.mp a 0) (.agg [.int .u8 (k:Int),.int .u8 (tk:Int),.str tx,y]) [.int .u8 (k:Int),.int .u8 (tk:Int),.str tx,y] st fun _ s _=>ar 4 true (.mp a 0) s fun v _=>xM v fun b c e y=>some (.agg [.int .u8 b,.int .u8 c,.str e,y],s)) (NQ PT st0 p L x d t r):=by
 have h:=aa.res l1 w ho hn hd;rw [hn.ab] at h;exact h
theorem _root_.Go.VM.aa.fit {k tk:Nat} {tx:LB} {y:AV} (hn:Nd t k tk tx y) {K:AV->Oq β} (g: ∀y',iF t (.agg [.int .u8 (k:Int),.int .u8 (tk:Int),.str tx,y'])->VM.one y'=true->(∀{γ:Type} (K:AV->Oq γ),aB y' K=K y')->aa (K y') Q):aa (ab y (aB y K)) Q:=by
 obtain ⟨l,es,rfl,b,a⟩:=hn.ex;obtain ⟨y',hx,hf⟩:=b.fit;refine aa.step (b.ab _) (aa.step (hf K) (g y' ?_ hx.one fun K=>hx.aB K));simp only [iF];exact ⟨y',es,rfl,hx,a⟩
theorem _root_.Go.VM.aa.two {k tk:Nat} {tx:LB} {y:AV} (hn:Nd t k tk tx y) {e:Oq β} (g:aa e Q):aa (ab y e) Q:=aa.step (hn.ab e) g
theorem _root_.Go.VM.aa.app {v:AV} {es new:LA} (w:Wd PT st0 st p L x d r l ((v,es)::os)) (hn:new≠[]) (hl:es.length+new.length<=1000000000) {K:Kv β} (g: ∀v' s a,VM.one v'=true->Wd PT st0 s p L x d r l ((v',es++new)::os)->aa (K v' s a) Q):aa (cq 4 56 ND v new st K) Q:=by
 obtain ⟨v',s,a,w',e⟩:=w.app new hn hl;exact aa.step (e K) (g v' s a w'.Nt.one w')
theorem Wd.same {a:Nat} {s:St} {k tk:Int} {tx:LB} {v:AV} {es:LA} {ts:List T} (w:Wd PT st0 st p L x d r l os) (w':Wd PT st0 s p L x d r' l os) (hm:(a,ND,[.int .u8 k,.int .u8 tk,.str tx,v])∈l) (f:EJ v es) (hn:bA ts es) (hd:eZ ts<=1000000000000000):apart ⟨[a],.kept⟩ ⟨[],.all st s⟩=true:=by
 have g:Rf (2 * eZ ts+1) v:=by
  have b:=bA.rf hn;rcases f with hx | ⟨_,k,rfl⟩
  .rcases hx.2 with ⟨rfl | rfl,rfl⟩ | rfl | rfl
   .exact EO.mono (by omega)
   .exact NP.mono (by omega)
   .exact xp b
   .exact xp b
  .exact xp b
 refine Li (Lo (w.get hm) (w'.get hm) (d:=2 * eZ ts+1) (fun c e=> ?_) (by omega));simp only [aam,aaD,or_false] at e;rcases e with rfl | rfl | rfl | rfl
 .exact (vy _ _).mono (by omega)
 .exact (vy _ _).mono (by omega)
 .exact (HG _).mono (by omega)
 .exact g
theorem Wd.lU {a:Nat} {s:St} {k tk:Nat} {tx:LB} {v:AV} (w:Wd PT st0 st p L x d r l os) (w':Wd PT st0 s p L x d r' l os) (hm:(a,ND,[.int .u8 (k:Int),.int .u8 (tk:Int),.str tx,v])∈l) (hn:Nd t k tk tx v) (hd:fg t<=1000000000000000):apart ⟨[a],.kept⟩ ⟨[],.all st s⟩=true:=by
 obtain ⟨ts,es,rfl,c,b⟩:=hn.ex;simp only [fg] at hd;exact w.same w' hm c b (by omega)
theorem _root_.Go.VM.aa.grow (l1:List Vr) {F:FuncId} {args:LA} {a:Nat} {k tk:Int} {tx:LB} {v:AV} {es:LA} {ts:List T}
  (w:Wd PT st0 st p L x d r (l1++(a,ND,[.int .u8 k,.int .u8 tk,.str tx,v])::l2) ((v,es)::os)) (h:NW PT F args st p L x d t r') (h1:vE.isLook F=false) (i:(bN (args.map strip)&& !vE.full F)=false)
  (b:bA ts es) (c:eZ ts<=1000000000000000) (hl:ts.length<=100000000) {K:St->Oq β}
  (g: ∀v' e s,bA (ts++[t]) (es++[e])->eZ (ts++[t])<=1000000000000000->Wd PT st0 s p L x d r' (l1++(a,ND,[.int .u8 k,.int .u8 tk,.str tx,v'])::l2) ((v',es++[e])::os)->aa (K s) Q):
  aa (ar 1 false (.mp a 3) st fun v rd=>aV (aY vE) F args st fun u s x=>xM u fun j l tx y=>cg (apart ⟨rd,.kept⟩ x&&(apart ⟨[],.kept⟩ x&&true)) (ab y (ab y (aB y fun y=>ab y (aB y fun y=>cq 4 56 ND v [.agg [.int .u8 j,.int .u8 l,.str tx,y]] s fun v s _=>ab v (ab v (bm (aY vE) 1 (.mp a 3) v [v] s fun _ s _=>K s))))))) Q:=by
 have hm:(a,ND,[AV.int .u8 k,.int .u8 tk,.str tx,v])∈l1++(a,ND,[AV.int .u8 k,.int .u8 tk,.str tx,v])::l2:=List.mem_append_right _ aad;refine aa.gQ hm w rfl (aa.node w h h1 i fun C m n y s hn hd w'=> ?_);have f:=w.same w' hm w.Nt b c;refine aa.step (ib (by rw [f];rfl) _) (aa.two hn (aa.fit hn fun y' o h1 hf=>aa.one h1 (aa.step (hf _) (aa.app w' (by simp) (by rw [bA.len b];simp;omega) fun v' s' D ho q=> ?_))));refine aa.one ho (aa.one ho (aa.kM l1 q (aaq rfl) fun z A B=> ?_));exact g v' _ z (bA.app b (bA.cons o bA.nil)) (by rw [ck,bq];omega) B
end
abbrev PP:Td:=85
section
variable {β:Type} {Q:β->Prop} {st0 st:St} {p:Nat} {L:List aW} {x:AV} {d d':Nat} {r r':List aW} {l l1 l2:List Vr} {os:List (AV×LA)} {t:T}
theorem _root_.Go.VM.aa.is (a:List LB) (hs:a.length<=1000) (w:Wd PP st0 st p L x d r l os) {K:Bool->St->Fx->Oq β} (g: ∀s,Wd PP st0 s p L x d r l os->aa (K (isAny a r) s ⟨[],.all st s⟩) Q):
  aa (aV (aY vE) 79 [.mp p 0,.sl 1 (a.map AV.str) .shut] st fun v s c=>bG v fun b=>K b s c) Q:=by
 obtain ⟨i,h,rfl⟩:=w.pz;obtain ⟨s,k,e⟩:=D7 h (ji a hs);exact aa.step (e _) (g s (w.quiet k))
theorem _root_.Go.VM.aa.LD {s0:LB} (w:Wd PP st0 st p L x d r l os) {K:Bool->St->Fx->Oq β} (g: ∀s,Wd PP st0 s p L x d r l os->aa (K (cf s0 r) s ⟨[],.all st s⟩) Q):
  aa (aV (aY vE) 79 [.mp p 0,.sl 1 [.str s0] .shut] st fun v s a=>bG v fun b=>K b s a) Q:=
 aa.is [s0] (by simp) w fun s w'=>by rw [Cb];exact g s w'
theorem _root_.Go.VM.aa.cJ (pat:Bool) (w:Wd PP st0 st p L x d r l os) {K:Bool->St->Fx->Oq β} (g: ∀s,Wd PP st0 s p L x d r l os->aa (K (cJ pat r) s ⟨[],.all st s⟩) Q):
  aa (aV (aY vE) 118 [.mp p 0,.int .u8 (sP pat:Int),.str (sF pat)] st fun v s a=>bG v fun b=>K b s a) Q:=by
 obtain ⟨i,h,rfl⟩:=w.pz;obtain ⟨s,k,e⟩:=Fm h pat
 exact aa.step (e _) (g s (w.quiet k))
theorem _root_.Go.VM.aa.next (w:Wd PP st0 st p L x d r l os) {K:St->St->Oq β} (g: ∀s s',Wd PP st0 s' p L x d r ((s.h,24,[.int .u8 ((nx r).1:Int),.str (nx r).2])::l) os->aa (K s s') Q):
  aa (aV (aY vE) 78 [.mp p 0] st fun v s _=>gN v fun vs=>cr vs 0 fun u=>Bu u fun cs=>bg cs fun a cs=>bj .u8 a fun n=>bg cs fun b cs=>dN b fun tx=>bB cs (gN v fun vs=>cr vs 1 fun u=>bj .i64 u fun _=>bk (St.add s (.cells 24 [.int .u8 0,.str []])) fun c=>bm (aY vE) 2 (.mp (St.h s) 0) (.agg [.int .u8 n,.str tx]) [.int .u8 n,.str tx] c fun _ s' _=>K s s')) Q:=by
 obtain ⟨i,h,rfl⟩:=w.pz;obtain ⟨s,k,e⟩:=oI h;refine aa.step (e _) ?_;simp only [bp,aT,aZ,aw,ad,af,ao,ae];refine aa.alloc (w.quiet k) fun c _ f=> ?_;exact aa.store [] f fun j o m=>g s j m
theorem jc (h:Pz PP st p L x d r):NW PP 80 [.mp p 0] st p L x d (aK r) (aO r):=by
 obtain ⟨i,h,rfl⟩:=h;obtain ⟨v,s,e,a,b,c⟩:=Jb h;exact ⟨(v,s),e,a,aaL (bX _) (by omega),⟨_,b,(zN L i).symm⟩,c⟩
theorem pQ (h:Pz PP st p L x d r) (s:LB):NW PP 120 [.mp p 0,.str s] st p L x d (cP s r) (bo s r):=by
 obtain ⟨i,h,rfl⟩:=h;obtain ⟨v,s',g,e,a,b,c,f⟩:=Q2 h s;exact ⟨(v,s'),e,a,aaL (fP _ _) (by omega),⟨_,b,c⟩,f⟩
theorem _root_.Go.VM.aa.take (w:Wd PP st0 st p L x d r l os) {K:Int->Int->LB->AV->St->Fx->Oq β}
 (g: ∀(k tk:Nat) (tx:LB) (y:AV) (s:St),Nd (aK r) k tk tx y->fg (aK r)<=1000000000000000->Wd PP st0 s p L x d (aO r) l os->aa (K (k:Int) (tk:Int) tx y s ⟨[],.all st s⟩) Q):
 aa (aV (aY vE) 80 [.mp p 0] st fun v s e=>xM v fun a b c y=>K a b c y s e) Q:=aa.node w (jc w.pz) rfl rfl g
theorem _root_.Go.VM.aa.zq (w:Wd PP st0 st p L x d r l os) {s0:LB} {K:Int->Int->LB->AV->St->Fx->Oq β}
 (g: ∀(k tk:Nat) (tx:LB) (y:AV) (s:St),Nd (cP s0 r) k tk tx y->fg (cP s0 r)<=1000000000000000->Wd PP st0 s p L x d (bo s0 r) l os->aa (K (k:Int) (tk:Int) tx y s ⟨[],.all st s⟩) Q):
 aa (aV (aY vE) 120 [.mp p 0,.str s0] st fun v s e=>xM v fun a b c y=>K a b c y s e) Q:=aa.node w (pQ w.pz s0) rfl rfl g
theorem _root_.Go.VM.aa.BD {i o n:Nat} {K:AV->Oq β} (g:aa (K (.mp i (o+n))) Q):aa (cg (notNil (.mp i o)) (cV n (.mp i o) K)) Q:=g
theorem _root_.Go.VM.aa.oq {PT:Td} (w:Wd PT st0 st p L x d r l os) {K:AV->Ln->Oq β} (g:aa (K (.int .i64 (d:Int)) [p]) Q):aa (ar 1 false (.mp p 2) st K) Q:=by
 obtain ⟨i,h,rfl⟩:=w.pz;exact aa.step (bh h.get _ _ _ _) g
theorem _root_.Go.VM.aa.deep {PT:Td} (d':Nat) (w:Wd PT st0 st p L x d r l os) {K:Kv β} (g: ∀s a,Wd PT st0 s p L x d' r l os->aa (K VM.undef s a) Q):aa (bm (aY vE) 1 (.mp p 2) (.int .i64 (d':Int)) [.int .i64 (d':Int)] st K) Q:=by
 obtain ⟨i,h,rfl⟩:=w.pz;refine aa.step (eI (cs:=[.int .i64 (d':Int)]) (z:=1) (off:=2) h.get rfl (aaq rfl) h.ro K) (g _ _ ?_);have k:ba st (st.put p (.cells PT (dj [x,.int .i64 (i:Int),.int .i64 (d:Int)] 2 [.int .i64 (d':Int)]))) (· =p):=ba.put rfl;exact w.move k ⟨i,⟨St.bx (St.cZ.1 h.get).1,h.sl,h.le,h.len,by rw [k.ro];exact h.ro⟩,rfl⟩
theorem jE {k:Nat} {es:LA} {ts:List T} (h:bA ts es) (hl:es.length<=1000):Nd (node k ts) k 0 [] (.sl 4 es .shut):=⟨⟨ts,es,rfl,.inl (bF.shut (by omega)),h⟩⟩
theorem mI {t:T} {e:AV} (h:iF t e):bA [t] [e]:=bA.cons h bA.nil
theorem CZ {t u:T} {e f:AV} (h:iF t e) (a:iF u f):bA [t,u] [e,f]:=bA.cons h (mI a)
theorem CC {t u v:T} {e f g:AV} (h:iF t e) (b:iF u f) (a:iF v g):bA [t,u,v] [e,f,g]:=bA.cons h (CZ b a)
theorem qt (f:AV) (s0:LB) (h:Pz PP st p L x 64 r):NW PP 147 [.mp p 0,.str s0,f] st p L x 64 (jI s0 r) (kg r):=by
 refine aa.wide (aa.step (Js _ _ _ _) ?_);unfold Ug;refine aa.step (ao _ _) (aa.alloc (Wd.begin h) fun b _ w=> ?_);refine aa.BD (aa.oq w ?_);refine aa.step (af _ _ _) ?_;refine aa.next w fun c d w=> ?_;refine aa.gQ (aad) w rfl (aa.step (af _ _ _) ?_);unfold jI kg;by_cases h0:(nx r).1=0
 .rw [if_pos h0,if_pos h0,show (((nx r).1:Int)==0)=true by rw [h0];rfl];refine aa.step (aq _ _) (aa.step (pN _ _ _) ?_);refine aa.res [_] (old:=[.int .u8 0,.int .u8 0,.str [],.aD]) w rfl (jf s0) ?_;rw [fX];omega
 .rw [if_neg h0,if_neg h0,show (((nx r).1:Int)==0)=false from aai.2 (by omega)];refine aa.step (aj _ _) (aa.take w fun k tk tx y s hn hd w=> ?_);refine aa.two hn (aa.fit hn fun y' a _ _=> ?_);refine aa.GJ [_] (old:=[.int .u8 0,.int .u8 0,.str [],.aD]) w rfl (jE (mI a) (by simp)) ?_;rw [bI,bq];have:=bX r;omega
theorem wE {f:AV} {F:FuncId} {args:LA} (s0:LB) (h:Pz PP st p L x d r) (hd:d < 64) (h1:vE.isLook F=false) (c:(bN (args.map strip)&& !vE.full F)=false)
  (hf: ∀{β:Type} (s:St) (K:Kv β),jx (aY vE) (Sx.prim (sx vE 147)) f [] s K=aV (aY vE) F args s K)
  (e: ∀s,ba st s (· =p)->Pz PP s p L x (d+1) r->NW PP F args s p L x (d+1) t r'):NW PP 147 [.mp p 0,.str s0,f] st p L x d t r':=by
 refine aa.wide (aa.step (Js _ _ _ _) ?_);unfold Ug;refine aa.step (ao _ _) (aa.alloc (Wd.begin h) fun i _ w=> ?_);refine aa.BD (aa.oq w ?_);refine aa.step (af _ _ _) ?_;rw [show ((d:Int)==64)=false from aai.2 (by omega)];refine aa.step (aj _ _) (aa.BD (aa.oq w ?_));refine aa.step (af _ _ _) ?_;rw [az,br (by omega)];refine aa.BD (aa.deep (d+1) w fun g b w=> ?_);refine aa.step (hf _ _) (aa.node w (e g w.k w.pz) h1 c fun k tk tx y s hn a w=> ?_);refine aa.alloc w fun j _ w=>aa.two hn ?_;refine aa.store [] w fun l b w=> ?_;refine aa.BD (aa.oq w ?_);refine aa.step (af _ _ _) ?_;rw [az,show ((d+1:Nat):Int) - 1=((d+1:Nat):Int) - ((1:Nat):Int) from rfl,xH (by omega) (by omega),abY];refine aa.BD (aa.deep d w fun m b w=> ?_);refine aa.fG (aad) w ?_;exact aa.res [_] (old:=[.int .u8 0,.int .u8 0,.str [],.aD]) w rfl hn a
end
def su (F:FuncId) (more:Nat->LA) (job:lJ) (n:Nat):Prop:= ∀(st:St) (p:Nat) (L:List aW) (x:AV) (d:Nat) (r:List aW) (t:T) (r':List aW),Pz PP st p L x d r->d<=64->P n job d r=some ([t],r')->NW PP F (.mp p 0::more p) st p L x d t r'
def NB (pat:Bool):FuncId:=match pat with | true=>144 | false=>121
def Ad (pat:Bool) (p:Nat):AV:= .fn (.func (NB pat)) [.mp p 0] []
def BQ (PT:Td) (st:St) (p:Nat) (L:List aW) (x:AV) (d:Nat) (ts:List T) (r':List aW):AV×St->Prop:=fun b=> ∃es,jg b.2 4 ND b.1 es/\(∀j,dQ b.1 j->st.h<=j)/\bA ts es/\eZ ts<=1000000000000000/\Pz PT b.2 p L x d r'/\ba st b.2 (· =p)
def NK (n:Nat):Prop:= ∀(st:St) (p:Nat) (L:List aW) (x:AV) (d:Nat) (r:List aW) (ts:List T) (r':List aW),Pz PP st p L x d r->d<=64->P n .binding d r=some (ts,r')->aa ((aY vE).wide 81 [.mp p 0] st) (BQ PP st p L x d ts r')
structure IH (n:Nat):Prop where
 expr:su 121 (fun _=>[]) .expr n
 whole:su 148 (fun _=>[]) .whole n
 level: ∀k:Nat,k<=7->su 173 (fun _=>[.int .i64 (k:Int)]) (.level k) n
 neg:su 184 (fun _=>[]) .neg n
 atom: ∀pat,su 119 (fun _=>[.bool pat]) (.atom pat) n
 closed: ∀list pat,su 146 (fun p=>[.int .u8 (kindOf list pat:Int),.str (qg list),.str (ik list),Ad pat p]) (.closed list pat) n
 pattern:su 144 (fun _=>[]) .pattern n
 arm:su 172 (fun _=>[]) .arm n
 binding:NK n
theorem Aj {n:Nat} (hn:n<=10000000) {job:lJ} {d:Nat} {r:List aW} {l:List T} {r':List aW} (h:P n job d r=some (l,r')) (a:lB job=[]):eZ l<=100000020000000:=by
 have:=Jz n job d r l r' h;rw [a,aU] at this;have b:n * n<=10000000 * 10000000:=acg hn hn;omega
theorem en {n:Nat} (hn:n<=10000000) {job:lJ} {d:Nat} {r:List aW} {t:T} {r':List aW} (h:P n job d r=some ([t],r')) (a:lB job=[]):fg t<=100000020000000:=by
 have:=Aj hn h a
 rwa [bq] at this
section
variable {β:Type} {Q:β->Prop} {st0 st:St} {p:Nat} {L:List aW} {x:AV} {d d':Nat} {r r':List aW} {l l1 l2:List Vr} {os:List (AV×LA)} {t:T}
abbrev z4:LA:=[.int .u8 0,.int .u8 0,.str [],.aD]
theorem KC {n:Nat} (ih:IH n):su 121 (fun _=>[]) .expr (n+1):=by
 intro st p L x d r t r' a hd h;simp only [P] at h;refine aa.wide (aa.step (PG _ _) ?_);unfold Xy;refine aa.alloc (Wd.begin a) fun b _ w=> ?_;split at h
 .rename_i hd;subst hd;cases h;exact aa.node w (qt _ _ w.pz) rfl rfl fun k tk tx y s hn hd w=>aa.res [] (old:=z4) w rfl hn hd
 .exact aa.node w (wE (F:=148) (args:=[.mp p 0]) _ w.pz (by omega) rfl rfl (fun _ _=>rfl) fun s _ a=>ih.whole s p L x (d+1) r t r' a (by omega) h) rfl rfl fun k tk tx y s hn hd w=>aa.res [] (old:=z4) w rfl hn hd
def Nv (PT:Td) (st0 s:St) (p:Nat) (L:List aW) (x:AV) (d:Nat) (r:List aW) (a b:Nat) (t:T):Prop:= ∃(k tk:Nat) (tx:LB) (y:AV),Wd PT st0 s p L x d r [(a,ND,[.int .u8 (k:Int),.int .u8 (tk:Int),.str tx,y]),(b,ND,z4)] []/\Nd t k tk tx y
theorem Nv.fin {PT:Td} {s:St} {a b:Nat} (h:Nv PT st0 s p L x d r a b t) (hd:fg t<=1000000000000000):
  aa (ar 4 true (.mp a 0) s fun v _=>xM v fun c e tx y=>ab y (bm (aY vE) 4 (.mp b 0) (.agg [.int .u8 c,.int .u8 e,.str tx,y]) [.int .u8 c,.int .u8 e,.str tx,y] s fun _ s _=>ar 4 true (.mp b 0) s fun v _=>xM v fun c e tx y=>some (.agg [.int .u8 c,.int .u8 e,.str tx,y],s))) (NQ PT st0 p L x d t r):=by
 obtain ⟨k,tk,tx,y,w,hn⟩:=h;exact aa.fG (aad) w (aa.res [_] (old:=z4) w rfl hn hd)
theorem QH {a b c:Vr}:List.Sublist [b,c] [a,b,c]:=List.Sublist.cons _ (abV _)
theorem cQ {b c:Bool} (h:b=c) {α:Type} (x y:Oq α):aX b x y=aX c x y:=by rw [h]
theorem Qx {n:Nat} (ih:IH n) {a:Nat} (F:st.get a= .ok (.cells 83 [.mp p 0])) (m:a≠p) (G:Pz PP st p L x d r) (hd:d<=64)
  {b:List aW} {u:T} (h1:P n (.atom true) d r=some ([u],b)) (g:if cf zK b=true then ∃v,P n .pattern d (aO b)=some ([v],r')/\t=node 16 [u,aK b,v] else t=u/\r'=b)
  (hn:n<=10000000):NW PP 170 [.mp a 0] st p L x d t r':=by
 have D:=en hn h1 rfl;refine aa.wide (aa.step (Px _ _) ?_);unfold Wi;have rd: ∀{s:St} {β:Type} (K:AV->Ln->Oq β),ba st s (· =p)->ar 1 false (.mp a 0) s K=K (.mp p 0) [a]:=fun K k=>bh (k.Dc m F) _ _ _ _;refine aa.alloc (Wd.begin G) fun W _ w=> ?_;refine aa.step (rd _ w.k) (aa.node w (ih.atom true _ p L x d r u b w.pz hd h1) rfl rfl fun k tk tx y s hnd i w=> ?_);refine aa.alloc w fun X _ w=>aa.two hnd ?_;refine aa.store [] w fun Y E w=> ?_;refine aa.step (rd _ w.k) ?_;refine aa.LD w fun H w=> ?_;cases l:cf zK b with
 | true=>
  rw [l,if_pos rfl] at g;obtain ⟨v,g,rfl⟩:=g;have I:=en hn g rfl;have J:=bX b;refine aa.bind (R:=fun c=> ∃f,c=([],f)/\Nv PP st f p L x d r' s.h st.h (node 16 [u,aK b,v])) ?_ ?_
  .refine aa.step (cQ (c:=true) l _ _) (aa.step (aq _ _) ?_);refine aa.step (rd _ w.k) (aa.take w fun Z M N y' f e o w=> ?_);refine aa.alloc w fun s7 _ w=>aa.two e ?_;refine aa.store [] w fun s8 E w=> ?_;refine aa.fG (a:=s.h) (aak _ aad) w ?_;refine aa.fG (aad) w ?_;refine aa.step (rd _ w.k) (aa.node w (ih.pattern _ p L x d _ v r' w.pz hd g) rfl rfl fun k2 O Q y2 s9 j S q=> ?_);have U:=w.lU q (aad) e o;have V:=w.lU q (a:=s.h) (aak _ aad) hnd i;refine aa.step (ib (by rw [U,V];rfl) _) ?_;refine aa.two hnd (aa.two e (aa.two j (aa.fit hnd fun z1 z _ _=>aa.fit e fun z2 A _ _=>aa.fit j fun z3 B _ _=> ?_)));refine aa.store [_] q fun C E w=> ?_;exact aa.some ⟨C,rfl,16,0,[],_,w.sub QH,jE (CC z A B) (by simp)⟩
  .rintro c ⟨f,rfl,h⟩;refine aa.step (ae _) (h.fin ?_);rw [bI];simp only [bC,aU];omega
 | false=>
  rw [l,if_neg (by simp)] at g;obtain ⟨rfl,rfl⟩:=g;refine aa.bind (R:=fun c=> ∃f,c=([],f)/\Nv PP st f p L x d r' s.h st.h t) ?_ ?_
  .exact aa.step (cQ (c:=false) l _ _) (aa.step (aj _ _) (aa.some ⟨H,rfl,k,tk,tx,y,w,hnd⟩))
  .rintro c ⟨f,rfl,h⟩;exact aa.step (ae _) (h.fin i)
theorem Ep {n:Nat} (ih:IH n) (hn:n<=10000000):su 144 (fun _=>[]) .pattern (n+1):=by
 intro st p L x d r t r' e hd h;simp only [P] at h;refine aa.wide (aa.step (P8 _ _) ?_);unfold WJ;refine aa.one rfl (aa.one rfl ?_);refine aa.alloc (Wd.begin e) fun l _ w=> ?_;refine aa.alloc w fun m _ w=> ?_;refine aa.gQ (a:=st.h) (aak _ aad) w rfl ?_;have c:st.h≠p:=w.ne (aak _ aad);have j:=w.get (a:=st.h) (aak _ aad);split at h
 .rename_i hd;subst hd;cases h;exact aa.node w (qt _ _ w.pz) rfl rfl fun k tk tx y s hn hd w=>aa.res [] (old:=z4) w rfl hn hd
 .obtain ⟨⟨a,o⟩,g,h⟩:=bind_some h;obtain ⟨u,rfl⟩:=cH _ _ _ _ _ _ g rfl;refine aa.node w (wE (F:=170) (args:=[.mp st.h 0]) (t:=t) (r':=r') _ w.pz (by omega) rfl rfl (fun _ _=>rfl) fun s k e=> ?_) rfl rfl fun k tk tx y s hn hd w=>aa.res [] (old:=z4) w rfl hn hd;refine Qx ih (k.Dc c j) c e (by omega) g ?_ hn;dsimp only at h;split at h
  .rename_i f;rw [if_pos f];obtain ⟨⟨b,r2⟩,i,h⟩:=bind_some h;obtain ⟨v,rfl⟩:=cH _ _ _ _ _ _ i rfl;cases h;exact ⟨v,i,rfl⟩
  .rename_i f;rw [if_neg f];cases h;exact ⟨rfl,rfl⟩
end
section
variable {β:Type} {Q:β->Prop} {st0 st:St} {p:Nat} {L:List aW} {x:AV} {d d':Nat} {r r':List aW} {l l1 l2:List Vr} {os:List (AV×LA)} {t:T}
theorem Od {n:Nat} (ih:IH n) (hn:n<=10000000):su 172 (fun _=>[]) .arm (n+1):=by
 intro st p L x d r t r' A hd h;simp only [P] at h;obtain ⟨⟨a,z⟩,g,h⟩:=bind_some h;obtain ⟨u,rfl⟩:=cH _ _ _ _ _ _ g rfl;obtain ⟨⟨b,r2⟩,i,h⟩:=bind_some h;obtain ⟨v,rfl⟩:=cH _ _ _ _ _ _ i rfl;cases h;have B:=en hn g rfl;have C:=en hn i rfl;have D:=fP ig z;refine aa.wide (aa.step (Pm _ _) ?_);unfold Xu;refine aa.alloc (Wd.begin A) fun N _ w=> ?_;refine aa.node w (ih.pattern _ p L x d _ u z w.pz hd g) rfl rfl fun k tk tx y s hnd e w=> ?_;refine aa.alloc w fun O _ w=>aa.two hnd ?_;refine aa.store [] w fun Q E w=> ?_;refine aa.zq w fun R F G y' S c j w=> ?_;refine aa.alloc w fun T _ w=>aa.two c ?_;refine aa.store [] w fun U E w=> ?_;refine aa.fG (a:=s.h) (aak _ aad) w ?_;refine aa.fG (aad) w ?_;refine aa.node w (ih.expr _ p L x d _ v r2 w.pz hd i) rfl rfl fun V H I W X f J l=> ?_;have K:=w.lU l (aad) c j;have M:=w.lU l (a:=s.h) (aak _ aad) hnd e;refine aa.step (ib (by rw [K,M];rfl) _) ?_;refine aa.two hnd (aa.two c (aa.two f (aa.fit hnd fun Y m _ _=>aa.fit c fun Z o _ _=>aa.fit f fun z3 q _ _=> ?_)));refine aa.GJ [_,_] (old:=z4) l rfl (jE (CC m o q) (by simp)) ?_;simp only [bI,ck,bC,aU];omega
theorem wG (pat:Bool) (p:Nat) {β:Type} (s:St) (K:Kv β):jx (aY vE) (Sx.prim (sx vE 146)) (Ad pat p) [] s K=aV (aY vE) (NB pat) [.mp p 0] s K:=by cases pat <;> rfl
theorem OG {n:Nat} (ih:IH n) (pat:Bool) (a:Pz PP st p L x d r) (hd:d<=64) (h:P n (if pat then .pattern else .expr) d r=some ([t],r')):NW PP (NB pat) [.mp p 0] st p L x d t r':=by
 cases pat with
 | true=>exact ih.pattern _ p L x d _ t r' a hd h
 | false=>exact ih.expr _ p L x d _ t r' a hd h
theorem G4 (pat:Bool):vE.isLook (NB pat)=false:=by cases pat <;> rfl
theorem G9 (pat:Bool) (p:Nat):(bN ([AV.mp p 0].map strip)&& !vE.full (NB pat))=false:=rfl
theorem yF (pat:Bool):single (if pat then lJ.pattern else .expr)=true:=by cases pat <;> rfl
def Gv (PT:Td) (st0 s:St) (p:Nat) (L:List aW) (x:AV) (d:Nat) (r:List aW) (a b k:Nat) (ts:List T):Prop:= ∃(v:AV) (es:LA),Wd PT st0 s p L x d r [(a,ND,[.int .u8 (k:Int),.int .u8 0,.str [],v]),(b,ND,z4)] [(v,es)]/\bA ts es/\eZ ts<=1000000000000000
theorem Gv.nd {PT:Td} {s:St} {a b k:Nat} {ts:List T} (h:Gv PT st0 s p L x d r a b k ts):Nv PT st0 s p L x d r a b (node k ts):=by
 obtain ⟨v,es,w,hs,hd⟩:=h;exact ⟨k,0,[],v,w.drop,⟨⟨ts,es,rfl,w.Nt,hs⟩⟩⟩
theorem Gv.grow {PT:Td} {s:St} {a b k:Nat} {ts:List T} (h:Gv PT st0 s p L x d r a b k ts) {F:FuncId} {args:LA} (i:NW PT F args s p L x d t r') (h1:vE.isLook F=false) (j:(bN (args.map strip)&& !vE.full F)=false) (hl:ts.length<=100000000) {K:St->Oq β} (g: ∀s,Gv PT st0 s p L x d r' a b k (ts++[t])->aa (K s) Q):
  aa (ar 1 false (.mp a 3) s fun v rd=>aV (aY vE) F args s fun u s x=>xM u fun l m tx y=>cg (apart ⟨rd,.kept⟩ x&&(apart ⟨[],.kept⟩ x&&true)) (ab y (ab y (aB y fun y=>ab y (aB y fun y=>cq 4 56 ND v [.agg [.int .u8 l,.int .u8 m,.str tx,y]] s fun v s _=>ab v (ab v (bm (aY vE) 1 (.mp a 3) v [v] s fun _ s _=>K s))))))) Q:=by
 obtain ⟨v,es,w,hs,hd⟩:=h;exact aa.grow [] w i h1 j hs hd hl fun v' e s c f w'=>g s ⟨v',_,w',c,f⟩
theorem Gv.pz {PT:Td} {s:St} {a b k:Nat} {ts:List T} (h:Gv PT st0 s p L x d r a b k ts):Pz PT s p L x d r:=by
 obtain ⟨v,es,w,hs,hd⟩:=h;exact w.pz
theorem Gv.is {s:St} {a b k:Nat} {ts:List T} (h:Gv PP st0 s p L x d r a b k ts) {s0:LB} {K:Bool->St->Fx->Oq β} (g: ∀s',Gv PP st0 s' p L x d r a b k ts->aa (K (cf s0 r) s' ⟨[],.all s s'⟩) Q):
  aa (aV (aY vE) 79 [.mp p 0,.sl 1 [.str s0] .shut] s fun v s c=>bG v fun b=>K b s c) Q:=by
 obtain ⟨v,es,w,hs,hd⟩:=h;exact aa.LD w fun s' w'=>g s' ⟨v,es,w',hs,hd⟩
theorem Hq {n:Nat} (hn:n<=10000000) (ih: ∀m,m < n->IH m) (list pat:Bool) {a b k:Nat} {c:St} (t:c.h=a) (hd:d<=64): ∀(m:Nat) (ts bs:List T) (r r':List aW) (s:St),m<=n->P m (.items list pat) d r=some (bs,r')->Gv PP st0 s p L x d r a b k ts->ts.length+2 * m<=100000000->
  aa (aH (nD (.mp p 0) (Ad pat p) (qg list) c) ([],s)) (fun q=> ∃s',q=(0,[],s')/\Gv PP st0 s' p L x d r' a b k (ts++bs)):=by
 intro m
 induction m with
 | zero=>intro ts bs r r' s _ h;cases h
 | succ m j=>
  intro ts bs r r' s hm h f hl;simp only [P] at h;have D:nD (.mp p 0) (Ad pat p) (qg list) c ([],s)=nD (.mp p 0) (Ad pat p) (qg list) c ([],s):=rfl;split at h
  .rename_i l;obtain ⟨⟨E,v⟩,w,h⟩:=bind_some h;obtain ⟨u,rfl⟩:=cH _ _ _ _ _ _ w (yF pat);obtain ⟨⟨A,r2⟩,B,h⟩:=bind_some h;cases h;have g:aa (nD (.mp p 0) (Ad pat p) (qg list) c ([],s)) (fun q=> ∃s',q= .inl ([],s')/\Gv PP st0 s' p L x d v a b k (ts++[aK r]++[u])):=by
    simp only [nD,wG,t,ae];refine f.is fun y f=> ?_;rw [l];refine aa.step (aq _ _) ?_;refine f.grow (jc f.pz) rfl rfl (by omega) fun z f=> ?_;refine f.grow (OG (ih m (by omega)) pat f.pz hd w) (G4 pat) (G9 pat p) (by simp;omega) fun C f=> ?_;exact aa.some ⟨C,rfl,f⟩
   obtain ⟨q,e,s',rfl,i⟩:=g;rw [aJ e];refine (j _ A v _ s' (by omega) B i (by simp;omega)).mono ?_;rintro q ⟨z,rfl,o⟩;refine ⟨z,rfl, ?_⟩;simpa using o
  .rename_i l;cases h;have g:aa (nD (.mp p 0) (Ad pat p) (qg list) c ([],s)) (fun q=> ∃s',q= .inr (0,[],s')/\Gv PP st0 s' p L x d r a b k ts):=by
    simp only [nD,wG,t,ae];refine f.is fun y f=> ?_;rw [aaC l];exact aa.step (aj _ _) (aa.some ⟨y,rfl,f⟩)
   obtain ⟨q,e,s',rfl,i⟩:=g;exact ⟨_,aF e,s',rfl,by simpa using i⟩
theorem FU {n:Nat} (ih: ∀m,m<=n->IH m) (hn:n<=10000000) (list pat:Bool):su 146 (fun p=>[.int .u8 (kindOf list pat:Int),.str (qg list),.str (ik list),Ad pat p]) (.closed list pat) (n+1):=by
 intro st p L x d r t r' o hd h;simp only [P] at h;refine aa.wide (aa.step (Rx _ _ _ _ _ _) ?_);simp only [VX,wG,af,ao];refine aa.alloc (Wd.begin o) fun B _ w=> ?_;refine aa.take w fun k tk tx y s hnd b w=> ?_;refine aa.two hnd (aa.fit hnd fun C e _ _=> ?_);refine aa.alloc w fun j _ w=> ?_;refine aa.store [] w fun v D w=> ?_;have a:Gv PP st v p L x d (aO r) s.h st.h (kindOf list pat) [aK r]:=⟨_,_,w.shut (by simp),mI e,by rw [bq];exact b⟩;refine a.is fun E a=> ?_;split at h
 .rename_i f;cases h;rw [f];refine aa.step (aq _ _) ?_;refine a.grow (jc a.pz) rfl rfl (by simp) fun F a=> ?_;refine a.nd.fin ?_;have:=bX r;have:=bX (aO r);simp only [bI,ck,bC,aU];omega
 .rename_i f;rw [aaC f];obtain ⟨⟨G,H⟩,g,h⟩:=bind_some h;obtain ⟨u,rfl⟩:=cH _ _ _ _ _ _ g (yF pat);obtain ⟨⟨l,r2⟩,i,h⟩:=bind_some h;cases h;refine aa.step (aj _ _) ?_;refine a.grow (OG (ih n (aah _)) pat a.pz hd g) (G4 pat) (G9 pat p) (by simp) fun j a=> ?_;refine aa.bind (Hq hn (fun m hm=>ih m (by omega)) list pat rfl hd n _ l _ _ j (aah _) i a (by simp;omega)) ?_;rintro q ⟨I,rfl,a⟩;refine aa.step (ae _) ?_;have z:=Aj hn i rfl;have A:=en hn g (sk pat);have hl:=CG _ _ _ _ _ _ _ i;refine a.grow (pQ a.pz (ik list)) rfl rfl (by simp;omega) fun J a=> ?_;have c:=a.nd.fin (t:=node (kindOf list pat) ([aK r]++[u]++l++[cP (ik list) r2])) (by
   have:=bX r;have:=fP (ik list) r2;simp only [bI,ck,bC,aU];omega)
  exact c
end
section
variable {β:Type} {Q:β->Prop} {st0 st:St} {p:Nat} {L:List aW} {x:AV} {d d':Nat} {r r':List aW} {l l1 l2:List Vr} {os:List (AV×LA)} {t:T}
def OT (pat:Bool):LB:=if pat then mL else pY
theorem LL {n:Nat} (ih:IH n) (pat:Bool):su 119 (fun _=>[.bool pat]) (.atom pat) (n+1):=by
 intro st p L x d r t r' j hd h;simp only [P] at h;refine aa.wide (aa.step (Rv _ _ _) ?_);unfold WT;refine aa.step (al _ _) (aa.alloc (Wd.begin j) fun b _ w=> ?_);have e: ∀{β:Type} (K:bU->Oq β),ax (aX pat (some ([AV.str mL,.int .u8 17,.int .u8 18,.str [95],Ad true p,.int .u8 5],b)) (some ([.str pY,.int .u8 14,.int .u8 15,.str [40],Ad false p,.int .u8 6],b))) K
   =K ([.str (OT pat),.int .u8 (kindOf false pat:Int),.int .u8 (kindOf true pat:Int),.str (sF pat),Ad pat p,.int .u8 (sP pat:Int)],b):=by cases pat <;> exact fun K=>rfl
 refine aa.step (e _) ?_;simp only [ad,ao,af,ae];refine aa.next w fun l m w=> ?_;refine aa.cJ pat w fun o w=> ?_;split at h
 .rename_i f;rw [f];refine aa.step (aj _ _) ?_;refine aa.gQ (aad) w rfl (aa.step (af _ _ _) ?_);split at h
  .rename_i i;cases h;rw [show (((nx r).1:Int)==9)=true by rw [i];rfl];refine aa.step (aq _ _) (aa.take w fun k tk tx y s hnd a w=> ?_);refine aa.two hnd (aa.fit hnd fun q g _ _=> ?_);refine aa.GJ [_] (old:=z4) w rfl (jE (mI g) (by simp)) ?_;have:=bX r;simp only [bI,bC,aU];omega
  rename_i i;rw [show (((nx r).1:Int)==9)=false from aai.2 (by omega)];refine aa.step (aj _ _) (aa.LD w fun u w=> ?_);split at h
  .rename_i ho;refine aa.step (cQ (c:=true) ho _ _) (aa.step (aq _ _) ?_);exact aa.node w (ih.closed false pat _ p L x d r t r' w.pz hd h) rfl rfl fun k tk tx y s hnd a w=>aa.res [_] (old:=z4) w rfl hnd a
  rename_i ho;refine aa.step (cQ (c:=false) (aaC ho) _ _) (aa.step (aj _ _) (aa.LD w fun v w=> ?_));split at h
  .rename_i ho;refine aa.step (cQ (c:=true) ho _ _) (aa.step (aq _ _) ?_);exact aa.node w (ih.closed true pat _ p L x d r t r' w.pz hd h) rfl rfl fun k tk tx y s hnd a w=>aa.res [_] (old:=z4) w rfl hnd a
  .rename_i ho;cases h;refine aa.step (cQ (c:=false) (aaC ho) _ _) (aa.step (aj _ _) ?_);exact aa.take w fun k tk tx y s hnd a w=>aa.res [_] (old:=z4) w rfl hnd a
 .rename_i f;cases h;rw [aaC f];refine aa.step (aq _ _) (aa.step (pN _ _ _) ?_);refine aa.res [_] (old:=z4) w rfl (jf (OT pat)) ?_;rw [fX];omega
theorem Nv.load {PT:Td} {s:St} {a b:Nat} (h:Nv PT st0 s p L x d r a b t) {K:Int->Int->LB->AV->Ln->Oq β} (g: ∀(k tk:Nat) (tx:LB) (y:AV),Wd PT st0 s p L x d r [(a,ND,[.int .u8 (k:Int),.int .u8 (tk:Int),.str tx,y]),(b,ND,z4)] []->Nd t k tk tx y->aa (K k tk tx y [a]) Q):aa (ar 4 true (.mp a 0) s fun v rd=>xM v fun a b c y=>K a b c y rd) Q:=by
 obtain ⟨k,tk,tx,y,w,hn⟩:=h;exact aa.fG (aad) w (g k tk tx y w hn)
theorem Ls {n:Nat} (hn:n<=10000000) (ih: ∀m,m < n->IH m) {a b:Nat} {c:St} (C:c.h=a) (hd:d<=64): ∀(m:Nat) (acc t:T) (r r':List aW) (s:St),m<=n->P m (.args acc) d r=some ([t],r')->Nv PP st0 s p L x d r a b acc->fg acc+m<=900000000000000->
  aa (aH (sj (.mp p 0) c) ([],s)) (fun q=> ∃s',q=(0,[],s')/\Nv PP st0 s' p L x d r' a b t/\fg t<=900000000000000):=by
 intro m
 induction m with
 | zero=>intro acc t r r' s _ h;cases h
 | succ m j=>
  intro acc t r r' s hm h G hl;simp only [P] at h;obtain ⟨k,tk,tx,y,w,hnd⟩:=G;split at h
  .rename_i l;obtain ⟨⟨D,o⟩,v,h⟩:=bind_some h;obtain ⟨u,rfl⟩:=cH _ _ _ _ _ _ v rfl;have H:=en (by omega:m<=10000000) v rfl;have f:aa (sj (.mp p 0) c ([],s)) (fun q=> ∃s',q= .inl ([],s')/\Nv PP st0 s' p L x d o a b (node 13 [acc,u])):=by
    simp only [sj,C,ae];refine aa.cJ false w fun E w=> ?_;rw [l];refine aa.step (aq _ _) ?_;refine aa.fG (aad) w ?_;refine aa.node w ((ih m (by omega)).atom false _ p L x d r u o w.pz hd v) rfl rfl fun M I J N O i K F=> ?_;have D:=w.lU F (aad) hnd (by omega);refine aa.step (ib (by rw [D];rfl) _) ?_;refine aa.two hnd (aa.two i (aa.fit hnd fun Q z _ _=>aa.fit i fun R A _ _=> ?_));refine aa.store [] F fun B S w=> ?_;exact aa.some ⟨B,rfl,13,0,[],_,w,jE (CZ z A) (by simp)⟩
   obtain ⟨q,e,s',rfl,g⟩:=f;rw [aJ e];refine j _ t o _ s' (by omega) h g ?_;simp only [bI,bC,aU];omega
  .rename_i l;cases h;have f:aa (sj (.mp p 0) c ([],s)) (fun q=> ∃s',q= .inr (0,[],s')/\Nv PP st0 s' p L x d r a b acc):=by
    simp only [sj,C,ae];refine aa.cJ false w fun E w=> ?_;rw [aaC l];exact aa.step (aj _ _) (aa.some ⟨E,rfl,k,tk,tx,y,w,hnd⟩)
   obtain ⟨q,e,s',rfl,g⟩:=f;exact ⟨_,aF e,s',rfl,g,by omega⟩
theorem MZ {n:Nat} (ih: ∀m,m<=n->IH m) (hn:n<=10000000):su 184 (fun _=>[]) .neg (n+1):=by
 intro st p L x d r t r' l hd h;simp only [P] at h;refine aa.wide (aa.step (Po _ _) ?_);unfold V7;refine aa.alloc (Wd.begin l) fun N _ w=> ?_;refine aa.is [[45],[45,46]] (by simp) w fun O w=> ?_;split at h
 .rename_i o;rw [o];refine aa.step (aj _ _) ?_;refine aa.take w fun k tk tx y s hnd f w=> ?_;refine aa.alloc w fun D _ w=>aa.two hnd ?_;refine aa.store [] w fun C E w=> ?_;refine aa.fG (aad) w ?_;have Q:=bX r;split at h
  .rename_i hd;subst hd;cases h;refine aa.node w (qt _ _ w.pz) rfl rfl fun G v z H I a A g=> ?_;have i:=w.lU g (aad) hnd (by omega);refine aa.step (ib (by rw [i];rfl) _) ?_;refine aa.two hnd (aa.two a (aa.fit hnd fun J b _ _=>aa.fit a fun K c _ _=> ?_));refine aa.GJ [_] (old:=z4) g rfl (jE (CZ b c) (by simp)) ?_;have:=rm pY (aO r);simp only [bI,bC,aU];omega
  .obtain ⟨⟨i,j⟩,e,h⟩:=bind_some h;obtain ⟨u,rfl⟩:=cH _ _ _ _ _ _ e rfl;cases h;have B:=en hn e rfl;refine aa.node w (wE (F:=184) (args:=[.mp p 0]) _ w.pz (by omega) rfl rfl (fun _ _=>rfl) fun s _ l=>(ih n (aah _)).neg s p L x (d+1) _ u j l (by omega) e) rfl rfl fun G v z H I a A g=> ?_;have i:=w.lU g (aad) hnd (by omega);refine aa.step (ib (by rw [i];rfl) _) ?_;refine aa.two hnd (aa.two a (aa.fit hnd fun J b _ _=>aa.fit a fun K c _ _=> ?_));refine aa.GJ [_] (old:=z4) g rfl (jE (CZ b c) (by simp)) ?_;simp only [bI,bC,aU];omega
 .rename_i o;rw [aaC o];refine aa.step (aq _ _) ?_;obtain ⟨⟨i,j⟩,e,h⟩:=bind_some h;obtain ⟨u,rfl⟩:=cH _ _ _ _ _ _ e rfl;have B:=en hn e rfl;refine aa.node w ((ih n (aah _)).atom false _ p L x d r u j w.pz hd e) rfl rfl fun k tk tx y s hnd f w=> ?_;refine aa.alloc w fun D _ w=>aa.two hnd ?_;refine aa.store [] w fun C E w=> ?_;refine aa.bind (Ls hn (fun m hm=>ih m (by omega)) rfl hd n u t j r' C (aah _) h ⟨k,tk,tx,y,w,hnd⟩ (by omega)) ?_;rintro q ⟨R,rfl,M,f⟩;exact aa.step (ae _) (M.fin (by omega))
def MG:AV:= .sl 2 [.agg [.sl 1 [.str [124,124]] .shut,.bool false],.agg [.sl 1 [.str [38,38]] .shut,.bool false],.agg [.sl 1 [.str [61],.str [60,62],.str [60],.str [60,61],.str [62],.str [62,61]] .shut,.bool true],.agg [.sl 1 [.str [64],.str [94]] .shut,.bool false],
 .agg [.sl 1 [.str [58,58]] .shut,.bool false],.agg [.sl 1 [.str [43],.str [45],.str [43,46],.str [45,46]] .shut,.bool true],.agg [.sl 1 [.str [42],.str [47],.str [42,46],.str [47,46],.str [109,111,100]] .shut,.bool true]] .shut
theorem Gq {β:Type} (st:St) (K:Kv β):aV (aY vE) 183 [] st K=K MG st q0:=aG st K rfl rfl rfl (aM rfl (RA.trans rfl))
theorem JY {k:Nat} (a:k<=6) {β:Type} (st:St) (K:AV->Ln->Oq β):dB 2 MG (k:Int) st K=K (.ip [.sl 1 ((opsOf k).map AV.str) .shut,.bool (Parse.leftOf k)]) []:=by
 match k,a with
 | 0,_=>rfl
 | 1,_=>rfl
 | 2,_=>rfl
 | 3,_=>rfl
 | 4,_=>rfl
 | 5,_=>rfl
 | 6,_=>rfl
theorem OM {n:Nat} (hn:n<=10000000) (ih: ∀m,m < n->IH m) {a b k:Nat} (l:k<=6) {c:St} (J:c.h=a) (hd:d<=64): ∀(m:Nat) (acc t:T) (r r':List aW) (s:St),m<=n->P m (.ops k acc) d r=some ([t],r')->Nv PP st0 s p L x d r a b acc->fg acc+m<=900000000000000->
  aa (aH (rY (.mp p 0) (k:Int) MG c) ([],s)) (fun q=> ∃s',q=(0,[],s')/\Nv PP st0 s' p L x d r' a b t/\fg t<=900000000000000):=by
 intro m
 induction m with
 | zero=>intro acc t r r' s _ h;cases h
 | succ m o=>
  intro acc t r r' s hm h O hl;simp only [P] at h;obtain ⟨k1,tk,tx,y,w,hnd⟩:=O;have hlen:(opsOf k).length<=1000:=by
   match k,l with
   | 0,_=>simp [opsOf]
   | 1,_=>simp [opsOf]
   | 2,_=>simp [opsOf]
   | 3,_=>simp [opsOf]
   | 4,_=>simp [opsOf]
   | 5,_=>simp [opsOf]
   | 6,_=>simp [opsOf]
  split at h
  .rename_i v;obtain ⟨⟨M,z⟩,A,h⟩:=bind_some h;obtain ⟨u,rfl⟩:=cH _ _ _ _ _ _ A rfl;have Q:=en (by omega:m<=10000000) A rfl;have R:=bX r;have g:aa (rY (.mp p 0) (k:Int) MG c ([],s)) (fun q=> ∃s',q= .inl ([],s')/\Nv PP st0 s' p L x d z a b (node 11 [acc,aK r,u])):=by
    simp only [rY,J,ae,JY l,yf,bK,aar,oz,aL,ai,al];refine aa.is (opsOf k) hlen w fun N w=> ?_;rw [v];refine aa.step (aq _ _) ?_;refine aa.take w fun k' S U y' s6 f B w=> ?_;refine aa.alloc w fun s7 _ w=>aa.two f ?_;refine aa.store [] w fun C V w=> ?_;have e: ∀{β:Type} (K:bU->Oq β),ax (aX (Parse.leftOf k) (aN (IntKind.wrap .i64 ((k:Int)+1)) fun D=>some ([AV.int .i64 D],C)) (some ([AV.int .i64 (k:Int)],C))) K=K ([.int .i64 ((if Parse.leftOf k then k+1 else k:Nat):Int)],C):=by
     intro β K;cases Parse.leftOf k with
     | true=>
      rw [aq,az,br (by omega),if_pos rfl];rfl
     | false=>
      rw [aj,if_neg (by simp)];rfl
    refine aa.step (e _) ?_;simp only [ad,af,ae];refine aa.fG (a:=a) (aak _ aad) w ?_;refine aa.fG (aad) w ?_;refine aa.node w ((ih m (by omega)).level _ (by split <;> omega) _ p L x d _ u z w.pz hd A) rfl rfl fun k2 W X y2 s9 j Y E=> ?_;have M:=w.lU E (aad) f B;have Z:=w.lU E (a:=a) (aak _ aad) hnd (by omega);refine aa.step (ib (by rw [M,Z];rfl) _) ?_;refine aa.two hnd (aa.two f (aa.two j (aa.fit hnd fun z1 F _ _=>aa.fit f fun z2 G _ _=>aa.fit j fun z3 H _ _=> ?_)));refine aa.store [_] E fun I V w=> ?_;exact aa.some ⟨I,rfl,11,0,[],_,w.sub QH,jE (CC F G H) (by simp)⟩
   obtain ⟨q,e,s',rfl,i⟩:=g;rw [aJ e];refine o _ t z _ s' (by omega) h i ?_;simp only [bI,bC,aU];omega
  .rename_i v;cases h;have g:aa (rY (.mp p 0) (k:Int) MG c ([],s)) (fun q=> ∃s',q= .inr (0,[],s')/\Nv PP st0 s' p L x d r a b acc):=by
    simp only [rY,J,ae,JY l,yf,bK,aar,oz,aL,ai,al];refine aa.is (opsOf k) hlen w fun N w=> ?_;rw [aaC v];exact aa.step (aj _ _) (aa.some ⟨N,rfl,k1,tk,tx,y,w,hnd⟩)
   obtain ⟨q,e,s',rfl,i⟩:=g;exact ⟨_,aF e,s',rfl,i,by omega⟩
theorem Ih {n:Nat} (ih: ∀m,m<=n->IH m) (hn:n<=10000000) (k:Nat) (o:k<=7):su 173 (fun _=>[.int .i64 (k:Int)]) (.level k) (n+1):=by
 intro st p L x d r t r' g hd h;simp only [P] at h;refine aa.wide (aa.step (Ry _ _ _) ?_);unfold Xj;refine aa.step (af _ _ _) (aa.alloc (Wd.begin g) fun v _ w=> ?_);refine aa.step (Gq _ _) ?_;refine aa.step (RH _ _ _ _) ?_;split at h
 .rename_i e;subst e;refine aa.step (aq _ _) ?_;exact aa.node w ((ih n (aah _)).neg _ p L x d r t r' w.pz hd h) rfl rfl fun k tk tx y s hnd a w=>aa.res [] (old:=z4) w rfl hnd a
 .rename_i e;refine aa.step (cQ (c:=false) (aai.2 (show (k:Int)≠((7:Nat):Int) by omega)) _ _) (aa.step (aj _ _) ?_);rw [az,br (by omega)];obtain ⟨⟨z,f⟩,b,h⟩:=bind_some h;obtain ⟨u,rfl⟩:=cH _ _ _ _ _ _ b rfl;have i:=en hn b rfl;refine aa.node w ((ih n (aah _)).level (k+1) (by omega) _ p L x d r u f w.pz hd b) rfl rfl fun k1 tk tx y s hnd a w=> ?_;refine aa.alloc w fun A _ w=>aa.two hnd ?_;refine aa.store [] w fun j B w=> ?_;refine aa.bind (OM hn (fun m hm=>ih m (by omega)) (by omega:k<=6) rfl hd n u t f r' j (aah _) h ⟨k1,tk,tx,y,w,hnd⟩ (by omega)) ?_;rintro q ⟨C,rfl,l,a⟩;exact aa.step (ae _) (l.fin (by omega))
end
end Go.Proofs.YtkpeicabocpbkaaGreatDoor.Vm
