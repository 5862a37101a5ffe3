/-
  A part of the proof.
-/
import Derived.Test.YtpinfliihpdjcaaGreatDoorVmCA
import Derived.Test.YtpinfliihpdjcaaGreatDoorVmBH
import Derived.Test.YtpinfliihpdjcaaGreatDoorVmBF
import Derived.Test.YtpinfliihpdjcaaGreatDoorVmBG
import Derived.Test.YtpinfliihpdjcaaGreatDoorRows
set_option maxRecDepth 1000000
set_option maxHeartbeats 0
set_option linter.all false
namespace Go.Proofs.YtpinfliihpdjcaaGreatDoor.Vm
open Go Go.VM Go.Proofs
abbrev tE {α:Type}:Tr α:= .node none .leaf .leaf
abbrev NR:TI:=⟨.func,1,8,[.nilfn],false,false⟩
abbrev NP (t:TypeId):TI:=⟨(.ptr t),1,8,[.nilp],false,false⟩
abbrev NS (t:TypeId):TI:=⟨(.slice t),1,24,[.aG],false,false⟩
noncomputable def vT:TT:=Tr.of 8 (Gy Tryz.prog)
theorem Lw:qW Tryz.prog vT:=Kj (d:=8) rfl
def NK:List Nat:=[3,4,5,6,7,8,9,10,11,12,13,14,15,16,17,18,19,20,21,22,23,24,25,26,27,28,29,30,31,32,33,34,35,36,37,39,40,41,43,44,45,46,47,48,49,50,51,52,53,54,55,56,57,58,59,60,61,62,63,64,65,66,67,70,71,74,75,77,78,79,80,81,82,83,84,85,86,87,88,89,90,104,105,106,107,108,109,110,118,119,120,121,122,123,130,135,140,141]
noncomputable def vF:Tr Func:=Tr.of 8 (Et Tryz.prog NK)
theorem K4: ∀f fn,vF.get f=some fn->Lx Tryz.prog f fn:=IP (by kernel_rfl)
noncomputable def vP:List (Nat×Prim):=[(38,(.lib iY)),(42,(.lib (gl 115))),(69,(.lib fb)),(76,(.lib gx)),(102,.indexByte)]
noncomputable def vG:Tr (List AV):=(.node (some (List.replicate 128 (.int .u8 240)++List.replicate 66 (.int .u8 241)++List.replicate 30 (.int .u8 2)++[.int .u8 19]++List.replicate 12 (.int .u8 3)++[.int .u8 35,.int .u8 3,.int .u8 3,.int .u8 52,.int .u8 4,.int .u8 4,.int .u8 4,.int .u8 68]++List.replicate 11 (.int .u8 241))) (.node (some ([.int .u8 128,.int .u8 191,.int .u8 160,.int .u8 191,.int .u8 128,.int .u8 159,.int .u8 144,.int .u8 191,.int .u8 128,.int .u8 143]++List.replicate 22 (.int .u8 0))) (.node none tE .leaf) (.node (some [(.opq true)]) tE .leaf)) (.node (some (List.replicate 9 (.int .u8 0)++[.int .u8 1,.int .u8 1,.int .u8 1,.int .u8 1,.int .u8 1]++List.replicate 18 (.int .u8 0)++[.int .u8 1]++List.replicate 223 (.int .u8 0))) (.node none tE .leaf) (.node none tE .leaf)))
noncomputable def vI:List (Nat×List Nat):=[(7,[27]),(8,[27]),(9,[27]),(10,[27]),(17,[27]),(18,[27]),(46,[24]),(85,[24])]
noncomputable def KH:List Nat:=[]
noncomputable def Kq:List Nat:=[]
theorem HH:fm Tryz.prog vT (fun b=>vG.get b) 38 (.lib iY):=AO (g3:=0) (g4:=1) Tryz.call38 (fun s w h hT=>Tryz.utf8_ValidString s w h hT) rfl rfl (by kernel_rfl) (by kernel_rfl)
theorem HJ:fm Tryz.prog vT (fun b=>vG.get b) 42 (.lib (gl 115)):=BJ (g16:=5) (fun w w' h=>by rcases h with rfl | ⟨t,rfl⟩;exact Go.RowKit.Below.refl _ _;exact Lib.bytesWorld_below _ _ _) Tryz.call42 (fun s h1 v a w=>Tryz.strconv_Atoi_ok s h1 v a w) (fun s h1 a ev w c h4=>(Tryz.strconv_Atoi_range s h1 a ev w c h4).mono fun e w' ⟨N,d,_,_,f⟩=>⟨N,d,f⟩) rfl
theorem JO:fm Tryz.prog vT (fun b=>vG.get b) 69 (.lib fb):=tX Tryz.call69 fun s c w h1 a=>Tryz.strings_TrimLeft s c w h1 a
theorem JJ:fm Tryz.prog vT (fun b=>vG.get b) 76 (.lib gx):=xH (g3:=0) (g4:=1) Tryz.call76 (fun s w hT=>Tryz.utf8_DecodeRuneInString s w hT) rfl rfl (by kernel_rfl) (by kernel_rfl)
theorem Ff:fm Tryz.prog vT (fun b=>vG.get b) 102 .indexByte:=rS (fun s c w=>by
 rw [run_callFunc_extern Tryz.func102 (by kernel_rfl) (by kernel_rfl) (by kernel_rfl) (e:=Extern.BytealgIndexByte.indexByte) (by kernel_rfl),Lib.run_indexByteString];rfl)
theorem Kl:Ix (fun f q=>fm Tryz.prog vT (fun b=>vG.get b) f q) vP:=⟨HH,HJ,JO,JJ,Ff,trivial⟩
noncomputable def vE:Env where
 T:=vT
 F i:=vF.get i
 prim i:=yf vP i
 full i:=KH.any fun j=>i.beq j
 isLook i:=Kq.any fun j=>i.beq j
 imm f t:=match yf vI f with
  | some l=>l.any fun j=>t.beq j
  | none=>false
 G b:=vG.get b
 memo _:=[]
theorem yB:uF Tryz.prog vE:=⟨Lw,fun f fn h=>K4 f fn h,Dd fun f q h=>uZ Kl f q h,by kernel_rfl,(fun _ _ h=>by cases h),fun _ r _ _ h _=>absurd (show (none:Option (List AV->Option AV))=some r from h) (by simp),fun _ r _ _ _ _ h=>absurd (show (none:Option (List AV->St->cl (AV×St)))=some r from h) (by simp)⟩
abbrev sZ:St:=St.mk 0 0 Tr.leaf
abbrev nA (a b:Int) (s:List UInt8) (y:AV):AV:= .agg [.int .u8 a,.int .u8 b,.str s,y]
abbrev nC (a b:Int) (s:List UInt8) (y:AV):List AV:=[.int .u8 a,.int .u8 b,.str s,y]
abbrev dA (a:Int) (s:List UInt8) (b:Int) (y:AV):AV:= .agg [.int .u8 a,.str s,.int .i64 b,y]
abbrev dC (a:Int) (s:List UInt8) (b:Int) (y:AV):List AV:=[.int .u8 a,.str s,.int .i64 b,y]
noncomputable abbrev cL {β:Type} (z:Nat) (p:AV) (cs:List AV) (st:St) (K:Kv β):Option β:=bn (bc vE) z p (.agg cs) cs st K
noncomputable abbrev iC {β:Type} (p v:AV) (st:St) (K:Kv β):Option β:=bn (bc vE) 1 p v [v] st K
noncomputable abbrev aU {β:Type} (f:FuncId) (a:List AV) (st:St) (K:Kv β):Option β:=aX (bc vE) f a st K
noncomputable def g5:AV->Option AV:=fun i=>dV i fun j=>aU 12 [.str j] (St.mk 1 0 (Tr.node (some (VM.Obj.cells 27 (nC 0 0 [] .aG))) Tr.leaf Tr.leaf)) fun c a _x=>fU c fun k=>cC k 0 fun b=>fU c fun l=>cC l 1 fun m=>bg .i64 m fun d=>aW (d != 0) (cL 4 (.mp 0 0) (nC 0 0 [] .aG) a fun _x e _x_1=>ax 4 true (.mp 0 0) e fun n _x=>ag n fun o p q r=>(kQ e 0 (.tup [nA o p q r,.int .i64 d]) fun s=>some s)) (ab b (ab b (ba (St.add a (VM.Obj.cells 41 [b,.int .i64 0,.int .i64 0])) fun t=>aU 13 [.mp (St.h a) 0] t fun u v _x=>ag u fun w y z f=>(ab f (cL 4 (.mp 0 0) (nC w y z f) v fun _x g _x_1=>ax 4 true (.mp 0 0) g fun x _x=>ag x fun A B C D=>(kQ g 0 (.tup [nA A B C D,.int .i64 0]) fun E=>some E))))))
theorem Ko (a:AV):bT vE 5 [a]=g5 a:=by kernel_rfl
noncomputable def uj (c:AV) (f:AV):bR->Option (bR ⊕ Nat×bR):=fun a=>br a.1 fun g h=>bG g fun d=>br h fun i j=>bg .i64 i fun b=>bE j (iQ c fun k=>aW (decide (b < (↑k:Int))) (fc 4 c b a.2 fun l _x=>ax 4 true l a.2 fun m _x=>ag m fun n o p q=>(fc 4 f b a.2 fun r _x=>ax 4 true r a.2 fun s _x=>ag s fun t u v w=>(aU 7 [nA n o p q,nA t u v w] a.2 fun y e _x=>bG y fun z=>aW (!z) (some (Sum.inr (1,[.bool false],e))) (aN (IntKind.wrap .i64 (b+1)) fun x=>some (Sum.inl ([.bool d,.int .i64 x],e)))))) (some (Sum.inr (0,[.bool d],Prod.snd a))))
noncomputable def g7:AV->AV->Option AV:=fun g h=>ag g fun i j k a=>(ag h fun l m n b=>(ab a (aJ a fun c=>ab b (aJ b fun d=>aB (aW (i != l) (some ([.bool true],sZ)) (aB (Fc (VM.binOp (Env.T vE) BinOp.neq 24 (.agg [.int .u8 j,.str k]) (.agg [.int .u8 m,.str n]))) fun o=>bG o fun p=>aW p (some ([.bool true],sZ)) (iQ c fun q=>iQ d fun r=>some ([.bool ((↑q:Int) != (↑r:Int))],sZ)))) fun e=>br e.1 fun s t=>bG s fun u=>bE t (aW u (some (.bool false)) (aB (aI (uj c d) ([.bool false,.int .i64 0],Prod.snd e)) fun f=>br f.2.1 fun v w=>bG v fun y=>bE w (ja f.1 (some (.bool true)) fun _x=>some (.bool y))))))))
theorem Kh (a b:AV):bT vE 7 [a,b]=g7 a b:=by kernel_rfl
noncomputable def g8:AV->Option AV:=fun d=>ag d fun a e _x c=>(ab c (aJ c fun f=>aB (aW (a != 2) (aW (a != 3) (aW (a != 1) (some ([.bool true],sZ)) (some ([.bool (e != 9)],sZ))) (some ([.bool false],sZ))) (some ([.bool false],sZ))) fun b=>br b.1 fun g h=>bG g fun i=>bE h (aB (aW i (aU 16 [f,.fn (Fn.func 17) [] []] b.2 fun j k _x=>bG j fun l=>some ([.bool !l],k)) (some ([.bool false],Prod.snd b))) fun m=>br m.1 fun n o=>bG n fun p=>bE o (some (.bool p)))))
theorem K7 (a:AV):bT vE 8 [a]=g8 a:=by kernel_rfl
noncomputable def ru (c:AV):bR->Option (bR ⊕ Nat×bR):=fun a=>br a.1 fun f g=>bG f fun d=>br g fun h i=>bg .i64 h fun b=>bE i (iQ c fun j=>aW (decide (b < (↑j:Int))) (fc 4 c b a.2 fun k _x=>ax 4 true k a.2 fun l _x=>ag l fun m n o p=>(aU 9 [nA m n o p] a.2 fun q e _x=>bG q fun r=>aW (!r) (some (Sum.inr (1,[.bool false],e))) (aN (IntKind.wrap .i64 (b+1)) fun s=>some (Sum.inl ([.bool d,.int .i64 s],e))))) (some (Sum.inr (0,[.bool d],Prod.snd a))))
noncomputable def g9:AV->Option AV:=fun e=>ag e fun a f _x b=>(ab b (aJ b fun g=>aB (aW (a==2) (some ([.bool true],sZ)) (aW (a==3) (some ([.bool true],sZ)) (aW (a==1) (some ([.bool (f==9)],sZ)) (some ([.bool false],sZ))))) fun c=>br c.1 fun h i=>bG h fun j=>bE i (aW j (some (.bool false)) (aB (aI (ru g) ([.bool false,.int .i64 0],Prod.snd c)) fun d=>br d.2.1 fun k l=>bG k fun m=>bE l (ja d.1 (some (.bool true)) fun _x=>some (.bool m))))))
theorem LG (a:AV):bT vE 9 [a]=g9 a:=by kernel_rfl
noncomputable def sH:bR->Option (bR ⊕ Nat×bR):=fun b=>br b.1 fun c h=>br h fun i j=>dV i fun a=>br j fun k l=>bg .i64 k fun d=>bE l (aW (decide (d < 7)) (fc 1 (.sl 1 [.fn (Fn.func 20) [] [],.fn (Fn.func 21) [] [],.fn (Fn.func 22) [] [],.fn (Fn.func 23) [] [],.fn (Fn.func 24) [] [],.fn (Fn.func 25) [] [],.fn (Fn.func 26) [] []] .shut) d b.2 fun m _x=>ax 1 false m b.2 fun n _x=>jX (bc vE) (Sx.prim (sx vE 12)) n [.str a] b.2 fun f g _x=>fU f fun o=>cC o 0 fun p=>bg .u8 p fun q=>fU f fun r=>cC r 1 fun s=>bg .i64 s fun e=>aW (decide (e > 0)) (dq e (List.length a) fun t=>aN (List.drop 0 (List.take t a)) fun u=>cq 2 24 24 c [.agg [.int .u8 q,.str u]] g fun v w _x=>dq e (List.length a) fun y=>aN (List.drop y (List.take (List.length a) a)) fun z=>some (Sum.inr (0,[v,.str z],w))) (aN (IntKind.wrap .i64 (d+1)) fun x=>some (Sum.inl ([c,.str a,.int .i64 x],g)))) (some (Sum.inr (0,[c,.str a],Prod.snd b))))
noncomputable def vY:bR->Option (bR ⊕ Nat×bR):=fun a=>br a.1 fun b e=>br e fun f g=>dV f fun c=>bE g (aW (!c==[]) (aB (aI sH ([b,.str c,.int .i64 0],Prod.snd a)) fun d=>br d.2.1 fun h i=>br i fun j k=>dV j fun l=>bE k (some (Sum.inl ([h,.str l],Prod.snd d.2)))) (some (Sum.inr (0,[b],Prod.snd a))))
noncomputable def g12:AV->Option AV:=fun c=>dV c fun a=>aW (decide ((↑(List.length a):Int) > 65536)) (some (.tup [.aG,.int .i64 40])) (aU 19 [.str a] sZ fun d e _x=>bG d fun f=>aW (!f) (some (.tup [.aG,.int .i64 4])) (aB (aI vY ([.aG,.str a],e)) fun b=>br b.2.1 fun g h=>bE h (kQ b.2.2 0 (.tup [g,.int .i64 0]) fun i=>some i)))
theorem Ab (a:AV):bT vE 12 [a]=g12 a:=by kernel_rfl
noncomputable def lW (e:AV) (g:bR):bR->Option (bR ⊕ Nat×bR):=fun b=>br b.1 fun i m=>bE m (aB (cI 0 i fun n=>ax 1 false n b.2 fun o _x=>bg .u8 o fun p=>aW (p != 0) (aU 28 [e,.sl 1 [.str [108,101,116]] .shut] b.2 fun q r _x=>bG q fun s=>some ([.bool !s],r)) (some ([.bool false],Prod.snd b))) fun c=>br c.1 fun t u=>bG t fun v=>bE u (aW v (ax 1 false (.mp (St.h g.2) 3) c.2 fun w y=>aU 29 [e] c.2 fun z x j=>ag z fun A B C f=>(cu (apart (Fx.mk y dL.kept) j&&(apart (⟨[],.kept⟩) j&&true)) (ab f (ab f (aJ f fun k=>ab k (aJ k fun D=>cq 4 56 27 w [nA A B C D] x fun d E _x=>ab d (ab d (bn (bc vE) 1 (.mp (St.h g.2) 3) d [d] E fun _x a _x_1=>ax 2 true i a fun F _x=>cW F fun G H=>(ba (St.add a (VM.Obj.cells 24 [.int .u8 0,.str []])) fun I=>cL 2 (.mp (St.h a) 0) [.int .u8 G,.str H] I fun _x b0 _x_2=>aU 27 [e] b0 fun l b1 _x=>fU l fun J=>cC J 0 fun K=>cW K fun L M=>(fU l fun N=>cC N 1 fun O=>bg .i64 O fun _x=>cL 2 (.mp (St.h a) 0) [.int .u8 L,.str M] b1 fun _x P _x_3=>some (Sum.inl ([.mp (St.h a) 0],P)))))))))))) (some (Sum.inr (0,[],Prod.snd c)))))
noncomputable def nD (b:AV) (k:St):bR->Option (bR ⊕ Nat×bR):=fun a=>br a.1 fun l s=>bE s (cI 0 l fun t=>ax 1 false t a.2 fun u _x=>bg .u8 u fun v=>aW (v != 0) (ba (St.add a.2 (VM.Obj.cells 27 (nC 0 0 [] .aG))) fun w=>aU 28 [b,.sl 1 [.str [108,101,116]] .shut] w fun y m _x=>bG y fun z=>aB (aW z (aU 29 [b] m fun x A _x=>ag x fun B C D f=>(ab f (ab f (aJ f fun E=>aU 30 [b] A fun F G _x=>jJ F fun H=>lE true H fun n=>cu (nS 4 n) (cq 4 56 27 (.sl 4 [nA B C D E] .shut) n G fun d I _x=>ab d (ab d (bn (bc vE) 4 (.mp (St.h a.2) 0) (nA 5 0 [] d) (nC 5 0 [] d) I fun _x b0 _x_1=>some ([],b0)))))))) (bn (bc vE) 1 (.mp (St.h a.2) 0) (.int .u8 3) [.int .u8 3] m fun _x b1 _x_1=>aU 27 [b] b1 fun o g _x=>fU o fun J=>cC J 0 fun K=>cW K fun L M=>(fU o fun N=>cC N 1 fun O=>bg .i64 O fun _x=>ba (St.add g (VM.Obj.cells 24 [.int .u8 0,.str []])) fun P=>cL 2 (.mp (St.h g) 0) [.int .u8 L,.str M] P fun _x Q _x_2=>aB (aI (lW b a) ([.mp (St.h g) 0],Q)) fun p=>bE p.2.1 (some ([],Prod.snd p.2))))) fun e=>bE e.1 (ax 1 false (.mp (St.h k) 3) e.2 fun c0 _x=>ax 4 true (.mp (St.h a.2) 0) e.2 fun c1 _x=>ag c1 fun c2 c3 R i=>(ab i (ab i (aJ i fun q=>ab q (aJ q fun S=>cq 4 56 27 c0 [nA c2 c3 R S] e.2 fun j T _x=>ab j (ab j (iC (.mp (St.h k) 3) j T fun _x c _x_1=>ax 2 true l c fun U _x=>cW U fun V W=>(ba (St.add c (VM.Obj.cells 24 [.int .u8 0,.str []])) fun X=>cL 2 (.mp (St.h c) 0) [.int .u8 V,.str W] X fun _x Y _x_2=>aU 27 [b] Y fun r Z _x=>fU r fun d3=>cC d3 0 fun d4=>cW d4 fun d5 d6=>(fU r fun d7=>cC d7 1 fun d8=>bg .i64 d8 fun _x=>cL 2 (.mp (St.h c) 0) [.int .u8 d5,.str d6] Z fun _x d9 _x_3=>some (Sum.inl ([.mp (St.h c) 0],d9)))))))))))) (some (Sum.inr (0,[],Prod.snd a))))
noncomputable def MN:AV->St->Option (AV×St):=fun b st=>ba (St.add st (VM.Obj.cells 27 (nC 0 0 [] .aG))) fun a=>ba (St.add a (VM.Obj.cells 27 (nC 0 0 [] .aG))) fun n=>cL 4 (.mp (St.h a) 0) (nC 4 0 [] .aG) n fun _x o _x_1=>aU 27 [b] o fun g c _x=>fU g fun p=>cC p 0 fun q=>cW q fun r s=>(fU g fun t=>cC t 1 fun u=>bg .i64 u fun _x=>ba (St.add c (VM.Obj.cells 24 [.int .u8 0,.str []])) fun v=>cL 2 (.mp (St.h c) 0) [.int .u8 r,.str s] v fun _x w _x_2=>aB (aI (nD b a) ([.mp (St.h c) 0],w)) fun d=>bE d.2.1 (ax 1 false (.mp (St.h a) 3) d.2.2 fun y z=>aU 29 [b] d.2.2 fun x A i=>ag x fun B C D e=>(cu (apart (Fx.mk z dL.kept) i&&(apart (⟨[],.kept⟩) i&&true)) (ab e (ab e (aJ e fun j=>ab j (aJ j fun E=>cq 4 56 27 y [nA B C D E] A fun f F _x=>ab f (ab f (iC (.mp (St.h a) 3) f F fun _x k _x_3=>ax 4 true (.mp (St.h a) 0) k fun G _x=>ag G fun H I b0 l=>(ab l (cL 4 (.mp (St.h st) 0) (nC H I b0 l) k fun _x m _x_4=>ax 4 true (.mp (St.h st) 0) m fun b1 _x=>ag b1 fun J K L M=>(some (nA J K L M,m)))))))))))))
theorem Ih (a:AV) (st:St):cE vE 13 [a] st=MN a st:=by kernel_rfl
noncomputable def wI:bR->Option (bR ⊕ Nat×bR):=fun b=>br b.1 fun c f=>br f fun g h=>dV g fun a=>bE h (aW (!a==[]) (aU 32 [.str a] b.2 fun d i _x=>fU d fun j=>cC j 0 fun k=>bg .u8 k fun l=>fU d fun m=>cC m 1 fun n=>bg .i64 n fun e=>dq e (List.length a) fun o=>aN (List.drop 0 (List.take o a)) fun p=>cq 2 24 24 c [.agg [.int .u8 l,.str p]] i fun q r _x=>dq e (List.length a) fun s=>aN (List.drop s (List.take (List.length a) a)) fun t=>some (Sum.inl ([q,.str t],r))) (some (Sum.inr (0,[c],Prod.snd b))))
noncomputable def g14:AV->Option AV:=fun c=>dV c fun a=>aW (decide ((↑(List.length a):Int) > 65536)) (some (.tup [.aG,.int .i64 40])) (aU 31 [.str a] sZ fun d e _x=>bG d fun f=>aW (!f) (some (.tup [.aG,.int .i64 4])) (aB (aI wI ([.aG,.str a],e)) fun b=>br b.2.1 fun g h=>bE h (kQ b.2.2 0 (.tup [g,.int .i64 0]) fun i=>some i)))
theorem Aw (a:AV):bT vE 14 [a]=g14 a:=by kernel_rfl
noncomputable def g16:AV->AV->Option AV:=fun a b=>aU 37 [a,b] sZ fun c _x _x_1=>bg .i64 c fun d=>some (.bool (decide (d>=0)))
theorem Ii (a b:AV):bT vE 16 [a,b]=g16 a b:=by kernel_rfl
noncomputable def g17:AV->Option AV:=fun b=>ag b fun c d e a=>(ab a (aJ a fun f=>aU 8 [nA c d e f] sZ fun g _x _x_1=>bG g fun h=>some (.bool !h)))
theorem JK (a:AV):bT vE 17 [a]=g17 a:=by kernel_rfl
noncomputable def g19:AV->Option AV:=fun a=>dV a fun b=>eJ (bc vE) (gT (Prim.lib iY) [.str b]) sZ fun c _x _x_1=>bG c fun d=>some (.bool d)
theorem HE (a:AV):bT vE 19 [a]=g19 a:=by kernel_rfl
noncomputable def g20:AV->Option AV:=fun a=>dV a fun b=>aU 39 [.str b,.str [32,9,10,13]] sZ fun c _x _x_1=>bg .i64 c fun d=>some (.tup [.int .u8 1,.int .i64 d])
theorem Io (a:AV):bT vE 20 [a]=g20 a:=by kernel_rfl
noncomputable def jG (a:List UInt8):bR->Option (bR ⊕ Nat×bR):=fun e=>br e.1 fun m n=>bg .i64 m fun f=>br n fun o p=>bg .u8 o fun c=>br p fun q r=>bg .i64 q fun d=>br r fun s t=>bg .i64 s fun b=>bE t (aW (decide (b < (↑(List.length a):Int))) (dq b (List.length a) fun u=>aN (List.drop u (List.take (List.length a) a)) fun v=>aU 40 [.str v,.str [40,42]] e.2 fun w h _x=>bG w fun y=>aB (aW y (aN (IntKind.wrap .i64 (f+1)) fun z=>aN (IntKind.wrap .i64 (b+2)) fun x=>some (Sum.inl ([.int .i64 z,.int .u8 c,.int .i64 d,.int .i64 x],h))) (dq b (List.length a) fun A=>aN (List.drop A (List.take (List.length a) a)) fun B=>aU 40 [.str B,.str [42,41]] h fun C g _x=>bG C fun D=>aB (aW D (aN (IntKind.wrap .i64 (f - 1)) fun i=>aN (IntKind.wrap .i64 (b+2)) fun j=>aW (i==0) (some (Sum.inr (Sum.inr (Sum.inr (1,[.int .u8 2,.int .i64 j],g))))) (some (Sum.inl ([.int .i64 i,.int .u8 c,.int .i64 d,.int .i64 j],g)))) (aN (IntKind.wrap .i64 (b+1)) fun E=>some (Sum.inl ([.int .i64 f,.int .u8 c,.int .i64 d,.int .i64 E],g)))) fun F=>iP F fun k=>br k.1 fun G H=>bg .i64 G fun I=>br H fun b0 b1=>bg .u8 b0 fun J=>br b1 fun K L=>bg .i64 K fun M=>br L fun N O=>bg .i64 N fun P=>bE O (some (Sum.inl ([.int .i64 I,.int .u8 J,.int .i64 M,.int .i64 P],Prod.snd k))))) fun Q=>iP Q fun l=>br l.1 fun c0 c1=>bg .i64 c0 fun c2=>br c1 fun c3 R=>bg .u8 c3 fun S=>br R fun T U=>bg .i64 T fun V=>br U fun W X=>bg .i64 W fun Y=>bE X (some (Sum.inl ([.int .i64 c2,.int .u8 S,.int .i64 V,.int .i64 Y],Prod.snd l)))) (some (Sum.inr (0,[.int .u8 c,.int .i64 d],Prod.snd e))))
noncomputable def g21:AV->Option AV:=fun c=>dV c fun a=>aU 40 [.str a,.str [40,42]] sZ fun d e _x=>bG d fun f=>aW (!f) (some (.tup [.int .u8 0,.int .i64 0])) (aB (aI (jG a) ([.int .i64 0,.int .u8 0,.int .i64 0,.int .i64 0],e)) fun b=>br b.2.1 fun g h=>bg .u8 g fun i=>br h fun j k=>bg .i64 j fun l=>bE k (ja b.1 (some (.tup [.int .u8 9,.int .i64 (↑(List.length a):Int)])) fun _x=>some (.tup [.int .u8 i,.int .i64 l])))
theorem I3 (a:AV):bT vE 21 [a]=g21 a:=by kernel_rfl
noncomputable def g22:AV->Option AV:=fun e=>dV e fun a=>cu (Nat.ble 1 (List.length a)) (aN (List.drop 0 (List.take 1 a)) fun f=>aU 39 [.str f,.str [97,98,99,100,101,102,103,104,105,106,107,108,109,110,111,112,113,114,115,116,117,118,119,120,121,122,95]] sZ fun g h _x=>bg .i64 g fun i=>aW (i==0) (some (.tup [.int .u8 0,.int .i64 0])) (aU 39 [.str a,.str [97,98,99,100,101,102,103,104,105,106,107,108,109,110,111,112,113,114,115,116,117,118,119,120,121,122,95,65,66,67,68,69,70,71,72,73,74,75,76,77,78,79,80,81,82,83,84,85,86,87,88,89,90,39,48,49,50,51,52,53,54,55,56,57]] h fun j k _x=>bg .i64 j fun b=>aU 41 [] k fun l m c=>cu (apart c (⟨[],.kept⟩)&&true) (cu (apart c (⟨[],.kept⟩)&&true) (dq b (List.length a) fun n=>aN (List.drop 0 (List.take n a)) fun o=>cu (apart c (⟨[],.kept⟩)&&true) (eJ (bc vE) (jk (Env.T vE) 64 l (.str o) true) m fun d _x _x_1=>fU d fun p=>cC p 0 fun q=>bg .u8 q fun r=>fU d fun s=>cC s 1 fun t=>bG t fun u=>aW u (some (.tup [.int .u8 r,.int .i64 b])) (some (.tup [.int .u8 4,.int .i64 b])))))))
theorem IQ (a:AV):bT vE 22 [a]=g22 a:=by kernel_rfl
noncomputable def g23:AV->Option AV:=fun w=>dV w fun a=>aU 39 [.str a,.str [48,49,50,51,52,53,54,55,56,57]] sZ fun y h _x=>bg .i64 y fun c=>aB (aW (c==0) (some ([.bool true],h)) (dq c (List.length a) fun z=>aN (List.drop z (List.take (List.length a) a)) fun x=>aU 40 [.str x,.str [46]] h fun A B _x=>bG A fun C=>some ([.bool !C],B))) fun i=>br i.1 fun D E=>bG D fun F=>bE E (aW F (some (.tup [.int .u8 5,.int .i64 c])) (aN (IntKind.wrap .i64 (c+1)) fun G=>dq G (List.length a) fun H=>aN (List.drop H (List.take (List.length a) a)) fun I=>aU 39 [.str I,.str [48,49,50,51,52,53,54,55,56,57]] i.2 fun J K _x=>bg .i64 J fun d=>aN (IntKind.wrap .i64 (c+d)) fun b0=>aN (IntKind.wrap .i64 (c+1)) fun b1=>aN (IntKind.wrap .i64 (b1+d)) fun b=>aN (IntKind.wrap .i64 (b+1)) fun j=>aN (if (↑(List.length a):Int) < j then (↑(List.length a):Int) else j) fun L=>dq L (List.length a) fun k=>dq b k fun M=>aN (List.drop M (List.take k a)) fun N=>aU 39 [.str N,.str [101,69]] K fun O l _x=>bg .i64 O fun P=>aB (aW (decide (P > 0)) (aN (IntKind.wrap .i64 (b+1)) fun Q=>aN (IntKind.wrap .i64 (b+2)) fun m=>aN (if (↑(List.length a):Int) < m then (↑(List.length a):Int) else m) fun R=>dq R (List.length a) fun n=>dq Q n fun S=>aN (List.drop S (List.take n a)) fun c0=>aU 39 [.str c0,.str [43,45]] l fun c1 c2 _x=>bg .i64 c1 fun f=>aN (IntKind.wrap .i64 (b+1)) fun c3=>aN (IntKind.wrap .i64 (c3+f)) fun T=>dq T (List.length a) fun U=>aN (List.drop U (List.take (List.length a) a)) fun V=>aU 39 [.str V,.str [48,49,50,51,52,53,54,55,56,57]] c2 fun W o _x=>bg .i64 W fun g=>aB (aW (decide (g > 0)) (aN (IntKind.wrap .i64 (b+1)) fun X=>aN (IntKind.wrap .i64 (b+1)) fun Y=>aN (IntKind.wrap .i64 (Y+f)) fun Z=>aN (IntKind.wrap .i64 (Z+g)) fun d1=>dq d1 (List.length a) fun p=>dq X p fun d2=>aN (List.drop d2 (List.take p a)) fun d3=>aU 43 [.str d3,.str [43]] o fun d4 d5 _x=>dV d4 fun d6=>eJ (bc vE) (gT (Prim.lib (gl 115)) [.str d6]) d5 fun q r _x=>fU q fun d7=>cC d7 0 fun d8=>bg .i64 d8 fun d9=>fU q fun e0=>cC e0 1 fun e1=>aB (Cy BinOp.neq e1) fun e2=>bG e2 fun e3=>aB (aW e3 (some ([.int .i64 1073741824],r)) (some ([.int .i64 d9],r))) fun s=>br s.1 fun e4 e5=>bg .i64 e4 fun e6=>bE e5 (aN (IntKind.wrap .i64 (b+1)) fun e7=>aN (IntKind.wrap .i64 (e7+f)) fun e8=>aN (IntKind.wrap .i64 (e8+g)) fun e9=>some ([.int .i64 e9,.int .i64 e6],Prod.snd s))) (some ([.int .i64 b,.int .i64 0],o))) fun t=>br t.1 fun f0 f1=>bg .i64 f0 fun f2=>br f1 fun f3 f4=>bg .i64 f3 fun f5=>bE f4 (some ([.int .i64 f2,.int .i64 f5],Prod.snd t))) (some ([.int .i64 b,.int .i64 0],l))) fun e=>br e.1 fun f6 f7=>bg .i64 f6 fun u=>br f7 fun f8 f9=>bg .i64 f8 fun v=>bE f9 (aB (aW (decide (b0 > 15)) (some ([.bool true],Prod.snd e)) (aN (IntKind.wrap .i64 (v - d)) fun h0=>aW (decide (h0 < -22)) (some ([.bool true],Prod.snd e)) (aN (IntKind.wrap .i64 (v - d)) fun h1=>some ([.bool (decide (h1 > 22))],Prod.snd e)))) fun h2=>br h2.1 fun h3 h4=>bG h3 fun h5=>bE h4 (aW h5 (some (.tup [.int .u8 9,.int .i64 u])) (some (.tup [.int .u8 6,.int .i64 u]))))))
theorem IU (a:AV):bT vE 23 [a]=g23 a:=by kernel_rfl
noncomputable def eO (b:List UInt8):bR->Option (bR ⊕ Nat×bR):=fun c=>br c.1 fun k l=>bg .u8 k fun d=>br l fun m n=>bg .i64 m fun e=>br n fun o p=>bg .i64 o fun a=>bE p (aW (decide (a < (↑(List.length b):Int))) (aB (ey b a fun g=>aW ((↑(UInt8.toNat g):Int)==34) (aN (IntKind.wrap .i64 (a+1)) fun q=>some (Sum.inr (Sum.inr (1,[.int .u8 7,.int .i64 q],Prod.snd c)))) (aW ((↑(UInt8.toNat g):Int)==92) (aB (aN (IntKind.wrap .i64 (a+1)) fun r=>aW (decide (r < (↑(List.length b):Int))) (aN (IntKind.wrap .i64 (a+1)) fun s=>ey b s fun t=>aU 44 [.str [110,116,92,34],.int .u8 (↑(UInt8.toNat t):Int)] c.2 fun u v _x=>bg .i64 u fun w=>some ([.bool (decide (w>=0))],v)) (some ([.bool false],Prod.snd c))) fun f=>br f.1 fun y z=>bG y fun x=>bE z (aW x (aN (IntKind.wrap .i64 (a+1)) fun A=>some (Sum.inl ([.int .i64 A,.int .u8 d,.int .i64 e],Prod.snd f))) (dq a (List.length b) fun B=>aN (List.drop B (List.take (List.length b) b)) fun C=>aU 44 [.str C,.int .u8 34] f.2 fun D h _x=>bg .i64 D fun i=>aW (decide (i>=0)) (aN (IntKind.wrap .i64 (a+i)) fun E=>aN (IntKind.wrap .i64 (E+1)) fun F=>some (Sum.inr (Sum.inr (1,[.int .u8 9,.int .i64 F],h)))) (some (Sum.inr (Sum.inr (1,[.int .u8 9,.int .i64 (↑(List.length b):Int)],h))))))) (some (Sum.inl ([.int .i64 a,.int .u8 d,.int .i64 e],Prod.snd c))))) fun G=>iP G fun j=>br j.1 fun H I=>bg .i64 H fun b0=>br I fun b1 J=>bg .u8 b1 fun K=>br J fun L M=>bg .i64 L fun N=>bE M (aN (IntKind.wrap .i64 (b0+1)) fun O=>some (Sum.inl ([.int .u8 K,.int .i64 N,.int .i64 O],Prod.snd j)))) (some (Sum.inr (0,[.int .u8 d,.int .i64 e],Prod.snd c))))
noncomputable def g24:AV->Option AV:=fun g=>dV g fun a=>ey a 0 fun h=>aW ((↑(UInt8.toNat h):Int) != 34) (some (.tup [.int .u8 0,.int .i64 0])) (aU 44 [.str a,.int .u8 10] sZ fun i b _x=>bg .i64 i fun c=>aB (aW (decide (c>=0)) (dq c (List.length a) fun j=>aN (List.drop 0 (List.take j a)) fun k=>some ([.str k],b)) (some ([.str a],b))) fun d=>br d.1 fun l m=>dV l fun e=>bE m (aB (aI (eO e) ([.int .u8 0,.int .i64 0,.int .i64 1],Prod.snd d)) fun f=>br f.2.1 fun n o=>bg .u8 n fun p=>br o fun q r=>bg .i64 q fun s=>bE r (ja f.1 (some (.tup [.int .u8 9,.int .i64 (↑(List.length e):Int)])) fun _x=>some (.tup [.int .u8 p,.int .i64 s]))))
theorem Jq (a:AV):bT vE 24 [a]=g24 a:=by kernel_rfl
noncomputable def L9:AV->Option AV:=fun o=>dV o fun b=>aB (aW (decide ((↑(List.length b):Int) > 1)) (cu (Nat.ble 2 (List.length b)) (aN (List.drop 0 (List.take 2 b)) fun a=>aB (aW (a==[45,62]) (some ([.bool (a==[45,62])],sZ)) (aB (aW (a==[58,58]) (some ([.bool (a==[58,58])],sZ)) (aB (aW (a==[60,62]) (some ([.bool (a==[60,62])],sZ)) (aB (aW (a==[60,61]) (some ([.bool (a==[60,61])],sZ)) (aB (aW (a==[62,61]) (some ([.bool (a==[62,61])],sZ)) (aB (aW (a==[43,46]) (some ([.bool (a==[43,46])],sZ)) (aB (aW (a==[45,46]) (some ([.bool (a==[45,46])],sZ)) (aB (aW (a==[42,46]) (some ([.bool (a==[42,46])],sZ)) (aB (aW (a==[47,46]) (some ([.bool (a==[47,46])],sZ)) (aB (aW (a==[38,38]) (some ([.bool (a==[38,38])],sZ)) (some ([.bool (a==[124,124])],sZ))) fun c=>br c.1 fun p q=>bG p fun r=>bE q (some ([.bool r],Prod.snd c)))) fun d=>br d.1 fun s t=>bG s fun u=>bE t (some ([.bool u],Prod.snd d)))) fun e=>br e.1 fun v w=>bG v fun y=>bE w (some ([.bool y],Prod.snd e)))) fun f=>br f.1 fun z x=>bG z fun A=>bE x (some ([.bool A],Prod.snd f)))) fun g=>br g.1 fun B C=>bG B fun D=>bE C (some ([.bool D],Prod.snd g)))) fun h=>br h.1 fun E F=>bG E fun G=>bE F (some ([.bool G],Prod.snd h)))) fun i=>br i.1 fun H I=>bG H fun b0=>bE I (some ([.bool b0],Prod.snd i)))) fun j=>br j.1 fun b1 J=>bG b1 fun K=>bE J (some ([.bool K],Prod.snd j)))) fun k=>br k.1 fun L M=>bG L fun N=>bE M (some ([.bool N],Prod.snd k)))) fun l=>br l.1 fun O P=>bG O fun Q=>bE P (aW Q (some (Sum.inr (.tup [.int .u8 8,.int .i64 2]))) (some (Sum.inl ([.int .u8 0,.int .i64 0],Prod.snd l)))))) (some (Sum.inl ([.int .u8 0,.int .i64 0],sZ)))) fun c0=>iP c0 fun m=>br m.1 fun c1 c2=>bg .u8 c1 fun _x=>br c2 fun c3 R=>bg .i64 c3 fun _x=>bE R (cu (Nat.ble 1 (List.length b)) (aN (List.drop 0 (List.take 1 b)) fun S=>aU 39 [.str S,.str [40,41,91,93,44,59,124,61,60,62,43,45,42,47,94,64]] m.2 fun T _x _x_1=>bg .i64 T fun n=>aN (if n < 1 then n else 1) fun U=>some (.tup [.int .u8 8,.int .i64 U])))
theorem HS (a:AV):bT vE 25 [a]=L9 a:=by kernel_rfl
noncomputable def NI:AV->Option AV:=fun b=>dV b fun c=>aU 45 [.str c] sZ fun a _x _x_1=>fU a fun d=>cC d 0 fun e=>bg .i64 e fun _x=>fU a fun f=>cC f 1 fun g=>bg .i64 g fun h=>some (.tup [.int .u8 9,.int .i64 h])
theorem Iw (a:AV):bT vE 26 [a]=NI a:=by kernel_rfl
noncomputable def rB (b:AV) (st:St):bR->Option (bR ⊕ Nat×bR):=fun a=>br a.1 fun f g=>bg .i64 f fun e=>br g fun i j=>bg .i64 i fun c=>bE j (cu (notNil b) (cI 0 b fun k=>ax 1 false k a.2 fun l _x=>iQ l fun m=>aW (decide (c < (↑m:Int))) (cu (notNil b) (cI 0 b fun n=>ax 1 false n a.2 fun o _x=>fc 2 o c a.2 fun p _x=>ax 2 true p a.2 fun q _x=>cW q fun r s=>(aU 46 [.agg [.int .u8 r,.str s]] a.2 fun t d _x=>bG t fun u=>aW (!u) (cu (notNil b) (cI 0 b fun v=>ax 1 false v d fun w _x=>fc 2 w c d fun y _x=>ax 2 true y d fun z _x=>cW z fun x A=>(cL 2 (.mp (St.h st) 0) [.int .u8 x,.str A] d fun _x B _x_1=>some (Sum.inr (1,[.int .i64 c],B))))) (aN (IntKind.wrap .i64 (c+1)) fun C=>some (Sum.inl ([.int .i64 e,.int .i64 C],d)))))) (some (Sum.inr (0,[.int .i64 e],Prod.snd a)))))
noncomputable def Mn:AV->St->Option (AV×St):=fun b st=>ba (St.add st (VM.Obj.cells 24 [.int .u8 0,.str []])) fun d=>cu (notNil b) (cI 1 b fun f=>ax 1 false f d fun g _x=>bg .i64 g fun i=>aB (aI (rB b st) ([.int .i64 0,.int .i64 i],d)) fun a=>br a.2.1 fun j k=>bg .i64 j fun l=>bE k (ja a.1 (cu (notNil b) (cI 0 b fun m=>ax 1 false m a.2.2 fun n o=>iQ n fun p=>cL 2 (.mp (St.h st) 0) [.int .u8 0,.str []] a.2.2 fun _x e c=>cu (apart (⟨[],.kept⟩) c&&(apart (Fx.mk o dL.kept) c&&(apart (⟨[],.kept⟩) c&&(apart (⟨[],.kept⟩) c&&(apart (⟨[],.kept⟩) c&&true))))) (ax 2 true (.mp (St.h st) 0) e fun q _x=>cW q fun r s=>(some (.tup [.agg [.int .u8 r,.str s],.int .i64 (↑p:Int)],e))))) fun _x=>ax 2 true (.mp (St.h st) 0) a.2.2 fun t _x=>cW t fun u v=>(some (.tup [.agg [.int .u8 u,.str v],.int .i64 l],Prod.snd a.2))))
theorem EY (a:AV) (st:St):cE vE 27 [a] st=Mn a st:=by kernel_rfl
noncomputable def LL:AV->AV->St->Option (AV×St):=fun f c st=>aU 27 [f] st fun d b _x=>fU d fun g=>cC g 0 fun i=>cW i fun j k=>(fU d fun l=>cC l 1 fun m=>bg .i64 m fun _x=>ba (St.add b (VM.Obj.cells 24 [.int .u8 0,.str []])) fun n=>cL 2 (.mp (St.h b) 0) [.int .u8 j,.str k] n fun _x a _x_1=>aB (ax 1 false (.mp (St.h b) 0) a fun o _x=>bg .u8 o fun p=>aW (p==3) (ax 1 false (.mp (St.h b) 1) a fun q _x=>dV q fun r=>aU 47 [c,.str r] a fun s t _x=>bG s fun u=>some ([.bool u],t)) (ax 1 false (.mp (St.h b) 0) a fun v _x=>bg .u8 v fun w=>aW (w==8) (ax 1 false (.mp (St.h b) 1) a fun y _x=>dV y fun z=>aU 47 [c,.str z] a fun x A _x=>bG x fun B=>some ([.bool B],A)) (some ([.bool false],a)))) fun e=>br e.1 fun C D=>bG C fun E=>bE D (some (.bool E,Prod.snd e)))
theorem Jk (a b:AV) (st:St):cE vE 28 [a,b] st=LL a b st:=by kernel_rfl
noncomputable def rz (e:St) (i:AV) (j:Nat):bR->Option (bR ⊕ Nat×bR):=fun a=>br a.1 fun k l=>bg .i64 k fun b=>bE l (aW (decide (b < (↑j:Int))) (fc 2 i b a.2 fun m _x=>ax 2 true m a.2 fun n _x=>cW n fun f g=>(ba (St.add a.2 (VM.Obj.cells 24 [.int .u8 0,.str []])) fun o=>bn (bc vE) 2 (.mp (St.h a.2) 0) (.agg [.int .u8 f,.str g]) [.int .u8 f,.str g] o fun _x c _x_1=>ax 1 false (.mp (St.h e) 3) c fun p _x=>ax 2 true (.mp (St.h a.2) 0) c fun q _x=>cW q fun r s=>(cq 4 56 27 p [nA 1 r s .aG] c fun d t _x=>ab d (ab d (iC (.mp (St.h e) 3) d t fun _x u _x_2=>aN (IntKind.wrap .i64 (b+1)) fun v=>some (Sum.inl ([.int .i64 v],u))))))) (some (Sum.inr (0,[],Prod.snd a))))
noncomputable def Nt:AV->St->Option (AV×St):=fun a st=>ba (St.add st (VM.Obj.cells 27 (nC 0 0 [] .aG))) fun p=>aU 27 [a] p fun f c _x=>fU f fun q=>cC q 0 fun r=>cW r fun s t=>(fU f fun u=>cC u 1 fun v=>bg .i64 v fun g=>ba (St.add c (VM.Obj.cells 24 [.int .u8 0,.str []])) fun w=>cL 2 (.mp (St.h c) 0) [.int .u8 s,.str t] w fun _x b _x_1=>ax 2 true (.mp (St.h c) 0) b fun y _x=>cW y fun z x=>(ba (St.add b (VM.Obj.cells 27 (nC 0 0 [] .aG))) fun A=>cL 4 (.mp (St.h b) 0) (nC 1 z x .aG) A fun _x d _x_2=>cu (notNil a) (cI 0 a fun B=>ax 1 false B d fun C _x=>cu (notNil a) (cI 1 a fun D=>ax 1 false D d fun E _x=>bg .i64 E fun F=>iL 2 C (some F) (some g) none fun i=>iQ i fun G=>aB (aI (rz b i G) ([.int .i64 0],d)) fun e=>bE e.2.1 (aN (IntKind.wrap .i64 (g+1)) fun j=>cu (notNil a) (cI 0 a fun H=>ax 1 false H e.2.2 fun I _x=>iQ I fun k=>aN (if (↑k:Int) < j then (↑k:Int) else j) fun l=>cu (notNil a) (cI 1 a fun b0=>bn (bc vE) 1 b0 (.int .i64 l) [.int .i64 l] e.2.2 fun _x m _x_3=>ax 4 true (.mp (St.h b) 0) m fun b1 _x=>ag b1 fun J K L n=>(ab n (cL 4 (.mp (St.h st) 0) (nC J K L n) m fun _x o _x_4=>ax 4 true (.mp (St.h st) 0) o fun M _x=>ag M fun N O P Q=>(some (nA N O P Q,o)))))))))))
theorem Jc (a:AV) (st:St):cE vE 29 [a] st=Nt a st:=by kernel_rfl
noncomputable def pq (b:AV):bR->Option (bR ⊕ Nat×bR):=fun c=>br c.1 fun d g=>bE g (aU 48 [b,.int .u8 5,.str [95]] c.2 fun h e _x=>bG h fun i=>aW i (aU 49 [b,.bool true] e fun j k _x=>ag j fun l m n a=>(ab a (ab a (aJ a fun f=>ab f (aJ f fun o=>cq 4 56 27 d [nA l m n o] k fun p q _x=>some (Sum.inl ([p],q))))))) (some (Sum.inr (0,[d],e))))
noncomputable def MU:AV->St->Option (AV×St):=fun a st=>aU 28 [a,.sl 1 [.str [114,101,99]] .shut] st fun v j _x=>bG v fun w=>aB (aW w (aU 29 [a] j fun y k _x=>ag y fun z x A b=>(ab b (ab b (aJ b fun l=>ab l (aJ l fun B=>ba (St.add k (Obj.tok 1 27)) fun C=>some ([.sl 4 [nA z x A B] (Perm.own (St.h k))],C)))))) (some ([.aG],j))) fun m=>br m.1 fun n D=>bE D (aU 27 [a] m.2 fun o c _x=>fU o fun E=>cC E 0 fun F=>cW F fun G H=>(fU o fun I=>cC I 1 fun b0=>bg .i64 b0 fun _x=>ba (St.add c (VM.Obj.cells 24 [.int .u8 0,.str []])) fun b1=>cL 2 (.mp (St.h c) 0) [.int .u8 G,.str H] b1 fun _x d _x_1=>ax 1 false (.mp (St.h c) 0) d fun J _x=>bg .u8 J fun K=>aB (aW (K==4) (aU 29 [a] d fun L M _x=>ag L fun N O P e=>(ab e (ab e (aJ e fun p=>ab p (aJ p fun Q=>cq 4 56 27 n [nA N O P Q] M fun c0 c1 _x=>aB (aI (pq a) ([c0],c1)) fun q=>br q.2.1 fun c2 c3=>bE c3 (some ([c2],Prod.snd q.2))))))) (aU 49 [a,.bool true] d fun R S _x=>ag R fun T U V f=>(ab f (ab f (aJ f fun r=>ab r (aJ r fun W=>cq 4 56 27 n [nA T U V W] S fun X Y _x=>some ([X],Y))))))) fun s=>br s.1 fun Z d3=>bE d3 (aU 50 [a,.str [61]] s.2 fun d4 d5 _x=>ag d4 fun d6 d7 d8 g=>(aU 51 [a] d5 fun d9 e0 _x=>ag d9 fun e1 e2 e3 i=>(ab g (ab i (ab g (aJ g fun t=>ab i (aJ i fun u=>ab t (aJ t fun e4=>ab u (aJ u fun e5=>cq 4 56 27 Z [nA d6 d7 d8 e4,nA e1 e2 e3 e5] e0 fun e6 e7 _x=>some (oneOf [e6],e7))))))))))))
theorem H2 (a:AV) (st:St):cE vE 30 [a] st=MU a st:=by kernel_rfl
noncomputable def tL:bR->Option (bR ⊕ Nat×bR):=fun b=>br b.1 fun f g=>bG f fun c=>br g fun h i=>dV h fun a=>bE i (aW (!a==[]) (aU 52 [.str a] b.2 fun d e _x=>fU d fun j=>cC j 0 fun k=>bg .i64 k fun l=>fU d fun m=>cC m 1 fun n=>bg .i64 n fun o=>aW (decide (l < 0)) (some (Sum.inr (1,[.bool false],e))) (dq o (List.length a) fun p=>aN (List.drop p (List.take (List.length a) a)) fun q=>some (Sum.inl ([.bool c,.str q],e)))) (some (Sum.inr (0,[.bool c],Prod.snd b))))
noncomputable def NF:AV->Option AV:=fun b=>dV b fun c=>aB (aI tL ([.bool false,.str c],sZ)) fun a=>br a.2.1 fun d e=>bG d fun f=>bE e (ja a.1 (some (.bool true)) fun _x=>some (.bool f))
theorem Ia (a:AV):bT vE 31 [a]=NF a:=by kernel_rfl
noncomputable def sU (d:List UInt8):bR->Option (bR ⊕ Nat×bR):=fun b=>br b.1 fun e f=>bg .i64 e fun a=>bE f (aU 54 [.str d,.int .i64 a] b.2 fun g h _x=>bg .u8 g fun i=>aU 53 [.int .u8 i] h fun j c _x=>bG j fun k=>aW k (aN (IntKind.wrap .i64 (a+1)) fun l=>some (Sum.inl ([.int .i64 l],c))) (some (Sum.inr (0,[.int .i64 a],c))))
noncomputable def r8 (d:List UInt8):bR->Option (bR ⊕ Nat×bR):=fun b=>br b.1 fun e f=>bg .i64 e fun a=>bE f (aU 54 [.str d,.int .i64 a] b.2 fun g h _x=>bg .u8 g fun i=>aU 58 [.int .u8 i] h fun j c _x=>bG j fun k=>aW k (aN (IntKind.wrap .i64 (a+1)) fun l=>some (Sum.inl ([.int .i64 l],c))) (some (Sum.inr (0,[.int .i64 a],c))))
noncomputable def pU (f:List UInt8):bR->Option (bR ⊕ Nat×bR):=fun a=>br a.1 fun g h=>bg .u8 g fun c=>br h fun i j=>bg .i64 i fun d=>br j fun k l=>bg .i64 k fun b=>bE l (aW (decide (b < 11)) (fc 1 (.sl 1 [.str [45,62],.str [58,58],.str [60,62],.str [60,61],.str [62,61],.str [43,46],.str [45,46],.str [42,46],.str [47,46],.str [38,38],.str [124,124]] .shut) b a.2 fun m _x=>ax 1 false m a.2 fun n _x=>dV n fun o=>aU 55 [.str f,.int .i64 0,.str o] a.2 fun p e _x=>bG p fun q=>aW q (some (Sum.inr (1,[.int .u8 8,.int .i64 2],e))) (aN (IntKind.wrap .i64 (b+1)) fun r=>some (Sum.inl ([.int .u8 c,.int .i64 d,.int .i64 r],e)))) (some (Sum.inr (0,[.int .u8 c,.int .i64 d],Prod.snd a))))
noncomputable def pV (e:UInt8):bR->Option (bR ⊕ Nat×bR):=fun a=>br a.1 fun f g=>bg .u8 f fun c=>br g fun h i=>bg .i64 h fun d=>br i fun j k=>bg .i64 j fun b=>bE k (aW (decide (b < 16)) (ey [40,41,91,93,44,59,124,61,60,62,43,45,42,47,94,64] b fun l=>aW ((↑(UInt8.toNat l):Int)==(↑(UInt8.toNat e):Int)) (some (Sum.inr (1,[.int .u8 8,.int .i64 1],Prod.snd a))) (aN (IntKind.wrap .i64 (b+1)) fun m=>some (Sum.inl ([.int .u8 c,.int .i64 d,.int .i64 m],Prod.snd a)))) (some (Sum.inr (0,[.int .u8 c,.int .i64 d],Prod.snd a))))
noncomputable def MP:AV->Option AV:=fun r=>dV r fun a=>ey a 0 fun b=>aU 53 [.int .u8 (↑(UInt8.toNat b):Int)] sZ fun s g _x=>bG s fun t=>aW t (aB (aI (sU a) ([.int .i64 0],g)) fun u=>br u.2.1 fun v w=>bg .i64 v fun y=>bE w (some (.tup [.int .u8 1,.int .i64 y]))) (aU 55 [.str a,.int .i64 0,.str [40,42]] g fun z h _x=>bG z fun x=>aW x (aU 56 [.str a] h fun i _x _x_1=>fU i fun A=>cC A 0 fun B=>bg .i64 B fun j=>fU i fun C=>cC C 1 fun D=>bG D fun E=>aW E (some (.tup [.int .u8 2,.int .i64 j])) (some (.tup [.int .u8 9,.int .i64 j]))) (aU 57 [.int .u8 (↑(UInt8.toNat b):Int)] h fun F k _x=>bG F fun G=>aW G (aB (aI (r8 a) ([.int .i64 0],k)) fun l=>br l.2.1 fun H I=>bg .i64 H fun c=>bE I (dq c (List.length a) fun b0=>aN (List.drop 0 (List.take b0 a)) fun b1=>aW (b1==[95]) (some (.tup [.int .u8 8,.int .i64 1])) (dq c (List.length a) fun J=>aN (List.drop 0 (List.take J a)) fun K=>aU 59 [.str K] l.2.2 fun L _x _x_1=>bG L fun M=>aW M (some (.tup [.int .u8 3,.int .i64 c])) (some (.tup [.int .u8 4,.int .i64 c]))))) (aU 60 [.int .u8 (↑(UInt8.toNat b):Int)] k fun N d _x=>bG N fun O=>aW O (aU 61 [.str a] d fun m _x _x_1=>fU m fun P=>cC P 0 fun Q=>bg .u8 Q fun c0=>fU m fun c1=>cC c1 1 fun c2=>bg .i64 c2 fun c3=>some (.tup [.int .u8 c0,.int .i64 c3])) (aW ((↑(UInt8.toNat b):Int)==34) (aU 62 [.str a] d fun n _x _x_1=>fU n fun R=>cC R 0 fun S=>bg .u8 S fun T=>fU n fun U=>cC U 1 fun V=>bg .i64 V fun W=>some (.tup [.int .u8 T,.int .i64 W])) (aB (aI (pU a) ([.int .u8 0,.int .i64 0,.int .i64 0],d)) fun e=>br e.2.1 fun X Y=>bg .u8 X fun o=>br Y fun Z d3=>bg .i64 Z fun p=>bE d3 (ja e.1 (aB (aI (pV b) ([.int .u8 o,.int .i64 p,.int .i64 0],Prod.snd e.2)) fun f=>br f.2.1 fun d4 d5=>bg .u8 d4 fun d6=>br d5 fun d7 d8=>bg .i64 d7 fun d9=>bE d8 (ja f.1 (aU 52 [.str a] f.2.2 fun q _x _x_1=>fU q fun e0=>cC e0 0 fun e1=>bg .i64 e1 fun _x=>fU q fun e2=>cC e2 1 fun e3=>bg .i64 e3 fun e4=>some (.tup [.int .u8 9,.int .i64 e4])) fun _x=>some (.tup [.int .u8 d6,.int .i64 d9]))) fun _x=>some (.tup [.int .u8 o,.int .i64 p])))))))
theorem Jy (a:AV):bT vE 32 [a]=MP a:=by kernel_rfl
noncomputable def pS (e:AV) (f:AV) (g:Nat):bR->Option (bR ⊕ Nat×bR):=fun a=>br a.1 fun h i=>bg .i64 h fun c=>br i fun j k=>bg .i64 j fun b=>bE k (aW (decide (b < (↑g:Int))) (fc 4 e b a.2 fun l _x=>ax 4 true l a.2 fun m _x=>ag m fun n o p q=>(jX (bc vE) (Sx.prim (sx vE 37)) f [nA n o p q] a.2 fun r d _x=>bG r fun s=>aW s (some (Sum.inr (1,[.int .i64 b],d))) (aN (IntKind.wrap .i64 (b+1)) fun t=>some (Sum.inl ([.int .i64 c,.int .i64 t],d))))) (some (Sum.inr (0,[.int .i64 c],Prod.snd a))))
noncomputable def Mv:AV->AV->Option AV:=fun a c=>iQ a fun d=>aB (aI (pS a c d) ([.int .i64 0,.int .i64 0],sZ)) fun b=>br b.2.1 fun e f=>bg .i64 e fun g=>bE f (ja b.1 (some (.int .i64 (-1))) fun _x=>some (.int .i64 g))
theorem Dv (a b:AV):bT vE 37 [a,b]=Mv a b:=by kernel_rfl
noncomputable def MZ:AV->AV->Option AV:=fun b c=>dV b fun a=>dV c fun d=>eJ (bc vE) (gT (Prim.lib fb) [.str a,.str d]) sZ fun e _x _x_1=>dV e fun f=>aN (IntKind.wrap .i64 ((↑(List.length a):Int) - (↑(List.length f):Int))) fun g=>some (.int .i64 g)
theorem Hy (a b:AV):bT vE 39 [a,b]=MZ a b:=by kernel_rfl
noncomputable def Ns:AV->AV->Option AV:=fun a b=>dV a fun c=>dV b fun d=>aU 70 [.str c,.str d] sZ fun e _x _x_1=>bG e fun f=>some (.bool f)
theorem Im (a b:AV):bT vE 40 [a,b]=Ns a b:=by kernel_rfl
noncomputable def M5:AV->AV->Option AV:=fun a b=>dV a fun c=>dV b fun d=>aU 74 [.str c,.str d] sZ fun e _x _x_1=>dV e fun f=>some (.str f)
theorem HD (a b:AV):bT vE 43 [a,b]=M5 a b:=by kernel_rfl
noncomputable def M3:AV->AV->Option AV:=fun a b=>dV a fun c=>bg .u8 b fun d=>aU 75 [.str c,.int .u8 d] sZ fun e _x _x_1=>bg .i64 e fun f=>some (.int .i64 f)
theorem HW (a b:AV):bT vE 44 [a,b]=M3 a b:=by kernel_rfl
noncomputable def LY:AV->Option AV:=fun f=>dV f fun a=>aW (a==[]) (some (.tup [.int .i64 (-1),.int .i64 0])) (eJ (bc vE) (gT (Prim.lib gx) [.str a]) sZ fun b c _x=>fU b fun g=>cC g 0 fun h=>bg .i32 h fun d=>fU b fun i=>cC i 1 fun j=>bg .i64 j fun e=>aB (aW (d==65533) (some ([.bool (decide (e < 2))],c)) (some ([.bool false],c))) fun k=>br k.1 fun l m=>bG l fun n=>bE m (aW n (some (.tup [.int .i64 (-1),.int .i64 1])) (aN (IntKind.wrap .i64 d) fun o=>some (.tup [.int .i64 o,.int .i64 e]))))
theorem DZ (a:AV):bT vE 45 [a]=LY a:=by kernel_rfl
noncomputable def ME:AV->Option AV:=fun b=>cW b fun a _x=>(aB (aW (a==1) (some ([.bool true],sZ)) (some ([.bool (a==2)],sZ))) fun c=>br c.1 fun d e=>bG d fun f=>bE e (some (.bool f)))
theorem I1 (a:AV):bT vE 46 [a]=ME a:=by kernel_rfl
noncomputable def M6:AV->AV->Option AV:=fun a b=>dV b fun c=>aU 77 [a,.str c] sZ fun d _x _x_1=>bg .i64 d fun e=>some (.bool (decide (e>=0)))
theorem II (a b:AV):bT vE 47 [a,b]=M6 a b:=by kernel_rfl
noncomputable def L7:AV->AV->AV->St->Option (AV×St):=fun e k l st=>bg .u8 k fun m=>dV l fun n=>aU 27 [e] st fun f c _x=>fU f fun o=>cC o 0 fun p=>cW p fun q r=>(fU f fun s=>cC s 1 fun t=>bg .i64 t fun _x=>ba (St.add c (VM.Obj.cells 24 [.int .u8 0,.str []])) fun u=>cL 2 (.mp (St.h c) 0) [.int .u8 q,.str r] u fun _x b _x_1=>ax 1 false (.mp (St.h c) 0) b fun v _x=>bg .u8 v fun a=>aB (aW (a==4) (some ([.bool (a==4)],b)) (aB (aW (a==5) (some ([.bool (a==5)],b)) (aB (aW (a==7) (some ([.bool (a==7)],b)) (aB (aW (a==9) (some ([.bool (a==9)],b)) (some ([.bool (a==m)],b))) fun g=>br g.1 fun w y=>bG w fun z=>bE y (some ([.bool z],Prod.snd g)))) fun i=>br i.1 fun x A=>bG x fun B=>bE A (some ([.bool B],Prod.snd i)))) fun j=>br j.1 fun C D=>bG C fun E=>bE D (some ([.bool E],Prod.snd j)))) fun d=>br d.1 fun F G=>bG F fun H=>bE G (aW H (some (.bool true,Prod.snd d)) (aU 28 [e,.sl 1 [.str [116,114,117,101],.str [102,97,108,115,101],.str [40],.str [91],.str n] .shut] d.2 fun I b0 _x=>bG I fun b1=>some (.bool b1,b0))))
theorem Dn (a b c:AV) (st:St):cE vE 48 [a,b,c] st=L7 a b c st:=by kernel_rfl
noncomputable def ML:AV->AV->St->Option (AV×St):=fun a u st=>bG u fun v=>ba (St.add st (VM.Obj.cells 27 (nC 0 0 [] .aG))) fun e=>aB (aW v (some ([.str [112,97,116,116,101,114,110],.int .u8 17,.int .u8 18,.str [95],.fn (Fn.func 78) [a] [],.int .u8 5],e)) (some ([.str [101,120,112,114],.int .u8 14,.int .u8 15,.str [40],.fn (Fn.func 51) [a] [],.int .u8 6],e))) fun f=>br f.1 fun w y=>dV w fun z=>br y fun x A=>bg .u8 x fun B=>br A fun C D=>bg .u8 C fun E=>br D fun F G=>dV F fun H=>br G fun g I=>br I fun J K=>bg .u8 J fun L=>bE K (aU 27 [a] f.2 fun i c _x=>fU i fun M=>cC M 0 fun b0=>cW b0 fun b1 N=>(fU i fun O=>cC O 1 fun P=>bg .i64 P fun _x=>ba (St.add c (VM.Obj.cells 24 [.int .u8 0,.str []])) fun Q=>cL 2 (.mp (St.h c) 0) [.int .u8 b1,.str N] Q fun _x R _x_1=>aU 48 [a,.int .u8 L,.str H] R fun S b _x=>bG S fun T=>aW (!T) (aU 79 [.str z] b fun U c0 _x=>ag U fun c1 c2 c3 j=>(ab j (cL 4 (.mp (St.h st) 0) (nC c1 c2 c3 j) c0 fun _x k _x_2=>ax 4 true (.mp (St.h st) 0) k fun V _x=>ag V fun W X Y Z=>(some (nA W X Y Z,k))))) (ax 1 false (.mp (St.h c) 0) b fun c9 _x=>bg .u8 c9 fun d0=>aW (d0==9) (aU 29 [a] b fun d1 d2 _x=>ag d1 fun d3 d4 d5 d=>(ab d (ab d (aJ d fun d6=>cL 4 (.mp (St.h st) 0) [.int .u8 3,.int .u8 0,.str [],.sl 4 [nA d3 d4 d5 d6] .shut] d2 fun _x l _x_2=>ax 4 true (.mp (St.h st) 0) l fun d7 _x=>ag d7 fun d8 d9 e0 e1=>(some (nA d8 d9 e0 e1,l)))))) (aU 28 [a,.sl 1 [.str [40]] .shut] b fun e2 m _x=>bG e2 fun e3=>aW e3 (aU 80 [a,.int .u8 B,.str [44],.str [41],g] m fun e4 e5 _x=>ag e4 fun e6 e7 e8 n=>(ab n (cL 4 (.mp (St.h st) 0) (nC e6 e7 e8 n) e5 fun _x o _x_2=>ax 4 true (.mp (St.h st) 0) o fun e9 _x=>ag e9 fun f0 f1 f2 f3=>(some (nA f0 f1 f2 f3,o))))) (aU 28 [a,.sl 1 [.str [91]] .shut] m fun f4 p _x=>bG f4 fun f5=>aW f5 (aU 80 [a,.int .u8 E,.str [59],.str [93],g] p fun f6 f7 _x=>ag f6 fun f8 f9 h0 q=>(ab q (cL 4 (.mp (St.h st) 0) (nC f8 f9 h0 q) f7 fun _x r _x_2=>ax 4 true (.mp (St.h st) 0) r fun h1 _x=>ag h1 fun h2 h3 h4 h5=>(some (nA h2 h3 h4 h5,r))))) (aU 29 [a] p fun h6 h7 _x=>ag h6 fun h8 h9 i0 s=>(ab s (cL 4 (.mp (St.h st) 0) (nC h8 h9 i0 s) h7 fun _x t _x_2=>ax 4 true (.mp (St.h st) 0) t fun i1 _x=>ag i1 fun i2 i3 i4 i5=>(some (nA i2 i3 i4 i5,t))))))))))
theorem JD (a b:AV) (st:St):cE vE 49 [a,b] st=ML a b st:=by kernel_rfl
noncomputable def Mt:AV->AV->St->Option (AV×St):=fun a i st=>dV i fun b=>ba (St.add st (VM.Obj.cells 27 (nC 0 0 [] .aG))) fun j=>aU 28 [a,.sl 1 [.str b] .shut] j fun k c _x=>bG k fun l=>aW l (aU 29 [a] c fun m n _x=>ag m fun o p q d=>(ab d (cL 4 (.mp (St.h st) 0) (nC o p q d) n fun _x e _x_1=>ax 4 true (.mp (St.h st) 0) e fun r _x=>ag r fun s t u v=>(some (nA s t u v,e))))) (aU 79 [.str b] c fun w y _x=>ag w fun z x A f=>(ab f (cL 4 (.mp (St.h st) 0) (nC z x A f) y fun _x g _x_1=>ax 4 true (.mp (St.h st) 0) g fun B _x=>ag B fun C D E F=>(some (nA C D E F,g)))))
theorem DE (a b:AV) (st:St):cE vE 50 [a,b] st=Mt a b st:=by kernel_rfl
noncomputable def Nj:AV->St->Option (AV×St):=fun a st=>ba (St.add st (VM.Obj.cells 27 (nC 0 0 [] .aG))) fun d=>aU 81 [a,.str [101,120,112,114],.fn (Fn.func 82) [a] []] d fun e f _x=>ag e fun g i j b=>(ab b (cL 4 (.mp (St.h st) 0) (nC g i j b) f fun _x c _x_1=>ax 4 true (.mp (St.h st) 0) c fun k _x=>ag k fun l m n o=>(some (nA l m n o,c))))
theorem IC (a:AV) (st:St):cE vE 51 [a] st=Nj a st:=by kernel_rfl
noncomputable def gd (b:List UInt8):bR->Option (bR ⊕ Nat×bR):=fun c=>br c.1 fun k l=>bg .i64 k fun h=>br l fun m n=>bg .i64 m fun i=>br n fun o p=>bg .i64 o fun a=>bE p (aB (aW (decide (a<=4)) (some ([.bool (decide (a<=(↑(List.length b):Int)))],Prod.snd c)) (some ([.bool false],Prod.snd c))) fun d=>br d.1 fun q r=>bG q fun s=>bE r (aW s (dq a (List.length b) fun t=>aN (List.drop 0 (List.take t b)) fun u=>aU 83 [.str u] d.2 fun v j _x=>bg .i64 v fun e=>aB (aW (decide (e>=0)) (aU 84 [.int .i64 e] j fun w y f=>dV w fun z=>cu (apart f (⟨[],.kept⟩)&&true) (cu (apart f (⟨[],.kept⟩)&&true) (dq a (List.length b) fun x=>aN (List.drop 0 (List.take x b)) fun A=>cu (apart f (⟨[],.kept⟩)&&true) (some ([.bool (z==A)],y))))) (some ([.bool false],j))) fun g=>br g.1 fun B C=>bG B fun D=>bE C (aW D (some (Sum.inr (1,[.int .i64 e,.int .i64 a],Prod.snd g))) (aN (IntKind.wrap .i64 (a+1)) fun E=>some (Sum.inl ([.int .i64 h,.int .i64 i,.int .i64 E],Prod.snd g))))) (some (Sum.inr (0,[.int .i64 h,.int .i64 i],Prod.snd d)))))
noncomputable def L0:AV->Option AV:=fun c=>dV c fun a=>aW (a==[]) (some (.tup [.int .i64 (-1),.int .i64 0])) (aB (aI (gd a) ([.int .i64 0,.int .i64 0,.int .i64 1],sZ)) fun b=>br b.2.1 fun d e=>bg .i64 d fun f=>br e fun g h=>bg .i64 g fun i=>bE h (ja b.1 (some (.tup [.int .i64 (-1),.int .i64 1])) fun _x=>some (.tup [.int .i64 f,.int .i64 i])))
theorem DV (a:AV):bT vE 52 [a]=L0 a:=by kernel_rfl
noncomputable def MO:AV->Option AV:=fun b=>bg .u8 b fun a=>aB (aW (a==32) (some ([.bool true],sZ)) (aW (a==9) (some ([.bool true],sZ)) (aW (a==10) (some ([.bool true],sZ)) (some ([.bool (a==13)],sZ))))) fun c=>br c.1 fun d e=>bG d fun f=>bE e (some (.bool f))
theorem JH (a:AV):bT vE 53 [a]=MO a:=by kernel_rfl
noncomputable def MC:AV->AV->Option AV:=fun c d=>dV c fun b=>bg .i64 d fun a=>aB (aW (decide (a < 0)) (some ([.bool true],sZ)) (some ([.bool (decide (a>=(↑(List.length b):Int)))],sZ))) fun e=>br e.1 fun f g=>bG f fun h=>bE g (aW h (some (.int .u8 0)) (ey b a fun i=>some (.int .u8 (↑(UInt8.toNat i):Int))))
theorem HY (a b:AV):bT vE 54 [a,b]=MC a b:=by kernel_rfl
noncomputable def Mg:AV->AV->AV->Option AV:=fun d e f=>dV d fun a=>bg .i64 e fun b=>dV f fun g=>aB (aN (IntKind.wrap .i64 (b+2)) fun h=>aW (decide (h<=(↑(List.length a):Int))) (aN (IntKind.wrap .i64 (b+2)) fun i=>dq i (List.length a) fun c=>dq b c fun j=>aN (List.drop j (List.take c a)) fun k=>some ([.bool (k==g)],sZ)) (some ([.bool false],sZ))) fun l=>br l.1 fun m n=>bG m fun o=>bE n (some (.bool o))
theorem Jj (a b c:AV):bT vE 55 [a,b,c]=Mg a b c:=by kernel_rfl
noncomputable def kO (d:List UInt8):bR->Option (bR ⊕ Nat×bR):=fun e=>br e.1 fun m n=>bg .i64 m fun f=>br n fun o p=>bg .i64 o fun b=>br p fun q r=>bG q fun c=>br r fun s t=>bg .i64 s fun a=>bE t (aW (decide (a < (↑(List.length d):Int))) (aU 55 [.str d,.int .i64 a,.str [40,42]] e.2 fun u h _x=>bG u fun v=>aB (aW v (aN (IntKind.wrap .i64 (f+1)) fun w=>aN (IntKind.wrap .i64 (a+2)) fun y=>some (Sum.inl ([.int .i64 w,.int .i64 b,.bool c,.int .i64 y],h))) (aU 55 [.str d,.int .i64 a,.str [42,41]] h fun z g _x=>bG z fun x=>aB (aW x (aN (IntKind.wrap .i64 (f - 1)) fun i=>aN (IntKind.wrap .i64 (a+2)) fun j=>aW (i==0) (some (Sum.inr (Sum.inr (Sum.inr (1,[.int .i64 j,.bool true],g))))) (some (Sum.inl ([.int .i64 i,.int .i64 b,.bool c,.int .i64 j],g)))) (aN (IntKind.wrap .i64 (a+1)) fun A=>some (Sum.inl ([.int .i64 f,.int .i64 b,.bool c,.int .i64 A],g)))) fun B=>iP B fun k=>br k.1 fun C D=>bg .i64 C fun E=>br D fun F G=>bg .i64 F fun H=>br G fun I b0=>bG I fun b1=>br b0 fun J K=>bg .i64 J fun L=>bE K (some (Sum.inl ([.int .i64 E,.int .i64 H,.bool b1,.int .i64 L],Prod.snd k))))) fun M=>iP M fun l=>br l.1 fun N O=>bg .i64 N fun P=>br O fun Q c0=>bg .i64 Q fun c1=>br c0 fun c2 c3=>bG c2 fun R=>br c3 fun S T=>bg .i64 S fun U=>bE T (some (Sum.inl ([.int .i64 P,.int .i64 c1,.bool R,.int .i64 U],Prod.snd l)))) (some (Sum.inr (0,[.int .i64 b,.bool c],Prod.snd e))))
noncomputable def MY:AV->Option AV:=fun c=>dV c fun a=>aB (aI (kO a) ([.int .i64 1,.int .i64 0,.bool false,.int .i64 2],sZ)) fun b=>br b.2.1 fun d e=>bg .i64 d fun f=>br e fun g h=>bG g fun i=>bE h (ja b.1 (some (.tup [.int .i64 (↑(List.length a):Int),.bool false])) fun _x=>some (.tup [.int .i64 f,.bool i]))
theorem Jt (a:AV):bT vE 56 [a]=MY a:=by kernel_rfl
noncomputable def MR:AV->Option AV:=fun b=>bg .u8 b fun a=>aB (aW (decide (a>=97)) (aW (decide (a<=122)) (some ([.bool true],sZ)) (some ([.bool (a==95)],sZ))) (some ([.bool (a==95)],sZ))) fun c=>br c.1 fun d e=>bG d fun f=>bE e (some (.bool f))
theorem HV (a:AV):bT vE 57 [a]=MR a:=by kernel_rfl
noncomputable def Nw:AV->Option AV:=fun d=>bg .u8 d fun a=>aB (aU 57 [.int .u8 a] sZ fun e c _x=>bG e fun f=>aW f (some ([.bool true],c)) (aU 60 [.int .u8 a] c fun g b _x=>bG g fun h=>aW h (some ([.bool true],b)) (aW (decide (a>=65)) (aW (decide (a<=90)) (some ([.bool true],b)) (some ([.bool (a==39)],b))) (some ([.bool (a==39)],b))))) fun i=>br i.1 fun j k=>bG j fun l=>bE k (some (.bool l))
theorem Iu (a:AV):bT vE 58 [a]=Nw a:=by kernel_rfl
noncomputable def po (d:List UInt8):bR->Option (bR ⊕ Nat×bR):=fun a=>br a.1 fun e f=>bG e fun c=>br f fun g h=>bg .i64 g fun b=>bE h (aW (decide (b < 12)) (fc 1 (.sl 1 [.str [108,101,116],.str [114,101,99],.str [105,110],.str [102,117,110],.str [105,102],.str [116,104,101,110],.str [101,108,115,101],.str [109,97,116,99,104],.str [119,105,116,104],.str [116,114,117,101],.str [102,97,108,115,101],.str [109,111,100]] .shut) b a.2 fun i _x=>ax 1 false i a.2 fun j _x=>dV j fun k=>aW (k==d) (some (Sum.inr (1,[.bool true],Prod.snd a))) (aN (IntKind.wrap .i64 (b+1)) fun l=>some (Sum.inl ([.bool c,.int .i64 l],Prod.snd a)))) (some (Sum.inr (0,[.bool c],Prod.snd a))))
noncomputable def MT:AV->Option AV:=fun b=>dV b fun c=>aB (aI (po c) ([.bool false,.int .i64 0],sZ)) fun a=>br a.2.1 fun d e=>bG d fun f=>bE e (ja a.1 (some (.bool false)) fun _x=>some (.bool f))
theorem Ji (a:AV):bT vE 59 [a]=MT a:=by kernel_rfl
noncomputable def NA:AV->Option AV:=fun b=>bg .u8 b fun a=>aB (aW (decide (a>=48)) (some ([.bool (decide (a<=57))],sZ)) (some ([.bool false],sZ))) fun c=>br c.1 fun d e=>bG d fun f=>bE e (some (.bool f))
theorem IK (a:AV):bT vE 60 [a]=NA a:=by kernel_rfl
noncomputable def rT (d:List UInt8):bR->Option (bR ⊕ Nat×bR):=fun b=>br b.1 fun e f=>bg .i64 e fun a=>bE f (aU 54 [.str d,.int .i64 a] b.2 fun g h _x=>bg .u8 g fun i=>aU 60 [.int .u8 i] h fun j c _x=>bG j fun k=>aW k (aN (IntKind.wrap .i64 (a+1)) fun l=>some (Sum.inl ([.int .i64 l],c))) (some (Sum.inr (0,[.int .i64 a],c))))
noncomputable def wo (d:List UInt8):bR->Option (bR ⊕ Nat×bR):=fun b=>br b.1 fun e f=>bg .i64 e fun a=>bE f (aU 54 [.str d,.int .i64 a] b.2 fun g h _x=>bg .u8 g fun i=>aU 60 [.int .u8 i] h fun j c _x=>bG j fun k=>aW k (aN (IntKind.wrap .i64 (a+1)) fun l=>some (Sum.inl ([.int .i64 l],c))) (some (Sum.inr (0,[.int .i64 a],c))))
noncomputable def np (b:List UInt8):bR->Option (bR ⊕ Nat×bR):=fun c=>br c.1 fun g h=>bg .i64 g fun d=>br h fun i j=>bg .i64 i fun a=>bE j (aU 54 [.str b,.int .i64 a] c.2 fun k l _x=>bg .u8 k fun m=>aU 60 [.int .u8 m] l fun n e _x=>bG n fun o=>aW o (aN (IntKind.wrap .i64 (d * 10)) fun p=>ey b a fun q=>aN (IntKind.wrap .i64 (↑(UInt8.toNat q):Int)) fun r=>aN (IntKind.wrap .i64 (p+r)) fun s=>aN (IntKind.wrap .i64 (s - 48)) fun f=>aN (if 1000000 < f then 1000000 else f) fun t=>aN (IntKind.wrap .i64 (a+1)) fun u=>some (Sum.inl ([.int .i64 t,.int .i64 u],e))) (some (Sum.inr (0,[.int .i64 d,.int .i64 a],e))))
noncomputable def MQ:AV->Option AV:=fun w=>dV w fun a=>aB (aI (rT a) ([.int .i64 0],sZ)) fun j=>br j.2.1 fun y z=>bg .i64 y fun c=>bE z (aU 54 [.str a,.int .i64 c] j.2.2 fun x A _x=>bg .u8 x fun B=>aW (B != 46) (some (.tup [.int .u8 5,.int .i64 c])) (aN (IntKind.wrap .i64 (c+1)) fun C=>aB (aI (wo a) ([.int .i64 C],A)) fun k=>br k.2.1 fun D E=>bg .i64 D fun b=>bE E (aN (IntKind.wrap .i64 (c+1)) fun F=>aN (IntKind.wrap .i64 (F - b)) fun g=>aN (IntKind.wrap .i64 (b - 1)) fun G=>aB (aU 54 [.str a,.int .i64 b] k.2.2 fun H l _x=>bg .u8 H fun I=>aW (I==101) (some ([.bool true],l)) (aU 54 [.str a,.int .i64 b] l fun b0 b1 _x=>bg .u8 b0 fun J=>some ([.bool (J==69)],b1))) fun h=>br h.1 fun K L=>bG K fun M=>bE L (aB (aW M (aN (IntKind.wrap .i64 (b+1)) fun d=>aU 54 [.str a,.int .i64 d] h.2 fun N m _x=>bg .u8 N fun n=>aB (aW (n==45) (some ([.bool true],m)) (aU 54 [.str a,.int .i64 d] m fun O P _x=>bg .u8 O fun Q=>some ([.bool (Q==43)],P))) fun i=>br i.1 fun c0 c1=>bG c0 fun c2=>bE c1 (aB (aW c2 (aN (IntKind.wrap .i64 (d+1)) fun c3=>some ([.int .i64 c3],Prod.snd i)) (some ([.int .i64 d],Prod.snd i))) fun o=>br o.1 fun R S=>bg .i64 R fun p=>bE S (aB (aI (np a) ([.int .i64 0,.int .i64 p],Prod.snd o)) fun e=>br e.2.1 fun T U=>bg .i64 T fun q=>br U fun V W=>bg .i64 V fun r=>bE W (aB (aW (decide (r > p)) (aB (aW (n==45) (aN (IntKind.wrap .i64 (0 - q)) fun X=>some ([.int .i64 X],Prod.snd e.2)) (some ([.int .i64 q],Prod.snd e.2))) fun s=>br s.1 fun Y Z=>bg .i64 Y fun d3=>bE Z (aN (IntKind.wrap .i64 (g+d3)) fun d4=>some ([.int .i64 r,.int .i64 d4],Prod.snd s))) (some ([.int .i64 b,.int .i64 g],Prod.snd e.2))) fun t=>br t.1 fun d5 d6=>bg .i64 d5 fun d7=>br d6 fun d8 d9=>bg .i64 d8 fun e0=>bE d9 (some ([.int .i64 d7,.int .i64 e0],Prod.snd t)))))) (some ([.int .i64 b,.int .i64 g],Prod.snd h))) fun f=>br f.1 fun e1 e2=>bg .i64 e1 fun u=>br e2 fun e3 e4=>bg .i64 e3 fun v=>bE e4 (aB (aW (decide (G > 15)) (some ([.bool true],Prod.snd f)) (aW (decide (v < -22)) (some ([.bool true],Prod.snd f)) (some ([.bool (decide (v > 22))],Prod.snd f)))) fun e5=>br e5.1 fun e6 e7=>bG e6 fun e8=>bE e7 (aW e8 (some (.tup [.int .u8 9,.int .i64 u])) (some (.tup [.int .u8 6,.int .i64 u]))))))))
theorem Jr (a:AV):bT vE 61 [a]=MQ a:=by kernel_rfl
noncomputable def eN (c:List UInt8):bR->Option (bR ⊕ Nat×bR):=fun g=>br g.1 fun n o=>bg .u8 n fun j=>br o fun p q=>bg .i64 p fun k=>br q fun r s=>bG r fun d=>br s fun t u=>bg .i64 t fun a=>bE u (aB (aW (decide (a < (↑(List.length c):Int))) (ey c a fun v=>some ([.bool ((↑(UInt8.toNat v):Int) != 10)],Prod.snd g)) (some ([.bool false],Prod.snd g))) fun b=>br b.1 fun w y=>bG w fun z=>bE y (aW z (ey c a fun x=>aW ((↑(UInt8.toNat x):Int)==34) (aW d (aN (IntKind.wrap .i64 (a+1)) fun A=>some (Sum.inr (1,[.int .u8 9,.int .i64 A,.int .i64 a],Prod.snd b))) (aN (IntKind.wrap .i64 (a+1)) fun B=>some (Sum.inr (1,[.int .u8 7,.int .i64 B,.int .i64 a],Prod.snd b)))) (aB (ey c a fun C=>aW ((↑(UInt8.toNat C):Int)==92) (some ([.bool !d],Prod.snd b)) (some ([.bool false],Prod.snd b))) fun h=>br h.1 fun D E=>bG D fun F=>bE E (aB (aW F (aN (IntKind.wrap .i64 (a+1)) fun G=>aU 54 [.str c,.int .i64 G] h.2 fun H e _x=>bg .u8 H fun f=>aB (aW (f==110) (some ([.bool true],e)) (aW (f==116) (some ([.bool true],e)) (aW (f==92) (some ([.bool true],e)) (some ([.bool (f==34)],e))))) fun i=>br i.1 fun I b0=>bG I fun b1=>bE b0 (aB (aW b1 (aN (IntKind.wrap .i64 (a+1)) fun J=>some ([.int .i64 J,.bool d],Prod.snd i)) (some ([.int .i64 a,.bool true],Prod.snd i))) fun l=>br l.1 fun K L=>bg .i64 K fun M=>br L fun N O=>bG N fun P=>bE O (some ([.int .i64 M,.bool P],Prod.snd l)))) (some ([.int .i64 a,.bool d],Prod.snd h))) fun m=>br m.1 fun Q c0=>bg .i64 Q fun c1=>br c0 fun c2 c3=>bG c2 fun R=>bE c3 (aN (IntKind.wrap .i64 (c1+1)) fun S=>some (Sum.inl ([.int .u8 j,.int .i64 k,.bool R,.int .i64 S],Prod.snd m)))))) (some (Sum.inr (0,[.int .u8 j,.int .i64 k,.int .i64 a],Prod.snd b)))))
noncomputable def NJ:AV->Option AV:=fun b=>dV b fun c=>aB (aI (eN c) ([.int .u8 0,.int .i64 0,.bool false,.int .i64 1],sZ)) fun a=>br a.2.1 fun d e=>bg .u8 d fun f=>br e fun g h=>bg .i64 g fun i=>br h fun j k=>bg .i64 j fun l=>bE k (ja a.1 (some (.tup [.int .u8 9,.int .i64 l])) fun _x=>some (.tup [.int .u8 f,.int .i64 i]))
theorem HA (a:AV):bT vE 62 [a]=NJ a:=by kernel_rfl
noncomputable def LZ:AV->AV->Option AV:=fun c d=>dV c fun b=>dV d fun a=>aB (aW (decide ((↑(List.length b):Int)>=(↑(List.length a):Int))) (cu (Nat.ble (List.length a) (List.length b)) (aN (List.drop 0 (List.take (List.length a) b)) fun e=>some ([.bool (e==a)],sZ))) (some ([.bool false],sZ))) fun f=>br f.1 fun g h=>bG g fun i=>bE h (some (.bool i))
theorem IG (a b:AV):bT vE 70 [a,b]=LZ a b:=by kernel_rfl
noncomputable def M0:AV->AV->Option AV:=fun c d=>dV c fun a=>dV d fun b=>aU 70 [.str a,.str b] sZ fun e _x _x_1=>bG e fun f=>aW f (cu (Nat.ble (List.length b) (List.length a)) (aN (List.drop (List.length b) (List.take (List.length a) a)) fun g=>some (.str g))) (some (.str a))
theorem It (a b:AV):bT vE 74 [a,b]=M0 a b:=by kernel_rfl
noncomputable def Nk:AV->AV->Option AV:=fun a b=>dV a fun c=>bg .u8 b fun d=>eJ (bc vE) (gT Prim.indexByte [.str c,.int .u8 d]) sZ fun e _x _x_1=>bg .i64 e fun f=>some (.int .i64 f)
theorem HT (a b:AV):bT vE 75 [a,b]=Nk a b:=by kernel_rfl
noncomputable def py (d:AV) (e:List UInt8) (f:Nat):bR->Option (bR ⊕ Nat×bR):=fun a=>br a.1 fun g h=>bg .i64 g fun c=>br h fun i j=>bg .i64 i fun b=>bE j (aW (decide (b < (↑f:Int))) (fc 1 d b a.2 fun k _x=>ax 1 false k a.2 fun l _x=>dV l fun m=>aW (e==m) (some (Sum.inr (1,[.int .i64 b],Prod.snd a))) (aN (IntKind.wrap .i64 (b+1)) fun n=>some (Sum.inl ([.int .i64 c,.int .i64 n],Prod.snd a)))) (some (Sum.inr (0,[.int .i64 c],Prod.snd a))))
noncomputable def L8:AV->AV->Option AV:=fun a c=>dV c fun d=>iQ a fun e=>aB (aI (py a d e) ([.int .i64 0,.int .i64 0],sZ)) fun b=>br b.2.1 fun f g=>bg .i64 f fun h=>bE g (ja b.1 (some (.int .i64 (-1))) fun _x=>some (.int .i64 h))
theorem DO (a b:AV):bT vE 77 [a,b]=L8 a b:=by kernel_rfl
noncomputable def MS:AV->St->Option (AV×St):=fun a st=>ab a (ab a (ba (St.add st (VM.Obj.cells 39 [a])) fun b=>ba (St.add b (VM.Obj.cells 27 (nC 0 0 [] .aG))) fun c=>ax 1 false (.mp (St.h st) 0) c fun f _x=>aU 81 [f,.str [112,97,116,116,101,114,110],.fn (Fn.func 104) [] [.mp (St.h st) 0]] c fun g i _x=>ag g fun j k l d=>(ab d (cL 4 (.mp (St.h b) 0) (nC j k l d) i fun _x e _x_1=>ax 4 true (.mp (St.h b) 0) e fun m _x=>ag m fun n o p q=>(some (nA n o p q,e))))))
theorem Ij (a:AV) (st:St):cE vE 78 [a] st=MS a st:=by kernel_rfl
noncomputable def Np:AV->Option AV:=fun a=>dV a fun b=>some (nA 2 0 b .aG)
theorem JN (a:AV):bT vE 79 [a]=Np a:=by kernel_rfl
noncomputable def lH (g:AV) (o:AV) (p:List UInt8) (a:St):bR->Option (bR ⊕ Nat×bR):=fun i=>bE i.1 (aU 28 [g,.sl 1 [.str p] .shut] i.2 fun q b _x=>bG q fun r=>aW r (ax 1 false (.mp (St.h a) 3) b fun s t=>aU 29 [g] b fun u v j=>ag u fun w y z c=>(cu (apart (Fx.mk t dL.kept) j&&(apart (⟨[],.kept⟩) j&&true)) (ab c (ab c (aJ c fun k=>ab k (aJ k fun x=>cq 4 56 27 s [nA w y z x] v fun d A _x=>ab d (ab d (iC (.mp (St.h a) 3) d A fun _x l _x_1=>ax 1 false (.mp (St.h a) 3) l fun B C=>jX (bc vE) (Sx.prim (sx vE 80)) o [] l fun D E m=>ag D fun F G H e=>(cu (apart (Fx.mk C dL.kept) m&&(apart (⟨[],.kept⟩) m&&true)) (ab e (ab e (aJ e fun n=>ab n (aJ n fun I=>cq 4 56 27 B [nA F G H I] E fun f b0 _x=>ab f (ab f (iC (.mp (St.h a) 3) f b0 fun _x b1 _x_2=>some (Sum.inl ([],b1))))))))))))))))) (some (Sum.inr (0,[],b))))
noncomputable def Ni:AV->AV->AV->AV->AV->St->Option (AV×St):=fun b A B C m st=>bg .u8 A fun D=>dV B fun l1=>dV C fun n=>ba (St.add st (VM.Obj.cells 27 (nC 0 0 [] .aG))) fun E=>aU 29 [b] E fun F a _x=>ag F fun G H I d=>(ab d (ab d (aJ d fun J=>ba (St.add a (VM.Obj.cells 27 (nC 0 0 [] .aG))) fun K=>cL 4 (.mp (St.h a) 0) [.int .u8 D,.int .u8 0,.str [],.sl 4 [nA G H I J] .shut] K fun _x L _x_1=>aU 28 [b,.sl 1 [.str n] .shut] L fun M c _x=>bG M fun N=>aW N (ax 1 false (.mp (St.h a) 3) c fun b0 b1=>aU 29 [b] c fun O P o=>ag O fun Q R S e=>(cu (apart (Fx.mk b1 dL.kept) o&&(apart (⟨[],.kept⟩) o&&true)) (ab e (ab e (aJ e fun p=>ab p (aJ p fun T=>cq 4 56 27 b0 [nA Q R S T] P fun f U _x=>ab f (ab f (iC (.mp (St.h a) 3) f U fun _x q _x_2=>ax 4 true (.mp (St.h a) 0) q fun V _x=>ag V fun c0 c1 c2 r=>(ab r (cL 4 (.mp (St.h st) 0) (nC c0 c1 c2 r) q fun _x s _x_3=>ax 4 true (.mp (St.h st) 0) s fun c3 _x=>ag c3 fun W X Y Z=>(some (nA W X Y Z,s)))))))))))) (ax 1 false (.mp (St.h a) 3) c fun c8 c9=>jX (bc vE) (Sx.prim (sx vE 80)) m [] c fun d0 d1 t=>ag d0 fun d2 d3 d4 g=>(cu (apart (Fx.mk c9 dL.kept) t&&(apart (⟨[],.kept⟩) t&&true)) (ab g (ab g (aJ g fun u=>ab u (aJ u fun d5=>cq 4 56 27 c8 [nA d2 d3 d4 d5] d1 fun i d6 _x=>ab i (ab i (iC (.mp (St.h a) 3) i d6 fun _x d7 _x_2=>aB (aI (lH b m l1 a) ([],d7)) fun j=>bE j.2.1 (ax 1 false (.mp (St.h a) 3) j.2.2 fun d8 d9=>aU 50 [b,.str n] j.2.2 fun e0 e1 v=>ag e0 fun e2 e3 e4 k=>(cu (apart (Fx.mk d9 dL.kept) v&&(apart (⟨[],.kept⟩) v&&true)) (ab k (ab k (aJ k fun w=>ab w (aJ w fun e5=>cq 4 56 27 d8 [nA e2 e3 e4 e5] e1 fun l e6 _x=>ab l (ab l (iC (.mp (St.h a) 3) l e6 fun _x y _x_3=>ax 4 true (.mp (St.h a) 0) y fun e7 _x=>ag e7 fun e8 e9 f0 z=>(ab z (cL 4 (.mp (St.h st) 0) (nC e8 e9 f0 z) y fun _x x _x_4=>ax 4 true (.mp (St.h st) 0) x fun f1 _x=>ag f1 fun f2 f3 f4 f5=>(some (nA f2 f3 f4 f5,x)))))))))))))))))))))))
theorem Jn (a b c d e:AV) (st:St):cE vE 80 [a,b,c,d,e] st=Ni a b c d e st:=by kernel_rfl
noncomputable def Ma:AV->AV->AV->St->Option (AV×St):=fun a s t st=>dV s fun u=>ba (St.add st (VM.Obj.cells 27 (nC 0 0 [] .aG))) fun b=>cu (notNil a) (cI 2 a fun v=>ax 1 false v b fun w _x=>bg .i64 w fun y=>aW (y==64) (aU 27 [a] b fun g c _x=>fU g fun z=>cC z 0 fun x=>cW x fun A B=>(fU g fun C=>cC C 1 fun D=>bg .i64 D fun _x=>ba (St.add c (VM.Obj.cells 24 [.int .u8 0,.str []])) fun E=>cL 2 (.mp (St.h c) 0) [.int .u8 A,.str B] E fun _x d _x_1=>ax 1 false (.mp (St.h c) 0) d fun F _x=>bg .u8 F fun G=>aW (G==0) (aU 79 [.str u] d fun H I _x=>ag H fun b0 b1 J i=>(ab i (cL 4 (.mp (St.h st) 0) (nC b0 b1 J i) I fun _x j _x_2=>ax 4 true (.mp (St.h st) 0) j fun K _x=>ag K fun L M N O=>(some (nA L M N O,j))))) (aU 29 [a] d fun P Q _x=>ag P fun c0 c1 c2 e=>(ab e (ab e (aJ e fun c3=>cL 4 (.mp (St.h st) 0) [.int .u8 3,.int .u8 0,.str [],.sl 4 [nA c0 c1 c2 c3] .shut] Q fun _x k _x_2=>ax 4 true (.mp (St.h st) 0) k fun R _x=>ag R fun S T U V=>(some (nA S T U V,k)))))))) (cu (notNil a) (cI 2 a fun W=>ax 1 false W b fun X _x=>bg .i64 X fun Y=>aN (IntKind.wrap .i64 (Y+1)) fun l=>cu (notNil a) (cI 2 a fun Z=>bn (bc vE) 1 Z (.int .i64 l) [.int .i64 l] b fun _x d3 _x_1=>jX (bc vE) (Sx.prim (sx vE 81)) t [] d3 fun d4 f _x=>ag d4 fun d5 d6 d7 m=>(ba (St.add f (VM.Obj.cells 27 (nC 0 0 [] .aG))) fun d8=>ab m (cL 4 (.mp (St.h f) 0) (nC d5 d6 d7 m) d8 fun _x n _x_2=>cu (notNil a) (cI 2 a fun d9=>ax 1 false d9 n fun e0 _x=>bg .i64 e0 fun e1=>aN (IntKind.wrap .i64 (e1 - 1)) fun o=>cu (notNil a) (cI 2 a fun e2=>bn (bc vE) 1 e2 (.int .i64 o) [.int .i64 o] n fun _x p _x_3=>ax 4 true (.mp (St.h f) 0) p fun e3 _x=>ag e3 fun e4 e5 e6 q=>(ab q (cL 4 (.mp (St.h st) 0) (nC e4 e5 e6 q) p fun _x r _x_4=>ax 4 true (.mp (St.h st) 0) r fun e7 _x=>ag e7 fun e8 e9 f0 f1=>(some (nA e8 e9 f0 f1,r))))))))))))
theorem Dw (a b c:AV) (st:St):cE vE 81 [a,b,c] st=Ma a b c st:=by kernel_rfl
noncomputable def pd (b:AV) (e:St):bR->Option (bR ⊕ Nat×bR):=fun c=>bE c.1 (aU 48 [b,.int .u8 5,.str [95]] c.2 fun f d _x=>bG f fun g=>aW g (aU 49 [b,.bool true] d fun i j _x=>ag i fun k l m a=>(ab a (ab a (aJ a fun n=>aU 105 [.sl 4 [nA k l m n] .shut,.mp (St.h e) 0] j fun _x o _x_1=>some (Sum.inl ([],o)))))) (some (Sum.inr (0,[],d))))
noncomputable def pE (a:AV) (d:St):bR->Option (bR ⊕ Nat×bR):=fun e=>bE e.1 (aU 28 [a,.sl 1 [.str [124]] .shut] e.2 fun g f _x=>bG g fun i=>aW i (aU 29 [a] f fun j k _x=>ag j fun l m n b=>(ab b (ab b (aJ b fun o=>aU 105 [.sl 4 [nA l m n o] .shut,.mp (St.h d) 0] k fun _x p _x_1=>aU 106 [a] p fun q r _x=>ag q fun s t u c=>(ab c (ab c (aJ c fun v=>aU 105 [.sl 4 [nA s t u v] .shut,.mp (St.h d) 0] r fun _x w _x_2=>some (Sum.inl ([],w))))))))) (some (Sum.inr (0,[],f))))
noncomputable def M1:AV->St->Option (AV×St):=fun b st=>ba (St.add st (VM.Obj.cells 27 (nC 0 0 [] .aG))) fun a=>ba (St.add a (VM.Obj.cells 27 (nC 0 0 [] .aG))) fun b1=>aU 28 [b,.sl 1 [.str [108,101,116]] .shut] b1 fun K u _x=>bG K fun x=>aB (aW x (bn (bc vE) 1 (.mp (St.h a) 0) (.int .u8 6) [.int .u8 6] u fun _x L _x_1=>aU 29 [b] L fun M N _x=>ag M fun O x P c=>(ab c (ab c (aJ c fun Q=>aU 105 [.sl 4 [nA O x P Q] .shut,.mp (St.h a) 0] N fun _x R _x_2=>aU 30 [b] R fun S c0 _x=>aU 105 [S,.mp (St.h a) 0] c0 fun _x c1 _x_3=>aU 50 [b,.str [105,110]] c1 fun c2 c3 _x=>ag c2 fun T U V d=>(ab d (ab d (aJ d fun W=>aU 105 [.sl 4 [nA T U V W] .shut,.mp (St.h a) 0] c3 fun _x X _x_4=>some (Sum.inl ([],X))))))))) (aU 28 [b,.sl 1 [.str [102,117,110]] .shut] u fun Y v _x=>bG Y fun Z=>aB (aW Z (bn (bc vE) 1 (.mp (St.h a) 0) (.int .u8 7) [.int .u8 7] v fun _x d1 _x_1=>aU 29 [b] d1 fun d2 d3 _x=>ag d2 fun d4 d5 d6 e=>(ab e (ab e (aJ e fun d7=>aU 105 [.sl 4 [nA d4 d5 d6 d7] .shut,.mp (St.h a) 0] d3 fun _x d8 _x_2=>aU 49 [b,.bool true] d8 fun d9 e0 _x=>ag d9 fun e1 e2 e3 f=>(ab f (ab f (aJ f fun e4=>aU 105 [.sl 4 [nA e1 e2 e3 e4] .shut,.mp (St.h a) 0] e0 fun _x e5 _x_3=>aB (aI (pd b a) ([],e5)) fun w=>bE w.2.1 (aU 50 [b,.str [45,62]] w.2.2 fun e6 e7 _x=>ag e6 fun e8 e9 f0 g=>(ab g (ab g (aJ g fun f1=>aU 105 [.sl 4 [nA e8 e9 f0 f1] .shut,.mp (St.h a) 0] e7 fun _x f2 _x_4=>some (Sum.inl ([],f2))))))))))))) (aU 28 [b,.sl 1 [.str [105,102]] .shut] v fun f3 y _x=>bG f3 fun f4=>aW f4 (bn (bc vE) 1 (.mp (St.h a) 0) (.int .u8 8) [.int .u8 8] y fun _x f5 _x_1=>aU 29 [b] f5 fun f6 f7 _x=>ag f6 fun f8 f9 h0 i=>(ab i (ab i (aJ i fun h1=>aU 105 [.sl 4 [nA f8 f9 h0 h1] .shut,.mp (St.h a) 0] f7 fun _x h2 _x_2=>aU 51 [b] h2 fun h3 h4 _x=>ag h3 fun h5 h6 h7 j=>(ab j (ab j (aJ j fun h8=>aU 105 [.sl 4 [nA h5 h6 h7 h8] .shut,.mp (St.h a) 0] h4 fun _x h9 _x_3=>aU 50 [b,.str [116,104,101,110]] h9 fun i0 i1 _x=>ag i0 fun i2 i3 i4 k=>(ab k (ab k (aJ k fun i5=>aU 105 [.sl 4 [nA i2 i3 i4 i5] .shut,.mp (St.h a) 0] i1 fun _x i6 _x_4=>aU 51 [b] i6 fun i7 i8 _x=>ag i7 fun i9 j0 j1 l=>(ab l (ab l (aJ l fun j2=>aU 105 [.sl 4 [nA i9 j0 j1 j2] .shut,.mp (St.h a) 0] i8 fun _x j3 _x_5=>aU 50 [b,.str [101,108,115,101]] j3 fun j4 j5 _x=>ag j4 fun j6 j7 j8 m=>(ab m (ab m (aJ m fun j9=>aU 105 [.sl 4 [nA j6 j7 j8 j9] .shut,.mp (St.h a) 0] j5 fun _x k0 _x_6=>some (Sum.inl ([],k0)))))))))))))))))) (aU 28 [b,.sl 1 [.str [109,97,116,99,104]] .shut] y fun k1 z _x=>bG k1 fun k2=>aW k2 (bn (bc vE) 1 (.mp (St.h a) 0) (.int .u8 9) [.int .u8 9] z fun _x k3 _x_1=>aU 29 [b] k3 fun k4 k5 _x=>ag k4 fun k6 k7 k8 n=>(ab n (ab n (aJ n fun k9=>aU 105 [.sl 4 [nA k6 k7 k8 k9] .shut,.mp (St.h a) 0] k5 fun _x m0 _x_2=>aU 51 [b] m0 fun m1 m2 _x=>ag m1 fun m3 m4 m5 o=>(ab o (ab o (aJ o fun m6=>aU 105 [.sl 4 [nA m3 m4 m5 m6] .shut,.mp (St.h a) 0] m2 fun _x m7 _x_3=>aU 50 [b,.str [119,105,116,104]] m7 fun m8 m9 _x=>ag m8 fun n0 n1 n2 p=>(ab p (ab p (aJ p fun n3=>aU 105 [.sl 4 [nA n0 n1 n2 n3] .shut,.mp (St.h a) 0] m9 fun _x n4 _x_4=>aU 28 [b,.sl 1 [.str [124]] .shut] n4 fun n5 A _x=>bG n5 fun n6=>aB (aW n6 (aU 29 [b] A fun n7 n8 _x=>ag n7 fun n9 o0 o1 q=>(ab q (ab q (aJ q fun o2=>aU 105 [.sl 4 [nA n9 o0 o1 o2] .shut,.mp (St.h a) 0] n8 fun _x o3 _x_5=>some ([],o3))))) (some ([],A))) fun B=>bE B.1 (aU 106 [b] B.2 fun o4 o5 _x=>ag o4 fun o6 o7 o8 r=>(ab r (ab r (aJ r fun o9=>aU 105 [.sl 4 [nA o6 o7 o8 o9] .shut,.mp (St.h a) 0] o5 fun _x p0 _x_5=>aB (aI (pE b a) ([],p0)) fun s=>bE s.2.1 (ax 4 true (.mp (St.h a) 0) s.2.2 fun p1 _x=>ag p1 fun p2 p3 p4 C=>(ab C (cL 4 (.mp (St.h st) 0) (nC p2 p3 p4 C) s.2.2 fun _x D _x_6=>aB (aB (ax 4 true (.mp (St.h st) 0) D fun p5 _x=>ag p5 fun p6 p7 p8 p9=>(some (nA p6 p7 p8 p9,D))) fun q0=>some (Sum.inr q0)) fun q1=>some (Sum.inr q1)))))))))))))))))) (aU 107 [b,.int .i64 0] z fun q2 q3 _x=>ag q2 fun q4 q5 q6 E=>(ab E (cL 4 (.mp (St.h st) 0) (nC q4 q5 q6 E) q3 fun _x F _x_1=>aB (aB (ax 4 true (.mp (St.h st) 0) F fun q7 _x=>ag q7 fun q8 q9 s0 s1=>(some (nA q8 q9 s0 s1,F))) fun s2=>some (Sum.inr s2)) fun s3=>some (Sum.inr s3))))))) fun s4=>iP s4 fun G=>bE G.1 (some (Sum.inl ([],Prod.snd G))))) fun s5=>iP s5 fun H=>bE H.1 (aU 51 [b] H.2 fun s6 s7 _x=>ag s6 fun s8 s9 t0 t=>(ab t (ab t (aJ t fun t1=>aU 105 [.sl 4 [nA s8 s9 t0 t1] .shut,.mp (St.h a) 0] s7 fun _x I _x_1=>ax 4 true (.mp (St.h a) 0) I fun t2 _x=>ag t2 fun t3 t4 t5 J=>(ab J (cL 4 (.mp (St.h st) 0) (nC t3 t4 t5 J) I fun _x b0 _x_2=>ax 4 true (.mp (St.h st) 0) b0 fun t6 _x=>ag t6 fun t7 t8 t9 u0=>(some (nA t7 t8 t9 u0,b0))))))))
theorem Iq (a:AV) (st:St):cE vE 82 [a] st=M1 a st:=by kernel_rfl
noncomputable def sN (c:List UInt8):bR->Option (bR ⊕ Nat×bR):=fun a=>br a.1 fun e f=>bg .i64 e fun d=>br f fun g h=>bg .i64 g fun b=>bE h (aW (decide (b < (↑(List.length c):Int))) (aN (IntKind.wrap .i64 (d * 64)) fun i=>ey c b fun j=>aN (IntKind.wrap .i64 (↑(UInt8.toNat j):Int)) fun k=>aN (IntKind.wrap .i64 (i+k)) fun l=>aN (IntKind.wrap .i64 (l - 128)) fun m=>aN (IntKind.wrap .i64 (b+1)) fun n=>some (Sum.inl ([.int .i64 m,.int .i64 n],Prod.snd a))) (some (Sum.inr (0,[.int .i64 d],Prod.snd a))))
noncomputable def Mh:AV->Option AV:=fun b=>dV b fun a=>aW ((↑(List.length a):Int)==1) (ey a 0 fun c=>aN (IntKind.wrap .i64 (↑(UInt8.toNat c):Int)) fun d=>some (.int .i64 d)) (ey a 0 fun e=>aN (IntKind.wrap .i64 (↑(UInt8.toNat e):Int)) fun f=>fc 1 (.sl 1 [.int .i64 0,.int .i64 0,.int .i64 192,.int .i64 224,.int .i64 240] .shut) (↑(List.length a):Int) sZ fun g _x=>ax 1 false g sZ fun h _x=>bg .i64 h fun i=>aN (IntKind.wrap .i64 (f - i)) fun j=>aB (aI (sN a) ([.int .i64 j,.int .i64 1],sZ)) fun k=>br k.2.1 fun l m=>bg .i64 l fun n=>bE m (some (.int .i64 n)))
theorem JB (a:AV):bT vE 83 [a]=Mh a:=by kernel_rfl
noncomputable def Ny:AV->Option AV:=fun b=>bg .i64 b fun a=>aB (aW (decide (a < 0)) (some ([.bool true],sZ)) (aW (decide (a > 1114111)) (some ([.bool true],sZ)) (aW (decide (a>=55296)) (some ([.bool (decide (a<=57343))],sZ)) (some ([.bool false],sZ))))) fun c=>br c.1 fun d e=>bG d fun f=>bE e (aW f (some (.str [])) (aW (decide (a < 128)) (aN (IntKind.wrap .u8 a) fun g=>aN [UInt8.ofNat (Int.toNat g)] fun h=>some (.str h)) (aW (decide (a < 2048)) (aN (IntKind.wrap .i64 (Int.tdiv a 64)) fun i=>aN (IntKind.wrap .i64 (192+i)) fun j=>aN (IntKind.wrap .u8 j) fun k=>aN (Int.tmod a 64) fun l=>aN (IntKind.wrap .i64 (128+l)) fun m=>aN (IntKind.wrap .u8 m) fun n=>aN [UInt8.ofNat (Int.toNat k),UInt8.ofNat (Int.toNat n)] fun o=>some (.str o)) (aW (decide (a < 65536)) (aN (IntKind.wrap .i64 (Int.tdiv a 4096)) fun p=>aN (IntKind.wrap .i64 (224+p)) fun q=>aN (IntKind.wrap .u8 q) fun r=>aN (IntKind.wrap .i64 (Int.tdiv a 64)) fun s=>aN (Int.tmod s 64) fun t=>aN (IntKind.wrap .i64 (128+t)) fun u=>aN (IntKind.wrap .u8 u) fun v=>aN (Int.tmod a 64) fun w=>aN (IntKind.wrap .i64 (128+w)) fun y=>aN (IntKind.wrap .u8 y) fun z=>aN [UInt8.ofNat (Int.toNat r),UInt8.ofNat (Int.toNat v),UInt8.ofNat (Int.toNat z)] fun x=>some (.str x)) (aN (IntKind.wrap .i64 (Int.tdiv a 262144)) fun A=>aN (IntKind.wrap .i64 (240+A)) fun B=>aN (IntKind.wrap .u8 B) fun C=>aN (IntKind.wrap .i64 (Int.tdiv a 4096)) fun D=>aN (Int.tmod D 64) fun E=>aN (IntKind.wrap .i64 (128+E)) fun F=>aN (IntKind.wrap .u8 F) fun G=>aN (IntKind.wrap .i64 (Int.tdiv a 64)) fun H=>aN (Int.tmod H 64) fun I=>aN (IntKind.wrap .i64 (128+I)) fun b0=>aN (IntKind.wrap .u8 b0) fun b1=>aN (Int.tmod a 64) fun J=>aN (IntKind.wrap .i64 (128+J)) fun K=>aN (IntKind.wrap .u8 K) fun L=>aN [UInt8.ofNat (Int.toNat C),UInt8.ofNat (Int.toNat G),UInt8.ofNat (Int.toNat b1),UInt8.ofNat (Int.toNat L)] fun M=>some (.str M))))))
theorem IB (a:AV):bT vE 84 [a]=Ny a:=by kernel_rfl
noncomputable def KO:AV->St->Option (AV×St):=fun b st=>ba (St.add st (VM.Obj.cells 27 (nC 0 0 [] .aG))) fun k=>ax 1 false b k fun r _x=>aU 49 [r,.bool true] k fun s a _x=>ag s fun t u v l=>(ba (St.add a (VM.Obj.cells 27 (nC 0 0 [] .aG))) fun w=>ab l (cL 4 (.mp (St.h a) 0) (nC t u v l) w fun _x m _x_1=>ax 1 false b m fun y _x=>aU 28 [y,.sl 1 [.str [58,58]] .shut] m fun z d _x=>bG z fun x=>aB (aW x (ax 1 false b d fun A _x=>aU 29 [A] d fun B e _x=>ag B fun C D E n=>(ba (St.add e (VM.Obj.cells 27 (nC 0 0 [] .aG))) fun F=>ab n (cL 4 (.mp (St.h e) 0) (nC C D E n) F fun _x c _x_2=>ax 4 true (.mp (St.h a) 0) c fun G H=>ag G fun I b0 b1 f=>(ax 4 true (.mp (St.h e) 0) c fun J K=>ag J fun L M N g=>(ax 1 false b c fun O _x=>aU 78 [O] c fun P Q o=>ag P fun c0 c1 c2 i=>(cu (apart (Fx.mk K dL.kept) o&&(apart (Fx.mk H dL.kept) o&&true)) (ab f (ab g (ab i (ab f (aJ f fun c3=>ab g (aJ g fun R=>ab i (aJ i fun S=>cL 4 (.mp (St.h a) 0) [.int .u8 16,.int .u8 0,.str [],.sl 4 [nA I b0 b1 c3,nA L M N R,nA c0 c1 c2 S] .shut] Q fun _x T _x_3=>some ([],T)))))))))))))) (some ([],d))) fun j=>bE j.1 (ax 4 true (.mp (St.h a) 0) j.2 fun U _x=>ag U fun V W X p=>(ab p (cL 4 (.mp (St.h st) 0) (nC V W X p) j.2 fun _x q _x_2=>ax 4 true (.mp (St.h st) 0) q fun Y _x=>ag Y fun Z d3 d4 d5=>(some (nA Z d3 d4 d5,q)))))))
theorem FM (a:AV) (st:St):cE vE 104 [a] st=KO a st:=by kernel_rfl
noncomputable def Kw:AV->AV->St->Option (AV×St):=fun d b st=>cI 3 b fun e=>ax 1 false e st fun f _x=>jJ d fun g=>lE true g fun c=>cu (nS 4 c) (cq 4 56 27 f c st fun a h _x=>cI 3 b fun i=>ab a (ab a (iC i a h fun _x j _x_1=>some (.tup [],j))))
theorem Fw (a b:AV) (st:St):cE vE 105 [a,b] st=Kw a b st:=by kernel_rfl
noncomputable def KT:AV->St->Option (AV×St):=fun a st=>ba (St.add st (VM.Obj.cells 27 (nC 0 0 [] .aG))) fun m=>aU 78 [a] m fun n b _x=>ag n fun o p q i=>(ba (St.add b (VM.Obj.cells 27 (nC 0 0 [] .aG))) fun r=>ab i (cL 4 (.mp (St.h b) 0) (nC o p q i) r fun _x s _x_1=>aU 50 [a,.str [45,62]] s fun t c _x=>ag t fun u v w j=>(ba (St.add c (VM.Obj.cells 27 (nC 0 0 [] .aG))) fun y=>ab j (cL 4 (.mp (St.h c) 0) (nC u v w j) y fun _x d _x_2=>ax 4 true (.mp (St.h b) 0) d fun z x=>ag z fun A B C e=>(ax 4 true (.mp (St.h c) 0) d fun D E=>ag D fun F G H f=>(aU 51 [a] d fun I b0 k=>ag I fun b1 J K g=>(cu (apart (Fx.mk E dL.kept) k&&(apart (Fx.mk x dL.kept) k&&true)) (ab e (ab f (ab g (ab e (aJ e fun L=>ab f (aJ f fun M=>ab g (aJ g fun N=>cL 4 (.mp (St.h st) 0) [.int .u8 10,.int .u8 0,.str [],.sl 4 [nA A B C L,nA F G H M,nA b1 J K N] .shut] b0 fun _x l _x_3=>ax 4 true (.mp (St.h st) 0) l fun O _x=>ag O fun P Q c0 c1=>(some (nA P Q c0 c1,l))))))))))))))))
theorem GD (a:AV) (st:St):cE vE 106 [a] st=KT a st:=by kernel_rfl
noncomputable def mA (e:AV) (a:Int) (k:AV) (l:St):bR->Option (bR ⊕ Nat×bR):=fun b=>bE b.1 (fc 2 k a b.2 fun p _x=>cI 0 p fun q=>ax 1 false q b.2 fun r _x=>aU 28 [e,r] b.2 fun s m _x=>bG s fun t=>aW t (aU 29 [e] m fun u f _x=>ag u fun v w y n=>(ba (St.add f (VM.Obj.cells 27 (nC 0 0 [] .aG))) fun z=>ab n (cL 4 (.mp (St.h f) 0) (nC v w y n) z fun _x c _x_1=>fc 2 k a c fun x _x=>cI 1 x fun A=>ax 1 false A c fun B _x=>bG B fun C=>aB (aW C (aN (IntKind.wrap .i64 (a+1)) fun D=>some ([.int .i64 D],c)) (some ([.int .i64 a],c))) fun d=>br d.1 fun E F=>bg .i64 E fun G=>bE F (ax 4 true (.mp (St.h l) 0) d.2 fun H I=>ag H fun b0 b1 J g=>(ax 4 true (.mp (St.h f) 0) d.2 fun K L=>ag K fun M N O i=>(aU 107 [e,.int .i64 G] d.2 fun P Q o=>ag P fun c0 c1 c2 j=>(cu (apart (Fx.mk L dL.kept) o&&(apart (Fx.mk I dL.kept) o&&true)) (ab g (ab i (ab j (ab g (aJ g fun c3=>ab i (aJ i fun R=>ab j (aJ j fun S=>cL 4 (.mp (St.h l) 0) [.int .u8 11,.int .u8 0,.str [],.sl 4 [nA b0 b1 J c3,nA M N O R,nA c0 c1 c2 S] .shut] Q fun _x T _x_2=>some (Sum.inl ([],T)))))))))))))))) (some (Sum.inr (0,[],m))))
noncomputable def Lr:AV->AV->St->Option (AV×St):=fun b m st=>bg .i64 m fun c=>ba (St.add st (VM.Obj.cells 27 (nC 0 0 [] .aG))) fun n=>aU 118 [] n fun e f _x=>iQ e fun o=>aW (c==(↑o:Int)) (aU 119 [b] f fun p q _x=>ag p fun r s t g=>(ab g (cL 4 (.mp (St.h st) 0) (nC r s t g) q fun _x i _x_1=>ax 4 true (.mp (St.h st) 0) i fun u _x=>ag u fun v w y z=>(some (nA v w y z,i))))) (aN (IntKind.wrap .i64 (c+1)) fun x=>aU 107 [b,.int .i64 x] f fun A a _x=>ag A fun B C D j=>(ba (St.add a (VM.Obj.cells 27 (nC 0 0 [] .aG))) fun E=>ab j (cL 4 (.mp (St.h a) 0) (nC B C D j) E fun _x F _x_1=>aB (aI (mA b c e a) ([],F)) fun d=>bE d.2.1 (ax 4 true (.mp (St.h a) 0) d.2.2 fun G _x=>ag G fun H I b0 k=>(ab k (cL 4 (.mp (St.h st) 0) (nC H I b0 k) d.2.2 fun _x l _x_2=>ax 4 true (.mp (St.h st) 0) l fun b1 _x=>ag b1 fun J K L M=>(some (nA J K L M,l))))))))
theorem Gu (a b:AV) (st:St):cE vE 107 [a,b] st=Lr a b st:=by kernel_rfl
noncomputable def Mr:Option AV:=some (.sl 2 [.agg [.sl 1 [.str [124,124]] .shut,.bool false],.agg [.sl 1 [.str [38,38]] .shut,.bool false],.agg [.sl 1 [.str [61],.str [60,62],.str [60],.str [60,61],.str [62],.str [62,61]] .shut,.bool true],.agg [.sl 1 [.str [64],.str [94]] .shut,.bool false],.agg [.sl 1 [.str [58,58]] .shut,.bool false],.agg [.sl 1 [.str [43],.str [45],.str [43,46],.str [45,46]] .shut,.bool true],.agg [.sl 1 [.str [42],.str [47],.str [42,46],.str [47,46],.str [109,111,100]] .shut,.bool true]] .shut)
theorem FV:bT vE 118 []=Mr:=by kernel_rfl
noncomputable def mF (d:AV) (e:St):bR->Option (bR ⊕ Nat×bR):=fun f=>bE f.1 (aU 48 [d,.int .u8 6,.str [40]] f.2 fun g a _x=>bG g fun i=>aW i (ax 4 true (.mp (St.h e) 0) a fun j k=>ag j fun l m n b=>(aU 49 [d,.bool false] a fun o p q=>ag o fun r s t c=>(cu (apart (Fx.mk k dL.kept) q&&true) (ab b (ab c (ab b (aJ b fun u=>ab c (aJ c fun v=>cL 4 (.mp (St.h e) 0) [.int .u8 13,.int .u8 0,.str [],.sl 4 [nA l m n u,nA r s t v] .shut] p fun _x w _x_1=>some (Sum.inl ([],w)))))))))) (some (Sum.inr (0,[],a))))
noncomputable def Lf:AV->St->Option (AV×St):=fun a st=>ba (St.add st (VM.Obj.cells 27 (nC 0 0 [] .aG))) fun o=>aU 28 [a,.sl 1 [.str [45],.str [45,46]] .shut] o fun p g _x=>bG p fun q=>aW (!q) (aU 49 [a,.bool false] g fun r b _x=>ag r fun s t u i=>(ba (St.add b (VM.Obj.cells 27 (nC 0 0 [] .aG))) fun v=>ab i (cL 4 (.mp (St.h b) 0) (nC s t u i) v fun _x w _x_1=>aB (aI (mF a b) ([],w)) fun c=>bE c.2.1 (ax 4 true (.mp (St.h b) 0) c.2.2 fun y _x=>ag y fun z x A j=>(ab j (cL 4 (.mp (St.h st) 0) (nC z x A j) c.2.2 fun _x k _x_2=>ax 4 true (.mp (St.h st) 0) k fun B _x=>ag B fun C D E F=>(some (nA C D E F,k)))))))) (aU 29 [a] g fun G d _x=>ag G fun H I b0 l=>(ba (St.add d (VM.Obj.cells 27 (nC 0 0 [] .aG))) fun b1=>ab l (cL 4 (.mp (St.h d) 0) (nC H I b0 l) b1 fun _x m _x_1=>ax 4 true (.mp (St.h d) 0) m fun J K=>ag J fun L M N e=>(aU 81 [a,.str [101,120,112,114],.fn (Fn.func 119) [a] []] m fun O P Q=>ag O fun c0 c1 c2 f=>(cu (apart (Fx.mk K dL.kept) Q&&true) (ab e (ab f (ab e (aJ e fun c3=>ab f (aJ f fun R=>cL 4 (.mp (St.h st) 0) [.int .u8 12,.int .u8 0,.str [],.sl 4 [nA L M N c3,nA c0 c1 c2 R] .shut] P fun _x n _x_2=>ax 4 true (.mp (St.h st) 0) n fun S _x=>ag S fun T U V W=>(some (nA T U V W,n))))))))))))
theorem Fy (a:AV) (st:St):cE vE 119 [a] st=Lf a st:=by kernel_rfl
end Go.Proofs.YtpinfliihpdjcaaGreatDoor.Vm
namespace Go.Proofs.YtpinfliihpdjcaaGreatDoor.Vm
open Go Go.VM Go.Proofs Go.Lex
theorem vh {p:UInt8->Bool} (h:((List.range 256).all fun n=>p (UInt8.ofNat n))=true) (b:UInt8):p b=true:=by
 have:=Ox.1 h b.toNat (List.mem_range.2 (UInt8.toNat_lt b));simpa using this
theorem gC {p q:UInt8->Bool} (h:((List.range 256).all fun n=>p (UInt8.ofNat n)==q (UInt8.ofNat n))=true):p=q:=by
 funext b;exact eq_of_beq (vh (p:=fun b=>p b==q b) h b)
theorem HZ {s c:List UInt8} {p:UInt8->Bool} (a:(c.length.blt 4294967281&&c.all (fun b=>b.toNat.blt 128))=true) (d:(fun b=>c.contains b)=p) (hs:s.length<=1000000):
  (bc vE).bare 39 [.str s,.str c]=some (.int .i64 (wh p s:Int)):=by
 refine aY rfl ((Hy _ _).trans ?_);have h1:fb [.str s,.str c]= .ok (.str (s.dropWhile p)):=by
  simp only [fb,a,Lib.trimLeftS];rw [<- d]
 have f:=Hx p s;have e:IntKind.wrap .i64 ((s.length:Int) - ((s.dropWhile p).length:Int))=(wh p s:Int):=by
  rw [qA (by omega) (by omega)];congr 1;omega
 simp only [MZ,aA,gE h1,aD,e]
theorem iK {β:Type} {s c:List UInt8} {p:UInt8->Bool} (a:(c.length.blt 4294967281&&c.all (fun b=>b.toNat.blt 128))=true) (d:(fun b=>c.contains b)=p) (hs:s.length<=1000000) (st:St) (K:Kv β):
 aX (bc vE) 39 [.str s,.str c] st K=K (.int .i64 (wh p s:Int)) st q0:=aM st K rfl rfl rfl (HZ a d hs)
theorem Da {β:Type} {s:List UInt8} (hs:s.length<=1000000) (st:St) (K:Kv β):aX (bc vE) 39 [.str s,.str [32,9,10,13]] st K=K (.int .i64 (wh ep s:Int)) st q0:=
 iK rfl (gC (by decide+kernel)) hs st K
theorem F5 {β:Type} {s:List UInt8} (hs:s.length<=1000000) (st:St) (K:Kv β):aX (bc vE) 39 [.str s,.str [97,98,99,100,101,102,103,104,105,106,107,108,109,110,111,112,113,114,115,116,117,118,119,120,121,122,95]] st K=K (.int .i64 (wh gM s:Int)) st q0:=
 iK (by decide+kernel) (gC (by decide+kernel)) hs st K
theorem wM {β:Type} {s:List UInt8} (hs:s.length<=1000000) (st:St) (K:Kv β):aX (bc vE) 39 [.str s,.str [48,49,50,51,52,53,54,55,56,57]] st K=K (.int .i64 (wh aR s:Int)) st q0:=
 iK rfl (gC (by decide+kernel)) hs st K
theorem GJ {β:Type} {s:List UInt8} (hs:s.length<=1000000) (st:St) (K:Kv β):aX (bc vE) 39 [.str s,.str [97,98,99,100,101,102,103,104,105,106,107,108,109,110,111,112,113,114,115,116,117,118,119,120,121,122,95,65,66,67,68,69,70,71,72,73,74,75,76,77,78,79,80,81,82,83,84,85,86,87,88,89,90,39,48,49,50,51,52,53,54,55,56,57]] st K=K (.int .i64 (wh eL s:Int)) st q0:=
 iK (by decide+kernel) (gC (by decide+kernel)) hs st K
def JY (c:UInt8):Bool:=c==101||c==69
theorem KS {β:Type} {s:List UInt8} (hs:s.length<=1000000) (st:St) (K:Kv β):aX (bc vE) 39 [.str s,.str [101,69]] st K=K (.int .i64 (wh JY s:Int)) st q0:=
 iK rfl (gC (by decide+kernel)) hs st K
theorem GF {β:Type} {s:List UInt8} (hs:s.length<=1000000) (st:St) (K:Kv β):aX (bc vE) 39 [.str s,.str [43,45]] st K=K (.int .i64 (wh ng s:Int)) st q0:=
 iK rfl (gC (by decide+kernel)) hs st K
theorem FC {β:Type} {s:List UInt8} (hs:s.length<=1000000) (st:St) (K:Kv β):aX (bc vE) 39 [.str s,.str [40,41,91,93,44,59,124,61,60,62,43,45,42,47,94,64]] st K=K (.int .i64 (wh jn s:Int)) st q0:=
 iK rfl (gC (by decide+kernel)) hs st K
theorem Ed (s p:List UInt8):(bc vE).bare 70 [.str s,.str p]=some (.bool (s.take p.length==p)):=by
 refine aY rfl ((IG _ _).trans ?_);by_cases h:(s.length:Int)>=(p.length:Int)
 .simp only [LZ,aA,aw,if_pos h,jz (show p.length<=s.length by omega),bV,N7,aD,ak,af,ar,ae]
 .have e:(s.take p.length==p)=false:=by
   rw [NY];intro e;have:=OC List.length e;rw [Oa] at this;omega
  simp only [LZ,aA,aw,if_neg h,ak,af,ar,ae,e]
theorem C9 (s p:List UInt8):(bc vE).bare 40 [.str s,.str p]=some (.bool (s.take p.length==p)):=by
 refine aY rfl ((Im _ _).trans ?_);have h: ∀{β:Type} (st:St) (K:Kv β),aX (bc vE) 70 [.str s,.str p] st K=K (.bool (s.take p.length==p)) st q0:=fun st K=>aM st K rfl rfl rfl (Ed s p);simp only [Ns,aA,h,ar]
theorem er {β:Type} (s p:List UInt8) (st:St) (K:Kv β):aX (bc vE) 40 [.str s,.str p] st K=K (.bool (s.take p.length==p)) st q0:=aM st K rfl rfl rfl (C9 s p)
theorem Ge (s p:List UInt8):(bc vE).bare 43 [.str s,.str p]=some (.str (if (s.take p.length==p)=true then s.drop p.length else s)):=by
 have h: ∀{β:Type} (st:St) (K:Kv β),aX (bc vE) 70 [.str s,.str p] st K=K (.bool (s.take p.length==p)) st q0:=fun st K=>aM st K rfl rfl rfl (Ed s p);have a:(bc vE).bare 74 [.str s,.str p]=some (.str (if (s.take p.length==p)=true then s.drop p.length else s)):=by
  refine aY rfl ((It _ _).trans ?_);simp only [M0,aA,h,ar];cases e:s.take p.length==p with
  | true=>
   have hl:p.length<=s.length:=by
    have:=OC List.length (eq_of_beq e);rw [Oa] at this;omega
   simp only [au,jz hl,bV,Ot,aD,if_true]
  | false=>rfl
 have b: ∀{β:Type} (st:St) (K:Kv β),aX (bc vE) 74 [.str s,.str p] st K=K (.str (if (s.take p.length==p)=true then s.drop p.length else s)) st q0:=fun st K=>aM st K rfl rfl rfl a;refine aY rfl ((HD _ _).trans ?_);simp only [M5,aA,b]
theorem BP {β:Type} (s p:List UInt8) (st:St) (K:Kv β):aX (bc vE) 43 [.str s,.str p] st K=K (.str (if (s.take p.length==p)=true then s.drop p.length else s)) st q0:=aM st K rfl rfl rfl (Ge s p)
def pK (s:List UInt8) (c:UInt8):Int:=match cP c.toNat s with | some i=>(i:Int) | none=> -1
theorem E2 (s:List UInt8) (c:UInt8):(bc vE).bare 44 [.str s,.int .u8 (c.toNat:Int)]=some (.int .i64 (pK s c)):=by
 have h:(bc vE).bare 75 [.str s,.int .u8 (c.toNat:Int)]=some (.int .i64 (pK s c)):=by
  refine aY rfl ((HT _ _).trans ?_);have e:((c.toNat:Int).toNat % 256)=c.toNat:=by
   have:=UInt8.toNat_lt c;omega
  simp only [Nk,aA,ah,eJ,nJ,gT,sG,ak,e,pK];rfl
 have a: ∀{β:Type} (st:St) (K:Kv β),aX (bc vE) 75 [.str s,.int .u8 (c.toNat:Int)] st K=K (.int .i64 (pK s c)) st q0:=fun st K=>aM st K rfl rfl rfl h;refine aY rfl ((HW _ _).trans ?_);simp only [M3,aA,ah,a]
theorem iM {β:Type} (s:List UInt8) (c:UInt8) (st:St) (K:Kv β):aX (bc vE) 44 [.str s,.int .u8 (c.toNat:Int)] st K=K (.int .i64 (pK s c)) st q0:=aM st K rfl rfl rfl (E2 s c)
def pj:AV:= .im ((.str [95],.int .u8 8)::words.map fun w=>(.str w,.int .u8 3))
def sB:cl AV->Bool
 | .ok (.im [(.str w0,.int .u8 g),(.str w1,.int .u8 h),(.str i,.int .u8 j),(.str k,.int .u8 l),(.str m,.int .u8 n),(.str o,.int .u8 p),(.str q,.int .u8 r),(.str s,.int .u8 t),(.str u,.int .u8 v),(.str w,.int .u8 x),(.str a,.int .u8 b),(.str c,.int .u8 d),(.str e,.int .u8 f)])=>
  ([w0,w1,i,k,m,o,q,s,u,w,a,c,e]==[95]::words)&&([g,h,j,l,n,p,r,t,v,x,b,d,f]==8::words.map fun _=>3)
 | _=>false
theorem xz {r:cl AV} (h:sB r=true):r= .ok pj:=by
 unfold sB at h;split at h
 .simp only [N0] at h;have h1:=eq_of_beq h.1;have a:=eq_of_beq h.2;simp only [words,Od,O5,OT,Px] at h1 a;obtain ⟨rfl,rfl,rfl,rfl,rfl,rfl,rfl,rfl,rfl,rfl,rfl,rfl,rfl⟩:=h1;obtain ⟨rfl,rfl,rfl,rfl,rfl,rfl,rfl,rfl,rfl,rfl,rfl,rfl,rfl⟩:=a;rfl
 .cases h
theorem DX:(bc vE).bare 41 []=some pj:=by
 have h:sB ((caller vE 300).bare 41 [])=true:=by kernel_rfl
 exact tJ (xz h)
theorem AH {β:Type} (st:St) (K:Kv β):aX (bc vE) 41 [] st K=K pj st q0:=aM st K rfl rfl rfl DX
theorem sw (w:List UInt8): ∀(l:List (List UInt8)),fp (.str w) (l.map fun w=>(AV.str w,AV.int .u8 3))= .ok (if l.contains w then some (.int .u8 3) else none)
 | []=>rfl
 | x::l=>by
  have ih:=sw w l;simp only [Od,fp,nf,ay,List.contains_cons];cases e:w==x with
  | true=>rfl
  | false=>
   simp only [Ov];exact ih
theorem zO {β:Type} (w:List UInt8) (st:St) (K:Kv β):eJ (bc vE) (jk (Env.T vE) 64 pj (.str w) true) st K=
  K (.tup [.int .u8 (if w=[95] then 8 else if words.contains w then 3 else 0:Int),.bool (decide (w=[95])||words.contains w)]) st q0:=by
 have a:ti (Env.T vE) 64= .ok ⟨.map 9 5,1,8,[.nilm],false,false⟩:=rfl;have b:ti (Env.T vE) 5= .ok ⟨.int .u8,1,1,[.int .u8 0],false,false⟩:=rfl;have c:ti (Env.T vE) 9= .ok ⟨.str,1,16,[.str []],false,false⟩:=rfl;have d:fp (.str w) ((.str [95],.int .u8 8)::words.map fun w=>(.str w,.int .u8 3))= .ok (if w=[95] then some (.int .u8 8) else if words.contains w then some (.int .u8 3) else none):=by
  simp only [fp,nf,ay];cases e:w==[95] with
  | true=>rw [if_pos (eq_of_beq e)];rfl
  | false=>rw [if_neg (by simpa using e)];exact sw w words
 have f:jk (Env.T vE) 64 pj (.str w) true= .ok (.val (.tup [.int .u8 (if w=[95] then 8 else if words.contains w then 3 else 0:Int),.bool (decide (w=[95])||words.contains w)])):=by
  simp only [jk,a,b,c,ay,lj,pj,found,d];by_cases h:w=[95]
  .simp [h];rfl
  .cases g:words.contains w <;> simp [h] <;> rfl
 rw [f];rfl
theorem Dt {s:List UInt8} (hs:s.length<=1000000):(bc vE).bare 20 [.str s]=some (.tup [.int .u8 1,.int .i64 (wh ep s:Int)]):=by
 refine aY rfl ((Io _).trans ?_);simp only [g20,aA,Da hs,ah]
theorem gL (s:List UInt8) (hs:s.length<=1000000) (st:St): ∀(l:List UInt8) (i d:Nat),s.drop i=l->i<=s.length->1<=d->d<=i->
  aI (jG s) ([.int .i64 (d:Int),.int .u8 0,.int .i64 0,.int .i64 (i:Int)],st)=some (match rem l d with | some n=>(1,[.int .u8 2,.int .i64 ((i+n:Nat):Int)],st) | none=>(0,[.int .u8 0,.int .i64 0],st))
 | [],i,d,hd,hi,h1,o=>by
  have:=Ol.1 hd;have q:¬ (i:Int) < (s.length:Int):=by omega
  refine aC ?_;simp only [jG,af,ah,ae,aw,if_neg q];rfl
 | [a],i,d,hd,hi,h1,o=>by
  obtain ⟨r,f,j⟩:=drop_cons hd;have q:(i:Int) < (s.length:Int):=by omega
  have ih:=gL s hs st [] (i+1) d f (by omega) h1 (by omega);rw [aL (s':=([.int .i64 (d:Int),.int .u8 0,.int .i64 0,.int .i64 ((i+1:Nat):Int)],st)),ih]
  .rfl
  .simp only [jG,af,ah,ae,aw,if_pos q,bC (show i<=s.length by omega),Ot,aD,hd,er,ar];simp only [show ([a].take [(40:UInt8),42].length==[40,42])=false by simp,show ([a].take [(42:UInt8),41].length==[42,41])=false by simp,ai,ak,cN,af,ah,ae,bj (show i+1<=9223372036854775807 by omega)]
 | a::b::l,i,d,hd,hi,h1,o=>by
  obtain ⟨r,f,j⟩:=drop_cons hd;obtain ⟨t,c,p⟩:=drop_cons f;have q:(i:Int) < (s.length:Int):=by omega
  have g:((a::b::l).take [(40:UInt8),42].length==[40,42])=(decide (a=40/\b=42)):=by
   show ([a,b]==[40,42])= _;by_cases h:a=40/\b=42
   .rw [h.1,h.2];rfl
   .rw [OX h,NY];intro e;simp only [OT,Px] at e;exact h e
  have k:((a::b::l).take [(42:UInt8),41].length==[42,41])=(decide (a=42/\b=41)):=by
   show ([a,b]==[42,41])= _;by_cases h:a=42/\b=41
   .rw [h.1,h.2];rfl
   .rw [OX h,NY];intro e;simp only [OT,Px] at e;exact h e
  by_cases c1:a=40/\b=42
  .have ih:=gL s hs st l (i+2) (d+1) c (by omega) (by omega) (by omega);rw [aL (s':=([.int .i64 ((d+1:Nat):Int),.int .u8 0,.int .i64 0,.int .i64 ((i+2:Nat):Int)],st)),ih]
   .simp only [rem,if_pos c1];cases rem l (d+1) with
    | none=>rfl
    | some n=>simp only [Option.map_some];rw [show i+2+n=i+(n+2) by omega]
   .simp only [jG,af,ah,ae,aw,if_pos q,bC (show i<=s.length by omega),Ot,aD,hd,er,ar,g,if_pos c1,ak,cN,bj (show d+1<=9223372036854775807 by omega),kG (show i+2<=9223372036854775807 by omega)]
  .by_cases c2:a=42/\b=41
   .have w:=qA (n:=d) (m:=1) h1 (by omega);have w:IntKind.wrap .i64 ((d:Int) - 1)=((d - 1:Nat):Int):=w;by_cases c3:d=1
    .subst c3;simp only [rem,if_neg c1,if_pos c2,if_true];refine aC ?_;simp only [jG,af,ah,ae,aw,if_pos q,bC (show i<=s.length by omega),Ot,aD,hd,er,ar,g,k,if_neg c1,if_pos c2,ak,w,kG (show i+2<=9223372036854775807 by omega),cX];rfl
    .have ih:=gL s hs st l (i+2) (d - 1) c (by omega) (by omega) (by omega);have z:¬ ((d - 1:Nat):Int)=0:=by omega
     rw [aL (s':=([.int .i64 ((d - 1:Nat):Int),.int .u8 0,.int .i64 0,.int .i64 ((i+2:Nat):Int)],st)),ih]
     .simp only [rem,if_neg c1,if_pos c2,if_neg c3];cases rem l (d - 1) with
      | none=>rfl
      | some n=>simp only [Option.map_some];rw [show i+2+n=i+(n+2) by omega]
     .simp only [jG,af,ah,ae,aw,if_pos q,bC (show i<=s.length by omega),Ot,aD,hd,er,ar,g,k,if_neg c1,if_pos c2,ak,w,kG (show i+2<=9223372036854775807 by omega),cX,if_neg z,cN]
   .have ih:=gL s hs st (b::l) (i+1) d f (by omega) h1 (by omega);rw [aL (s':=([.int .i64 (d:Int),.int .u8 0,.int .i64 0,.int .i64 ((i+1:Nat):Int)],st)),ih]
    .simp only [rem,if_neg c1,if_neg c2];cases rem (b::l) d with
     | none=>rfl
     | some n=>simp only [Option.map_some];rw [show i+1+n=i+(n+1) by omega]
    .simp only [jG,af,ah,ae,aw,if_pos q,bC (show i<=s.length by omega),Ot,aD,hd,er,ar,g,k,if_neg c1,if_neg c2,ak,cN,bj (show i+1<=9223372036854775807 by omega)]
theorem BE {s:List UInt8} (hs:s.length<=1000000):(bc vE).bare 21 [.str s]=some (if s.take 2=[40,42] then (match rem (s.drop 2) 1 with | some n=> .tup [.int .u8 2,.int .i64 ((n+2:Nat):Int)] | none=> .tup [.int .u8 9,.int .i64 (s.length:Int)]) else .tup [.int .u8 0,.int .i64 0]):=by
 refine aY rfl ((I3 _).trans ?_);by_cases h:s.take 2=[40,42]
 .have a:(s.take [(40:UInt8),42].length==[40,42])=true:=by simpa using h
  have hl:2<=s.length:=by
   have:=OC List.length h;rw [Oa] at this;simp at this;omega
  have q:(0:Int) < (s.length:Int):=by omega
  have e:aI (jG s) ([.int .i64 0,.int .u8 0,.int .i64 0,.int .i64 0],St.mk 0 0 Tr.leaf)=some (match rem (s.drop 2) 1 with | some n=>(1,[.int .u8 2,.int .i64 ((2+n:Nat):Int)],St.mk 0 0 Tr.leaf) | none=>(0,[.int .u8 0,.int .i64 0],St.mk 0 0 Tr.leaf)):=by
   rw [aL (s':=([.int .i64 ((1:Nat):Int),.int .u8 0,.int .i64 0,.int .i64 ((2:Nat):Int)],St.mk 0 0 Tr.leaf)),gL s hs (St.mk 0 0 Tr.leaf) (s.drop 2) 2 1 rfl hl (by omega) (by omega)];simp only [jG,af,ah,ae,aw,if_pos q,show dq (0:Int) s.length=dq ((0:Nat):Int) s.length from rfl,bC (show 0<=s.length by omega),Ot,N7,aD,er,ar,a,au,ak,cN];rfl
  simp only [g21,aA,er,ar,a,Ou,ai,if_pos h];rw [e];cases rem (s.drop 2) 1 with
  | none=>simp only [ak,af,ah,ae,dX]
  | some n=>simp only [ak,af,ah,ae,fB];rw [Pb 2 n]
 .have a:(s.take [(40:UInt8),42].length==[40,42])=false:=by simpa using h
  simp only [g21,aA,er,ar,a,OG,au,if_neg h]
theorem F4 {c:UInt8} {l:List UInt8} (hs:(c::l).length<=1000000):(bc vE).bare 22 [.str (c::l)]=some (if gM c then .tup [.int .u8 (sr ((c::l).takeWhile eL):Int),.int .i64 (wh eL (c::l):Int)] else .tup [.int .u8 0,.int .i64 0]):=by
 refine aY rfl ((IQ _).trans ?_);have h1:(List.drop 0 (List.take 1 (c::l)))=[c]:=rfl;have b:wh gM [c]=if gM c then 1 else 0:=by rw [eX];rfl
 simp only [g22,aA,jz (show 1<=(c::l).length by simp),bV,aD,h1,F5 (show [c].length<=1000000 by simp),ah,cX,b];cases d:gM c with
 | false=>rfl
 | true=>
  simp only [if_true,show ¬ (((1:Nat):Int)=0) by omega,if_false,GJ hs,ah,AH,nN,lU,OZ,bV,bC (jY eL (c::l)),N7,aD,qV,zO,ch,bA,bM,ar];generalize (c::l).takeWhile eL=w;unfold sr;by_cases a:w=[95]
  .simp [a]
  .cases e:words.contains w <;> simp [a] <;> rfl
theorem A0: ∀(l:List UInt8) (a:Nat),a<=gB a l
  | [],a=>by rw [rk];exact NX _
  | c::l,a=>by
    have:=A0 l (ld a c);rw [pF];unfold ld at this ⊢;omega
theorem nr: ∀(l:List UInt8) (a:Nat),l.all aR=true->a < 18446744073709551616->Lib.parseUint10 a l=if gB a l < 18446744073709551616 then .ok (gB a l) else .range
  | [],a,_,b=>by rw [rk,if_pos b,Lib.parseUint10]
  | c::l,a,h,b=>by
    simp only [Pm,N0] at h;have d:48<=c.toNat/\c.toNat<=57:=by
      have:=h.1;simp only [aR,N0,OI] at this;exact this
    have f:=A0 l (ld a c);have hs:a * 10+(c.toNat - 48)=ld a c:=id rfl;have e:a * 10<=ld a c:=by rw [<- hs];omega
    rw [Lib.parseUint10,if_pos d,pF,hs];by_cases c1:1844674407370955162<=a
    · rw [if_pos c1,if_neg (by omega)]
    · rw [if_neg c1]
      by_cases c2:18446744073709551616<=ld a c
      · rw [if_pos c2,if_neg (by omega)]
      · rw [if_neg c2]
        exact nr l _ h.2 (by omega)
theorem sF {l:List UInt8} (a:l≠[]) (h:l.all aR=true):Lib.atoiAll l=if gB 0 l < 9223372036854775808 then .ok (gB 0 l:Int) else .range:=by
  cases l with
  | nil=>exact absurd rfl a
  | cons c r=>
    have f:48<=c.toNat/\c.toNat<=57:=by
      simp only [Pm,N0] at h;have:=h.1;simp only [aR,N0,OI] at this;exact this
    have b:¬ (c.toNat=43\/c.toNat=45):=by omega
    have d:¬ c.toNat=45:=by omega
    have e:=nr (c::r) 0 h (by omega);simp only [Lib.atoiAll,if_neg b,Lib.parseMag,if_neg a,e];by_cases c1:gB 0 (c::r) < 18446744073709551616
    · rw [if_pos c1]
      dsimp only;by_cases c2:gB 0 (c::r) < 9223372036854775808
      · rw [if_pos c2,if_neg (by omega),if_neg (by omega),if_neg d]
      · rw [if_neg c2,if_pos (by omega)]
    · rw [if_neg c1,if_neg (by omega)]
theorem AK {l:List UInt8} (a:l≠[]) (h:l.all aR=true):Lib.atoiAll (45::l)=if gB 0 l<=9223372036854775808 then .ok (-(gB 0 l:Int)) else .range:=by
  have e:(45:UInt8).toNat=45:=rfl;have b:=nr l 0 h (by omega);simp only [Lib.atoiAll,e,or_true,if_true,Lib.parseMag,if_neg a,b];by_cases c1:gB 0 l < 18446744073709551616
  · rw [if_pos c1]
    dsimp only;by_cases c2:gB 0 l<=9223372036854775808
    · rw [if_pos c2,if_neg (by simp),if_neg (by omega)]
    · rw [if_neg c2,if_neg (by simp),if_pos ⟨trivial,by omega⟩]
  · rw [if_neg c1,if_neg (by omega)]
theorem ni (p:UInt8->Bool) (l:List UInt8):(l.takeWhile p).all p=true:=by
  induction l with
  | nil=>rfl
  | cons c l ih=>
    rw [OH];split
    · rename_i h;simp [h,ih]
    · rfl
def Js (k:Nat) (x:Int):Bool:=decide (x - k < -22)||decide (x - k > 22)
theorem EF {n:Int} (h1:n < -9223372036854775808) (a: -18446744073709551616<=n):IntKind.wrap .i64 n=n+18446744073709551616:=by
  have e:IntKind.wrap .i64 n=if n % 18446744073709551616>=9223372036854775808 then n % 18446744073709551616 - 18446744073709551616 else n % 18446744073709551616:=by
    show (if (true&&decide (n % (2 ^ 64:Int)>=(2 ^ 63:Int)))=true then n % (2 ^ 64:Int) - (2 ^ 64:Int) else n % (2 ^ 64:Int))= _;simp
  rw [e];split <;> omega
structure LI (k v:Nat) (neg:Bool) (x:Int):Prop where
  lo: -9223372036854775808<=x
  hi:x<=9223372036854775807
  eq:v<=1000000->x=if neg then -(v:Int) else v
  far:1000000 < v->1000000 < x\/x < -1000000
theorem DH {k v:Nat} {neg:Bool} {x:Int} (h:LI k v neg x) (f:k<=500000):
    (decide (IntKind.wrap .i64 (x - k) < -22)||decide (IntKind.wrap .i64 (x - k) > 22))=Js k (if neg then -((min v 1000000:Nat):Int) else ((min v 1000000:Nat):Int)):=by
  obtain ⟨h1,g,e,h4⟩:=h;have a:(IntKind.wrap .i64 (x - k)=x - k)\/(x - k < -9223372036854775808/\IntKind.wrap .i64 (x - k)=x - k+18446744073709551616):=by
    by_cases c: -9223372036854775808<=x - k
    · exact .inl (wrap_i64 c (by omega))
    · exact .inr ⟨by omega,EF (by omega) (by omega)⟩
  unfold Js;by_cases d:v<=1000000
  · have b:=e d
    have a:IntKind.wrap .i64 (x - k)=x - k:=by
      rcases a with a | ⟨a,_⟩
      · exact a
      · exfalso
        cases neg <;> simp at b <;> omega
    rw [a,Pv d,b]
  · have b:=h4 (by omega)
    rw [PK (by omega)];have l:(decide (IntKind.wrap .i64 (x - k) < -22)||decide (IntKind.wrap .i64 (x - k) > 22))=true:=by
      rw [OW,OI,OI];rcases a with a | ⟨_,a⟩ <;> rw [a] <;> omega
    have r: ∀y:Int,(y=1000000\/y= -1000000)->(decide (y - (k:Int) < -22)||decide (y - (k:Int) > 22))=true:=by
      intro y hy;rw [OW,OI,OI];omega
    rw [l];cases neg
    · exact (r _ (.inl rfl)).symm
    · exact (r _ (.inr rfl)).symm
theorem Fq:Cy BinOp.neq AV.nili=some (.bool false):=rfl
theorem FE (t:TypeId) (v:AV):Cy BinOp.neq (AV.iface t v)=some (.bool true):=rfl
theorem Cg {l:List UInt8} (hs:l.length<=1000000) {d:Nat} (hd:wh aR (l.drop (eY l))=d) (h0:0 < d) (k:Nat):
    ∃x:Int,LI k (gB 0 ((l.drop (eY l)).take d)) (decide (l.head?=some 45)) x/\ ∀{β:Type} (st:St) (K:Int->bR->Option β),
      (eJ (bc vE) (gT (Prim.lib (gl 115)) [AV.str (if ((l.take (eY l+d)).take [(43:UInt8)].length==[43])=true then (l.take (eY l+d)).drop [(43:UInt8)].length else l.take (eY l+d))]) st fun h f _x=>fU h fun m=>cC m 0 fun n=>bg .i64 n fun o=>fU h fun p=>cC p 1 fun q=>aB (Cy BinOp.neq q) fun s=>bG
 s fun t=>aB (aW t (some (([AV.int .i64 1073741824],f):bR)) (some ([AV.int .i64 o],f))) fun i=>br (Prod.fst i) fun u v=>bg .i64 u fun w=>bE v (K w i))=K x ([AV.int .i64 x],st):=by
  have j:(l.drop (eY l)).take d=(l.drop (eY l)).takeWhile aR:=by rw [<- hd,qV]
  have a:((l.drop (eY l)).take d).all aR=true:=by rw [j];exact ni _ _
  have hlen:((l.drop (eY l)).take d).length=d:=by rw [j, <- hd];rfl
  have b:(l.drop (eY l)).take d≠[]:=by
    intro e;rw [e] at hlen;simp at hlen;omega
  have fin: ∀(D:List UInt8),D.length<=1000001-> ∀{β:Type} (st:St) (K:Int->bR->Option β) (x:Int),(Lib.atoiAll D= .ok x\/(Lib.atoiAll D= .range/\x=1073741824))->
      (eJ (bc vE) (gT (Prim.lib (gl 115)) [AV.str D]) st fun h f _x=>fU h fun m=>cC m 0 fun n=>bg .i64 n fun o=>fU h fun p=>cC p 1 fun q=>aB (Cy BinOp.neq q) fun s=>bG
 s fun t=>aB (aW t (some (([AV.int .i64 1073741824],f):bR)) (some ([AV.int .i64 o],f))) fun i=>br (Prod.fst i) fun u v=>bg .i64 u fun w=>bE v (K w i))=K x ([AV.int .i64 x],st):=by
    intro D C β st K x y;rcases y with y | ⟨y,rfl⟩
    · have hl:gl 115 [.str D]= .ok (.tup [.int .i64 x,.nili]):=by simp only [gl,jz (show D.length<=281474976710656 by omega),y]
      simp only [gE hl,ch,bA,bM,ah,Fq,ak,ar,ai,af,ae]
    · have hl:gl 115 [.str D]= .ok (.tup [.int .i64 (Lib.atoiSat D),.iface 115 (.opq false)]):=by simp only [gl,jz (show D.length<=281474976710656 by omega),y]
      simp only [gE hl,ch,bA,bM,ah,FE,ak,ar,au,af,ae]
  cases l with
  | nil=>simp [eY] at b
  | cons c r=>
    by_cases c1:c=43
    · subst c1
      have z:eY ((43:UInt8)::r)=1:=rfl;rw [z] at a hlen b j ⊢;simp only [PJ,N7] at a hlen b j ⊢;have g:=sF b a;have A:(if (((43::r).take (1+d)).take [(43:UInt8)].length==[43])=true then ((43:UInt8)::r |>.take (1+d)).drop [(43:UInt8)].length else (43::r).take (1+d))=r.take d:=by
        rw [Pb 1 d];rfl
      rw [A];by_cases c2:gB 0 (r.take d) < 9223372036854775808
      · rw [if_pos c2] at g
        exact ⟨gB 0 (r.take d),⟨by omega,by omega,fun _=>by simp,fun _=>by omega⟩,fun st K=>fin _ (by rw [Oa];simp at hs;omega) st K _ (.inl g)⟩
      · rw [if_neg c2] at g
        exact ⟨1073741824,⟨by omega,by omega,fun _=>by omega,fun _=>by omega⟩,fun st K=>fin _ (by rw [Oa];simp at hs;omega) st K _ (.inr ⟨g,rfl⟩)⟩
    · by_cases c3:c=45
      · subst c3
        have z:eY ((45:UInt8)::r)=1:=rfl;rw [z] at a hlen b j ⊢;simp only [PJ,N7] at a hlen b j ⊢;have g:=AK b a;have A:(if (((45::r).take (1+d)).take [(43:UInt8)].length==[43])=true then ((45:UInt8)::r |>.take (1+d)).drop [(43:UInt8)].length else (45::r).take (1+d))=45::r.take d:=by
          rw [Pb 1 d];rfl
        rw [A];by_cases c2:gB 0 (r.take d)<=9223372036854775808
        · rw [if_pos c2] at g
          exact ⟨-(gB 0 (r.take d):Int),⟨by omega,by omega,fun _=>by simp,fun _=>by omega⟩,fun st K=>fin _ (by rw [Om,Oa];simp at hs;omega) st K _ (.inl g)⟩
        · rw [if_neg c2] at g
          exact ⟨1073741824,⟨by omega,by omega,fun _=>by omega,fun _=>by omega⟩,fun st K=>fin _ (by rw [Om,Oa];simp at hs;omega) st K _ (.inr ⟨g,rfl⟩)⟩
      · have B:ng c=false:=by simp [ng,c1,c3]
        have z:eY (c::r)=0:=by simp only [eY,B];rfl
        rw [z] at a hlen b j ⊢;simp only [N7,N5] at a hlen b j ⊢;have g:=sF b a;have A:(if (((c::r).take d).take [(43:UInt8)].length==[43])=true then ((c::r).take d).drop [(43:UInt8)].length else (c::r).take d)=(c::r).take d:=by
          rw [if_neg];intro e;have e:=eq_of_beq e;cases d with
          | zero=>simp at h0
          | succ d=>simp at e;exact c1 e
        rw [A];by_cases c2:gB 0 ((c::r).take d) < 9223372036854775808
        · rw [if_pos c2] at g
          exact ⟨gB 0 ((c::r).take d),⟨by omega,by omega,fun _=>by simp [c3],fun _=>by omega⟩,fun st K=>fin _ (by rw [Oa];omega) st K _ (.inl g)⟩
        · rw [if_neg c2] at g
          exact ⟨1073741824,⟨by omega,by omega,fun _=>by omega,fun _=>by omega⟩,fun st K=>fin _ (by rw [Oa];omega) st K _ (.inr ⟨g,rfl⟩)⟩
theorem Ek (p:UInt8->Bool) (c:UInt8) (l:List UInt8):wh p ((c::l).take 1)=if p c then 1 else 0:=by
  show wh p [c]= _;rw [eX];rfl
theorem yz (s:List UInt8) (e:Nat):s.take (min s.length e)=s.take e:=by
  rcases Nat.le_total e s.length with h | h
  · rw [PK h]
  · rw [Pv h,Ot,List.take_of_length_le h]
theorem Bn (a b:Nat):(if (a:Int) < (b:Int) then (a:Int) else (b:Int))=((min a b:Nat):Int):=by split <;> omega
theorem jA (s:List UInt8) (e n:Nat):(s.take (e+n)).drop e=(s.drop e).take n:=by
  rw [List.drop_take];congr 1;omega
theorem uD {all k:Nat} {x:Int} {e:Int} (st:St) (b:Bool) (i:(decide (IntKind.wrap .i64 (x - k) < -22)||decide (IntKind.wrap .i64 (x - k) > 22))=b):
    (aB (aW (decide ((all:Int) > 15)) (some (([AV.bool true],st):bR)) (aN (IntKind.wrap .i64 (x - (k:Int))) fun a=>aW (decide (a < -22)) (some ([AV.bool true],st)) (aN (IntKind.wrap .i64 (x - (k:Int))) fun c=>some ([AV.bool (decide (c > 22))],st)))) fun d=>
 br (Prod.fst d) fun f g=>bG f fun h=>bE g (aW h (some (AV.tup [AV.int .u8 9,AV.int .i64 e])) (some (AV.tup [AV.int .u8 6,AV.int .i64 e]))))=some (AV.tup [AV.int .u8 (if all > 15\/b=true then 9 else 6:Int),AV.int .i64 e]):=by
  simp only [aw,aD];by_cases c1:(all:Int) > 15
  · have:all > 15:=by omega
    simp only [if_pos c1,ak,af,ar,ae,au,this,true_or,if_true]
  · have h1:¬ all > 15:=by omega
    rw [if_neg c1];by_cases c2:IntKind.wrap .i64 (x - (k:Int)) < -22
    · have:b=true:=by rw [<- i,Pa c2];rfl
      subst this;simp only [if_pos c2,ak,af,ar,ae,au,or_true,if_true]
    · rw [if_neg c2]
      have:b=decide (IntKind.wrap .i64 (x - (k:Int)) > 22):=by rw [<- i,OX c2];rfl
      subst this;simp only [ak,af,ar,ae,h1,false_or];cases decide (IntKind.wrap .i64 (x - (k:Int)) > 22) <;> rfl
theorem BW {s:List UInt8} (hs:s.length<=500000):(bc vE).bare 23 [.str s]=some (if wh aR s=0 then .tup [.int .u8 5,.int .i64 0] else .tup [.int .u8 ((number s).1:Int),.int .i64 ((number s).2:Int)]):=by
  refine aY rfl ((IU _).trans ?_);have I:=jY aR s;simp only [g23,aA,wM (show s.length<=1000000 by omega),ah,cX];by_cases c0:wh aR s=0
  · have b:((wh aR s:Nat):Int)=0:=by omega
    rw [if_pos b,if_pos c0,c0];rfl
  have b:¬ ((wh aR s:Nat):Int)=0:=by omega
  simp only [if_neg b,if_neg c0,bC I,Ot,aD,er,ar,ak,af,ae];generalize P:wh aR s=n at I c0 b;have i:((s.drop n).take [(46:UInt8)].length==[46])=decide ((s.drop n).head?=some 46):=by
    cases s.drop n with
    | nil=>rfl
    | cons c l=>
      show ([c]==[46])= _;by_cases h:c=46
      · subst h;rfl
      · simp [h]
  rw [i];unfold number;rw [P];by_cases p:(s.drop n).head?=some 46
  · have Q:n < s.length:=by
      rcases Nat.lt_or_ge n s.length with q | q
      · exact q
      · rw [List.drop_of_length_le q] at p;cases p
    simp only [p,decide_true,Ou,ai,if_true];have J:=jY aR (s.drop (n+1));rw [N3] at J;have r:(s.drop (n+1)).length<=1000000:=by rw [N3];omega
    simp only [bj (show n+1<=9223372036854775807 by omega),bC (show n+1<=s.length by omega),Ot,wM r,ah];generalize hK:wh aR (s.drop (n+1))=k at J;simp only [oI (show n+k<=9223372036854775807 by omega),oI (show n+1+k<=9223372036854775807 by omega),bj (show n+1+k+1<=9223372036854775807 by omega),Bn,bC (Nat.min_le_left s.length (n+1+k+1)),bC (show n+1+k<=min s.length (n+1+k+1) by omega),yz,jA];generalize X:n+1+k=e at *;have R:e<=s.length:=by omega
    have t:((s.drop e).take 1).length<=1000000:=by rw [Oa,N3];omega
    simp only [KS t,ah,aw];have a: ∀(x:Nat×Int),x=(0,0)->(aB (aW (decide (((n+k:Nat):Int) > 15)) (some (([AV.bool true],St.mk 0 0 Tr.leaf):bR)) (aN (IntKind.wrap .i64 ((0:Int) - (k:Int))) fun u=>aW (decide (u < -22)) (some ([AV.bool true],St.mk 0 0 Tr.leaf)) (aN (IntKind.wrap .i64 ((0:Int) - (k:Int))) fun v=>some ([AV.bool (decide (v > 22))],St.mk 0 0 Tr.leaf)))) fun w=>
 br (Prod.fst w) fun y z=>bG y fun A=>bE z (aW A (some (AV.tup [AV.int .u8 9,AV.int .i64 (e:Int)])) (some (AV.tup [AV.int .u8 6,AV.int .i64 (e:Int)]))))=some (AV.tup [AV.int .u8 ((if n+k > 15\/x.2 - (k:Int) < -22\/x.2 - (k:Int) > 22 then 9 else 6:Nat):Int),AV.int .i64 ((e+x.1:Nat):Int)]):=by
      rintro _ rfl;have S:IntKind.wrap .i64 ((0:Int) - (k:Int))=0 - (k:Int):=wrap_i64 (by omega) (by omega);rw [uD (St.mk 0 0 Tr.leaf) (decide ((0:Int) - k < -22)||decide ((0:Int) - k > 22)) (by rw [S])];simp only [OW,OI,Ow];by_cases h:n+k > 15\/(0:Int) - (k:Int) < -22\/(0:Int) - (k:Int) > 22
      · rw [if_pos h,if_pos h];rfl
      · rw [if_neg h,if_neg h];rfl
    simp only [aw,aD] at a;cases B:s.drop e with
    | nil=>
      have h0:¬ (((wh JY ([].take 1):Nat):Int) > 0):=by simp [wh]
      simp only [if_neg h0,ak,af,ah,ae];exact a _ rfl
    | cons c l=>
      have f:s.drop (e+1)=l:=by rw [<- O8,B];rfl
      have T:e < s.length:=by
        rcases Nat.lt_or_ge e s.length with q | q
        · exact q
        · rw [List.drop_of_length_le q] at B;cases B
      have U:l.length=s.length - (e+1):=by rw [<- f,N3]
      rw [Ek];cases K:JY c with
      | false=>
        have j:jb (c::l)=(0,0):=by
          unfold jb;have:¬ (c=101\/c=69):=by
            intro h;rcases h with rfl | rfl <;> cases K
          simp only [if_neg this]
        simp only [Oi,if_false,show ¬ (((0:Nat):Int) > 0) by omega,ak,af,ah,ae];exact a _ j
      | true=>
        have m:c=101\/c=69:=by simpa [JY] using K
        have V:=Ao l;have L:eY l<=1:=by
          cases l with
          | nil=>simp [eY]
          | cons c l=>simp only [eY];split <;> omega
        have C:wh ng (l.take 1)=eY l:=by
          cases l with
          | nil=>rfl
          | cons c l=>rw [Ek];rfl
        simp only [if_true,show (((1:Nat):Int) > 0) by omega];simp only [bj (show e+1<=9223372036854775807 by omega),kG (show e+2<=9223372036854775807 by omega),Bn,bC (Nat.min_le_left s.length (e+2)),bC (show e+1<=min s.length (e+2) by omega),yz,aD,show (s.take (e+2)).drop (e+1)=l.take 1 by rw [<- f];exact jA s (e+1) 1,GF (show (l.take 1).length<=1000000 by rw [Oa];omega),ah,C,oI (show e+1+eY l<=9223372036854775807 by omega),bC (show e+1+eY l<=s.length by omega),Ot];have D:s.drop (e+1+eY l)=l.drop (eY l):=by rw [<- O8,f]
        have E:(l.drop (eY l)).length<=1000000:=by rw [N3];omega
        simp only [D,wM E,ah];have M:=jY aR (l.drop (eY l));rw [N3] at M;generalize g:wh aR (l.drop (eY l))=d at M;by_cases N:d=0
        · subst N
          have j:jb (c::l)=(0,0):=by
            simp only [jb,if_pos m,g,if_true]
          simp only [show ¬ (((0:Nat):Int) > 0) by omega,aw,if_false,ak,af,ah,ae];exact a _ j
        · have F:((d:Nat):Int) > 0:=by omega
          have j:jb (c::l)=(1+eY l+d,if l.head?=some 45 then -((min (gB 0 ((l.drop (eY l)).take d)) 1000000:Nat):Int) else ((min (gB 0 ((l.drop (eY l)).take d)) 1000000:Nat):Int)):=by
            simp only [jb,if_pos m,g,if_neg N]
          obtain ⟨x,G,H⟩:=Cg (by omega) g (by omega) k;have hf:=DH G (show k<=500000 by omega);have o:(s.take (e+1+eY l+d)).drop (e+1)=l.take (eY l+d):=by
            have:=jA s (e+1) (eY l+d);rw [f, <- PO] at this;exact this
          simp only [aw,if_pos F,oI (show e+1+eY l+d<=9223372036854775807 by omega),bC (show e+1+eY l+d<=s.length by omega),bC (show e+1<=e+1+eY l+d by omega),o,BP,aA,H,aD,ak,af,ah,ae];have hl:=uD (all:=n+k) (e:=((e+1+eY l+d:Nat):Int)) (St.mk 0 0 Tr.leaf) _ hf;simp only [aw,aD] at hl;rw [hl,j];have W:e+(1+eY l+d)=e+1+eY l+d:=by omega
          simp only [W];unfold Js;simp only [OW,OI];by_cases O:l.head?=some 45
          · simp only [O,if_true]
            split <;> rfl
          · simp only [O,if_false]
            split <;> rfl
  · simp only [p,decide_false,OG,au,if_false]
    rfl
theorem IW (c:UInt8):decide (pK [110,116,92,34] c>=0)=rH c:=by
 have:=vh (p:=fun c=>decide (pK [110,116,92,34] c>=0)==rH c) (by decide+kernel) c;exact eq_of_beq this
theorem mf (n:Nat) (b:UInt8) (l:List UInt8):cP n (b::l)=if b.toNat=n then some 0 else (cP n l).map (· +1):=by
 show (match b.toNat.beq n with | true=>some 0 | false=>match cP n l with | some i=>some (i+1) | none=>none)= _;cases h:b.toNat.beq n with
 | true=>rw [if_pos (NZ h)]
 | false=>
  rw [if_neg (Nat.ne_of_beq_eq_false h)];cases cP n l <;> rfl
theorem vc: ∀(r:List UInt8),(∀b∈r,b≠10)->iu r=match cP 34 r with | some j=>j+1 | none=>r.length
 | [],_=>rfl
 | c::r,h=>by
  have ih:=vc r fun b d=>h b (N2 _ d);rw [mf];simp only [iu,if_neg (h c (by simp))];by_cases a:c=34
  .subst a;rfl
  .have:¬ c.toNat=34:=fun e=>a (Pp.1 e);rw [if_neg a,if_neg this,ih];cases cP 34 r <;> rfl
theorem ml: ∀(r:List UInt8),iu r=iu (r.takeWhile fun b=>b != 10)
 | []=>rfl
 | c::r=>by
  by_cases h:c=10
  .subst h;rfl
  .have e:(c != 10)=true:=by simpa using h
   rw [OH,if_pos e];simp only [iu,if_neg h];rw [ml r]
theorem sQ: ∀(l:List UInt8),fj l=fj (l.takeWhile fun b=>b != 10)
 | []=>rfl
 | [c]=>by
  by_cases h:c=10
  .subst h;rfl
  .have e:(c != 10)=true:=by simpa using h
   rw [OH,if_pos e];rfl
 | c::d::l=>by
  have h1:=sQ l;have f:=sQ (d::l);have k:=ml (d::l);by_cases h:c=10
  .subst h;rfl
  have e:(c != 10)=true:=by simpa using h
  rw [OH,if_pos e];by_cases g:c=34
  .subst g;cases i:(d::l).takeWhile fun b=>b != 10 with
   | nil=>rfl
   | cons a r=>rfl
  by_cases j:c=92
  .subst j;by_cases hd:d=10
   .subst hd;rfl
   .have m:(d != 10)=true:=by simpa using hd
    rw [OH,if_pos m] at f k ⊢;simp only [fj,h,g,if_false,if_true];split
    .rw [h1]
    .rw [k]
  .cases i:(d::l).takeWhile fun b=>b != 10 with
   | nil=>
    rw [i] at f;simp only [fj,if_neg h,if_neg g,if_neg j,f]
   | cons a r=>
    rw [i] at f;simp only [fj,if_neg h,if_neg g,if_neg j,f]
theorem my (line:List UInt8) (h: ∀b∈line,b≠10) (hs:line.length<=1000000) (st:St): ∀(r:List UInt8) (i:Nat),line.drop i=r->i<=line.length->
  (aI (eO line) ([.int .u8 0,.int .i64 0,.int .i64 (i:Int)],st)=some (1,[.int .u8 ((fj r).1:Int),.int .i64 ((i+(fj r).2:Nat):Int)],st))\/
  (aI (eO line) ([.int .u8 0,.int .i64 0,.int .i64 (i:Int)],st)=some (0,[.int .u8 0,.int .i64 0],st)/\fj r=(9,r.length))
 | [],i,hd,hi=>by
  have:=Ol.1 hd;have q:¬ (i:Int) < (line.length:Int):=by omega
  refine .inr ⟨aC ?_,rfl⟩;simp only [eO,af,ah,ae,aw,if_neg q]
 | [c],i,hd,hi=>by
  obtain ⟨w,u,a⟩:=drop_cons hd;have G:=Ol.1 u;have q:(i:Int) < (line.length:Int):=by omega
  have n:line[i]=c:=eP a w;have o:c≠10:=h c (Ob w);by_cases c1:c=34
  .subst c1;refine .inl (aC ?_);have z:((UInt8.toNat (34:UInt8):Nat):Int)=34:=rfl;simp only [eO,af,ah,ae,aw,if_pos q,bt a,n,z,cX,if_true,aD,bj (show i+1<=9223372036854775807 by omega),ak,jT];rfl
  .have C:¬ ((c.toNat:Nat):Int)=34:=mo (d:=34) c1;by_cases c2:c=92
   .subst c2;have z2:((UInt8.toNat (92:UInt8):Nat):Int)=92:=rfl;have y:¬ ((92:Int)=34):=by omega
    have v:¬ ((i+1:Nat):Int) < (line.length:Int):=by omega
    have p:pK [92] 34= -1:=rfl;have k:=fun {β:Type} (st:St) (K:Kv β)=>iM [92] 34 st K;have s:((UInt8.toNat (34:UInt8):Nat):Int)=34:=rfl;simp only [s] at k;have el:line.length=i+1:=by omega
    have t:fj [92]=(9,1):=rfl;refine .inl (aC ?_);simp only [eO,af,ah,ae,aw,if_pos q,bt a,n,z2,cX,if_neg y,if_true,aD,bj (show i+1<=9223372036854775807 by omega),if_neg v,ak,ar,ai,bC (show i<=line.length by omega),Ot,hd,k,p,show ¬ ((-1:Int)>=0) by omega,if_false,jT,t];rw [el];rfl
   .have z2:¬ ((c.toNat:Nat):Int)=92:=mo (d:=92) c2;refine .inr ⟨?_,by simp only [fj,if_neg o,if_neg c1];rfl⟩;have ih:=my line h hs st [] (i+1) u (by omega);rw [aL (s':=([.int .u8 0,.int .i64 0,.int .i64 ((i+1:Nat):Int)],st))]
    .rcases ih with ih | ih
     .exfalso;have v:¬ ((i+1:Nat):Int) < (line.length:Int):=by omega
      have e:aI (eO line) ([.int .u8 0,.int .i64 0,.int .i64 ((i+1:Nat):Int)],st)=some (0,[.int .u8 0,.int .i64 0],st):=aC (by simp only [eO,af,ah,ae,aw,if_neg v]);rw [e] at ih;cases ih
     .exact ih.1
    .simp only [eO,af,ah,ae,aw,if_pos q,bt a,n,cX,if_neg C,if_neg z2,ak,cN,aD,bj (show i+1<=9223372036854775807 by omega)]
 | c::d::l,i,hd,hi=>by
  obtain ⟨w,u,a⟩:=drop_cons hd;obtain ⟨D,E,m⟩:=drop_cons u;have q:(i:Int) < (line.length:Int):=by omega
  have v:((i+1:Nat):Int) < (line.length:Int):=by omega
  have n:line[i]=c:=eP a w;have x:line[i+1]=d:=eP m D;have o:c≠10:=h c (Ob w);by_cases c1:c=34
  .subst c1;refine .inl (aC ?_);have z:((UInt8.toNat (34:UInt8):Nat):Int)=34:=rfl;simp only [eO,af,ah,ae,aw,if_pos q,bt a,n,z,cX,if_true,aD,bj (show i+1<=9223372036854775807 by omega),ak,jT];rfl
  .have C:¬ ((c.toNat:Nat):Int)=34:=mo (d:=34) c1;by_cases c2:c=92
   .subst c2;have z2:((UInt8.toNat (92:UInt8):Nat):Int)=92:=rfl;have y:¬ ((92:Int)=34):=by omega
    have g:=IW d;cases A:rH d with
    | true=>
     rw [A] at g;have f:=PG g;have ih:=my line h hs st l (i+2) E (by omega);have step:aI (eO line) ([.int .u8 0,.int .i64 0,.int .i64 (i:Int)],st)=aI (eO line) ([.int .u8 0,.int .i64 0,.int .i64 ((i+2:Nat):Int)],st):=by
      refine aL ?_;simp only [eO,af,ah,ae,aw,if_pos q,bt a,n,z2,cX,if_neg y,if_true,aD,bj (show i+1<=9223372036854775807 by omega),if_pos v,bt m,x,iM,ak,ar,if_pos f,cN,bj (show i+1+1<=9223372036854775807 by omega)]
     have t:fj (92::d::l)=((fj l).1,(fj l).2+2):=by
      simp only [fj,A,if_true];rfl
     rw [step,t];rcases ih with ih | ⟨ih,F⟩
     .refine .inl (ih.trans ?_);show some (_,[_,AV.int .i64 ((i+2+(fj l).2:Nat):Int)],st)= _;rw [show i+2+(fj l).2=i+((fj l).2+2) by omega]
     .exact .inr ⟨ih,by rw [F];rfl⟩
    | false=>
     rw [A] at g;have f:=of_decide_eq_false g;have t:fj (92::d::l)=(9,iu (d::l)+1):=by
      simp only [fj,A];rfl
     have B:=vc (d::l) fun b B=>h b (by
      have:b∈line.drop (i+1):=by rw [u];exact B
      exact List.mem_of_mem_drop this)
     have k:=fun {β:Type} (st:St) (K:Kv β)=>iM (92::d::l) 34 st K;have s:((UInt8.toNat (34:UInt8):Nat):Int)=34:=rfl;simp only [s] at k;have hl:line.length=i+2+l.length:=by
      have:=OC List.length hd;rw [N3] at this;simp at this;omega
     rw [t];refine .inl (aC ?_);have p:pK (92::d::l) 34=match cP 34 (d::l) with | some j=>((j+1:Nat):Int) | none=> -1:=by
      unfold pK;rw [show (UInt8.toNat (34:UInt8))=34 from rfl,mf,if_neg (by decide)];cases cP 34 (d::l) <;> rfl
     simp only [eO,af,ah,ae,aw,if_pos q,bt a,n,z2,cX,if_neg y,if_true,aD,bj (show i+1<=9223372036854775807 by omega),if_pos v,bt m,x,iM,ak,ar,if_neg f,bC (show i<=line.length by omega),Ot,hd,k,p];rw [B];cases hf:cP 34 (d::l) with
     | none=>
      simp only [show ¬ ((-1:Int)>=0) by omega,if_false,ak,jT];rw [show line.length=i+((d::l).length+1) by simp;omega];rfl
     | some j=>
      have H:j+1<=(d::l).length:=by
       have h1:=vQ (d::l);rw [B,hf] at h1;exact h1
      simp only [Om] at H;simp only [show (((j+1:Nat):Int)>=0) by omega,if_true,oI (show i+(j+1)<=9223372036854775807 by omega),bj (show i+(j+1)+1<=9223372036854775807 by omega),ak,jT];rfl
   .have z2:¬ ((c.toNat:Nat):Int)=92:=mo (d:=92) c2;have ih:=my line h hs st (d::l) (i+1) u (by omega);have step:aI (eO line) ([.int .u8 0,.int .i64 0,.int .i64 (i:Int)],st)=aI (eO line) ([.int .u8 0,.int .i64 0,.int .i64 ((i+1:Nat):Int)],st):=by
     refine aL ?_;simp only [eO,af,ah,ae,aw,if_pos q,bt a,n,cX,if_neg C,if_neg z2,ak,cN,aD,bj (show i+1<=9223372036854775807 by omega)]
    have t:fj (c::d::l)=((fj (d::l)).1,(fj (d::l)).2+1):=by
     simp only [fj,if_neg o,if_neg c1,if_neg c2]
    rw [step,t];rcases ih with ih | ⟨ih,F⟩
    .refine .inl (ih.trans ?_);show some (_,[_,AV.int .i64 ((i+1+(fj (d::l)).2:Nat):Int)],st)= _;rw [show i+1+(fj (d::l)).2=i+((fj (d::l)).2+1) by omega]
    .exact .inr ⟨ih,by rw [F];rfl⟩
theorem uY: ∀(s:List UInt8),(match cP 10 s with | some k=>s.take k | none=>s)=s.takeWhile fun b=>b != 10
 | []=>rfl
 | c::l=>by
  have ih:=uY l;rw [mf,OH];by_cases h:c=10
  .subst h;rfl
  .have e:(c != 10)=true:=by simpa using h
   have:¬ c.toNat=10:=fun k=>h (Pp.1 k);rw [if_neg this,if_pos e, <- ih];cases cP 10 l <;> rfl
theorem Bf: ∀(s:List UInt8) (n k:Nat),cP n s=some k->k < s.length
 | [],_,_,h=>by cases h
 | c::l,n,k,h=>by
  rw [mf] at h;split at h
  .cases h;simp
  .obtain ⟨m,a,rfl⟩:=OD.1 h;have:=Bf l n m a;simp;omega
theorem F0 {c:UInt8} {l:List UInt8} (hs:(c::l).length<=1000000):(bc vE).bare 24 [.str (c::l)]=some (if c=34 then .tup [.int .u8 ((fj l).1:Int),.int .i64 (((fj l).2+1:Nat):Int)] else .tup [.int .u8 0,.int .i64 0]):=by
 refine aY rfl ((Jq _).trans ?_);have n: ∀{β:Type} (K:UInt8->Option β),ey (c::l) 0 K=K c:=fun K=>bt (k:=0) (by simp) K;by_cases h:c=34
 .subst h;have z:(((UInt8.toNat (34:UInt8):Nat):Int) != 34)=false:=rfl;have f:=fun {β:Type} (st:St) (K:Kv β)=>iM (34::l) 10 st K;have g:((UInt8.toNat (10:UInt8):Nat):Int)=10:=rfl;simp only [g] at f;have a:=uY (34::l);have o:(34::l).takeWhile (fun b=>b != 10)=34::l.takeWhile (fun b=>b != 10):=by rw [OH];rfl
  rw [o] at a;have i: ∀b∈(34::l.takeWhile (fun b=>b != 10):List UInt8),b≠10:=by
   intro b j;rcases Oc.1 j with rfl | j
   .decide
   .have:=Ox.1 (ni (fun b=>b != 10) l) b j;simpa using this
  have m:(34::l.takeWhile (fun b=>b != 10):List UInt8).length<=1000000:=by
   have:=(List.takeWhile_sublist (p:=fun b=>b != 10) (l:=l)).length_le;simp at hs ⊢;omega
  have e:=my (34::l.takeWhile (fun b=>b != 10)) i m (St.mk 0 0 Tr.leaf) (l.takeWhile fun b=>b != 10) 1 rfl (by simp);rw [<- sQ l] at e;have first: ∀(K:bR->Option AV),(aB (aW (decide (pK (34::l) 10>=0)) (dq (pK (34::l) 10) (34::l:List UInt8).length fun q=>aN (List.drop 0 (List.take q (34::l))) fun r=>some (([AV.str r],St.mk 0 0 Tr.leaf):bR)) (some ([AV.str (34::l)],St.mk 0 0 Tr.leaf))) K)=K ([AV.str (34::l.takeWhile fun b=>b != 10)],St.mk 0 0 Tr.leaf):=by
   intro K;unfold pK;rw [show UInt8.toNat (10:UInt8)=10 from rfl];cases hf:cP 10 (34::l) with
   | none=>
    rw [hf] at a;have a:(34::l)=34::l.takeWhile (fun b=>b != 10):=a;simp only [aw,show ¬ ((-1:Int)>=0) by omega,if_false,ak];rw [<- a]
   | some k=>
    rw [hf] at a;have a:(34::l).take k=34::l.takeWhile (fun b=>b != 10):=a;have u:=Bf _ _ _ hf;simp only [aw,show ((k:Int)>=0) by omega,if_true,bC (show k<=(34::l:List UInt8).length by omega),N7,aD,a,ak]
  simp only [g24,aA,n,z,ai,f,ah];rw [first];simp only [af,aA,ae,if_true];rcases e with e | ⟨e,s⟩
  .have e:aI (eO (34::l.takeWhile fun b=>b != 10)) ([.int .u8 0,.int .i64 0,.int .i64 1],St.mk 0 0 Tr.leaf)= _:=e;rw [e];simp only [ak,af,ah,ae,fB];rw [Pb 1]
  .have e:aI (eO (34::l.takeWhile fun b=>b != 10)) ([.int .u8 0,.int .i64 0,.int .i64 1],St.mk 0 0 Tr.leaf)= _:=e;rw [e,s];simp only [ak,af,ah,ae,dX];rfl
 .have z:((c.toNat:Int) != 34)=true:=by
   have t:¬ ((c.toNat:Nat):Int)=34:=mo (d:=34) h;rw [bne,beq_false_of_ne t];rfl
  simp only [g24,aA,n,z,au,if_neg h]
theorem Fu {c:UInt8} {l:List UInt8}:(bc vE).bare 25 [.str (c::l)]=some (if jK.contains ((c::l).take 2) then .tup [.int .u8 8,.int .i64 2] else .tup [.int .u8 8,.int .i64 (if jn c then 1 else 0)]):=by
 refine aY rfl ((HS _).trans ?_);have h1:(c::l).take 1=[c]:=rfl;have n:wh jn [c]=if jn c then 1 else 0:=by rw [eX];rfl
 have tail: ∀(st:St),(cu (Nat.ble 1 (c::l).length) (aN (List.drop 0 (List.take 1 (c::l))) fun e=>aX (bc vE) 39 [AV.str e,AV.str [40,41,91,93,44,59,124,61,60,62,43,45,42,47,94,64]] st fun f _x _x_1=>bg .i64 f fun a=>aN (if a < 1 then a else 1) fun g=>some (AV.tup [AV.int .u8 8,AV.int .i64 g])))=some (.tup [.int .u8 8,.int .i64 (if jn c then 1 else 0)]):=by
  intro st;simp only [jz (show 1<=(c::l).length by simp),bV,aD,h1,N7,FC (show [c].length<=1000000 by simp),ah,n];cases jn c <;> rfl
 by_cases hl:((c::l).length:Int) > 1
 .have h:2<=(c::l).length:=by omega
  simp only [L9,aA,aw,if_pos hl,jz h,bV,N7,aD];generalize (c::l).take 2=w;cases b:jK.contains w with
  | true=>
   have m:w∈jK:=List.contains_iff_mem.1 b;simp only [jK,Oc,List.not_mem_nil,or_false] at m;rcases m with rfl | rfl | rfl | rfl | rfl | rfl | rfl | rfl | rfl | rfl | rfl <;> rfl
  | false=>
   simp only [jK,List.contains_cons,List.contains_nil,PI] at b;obtain ⟨w1,o,p,q,r,s,t,u,v,i,j,_⟩:=b;simp only [w1,o,p,q,r,s,t,u,v,i,j,ai,ak,af,ar,ae,cN,ah];exact tail _
 .have k:l=[]:=by
   cases l with
   | nil=>rfl
   | cons d l=>simp at hl;omega
  subst k;have b:jK.contains ([c].take 2)=false:=by
   simp [jK]
  simp only [L9,aA,aw,if_neg hl,ak,cN,af,ah,ae,b];exact tail _
def Au (s:List UInt8):Nat:=if lq s=0 then 1 else lq s
theorem CT {s:List UInt8} (h:s≠[]): ∃r n:Int,gx [.str s]= .ok (.tup [.int .i32 r,.int .i64 n])/\((lq s=0/\r=65533/\n=1)\/(lq s≠0/\n=lq s/\(lq s=1->r≠65533))):=by
 cases s with
 | nil=>exact absurd rfl h
 | cons c l=>
  have e:gx [.str (c::l)]= .ok (.tup [.int .i32 ((Lib.decodeL (c::l)).1:Int),.int .i64 ((Lib.decodeL (c::l)).2:Int)]):=by
   rw [Lib.decodeL_N];rfl
  refine ⟨_,_,e, ?_⟩;rcases sJ (c::l) with ⟨h1,a⟩ | ⟨h1,a,b⟩ | ⟨h1,a⟩
  .exact .inl ⟨h1,by rw [a];rfl,by rw [a];rfl⟩
  .refine .inr ⟨by omega,by rw [b,h1],fun _=> ?_⟩;rw [b];show (((c::l).getD 0 0).toNat:Int)≠65533;omega
  .exact .inr ⟨by omega,by rw [a],fun h=>by omega⟩
theorem FI {s:List UInt8} (h:s≠[]): ∃r:Int,(bc vE).bare 45 [.str s]=some (.tup [.int .i64 r,.int .i64 (Au s:Int)]):=by
 obtain ⟨r,n,e,b⟩:=CT h;have a:(s==[])=false:=by simpa using h
 rcases b with ⟨h1,rfl,rfl⟩ | ⟨h1,rfl,c⟩
 .refine ⟨-1,aY rfl ((DZ _).trans ?_)⟩;simp only [LY,aA,a,ai,gE e,ch,bA,bM,ah,cX,if_true,ak,af,ar,ae,aw,show ((1:Int) < 2) by omega,Au,if_pos h1];rfl
 .refine ⟨IntKind.wrap .i64 r,aY rfl ((DZ _).trans ?_)⟩;by_cases c1:r=65533
  .have:¬ lq s=1:=fun k=>c k c1;have:¬ ((lq s:Int) < 2):=by omega
   simp only [LY,aA,a,ai,gE e,ch,bA,bM,ah,cX,if_pos c1,ak,af,ar,ae,aw,if_neg this,aD,Au,if_neg h1]
  .simp only [LY,aA,a,ai,gE e,ch,bA,bM,ah,cX,if_neg c1,ak,af,ar,ae,aD,Au,if_neg h1]
theorem Jo {s:List UInt8} (h:s≠[]):(bc vE).bare 26 [.str s]=some (.tup [.int .u8 9,.int .i64 (Au s:Int)]):=by
 refine aY rfl ((Iw _).trans ?_);obtain ⟨r,e⟩:=FI h;have a: ∀{β:Type} (st:St) (K:Kv β),aX (bc vE) 45 [.str s] st K=K (.tup [.int .i64 r,.int .i64 (Au s:Int)]) st q0:=fun st K=>aM st K rfl rfl rfl e;simp only [NI,aA,a,ch,bA,bM,ah]
def ways (s:List UInt8):List (Nat×Nat):=
 match s with
 | []=>[]
 | c::l=>[(1,wh ep s),(if s.take 2=[40,42] then (match rem (s.drop 2) 1 with | some n=>(2,n+2) | none=>(9,s.length)) else (0,0)),
  (if gM c then (sr (s.takeWhile eL),wh eL s) else (0,0)),(if wh aR s=0 then (5,0) else number s),(if c=34 then ((fj l).1,(fj l).2+1) else (0,0)),
  (if jK.contains (s.take 2) then (8,2) else (8,if jn c then 1 else 0)),(9,Au s)]
def Ci:List FuncId:=[20,21,22,23,24,25,26]
theorem Ga {s:List UInt8} (hs:s.length<=500000) {j:Nat} {f:FuncId} {p:Nat×Nat} (hf:Ci[j]? =some f) (a:(ways s)[j]? =some p):
  (bc vE).bare f [.str s]=some (.tup [.int .u8 (p.1:Int),.int .i64 (p.2:Int)])/\vE.full f=false/\vE.prim f=none:=by
 cases s with
 | nil=>simp [ways] at a
 | cons c l=>
  match j,hf,a with
  | 0,hf,a=>cases hf;cases a;exact ⟨Dt (by omega),rfl,rfl⟩
  | 1,hf,a=>
   cases hf;cases a;refine ⟨(BE (by omega)).trans ?_,rfl,rfl⟩;split
   .cases rem (List.drop 2 (c::l)) 1 <;> rfl
   .rfl
  | 2,hf,a=>
   cases hf;cases a;refine ⟨(F4 (by omega)).trans ?_,rfl,rfl⟩;split <;> rfl
  | 3,hf,a=>
   cases hf;cases a;refine ⟨(BW hs).trans ?_,rfl,rfl⟩;split <;> rfl
  | 4,hf,a=>
   cases hf;cases a;refine ⟨(F0 (by omega)).trans ?_,rfl,rfl⟩;split <;> rfl
  | 5,hf,a=>
   cases hf;cases a;refine ⟨Fu.trans ?_,rfl,rfl⟩;split
   .rfl
   .cases jn c <;> rfl
  | 6,hf,a=>cases hf;cases a;exact ⟨Jo (by simp),rfl,rfl⟩
  | j+7,hf,a=>simp [Ci] at hf
def first:List (Nat×Nat)->Nat×Nat
 | []=>(9,0)
 | p::l=>if 0 < p.2 then p else first l
theorem FT {c:UInt8} (h:gM c=true):eL c=true:=by unfold eL;rw [h];rfl
theorem BI {s:List UInt8} (h:s≠[]):first (ways s)=cut s:=by
 cases s with
 | nil=>exact absurd rfl h
 | cons c l=>
  unfold cut;simp only [ways,first];cases a:ep c with
  | true=>
   have:0 < wh ep (c::l):=by rw [eX,if_pos a];omega
   simp only [if_pos this,if_true]
  | false=>
   have:¬ 0 < wh ep (c::l):=by rw [eX,a];simp
   simp only [if_neg this,Oi,if_false];by_cases b:(c::l).take 2=[40,42]
   .simp only [if_pos b];cases rem (List.drop 2 (c::l)) 1 with
    | some n=>simp
    | none=>simp
   .simp only [if_neg b,show ¬ (0:Nat) < 0 by omega,if_false];cases hl:gM c with
    | true=>
     have:0 < wh eL (c::l):=by rw [eX,if_pos (FT hl)];omega
     simp only [if_pos this,if_true]
    | false=>
     simp only [Oi,if_false,show ¬ (0:Nat) < 0 by omega];cases hd:aR c with
     | true=>
      have h1:0 < wh aR (c::l):=by rw [eX,if_pos hd];omega
      have i:=(vC (c::l) h1).1;have f:¬ wh aR (c::l)=0:=by omega
      simp only [if_neg f,show 0 < (number (c::l)).2 by omega,if_true]
     | false=>
      have h1:wh aR (c::l)=0:=by rw [eX,hd];simp
      simp only [if_pos h1,show ¬ (0:Nat) < 0 by omega,if_false,Oi];by_cases d:c=34
      .simp only [if_pos d,show 0 < (fj l).2+1 by omega,if_true]
      .simp only [if_neg d,show ¬ (0:Nat) < 0 by omega,if_false];by_cases e:jK.contains ((c::l).take 2)=true
       .simp only [if_pos e,show (0:Nat) < 2 by omega,if_true]
       .simp only [if_neg e];cases ho:jn c with
        | true=>simp
        | false=>
         have g:0 < Au (c::l):=by unfold Au;split <;> omega
         simp only [Oi,if_false,show ¬ (0:Nat) < 0 by omega,g,if_true];rfl
theorem yN {β:Type} {f g:FuncId} (a:vE.prim f=none) (args:List AV) (st:St) (K:Kv β):jX (bc vE) (Sx.prim (sx vE g)) (.fn (.func f) [] []) args st K=aX (bc vE) f args st K:=by
 have a:Sx.prim (sx vE g) f=none:=a;simp only [jX,El,a,O3,ON];rfl
def tok (p:Nat×List UInt8):AV:= .agg [.int .u8 (p.1:Int),.str p.2]
def KK:AV:=AV.sl 1 [AV.fn (Fn.func 20) [] [],AV.fn (Fn.func 21) [] [],AV.fn (Fn.func 22) [] [],AV.fn (Fn.func 23) [] [],AV.fn (Fn.func 24) [] [],AV.fn (Fn.func 25) [] [],AV.fn (Fn.func 26) [] []] Perm.shut
theorem FF {β:Type} {j:Nat} {f:FuncId} (hf:Ci[j]? =some f) (st:St) (K:AV->List Nat->Option β):fc 1 KK (j:Int) st K=K (.ip [.fn (.func f) [] []]) []:=by
 match j,hf with
 | 0,hf=>cases hf;rfl
 | 1,hf=>cases hf;rfl
 | 2,hf=>cases hf;rfl
 | 3,hf=>cases hf;rfl
 | 4,hf=>cases hf;rfl
 | 5,hf=>cases hf;rfl
 | 6,hf=>cases hf;rfl
 | j+7,hf=>simp [Ci] at hf
theorem zu {s:List UInt8} (hs:s.length<=500000) {st:St} {v:AV} {es:List AV} (ho:jE st 2 24 v es) (o:es.length<=500000): ∀(l:List (Nat×Nat)) (j:Nat),(ways s).drop j=l->l.length+j=7->0 < (first l).2->(first l).2<=s.length->
  ∃v' st',aI sH ([v,.str s,.int .i64 (j:Int)],st)=some (0,[v',.str (s.drop (first l).2)],st')/\jE st' 2 24 v' (es++[tok ((first l).1,s.take (first l).2)])
 | [],j,hd,i,h0,_=>by simp [first] at h0
 | p::l,j,hd,i,h0,d=>by
  obtain ⟨r,t,u⟩:=drop_cons (α:=Nat×Nat) hd;have k:j < 7:=by simp at i;omega
  obtain ⟨f,hf⟩: ∃f,Ci[j]? =some f:=⟨Ci[j],Oj k⟩;obtain ⟨w,e,a⟩:=Ga hs hf r;have m: ∀{β:Type} (st:St) (K:Kv β),aX (bc vE) f [.str s] st K=K (.tup [.int .u8 (p.1:Int),.int .i64 (p.2:Int)]) st q0:=fun st K=>aM st K e rfl rfl w;have c:=fun {β:Type} (st:St) (K:AV->List Nat->Option β)=>FF hf st K;unfold KK at c;have q:(j:Int) < 7:=by omega
  by_cases n:0 < p.2
  .have g:(p.2:Int) > 0:=by omega
   have h:first (p::l)=p:=by simp only [first,if_pos n]
   rw [h] at d ⊢;obtain ⟨v',st',o',z,x,a'⟩:=A6 (b:=24) (tok (p.1,s.take p.2)) ho (qQ (by omega) (by omega) (by omega));refine ⟨v',st',aC ?_,o'⟩;have a': ∀{β:Type} (K:Kv β),cq 2 24 24 v [.agg [.int .u8 (p.1:Int),.str (s.take p.2)]] st K=K v' st' x:=fun K=>a' K;simp only [sH,af,aA,ah,ae,aw,if_pos q,c,cO,bl,ak,yN a,m,ch,bA,bM,if_pos g,bC d,N7,aD,a',Ot]
  .have g:¬ (p.2:Int) > 0:=by omega
   have h:first (p::l)=first l:=by simp only [first,if_neg n]
   rw [h] at h0 d ⊢;obtain ⟨v',st',y,o'⟩:=zu hs ho o l (j+1) t (by simp at i;omega) h0 d;refine ⟨v',st', ?_,o'⟩;rw [aL (s':=([v,.str s,.int .i64 ((j+1:Nat):Int)],st)),y];simp only [sH,af,aA,ah,ae,aw,if_pos q,c,cO,bl,ak,yN a,m,ch,bA,bM,if_neg g,aD,bj (show j+1<=9223372036854775807 by omega)]
theorem ve: ∀(n:Nat) (s:List UInt8) (st:St) (v:AV) (es:List AV),s.length<=n->n<=500000->jE st 2 24 v es->es.length+n<=500000->
  ∃v' st',aI vY ([v,.str s],st)=some (0,[v'],st')/\jE st' 2 24 v' (es++(tokens s).map tok)
 | n,[],st,v,es,_,_,ho,_=>by
  refine ⟨v,st,aC ?_,by simpa [sy] using ho⟩;simp only [vY,af,aA,ae,show (!(([]:List UInt8)==[]))=false from rfl,ai]
 | 0,c::l,_,_,_,h,_,_,_=>by simp at h
 | n+1,c::l,st,v,es,h,i,ho,j=>by
  have k:=qa (s:=c::l) (by simp);have a:=BI (s:=c::l) (by simp);obtain ⟨v1,st1,b,o1⟩:=zu (s:=c::l) (by omega) ho (by omega) (ways (c::l)) 0 rfl rfl (by rw [a];omega) (by rw [a];omega);rw [a] at b o1;have hd:((c::l).drop (cut (c::l)).2).length<=n:=by rw [N3];omega
  obtain ⟨f,d,g,e⟩:=ve n ((c::l).drop (cut (c::l)).2) st1 v1 _ hd (by omega) o1 (by rw [N8];simp;omega);refine ⟨f,d, ?_, ?_⟩
  .have b:aI sH ([v,.str (c::l),.int .i64 0],st)= _:=b;rw [aL (s':=([v1,.str ((c::l).drop (cut (c::l)).2)],st1)),g];simp only [vY,af,aA,ae,show (!((c::l:List UInt8)==[]))=true from rfl,au,b,ak]
  .rw [qf (by simp),Od];rw [On] at e;exact e
theorem ER {s:List UInt8} (hs:s.length<=1000000):(bc vE).bare 19 [.str s]=some (.bool (dN s)):=by
 refine aY rfl ((HE _).trans ?_);simp only [g19,aA,gE (yK (show s.length<=9223372036854775807 by omega)),ar]
theorem sP {β:Type} {s:List UInt8} (hs:s.length<=1000000) (st:St) (K:Kv β):aX (bc vE) 19 [.str s] st K=K (.bool (dN s)) st q0:=aM st K rfl rfl rfl (ER hs)
theorem vR {s:List UInt8} (h:65536 < s.length):(bc vE).bare 12 [.str s]=some (.tup [.aG,.int .i64 40]):=by
 refine aY rfl ((Ab _).trans ?_);have q:(s.length:Int) > 65536:=by omega
 simp only [g12,aA,aw,if_pos q]
theorem xk {s:List UInt8} (h:s.length<=65536) (a:dN s=false):(bc vE).bare 12 [.str s]=some (.tup [.aG,.int .i64 4]):=by
 refine aY rfl ((Ab _).trans ?_);have q:¬ (s.length:Int) > 65536:=by omega
 simp only [g12,aA,aw,if_neg q,sP (show s.length<=1000000 by omega),a,ar,OG,au]
theorem Ca {s:List UInt8} (h:s.length<=65536) (a:dN s=true): ∃x,(bc vE).bare 12 [.str s]=some (.tup [x,.int .i64 0])/\cb 2 x ((tokens s).map tok):=by
 have q:¬ (s.length:Int) > 65536:=by omega
 obtain ⟨v',st',e,o⟩:=ve s.length s (St.mk 0 0 Tr.leaf) .aG [] (NX _) (by omega) (jE.aG (NX _) _ _) (by simp;omega);rw [O3] at o;obtain ⟨x,b,hf⟩:=xn o (tg .i64 0) rfl;refine ⟨x,aY rfl ((Ab _).trans ?_),b⟩;simp only [g12,aA,aw,if_neg q,sP (show s.length<=1000000 by omega),a,ar,Ou,ai,e,ak,af,ae,hf]
theorem IX (a b:Int) (s t:List UInt8):xg (Env.T vE) 20 24 (.agg [.int .u8 a,.str s]) (.agg [.int .u8 b,.str t])= .ok (a==b&&s==t):=by
 have h:xg (Env.T vE) 20 24 (.agg [.int .u8 a,.str s]) (.agg [.int .u8 b,.str t])=(match a==b with | true=>(match s==t with | true=> .ok true | false=> .ok false) | false=> .ok false):=by kernel_rfl
 rw [h];cases a==b <;> cases s==t <;> rfl
theorem FJ (a b:Int) (s t:List UInt8):Fc (VM.binOp (Env.T vE) BinOp.neq 24 (.agg [.int .u8 a,.str s]) (.agg [.int .u8 b,.str t]))=some (.bool !(a==b&&s==t)):=by
 have h:VM.binOp (Env.T vE) BinOp.neq 24 (.agg [.int .u8 a,.str s]) (.agg [.int .u8 b,.str t])=(do pure (.bool !(<- xg (Env.T vE) 20 24 (.agg [.int .u8 a,.str s]) (.agg [.int .u8 b,.str t])))):=by kernel_rfl
 rw [h,IX];rfl
theorem iF {x:AV} {es:List (Nat×List UInt8)} (h:cb 2 x (es.map tok)) {j:Nat} {p:Nat×List UInt8} (a:es[j]? =some p) {β:Type} (st:St) (K:AV->List Nat->Option β):fc 2 x (j:Int) st K=K (.ip [.int .u8 (p.1:Int),.str p.2]) []:=
 h.idx (by rw [OM,a];rfl) st K
structure zx (PT:TypeId) (st:St) (p:Nat) (L:List Parse.bo) (x:AV) (i d:Nat):Prop where
 get:st.get p= .ok (.cells PT [x,.int .i64 (i:Int),.int .i64 (d:Int)])
 sl:cb 2 x (L.map tok)
 le:i<=L.length
 len:L.length<=1000000
 ro:st.ro<=p
section
variable {PT:TypeId} {st st':St} {p:Nat} {L:List Parse.bo} {x:AV} {i d:Nat}
theorem zx.lt (h:zx PT st p L x i d):p < st.h:=(St.cA.1 h.get).1
theorem zx.keeps {but:Nat->Prop} (h:zx PT st p L x i d) (k:aV st st' but) (a:¬ but p):zx PT st' p L x i d:=
 ⟨k.old _ _ a h.get,h.sl,h.le,h.len,by rw [k.ro];exact h.ro⟩
theorem zx.qE (h:zx PT st p L x i d):st.ro<=st.h:=Oe h.ro (PU h.lt)
end
abbrev PS:=zx 41
theorem PS.fY {st st':St} {but:Nat->Prop} (k:aV st st' but) (h:st.ro<=st.h):st'.ro<=st'.h:=by rw [k.ro];exact Oe h k.h
theorem Fi (t:Parse.bo):(bc vE).bare 46 [.agg [.int .u8 (t.1:Int),.str t.2]]=some (.bool (Parse.bP t)):=by
 refine aY rfl ((I1 _).trans ?_);unfold Parse.bP;by_cases h1:t.1=1
 .have a:(t.1:Int)=1:=by omega
  have e:(t.1==1||t.1==2)=true:=by simp [h1]
  rw [e];simp only [ME,bF,af,ah,aA,ae,cX,if_pos a,ak,ar]
 .have a:¬ (t.1:Int)=1:=by omega
  have b:((t.1:Int)==2)=(t.1==2):=by
   by_cases h:t.1=2
   .rw [h];rfl
   .rw [NY.2 h,NY.2 (show ¬ (t.1:Int)=2 by omega)]
  simp only [ME,bF,af,ah,aA,ae,cX,if_neg a,ak,ar,b,NY.2 h1,Ov]
theorem uR (t:Parse.bo) {β:Type} (st:St) (K:Kv β):aX (bc vE) 46 [.agg [.int .u8 (t.1:Int),.str t.2]] st K=K (.bool (Parse.bP t)) st q0:=aM st K rfl rfl rfl (Fi t)
def wT (r:List Parse.bo):Nat:=(r.takeWhile Parse.bP).length
theorem qS (t:Parse.bo) (r:List Parse.bo):wT (t::r)=if Parse.bP t=true then wT r+1 else 0:=by
 unfold wT;rw [OH];split <;> rfl
theorem Bo (t:Parse.bo) (r:List Parse.bo):Parse.nx (t::r)=if Parse.bP t=true then Parse.nx r else t:=by
 unfold Parse.nx;rw [Pk];cases Parse.bP t <;> rfl
theorem uA {p d:Nat} {L:List Parse.bo} {x:AV} {st0:St} {m:Nat}: ∀(l:List Parse.bo) (j:Nat) (st:St),L.drop j=l->PS st p L x m d->st.get st0.h= .ok (.cells 24 [.int .u8 0,.str []])->st0.h≠p->st.ro<=st0.h->
  ∃st' n,aI (rB (.mp p 0) st0) ([.int .i64 0,.int .i64 (j:Int)],st)=some (n,[.int .i64 (if l.dropWhile Parse.bP=[] then 0 else ((j+wT l:Nat):Int))],st')/\
   (n=if l.dropWhile Parse.bP=[] then 0 else 1)/\aV st st' (· =st0.h)/\st'.h=st.h/\(l.dropWhile Parse.bP=[]->st'=st)/\(l.dropWhile Parse.bP≠[]->st'.get st0.h= .ok (.cells 24 [.int .u8 ((Parse.nx l).1:Int),.str (Parse.nx l).2]))
 | [],j,st,hd,a,i,f,c=>by
  have:=Ol.1 hd;have q:¬ (j:Int) < ((L.map tok).length:Int):=by rw [Ok];omega
  refine ⟨st,0,aC ?_,rfl,aV.refl _ _,rfl,fun _=>rfl,fun h=>absurd rfl h⟩;simp only [rB,af,ah,ae,dh,bV,cY,Ow,N5,bh a.get,N7,bl,ak,a.sl.len,aw,if_neg q];rfl
 | t::l,j,st,hd,a,i,f,c=>by
  obtain ⟨g,o,r⟩:=drop_cons hd;have q:(j:Int) < ((L.map tok).length:Int):=by rw [Ok];omega
  have hlen:=a.len;cases b:Parse.bP t with
  | true=>
   obtain ⟨st',n,k,s,u,v,w,y⟩:=uA l (j+1) st o a i f c;have e:(t::l).dropWhile Parse.bP=l.dropWhile Parse.bP:=by rw [Pk,b];rfl
   rw [e,qS,b,if_pos rfl,Bo,b,if_pos rfl,show j+(wT l+1)=j+1+wT l by omega];refine ⟨st',n, ?_,s,u,v,w,y⟩;rw [aL (s':=([.int .i64 0,.int .i64 ((j+1:Nat):Int)],st)),k];simp only [rB,af,ah,ae,dh,bV,cY,Ow,N5,bh a.get,N7,bl,ak,a.sl.len,aw,if_pos q,iF a.sl g,cO,ke,bF,aA,uR,b,ar,Ou,ai,aD,bj (show j+1<=9223372036854775807 by omega)]
  | false=>
   have e:(t::l).dropWhile Parse.bP=t::l:=by rw [Pk,b];rfl
   obtain ⟨st1,A,B,C,D,k⟩:=BB (O:=bc vE) (.agg [.int .u8 (t.1:Int),.str t.2]) i (z:=2) (cs:=[.int .u8 (t.1:Int),.str t.2]) rfl rfl c;rw [e,qS,b,if_neg (by simp),if_neg (by simp),Bo,b,if_neg (by simp)];refine ⟨st1,1,aC ?_,rfl,B,C,fun h=>by simp at h,fun _=>A⟩;simp only [rB,af,ah,ae,dh,bV,cY,Ow,N5,bh a.get,N7,bl,ak,a.sl.len,aw,if_pos q,iF a.sl g,cO,ke,bF,aA,uR,b,ar,OG,au,k]
theorem Ah: ∀{l:List Parse.bo},l.dropWhile Parse.bP=[]->wT l=l.length
 | [],_=>rfl
 | t::l,h=>by
  rw [Pk] at h;rw [qS];cases a:Parse.bP t with
  | true=>rw [a,if_pos rfl] at h;rw [if_pos rfl,Ah h];rfl
  | false=>rw [a,if_neg (by simp)] at h;cases h
theorem AQ {l:List Parse.bo} (h:l.dropWhile Parse.bP=[]):Parse.nx l=(0,[]):=by unfold Parse.nx;rw [h]
theorem FU {st:St} {p:Nat} {L:List Parse.bo} {x:AV} {i d:Nat} (h:PS st p L x i d):
  ∃st',(bc vE).wide 27 [.mp p 0] st=some (.tup [.agg [.int .u8 ((Parse.nx (L.drop i)).1:Int),.str (Parse.nx (L.drop i)).2],.int .i64 ((i+wT (L.drop i):Nat):Int)],st')/\aV st st' (fun _=>False):=by
 have e:aV st (st.add (.cells 24 [.int .u8 0,.str []])) (fun _=>False):=aV.add _ _ _;have h0:=h.keeps e (fun f=>f);have j:(st.add (.cells 24 [.int .u8 0,.str []])).get st.h= .ok (.cells 24 [.int .u8 0,.str []]):=St.en;have a:st.h≠p:=Nat.ne_of_gt h.lt;obtain ⟨st1,n,b,c,k,w,l,m⟩:=uA (st0:=st) (L.drop i) i _ rfl h0 j a h.qE;by_cases hd:(L.drop i).dropWhile Parse.bP=[]
 .have:=l hd;subst this;rw [if_pos hd] at b c;subst c;obtain ⟨g,o,q,r,y,s⟩:=tz (O:=bc vE) (.agg [.int .u8 0,.str []]) j (z:=2) (cs:=[.int .u8 0,.str []]) rfl rfl h.qE;have t:((i+wT (L.drop i):Nat):Int)=((L.map tok).length:Int):=by
   have u:=h.le;rw [Ah hd,N3,Ok];omega
  refine ⟨g,fJ ((EY _ _).trans ?_),e.fresh r (NX _)⟩;rw [t,AQ hd];have v:=Er (o:=o) a.symm;simp only [Mn,ef,dh,bV,cY,N5,bh h0.get,jQ,N7,bl,ak,ah,b,af,ae,dX,h0.sl.len,s,Ct,v,OZ,bh q,ke,bF,aA];rfl
 .rw [if_neg hd] at b c;subst c;refine ⟨st1,fJ ((EY _ _).trans ?_),e.fresh k (NX _)⟩;simp only [Mn,ef,dh,bV,cY,N5,bh h0.get,jQ,N7,bl,ak,ah,b,af,ae,fB,bh (m hd),ke,bF,aA]
theorem jP {st:St} {p:Nat} {L:List Parse.bo} {x:AV} {i d:Nat} (h:PS st p L x i d):
  ∃st',aV st st' (fun _=>False)/\ ∀{β:Type} (K:Kv β),aX (bc vE) 27 [.mp p 0] st K=K (.tup [.agg [.int .u8 ((Parse.nx (L.drop i)).1:Int),.str (Parse.nx (L.drop i)).2],.int .i64 ((i+wT (L.drop i):Nat):Int)]) st' ⟨[],.all st st'⟩:=by
 obtain ⟨st',e,k⟩:=FU h;exact ⟨st',k,fun K=>fO (E:=vE) K rfl rfl e⟩
def Db (s:List UInt8):List (List UInt8)->Nat->Option Nat
 | [],_=>none
 | t::l,j=>if s=t then some j else Db s l (j+1)
theorem ym (s:List UInt8): ∀(l:List (List UInt8)) (j:Nat),(Db s l j).isSome=l.any fun t=>t==s
 | [],_=>rfl
 | t::l,j=>by
  simp only [Db,Pn];by_cases h:s=t
  .rw [if_pos h,h];simp
  .rw [if_neg h,ym s l (j+1),NY.2 (fun e=>h e.symm),Ov]
theorem xc {x:AV} {a:List (List UInt8)} (h:cb 1 x (a.map AV.str)) {j:Nat} {s:List UInt8} (b:a[j]? =some s) {β:Type} (st:St) (K:AV->List Nat->Option β):fc 1 x (j:Int) st K=K (.ip [.str s]) []:=
 h.idx (v:= .str s) (by rw [OM,b];rfl) st K
theorem sL {x:AV} {a:List (List UInt8)} (b:cb 1 x (a.map AV.str)) (s:List UInt8) (st:St): ∀(l:List (List UInt8)) (j:Nat),a.drop j=l->
  aI (py x s a.length) ([.int .i64 0,.int .i64 (j:Int)],st)=(match Db s l j with | some k=>some (1,[.int .i64 (k:Int)],st) | none=>some (0,[.int .i64 0],st))
 | [],j,hd=>by
  have:=Ol.1 hd;have q:¬ (j:Int) < (a.length:Int):=by omega
  refine aC ?_;simp only [py,af,ah,ae,aw,if_neg q]
 | t::l,j,hd=>by
  obtain ⟨d,e,f⟩:=drop_cons hd;have q:(j:Int) < (a.length:Int):=by omega
  have hlen:=b.1;rw [Ok] at hlen;simp only [Db];by_cases h:s=t
  .rw [if_pos h];refine aC ?_;have c:(s==t)=true:=by simp [h]
   simp only [py,af,ah,ae,aw,if_pos q,xc b d,cO,bl,ak,aA,c,au]
  .rw [if_neg h,aL (s':=([.int .i64 0,.int .i64 ((j+1:Nat):Int)],st)),sL b s st l (j+1) e];have c:(s==t)=false:=NY.2 h;simp only [py,af,ah,ae,aw,if_pos q,xc b d,cO,bl,ak,aA,c,ai,aD,bj (show j+1<=9223372036854775807 by omega)]
theorem yL {x:AV} {a:List (List UInt8)} (b:cb 1 x (a.map AV.str)) (s:List UInt8):(bc vE).bare 47 [x,.str s]=some (.bool (a.any fun t=>t==s)):=by
 have hi: ∃n:Int,(bc vE).bare 77 [x,.str s]=some (.int .i64 n)/\decide (n>=0)=a.any fun t=>t==s:=by
  have e:=sL b s (St.mk 0 0 Tr.leaf) a 0 rfl;have e:aI (py x s a.length) ([.int .i64 0,.int .i64 0],St.mk 0 0 Tr.leaf)= _:=e;have hl:=fun {β:Type} (K:Nat->Option β)=>b.len K;simp only [Ok] at hl;rw [<- ym s a 0];cases d:Db s a 0 with
  | some k=>
   rw [d] at e;refine ⟨(k:Int),aY rfl ((DO _ _).trans ?_),by simp⟩;simp only [L8,aA,hl,e,ak,af,ah,ae,fB]
  | none=>
   rw [d] at e;refine ⟨-1,aY rfl ((DO _ _).trans ?_),by simp⟩;simp only [L8,aA,hl,e,ak,af,ah,ae,dX]
 obtain ⟨n,h1,g⟩:=hi;refine aY rfl ((II _ _).trans ?_);have c:=fun {β:Type} (st:St) (K:Kv β)=>aM (f:=77) st K rfl (by simp only [Od,O5,b.strip];rfl) (by simp only [bw,b.bare];rfl) h1;simp only [M6,aA,c,ah,g]
theorem mY {x:AV} {b:List (List UInt8)} (a:cb 1 x (b.map AV.str)) (s:List UInt8) {β:Type} (st:St) (K:Kv β):aX (bc vE) 47 [x,.str s] st K=K (.bool (b.any fun t=>t==s)) st q0:=
 aM (f:=47) st K rfl (by simp only [Od,O5,a.strip];rfl) (by simp only [bw,a.bare];rfl) (yL a s)
theorem LO (st:St) (k:Nat) (t:List UInt8) (h:st.ro<=st.h): ∃st',st'.get st.h= .ok (.cells 24 [.int .u8 (k:Int),.str t])/\aV st st' (fun _=>False)/\ ∃a,∀{β:Type} (K:Kv β),bn (bc vE) 2 (AV.mp st.h 0) (.agg [.int .u8 (k:Int),.str t]) [.int .u8 (k:Int),.str t] (st.add (.cells 24 [.int .u8 0,.str []])) K=K VM.undef st' a:=by
 obtain ⟨st',g,b,_,a,e⟩:=vl (O:=bc vE) (st:=st) (t:=24) (z:=2) (old:=[.int .u8 0,.str []]) (cs:=[.int .u8 (k:Int),.str t]) (.agg [.int .u8 (k:Int),.str t]) rfl rfl h;exact ⟨st',g,b,a,e⟩
theorem Kk {st:St} {p:Nat} {L:List Parse.bo} {x:AV} {i d:Nat} (h:PS st p L x i d) {y:AV} {b:List (List UInt8)} (hy:cb 1 y (b.map AV.str)):
  ∃st',(bc vE).wide 28 [.mp p 0,y] st=some (.bool (Parse.isAny b (L.drop i)),st')/\aV st st' (fun _=>False):=by
 obtain ⟨st1,k,c1⟩:=jP h;obtain ⟨j,f,n,o,g⟩:=LO st1 (Parse.nx (L.drop i)).1 (Parse.nx (L.drop i)).2 (PS.fY k h.qE);refine ⟨j,fJ ((Jk _ _ _).trans ?_),k.trans n⟩;unfold Parse.isAny;generalize Parse.nx (L.drop i)=t at c1 f g;by_cases l:t.1=3
 .have a:(t.1:Int)=3:=by omega
  have e:((t.1==3||t.1==8)&&b.any fun s=>s==t.2)=b.any fun s=>s==t.2:=by simp [l]
  rw [e];simp only [LL,c1,ch,bA,bM,bF,af,ah,aA,ae,ef,g,bh f,N7,jQ,bl,ak,cX,if_pos a,mY hy,ar]
 by_cases m:t.1=8
 .have a:¬ (t.1:Int)=3:=by omega
  have c:(t.1:Int)=8:=by omega
  have e:((t.1==3||t.1==8)&&b.any fun s=>s==t.2)=b.any fun s=>s==t.2:=by simp [m]
  rw [e];simp only [LL,c1,ch,bA,bM,bF,af,ah,aA,ae,ef,g,bh f,N7,jQ,bl,ak,cX,if_neg a,if_pos c,mY hy,ar]
 .have a:¬ (t.1:Int)=3:=by omega
  have c:¬ (t.1:Int)=8:=by omega
  have e:((t.1==3||t.1==8)&&b.any fun s=>s==t.2)=false:=by simp [l,m]
  rw [e];simp only [LL,c1,ch,bA,bM,bF,af,ah,aA,ae,ef,g,bh f,N7,jQ,bl,ak,cX,if_neg a,if_neg c,ar]
theorem wC {st:St} {p:Nat} {L:List Parse.bo} {x:AV} {i d:Nat} (h:PS st p L x i d) {y:AV} {a:List (List UInt8)} (hy:cb 1 y (a.map AV.str)):
  ∃st',aV st st' (fun _=>False)/\ ∀{β:Type} (K:Kv β),aX (bc vE) 28 [.mp p 0,y] st K=K (.bool (Parse.isAny a (L.drop i))) st' ⟨[],.all st st'⟩:=by
 obtain ⟨st',e,k⟩:=Kk h hy;exact ⟨st',k,fun K=>fO (E:=vE) K rfl rfl e⟩
theorem uU (s:List UInt8) (r:List Parse.bo):Parse.isAny [s] r=Parse.bY s r:=by
 unfold Parse.isAny Parse.bY;congr 1;simp only [Pn,List.any_nil,PQ];rw [Bool.eq_iff_iff,OL,OL];exact eq_comm
theorem iy (l:List (List UInt8)) (h:l.length<=1000):cb 1 (.sl 1 (l.map AV.str) .shut) (l.map AV.str):=cb.shut (by rw [Ok];omega)
end Go.Proofs.YtpinfliihpdjcaaGreatDoor.Vm
namespace Go.Proofs.YtpinfliihpdjcaaGreatDoor.Vm
open Go Go.VM Go.Proofs Go.Lex Go.Parse
mutual
def fI:T->AV->Prop
 | .mk k tk tx l,v=> ∃x es,v= .agg [.int .u8 (k:Int),.int .u8 (tk:Int),.str tx,x]/\cb 4 x es/\bp l es
def bp:List T->List AV->Prop
 | [],es=>es=[]
 | t::l,es=> ∃e r,es=e::r/\fI t e/\bp l r
end
theorem bp.nil:bp [] []:=by simp only [bp]
theorem bp.cons {t:T} {l:List T} {e:AV} {r:List AV} (h:fI t e) (hs:bp l r):bp (t::l) (e::r):=by
 simp only [bp];exact ⟨e,r,rfl,h,hs⟩
theorem bp.app: ∀{l m:List T} {es fs:List AV},bp l es->bp m fs->bp (l++m) (es++fs)
 | [],_,_,_,h,k=>by simp only [bp] at h;subst h;exact k
 | t::l,_,_,_,h,k=>by
  simp only [bp] at h;obtain ⟨e,r,rfl,h1,a⟩:=h;exact bp.cons h1 (bp.app a k)
theorem bp.len: ∀{l:List T} {es:List AV},bp l es->es.length=l.length
 | [],_,h=>by simp only [bp] at h;subst h;rfl
 | t::l,_,h=>by
  simp only [bp] at h;obtain ⟨e,r,rfl,h1,a⟩:=h;simp [bp.len a]
def wv (x:AV) (es:List AV):Prop:=cb 4 x es\/(es.length<=9223372036854775807/\ ∃k,x= .sl 4 es (.own k))
theorem wv.one {x:AV} {es:List AV} (h:wv x es):VM.one x=true:=by
 rcases h with h | ⟨_,k,rfl⟩
 .exact h.one
 .rfl
theorem wv.ab {β:Type} {x:AV} {es:List AV} (h:wv x es) (K:Option β):ab x K=K:=iX h.one K
theorem wv.fit {x:AV} {es:List AV} (h:wv x es): ∃a,cb 4 a es/\ ∀{β:Type} (K:AV->Option β),aJ x K=K a:=by
 rcases h with h | ⟨hl,k,rfl⟩
 .exact ⟨x,h,fun K=>h.aJ K⟩
 .exact ⟨.sl 4 es .wide,cb.wide hl,fun K=>rfl⟩
theorem wv.own {st:St} {e:TypeId} {x:AV} {es:List AV} (h:jE st 4 e x es):wv x es:=by
 rcases h.2.2 with ⟨rfl | rfl,rfl⟩ | rfl | ⟨k,rfl,_,_⟩
 .exact .inl cb.aG
 .exact .inl cb.emp
 .exact .inl (cb.shut h.2.1)
 .exact .inr ⟨h.2.1,k,rfl⟩
theorem wv.elems {β:Type} {x:AV} {es:List AV} (h:wv x es) (K:List AV->Option β):jJ x K=K es:=by
 rcases h with h | ⟨_,k,rfl⟩
 .exact h.elems K
 .rfl
structure VN (t:T) (v:AV):Prop where
 ex: ∃k tk tx l x es,t= .mk k tk tx l/\v= .agg [.int .u8 (k:Int),.int .u8 (tk:Int),.str tx,x]/\wv x es/\bp l es
structure Nd (t:T) (k tk:Nat) (tx:List UInt8) (x:AV):Prop where
 ex: ∃l es,t= .mk k tk tx l/\wv x es/\bp l es
theorem Nd.one {t:T} {k tk:Nat} {tx:List UInt8} {x:AV} (h:Nd t k tk tx x):VM.one x=true:=by
 obtain ⟨l,es,_,a,_⟩:=h.ex;exact a.one
theorem Nd.ab {t:T} {k tk:Nat} {tx:List UInt8} {x:AV} (h:Nd t k tk tx x) {β:Type} (K:Option β):ab x K=K:=iX h.one K
theorem Nd.fit {t:T} {k tk:Nat} {tx:List UInt8} {x:AV} (h:Nd t k tk tx x): ∃a,fI t (.agg [.int .u8 (k:Int),.int .u8 (tk:Int),.str tx,a])/\ ∀{β:Type} (K:AV->Option β),aJ x K=K a:=by
 obtain ⟨l,es,rfl,b,c⟩:=h.ex;obtain ⟨a,d,hf⟩:=b.fit;exact ⟨a,by simp only [fI];exact ⟨a,es,rfl,d,c⟩,hf⟩
theorem VN.cells {t:T} {v:AV} (h:VN t v): ∃(k tk:Nat) (tx:List UInt8) (x:AV),v= .agg [.int .u8 (k:Int),.int .u8 (tk:Int),.str tx,x]/\Nd t k tk tx x:=by
 obtain ⟨k,tk,tx,l,x,es,rfl,rfl,a,b⟩:=h.ex;exact ⟨k,tk,tx,x,rfl,⟨⟨l,es,rfl,a,b⟩⟩⟩
theorem Nd.vn {t:T} {k tk:Nat} {tx:List UInt8} {x:AV} (h:Nd t k tk tx x):VN t (.agg [.int .u8 (k:Int),.int .u8 (tk:Int),.str tx,x]):=by
 obtain ⟨l,es,rfl,a,b⟩:=h.ex;exact ⟨⟨k,tk,tx,l,x,es,rfl,rfl,a,b⟩⟩
mutual
theorem fI.rf: ∀{t:T} {v:AV},fI t v->Rf (2 * dH t) v
 | .mk k tk tx l,v,h=>by
  simp only [fI] at h;obtain ⟨x,es,rfl,hx,hn⟩:=h;have he:=bp.rf hn;have hxr:Rf (2 * dB l+1) x:=by
   rcases hx.2 with ⟨rfl | rfl,rfl⟩ | rfl | rfl
   .exact wy.mono (by omega)
   .exact E6.mono (by omega)
   .exact qz he
   .exact qz he
  simp only [dH];refine (Ib (d:=2 * dB l+1) fun c hc=> ?_).mono (by omega);simp only [Oc,PH,or_false] at hc;rcases hc with rfl | rfl | rfl | rfl
  .exact (px _ _).mono (by omega)
  .exact (px _ _).mono (by omega)
  .exact (zN _).mono (by omega)
  .exact hxr
theorem bp.rf: ∀{l:List T} {es:List AV},bp l es-> ∀e∈es,Rf (2 * dB l) e
 | [],_,h,e,he=>by simp only [bp] at h;subst h;cases he
 | t::l,_,h,e,he=>by
  simp only [bp] at h;obtain ⟨a,r,rfl,h1,h2⟩:=h;simp only [dB];rcases Oc.1 he with rfl | he
  .exact (fI.rf h1).mono (by omega)
  .exact (bp.rf h2 e he).mono (by omega)
end
theorem Nd.rf {t:T} {k tk:Nat} {tx:List UInt8} {x:AV} (h:Nd t k tk tx x): ∀c∈[AV.int .u8 (k:Int),.int .u8 (tk:Int),.str tx,x],Rf (2 * dH t) c:=by
 obtain ⟨l,es,rfl,e,f⟩:=h.ex;have a:=bp.rf f;have b:Rf (2 * dB l+1) x:=by
  rcases e with g | ⟨_,k,rfl⟩
  .rcases g.2 with ⟨rfl | rfl,rfl⟩ | rfl | rfl
   .exact wy.mono (by omega)
   .exact E6.mono (by omega)
   .exact qz a
   .exact qz a
  .exact qz a
 intro c d;simp only [dH];simp only [Oc,PH,or_false] at d;rcases d with rfl | rfl | rfl | rfl
 .exact (px _ _).mono (by omega)
 .exact (px _ _).mono (by omega)
 .exact (zN _).mono (by omega)
 .exact b.mono (by omega)
theorem NM (st:St) (k tk:Int) (tx:List UInt8) (x:AV) (h:st.ro<=st.h): ∃st',st'.get st.h= .ok (.cells 27 [.int .u8 k,.int .u8 tk,.str tx,x])/\aV st st' (fun _=>False)/\st'.h=st.h+1/\ ∃a,∀{β:Type} (K:Kv β),bn (bc vE) 4 (AV.mp st.h 0) (.agg [.int .u8 k,.int .u8 tk,.str tx,x]) [.int .u8 k,.int .u8 tk,.str tx,x] (st.add (.cells 27 [.int .u8 0,.int .u8 0,.str [],.aG])) K=K VM.undef st' a:=by
 obtain ⟨st',g,b,n,a,e⟩:=vl (O:=bc vE) (st:=st) (t:=27) (z:=4) (old:=[.int .u8 0,.int .u8 0,.str [],.aG]) (cs:=[.int .u8 k,.int .u8 tk,.str tx,x]) (.agg [.int .u8 k,.int .u8 tk,.str tx,x]) rfl rfl h;exact ⟨st',g,b,n,a,e⟩
theorem LP {st:St} {id:Nat} {old:List AV} (c:st.get id= .ok (.cells 27 old)) (ho:old.length=4) (k tk:Int) (tx:List UInt8) (x:AV) (a:st.ro<=id): ∃st',st'.get id= .ok (.cells 27 [.int .u8 k,.int .u8 tk,.str tx,x])/\aV st st' (· =id)/\st'.h=st.h/\ ∃b,∀{β:Type} (K:Kv β),bn (bc vE) 4 (AV.mp id 0) (.agg [.int .u8 k,.int .u8 tk,.str tx,x]) [.int .u8 k,.int .u8 tk,.str tx,x] st K=K VM.undef st' b:=by
 obtain ⟨st',g,d,n,b,e⟩:=BB (O:=bc vE) (.agg [.int .u8 k,.int .u8 tk,.str tx,x]) c ho (cs:=[.int .u8 k,.int .u8 tk,.str tx,x]) rfl a;exact ⟨st',g,d,n,b,e⟩
theorem aV.join {a b c:St} {p q:Nat->Prop} (h:aV a b p) (k:aV b c q) (g: ∀j,q j->p j\/a.h<=j):aV a c p:=
 ⟨k.ro.trans h.ro,Oe h.h k.h,fun j o d f=>k.old j o (fun e=>by
  rcases g j e with h1 | h1
  .exact d h1
  .have:=(St.cA.1 f).1;omega) (h.old j o d f)⟩
def oL (t:bo):AV:= .agg [.int .u8 ((1:Nat):Int),.int .u8 (t.1:Int),.str t.2,.aG]
theorem sA: ∀(l:List bo),bp (l.map BA) (l.map oL)
 | []=>bp.nil
 | t::l=>bp.cons (by
  show fI (.mk 1 t.1 t.2 []) (oL t);simp only [fI];exact ⟨.aG,[],rfl,cb.aG,bp.nil⟩) (sA l)
theorem vU (r:List bo):r.drop (wT r)=r.dropWhile bP:=by
 have h:(r.takeWhile bP++r.dropWhile bP).drop (r.takeWhile bP).length=r.dropWhile bP:=List.drop_left;rw [Pl] at h;exact h
theorem Hd (r:List bo):wT r<=r.length:=(List.takeWhile_sublist bP).length_le
theorem GG (r:List bo):r.take (wT r)=r.takeWhile bP:=by
 have h:(r.takeWhile bP++r.dropWhile bP).take (r.takeWhile bP).length=r.takeWhile bP:=List.take_left;rw [Pl] at h;exact h
def jq (L:List bo) (i:Nat):Nat:=min (i+wT (L.drop i)+1) L.length
theorem rN (L:List bo) (i:Nat):aT (L.drop i)=L.drop (jq L i):=by
 unfold aT jq;rw [<- vU,O8,O8];rcases Nat.lt_or_ge (i+wT (L.drop i)+1) L.length with q | q
 .rw [Pv (PU q)];congr 1
 .rw [PK q,List.drop_of_length_le (by omega),List.drop_of_length_le (NX _)]
theorem uK {x:AV} {Z:List bo} (I:cb 2 x (Z.map tok)) (M:Z.length<=1000000) {st19:St} {k tk:Int} {tx:List UInt8} {h0:Nat} (D:h0<=st19.h): ∀(l:List bo) (j:Nat) (st:St) (v:AV) (es:List AV),Z.drop j=l->st.get st19.h= .ok (.cells 27 [.int .u8 k,.int .u8 tk,.str tx,v])->jE st 4 27 v es->(∀j,dm v j->h0<=j)->es.length+l.length<=2000000->st.ro<=st19.h->h0<=st.h->
  ∃v' st',aI (rz st19 x Z.length) ([.int .i64 (j:Int)],st)=some (0,[],st')/\st'.get st19.h= .ok (.cells 27 [.int .u8 k,.int .u8 tk,.str tx,v'])/\jE st' 4 27 v' (es++l.map oL)/\(∀j,dm v' j->h0<=j)/\aV st st' (fun j=>h0<=j)
 | [],j,st,v,es,hd,r,ho,c,hl,e,N=>by
  have:=Ol.1 hd;have q:¬ (j:Int) < (Z.length:Int):=by omega
  refine ⟨v,st,aC ?_,r,by simpa using ho,c,aV.refl _ _⟩;simp only [rz,af,ah,ae,aw,if_neg q]
 | t::l,j,st,v,es,hd,r,ho,c,hl,e,N=>by
  obtain ⟨E,P,Q⟩:=drop_cons hd;have q:(j:Int) < (Z.length:Int):=by omega
  have s:st.ro<=st.h:=Oe e (PU (St.cA.1 r).1);obtain ⟨R,S,o,T,U⟩:=LO st t.1 t.2 s;have u:=o.old _ _ (fun f=>f) r;have F:=rR ho o (fun _ _ f=>f);simp only [Om] at hl;obtain ⟨a,g,V,G,J,B,W⟩:=wA (b:=56) (new:=[oL t]) F (by simp) (qQ (by simp only [List.length_singleton];omega) (by omega) (by omega));have i:¬ dm v st19.h:=ho.not r;have m:=B.old _ _ i u;have d:g.ro<=st19.h:=by rw [B.ro,o.ro];exact e
  have n:=fun {β:Type} (K:Kv β)=>eS (O:=bc vE) (v:=a) (cs:=[a]) (off:=3) (z:=1) m rfl (by simp) d K;have H:cJ [.int .u8 k,.int .u8 tk,.str tx,v] 3 [a]=[.int .u8 k,.int .u8 tk,.str tx,a]:=rfl;rw [H] at n;have w:(g.put st19.h (.cells 27 [.int .u8 k,.int .u8 tk,.str tx,a])).get st19.h= .ok (.cells 27 [.int .u8 k,.int .u8 tk,.str tx,a]):=St.aP (St.cA.1 m).1;have y:jE (g.put st19.h (.cells 27 [.int .u8 k,.int .u8 tk,.str tx,a])) 4 27 a (es++[oL t]):=J.put m;have C:aV g (g.put st19.h (.cells 27 [.int .u8 k,.int .u8 tk,.str tx,a])) (· =st19.h):=aV.put rfl;generalize g.put st19.h (.cells 27 [.int .u8 k,.int .u8 tk,.str tx,a])=L at n w y C;have A: ∀j,dm a j->h0<=j:=fun j p=>by
   rcases W j p with h | h
   .exact c j h
   .have:=o.h;omega
  obtain ⟨v',st',X,g',o',Y,k'⟩:=uK I M D l (j+1) L a (es++[oL t]) P w y A (by rw [N8];simp;omega) (by rw [C.ro];exact d) (by have:=o.h;have:=B.h;have:=C.h;omega);refine ⟨v',st', ?_,g',by rw [On] at o';exact o',Y, ?_⟩
  .rw [aL (s':=([.int .i64 ((j+1:Nat):Int)],L)),X];have G: ∀{β:Type} (K:Kv β),cq 4 56 27 v [.agg [.int .u8 1,.int .u8 (t.1:Int),.str t.2,.aG]] R K=K a g V:=fun K=>xe G K;have ov: ∀{β:Type} (K:Option β),ab a K=K:=fun K=>iX J.one K;simp only [rz,af,ah,ae,aw,if_pos q,iF I E,cO,ke,ak,bF,aA,ef,U,bh u,Lu,bl,bh S,N7,G,ov,n,aD,bj (show j+1<=9223372036854775807 by omega)]
  .refine ((o.BD (q:=fun j=>h0<=j) (fun _ f=>f.elim)).trans (B.BD fun j p=>c j p)).trans ((C.BD fun j p=> ?_).trans k');have p:j=st19.h:=p;omega
theorem Bc {st:St} {p:Nat} {L:List bo} {x:AV} {i d:Nat} (h:PS st p L x i d):
  ∃v st',(bc vE).wide 29 [.mp p 0] st=some (v,st')/\VN (aO (L.drop i)) v/\PS st' p L x (jq L i) d/\aV st st' (· =p):=by
 have W:=h.le;have hlen:=h.len;have X:=Hd (L.drop i);rw [N3] at X;have u:aV st (st.add (.cells 27 [.int .u8 0,.int .u8 0,.str [],.aG])) (fun _=>False):=aV.add _ _ _;have N:(st.add (.cells 27 [.int .u8 0,.int .u8 0,.str [],.aG])).get st.h= .ok (.cells 27 [.int .u8 0,.int .u8 0,.str [],.aG]):=St.en;have y:=h.qE;have Y:=h.lt;have h1:=h.keeps u (fun f=>f);have Z:(st.add (.cells 27 [.int .u8 0,.int .u8 0,.str [],.aG])).h=st.h+1:=rfl;generalize A:st.add (.cells 27 [.int .u8 0,.int .u8 0,.str [],.aG])=s0 at u N h1 Z;obtain ⟨s1,k,c1⟩:=jP h1;generalize hT:nx (L.drop i)=c at c1;obtain ⟨m,g2,n,av,e2⟩:=LO s1 c.1 c.2 (PS.fY k h1.qE);obtain ⟨P,g3,w,n3,a1,e3⟩:=NM m 1 (c.1:Int) c.2 .aG (PS.fY n (PS.fY k h1.qE));have kk:=(u.trans k).trans (n.trans w);have h3:=h.keeps kk (fun f=>f);obtain ⟨z,B,ez⟩:=h.sl.cut (lo:=some (i:Int)) (hi:=some ((i+wT (L.drop i):Nat):Int)) (Bs (by omega)) (Bs (by rw [Ok];omega));have C:((L.map tok).take (i+wT (L.drop i))).drop i=((L.drop i).take (wT (L.drop i))).map tok:=by
  rw [<- List.map_take, <- List.map_drop,List.drop_take];congr 2;omega
 rw [C] at B;have D:((L.drop i).take (wT (L.drop i))).length<=1000000:=by rw [Oa,N3];omega
 have E:s0.h<=m.h:=by have:=k.h;have:=n.h;omega
 obtain ⟨Q,o,F,g4,R,f4,S⟩:=uK B D (st19:=m) (h0:=s0.h) E ((L.drop i).take (wT (L.drop i))) 0 P .aG [] rfl g3 (jE.aG (PS.fY w (PS.fY n (PS.fY k h1.qE))) _ _) (fun j g=>by obtain ⟨_,_,e⟩:=g;cases e) (by simp only [OO];omega) (by rw [kk.ro];omega) (by have:=w.h;omega);rw [O3,GG] at R;have F:aI (rz m z ((L.drop i).take (wT (L.drop i))).length) ([.int .i64 0],P)= _:=F;have G: ∀{β:Type} (K:Nat->Option β),iQ z K=K ((L.drop i).take (wT (L.drop i))).length:=fun K=>by rw [B.len,Ok]
 have b:aV st o (fun _=>False):=aV.join kk S fun j g=> .inr (by have:=u.h;have g:s0.h<=j:=g;omega);have h4:=h.keeps b (fun f=>f);have q:(if ((L.map tok).length:Int) < ((i+wT (L.drop i)+1:Nat):Int) then ((L.map tok).length:Int) else ((i+wT (L.drop i)+1:Nat):Int))=((jq L i:Nat):Int):=by
  unfold jq;rw [Ok];split <;> omega
 have a:=fun {β:Type} (K:Kv β)=>eS (O:=bc vE) (v:= .int .i64 ((jq L i:Nat):Int)) (cs:=[.int .i64 ((jq L i:Nat):Int)]) (off:=1) (z:=1) h4.get rfl (by simp) h4.ro K;have H:cJ [x,.int .i64 (i:Int),.int .i64 (d:Int)] 1 [.int .i64 ((jq L i:Nat):Int)]=[x,.int .i64 ((jq L i:Nat):Int),.int .i64 (d:Int)]:=rfl;rw [H] at a;have r:(o.put p (.cells 41 [x,.int .i64 ((jq L i:Nat):Int),.int .i64 (d:Int)])).get p= .ok (.cells 41 [x,.int .i64 ((jq L i:Nat):Int),.int .i64 (d:Int)]):=St.aP (St.cA.1 h4.get).1;have l:aV o (o.put p (.cells 41 [x,.int .i64 ((jq L i:Nat):Int),.int .i64 (d:Int)])) (· =p):=aV.put rfl;generalize o.put p (.cells 41 [x,.int .i64 ((jq L i:Nat):Int),.int .i64 (d:Int)])=T at a r l;have I:PS T p L x (jq L i) d:=⟨r,h.sl,Nat.min_le_right _ _,hlen,by rw [l.ro,b.ro];exact h.ro⟩;have s:m.h≠p:=by omega
 have g5:=l.vg s g4;have t:st.h≠p:=by omega
 have J:=l.vg t (S.old _ _ (by omega) ((k.trans (n.trans w)).old _ _ (fun f=>f) N));obtain ⟨U,M,V,n6,a6,e6⟩:=LP J rfl 1 (c.1:Int) c.2 Q (by rw [l.ro,b.ro];exact y);have nd:Nd (aO (L.drop i)) 1 c.1 c.2 Q:=by
  refine ⟨⟨_,_, ?_,wv.own R,sA _⟩⟩;unfold aO leaf;rw [hT]
 have kf:aV st U (· =p):=by
  have ka:aV st T (· =p):=(b.BD fun _ f=>f.elim).trans l;exact aV.join ka V fun j g=> .inr (by have g:j=st.h:=g;omega)
 refine ⟨_,U,fJ ((Jc _ _).trans ?_),nd.vn,I.keeps V (fun e=>t e.symm),kf⟩;have w1:=bj (show i+wT (L.drop i)+1<=9223372036854775807 by omega);simp only [Nt,ef,A,c1,ch,bA,bM,bF,af,ah,aA,ae,e2,bh g2,N7,ke,ak,e3,dh,bV,cY,N5,bh h3.get,jQ,bl,ez,G,F,aD,w1,bh h4.get,h.sl.len,q,a,bh g5,wa,nd.ab,e6,bh M];rfl
def NC (F:FuncId) (args:List AV) (st:St) (p:Nat) (L:List bo) (x:AV) (d:Nat) (t:T) (r':List bo):Prop:=
 ∃v st' a,(bc vE).wide F args st=some (v,st')/\VN t v/\PS st' p L x a d/\L.drop a=r'/\aV st st' (· =p)
theorem NC.call {F:FuncId} {args:List AV} {st:St} {p:Nat} {L:List bo} {x:AV} {d:Nat} {t:T} {r':List bo} (h:NC F args st p L x d t r') (h1:vE.isLook F=false) (b:(bx (args.map strip)&& !vE.full F)=false):
  ∃(k tk:Nat) (tx:List UInt8) (y:AV) (st':St) (a:Nat),Nd t k tk tx y/\PS st' p L x a d/\L.drop a=r'/\aV st st' (· =p)/\ ∀{β:Type} (K:Kv β),aX (bc vE) F args st K=K (.agg [.int .u8 (k:Int),.int .u8 (tk:Int),.str tx,y]) st' ⟨[],.all st st'⟩:=by
 obtain ⟨v,st',a,e,c,f,g,i⟩:=h;obtain ⟨k,tk,tx,y,rfl,j⟩:=c.cells;exact ⟨k,tk,tx,y,st',a,j,f,g,i,fun K=>fO (E:=vE) K h1 b e⟩
theorem Gj {st:St} {p:Nat} {L:List bo} {x:AV} {i d:Nat} (h:PS st p L x i d):NC 29 [.mp p 0] st p L x d (aO (L.drop i)) (aT (L.drop i)):=by
 obtain ⟨v,st',e,a,b,c⟩:=Bc h;exact ⟨v,st',_,e,a,b,(rN L i).symm,c⟩
theorem Dg {st:St} {p:Nat} {L:List bo} {x:AV} {i d:Nat} (h:PS st p L x i d):
  ∃(k tk:Nat) (tx:List UInt8) (y:AV) (st':St) (a:Nat),Nd (aO (L.drop i)) k tk tx y/\PS st' p L x a d/\L.drop a=aT (L.drop i)/\aV st st' (· =p)/\ ∀{β:Type} (K:Kv β),aX (bc vE) 29 [.mp p 0] st K=K (.agg [.int .u8 (k:Int),.int .u8 (tk:Int),.str tx,y]) st' ⟨[],.all st st'⟩:=
 (Gj h).call rfl rfl
theorem kZ (s:List UInt8) {β:Type} (st:St) (K:Kv β):aX (bc vE) 79 [.str s] st K=K (.agg [.int .u8 2,.int .u8 0,.str s,.aG]) st q0:=
 aM st K rfl rfl rfl (aY rfl ((JN _).trans (by simp only [Np,aA])))
theorem fN (s:List UInt8):Nd (missing s) 2 0 s .aG:=⟨⟨[],[],rfl,.inl cb.aG,bp.nil⟩⟩
theorem F1 {st:St} {p:Nat} {L:List bo} {x:AV} {i d:Nat} (h:PS st p L x i d): ∃s0,st.add (.cells 27 [.int .u8 0,.int .u8 0,.str [],.aG])=s0/\s0.get st.h= .ok (.cells 27 [.int .u8 0,.int .u8 0,.str [],.aG])/\PS s0 p L x i d/\aV st s0 (fun _=>False)/\st.h≠p/\st.ro<=st.h/\s0.h=st.h+1:=
 ⟨_,rfl,St.en,h.keeps (aV.add _ _ (fun _=>False)) (fun f=>f),aV.add _ _ _,Nat.ne_of_gt h.lt,h.qE,rfl⟩
theorem AZ {st s:St} {p:Nat} {L:List bo} {x:AV} {i d:Nat} {old:List AV} (m:s.get st.h= .ok (.cells 27 old)) (ho:old.length=4) (n:PS s p L x i d) (a:st.h≠p) (f:aV st s (· =p)) (b:st.ro<=st.h) (k tk:Int) (tx:List UInt8) (y:AV):
  ∃s',s'.get st.h= .ok (.cells 27 [.int .u8 k,.int .u8 tk,.str tx,y])/\PS s' p L x i d/\aV st s' (· =p)/\ ∃c,∀{β:Type} (K:Kv β),bn (bc vE) 4 (AV.mp st.h 0) (.agg [.int .u8 k,.int .u8 tk,.str tx,y]) [.int .u8 k,.int .u8 tk,.str tx,y] s K=K VM.undef s' c:=by
 obtain ⟨s',g,l,_,c,e⟩:=LP m ho k tk tx y (by rw [f.ro];exact b);exact ⟨s',g,n.keeps l (fun e=>a e.symm),aV.join f l fun j o=> .inr (Nat.le_of_eq o.symm),c,e⟩
theorem GL {st:St} {p:Nat} {L:List bo} {x:AV} {i d:Nat} (h:PS st p L x i d) (s:List UInt8):NC 50 [.mp p 0,.str s] st p L x d (du s (L.drop i)) (bL s (L.drop i)):=by
 obtain ⟨s0,b,w,h0,o,a,c,D⟩:=F1 h;obtain ⟨q,e,c1⟩:=wC h0 (iy [s] (by simp));rw [uU] at c1;have c1: ∀{β:Type} (K:Kv β),aX (bc vE) 28 [.mp p 0,.sl 1 [.str s] .shut] s0 K=K (.bool (bY s (L.drop i))) q ⟨[],.all s0 q⟩:=fun K=>c1 K;have h1:=h0.keeps e (fun f=>f);have r:=e.old _ _ (fun f=>f) w;unfold du bL;cases t:bY s (L.drop i) with
 | true=>
  rw [t] at c1;obtain ⟨k,tk,tx,y,E,z,u,A,g,v,c2⟩:=Dg h1;have B:=v.vg a r;obtain ⟨j,g3,l,m,C,n⟩:=AZ B rfl A a (((o.trans e).BD fun _ f=>f.elim).trans v) c (k:Int) (tk:Int) tx y;refine ⟨_,j,z,fJ ((DE _ _ _).trans ?_),u.vn,l,g,m⟩;simp only [Mt,aA,ef,b,c1,ar,au,c2,bF,af,ah,ae,u.ab,n,bh g3,N7,wa,ak]
 | false=>
  rw [t] at c1;obtain ⟨j,g3,l,m,C,n⟩:=AZ r rfl h1 a ((o.trans e).BD fun _ f=>f.elim) c 2 0 s .aG;refine ⟨_,j,i,fJ ((DE _ _ _).trans ?_),(fN s).vn,l,rfl,m⟩;simp only [Mt,aA,ef,b,c1,ar,ai,kZ,bF,af,ah,ae,Az,n,bh g3,N7,wa,ak];rfl
def mN (pat:Bool):Nat:=if pat then 5 else 6
def mT (pat:Bool):List UInt8:=if pat then mL else cZ
theorem db (a b:Nat):((a:Int)==(b:Int))=(a==b):=by
 by_cases h:a=b
 .rw [h];simp
 .rw [NY.2 h,NY.2 (show ¬ (a:Int)=(b:Int) by omega)]
theorem BN {st:St} {p:Nat} {L:List bo} {x:AV} {i d:Nat} (h:PS st p L x i d) (pat:Bool):
  ∃st',(bc vE).wide 48 [.mp p 0,.int .u8 (mN pat:Int),.str (mT pat)] st=some (.bool (cj pat (L.drop i)),st')/\aV st st' (fun _=>False):=by
 obtain ⟨w,b,c1⟩:=jP h;have y:nx (L.drop i)=nx (L.drop i):=rfl;generalize hT:nx (L.drop i)=t at c1 y;obtain ⟨j,n,k,z,o⟩:=LO w t.1 t.2 (PS.fY b h.qE);have A:=h.keeps (b.trans k) (fun f=>f);obtain ⟨l,B,c3⟩:=wC A (iy [fQ,eH,cZ,ck,mT pat] (by simp));have c3: ∀{β:Type} (K:Kv β),aX (bc vE) 28 [.mp p 0,.sl 1 [.str [116,114,117,101],.str [102,97,108,115,101],.str [40],.str [91],.str (mT pat)] .shut] j K=K (.bool (isAny [fQ,eH,cZ,ck,mT pat] (L.drop i))) l ⟨[],.all j l⟩:=fun K=>c3 K;have q:((t.1:Int)==4)=(t.1==4):=db t.1 4;have r:((t.1:Int)==5)=(t.1==5):=db t.1 5;have s:((t.1:Int)==7)=(t.1==7):=db t.1 7;have u:((t.1:Int)==9)=(t.1==9):=db t.1 9;have v:=db t.1 (mN pat);have C:cj pat (L.drop i)=(t.1==4||t.1==5||t.1==7||t.1==9||t.1==mN pat||isAny [fQ,eH,cZ,ck,mT pat] (L.drop i)):=by
  unfold cj;rw [hT];rfl
 rw [C];by_cases a:(t.1==4||t.1==5||t.1==7||t.1==9||t.1==mN pat)=true
 .refine ⟨j,fJ ((Dn _ _ _ _).trans ?_),b.trans k⟩;rw [a,O9];simp only [L7,ah,aA,c1,ch,bA,bM,bF,af,ae,ef,o,bh n,N7,bl,ak,q,r,s,u,v];cases h4:t.1==4 <;> simp only [h4,au,ai,ak,af,ar,ae]
  cases c:t.1==5 <;> simp only [c,au,ai,ak,af,ar,ae]
  cases e:t.1==7 <;> simp only [e,au,ai,ak,af,ar,ae]
  cases g:t.1==9 <;> simp only [g,au,ai,ak,af,ar,ae]
  simp only [h4,c,e,g,Ov] at a;simp only [a,au]
 .have a:(t.1==4||t.1==5||t.1==7||t.1==9||t.1==mN pat)=false:=by simpa using a
  refine ⟨l,fJ ((Dn _ _ _ _).trans ?_),(b.trans k).trans B⟩;rw [a,Ov];simp only [PI] at a;obtain ⟨⟨⟨⟨h4,c⟩,e⟩,g⟩,m⟩:=a;simp only [L7,ah,aA,c1,ch,bA,bM,bF,af,ae,ef,o,bh n,N7,bl,ak,q,r,s,u,v,h4,c,e,g,m,ai,ar,c3]
theorem xD {st:St} {p:Nat} {L:List bo} {x:AV} {i d:Nat} (h:PS st p L x i d) (pat:Bool):
  ∃st',aV st st' (fun _=>False)/\ ∀{β:Type} (K:Kv β),aX (bc vE) 48 [.mp p 0,.int .u8 (mN pat:Int),.str (mT pat)] st K=K (.bool (cj pat (L.drop i))) st' ⟨[],.all st st'⟩:=by
 obtain ⟨st',e,k⟩:=BN h pat
 exact ⟨st',k,fun K=>fO (E:=vE) K rfl rfl e⟩
abbrev ND:TypeId:=27
def qJ {β:Type} (v:AV) (K:Int->Int->List UInt8->AV->Option β):Option β:=yF v fun l=>br l fun v1 l=>bg .u8 v1 fun a=>br l fun c l=>bg .u8 c fun b=>br l fun d l=>dV d fun s=>br l fun e l=>bE l (K a b s e)
theorem ib {β:Type} (a b:Int) (s:List UInt8) (y:AV) (K:Int->Int->List UInt8->AV->Option β):qJ (.agg [.int .u8 a,.int .u8 b,.str s,y]) K=K a b s y:=by
 simp only [qJ,bF,af,ah,aA,ae]
def Pz (PT:TypeId) (st:St) (p:Nat) (L:List bo) (x:AV) (d:Nat) (r:List bo):Prop:= ∃i,zx PT st p L x i d/\L.drop i=r
theorem Pz.keeps {PT:TypeId} {st st':St} {p:Nat} {L:List bo} {x:AV} {d:Nat} {r:List bo} {but:Nat->Prop} (h:Pz PT st p L x d r) (k:aV st st' but) (a:¬ but p):Pz PT st' p L x d r:=by
 obtain ⟨i,h,e⟩:=h;exact ⟨i,h.keeps k a,e⟩
abbrev Vr:=Nat×TypeId×List AV
structure Wd (PT:TypeId) (st0 st:St) (p:Nat) (L:List bo) (x:AV) (d:Nat) (r:List bo) (l:List Vr) (os:List (AV×List AV)):Prop where
 pz:Pz PT st p L x d r
 k:aV st0 st (· =p)
 v: ∀q∈l,st.get q.1= .ok (.cells q.2.1 q.2.2)/\st0.h<=q.1
 nd:(l.map (·.1)).Nodup
 o: ∀q∈os,jE st 4 ND q.1 q.2/\ ∀j,dm q.1 j->st0.h<=j
 od:os.Pairwise fun a b=> ∀j,dm a.1 j->¬ dm b.1 j
 p0:p < st0.h
 ro0:st0.ro<=st0.h
section
variable {PT:TypeId} {st0 st st':St} {p:Nat} {L:List bo} {x:AV} {d d':Nat} {r r':List bo} {l l1 l2:List Vr} {os:List (AV×List AV)}
theorem Wd.start {i:Nat} (h:zx PT st p L x i d):Wd PT st st p L x d (L.drop i) [] []:=
 ⟨⟨i,h,rfl⟩,aV.refl _ _,(fun _ h=>by cases h),List.nodup_nil,(fun _ h=>by cases h),List.Pairwise.nil,h.lt,h.qE⟩
theorem Wd.begin (h:Pz PT st p L x d r):Wd PT st st p L x d r [] []:=by
 obtain ⟨i,h,rfl⟩:=h;exact Wd.start h
theorem Wd.ro (w:Wd PT st0 st p L x d r l os):st.ro<=st.h:=PS.fY w.k w.ro0
theorem Wd.h (w:Wd PT st0 st p L x d r l os):st0.h<=st.h:=w.k.h
theorem Wd.get (w:Wd PT st0 st p L x d r l os) {a:Nat} {t:TypeId} {cs:List AV} (h:(a,t,cs)∈l):st.get a= .ok (.cells t cs):=(w.v _ h).1
theorem Wd.ne (w:Wd PT st0 st p L x d r l os) {a:Nat} {t:TypeId} {cs:List AV} (h:(a,t,cs)∈l):a≠p:=by
 have:=(w.v _ h).2;have:=w.p0;simp only at *;omega
theorem Wd.M8 (w:Wd PT st0 st p L x d r l os) {a:Nat} {t:TypeId} {cs:List AV} (h:(a,t,cs)∈l):st.ro<=a:=by
 have h1:=(w.v _ h).2;have b:=w.ro0;rw [w.k.ro];exact Oe b h1
theorem Ax {v:AV} {es:List AV} {j:Nat} {z:Nat} {t:TypeId} (h:jE st z t v es) (b:dm v j):j < st.h/\ ∃n e,st.get j= .ok (.tok n e):=by
 obtain ⟨z',c,rfl⟩:=b;rcases h.2.2 with ⟨h | h,_⟩ | h | ⟨k,h,a,_⟩
 .cases h
 .cases h
 .cases h
 .cases h;exact ⟨(St.cA.1 a).1,_,_,a⟩
theorem Wd.keeps (w:Wd PT st0 st p L x d r l os) {but:Nat->Prop} (k:aV st st' but) (c: ∀j,but j->j=p\/st.h<=j) (pz:Pz PT st' p L x d' r'):Wd PT st0 st' p L x d' r' l os where
 pz:=pz
 k:=aV.join w.k k fun j b=>by
  rcases c j b with h | h
  .exact .inl h
  .exact .inr (Oe w.h h)
 v:=fun q a=>⟨k.old _ _ (fun f=>by
  have h1:=(St.cA.1 (w.v q a).1).1;have g:=(w.v q a).2;have i:=w.p0;rcases c _ f with h | h <;> omega) (w.v q a).1,(w.v q a).2⟩
 nd:=w.nd
 o:=fun q a=>⟨rR (w.o q a).1 k fun j b f=>by
  obtain ⟨h1,n,e,m⟩:=Ax (w.o q a).1 b;have g:=(w.o q a).2 j b;have i:=w.p0;rcases c _ f with h | h <;> omega,(w.o q a).2⟩
 od:=w.od
 p0:=w.p0
 ro0:=w.ro0
theorem Wd.quiet (w:Wd PT st0 st p L x d r l os) (k:aV st st' (fun _=>False)):Wd PT st0 st' p L x d r l os:=
 w.keeps k (fun _ f=>f.elim) (w.pz.keeps k (fun f=>f))
theorem Wd.move (w:Wd PT st0 st p L x d r l os) (k:aV st st' (· =p)) (pz:Pz PT st' p L x d' r'):Wd PT st0 st' p L x d' r' l os:=
 w.keeps k (fun _ e=> .inl e) pz
theorem Wd.alloc (w:Wd PT st0 st p L x d r l os) (t:TypeId) (cs:List AV):Wd PT st0 (st.add (.cells t cs)) p L x d r ((st.h,t,cs)::l) os:=by
 have w':=w.quiet (aV.add st (.cells t cs) _);refine ⟨w'.pz,w'.k,fun q a=> ?_, ?_,w'.o,w'.od,w.p0,w.ro0⟩
 .rcases Oc.1 a with rfl | a
  .exact ⟨St.en,w.h⟩
  .exact w'.v q a
 .rw [Od,Ps];refine ⟨fun b=> ?_,w.nd⟩;obtain ⟨q,a,e⟩:=OQ.1 b;have h1:=(St.cA.1 (w.v q a).1).1;simp only at e;omega
theorem Wd.putAt {a:Nat} {t t':TypeId} {old:List AV} (w:Wd PT st0 st p L x d r (l1++(a,t,old)::l2) os) (cs:List AV):Wd PT st0 (st.put a (.cells t' cs)) p L x d r (l1++(a,t',cs)::l2) os:=by
 have f:(a,t,old)∈l1++(a,t,old)::l2:=List.mem_append_right _ NV;have l:=w.get f;have g:=w.ne f;have k:aV st (st.put a (.cells t' cs)) (· =a):=aV.put rfl;have c:=w.nd;rw [OJ,Od] at c;refine ⟨w.pz.keeps k (fun e=>g e.symm),aV.join w.k k fun j n=> .inr (by have:=(w.v _ f).2;simp only at this;omega),fun q b=> ?_,by rw [OJ,Od];exact c,fun q b=>⟨(w.o q b).1.put l,(w.o q b).2⟩,w.od,w.p0,w.ro0⟩;have other: ∀q∈l1++(a,t,old)::l2,q.1≠a->(st.put a (.cells t' cs)).get q.1= .ok (.cells q.2.1 q.2.2)/\st0.h<=q.1:=fun q b i=>
  ⟨k.old _ _ i (w.v q b).1,(w.v q b).2⟩
 rcases N9.1 b with b | b
 .refine other q (List.mem_append_left _ b) fun e=> ?_;have:=(List.nodup_append.1 c).2.2 q.1 (List.mem_map_of_mem b) a NV;exact this e
 .rcases Oc.1 b with rfl | b
  .exact ⟨St.aP (St.cA.1 l).1,(w.v _ f).2⟩
  .refine other q (List.mem_append_right _ (N2 _ b)) fun e=> ?_;have h1:=(Ps.1 (List.nodup_append.1 c).2.1).1;have m:q.1∈l2.map (·.1):=List.mem_map_of_mem b;rw [e] at m;exact h1 m
theorem Wd.store {a:Nat} {t:TypeId} {old:List AV} (l1:List Vr) (w:Wd PT st0 st p L x d r (l1++(a,t,old)::l2) os) {z:Nat} (f:old.length=z) (v:AV) (cs:List AV) (c:cs.length=z):
  ∃st' e,Wd PT st0 st' p L x d r (l1++(a,t,cs)::l2) os/\ ∀{β:Type} (K:Kv β),bn (bc vE) z (.mp a 0) v cs st K=K VM.undef st' e:=by
 have b:(a,t,old)∈l1++(a,t,old)::l2:=List.mem_append_right _ NV;exact ⟨st.put a (.cells t cs),⟨[a],.wrote a (.cells t cs)⟩,w.putAt cs,fun K=>by rw [eS (w.get b) c (by omega) (w.M8 b),iJ (by omega)]⟩
theorem Wd.gz {a:Nat} {t:TypeId} {old:List AV} (l1:List Vr) (w:Wd PT st0 st p L x d r (l1++(a,t,old)::l2) os) (off:Nat) (v:AV) (hl:off+1<=old.length):
  ∃st' c,Wd PT st0 st' p L x d r (l1++(a,t,cJ old off [v])::l2) os/\ ∀{β:Type} (K:Kv β),bn (bc vE) 1 (.mp a off) v [v] st K=K VM.undef st' c:=by
 have b:(a,t,old)∈l1++(a,t,old)::l2:=List.mem_append_right _ NV;exact ⟨st.put a (.cells t (cJ old off [v])),⟨[a],.wrote a (.cells t (cJ old off [v]))⟩,w.putAt _,fun K=>eS (cs:=[v]) (z:=1) (w.get b) rfl hl (w.M8 b) K⟩
theorem Wd.sub {a:List Vr} (w:Wd PT st0 st p L x d r l os) (h:List.Sublist a l):Wd PT st0 st p L x d r a os:=
 ⟨w.pz,w.k,fun q b=>w.v q (h.subset b),(h.map _).nodup w.nd,w.o,w.od,w.p0,w.ro0⟩
theorem Wd.drop {o:AV×List AV} (w:Wd PT st0 st p L x d r l (o::os)):Wd PT st0 st p L x d r l os:=
 ⟨w.pz,w.k,w.v,w.nd,fun q a=>w.o q (N2 _ a),(OP.1 w.od).2,w.p0,w.ro0⟩
theorem Wd.loose {v:AV} {es:List AV} (w:Wd PT st0 st p L x d r l os) (h:jE st 4 ND v es) (c: ∀j,¬ dm v j):Wd PT st0 st p L x d r l ((v,es)::os):=
 ⟨w.pz,w.k,w.v,w.nd,fun q a=>by
  rcases Oc.1 a with rfl | a
  .exact ⟨h,fun j b=>absurd b (c j)⟩
  .exact w.o q a,OP.2 ⟨fun _ _ j b=>absurd b (c j),w.od⟩,w.p0,w.ro0⟩
theorem Wd.aG (w:Wd PT st0 st p L x d r l os):Wd PT st0 st p L x d r l ((.aG,[])::os):=w.loose (jE.aG w.ro 4 ND) fun _ h=>by obtain ⟨_,_,e⟩:=h;cases e
theorem Wd.shut (w:Wd PT st0 st p L x d r l os) {es:List AV} (h:es.length<=1000):Wd PT st0 st p L x d r l ((.sl 4 es .shut,es)::os):=w.loose (jE.shut w.ro ND (by omega)) fun _ h=>by obtain ⟨_,_,e⟩:=h;cases e
theorem Wd.app {v:AV} {es:List AV} (w:Wd PT st0 st p L x d r l ((v,es)::os)) (new:List AV) (u:new≠[]) (hl:es.length+new.length<=1000000000):
  ∃v' st' s,Wd PT st0 st' p L x d r l ((v',es++new)::os)/\ ∀{β:Type} (K:Kv β),cq 4 56 ND v new st K=K v' st' s:=by
 have ho:=w.o (v,es) NV;obtain ⟨v',y,s,e,z,n,t⟩:=wA (b:=56) (new:=new) ho.1 u (qQ (by simpa using hl) (by omega) (by omega));have A:¬ dm v p:=by
  obtain ⟨i,h,_⟩:=w.pz;exact ho.1.not h.get
 refine ⟨v',y,s,⟨w.pz.keeps n A,aV.join w.k n fun j c=> .inr (ho.2 j c),fun q a=>⟨n.old _ _ (ho.1.not (w.v q a).1) (w.v q a).1,(w.v q a).2⟩,w.nd,fun q a=> ?_, ?_,w.p0,w.ro0⟩,fun K=>xe e K⟩
 .rcases Oc.1 a with rfl | a
  .refine ⟨z,fun j c=> ?_⟩;rcases t j c with h | h
   .exact ho.2 j h
   .exact Oe w.h h
  .have g:=w.o q (N2 _ a);exact ⟨rR g.1 n fun j c f=>(OP.1 w.od).1 q a j f c,g.2⟩
 .refine OP.2 ⟨fun q a j c m=> ?_,(OP.1 w.od).2⟩;rcases t j c with h | h
  .exact (OP.1 w.od).1 q a j h m
  .have:=(Ax (w.o q (N2 _ a)).1 m).1;omega
theorem Wd.ET {v:AV} {es:List AV} (w:Wd PT st0 st p L x d r l ((v,es)::os)):wv v es:=wv.own (w.o (v,es) NV).1
end
section
variable {β:Type} {Q:β->Prop}
def NQ (PT:TypeId) (st:St) (p:Nat) (L:List bo) (x:AV) (d:Nat) (t:T) (r':List bo):AV×St->Prop:=fun b=>VN t b.1/\dH t<=1000000000000000/\Pz PT b.2 p L x d r'/\aV st b.2 (· =p)
abbrev NW (PT:TypeId) (F:FuncId) (args:List AV) (st:St) (p:Nat) (L:List bo) (x:AV) (d:Nat) (t:T) (r':List bo):Prop:=aa ((bc vE).wide F args st) (NQ PT st p L x d t r')
variable {PT:TypeId} {st0 st:St} {p:Nat} {L:List bo} {x:AV} {d:Nat} {r r':List bo} {l l1 l2:List Vr} {os:List (AV×List AV)} {t:T}
theorem _root_.Go.VM.aa.node {F:FuncId} {args:List AV} (w:Wd PT st0 st p L x d r l os) (e:NW PT F args st p L x d t r') (h1:vE.isLook F=false) (f:(bx (args.map strip)&& !vE.full F)=false) {K:Int->Int->List UInt8->AV->St->Fx->Option β}
  (g: ∀(k tk:Nat) (tx:List UInt8) (y:AV) (s:St),Nd t k tk tx y->dH t<=1000000000000000->Wd PT st0 s p L x d r' l os->aa (K (k:Int) (tk:Int) tx y s ⟨[],.all st s⟩) Q):
  aa (aX (bc vE) F args st fun v s i=>qJ v fun a b c y=>K a b c y s i) Q:=
 aa.lb e h1 f fun v s h=>by
  obtain ⟨j,hd,m,n⟩:=h;obtain ⟨k,tk,tx,y,rfl,o⟩:=j.cells;exact aa.step (ib ..) (g k tk tx y s o hd (w.move n m))
theorem _root_.Go.VM.aa.alloc (w:Wd PT st0 st p L x d r l os) {ty:TypeId} {cs:List AV} {K:St->Option β} (g: ∀s,s.h=st.h+1->Wd PT st0 s p L x d r ((st.h,ty,cs)::l) os->aa (K s) Q):aa (ba (st.add (.cells ty cs)) K) Q:=
 g _ rfl (w.alloc ty cs)
theorem _root_.Go.VM.aa.store (l1:List Vr) {a:Nat} {ty:TypeId} {old:List AV} (w:Wd PT st0 st p L x d r (l1++(a,ty,old)::l2) os) {z:Nat} {v:AV} {cs:List AV} {K:Kv β}
  (g: ∀s b,Wd PT st0 s p L x d r (l1++(a,ty,cs)::l2) os->aa (K VM.undef s b) Q) (c:old.length=z:=by rfl) (f:cs.length=z:=by rfl):aa (bn (bc vE) z (.mp a 0) v cs st K) Q:=by
 obtain ⟨s,b,w',e⟩:=w.store l1 c v cs f;exact aa.step (e K) (g s b w')
theorem _root_.Go.VM.aa.gz (l1:List Vr) {a:Nat} {ty:TypeId} {old:List AV} (w:Wd PT st0 st p L x d r (l1++(a,ty,old)::l2) os) {off:Nat} {v:AV} (hl:off+1<=old.length) {K:Kv β}
  (g: ∀s b,Wd PT st0 s p L x d r (l1++(a,ty,cJ old off [v])::l2) os->aa (K VM.undef s b) Q):aa (bn (bc vE) 1 (.mp a off) v [v] st K) Q:=by
 obtain ⟨s,b,w',e⟩:=w.gz l1 off v hl;exact aa.step (e K) (g s b w')
theorem _root_.Go.VM.aa.eM {a:Nat} {ty:TypeId} {cs:List AV} (b:(a,ty,cs)∈l) (w:Wd PT st0 st p L x d r l os) {o:Nat} {v:AV} {post:List AV} (c:cs.drop o=v::post) {K:AV->List Nat->Option β} (g:aa (K v [a]) Q):aa (ax 1 false (.mp a o) st K) Q:=by
 refine aa.step (bh (w.get b) _ _ _ _) ?_;rw [c];exact g
theorem _root_.Go.VM.aa.dQ {a:Nat} {ty:TypeId} {k tk:Int} {tx:List UInt8} {y:AV} (e:(a,ty,[.int .u8 k,.int .u8 tk,.str tx,y])∈l) (w:Wd PT st0 st p L x d r l os) {K:Int->Int->List UInt8->AV->List Nat->Option β} (g:aa (K k tk tx y [a]) Q):aa (ax 4 true (.mp a 0) st fun v rd=>qJ v fun a b c y=>K a b c y rd) Q:=by
 refine aa.step (bh (w.get e) _ _ _ _) ?_;exact aa.step (ib ..) g
theorem _root_.Go.VM.aa.xr {a:Nat} {ty:TypeId} {u v:AV} (b:(a,ty,[u,v])∈l) (w:Wd PT st0 st p L x d r l os) {K:AV->List Nat->Option β} (g:aa (K (.agg [u,v]) [a]) Q):aa (ax 2 true (.mp a 0) st K) Q:=
 aa.step (bh (w.get b) _ _ _ _) g
theorem _root_.Go.VM.aa.res (l1:List Vr) {a:Nat} {old:List AV} (w:Wd PT st0 st p L x d r (l1++(a,ND,old)::l2) os) (ho:old.length=4) {k tk:Nat} {tx:List UInt8} {y:AV} (b:Nd t k tk tx y) (hd:dH t<=1000000000000000):
  aa (ab y (bn (bc vE) 4 (.mp a 0) (.agg [.int .u8 (k:Int),.int .u8 (tk:Int),.str tx,y]) [.int .u8 (k:Int),.int .u8 (tk:Int),.str tx,y] st fun _ s _=>ax 4 true (.mp a 0) s fun v _=>qJ v fun c e f y=>some (.agg [.int .u8 c,.int .u8 e,.str f,y],s))) (NQ PT st0 p L x d t r):=by
 refine aa.step (b.ab _) (aa.store l1 w (fun s g w'=> ?_) ho);exact aa.dQ (List.mem_append_right _ NV) w' (aa.some ⟨b.vn,hd,w'.pz,w'.k⟩)
theorem _root_.Go.VM.aa.yW (l1:List Vr) {a:Nat} {old:List AV} (w:Wd PT st0 st p L x d r (l1++(a,ND,old)::l2) os) (ho:old.length=4) {k tk:Nat} {tx:List UInt8} {y:AV} (b:Nd t k tk tx y) (hd:dH t<=1000000000000000):
  aa (bn (bc vE) 4 (.mp a 0) (.agg [.int .u8 (k:Int),.int .u8 (tk:Int),.str tx,y]) [.int .u8 (k:Int),.int .u8 (tk:Int),.str tx,y] st fun _ s _=>ax 4 true (.mp a 0) s fun v _=>qJ v fun c e f y=>some (.agg [.int .u8 c,.int .u8 e,.str f,y],s)) (NQ PT st0 p L x d t r):=by
 have h:=aa.res l1 w ho b hd;rw [b.ab] at h;exact h
theorem _root_.Go.VM.aa.fit {k tk:Nat} {tx:List UInt8} {y:AV} (d:Nd t k tk tx y) {K:AV->Option β} (g: ∀y',fI t (.agg [.int .u8 (k:Int),.int .u8 (tk:Int),.str tx,y'])->VM.one y'=true->(∀{γ:Type} (K:AV->Option γ),aJ y' K=K y')->aa (K y') Q):aa (ab y (aJ y K)) Q:=by
 obtain ⟨l,es,rfl,c,a⟩:=d.ex;obtain ⟨y',b,hf⟩:=c.fit;refine aa.step (c.ab _) (aa.step (hf K) (g y' ?_ b.one fun K=>b.aJ K));simp only [fI];exact ⟨y',es,rfl,b,a⟩
theorem _root_.Go.VM.aa.two {k tk:Nat} {tx:List UInt8} {y:AV} (a:Nd t k tk tx y) {e:Option β} (g:aa e Q):aa (ab y e) Q:=aa.step (a.ab e) g
theorem _root_.Go.VM.aa.app {v:AV} {es new:List AV} (w:Wd PT st0 st p L x d r l ((v,es)::os)) (b:new≠[]) (hl:es.length+new.length<=1000000000) {K:Kv β} (g: ∀v' s a,VM.one v'=true->Wd PT st0 s p L x d r l ((v',es++new)::os)->aa (K v' s a) Q):aa (cq 4 56 ND v new st K) Q:=by
 obtain ⟨v',s,a,w',e⟩:=w.app new b hl;exact aa.step (e K) (g v' s a w'.ET.one w')
theorem Wd.same {a:Nat} {s:St} {k tk:Int} {tx:List UInt8} {v:AV} {es:List AV} {ts:List T} (w:Wd PT st0 st p L x d r l os) (w':Wd PT st0 s p L x d r' l os) (e:(a,ND,[.int .u8 k,.int .u8 tk,.str tx,v])∈l) (g:wv v es) (h:bp ts es) (hd:dB ts<=1000000000000000):apart ⟨[a],.kept⟩ ⟨[],.all st s⟩=true:=by
 have i:Rf (2 * dB ts+1) v:=by
  have b:=bp.rf h;rcases g with j | ⟨_,k,rfl⟩
  .rcases j.2 with ⟨rfl | rfl,rfl⟩ | rfl | rfl
   .exact wy.mono (by omega)
   .exact E6.mono (by omega)
   .exact qz b
   .exact qz b
  .exact qz b
 refine BO (CR (w.get e) (w'.get e) (d:=2 * dB ts+1) (fun c f=> ?_) (by omega));simp only [Oc,PH,or_false] at f;rcases f with rfl | rfl | rfl | rfl
 .exact (px _ _).mono (by omega)
 .exact (px _ _).mono (by omega)
 .exact (zN _).mono (by omega)
 .exact i
theorem Wd.hP {a:Nat} {s:St} {k tk:Nat} {tx:List UInt8} {v:AV} (w:Wd PT st0 st p L x d r l os) (w':Wd PT st0 s p L x d r' l os) (c:(a,ND,[.int .u8 (k:Int),.int .u8 (tk:Int),.str tx,v])∈l) (e:Nd t k tk tx v) (hd:dH t<=1000000000000000):apart ⟨[a],.kept⟩ ⟨[],.all st s⟩=true:=by
 obtain ⟨ts,es,rfl,f,b⟩:=e.ex;simp only [dH] at hd;exact w.same w' c f b (by omega)
theorem _root_.Go.VM.aa.grow (l1:List Vr) {F:FuncId} {args:List AV} {a:Nat} {k tk:Int} {tx:List UInt8} {v:AV} {es:List AV} {ts:List T}
  (w:Wd PT st0 st p L x d r (l1++(a,ND,[.int .u8 k,.int .u8 tk,.str tx,v])::l2) ((v,es)::os)) (j:NW PT F args st p L x d t r') (h1:vE.isLook F=false) (l:(bx (args.map strip)&& !vE.full F)=false)
  (b:bp ts es) (c:dB ts<=1000000000000000) (hl:ts.length<=100000000) {K:St->Option β}
  (g: ∀v' e s,bp (ts++[t]) (es++[e])->dB (ts++[t])<=1000000000000000->Wd PT st0 s p L x d r' (l1++(a,ND,[.int .u8 k,.int .u8 tk,.str tx,v'])::l2) ((v',es++[e])::os)->aa (K s) Q):
  aa (ax 1 false (.mp a 3) st fun v rd=>aX (bc vE) F args st fun u s x=>qJ u fun m n tx y=>cu (apart ⟨rd,.kept⟩ x&&(apart ⟨[],.kept⟩ x&&true)) (ab y (ab y (aJ y fun y=>ab y (aJ y fun y=>cq 4 56 ND v [.agg [.int .u8 m,.int .u8 n,.str tx,y]] s fun v s _=>ab v (ab v (bn (bc vE) 1 (.mp a 3) v [v] s fun _ s _=>K s))))))) Q:=by
 have h:(a,ND,[AV.int .u8 k,.int .u8 tk,.str tx,v])∈l1++(a,ND,[AV.int .u8 k,.int .u8 tk,.str tx,v])::l2:=List.mem_append_right _ NV;refine aa.eM h w rfl (aa.node w j h1 l fun E o q y s i hd w'=> ?_);have f:=w.same w' h w.ET b c;refine aa.step (ff (by rw [f];rfl) _) (aa.two i (aa.fit i fun y' z h1 hf=>aa.one h1 (aa.step (hf _) (aa.app w' (by simp) (by rw [bp.len b];simp;omega) fun v' s' G ho A=> ?_))));refine aa.one ho (aa.one ho (aa.gz l1 A (N4 rfl) fun B C D=> ?_));exact g v' _ B (bp.app b (bp.cons z bp.nil)) (by rw [bI,aZ];omega) D
end
abbrev PP:TypeId:=41
section
variable {β:Type} {Q:β->Prop} {st0 st:St} {p:Nat} {L:List bo} {x:AV} {d d':Nat} {r r':List bo} {l l1 l2:List Vr} {os:List (AV×List AV)} {t:T}
theorem _root_.Go.VM.aa.is (a:List (List UInt8)) (hs:a.length<=1000) (w:Wd PP st0 st p L x d r l os) {K:Bool->St->Fx->Option β} (g: ∀s,Wd PP st0 s p L x d r l os->aa (K (isAny a r) s ⟨[],.all st s⟩) Q):
  aa (aX (bc vE) 28 [.mp p 0,.sl 1 (a.map AV.str) .shut] st fun v s c=>bG v fun b=>K b s c) Q:=by
 obtain ⟨i,h,rfl⟩:=w.pz;obtain ⟨s,k,e⟩:=wC h (iy a hs);exact aa.step (e _) (g s (w.quiet k))
theorem _root_.Go.VM.aa.CO {s0:List UInt8} (w:Wd PP st0 st p L x d r l os) {K:Bool->St->Fx->Option β} (g: ∀s,Wd PP st0 s p L x d r l os->aa (K (bY s0 r) s ⟨[],.all st s⟩) Q):
  aa (aX (bc vE) 28 [.mp p 0,.sl 1 [.str s0] .shut] st fun v s a=>bG v fun b=>K b s a) Q:=
 aa.is [s0] (by simp) w fun s w'=>by rw [uU];exact g s w'
theorem _root_.Go.VM.aa.cj (pat:Bool) (w:Wd PP st0 st p L x d r l os) {K:Bool->St->Fx->Option β} (g: ∀s,Wd PP st0 s p L x d r l os->aa (K (cj pat r) s ⟨[],.all st s⟩) Q):
  aa (aX (bc vE) 48 [.mp p 0,.int .u8 (mN pat:Int),.str (mT pat)] st fun v s a=>bG v fun b=>K b s a) Q:=by
 obtain ⟨i,h,rfl⟩:=w.pz;obtain ⟨s,k,e⟩:=xD h pat
 exact aa.step (e _) (g s (w.quiet k))
theorem _root_.Go.VM.aa.next (w:Wd PP st0 st p L x d r l os) {K:St->St->Option β} (g: ∀s s',Wd PP st0 s' p L x d r ((s.h,24,[.int .u8 ((nx r).1:Int),.str (nx r).2])::l) os->aa (K s s') Q):
  aa (aX (bc vE) 27 [.mp p 0] st fun v s _=>fU v fun vs=>cC vs 0 fun u=>yF u fun cs=>br cs fun a cs=>bg .u8 a fun n=>br cs fun b cs=>dV b fun tx=>bE cs (fU v fun vs=>cC vs 1 fun u=>bg .i64 u fun _=>ba (St.add s (.cells 24 [.int .u8 0,.str []])) fun c=>bn (bc vE) 2 (.mp (St.h s) 0) (.agg [.int .u8 n,.str tx]) [.int .u8 n,.str tx] c fun _ s' _=>K s s')) Q:=by
 obtain ⟨i,h,rfl⟩:=w.pz;obtain ⟨s,k,e⟩:=jP h;refine aa.step (e _) ?_;simp only [ch,bA,bM,bF,af,ah,aA,ae];refine aa.alloc (w.quiet k) fun c _ w1=> ?_;exact aa.store [] w1 fun f m j=>g s f j
theorem fH (h:Pz PP st p L x d r):NW PP 29 [.mp p 0] st p L x d (aO r) (aT r):=by
 obtain ⟨i,h,rfl⟩:=h;obtain ⟨v,s,e,a,b,c⟩:=Bc h;exact ⟨(v,s),e,a,Oe (bz _) (by omega),⟨_,b,(rN L i).symm⟩,c⟩
theorem kg (h:Pz PP st p L x d r) (s:List UInt8):NW PP 50 [.mp p 0,.str s] st p L x d (du s r) (bL s r):=by
 obtain ⟨i,h,rfl⟩:=h;obtain ⟨v,s',g,e,a,b,c,f⟩:=GL h s;exact ⟨(v,s'),e,a,Oe (dU _ _) (by omega),⟨_,b,c⟩,f⟩
theorem _root_.Go.VM.aa.take (w:Wd PP st0 st p L x d r l os) {K:Int->Int->List UInt8->AV->St->Fx->Option β}
 (g: ∀(k tk:Nat) (tx:List UInt8) (y:AV) (s:St),Nd (aO r) k tk tx y->dH (aO r)<=1000000000000000->Wd PP st0 s p L x d (aT r) l os->aa (K (k:Int) (tk:Int) tx y s ⟨[],.all st s⟩) Q):
 aa (aX (bc vE) 29 [.mp p 0] st fun v s e=>qJ v fun a b c y=>K a b c y s e) Q:=aa.node w (fH w.pz) rfl rfl g
theorem _root_.Go.VM.aa.KC (w:Wd PP st0 st p L x d r l os) {s0:List UInt8} {K:Int->Int->List UInt8->AV->St->Fx->Option β}
 (g: ∀(k tk:Nat) (tx:List UInt8) (y:AV) (s:St),Nd (du s0 r) k tk tx y->dH (du s0 r)<=1000000000000000->Wd PP st0 s p L x d (bL s0 r) l os->aa (K (k:Int) (tk:Int) tx y s ⟨[],.all st s⟩) Q):
 aa (aX (bc vE) 50 [.mp p 0,.str s0] st fun v s e=>qJ v fun a b c y=>K a b c y s e) Q:=aa.node w (kg w.pz s0) rfl rfl g
theorem _root_.Go.VM.aa.tY {i o n:Nat} {K:AV->Option β} (g:aa (K (.mp i (o+n))) Q):aa (cu (notNil (.mp i o)) (cI n (.mp i o) K)) Q:=g
theorem _root_.Go.VM.aa.jM {PT:TypeId} (w:Wd PT st0 st p L x d r l os) {K:AV->List Nat->Option β} (g:aa (K (.int .i64 (d:Int)) [p]) Q):aa (ax 1 false (.mp p 2) st K) Q:=by
 obtain ⟨i,h,rfl⟩:=w.pz;exact aa.step (bh h.get _ _ _ _) g
theorem _root_.Go.VM.aa.deep {PT:TypeId} (d':Nat) (w:Wd PT st0 st p L x d r l os) {K:Kv β} (g: ∀s a,Wd PT st0 s p L x d' r l os->aa (K VM.undef s a) Q):aa (bn (bc vE) 1 (.mp p 2) (.int .i64 (d':Int)) [.int .i64 (d':Int)] st K) Q:=by
 obtain ⟨i,h,rfl⟩:=w.pz;refine aa.step (eS (cs:=[.int .i64 (d':Int)]) (z:=1) (off:=2) h.get rfl (N4 rfl) h.ro K) (g _ _ ?_);have k:aV st (st.put p (.cells PT (cJ [x,.int .i64 (i:Int),.int .i64 (d:Int)] 2 [.int .i64 (d':Int)]))) (· =p):=aV.put rfl;exact w.move k ⟨i,⟨St.aP (St.cA.1 h.get).1,h.sl,h.le,h.len,by rw [k.ro];exact h.ro⟩,rfl⟩
theorem gk {k:Nat} {es:List AV} {ts:List T} (h:bp ts es) (hl:es.length<=1000):Nd (node k ts) k 0 [] (.sl 4 es .shut):=⟨⟨ts,es,rfl,.inl (cb.shut (by omega)),h⟩⟩
theorem iI {t:T} {e:AV} (h:fI t e):bp [t] [e]:=bp.cons h bp.nil
theorem uy {t u:T} {e f:AV} (h:fI t e) (a:fI u f):bp [t,u] [e,f]:=bp.cons h (iI a)
theorem uV {t u v:T} {e f g:AV} (h:fI t e) (b:fI u f) (a:fI v g):bp [t,u,v] [e,f,g]:=bp.cons h (uy b a)
theorem lJ (f:AV) (s0:List UInt8) (h:Pz PP st p L x 64 r):NW PP 81 [.mp p 0,.str s0,f] st p L x 64 (mR s0 r) (lA r):=by
 refine aa.wide (aa.step (Dw _ _ _ _) ?_);unfold Ma;refine aa.step (aA _ _) (aa.alloc (Wd.begin h) fun c _ w=> ?_);refine aa.tY (aa.jM w ?_);refine aa.step (ah _ _ _) ?_;refine aa.next w fun d e w=> ?_;refine aa.eM (NV) w rfl (aa.step (ah _ _ _) ?_);unfold mR lA;by_cases h0:(nx r).1=0
 .rw [if_pos h0,if_pos h0,show (((nx r).1:Int)==0)=true by rw [h0];rfl];refine aa.step (au _ _) (aa.step (kZ _ _ _) ?_);refine aa.res [_] (old:=[.int .u8 0,.int .u8 0,.str [],.aG]) w rfl (fN s0) ?_;rw [eh];omega
 .rw [if_neg h0,if_neg h0,show (((nx r).1:Int)==0)=false from NY.2 (by omega)];refine aa.step (ai _ _) (aa.take w fun k tk tx y s a hd w=> ?_);refine aa.two a (aa.fit a fun y' b _ _=> ?_);refine aa.yW [_] (old:=[.int .u8 0,.int .u8 0,.str [],.aG]) w rfl (gk (iI b) (by simp)) ?_;rw [bk,aZ];have:=bz r;omega
theorem pD {f:AV} {F:FuncId} {args:List AV} (s0:List UInt8) (h:Pz PP st p L x d r) (hd:d < 64) (h1:vE.isLook F=false) (e:(bx (args.map strip)&& !vE.full F)=false)
  (hf: ∀{β:Type} (s:St) (K:Kv β),jX (bc vE) (Sx.prim (sx vE 81)) f [] s K=aX (bc vE) F args s K)
  (g: ∀s,aV st s (· =p)->Pz PP s p L x (d+1) r->NW PP F args s p L x (d+1) t r'):NW PP 81 [.mp p 0,.str s0,f] st p L x d t r':=by
 refine aa.wide (aa.step (Dw _ _ _ _) ?_);unfold Ma;refine aa.step (aA _ _) (aa.alloc (Wd.begin h) fun j _ w=> ?_);refine aa.tY (aa.jM w ?_);refine aa.step (ah _ _ _) ?_;rw [show ((d:Int)==64)=false from NY.2 (by omega)];refine aa.step (ai _ _) (aa.tY (aa.jM w ?_));refine aa.step (ah _ _ _) ?_;rw [aD,bj (by omega)];refine aa.tY (aa.deep (d+1) w fun i b w=> ?_);refine aa.step (hf _ _) (aa.node w (g i w.k w.pz) h1 e fun k tk tx y s c a w=> ?_);refine aa.alloc w fun l _ w=>aa.two c ?_;refine aa.store [] w fun m b w=> ?_;refine aa.tY (aa.jM w ?_);refine aa.step (ah _ _ _) ?_;rw [aD,show ((d+1:Nat):Int) - 1=((d+1:Nat):Int) - ((1:Nat):Int) from rfl,qA (by omega) (by omega),PB];refine aa.tY (aa.deep d w fun n b w=> ?_);refine aa.dQ (NV) w ?_;exact aa.res [_] (old:=[.int .u8 0,.int .u8 0,.str [],.aG]) w rfl c a
end
def mK (F:FuncId) (more:Nat->List AV) (job:pc) (n:Nat):Prop:= ∀(st:St) (p:Nat) (L:List bo) (x:AV) (d:Nat) (r:List bo) (t:T) (r':List bo),Pz PP st p L x d r->d<=64->P n job d r=some ([t],r')->NW PP F (.mp p 0::more p) st p L x d t r'
def DU (pat:Bool):FuncId:=match pat with | true=>78 | false=>51
def tf (pat:Bool) (p:Nat):AV:= .fn (.func (DU pat)) [.mp p 0] []
def BQ (PT:TypeId) (st:St) (p:Nat) (L:List bo) (x:AV) (d:Nat) (ts:List T) (r':List bo):AV×St->Prop:=fun b=> ∃es,jE b.2 4 ND b.1 es/\(∀j,dm b.1 j->st.h<=j)/\bp ts es/\dB ts<=1000000000000000/\Pz PT b.2 p L x d r'/\aV st b.2 (· =p)
def Eg (n:Nat):Prop:= ∀(st:St) (p:Nat) (L:List bo) (x:AV) (d:Nat) (r:List bo) (ts:List T) (r':List bo),Pz PP st p L x d r->d<=64->P n .binding d r=some (ts,r')->aa ((bc vE).wide 30 [.mp p 0] st) (BQ PP st p L x d ts r')
structure IH (n:Nat):Prop where
 expr:mK 51 (fun _=>[]) .expr n
 whole:mK 82 (fun _=>[]) .whole n
 level: ∀k:Nat,k<=7->mK 107 (fun _=>[.int .i64 (k:Int)]) (.level k) n
 neg:mK 119 (fun _=>[]) .neg n
 atom: ∀pat,mK 49 (fun _=>[.bool pat]) (.atom pat) n
 closed: ∀list pat,mK 80 (fun p=>[.int .u8 (kindOf list pat:Int),.str (oE list),.str (gn list),tf pat p]) (.closed list pat) n
 pattern:mK 78 (fun _=>[]) .pattern n
 arm:mK 106 (fun _=>[]) .arm n
 binding:Eg n
theorem ry {n:Nat} (a:n<=10000000) {job:pc} {d:Nat} {r:List bo} {l:List T} {r':List bo} (h:P n job d r=some (l,r')) (b:gP job=[]):dB l<=100000020000000:=by
 have:=Bx n job d r l r' h;rw [b,aK] at this;have c:n * n<=10000000 * 10000000:=PC a a;omega
theorem dn {n:Nat} (a:n<=10000000) {job:pc} {d:Nat} {r:List bo} {t:T} {r':List bo} (h:P n job d r=some ([t],r')) (b:gP job=[]):dH t<=100000020000000:=by
 have:=ry a h b
 rwa [aZ] at this
section
variable {β:Type} {Q:β->Prop} {st0 st:St} {p:Nat} {L:List bo} {x:AV} {d d':Nat} {r r':List bo} {l l1 l2:List Vr} {os:List (AV×List AV)} {t:T}
abbrev z4:List AV:=[.int .u8 0,.int .u8 0,.str [],.aG]
theorem C8 {n:Nat} (ih:IH n):mK 51 (fun _=>[]) .expr (n+1):=by
 intro st p L x d r t r' a hd h;simp only [P] at h;refine aa.wide (aa.step (IC _ _) ?_);unfold Nj;refine aa.alloc (Wd.begin a) fun c _ w=> ?_;split at h
 .rename_i hd;subst hd;cases h;exact aa.node w (lJ _ _ w.pz) rfl rfl fun k tk tx y s b hd w=>aa.res [] (old:=z4) w rfl b hd
 .exact aa.node w (pD (F:=82) (args:=[.mp p 0]) _ w.pz (by omega) rfl rfl (fun _ _=>rfl) fun s _ a=>ih.whole s p L x (d+1) r t r' a (by omega) h) rfl rfl fun k tk tx y s b hd w=>aa.res [] (old:=z4) w rfl b hd
def Nv (PT:TypeId) (st0 s:St) (p:Nat) (L:List bo) (x:AV) (d:Nat) (r:List bo) (a b:Nat) (t:T):Prop:= ∃(k tk:Nat) (tx:List UInt8) (y:AV),Wd PT st0 s p L x d r [(a,ND,[.int .u8 (k:Int),.int .u8 (tk:Int),.str tx,y]),(b,ND,z4)] []/\Nd t k tk tx y
theorem Nv.fin {PT:TypeId} {s:St} {a b:Nat} (h:Nv PT st0 s p L x d r a b t) (hd:dH t<=1000000000000000):
  aa (ax 4 true (.mp a 0) s fun v _=>qJ v fun c e tx y=>ab y (bn (bc vE) 4 (.mp b 0) (.agg [.int .u8 c,.int .u8 e,.str tx,y]) [.int .u8 c,.int .u8 e,.str tx,y] s fun _ s _=>ax 4 true (.mp b 0) s fun v _=>qJ v fun c e tx y=>some (.agg [.int .u8 c,.int .u8 e,.str tx,y],s))) (NQ PT st0 p L x d t r):=by
 obtain ⟨k,tk,tx,y,w,f⟩:=h;exact aa.dQ (NV) w (aa.res [_] (old:=z4) w rfl f hd)
theorem Fh {a b c:Vr}:List.Sublist [b,c] [a,b,c]:=List.Sublist.cons _ (Pg _)
theorem cy {b c:Bool} (h:b=c) {α:Type} (x y:Option α):aW b x y=aW c x y:=by rw [h]
theorem GS {n:Nat} (ih:IH n) {a:Nat} (H:st.get a= .ok (.cells 39 [.mp p 0])) (o:a≠p) (I:Pz PP st p L x d r) (hd:d<=64)
  {e:List bo} {u:T} (h1:P n (.atom true) d r=some ([u],e)) (i:if bY uS e=true then ∃v,P n .pattern d (aT e)=some ([v],r')/\t=node 16 [u,aO e,v] else t=u/\r'=e)
  (E:n<=10000000):NW PP 104 [.mp a 0] st p L x d t r':=by
 have F:=dn E h1 rfl;refine aa.wide (aa.step (FM _ _) ?_);unfold KO;have rd: ∀{s:St} {β:Type} (K:AV->List Nat->Option β),aV st s (· =p)->ax 1 false (.mp a 0) s K=K (.mp p 0) [a]:=fun K k=>bh (k.vg o H) _ _ _ _;refine aa.alloc (Wd.begin I) fun Y _ w=> ?_;refine aa.step (rd _ w.k) (aa.node w (ih.atom true _ p L x d r u e w.pz hd h1) rfl rfl fun k tk tx y s b j w=> ?_);refine aa.alloc w fun Z _ w=>aa.two b ?_;refine aa.store [] w fun s4 G w=> ?_;refine aa.step (rd _ w.k) ?_;refine aa.CO w fun J w=> ?_;cases m:bY uS e with
 | true=>
  rw [m,if_pos rfl] at i;obtain ⟨v,i,rfl⟩:=i;have M:=dn E i rfl;have N:=bz e;refine aa.bind (R:=fun c=> ∃g,c=([],g)/\Nv PP st g p L x d r' s.h st.h (node 16 [u,aO e,v])) ?_ ?_
  .refine aa.step (cy (c:=true) m _ _) (aa.step (au _ _) ?_);refine aa.step (rd _ w.k) (aa.take w fun k' O Q y' g f q w=> ?_);refine aa.alloc w fun s7 _ w=>aa.two f ?_;refine aa.store [] w fun s8 G w=> ?_;refine aa.dQ (a:=s.h) (N2 _ NV) w ?_;refine aa.dQ (NV) w ?_;refine aa.step (rd _ w.k) (aa.node w (ih.pattern _ p L x d _ v r' w.pz hd i) rfl rfl fun k2 S U y2 s9 l V z=> ?_);have W:=w.hP z (NV) f q;have X:=w.hP z (a:=s.h) (N2 _ NV) b j;refine aa.step (ff (by rw [W,X];rfl) _) ?_;refine aa.two b (aa.two f (aa.two l (aa.fit b fun z1 A _ _=>aa.fit f fun z2 B _ _=>aa.fit l fun z3 C _ _=> ?_)));refine aa.store [_] z fun D G w=> ?_;exact aa.some ⟨D,rfl,16,0,[],_,w.sub Fh,gk (uV A B C) (by simp)⟩
  .rintro c ⟨g,rfl,h⟩;refine aa.step (ae _) (h.fin ?_);rw [bk];simp only [bf,aK];omega
 | false=>
  rw [m,if_neg (by simp)] at i;obtain ⟨rfl,rfl⟩:=i;refine aa.bind (R:=fun c=> ∃g,c=([],g)/\Nv PP st g p L x d r' s.h st.h t) ?_ ?_
  .exact aa.step (cy (c:=false) m _ _) (aa.step (ai _ _) (aa.some ⟨J,rfl,k,tk,tx,y,w,b⟩))
  .rintro c ⟨g,rfl,h⟩;exact aa.step (ae _) (h.fin j)
theorem wg {n:Nat} (ih:IH n) (c:n<=10000000):mK 78 (fun _=>[]) .pattern (n+1):=by
 intro st p L x d r t r' f hd h;simp only [P] at h;refine aa.wide (aa.step (Ij _ _) ?_);unfold MS;refine aa.one rfl (aa.one rfl ?_);refine aa.alloc (Wd.begin f) fun m _ w=> ?_;refine aa.alloc w fun o _ w=> ?_;refine aa.eM (a:=st.h) (N2 _ NV) w rfl ?_;have e:st.h≠p:=w.ne (N2 _ NV);have l:=w.get (a:=st.h) (N2 _ NV);split at h
 .rename_i hd;subst hd;cases h;exact aa.node w (lJ _ _ w.pz) rfl rfl fun k tk tx y s c hd w=>aa.res [] (old:=z4) w rfl c hd
 .obtain ⟨⟨a,q⟩,i,h⟩:=bind_some h;obtain ⟨u,rfl⟩:=bU _ _ _ _ _ _ i rfl;refine aa.node w (pD (F:=104) (args:=[.mp st.h 0]) (t:=t) (r':=r') _ w.pz (by omega) rfl rfl (fun _ _=>rfl) fun s k f=> ?_) rfl rfl fun k tk tx y s c hd w=>aa.res [] (old:=z4) w rfl c hd;refine GS ih (k.vg e l) e f (by omega) i ?_ c;dsimp only at h;split at h
  .rename_i g;rw [if_pos g];obtain ⟨⟨b,z⟩,j,h⟩:=bind_some h;obtain ⟨v,rfl⟩:=bU _ _ _ _ _ _ j rfl;cases h;exact ⟨v,j,rfl⟩
  .rename_i g;rw [if_neg g];cases h;exact ⟨rfl,rfl⟩
end
section
variable {β:Type} {Q:β->Prop} {st0 st:St} {p:Nat} {L:List bo} {x:AV} {d d':Nat} {r r':List bo} {l l1 l2:List Vr} {os:List (AV×List AV)} {t:T}
theorem EZ {n:Nat} (ih:IH n) (A:n<=10000000):mK 106 (fun _=>[]) .arm (n+1):=by
 intro st p L x d r t r' C hd h;simp only [P] at h;obtain ⟨⟨a,B⟩,i,h⟩:=bind_some h;obtain ⟨u,rfl⟩:=bU _ _ _ _ _ _ i rfl;obtain ⟨⟨b,D⟩,j,h⟩:=bind_some h;obtain ⟨v,rfl⟩:=bU _ _ _ _ _ _ j rfl;cases h;have E:=dn A i rfl;have F:=dn A j rfl;have G:=dU fu B;refine aa.wide (aa.step (GD _ _) ?_);unfold KT;refine aa.alloc (Wd.begin C) fun R _ w=> ?_;refine aa.node w (ih.pattern _ p L x d _ u B w.pz hd i) rfl rfl fun k tk tx y s c f w=> ?_;refine aa.alloc w fun S _ w=>aa.two c ?_;refine aa.store [] w fun T H w=> ?_;refine aa.KC w fun U I J y' V e l w=> ?_;refine aa.alloc w fun W _ w=>aa.two e ?_;refine aa.store [] w fun X H w=> ?_;refine aa.dQ (a:=s.h) (N2 _ NV) w ?_;refine aa.dQ (NV) w ?_;refine aa.node w (ih.expr _ p L x d _ v D w.pz hd j) rfl rfl fun Y K M Z s9 g N m=> ?_;have O:=w.hP m (NV) e l;have Q:=w.hP m (a:=s.h) (N2 _ NV) c f;refine aa.step (ff (by rw [O,Q];rfl) _) ?_;refine aa.two c (aa.two e (aa.two g (aa.fit c fun z1 o _ _=>aa.fit e fun z2 q _ _=>aa.fit g fun z3 z _ _=> ?_)));refine aa.yW [_,_] (old:=z4) m rfl (gk (uV o q z) (by simp)) ?_;simp only [bk,bI,bf,aK];omega
theorem pX (pat:Bool) (p:Nat) {β:Type} (s:St) (K:Kv β):jX (bc vE) (Sx.prim (sx vE 80)) (tf pat p) [] s K=aX (bc vE) (DU pat) [.mp p 0] s K:=by cases pat <;> rfl
theorem DY {n:Nat} (ih:IH n) (pat:Bool) (a:Pz PP st p L x d r) (hd:d<=64) (h:P n (if pat then .pattern else .expr) d r=some ([t],r')):NW PP (DU pat) [.mp p 0] st p L x d t r':=by
 cases pat with
 | true=>exact ih.pattern _ p L x d _ t r' a hd h
 | false=>exact ih.expr _ p L x d _ t r' a hd h
theorem xJ (pat:Bool):vE.isLook (DU pat)=false:=by cases pat <;> rfl
theorem zt (pat:Bool) (p:Nat):(bx ([AV.mp p 0].map strip)&& !vE.full (DU pat))=false:=rfl
theorem qO (pat:Bool):single (if pat then pc.pattern else .expr)=true:=by cases pat <;> rfl
def Gv (PT:TypeId) (st0 s:St) (p:Nat) (L:List bo) (x:AV) (d:Nat) (r:List bo) (a b k:Nat) (ts:List T):Prop:= ∃(v:AV) (es:List AV),Wd PT st0 s p L x d r [(a,ND,[.int .u8 (k:Int),.int .u8 0,.str [],v]),(b,ND,z4)] [(v,es)]/\bp ts es/\dB ts<=1000000000000000
theorem Gv.nd {PT:TypeId} {s:St} {a b k:Nat} {ts:List T} (h:Gv PT st0 s p L x d r a b k ts):Nv PT st0 s p L x d r a b (node k ts):=by
 obtain ⟨v,es,w,hs,hd⟩:=h;exact ⟨k,0,[],v,w.drop,⟨⟨ts,es,rfl,w.ET,hs⟩⟩⟩
theorem Gv.grow {PT:TypeId} {s:St} {a b k:Nat} {ts:List T} (h:Gv PT st0 s p L x d r a b k ts) {F:FuncId} {args:List AV} (i:NW PT F args s p L x d t r') (h1:vE.isLook F=false) (j:(bx (args.map strip)&& !vE.full F)=false) (hl:ts.length<=100000000) {K:St->Option β} (g: ∀s,Gv PT st0 s p L x d r' a b k (ts++[t])->aa (K s) Q):
  aa (ax 1 false (.mp a 3) s fun v rd=>aX (bc vE) F args s fun u s x=>qJ u fun l m tx y=>cu (apart ⟨rd,.kept⟩ x&&(apart ⟨[],.kept⟩ x&&true)) (ab y (ab y (aJ y fun y=>ab y (aJ y fun y=>cq 4 56 ND v [.agg [.int .u8 l,.int .u8 m,.str tx,y]] s fun v s _=>ab v (ab v (bn (bc vE) 1 (.mp a 3) v [v] s fun _ s _=>K s))))))) Q:=by
 obtain ⟨v,es,w,hs,hd⟩:=h;exact aa.grow [] w i h1 j hs hd hl fun v' e s c f w'=>g s ⟨v',_,w',c,f⟩
theorem Gv.pz {PT:TypeId} {s:St} {a b k:Nat} {ts:List T} (h:Gv PT st0 s p L x d r a b k ts):Pz PT s p L x d r:=by
 obtain ⟨v,es,w,hs,hd⟩:=h;exact w.pz
theorem Gv.is {s:St} {a b k:Nat} {ts:List T} (h:Gv PP st0 s p L x d r a b k ts) {s0:List UInt8} {K:Bool->St->Fx->Option β} (g: ∀s',Gv PP st0 s' p L x d r a b k ts->aa (K (bY s0 r) s' ⟨[],.all s s'⟩) Q):
  aa (aX (bc vE) 28 [.mp p 0,.sl 1 [.str s0] .shut] s fun v s c=>bG v fun b=>K b s c) Q:=by
 obtain ⟨v,es,w,hs,hd⟩:=h;exact aa.CO w fun s' w'=>g s' ⟨v,es,w',hs,hd⟩
theorem zK {n:Nat} (C:n<=10000000) (ih: ∀m,m < n->IH m) (list pat:Bool) {a b k:Nat} {c:St} (t:c.h=a) (hd:d<=64): ∀(m:Nat) (ts bs:List T) (r r':List bo) (s:St),m<=n->P m (.items list pat) d r=some (bs,r')->Gv PP st0 s p L x d r a b k ts->ts.length+2 * m<=100000000->
  aa (aI (lH (.mp p 0) (tf pat p) (oE list) c) ([],s)) (fun q=> ∃s',q=(0,[],s')/\Gv PP st0 s' p L x d r' a b k (ts++bs)):=by
 intro m
 induction m with
 | zero=>intro ts bs r r' s _ h;cases h
 | succ m j=>
  intro ts bs r r' s D h f hl;simp only [P] at h;have E:lH (.mp p 0) (tf pat p) (oE list) c ([],s)=lH (.mp p 0) (tf pat p) (oE list) c ([],s):=rfl;split at h
  .rename_i l;obtain ⟨⟨F,v⟩,w,h⟩:=bind_some h;obtain ⟨u,rfl⟩:=bU _ _ _ _ _ _ w (qO pat);obtain ⟨⟨b1,G⟩,A,h⟩:=bind_some h;cases h;have g:aa (lH (.mp p 0) (tf pat p) (oE list) c ([],s)) (fun q=> ∃s',q= .inl ([],s')/\Gv PP st0 s' p L x d v a b k (ts++[aO r]++[u])):=by
    simp only [lH,pX,t,ae];refine f.is fun y f=> ?_;rw [l];refine aa.step (au _ _) ?_;refine f.grow (fH f.pz) rfl rfl (by omega) fun z f=> ?_;refine f.grow (DY (ih m (by omega)) pat f.pz hd w) (xJ pat) (zt pat p) (by simp;omega) fun B f=> ?_;exact aa.some ⟨B,rfl,f⟩
   obtain ⟨q,e,s',rfl,i⟩:=g;rw [aL e];refine (j _ b1 v _ s' (by omega) A i (by simp;omega)).mono ?_;rintro q ⟨z,rfl,o⟩;refine ⟨z,rfl, ?_⟩;simpa using o
  .rename_i l;cases h;have g:aa (lH (.mp p 0) (tf pat p) (oE list) c ([],s)) (fun q=> ∃s',q= .inr (0,[],s')/\Gv PP st0 s' p L x d r a b k ts):=by
    simp only [lH,pX,t,ae];refine f.is fun y f=> ?_;rw [N6 l];exact aa.step (ai _ _) (aa.some ⟨y,rfl,f⟩)
   obtain ⟨q,e,s',rfl,i⟩:=g;exact ⟨_,aC e,s',rfl,by simpa using i⟩
theorem yn {n:Nat} (ih: ∀m,m<=n->IH m) (f:n<=10000000) (list pat:Bool):mK 80 (fun p=>[.int .u8 (kindOf list pat:Int),.str (oE list),.str (gn list),tf pat p]) (.closed list pat) (n+1):=by
 intro st p L x d r t r' z hd h;simp only [P] at h;refine aa.wide (aa.step (Jn _ _ _ _ _ _) ?_);simp only [Ni,pX,ah,aA];refine aa.alloc (Wd.begin z) fun D _ w=> ?_;refine aa.take w fun k tk tx y s b c w=> ?_;refine aa.two b (aa.fit b fun E g _ _=> ?_);refine aa.alloc w fun o _ w=> ?_;refine aa.store [] w fun A F w=> ?_;have a:Gv PP st A p L x d (aT r) s.h st.h (kindOf list pat) [aO r]:=⟨_,_,w.shut (by simp),iI g,by rw [aZ];exact c⟩;refine a.is fun G a=> ?_;split at h
 .rename_i i;cases h;rw [i];refine aa.step (au _ _) ?_;refine a.grow (fH a.pz) rfl rfl (by simp) fun H a=> ?_;refine a.nd.fin ?_;have:=bz r;have:=bz (aT r);simp only [bk,bI,bf,aK];omega
 .rename_i i;rw [N6 i];obtain ⟨⟨I,J⟩,j,h⟩:=bind_some h;obtain ⟨u,rfl⟩:=bU _ _ _ _ _ _ j (qO pat);obtain ⟨⟨b1,v⟩,l,h⟩:=bind_some h;cases h;refine aa.step (ai _ _) ?_;refine a.grow (DY (ih n (NX _)) pat a.pz hd j) (xJ pat) (zt pat p) (by simp) fun o a=> ?_;refine aa.bind (zK f (fun m K=>ih m (by omega)) list pat rfl hd n _ b1 _ _ o (NX _) l a (by simp;omega)) ?_;rintro q ⟨M,rfl,a⟩;refine aa.step (ae _) ?_;have B:=ry f l rfl;have C:=dn f j (mE pat);have hl:=uN _ _ _ _ _ _ _ l;refine a.grow (kg a.pz (gn list)) rfl rfl (by simp;omega) fun N a=> ?_;have e:=a.nd.fin (t:=node (kindOf list pat) ([aO r]++[u]++b1++[du (gn list) v])) (by
   have:=bz r;have:=dU (gn list) v;simp only [bk,bI,bf,aK];omega)
  exact e
end
section
variable {β:Type} {Q:β->Prop} {st0 st:St} {p:Nat} {L:List bo} {x:AV} {d d':Nat} {r r':List bo} {l l1 l2:List Vr} {os:List (AV×List AV)} {t:T}
def D9 (pat:Bool):List UInt8:=if pat then iR else lu
theorem CI {n:Nat} (ih:IH n) (pat:Bool):mK 49 (fun _=>[.bool pat]) (.atom pat) (n+1):=by
 intro st p L x d r t r' l hd h;simp only [P] at h;refine aa.wide (aa.step (JD _ _ _) ?_);unfold ML;refine aa.step (ar _ _) (aa.alloc (Wd.begin l) fun f _ w=> ?_);have e: ∀{β:Type} (K:bR->Option β),aB (aW pat (some ([AV.str iR,.int .u8 17,.int .u8 18,.str [95],tf true p,.int .u8 5],f)) (some ([.str lu,.int .u8 14,.int .u8 15,.str [40],tf false p,.int .u8 6],f))) K
   =K ([.str (D9 pat),.int .u8 (kindOf false pat:Int),.int .u8 (kindOf true pat:Int),.str (mT pat),tf pat p,.int .u8 (mN pat:Int)],f):=by cases pat <;> exact fun K=>rfl
 refine aa.step (e _) ?_;simp only [af,aA,ah,ae];refine aa.next w fun m o w=> ?_;refine aa.cj pat w fun q w=> ?_;split at h
 .rename_i g;rw [g];refine aa.step (ai _ _) ?_;refine aa.eM (NV) w rfl (aa.step (ah _ _ _) ?_);split at h
  .rename_i j;cases h;rw [show (((nx r).1:Int)==9)=true by rw [j];rfl];refine aa.step (au _ _) (aa.take w fun k tk tx y s a b w=> ?_);refine aa.two a (aa.fit a fun u i _ _=> ?_);refine aa.yW [_] (old:=z4) w rfl (gk (iI i) (by simp)) ?_;have:=bz r;simp only [bk,bf,aK];omega
  rename_i j;rw [show (((nx r).1:Int)==9)=false from NY.2 (by omega)];refine aa.step (ai _ _) (aa.CO w fun v w=> ?_);split at h
  .rename_i ho;refine aa.step (cy (c:=true) ho _ _) (aa.step (au _ _) ?_);exact aa.node w (ih.closed false pat _ p L x d r t r' w.pz hd h) rfl rfl fun k tk tx y s a b w=>aa.res [_] (old:=z4) w rfl a b
  rename_i ho;refine aa.step (cy (c:=false) (N6 ho) _ _) (aa.step (ai _ _) (aa.CO w fun z w=> ?_));split at h
  .rename_i ho;refine aa.step (cy (c:=true) ho _ _) (aa.step (au _ _) ?_);exact aa.node w (ih.closed true pat _ p L x d r t r' w.pz hd h) rfl rfl fun k tk tx y s a b w=>aa.res [_] (old:=z4) w rfl a b
  .rename_i ho;cases h;refine aa.step (cy (c:=false) (N6 ho) _ _) (aa.step (ai _ _) ?_);exact aa.take w fun k tk tx y s a b w=>aa.res [_] (old:=z4) w rfl a b
 .rename_i g;cases h;rw [N6 g];refine aa.step (au _ _) (aa.step (kZ _ _ _) ?_);refine aa.res [_] (old:=z4) w rfl (fN (D9 pat)) ?_;rw [eh];omega
theorem Nv.load {PT:TypeId} {s:St} {a b:Nat} (h:Nv PT st0 s p L x d r a b t) {K:Int->Int->List UInt8->AV->List Nat->Option β} (g: ∀(k tk:Nat) (tx:List UInt8) (y:AV),Wd PT st0 s p L x d r [(a,ND,[.int .u8 (k:Int),.int .u8 (tk:Int),.str tx,y]),(b,ND,z4)] []->Nd t k tk tx y->aa (K k tk tx y [a]) Q):aa (ax 4 true (.mp a 0) s fun v rd=>qJ v fun a b c y=>K a b c y rd) Q:=by
 obtain ⟨k,tk,tx,y,w,e⟩:=h;exact aa.dQ (NV) w (g k tk tx y w e)
theorem Cb {n:Nat} (N:n<=10000000) (ih: ∀m,m < n->IH m) {a b:Nat} {c:St} (D:c.h=a) (hd:d<=64): ∀(m:Nat) (acc t:T) (r r':List bo) (s:St),m<=n->P m (.args acc) d r=some ([t],r')->Nv PP st0 s p L x d r a b acc->dH acc+m<=900000000000000->
  aa (aI (mF (.mp p 0) c) ([],s)) (fun q=> ∃s',q=(0,[],s')/\Nv PP st0 s' p L x d r' a b t/\dH t<=900000000000000):=by
 intro m
 induction m with
 | zero=>intro acc t r r' s _ h;cases h
 | succ m l=>
  intro acc t r r' s O h H hl;simp only [P] at h;obtain ⟨k,tk,tx,y,w,f⟩:=H;split at h
  .rename_i o;obtain ⟨⟨E,v⟩,z,h⟩:=bind_some h;obtain ⟨u,rfl⟩:=bU _ _ _ _ _ _ z rfl;have I:=dn (by omega:m<=10000000) z rfl;have g:aa (mF (.mp p 0) c ([],s)) (fun q=> ∃s',q= .inl ([],s')/\Nv PP st0 s' p L x d v a b (node 13 [acc,u])):=by
    simp only [mF,D,ae];refine aa.cj false w fun F w=> ?_;rw [o];refine aa.step (au _ _) ?_;refine aa.dQ (NV) w ?_;refine aa.node w ((ih m (by omega)).atom false _ p L x d r u v w.pz hd z) rfl rfl fun Q J K R S j M G=> ?_;have E:=w.hP G (NV) f (by omega);refine aa.step (ff (by rw [E];rfl) _) ?_;refine aa.two f (aa.two j (aa.fit f fun U A _ _=>aa.fit j fun z2 B _ _=> ?_));refine aa.store [] G fun C V w=> ?_;exact aa.some ⟨C,rfl,13,0,[],_,w,gk (uy A B) (by simp)⟩
   obtain ⟨q,e,s',rfl,i⟩:=g;rw [aL e];refine l _ t v _ s' (by omega) h i ?_;simp only [bk,bf,aK];omega
  .rename_i o;cases h;have g:aa (mF (.mp p 0) c ([],s)) (fun q=> ∃s',q= .inr (0,[],s')/\Nv PP st0 s' p L x d r a b acc):=by
    simp only [mF,D,ae];refine aa.cj false w fun F w=> ?_;rw [N6 o];exact aa.step (ai _ _) (aa.some ⟨F,rfl,k,tk,tx,y,w,f⟩)
   obtain ⟨q,e,s',rfl,i⟩:=g;exact ⟨_,aC e,s',rfl,i,by omega⟩
theorem Ei {n:Nat} (ih: ∀m,m<=n->IH m) (o:n<=10000000):mK 119 (fun _=>[]) .neg (n+1):=by
 intro st p L x d r t r' v hd h;simp only [P] at h;refine aa.wide (aa.step (Fy _ _) ?_);unfold Lf;refine aa.alloc (Wd.begin v) fun O _ w=> ?_;refine aa.is [[45],[45,46]] (by simp) w fun Q w=> ?_;split at h
 .rename_i z;rw [z];refine aa.step (ai _ _) ?_;refine aa.take w fun k tk tx y s a g w=> ?_;refine aa.alloc w fun G _ w=>aa.two a ?_;refine aa.store [] w fun E H w=> ?_;refine aa.dQ (NV) w ?_;have R:=bz r;split at h
  .rename_i hd;subst hd;cases h;refine aa.node w (lJ _ _ w.pz) rfl rfl fun I A B J K b C i=> ?_;have j:=w.hP i (NV) a (by omega);refine aa.step (ff (by rw [j];rfl) _) ?_;refine aa.two a (aa.two b (aa.fit a fun M c _ _=>aa.fit b fun z2 e _ _=> ?_));refine aa.yW [_] (old:=z4) i rfl (gk (uy c e) (by simp)) ?_;have:=lQ lu (aT r);simp only [bk,bf,aK];omega
  .obtain ⟨⟨j,l⟩,f,h⟩:=bind_some h;obtain ⟨u,rfl⟩:=bU _ _ _ _ _ _ f rfl;cases h;have D:=dn o f rfl;refine aa.node w (pD (F:=119) (args:=[.mp p 0]) _ w.pz (by omega) rfl rfl (fun _ _=>rfl) fun s _ v=>(ih n (NX _)).neg s p L x (d+1) _ u l v (by omega) f) rfl rfl fun I A B J K b C i=> ?_;have j:=w.hP i (NV) a (by omega);refine aa.step (ff (by rw [j];rfl) _) ?_;refine aa.two a (aa.two b (aa.fit a fun M c _ _=>aa.fit b fun z2 e _ _=> ?_));refine aa.yW [_] (old:=z4) i rfl (gk (uy c e) (by simp)) ?_;simp only [bk,bf,aK];omega
 .rename_i z;rw [N6 z];refine aa.step (au _ _) ?_;obtain ⟨⟨j,l⟩,f,h⟩:=bind_some h;obtain ⟨u,rfl⟩:=bU _ _ _ _ _ _ f rfl;have D:=dn o f rfl;refine aa.node w ((ih n (NX _)).atom false _ p L x d r u l w.pz hd f) rfl rfl fun k tk tx y s a g w=> ?_;refine aa.alloc w fun G _ w=>aa.two a ?_;refine aa.store [] w fun E H w=> ?_;refine aa.bind (Cb o (fun m S=>ih m (by omega)) rfl hd n u t l r' E (NX _) h ⟨k,tk,tx,y,w,a⟩ (by omega)) ?_;rintro q ⟨T,rfl,N,g⟩;exact aa.step (ae _) (N.fin (by omega))
def EH:AV:= .sl 2 [.agg [.sl 1 [.str [124,124]] .shut,.bool false],.agg [.sl 1 [.str [38,38]] .shut,.bool false],.agg [.sl 1 [.str [61],.str [60,62],.str [60],.str [60,61],.str [62],.str [62,61]] .shut,.bool true],.agg [.sl 1 [.str [64],.str [94]] .shut,.bool false],
 .agg [.sl 1 [.str [58,58]] .shut,.bool false],.agg [.sl 1 [.str [43],.str [45],.str [43,46],.str [45,46]] .shut,.bool true],.agg [.sl 1 [.str [42],.str [47],.str [42,46],.str [47,46],.str [109,111,100]] .shut,.bool true]] .shut
theorem yA {β:Type} (st:St) (K:Kv β):aX (bc vE) 118 [] st K=K EH st q0:=aM st K rfl rfl rfl (aY rfl (FV.trans rfl))
theorem A5 {k:Nat} (a:k<=6) {β:Type} (st:St) (K:AV->List Nat->Option β):fc 2 EH (k:Int) st K=K (.ip [.sl 1 ((opsOf k).map AV.str) .shut,.bool (Parse.leftOf k)]) []:=by
 match k,a with
 | 0,_=>rfl
 | 1,_=>rfl
 | 2,_=>rfl
 | 3,_=>rfl
 | 4,_=>rfl
 | 5,_=>rfl
 | 6,_=>rfl
theorem DJ {n:Nat} (hn:n<=10000000) (ih: ∀m,m < n->IH m) {a b k:Nat} (o:k<=6) {c:St} (M:c.h=a) (hd:d<=64): ∀(m:Nat) (acc t:T) (r r':List bo) (s:St),m<=n->P m (.ops k acc) d r=some ([t],r')->Nv PP st0 s p L x d r a b acc->dH acc+m<=900000000000000->
  aa (aI (mA (.mp p 0) (k:Int) EH c) ([],s)) (fun q=> ∃s',q=(0,[],s')/\Nv PP st0 s' p L x d r' a b t/\dH t<=900000000000000):=by
 intro m
 induction m with
 | zero=>intro acc t r r' s _ h;cases h
 | succ m v=>
  intro acc t r r' s hm h Q hl;simp only [P] at h;obtain ⟨R,tk,tx,y,w,f⟩:=Q;have hlen:(opsOf k).length<=1000:=by
   match k,o with
   | 0,_=>simp [opsOf]
   | 1,_=>simp [opsOf]
   | 2,_=>simp [opsOf]
   | 3,_=>simp [opsOf]
   | 4,_=>simp [opsOf]
   | 5,_=>simp [opsOf]
   | 6,_=>simp [opsOf]
  split at h
  .rename_i z;obtain ⟨⟨N,A⟩,B,h⟩:=bind_some h;obtain ⟨u,rfl⟩:=bU _ _ _ _ _ _ B rfl;have S:=dn (by omega:m<=10000000) B rfl;have U:=bz r;have i:aa (mA (.mp p 0) (k:Int) EH c ([],s)) (fun q=> ∃s',q= .inl ([],s')/\Nv PP st0 s' p L x d A a b (node 11 [acc,aO r,u])):=by
    simp only [mA,M,ae,A5 o,qM,cO,N7,jQ,bl,ak,ar];refine aa.is (opsOf k) hlen w fun O w=> ?_;rw [z];refine aa.step (au _ _) ?_;refine aa.take w fun k' V W y' s6 g C w=> ?_;refine aa.alloc w fun s7 _ w=>aa.two g ?_;refine aa.store [] w fun D X w=> ?_;have e: ∀{β:Type} (K:bR->Option β),aB (aW (Parse.leftOf k) (aN (IntKind.wrap .i64 ((k:Int)+1)) fun E=>some ([AV.int .i64 E],D)) (some ([AV.int .i64 (k:Int)],D))) K=K ([.int .i64 ((if Parse.leftOf k then k+1 else k:Nat):Int)],D):=by
     intro β K;cases Parse.leftOf k with
     | true=>
      rw [au,aD,bj (by omega),if_pos rfl];rfl
     | false=>
      rw [ai,if_neg (by simp)];rfl
    refine aa.step (e _) ?_;simp only [af,ah,ae];refine aa.dQ (a:=a) (N2 _ NV) w ?_;refine aa.dQ (NV) w ?_;refine aa.node w ((ih m (by omega)).level _ (by split <;> omega) _ p L x d _ u A w.pz hd B) rfl rfl fun k2 Y Z y2 s9 l av F=> ?_;have N:=w.hP F (NV) g C;have a2:=w.hP F (a:=a) (N2 _ NV) f (by omega);refine aa.step (ff (by rw [N,a2];rfl) _) ?_;refine aa.two f (aa.two g (aa.two l (aa.fit f fun z1 G _ _=>aa.fit g fun z2 H _ _=>aa.fit l fun z3 I _ _=> ?_)));refine aa.store [_] F fun J X w=> ?_;exact aa.some ⟨J,rfl,11,0,[],_,w.sub Fh,gk (uV G H I) (by simp)⟩
   obtain ⟨q,e,s',rfl,j⟩:=i;rw [aL e];refine v _ t A _ s' (by omega) h j ?_;simp only [bk,bf,aK];omega
  .rename_i z;cases h;have i:aa (mA (.mp p 0) (k:Int) EH c ([],s)) (fun q=> ∃s',q= .inr (0,[],s')/\Nv PP st0 s' p L x d r a b acc):=by
    simp only [mA,M,ae,A5 o,qM,cO,N7,jQ,bl,ak,ar];refine aa.is (opsOf k) hlen w fun O w=> ?_;rw [N6 z];exact aa.step (ai _ _) (aa.some ⟨O,rfl,R,tk,tx,y,w,f⟩)
   obtain ⟨q,e,s',rfl,j⟩:=i;exact ⟨_,aC e,s',rfl,j,by omega⟩
theorem zC {n:Nat} (ih: ∀m,m<=n->IH m) (f:n<=10000000) (k:Nat) (A:k<=7):mK 107 (fun _=>[.int .i64 (k:Int)]) (.level k) (n+1):=by
 intro st p L x d r t r' j hd h;simp only [P] at h;refine aa.wide (aa.step (Gu _ _ _) ?_);unfold Lr;refine aa.step (ah _ _ _) (aa.alloc (Wd.begin j) fun B _ w=> ?_);refine aa.step (yA _ _) ?_;refine aa.step (Fm _ _ _ _) ?_;split at h
 .rename_i g;subst g;refine aa.step (au _ _) ?_;exact aa.node w ((ih n (NX _)).neg _ p L x d r t r' w.pz hd h) rfl rfl fun k tk tx y s a b w=>aa.res [] (old:=z4) w rfl a b
 .rename_i g;refine aa.step (cy (c:=false) (NY.2 (show (k:Int)≠((7:Nat):Int) by omega)) _ _) (aa.step (ai _ _) ?_);rw [aD,bj (by omega)];obtain ⟨⟨C,i⟩,e,h⟩:=bind_some h;obtain ⟨u,rfl⟩:=bU _ _ _ _ _ _ e rfl;have l:=dn f e rfl;refine aa.node w ((ih n (NX _)).level (k+1) (by omega) _ p L x d r u i w.pz hd e) rfl rfl fun o tk tx y s a b w=> ?_;refine aa.alloc w fun D _ w=>aa.two a ?_;refine aa.store [] w fun v E w=> ?_;refine aa.bind (DJ f (fun m F=>ih m (by omega)) (by omega:k<=6) rfl hd n u t i r' v (NX _) h ⟨o,tk,tx,y,w,a⟩ (by omega)) ?_;rintro q ⟨G,rfl,z,b⟩;exact aa.step (ae _) (z.fin (by omega))
end
section
variable {β:Type} {Q:β->Prop} {PT:TypeId} {st0 st s:St} {p:Nat} {L:List bo} {x:AV} {d d':Nat} {r r':List bo} {l l1 l2:List Vr} {os:List (AV×List AV)} {t:T}
theorem Wd.made (w:Wd PT st0 st p L x d r l os) {es:List AV} {n:Nat} (f:n=es.length) (hl:n<=1000000000):Wd PT st0 (st.add (.tok n ND)) p L x d r l ((.sl 4 es (.own st.h),es)::os):=by
 subst f;have w':=w.quiet (aV.add st (.tok es.length ND) _);refine ⟨w'.pz,w'.k,w'.v,w'.nd,fun q a=> ?_,OP.2 ⟨fun q a j b c=> ?_,w'.od⟩,w.p0,w.ro0⟩
 .rcases Oc.1 a with rfl | a
  .refine ⟨⟨Nat.le_succ_of_le w.ro,by show es.length<=9223372036854775807;omega,.inr (.inr ⟨st.h,rfl,St.en,w.ro⟩)⟩,fun j b=> ?_⟩;obtain ⟨_,_,e⟩:=b;cases e;exact w.h
  .exact w'.o q a
 .obtain ⟨_,_,e⟩:=b;cases e;have:=(Ax (w.o q a).1 c).1;omega
def Sv (PT:TypeId) (st0 s:St) (p:Nat) (L:List bo) (x:AV) (d:Nat) (r:List bo) (v:AV) (ts:List T):Prop:= ∃es,Wd PT st0 s p L x d r [] [(v,es)]/\bp ts es/\dB ts<=1000000000000000
theorem Sv.app {v:AV} {ts:List T} (h:Sv PT st0 s p L x d r v ts) {F:FuncId} {args:List AV} (b:NW PT F args s p L x d t r') (h1:vE.isLook F=false) (c:(bx (args.map strip)&& !vE.full F)=false) (hl:ts.length<=100000000) {K:AV->St->Option β} (g: ∀v s,Sv PT st0 s p L x d r' v (ts++[t])->aa (K v s) Q):
  aa (aX (bc vE) F args s fun u s _=>qJ u fun e f tx y=>ab y (ab y (aJ y fun y=>ab y (aJ y fun y=>cq 4 56 ND v [.agg [.int .u8 e,.int .u8 f,.str tx,y]] s fun v s _=>K v s)))) Q:=by
 obtain ⟨es,w,hs,hd⟩:=h;refine aa.node w b h1 c fun n i j y s a k w'=> ?_;refine aa.two a (aa.fit a fun y' l h1 hf=>aa.one h1 (aa.step (hf _) (aa.app w' (by simp) (by rw [bp.len hs];simp;omega) fun v' s' o ho m=> ?_)));exact g v' s' ⟨_,m,bp.app hs (iI l),by rw [bI,aZ];omega⟩
theorem Sv.pz {v:AV} {ts:List T} (h:Sv PT st0 s p L x d r v ts):Pz PT s p L x d r:=by
 obtain ⟨es,w,hs,hd⟩:=h;exact w.pz
theorem Sv.cj {v:AV} {ts:List T} (pat:Bool) (h:Sv PP st0 s p L x d r v ts) {K:Bool->St->Fx->Option β} (g: ∀s',Sv PP st0 s' p L x d r v ts->aa (K (cj pat r) s' ⟨[],.all s s'⟩) Q):
  aa (aX (bc vE) 48 [.mp p 0,.int .u8 (mN pat:Int),.str (mT pat)] s fun v s a=>bG v fun b=>K b s a) Q:=by
 obtain ⟨es,w,hs,hd⟩:=h;exact aa.cj pat w fun s' w'=>g s' ⟨es,w',hs,hd⟩
theorem yh {n:Nat} (ih: ∀m,m < n->IH m) (hd:d<=64): ∀(m:Nat) (ts bs:List T) (r r':List bo) (v:AV) (s:St),m<=n->P m .params d r=some (bs,r')->Sv PP st0 s p L x d r v ts->ts.length+m<=100000000->
  aa (aI (pq (.mp p 0)) ([v],s)) (fun q=> ∃v' s',q=(0,[v'],s')/\Sv PP st0 s' p L x d r' v' (ts++bs)):=by
 intro m
 induction m with
 | zero=>intro ts bs r r' v s _ h;cases h
 | succ m f=>
  intro ts bs r r' v s y h a hl;simp only [P] at h;split at h
  .rename_i g;obtain ⟨⟨z,i⟩,k,h⟩:=bind_some h;obtain ⟨u,rfl⟩:=bU _ _ _ _ _ _ k rfl;obtain ⟨⟨b1,A⟩,o,h⟩:=bind_some h;cases h;have b:aa (pq (.mp p 0) ([v],s)) (fun q=> ∃v' s',q= .inl ([v'],s')/\Sv PP st0 s' p L x d i v' (ts++[u])):=by
    simp only [pq,af,ae];refine a.cj true fun l a=> ?_;rw [g];refine aa.step (au _ _) ?_;exact a.app ((ih m (by omega)).atom true _ p L x d r u i a.pz hd k) rfl rfl (by omega) fun v' s' a=>aa.some ⟨v',s',rfl,a⟩
   obtain ⟨q,e,v',s',rfl,c⟩:=b;rw [aL e];refine (f _ b1 i _ v' s' (by omega) o c (by simp;omega)).mono ?_;rintro q ⟨t,w,rfl,j⟩;exact ⟨t,w,rfl,by simpa using j⟩
  .rename_i g;cases h;have b:aa (pq (.mp p 0) ([v],s)) (fun q=> ∃s',q= .inr (0,[v],s')/\Sv PP st0 s' p L x d r v ts):=by
    simp only [pq,af,ae];refine a.cj true fun l a=> ?_;rw [N6 g];exact aa.step (ai _ _) (aa.some ⟨l,rfl,a⟩)
   obtain ⟨q,e,s',rfl,c⟩:=b;exact ⟨_,aC e,v,s',rfl,by simpa using c⟩
theorem wG {n:Nat} (ih: ∀m,m<=n->IH m) (N:n<=10000000):Eg (n+1):=by
 intro st p L x d r ts r' O hd h;simp only [P] at h;refine aa.wide (aa.step (H2 _ _) ?_);unfold MU;refine aa.CO (Wd.begin O) fun s1 w=> ?_;have dk:=bz r;refine aa.bind (R:=fun c=> ∃v s,c=([v],s)/\Sv PP st s p L x d (if bY fw r then aT r else r) v (if bY fw r then [aO r] else [])) ?_ ?_
 .cases J:bY fw r with
  | true=>
   refine aa.step (cy (c:=true) J _ _) (aa.step (au _ _) ?_);refine aa.take w fun k tk tx y s e l w=> ?_;refine aa.two e (aa.fit e fun Q g h1 hf=>aa.one h1 (aa.step (hf _) ?_));refine aa.some ⟨_,_,rfl,_,w.made rfl (by simp),iI g, ?_⟩;rw [if_pos rfl,aZ];exact l
  | false=>
   refine aa.step (cy (c:=false) J _ _) (aa.step (ai _ _) ?_);exact aa.some ⟨_,_,rfl,[],w.aG,bp.nil,by simp [aK]⟩
 generalize i:(if bY fw r then [aO r] else [])=rc at h;have S:rc.length<=1:=by rw [<- i];split <;> simp
 generalize (if bY fw r then aT r else r)=r0 at h;rintro c ⟨v,s,rfl,a⟩;simp only [af,ae];obtain ⟨es,w,hs,D⟩:=a;refine aa.next w fun s2 T w=> ?_;refine aa.eM (NV) w rfl (aa.step (ah _ _ _) ?_);have w:=w.sub (OU _);have E: ∃xs b es t,P n .expr d (bL xj b)=some ([es],t)/\ts=rc++xs++[du xj b]++[es]/\r'=t/\xs.length<=n+1/\
   (if (nx r0).1=4 then ∃ps,P n .params d (aT r0)=some (ps,b)/\xs=aO r0::ps else P n (.atom true) d r0=some (xs,b)):=by
  split at h
  .rename_i h4;obtain ⟨⟨xs,b⟩,j,h⟩:=bind_some h;obtain ⟨⟨ps,U⟩,C,j⟩:=bind_some j;cases j;obtain ⟨⟨es,t⟩,f,h⟩:=bind_some h;obtain ⟨u,rfl⟩:=bU _ _ _ _ _ _ f rfl;cases h;have:=iD _ _ _ _ _ C;exact ⟨aO r0::ps,U,u,_,f,rfl,rfl,by simpa using this,by rw [if_pos h4];exact ⟨ps,C,rfl⟩⟩
  .rename_i h4;obtain ⟨⟨xs,b⟩,j,h⟩:=bind_some h;obtain ⟨⟨es,t⟩,f,h⟩:=bind_some h;obtain ⟨u,rfl⟩:=bU _ _ _ _ _ _ f rfl;cases h;have:=js j rfl;exact ⟨xs,b,u,_,f,rfl,rfl,by omega,by rw [if_neg h4];exact j⟩
 clear h;obtain ⟨xs,b,u,t,f,rfl,rfl,V,z⟩:=E;have a:Sv PP st T p L x d r0 v rc:=⟨es,w,i ▸ hs,i ▸ D⟩;refine aa.bind (R:=fun c=> ∃v s,c=([v],s)/\Sv PP st s p L x d b v (rc++xs)) ?_ ?_
 .by_cases h4:(nx r0).1=4
  .rw [if_pos h4] at z;obtain ⟨ps,C,rfl⟩:=z;refine aa.step (cy (c:=true) (by rw [h4];rfl) _ _) (aa.step (au _ _) ?_);refine a.app (fH a.pz) rfl rfl (by omega) fun v' s' a=> ?_;refine aa.bind (yh (fun m hm=>ih m (by omega)) hd n _ ps _ b v' s' (NX _) C a (by simp;omega)) ?_;rintro q ⟨W,K,rfl,a⟩;simp only [af,ae];exact aa.some ⟨W,K,rfl,by simpa using a⟩
  .rw [if_neg h4] at z;obtain ⟨X,rfl⟩:=bU _ _ _ _ _ _ z rfl;refine aa.step (cy (c:=false) (NY.2 (by omega)) _ _) (aa.step (ai _ _) ?_);exact a.app ((ih n (NX _)).atom true _ p L x d r0 X b a.pz hd z) rfl rfl (by omega) fun v' s' a=>aa.some ⟨v',s',rfl,a⟩
 .rintro c ⟨v',K,rfl,Y,w,A,F⟩;simp only [af,ae];have Z:=dn N f rfl;refine aa.KC w fun k tk tx y s5 e l w=> ?_;refine aa.node w ((ih n (NX _)).expr _ p L x d _ u r' w.pz hd f) rfl rfl fun k2 av a6 y2 s6 B a7 w=> ?_;refine aa.two e (aa.two B (aa.fit e fun Q g h1 G=>aa.fit B fun z2 H h2 I=>aa.one h1 (aa.step (G _) (aa.one h2 (aa.step (I _) ?_)))));refine aa.app w (by simp) (by rw [bp.len A];simp;omega) fun v5 s7 fx ho w=> ?_;have M:=w.o _ NV;refine aa.some ⟨_,M.1,M.2, ?_, ?_,w.pz,w.k⟩
  .rw [On (rc++xs)];exact bp.app A (uy g H)
  .have:=dU xj b;simp only [bI,aZ] at F ⊢;omega
end
section
variable {β:Type} {Q:β->Prop} {PT:TypeId} {st0 st s:St} {p:Nat} {L:List bo} {x:AV} {d d':Nat} {r r':List bo} {l l1 l2:List Vr} {os:List (AV×List AV)} {t:T}
theorem GU {t:T} {e:AV} (h:fI t e) {β:Type} (K:AV->Option β):Cr true e K=K e:=by
 cases t with
 | mk k tk tx l=>
  simp only [fI] at h;obtain ⟨x,es,rfl,a,_⟩:=h;simp only [Cr,bF,sO,B0,BS,a.ab,DG,EC,E7,a.aJ]
theorem CB {t:T} {e:AV} (h:fI t e):e.cells.length=4:=by
 cases t with
 | mk k tk tx l=>
  simp only [fI] at h;obtain ⟨x,es,rfl,a,_⟩:=h;rfl
theorem bp.mem: ∀{l:List T} {es:List AV},bp l es-> ∀e∈es,∃t∈l,fI t e
 | [],_,h,e,b=>by simp only [bp] at h;subst h;cases b
 | t::l,_,h,e,b=>by
  simp only [bp] at h;obtain ⟨a,r,rfl,h1,c⟩:=h;rcases Oc.1 b with rfl | b
  .exact ⟨t,NV,h1⟩
  .obtain ⟨u,d,hi⟩:=bp.mem c e b;exact ⟨u,N2 _ d,hi⟩
theorem Ba {l:List T} {es:List AV} (h:bp l es) {β:Type} (K:List AV->Option β):lE true es K=K es:=zc (fun v a K=>by
 obtain ⟨t,_,hi⟩:=h.mem v a;exact GU hi K) K
theorem ye {l:List T} {es:List AV} (h:bp l es):nS 4 es=true:=AD fun v a=>by
 obtain ⟨t,_,hi⟩:=h.mem v a;exact CB hi
theorem DM (u:AV) (a o:Nat) (F:FuncId):(bx ([u,AV.mp a o].map strip)&& !vE.full F)=false:=by
 show (bx [strip u,.mp a o]&& _)=false;simp only [bw];show (_&&(false&&true)&& _)=false;simp
theorem Ja (l1:List Vr) {a:Nat} {k tk:Int} {tx:List UInt8} {v:AV} {es:List AV} {ts us:List T} {u:AV} {fs:List AV}
  (w:Wd PT st0 st p L x d r (l1++(a,ND,[.int .u8 k,.int .u8 tk,.str tx,v])::l2) ((v,es)::os)) (e:bp ts es) (i: ∀{γ:Type} (K:List AV->Option γ),jJ u K=K fs) (c:bp us fs) (f:us≠[]) (hl:ts.length+us.length<=100000000):
  aa ((bc vE).wide 105 [u,.mp a 0] st) (fun b=>b.1= .tup []/\ ∃v',Wd PT st0 b.2 p L x d r (l1++(a,ND,[.int .u8 k,.int .u8 tk,.str tx,v'])::l2) ((v',es++fs)::os)):=by
 have j:(a,ND,[AV.int .u8 k,.int .u8 tk,.str tx,v])∈l1++(a,ND,[AV.int .u8 k,.int .u8 tk,.str tx,v])::l2:=List.mem_append_right _ NV;have g:=bp.len c;have l:=bp.len e;have h:fs≠[]:=by
  rintro rfl;cases us with
  | nil=>exact f rfl
  | cons _ _=>cases g
 refine aa.wide (aa.step (Fw _ _ _) ?_);unfold Kw;refine aa.step (cY _ _ _ _) ?_;refine aa.eM j w rfl ?_;refine aa.step (i _) (aa.step (Ba c _) (aa.step (ff (ye c) _) ?_));refine aa.app w h (by omega) fun v' s o ho w=> ?_;refine aa.step (cY _ _ _ _) (aa.one ho (aa.one ho ?_));exact aa.gz l1 w (N4 rfl) fun q m n=>aa.some ⟨rfl,v',n⟩
theorem Gv.add {a b k:Nat} {ts us:List T} {u:AV} {fs:List AV} (h:Gv PT st0 s p L x d r a b k ts) (f: ∀{γ:Type} (K:List AV->Option γ),jJ u K=K fs) (c:bp us fs) (e:us≠[]) (hd:dB us<=1000000000000000) (hl:ts.length+us.length<=100000000) {K:Kv β} (g: ∀s i,Gv PT st0 s p L x d r a b k (ts++us)->aa (K (.tup []) s i) Q):
  aa (aX (bc vE) 105 [u,.mp a 0] s K) Q:=by
 obtain ⟨v,es,w,hs,j⟩:=h;refine aa.lb (Ja [] w hs f c e hl) rfl (DM u a 0 _) fun m l h=> ?_;obtain ⟨rfl,v',w'⟩:=h;exact g l _ ⟨v',_,w',bp.app hs c,by rw [bI];omega⟩
theorem Gv.ky {a b k:Nat} {ts:List T} (h:Gv PT st0 s p L x d r a b k ts) {F:FuncId} {args:List AV} (i:NW PT F args s p L x d t r') (h1:vE.isLook F=false) (j:(bx (args.map strip)&& !vE.full F)=false) (hl:ts.length+1<=100000000) {K:St->Option β} (g: ∀s,Gv PT st0 s p L x d r' a b k (ts++[t])->aa (K s) Q):
  aa (aX (bc vE) F args s fun u s _=>qJ u fun l m tx y=>ab y (ab y (aJ y fun y=>aX (bc vE) 105 [.sl 4 [.agg [.int .u8 l,.int .u8 m,.str tx,y]] .shut,.mp a 0] s fun _ s _=>K s))) Q:=by
 obtain ⟨v,es,w,hs,hd⟩:=h;refine aa.node w i h1 j fun z n o y s f c w'=> ?_;refine aa.two f (aa.fit f fun y' q h1 hf=> ?_);have e:Gv PT st0 s p L x d r' a b k ts:=⟨v,es,w',hs,hd⟩;exact e.add (fun K=>rfl) (iI q) (by simp) (by rw [aZ];exact c) hl fun s A e=>g s e
theorem Gv.cj {a b k:Nat} {ts:List T} (pat:Bool) (h:Gv PP st0 s p L x d r a b k ts) {K:Bool->St->Fx->Option β} (g: ∀s',Gv PP st0 s' p L x d r a b k ts->aa (K (cj pat r) s' ⟨[],.all s s'⟩) Q):
  aa (aX (bc vE) 48 [.mp p 0,.int .u8 (mN pat:Int),.str (mT pat)] s fun v s c=>bG v fun b=>K b s c) Q:=by
 obtain ⟨v,es,w,hs,hd⟩:=h;exact aa.cj pat w fun s' w'=>g s' ⟨v,es,w',hs,hd⟩
theorem wS {n:Nat} (ih: ∀m,m < n->IH m) {a b k:Nat} {c:St} (v:c.h=a) (hd:d<=64): ∀(m:Nat) (ts bs:List T) (r r':List bo) (s:St),m<=n->P m .params d r=some (bs,r')->Gv PP st0 s p L x d r a b k ts->ts.length+m<=100000000->
  aa (aI (pd (.mp p 0) c) ([],s)) (fun q=> ∃s',q=(0,[],s')/\Gv PP st0 s' p L x d r' a b k (ts++bs)):=by
 intro m
 induction m with
 | zero=>intro ts bs r r' s _ h;cases h
 | succ m j=>
  intro ts bs r r' s B h f hl;simp only [P] at h;split at h
  .rename_i l;obtain ⟨⟨C,o⟩,w,h⟩:=bind_some h;obtain ⟨u,rfl⟩:=bU _ _ _ _ _ _ w rfl;obtain ⟨⟨b1,D⟩,z,h⟩:=bind_some h;cases h;have g:aa (pd (.mp p 0) c ([],s)) (fun q=> ∃s',q= .inl ([],s')/\Gv PP st0 s' p L x d o a b k (ts++[u])):=by
    simp only [pd,ae,v];refine f.cj true fun y f=> ?_;rw [l];refine aa.step (au _ _) ?_;exact f.ky ((ih m (by omega)).atom true _ p L x d r u o f.pz hd w) rfl rfl (by omega) fun s' f=>aa.some ⟨s',rfl,f⟩
   obtain ⟨q,e,s',rfl,i⟩:=g;rw [aL e];refine (j _ b1 o _ s' (by omega) z i (by simp;omega)).mono ?_;rintro q ⟨A,rfl,t⟩;exact ⟨A,rfl,by simpa using t⟩
  .rename_i l;cases h;have g:aa (pd (.mp p 0) c ([],s)) (fun q=> ∃s',q= .inr (0,[],s')/\Gv PP st0 s' p L x d r a b k ts):=by
    simp only [pd,ae,v];refine f.cj true fun y f=> ?_;rw [N6 l];exact aa.step (ai _ _) (aa.some ⟨y,rfl,f⟩)
   obtain ⟨q,e,s',rfl,i⟩:=g;exact ⟨_,aC e,s',rfl,by simpa using i⟩
theorem Cf {n:Nat} (ih: ∀m,m < n->IH m) {a b k:Nat} {g:St} (w:g.h=a) (hd:d<=64): ∀(m:Nat) (ts bs:List T) (r r':List bo) (s:St),m<=n->P m .arms d r=some (bs,r')->Gv PP st0 s p L x d r a b k ts->ts.length+2 * m<=100000000->
  aa (aI (pE (.mp p 0) g) ([],s)) (fun q=> ∃s',q=(0,[],s')/\Gv PP st0 s' p L x d r' a b k (ts++bs)):=by
 intro m
 induction m with
 | zero=>intro ts bs r r' s _ h;cases h
 | succ m l=>
  intro ts bs r r' s C h f hl;simp only [P] at h;split at h
  .rename_i o;obtain ⟨⟨D,t⟩,y,h⟩:=bind_some h;obtain ⟨u,rfl⟩:=bU _ _ _ _ _ _ y rfl;obtain ⟨⟨b1,E⟩,A,h⟩:=bind_some h;cases h;have i:aa (pE (.mp p 0) g ([],s)) (fun q=> ∃s',q= .inl ([],s')/\Gv PP st0 s' p L x d t a b k (ts++[aO r]++[u])):=by
    simp only [pE,ae,w];refine f.is fun z f=> ?_;refine aa.step (cy (c:=true) o _ _) (aa.step (au _ _) ?_);refine f.ky (fH f.pz) rfl rfl (by omega) fun s' f=> ?_;exact f.ky ((ih m (by omega)).arm _ p L x d _ u t f.pz hd y) rfl rfl (by simp;omega) fun s' f=>aa.some ⟨s',rfl,f⟩
   obtain ⟨q,e,s',rfl,j⟩:=i;rw [aL e];refine (l _ b1 t _ s' (by omega) A j (by simp;omega)).mono ?_;rintro q ⟨B,rfl,v⟩;exact ⟨B,rfl,by simpa using v⟩
  .rename_i o;cases h;have i:aa (pE (.mp p 0) g ([],s)) (fun q=> ∃s',q= .inr (0,[],s')/\Gv PP st0 s' p L x d r a b k ts):=by
    simp only [pE,ae,w];refine f.is fun z f=> ?_;exact aa.step (cy (c:=false) (N6 o) _ _) (aa.step (ai _ _) (aa.some ⟨z,rfl,f⟩))
   obtain ⟨q,e,s',rfl,j⟩:=i;exact ⟨_,aC e,s',rfl,by simpa using j⟩
def Na (n:Nat) (st s:St) (p:Nat) (L:List bo) (x:AV) (d a b:Nat) (t:T) (r':List bo):Prop:= ∃k ts e c,Gv PP st s p L x d c a b k ts/\P n .expr d c=some ([e],r')/\t=node k (ts++[e])/\ts.length<=50000000
def WR (M:St->Prop) (Q:AV×St->Prop):Sum bR (AV×St)->Prop
 | .inl q=> ∃s,q=([],s)/\M s
 | .inr b=>Q b
def NL (M:St->Prop) (Q:AV×St->Prop):Sum bR (Sum bR (AV×St))->Prop
 | .inl q=> ∃s,q=([],s)/\M s
 | .inr b=>WR M Q b
theorem Ai {n:Nat} (ih: ∀m,m<=n->IH m) (hn:n<=10000000):mK 82 (fun _=>[]) .whole (n+1):=by
 intro st p L x d r t r' Z hd h;have C:dH t<=200000000000000:=by
  have:=Bx (n+1) .whole d r [t] r' h;rw [show gP pc.whole=[] from rfl,aK,aZ] at this;have hq:(n+1) * (n+1)<=10000001 * 10000001:=PC (by omega) (by omega);omega
 simp only [P] at h;refine aa.wide (aa.step (Iq _ _) ?_);unfold M1;refine aa.alloc (Wd.begin Z) fun s0 h0 w=> ?_;refine aa.alloc w fun s1 _ w=> ?_;refine aa.CO w fun s2 w=> ?_;have g:=ih n (NX _);have av:=bz r;refine aa.bind (R:=WR (fun s=>Na n st s p L x d s0.h st.h t r') (NQ PP st p L x d t r')) ?_ ?_
 .split at h
  .rename_i f;obtain ⟨⟨bs,E⟩,l,h⟩:=bind_some h;obtain ⟨⟨es,H⟩,o,h⟩:=bind_some h;obtain ⟨e,rfl⟩:=bU _ _ _ _ _ _ o rfl;cases h;refine aa.step (cy (c:=true) f _ _) (aa.step (au _ _) ?_);refine aa.gz [] w (N4 rfl) fun X _ w=> ?_;have a:Gv PP st X p L x d r s0.h st.h 6 []:=⟨_,_,w.aG,bp.nil,by simp [aK]⟩;refine a.ky (fH a.pz) rfl rfl (by simp) fun j a=> ?_;refine aa.lb (g.binding j p L x d _ bs E a.pz hd l) rfl rfl fun v F hv=> ?_;obtain ⟨es,ho,_,N,O,Q,S⟩:=hv;have D:=lN _ _ _ _ _ l;have a:Gv PP st F p L x d E s0.h st.h 6 ([]++[aO r]):=by
    obtain ⟨v,es,w,hs,hd⟩:=a;exact ⟨v,es,w.move S Q,hs,hd⟩
   refine a.add (fun K=>(wv.own ho).elems K) N D.2 O (by simp;omega) fun T _ a=> ?_;refine a.ky (kg a.pz _) rfl rfl (by simp;omega) fun G a=> ?_;exact aa.some ⟨G,rfl,6,_,e,_,a,o,by simp [On];rfl,by simp;omega⟩
  rename_i f;refine aa.step (cy (c:=false) (N6 f) _ _) (aa.step (ai _ _) ?_);refine aa.CO w fun X w=> ?_;refine aa.bind (R:=NL (fun s=>Na n st s p L x d s0.h st.h t r') (NQ PP st p L x d t r')) ?_ ?_
  .split at h
   .rename_i f;obtain ⟨⟨Y,i⟩,l,h⟩:=bind_some h;obtain ⟨u,rfl⟩:=bU _ _ _ _ _ _ l rfl;obtain ⟨⟨ps,E⟩,o,h⟩:=bind_some h;obtain ⟨⟨es,H⟩,B,h⟩:=bind_some h;obtain ⟨e,rfl⟩:=bU _ _ _ _ _ _ B rfl;cases h;have a6:=iD _ _ _ _ _ o;refine aa.step (cy (c:=true) f _ _) (aa.step (au _ _) ?_);refine aa.gz [] w (N4 rfl) fun j _ w=> ?_;have a:Gv PP st j p L x d r s0.h st.h 7 []:=⟨_,_,w.aG,bp.nil,by simp [aK]⟩;refine a.ky (fH a.pz) rfl rfl (by simp) fun j a=> ?_;refine a.ky (g.atom true _ p L x d _ u i a.pz hd l) rfl rfl (by simp) fun F a=> ?_;refine aa.bind (wS (fun m U=>ih m (by omega)) rfl hd n _ ps _ E F (NX _) o a (by simp;omega)) ?_;rintro q ⟨T,rfl,a⟩;refine aa.step (ae _) ?_;refine a.ky (kg a.pz _) rfl rfl (by simp;omega) fun G a=> ?_;exact aa.some ⟨G,rfl,7,_,e,_,a,B,by simp [On];rfl,by simp;omega⟩
   rename_i f;refine aa.step (cy (c:=false) (N6 f) _ _) (aa.step (ai _ _) ?_);refine aa.CO w fun j w=> ?_;split at h
   .rename_i f;obtain ⟨⟨Y,i⟩,l,h⟩:=bind_some h;obtain ⟨u,rfl⟩:=bU _ _ _ _ _ _ l rfl;obtain ⟨⟨b1,E⟩,o,h⟩:=bind_some h;obtain ⟨v,rfl⟩:=bU _ _ _ _ _ _ o rfl;obtain ⟨⟨es,H⟩,B,h⟩:=bind_some h;obtain ⟨e,rfl⟩:=bU _ _ _ _ _ _ B rfl;cases h;refine aa.step (cy (c:=true) f _ _) (aa.step (au _ _) ?_);refine aa.gz [] w (N4 rfl) fun j _ w=> ?_;have a:Gv PP st j p L x d r s0.h st.h 8 []:=⟨_,_,w.aG,bp.nil,by simp [aK]⟩;refine a.ky (fH a.pz) rfl rfl (by simp) fun j a=> ?_;refine a.ky (g.expr _ p L x d _ u i a.pz hd l) rfl rfl (by simp) fun F a=> ?_;refine a.ky (kg a.pz _) rfl rfl (by simp) fun T a=> ?_;refine a.ky (g.expr _ p L x d _ v E a.pz hd o) rfl rfl (by simp) fun G a=> ?_;refine a.ky (kg a.pz _) rfl rfl (by simp) fun M a=> ?_;exact aa.some ⟨M,rfl,8,_,e,_,a,B,rfl,by simp⟩
   rename_i f;refine aa.step (cy (c:=false) (N6 f) _ _) (aa.step (ai _ _) ?_);refine aa.CO w fun F w=> ?_;split at h
   .rename_i f;obtain ⟨⟨Y,i⟩,l,h⟩:=bind_some h;obtain ⟨u,rfl⟩:=bU _ _ _ _ _ _ l rfl;obtain ⟨⟨b1,H⟩,o,h⟩:=bind_some h;obtain ⟨v,rfl⟩:=bU _ _ _ _ _ _ o rfl;obtain ⟨⟨cs,r4⟩,B,h⟩:=bind_some h;cases h;have a7:=yV _ _ _ _ _ B;refine aa.step (cy (c:=true) f _ _) (aa.step (au _ _) ?_);refine aa.gz [] w (N4 rfl) fun j _ w=> ?_;have a:Gv PP st j p L x d r s0.h st.h 9 []:=⟨_,_,w.aG,bp.nil,by simp [aK]⟩;refine a.ky (fH a.pz) rfl rfl (by simp) fun j a=> ?_;refine a.ky (g.expr _ p L x d _ u i a.pz hd l) rfl rfl (by simp) fun F a=> ?_;refine a.ky (kg a.pz _) rfl rfl (by simp) fun T a=> ?_;refine a.is fun G a=> ?_;refine aa.bind (R:=fun c=> ∃s,c=([],s)/\Gv PP st s p L x d (if bY jD (bL cR i)=true then aT (bL cR i) else bL cR i) s0.h st.h 9 ([aO r]++[u]++[du cR i]++if bY jD (bL cR i)=true then [aO (bL cR i)] else [])) ?_ ?_
    .cases I:bY jD (bL cR i) with
     | true=>
      refine aa.step (cy (c:=true) I _ _) (aa.step (au _ _) ?_);exact a.ky (fH a.pz) rfl rfl (by simp) fun M a=>aa.some ⟨M,rfl,a⟩
     | false=>
      refine aa.step (cy (c:=false) I _ _) (aa.step (ai _ _) ?_);exact aa.some ⟨G,rfl,by rw [if_neg (by simp),if_neg (by simp),ON];exact a⟩
    .rintro c ⟨M,rfl,a⟩;have D:(if bY jD (bL cR i)=true then [aO (bL cR i)] else []).length<=1:=by split <;> simp
     generalize (if bY jD (bL cR i)=true then [aO (bL cR i)] else [])=V at D a C ⊢;refine aa.step (ae _) ?_;refine a.ky (g.arm _ p L x d _ v H a.pz hd o) rfl rfl (by simp;omega) fun s9 a=> ?_;refine aa.bind (Cf (fun m U=>ih m (by omega)) rfl hd n _ cs _ _ s9 (NX _) B a (by simp;omega)) ?_;rintro q ⟨a8,rfl,a⟩;refine aa.step (ae _) ?_;refine a.nd.load fun k tk tx y w z=>aa.two z ?_;refine aa.store [_] w fun W _ w=> ?_;refine aa.bind (R:=fun c=> ∃b,c= .inr b/\NQ PP st p L x d _ _ b) (aa.bind (R:=NQ PP st p L x d (node 9 ([aO r]++[u]++[du cR i]++V++[v]++cs)) _) (aa.dQ (N2 _ NV) w (aa.some ⟨z.vn,Oe C (by omega),w.pz,w.k⟩)) fun b f=>aa.some ⟨b,rfl,f⟩) ?_;rintro c ⟨b,rfl,f⟩;exact aa.some f
   .rename_i f;refine aa.step (cy (c:=false) (N6 f) _ _) (aa.step (ai _ _) ?_);refine aa.node w (g.level 0 (by omega) _ p L x d r t r' w.pz hd h) rfl rfl fun k tk tx y s z J w=>aa.two z ?_;refine aa.store [_] w fun W _ w=> ?_;refine aa.bind (R:=fun c=> ∃b,c= .inr b/\NQ PP st p L x d t r' b) (aa.bind (R:=NQ PP st p L x d t r') (aa.dQ (N2 _ NV) w (aa.some ⟨z.vn,J,w.pz,w.k⟩)) fun b f=>aa.some ⟨b,rfl,f⟩) ?_;rintro c ⟨b,rfl,f⟩;exact aa.some f
  .intro c A
   match c,A with
   | .inl q,A=>
    obtain ⟨s,rfl,U⟩:=A;exact aa.some ⟨s,rfl,U⟩
   | .inr b,A=>exact aa.some A
 .intro c A
  match c,A with
  | .inl q,A=>
   obtain ⟨s,rfl,k,ts,e,H,a,he,rfl,hl⟩:=A;refine aa.step (cN _ _) (aa.step (ae _) ?_);refine a.ky (g.expr _ p L x d _ e r' a.pz hd he) rfl rfl (by omega) fun j a=> ?_;exact a.nd.fin (Oe C (by omega))
  | .inr b,A=>exact aa.some A
theorem JI: ∀n,n<=10000000->IH n:=by
 intro n
 induction n using Nat.strongRecOn with
 | _ n ih=>
  intro e;cases n with
  | zero=>
   refine ⟨?_, ?_,fun k _=> ?_, ?_,fun pat=> ?_,fun list pat=> ?_, ?_, ?_, ?_⟩
   all_goals
    intro st p L x d r t r' _ _ h;cases h
  | succ n=>
   have b: ∀m,m<=n->IH m:=fun m f=>ih m (by omega) (by omega);have i:=b n (NX _);have a:n<=10000000:=by omega
   exact ⟨C8 i,Ai b a,fun k c=>zC b a k c,Ei b a,fun pat=>CI i pat,fun list pat=>yn b a list pat,wg i a,EZ i a,wG b a⟩
end
section
variable {β:Type} {Q:β->Prop} {PT:TypeId} {st0 st s:St} {p:Nat} {L:List bo} {x:AV} {d d':Nat} {r r':List bo} {l l1 l2:List Vr} {os:List (AV×List AV)} {t:T}
abbrev TO:TypeId:=24
theorem _root_.Go.VM.aa.renew {tk:Nat} {a:Int} {b:List UInt8} (w:Wd PP st0 st p L x d r l os) (m:(tk,TO,[.int .u8 a,.str b])∈l) {K:St->Option β} (g: ∀s',Wd PP st0 s' p L x d r ((st.h,TO,[.int .u8 ((nx r).1:Int),.str (nx r).2])::l) os->aa (K s') Q):
  aa (ax 2 true (.mp tk 0) st fun v _=>yF v fun cs=>br cs fun u cs=>bg .u8 u fun n=>br cs fun u cs=>dV u fun tx=>bE cs (ba (St.add st (.cells TO [.int .u8 0,.str []])) fun c=>bn (bc vE) 2 (.mp (St.h st) 0) (.agg [.int .u8 n,.str tx]) [.int .u8 n,.str tx] c fun _ f _=>
   aX (bc vE) 27 [.mp p 0] f fun v s _=>fU v fun vs=>cC vs 0 fun u=>yF u fun cs=>br cs fun a cs=>bg .u8 a fun n=>br cs fun b cs=>dV b fun tx=>bE cs (fU v fun vs=>cC vs 1 fun u=>bg .i64 u fun _=>bn (bc vE) 2 (.mp (St.h st) 0) (.agg [.int .u8 n,.str tx]) [.int .u8 n,.str tx] s fun _ s' _=>K s'))) Q:=by
 refine aa.xr m w ?_;simp only [bF,af,ah,aA,ae];refine aa.alloc w fun c _ w1=>aa.store [] w1 fun f _ j=> ?_;obtain ⟨i,h,rfl⟩:=j.pz;obtain ⟨t,k,e⟩:=jP h;refine aa.step (e _) ?_;simp only [ch,bA,bM,bF,af,ah,aA,ae];exact aa.store [] (j.quiet k) fun o _ q=>g o q
theorem lD {a b:Nat} (h:a≠b):((a:Int) != (b:Int))=true:=by
 rw [bne,NY.2 (show (a:Int)≠(b:Int) by omega)];rfl
theorem Cq {f:bR} {kc:Nat} (D:f.2.h=kc): ∀(m:Nat) (r:List bo) (tk:Nat) (ts:List T) (es:List AV) (v:AV) (s:St) (os:List (AV×List AV)),
  Wd PP st0 s p L x d r ([(tk,TO,[.int .u8 ((nx r).1:Int),.str (nx r).2])]++(kc,ND,[.int .u8 3,.int .u8 0,.str [],v])::l2) ((v,es)::os)->bp ts es->dB ts<=2->ts.length+m<=100000000->r.length<=m->
  aa (aI (lW (.mp p 0) f) ([.mp tk 0],s)) (fun q=> ∃s' v' t,q=(0,[],s')/\Wd PP st0 s' p L x d (skip m r).2 ((kc,ND,[.int .u8 3,.int .u8 0,.str [],v'])::l2) ((v',t)::os)/\bp (ts++(skip m r).1) t/\dB (ts++(skip m r).1)<=2):=by
 intro m
 induction m with
 | zero=>
  intro r tk ts es v s os w j l hl E;obtain rfl:r=[]:=Oo (by omega);simp only [skip,ON];have g:aa (lW (.mp p 0) f ([.mp tk 0],s)) (fun q=>q= .inr (0,[],s)):=by
   simp only [lW,af,ae];refine aa.bind (R:=fun c=>c=([.bool false],s)) ?_ ?_
   .refine aa.step (cY _ _ _ _) ?_;refine aa.eM (NV) w rfl (aa.step (ah _ _ _) ?_);exact aa.some rfl
   .rintro c rfl;exact aa.some rfl
  obtain ⟨q,e,rfl⟩:=g;exact ⟨_,aC e,s,v,es,rfl,w.sub (List.Sublist.cons _ (Pg _)),j,l⟩
 | succ m u=>
  intro r tk ts es v s os w j l hl E;by_cases a:(nx r).1≠0/\bY ku r=false
  .have g:aa (lW (.mp p 0) f ([.mp tk 0],s)) (fun q=> ∃k s' v' e,q= .inl ([.mp k 0],s')/\Wd PP st0 s' p L x d (aT r) ([(k,TO,[.int .u8 ((nx (aT r)).1:Int),.str (nx (aT r)).2])]++(kc,ND,[.int .u8 3,.int .u8 0,.str [],v'])::l2) ((v',es++[e])::os)/\bp (ts++[aO r]) (es++[e])):=by
    simp only [lW,af,ae,D];refine aa.bind (R:=fun c=> ∃s',c=([.bool true],s')/\Wd PP st0 s' p L x d r ([(tk,TO,[.int .u8 ((nx r).1:Int),.str (nx r).2])]++(kc,ND,[.int .u8 3,.int .u8 0,.str [],v])::l2) ((v,es)::os)) ?_ ?_
    .refine aa.step (cY _ _ _ _) ?_;refine aa.eM (NV) w rfl (aa.step (ah _ _ _) ?_);refine aa.step (cy (c:=true) (lD (b:=0) a.1) _ _) (aa.step (au _ _) ?_);refine aa.CO w fun o w=> ?_;exact aa.some ⟨o,by rw [show bY [108,101,116] r=false from a.2];rfl,w⟩
    .rintro c ⟨o,rfl,w⟩;simp only [af,ae,ar,au];refine aa.grow [_] w (fH w.pz) rfl rfl j (by omega) (by omega) fun v' e C i _ w=> ?_;refine aa.renew w (tk:=tk) NV fun F w=> ?_;refine aa.some ⟨_,F,v',e,rfl,w.sub ?_,i⟩;exact List.Sublist.cons_cons _ (List.Sublist.cons _ (Pg _))
   obtain ⟨q,e,k,s',v',J,rfl,w',i⟩:=g;rw [aL e];have G:=dI a.1;have n:skip (m+1) r=(aO r::(skip m (aT r)).1,(skip m (aT r)).2):=by
    simp only [skip];rw [if_pos a]
   rw [n];refine (u (aT r) k _ _ v' s' os w' i ?_ (by simp;omega) (by omega)).mono ?_
   .have:=bz r;rw [bI,aZ];omega
   .rintro q ⟨C,H,y,rfl,I,z,A⟩;exact ⟨C,H,y,rfl,I,by simpa using z,by simpa using A⟩
  .have n:skip (m+1) r=([],r):=by
    simp only [skip];rw [if_neg a]
   rw [n,ON];have g:aa (lW (.mp p 0) f ([.mp tk 0],s)) (fun q=> ∃s',q= .inr (0,[],s')/\Wd PP st0 s' p L x d r ([(tk,TO,[.int .u8 ((nx r).1:Int),.str (nx r).2])]++(kc,ND,[.int .u8 3,.int .u8 0,.str [],v])::l2) ((v,es)::os)):=by
    simp only [lW,af,ae];refine aa.bind (R:=fun c=> ∃s',c=([.bool false],s')/\Wd PP st0 s' p L x d r ([(tk,TO,[.int .u8 ((nx r).1:Int),.str (nx r).2])]++(kc,ND,[.int .u8 3,.int .u8 0,.str [],v])::l2) ((v,es)::os)) ?_ ?_
    .refine aa.step (cY _ _ _ _) ?_;refine aa.eM (NV) w rfl (aa.step (ah _ _ _) ?_);by_cases h0:(nx r).1=0
     .rw [h0];exact aa.some ⟨s,rfl,by rw [h0] at w;exact w⟩
     .have B:bY ku r=true:=by
       cases B:bY ku r with
       | true=>rfl
       | false=>exact absurd ⟨h0,B⟩ a
      refine aa.step (cy (c:=true) (lD (b:=0) h0) _ _) (aa.step (au _ _) ?_);refine aa.CO w fun o w=> ?_;exact aa.some ⟨o,by rw [show bY [108,101,116] r=true from B];rfl,w⟩
    .rintro c ⟨o,rfl,w⟩;exact aa.some ⟨o,rfl,w⟩
   obtain ⟨q,e,s',rfl,w'⟩:=g;exact ⟨_,aC e,s',v,es,rfl,w'.sub (List.Sublist.cons _ (Pg _)),j,l⟩
theorem xP (n:Nat) (r:List bo):dB (skip n r).1<=2:=by
 induction n generalizing r with
 | zero=>simp [skip,aK]
 | succ n ih=>
  simp only [skip];split
  .have:=bz r;have:=ih (aT r);simp only [bf];omega
  .simp [aK]
theorem tW {s0:St} {a b:Nat} (ha:s0.h=a): ∀(N:Nat) (r:List bo) (D:List T) (tk:Nat) (ts:List T) (es:List AV) (v:AV) (s:St),N<=10000000->decls N r=some D->r.length<=1000000->
  Wd PP st0 s p L x 0 r ([(tk,TO,[.int .u8 ((nx r).1:Int),.str (nx r).2])]++(a,ND,[.int .u8 4,.int .u8 0,.str [],v])::[(b,ND,z4)]) [(v,es)]->bp ts es->dB ts<=500000000000000->ts.length+N<=90000000->
  aa (aI (nD (.mp p 0) s0) ([.mp tk 0],s)) (fun q=> ∃s' K A,q=(0,[],s')/\D=A++[aO K]/\Gv PP st0 s' p L x 0 K a b 4 (ts++A)/\(ts++A).length<=90000000/\dB (ts++A)<=500000000000000):=by
 intro N
 induction N with
 | zero=>intro r D tk ts es v s _ h;cases h
 | succ n O=>
  intro r D tk ts es v s M h b5 w t P hl;simp only [decls] at h;split at h
  .rename_i h0;cases h;have S:aa (nD (.mp p 0) s0 ([.mp tk 0],s)) (fun q=>q= .inr (0,[],s)):=by
    simp only [nD,af,ae];refine aa.step (cY _ _ _ _) ?_;refine aa.eM (NV) w rfl (aa.step (ah _ _ _) ?_);rw [h0];exact aa.some rfl
   obtain ⟨q,e,rfl⟩:=S;exact ⟨_,aC e,s,r,[],rfl,rfl,⟨v,es,w.sub (List.Sublist.cons _ (Pg _)),by simpa using t,by rw [ON];omega⟩,by simp;omega,by rw [ON];exact P⟩
  .rename_i h0;have U: ∃(u:T) (f:List bo) (o:List T),decls n f=some o/\D=u::o/\dH u<=300000000000000/\f.length<=r.length/\
     aa (nD (.mp p 0) s0 ([.mp tk 0],s)) (fun q=> ∃i s' v' e,q= .inl ([.mp i 0],s')/\Wd PP st0 s' p L x 0 f ([(i,TO,[.int .u8 ((nx f).1:Int),.str (nx f).2])]++(a,ND,[.int .u8 4,.int .u8 0,.str [],v'])::[(b,ND,z4)]) [(v',es++[e])]/\fI u e):=by
    have back: ∀(kc:Nat) (k:Nat) (u:T) (f:List bo) (g:St) (m:AV),Nd u k 0 [] m->
      Wd PP st0 g p L x 0 f ((kc,ND,[.int .u8 (k:Int),.int .u8 0,.str [],m])::(tk,TO,[.int .u8 ((nx r).1:Int),.str (nx r).2])::(a,ND,[.int .u8 4,.int .u8 0,.str [],v])::[(b,ND,z4)]) [(v,es)]->
      aa (ax 1 false (.mp a 3) g fun E _=>ax 4 true (.mp kc 0) g fun v168 _=>qJ v168 fun n1 n2 tx y=>ab y (ab y (aJ y fun y=>ab y (aJ y fun y=>cq 4 56 ND E [.agg [.int .u8 n1,.int .u8 n2,.str tx,y]] g fun j B _=>ab j (ab j (bn (bc vE) 1 (.mp a 3) j [j] B fun _ C _=>
       ax 2 true (.mp tk 0) C fun v _=>yF v fun cs=>br cs fun u cs=>bg .u8 u fun n=>br cs fun u cs=>dV u fun tx=>bE cs (ba (St.add C (.cells TO [.int .u8 0,.str []])) fun V=>bn (bc vE) 2 (.mp (St.h C) 0) (.agg [.int .u8 n,.str tx]) [.int .u8 n,.str tx] V fun _ F _=>
        aX (bc vE) 27 [.mp p 0] F fun v s _=>fU v fun vs=>cC vs 0 fun u=>yF u fun cs=>br cs fun a cs=>bg .u8 a fun n=>br cs fun b cs=>dV b fun tx=>bE cs (fU v fun vs=>cC vs 1 fun u=>bg .i64 u fun _=>bn (bc vE) 2 (.mp (St.h C) 0) (.agg [.int .u8 n,.str tx]) [.int .u8 n,.str tx] s fun _ s' _=>some (Sum.inl (β:=Nat×bR) ([AV.mp (St.h C) 0],s'))))))))))
       (fun q=> ∃i s' v' e,q= .inl ([.mp i 0],s')/\Wd PP st0 s' p L x 0 f ([(i,TO,[.int .u8 ((nx f).1:Int),.str (nx f).2])]++(a,ND,[.int .u8 4,.int .u8 0,.str [],v'])::[(b,ND,z4)]) [(v',es++[e])]/\fI u e):=by
     intro kc k u f g m d w;refine aa.eM (a:=a) (N2 _ (N2 _ NV)) w rfl ?_;refine aa.dQ (NV) w ?_;refine aa.two d (aa.fit d fun y' M h1 hf=>aa.one h1 (aa.step (hf _) (aa.app w (by simp) (by rw [bp.len t];simp;omega) fun v' B _ ho w=> ?_)));refine aa.one ho (aa.one ho (aa.gz [_,_] w (N4 rfl) fun C _ w=> ?_));refine aa.renew w (tk:=tk) (N2 _ NV) fun s8 w=> ?_;refine aa.some ⟨_,s8,v',_,rfl,w.sub ?_,M⟩;exact List.Sublist.cons_cons _ (List.Sublist.cons _ (List.Sublist.cons _ (Pg _)))
    split at h
    .rename_i W;obtain ⟨⟨bs,f⟩,G,h⟩:=bind_some h;obtain ⟨o,H,h⟩:=bind_some h;cases h;have b6:=ry (by omega:n<=10000000) G rfl;have X:=lN _ _ _ _ _ G;have b7:=bz r;refine ⟨_,f,o,H,rfl,by simp only [bk,bf];omega, ?_, ?_⟩
     .have:=Hk (Q:=fun q=>q.length<=r.length) (fun q hq=>Oe (fA q) hq) _ _ _ _ _ _ G (fA r);exact this
     simp only [nD,af,ae,ha];refine aa.step (cY _ _ _ _) ?_;refine aa.eM (NV) w rfl (aa.step (ah _ _ _) ?_);refine aa.step (cy (c:=true) (lD (b:=0) h0) _ _) (aa.step (au _ _) ?_);refine aa.alloc w fun V _ w=> ?_;refine aa.CO w fun F w=> ?_;refine aa.bind (R:=fun c=> ∃g m,c=([],g)/\Nd (node 5 (aO r::bs)) 5 0 [] m/\Wd PP st0 g p L x 0 f ((s.h,ND,[.int .u8 ((5:Nat):Int),.int .u8 0,.str [],m])::(tk,TO,[.int .u8 ((nx r).1:Int),.str (nx r).2])::(a,ND,[.int .u8 4,.int .u8 0,.str [],v])::[(b,ND,z4)]) [(v,es)]) ?_ ?_
     .refine aa.step (cy (c:=true) W _ _) (aa.step (au _ _) ?_);refine aa.take w fun k i tx y s3 d a8 w=> ?_;refine aa.two d (aa.fit d fun z1 Y _ _=> ?_);refine aa.lb ((JI n (by omega)).binding s3 p L x 0 _ bs f w.pz (by omega) G) rfl rfl fun v4 s4 hv=> ?_;obtain ⟨b8,ho,_,l,bb,Z,av⟩:=hv;have w4:=w.move av Z;refine aa.step ((wv.own ho).elems _) (aa.step (Ba l _) (aa.step (ff (ye l) _) ?_));have z:=bp.len l;refine aa.app (w4.shut (es:=[_]) (by simp)) (by
       intro e;rw [e] at z;exact X.2 (Oo z.symm)) (by rw [z];simp;omega) fun v5 g _ I w5=> ?_
      refine aa.one I (aa.one I ?_);refine aa.store [] w5 fun B _ J=> ?_;exact aa.some ⟨B,v5,rfl,⟨⟨_,_,rfl,J.ET,bp.cons Y l⟩⟩,J.drop⟩
     .rintro c ⟨g,m,rfl,d,w⟩;refine aa.step (ae _) ?_;exact back s.h 5 _ f g m d w
    .rename_i W;obtain ⟨o,H,h⟩:=bind_some h;cases h;refine ⟨_,_,o,H,rfl,by have:=xP r.length r;simp only [bk];omega,qX _ _, ?_⟩;simp only [nD,af,ae,ha];refine aa.step (cY _ _ _ _) ?_;refine aa.eM (NV) w rfl (aa.step (ah _ _ _) ?_);refine aa.step (cy (c:=true) (lD (b:=0) h0) _ _) (aa.step (au _ _) ?_);refine aa.alloc w fun V _ w=> ?_;refine aa.CO w fun F w=> ?_;refine aa.bind (R:=fun c=> ∃g m,c=([],g)/\Nd (node 3 (skip r.length r).1) 3 0 [] m/\Wd PP st0 g p L x 0 (skip r.length r).2 ((s.h,ND,[.int .u8 ((3:Nat):Int),.int .u8 0,.str [],m])::(tk,TO,[.int .u8 ((nx r).1:Int),.str (nx r).2])::(a,ND,[.int .u8 4,.int .u8 0,.str [],v])::[(b,ND,z4)]) [(v,es)]) ?_ ?_
     .refine aa.step (cy (c:=false) (N6 W) _ _) (aa.step (ai _ _) ?_);refine aa.gz [] w (N4 rfl) fun s3 _ w=> ?_;refine aa.next w fun s4 g w=> ?_;refine aa.bind (Cq (kc:=s.h) rfl r.length r _ [] [] .aG g _ w.aG bp.nil (by simp [aK]) (by simp;omega) (NX _)) ?_;rintro q ⟨B,v6,b9,rfl,J,a1,cc⟩;refine aa.step (ae _) ?_;exact aa.some ⟨B,v6,rfl,⟨⟨_,_,rfl,J.ET,by simpa using a1⟩⟩,J.drop⟩
     .rintro c ⟨g,m,rfl,d,w⟩;refine aa.step (ae _) ?_;exact back s.h 3 _ _ g m d w
   obtain ⟨u,f,o,H,rfl,cd,b4,q,e,i,s',v',G,rfl,w',M⟩:=U;rw [aL e];refine (O f o i (ts++[u]) _ v' s' (by omega) H (by omega) w' (bp.app t (iI M)) (by rw [bI,aZ];omega) (by simp;omega)).mono ?_;rintro q ⟨F,K,A,rfl,rfl,hg,a6,a7⟩;exact ⟨F,K,u::A,rfl,rfl,by simpa using hg,by simpa using a6,by simpa using a7⟩
theorem wY {r:List bo} (h:r.length<=70000):fuel r<=10000000:=by unfold fuel;omega
theorem ya {i:Nat} (h:PS st p L x i 0) (hi:i=0) (hL:L.length<=70000):aa ((bc vE).wide 13 [.mp p 0] st) (fun b=>VN (doc L) b.1/\dH (doc L)<=1000000000000000/\aV st b.2 (· =p)):=by
 subst hi;obtain ⟨D,g,a⟩:=Bz L;refine aa.wide (aa.step (Ih _ _) ?_);unfold MN;have w:=Wd.start h;rw [N7] at w;refine aa.alloc w fun s0 _ w=> ?_;refine aa.alloc w fun l _ w=> ?_;refine aa.store [] w fun m _ w=> ?_;refine aa.next w fun n j w=> ?_;have hf:=wY hL;refine aa.bind (tW rfl (fuel L) L D _ [] [] .aG j hf g (by omega) w.aG bp.nil (by rw [aK];omega) (by simp;omega)) ?_;rintro q ⟨o,f,k,rfl,rfl,c,hl,hd⟩;refine aa.step (ae _) ?_;rw [O3] at c hl hd;refine c.grow (fH c.pz) rfl rfl (by omega) fun r c=> ?_;rw [a];have d:dH (node 4 (k++[aO f]))<=1000000000000000:=by
  have:=bz f;simp only [bk,bI,aZ];omega
 refine (c.nd.fin d).mono fun b e=>⟨e.1,e.2.1,e.2.2.2⟩
end
end Go.Proofs.YtpinfliihpdjcaaGreatDoor.Vm
namespace Go.Proofs.YtpinfliihpdjcaaGreatDoor.Vm
open Go Go.VM Go.Proofs Go.Lex
theorem AG (s:List UInt8): ∃x,(bc vE).bare 12 [.str s]=some (.tup [x,.int .i64 (qj s)])/\cb 2 x (if qj s=0 then (tokens s).map tok else []):=by
 by_cases h1:65536 < s.length
 .have e:qj s=40:=by unfold qj;rw [if_pos h1]
  exact ⟨.aG,by rw [e];exact vR h1,by rw [e];exact cb.aG⟩
 .cases a:dN s with
  | false=>
   have e:qj s=4:=by unfold qj;rw [if_neg h1,a];rfl
   exact ⟨.aG,by rw [e];exact xk (by omega) a,by rw [e];exact cb.aG⟩
  | true=>
   obtain ⟨x,b,h⟩:=Ca (by omega) a;have e:qj s=0:=I2 (by omega) a;exact ⟨x,by rw [e];exact b,by rw [e];exact h⟩
end Go.Proofs.YtpinfliihpdjcaaGreatDoor.Vm
namespace Go.Proofs.YtpinfliihpdjcaaGreatDoor.Vm
open Go Go.VM Go.Proofs Go.Lex Go.Parse
theorem vq {t:T} {k tk:Nat} {tx:List UInt8} {y:AV} (h:Nd t k tk tx y): ∃y',fI t (.agg [.int .u8 (k:Int),.int .u8 (tk:Int),.str tx,y'])/\ ∀(st:St) (n:Nat),VM.freeze st 0 (n+2) (.agg [.int .u8 (k:Int),.int .u8 (tk:Int),.str tx,y])= .ok (.agg [.int .u8 (k:Int),.int .u8 (tk:Int),.str tx,y']):=by
 obtain ⟨l,es,rfl,f,a⟩:=h.ex;rcases f with b | ⟨hl,j,rfl⟩
 .refine ⟨y,by simp only [fI];exact ⟨y,es,rfl,b,a⟩,fun st n=> ?_⟩;refine Jx (d:=1) (fun c e=> ?_) st 0 (n+2) (by omega);simp only [Oc,PH,or_false] at e;rcases e with rfl | rfl | rfl | rfl
  .exact tg _ _
  .exact tg _ _
  .exact IM _
  .exact K9 b
 .exact ⟨.sl 4 es .wide,by simp only [fI];exact ⟨_,es,rfl,cb.wide hl,a⟩,fun st n=>rfl⟩
theorem eW {t:T} {v:AV} (h:fI t v):VM.bare v=true/\VM.strip v=v:=by
 cases t with
 | mk k tk tx l=>
  simp only [fI] at h;obtain ⟨x,es,rfl,a,_⟩:=h;refine ⟨?_,rfl⟩;rw [EO];simp only [bw,a.bare];rfl
theorem CV (s:List UInt8):(qj s=0/\(65536 < s.length)=False/\dN s=true)\/(qj s=40/\65536 < s.length)\/(qj s=4/\¬ 65536 < s.length/\dN s=false):=by
 unfold qj;by_cases h:65536 < s.length
 .rw [if_pos h];exact .inr (.inl ⟨rfl,h⟩)
 .rw [if_neg h];cases a:dN s with
  | true=>exact .inl ⟨rfl,by simp [h],rfl⟩
  | false=>exact .inr (.inr ⟨rfl,h,rfl⟩)
def dT (s:List UInt8):T:=if qj s=0 then doc (tokens s) else .mk 0 0 [] []
theorem lB {t:T} {k tk:Nat} {tx:List UInt8} {y:AV} (h:Nd t k tk tx y) (n:Int): ∃v,fI t v/\ ∀{β:Type} (st:St) (K:AV->Option β),kQ st 0 (.tup [.agg [.int .u8 (k:Int),.int .u8 (tk:Int),.str tx,y],.int .i64 n]) K=K (.tup [v,.int .i64 n]):=by
 obtain ⟨y',a,hf⟩:=vq h;refine ⟨_,a,fun st K=>Gn (uk (hf st 97) (uk (by exact tg _ _ st 0 99 (by omega)) Du)) ?_ K⟩;simp only [bw,(eW a).1];rfl
theorem vO:Nd (.mk 0 0 [] []) 0 0 [] .aG:=⟨⟨[],[],rfl,.inl cb.aG,bp.nil⟩⟩
theorem EX (s:List UInt8): ∃v,fI (dT s) v/\dH (dT s)<=1000000000000000/\(bc vE).bare 5 [.str s]=some (.tup [v,.int .i64 (qj s)]):=by
 obtain ⟨x,e,d⟩:=AG s;have c: ∀{β:Type} (st:St) (K:Kv β),aX (bc vE) 12 [.str s] st K=K (.tup [x,.int .i64 (qj s)]) st q0:=fun st K=>aM st K rfl rfl rfl e;have key:aa (bT vE 5 [.str s]) (fun b=> ∃v,b= .tup [v,.int .i64 (qj s)]/\fI (dT s) v/\dH (dT s)<=1000000000000000):=by
  refine aa.step (Ko _) ?_;unfold g5;generalize a:St.mk 1 0 (Tr.node (some (VM.Obj.cells ND z4)) Tr.leaf Tr.leaf)=st;have q:st.get 0= .ok (.cells ND z4):=by rw [<- a];rfl
  have F:st.h=1:=by rw [<- a]
  have j:st.ro=0:=by rw [<- a]
  refine aa.step (aA _ _) (aa.step (c _ _) ?_);simp only [ch,bA,bM,ah];by_cases h0:qj s=0
  .rw [h0] at d ⊢;rw [if_pos rfl] at d;have l:dT s=doc (tokens s):=by unfold dT;rw [if_pos h0]
   rw [l];refine aa.step (ai _ _) (aa.step (iX d.one _) (aa.step (iX d.one _) ?_));rw [ef];have hl:=(r5 h0).1;have t:=vA s;generalize g:st.add (VM.Obj.cells PP [x,.int .i64 0,.int .i64 0])=st1;have m:aV st st1 (fun _=>False):=by rw [<- g];exact aV.add _ _ _
   have u:st1.get st.h= .ok (.cells PP [x,.int .i64 ((0:Nat):Int),.int .i64 ((0:Nat):Int)]):=by rw [<- g];exact St.en
   have z:PS st1 st.h (tokens s) x 0 0:=⟨u,d,O4 _,by omega,by rw [m.ro,j];omega⟩;refine aa.lb (ya z rfl (by omega)) rfl rfl fun v A n=> ?_;obtain ⟨n,hd,r⟩:=n;have B:A.get 0= .ok (.cells ND z4):=r.vg (by omega) (m.old _ _ (fun f=>f) q);obtain ⟨k,tk,tx,y,rfl,i⟩:=n.cells;refine aa.step (ib ..) (aa.two i ?_);obtain ⟨C,g3,_,_,D,o⟩:=LP B rfl (k:Int) (tk:Int) tx y (by rw [r.ro,m.ro,j];omega);refine aa.step (o _) (aa.step (bh g3 _ _ _ _) (aa.step (ak _ _) (aa.step (ib ..) ?_)));obtain ⟨w,p,hf⟩:=lB i 0;exact aa.step (hf _ _) (aa.some ⟨w,rfl,p,hd⟩)
  .have l:dT s= .mk 0 0 [] []:=by unfold dT;rw [if_neg h0]
   rw [l];refine aa.step (cy (c:=true) (by simpa using h0) _ _) (aa.step (au _ _) ?_);obtain ⟨C,g3,_,_,D,o⟩:=LP q rfl 0 0 [] .aG (by rw [j];omega);refine aa.step (o _) (aa.step (bh g3 _ _ _ _) (aa.step (ak _ _) (aa.step (ib ..) ?_)));obtain ⟨w,p,hf⟩:=lB vO (qj s);exact aa.step (hf _ _) (aa.some ⟨w,rfl,p,by simp [dH,dB]⟩)
 obtain ⟨b,e,v,rfl,h1,E⟩:=key;exact ⟨v,h1,E,aY rfl e⟩
section
variable {β:Type} {Q:β->Prop} {st:St} {t:T}
theorem jR {t:T} {v:AV} (h:fI t v): ∃(k tk:Nat) (tx:List UInt8) (l:List T) (x:AV) (es:List AV),t= .mk k tk tx l/\v= .agg [.int .u8 (k:Int),.int .u8 (tk:Int),.str tx,x]/\cb 4 x es/\bp l es:=by
 cases t with
 | mk k tk tx l=>
  simp only [fI] at h;obtain ⟨x,es,rfl,a,hs⟩:=h;exact ⟨k,tk,tx,l,x,es,rfl,rfl,a,hs⟩
theorem bp.at: ∀{l:List T} {es:List AV} {k:Nat} {t:T},bp l es->l[k]? =some t-> ∃e,es[k]? =some e/\fI t e
 | [],_,_,_,_,b=>by simp at b
 | t::l,_,0,_,h,b=>by
  simp only [bp] at h;obtain ⟨a,r,rfl,h1,c⟩:=h;obtain rfl:t= _:=by simpa using b
  exact ⟨a,rfl,h1⟩
 | t::l,_,k+1,t',h,b=>by
  simp only [bp] at h;obtain ⟨a,r,rfl,h1,c⟩:=h;obtain ⟨e,d,hi⟩:=bp.at (k:=k) (t:=t') c (by simpa using b);exact ⟨e,by simpa using d,hi⟩
theorem wF {l:List T} {x:AV} {es:List AV} {k:Nat} (d:cb 4 x es) (hs:bp l es) (f:l[k]? =some t): ∃(a b:Nat) (s:List UInt8) (y:AV),fI t (.agg [.int .u8 (a:Int),.int .u8 (b:Int),.str s,y])/\ ∀{β:Type} (st:St) (K:Int->Int->List UInt8->AV->Option β),(fc 4 x (k:Int) st fun u _=>ax 4 true u st fun u _=>qJ u K)=K (a:Int) (b:Int) s y:=by
 obtain ⟨e,g,c⟩:=hs.at f;obtain ⟨a,b,s,j,y,h,rfl,rfl,hy,i⟩:=jR c;refine ⟨a,b,s,y,c,fun st K=> ?_⟩;rw [d.idx g,Dj,cO,wa,ak,ib]
theorem T.ind {a:T->Prop} (h: ∀k tk tx l,(∀t∈l,a t)->a (.mk k tk tx l)): ∀t,a t:=by
 intro t;have key: ∀n (t:T),SizeOf.sizeOf t < n->a t:=by
  intro n
  induction n with
  | zero=>intro t b;omega
  | succ n ih=>
   intro t b;cases t with
   | mk k tk tx l=>
    refine h k tk tx l fun u c=>ih u ?_;have:=List.sizeOf_lt_of_mem c;simp only [T.mk.sizeOf_spec] at b;omega
 exact key _ t (Pj _)
end
end Go.Proofs.YtpinfliihpdjcaaGreatDoor.Vm
