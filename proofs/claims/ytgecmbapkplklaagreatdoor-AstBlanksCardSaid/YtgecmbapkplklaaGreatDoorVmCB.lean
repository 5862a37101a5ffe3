/-
  (A part of the proof: Env, F, LexA, LexB, LexC, LexD, TokEq, ParseA, ParseB, ParseN, ParseC, ParseD, ParseE, ParseF, ParseG, ParseH, ParseI, ParseJ, ParseK, ParseL, ParseM, TokAny, ParseO.)
-/
import Derived.Test.YtgecmbapkplklaaGreatDoorVmAA
import Derived.Test.YtgecmbapkplklaaGreatDoorVmBC
import Derived.Test.YtgecmbapkplklaaGreatDoorVmBJ
import Derived.Test.YtgecmbapkplklaaGreatDoorVmCA
import Derived.Test.YtgecmbapkplklaaGreatDoorVmBG
import Derived.Test.YtgecmbapkplklaaGreatDoorVmBE
import Derived.Test.YtgecmbapkplklaaGreatDoorVmAJ
import Derived.Test.YtgecmbapkplklaaGreatDoorVmBF
import Derived.Test.YtgecmbapkplklaaGreatDoorRows
import Derived.KernelRfl
set_option maxRecDepth 1000000
set_option maxHeartbeats 0
set_option linter.unusedSimpArgs false
namespace Go.Proofs.YtgecmbapkplklaaGreatDoor.Vm
open Go Go.VM Go.Proofs
abbrev tE {α:Type}:Tr α:= .node none .leaf .leaf
abbrev WN:TI:=⟨.func,1,8,[.nilfn],false,false⟩
abbrev WO (t:TypeId):TI:=⟨(.ptr t),1,8,[.nilp],false,false⟩
abbrev WQ (t:TypeId):TI:=⟨(.slice t),1,24,[.ay],false,false⟩
noncomputable def vT:TT:=Tr.of 8 (MZ Tryz.prog)
theorem S5:wW Tryz.prog vT:=S7 (d:=8) rfl
def WD:List Nat:=[3,4,5,6,7,8,9,10,11,12,13,14,15,16,17,18,19,20,21,22,23,24,25,26,27,28,29,30,31,32,33,34,35,36,37,38,39,40,41,42,43,44,45,46,47,48,49,50,51,52,53,54,55,56,57,58,59,60,61,62,63,64,65,66,67,68,69,70,71,72,73,74,75,76,77,78,80,81,82,84,85,86,87,88,89,90,91,92,93,94,95,96,97,98,99,100,101,102,103,104,105,106,107,110,111,114,115,117,118,119,120,121,122,123,125,126,127,128,142,143,144,145,147,155,156,158,165,166]
noncomputable def vF:Tr Func:=Tr.of 8 (J7 Tryz.prog WD)
theorem T3: ∀f fn,vF.get f=some fn->Ug Tryz.prog f fn:=Pl (by kernel_rfl)
noncomputable def vP:List (Nat×Prim):=[(79,(.lib lV)),(83,(.lib (jn 164))),(109,(.lib gZ)),(116,(.lib jS)),(124,(.builderString 5)),(140,.indexByte),(146,(.copyCheck [(145,2,0),(146,2,0)]))]
noncomputable def vG:Tr (List AV):=(.node (some (List.replicate 128 (.int .u8 240)++List.replicate 66 (.int .u8 241)++List.replicate 30 (.int .u8 2)++[.int .u8 19]++List.replicate 12 (.int .u8 3)++[.int .u8 35,.int .u8 3,.int .u8 3,.int .u8 52,.int .u8 4,.int .u8 4,.int .u8 4,.int .u8 68]++List.replicate 11 (.int .u8 241))) (.node (some ([.int .u8 128,.int .u8 191,.int .u8 160,.int .u8 191,.int .u8 128,.int .u8 159,.int .u8 144,.int .u8 191,.int .u8 128,.int .u8 143]++List.replicate 22 (.int .u8 0))) (.node none tE .leaf) (.node (some [(.opq true)]) tE .leaf)) (.node (some (List.replicate 9 (.int .u8 0)++[.int .u8 1,.int .u8 1,.int .u8 1,.int .u8 1,.int .u8 1]++List.replicate 18 (.int .u8 0)++[.int .u8 1]++List.replicate 223 (.int .u8 0))) (.node none tE .leaf) (.node none tE .leaf)))
noncomputable def vI:List (Nat×List Nat):=[(6,[27]),(8,[27]),(10,[44]),(14,[27]),(15,[56]),(17,[56]),(19,[44]),(21,[48]),(32,[27]),(33,[27]),(35,[56]),(36,[27]),(37,[24]),(38,[48]),(68,[56]),(69,[24]),(73,[24]),(87,[24]),(104,[1000041,1000042])]
noncomputable def SP:List Nat:=[34,96]
noncomputable def T8:List Nat:=[]
theorem Qp:fH Tryz.prog vT (fun b=>vG.get b) 79 (.lib lV):=GG (g3:=0) (g4:=1) Tryz.call79 (fun s w h hT=>Tryz.utf8_ValidString s w h hT) rfl rfl (by kernel_rfl) (by kernel_rfl)
theorem P9:fH Tryz.prog vT (fun b=>vG.get b) 83 (.lib (jn 164)):=Jy (g16:=5) (fun w w' h=>by rcases h with rfl | ⟨t,rfl⟩;exact Go.RowKit.Below.refl _ _;exact Lib.bytesWorld_below _ _ _) Tryz.call83 (fun s h1 v h2 w=>Tryz.strconv_Atoi_ok s h1 v h2 w) (fun s h1 h2 ev w h3 h4=>(Tryz.strconv_Atoi_range s h1 h2 ev w h3 h4).mono fun e w' ⟨N,a,_,_,c⟩=>⟨N,a,c⟩) rfl
theorem MX:fH Tryz.prog vT (fun b=>vG.get b) 109 (.lib gZ):=zQ Tryz.call109 fun s c w h1 h2=>Tryz.strings_TrimLeft s c w h1 h2
theorem MG:fH Tryz.prog vT (fun b=>vG.get b) 116 (.lib jS):=Dz (g3:=0) (g4:=1) Tryz.call116 (fun s w hT=>Tryz.utf8_DecodeRuneInString s w hT) rfl rfl (by kernel_rfl) (by kernel_rfl)
theorem Mf:fH Tryz.prog vT (fun b=>vG.get b) 124 (.builderString 5):=sK ⟨Tryz.call124,N2 (by kernel_rfl),xy,F2⟩
theorem Ob:fH Tryz.prog vT (fun b=>vG.get b) 140 .indexByte:=xH (fun s c w=>by
 rw [run_callFunc_extern Tryz.func140 (by kernel_rfl) (by kernel_rfl) (by kernel_rfl) (e:=Extern.BytealgIndexByte.indexByte) (by kernel_rfl),Lib.run_indexByteString];rfl)
theorem N9:fH Tryz.prog vT (fun b=>vG.get b) 146 (.copyCheck [(145,2,0),(146,2,0)]):=xu ⟨Tryz.call146,Lg,fun b o w e n h1 h2 h3 h4 a=>Jl b o w e n h1 h2 h3 h4 (M3 (by kernel_rfl) a)⟩
theorem SI:PC (fun f q=>fH Tryz.prog vT (fun b=>vG.get b) f q) vP:=⟨Qp,P9,MX,MG,Mf,Ob,N9,trivial⟩
noncomputable def vE:Env where
 T:=vT
 F i:=vF.get i
 prim i:=C3 vP i
 full i:=SP.any fun j=>i.beq j
 isLook i:=T8.any fun j=>i.beq j
 imm f t:=match C3 vI f with
  | some l=>l.any fun j=>t.beq j
  | none=>false
 G b:=vG.get b
 memo _:=[]
theorem TJ:El Tryz.prog vE:=⟨S5,fun f fn h=>T3 f fn h,Ju fun f q h=>A9 SI f q h,by kernel_rfl,(fun _ _ h=>by cases h),fun _ r _ _ h _=>absurd (show (none:Option (List AV->Option AV))=some r from h) (by simp),fun _ r _ _ _ _ h=>absurd (show (none:Option (List AV->St->db (AV×St)))=some r from h) (by simp)⟩
abbrev sZ:St:=St.mk 0 0 Tr.leaf
abbrev nA (a b:Int) (s:List UInt8) (y:AV):AV:= .agg [.int .u8 a,.int .u8 b,.str s,y]
abbrev nC (a b:Int) (s:List UInt8) (y:AV):List AV:=[.int .u8 a,.int .u8 b,.str s,y]
abbrev dA (a:Int) (s:List UInt8) (b:Int) (y:AV):AV:= .agg [.int .u8 a,.str s,.int .i64 b,y]
abbrev dC (a:Int) (s:List UInt8) (b:Int) (y:AV):List AV:=[.int .u8 a,.str s,.int .i64 b,y]
noncomputable abbrev dj {β:Type} (z:Nat) (p:AV) (cs:List AV) (st:St) (K:Kv β):Option β:=aM (aV vE) z p (.agg cs) cs st K
noncomputable abbrev iU {β:Type} (p v:AV) (st:St) (K:Kv β):Option β:=aM (aV vE) 1 p v [v] st K
noncomputable abbrev aT {β:Type} (f:FuncId) (a:List AV) (st:St) (K:Kv β):Option β:=bc (aV vE) f a st K
noncomputable def yP (c:AV):bT->Option (bT ⊕ Nat×bT):=fun a=>bj a.1 fun f g=>bJ f fun d=>bj g fun h i=>bk .i64 h fun b=>bC i (fc c fun j=>aW (decide (b < (↑j:Int))) (bU 4 c b a.2 fun k _x=>al 4 true k a.2 fun l _x=>ah l fun m n o p=>(aT 6 [nA m n o p] a.2 fun q e _x=>bJ q fun r=>aW (!r) (some (Sum.inr (1,[.bool false],e))) (aN (IntKind.wrap .i64 (b+1)) fun s=>some (Sum.inl ([.bool d,.int .i64 s],e))))) (some (Sum.inr (0,[.bool d],Prod.snd a))))
noncomputable def g6:AV->Option AV:=fun e=>ah e fun a f _x b=>(ab b (aD b fun g=>az (aW (a==2) (some ([.bool true],sZ)) (aW (a==3) (some ([.bool true],sZ)) (aW (a==1) (some ([.bool (f==9)],sZ)) (some ([.bool false],sZ))))) fun c=>bj c.1 fun h i=>bJ h fun j=>bC i (aW j (some (.bool false)) (az (aK (yP g) ([.bool false,.int .i64 0],Prod.snd c)) fun d=>bj d.2.1 fun k l=>bJ k fun m=>bC l (lC d.1 (some (.bool true)) fun _x=>some (.bool m))))))
theorem Tn (x0:AV):bN vE 6 [x0]=g6 x0:=by kernel_rfl
noncomputable def Bj (e:List UInt8) (i:AV):bT->Option (bT ⊕ Nat×bT):=fun a=>bj a.1 fun o p=>dW o fun b=>bj p fun q r=>bk .i64 q fun f=>bC r (fc i fun s=>aW (decide (f < (↑s:Int))) (az (bU 4 i f a.2 fun t _x=>al 4 true t a.2 fun u _x=>ah u fun j k l g=>(bh (St.add a.2 (VM.Obj.cells 27 (nC 0 0 [] .ay))) fun v=>ab g (aM (aV vE) 4 (.mp (St.h a.2) 0) (nA j k l g) (nC j k l g) v fun _x c _x_1=>az (al 1 false (.mp (St.h a.2) 0) c fun w _x=>bk .u8 w fun y=>aW (y==1) (al 1 false (.mp (St.h a.2) 1) c fun z _x=>bk .u8 z fun a0=>some ([.bool (a0==1)],c)) (some ([.bool false],c))) fun d=>bj d.1 fun x a2=>bJ x fun a3=>bC a2 (aW a3 (bM (Nat.ble (List.length b+List.length e) 9223372036854775807) (aN (b++e) fun a4=>some (Sum.inl ([.str a4],Prod.snd d)))) (al 4 true (.mp (St.h a.2) 0) d.2 fun a5 _x=>ah a5 fun A B C a9=>(aT 8 [nA A B C a9,.str e] d.2 fun b0 b1 _x=>dW b0 fun m=>bM (Nat.ble (List.length b+List.length m) 9223372036854775807) (aN (b++m) fun b2=>some (Sum.inl ([.str b2],b1))))))))) fun b3=>iK b3 fun n=>bj n.1 fun D E=>dW D fun F=>bC E (aN (IntKind.wrap .i64 (f+1)) fun G=>some (Sum.inl ([.str F,.int .i64 G],Prod.snd n)))) (some (Sum.inr (0,[.str b],Prod.snd a))))
noncomputable def g8:AV->AV->Option AV:=fun e f=>ah e fun g _x c d=>(dW f fun h=>ab d (aD d fun i=>az (aK (Bj h i) ([.str [],.int .i64 0],sZ)) fun a=>bj a.2.1 fun j k=>dW j fun b=>bC k (az (aW (g==1) (bM (Nat.ble (List.length b+List.length c) 9223372036854775807) (aN (b++c) fun l=>some ([.str l],Prod.snd a.2))) (some ([.str b],Prod.snd a.2))) fun m=>bj m.1 fun n o=>dW n fun p=>bC o (some (.str p)))))
theorem Tt (x0 x1:AV):bN vE 8 [x0,x1]=g8 x0 x1:=by kernel_rfl
noncomputable def CD:bT->Option (bT ⊕ Nat×bT):=fun b=>bj b.1 fun c f=>bj f fun g h=>dW g fun a=>bC h (aW (!a==[]) (aT 24 [.str a] b.2 fun d i _x=>gx d fun j=>cE j 0 fun k=>bk .u8 k fun l=>gx d fun m=>cE m 1 fun n=>bk .i64 n fun e=>eh e (List.length a) fun o=>aN (List.drop 0 (List.take o a)) fun p=>cT 2 24 24 c [.agg [.int .u8 l,.str p]] i fun q r _x=>eh e (List.length a) fun s=>aN (List.drop s (List.take (List.length a) a)) fun t=>some (Sum.inl ([q,.str t],r))) (some (Sum.inr (0,[c],Prod.snd b))))
noncomputable def g11:AV->Option AV:=fun c=>dW c fun a=>aW (decide ((↑(List.length a):Int) > 65536)) (some (.tup [.ay,.int .i64 40])) (aT 23 [.str a] sZ fun d e _x=>bJ d fun f=>aW (!f) (some (.tup [.ay,.int .i64 4])) (az (aK CD ([.ay,.str a],e)) fun b=>bj b.2.1 fun g h=>bC h (gR b.2.2 0 (.tup [g,.int .i64 0]) fun i=>some i)))
theorem Gu (x0:AV):bN vE 11 [x0]=g11 x0:=by kernel_rfl
noncomputable def g13:AV->Option AV:=fun i=>dW i fun j=>aT 29 [.str j] (St.mk 1 0 (Tr.node (some (VM.Obj.cells 27 (nC 0 0 [] .ay))) Tr.leaf Tr.leaf)) fun c a _x=>gx c fun k=>cE k 0 fun b=>gx c fun l=>cE l 1 fun m=>bk .i64 m fun d=>aW (d != 0) (dj 4 (.mp 0 0) (nC 0 0 [] .ay) a fun _x e _x_1=>al 4 true (.mp 0 0) e fun n _x=>ah n fun o p q r=>(gR e 0 (.tup [nA o p q r,.int .i64 d]) fun s=>some s)) (ab b (ab b (bh (St.add a (VM.Obj.cells 77 [b,.int .i64 0,.int .i64 0])) fun t=>aT 30 [.mp (St.h a) 0] t fun u v _x=>ah u fun w y z f=>(ab f (dj 4 (.mp 0 0) (nC w y z f) v fun _x g _x_1=>al 4 true (.mp 0 0) g fun a0 _x=>ah a0 fun x a2 a3 a4=>(gR g 0 (.tup [nA x a2 a3 a4,.int .i64 0]) fun a5=>some a5))))))
theorem PO (x0:AV):bN vE 13 [x0]=g13 x0:=by kernel_rfl
noncomputable def g14:AV->Option AV:=fun d=>ah d fun a e _x c=>(ab c (aD c fun f=>az (aW (a != 2) (aW (a != 3) (aW (a != 1) (some ([.bool true],sZ)) (some ([.bool (e != 9)],sZ))) (some ([.bool false],sZ))) (some ([.bool false],sZ))) fun b=>bj b.1 fun g h=>bJ g fun i=>bC h (az (aW i (aT 31 [f,.fn (Fn.func 32) [] []] b.2 fun j k _x=>bJ j fun l=>some ([.bool !l],k)) (some ([.bool false],Prod.snd b))) fun m=>bj m.1 fun n o=>bJ n fun p=>bC o (some (.bool p)))))
theorem RF (x0:AV):bN vE 14 [x0]=g14 x0:=by kernel_rfl
noncomputable def yx:bT->Option (bT ⊕ Nat×bT):=fun b=>bj b.1 fun f g=>bJ f fun c=>bj g fun h i=>dW h fun a=>bC i (aW (!a==[]) (aT 39 [.str a] b.2 fun d e _x=>gx d fun j=>cE j 0 fun k=>bk .i64 k fun l=>gx d fun m=>cE m 1 fun n=>bk .i64 n fun o=>aW (decide (l < 0)) (some (Sum.inr (1,[.bool false],e))) (eh o (List.length a) fun p=>aN (List.drop p (List.take (List.length a) a)) fun q=>some (Sum.inl ([.bool c,.str q],e)))) (some (Sum.inr (0,[.bool c],Prod.snd b))))
noncomputable def g23:AV->Option AV:=fun b=>dW b fun c=>az (aK yx ([.bool false,.str c],sZ)) fun a=>bj a.2.1 fun d e=>bJ d fun f=>bC e (lC a.1 (some (.bool true)) fun _x=>some (.bool f))
theorem QJ (x0:AV):bN vE 23 [x0]=g23 x0:=by kernel_rfl
noncomputable def xk (d:List UInt8):bT->Option (bT ⊕ Nat×bT):=fun b=>bj b.1 fun e f=>bk .i64 e fun a=>bC f (aT 41 [.str d,.int .i64 a] b.2 fun g h _x=>bk .u8 g fun i=>aT 40 [.int .u8 i] h fun j c _x=>bJ j fun k=>aW k (aN (IntKind.wrap .i64 (a+1)) fun l=>some (Sum.inl ([.int .i64 l],c))) (some (Sum.inr (0,[.int .i64 a],c))))
noncomputable def zd (d:List UInt8):bT->Option (bT ⊕ Nat×bT):=fun b=>bj b.1 fun e f=>bk .i64 e fun a=>bC f (aT 41 [.str d,.int .i64 a] b.2 fun g h _x=>bk .u8 g fun i=>aT 45 [.int .u8 i] h fun j c _x=>bJ j fun k=>aW k (aN (IntKind.wrap .i64 (a+1)) fun l=>some (Sum.inl ([.int .i64 l],c))) (some (Sum.inr (0,[.int .i64 a],c))))
noncomputable def vd (f:List UInt8):bT->Option (bT ⊕ Nat×bT):=fun a=>bj a.1 fun g h=>bk .u8 g fun c=>bj h fun i j=>bk .i64 i fun d=>bj j fun k l=>bk .i64 k fun b=>bC l (aW (decide (b < 11)) (bU 1 (.sl 1 [.str [45,62],.str [58,58],.str [60,62],.str [60,61],.str [62,61],.str [43,46],.str [45,46],.str [42,46],.str [47,46],.str [38,38],.str [124,124]] .shut) b a.2 fun m _x=>al 1 false m a.2 fun n _x=>dW n fun o=>aT 42 [.str f,.int .i64 0,.str o] a.2 fun p e _x=>bJ p fun q=>aW q (some (Sum.inr (1,[.int .u8 8,.int .i64 2],e))) (aN (IntKind.wrap .i64 (b+1)) fun r=>some (Sum.inl ([.int .u8 c,.int .i64 d,.int .i64 r],e)))) (some (Sum.inr (0,[.int .u8 c,.int .i64 d],Prod.snd a))))
noncomputable def vf (e:UInt8):bT->Option (bT ⊕ Nat×bT):=fun a=>bj a.1 fun f g=>bk .u8 f fun c=>bj g fun h i=>bk .i64 h fun d=>bj i fun j k=>bk .i64 j fun b=>bC k (aW (decide (b < 16)) (eC [40,41,91,93,44,59,124,61,60,62,43,45,42,47,94,64] b fun l=>aW ((↑(UInt8.toNat l):Int)==(↑(UInt8.toNat e):Int)) (some (Sum.inr (1,[.int .u8 8,.int .i64 1],Prod.snd a))) (aN (IntKind.wrap .i64 (b+1)) fun m=>some (Sum.inl ([.int .u8 c,.int .i64 d,.int .i64 m],Prod.snd a)))) (some (Sum.inr (0,[.int .u8 c,.int .i64 d],Prod.snd a))))
noncomputable def g24:AV->Option AV:=fun r=>dW r fun a=>eC a 0 fun b=>aT 40 [.int .u8 (↑(UInt8.toNat b):Int)] sZ fun s g _x=>bJ s fun t=>aW t (az (aK (xk a) ([.int .i64 0],g)) fun u=>bj u.2.1 fun v w=>bk .i64 v fun y=>bC w (some (.tup [.int .u8 1,.int .i64 y]))) (aT 42 [.str a,.int .i64 0,.str [40,42]] g fun z h _x=>bJ z fun a0=>aW a0 (aT 43 [.str a] h fun i _x _x_1=>gx i fun x=>cE x 0 fun a2=>bk .i64 a2 fun j=>gx i fun a3=>cE a3 1 fun a4=>bJ a4 fun a5=>aW a5 (some (.tup [.int .u8 2,.int .i64 j])) (some (.tup [.int .u8 9,.int .i64 j]))) (aT 44 [.int .u8 (↑(UInt8.toNat b):Int)] h fun A k _x=>bJ A fun B=>aW B (az (aK (zd a) ([.int .i64 0],k)) fun l=>bj l.2.1 fun C a9=>bk .i64 C fun c=>bC a9 (eh c (List.length a) fun b0=>aN (List.drop 0 (List.take b0 a)) fun b1=>aW (b1==[95]) (some (.tup [.int .u8 8,.int .i64 1])) (eh c (List.length a) fun b2=>aN (List.drop 0 (List.take b2 a)) fun b3=>aT 46 [.str b3] l.2.2 fun D _x _x_1=>bJ D fun E=>aW E (some (.tup [.int .u8 3,.int .i64 c])) (some (.tup [.int .u8 4,.int .i64 c]))))) (aT 47 [.int .u8 (↑(UInt8.toNat b):Int)] k fun F d _x=>bJ F fun G=>aW G (aT 48 [.str a] d fun m _x _x_1=>gx m fun H=>cE H 0 fun I=>bk .u8 I fun c0=>gx m fun c1=>cE c1 1 fun c2=>bk .i64 c2 fun c3=>some (.tup [.int .u8 c0,.int .i64 c3])) (aW ((↑(UInt8.toNat b):Int)==34) (aT 49 [.str a] d fun n _x _x_1=>gx n fun c4=>cE c4 0 fun c5=>bk .u8 c5 fun J=>gx n fun K=>cE K 1 fun L=>bk .i64 L fun c9=>some (.tup [.int .u8 J,.int .i64 c9])) (az (aK (vd a) ([.int .u8 0,.int .i64 0,.int .i64 0],d)) fun e=>bj e.2.1 fun d0 d1=>bk .u8 d0 fun o=>bj d1 fun d2 d3=>bk .i64 d2 fun p=>bC d3 (lC e.1 (az (aK (vf b) ([.int .u8 o,.int .i64 p,.int .i64 0],Prod.snd e.2)) fun f=>bj f.2.1 fun d4 d5=>bk .u8 d4 fun d6=>bj d5 fun d7 d8=>bk .i64 d7 fun d9=>bC d8 (lC f.1 (aT 39 [.str a] f.2.2 fun q _x _x_1=>gx q fun M=>cE M 0 fun N=>bk .i64 N fun _x=>gx q fun O=>cE O 1 fun P=>bk .i64 P fun Q=>some (.tup [.int .u8 9,.int .i64 Q])) fun _x=>some (.tup [.int .u8 d6,.int .i64 d9]))) fun _x=>some (.tup [.int .u8 o,.int .i64 p])))))))
theorem Qj (x0:AV):bN vE 24 [x0]=g24 x0:=by kernel_rfl
noncomputable def zo:bT->Option (bT ⊕ Nat×bT):=fun b=>bj b.1 fun c h=>bj h fun i j=>dW i fun a=>bj j fun k l=>bk .i64 k fun d=>bC l (aW (decide (d < 7)) (bU 1 (.sl 1 [.fn (Fn.func 56) [] [],.fn (Fn.func 57) [] [],.fn (Fn.func 58) [] [],.fn (Fn.func 59) [] [],.fn (Fn.func 60) [] [],.fn (Fn.func 61) [] [],.fn (Fn.func 62) [] []] .shut) d b.2 fun m _x=>al 1 false m b.2 fun n _x=>kK (aV vE) (Sx.prim (sx vE 29)) n [.str a] b.2 fun f g _x=>gx f fun o=>cE o 0 fun p=>bk .u8 p fun q=>gx f fun r=>cE r 1 fun s=>bk .i64 s fun e=>aW (decide (e > 0)) (eh e (List.length a) fun t=>aN (List.drop 0 (List.take t a)) fun u=>cT 2 24 24 c [.agg [.int .u8 q,.str u]] g fun v w _x=>eh e (List.length a) fun y=>aN (List.drop y (List.take (List.length a) a)) fun z=>some (Sum.inr (0,[v,.str z],w))) (aN (IntKind.wrap .i64 (d+1)) fun a0=>some (Sum.inl ([c,.str a,.int .i64 a0],g)))) (some (Sum.inr (0,[c,.str a],Prod.snd b))))
noncomputable def BN:bT->Option (bT ⊕ Nat×bT):=fun a=>bj a.1 fun b e=>bj e fun f g=>dW f fun c=>bC g (aW (!c==[]) (az (aK zo ([b,.str c,.int .i64 0],Prod.snd a)) fun d=>bj d.2.1 fun h i=>bj i fun j k=>dW j fun l=>bC k (some (Sum.inl ([h,.str l],Prod.snd d.2)))) (some (Sum.inr (0,[b],Prod.snd a))))
noncomputable def Un:AV->Option AV:=fun c=>dW c fun a=>aW (decide ((↑(List.length a):Int) > 65536)) (some (.tup [.ay,.int .i64 40])) (aT 55 [.str a] sZ fun d e _x=>bJ d fun f=>aW (!f) (some (.tup [.ay,.int .i64 4])) (az (aK BN ([.ay,.str a],e)) fun b=>bj b.2.1 fun g h=>bC h (gR b.2.2 0 (.tup [g,.int .i64 0]) fun i=>some i)))
theorem Gj (x0:AV):bN vE 29 [x0]=Un x0:=by kernel_rfl
noncomputable def qf (e:AV) (g:bT):bT->Option (bT ⊕ Nat×bT):=fun b=>bj b.1 fun i m=>bC m (az (bF 0 i fun n=>al 1 false n b.2 fun o _x=>bk .u8 o fun p=>aW (p != 0) (aT 64 [e,.sl 1 [.str [108,101,116]] .shut] b.2 fun q r _x=>bJ q fun s=>some ([.bool !s],r)) (some ([.bool false],Prod.snd b))) fun c=>bj c.1 fun t u=>bJ t fun v=>bC u (aW v (al 1 false (.mp (St.h g.2) 3) c.2 fun w y=>aT 65 [e] c.2 fun z a0 j=>ah z fun x a2 a3 f=>(bM (apart (Fx.mk y dO.kept) j&&(apart (⟨[],.kept⟩) j&&true)) (ab f (ab f (aD f fun k=>ab k (aD k fun a4=>cT 4 56 27 w [nA x a2 a3 a4] a0 fun d a5 _x=>ab d (ab d (aM (aV vE) 1 (.mp (St.h g.2) 3) d [d] a5 fun _x a _x_1=>al 2 true i a fun A _x=>dH A fun B C=>(bh (St.add a (VM.Obj.cells 24 [.int .u8 0,.str []])) fun a9=>dj 2 (.mp (St.h a) 0) [.int .u8 B,.str C] a9 fun _x b0 _x_2=>aT 63 [e] b0 fun l b1 _x=>gx l fun b2=>cE b2 0 fun b3=>dH b3 fun D E=>(gx l fun F=>cE F 1 fun G=>bk .i64 G fun _x=>dj 2 (.mp (St.h a) 0) [.int .u8 D,.str E] b1 fun _x H _x_3=>some (Sum.inl ([.mp (St.h a) 0],H)))))))))))) (some (Sum.inr (0,[],Prod.snd c)))))
noncomputable def su (b:AV) (k:St):bT->Option (bT ⊕ Nat×bT):=fun a=>bj a.1 fun l s=>bC s (bF 0 l fun t=>al 1 false t a.2 fun u _x=>bk .u8 u fun v=>aW (v != 0) (bh (St.add a.2 (VM.Obj.cells 27 (nC 0 0 [] .ay))) fun w=>aT 64 [b,.sl 1 [.str [108,101,116]] .shut] w fun y m _x=>bJ y fun z=>az (aW z (aT 65 [b] m fun a0 x _x=>ah a0 fun a2 a3 a4 f=>(ab f (ab f (aD f fun a5=>aT 66 [b] x fun A B _x=>mX A fun C=>pS true C fun n=>bM (tg 4 n) (cT 4 56 27 (.sl 4 [nA a2 a3 a4 a5] .shut) n B fun d a9 _x=>ab d (ab d (aM (aV vE) 4 (.mp (St.h a.2) 0) (nA 5 0 [] d) (nC 5 0 [] d) a9 fun _x b0 _x_1=>some ([],b0)))))))) (aM (aV vE) 1 (.mp (St.h a.2) 0) (.int .u8 3) [.int .u8 3] m fun _x b1 _x_1=>aT 63 [b] b1 fun o g _x=>gx o fun b2=>cE b2 0 fun b3=>dH b3 fun D E=>(gx o fun F=>cE F 1 fun G=>bk .i64 G fun _x=>bh (St.add g (VM.Obj.cells 24 [.int .u8 0,.str []])) fun H=>dj 2 (.mp (St.h g) 0) [.int .u8 D,.str E] H fun _x I _x_2=>az (aK (qf b a) ([.mp (St.h g) 0],I)) fun p=>bC p.2.1 (some ([],Prod.snd p.2))))) fun e=>bC e.1 (al 1 false (.mp (St.h k) 3) e.2 fun c0 _x=>al 4 true (.mp (St.h a.2) 0) e.2 fun c1 _x=>ah c1 fun c2 c3 c4 i=>(ab i (ab i (aD i fun q=>ab q (aD q fun c5=>cT 4 56 27 c0 [nA c2 c3 c4 c5] e.2 fun j J _x=>ab j (ab j (iU (.mp (St.h k) 3) j J fun _x c _x_1=>al 2 true l c fun K _x=>dH K fun L c9=>(bh (St.add c (VM.Obj.cells 24 [.int .u8 0,.str []])) fun d0=>dj 2 (.mp (St.h c) 0) [.int .u8 L,.str c9] d0 fun _x d1 _x_2=>aT 63 [b] d1 fun r d2 _x=>gx r fun d3=>cE d3 0 fun d4=>dH d4 fun d5 d6=>(gx r fun d7=>cE d7 1 fun d8=>bk .i64 d8 fun _x=>dj 2 (.mp (St.h c) 0) [.int .u8 d5,.str d6] d2 fun _x d9 _x_3=>some (Sum.inl ([.mp (St.h c) 0],d9)))))))))))) (some (Sum.inr (0,[],Prod.snd a))))
noncomputable def VZ:AV->St->Option (AV×St):=fun b st=>bh (St.add st (VM.Obj.cells 27 (nC 0 0 [] .ay))) fun a=>bh (St.add a (VM.Obj.cells 27 (nC 0 0 [] .ay))) fun n=>dj 4 (.mp (St.h a) 0) (nC 4 0 [] .ay) n fun _x o _x_1=>aT 63 [b] o fun g c _x=>gx g fun p=>cE p 0 fun q=>dH q fun r s=>(gx g fun t=>cE t 1 fun u=>bk .i64 u fun _x=>bh (St.add c (VM.Obj.cells 24 [.int .u8 0,.str []])) fun v=>dj 2 (.mp (St.h c) 0) [.int .u8 r,.str s] v fun _x w _x_2=>az (aK (su b a) ([.mp (St.h c) 0],w)) fun d=>bC d.2.1 (al 1 false (.mp (St.h a) 3) d.2.2 fun y z=>aT 65 [b] d.2.2 fun a0 x i=>ah a0 fun a2 a3 a4 e=>(bM (apart (Fx.mk z dO.kept) i&&(apart (⟨[],.kept⟩) i&&true)) (ab e (ab e (aD e fun j=>ab j (aD j fun a5=>cT 4 56 27 y [nA a2 a3 a4 a5] x fun f A _x=>ab f (ab f (iU (.mp (St.h a) 3) f A fun _x k _x_3=>al 4 true (.mp (St.h a) 0) k fun B _x=>ah B fun C a9 b0 l=>(ab l (dj 4 (.mp (St.h st) 0) (nC C a9 b0 l) k fun _x m _x_4=>al 4 true (.mp (St.h st) 0) m fun b1 _x=>ah b1 fun b2 b3 D E=>(some (nA b2 b3 D E,m)))))))))))))
theorem Pg (x0:AV) (st:St):cA vE 30 [x0] st=VZ x0 st:=by kernel_rfl
noncomputable def V7:AV->AV->Option AV:=fun a b=>aT 67 [a,b] sZ fun c _x _x_1=>bk .i64 c fun d=>some (.bool (decide (d>=0)))
theorem Q6 (x0 x1:AV):bN vE 31 [x0,x1]=V7 x0 x1:=by kernel_rfl
noncomputable def VF:AV->Option AV:=fun b=>ah b fun c d e a=>(ab a (aD a fun f=>aT 14 [nA c d e f] sZ fun g _x _x_1=>bJ g fun h=>some (.bool !h)))
theorem PW (x0:AV):bN vE 32 [x0]=VF x0:=by kernel_rfl
noncomputable def jA (b:List UInt8):bT->Option (bT ⊕ Nat×bT):=fun c=>bj c.1 fun k l=>bk .i64 k fun h=>bj l fun m n=>bk .i64 m fun i=>bj n fun o p=>bk .i64 o fun a=>bC p (az (aW (decide (a<=4)) (some ([.bool (decide (a<=(↑(List.length b):Int)))],Prod.snd c)) (some ([.bool false],Prod.snd c))) fun d=>bj d.1 fun q r=>bJ q fun s=>bC r (aW s (eh a (List.length b) fun t=>aN (List.drop 0 (List.take t b)) fun u=>aT 71 [.str u] d.2 fun v j _x=>bk .i64 v fun e=>az (aW (decide (e>=0)) (aT 72 [.int .i64 e] j fun w y f=>dW w fun z=>bM (apart f (⟨[],.kept⟩)&&true) (bM (apart f (⟨[],.kept⟩)&&true) (eh a (List.length b) fun a0=>aN (List.drop 0 (List.take a0 b)) fun x=>bM (apart f (⟨[],.kept⟩)&&true) (some ([.bool (z==x)],y))))) (some ([.bool false],j))) fun g=>bj g.1 fun a2 a3=>bJ a2 fun a4=>bC a3 (aW a4 (some (Sum.inr (1,[.int .i64 e,.int .i64 a],Prod.snd g))) (aN (IntKind.wrap .i64 (a+1)) fun a5=>some (Sum.inl ([.int .i64 h,.int .i64 i,.int .i64 a5],Prod.snd g))))) (some (Sum.inr (0,[.int .i64 h,.int .i64 i],Prod.snd d)))))
noncomputable def UD:AV->Option AV:=fun c=>dW c fun a=>aW (a==[]) (some (.tup [.int .i64 (-1),.int .i64 0])) (az (aK (jA a) ([.int .i64 0,.int .i64 0,.int .i64 1],sZ)) fun b=>bj b.2.1 fun d e=>bk .i64 d fun f=>bj e fun g h=>bk .i64 g fun i=>bC h (lC b.1 (some (.tup [.int .i64 (-1),.int .i64 1])) fun _x=>some (.tup [.int .i64 f,.int .i64 i])))
theorem KC (x0:AV):bN vE 39 [x0]=UD x0:=by kernel_rfl
noncomputable def Vp:AV->Option AV:=fun b=>bk .u8 b fun a=>az (aW (a==32) (some ([.bool true],sZ)) (aW (a==9) (some ([.bool true],sZ)) (aW (a==10) (some ([.bool true],sZ)) (some ([.bool (a==13)],sZ))))) fun c=>bj c.1 fun d e=>bJ d fun f=>bC e (some (.bool f))
theorem QY (x0:AV):bN vE 40 [x0]=Vp x0:=by kernel_rfl
noncomputable def UA:AV->AV->Option AV:=fun c d=>dW c fun b=>bk .i64 d fun a=>az (aW (decide (a < 0)) (some ([.bool true],sZ)) (some ([.bool (decide (a>=(↑(List.length b):Int)))],sZ))) fun e=>bj e.1 fun f g=>bJ f fun h=>bC g (aW h (some (.int .u8 0)) (eC b a fun i=>some (.int .u8 (↑(UInt8.toNat i):Int))))
theorem PB (x0 x1:AV):bN vE 41 [x0,x1]=UA x0 x1:=by kernel_rfl
noncomputable def UB:AV->AV->AV->Option AV:=fun d e f=>dW d fun a=>bk .i64 e fun b=>dW f fun g=>az (aN (IntKind.wrap .i64 (b+2)) fun h=>aW (decide (h<=(↑(List.length a):Int))) (aN (IntKind.wrap .i64 (b+2)) fun i=>eh i (List.length a) fun c=>eh b c fun j=>aN (List.drop j (List.take c a)) fun k=>some ([.bool (k==g)],sZ)) (some ([.bool false],sZ))) fun l=>bj l.1 fun m n=>bJ m fun o=>bC n (some (.bool o))
theorem Ph (x0 x1 a:AV):bN vE 42 [x0,x1,a]=UB x0 x1 a:=by kernel_rfl
noncomputable def oZ (d:List UInt8):bT->Option (bT ⊕ Nat×bT):=fun e=>bj e.1 fun m n=>bk .i64 m fun f=>bj n fun o p=>bk .i64 o fun b=>bj p fun q r=>bJ q fun c=>bj r fun s t=>bk .i64 s fun a=>bC t (aW (decide (a < (↑(List.length d):Int))) (aT 42 [.str d,.int .i64 a,.str [40,42]] e.2 fun u h _x=>bJ u fun v=>az (aW v (aN (IntKind.wrap .i64 (f+1)) fun w=>aN (IntKind.wrap .i64 (a+2)) fun y=>some (Sum.inl ([.int .i64 w,.int .i64 b,.bool c,.int .i64 y],h))) (aT 42 [.str d,.int .i64 a,.str [42,41]] h fun z g _x=>bJ z fun a0=>az (aW a0 (aN (IntKind.wrap .i64 (f - 1)) fun i=>aN (IntKind.wrap .i64 (a+2)) fun j=>aW (i==0) (some (Sum.inr (Sum.inr (Sum.inr (1,[.int .i64 j,.bool true],g))))) (some (Sum.inl ([.int .i64 i,.int .i64 b,.bool c,.int .i64 j],g)))) (aN (IntKind.wrap .i64 (a+1)) fun x=>some (Sum.inl ([.int .i64 f,.int .i64 b,.bool c,.int .i64 x],g)))) fun a2=>iK a2 fun k=>bj k.1 fun a3 a4=>bk .i64 a3 fun a5=>bj a4 fun A B=>bk .i64 A fun C=>bj B fun a9 b0=>bJ a9 fun b1=>bj b0 fun b2 b3=>bk .i64 b2 fun D=>bC b3 (some (Sum.inl ([.int .i64 a5,.int .i64 C,.bool b1,.int .i64 D],Prod.snd k))))) fun E=>iK E fun l=>bj l.1 fun F G=>bk .i64 F fun H=>bj G fun I c0=>bk .i64 I fun c1=>bj c0 fun c2 c3=>bJ c2 fun c4=>bj c3 fun c5 J=>bk .i64 c5 fun K=>bC J (some (Sum.inl ([.int .i64 H,.int .i64 c1,.bool c4,.int .i64 K],Prod.snd l)))) (some (Sum.inr (0,[.int .i64 b,.bool c],Prod.snd e))))
noncomputable def Wm:AV->Option AV:=fun c=>dW c fun a=>az (aK (oZ a) ([.int .i64 1,.int .i64 0,.bool false,.int .i64 2],sZ)) fun b=>bj b.2.1 fun d e=>bk .i64 d fun f=>bj e fun g h=>bJ g fun i=>bC h (lC b.1 (some (.tup [.int .i64 (↑(List.length a):Int),.bool false])) fun _x=>some (.tup [.int .i64 f,.bool i]))
theorem Pm (x0:AV):bN vE 43 [x0]=Wm x0:=by kernel_rfl
noncomputable def VR:AV->Option AV:=fun b=>bk .u8 b fun a=>az (aW (decide (a>=97)) (aW (decide (a<=122)) (some ([.bool true],sZ)) (some ([.bool (a==95)],sZ))) (some ([.bool (a==95)],sZ))) fun c=>bj c.1 fun d e=>bJ d fun f=>bC e (some (.bool f))
theorem PM (x0:AV):bN vE 44 [x0]=VR x0:=by kernel_rfl
noncomputable def Vq:AV->Option AV:=fun d=>bk .u8 d fun a=>az (aT 44 [.int .u8 a] sZ fun e c _x=>bJ e fun f=>aW f (some ([.bool true],c)) (aT 47 [.int .u8 a] c fun g b _x=>bJ g fun h=>aW h (some ([.bool true],b)) (aW (decide (a>=65)) (aW (decide (a<=90)) (some ([.bool true],b)) (some ([.bool (a==39)],b))) (some ([.bool (a==39)],b))))) fun i=>bj i.1 fun j k=>bJ j fun l=>bC k (some (.bool l))
theorem RB (x0:AV):bN vE 45 [x0]=Vq x0:=by kernel_rfl
noncomputable def uD (d:List UInt8):bT->Option (bT ⊕ Nat×bT):=fun a=>bj a.1 fun e f=>bJ e fun c=>bj f fun g h=>bk .i64 g fun b=>bC h (aW (decide (b < 12)) (bU 1 (.sl 1 [.str [108,101,116],.str [114,101,99],.str [105,110],.str [102,117,110],.str [105,102],.str [116,104,101,110],.str [101,108,115,101],.str [109,97,116,99,104],.str [119,105,116,104],.str [116,114,117,101],.str [102,97,108,115,101],.str [109,111,100]] .shut) b a.2 fun i _x=>al 1 false i a.2 fun j _x=>dW j fun k=>aW (k==d) (some (Sum.inr (1,[.bool true],Prod.snd a))) (aN (IntKind.wrap .i64 (b+1)) fun l=>some (Sum.inl ([.bool c,.int .i64 l],Prod.snd a)))) (some (Sum.inr (0,[.bool c],Prod.snd a))))
noncomputable def Vn:AV->Option AV:=fun b=>dW b fun c=>az (aK (uD c) ([.bool false,.int .i64 0],sZ)) fun a=>bj a.2.1 fun d e=>bJ d fun f=>bC e (lC a.1 (some (.bool false)) fun _x=>some (.bool f))
theorem Qn (x0:AV):bN vE 46 [x0]=Vn x0:=by kernel_rfl
noncomputable def VD:AV->Option AV:=fun b=>bk .u8 b fun a=>az (aW (decide (a>=48)) (some ([.bool (decide (a<=57))],sZ)) (some ([.bool false],sZ))) fun c=>bj c.1 fun d e=>bJ d fun f=>bC e (some (.bool f))
theorem Rq (x0:AV):bN vE 47 [x0]=VD x0:=by kernel_rfl
noncomputable def yF (d:List UInt8):bT->Option (bT ⊕ Nat×bT):=fun b=>bj b.1 fun e f=>bk .i64 e fun a=>bC f (aT 41 [.str d,.int .i64 a] b.2 fun g h _x=>bk .u8 g fun i=>aT 47 [.int .u8 i] h fun j c _x=>bJ j fun k=>aW k (aN (IntKind.wrap .i64 (a+1)) fun l=>some (Sum.inl ([.int .i64 l],c))) (some (Sum.inr (0,[.int .i64 a],c))))
noncomputable def BE (d:List UInt8):bT->Option (bT ⊕ Nat×bT):=fun b=>bj b.1 fun e f=>bk .i64 e fun a=>bC f (aT 41 [.str d,.int .i64 a] b.2 fun g h _x=>bk .u8 g fun i=>aT 47 [.int .u8 i] h fun j c _x=>bJ j fun k=>aW k (aN (IntKind.wrap .i64 (a+1)) fun l=>some (Sum.inl ([.int .i64 l],c))) (some (Sum.inr (0,[.int .i64 a],c))))
noncomputable def r9 (b:List UInt8):bT->Option (bT ⊕ Nat×bT):=fun c=>bj c.1 fun g h=>bk .i64 g fun d=>bj h fun i j=>bk .i64 i fun a=>bC j (aT 41 [.str b,.int .i64 a] c.2 fun k l _x=>bk .u8 k fun m=>aT 47 [.int .u8 m] l fun n e _x=>bJ n fun o=>aW o (aN (IntKind.wrap .i64 (d * 10)) fun p=>eC b a fun q=>aN (IntKind.wrap .i64 (↑(UInt8.toNat q):Int)) fun r=>aN (IntKind.wrap .i64 (p+r)) fun s=>aN (IntKind.wrap .i64 (s - 48)) fun f=>aN (if 1000000 < f then 1000000 else f) fun t=>aN (IntKind.wrap .i64 (a+1)) fun u=>some (Sum.inl ([.int .i64 t,.int .i64 u],e))) (some (Sum.inr (0,[.int .i64 d,.int .i64 a],e))))
noncomputable def Wx:AV->Option AV:=fun w=>dW w fun a=>az (aK (yF a) ([.int .i64 0],sZ)) fun j=>bj j.2.1 fun y z=>bk .i64 y fun c=>bC z (aT 41 [.str a,.int .i64 c] j.2.2 fun a0 x _x=>bk .u8 a0 fun a2=>aW (a2 != 46) (some (.tup [.int .u8 5,.int .i64 c])) (aN (IntKind.wrap .i64 (c+1)) fun a3=>az (aK (BE a) ([.int .i64 a3],x)) fun k=>bj k.2.1 fun a4 a5=>bk .i64 a4 fun b=>bC a5 (aN (IntKind.wrap .i64 (c+1)) fun A=>aN (IntKind.wrap .i64 (A - b)) fun g=>aN (IntKind.wrap .i64 (b - 1)) fun B=>az (aT 41 [.str a,.int .i64 b] k.2.2 fun C l _x=>bk .u8 C fun a9=>aW (a9==101) (some ([.bool true],l)) (aT 41 [.str a,.int .i64 b] l fun b0 b1 _x=>bk .u8 b0 fun b2=>some ([.bool (b2==69)],b1))) fun h=>bj h.1 fun b3 D=>bJ b3 fun E=>bC D (az (aW E (aN (IntKind.wrap .i64 (b+1)) fun d=>aT 41 [.str a,.int .i64 d] h.2 fun F m _x=>bk .u8 F fun n=>az (aW (n==45) (some ([.bool true],m)) (aT 41 [.str a,.int .i64 d] m fun G H _x=>bk .u8 G fun I=>some ([.bool (I==43)],H))) fun i=>bj i.1 fun c0 c1=>bJ c0 fun c2=>bC c1 (az (aW c2 (aN (IntKind.wrap .i64 (d+1)) fun c3=>some ([.int .i64 c3],Prod.snd i)) (some ([.int .i64 d],Prod.snd i))) fun o=>bj o.1 fun c4 c5=>bk .i64 c4 fun p=>bC c5 (az (aK (r9 a) ([.int .i64 0,.int .i64 p],Prod.snd o)) fun e=>bj e.2.1 fun J K=>bk .i64 J fun q=>bj K fun L c9=>bk .i64 L fun r=>bC c9 (az (aW (decide (r > p)) (az (aW (n==45) (aN (IntKind.wrap .i64 (0 - q)) fun d0=>some ([.int .i64 d0],Prod.snd e.2)) (some ([.int .i64 q],Prod.snd e.2))) fun s=>bj s.1 fun d1 d2=>bk .i64 d1 fun d3=>bC d2 (aN (IntKind.wrap .i64 (g+d3)) fun d4=>some ([.int .i64 r,.int .i64 d4],Prod.snd s))) (some ([.int .i64 b,.int .i64 g],Prod.snd e.2))) fun t=>bj t.1 fun d5 d6=>bk .i64 d5 fun d7=>bj d6 fun d8 d9=>bk .i64 d8 fun M=>bC d9 (some ([.int .i64 d7,.int .i64 M],Prod.snd t)))))) (some ([.int .i64 b,.int .i64 g],Prod.snd h))) fun f=>bj f.1 fun N O=>bk .i64 N fun u=>bj O fun P Q=>bk .i64 P fun v=>bC Q (az (aW (decide (B > 15)) (some ([.bool true],Prod.snd f)) (aW (decide (v < -22)) (some ([.bool true],Prod.snd f)) (some ([.bool (decide (v > 22))],Prod.snd f)))) fun R=>bj R.1 fun S T=>bJ S fun U=>bC T (aW U (some (.tup [.int .u8 9,.int .i64 u])) (some (.tup [.int .u8 6,.int .i64 u]))))))))
theorem Q3 (x0:AV):bN vE 48 [x0]=Wx x0:=by kernel_rfl
noncomputable def gD (c:List UInt8):bT->Option (bT ⊕ Nat×bT):=fun g=>bj g.1 fun n o=>bk .u8 n fun j=>bj o fun p q=>bk .i64 p fun k=>bj q fun r s=>bJ r fun d=>bj s fun t u=>bk .i64 t fun a=>bC u (az (aW (decide (a < (↑(List.length c):Int))) (eC c a fun v=>some ([.bool ((↑(UInt8.toNat v):Int) != 10)],Prod.snd g)) (some ([.bool false],Prod.snd g))) fun b=>bj b.1 fun w y=>bJ w fun z=>bC y (aW z (eC c a fun a0=>aW ((↑(UInt8.toNat a0):Int)==34) (aW d (aN (IntKind.wrap .i64 (a+1)) fun x=>some (Sum.inr (1,[.int .u8 9,.int .i64 x,.int .i64 a],Prod.snd b))) (aN (IntKind.wrap .i64 (a+1)) fun a2=>some (Sum.inr (1,[.int .u8 7,.int .i64 a2,.int .i64 a],Prod.snd b)))) (az (eC c a fun a3=>aW ((↑(UInt8.toNat a3):Int)==92) (some ([.bool !d],Prod.snd b)) (some ([.bool false],Prod.snd b))) fun h=>bj h.1 fun a4 a5=>bJ a4 fun A=>bC a5 (az (aW A (aN (IntKind.wrap .i64 (a+1)) fun B=>aT 41 [.str c,.int .i64 B] h.2 fun C e _x=>bk .u8 C fun f=>az (aW (f==110) (some ([.bool true],e)) (aW (f==116) (some ([.bool true],e)) (aW (f==92) (some ([.bool true],e)) (some ([.bool (f==34)],e))))) fun i=>bj i.1 fun a9 b0=>bJ a9 fun b1=>bC b0 (az (aW b1 (aN (IntKind.wrap .i64 (a+1)) fun b2=>some ([.int .i64 b2,.bool d],Prod.snd i)) (some ([.int .i64 a,.bool true],Prod.snd i))) fun l=>bj l.1 fun b3 D=>bk .i64 b3 fun E=>bj D fun F G=>bJ F fun H=>bC G (some ([.int .i64 E,.bool H],Prod.snd l)))) (some ([.int .i64 a,.bool d],Prod.snd h))) fun m=>bj m.1 fun I c0=>bk .i64 I fun c1=>bj c0 fun c2 c3=>bJ c2 fun c4=>bC c3 (aN (IntKind.wrap .i64 (c1+1)) fun c5=>some (Sum.inl ([.int .u8 j,.int .i64 k,.bool c4,.int .i64 c5],Prod.snd m)))))) (some (Sum.inr (0,[.int .u8 j,.int .i64 k,.int .i64 a],Prod.snd b)))))
noncomputable def Wj:AV->Option AV:=fun b=>dW b fun c=>az (aK (gD c) ([.int .u8 0,.int .i64 0,.bool false,.int .i64 1],sZ)) fun a=>bj a.2.1 fun d e=>bk .u8 d fun f=>bj e fun g h=>bk .i64 g fun i=>bj h fun j k=>bk .i64 j fun l=>bC k (lC a.1 (some (.tup [.int .u8 9,.int .i64 l])) fun _x=>some (.tup [.int .u8 f,.int .i64 i]))
theorem Pt (x0:AV):bN vE 49 [x0]=Wj x0:=by kernel_rfl
noncomputable def VW:AV->Option AV:=fun a=>dW a fun b=>dK (aV vE) (fO (Prim.lib lV) [.str b]) sZ fun c _x _x_1=>bJ c fun d=>some (.bool d)
theorem O9 (x0:AV):bN vE 55 [x0]=VW x0:=by kernel_rfl
noncomputable def Vv:AV->Option AV:=fun a=>dW a fun b=>aT 80 [.str b,.str [32,9,10,13]] sZ fun c _x _x_1=>bk .i64 c fun d=>some (.tup [.int .u8 1,.int .i64 d])
theorem QV (x0:AV):bN vE 56 [x0]=Vv x0:=by kernel_rfl
noncomputable def nc (a:List UInt8):bT->Option (bT ⊕ Nat×bT):=fun e=>bj e.1 fun m n=>bk .i64 m fun f=>bj n fun o p=>bk .u8 o fun c=>bj p fun q r=>bk .i64 q fun d=>bj r fun s t=>bk .i64 s fun b=>bC t (aW (decide (b < (↑(List.length a):Int))) (eh b (List.length a) fun u=>aN (List.drop u (List.take (List.length a) a)) fun v=>aT 81 [.str v,.str [40,42]] e.2 fun w h _x=>bJ w fun y=>az (aW y (aN (IntKind.wrap .i64 (f+1)) fun z=>aN (IntKind.wrap .i64 (b+2)) fun a0=>some (Sum.inl ([.int .i64 z,.int .u8 c,.int .i64 d,.int .i64 a0],h))) (eh b (List.length a) fun x=>aN (List.drop x (List.take (List.length a) a)) fun a2=>aT 81 [.str a2,.str [42,41]] h fun a3 g _x=>bJ a3 fun a4=>az (aW a4 (aN (IntKind.wrap .i64 (f - 1)) fun i=>aN (IntKind.wrap .i64 (b+2)) fun j=>aW (i==0) (some (Sum.inr (Sum.inr (Sum.inr (1,[.int .u8 2,.int .i64 j],g))))) (some (Sum.inl ([.int .i64 i,.int .u8 c,.int .i64 d,.int .i64 j],g)))) (aN (IntKind.wrap .i64 (b+1)) fun a5=>some (Sum.inl ([.int .i64 f,.int .u8 c,.int .i64 d,.int .i64 a5],g)))) fun A=>iK A fun k=>bj k.1 fun B C=>bk .i64 B fun a9=>bj C fun b0 b1=>bk .u8 b0 fun b2=>bj b1 fun b3 D=>bk .i64 b3 fun E=>bj D fun F G=>bk .i64 F fun H=>bC G (some (Sum.inl ([.int .i64 a9,.int .u8 b2,.int .i64 E,.int .i64 H],Prod.snd k))))) fun I=>iK I fun l=>bj l.1 fun c0 c1=>bk .i64 c0 fun c2=>bj c1 fun c3 c4=>bk .u8 c3 fun c5=>bj c4 fun J K=>bk .i64 J fun L=>bj K fun c9 d0=>bk .i64 c9 fun d1=>bC d0 (some (Sum.inl ([.int .i64 c2,.int .u8 c5,.int .i64 L,.int .i64 d1],Prod.snd l)))) (some (Sum.inr (0,[.int .u8 c,.int .i64 d],Prod.snd e))))
noncomputable def US:AV->Option AV:=fun c=>dW c fun a=>aT 81 [.str a,.str [40,42]] sZ fun d e _x=>bJ d fun f=>aW (!f) (some (.tup [.int .u8 0,.int .i64 0])) (az (aK (nc a) ([.int .i64 0,.int .u8 0,.int .i64 0,.int .i64 0],e)) fun b=>bj b.2.1 fun g h=>bk .u8 g fun i=>bj h fun j k=>bk .i64 j fun l=>bC k (lC b.1 (some (.tup [.int .u8 9,.int .i64 (↑(List.length a):Int)])) fun _x=>some (.tup [.int .u8 i,.int .i64 l])))
theorem RE (x0:AV):bN vE 57 [x0]=US x0:=by kernel_rfl
noncomputable def V8:AV->Option AV:=fun e=>dW e fun a=>bM (Nat.ble 1 (List.length a)) (aN (List.drop 0 (List.take 1 a)) fun f=>aT 80 [.str f,.str [97,98,99,100,101,102,103,104,105,106,107,108,109,110,111,112,113,114,115,116,117,118,119,120,121,122,95]] sZ fun g h _x=>bk .i64 g fun i=>aW (i==0) (some (.tup [.int .u8 0,.int .i64 0])) (aT 80 [.str a,.str [97,98,99,100,101,102,103,104,105,106,107,108,109,110,111,112,113,114,115,116,117,118,119,120,121,122,95,65,66,67,68,69,70,71,72,73,74,75,76,77,78,79,80,81,82,83,84,85,86,87,88,89,90,39,48,49,50,51,52,53,54,55,56,57]] h fun j k _x=>bk .i64 j fun b=>aT 82 [] k fun l m c=>bM (apart c (⟨[],.kept⟩)&&true) (bM (apart c (⟨[],.kept⟩)&&true) (eh b (List.length a) fun n=>aN (List.drop 0 (List.take n a)) fun o=>bM (apart c (⟨[],.kept⟩)&&true) (dK (aV vE) (js (Env.T vE) 114 l (.str o) true) m fun d _x _x_1=>gx d fun p=>cE p 0 fun q=>bk .u8 q fun r=>gx d fun s=>cE s 1 fun t=>bJ t fun u=>aW u (some (.tup [.int .u8 r,.int .i64 b])) (some (.tup [.int .u8 4,.int .i64 b])))))))
theorem Rs (x0:AV):bN vE 58 [x0]=V8 x0:=by kernel_rfl
noncomputable def Wn:AV->Option AV:=fun w=>dW w fun a=>aT 80 [.str a,.str [48,49,50,51,52,53,54,55,56,57]] sZ fun y h _x=>bk .i64 y fun c=>az (aW (c==0) (some ([.bool true],h)) (eh c (List.length a) fun z=>aN (List.drop z (List.take (List.length a) a)) fun x=>aT 81 [.str x,.str [46]] h fun A a0 _x=>bJ A fun B=>some ([.bool !B],a0))) fun i=>bj i.1 fun a2 a3=>bJ a2 fun a4=>bC a3 (aW a4 (some (.tup [.int .u8 5,.int .i64 c])) (aN (IntKind.wrap .i64 (c+1)) fun a5=>eh a5 (List.length a) fun C=>aN (List.drop C (List.take (List.length a) a)) fun D=>aT 80 [.str D,.str [48,49,50,51,52,53,54,55,56,57]] i.2 fun E a9 _x=>bk .i64 E fun d=>aN (IntKind.wrap .i64 (c+d)) fun b0=>aN (IntKind.wrap .i64 (c+1)) fun b1=>aN (IntKind.wrap .i64 (b1+d)) fun b=>aN (IntKind.wrap .i64 (b+1)) fun j=>aN (if (↑(List.length a):Int) < j then (↑(List.length a):Int) else j) fun b2=>eh b2 (List.length a) fun k=>eh b k fun b3=>aN (List.drop b3 (List.take k a)) fun F=>aT 80 [.str F,.str [101,69]] a9 fun G l _x=>bk .i64 G fun H=>az (aW (decide (H > 0)) (aN (IntKind.wrap .i64 (b+1)) fun I=>aN (IntKind.wrap .i64 (b+2)) fun m=>aN (if (↑(List.length a):Int) < m then (↑(List.length a):Int) else m) fun J=>eh J (List.length a) fun n=>eh I n fun K=>aN (List.drop K (List.take n a)) fun c0=>aT 80 [.str c0,.str [43,45]] l fun c1 c2 _x=>bk .i64 c1 fun f=>aN (IntKind.wrap .i64 (b+1)) fun c3=>aN (IntKind.wrap .i64 (c3+f)) fun c4=>eh c4 (List.length a) fun c5=>aN (List.drop c5 (List.take (List.length a) a)) fun L=>aT 80 [.str L,.str [48,49,50,51,52,53,54,55,56,57]] c2 fun M o _x=>bk .i64 M fun g=>az (aW (decide (g > 0)) (aN (IntKind.wrap .i64 (b+1)) fun N=>aN (IntKind.wrap .i64 (b+1)) fun c9=>aN (IntKind.wrap .i64 (c9+f)) fun d0=>aN (IntKind.wrap .i64 (d0+g)) fun d1=>eh d1 (List.length a) fun p=>eh N p fun d2=>aN (List.drop d2 (List.take p a)) fun d3=>aT 84 [.str d3,.str [43]] o fun d4 d5 _x=>dW d4 fun d6=>dK (aV vE) (fO (Prim.lib (jn 164)) [.str d6]) d5 fun q r _x=>gx q fun d7=>cE d7 0 fun d8=>bk .i64 d8 fun d9=>gx q fun O=>cE O 1 fun P=>az (Iv BinOp.neq P) fun Q=>bJ Q fun R=>az (aW R (some ([.int .i64 1073741824],r)) (some ([.int .i64 d9],r))) fun s=>bj s.1 fun S T=>bk .i64 S fun U=>bC T (aN (IntKind.wrap .i64 (b+1)) fun V=>aN (IntKind.wrap .i64 (V+f)) fun W=>aN (IntKind.wrap .i64 (W+g)) fun X=>some ([.int .i64 X,.int .i64 U],Prod.snd s))) (some ([.int .i64 b,.int .i64 0],o))) fun t=>bj t.1 fun f0 f1=>bk .i64 f0 fun f2=>bj f1 fun f3 f4=>bk .i64 f3 fun f5=>bC f4 (some ([.int .i64 f2,.int .i64 f5],Prod.snd t))) (some ([.int .i64 b,.int .i64 0],l))) fun e=>bj e.1 fun f6 f7=>bk .i64 f6 fun u=>bj f7 fun f8 f9=>bk .i64 f8 fun v=>bC f9 (az (aW (decide (b0 > 15)) (some ([.bool true],Prod.snd e)) (aN (IntKind.wrap .i64 (v - d)) fun h0=>aW (decide (h0 < -22)) (some ([.bool true],Prod.snd e)) (aN (IntKind.wrap .i64 (v - d)) fun h1=>some ([.bool (decide (h1 > 22))],Prod.snd e)))) fun h2=>bj h2.1 fun h3 h4=>bJ h3 fun Y=>bC h4 (aW Y (some (.tup [.int .u8 9,.int .i64 u])) (some (.tup [.int .u8 6,.int .i64 u]))))))
theorem Ru (x0:AV):bN vE 59 [x0]=Wn x0:=by kernel_rfl
noncomputable def gA (b:List UInt8):bT->Option (bT ⊕ Nat×bT):=fun c=>bj c.1 fun k l=>bk .u8 k fun d=>bj l fun m n=>bk .i64 m fun e=>bj n fun o p=>bk .i64 o fun a=>bC p (aW (decide (a < (↑(List.length b):Int))) (az (eC b a fun g=>aW ((↑(UInt8.toNat g):Int)==34) (aN (IntKind.wrap .i64 (a+1)) fun q=>some (Sum.inr (Sum.inr (1,[.int .u8 7,.int .i64 q],Prod.snd c)))) (aW ((↑(UInt8.toNat g):Int)==92) (az (aN (IntKind.wrap .i64 (a+1)) fun r=>aW (decide (r < (↑(List.length b):Int))) (aN (IntKind.wrap .i64 (a+1)) fun s=>eC b s fun t=>aT 85 [.str [110,116,92,34],.int .u8 (↑(UInt8.toNat t):Int)] c.2 fun u v _x=>bk .i64 u fun w=>some ([.bool (decide (w>=0))],v)) (some ([.bool false],Prod.snd c))) fun f=>bj f.1 fun y z=>bJ y fun a0=>bC z (aW a0 (aN (IntKind.wrap .i64 (a+1)) fun x=>some (Sum.inl ([.int .i64 x,.int .u8 d,.int .i64 e],Prod.snd f))) (eh a (List.length b) fun a2=>aN (List.drop a2 (List.take (List.length b) b)) fun a3=>aT 85 [.str a3,.int .u8 34] f.2 fun a4 h _x=>bk .i64 a4 fun i=>aW (decide (i>=0)) (aN (IntKind.wrap .i64 (a+i)) fun a5=>aN (IntKind.wrap .i64 (a5+1)) fun A=>some (Sum.inr (Sum.inr (1,[.int .u8 9,.int .i64 A],h)))) (some (Sum.inr (Sum.inr (1,[.int .u8 9,.int .i64 (↑(List.length b):Int)],h))))))) (some (Sum.inl ([.int .i64 a,.int .u8 d,.int .i64 e],Prod.snd c))))) fun B=>iK B fun j=>bj j.1 fun C a9=>bk .i64 C fun b0=>bj a9 fun b1 b2=>bk .u8 b1 fun b3=>bj b2 fun D E=>bk .i64 D fun F=>bC E (aN (IntKind.wrap .i64 (b0+1)) fun G=>some (Sum.inl ([.int .u8 b3,.int .i64 F,.int .i64 G],Prod.snd j)))) (some (Sum.inr (0,[.int .u8 d,.int .i64 e],Prod.snd c))))
noncomputable def U5:AV->Option AV:=fun g=>dW g fun a=>eC a 0 fun h=>aW ((↑(UInt8.toNat h):Int) != 34) (some (.tup [.int .u8 0,.int .i64 0])) (aT 85 [.str a,.int .u8 10] sZ fun i b _x=>bk .i64 i fun c=>az (aW (decide (c>=0)) (eh c (List.length a) fun j=>aN (List.drop 0 (List.take j a)) fun k=>some ([.str k],b)) (some ([.str a],b))) fun d=>bj d.1 fun l m=>dW l fun e=>bC m (az (aK (gA e) ([.int .u8 0,.int .i64 0,.int .i64 1],Prod.snd d)) fun f=>bj f.2.1 fun n o=>bk .u8 n fun p=>bj o fun q r=>bk .i64 q fun s=>bC r (lC f.1 (some (.tup [.int .u8 9,.int .i64 (↑(List.length e):Int)])) fun _x=>some (.tup [.int .u8 p,.int .i64 s]))))
theorem Ra (x0:AV):bN vE 60 [x0]=U5 x0:=by kernel_rfl
noncomputable def Uw:AV->Option AV:=fun o=>dW o fun b=>az (aW (decide ((↑(List.length b):Int) > 1)) (bM (Nat.ble 2 (List.length b)) (aN (List.drop 0 (List.take 2 b)) fun a=>az (aW (a==[45,62]) (some ([.bool (a==[45,62])],sZ)) (az (aW (a==[58,58]) (some ([.bool (a==[58,58])],sZ)) (az (aW (a==[60,62]) (some ([.bool (a==[60,62])],sZ)) (az (aW (a==[60,61]) (some ([.bool (a==[60,61])],sZ)) (az (aW (a==[62,61]) (some ([.bool (a==[62,61])],sZ)) (az (aW (a==[43,46]) (some ([.bool (a==[43,46])],sZ)) (az (aW (a==[45,46]) (some ([.bool (a==[45,46])],sZ)) (az (aW (a==[42,46]) (some ([.bool (a==[42,46])],sZ)) (az (aW (a==[47,46]) (some ([.bool (a==[47,46])],sZ)) (az (aW (a==[38,38]) (some ([.bool (a==[38,38])],sZ)) (some ([.bool (a==[124,124])],sZ))) fun c=>bj c.1 fun p q=>bJ p fun r=>bC q (some ([.bool r],Prod.snd c)))) fun d=>bj d.1 fun s t=>bJ s fun u=>bC t (some ([.bool u],Prod.snd d)))) fun e=>bj e.1 fun v w=>bJ v fun y=>bC w (some ([.bool y],Prod.snd e)))) fun f=>bj f.1 fun z a0=>bJ z fun x=>bC a0 (some ([.bool x],Prod.snd f)))) fun g=>bj g.1 fun a2 a3=>bJ a2 fun a4=>bC a3 (some ([.bool a4],Prod.snd g)))) fun h=>bj h.1 fun a5 A=>bJ a5 fun B=>bC A (some ([.bool B],Prod.snd h)))) fun i=>bj i.1 fun C a9=>bJ C fun b0=>bC a9 (some ([.bool b0],Prod.snd i)))) fun j=>bj j.1 fun b1 b2=>bJ b1 fun b3=>bC b2 (some ([.bool b3],Prod.snd j)))) fun k=>bj k.1 fun D E=>bJ D fun F=>bC E (some ([.bool F],Prod.snd k)))) fun l=>bj l.1 fun G H=>bJ G fun I=>bC H (aW I (some (Sum.inr (.tup [.int .u8 8,.int .i64 2]))) (some (Sum.inl ([.int .u8 0,.int .i64 0],Prod.snd l)))))) (some (Sum.inl ([.int .u8 0,.int .i64 0],sZ)))) fun c0=>iK c0 fun m=>bj m.1 fun c1 c2=>bk .u8 c1 fun _x=>bj c2 fun c3 c4=>bk .i64 c3 fun _x=>bC c4 (bM (Nat.ble 1 (List.length b)) (aN (List.drop 0 (List.take 1 b)) fun c5=>aT 80 [.str c5,.str [40,41,91,93,44,59,124,61,60,62,43,45,42,47,94,64]] m.2 fun J _x _x_1=>bk .i64 J fun n=>aN (if n < 1 then n else 1) fun K=>some (.tup [.int .u8 8,.int .i64 K])))
theorem QI (x0:AV):bN vE 61 [x0]=Uw x0:=by kernel_rfl
noncomputable def VI:AV->Option AV:=fun b=>dW b fun c=>aT 86 [.str c] sZ fun a _x _x_1=>gx a fun d=>cE d 0 fun e=>bk .i64 e fun _x=>gx a fun f=>cE f 1 fun g=>bk .i64 g fun h=>some (.tup [.int .u8 9,.int .i64 h])
theorem PZ (x0:AV):bN vE 62 [x0]=VI x0:=by kernel_rfl
noncomputable def yh (b:AV) (st:St):bT->Option (bT ⊕ Nat×bT):=fun a=>bj a.1 fun f g=>bk .i64 f fun e=>bj g fun i j=>bk .i64 i fun c=>bC j (bM (notNil b) (bF 0 b fun k=>al 1 false k a.2 fun l _x=>fc l fun m=>aW (decide (c < (↑m:Int))) (bM (notNil b) (bF 0 b fun n=>al 1 false n a.2 fun o _x=>bU 2 o c a.2 fun p _x=>al 2 true p a.2 fun q _x=>dH q fun r s=>(aT 87 [.agg [.int .u8 r,.str s]] a.2 fun t d _x=>bJ t fun u=>aW (!u) (bM (notNil b) (bF 0 b fun v=>al 1 false v d fun w _x=>bU 2 w c d fun y _x=>al 2 true y d fun z _x=>dH z fun a0 x=>(dj 2 (.mp (St.h st) 0) [.int .u8 a0,.str x] d fun _x a2 _x_1=>some (Sum.inr (1,[.int .i64 c],a2))))) (aN (IntKind.wrap .i64 (c+1)) fun a3=>some (Sum.inl ([.int .i64 e,.int .i64 a3],d)))))) (some (Sum.inr (0,[.int .i64 e],Prod.snd a)))))
noncomputable def Ux:AV->St->Option (AV×St):=fun b st=>bh (St.add st (VM.Obj.cells 24 [.int .u8 0,.str []])) fun d=>bM (notNil b) (bF 1 b fun f=>al 1 false f d fun g _x=>bk .i64 g fun i=>az (aK (yh b st) ([.int .i64 0,.int .i64 i],d)) fun a=>bj a.2.1 fun j k=>bk .i64 j fun l=>bC k (lC a.1 (bM (notNil b) (bF 0 b fun m=>al 1 false m a.2.2 fun n o=>fc n fun p=>dj 2 (.mp (St.h st) 0) [.int .u8 0,.str []] a.2.2 fun _x e c=>bM (apart (⟨[],.kept⟩) c&&(apart (Fx.mk o dO.kept) c&&(apart (⟨[],.kept⟩) c&&(apart (⟨[],.kept⟩) c&&(apart (⟨[],.kept⟩) c&&true))))) (al 2 true (.mp (St.h st) 0) e fun q _x=>dH q fun r s=>(some (.tup [.agg [.int .u8 r,.str s],.int .i64 (↑p:Int)],e))))) fun _x=>al 2 true (.mp (St.h st) 0) a.2.2 fun t _x=>dH t fun u v=>(some (.tup [.agg [.int .u8 u,.str v],.int .i64 l],Prod.snd a.2))))
theorem LR (x0:AV) (st:St):cA vE 63 [x0] st=Ux x0 st:=by kernel_rfl
noncomputable def Um:AV->AV->St->Option (AV×St):=fun f c st=>aT 63 [f] st fun d b _x=>gx d fun g=>cE g 0 fun i=>dH i fun j k=>(gx d fun l=>cE l 1 fun m=>bk .i64 m fun _x=>bh (St.add b (VM.Obj.cells 24 [.int .u8 0,.str []])) fun n=>dj 2 (.mp (St.h b) 0) [.int .u8 j,.str k] n fun _x a _x_1=>az (al 1 false (.mp (St.h b) 0) a fun o _x=>bk .u8 o fun p=>aW (p==3) (al 1 false (.mp (St.h b) 1) a fun q _x=>dW q fun r=>aT 88 [c,.str r] a fun s t _x=>bJ s fun u=>some ([.bool u],t)) (al 1 false (.mp (St.h b) 0) a fun v _x=>bk .u8 v fun w=>aW (w==8) (al 1 false (.mp (St.h b) 1) a fun y _x=>dW y fun z=>aT 88 [c,.str z] a fun a0 x _x=>bJ a0 fun a2=>some ([.bool a2],x)) (some ([.bool false],a)))) fun e=>bj e.1 fun a3 a4=>bJ a3 fun a5=>bC a4 (some (.bool a5,Prod.snd e)))
theorem O7 (x0 x1:AV) (st:St):cA vE 64 [x0,x1] st=Um x0 x1 st:=by kernel_rfl
noncomputable def zz (e:St) (i:AV) (j:Nat):bT->Option (bT ⊕ Nat×bT):=fun a=>bj a.1 fun k l=>bk .i64 k fun b=>bC l (aW (decide (b < (↑j:Int))) (bU 2 i b a.2 fun m _x=>al 2 true m a.2 fun n _x=>dH n fun f g=>(bh (St.add a.2 (VM.Obj.cells 24 [.int .u8 0,.str []])) fun o=>aM (aV vE) 2 (.mp (St.h a.2) 0) (.agg [.int .u8 f,.str g]) [.int .u8 f,.str g] o fun _x c _x_1=>al 1 false (.mp (St.h e) 3) c fun p _x=>al 2 true (.mp (St.h a.2) 0) c fun q _x=>dH q fun r s=>(cT 4 56 27 p [nA 1 r s .ay] c fun d t _x=>ab d (ab d (iU (.mp (St.h e) 3) d t fun _x u _x_2=>aN (IntKind.wrap .i64 (b+1)) fun v=>some (Sum.inl ([.int .i64 v],u))))))) (some (Sum.inr (0,[],Prod.snd a))))
noncomputable def Wa:AV->St->Option (AV×St):=fun a st=>bh (St.add st (VM.Obj.cells 27 (nC 0 0 [] .ay))) fun p=>aT 63 [a] p fun f c _x=>gx f fun q=>cE q 0 fun r=>dH r fun s t=>(gx f fun u=>cE u 1 fun v=>bk .i64 v fun g=>bh (St.add c (VM.Obj.cells 24 [.int .u8 0,.str []])) fun w=>dj 2 (.mp (St.h c) 0) [.int .u8 s,.str t] w fun _x b _x_1=>al 2 true (.mp (St.h c) 0) b fun y _x=>dH y fun z a0=>(bh (St.add b (VM.Obj.cells 27 (nC 0 0 [] .ay))) fun x=>dj 4 (.mp (St.h b) 0) (nC 1 z a0 .ay) x fun _x d _x_2=>bM (notNil a) (bF 0 a fun a2=>al 1 false a2 d fun a3 _x=>bM (notNil a) (bF 1 a fun a4=>al 1 false a4 d fun a5 _x=>bk .i64 a5 fun A=>gi 2 a3 (some A) (some g) none fun i=>fc i fun B=>az (aK (zz b i B) ([.int .i64 0],d)) fun e=>bC e.2.1 (aN (IntKind.wrap .i64 (g+1)) fun j=>bM (notNil a) (bF 0 a fun C=>al 1 false C e.2.2 fun a9 _x=>fc a9 fun k=>aN (if (↑k:Int) < j then (↑k:Int) else j) fun l=>bM (notNil a) (bF 1 a fun b0=>aM (aV vE) 1 b0 (.int .i64 l) [.int .i64 l] e.2.2 fun _x m _x_3=>al 4 true (.mp (St.h b) 0) m fun b1 _x=>ah b1 fun b2 b3 D n=>(ab n (dj 4 (.mp (St.h st) 0) (nC b2 b3 D n) m fun _x o _x_4=>al 4 true (.mp (St.h st) 0) o fun E _x=>ah E fun F G H I=>(some (nA F G H I,o)))))))))))
theorem Q8 (x0:AV) (st:St):cA vE 65 [x0] st=Wa x0 st:=by kernel_rfl
noncomputable def vq (b:AV):bT->Option (bT ⊕ Nat×bT):=fun c=>bj c.1 fun d g=>bC g (aT 89 [b,.int .u8 5,.str [95]] c.2 fun h e _x=>bJ h fun i=>aW i (aT 90 [b,.bool true] e fun j k _x=>ah j fun l m n a=>(ab a (ab a (aD a fun f=>ab f (aD f fun o=>cT 4 56 27 d [nA l m n o] k fun p q _x=>some (Sum.inl ([p],q))))))) (some (Sum.inr (0,[d],e))))
noncomputable def VT:AV->St->Option (AV×St):=fun a st=>aT 64 [a,.sl 1 [.str [114,101,99]] .shut] st fun v j _x=>bJ v fun w=>az (aW w (aT 65 [a] j fun y k _x=>ah y fun z a0 x b=>(ab b (ab b (aD b fun l=>ab l (aD l fun a2=>bh (St.add k (Obj.tok 1 27)) fun a3=>some ([.sl 4 [nA z a0 x a2] (Perm.own (St.h k))],a3)))))) (some ([.ay],j))) fun m=>bj m.1 fun n a4=>bC a4 (aT 63 [a] m.2 fun o c _x=>gx o fun a5=>cE a5 0 fun A=>dH A fun B C=>(gx o fun a9=>cE a9 1 fun b0=>bk .i64 b0 fun _x=>bh (St.add c (VM.Obj.cells 24 [.int .u8 0,.str []])) fun b1=>dj 2 (.mp (St.h c) 0) [.int .u8 B,.str C] b1 fun _x d _x_1=>al 1 false (.mp (St.h c) 0) d fun b2 _x=>bk .u8 b2 fun b3=>az (aW (b3==4) (aT 65 [a] d fun D E _x=>ah D fun F G H e=>(ab e (ab e (aD e fun p=>ab p (aD p fun I=>cT 4 56 27 n [nA F G H I] E fun c0 c1 _x=>az (aK (vq a) ([c0],c1)) fun q=>bj q.2.1 fun c2 c3=>bC c3 (some ([c2],Prod.snd q.2))))))) (aT 90 [a,.bool true] d fun c4 c5 _x=>ah c4 fun J K L f=>(ab f (ab f (aD f fun r=>ab r (aD r fun c9=>cT 4 56 27 n [nA J K L c9] c5 fun d0 d1 _x=>some ([d0],d1))))))) fun s=>bj s.1 fun d2 d3=>bC d3 (aT 91 [a,.str [61]] s.2 fun d4 d5 _x=>ah d4 fun d6 d7 d8 g=>(aT 92 [a] d5 fun d9 M _x=>ah d9 fun N O P i=>(ab g (ab i (ab g (aD g fun t=>ab i (aD i fun u=>ab t (aD t fun Q=>ab u (aD u fun R=>cT 4 56 27 d2 [nA d6 d7 d8 Q,nA N O P R] M fun S T _x=>some (oneOf [S],T))))))))))))
theorem P0 (x0:AV) (st:St):cA vE 66 [x0] st=VT x0 st:=by kernel_rfl
noncomputable def uQ (e:AV) (f:AV) (g:Nat):bT->Option (bT ⊕ Nat×bT):=fun a=>bj a.1 fun h i=>bk .i64 h fun c=>bj i fun j k=>bk .i64 j fun b=>bC k (aW (decide (b < (↑g:Int))) (bU 4 e b a.2 fun l _x=>al 4 true l a.2 fun m _x=>ah m fun n o p q=>(kK (aV vE) (Sx.prim (sx vE 67)) f [nA n o p q] a.2 fun r d _x=>bJ r fun s=>aW s (some (Sum.inr (1,[.int .i64 b],d))) (aN (IntKind.wrap .i64 (b+1)) fun t=>some (Sum.inl ([.int .i64 c,.int .i64 t],d))))) (some (Sum.inr (0,[.int .i64 c],Prod.snd a))))
noncomputable def UT:AV->AV->Option AV:=fun a c=>fc a fun d=>az (aK (uQ a c d) ([.int .i64 0,.int .i64 0],sZ)) fun b=>bj b.2.1 fun e f=>bk .i64 e fun g=>bC f (lC b.1 (some (.int .i64 (-1))) fun _x=>some (.int .i64 g))
theorem J6 (x0 x1:AV):bN vE 67 [x0,x1]=UT x0 x1:=by kernel_rfl
noncomputable def zt (c:List UInt8):bT->Option (bT ⊕ Nat×bT):=fun a=>bj a.1 fun e f=>bk .i64 e fun d=>bj f fun g h=>bk .i64 g fun b=>bC h (aW (decide (b < (↑(List.length c):Int))) (aN (IntKind.wrap .i64 (d * 64)) fun i=>eC c b fun j=>aN (IntKind.wrap .i64 (↑(UInt8.toNat j):Int)) fun k=>aN (IntKind.wrap .i64 (i+k)) fun l=>aN (IntKind.wrap .i64 (l - 128)) fun m=>aN (IntKind.wrap .i64 (b+1)) fun n=>some (Sum.inl ([.int .i64 m,.int .i64 n],Prod.snd a))) (some (Sum.inr (0,[.int .i64 d],Prod.snd a))))
noncomputable def Uy:AV->Option AV:=fun b=>dW b fun a=>aW ((↑(List.length a):Int)==1) (eC a 0 fun c=>aN (IntKind.wrap .i64 (↑(UInt8.toNat c):Int)) fun d=>some (.int .i64 d)) (eC a 0 fun e=>aN (IntKind.wrap .i64 (↑(UInt8.toNat e):Int)) fun f=>bU 1 (.sl 1 [.int .i64 0,.int .i64 0,.int .i64 192,.int .i64 224,.int .i64 240] .shut) (↑(List.length a):Int) sZ fun g _x=>al 1 false g sZ fun h _x=>bk .i64 h fun i=>aN (IntKind.wrap .i64 (f - i)) fun j=>az (aK (zt a) ([.int .i64 j,.int .i64 1],sZ)) fun k=>bj k.2.1 fun l m=>bk .i64 l fun n=>bC m (some (.int .i64 n)))
theorem Ry (x0:AV):bN vE 71 [x0]=Uy x0:=by kernel_rfl
noncomputable def VS:AV->Option AV:=fun b=>bk .i64 b fun a=>az (aW (decide (a < 0)) (some ([.bool true],sZ)) (aW (decide (a > 1114111)) (some ([.bool true],sZ)) (aW (decide (a>=55296)) (some ([.bool (decide (a<=57343))],sZ)) (some ([.bool false],sZ))))) fun c=>bj c.1 fun d e=>bJ d fun f=>bC e (aW f (some (.str [])) (aW (decide (a < 128)) (aN (IntKind.wrap .u8 a) fun g=>aN [UInt8.ofNat (Int.toNat g)] fun h=>some (.str h)) (aW (decide (a < 2048)) (aN (IntKind.wrap .i64 (Int.tdiv a 64)) fun i=>aN (IntKind.wrap .i64 (192+i)) fun j=>aN (IntKind.wrap .u8 j) fun k=>aN (Int.tmod a 64) fun l=>aN (IntKind.wrap .i64 (128+l)) fun m=>aN (IntKind.wrap .u8 m) fun n=>aN [UInt8.ofNat (Int.toNat k),UInt8.ofNat (Int.toNat n)] fun o=>some (.str o)) (aW (decide (a < 65536)) (aN (IntKind.wrap .i64 (Int.tdiv a 4096)) fun p=>aN (IntKind.wrap .i64 (224+p)) fun q=>aN (IntKind.wrap .u8 q) fun r=>aN (IntKind.wrap .i64 (Int.tdiv a 64)) fun s=>aN (Int.tmod s 64) fun t=>aN (IntKind.wrap .i64 (128+t)) fun u=>aN (IntKind.wrap .u8 u) fun v=>aN (Int.tmod a 64) fun w=>aN (IntKind.wrap .i64 (128+w)) fun y=>aN (IntKind.wrap .u8 y) fun z=>aN [UInt8.ofNat (Int.toNat r),UInt8.ofNat (Int.toNat v),UInt8.ofNat (Int.toNat z)] fun a0=>some (.str a0)) (aN (IntKind.wrap .i64 (Int.tdiv a 262144)) fun x=>aN (IntKind.wrap .i64 (240+x)) fun a2=>aN (IntKind.wrap .u8 a2) fun a3=>aN (IntKind.wrap .i64 (Int.tdiv a 4096)) fun a4=>aN (Int.tmod a4 64) fun a5=>aN (IntKind.wrap .i64 (128+a5)) fun A=>aN (IntKind.wrap .u8 A) fun B=>aN (IntKind.wrap .i64 (Int.tdiv a 64)) fun C=>aN (Int.tmod C 64) fun a9=>aN (IntKind.wrap .i64 (128+a9)) fun b0=>aN (IntKind.wrap .u8 b0) fun b1=>aN (Int.tmod a 64) fun b2=>aN (IntKind.wrap .i64 (128+b2)) fun b3=>aN (IntKind.wrap .u8 b3) fun D=>aN [UInt8.ofNat (Int.toNat a3),UInt8.ofNat (Int.toNat B),UInt8.ofNat (Int.toNat b1),UInt8.ofNat (Int.toNat D)] fun E=>some (.str E))))))
theorem PV (x0:AV):bN vE 72 [x0]=VS x0:=by kernel_rfl
noncomputable def Vy:AV->AV->Option AV:=fun b c=>dW b fun a=>dW c fun d=>dK (aV vE) (fO (Prim.lib gZ) [.str a,.str d]) sZ fun e _x _x_1=>dW e fun f=>aN (IntKind.wrap .i64 ((↑(List.length a):Int) - (↑(List.length f):Int))) fun g=>some (.int .i64 g)
theorem P6 (x0 x1:AV):bN vE 80 [x0,x1]=Vy x0 x1:=by kernel_rfl
noncomputable def V6:AV->AV->Option AV:=fun a b=>dW a fun c=>dW b fun d=>aT 110 [.str c,.str d] sZ fun e _x _x_1=>bJ e fun f=>some (.bool f)
theorem Qd (x0 x1:AV):bN vE 81 [x0,x1]=V6 x0 x1:=by kernel_rfl
noncomputable def Wc:AV->AV->Option AV:=fun a b=>dW a fun c=>dW b fun d=>aT 114 [.str c,.str d] sZ fun e _x _x_1=>dW e fun f=>some (.str f)
theorem QU (x0 x1:AV):bN vE 84 [x0,x1]=Wc x0 x1:=by kernel_rfl
noncomputable def VG:AV->AV->Option AV:=fun a b=>dW a fun c=>bk .u8 b fun d=>aT 115 [.str c,.int .u8 d] sZ fun e _x _x_1=>bk .i64 e fun f=>some (.int .i64 f)
theorem RG (x0 x1:AV):bN vE 85 [x0,x1]=VG x0 x1:=by kernel_rfl
noncomputable def Uj:AV->Option AV:=fun f=>dW f fun a=>aW (a==[]) (some (.tup [.int .i64 (-1),.int .i64 0])) (dK (aV vE) (fO (Prim.lib jS) [.str a]) sZ fun b c _x=>gx b fun g=>cE g 0 fun h=>bk .i32 h fun d=>gx b fun i=>cE i 1 fun j=>bk .i64 j fun e=>az (aW (d==65533) (some ([.bool (decide (e < 2))],c)) (some ([.bool false],c))) fun k=>bj k.1 fun l m=>bJ l fun n=>bC m (aW n (some (.tup [.int .i64 (-1),.int .i64 1])) (aN (IntKind.wrap .i64 d) fun o=>some (.tup [.int .i64 o,.int .i64 e]))))
theorem LK (x0:AV):bN vE 86 [x0]=Uj x0:=by kernel_rfl
noncomputable def UG:AV->Option AV:=fun b=>dH b fun a _x=>(az (aW (a==1) (some ([.bool true],sZ)) (some ([.bool (a==2)],sZ))) fun c=>bj c.1 fun d e=>bJ d fun f=>bC e (some (.bool f)))
theorem QB (x0:AV):bN vE 87 [x0]=UG x0:=by kernel_rfl
noncomputable def Ws:AV->AV->Option AV:=fun a b=>dW b fun c=>aT 117 [a,.str c] sZ fun d _x _x_1=>bk .i64 d fun e=>some (.bool (decide (e>=0)))
theorem QX (x0 x1:AV):bN vE 88 [x0,x1]=Ws x0 x1:=by kernel_rfl
noncomputable def Vf:AV->AV->AV->St->Option (AV×St):=fun e k l st=>bk .u8 k fun m=>dW l fun n=>aT 63 [e] st fun f c _x=>gx f fun o=>cE o 0 fun p=>dH p fun q r=>(gx f fun s=>cE s 1 fun t=>bk .i64 t fun _x=>bh (St.add c (VM.Obj.cells 24 [.int .u8 0,.str []])) fun u=>dj 2 (.mp (St.h c) 0) [.int .u8 q,.str r] u fun _x b _x_1=>al 1 false (.mp (St.h c) 0) b fun v _x=>bk .u8 v fun a=>az (aW (a==4) (some ([.bool (a==4)],b)) (az (aW (a==5) (some ([.bool (a==5)],b)) (az (aW (a==7) (some ([.bool (a==7)],b)) (az (aW (a==9) (some ([.bool (a==9)],b)) (some ([.bool (a==m)],b))) fun g=>bj g.1 fun w y=>bJ w fun z=>bC y (some ([.bool z],Prod.snd g)))) fun i=>bj i.1 fun a0 x=>bJ a0 fun a2=>bC x (some ([.bool a2],Prod.snd i)))) fun j=>bj j.1 fun a3 a4=>bJ a3 fun a5=>bC a4 (some ([.bool a5],Prod.snd j)))) fun d=>bj d.1 fun A B=>bJ A fun C=>bC B (aW C (some (.bool true,Prod.snd d)) (aT 64 [e,.sl 1 [.str [116,114,117,101],.str [102,97,108,115,101],.str [40],.str [91],.str n] .shut] d.2 fun a9 b0 _x=>bJ a9 fun b1=>some (.bool b1,b0))))
theorem KA (x0 x1 a:AV) (st:St):cA vE 89 [x0,x1,a] st=Vf x0 x1 a st:=by kernel_rfl
noncomputable def Wu:AV->AV->St->Option (AV×St):=fun a u st=>bJ u fun v=>bh (St.add st (VM.Obj.cells 27 (nC 0 0 [] .ay))) fun e=>az (aW v (some ([.str [112,97,116,116,101,114,110],.int .u8 17,.int .u8 18,.str [95],.fn (Fn.func 118) [a] [],.int .u8 5],e)) (some ([.str [101,120,112,114],.int .u8 14,.int .u8 15,.str [40],.fn (Fn.func 92) [a] [],.int .u8 6],e))) fun f=>bj f.1 fun w y=>dW w fun z=>bj y fun v6 x=>bk .u8 v6 fun A=>bj x fun v9 a0=>bk .u8 v9 fun B=>bj a0 fun a2 a3=>dW a2 fun a4=>bj a3 fun g a5=>bj a5 fun C D=>bk .u8 C fun E=>bC D (aT 63 [a] f.2 fun i c _x=>gx i fun a9=>cE a9 0 fun b0=>dH b0 fun b1 b2=>(gx i fun b3=>cE b3 1 fun F=>bk .i64 F fun _x=>bh (St.add c (VM.Obj.cells 24 [.int .u8 0,.str []])) fun G=>dj 2 (.mp (St.h c) 0) [.int .u8 b1,.str b2] G fun _x H _x_1=>aT 89 [a,.int .u8 E,.str a4] H fun I b _x=>bJ I fun J=>aW (!J) (aT 119 [.str z] b fun K c0 _x=>ah K fun c1 c2 c3 j=>(ab j (dj 4 (.mp (St.h st) 0) (nC c1 c2 c3 j) c0 fun _x k _x_2=>al 4 true (.mp (St.h st) 0) k fun c4 _x=>ah c4 fun c5 L M N=>(some (nA c5 L M N,k))))) (al 1 false (.mp (St.h c) 0) b fun c9 _x=>bk .u8 c9 fun d0=>aW (d0==9) (aT 65 [a] b fun d1 d2 _x=>ah d1 fun d3 d4 d5 d=>(ab d (ab d (aD d fun d6=>dj 4 (.mp (St.h st) 0) [.int .u8 3,.int .u8 0,.str [],.sl 4 [nA d3 d4 d5 d6] .shut] d2 fun _x l _x_2=>al 4 true (.mp (St.h st) 0) l fun d7 _x=>ah d7 fun d8 d9 O P=>(some (nA d8 d9 O P,l)))))) (aT 64 [a,.sl 1 [.str [40]] .shut] b fun Q m _x=>bJ Q fun R=>aW R (aT 120 [a,.int .u8 A,.str [44],.str [41],g] m fun S T _x=>ah S fun U V W n=>(ab n (dj 4 (.mp (St.h st) 0) (nC U V W n) T fun _x o _x_2=>al 4 true (.mp (St.h st) 0) o fun X _x=>ah X fun f0 f1 f2 f3=>(some (nA f0 f1 f2 f3,o))))) (aT 64 [a,.sl 1 [.str [91]] .shut] m fun f4 p _x=>bJ f4 fun f5=>aW f5 (aT 120 [a,.int .u8 B,.str [59],.str [93],g] p fun f6 f7 _x=>ah f6 fun f8 f9 h0 q=>(ab q (dj 4 (.mp (St.h st) 0) (nC f8 f9 h0 q) f7 fun _x r _x_2=>al 4 true (.mp (St.h st) 0) r fun h1 _x=>ah h1 fun h2 h3 h4 Y=>(some (nA h2 h3 h4 Y,r))))) (aT 65 [a] p fun Z h7 _x=>ah Z fun h8 h9 i0 s=>(ab s (dj 4 (.mp (St.h st) 0) (nC h8 h9 i0 s) h7 fun _x t _x_2=>al 4 true (.mp (St.h st) 0) t fun i1 _x=>ah i1 fun i2 i3 i4 i5=>(some (nA i2 i3 i4 i5,t))))))))))
theorem Rm (x0 x1:AV) (st:St):cA vE 90 [x0,x1] st=Wu x0 x1 st:=by kernel_rfl
noncomputable def Va:AV->AV->St->Option (AV×St):=fun a i st=>dW i fun b=>bh (St.add st (VM.Obj.cells 27 (nC 0 0 [] .ay))) fun j=>aT 64 [a,.sl 1 [.str b] .shut] j fun k c _x=>bJ k fun l=>aW l (aT 65 [a] c fun m n _x=>ah m fun o p q d=>(ab d (dj 4 (.mp (St.h st) 0) (nC o p q d) n fun _x e _x_1=>al 4 true (.mp (St.h st) 0) e fun r _x=>ah r fun s t u v=>(some (nA s t u v,e))))) (aT 119 [.str b] c fun w y _x=>ah w fun z a0 x f=>(ab f (dj 4 (.mp (St.h st) 0) (nC z a0 x f) y fun _x g _x_1=>al 4 true (.mp (St.h st) 0) g fun a2 _x=>ah a2 fun a3 a4 a5 A=>(some (nA a3 a4 a5 A,g)))))
theorem KZ (x0 x1:AV) (st:St):cA vE 91 [x0,x1] st=Va x0 x1 st:=by kernel_rfl
noncomputable def Wg:AV->St->Option (AV×St):=fun a st=>bh (St.add st (VM.Obj.cells 27 (nC 0 0 [] .ay))) fun d=>aT 121 [a,.str [101,120,112,114],.fn (Fn.func 122) [a] []] d fun e f _x=>ah e fun g i j b=>(ab b (dj 4 (.mp (St.h st) 0) (nC g i j b) f fun _x c _x_1=>al 4 true (.mp (St.h st) 0) c fun k _x=>ah k fun l m n o=>(some (nA l m n o,c))))
theorem Pv (x0:AV) (st:St):cA vE 92 [x0] st=Wg x0 st:=by kernel_rfl
noncomputable def PX:AV->AV->Option AV:=fun c d=>dW c fun b=>dW d fun a=>az (aW (decide ((↑(List.length b):Int)>=(↑(List.length a):Int))) (bM (Nat.ble (List.length a) (List.length b)) (aN (List.drop 0 (List.take (List.length a) b)) fun e=>some ([.bool (e==a)],sZ))) (some ([.bool false],sZ))) fun f=>bj f.1 fun g h=>bJ g fun i=>bC h (some (.bool i))
theorem MA (x0 x1:AV):bN vE 110 [x0,x1]=PX x0 x1:=by kernel_rfl
noncomputable def Tu:AV->AV->Option AV:=fun c d=>dW c fun a=>dW d fun b=>aT 110 [.str a,.str b] sZ fun e _x _x_1=>bJ e fun f=>aW f (bM (Nat.ble (List.length b) (List.length a)) (aN (List.drop (List.length b) (List.take (List.length a) a)) fun g=>some (.str g))) (some (.str a))
theorem Mq (x0 x1:AV):bN vE 114 [x0,x1]=Tu x0 x1:=by kernel_rfl
noncomputable def Sj:AV->AV->Option AV:=fun a b=>dW a fun c=>bk .u8 b fun d=>dK (aV vE) (fO Prim.indexByte [.str c,.int .u8 d]) sZ fun e _x _x_1=>bk .i64 e fun f=>some (.int .i64 f)
theorem Nh (x0 x1:AV):bN vE 115 [x0,x1]=Sj x0 x1:=by kernel_rfl
noncomputable def qC (d:AV) (e:List UInt8) (f:Nat):bT->Option (bT ⊕ Nat×bT):=fun a=>bj a.1 fun g h=>bk .i64 g fun c=>bj h fun i j=>bk .i64 i fun b=>bC j (aW (decide (b < (↑f:Int))) (bU 1 d b a.2 fun k _x=>al 1 false k a.2 fun l _x=>dW l fun m=>aW (e==m) (some (Sum.inr (1,[.int .i64 b],Prod.snd a))) (aN (IntKind.wrap .i64 (b+1)) fun n=>some (Sum.inl ([.int .i64 c,.int .i64 n],Prod.snd a)))) (some (Sum.inr (0,[.int .i64 c],Prod.snd a))))
noncomputable def RC:AV->AV->Option AV:=fun a c=>dW c fun d=>fc a fun e=>az (aK (qC a d e) ([.int .i64 0,.int .i64 0],sZ)) fun b=>bj b.2.1 fun f g=>bk .i64 f fun h=>bC g (lC b.1 (some (.int .i64 (-1))) fun _x=>some (.int .i64 h))
theorem HB (x0 x1:AV):bN vE 117 [x0,x1]=RC x0 x1:=by kernel_rfl
noncomputable def Tp:AV->St->Option (AV×St):=fun a st=>ab a (ab a (bh (St.add st (VM.Obj.cells 75 [a])) fun b=>bh (St.add b (VM.Obj.cells 27 (nC 0 0 [] .ay))) fun c=>al 1 false (.mp (St.h st) 0) c fun f _x=>aT 121 [f,.str [112,97,116,116,101,114,110],.fn (Fn.func 142) [] [.mp (St.h st) 0]] c fun g i _x=>ah g fun j k l d=>(ab d (dj 4 (.mp (St.h b) 0) (nC j k l d) i fun _x e _x_1=>al 4 true (.mp (St.h b) 0) e fun m _x=>ah m fun n o p q=>(some (nA n o p q,e))))))
theorem Nw (x0:AV) (st:St):cA vE 118 [x0] st=Tp x0 st:=by kernel_rfl
noncomputable def SN:AV->Option AV:=fun a=>dW a fun b=>some (nA 2 0 b .ay)
theorem Mr (x0:AV):bN vE 119 [x0]=SN x0:=by kernel_rfl
noncomputable def mu (g:AV) (o:AV) (p:List UInt8) (a:St):bT->Option (bT ⊕ Nat×bT):=fun i=>bC i.1 (aT 64 [g,.sl 1 [.str p] .shut] i.2 fun q b _x=>bJ q fun r=>aW r (al 1 false (.mp (St.h a) 3) b fun s t=>aT 65 [g] b fun u v j=>ah u fun w y z c=>(bM (apart (Fx.mk t dO.kept) j&&(apart (⟨[],.kept⟩) j&&true)) (ab c (ab c (aD c fun k=>ab k (aD k fun a0=>cT 4 56 27 s [nA w y z a0] v fun d x _x=>ab d (ab d (iU (.mp (St.h a) 3) d x fun _x l _x_1=>al 1 false (.mp (St.h a) 3) l fun a2 a3=>kK (aV vE) (Sx.prim (sx vE 120)) o [] l fun a4 a5 m=>ah a4 fun A B C e=>(bM (apart (Fx.mk a3 dO.kept) m&&(apart (⟨[],.kept⟩) m&&true)) (ab e (ab e (aD e fun n=>ab n (aD n fun a9=>cT 4 56 27 a2 [nA A B C a9] a5 fun f b0 _x=>ab f (ab f (iU (.mp (St.h a) 3) f b0 fun _x b1 _x_2=>some (Sum.inl ([],b1))))))))))))))))) (some (Sum.inr (0,[],b))))
noncomputable def Ss:AV->AV->AV->AV->AV->St->Option (AV×St):=fun b x1 x A m st=>bk .u8 x1 fun n0=>dW x fun l1=>dW A fun n=>bh (St.add st (VM.Obj.cells 27 (nC 0 0 [] .ay))) fun B=>aT 65 [b] B fun v4 a _x=>ah v4 fun a2 a3 a4 d=>(ab d (ab d (aD d fun a5=>bh (St.add a (VM.Obj.cells 27 (nC 0 0 [] .ay))) fun C=>dj 4 (.mp (St.h a) 0) [.int .u8 n0,.int .u8 0,.str [],.sl 4 [nA a2 a3 a4 a5] .shut] C fun _x D _x_1=>aT 64 [b,.sl 1 [.str n] .shut] D fun E c _x=>bJ E fun a9=>aW a9 (al 1 false (.mp (St.h a) 3) c fun b0 b1=>aT 65 [b] c fun b2 b3 o=>ah b2 fun F G H e=>(bM (apart (Fx.mk b1 dO.kept) o&&(apart (⟨[],.kept⟩) o&&true)) (ab e (ab e (aD e fun p=>ab p (aD p fun I=>cT 4 56 27 b0 [nA F G H I] b3 fun f J _x=>ab f (ab f (iU (.mp (St.h a) 3) f J fun _x q _x_2=>al 4 true (.mp (St.h a) 0) q fun K _x=>ah K fun c0 c1 c2 r=>(ab r (dj 4 (.mp (St.h st) 0) (nC c0 c1 c2 r) q fun _x s _x_3=>al 4 true (.mp (St.h st) 0) s fun c3 _x=>ah c3 fun c4 c5 L M=>(some (nA c4 c5 L M,s)))))))))))) (al 1 false (.mp (St.h a) 3) c fun N c9=>kK (aV vE) (Sx.prim (sx vE 120)) m [] c fun d0 d1 t=>ah d0 fun d2 d3 d4 g=>(bM (apart (Fx.mk c9 dO.kept) t&&(apart (⟨[],.kept⟩) t&&true)) (ab g (ab g (aD g fun u=>ab u (aD u fun d5=>cT 4 56 27 N [nA d2 d3 d4 d5] d1 fun i d6 _x=>ab i (ab i (iU (.mp (St.h a) 3) i d6 fun _x d7 _x_2=>az (aK (mu b m l1 a) ([],d7)) fun j=>bC j.2.1 (al 1 false (.mp (St.h a) 3) j.2.2 fun d8 d9=>aT 91 [b,.str n] j.2.2 fun O P v=>ah O fun Q R S k=>(bM (apart (Fx.mk d9 dO.kept) v&&(apart (⟨[],.kept⟩) v&&true)) (ab k (ab k (aD k fun w=>ab w (aD w fun T=>cT 4 56 27 d8 [nA Q R S T] P fun l U _x=>ab l (ab l (iU (.mp (St.h a) 3) l U fun _x y _x_3=>al 4 true (.mp (St.h a) 0) y fun V _x=>ah V fun W X f0 z=>(ab z (dj 4 (.mp (St.h st) 0) (nC W X f0 z) y fun _x a0 _x_4=>al 4 true (.mp (St.h st) 0) a0 fun f1 _x=>ah f1 fun f2 f3 f4 f5=>(some (nA f2 f3 f4 f5,a0)))))))))))))))))))))))
theorem MS (x0 x1 a b c:AV) (st:St):cA vE 120 [x0,x1,a,b,c] st=Ss x0 x1 a b c st:=by kernel_rfl
noncomputable def PL:AV->AV->AV->St->Option (AV×St):=fun a s t st=>dW s fun u=>bh (St.add st (VM.Obj.cells 27 (nC 0 0 [] .ay))) fun b=>bM (notNil a) (bF 2 a fun v=>al 1 false v b fun w _x=>bk .i64 w fun y=>aW (y==64) (aT 63 [a] b fun g c _x=>gx g fun z=>cE z 0 fun a0=>dH a0 fun x a2=>(gx g fun a3=>cE a3 1 fun a4=>bk .i64 a4 fun _x=>bh (St.add c (VM.Obj.cells 24 [.int .u8 0,.str []])) fun a5=>dj 2 (.mp (St.h c) 0) [.int .u8 x,.str a2] a5 fun _x d _x_1=>al 1 false (.mp (St.h c) 0) d fun A _x=>bk .u8 A fun B=>aW (B==0) (aT 119 [.str u] d fun C a9 _x=>ah C fun b0 b1 b2 i=>(ab i (dj 4 (.mp (St.h st) 0) (nC b0 b1 b2 i) a9 fun _x j _x_2=>al 4 true (.mp (St.h st) 0) j fun b3 _x=>ah b3 fun D E F G=>(some (nA D E F G,j))))) (aT 65 [a] d fun H I _x=>ah H fun c0 c1 c2 e=>(ab e (ab e (aD e fun c3=>dj 4 (.mp (St.h st) 0) [.int .u8 3,.int .u8 0,.str [],.sl 4 [nA c0 c1 c2 c3] .shut] I fun _x k _x_2=>al 4 true (.mp (St.h st) 0) k fun c4 _x=>ah c4 fun c5 J K L=>(some (nA c5 J K L,k)))))))) (bM (notNil a) (bF 2 a fun c9=>al 1 false c9 b fun d0 _x=>bk .i64 d0 fun d1=>aN (IntKind.wrap .i64 (d1+1)) fun l=>bM (notNil a) (bF 2 a fun d2=>aM (aV vE) 1 d2 (.int .i64 l) [.int .i64 l] b fun _x d3 _x_1=>kK (aV vE) (Sx.prim (sx vE 121)) t [] d3 fun d4 f _x=>ah d4 fun d5 d6 d7 m=>(bh (St.add f (VM.Obj.cells 27 (nC 0 0 [] .ay))) fun d8=>ab m (dj 4 (.mp (St.h f) 0) (nC d5 d6 d7 m) d8 fun _x n _x_2=>bM (notNil a) (bF 2 a fun d9=>al 1 false d9 n fun M _x=>bk .i64 M fun N=>aN (IntKind.wrap .i64 (N - 1)) fun o=>bM (notNil a) (bF 2 a fun O=>aM (aV vE) 1 O (.int .i64 o) [.int .i64 o] n fun _x p _x_3=>al 4 true (.mp (St.h f) 0) p fun P _x=>ah P fun Q R S q=>(ab q (dj 4 (.mp (St.h st) 0) (nC Q R S q) p fun _x r _x_4=>al 4 true (.mp (St.h st) 0) r fun T _x=>ah T fun U V f0 f1=>(some (nA U V f0 f1,r))))))))))))
theorem G1 (x0 x1 a:AV) (st:St):cA vE 121 [x0,x1,a] st=PL x0 x1 a st:=by kernel_rfl
noncomputable def qz (b:AV) (e:St):bT->Option (bT ⊕ Nat×bT):=fun c=>bC c.1 (aT 89 [b,.int .u8 5,.str [95]] c.2 fun f d _x=>bJ f fun g=>aW g (aT 90 [b,.bool true] d fun i j _x=>ah i fun k l m a=>(ab a (ab a (aD a fun n=>aT 143 [.sl 4 [nA k l m n] .shut,.mp (St.h e) 0] j fun _x o _x_1=>some (Sum.inl ([],o)))))) (some (Sum.inr (0,[],d))))
noncomputable def qF (a:AV) (d:St):bT->Option (bT ⊕ Nat×bT):=fun e=>bC e.1 (aT 64 [a,.sl 1 [.str [124]] .shut] e.2 fun g f _x=>bJ g fun i=>aW i (aT 65 [a] f fun j k _x=>ah j fun l m n b=>(ab b (ab b (aD b fun o=>aT 143 [.sl 4 [nA l m n o] .shut,.mp (St.h d) 0] k fun _x p _x_1=>aT 144 [a] p fun q r _x=>ah q fun s t u c=>(ab c (ab c (aD c fun v=>aT 143 [.sl 4 [nA s t u v] .shut,.mp (St.h d) 0] r fun _x w _x_2=>some (Sum.inl ([],w))))))))) (some (Sum.inr (0,[],f))))
noncomputable def Su:AV->St->Option (AV×St):=fun b st=>bh (St.add st (VM.Obj.cells 27 (nC 0 0 [] .ay))) fun a=>bh (St.add a (VM.Obj.cells 27 (nC 0 0 [] .ay))) fun b1=>aT 64 [b,.sl 1 [.str [108,101,116]] .shut] b1 fun v2 u _x=>bJ v2 fun x=>az (aW x (aM (aV vE) 1 (.mp (St.h a) 0) (.int .u8 6) [.int .u8 6] u fun _x b2 _x_1=>aT 65 [b] b2 fun v9 b3 _x=>ah v9 fun E x F c=>(ab c (ab c (aD c fun G=>aT 143 [.sl 4 [nA E x F G] .shut,.mp (St.h a) 0] b3 fun _x H _x_2=>aT 66 [b] H fun I c0 _x=>aT 143 [I,.mp (St.h a) 0] c0 fun _x c1 _x_3=>aT 91 [b,.str [105,110]] c1 fun c2 c3 _x=>ah c2 fun c4 c5 J d=>(ab d (ab d (aD d fun K=>aT 143 [.sl 4 [nA c4 c5 J K] .shut,.mp (St.h a) 0] c3 fun _x L _x_4=>some (Sum.inl ([],L))))))))) (aT 64 [b,.sl 1 [.str [102,117,110]] .shut] u fun c9 v _x=>bJ c9 fun d0=>az (aW d0 (aM (aV vE) 1 (.mp (St.h a) 0) (.int .u8 7) [.int .u8 7] v fun _x d1 _x_1=>aT 65 [b] d1 fun d2 d3 _x=>ah d2 fun d4 d5 d6 e=>(ab e (ab e (aD e fun d7=>aT 143 [.sl 4 [nA d4 d5 d6 d7] .shut,.mp (St.h a) 0] d3 fun _x d8 _x_2=>aT 90 [b,.bool true] d8 fun d9 M _x=>ah d9 fun N O P f=>(ab f (ab f (aD f fun Q=>aT 143 [.sl 4 [nA N O P Q] .shut,.mp (St.h a) 0] M fun _x R _x_3=>az (aK (qz b a) ([],R)) fun w=>bC w.2.1 (aT 91 [b,.str [45,62]] w.2.2 fun S T _x=>ah S fun U V f0 g=>(ab g (ab g (aD g fun f1=>aT 143 [.sl 4 [nA U V f0 f1] .shut,.mp (St.h a) 0] T fun _x f2 _x_4=>some (Sum.inl ([],f2))))))))))))) (aT 64 [b,.sl 1 [.str [105,102]] .shut] v fun f3 y _x=>bJ f3 fun f4=>aW f4 (aM (aV vE) 1 (.mp (St.h a) 0) (.int .u8 8) [.int .u8 8] y fun _x f5 _x_1=>aT 65 [b] f5 fun f6 f7 _x=>ah f6 fun f8 f9 h0 i=>(ab i (ab i (aD i fun h1=>aT 143 [.sl 4 [nA f8 f9 h0 h1] .shut,.mp (St.h a) 0] f7 fun _x h2 _x_2=>aT 92 [b] h2 fun h3 h4 _x=>ah h3 fun W X Y j=>(ab j (ab j (aD j fun Z=>aT 143 [.sl 4 [nA W X Y Z] .shut,.mp (St.h a) 0] h4 fun _x h9 _x_3=>aT 91 [b,.str [116,104,101,110]] h9 fun i0 i1 _x=>ah i0 fun i2 i3 i4 k=>(ab k (ab k (aD k fun i5=>aT 143 [.sl 4 [nA i2 i3 i4 i5] .shut,.mp (St.h a) 0] i1 fun _x i6 _x_4=>aT 92 [b] i6 fun i7 i8 _x=>ah i7 fun i9 j0 j1 l=>(ab l (ab l (aD l fun j2=>aT 143 [.sl 4 [nA i9 j0 j1 j2] .shut,.mp (St.h a) 0] i8 fun _x j3 _x_5=>aT 91 [b,.str [101,108,115,101]] j3 fun j4 j5 _x=>ah j4 fun j6 j7 j8 m=>(ab m (ab m (aD m fun j9=>aT 143 [.sl 4 [nA j6 j7 j8 j9] .shut,.mp (St.h a) 0] j5 fun _x k0 _x_6=>some (Sum.inl ([],k0)))))))))))))))))) (aT 64 [b,.sl 1 [.str [109,97,116,99,104]] .shut] y fun k1 z _x=>bJ k1 fun k2=>aW k2 (aM (aV vE) 1 (.mp (St.h a) 0) (.int .u8 9) [.int .u8 9] z fun _x k3 _x_1=>aT 65 [b] k3 fun k4 k5 _x=>ah k4 fun k6 k7 k8 n=>(ab n (ab n (aD n fun k9=>aT 143 [.sl 4 [nA k6 k7 k8 k9] .shut,.mp (St.h a) 0] k5 fun _x m0 _x_2=>aT 92 [b] m0 fun m1 m2 _x=>ah m1 fun m3 m4 m5 o=>(ab o (ab o (aD o fun m6=>aT 143 [.sl 4 [nA m3 m4 m5 m6] .shut,.mp (St.h a) 0] m2 fun _x m7 _x_3=>aT 91 [b,.str [119,105,116,104]] m7 fun m8 m9 _x=>ah m8 fun n0 n1 n2 p=>(ab p (ab p (aD p fun n3=>aT 143 [.sl 4 [nA n0 n1 n2 n3] .shut,.mp (St.h a) 0] m9 fun _x n4 _x_4=>aT 64 [b,.sl 1 [.str [124]] .shut] n4 fun n5 a0 _x=>bJ n5 fun n6=>az (aW n6 (aT 65 [b] a0 fun n7 n8 _x=>ah n7 fun n9 o0 o1 q=>(ab q (ab q (aD q fun o2=>aT 143 [.sl 4 [nA n9 o0 o1 o2] .shut,.mp (St.h a) 0] n8 fun _x o3 _x_5=>some ([],o3))))) (some ([],a0))) fun A=>bC A.1 (aT 144 [b] A.2 fun o4 o5 _x=>ah o4 fun o6 o7 o8 r=>(ab r (ab r (aD r fun o9=>aT 143 [.sl 4 [nA o6 o7 o8 o9] .shut,.mp (St.h a) 0] o5 fun _x p0 _x_5=>az (aK (qF b a) ([],p0)) fun s=>bC s.2.1 (al 4 true (.mp (St.h a) 0) s.2.2 fun p1 _x=>ah p1 fun p2 p3 p4 a2=>(ab a2 (dj 4 (.mp (St.h st) 0) (nC p2 p3 p4 a2) s.2.2 fun _x a3 _x_6=>az (az (al 4 true (.mp (St.h st) 0) a3 fun p5 _x=>ah p5 fun p6 p7 p8 p9=>(some (nA p6 p7 p8 p9,a3))) fun q0=>some (Sum.inr q0)) fun q1=>some (Sum.inr q1)))))))))))))))))) (aT 145 [b,.int .i64 0] z fun q2 q3 _x=>ah q2 fun q4 q5 q6 a4=>(ab a4 (dj 4 (.mp (St.h st) 0) (nC q4 q5 q6 a4) q3 fun _x a5 _x_1=>az (az (al 4 true (.mp (St.h st) 0) a5 fun q7 _x=>ah q7 fun q8 q9 s0 s1=>(some (nA q8 q9 s0 s1,a5))) fun s2=>some (Sum.inr s2)) fun s3=>some (Sum.inr s3))))))) fun s4=>iK s4 fun B=>bC B.1 (some (Sum.inl ([],Prod.snd B))))) fun s5=>iK s5 fun C=>bC C.1 (aT 92 [b] C.2 fun s6 s7 _x=>ah s6 fun s8 s9 t0 t=>(ab t (ab t (aD t fun t1=>aT 143 [.sl 4 [nA s8 s9 t0 t1] .shut,.mp (St.h a) 0] s7 fun _x D _x_1=>al 4 true (.mp (St.h a) 0) D fun t2 _x=>ah t2 fun t3 t4 t5 a9=>(ab a9 (dj 4 (.mp (St.h st) 0) (nC t3 t4 t5 a9) D fun _x b0 _x_2=>al 4 true (.mp (St.h st) 0) b0 fun t6 _x=>ah t6 fun t7 t8 t9 u0=>(some (nA t7 t8 t9 u0,b0))))))))
theorem Og (x0:AV) (st:St):cA vE 122 [x0] st=Su x0 st:=by kernel_rfl
noncomputable def Sy:AV->AV->St->Option (AV×St):=fun a d st=>bk .u8 d fun e=>dK (aV vE) (fO (Prim.copyCheck [(145,2,0),(146,2,0)]) [a]) st fun _x c _x_1=>bM (notNil a) (bF 1 a fun f=>al 1 false f c fun g _x=>cT 1 1 5 g [.int .u8 e] c fun b h _x=>bM (notNil a) (bF 1 a fun i=>ab b (ab b (iU i b h fun _x j _x_2=>some (.nili,j)))))
theorem On (x0 x1:AV) (st:St):cA vE 123 [x0,x1] st=Sy x0 x1 st:=by kernel_rfl
noncomputable def SM:AV->St->Option (AV×St):=fun b st=>bh (St.add st (VM.Obj.cells 27 (nC 0 0 [] .ay))) fun k=>al 1 false b k fun r _x=>aT 90 [r,.bool true] k fun s a _x=>ah s fun t u v l=>(bh (St.add a (VM.Obj.cells 27 (nC 0 0 [] .ay))) fun w=>ab l (dj 4 (.mp (St.h a) 0) (nC t u v l) w fun _x m _x_1=>al 1 false b m fun y _x=>aT 64 [y,.sl 1 [.str [58,58]] .shut] m fun z d _x=>bJ z fun a0=>az (aW a0 (al 1 false b d fun x _x=>aT 65 [x] d fun a2 e _x=>ah a2 fun a3 a4 a5 n=>(bh (St.add e (VM.Obj.cells 27 (nC 0 0 [] .ay))) fun A=>ab n (dj 4 (.mp (St.h e) 0) (nC a3 a4 a5 n) A fun _x c _x_2=>al 4 true (.mp (St.h a) 0) c fun B C=>ah B fun a9 b0 b1 f=>(al 4 true (.mp (St.h e) 0) c fun b2 b3=>ah b2 fun D E F g=>(al 1 false b c fun G _x=>aT 118 [G] c fun H I o=>ah H fun c0 c1 c2 i=>(bM (apart (Fx.mk b3 dO.kept) o&&(apart (Fx.mk C dO.kept) o&&true)) (ab f (ab g (ab i (ab f (aD f fun c3=>ab g (aD g fun c4=>ab i (aD i fun c5=>dj 4 (.mp (St.h a) 0) [.int .u8 16,.int .u8 0,.str [],.sl 4 [nA a9 b0 b1 c3,nA D E F c4,nA c0 c1 c2 c5] .shut] I fun _x J _x_3=>some ([],J)))))))))))))) (some ([],d))) fun j=>bC j.1 (al 4 true (.mp (St.h a) 0) j.2 fun K _x=>ah K fun L c9 d0 p=>(ab p (dj 4 (.mp (St.h st) 0) (nC L c9 d0 p) j.2 fun _x q _x_2=>al 4 true (.mp (St.h st) 0) q fun d1 _x=>ah d1 fun d2 d3 d4 d5=>(some (nA d2 d3 d4 d5,q)))))))
theorem Nf (x0:AV) (st:St):cA vE 142 [x0] st=SM x0 st:=by kernel_rfl
noncomputable def Tj:AV->AV->St->Option (AV×St):=fun d b st=>bF 3 b fun e=>al 1 false e st fun f _x=>mX d fun g=>pS true g fun c=>bM (tg 4 c) (cT 4 56 27 f c st fun a h _x=>bF 3 b fun i=>ab a (ab a (iU i a h fun _x j _x_1=>some (.tup [],j))))
theorem M6 (x0 x1:AV) (st:St):cA vE 143 [x0,x1] st=Tj x0 x1 st:=by kernel_rfl
noncomputable def SK:AV->St->Option (AV×St):=fun a st=>bh (St.add st (VM.Obj.cells 27 (nC 0 0 [] .ay))) fun m=>aT 118 [a] m fun n b _x=>ah n fun o p q i=>(bh (St.add b (VM.Obj.cells 27 (nC 0 0 [] .ay))) fun r=>ab i (dj 4 (.mp (St.h b) 0) (nC o p q i) r fun _x s _x_1=>aT 91 [a,.str [45,62]] s fun t c _x=>ah t fun u v w j=>(bh (St.add c (VM.Obj.cells 27 (nC 0 0 [] .ay))) fun y=>ab j (dj 4 (.mp (St.h c) 0) (nC u v w j) y fun _x d _x_2=>al 4 true (.mp (St.h b) 0) d fun z a0=>ah z fun x a2 a3 e=>(al 4 true (.mp (St.h c) 0) d fun a4 a5=>ah a4 fun A B C f=>(aT 92 [a] d fun a9 b0 k=>ah a9 fun b1 b2 b3 g=>(bM (apart (Fx.mk a5 dO.kept) k&&(apart (Fx.mk a0 dO.kept) k&&true)) (ab e (ab f (ab g (ab e (aD e fun D=>ab f (aD f fun E=>ab g (aD g fun F=>dj 4 (.mp (St.h st) 0) [.int .u8 10,.int .u8 0,.str [],.sl 4 [nA x a2 a3 D,nA A B C E,nA b1 b2 b3 F] .shut] b0 fun _x l _x_3=>al 4 true (.mp (St.h st) 0) l fun G _x=>ah G fun H I c0 c1=>(some (nA H I c0 c1,l))))))))))))))))
theorem Ni (x0:AV) (st:St):cA vE 144 [x0] st=SK x0 st:=by kernel_rfl
noncomputable def qY (e:AV) (a:Int) (k:AV) (l:St):bT->Option (bT ⊕ Nat×bT):=fun b=>bC b.1 (bU 2 k a b.2 fun p _x=>bF 0 p fun q=>al 1 false q b.2 fun r _x=>aT 64 [e,r] b.2 fun s m _x=>bJ s fun t=>aW t (aT 65 [e] m fun u f _x=>ah u fun v w y n=>(bh (St.add f (VM.Obj.cells 27 (nC 0 0 [] .ay))) fun z=>ab n (dj 4 (.mp (St.h f) 0) (nC v w y n) z fun _x c _x_1=>bU 2 k a c fun a0 _x=>bF 1 a0 fun x=>al 1 false x c fun a2 _x=>bJ a2 fun a3=>az (aW a3 (aN (IntKind.wrap .i64 (a+1)) fun a4=>some ([.int .i64 a4],c)) (some ([.int .i64 a],c))) fun d=>bj d.1 fun a5 A=>bk .i64 a5 fun B=>bC A (al 4 true (.mp (St.h l) 0) d.2 fun C a9=>ah C fun b0 b1 b2 g=>(al 4 true (.mp (St.h f) 0) d.2 fun b3 D=>ah b3 fun E F G i=>(aT 145 [e,.int .i64 B] d.2 fun H I o=>ah H fun c0 c1 c2 j=>(bM (apart (Fx.mk D dO.kept) o&&(apart (Fx.mk a9 dO.kept) o&&true)) (ab g (ab i (ab j (ab g (aD g fun c3=>ab i (aD i fun c4=>ab j (aD j fun c5=>dj 4 (.mp (St.h l) 0) [.int .u8 11,.int .u8 0,.str [],.sl 4 [nA b0 b1 b2 c3,nA E F G c4,nA c0 c1 c2 c5] .shut] I fun _x J _x_2=>some (Sum.inl ([],J)))))))))))))))) (some (Sum.inr (0,[],m))))
noncomputable def SU:AV->AV->St->Option (AV×St):=fun b m st=>bk .i64 m fun c=>bh (St.add st (VM.Obj.cells 27 (nC 0 0 [] .ay))) fun n=>aT 155 [] n fun e f _x=>fc e fun o=>aW (c==(↑o:Int)) (aT 156 [b] f fun p q _x=>ah p fun r s t g=>(ab g (dj 4 (.mp (St.h st) 0) (nC r s t g) q fun _x i _x_1=>al 4 true (.mp (St.h st) 0) i fun u _x=>ah u fun v w y z=>(some (nA v w y z,i))))) (aN (IntKind.wrap .i64 (c+1)) fun a0=>aT 145 [b,.int .i64 a0] f fun x a _x=>ah x fun a2 a3 a4 j=>(bh (St.add a (VM.Obj.cells 27 (nC 0 0 [] .ay))) fun a5=>ab j (dj 4 (.mp (St.h a) 0) (nC a2 a3 a4 j) a5 fun _x A _x_1=>az (aK (qY b c e a) ([],A)) fun d=>bC d.2.1 (al 4 true (.mp (St.h a) 0) d.2.2 fun B _x=>ah B fun C a9 b0 k=>(ab k (dj 4 (.mp (St.h st) 0) (nC C a9 b0 k) d.2.2 fun _x l _x_2=>al 4 true (.mp (St.h st) 0) l fun b1 _x=>ah b1 fun b2 b3 D E=>(some (nA b2 b3 D E,l))))))))
theorem NS (x0 x1:AV) (st:St):cA vE 145 [x0,x1] st=SU x0 x1 st:=by kernel_rfl
noncomputable def Vd:Option AV:=some (.sl 2 [.agg [.sl 1 [.str [124,124]] .shut,.bool false],.agg [.sl 1 [.str [38,38]] .shut,.bool false],.agg [.sl 1 [.str [61],.str [60,62],.str [60],.str [60,61],.str [62],.str [62,61]] .shut,.bool true],.agg [.sl 1 [.str [64],.str [94]] .shut,.bool false],.agg [.sl 1 [.str [58,58]] .shut,.bool false],.agg [.sl 1 [.str [43],.str [45],.str [43,46],.str [45,46]] .shut,.bool true],.agg [.sl 1 [.str [42],.str [47],.str [42,46],.str [47,46],.str [109,111,100]] .shut,.bool true]] .shut)
theorem MQ:bN vE 155 []=Vd:=by kernel_rfl
noncomputable def qW (d:AV) (e:St):bT->Option (bT ⊕ Nat×bT):=fun f=>bC f.1 (aT 89 [d,.int .u8 6,.str [40]] f.2 fun g a _x=>bJ g fun i=>aW i (al 4 true (.mp (St.h e) 0) a fun j k=>ah j fun l m n b=>(aT 90 [d,.bool false] a fun o p q=>ah o fun r s t c=>(bM (apart (Fx.mk k dO.kept) q&&true) (ab b (ab c (ab b (aD b fun u=>ab c (aD c fun v=>dj 4 (.mp (St.h e) 0) [.int .u8 13,.int .u8 0,.str [],.sl 4 [nA l m n u,nA r s t v] .shut] p fun _x w _x_1=>some (Sum.inl ([],w)))))))))) (some (Sum.inr (0,[],a))))
noncomputable def Sr:AV->St->Option (AV×St):=fun a st=>bh (St.add st (VM.Obj.cells 27 (nC 0 0 [] .ay))) fun o=>aT 64 [a,.sl 1 [.str [45],.str [45,46]] .shut] o fun p g _x=>bJ p fun q=>aW (!q) (aT 90 [a,.bool false] g fun r b _x=>ah r fun s t u i=>(bh (St.add b (VM.Obj.cells 27 (nC 0 0 [] .ay))) fun v=>ab i (dj 4 (.mp (St.h b) 0) (nC s t u i) v fun _x w _x_1=>az (aK (qW a b) ([],w)) fun c=>bC c.2.1 (al 4 true (.mp (St.h b) 0) c.2.2 fun y _x=>ah y fun z a0 x j=>(ab j (dj 4 (.mp (St.h st) 0) (nC z a0 x j) c.2.2 fun _x k _x_2=>al 4 true (.mp (St.h st) 0) k fun a2 _x=>ah a2 fun a3 a4 a5 A=>(some (nA a3 a4 a5 A,k)))))))) (aT 65 [a] g fun B d _x=>ah B fun C a9 b0 l=>(bh (St.add d (VM.Obj.cells 27 (nC 0 0 [] .ay))) fun b1=>ab l (dj 4 (.mp (St.h d) 0) (nC C a9 b0 l) b1 fun _x m _x_1=>al 4 true (.mp (St.h d) 0) m fun b2 b3=>ah b2 fun D E F e=>(aT 121 [a,.str [101,120,112,114],.fn (Fn.func 156) [a] []] m fun G H I=>ah G fun c0 c1 c2 f=>(bM (apart (Fx.mk b3 dO.kept) I&&true) (ab e (ab f (ab e (aD e fun c3=>ab f (aD f fun c4=>dj 4 (.mp (St.h st) 0) [.int .u8 12,.int .u8 0,.str [],.sl 4 [nA D E F c3,nA c0 c1 c2 c4] .shut] H fun _x n _x_2=>al 4 true (.mp (St.h st) 0) n fun c5 _x=>ah c5 fun J K L c9=>(some (nA J K L c9,n))))))))))))
theorem MO (x0:AV) (st:St):cA vE 156 [x0] st=Sr x0 st:=by kernel_rfl
end Go.Proofs.YtgecmbapkplklaaGreatDoor.Vm
namespace Go.Proofs.YtgecmbapkplklaaGreatDoor.Vm
open Go Go.VM Go.Proofs Go.Lex
theorem AM {p:UInt8->Bool} (h:((List.range 256).all fun n=>p (UInt8.ofNat n))=true) (b:UInt8):p b=true:=by
 have:=XH.1 h b.toNat (List.mem_range.2 (UInt8.toNat_lt b));simpa using this
theorem jR {p q:UInt8->Bool} (h:((List.range 256).all fun n=>p (UInt8.ofNat n)==q (UInt8.ofNat n))=true):p=q:=by
 funext b;exact eq_of_beq (AM (p:=fun b=>p b==q b) h b)
theorem Rn {s c:List UInt8} {p:UInt8->Bool} (hc:(c.length.blt 4294967281&&c.all (fun b=>b.toNat.blt 128))=true) (hp:(fun b=>c.contains b)=p) (hs:s.length<=1000000):
  (aV vE).bare 80 [.str s,.str c]=some (.int .i64 (wh p s:Int)):=by
 refine aX rfl ((P6 _ _).trans ?_);have h1:gZ [.str s,.str c]= .ok (.str (s.dropWhile p)):=by
  simp only [gZ,hc,Lib.trimLeftS];rw [<- hp]
 have h2:=PH p s;have h3:IntKind.wrap .i64 ((s.length:Int) - ((s.dropWhile p).length:Int))=(wh p s:Int):=by
  rw [rY (by omega) (by omega)];congr 1;omega
 simp only [Vy,ax,jV h1,aB,h3]
theorem mf {β:Type} {s c:List UInt8} {p:UInt8->Bool} (hc:(c.length.blt 4294967281&&c.all (fun b=>b.toNat.blt 128))=true) (hp:(fun b=>c.contains b)=p) (hs:s.length<=1000000) (st:St) (K:Kv β):
  bc (aV vE) 80 [.str s,.str c] st K=K (.int .i64 (wh p s:Int)) st q0:=aG st K rfl rfl rfl (Rn hc hp hs)
theorem HR {β:Type} {s:List UInt8} (hs:s.length<=1000000) (st:St) (K:Kv β):bc (aV vE) 80 [.str s,.str [32,9,10,13]] st K=K (.int .i64 (wh bH s:Int)) st q0:=
 mf rfl (jR (by decide+kernel)) hs st K
theorem N1 {β:Type} {s:List UInt8} (hs:s.length<=1000000) (st:St) (K:Kv β):bc (aV vE) 80 [.str s,.str [97,98,99,100,101,102,103,104,105,106,107,108,109,110,111,112,113,114,115,116,117,118,119,120,121,122,95]] st K=K (.int .i64 (wh jq s:Int)) st q0:=
 mf (by decide+kernel) (jR (by decide+kernel)) hs st K
theorem Cf {β:Type} {s:List UInt8} (hs:s.length<=1000000) (st:St) (K:Kv β):bc (aV vE) 80 [.str s,.str [48,49,50,51,52,53,54,55,56,57]] st K=K (.int .i64 (wh aI s:Int)) st q0:=
 mf rfl (jR (by decide+kernel)) hs st K
theorem MC {β:Type} {s:List UInt8} (hs:s.length<=1000000) (st:St) (K:Kv β):bc (aV vE) 80 [.str s,.str [97,98,99,100,101,102,103,104,105,106,107,108,109,110,111,112,113,114,115,116,117,118,119,120,121,122,95,65,66,67,68,69,70,71,72,73,74,75,76,77,78,79,80,81,82,83,84,85,86,87,88,89,90,39,48,49,50,51,52,53,54,55,56,57]] st K=K (.int .i64 (wh eH s:Int)) st q0:=
 mf (by decide+kernel) (jR (by decide+kernel)) hs st K
def RO (c:UInt8):Bool:=c==101||c==69
theorem Sq {β:Type} {s:List UInt8} (hs:s.length<=1000000) (st:St) (K:Kv β):bc (aV vE) 80 [.str s,.str [101,69]] st K=K (.int .i64 (wh RO s:Int)) st q0:=
 mf rfl (jR (by decide+kernel)) hs st K
theorem Np {β:Type} {s:List UInt8} (hs:s.length<=1000000) (st:St) (K:Kv β):bc (aV vE) 80 [.str s,.str [43,45]] st K=K (.int .i64 (wh pA s:Int)) st q0:=
 mf rfl (jR (by decide+kernel)) hs st K
theorem Ma {β:Type} {s:List UInt8} (hs:s.length<=1000000) (st:St) (K:Kv β):bc (aV vE) 80 [.str s,.str [40,41,91,93,44,59,124,61,60,62,43,45,42,47,94,64]] st K=K (.int .i64 (wh kQ s:Int)) st q0:=
 mf rfl (jR (by decide+kernel)) hs st K
theorem Lc (s p:List UInt8):(aV vE).bare 110 [.str s,.str p]=some (.bool (s.take p.length==p)):=by
 refine aX rfl ((MA _ _).trans ?_);by_cases h:(s.length:Int)>=(p.length:Int)
 .simp only [PX,ax,aq,if_pos h,gN (show p.length<=s.length by omega),aR,Xc,aB,aj,ad,ak,ae]
 .have e:(s.take p.length==p)=false:=by
   rw [WX];intro e;have:=Xy List.length e;rw [Xg] at this;omega
  simp only [PX,ax,aq,if_neg h,aj,ad,ak,ae,e]
theorem Ic (s p:List UInt8):(aV vE).bare 81 [.str s,.str p]=some (.bool (s.take p.length==p)):=by
 refine aX rfl ((Qd _ _).trans ?_);have h: ∀{β:Type} (st:St) (K:Kv β),bc (aV vE) 110 [.str s,.str p] st K=K (.bool (s.take p.length==p)) st q0:=fun st K=>aG st K rfl rfl rfl (Lc s p);simp only [V6,ax,h,ak]
theorem fP {β:Type} (s p:List UInt8) (st:St) (K:Kv β):bc (aV vE) 81 [.str s,.str p] st K=K (.bool (s.take p.length==p)) st q0:=aG st K rfl rfl rfl (Ic s p)
theorem NX (s p:List UInt8):(aV vE).bare 84 [.str s,.str p]=some (.str (if (s.take p.length==p)=true then s.drop p.length else s)):=by
 have h: ∀{β:Type} (st:St) (K:Kv β),bc (aV vE) 110 [.str s,.str p] st K=K (.bool (s.take p.length==p)) st q0:=fun st K=>aG st K rfl rfl rfl (Lc s p);have h2:(aV vE).bare 114 [.str s,.str p]=some (.str (if (s.take p.length==p)=true then s.drop p.length else s)):=by
  refine aX rfl ((Mq _ _).trans ?_);simp only [Tu,ax,h,ak];cases e:s.take p.length==p with
  | true=>
   have hl:p.length<=s.length:=by
    have:=Xy List.length (eq_of_beq e);rw [Xg] at this;omega
   simp only [ao,gN hl,aR,Xv,aB,if_true]
  | false=>rfl
 have h3: ∀{β:Type} (st:St) (K:Kv β),bc (aV vE) 114 [.str s,.str p] st K=K (.str (if (s.take p.length==p)=true then s.drop p.length else s)) st q0:=fun st K=>aG st K rfl rfl rfl h2;refine aX rfl ((QU _ _).trans ?_);simp only [Wc,ax,h3]
theorem Jg {β:Type} (s p:List UInt8) (st:St) (K:Kv β):bc (aV vE) 84 [.str s,.str p] st K=K (.str (if (s.take p.length==p)=true then s.drop p.length else s)) st q0:=aG st K rfl rfl rfl (NX s p)
def uu (s:List UInt8) (c:UInt8):Int:=match dI c.toNat s with | some i=>(i:Int) | none=> -1
theorem LS (s:List UInt8) (c:UInt8):(aV vE).bare 85 [.str s,.int .u8 (c.toNat:Int)]=some (.int .i64 (uu s c)):=by
 have h:(aV vE).bare 115 [.str s,.int .u8 (c.toNat:Int)]=some (.int .i64 (uu s c)):=by
  refine aX rfl ((Nh _ _).trans ?_);have e:((c.toNat:Int).toNat % 256)=c.toNat:=by
   have:=UInt8.toNat_lt c;omega
  simp only [Sj,ax,af,dK,mn,fO,mO,aj,e,uu];rfl
 have h3: ∀{β:Type} (st:St) (K:Kv β),bc (aV vE) 115 [.str s,.int .u8 (c.toNat:Int)] st K=K (.int .i64 (uu s c)) st q0:=fun st K=>aG st K rfl rfl rfl h;refine aX rfl ((RG _ _).trans ?_);simp only [VG,ax,af,h3]
theorem l8 {β:Type} (s:List UInt8) (c:UInt8) (st:St) (K:Kv β):bc (aV vE) 85 [.str s,.int .u8 (c.toNat:Int)] st K=K (.int .i64 (uu s c)) st q0:=aG st K rfl rfl rfl (LS s c)
def um:AV:= .im ((.str [95],.int .u8 8)::words.map fun w=>(.str w,.int .u8 3))
def ym:db AV->Bool
 | .ok (.im [(.str w0,.int .u8 n0),(.str g,.int .u8 n1),(.str h,.int .u8 i),(.str j,.int .u8 n3),(.str k,.int .u8 n4),(.str l,.int .u8 m),(.str n,.int .u8 n6),(.str o,.int .u8 p),(.str q,.int .u8 r),(.str s,.int .u8 t),(.str a,.int .u8 b),(.str c,.int .u8 d),(.str e,.int .u8 f)])=>
  ([w0,g,h,j,k,l,n,o,q,s,a,c,e]==[95]::words)&&([n0,n1,i,n3,n4,m,n6,p,r,t,b,d,f]==8::words.map fun _=>3)
 | _=>false
theorem EO {r:db AV} (h:ym r=true):r= .ok um:=by
 unfold ym at h;split at h
 .simp only [WY] at h;have h1:=eq_of_beq h.1;have h2:=eq_of_beq h.2;simp only [words,W8,Xm,XV,Ys] at h1 h2;obtain ⟨rfl,rfl,rfl,rfl,rfl,rfl,rfl,rfl,rfl,rfl,rfl,rfl,rfl⟩:=h1;obtain ⟨rfl,rfl,rfl,rfl,rfl,rfl,rfl,rfl,rfl,rfl,rfl,rfl,rfl⟩:=h2;rfl
 .cases h
theorem Kl:(aV vE).bare 82 []=some um:=by
 have h:ym ((caller vE 300).bare 82 [])=true:=by kernel_rfl
 exact zy (EO h)
theorem Gb {β:Type} (st:St) (K:Kv β):bc (aV vE) 82 [] st K=K um st q0:=aG st K rfl rfl rfl Kl
theorem ya (w:List UInt8): ∀(l:List (List UInt8)),ig (.str w) (l.map fun w=>(AV.str w,AV.int .u8 3))= .ok (if l.contains w then some (.int .u8 3) else none)
 | []=>rfl
 | x::l=>by
  have ih:=ya w l;simp only [W8,ig,rR,aA,List.contains_cons];cases e:w==x with
  | true=>rfl
  | false=>
   simp only [XK];exact ih
theorem Gy {β:Type} (w:List UInt8) (st:St) (K:Kv β):dK (aV vE) (js (Env.T vE) 114 um (.str w) true) st K=
  K (.tup [.int .u8 (if w=[95] then 8 else if words.contains w then 3 else 0:Int),.bool (decide (w=[95])||words.contains w)]) st q0:=by
 have a:ti (Env.T vE) 114= .ok ⟨.map 9 5,1,8,[.nilm],false,false⟩:=rfl;have b:ti (Env.T vE) 5= .ok ⟨.int .u8,1,1,[.int .u8 0],false,false⟩:=rfl;have c:ti (Env.T vE) 9= .ok ⟨.str,1,16,[.str []],false,false⟩:=rfl;have d:ig (.str w) ((.str [95],.int .u8 8)::words.map fun w=>(.str w,.int .u8 3))= .ok (if w=[95] then some (.int .u8 8) else if words.contains w then some (.int .u8 3) else none):=by
  simp only [ig,rR,aA];cases e:w==[95] with
  | true=>rw [if_pos (eq_of_beq e)];rfl
  | false=>rw [if_neg (by simpa using e)];exact ya w words
 have f:js (Env.T vE) 114 um (.str w) true= .ok (.val (.tup [.int .u8 (if w=[95] then 8 else if words.contains w then 3 else 0:Int),.bool (decide (w=[95])||words.contains w)])):=by
  simp only [js,a,b,c,aA,pk,um,found,d];by_cases h:w=[95]
  .simp [h];rfl
  .cases h2:words.contains w <;> simp [h] <;> rfl
 rw [f];rfl
theorem Kq {s:List UInt8} (hs:s.length<=1000000):(aV vE).bare 56 [.str s]=some (.tup [.int .u8 1,.int .i64 (wh bH s:Int)]):=by
 refine aX rfl ((QV _).trans ?_);simp only [Vv,ax,HR hs,af]
theorem kH (s:List UInt8) (hs:s.length<=1000000) (st:St): ∀(l:List UInt8) (i d:Nat),s.drop i=l->i<=s.length->1<=d->d<=i->
  aK (nc s) ([.int .i64 (d:Int),.int .u8 0,.int .i64 0,.int .i64 (i:Int)],st)=some (match rem l d with | some n=>(1,[.int .u8 2,.int .i64 ((i+n:Nat):Int)],st) | none=>(0,[.int .u8 0,.int .i64 0],st))
 | [],i,d,hd,hi,h1,h2=>by
  have:=Xz.1 hd;have q:¬ (i:Int) < (s.length:Int):=by omega
  refine aF ?_;simp only [nc,ad,af,ae,aq,if_neg q];rfl
 | [a],i,d,hd,hi,h1,h2=>by
  obtain ⟨hg,hr,f⟩:=drop_cons hd;have q:(i:Int) < (s.length:Int):=by omega
  have ih:=kH s hs st [] (i+1) d hr (by omega) h1 (by omega);rw [aP (s':=([.int .i64 (d:Int),.int .u8 0,.int .i64 0,.int .i64 ((i+1:Nat):Int)],st)),ih]
  .rfl
  .simp only [nc,ad,af,ae,aq,if_pos q,bW (show i<=s.length by omega),Xv,aB,hd,fP,ak];simp only [show ([a].take [(40:UInt8),42].length==[40,42])=false by simp,show ([a].take [(42:UInt8),41].length==[42,41])=false by simp,ai,aj,cF,ad,af,ae,bm (show i+1<=9223372036854775807 by omega)]
 | a::b::l,i,d,hd,hi,h1,h2=>by
  obtain ⟨hg,hr,f⟩:=drop_cons hd;obtain ⟨j,c,g⟩:=drop_cons hr;have q:(i:Int) < (s.length:Int):=by omega
  have t1:((a::b::l).take [(40:UInt8),42].length==[40,42])=(decide (a=40/\b=42)):=by
   show ([a,b]==[40,42])= _;by_cases h:a=40/\b=42
   .rw [h.1,h.2];rfl
   .rw [X5 h,WX];intro e;simp only [XV,Ys] at e;exact h e
  have t2:((a::b::l).take [(42:UInt8),41].length==[42,41])=(decide (a=42/\b=41)):=by
   show ([a,b]==[42,41])= _;by_cases h:a=42/\b=41
   .rw [h.1,h.2];rfl
   .rw [X5 h,WX];intro e;simp only [XV,Ys] at e;exact h e
  by_cases c1:a=40/\b=42
  .have ih:=kH s hs st l (i+2) (d+1) c (by omega) (by omega) (by omega);rw [aP (s':=([.int .i64 ((d+1:Nat):Int),.int .u8 0,.int .i64 0,.int .i64 ((i+2:Nat):Int)],st)),ih]
   .simp only [rem,if_pos c1];cases rem l (d+1) with
    | none=>rfl
    | some n=>simp only [Option.map_some];rw [show i+2+n=i+(n+2) by omega]
   .simp only [nc,ad,af,ae,aq,if_pos q,bW (show i<=s.length by omega),Xv,aB,hd,fP,ak,t1,if_pos c1,aj,cF,bm (show d+1<=9223372036854775807 by omega),mV (show i+2<=9223372036854775807 by omega)]
  .by_cases c2:a=42/\b=41
   .have w:=rY (n:=d) (m:=1) h1 (by omega);have w:IntKind.wrap .i64 ((d:Int) - 1)=((d - 1:Nat):Int):=w;by_cases c3:d=1
    .subst c3;simp only [rem,if_neg c1,if_pos c2,if_true];refine aF ?_;simp only [nc,ad,af,ae,aq,if_pos q,bW (show i<=s.length by omega),Xv,aB,hd,fP,ak,t1,t2,if_neg c1,if_pos c2,aj,w,mV (show i+2<=9223372036854775807 by omega),dQ];rfl
    .have ih:=kH s hs st l (i+2) (d - 1) c (by omega) (by omega) (by omega);have z:¬ ((d - 1:Nat):Int)=0:=by omega
     rw [aP (s':=([.int .i64 ((d - 1:Nat):Int),.int .u8 0,.int .i64 0,.int .i64 ((i+2:Nat):Int)],st)),ih]
     .simp only [rem,if_neg c1,if_pos c2,if_neg c3];cases rem l (d - 1) with
      | none=>rfl
      | some n=>simp only [Option.map_some];rw [show i+2+n=i+(n+2) by omega]
     .simp only [nc,ad,af,ae,aq,if_pos q,bW (show i<=s.length by omega),Xv,aB,hd,fP,ak,t1,t2,if_neg c1,if_pos c2,aj,w,mV (show i+2<=9223372036854775807 by omega),dQ,if_neg z,cF]
   .have ih:=kH s hs st (b::l) (i+1) d hr (by omega) h1 (by omega);rw [aP (s':=([.int .i64 (d:Int),.int .u8 0,.int .i64 0,.int .i64 ((i+1:Nat):Int)],st)),ih]
    .simp only [rem,if_neg c1,if_neg c2];cases rem (b::l) d with
     | none=>rfl
     | some n=>simp only [Option.map_some];rw [show i+1+n=i+(n+1) by omega]
    .simp only [nc,ad,af,ae,aq,if_pos q,bW (show i<=s.length by omega),Xv,aB,hd,fP,ak,t1,t2,if_neg c1,if_neg c2,aj,cF,bm (show i+1<=9223372036854775807 by omega)]
theorem Jp {s:List UInt8} (hs:s.length<=1000000):(aV vE).bare 57 [.str s]=some (if s.take 2=[40,42] then (match rem (s.drop 2) 1 with | some n=> .tup [.int .u8 2,.int .i64 ((n+2:Nat):Int)] | none=> .tup [.int .u8 9,.int .i64 (s.length:Int)]) else .tup [.int .u8 0,.int .i64 0]):=by
 refine aX rfl ((RE _).trans ?_);by_cases h:s.take 2=[40,42]
 .have a:(s.take [(40:UInt8),42].length==[40,42])=true:=by simpa using h
  have hl:2<=s.length:=by
   have:=Xy List.length h;rw [Xg] at this;simp at this;omega
  have q:(0:Int) < (s.length:Int):=by omega
  have e:aK (nc s) ([.int .i64 0,.int .u8 0,.int .i64 0,.int .i64 0],St.mk 0 0 Tr.leaf)=some (match rem (s.drop 2) 1 with | some n=>(1,[.int .u8 2,.int .i64 ((2+n:Nat):Int)],St.mk 0 0 Tr.leaf) | none=>(0,[.int .u8 0,.int .i64 0],St.mk 0 0 Tr.leaf)):=by
   rw [aP (s':=([.int .i64 ((1:Nat):Int),.int .u8 0,.int .i64 0,.int .i64 ((2:Nat):Int)],St.mk 0 0 Tr.leaf)),kH s hs (St.mk 0 0 Tr.leaf) (s.drop 2) 2 1 rfl hl (by omega) (by omega)];simp only [nc,ad,af,ae,aq,if_pos q,show eh (0:Int) s.length=eh ((0:Nat):Int) s.length from rfl,bW (show 0<=s.length by omega),Xv,Xc,aB,fP,ak,a,ao,aj,cF];rfl
  simp only [US,ax,fP,ak,a,XE,ai,if_pos h];rw [e];cases rem (s.drop 2) 1 with
  | none=>simp only [aj,ad,af,ae,er]
  | some n=>simp only [aj,ad,af,ae,iC];rw [Yh 2 n]
 .have a:(s.take [(40:UInt8),42].length==[40,42])=false:=by simpa using h
  simp only [US,ax,fP,ak,a,XR,ao,if_neg h]
theorem Ms {c:UInt8} {l:List UInt8} (hs:(c::l).length<=1000000):(aV vE).bare 58 [.str (c::l)]=some (if jq c then .tup [.int .u8 (pt ((c::l).takeWhile eH):Int),.int .i64 (wh eH (c::l):Int)] else .tup [.int .u8 0,.int .i64 0]):=by
 refine aX rfl ((Rs _).trans ?_);have h1:(List.drop 0 (List.take 1 (c::l)))=[c]:=rfl;have h2:wh jq [c]=if jq c then 1 else 0:=by rw [eK];rfl
 simp only [V8,ax,gN (show 1<=(c::l).length by simp),aR,aB,h1,N1 (show [c].length<=1000000 by simp),af,dQ,h2];cases hc:jq c with
 | false=>rfl
 | true=>
  simp only [if_true,show ¬ (((1:Nat):Int)=0) by omega,if_false,MC hs,af,Gb,fU,fb,Xt,aR,bW (lk eH (c::l)),Xc,aB,wI,Gy,cf,bw,bG,ak];generalize (c::l).takeWhile eH=w;unfold pt;by_cases a:w=[95]
  .simp [a]
  .cases b:words.contains w <;> simp [a] <;> rfl
theorem Hh: ∀(l:List UInt8) (a:Nat),a<=jO a l
  | [],a=>by rw [yL];exact WW _
  | c::l,a=>by
    have:=Hh l (ph a c);rw [ve];unfold ph at this ⊢;omega
theorem sI: ∀(l:List UInt8) (a:Nat),l.all aI=true->a < 18446744073709551616->Lib.parseUint10 a l=if jO a l < 18446744073709551616 then .ok (jO a l) else .range
  | [],a,_,ha=>by rw [yL,if_pos ha,Lib.parseUint10]
  | c::l,a,h,ha=>by
    simp only [Yq,WY] at h;have hc:48<=c.toNat/\c.toNat<=57:=by
      have:=h.1;simp only [aI,WY,XU] at this;exact this
    have hg:=Hh l (ph a c);have hs:a * 10+(c.toNat - 48)=ph a c:=id rfl;have b:a * 10<=ph a c:=by rw [<- hs];omega
    rw [Lib.parseUint10,if_pos hc,ve,hs];by_cases c1:1844674407370955162<=a
    · rw [if_pos c1,if_neg (by omega)]
    · rw [if_neg c1]
      by_cases c2:18446744073709551616<=ph a c
      · rw [if_pos c2,if_neg (by omega)]
      · rw [if_neg c2]
        exact sI l _ h.2 (by omega)
theorem xJ {l:List UInt8} (hne:l≠[]) (h:l.all aI=true):Lib.atoiAll l=if jO 0 l < 9223372036854775808 then .ok (jO 0 l:Int) else .range:=by
  cases l with
  | nil=>exact absurd rfl hne
  | cons c r=>
    have hc:48<=c.toNat/\c.toNat<=57:=by
      simp only [Yq,WY] at h;have:=h.1;simp only [aI,WY,XU] at this;exact this
    have n1:¬ (c.toNat=43\/c.toNat=45):=by omega
    have a:¬ c.toNat=45:=by omega
    have hp:=sI (c::r) 0 h (by omega);simp only [Lib.atoiAll,if_neg n1,Lib.parseMag,if_neg hne,hp];by_cases c1:jO 0 (c::r) < 18446744073709551616
    · rw [if_pos c1]
      dsimp only;by_cases c2:jO 0 (c::r) < 9223372036854775808
      · rw [if_pos c2,if_neg (by omega),if_neg (by omega),if_neg a]
      · rw [if_neg c2,if_pos (by omega)]
    · rw [if_neg c1,if_neg (by omega)]
theorem GN {l:List UInt8} (hne:l≠[]) (h:l.all aI=true):Lib.atoiAll (45::l)=if jO 0 l<=9223372036854775808 then .ok (-(jO 0 l:Int)) else .range:=by
  have e:(45:UInt8).toNat=45:=rfl;have hp:=sI l 0 h (by omega);simp only [Lib.atoiAll,e,or_true,if_true,Lib.parseMag,if_neg hne,hp];by_cases c1:jO 0 l < 18446744073709551616
  · rw [if_pos c1]
    dsimp only;by_cases c2:jO 0 l<=9223372036854775808
    · rw [if_pos c2,if_neg (by simp),if_neg (by omega)]
    · rw [if_neg c2,if_neg (by simp),if_pos ⟨trivial,by omega⟩]
  · rw [if_neg c1,if_neg (by omega)]
theorem rM (p:UInt8->Bool) (l:List UInt8):(l.takeWhile p).all p=true:=by
  induction l with
  | nil=>rfl
  | cons c l ih=>
    rw [XD];split
    · rename_i h;simp [h,ih]
    · rfl
def RH (k:Nat) (x:Int):Bool:=decide (x - k < -22)||decide (x - k > 22)
theorem Lm {n:Int} (h1:n < -9223372036854775808) (h2: -18446744073709551616<=n):IntKind.wrap .i64 n=n+18446744073709551616:=by
  have e:IntKind.wrap .i64 n=if n % 18446744073709551616>=9223372036854775808 then n % 18446744073709551616 - 18446744073709551616 else n % 18446744073709551616:=by
    show (if (true&&decide (n % (2 ^ 64:Int)>=(2 ^ 63:Int)))=true then n % (2 ^ 64:Int) - (2 ^ 64:Int) else n % (2 ^ 64:Int))= _;simp
  rw [e];split <;> omega
structure SW (k v:Nat) (neg:Bool) (x:Int):Prop where
  lo: -9223372036854775808<=x
  hi:x<=9223372036854775807
  eq:v<=1000000->x=if neg then -(v:Int) else v
  far:1000000 < v->1000000 < x\/x < -1000000
theorem JK {k v:Nat} {neg:Bool} {x:Int} (h:SW k v neg x) (hk:k<=500000):
    (decide (IntKind.wrap .i64 (x - k) < -22)||decide (IntKind.wrap .i64 (x - k) > 22))=RH k (if neg then -((min v 1000000:Nat):Int) else ((min v 1000000:Nat):Int)):=by
  obtain ⟨h1,h2,h3,h4⟩:=h;have hw:(IntKind.wrap .i64 (x - k)=x - k)\/(x - k < -9223372036854775808/\IntKind.wrap .i64 (x - k)=x - k+18446744073709551616):=by
    by_cases c: -9223372036854775808<=x - k
    · exact .inl (wrap_i64 c (by omega))
    · exact .inr ⟨by omega,Lm (by omega) (by omega)⟩
  unfold RH;by_cases hv:v<=1000000
  · have hx:=h3 hv
    have hw:IntKind.wrap .i64 (x - k)=x - k:=by
      rcases hw with hw | ⟨hw,_⟩
      · exact hw
      · exfalso
        cases neg <;> simp at hx <;> omega
    rw [hw,Yv hv,hx]
  · have hx:=h4 (by omega)
    rw [YG (by omega)];have l:(decide (IntKind.wrap .i64 (x - k) < -22)||decide (IntKind.wrap .i64 (x - k) > 22))=true:=by
      rw [XL,XU,XU];rcases hw with hw | ⟨_,hw⟩ <;> rw [hw] <;> omega
    have r: ∀y:Int,(y=1000000\/y= -1000000)->(decide (y - (k:Int) < -22)||decide (y - (k:Int) > 22))=true:=by
      intro y hy;rw [XL,XU,XU];omega
    rw [l];cases neg
    · exact (r _ (.inl rfl)).symm
    · exact (r _ (.inr rfl)).symm
theorem Nq:Iv BinOp.neq AV.nili=some (.bool false):=rfl
theorem Nc (t:TypeId) (v:AV):Iv BinOp.neq (AV.iface t v)=some (.bool true):=rfl
theorem Jq {l:List UInt8} (hs:l.length<=1000000) {d:Nat} (hd:wh aI (l.drop (fY l))=d) (h0:0 < d) (k:Nat):
    ∃x:Int,SW k (jO 0 ((l.drop (fY l)).take d)) (decide (l.head?=some 45)) x/\ ∀{β:Type} (st:St) (K:Int->bT->Option β),
      (dK (aV vE) (fO (Prim.lib (jn 164)) [AV.str (if ((l.take (fY l+d)).take [(43:UInt8)].length==[43])=true then (l.take (fY l+d)).drop [(43:UInt8)].length else l.take (fY l+d))]) st fun f b _x=>gx f fun i=>cE i 0 fun j=>bk .i64 j fun m=>gx f fun n=>cE n 1 fun v70=>az (Iv BinOp.neq v70) fun o=>bJ
 o fun p=>az (aW p (some (([AV.int .i64 1073741824],b):bT)) (some ([AV.int .i64 m],b))) fun g=>bj (Prod.fst g) fun q s=>bk .i64 q fun t=>bC s (K t g))=K x ([AV.int .i64 x],st):=by
  have h:(l.drop (fY l)).take d=(l.drop (fY l)).takeWhile aI:=by rw [<- hd,wI]
  have a:((l.drop (fY l)).take d).all aI=true:=by rw [h];exact rM _ _
  have hlen:((l.drop (fY l)).take d).length=d:=by rw [h, <- hd];rfl
  have hne:(l.drop (fY l)).take d≠[]:=by
    intro e;rw [e] at hlen;simp at hlen;omega
  have fin: ∀(D:List UInt8),D.length<=1000001-> ∀{β:Type} (st:St) (K:Int->bT->Option β) (x:Int),(Lib.atoiAll D= .ok x\/(Lib.atoiAll D= .range/\x=1073741824))->
      (dK (aV vE) (fO (Prim.lib (jn 164)) [AV.str D]) st fun f b _x=>gx f fun i=>cE i 0 fun j=>bk .i64 j fun m=>gx f fun n=>cE n 1 fun v70=>az (Iv BinOp.neq v70) fun o=>bJ
 o fun p=>az (aW p (some (([AV.int .i64 1073741824],b):bT)) (some ([AV.int .i64 m],b))) fun g=>bj (Prod.fst g) fun q s=>bk .i64 q fun t=>bC s (K t g))=K x ([AV.int .i64 x],st):=by
    intro D y β st K x hx;rcases hx with hx | ⟨hx,rfl⟩
    · have hl:jn 164 [.str D]= .ok (.tup [.int .i64 x,.nili]):=by simp only [jn,gN (show D.length<=281474976710656 by omega),hx]
      simp only [jV hl,cf,bw,bG,af,Nq,aj,ak,ai,ad,ae]
    · have hl:jn 164 [.str D]= .ok (.tup [.int .i64 (Lib.atoiSat D),.iface 164 (.opq false)]):=by simp only [jn,gN (show D.length<=281474976710656 by omega),hx]
      simp only [jV hl,cf,bw,bG,af,Nc,aj,ak,ao,ad,ae]
  cases l with
  | nil=>simp [fY] at hne
  | cons c r=>
    by_cases c1:c=43
    · subst c1
      have u:fY ((43:UInt8)::r)=1:=rfl;rw [u] at a hlen hne h ⊢;simp only [XN,Xc] at a hlen hne h ⊢;have hp:=xJ hne a;have v:(if (((43::r).take (1+d)).take [(43:UInt8)].length==[43])=true then ((43:UInt8)::r |>.take (1+d)).drop [(43:UInt8)].length else (43::r).take (1+d))=r.take d:=by
        rw [Yh 1 d];rfl
      rw [v];by_cases c2:jO 0 (r.take d) < 9223372036854775808
      · rw [if_pos c2] at hp
        exact ⟨jO 0 (r.take d),⟨by omega,by omega,fun _=>by simp,fun _=>by omega⟩,fun st K=>fin _ (by rw [Xg];simp at hs;omega) st K _ (.inl hp)⟩
      · rw [if_neg c2] at hp
        exact ⟨1073741824,⟨by omega,by omega,fun _=>by omega,fun _=>by omega⟩,fun st K=>fin _ (by rw [Xg];simp at hs;omega) st K _ (.inr ⟨hp,rfl⟩)⟩
    · by_cases c3:c=45
      · subst c3
        have u:fY ((45:UInt8)::r)=1:=rfl;rw [u] at a hlen hne h ⊢;simp only [XN,Xc] at a hlen hne h ⊢;have hp:=GN hne a;have v:(if (((45::r).take (1+d)).take [(43:UInt8)].length==[43])=true then ((45:UInt8)::r |>.take (1+d)).drop [(43:UInt8)].length else (45::r).take (1+d))=45::r.take d:=by
          rw [Yh 1 d];rfl
        rw [v];by_cases c2:jO 0 (r.take d)<=9223372036854775808
        · rw [if_pos c2] at hp
          exact ⟨-(jO 0 (r.take d):Int),⟨by omega,by omega,fun _=>by simp,fun _=>by omega⟩,fun st K=>fin _ (by rw [Xk,Xg];simp at hs;omega) st K _ (.inl hp)⟩
        · rw [if_neg c2] at hp
          exact ⟨1073741824,⟨by omega,by omega,fun _=>by omega,fun _=>by omega⟩,fun st K=>fin _ (by rw [Xk,Xg];simp at hs;omega) st K _ (.inr ⟨hp,rfl⟩)⟩
      · have w:pA c=false:=by simp [pA,c1,c3]
        have u:fY (c::r)=0:=by simp only [fY,w];rfl
        rw [u] at a hlen hne h ⊢;simp only [Xc,Xd] at a hlen hne h ⊢;have hp:=xJ hne a;have v:(if (((c::r).take d).take [(43:UInt8)].length==[43])=true then ((c::r).take d).drop [(43:UInt8)].length else (c::r).take d)=(c::r).take d:=by
          rw [if_neg];intro e;have e:=eq_of_beq e;cases d with
          | zero=>simp at h0
          | succ d=>simp at e;exact c1 e
        rw [v];by_cases c2:jO 0 ((c::r).take d) < 9223372036854775808
        · rw [if_pos c2] at hp
          exact ⟨jO 0 ((c::r).take d),⟨by omega,by omega,fun _=>by simp [c3],fun _=>by omega⟩,fun st K=>fin _ (by rw [Xg];omega) st K _ (.inl hp)⟩
        · rw [if_neg c2] at hp
          exact ⟨1073741824,⟨by omega,by omega,fun _=>by omega,fun _=>by omega⟩,fun st K=>fin _ (by rw [Xg];omega) st K _ (.inr ⟨hp,rfl⟩)⟩
theorem K0 (p:UInt8->Bool) (c:UInt8) (l:List UInt8):wh p ((c::l).take 1)=if p c then 1 else 0:=by
  show wh p [c]= _;rw [eK];rfl
theorem DO (s:List UInt8) (e:Nat):s.take (min s.length e)=s.take e:=by
  rcases Nat.le_total e s.length with h | h
  · rw [YG h]
  · rw [Yv h,Xv,List.take_of_length_le h]
theorem HG (a b:Nat):(if (a:Int) < (b:Int) then (a:Int) else (b:Int))=((min a b:Nat):Int):=by split <;> omega
theorem nf (s:List UInt8) (e n:Nat):(s.take (e+n)).drop e=(s.drop e).take n:=by
  rw [List.drop_take];congr 1;omega
theorem Ag {all k:Nat} {x:Int} {e:Int} (st:St) (b:Bool) (hb:(decide (IntKind.wrap .i64 (x - k) < -22)||decide (IntKind.wrap .i64 (x - k) > 22))=b):
    (az (aW (decide ((all:Int) > 15)) (some (([AV.bool true],st):bT)) (aN (IntKind.wrap .i64 (x - (k:Int))) fun a=>aW (decide (a < -22)) (some ([AV.bool true],st)) (aN (IntKind.wrap .i64 (x - (k:Int))) fun c=>some ([AV.bool (decide (c > 22))],st)))) fun d=>
 bj (Prod.fst d) fun f g=>bJ f fun h=>bC g (aW h (some (AV.tup [AV.int .u8 9,AV.int .i64 e])) (some (AV.tup [AV.int .u8 6,AV.int .i64 e]))))=some (AV.tup [AV.int .u8 (if all > 15\/b=true then 9 else 6:Int),AV.int .i64 e]):=by
  simp only [aq,aB];by_cases c1:(all:Int) > 15
  · have:all > 15:=by omega
    simp only [if_pos c1,aj,ad,ak,ae,ao,this,true_or,if_true]
  · have h1:¬ all > 15:=by omega
    rw [if_neg c1];by_cases c2:IntKind.wrap .i64 (x - (k:Int)) < -22
    · have:b=true:=by rw [<- hb,Ye c2];rfl
      subst this;simp only [if_pos c2,aj,ad,ak,ae,ao,or_true,if_true]
    · rw [if_neg c2]
      have:b=decide (IntKind.wrap .i64 (x - (k:Int)) > 22):=by rw [<- hb,X5 c2];rfl
      subst this;simp only [aj,ad,ak,ae,h1,false_or];cases decide (IntKind.wrap .i64 (x - (k:Int)) > 22) <;> rfl
theorem IC {s:List UInt8} (hs:s.length<=500000):(aV vE).bare 59 [.str s]=some (if wh aI s=0 then .tup [.int .u8 5,.int .i64 0] else .tup [.int .u8 ((number s).1:Int),.int .i64 ((number s).2:Int)]):=by
  refine aX rfl ((Ru _).trans ?_);have hn:=lk aI s;simp only [Wn,ax,Cf (show s.length<=1000000 by omega),af,dQ];by_cases c0:wh aI s=0
  · have b:((wh aI s:Nat):Int)=0:=by omega
    rw [if_pos b,if_pos c0,c0];rfl
  have b:¬ ((wh aI s:Nat):Int)=0:=by omega
  simp only [if_neg b,if_neg c0,bW hn,Xv,aB,fP,ak,aj,ad,ae];generalize J:wh aI s=n at hn c0 b;have i:((s.drop n).take [(46:UInt8)].length==[46])=decide ((s.drop n).head?=some 46):=by
    cases s.drop n with
    | nil=>rfl
    | cons c l=>
      show ([c]==[46])= _;by_cases h:c=46
      · subst h;rfl
      · simp [h]
  rw [i];unfold number;rw [J];by_cases o:(s.drop n).head?=some 46
  · have K:n < s.length:=by
      rcases Nat.lt_or_ge n s.length with q | q
      · exact q
      · rw [List.drop_of_length_le q] at o;cases o
    simp only [o,decide_true,XE,ai,if_true];have hk:=lk aI (s.drop (n+1));rw [Xa] at hk;have p:(s.drop (n+1)).length<=1000000:=by rw [Xa];omega
    simp only [bm (show n+1<=9223372036854775807 by omega),bW (show n+1<=s.length by omega),Xv,Cf p,af];generalize P:wh aI (s.drop (n+1))=k at hk;simp only [mD (show n+k<=9223372036854775807 by omega),mD (show n+1+k<=9223372036854775807 by omega),bm (show n+1+k+1<=9223372036854775807 by omega),HG,bW (Nat.min_le_left s.length (n+1+k+1)),bW (show n+1+k<=min s.length (n+1+k+1) by omega),DO,nf];generalize hE:n+1+k=e at *;have hle:e<=s.length:=by omega
    have r:((s.drop e).take 1).length<=1000000:=by rw [Xg,Xa];omega
    simp only [Sq r,af,aq];have a: ∀(x:Nat×Int),x=(0,0)->(az (aW (decide (((n+k:Nat):Int) > 15)) (some (([AV.bool true],St.mk 0 0 Tr.leaf):bT)) (aN (IntKind.wrap .i64 ((0:Int) - (k:Int))) fun t=>aW (decide (t < -22)) (some ([AV.bool true],St.mk 0 0 Tr.leaf)) (aN (IntKind.wrap .i64 ((0:Int) - (k:Int))) fun u=>some ([AV.bool (decide (u > 22))],St.mk 0 0 Tr.leaf)))) fun v=>
 bj (Prod.fst v) fun w y=>bJ w fun z=>bC y (aW z (some (AV.tup [AV.int .u8 9,AV.int .i64 (e:Int)])) (some (AV.tup [AV.int .u8 6,AV.int .i64 (e:Int)]))))=some (AV.tup [AV.int .u8 ((if n+k > 15\/x.2 - (k:Int) < -22\/x.2 - (k:Int) > 22 then 9 else 6:Nat):Int),AV.int .i64 ((e+x.1:Nat):Int)]):=by
      rintro _ rfl;have hw:IntKind.wrap .i64 ((0:Int) - (k:Int))=0 - (k:Int):=wrap_i64 (by omega) (by omega);rw [Ag (St.mk 0 0 Tr.leaf) (decide ((0:Int) - k < -22)||decide ((0:Int) - k > 22)) (by rw [hw])];simp only [XL,XU,XO];by_cases h:n+k > 15\/(0:Int) - (k:Int) < -22\/(0:Int) - (k:Int) > 22
      · rw [if_pos h,if_pos h];rfl
      · rw [if_neg h,if_neg h];rfl
    simp only [aq,aB] at a;cases ht:s.drop e with
    | nil=>
      have h0:¬ (((wh RO ([].take 1):Nat):Int) > 0):=by simp [wh]
      simp only [if_neg h0,aj,ad,af,ae];exact a _ rfl
    | cons c l=>
      have f:s.drop (e+1)=l:=by rw [<- Ya,ht];rfl
      have L:e < s.length:=by
        rcases Nat.lt_or_ge e s.length with q | q
        · exact q
        · rw [List.drop_of_length_le q] at ht;cases ht
      have M:l.length=s.length - (e+1):=by rw [<- f,Xa]
      rw [K0];cases hc:RO c with
      | false=>
        have hx:ir (c::l)=(0,0):=by
          unfold ir;have:¬ (c=101\/c=69):=by
            intro h;rcases h with rfl | rfl <;> cases hc
          simp only [if_neg this]
        simp only [Xw,if_false,show ¬ (((0:Nat):Int) > 0) by omega,aj,ad,af,ae];exact a _ hx
      | true=>
        have j:c=101\/c=69:=by simpa [RO] using hc
        have N:=CL l;have G:fY l<=1:=by
          cases l with
          | nil=>simp [fY]
          | cons c l=>simp only [fY];split <;> omega
        have A:wh pA (l.take 1)=fY l:=by
          cases l with
          | nil=>rfl
          | cons c l=>rw [K0];rfl
        simp only [if_true,show (((1:Nat):Int) > 0) by omega];simp only [bm (show e+1<=9223372036854775807 by omega),mV (show e+2<=9223372036854775807 by omega),HG,bW (Nat.min_le_left s.length (e+2)),bW (show e+1<=min s.length (e+2) by omega),DO,aB,show (s.take (e+2)).drop (e+1)=l.take 1 by rw [<- f];exact nf s (e+1) 1,Np (show (l.take 1).length<=1000000 by rw [Xg];omega),af,A,mD (show e+1+fY l<=9223372036854775807 by omega),bW (show e+1+fY l<=s.length by omega),Xv];have B:s.drop (e+1+fY l)=l.drop (fY l):=by rw [<- Ya,f]
        have C:(l.drop (fY l)).length<=1000000:=by rw [Xa];omega
        simp only [B,Cf C,af];have H:=lk aI (l.drop (fY l));rw [Xa] at H;generalize g:wh aI (l.drop (fY l))=d at H;by_cases I:d=0
        · subst I
          have hx:ir (c::l)=(0,0):=by
            simp only [ir,if_pos j,g,if_true]
          simp only [show ¬ (((0:Nat):Int) > 0) by omega,aq,if_false,aj,ad,af,ae];exact a _ hx
        · have D:((d:Nat):Int) > 0:=by omega
          have hx:ir (c::l)=(1+fY l+d,if l.head?=some 45 then -((min (jO 0 ((l.drop (fY l)).take d)) 1000000:Nat):Int) else ((min (jO 0 ((l.drop (fY l)).take d)) 1000000:Nat):Int)):=by
            simp only [ir,if_pos j,g,if_neg I]
          obtain ⟨x,E,F⟩:=Jq (by omega) g (by omega) k;have hf:=JK E (show k<=500000 by omega);have m:(s.take (e+1+fY l+d)).drop (e+1)=l.take (fY l+d):=by
            have:=nf s (e+1) (fY l+d);rw [f, <- Yl] at this;exact this
          simp only [aq,if_pos D,mD (show e+1+fY l+d<=9223372036854775807 by omega),bW (show e+1+fY l+d<=s.length by omega),bW (show e+1<=e+1+fY l+d by omega),m,Jg,ax,F,aB,aj,ad,af,ae];have hl:=Ag (all:=n+k) (e:=((e+1+fY l+d:Nat):Int)) (St.mk 0 0 Tr.leaf) _ hf;simp only [aq,aB] at hl;rw [hl,hx];have O:e+(1+fY l+d)=e+1+fY l+d:=by omega
          simp only [O];unfold RH;simp only [XL,XU];by_cases c5:l.head?=some 45
          · simp only [c5,if_true]
            split <;> rfl
          · simp only [c5,if_false]
            split <;> rfl
  · simp only [o,decide_false,XR,ao,if_false]
    rfl
theorem Q9 (c:UInt8):decide (uu [110,116,92,34] c>=0)=vN c:=by
 have:=AM (p:=fun c=>decide (uu [110,116,92,34] c>=0)==vN c) (by decide+kernel) c;exact eq_of_beq this
theorem qX (n:Nat) (b:UInt8) (l:List UInt8):dI n (b::l)=if b.toNat=n then some 0 else (dI n l).map (· +1):=by
 show (match b.toNat.beq n with | true=>some 0 | false=>match dI n l with | some i=>some (i+1) | none=>none)= _;cases h:b.toNat.beq n with
 | true=>rw [if_pos (W2 h)]
 | false=>
  rw [if_neg (Nat.ne_of_beq_eq_false h)];cases dI n l <;> rfl
theorem Ae: ∀(r:List UInt8),(∀b∈r,b≠10)->iE r=match dI 34 r with | some j=>j+1 | none=>r.length
 | [],_=>rfl
 | c::r,h=>by
  have ih:=Ae r fun b hb=>h b (WZ _ hb);rw [qX];simp only [iE,if_neg (h c (by simp))];by_cases hc:c=34
  .subst hc;rfl
  .have:¬ c.toNat=34:=fun e=>hc (Yr.1 e);rw [if_neg hc,if_neg this,ih];cases dI 34 r <;> rfl
theorem ra: ∀(r:List UInt8),iE r=iE (r.takeWhile fun b=>b != 10)
 | []=>rfl
 | c::r=>by
  by_cases h:c=10
  .subst h;rfl
  .have e:(c != 10)=true:=by simpa using h
   rw [XD,if_pos e];simp only [iE,if_neg h];rw [ra r]
theorem xO: ∀(l:List UInt8),dT l=dT (l.takeWhile fun b=>b != 10)
 | []=>rfl
 | [c]=>by
  by_cases h:c=10
  .subst h;rfl
  .have e:(c != 10)=true:=by simpa using h
   rw [XD,if_pos e];rfl
 | c::d::l=>by
  have h1:=xO l;have h2:=xO (d::l);have h3:=ra (d::l);by_cases h:c=10
  .subst h;rfl
  have e:(c != 10)=true:=by simpa using h
  rw [XD,if_pos e];by_cases f:c=34
  .subst f;cases hr:(d::l).takeWhile fun b=>b != 10 with
   | nil=>rfl
   | cons a r=>rfl
  by_cases hb:c=92
  .subst hb;by_cases hd:d=10
   .subst hd;rfl
   .have g:(d != 10)=true:=by simpa using hd
    rw [XD,if_pos g] at h2 h3 ⊢;simp only [dT,h,f,if_false,if_true];split
    .rw [h1]
    .rw [h3]
  .cases hr:(d::l).takeWhile fun b=>b != 10 with
   | nil=>
    rw [hr] at h2;simp only [dT,if_neg h,if_neg f,if_neg hb,h2]
   | cons a r=>
    rw [hr] at h2;simp only [dT,if_neg h,if_neg f,if_neg hb,h2]
theorem rq (line:List UInt8) (h: ∀b∈line,b≠10) (hs:line.length<=1000000) (st:St): ∀(r:List UInt8) (i:Nat),line.drop i=r->i<=line.length->
  (aK (gA line) ([.int .u8 0,.int .i64 0,.int .i64 (i:Int)],st)=some (1,[.int .u8 ((dT r).1:Int),.int .i64 ((i+(dT r).2:Nat):Int)],st))\/
  (aK (gA line) ([.int .u8 0,.int .i64 0,.int .i64 (i:Int)],st)=some (0,[.int .u8 0,.int .i64 0],st)/\dT r=(9,r.length))
 | [],i,hd,hi=>by
  have:=Xz.1 hd;have q:¬ (i:Int) < (line.length:Int):=by omega
  refine .inr ⟨aF ?_,rfl⟩;simp only [gA,ad,af,ae,aq,if_neg q]
 | [c],i,hd,hi=>by
  obtain ⟨hg,hr,a⟩:=drop_cons hd;have y:=Xz.1 hr;have q:(i:Int) < (line.length:Int):=by omega
  have hc:line[i]=c:=fR a hg;have n:c≠10:=h c (Xo hg);by_cases c1:c=34
  .subst c1;refine .inl (aF ?_);have z:((UInt8.toNat (34:UInt8):Nat):Int)=34:=rfl;simp only [gA,ad,af,ae,aq,if_pos q,bI a,hc,z,dQ,if_true,aB,bm (show i+1<=9223372036854775807 by omega),aj,nM];rfl
  .have u:¬ ((c.toNat:Nat):Int)=34:=kq (d:=34) c1;by_cases c2:c=92
   .subst c2;have z2:((UInt8.toNat (92:UInt8):Nat):Int)=92:=rfl;have z3:¬ ((92:Int)=34):=by omega
    have q2:¬ ((i+1:Nat):Int) < (line.length:Int):=by omega
    have o:uu [92] 34= -1:=rfl;have k:=fun {β:Type} (st:St) (K:Kv β)=>l8 [92] 34 st K;have p:((UInt8.toNat (34:UInt8):Nat):Int)=34:=rfl;simp only [p] at k;have el:line.length=i+1:=by omega
    have s:dT [92]=(9,1):=rfl;refine .inl (aF ?_);simp only [gA,ad,af,ae,aq,if_pos q,bI a,hc,z2,dQ,if_neg z3,if_true,aB,bm (show i+1<=9223372036854775807 by omega),if_neg q2,aj,ak,ai,bW (show i<=line.length by omega),Xv,hd,k,o,show ¬ ((-1:Int)>=0) by omega,if_false,nM,s];rw [el];rfl
   .have z2:¬ ((c.toNat:Nat):Int)=92:=kq (d:=92) c2;refine .inr ⟨?_,by simp only [dT,if_neg n,if_neg c1];rfl⟩;have ih:=rq line h hs st [] (i+1) hr (by omega);rw [aP (s':=([.int .u8 0,.int .i64 0,.int .i64 ((i+1:Nat):Int)],st))]
    .rcases ih with ih | ih
     .exfalso;have q2:¬ ((i+1:Nat):Int) < (line.length:Int):=by omega
      have e:aK (gA line) ([.int .u8 0,.int .i64 0,.int .i64 ((i+1:Nat):Int)],st)=some (0,[.int .u8 0,.int .i64 0],st):=aF (by simp only [gA,ad,af,ae,aq,if_neg q2]);rw [e] at ih;cases ih
     .exact ih.1
    .simp only [gA,ad,af,ae,aq,if_pos q,bI a,hc,dQ,if_neg u,if_neg z2,aj,cF,aB,bm (show i+1<=9223372036854775807 by omega)]
 | c::d::l,i,hd,hi=>by
  obtain ⟨hg,hr,a⟩:=drop_cons hd;obtain ⟨v,w,m⟩:=drop_cons hr;have q:(i:Int) < (line.length:Int):=by omega
  have q2:((i+1:Nat):Int) < (line.length:Int):=by omega
  have hc:line[i]=c:=fR a hg;have t:line[i+1]=d:=fR m v;have n:c≠10:=h c (Xo hg);by_cases c1:c=34
  .subst c1;refine .inl (aF ?_);have z:((UInt8.toNat (34:UInt8):Nat):Int)=34:=rfl;simp only [gA,ad,af,ae,aq,if_pos q,bI a,hc,z,dQ,if_true,aB,bm (show i+1<=9223372036854775807 by omega),aj,nM];rfl
  .have u:¬ ((c.toNat:Nat):Int)=34:=kq (d:=34) c1;by_cases c2:c=92
   .subst c2;have z2:((UInt8.toNat (92:UInt8):Nat):Int)=92:=rfl;have z3:¬ ((92:Int)=34):=by omega
    have g:=Q9 d;cases he:vN d with
    | true=>
     rw [he] at g;have f:=YA g;have ih:=rq line h hs st l (i+2) w (by omega);have step:aK (gA line) ([.int .u8 0,.int .i64 0,.int .i64 (i:Int)],st)=aK (gA line) ([.int .u8 0,.int .i64 0,.int .i64 ((i+2:Nat):Int)],st):=by
      refine aP ?_;simp only [gA,ad,af,ae,aq,if_pos q,bI a,hc,z2,dQ,if_neg z3,if_true,aB,bm (show i+1<=9223372036854775807 by omega),if_pos q2,bI m,t,l8,aj,ak,if_pos f,cF,bm (show i+1+1<=9223372036854775807 by omega)]
     have s:dT (92::d::l)=((dT l).1,(dT l).2+2):=by
      simp only [dT,he,if_true];rfl
     rw [step,s];rcases ih with ih | ⟨ih,x⟩
     .refine .inl (ih.trans ?_);show some (_,[_,AV.int .i64 ((i+2+(dT l).2:Nat):Int)],st)= _;rw [show i+2+(dT l).2=i+((dT l).2+2) by omega]
     .exact .inr ⟨ih,by rw [x];rfl⟩
    | false=>
     rw [he] at g;have f:=of_decide_eq_false g;have s:dT (92::d::l)=(9,iE (d::l)+1):=by
      simp only [dT,he];rfl
     have hb:=Ae (d::l) fun b hb=>h b (by
      have:b∈line.drop (i+1):=by rw [hr];exact hb
      exact List.mem_of_mem_drop this)
     have k:=fun {β:Type} (st:St) (K:Kv β)=>l8 (92::d::l) 34 st K;have p:((UInt8.toNat (34:UInt8):Nat):Int)=34:=rfl;simp only [p] at k;have hl:line.length=i+2+l.length:=by
      have:=Xy List.length hd;rw [Xa] at this;simp at this;omega
     rw [s];refine .inl (aF ?_);have o:uu (92::d::l) 34=match dI 34 (d::l) with | some j=>((j+1:Nat):Int) | none=> -1:=by
      unfold uu;rw [show (UInt8.toNat (34:UInt8))=34 from rfl,qX,if_neg (by decide)];cases dI 34 (d::l) <;> rfl
     simp only [gA,ad,af,ae,aq,if_pos q,bI a,hc,z2,dQ,if_neg z3,if_true,aB,bm (show i+1<=9223372036854775807 by omega),if_pos q2,bI m,t,l8,aj,ak,if_neg f,bW (show i<=line.length by omega),Xv,hd,k,o];rw [hb];cases hf:dI 34 (d::l) with
     | none=>
      simp only [show ¬ ((-1:Int)>=0) by omega,if_false,aj,nM];rw [show line.length=i+((d::l).length+1) by simp;omega];rfl
     | some j=>
      have hj:j+1<=(d::l).length:=by
       have h1:=BX (d::l);rw [hb,hf] at h1;exact h1
      simp only [Xk] at hj;simp only [show (((j+1:Nat):Int)>=0) by omega,if_true,mD (show i+(j+1)<=9223372036854775807 by omega),bm (show i+(j+1)+1<=9223372036854775807 by omega),aj,nM];rfl
   .have z2:¬ ((c.toNat:Nat):Int)=92:=kq (d:=92) c2;have ih:=rq line h hs st (d::l) (i+1) hr (by omega);have step:aK (gA line) ([.int .u8 0,.int .i64 0,.int .i64 (i:Int)],st)=aK (gA line) ([.int .u8 0,.int .i64 0,.int .i64 ((i+1:Nat):Int)],st):=by
     refine aP ?_;simp only [gA,ad,af,ae,aq,if_pos q,bI a,hc,dQ,if_neg u,if_neg z2,aj,cF,aB,bm (show i+1<=9223372036854775807 by omega)]
    have s:dT (c::d::l)=((dT (d::l)).1,(dT (d::l)).2+1):=by
     simp only [dT,if_neg n,if_neg c1,if_neg c2]
    rw [step,s];rcases ih with ih | ⟨ih,x⟩
    .refine .inl (ih.trans ?_);show some (_,[_,AV.int .i64 ((i+1+(dT (d::l)).2:Nat):Int)],st)= _;rw [show i+1+(dT (d::l)).2=i+((dT (d::l)).2+1) by omega]
    .exact .inr ⟨ih,by rw [x];rfl⟩
theorem Ac: ∀(s:List UInt8),(match dI 10 s with | some k=>s.take k | none=>s)=s.takeWhile fun b=>b != 10
 | []=>rfl
 | c::l=>by
  have ih:=Ac l;rw [qX,XD];by_cases h:c=10
  .subst h;rfl
  .have e:(c != 10)=true:=by simpa using h
   have:¬ c.toNat=10:=fun k=>h (Yr.1 k);rw [if_neg this,if_pos e, <- ih];cases dI 10 l <;> rfl
theorem HJ: ∀(s:List UInt8) (n k:Nat),dI n s=some k->k < s.length
 | [],_,_,h=>by cases h
 | c::l,n,k,h=>by
  rw [qX] at h;split at h
  .cases h;simp
  .obtain ⟨m,hm,rfl⟩:=Xq.1 h;have:=HJ l n m hm;simp;omega
theorem Mc {c:UInt8} {l:List UInt8} (hs:(c::l).length<=1000000):(aV vE).bare 60 [.str (c::l)]=some (if c=34 then .tup [.int .u8 ((dT l).1:Int),.int .i64 (((dT l).2+1:Nat):Int)] else .tup [.int .u8 0,.int .i64 0]):=by
 refine aX rfl ((Ra _).trans ?_);have i0: ∀{β:Type} (K:UInt8->Option β),eC (c::l) 0 K=K c:=fun K=>bI (k:=0) (by simp) K;by_cases h:c=34
 .subst h;have z:(((UInt8.toNat (34:UInt8):Nat):Int) != 34)=false:=rfl;have f:=fun {β:Type} (st:St) (K:Kv β)=>l8 (34::l) 10 st K;have g:((UInt8.toNat (10:UInt8):Nat):Int)=10:=rfl;simp only [g] at f;have a:=Ac (34::l);have hw:(34::l).takeWhile (fun b=>b != 10)=34::l.takeWhile (fun b=>b != 10):=by rw [XD];rfl
  rw [hw] at a;have i: ∀b∈(34::l.takeWhile (fun b=>b != 10):List UInt8),b≠10:=by
   intro b hb;rcases Xb.1 hb with rfl | hb
   .decide
   .have:=XH.1 (rM (fun b=>b != 10) l) b hb;simpa using this
  have j:(34::l.takeWhile (fun b=>b != 10):List UInt8).length<=1000000:=by
   have:=(List.takeWhile_sublist (p:=fun b=>b != 10) (l:=l)).length_le;simp at hs ⊢;omega
  have e:=rq (34::l.takeWhile (fun b=>b != 10)) i j (St.mk 0 0 Tr.leaf) (l.takeWhile fun b=>b != 10) 1 rfl (by simp);rw [<- xO l] at e;have first: ∀(K:bT->Option AV),(az (aW (decide (uu (34::l) 10>=0)) (eh (uu (34::l) 10) (34::l:List UInt8).length fun k6=>aN (List.drop 0 (List.take k6 (34::l))) fun m=>some (([AV.str m],St.mk 0 0 Tr.leaf):bT)) (some ([AV.str (34::l)],St.mk 0 0 Tr.leaf))) K)=K ([AV.str (34::l.takeWhile fun b=>b != 10)],St.mk 0 0 Tr.leaf):=by
   intro K;unfold uu;rw [show UInt8.toNat (10:UInt8)=10 from rfl];cases hf:dI 10 (34::l) with
   | none=>
    rw [hf] at a;have a:(34::l)=34::l.takeWhile (fun b=>b != 10):=a;simp only [aq,show ¬ ((-1:Int)>=0) by omega,if_false,aj];rw [<- a]
   | some k=>
    rw [hf] at a;have a:(34::l).take k=34::l.takeWhile (fun b=>b != 10):=a;have hk:=HJ _ _ _ hf;simp only [aq,show ((k:Int)>=0) by omega,if_true,bW (show k<=(34::l:List UInt8).length by omega),Xc,aB,a,aj]
  simp only [U5,ax,i0,z,ai,f,af];rw [first];simp only [ad,ax,ae,if_true];rcases e with e | ⟨e,n⟩
  .have e:aK (gA (34::l.takeWhile fun b=>b != 10)) ([.int .u8 0,.int .i64 0,.int .i64 1],St.mk 0 0 Tr.leaf)= _:=e;rw [e];simp only [aj,ad,af,ae,iC];rw [Yh 1]
  .have e:aK (gA (34::l.takeWhile fun b=>b != 10)) ([.int .u8 0,.int .i64 0,.int .i64 1],St.mk 0 0 Tr.leaf)= _:=e;rw [e,n];simp only [aj,ad,af,ae,er];rfl
 .have z:((c.toNat:Int) != 34)=true:=by
   have o:¬ ((c.toNat:Nat):Int)=34:=kq (d:=34) h;rw [bne,beq_false_of_ne o];rfl
  simp only [U5,ax,i0,z,ao,if_neg h]
theorem L6 {c:UInt8} {l:List UInt8}:(aV vE).bare 61 [.str (c::l)]=some (if jE.contains ((c::l).take 2) then .tup [.int .u8 8,.int .i64 2] else .tup [.int .u8 8,.int .i64 (if kQ c then 1 else 0)]):=by
 refine aX rfl ((QI _).trans ?_);have h1:(c::l).take 1=[c]:=rfl;have h2:wh kQ [c]=if kQ c then 1 else 0:=by rw [eK];rfl
 have tail: ∀(st:St),(bM (Nat.ble 1 (c::l).length) (aN (List.drop 0 (List.take 1 (c::l))) fun b=>bc (aV vE) 80 [AV.str b,AV.str [40,41,91,93,44,59,124,61,60,62,43,45,42,47,94,64]] st fun v51 _x _x_1=>bk .i64 v51 fun a=>aN (if a < 1 then a else 1) fun e=>some (AV.tup [AV.int .u8 8,AV.int .i64 e])))=some (.tup [.int .u8 8,.int .i64 (if kQ c then 1 else 0)]):=by
  intro st;simp only [gN (show 1<=(c::l).length by simp),aR,aB,h1,Xc,Ma (show [c].length<=1000000 by simp),af,h2];cases kQ c <;> rfl
 by_cases hl:((c::l).length:Int) > 1
 .have f:2<=(c::l).length:=by omega
  simp only [Uw,ax,aq,if_pos hl,gN f,aR,Xc,aB];generalize (c::l).take 2=w;cases hw:jE.contains w with
  | true=>
   have hm:w∈jE:=List.contains_iff_mem.1 hw;simp only [jE,Xb,List.not_mem_nil,or_false] at hm;rcases hm with rfl | rfl | rfl | rfl | rfl | rfl | rfl | rfl | rfl | rfl | rfl <;> rfl
  | false=>
   simp only [jE,List.contains_cons,List.contains_nil,Yu] at hw;obtain ⟨j,k,m,n,o,p,q,r,s,g,h,_⟩:=hw;simp only [j,k,m,n,o,p,q,r,s,g,h,ai,aj,ad,ak,ae,cF,af];exact tail _
 .have i:l=[]:=by
   cases l with
   | nil=>rfl
   | cons d l=>simp at hl;omega
  subst i;have hw:jE.contains ([c].take 2)=false:=by
   simp [jE]
  simp only [Uw,ax,aq,if_neg hl,aj,cF,ad,af,ae,hw];exact tail _
def FO (s:List UInt8):Nat:=if gK s=0 then 1 else gK s
theorem H4 {s:List UInt8} (h:s≠[]): ∃r n:Int,jS [.str s]= .ok (.tup [.int .i32 r,.int .i64 n])/\((gK s=0/\r=65533/\n=1)\/(gK s≠0/\n=gK s/\(gK s=1->r≠65533))):=by
 cases s with
 | nil=>exact absurd rfl h
 | cons c l=>
  have e:jS [.str (c::l)]= .ok (.tup [.int .i32 ((Lib.decodeL (c::l)).1:Int),.int .i64 ((Lib.decodeL (c::l)).2:Int)]):=by
   rw [Lib.decodeL_N];rfl
  refine ⟨_,_,e, ?_⟩;rcases xe (c::l) with ⟨h1,h2⟩ | ⟨h1,h2,h3⟩ | ⟨h1,h2⟩
  .exact .inl ⟨h1,by rw [h2];rfl,by rw [h2];rfl⟩
  .refine .inr ⟨by omega,by rw [h3,h1],fun _=> ?_⟩;rw [h3];show (((c::l).getD 0 0).toNat:Int)≠65533;omega
  .exact .inr ⟨by omega,by rw [h2],fun h=>by omega⟩
theorem NT {s:List UInt8} (h:s≠[]): ∃r:Int,(aV vE).bare 86 [.str s]=some (.tup [.int .i64 r,.int .i64 (FO s:Int)]):=by
 obtain ⟨r,n,e,hc⟩:=H4 h;have hne:(s==[])=false:=by simpa using h
 rcases hc with ⟨h1,rfl,rfl⟩ | ⟨h1,rfl,h2⟩
 .refine ⟨-1,aX rfl ((LK _).trans ?_)⟩;simp only [Uj,ax,hne,ai,jV e,cf,bw,bG,af,dQ,if_true,aj,ad,ak,ae,aq,show ((1:Int) < 2) by omega,FO,if_pos h1];rfl
 .refine ⟨IntKind.wrap .i64 r,aX rfl ((LK _).trans ?_)⟩;by_cases c1:r=65533
  .have:¬ gK s=1:=fun k=>h2 k c1;have:¬ ((gK s:Int) < 2):=by omega
   simp only [Uj,ax,hne,ai,jV e,cf,bw,bG,af,dQ,if_pos c1,aj,ad,ak,ae,aq,if_neg this,aB,FO,if_neg h1]
  .simp only [Uj,ax,hne,ai,jV e,cf,bw,bG,af,dQ,if_neg c1,aj,ad,ak,ae,aB,FO,if_neg h1]
theorem Qz {s:List UInt8} (h:s≠[]):(aV vE).bare 62 [.str s]=some (.tup [.int .u8 9,.int .i64 (FO s:Int)]):=by
 refine aX rfl ((PZ _).trans ?_);obtain ⟨r,e⟩:=NT h;have a: ∀{β:Type} (st:St) (K:Kv β),bc (aV vE) 86 [.str s] st K=K (.tup [.int .i64 r,.int .i64 (FO s:Int)]) st q0:=fun st K=>aG st K rfl rfl rfl e;simp only [VI,ax,a,cf,bw,bG,af]
def ways (s:List UInt8):List (Nat×Nat):=
 match s with
 | []=>[]
 | c::l=>[(1,wh bH s),(if s.take 2=[40,42] then (match rem (s.drop 2) 1 with | some n=>(2,n+2) | none=>(9,s.length)) else (0,0)),
   (if jq c then (pt (s.takeWhile eH),wh eH s) else (0,0)),(if wh aI s=0 then (5,0) else number s),(if c=34 then ((dT l).1,(dT l).2+1) else (0,0)),
   (if jE.contains (s.take 2) then (8,2) else (8,if kQ c then 1 else 0)),(9,FO s)]
def IU:List FuncId:=[56,57,58,59,60,61,62]
theorem Mz {s:List UInt8} (hs:s.length<=500000) {j:Nat} {f:FuncId} {p:Nat×Nat} (hf:IU[j]? =some f) (hp:(ways s)[j]? =some p):
  (aV vE).bare f [.str s]=some (.tup [.int .u8 (p.1:Int),.int .i64 (p.2:Int)])/\vE.full f=false/\vE.prim f=none:=by
 cases s with
 | nil=>simp [ways] at hp
 | cons c l=>
  match j,hf,hp with
  | 0,hf,hp=>cases hf;cases hp;exact ⟨Kq (by omega),rfl,rfl⟩
  | 1,hf,hp=>
   cases hf;cases hp;refine ⟨(Jp (by omega)).trans ?_,rfl,rfl⟩;split
   .cases rem (List.drop 2 (c::l)) 1 <;> rfl
   .rfl
  | 2,hf,hp=>
   cases hf;cases hp;refine ⟨(Ms (by omega)).trans ?_,rfl,rfl⟩;split <;> rfl
  | 3,hf,hp=>
   cases hf;cases hp;refine ⟨(IC hs).trans ?_,rfl,rfl⟩;split <;> rfl
  | 4,hf,hp=>
   cases hf;cases hp;refine ⟨(Mc (by omega)).trans ?_,rfl,rfl⟩;split <;> rfl
  | 5,hf,hp=>
   cases hf;cases hp;refine ⟨L6.trans ?_,rfl,rfl⟩;split
   .rfl
   .cases kQ c <;> rfl
  | 6,hf,hp=>cases hf;cases hp;exact ⟨Qz (by simp),rfl,rfl⟩
  | j+7,hf,hp=>simp [IU] at hf
def first:List (Nat×Nat)->Nat×Nat
 | []=>(9,0)
 | p::l=>if 0 < p.2 then p else first l
theorem ML {c:UInt8} (h:jq c=true):eH c=true:=by unfold eH;rw [h];rfl
theorem JC {s:List UInt8} (h:s≠[]):first (ways s)=cut s:=by
 cases s with
 | nil=>exact absurd rfl h
 | cons c l=>
  unfold cut;simp only [ways,first];cases hb:bH c with
  | true=>
   have:0 < wh bH (c::l):=by rw [eK,if_pos hb];omega
   simp only [if_pos this,if_true]
  | false=>
   have:¬ 0 < wh bH (c::l):=by rw [eK,hb];simp
   simp only [if_neg this,Xw,if_false];by_cases hr:(c::l).take 2=[40,42]
   .simp only [if_pos hr];cases rem (List.drop 2 (c::l)) 1 with
    | some n=>simp
    | none=>simp
   .simp only [if_neg hr,show ¬ (0:Nat) < 0 by omega,if_false];cases hl:jq c with
    | true=>
     have:0 < wh eH (c::l):=by rw [eK,if_pos (ML hl)];omega
     simp only [if_pos this,if_true]
    | false=>
     simp only [Xw,if_false,show ¬ (0:Nat) < 0 by omega];cases hd:aI c with
     | true=>
      have h1:0 < wh aI (c::l):=by rw [eK,if_pos hd];omega
      have h2:=(Ab (c::l) h1).1;have h3:¬ wh aI (c::l)=0:=by omega
      simp only [if_neg h3,show 0 < (number (c::l)).2 by omega,if_true]
     | false=>
      have h1:wh aI (c::l)=0:=by rw [eK,hd];simp
      simp only [if_pos h1,show ¬ (0:Nat) < 0 by omega,if_false,Xw];by_cases a:c=34
      .simp only [if_pos a,show 0 < (dT l).2+1 by omega,if_true]
      .simp only [if_neg a,show ¬ (0:Nat) < 0 by omega,if_false];by_cases ht:jE.contains ((c::l).take 2)=true
       .simp only [if_pos ht,show (0:Nat) < 2 by omega,if_true]
       .simp only [if_neg ht];cases ho:kQ c with
        | true=>simp
        | false=>
         have hz:0 < FO (c::l):=by unfold FO;split <;> omega
         simp only [Xw,if_false,show ¬ (0:Nat) < 0 by omega,hz,if_true];rfl
theorem DP {β:Type} {f g:FuncId} (hp:vE.prim f=none) (args:List AV) (st:St) (K:Kv β):kK (aV vE) (Sx.prim (sx vE g)) (.fn (.func f) [] []) args st K=bc (aV vE) f args st K:=by
 have hp:Sx.prim (sx vE g) f=none:=hp;simp only [kK,iI,hp,W5,Xe];rfl
def tok (p:Nat×List UInt8):AV:= .agg [.int .u8 (p.1:Int),.str p.2]
def Sm:AV:=AV.sl 1 [AV.fn (Fn.func 56) [] [],AV.fn (Fn.func 57) [] [],AV.fn (Fn.func 58) [] [],AV.fn (Fn.func 59) [] [],AV.fn (Fn.func 60) [] [],AV.fn (Fn.func 61) [] [],AV.fn (Fn.func 62) [] []] Perm.shut
theorem Oi {β:Type} {j:Nat} {f:FuncId} (hf:IU[j]? =some f) (st:St) (K:AV->List Nat->Option β):bU 1 Sm (j:Int) st K=K (.ip [.fn (.func f) [] []]) []:=by
 match j,hf with
 | 0,hf=>cases hf;rfl
 | 1,hf=>cases hf;rfl
 | 2,hf=>cases hf;rfl
 | 3,hf=>cases hf;rfl
 | 4,hf=>cases hf;rfl
 | 5,hf=>cases hf;rfl
 | 6,hf=>cases hf;rfl
 | j+7,hf=>simp [IU] at hf
theorem EP {s:List UInt8} (hs:s.length<=500000) {st:St} {v:AV} {es:List AV} (ho:iS st 2 24 v es) (he:es.length<=500000): ∀(l:List (Nat×Nat)) (j:Nat),(ways s).drop j=l->l.length+j=7->0 < (first l).2->(first l).2<=s.length->
  ∃v' st',aK zo ([v,.str s,.int .i64 (j:Int)],st)=some (0,[v',.str (s.drop (first l).2)],st')/\iS st' 2 24 v' (es++[tok ((first l).1,s.take (first l).2)])
 | [],j,hd,hj,h0,_=>by simp [first] at h0
 | p::l,j,hd,hj,h0,hle=>by
  obtain ⟨hg,hr,i⟩:=drop_cons (α:=Nat×Nat) hd;have h:j < 7:=by simp at hj;omega
  obtain ⟨f,hf⟩: ∃f,IU[j]? =some f:=⟨IU[j],Xl h⟩;obtain ⟨hb,d,a⟩:=Mz hs hf hg;have hc: ∀{β:Type} (st:St) (K:Kv β),bc (aV vE) f [.str s] st K=K (.tup [.int .u8 (p.1:Int),.int .i64 (p.2:Int)]) st q0:=fun st K=>aG st K d rfl rfl hb;have c:=fun {β:Type} (st:St) (K:AV->List Nat->Option β)=>Oi hf st K;unfold Sm at c;have q:(j:Int) < 7:=by omega
  by_cases hp:0 < p.2
  .have e:(p.2:Int) > 0:=by omega
   have g:first (p::l)=p:=by simp only [first,if_pos hp]
   rw [g] at hle ⊢;obtain ⟨v',st',o',m,x',a'⟩:=Hr (b:=24) (tok (p.1,s.take p.2)) ho (tj (by omega) (by omega) (by omega));refine ⟨v',st',aF ?_,o'⟩;have a': ∀{β:Type} (K:Kv β),cT 2 24 24 v [.agg [.int .u8 (p.1:Int),.str (s.take p.2)]] st K=K v' st' x':=fun K=>a' K;simp only [zo,ad,ax,af,ae,aq,if_pos q,c,bx,bq,aj,DP a,hc,cf,bw,bG,if_pos e,bW hle,Xc,aB,a',Xv]
  .have e:¬ (p.2:Int) > 0:=by omega
   have g:first (p::l)=first l:=by simp only [first,if_neg hp]
   rw [g] at h0 hle ⊢;obtain ⟨v',st',k,o'⟩:=EP hs ho he l (j+1) hr (by simp at hj;omega) h0 hle;refine ⟨v',st', ?_,o'⟩;rw [aP (s':=([v,.str s,.int .i64 ((j+1:Nat):Int)],st)),k];simp only [zo,ad,ax,af,ae,aq,if_pos q,c,bx,bq,aj,DP a,hc,cf,bw,bG,if_neg e,aB,bm (show j+1<=9223372036854775807 by omega)]
theorem AL: ∀(n:Nat) (s:List UInt8) (st:St) (v:AV) (es:List AV),s.length<=n->n<=500000->iS st 2 24 v es->es.length+n<=500000->
  ∃v' st',aK BN ([v,.str s],st)=some (0,[v'],st')/\iS st' 2 24 v' (es++(tokens s).map tok)
 | n,[],st,v,es,_,_,ho,_=>by
  refine ⟨v,st,aF ?_,by simpa [yk] using ho⟩;simp only [BN,ad,ax,ae,show (!(([]:List UInt8)==[]))=false from rfl,ai]
 | 0,c::l,_,_,_,h,_,_,_=>by simp at h
 | n+1,c::l,st,v,es,h,hn,ho,he=>by
  have hc:=kY (s:=c::l) (by simp);have a:=JC (s:=c::l) (by simp);obtain ⟨v1,st1,b,o1⟩:=EP (s:=c::l) (by omega) ho (by omega) (ways (c::l)) 0 rfl rfl (by rw [a];omega) (by rw [a];omega);rw [a] at b o1;have hd:((c::l).drop (cut (c::l)).2).length<=n:=by rw [Xa];omega
  obtain ⟨v2,d,f,e⟩:=AL n ((c::l).drop (cut (c::l)).2) st1 v1 _ hd (by omega) o1 (by rw [W9];simp;omega);refine ⟨v2,d, ?_, ?_⟩
  .have b:aK zo ([v,.str (c::l),.int .i64 0],st)= _:=b;rw [aP (s':=([v1,.str ((c::l).drop (cut (c::l)).2)],st1)),f];simp only [BN,ad,ax,ae,show (!((c::l:List UInt8)==[]))=true from rfl,ao,b,aj]
  .rw [pG (by simp),W8];rw [W6] at e;exact e
theorem Kz {s:List UInt8} (hs:s.length<=1000000):(aV vE).bare 55 [.str s]=some (.bool (cC s)):=by
 refine aX rfl ((O9 _).trans ?_);simp only [VW,ax,jV (C6 (show s.length<=9223372036854775807 by omega)),ak]
theorem xE {β:Type} {s:List UInt8} (hs:s.length<=1000000) (st:St) (K:Kv β):bc (aV vE) 55 [.str s] st K=K (.bool (cC s)) st q0:=aG st K rfl rfl rfl (Kz hs)
theorem BW {s:List UInt8} (h:65536 < s.length):(aV vE).bare 29 [.str s]=some (.tup [.ay,.int .i64 40]):=by
 refine aX rfl ((Gj _).trans ?_);have q:(s.length:Int) > 65536:=by omega
 simp only [Un,ax,aq,if_pos q]
theorem EN {s:List UInt8} (h:s.length<=65536) (hv:cC s=false):(aV vE).bare 29 [.str s]=some (.tup [.ay,.int .i64 4]):=by
 refine aX rfl ((Gj _).trans ?_);have q:¬ (s.length:Int) > 65536:=by omega
 simp only [Un,ax,aq,if_neg q,xE (show s.length<=1000000 by omega),hv,ak,XR,ao]
theorem I7 {s:List UInt8} (h:s.length<=65536) (hv:cC s=true): ∃x,(aV vE).bare 29 [.str s]=some (.tup [x,.int .i64 0])/\bp 2 x ((tokens s).map tok):=by
 have q:¬ (s.length:Int) > 65536:=by omega
 obtain ⟨v',st',e,o⟩:=AL s.length s (St.mk 0 0 Tr.leaf) .ay [] (WW _) (by omega) (iS.ay (WW _) _ _) (by simp;omega);rw [W5] at o;obtain ⟨x,hx,hf⟩:=xq o (gM .i64 0) rfl;refine ⟨x,aX rfl ((Gj _).trans ?_),hx⟩;simp only [Un,ax,aq,if_neg q,xE (show s.length<=1000000 by omega),hv,ak,XE,ai,e,aj,ad,ae,hf]
theorem mb {x:AV} {es:List (Nat×List UInt8)} (h:bp 2 x (es.map tok)) {j:Nat} {p:Nat×List UInt8} (hj:es[j]? =some p) {β:Type} (st:St) (K:AV->List Nat->Option β):bU 2 x (j:Int) st K=K (.ip [.int .u8 (p.1:Int),.str p.2]) []:=
 h.idx (by rw [XG,hj];rfl) st K
structure E6 (PT:TypeId) (st:St) (p:Nat) (L:List Parse.aU) (x:AV) (i d:Nat):Prop where
 get:st.get p= .ok (.cells PT [x,.int .i64 (i:Int),.int .i64 (d:Int)])
 sl:bp 2 x (L.map tok)
 le:i<=L.length
 len:L.length<=1000000
 ro:st.ro<=p
section
variable {PT:TypeId} {st st':St} {p:Nat} {L:List Parse.aU} {x:AV} {i d:Nat}
theorem E6.lt (h:E6 PT st p L x i d):p < st.h:=(St.ch.1 h.get).1
theorem E6.keeps {but:Nat->Prop} (h:E6 PT st p L x i d) (k:ba st st' but) (hp:¬ but p):E6 PT st' p L x i d:=
 ⟨k.old _ _ hp h.get,h.sl,h.le,h.len,by rw [k.ro];exact h.ro⟩
theorem E6.wB (h:E6 PT st p L x i d):st.ro<=st.h:=Xs h.ro (YH h.lt)
end
abbrev PS:=E6 77
theorem PS.jt {st st':St} {but:Nat->Prop} (k:ba st st' but) (h:st.ro<=st.h):st'.ro<=st'.h:=by rw [k.ro];exact Xs h k.h
theorem Nz (t:Parse.aU):(aV vE).bare 87 [.agg [.int .u8 (t.1:Int),.str t.2]]=some (.bool (Parse.bn t)):=by
 refine aX rfl ((QB _).trans ?_);unfold Parse.bn;by_cases h1:t.1=1
 .have a:(t.1:Int)=1:=by omega
  have e:(t.1==1||t.1==2)=true:=by simp [h1]
  rw [e];simp only [UG,aE,ad,af,ax,ae,dQ,if_pos a,aj,ak]
 .have a:¬ (t.1:Int)=1:=by omega
  have h2:((t.1:Int)==2)=(t.1==2):=by
   by_cases h:t.1=2
   .rw [h];rfl
   .rw [WX.2 h,WX.2 (show ¬ (t.1:Int)=2 by omega)]
  simp only [UG,aE,ad,af,ax,ae,dQ,if_neg a,aj,ak,h2,WX.2 h1,XK]
theorem Bh (t:Parse.aU) {β:Type} (st:St) (K:Kv β):bc (aV vE) 87 [.agg [.int .u8 (t.1:Int),.str t.2]] st K=K (.bool (Parse.bn t)) st q0:=aG st K rfl rfl rfl (Nz t)
def wT (r:List Parse.aU):Nat:=(r.takeWhile Parse.bn).length
theorem wG (t:Parse.aU) (r:List Parse.aU):wT (t::r)=if Parse.bn t=true then wT r+1 else 0:=by
 unfold wT;rw [XD];split <;> rfl
theorem Hj (t:Parse.aU) (r:List Parse.aU):Parse.nx (t::r)=if Parse.bn t=true then Parse.nx r else t:=by
 unfold Parse.nx;rw [X1];cases Parse.bn t <;> rfl
theorem Ar {p d:Nat} {L:List Parse.aU} {x:AV} {st0:St} {i0:Nat}: ∀(l:List Parse.aU) (j:Nat) (st:St),L.drop j=l->PS st p L x i0 d->st.get st0.h= .ok (.cells 24 [.int .u8 0,.str []])->st0.h≠p->st.ro<=st0.h->
  ∃st' n,aK (yh (.mp p 0) st0) ([.int .i64 0,.int .i64 (j:Int)],st)=some (n,[.int .i64 (if l.dropWhile Parse.bn=[] then 0 else ((j+wT l:Nat):Int))],st')/\
   (n=if l.dropWhile Parse.bn=[] then 0 else 1)/\ba st st' (· =st0.h)/\st'.h=st.h/\(l.dropWhile Parse.bn=[]->st'=st)/\(l.dropWhile Parse.bn≠[]->st'.get st0.h= .ok (.cells 24 [.int .u8 ((Parse.nx l).1:Int),.str (Parse.nx l).2]))
 | [],j,st,hd,hp,hg,hne,a=>by
  have:=Xz.1 hd;have q:¬ (j:Int) < ((L.map tok).length:Int):=by rw [Xn];omega
  refine ⟨st,0,aF ?_,rfl,ba.refl _ _,rfl,fun _=>rfl,fun h=>absurd rfl h⟩;simp only [yh,ad,af,ae,ck,aR,ct,XO,Xd,bu hp.get,Xc,bq,aj,hp.sl.len,aq,if_neg q];rfl
 | t::l,j,st,hd,hp,hg,hne,a=>by
  obtain ⟨c,hr,f⟩:=drop_cons hd;have q:(j:Int) < ((L.map tok).length:Int):=by rw [Xn];omega
  have hlen:=hp.len;cases ht:Parse.bn t with
  | true=>
   obtain ⟨st',n,e,g,i,k,m,o⟩:=Ar l (j+1) st hr hp hg hne a;have b:(t::l).dropWhile Parse.bn=l.dropWhile Parse.bn:=by rw [X1,ht];rfl
   rw [b,wG,ht,if_pos rfl,Hj,ht,if_pos rfl,show j+(wT l+1)=j+1+wT l by omega];refine ⟨st',n, ?_,g,i,k,m,o⟩;rw [aP (s':=([.int .i64 0,.int .i64 ((j+1:Nat):Int)],st)),e];simp only [yh,ad,af,ae,ck,aR,ct,XO,Xd,bu hp.get,Xc,bq,aj,hp.sl.len,aq,if_pos q,mb hp.sl c,bx,oE,aE,ax,Bh,ht,ak,XE,ai,aB,bm (show j+1<=9223372036854775807 by omega)]
  | false=>
   have b:(t::l).dropWhile Parse.bn=t::l:=by rw [X1,ht];rfl
   obtain ⟨st1,g1,k1,n1,r,e⟩:=Hx (O:=aV vE) (.agg [.int .u8 (t.1:Int),.str t.2]) hg (z:=2) (cs:=[.int .u8 (t.1:Int),.str t.2]) rfl rfl a;rw [b,wG,ht,if_neg (by simp),if_neg (by simp),Hj,ht,if_neg (by simp)];refine ⟨st1,1,aF ?_,rfl,k1,n1,fun h=>by simp at h,fun _=>g1⟩;simp only [yh,ad,af,ae,ck,aR,ct,XO,Xd,bu hp.get,Xc,bq,aj,hp.sl.len,aq,if_pos q,mb hp.sl c,bx,oE,aE,ax,Bh,ht,ak,XR,ao,e]
theorem GA: ∀{l:List Parse.aU},l.dropWhile Parse.bn=[]->wT l=l.length
 | [],_=>rfl
 | t::l,h=>by
  rw [X1] at h;rw [wG];cases ht:Parse.bn t with
  | true=>rw [ht,if_pos rfl] at h;rw [if_pos rfl,GA h];rfl
  | false=>rw [ht,if_neg (by simp)] at h;cases h
theorem Gd {l:List Parse.aU} (h:l.dropWhile Parse.bn=[]):Parse.nx l=(0,[]):=by unfold Parse.nx;rw [h]
theorem N7 {st:St} {p:Nat} {L:List Parse.aU} {x:AV} {i d:Nat} (h:PS st p L x i d):
  ∃st',(aV vE).wide 63 [.mp p 0] st=some (.tup [.agg [.int .u8 ((Parse.nx (L.drop i)).1:Int),.str (Parse.nx (L.drop i)).2],.int .i64 ((i+wT (L.drop i):Nat):Int)],st')/\ba st st' (fun _=>False):=by
 have c:ba st (st.add (.cells 24 [.int .u8 0,.str []])) (fun _=>False):=ba.add _ _ _;have h0:=h.keeps c (fun f=>f);have g0:(st.add (.cells 24 [.int .u8 0,.str []])).get st.h= .ok (.cells 24 [.int .u8 0,.str []]):=St.dE;have hne:st.h≠p:=Nat.ne_of_gt h.lt;obtain ⟨st1,n,a,b,g,m,j,k⟩:=Ar (st0:=st) (L.drop i) i _ rfl h0 g0 hne h.wB;by_cases hd:(L.drop i).dropWhile Parse.bn=[]
 .have:=j hd;subst this;rw [if_pos hd] at a b;subst b;obtain ⟨e,o,g2,k2,q,p2⟩:=yG (O:=aV vE) (.agg [.int .u8 0,.str []]) g0 (z:=2) (cs:=[.int .u8 0,.str []]) rfl rfl h.wB;have hw:((i+wT (L.drop i):Nat):Int)=((L.map tok).length:Int):=by
   have hle:=h.le;rw [GA hd,Xa,Xn];omega
  refine ⟨e,il ((LR _ _).trans ?_),c.fresh k2 (WW _)⟩;rw [hw,Gd hd];have l:=pF (o:=o) hne.symm;simp only [Ux,eV,ck,aR,ct,Xd,bu h0.get,mS,Xc,bq,aj,af,a,ad,ae,er,h0.sl.len,p2,Iu,l,Xt,bu g2,oE,aE,ax];rfl
 .rw [if_neg hd] at a b;subst b;refine ⟨st1,il ((LR _ _).trans ?_),c.fresh g (WW _)⟩;simp only [Ux,eV,ck,aR,ct,Xd,bu h0.get,mS,Xc,bq,aj,af,a,ad,ae,iC,bu (k hd),oE,aE,ax]
theorem nG {st:St} {p:Nat} {L:List Parse.aU} {x:AV} {i d:Nat} (h:PS st p L x i d):
  ∃st',ba st st' (fun _=>False)/\ ∀{β:Type} (K:Kv β),bc (aV vE) 63 [.mp p 0] st K=K (.tup [.agg [.int .u8 ((Parse.nx (L.drop i)).1:Int),.str (Parse.nx (L.drop i)).2],.int .i64 ((i+wT (L.drop i):Nat):Int)]) st' ⟨[],.all st st'⟩:=by
 obtain ⟨st',e,k⟩:=N7 h;exact ⟨st',k,fun K=>gV (E:=vE) K rfl rfl e⟩
def H2 (s:List UInt8):List (List UInt8)->Nat->Option Nat
 | [],_=>none
 | t::l,j=>if s=t then some j else H2 s l (j+1)
theorem Dm (s:List UInt8): ∀(l:List (List UInt8)) (j:Nat),(H2 s l j).isSome=l.any fun t=>t==s
 | [],_=>rfl
 | t::l,j=>by
  simp only [H2,Ym];by_cases h:s=t
  .rw [if_pos h,h];simp
  .rw [if_neg h,Dm s l (j+1),WX.2 (fun e=>h e.symm),XK]
theorem CT {x:AV} {a:List (List UInt8)} (h:bp 1 x (a.map AV.str)) {j:Nat} {s:List UInt8} (hj:a[j]? =some s) {β:Type} (st:St) (K:AV->List Nat->Option β):bU 1 x (j:Int) st K=K (.ip [.str s]) []:=
 h.idx (v:= .str s) (by rw [XG,hj];rfl) st K
theorem yQ {x:AV} {a:List (List UInt8)} (hx:bp 1 x (a.map AV.str)) (s:List UInt8) (st:St): ∀(l:List (List UInt8)) (j:Nat),a.drop j=l->
  aK (qC x s a.length) ([.int .i64 0,.int .i64 (j:Int)],st)=(match H2 s l j with | some k=>some (1,[.int .i64 (k:Int)],st) | none=>some (0,[.int .i64 0],st))
 | [],j,hd=>by
  have:=Xz.1 hd;have q:¬ (j:Int) < (a.length:Int):=by omega
  refine aF ?_;simp only [qC,ad,af,ae,aq,if_neg q]
 | t::l,j,hd=>by
  obtain ⟨hg,hr,b⟩:=drop_cons hd;have q:(j:Int) < (a.length:Int):=by omega
  have hlen:=hx.1;rw [Xn] at hlen;simp only [H2];by_cases h:s=t
  .rw [if_pos h];refine aF ?_;have hb:(s==t)=true:=by simp [h]
   simp only [qC,ad,af,ae,aq,if_pos q,CT hx hg,bx,bq,aj,ax,hb,ao]
  .rw [if_neg h,aP (s':=([.int .i64 0,.int .i64 ((j+1:Nat):Int)],st)),yQ hx s st l (j+1) hr];have hb:(s==t)=false:=WX.2 h;simp only [qC,ad,af,ae,aq,if_pos q,CT hx hg,bx,bq,aj,ax,hb,ai,aB,bm (show j+1<=9223372036854775807 by omega)]
theorem E5 {x:AV} {a:List (List UInt8)} (hx:bp 1 x (a.map AV.str)) (s:List UInt8):(aV vE).bare 88 [x,.str s]=some (.bool (a.any fun t=>t==s)):=by
 have hi: ∃n:Int,(aV vE).bare 117 [x,.str s]=some (.int .i64 n)/\decide (n>=0)=a.any fun t=>t==s:=by
  have e:=yQ hx s (St.mk 0 0 Tr.leaf) a 0 rfl;have e:aK (qC x s a.length) ([.int .i64 0,.int .i64 0],St.mk 0 0 Tr.leaf)= _:=e;have hl:=fun {β:Type} (K:Nat->Option β)=>hx.len K;simp only [Xn] at hl;rw [<- Dm s a 0];cases hk:H2 s a 0 with
  | some k=>
   rw [hk] at e;refine ⟨(k:Int),aX rfl ((HB _ _).trans ?_),by simp⟩;simp only [RC,ax,hl,e,aj,ad,af,ae,iC]
  | none=>
   rw [hk] at e;refine ⟨-1,aX rfl ((HB _ _).trans ?_),by simp⟩;simp only [RC,ax,hl,e,aj,ad,af,ae,er]
 obtain ⟨n,h1,h2⟩:=hi;refine aX rfl ((QX _ _).trans ?_);have c:=fun {β:Type} (st:St) (K:Kv β)=>aG (f:=117) st K rfl (by simp only [W8,Xm,hx.strip];rfl) (by simp only [bf,hx.bare];rfl) h1;simp only [Ws,ax,c,af,h2]
theorem rZ {x:AV} {a:List (List UInt8)} (hx:bp 1 x (a.map AV.str)) (s:List UInt8) {β:Type} (st:St) (K:Kv β):bc (aV vE) 88 [x,.str s] st K=K (.bool (a.any fun t=>t==s)) st q0:=
 aG (f:=88) st K rfl (by simp only [W8,Xm,hx.strip];rfl) (by simp only [bf,hx.bare];rfl) (E5 hx s)
theorem Up (st:St) (k:Nat) (t:List UInt8) (h:st.ro<=st.h): ∃st',st'.get st.h= .ok (.cells 24 [.int .u8 (k:Int),.str t])/\ba st st' (fun _=>False)/\ ∃a,∀{β:Type} (K:Kv β),aM (aV vE) 2 (AV.mp st.h 0) (.agg [.int .u8 (k:Int),.str t]) [.int .u8 (k:Int),.str t] (st.add (.cells 24 [.int .u8 0,.str []])) K=K VM.undef st' a:=by
 obtain ⟨st',g,k1,_,a,e⟩:=AP (O:=aV vE) (st:=st) (t:=24) (z:=2) (old:=[.int .u8 0,.str []]) (cs:=[.int .u8 (k:Int),.str t]) (.agg [.int .u8 (k:Int),.str t]) rfl rfl h;exact ⟨st',g,k1,a,e⟩
theorem Si {st:St} {p:Nat} {L:List Parse.aU} {x:AV} {i d:Nat} (h:PS st p L x i d) {y:AV} {b:List (List UInt8)} (hy:bp 1 y (b.map AV.str)):
  ∃st',(aV vE).wide 64 [.mp p 0,y] st=some (.bool (Parse.isAny b (L.drop i)),st')/\ba st st' (fun _=>False):=by
 obtain ⟨st1,k1,c1⟩:=nG h;obtain ⟨g,g2,k2,k,f⟩:=Up st1 (Parse.nx (L.drop i)).1 (Parse.nx (L.drop i)).2 (PS.jt k1 h.wB);refine ⟨g,il ((O7 _ _ _).trans ?_),k1.trans k2⟩;unfold Parse.isAny;generalize Parse.nx (L.drop i)=t at c1 g2 f;by_cases h3:t.1=3
 .have a:(t.1:Int)=3:=by omega
  have e:((t.1==3||t.1==8)&&b.any fun s=>s==t.2)=b.any fun s=>s==t.2:=by simp [h3]
  rw [e];simp only [Um,c1,cf,bw,bG,aE,ad,af,ax,ae,eV,f,bu g2,Xc,mS,bq,aj,dQ,if_pos a,rZ hy,ak]
 by_cases j:t.1=8
 .have a:¬ (t.1:Int)=3:=by omega
  have c:(t.1:Int)=8:=by omega
  have e:((t.1==3||t.1==8)&&b.any fun s=>s==t.2)=b.any fun s=>s==t.2:=by simp [j]
  rw [e];simp only [Um,c1,cf,bw,bG,aE,ad,af,ax,ae,eV,f,bu g2,Xc,mS,bq,aj,dQ,if_neg a,if_pos c,rZ hy,ak]
 .have a:¬ (t.1:Int)=3:=by omega
  have c:¬ (t.1:Int)=8:=by omega
  have e:((t.1==3||t.1==8)&&b.any fun s=>s==t.2)=false:=by simp [h3,j]
  rw [e];simp only [Um,c1,cf,bw,bG,aE,ad,af,ax,ae,eV,f,bu g2,Xc,mS,bq,aj,dQ,if_neg a,if_neg c,ak]
theorem B4 {st:St} {p:Nat} {L:List Parse.aU} {x:AV} {i d:Nat} (h:PS st p L x i d) {y:AV} {a:List (List UInt8)} (hy:bp 1 y (a.map AV.str)):
  ∃st',ba st st' (fun _=>False)/\ ∀{β:Type} (K:Kv β),bc (aV vE) 64 [.mp p 0,y] st K=K (.bool (Parse.isAny a (L.drop i))) st' ⟨[],.all st st'⟩:=by
 obtain ⟨st',e,k⟩:=Si h hy;exact ⟨st',k,fun K=>gV (E:=vE) K rfl rfl e⟩
theorem Bm (s:List UInt8) (r:List Parse.aU):Parse.isAny [s] r=Parse.bY s r:=by
 unfold Parse.isAny Parse.bY;congr 1;simp only [Ym,List.any_nil,YE];rw [Bool.eq_iff_iff,XA,XA];exact eq_comm
theorem lK (l:List (List UInt8)) (h:l.length<=1000):bp 1 (.sl 1 (l.map AV.str) .shut) (l.map AV.str):=bp.shut (by rw [Xn];omega)
end Go.Proofs.YtgecmbapkplklaaGreatDoor.Vm
namespace Go.Proofs.YtgecmbapkplklaaGreatDoor.Vm
open Go Go.VM Go.Proofs Go.Lex Go.Parse
mutual
def iz:T->AV->Prop
 | .mk k tk tx l,v=> ∃x es,v= .agg [.int .u8 (k:Int),.int .u8 (tk:Int),.str tx,x]/\bp 4 x es/\bO l es
def bO:List T->List AV->Prop
 | [],es=>es=[]
 | t::l,es=> ∃e r,es=e::r/\iz t e/\bO l r
end
theorem bO.nil:bO [] []:=by simp only [bO]
theorem bO.cons {t:T} {l:List T} {e:AV} {r:List AV} (h:iz t e) (hs:bO l r):bO (t::l) (e::r):=by
 simp only [bO];exact ⟨e,r,rfl,h,hs⟩
theorem bO.app: ∀{l m:List T} {es fs:List AV},bO l es->bO m fs->bO (l++m) (es++fs)
 | [],_,_,_,h,k=>by simp only [bO] at h;subst h;exact k
 | t::l,_,_,_,h,k=>by
  simp only [bO] at h;obtain ⟨e,r,rfl,h1,h2⟩:=h;exact bO.cons h1 (bO.app h2 k)
theorem bO.len: ∀{l:List T} {es:List AV},bO l es->es.length=l.length
 | [],_,h=>by simp only [bO] at h;subst h;rfl
 | t::l,_,h=>by
  simp only [bO] at h;obtain ⟨e,r,rfl,h1,h2⟩:=h;simp [bO.len h2]
def CA (x:AV) (es:List AV):Prop:=bp 4 x es\/(es.length<=9223372036854775807/\ ∃k,x= .sl 4 es (.own k))
theorem CA.one {x:AV} {es:List AV} (h:CA x es):VM.one x=true:=by
 rcases h with h | ⟨_,k,rfl⟩
 .exact h.one
 .rfl
theorem CA.ab {β:Type} {x:AV} {es:List AV} (h:CA x es) (K:Option β):ab x K=K:=kJ h.one K
theorem CA.fit {x:AV} {es:List AV} (h:CA x es): ∃x',bp 4 x' es/\ ∀{β:Type} (K:AV->Option β),aD x K=K x':=by
 rcases h with h | ⟨hl,k,rfl⟩
 .exact ⟨x,h,fun K=>h.aD K⟩
 .exact ⟨.sl 4 es .wide,bp.wide hl,fun K=>rfl⟩
theorem CA.own {st:St} {e:TypeId} {x:AV} {es:List AV} (h:iS st 4 e x es):CA x es:=by
 rcases h.2.2 with ⟨rfl | rfl,rfl⟩ | rfl | ⟨k,rfl,_,_⟩
 .exact .inl bp.ay
 .exact .inl bp.emp
 .exact .inl (bp.shut h.2.1)
 .exact .inr ⟨h.2.1,k,rfl⟩
theorem CA.elems {β:Type} {x:AV} {es:List AV} (h:CA x es) (K:List AV->Option β):mX x K=K es:=by
 rcases h with h | ⟨_,k,rfl⟩
 .exact h.elems K
 .rfl
structure VN (t:T) (v:AV):Prop where
 ex: ∃k tk tx l x es,t= .mk k tk tx l/\v= .agg [.int .u8 (k:Int),.int .u8 (tk:Int),.str tx,x]/\CA x es/\bO l es
structure Nd (t:T) (k tk:Nat) (tx:List UInt8) (x:AV):Prop where
 ex: ∃l es,t= .mk k tk tx l/\CA x es/\bO l es
theorem Nd.one {t:T} {k tk:Nat} {tx:List UInt8} {x:AV} (h:Nd t k tk tx x):VM.one x=true:=by
 obtain ⟨l,es,_,hk,_⟩:=h.ex;exact hk.one
theorem Nd.ab {t:T} {k tk:Nat} {tx:List UInt8} {x:AV} (h:Nd t k tk tx x) {β:Type} (K:Option β):ab x K=K:=kJ h.one K
theorem Nd.fit {t:T} {k tk:Nat} {tx:List UInt8} {x:AV} (h:Nd t k tk tx x): ∃x',iz t (.agg [.int .u8 (k:Int),.int .u8 (tk:Int),.str tx,x'])/\ ∀{β:Type} (K:AV->Option β),aD x K=K x':=by
 obtain ⟨l,es,rfl,hk,hn⟩:=h.ex;obtain ⟨x',hx,hf⟩:=hk.fit;exact ⟨x',by simp only [iz];exact ⟨x',es,rfl,hx,hn⟩,hf⟩
theorem VN.cells {t:T} {v:AV} (h:VN t v): ∃(k tk:Nat) (tx:List UInt8) (x:AV),v= .agg [.int .u8 (k:Int),.int .u8 (tk:Int),.str tx,x]/\Nd t k tk tx x:=by
 obtain ⟨k,tk,tx,l,x,es,rfl,rfl,hk,hn⟩:=h.ex;exact ⟨k,tk,tx,x,rfl,⟨⟨l,es,rfl,hk,hn⟩⟩⟩
theorem Nd.vn {t:T} {k tk:Nat} {tx:List UInt8} {x:AV} (h:Nd t k tk tx x):VN t (.agg [.int .u8 (k:Int),.int .u8 (tk:Int),.str tx,x]):=by
 obtain ⟨l,es,rfl,hk,hn⟩:=h.ex;exact ⟨⟨k,tk,tx,l,x,es,rfl,rfl,hk,hn⟩⟩
mutual
theorem iz.rf: ∀{t:T} {v:AV},iz t v->Rf (2 * eP t) v
 | .mk k tk tx l,v,h=>by
  simp only [iz] at h;obtain ⟨x,es,rfl,hx,hn⟩:=h;have he:=bO.rf hn;have hxr:Rf (2 * eQ l+1) x:=by
   rcases hx.2 with ⟨rfl | rfl,rfl⟩ | rfl | rfl
   .exact CB.mono (by omega)
   .exact Kn.mono (by omega)
   .exact wb he
   .exact wb he
  simp only [eP];refine (PN (d:=2 * eQ l+1) fun c hc=> ?_).mono (by omega);simp only [Xb,XS,or_false] at hc;rcases hc with rfl | rfl | rfl | rfl
  .exact (uy _ _).mono (by omega)
  .exact (uy _ _).mono (by omega)
  .exact (Ga _).mono (by omega)
  .exact hxr
theorem bO.rf: ∀{l:List T} {es:List AV},bO l es-> ∀e∈es,Rf (2 * eQ l) e
 | [],_,h,e,he=>by simp only [bO] at h;subst h;cases he
 | t::l,_,h,e,he=>by
  simp only [bO] at h;obtain ⟨a,r,rfl,h1,h2⟩:=h;simp only [eQ];rcases Xb.1 he with rfl | he
  .exact (iz.rf h1).mono (by omega)
  .exact (bO.rf h2 e he).mono (by omega)
end
theorem Nd.rf {t:T} {k tk:Nat} {tx:List UInt8} {x:AV} (h:Nd t k tk tx x): ∀c∈[AV.int .u8 (k:Int),.int .u8 (tk:Int),.str tx,x],Rf (2 * eP t) c:=by
 obtain ⟨l,es,rfl,hk,hn⟩:=h.ex;have he:=bO.rf hn;have a:Rf (2 * eQ l+1) x:=by
  rcases hk with hx | ⟨_,k,rfl⟩
  .rcases hx.2 with ⟨rfl | rfl,rfl⟩ | rfl | rfl
   .exact CB.mono (by omega)
   .exact Kn.mono (by omega)
   .exact wb he
   .exact wb he
  .exact wb he
 intro c hc;simp only [eP];simp only [Xb,XS,or_false] at hc;rcases hc with rfl | rfl | rfl | rfl
 .exact (uy _ _).mono (by omega)
 .exact (uy _ _).mono (by omega)
 .exact (Ga _).mono (by omega)
 .exact a.mono (by omega)
theorem WG (st:St) (k tk:Int) (tx:List UInt8) (x:AV) (h:st.ro<=st.h): ∃st',st'.get st.h= .ok (.cells 27 [.int .u8 k,.int .u8 tk,.str tx,x])/\ba st st' (fun _=>False)/\st'.h=st.h+1/\ ∃a,∀{β:Type} (K:Kv β),aM (aV vE) 4 (AV.mp st.h 0) (.agg [.int .u8 k,.int .u8 tk,.str tx,x]) [.int .u8 k,.int .u8 tk,.str tx,x] (st.add (.cells 27 [.int .u8 0,.int .u8 0,.str [],.ay])) K=K VM.undef st' a:=by
 obtain ⟨st',g,k1,n,a,e⟩:=AP (O:=aV vE) (st:=st) (t:=27) (z:=4) (old:=[.int .u8 0,.int .u8 0,.str [],.ay]) (cs:=[.int .u8 k,.int .u8 tk,.str tx,x]) (.agg [.int .u8 k,.int .u8 tk,.str tx,x]) rfl rfl h;exact ⟨st',g,k1,n,a,e⟩
theorem Uk {st:St} {id:Nat} {old:List AV} (hg:st.get id= .ok (.cells 27 old)) (ho:old.length=4) (k tk:Int) (tx:List UInt8) (x:AV) (a:st.ro<=id): ∃st',st'.get id= .ok (.cells 27 [.int .u8 k,.int .u8 tk,.str tx,x])/\ba st st' (· =id)/\st'.h=st.h/\ ∃b,∀{β:Type} (K:Kv β),aM (aV vE) 4 (AV.mp id 0) (.agg [.int .u8 k,.int .u8 tk,.str tx,x]) [.int .u8 k,.int .u8 tk,.str tx,x] st K=K VM.undef st' b:=by
 obtain ⟨st',g,k1,n,b,e⟩:=Hx (O:=aV vE) (.agg [.int .u8 k,.int .u8 tk,.str tx,x]) hg ho (cs:=[.int .u8 k,.int .u8 tk,.str tx,x]) rfl a;exact ⟨st',g,k1,n,b,e⟩
theorem ba.join {a b c:St} {p q:Nat->Prop} (h:ba a b p) (k:ba b c q) (d: ∀j,q j->p j\/a.h<=j):ba a c p:=
 ⟨k.ro.trans h.ro,Xs h.h k.h,fun j o hj hg=>k.old j o (fun e=>by
  rcases d j e with h1 | h1
  .exact hj h1
  .have:=(St.ch.1 hg).1;omega) (h.old j o hj hg)⟩
def sX (t:aU):AV:= .agg [.int .u8 ((1:Nat):Int),.int .u8 (t.1:Int),.str t.2,.ay]
theorem xS: ∀(l:List aU),bO (l.map iy) (l.map sX)
 | []=>bO.nil
 | t::l=>bO.cons (by
   show iz (.mk 1 t.1 t.2 []) (sX t);simp only [iz];exact ⟨.ay,[],rfl,bp.ay,bO.nil⟩) (xS l)
theorem Cs (r:List aU):r.drop (wT r)=r.dropWhile bn:=by
 have h:(r.takeWhile bn++r.dropWhile bn).drop (r.takeWhile bn).length=r.dropWhile bn:=YK;rw [X9] at h;exact h
theorem Oy (r:List aU):wT r<=r.length:=(List.takeWhile_sublist bn).length_le
theorem NK (r:List aU):r.take (wT r)=r.takeWhile bn:=by
 have h:(r.takeWhile bn++r.dropWhile bn).take (r.takeWhile bn).length=r.takeWhile bn:=YL;rw [X9] at h;exact h
def mB (L:List aU) (i:Nat):Nat:=min (i+wT (L.drop i)+1) L.length
theorem zc (L:List aU) (i:Nat):aL (L.drop i)=L.drop (mB L i):=by
 unfold aL mB;rw [<- Cs,Ya,Ya];rcases Nat.lt_or_ge (i+wT (L.drop i)+1) L.length with q | q
 .rw [Yv (YH q)];congr 1
 .rw [YG q,List.drop_of_length_le (by omega),List.drop_of_length_le (WW _)]
theorem As {x:AV} {Z:List aU} (hx:bp 2 x (Z.map tok)) (C:Z.length<=1000000) {st19:St} {k tk:Int} {tx:List UInt8} {h0:Nat} (u:h0<=st19.h): ∀(l:List aU) (j:Nat) (st:St) (v:AV) (es:List AV),Z.drop j=l->st.get st19.h= .ok (.cells 27 [.int .u8 k,.int .u8 tk,.str tx,v])->iS st 4 27 v es->(∀j,dS v j->h0<=j)->es.length+l.length<=2000000->st.ro<=st19.h->h0<=st.h->
  ∃v' st',aK (zz st19 x Z.length) ([.int .i64 (j:Int)],st)=some (0,[],st')/\st'.get st19.h= .ok (.cells 27 [.int .u8 k,.int .u8 tk,.str tx,v'])/\iS st' 4 27 v' (es++l.map sX)/\(∀j,dS v' j->h0<=j)/\ba st st' (fun j=>h0<=j)
 | [],j,st,v,es,hd,hg,ho,a,hl,d,D=>by
  have:=Xz.1 hd;have q:¬ (j:Int) < (Z.length:Int):=by omega
  refine ⟨v,st,aF ?_,hg,by simpa using ho,a,ba.refl _ _⟩;simp only [zz,ad,af,ae,aq,if_neg q]
 | t::l,j,st,v,es,hd,hg,ho,a,hl,d,D=>by
  obtain ⟨w,hr,E⟩:=drop_cons hd;have q:(j:Int) < (Z.length:Int):=by omega
  have m:st.ro<=st.h:=Xs d (YH (St.ch.1 hg).1);obtain ⟨s1,g1,k1,F,G⟩:=Up st t.1 t.2 m;have n:=k1.old _ _ (fun f=>f) hg;have y:=qb ho k1 (fun _ _ f=>f);simp only [Xk] at hl;obtain ⟨v2,s2,H,a2,A,k2,f2⟩:=xc (b:=56) (new:=[sX t]) y (by simp) (tj (by simp only [List.length_singleton];omega) (by omega) (by omega));have e:¬ dS v st19.h:=ho.not hg;have g:=k2.old _ _ e n;have c:s2.ro<=st19.h:=by rw [k2.ro,k1.ro];exact d
  have i:=fun {β:Type} (K:Kv β)=>dq (O:=aV vE) (v:=v2) (cs:=[v2]) (off:=3) (z:=1) g rfl (by simp) c K;have hsp:cJ [.int .u8 k,.int .u8 tk,.str tx,v] 3 [v2]=[.int .u8 k,.int .u8 tk,.str tx,v2]:=rfl;rw [hsp] at i;have o:(s2.put st19.h (.cells 27 [.int .u8 k,.int .u8 tk,.str tx,v2])).get st19.h= .ok (.cells 27 [.int .u8 k,.int .u8 tk,.str tx,v2]):=St.aQ (St.ch.1 g).1;have p:iS (s2.put st19.h (.cells 27 [.int .u8 k,.int .u8 tk,.str tx,v2])) 4 27 v2 (es++[sX t]):=A.put g;have s:ba s2 (s2.put st19.h (.cells 27 [.int .u8 k,.int .u8 tk,.str tx,v2])) (· =st19.h):=ba.put rfl;generalize s2.put st19.h (.cells 27 [.int .u8 k,.int .u8 tk,.str tx,v2])=B at i o p s;have r: ∀j,dS v2 j->h0<=j:=fun j hj=>by
   rcases f2 j hj with h | h
   .exact a j h
   .have:=k1.h;omega
  obtain ⟨v',st',I,g',o',f',J⟩:=As hx C u l (j+1) B v2 (es++[sX t]) hr o p r (by rw [W9];simp;omega) (by rw [s.ro];exact c) (by have:=k1.h;have:=k2.h;have:=s.h;omega);refine ⟨v',st', ?_,g',by rw [W6] at o';exact o',f', ?_⟩
  .rw [aP (s':=([.int .i64 ((j+1:Nat):Int)],B)),I];have a2: ∀{β:Type} (K:Kv β),cT 4 56 27 v [.agg [.int .u8 1,.int .u8 (t.1:Int),.str t.2,.ay]] s1 K=K v2 s2 H:=fun K=>qO a2 K;have L: ∀{β:Type} (K:Option β),ab v2 K=K:=fun K=>kJ A.one K;simp only [zz,ad,af,ae,aq,if_pos q,mb hx w,bx,oE,aj,aE,ax,eV,G,bu n,So,bq,bu g1,Xc,a2,L,i,aB,bm (show j+1<=9223372036854775807 by omega)]
  .refine ((k1.IP (q:=fun j=>h0<=j) (fun _ f=>f.elim)).trans (k2.IP fun j hj=>a j hj)).trans ((s.IP fun j hj=> ?_).trans J);have hj:j=st19.h:=hj;omega
theorem Hg {st:St} {p:Nat} {L:List aU} {x:AV} {i d:Nat} (h:PS st p L x i d):
  ∃v st',(aV vE).wide 65 [.mp p 0] st=some (v,st')/\VN (aJ (L.drop i)) v/\PS st' p L x (mB L i) d/\ba st st' (· =p):=by
 have hle:=h.le;have hlen:=h.len;have hw:=Oy (L.drop i);rw [Xa] at hw;have o:ba st (st.add (.cells 27 [.int .u8 0,.int .u8 0,.str [],.ay])) (fun _=>False):=ba.add _ _ _;have g0:(st.add (.cells 27 [.int .u8 0,.int .u8 0,.str [],.ay])).get st.h= .ok (.cells 27 [.int .u8 0,.int .u8 0,.str [],.ay]):=St.dE;have r:=h.wB;have J:=h.lt;have h1:=h.keeps o (fun f=>f);have n0:(st.add (.cells 27 [.int .u8 0,.int .u8 0,.str [],.ay])).h=st.h+1:=rfl;generalize s:st.add (.cells 27 [.int .u8 0,.int .u8 0,.str [],.ay])=s0 at o g0 h1 n0;obtain ⟨s1,k1,c1⟩:=nG h1;generalize hT:nx (L.drop i)=c at c1;obtain ⟨s2,g2,k2,M,N⟩:=Up s1 c.1 c.2 (PS.jt k1 h1.wB);obtain ⟨E,g3,q,n3,P,Q⟩:=WG s2 1 (c.1:Int) c.2 .ay (PS.jt k2 (PS.jt k1 h1.wB));have kk:=(o.trans k1).trans (k2.trans q);have h3:=h.keeps kk (fun f=>f);obtain ⟨z,hz,R⟩:=h.sl.cut (lo:=some (i:Int)) (hi:=some ((i+wT (L.drop i):Nat):Int)) (qA (by omega)) (qA (by rw [Xn];omega));have t:((L.map tok).take (i+wT (L.drop i))).drop i=((L.drop i).take (wT (L.drop i))).map tok:=by
  rw [<- List.map_take, <- List.map_drop,List.drop_take];congr 2;omega
 rw [t] at hz;have u:((L.drop i).take (wT (L.drop i))).length<=1000000:=by rw [Xg,Xa];omega
 have w:s0.h<=s2.h:=by have:=k1.h;have:=k2.h;omega
 obtain ⟨v4,k,y,g4,F,f4,G⟩:=As hz u (st19:=s2) (h0:=s0.h) w ((L.drop i).take (wT (L.drop i))) 0 E .ay [] rfl g3 (iS.ay (PS.jt q (PS.jt k2 (PS.jt k1 h1.wB))) _ _) (fun j hj=>by obtain ⟨_,_,e⟩:=hj;cases e) (by simp only [XI];omega) (by rw [kk.ro];omega) (by have:=q.h;omega);rw [W5,NK] at F;have y:aK (zz s2 z ((L.drop i).take (wT (L.drop i))).length) ([.int .i64 0],E)= _:=y;have A: ∀{β:Type} (K:Nat->Option β),fc z K=K ((L.drop i).take (wT (L.drop i))).length:=fun K=>by rw [hz.len,Xn]
 have b:ba st k (fun _=>False):=ba.join kk G fun j hj=> .inr (by have:=o.h;have hj:s0.h<=j:=hj;omega);have h4:=h.keeps b (fun f=>f);have l:(if ((L.map tok).length:Int) < ((i+wT (L.drop i)+1:Nat):Int) then ((L.map tok).length:Int) else ((i+wT (L.drop i)+1:Nat):Int))=((mB L i:Nat):Int):=by
  unfold mB;rw [Xn];split <;> omega
 have a:=fun {β:Type} (K:Kv β)=>dq (O:=aV vE) (v:= .int .i64 ((mB L i:Nat):Int)) (cs:=[.int .i64 ((mB L i:Nat):Int)]) (off:=1) (z:=1) h4.get rfl (by simp) h4.ro K;have hsp:cJ [x,.int .i64 (i:Int),.int .i64 (d:Int)] 1 [.int .i64 ((mB L i:Nat):Int)]=[x,.int .i64 ((mB L i:Nat):Int),.int .i64 (d:Int)]:=rfl;rw [hsp] at a;have m:(k.put p (.cells 77 [x,.int .i64 ((mB L i:Nat):Int),.int .i64 (d:Int)])).get p= .ok (.cells 77 [x,.int .i64 ((mB L i:Nat):Int),.int .i64 (d:Int)]):=St.aQ (St.ch.1 h4.get).1;have g:ba k (k.put p (.cells 77 [x,.int .i64 ((mB L i:Nat):Int),.int .i64 (d:Int)])) (· =p):=ba.put rfl;generalize k.put p (.cells 77 [x,.int .i64 ((mB L i:Nat):Int),.int .i64 (d:Int)])=H at a m g;have B:PS H p L x (mB L i) d:=⟨m,h.sl,Nat.min_le_right _ _,hlen,by rw [g.ro,b.ro];exact h.ro⟩;have n:s2.h≠p:=by omega
 have g5:=g.An n g4;have hsh:st.h≠p:=by omega
 have C:=g.An hsh (G.old _ _ (by omega) ((k1.trans (k2.trans q)).old _ _ (fun f=>f) g0));obtain ⟨I,D,k6,n6,S,T⟩:=Uk C rfl 1 (c.1:Int) c.2 v4 (by rw [g.ro,b.ro];exact r);have nd:Nd (aJ (L.drop i)) 1 c.1 c.2 v4:=by
  refine ⟨⟨_,_, ?_,CA.own F,xS _⟩⟩;unfold aJ leaf;rw [hT]
 have U:ba st I (· =p):=by
  have V:ba st H (· =p):=(b.IP fun _ f=>f.elim).trans g;exact ba.join V k6 fun j hj=> .inr (by have hj:j=st.h:=hj;omega)
 refine ⟨_,I,il ((Q8 _ _).trans ?_),nd.vn,B.keeps k6 (fun e=>hsh e.symm),U⟩;have W:=bm (show i+wT (L.drop i)+1<=9223372036854775807 by omega);simp only [Wa,eV,s,c1,cf,bw,bG,aE,ad,af,ax,ae,N,bu g2,Xc,oE,aj,Q,ck,aR,ct,Xd,bu h3.get,mS,bq,R,A,y,aB,W,bu h4.get,h.sl.len,l,a,bu g5,Cj,nd.ab,T,bu D];rfl
def NC (F:FuncId) (args:List AV) (st:St) (p:Nat) (L:List aU) (x:AV) (d:Nat) (t:T) (r':List aU):Prop:=
 ∃v st' a,(aV vE).wide F args st=some (v,st')/\VN t v/\PS st' p L x a d/\L.drop a=r'/\ba st st' (· =p)
theorem NC.call {F:FuncId} {args:List AV} {st:St} {p:Nat} {L:List aU} {x:AV} {d:Nat} {t:T} {r':List aU} (h:NC F args st p L x d t r') (h1:vE.isLook F=false) (h2:(bL (args.map strip)&& !vE.full F)=false):
  ∃(k tk:Nat) (tx:List UInt8) (y:AV) (st':St) (a:Nat),Nd t k tk tx y/\PS st' p L x a d/\L.drop a=r'/\ba st st' (· =p)/\ ∀{β:Type} (K:Kv β),bc (aV vE) F args st K=K (.agg [.int .u8 (k:Int),.int .u8 (tk:Int),.str tx,y]) st' ⟨[],.all st st'⟩:=by
 obtain ⟨v,st',a,e,hv,hp,hr,hk⟩:=h;obtain ⟨k,tk,tx,y,rfl,hn⟩:=hv.cells;exact ⟨k,tk,tx,y,st',a,hn,hp,hr,hk,fun K=>gV (E:=vE) K h1 h2 e⟩
theorem Mt {st:St} {p:Nat} {L:List aU} {x:AV} {i d:Nat} (h:PS st p L x i d):NC 65 [.mp p 0] st p L x d (aJ (L.drop i)) (aL (L.drop i)):=by
 obtain ⟨v,st',e,hv,hp,hk⟩:=Hg h;exact ⟨v,st',_,e,hv,hp,(zc L i).symm,hk⟩
theorem IE {st:St} {p:Nat} {L:List aU} {x:AV} {i d:Nat} (h:PS st p L x i d):
  ∃(k tk:Nat) (tx:List UInt8) (y:AV) (st':St) (a:Nat),Nd (aJ (L.drop i)) k tk tx y/\PS st' p L x a d/\L.drop a=aL (L.drop i)/\ba st st' (· =p)/\ ∀{β:Type} (K:Kv β),bc (aV vE) 65 [.mp p 0] st K=K (.agg [.int .u8 (k:Int),.int .u8 (tk:Int),.str tx,y]) st' ⟨[],.all st st'⟩:=
 (Mt h).call rfl rfl
theorem oT (s:List UInt8) {β:Type} (st:St) (K:Kv β):bc (aV vE) 119 [.str s] st K=K (.agg [.int .u8 2,.int .u8 0,.str s,.ay]) st q0:=
 aG st K rfl rfl rfl (aX rfl ((Mr _).trans (by simp only [SN,ax])))
theorem ja (s:List UInt8):Nd (missing s) 2 0 s .ay:=⟨⟨[],[],rfl,.inl bp.ay,bO.nil⟩⟩
theorem N8 {st:St} {p:Nat} {L:List aU} {x:AV} {i d:Nat} (h:PS st p L x i d): ∃s0,st.add (.cells 27 [.int .u8 0,.int .u8 0,.str [],.ay])=s0/\s0.get st.h= .ok (.cells 27 [.int .u8 0,.int .u8 0,.str [],.ay])/\PS s0 p L x i d/\ba st s0 (fun _=>False)/\st.h≠p/\st.ro<=st.h/\s0.h=st.h+1:=
 ⟨_,rfl,St.dE,h.keeps (ba.add _ _ (fun _=>False)) (fun f=>f),ba.add _ _ _,Nat.ne_of_gt h.lt,h.wB,rfl⟩
theorem G6 {st s:St} {p:Nat} {L:List aU} {x:AV} {i d:Nat} {old:List AV} (hg:s.get st.h= .ok (.cells 27 old)) (ho:old.length=4) (hp:PS s p L x i d) (hne:st.h≠p) (hk:ba st s (· =p)) (a:st.ro<=st.h) (k tk:Int) (tx:List UInt8) (y:AV):
  ∃s',s'.get st.h= .ok (.cells 27 [.int .u8 k,.int .u8 tk,.str tx,y])/\PS s' p L x i d/\ba st s' (· =p)/\ ∃b,∀{β:Type} (K:Kv β),aM (aV vE) 4 (AV.mp st.h 0) (.agg [.int .u8 k,.int .u8 tk,.str tx,y]) [.int .u8 k,.int .u8 tk,.str tx,y] s K=K VM.undef s' b:=by
 obtain ⟨s',g,k1,_,b,e⟩:=Uk hg ho k tk tx y (by rw [hk.ro];exact a);exact ⟨s',g,hp.keeps k1 (fun e=>hne e.symm),ba.join hk k1 fun j hj=> .inr (Nat.le_of_eq hj.symm),b,e⟩
theorem MI {st:St} {p:Nat} {L:List aU} {x:AV} {i d:Nat} (h:PS st p L x i d) (s:List UInt8):NC 91 [.mp p 0,.str s] st p L x d (cN s (L.drop i)) (bg s (L.drop i)):=by
 obtain ⟨s0,a,g0,h0,l,hne,b,n0⟩:=N8 h;obtain ⟨s1,k1,c1⟩:=B4 h0 (lK [s] (by simp));rw [Bm] at c1;have c1: ∀{β:Type} (K:Kv β),bc (aV vE) 64 [.mp p 0,.sl 1 [.str s] .shut] s0 K=K (.bool (bY s (L.drop i))) s1 ⟨[],.all s0 s1⟩:=fun K=>c1 K;have h1:=h0.keeps k1 (fun f=>f);have g1:=k1.old _ _ (fun f=>f) g0;unfold cN bg;cases hb:bY s (L.drop i) with
 | true=>
  rw [hb] at c1;obtain ⟨k,tk,tx,y,s2,i2,hn,h2,c,k2,c2⟩:=IE h1;have g2:=k2.An hne g1;obtain ⟨e,g3,h3,g,m,j⟩:=G6 g2 rfl h2 hne (((l.trans k1).IP fun _ f=>f.elim).trans k2) b (k:Int) (tk:Int) tx y;refine ⟨_,e,i2,il ((KZ _ _ _).trans ?_),hn.vn,h3,c,g⟩;simp only [Va,ax,eV,a,c1,ak,ao,c2,aE,ad,af,ae,hn.ab,j,bu g3,Xc,Cj,aj]
 | false=>
  rw [hb] at c1;obtain ⟨e,g3,h3,g,m,j⟩:=G6 g1 rfl h1 hne ((l.trans k1).IP fun _ f=>f.elim) b 2 0 s .ay;refine ⟨_,e,i,il ((KZ _ _ _).trans ?_),(ja s).vn,h3,rfl,g⟩;simp only [Va,ax,eV,a,c1,ak,ai,oT,aE,ad,af,ae,Fl,j,bu g3,Xc,Cj,aj];rfl
def rI (pat:Bool):Nat:=if pat then 5 else 6
def rG (pat:Bool):List UInt8:=if pat then np else dw
theorem bP (a b:Nat):((a:Int)==(b:Int))=(a==b):=by
 by_cases h:a=b
 .rw [h];simp
 .rw [WX.2 h,WX.2 (show ¬ (a:Int)=(b:Int) by omega)]
theorem HZ {st:St} {p:Nat} {L:List aU} {x:AV} {i d:Nat} (h:PS st p L x i d) (pat:Bool):
  ∃st',(aV vE).wide 89 [.mp p 0,.int .u8 (rI pat:Int),.str (rG pat)] st=some (.bool (cI pat (L.drop i)),st')/\ba st st' (fun _=>False):=by
 obtain ⟨s1,k1,c1⟩:=nG h;have ht:nx (L.drop i)=nx (L.drop i):=rfl;generalize hT:nx (L.drop i)=t at c1 ht;obtain ⟨s2,g2,k2,q,j⟩:=Up s1 t.1 t.2 (PS.jt k1 h.wB);have h2:=h.keeps (k1.trans k2) (fun f=>f);obtain ⟨e,r,c3⟩:=B4 h2 (lK [gw,eD,dw,cU,rG pat] (by simp));have c3: ∀{β:Type} (K:Kv β),bc (aV vE) 64 [.mp p 0,.sl 1 [.str [116,114,117,101],.str [102,97,108,115,101],.str [40],.str [91],.str (rG pat)] .shut] s2 K=K (.bool (isAny [gw,eD,dw,cU,rG pat] (L.drop i))) e ⟨[],.all s2 e⟩:=fun K=>c3 K;have k:((t.1:Int)==4)=(t.1==4):=bP t.1 4;have l:((t.1:Int)==5)=(t.1==5):=bP t.1 5;have m:((t.1:Int)==7)=(t.1==7):=bP t.1 7;have n:((t.1:Int)==9)=(t.1==9):=bP t.1 9;have o:=bP t.1 (rI pat);have hb:cI pat (L.drop i)=(t.1==4||t.1==5||t.1==7||t.1==9||t.1==rI pat||isAny [gw,eD,dw,cU,rG pat] (L.drop i)):=by
  unfold cI;rw [hT];rfl
 rw [hb];by_cases hk:(t.1==4||t.1==5||t.1==7||t.1==9||t.1==rI pat)=true
 .refine ⟨s2,il ((KA _ _ _ _).trans ?_),k1.trans k2⟩;rw [hk,Yi];simp only [Vf,af,ax,c1,cf,bw,bG,aE,ad,ae,eV,j,bu g2,Xc,bq,aj,k,l,m,n,o];cases h4:t.1==4 <;> simp only [h4,ao,ai,aj,ad,ak,ae]
  cases a:t.1==5 <;> simp only [a,ao,ai,aj,ad,ak,ae]
  cases b:t.1==7 <;> simp only [b,ao,ai,aj,ad,ak,ae]
  cases c:t.1==9 <;> simp only [c,ao,ai,aj,ad,ak,ae]
  simp only [h4,a,b,c,XK] at hk;simp only [hk,ao]
 .have hk:(t.1==4||t.1==5||t.1==7||t.1==9||t.1==rI pat)=false:=by simpa using hk
  refine ⟨e,il ((KA _ _ _ _).trans ?_),(k1.trans k2).trans r⟩;rw [hk,XK];simp only [Yu] at hk;obtain ⟨⟨⟨⟨h4,a⟩,b⟩,c⟩,g⟩:=hk;simp only [Vf,af,ax,c1,cf,bw,bG,aE,ad,ae,eV,j,bu g2,Xc,bq,aj,k,l,m,n,o,h4,a,b,c,g,ai,ak,c3]
theorem Df {st:St} {p:Nat} {L:List aU} {x:AV} {i d:Nat} (h:PS st p L x i d) (pat:Bool):
  ∃st',ba st st' (fun _=>False)/\ ∀{β:Type} (K:Kv β),bc (aV vE) 89 [.mp p 0,.int .u8 (rI pat:Int),.str (rG pat)] st K=K (.bool (cI pat (L.drop i))) st' ⟨[],.all st st'⟩:=by
 obtain ⟨st',e,k⟩:=HZ h pat
 exact ⟨st',k,fun K=>gV (E:=vE) K rfl rfl e⟩
abbrev ND:TypeId:=27
def wq {β:Type} (v:AV) (K:Int->Int->List UInt8->AV->Option β):Option β:=uk v fun l=>bj l fun v1 l=>bk .u8 v1 fun a=>bj l fun v2 l=>bk .u8 v2 fun b=>bj l fun v3 l=>dW v3 fun s=>bj l fun v4 l=>bC l (K a b s v4)
theorem lA {β:Type} (a b:Int) (s:List UInt8) (y:AV) (K:Int->Int->List UInt8->AV->Option β):wq (.agg [.int .u8 a,.int .u8 b,.str s,y]) K=K a b s y:=by
 simp only [wq,aE,ad,af,ax,ae]
def Pz (PT:TypeId) (st:St) (p:Nat) (L:List aU) (x:AV) (d:Nat) (r:List aU):Prop:= ∃i,E6 PT st p L x i d/\L.drop i=r
theorem Pz.keeps {PT:TypeId} {st st':St} {p:Nat} {L:List aU} {x:AV} {d:Nat} {r:List aU} {but:Nat->Prop} (h:Pz PT st p L x d r) (k:ba st st' but) (hp:¬ but p):Pz PT st' p L x d r:=by
 obtain ⟨i,h,e⟩:=h;exact ⟨i,h.keeps k hp,e⟩
abbrev Vr:=Nat×TypeId×List AV
structure Wd (PT:TypeId) (st0 st:St) (p:Nat) (L:List aU) (x:AV) (d:Nat) (r:List aU) (l:List Vr) (os:List (AV×List AV)):Prop where
 pz:Pz PT st p L x d r
 k:ba st0 st (· =p)
 v: ∀q∈l,st.get q.1= .ok (.cells q.2.1 q.2.2)/\st0.h<=q.1
 nd:(l.map (·.1)).Nodup
 o: ∀q∈os,iS st 4 ND q.1 q.2/\ ∀j,dS q.1 j->st0.h<=j
 od:os.Pairwise fun a b=> ∀j,dS a.1 j->¬ dS b.1 j
 p0:p < st0.h
 ro0:st0.ro<=st0.h
section
variable {PT:TypeId} {st0 st st':St} {p:Nat} {L:List aU} {x:AV} {d d':Nat} {r r':List aU} {l l1 l2:List Vr} {os:List (AV×List AV)}
theorem Wd.start {i:Nat} (h:E6 PT st p L x i d):Wd PT st st p L x d (L.drop i) [] []:=
 ⟨⟨i,h,rfl⟩,ba.refl _ _,(fun _ h=>by cases h),List.nodup_nil,(fun _ h=>by cases h),List.Pairwise.nil,h.lt,h.wB⟩
theorem Wd.begin (h:Pz PT st p L x d r):Wd PT st st p L x d r [] []:=by
 obtain ⟨i,h,rfl⟩:=h;exact Wd.start h
theorem Wd.ro (w:Wd PT st0 st p L x d r l os):st.ro<=st.h:=PS.jt w.k w.ro0
theorem Wd.h (w:Wd PT st0 st p L x d r l os):st0.h<=st.h:=w.k.h
theorem Wd.get (w:Wd PT st0 st p L x d r l os) {a:Nat} {t:TypeId} {cs:List AV} (h:(a,t,cs)∈l):st.get a= .ok (.cells t cs):=(w.v _ h).1
theorem Wd.ne (w:Wd PT st0 st p L x d r l os) {a:Nat} {t:TypeId} {cs:List AV} (h:(a,t,cs)∈l):a≠p:=by
 have:=(w.v _ h).2;have:=w.p0;simp only at *;omega
theorem Wd.We (w:Wd PT st0 st p L x d r l os) {a:Nat} {t:TypeId} {cs:List AV} (h:(a,t,cs)∈l):st.ro<=a:=by
 have h1:=(w.v _ h).2;have h2:=w.ro0;rw [w.k.ro];exact Xs h2 h1
theorem F5 {v:AV} {es:List AV} {j:Nat} {z:Nat} {t:TypeId} (h:iS st z t v es) (hj:dS v j):j < st.h/\ ∃n e,st.get j= .ok (.tok n e):=by
 obtain ⟨z',es',rfl⟩:=hj;rcases h.2.2 with ⟨h | h,_⟩ | h | ⟨k,h,hg,_⟩
 .cases h
 .cases h
 .cases h
 .cases h;exact ⟨(St.ch.1 hg).1,_,_,hg⟩
theorem Wd.keeps (w:Wd PT st0 st p L x d r l os) {but:Nat->Prop} (k:ba st st' but) (hb: ∀j,but j->j=p\/st.h<=j) (pz:Pz PT st' p L x d' r'):Wd PT st0 st' p L x d' r' l os where
 pz:=pz
 k:=ba.join w.k k fun j hj=>by
  rcases hb j hj with h | h
  .exact .inl h
  .exact .inr (Xs w.h h)
 v:=fun q a=>⟨k.old _ _ (fun f=>by
  have h1:=(St.ch.1 (w.v q a).1).1;have h2:=(w.v q a).2;have h3:=w.p0;rcases hb _ f with h | h <;> omega) (w.v q a).1,(w.v q a).2⟩
 nd:=w.nd
 o:=fun q a=>⟨qb (w.o q a).1 k fun j hj f=>by
  obtain ⟨h1,n,e,hg⟩:=F5 (w.o q a).1 hj;have h2:=(w.o q a).2 j hj;have h3:=w.p0;rcases hb _ f with h | h <;> omega,(w.o q a).2⟩
 od:=w.od
 p0:=w.p0
 ro0:=w.ro0
theorem Wd.quiet (w:Wd PT st0 st p L x d r l os) (k:ba st st' (fun _=>False)):Wd PT st0 st' p L x d r l os:=
 w.keeps k (fun _ f=>f.elim) (w.pz.keeps k (fun f=>f))
theorem Wd.move (w:Wd PT st0 st p L x d r l os) (k:ba st st' (· =p)) (pz:Pz PT st' p L x d' r'):Wd PT st0 st' p L x d' r' l os:=
 w.keeps k (fun _ e=> .inl e) pz
theorem Wd.alloc (w:Wd PT st0 st p L x d r l os) (t:TypeId) (cs:List AV):Wd PT st0 (st.add (.cells t cs)) p L x d r ((st.h,t,cs)::l) os:=by
 have w':=w.quiet (ba.add st (.cells t cs) _);refine ⟨w'.pz,w'.k,fun q a=> ?_, ?_,w'.o,w'.od,w.p0,w.ro0⟩
 .rcases Xb.1 a with rfl | a
  .exact ⟨St.dE,w.h⟩
  .exact w'.v q a
 .rw [W8,Yk];refine ⟨fun hm=> ?_,w.nd⟩;obtain ⟨q,a,e⟩:=XY.1 hm;have h1:=(St.ch.1 (w.v q a).1).1;simp only at e;omega
theorem Wd.putAt {a:Nat} {t t':TypeId} {old:List AV} (w:Wd PT st0 st p L x d r (l1++(a,t,old)::l2) os) (cs:List AV):Wd PT st0 (st.put a (.cells t' cs)) p L x d r (l1++(a,t',cs)::l2) os:=by
 have hm:(a,t,old)∈l1++(a,t,old)::l2:=List.mem_append_right _ WS;have hg:=w.get hm;have c:=w.ne hm;have k:ba st (st.put a (.cells t' cs)) (· =a):=ba.put rfl;have hnd:=w.nd;rw [Xh,W8] at hnd;refine ⟨w.pz.keeps k (fun e=>c e.symm),ba.join w.k k fun j hj=> .inr (by have:=(w.v _ hm).2;simp only at this;omega),fun q b=> ?_,by rw [Xh,W8];exact hnd,fun q b=>⟨(w.o q b).1.put hg,(w.o q b).2⟩,w.od,w.p0,w.ro0⟩;have other: ∀q∈l1++(a,t,old)::l2,q.1≠a->(st.put a (.cells t' cs)).get q.1= .ok (.cells q.2.1 q.2.2)/\st0.h<=q.1:=fun q b hne=>
  ⟨k.old _ _ hne (w.v q b).1,(w.v q b).2⟩
 rcases Xj.1 b with b | b
 .refine other q (List.mem_append_left _ b) fun e=> ?_;have:=(List.nodup_append.1 hnd).2.2 q.1 (List.mem_map_of_mem b) a WS;exact this e
 .rcases Xb.1 b with rfl | b
  .exact ⟨St.aQ (St.ch.1 hg).1,(w.v _ hm).2⟩
  .refine other q (List.mem_append_right _ (WZ _ b)) fun e=> ?_;have h1:=(Yk.1 (List.nodup_append.1 hnd).2.1).1;have h2:q.1∈l2.map (·.1):=List.mem_map_of_mem b;rw [e] at h2;exact h1 h2
theorem Wd.store {a:Nat} {t:TypeId} {old:List AV} (l1:List Vr) (w:Wd PT st0 st p L x d r (l1++(a,t,old)::l2) os) {z:Nat} (hz:old.length=z) (v:AV) (cs:List AV) (hc:cs.length=z):
  ∃st' b,Wd PT st0 st' p L x d r (l1++(a,t,cs)::l2) os/\ ∀{β:Type} (K:Kv β),aM (aV vE) z (.mp a 0) v cs st K=K VM.undef st' b:=by
 have hm:(a,t,old)∈l1++(a,t,old)::l2:=List.mem_append_right _ WS;exact ⟨st.put a (.cells t cs),⟨[a],.wrote a (.cells t cs)⟩,w.putAt cs,fun K=>by rw [dq (w.get hm) hc (by omega) (w.We hm),jT (by omega)]⟩
theorem Wd.jL {a:Nat} {t:TypeId} {old:List AV} (l1:List Vr) (w:Wd PT st0 st p L x d r (l1++(a,t,old)::l2) os) (off:Nat) (v:AV) (hl:off+1<=old.length):
  ∃st' b,Wd PT st0 st' p L x d r (l1++(a,t,cJ old off [v])::l2) os/\ ∀{β:Type} (K:Kv β),aM (aV vE) 1 (.mp a off) v [v] st K=K VM.undef st' b:=by
 have hm:(a,t,old)∈l1++(a,t,old)::l2:=List.mem_append_right _ WS;exact ⟨st.put a (.cells t (cJ old off [v])),⟨[a],.wrote a (.cells t (cJ old off [v]))⟩,w.putAt _,fun K=>dq (cs:=[v]) (z:=1) (w.get hm) rfl hl (w.We hm) K⟩
theorem Wd.sub {a:List Vr} (w:Wd PT st0 st p L x d r l os) (h:List.Sublist a l):Wd PT st0 st p L x d r a os:=
 ⟨w.pz,w.k,fun q b=>w.v q (h.subset b),(h.map _).nodup w.nd,w.o,w.od,w.p0,w.ro0⟩
theorem Wd.drop {o:AV×List AV} (w:Wd PT st0 st p L x d r l (o::os)):Wd PT st0 st p L x d r l os:=
 ⟨w.pz,w.k,w.v,w.nd,fun q a=>w.o q (WZ _ a),(XZ.1 w.od).2,w.p0,w.ro0⟩
theorem Wd.loose {v:AV} {es:List AV} (w:Wd PT st0 st p L x d r l os) (h:iS st 4 ND v es) (hn: ∀j,¬ dS v j):Wd PT st0 st p L x d r l ((v,es)::os):=
 ⟨w.pz,w.k,w.v,w.nd,fun q a=>by
  rcases Xb.1 a with rfl | a
  .exact ⟨h,fun j hj=>absurd hj (hn j)⟩
  .exact w.o q a,XZ.2 ⟨fun _ _ j hj=>absurd hj (hn j),w.od⟩,w.p0,w.ro0⟩
theorem Wd.ay (w:Wd PT st0 st p L x d r l os):Wd PT st0 st p L x d r l ((.ay,[])::os):=w.loose (iS.ay w.ro 4 ND) fun _ h=>by obtain ⟨_,_,e⟩:=h;cases e
theorem Wd.shut (w:Wd PT st0 st p L x d r l os) {es:List AV} (h:es.length<=1000):Wd PT st0 st p L x d r l ((.sl 4 es .shut,es)::os):=w.loose (iS.shut w.ro ND (by omega)) fun _ h=>by obtain ⟨_,_,e⟩:=h;cases e
theorem Wd.app {v:AV} {es:List AV} (w:Wd PT st0 st p L x d r l ((v,es)::os)) (new:List AV) (hn:new≠[]) (hl:es.length+new.length<=1000000000):
  ∃v' st' m,Wd PT st0 st' p L x d r l ((v',es++new)::os)/\ ∀{β:Type} (K:Kv β),cT 4 56 ND v new st K=K v' st' m:=by
 have ho:=w.o (v,es) WS;obtain ⟨v',s2,m,e,n,k2,f2⟩:=xc (b:=56) (new:=new) ho.1 hn (tj (by simpa using hl) (by omega) (by omega));have hp:¬ dS v p:=by
  obtain ⟨i,h,_⟩:=w.pz;exact ho.1.not h.get
 refine ⟨v',s2,m,⟨w.pz.keeps k2 hp,ba.join w.k k2 fun j hj=> .inr (ho.2 j hj),fun q a=>⟨k2.old _ _ (ho.1.not (w.v q a).1) (w.v q a).1,(w.v q a).2⟩,w.nd,fun q a=> ?_, ?_,w.p0,w.ro0⟩,fun K=>qO e K⟩
 .rcases Xb.1 a with rfl | a
  .refine ⟨n,fun j hj=> ?_⟩;rcases f2 j hj with h | h
   .exact ho.2 j h
   .exact Xs w.h h
  .have c:=w.o q (WZ _ a);exact ⟨qb c.1 k2 fun j hj f=>(XZ.1 w.od).1 q a j f hj,c.2⟩
 .refine XZ.2 ⟨fun q a j hj g=> ?_,(XZ.1 w.od).2⟩;rcases f2 j hj with h | h
  .exact (XZ.1 w.od).1 q a j h g
  .have:=(F5 (w.o q (WZ _ a)).1 g).1;omega
theorem Wd.LC {v:AV} {es:List AV} (w:Wd PT st0 st p L x d r l ((v,es)::os)):CA v es:=CA.own (w.o (v,es) WS).1
end
section
variable {β:Type} {Q:β->Prop}
def NQ (PT:TypeId) (st:St) (p:Nat) (L:List aU) (x:AV) (d:Nat) (t:T) (r':List aU):AV×St->Prop:=fun b=>VN t b.1/\eP t<=1000000000000000/\Pz PT b.2 p L x d r'/\ba st b.2 (· =p)
abbrev NW (PT:TypeId) (F:FuncId) (args:List AV) (st:St) (p:Nat) (L:List aU) (x:AV) (d:Nat) (t:T) (r':List aU):Prop:=aa ((aV vE).wide F args st) (NQ PT st p L x d t r')
variable {PT:TypeId} {st0 st:St} {p:Nat} {L:List aU} {x:AV} {d:Nat} {r r':List aU} {l l1 l2:List Vr} {os:List (AV×List AV)} {t:T}
theorem _root_.Go.VM.aa.node {F:FuncId} {args:List AV} (w:Wd PT st0 st p L x d r l os) (hc:NW PT F args st p L x d t r') (h1:vE.isLook F=false) (h2:(bL (args.map strip)&& !vE.full F)=false) {K:Int->Int->List UInt8->AV->St->Fx->Option β}
  (g: ∀(k tk:Nat) (tx:List UInt8) (y:AV) (s:St),Nd t k tk tx y->eP t<=1000000000000000->Wd PT st0 s p L x d r' l os->aa (K (k:Int) (tk:Int) tx y s ⟨[],.all st s⟩) Q):
  aa (bc (aV vE) F args st fun v s e=>wq v fun a b c y=>K a b c y s e) Q:=
 aa.gm hc h1 h2 fun v s h=>by
  obtain ⟨hv,hd,hp,hk⟩:=h;obtain ⟨k,tk,tx,y,rfl,hn⟩:=hv.cells;exact aa.step (lA ..) (g k tk tx y s hn hd (w.move hk hp))
theorem _root_.Go.VM.aa.alloc (w:Wd PT st0 st p L x d r l os) {ty:TypeId} {cs:List AV} {K:St->Option β} (g: ∀s,s.h=st.h+1->Wd PT st0 s p L x d r ((st.h,ty,cs)::l) os->aa (K s) Q):aa (bh (st.add (.cells ty cs)) K) Q:=
 g _ rfl (w.alloc ty cs)
theorem _root_.Go.VM.aa.store (l1:List Vr) {a:Nat} {ty:TypeId} {old:List AV} (w:Wd PT st0 st p L x d r (l1++(a,ty,old)::l2) os) {z:Nat} {v:AV} {cs:List AV} {K:Kv β}
  (g: ∀s b,Wd PT st0 s p L x d r (l1++(a,ty,cs)::l2) os->aa (K VM.undef s b) Q) (hz:old.length=z:=by rfl) (hc:cs.length=z:=by rfl):aa (aM (aV vE) z (.mp a 0) v cs st K) Q:=by
 obtain ⟨s,b,w',e⟩:=w.store l1 hz v cs hc;exact aa.step (e K) (g s b w')
theorem _root_.Go.VM.aa.jL (l1:List Vr) {a:Nat} {ty:TypeId} {old:List AV} (w:Wd PT st0 st p L x d r (l1++(a,ty,old)::l2) os) {off:Nat} {v:AV} (hl:off+1<=old.length) {K:Kv β}
  (g: ∀s b,Wd PT st0 s p L x d r (l1++(a,ty,cJ old off [v])::l2) os->aa (K VM.undef s b) Q):aa (aM (aV vE) 1 (.mp a off) v [v] st K) Q:=by
 obtain ⟨s,b,w',e⟩:=w.jL l1 off v hl;exact aa.step (e K) (g s b w')
theorem _root_.Go.VM.aa.gv {a:Nat} {ty:TypeId} {cs:List AV} (hm:(a,ty,cs)∈l) (w:Wd PT st0 st p L x d r l os) {o:Nat} {v:AV} {post:List AV} (hv:cs.drop o=v::post) {K:AV->List Nat->Option β} (g:aa (K v [a]) Q):aa (al 1 false (.mp a o) st K) Q:=by
 refine aa.step (bu (w.get hm) _ _ _ _) ?_;rw [hv];exact g
theorem _root_.Go.VM.aa.fq {a:Nat} {ty:TypeId} {k tk:Int} {tx:List UInt8} {y:AV} (hm:(a,ty,[.int .u8 k,.int .u8 tk,.str tx,y])∈l) (w:Wd PT st0 st p L x d r l os) {K:Int->Int->List UInt8->AV->List Nat->Option β} (g:aa (K k tk tx y [a]) Q):aa (al 4 true (.mp a 0) st fun v rd=>wq v fun a b c y=>K a b c y rd) Q:=by
 refine aa.step (bu (w.get hm) _ _ _ _) ?_;exact aa.step (lA ..) g
theorem _root_.Go.VM.aa.DJ {a:Nat} {ty:TypeId} {u v:AV} (hm:(a,ty,[u,v])∈l) (w:Wd PT st0 st p L x d r l os) {K:AV->List Nat->Option β} (g:aa (K (.agg [u,v]) [a]) Q):aa (al 2 true (.mp a 0) st K) Q:=
 aa.step (bu (w.get hm) _ _ _ _) g
theorem _root_.Go.VM.aa.res (l1:List Vr) {a:Nat} {old:List AV} (w:Wd PT st0 st p L x d r (l1++(a,ND,old)::l2) os) (ho:old.length=4) {k tk:Nat} {tx:List UInt8} {y:AV} (hn:Nd t k tk tx y) (hd:eP t<=1000000000000000):
  aa (ab y (aM (aV vE) 4 (.mp a 0) (.agg [.int .u8 (k:Int),.int .u8 (tk:Int),.str tx,y]) [.int .u8 (k:Int),.int .u8 (tk:Int),.str tx,y] st fun _ s _=>al 4 true (.mp a 0) s fun v _=>wq v fun n1 b s1 y=>some (.agg [.int .u8 n1,.int .u8 b,.str s1,y],s))) (NQ PT st0 p L x d t r):=by
 refine aa.step (hn.ab _) (aa.store l1 w (fun s c w'=> ?_) ho);exact aa.fq (List.mem_append_right _ WS) w' (aa.some ⟨hn.vn,hd,w'.pz,w'.k⟩)
theorem _root_.Go.VM.aa.Ek (l1:List Vr) {a:Nat} {old:List AV} (w:Wd PT st0 st p L x d r (l1++(a,ND,old)::l2) os) (ho:old.length=4) {k tk:Nat} {tx:List UInt8} {y:AV} (hn:Nd t k tk tx y) (hd:eP t<=1000000000000000):
  aa (aM (aV vE) 4 (.mp a 0) (.agg [.int .u8 (k:Int),.int .u8 (tk:Int),.str tx,y]) [.int .u8 (k:Int),.int .u8 (tk:Int),.str tx,y] st fun _ s _=>al 4 true (.mp a 0) s fun v _=>wq v fun n1 b s1 y=>some (.agg [.int .u8 n1,.int .u8 b,.str s1,y],s)) (NQ PT st0 p L x d t r):=by
 have h:=aa.res l1 w ho hn hd;rw [hn.ab] at h;exact h
theorem _root_.Go.VM.aa.fit {k tk:Nat} {tx:List UInt8} {y:AV} (hn:Nd t k tk tx y) {K:AV->Option β} (g: ∀y',iz t (.agg [.int .u8 (k:Int),.int .u8 (tk:Int),.str tx,y'])->VM.one y'=true->(∀{γ:Type} (K:AV->Option γ),aD y' K=K y')->aa (K y') Q):aa (ab y (aD y K)) Q:=by
 obtain ⟨l,es,rfl,hk,a⟩:=hn.ex;obtain ⟨y',hx,hf⟩:=hk.fit;refine aa.step (hk.ab _) (aa.step (hf K) (g y' ?_ hx.one fun K=>hx.aD K));simp only [iz];exact ⟨y',es,rfl,hx,a⟩
theorem _root_.Go.VM.aa.two {k tk:Nat} {tx:List UInt8} {y:AV} (hn:Nd t k tk tx y) {e:Option β} (g:aa e Q):aa (ab y e) Q:=aa.step (hn.ab e) g
theorem _root_.Go.VM.aa.app {v:AV} {es new:List AV} (w:Wd PT st0 st p L x d r l ((v,es)::os)) (hn:new≠[]) (hl:es.length+new.length<=1000000000) {K:Kv β} (g: ∀v' s a,VM.one v'=true->Wd PT st0 s p L x d r l ((v',es++new)::os)->aa (K v' s a) Q):aa (cT 4 56 ND v new st K) Q:=by
 obtain ⟨v',s,a,w',e⟩:=w.app new hn hl;exact aa.step (e K) (g v' s a w'.LC.one w')
theorem Wd.same {a:Nat} {s:St} {k tk:Int} {tx:List UInt8} {v:AV} {es:List AV} {ts:List T} (w:Wd PT st0 st p L x d r l os) (w':Wd PT st0 s p L x d r' l os) (hm:(a,ND,[.int .u8 k,.int .u8 tk,.str tx,v])∈l) (hk:CA v es) (hn:bO ts es) (hd:eQ ts<=1000000000000000):apart ⟨[a],.kept⟩ ⟨[],.all st s⟩=true:=by
 have hv:Rf (2 * eQ ts+1) v:=by
  have he:=bO.rf hn;rcases hk with hx | ⟨_,k,rfl⟩
  .rcases hx.2 with ⟨rfl | rfl,rfl⟩ | rfl | rfl
   .exact CB.mono (by omega)
   .exact Kn.mono (by omega)
   .exact wb he
   .exact wb he
  .exact wb he
 refine IK (HU (w.get hm) (w'.get hm) (d:=2 * eQ ts+1) (fun c hc=> ?_) (by omega));simp only [Xb,XS,or_false] at hc;rcases hc with rfl | rfl | rfl | rfl
 .exact (uy _ _).mono (by omega)
 .exact (uy _ _).mono (by omega)
 .exact (Ga _).mono (by omega)
 .exact hv
theorem Wd.lg {a:Nat} {s:St} {k tk:Nat} {tx:List UInt8} {v:AV} (w:Wd PT st0 st p L x d r l os) (w':Wd PT st0 s p L x d r' l os) (hm:(a,ND,[.int .u8 (k:Int),.int .u8 (tk:Int),.str tx,v])∈l) (hn:Nd t k tk tx v) (hd:eP t<=1000000000000000):apart ⟨[a],.kept⟩ ⟨[],.all st s⟩=true:=by
 obtain ⟨ts,es,rfl,hk,b⟩:=hn.ex;simp only [eP] at hd;exact w.same w' hm hk b (by omega)
theorem _root_.Go.VM.aa.grow (l1:List Vr) {F:FuncId} {args:List AV} {a:Nat} {k tk:Int} {tx:List UInt8} {v:AV} {es:List AV} {ts:List T}
  (w:Wd PT st0 st p L x d r (l1++(a,ND,[.int .u8 k,.int .u8 tk,.str tx,v])::l2) ((v,es)::os)) (hc:NW PT F args st p L x d t r') (h1:vE.isLook F=false) (h2:(bL (args.map strip)&& !vE.full F)=false)
  (b:bO ts es) (c:eQ ts<=1000000000000000) (hl:ts.length<=100000000) {K:St->Option β}
  (g: ∀v' e s,bO (ts++[t]) (es++[e])->eQ (ts++[t])<=1000000000000000->Wd PT st0 s p L x d r' (l1++(a,ND,[.int .u8 k,.int .u8 tk,.str tx,v'])::l2) ((v',es++[e])::os)->aa (K s) Q):
  aa (al 1 false (.mp a 3) st fun v rd=>bc (aV vE) F args st fun u s x=>wq u fun n1 h tx y=>bM (apart ⟨rd,.kept⟩ x&&(apart ⟨[],.kept⟩ x&&true)) (ab y (ab y (aD y fun y=>ab y (aD y fun y=>cT 4 56 ND v [.agg [.int .u8 n1,.int .u8 h,.str tx,y]] s fun v s _=>ab v (ab v (aM (aV vE) 1 (.mp a 3) v [v] s fun _ s _=>K s))))))) Q:=by
 have hm:(a,ND,[AV.int .u8 k,.int .u8 tk,.str tx,v])∈l1++(a,ND,[AV.int .u8 k,.int .u8 tk,.str tx,v])::l2:=List.mem_append_right _ WS;refine aa.gv hm w rfl (aa.node w hc h1 h2 fun z i j y s hn hd w'=> ?_);have f:=w.same w' hm w.LC b c;refine aa.step (gP (by rw [f];rfl) _) (aa.two hn (aa.fit hn fun y' l h1 hf=>aa.one h1 (aa.step (hf _) (aa.app w' (by simp) (by rw [bO.len b];simp;omega) fun v' s' A ho m=> ?_))));refine aa.one ho (aa.one ho (aa.jL l1 m (WU rfl) fun n o q=> ?_));exact g v' _ n (bO.app b (bO.cons l bO.nil)) (by rw [cq,br];omega) q
end
abbrev PP:TypeId:=77
section
variable {β:Type} {Q:β->Prop} {st0 st:St} {p:Nat} {L:List aU} {x:AV} {d d':Nat} {r r':List aU} {l l1 l2:List Vr} {os:List (AV×List AV)} {t:T}
theorem _root_.Go.VM.aa.is (a:List (List UInt8)) (hs:a.length<=1000) (w:Wd PP st0 st p L x d r l os) {K:Bool->St->Fx->Option β} (g: ∀s,Wd PP st0 s p L x d r l os->aa (K (isAny a r) s ⟨[],.all st s⟩) Q):
  aa (bc (aV vE) 64 [.mp p 0,.sl 1 (a.map AV.str) .shut] st fun v s c=>bJ v fun b=>K b s c) Q:=by
 obtain ⟨i,h,rfl⟩:=w.pz;obtain ⟨s,k,e⟩:=B4 h (lK a hs);exact aa.step (e _) (g s (w.quiet k))
theorem _root_.Go.VM.aa.I6 {s0:List UInt8} (w:Wd PP st0 st p L x d r l os) {K:Bool->St->Fx->Option β} (g: ∀s,Wd PP st0 s p L x d r l os->aa (K (bY s0 r) s ⟨[],.all st s⟩) Q):
  aa (bc (aV vE) 64 [.mp p 0,.sl 1 [.str s0] .shut] st fun v s a=>bJ v fun b=>K b s a) Q:=
 aa.is [s0] (by simp) w fun s w'=>by rw [Bm];exact g s w'
theorem _root_.Go.VM.aa.cI (pat:Bool) (w:Wd PP st0 st p L x d r l os) {K:Bool->St->Fx->Option β} (g: ∀s,Wd PP st0 s p L x d r l os->aa (K (cI pat r) s ⟨[],.all st s⟩) Q):
  aa (bc (aV vE) 89 [.mp p 0,.int .u8 (rI pat:Int),.str (rG pat)] st fun v s a=>bJ v fun b=>K b s a) Q:=by
 obtain ⟨i,h,rfl⟩:=w.pz;obtain ⟨s,k,e⟩:=Df h pat
 exact aa.step (e _) (g s (w.quiet k))
theorem _root_.Go.VM.aa.next (w:Wd PP st0 st p L x d r l os) {K:St->St->Option β} (g: ∀s s',Wd PP st0 s' p L x d r ((s.h,24,[.int .u8 ((nx r).1:Int),.str (nx r).2])::l) os->aa (K s s') Q):
  aa (bc (aV vE) 63 [.mp p 0] st fun v s _=>gx v fun vs=>cE vs 0 fun u=>uk u fun cs=>bj cs fun a cs=>bk .u8 a fun n=>bj cs fun b cs=>dW b fun tx=>bC cs (gx v fun vs=>cE vs 1 fun u=>bk .i64 u fun _=>bh (St.add s (.cells 24 [.int .u8 0,.str []])) fun s1=>aM (aV vE) 2 (.mp (St.h s) 0) (.agg [.int .u8 n,.str tx]) [.int .u8 n,.str tx] s1 fun _ s' _=>K s s')) Q:=by
 obtain ⟨i,h,rfl⟩:=w.pz;obtain ⟨s,k,e⟩:=nG h;refine aa.step (e _) ?_;simp only [cf,bw,bG,aE,ad,af,ax,ae];refine aa.alloc (w.quiet k) fun s1 _ c=> ?_;exact aa.store [] c fun s2 j f=>g s s2 f
theorem iT (h:Pz PP st p L x d r):NW PP 65 [.mp p 0] st p L x d (aJ r) (aL r):=by
 obtain ⟨i,h,rfl⟩:=h;obtain ⟨v,s,e,hv,hp,hk⟩:=Hg h;exact ⟨(v,s),e,hv,Xs (bS _) (by omega),⟨_,hp,(zc L i).symm⟩,hk⟩
theorem oY (h:Pz PP st p L x d r) (s:List UInt8):NW PP 91 [.mp p 0,.str s] st p L x d (cN s r) (bg s r):=by
 obtain ⟨i,h,rfl⟩:=h;obtain ⟨v,s',a,e,hv,hp,hr,hk⟩:=MI h s;exact ⟨(v,s'),e,hv,Xs (fh _ _) (by omega),⟨_,hp,hr⟩,hk⟩
theorem _root_.Go.VM.aa.take (w:Wd PP st0 st p L x d r l os) {K:Int->Int->List UInt8->AV->St->Fx->Option β}
  (g: ∀(k tk:Nat) (tx:List UInt8) (y:AV) (s:St),Nd (aJ r) k tk tx y->eP (aJ r)<=1000000000000000->Wd PP st0 s p L x d (aL r) l os->aa (K (k:Int) (tk:Int) tx y s ⟨[],.all st s⟩) Q):
  aa (bc (aV vE) 65 [.mp p 0] st fun v s e=>wq v fun a b c y=>K a b c y s e) Q:=aa.node w (iT w.pz) rfl rfl g
theorem _root_.Go.VM.aa.zi (w:Wd PP st0 st p L x d r l os) {s0:List UInt8} {K:Int->Int->List UInt8->AV->St->Fx->Option β}
  (g: ∀(k tk:Nat) (tx:List UInt8) (y:AV) (s:St),Nd (cN s0 r) k tk tx y->eP (cN s0 r)<=1000000000000000->Wd PP st0 s p L x d (bg s0 r) l os->aa (K (k:Int) (tk:Int) tx y s ⟨[],.all st s⟩) Q):
  aa (bc (aV vE) 91 [.mp p 0,.str s0] st fun v s e=>wq v fun a b c y=>K a b c y s e) Q:=aa.node w (oY w.pz s0) rfl rfl g
theorem _root_.Go.VM.aa.zM {i o n:Nat} {K:AV->Option β} (g:aa (K (.mp i (o+n))) Q):aa (bM (notNil (.mp i o)) (bF n (.mp i o) K)) Q:=g
theorem _root_.Go.VM.aa.nU {PT:TypeId} (w:Wd PT st0 st p L x d r l os) {K:AV->List Nat->Option β} (g:aa (K (.int .i64 (d:Int)) [p]) Q):aa (al 1 false (.mp p 2) st K) Q:=by
 obtain ⟨i,h,rfl⟩:=w.pz;exact aa.step (bu h.get _ _ _ _) g
theorem _root_.Go.VM.aa.deep {PT:TypeId} (d':Nat) (w:Wd PT st0 st p L x d r l os) {K:Kv β} (g: ∀s a,Wd PT st0 s p L x d' r l os->aa (K VM.undef s a) Q):aa (aM (aV vE) 1 (.mp p 2) (.int .i64 (d':Int)) [.int .i64 (d':Int)] st K) Q:=by
 obtain ⟨i,h,rfl⟩:=w.pz;refine aa.step (dq (cs:=[.int .i64 (d':Int)]) (z:=1) (off:=2) h.get rfl (WU rfl) h.ro K) (g _ _ ?_);have k:ba st (st.put p (.cells PT (cJ [x,.int .i64 (i:Int),.int .i64 (d:Int)] 2 [.int .i64 (d':Int)]))) (· =p):=ba.put rfl;exact w.move k ⟨i,⟨St.aQ (St.ch.1 h.get).1,h.sl,h.le,h.len,by rw [k.ro];exact h.ro⟩,rfl⟩
theorem jo {k:Nat} {es:List AV} {ts:List T} (h:bO ts es) (hl:es.length<=1000):Nd (node k ts) k 0 [] (.sl 4 es .shut):=⟨⟨ts,es,rfl,.inl (bp.shut (by omega)),h⟩⟩
theorem lU {t:T} {e:AV} (h:iz t e):bO [t] [e]:=bO.cons h bO.nil
theorem Aq {t u:T} {e f:AV} (h:iz t e) (a:iz u f):bO [t,u] [e,f]:=bO.cons h (lU a)
theorem Ax {t u v:T} {e f g:AV} (h:iz t e) (b:iz u f) (a:iz v g):bO [t,u,v] [e,f,g]:=bO.cons h (Aq b a)
theorem pU (f:AV) (s0:List UInt8) (h:Pz PP st p L x 64 r):NW PP 121 [.mp p 0,.str s0,f] st p L x 64 (iM s0 r) (je r):=by
 refine aa.wide (aa.step (G1 _ _ _ _) ?_);unfold PL;refine aa.step (ax _ _) (aa.alloc (Wd.begin h) fun s1 _ w=> ?_);refine aa.zM (aa.nU w ?_);refine aa.step (af _ _ _) ?_;refine aa.next w fun s2 b w=> ?_;refine aa.gv (WS) w rfl (aa.step (af _ _ _) ?_);unfold iM je;by_cases h0:(nx r).1=0
 .rw [if_pos h0,if_pos h0,show (((nx r).1:Int)==0)=true by rw [h0];rfl];refine aa.step (ao _ _) (aa.step (oT _ _ _) ?_);refine aa.res [_] (old:=[.int .u8 0,.int .u8 0,.str [],.ay]) w rfl (ja s0) ?_;rw [fF];omega
 .rw [if_neg h0,if_neg h0,show (((nx r).1:Int)==0)=false from WX.2 (by omega)];refine aa.step (ai _ _) (aa.take w fun k tk tx y s hn hd w=> ?_);refine aa.two hn (aa.fit hn fun y' a _ _=> ?_);refine aa.Ek [_] (old:=[.int .u8 0,.int .u8 0,.str [],.ay]) w rfl (jo (lU a) (by simp)) ?_;rw [bE,br];have:=bS r;omega
theorem uO {f:AV} {F:FuncId} {args:List AV} (s0:List UInt8) (h:Pz PP st p L x d r) (hd:d < 64) (h1:vE.isLook F=false) (h2:(bL (args.map strip)&& !vE.full F)=false)
  (hf: ∀{β:Type} (s:St) (K:Kv β),kK (aV vE) (Sx.prim (sx vE 121)) f [] s K=bc (aV vE) F args s K)
  (hc: ∀s,ba st s (· =p)->Pz PP s p L x (d+1) r->NW PP F args s p L x (d+1) t r'):NW PP 121 [.mp p 0,.str s0,f] st p L x d t r':=by
 refine aa.wide (aa.step (G1 _ _ _ _) ?_);unfold PL;refine aa.step (ax _ _) (aa.alloc (Wd.begin h) fun s1 _ w=> ?_);refine aa.zM (aa.nU w ?_);refine aa.step (af _ _ _) ?_;rw [show ((d:Int)==64)=false from WX.2 (by omega)];refine aa.step (ai _ _) (aa.zM (aa.nU w ?_));refine aa.step (af _ _ _) ?_;rw [aB,bm (by omega)];refine aa.zM (aa.deep (d+1) w fun s2 b w=> ?_);refine aa.step (hf _ _) (aa.node w (hc s2 w.k w.pz) h1 h2 fun k tk tx y s hn a w=> ?_);refine aa.alloc w fun c _ w=>aa.two hn ?_;refine aa.store [] w fun e b w=> ?_;refine aa.zM (aa.nU w ?_);refine aa.step (af _ _ _) ?_;rw [aB,show ((d+1:Nat):Int) - 1=((d+1:Nat):Int) - ((1:Nat):Int) from rfl,rY (by omega) (by omega),Yx];refine aa.zM (aa.deep d w fun g b w=> ?_);refine aa.fq (WS) w ?_;exact aa.res [_] (old:=[.int .u8 0,.int .u8 0,.str [],.ay]) w rfl hn a
end
def rC (F:FuncId) (more:Nat->List AV) (job:jI) (n:Nat):Prop:= ∀(st:St) (p:Nat) (L:List aU) (x:AV) (d:Nat) (r:List aU) (t:T) (r':List aU),Pz PP st p L x d r->d<=64->P n job d r=some ([t],r')->NW PP F (.mp p 0::more p) st p L x d t r'
def LN (pat:Bool):FuncId:=match pat with | true=>118 | false=>92
def yO (pat:Bool) (p:Nat):AV:= .fn (.func (LN pat)) [.mp p 0] []
def BQ (PT:TypeId) (st:St) (p:Nat) (L:List aU) (x:AV) (d:Nat) (ts:List T) (r':List aU):AV×St->Prop:=fun b=> ∃es,iS b.2 4 ND b.1 es/\(∀j,dS b.1 j->st.h<=j)/\bO ts es/\eQ ts<=1000000000000000/\Pz PT b.2 p L x d r'/\ba st b.2 (· =p)
def LA (n:Nat):Prop:= ∀(st:St) (p:Nat) (L:List aU) (x:AV) (d:Nat) (r:List aU) (ts:List T) (r':List aU),Pz PP st p L x d r->d<=64->P n .binding d r=some (ts,r')->aa ((aV vE).wide 66 [.mp p 0] st) (BQ PP st p L x d ts r')
structure IH (n:Nat):Prop where
 expr:rC 92 (fun _=>[]) .expr n
 whole:rC 122 (fun _=>[]) .whole n
 level: ∀k:Nat,k<=7->rC 145 (fun _=>[.int .i64 (k:Int)]) (.level k) n
 neg:rC 156 (fun _=>[]) .neg n
 atom: ∀pat,rC 90 (fun _=>[.bool pat]) (.atom pat) n
 closed: ∀list pat,rC 120 (fun p=>[.int .u8 (kindOf list pat:Int),.str (ry list),.str (gQ list),yO pat p]) (.closed list pat) n
 pattern:rC 118 (fun _=>[]) .pattern n
 arm:rC 144 (fun _=>[]) .arm n
 binding:LA n
theorem zr {n:Nat} (hn:n<=10000000) {job:jI} {d:Nat} {r:List aU} {l:List T} {r':List aU} (h:P n job d r=some (l,r')) (ha:dz job=[]):eQ l<=100000020000000:=by
 have:=Hw n job d r l r' h;rw [ha,aS] at this;have a:n * n<=10000000 * 10000000:=Yy hn hn;omega
theorem dX {n:Nat} (hn:n<=10000000) {job:jI} {d:Nat} {r:List aU} {t:T} {r':List aU} (h:P n job d r=some ([t],r')) (ha:dz job=[]):eP t<=100000020000000:=by
 have:=zr hn h ha
 rwa [br] at this
section
variable {β:Type} {Q:β->Prop} {st0 st:St} {p:Nat} {L:List aU} {x:AV} {d d':Nat} {r r':List aU} {l l1 l2:List Vr} {os:List (AV×List AV)} {t:T}
abbrev z4:List AV:=[.int .u8 0,.int .u8 0,.str [],.ay]
theorem I3 {n:Nat} (ih:IH n):rC 92 (fun _=>[]) .expr (n+1):=by
 intro st p L x d r t r' hp hd h;simp only [P] at h;refine aa.wide (aa.step (Pv _ _) ?_);unfold Wg;refine aa.alloc (Wd.begin hp) fun s1 _ w=> ?_;split at h
 .rename_i hd;subst hd;cases h;exact aa.node w (pU _ _ w.pz) rfl rfl fun k tk tx y s hn hd w=>aa.res [] (old:=z4) w rfl hn hd
 .exact aa.node w (uO (F:=122) (args:=[.mp p 0]) _ w.pz (by omega) rfl rfl (fun _ _=>rfl) fun s _ hp=>ih.whole s p L x (d+1) r t r' hp (by omega) h) rfl rfl fun k tk tx y s hn hd w=>aa.res [] (old:=z4) w rfl hn hd
def Nv (PT:TypeId) (st0 s:St) (p:Nat) (L:List aU) (x:AV) (d:Nat) (r:List aU) (a b:Nat) (t:T):Prop:= ∃(k tk:Nat) (tx:List UInt8) (y:AV),Wd PT st0 s p L x d r [(a,ND,[.int .u8 (k:Int),.int .u8 (tk:Int),.str tx,y]),(b,ND,z4)] []/\Nd t k tk tx y
theorem Nv.fin {PT:TypeId} {s:St} {a b:Nat} (h:Nv PT st0 s p L x d r a b t) (hd:eP t<=1000000000000000):
  aa (al 4 true (.mp a 0) s fun v _=>wq v fun n1 c tx y=>ab y (aM (aV vE) 4 (.mp b 0) (.agg [.int .u8 n1,.int .u8 c,.str tx,y]) [.int .u8 n1,.int .u8 c,.str tx,y] s fun _ s _=>al 4 true (.mp b 0) s fun v _=>wq v fun n1 c tx y=>some (.agg [.int .u8 n1,.int .u8 c,.str tx,y],s))) (NQ PT st0 p L x d t r):=by
 obtain ⟨k,tk,tx,y,w,hn⟩:=h;exact aa.fq (WS) w (aa.res [_] (old:=z4) w rfl hn hd)
theorem NI {a b c:Vr}:List.Sublist [b,c] [a,b,c]:=List.Sublist.cons _ (Yn _)
theorem cZ {b c:Bool} (h:b=c) {α:Type} (x y:Option α):aW b x y=aW c x y:=by rw [h]
theorem N3 {n:Nat} (ih:IH n) {a:Nat} (ha:st.get a= .ok (.cells 75 [.mp p 0])) (j:a≠p) (hp:Pz PP st p L x d r) (hd:d<=64)
  {b:List aU} {u:T} (h1:P n (.atom true) d r=some ([u],b)) (h2:if bY zb b=true then ∃v,P n .pattern d (aL b)=some ([v],r')/\t=node 16 [u,aJ b,v] else t=u/\r'=b)
  (hn:n<=10000000):NW PP 142 [.mp a 0] st p L x d t r':=by
 have B:=dX hn h1 rfl;refine aa.wide (aa.step (Nf _ _) ?_);unfold SM;have rd: ∀{s:St} {β:Type} (K:AV->List Nat->Option β),ba st s (· =p)->al 1 false (.mp a 0) s K=K (.mp p 0) [a]:=fun K k=>bu (k.An j ha) _ _ _ _;refine aa.alloc (Wd.begin hp) fun s1 _ w=> ?_;refine aa.step (rd _ w.k) (aa.node w (ih.atom true _ p L x d r u b w.pz hd h1) rfl rfl fun k tk tx y s hnd g w=> ?_);refine aa.alloc w fun O _ w=>aa.two hnd ?_;refine aa.store [] w fun Q C w=> ?_;refine aa.step (rd _ w.k) ?_;refine aa.I6 w fun D w=> ?_;cases hb:bY zb b with
 | true=>
  rw [hb,if_pos rfl] at h2;obtain ⟨v,h2,rfl⟩:=h2;have E:=dX hn h2 rfl;have F:=bS b;refine aa.bind (R:=fun c=> ∃f,c=([],f)/\Nv PP st f p L x d r' s.h st.h (node 16 [u,aJ b,v])) ?_ ?_
  .refine aa.step (cZ (c:=true) hb _ _) (aa.step (ao _ _) ?_);refine aa.step (rd _ w.k) (aa.take w fun S G H y' f e l w=> ?_);refine aa.alloc w fun U _ w=>aa.two e ?_;refine aa.store [] w fun V C w=> ?_;refine aa.fq (a:=s.h) (WZ _ WS) w ?_;refine aa.fq (WS) w ?_;refine aa.step (rd _ w.k) (aa.node w (ih.pattern _ p L x d _ v r' w.pz hd h2) rfl rfl fun k2 I J W X i M m=> ?_);have N:=w.lg m (WS) e l;have a2:=w.lg m (a:=s.h) (WZ _ WS) hnd g;refine aa.step (gP (by rw [N,a2];rfl) _) ?_;refine aa.two hnd (aa.two e (aa.two i (aa.fit hnd fun Y o _ _=>aa.fit e fun z2 q _ _=>aa.fit i fun z3 z _ _=> ?_)));refine aa.store [_] m fun A C w=> ?_;exact aa.some ⟨A,rfl,16,0,[],_,w.sub NI,jo (Ax o q z) (by simp)⟩
  .rintro c ⟨f,rfl,h⟩;refine aa.step (ae _) (h.fin ?_);rw [bE];simp only [bz,aS];omega
 | false=>
  rw [hb,if_neg (by simp)] at h2;obtain ⟨rfl,rfl⟩:=h2;refine aa.bind (R:=fun c=> ∃f,c=([],f)/\Nv PP st f p L x d r' s.h st.h t) ?_ ?_
  .exact aa.step (cZ (c:=false) hb _ _) (aa.step (ai _ _) (aa.some ⟨D,rfl,k,tk,tx,y,w,hnd⟩))
  .rintro c ⟨f,rfl,h⟩;exact aa.step (ae _) (h.fin g)
theorem BH {n:Nat} (ih:IH n) (hn:n<=10000000):rC 118 (fun _=>[]) .pattern (n+1):=by
 intro st p L x d r t r' hp hd h;simp only [P] at h;refine aa.wide (aa.step (Nw _ _) ?_);unfold Tp;refine aa.one rfl (aa.one rfl ?_);refine aa.alloc (Wd.begin hp) fun s1 _ w=> ?_;refine aa.alloc w fun s2 _ w=> ?_;refine aa.gv (a:=st.h) (WZ _ WS) w rfl ?_;have hne:st.h≠p:=w.ne (WZ _ WS);have hg:=w.get (a:=st.h) (WZ _ WS);split at h
 .rename_i hd;subst hd;cases h;exact aa.node w (pU _ _ w.pz) rfl rfl fun k tk tx y s hn hd w=>aa.res [] (old:=z4) w rfl hn hd
 .obtain ⟨⟨a,f⟩,c,h⟩:=bind_some h;obtain ⟨u,rfl⟩:=cO _ _ _ _ _ _ c rfl;refine aa.node w (uO (F:=142) (args:=[.mp st.h 0]) (t:=t) (r':=r') _ w.pz (by omega) rfl rfl (fun _ _=>rfl) fun s k hp=> ?_) rfl rfl fun k tk tx y s hn hd w=>aa.res [] (old:=z4) w rfl hn hd;refine N3 ih (k.An hne hg) hne hp (by omega) c ?_ hn;dsimp only at h;split at h
  .rename_i hb;rw [if_pos hb];obtain ⟨⟨b,r2⟩,e,h⟩:=bind_some h;obtain ⟨v,rfl⟩:=cO _ _ _ _ _ _ e rfl;cases h;exact ⟨v,e,rfl⟩
  .rename_i hb;rw [if_neg hb];cases h;exact ⟨rfl,rfl⟩
end
section
variable {β:Type} {Q:β->Prop} {st0 st:St} {p:Nat} {L:List aU} {x:AV} {d d':Nat} {r r':List aU} {l l1 l2:List Vr} {os:List (AV×List AV)} {t:T}
theorem KS {n:Nat} (ih:IH n) (hn:n<=10000000):rC 144 (fun _=>[]) .arm (n+1):=by
 intro st p L x d r t r' hp hd h;simp only [P] at h;obtain ⟨⟨a,z⟩,g,h⟩:=bind_some h;obtain ⟨u,rfl⟩:=cO _ _ _ _ _ _ g rfl;obtain ⟨⟨b,r2⟩,i,h⟩:=bind_some h;obtain ⟨v,rfl⟩:=cO _ _ _ _ _ _ i rfl;cases h;have A:=dX hn g rfl;have B:=dX hn i rfl;have C:=fh fB z;refine aa.wide (aa.step (Ni _ _) ?_);unfold SK;refine aa.alloc (Wd.begin hp) fun s1 _ w=> ?_;refine aa.node w (ih.pattern _ p L x d _ u z w.pz hd g) rfl rfl fun k tk tx y s hnd e w=> ?_;refine aa.alloc w fun K _ w=>aa.two hnd ?_;refine aa.store [] w fun M D w=> ?_;refine aa.zi w fun N E F y' O c j w=> ?_;refine aa.alloc w fun Q _ w=>aa.two c ?_;refine aa.store [] w fun R D w=> ?_;refine aa.fq (a:=s.h) (WZ _ WS) w ?_;refine aa.fq (WS) w ?_;refine aa.node w (ih.expr _ p L x d _ v r2 w.pz hd i) rfl rfl fun k2 G H S T f I l=> ?_;have J:=w.lg l (WS) c j;have a2:=w.lg l (a:=s.h) (WZ _ WS) hnd e;refine aa.step (gP (by rw [J,a2];rfl) _) ?_;refine aa.two hnd (aa.two c (aa.two f (aa.fit hnd fun U m _ _=>aa.fit c fun z2 o _ _=>aa.fit f fun z3 q _ _=> ?_)));refine aa.Ek [_,_] (old:=z4) l rfl (jo (Ax m o q) (by simp)) ?_;simp only [bE,cq,bz,aS];omega
theorem uK (pat:Bool) (p:Nat) {β:Type} (s:St) (K:Kv β):kK (aV vE) (Sx.prim (sx vE 120)) (yO pat p) [] s K=bc (aV vE) (LN pat) [.mp p 0] s K:=by cases pat <;> rfl
theorem J9 {n:Nat} (ih:IH n) (pat:Bool) (hp:Pz PP st p L x d r) (hd:d<=64) (h:P n (if pat then .pattern else .expr) d r=some ([t],r')):NW PP (LN pat) [.mp p 0] st p L x d t r':=by
 cases pat with
 | true=>exact ih.pattern _ p L x d _ t r' hp hd h
 | false=>exact ih.expr _ p L x d _ t r' hp hd h
theorem DC (pat:Bool):vE.isLook (LN pat)=false:=by cases pat <;> rfl
theorem EH (pat:Bool) (p:Nat):(bL ([AV.mp p 0].map strip)&& !vE.full (LN pat))=false:=rfl
theorem wS (pat:Bool):single (if pat then jI.pattern else .expr)=true:=by cases pat <;> rfl
def Gv (PT:TypeId) (st0 s:St) (p:Nat) (L:List aU) (x:AV) (d:Nat) (r:List aU) (a b k:Nat) (ts:List T):Prop:= ∃(v:AV) (es:List AV),Wd PT st0 s p L x d r [(a,ND,[.int .u8 (k:Int),.int .u8 0,.str [],v]),(b,ND,z4)] [(v,es)]/\bO ts es/\eQ ts<=1000000000000000
theorem Gv.nd {PT:TypeId} {s:St} {a b k:Nat} {ts:List T} (h:Gv PT st0 s p L x d r a b k ts):Nv PT st0 s p L x d r a b (node k ts):=by
 obtain ⟨v,es,w,hs,hd⟩:=h;exact ⟨k,0,[],v,w.drop,⟨⟨ts,es,rfl,w.LC,hs⟩⟩⟩
theorem Gv.grow {PT:TypeId} {s:St} {a b k:Nat} {ts:List T} (h:Gv PT st0 s p L x d r a b k ts) {F:FuncId} {args:List AV} (hc:NW PT F args s p L x d t r') (h1:vE.isLook F=false) (h2:(bL (args.map strip)&& !vE.full F)=false) (hl:ts.length<=100000000) {K:St->Option β} (g: ∀s,Gv PT st0 s p L x d r' a b k (ts++[t])->aa (K s) Q):
  aa (al 1 false (.mp a 3) s fun v rd=>bc (aV vE) F args s fun u s x=>wq u fun n1 i tx y=>bM (apart ⟨rd,.kept⟩ x&&(apart ⟨[],.kept⟩ x&&true)) (ab y (ab y (aD y fun y=>ab y (aD y fun y=>cT 4 56 ND v [.agg [.int .u8 n1,.int .u8 i,.str tx,y]] s fun v s _=>ab v (ab v (aM (aV vE) 1 (.mp a 3) v [v] s fun _ s _=>K s))))))) Q:=by
 obtain ⟨v,es,w,hs,hd⟩:=h;exact aa.grow [] w hc h1 h2 hs hd hl fun v' e s c f w'=>g s ⟨v',_,w',c,f⟩
theorem Gv.pz {PT:TypeId} {s:St} {a b k:Nat} {ts:List T} (h:Gv PT st0 s p L x d r a b k ts):Pz PT s p L x d r:=by
 obtain ⟨v,es,w,hs,hd⟩:=h;exact w.pz
theorem Gv.is {s:St} {a b k:Nat} {ts:List T} (h:Gv PP st0 s p L x d r a b k ts) {s0:List UInt8} {K:Bool->St->Fx->Option β} (g: ∀s',Gv PP st0 s' p L x d r a b k ts->aa (K (bY s0 r) s' ⟨[],.all s s'⟩) Q):
  aa (bc (aV vE) 64 [.mp p 0,.sl 1 [.str s0] .shut] s fun v s c=>bJ v fun b=>K b s c) Q:=by
 obtain ⟨v,es,w,hs,hd⟩:=h;exact aa.I6 w fun s' w'=>g s' ⟨v,es,w',hs,hd⟩
theorem FG {n:Nat} (hn:n<=10000000) (ih: ∀m,m < n->IH m) (list pat:Bool) {a b k:Nat} {c:St} (ha:c.h=a) (hd:d<=64): ∀(m:Nat) (ts bs:List T) (r r':List aU) (s:St),m<=n->P m (.items list pat) d r=some (bs,r')->Gv PP st0 s p L x d r a b k ts->ts.length+2 * m<=100000000->
  aa (aK (mu (.mp p 0) (yO pat p) (ry list) c) ([],s)) (fun q=> ∃s',q=(0,[],s')/\Gv PP st0 s' p L x d r' a b k (ts++bs)):=by
 intro m
 induction m with
 | zero=>intro ts bs r r' s _ h;cases h
 | succ m i=>
  intro ts bs r r' s hm h hg hl;simp only [P] at h;have w:mu (.mp p 0) (yO pat p) (ry list) c ([],s)=mu (.mp p 0) (yO pat p) (ry list) c ([],s):=rfl;split at h
  .rename_i hb;obtain ⟨⟨y,l⟩,o,h⟩:=bind_some h;obtain ⟨u,rfl⟩:=cO _ _ _ _ _ _ o (wS pat);obtain ⟨⟨b1,r2⟩,t,h⟩:=bind_some h;cases h;have f:aa (mu (.mp p 0) (yO pat p) (ry list) c ([],s)) (fun q=> ∃s',q= .inl ([],s')/\Gv PP st0 s' p L x d l a b k (ts++[aJ r]++[u])):=by
    simp only [mu,uK,ha,ae];refine hg.is fun s1 hg=> ?_;rw [hb];refine aa.step (ao _ _) ?_;refine hg.grow (iT hg.pz) rfl rfl (by omega) fun s2 hg=> ?_;refine hg.grow (J9 (ih m (by omega)) pat hg.pz hd o) (DC pat) (EH pat p) (by simp;omega) fun v hg=> ?_;exact aa.some ⟨v,rfl,hg⟩
   obtain ⟨q,e,s',rfl,g⟩:=f;rw [aP e];refine (i _ b1 l _ s' (by omega) t g (by simp;omega)).mono ?_;rintro q ⟨s2,rfl,j⟩;refine ⟨s2,rfl, ?_⟩;simpa using j
  .rename_i hb;cases h;have f:aa (mu (.mp p 0) (yO pat p) (ry list) c ([],s)) (fun q=> ∃s',q= .inr (0,[],s')/\Gv PP st0 s' p L x d r a b k ts):=by
    simp only [mu,uK,ha,ae];refine hg.is fun s1 hg=> ?_;rw [Xi hb];exact aa.step (ai _ _) (aa.some ⟨s1,rfl,hg⟩)
   obtain ⟨q,e,s',rfl,g⟩:=f;exact ⟨_,aF e,s',rfl,by simpa using g⟩
theorem EZ {n:Nat} (ih: ∀m,m<=n->IH m) (hn:n<=10000000) (list pat:Bool):rC 120 (fun p=>[.int .u8 (kindOf list pat:Int),.str (ry list),.str (gQ list),yO pat p]) (.closed list pat) (n+1):=by
 intro st p L x d r t r' hp hd h;simp only [P] at h;refine aa.wide (aa.step (MS _ _ _ _ _ _) ?_);simp only [Ss,uK,af,ax];refine aa.alloc (Wd.begin hp) fun s1 _ w=> ?_;refine aa.take w fun k tk tx y s hnd a w=> ?_;refine aa.two hnd (aa.fit hnd fun l c _ _=> ?_);refine aa.alloc w fun g _ w=> ?_;refine aa.store [] w fun i o w=> ?_;have hg:Gv PP st i p L x d (aL r) s.h st.h (kindOf list pat) [aJ r]:=⟨_,_,w.shut (by simp),lU c,by rw [br];exact a⟩;refine hg.is fun v hg=> ?_;split at h
 .rename_i hb;cases h;rw [hb];refine aa.step (ao _ _) ?_;refine hg.grow (iT hg.pz) rfl rfl (by simp) fun s2 hg=> ?_;refine hg.nd.fin ?_;have:=bS r;have:=bS (aL r);simp only [bE,cq,bz,aS];omega
 .rename_i hb;rw [Xi hb];obtain ⟨⟨z,A⟩,e,h⟩:=bind_some h;obtain ⟨u,rfl⟩:=cO _ _ _ _ _ _ e (wS pat);obtain ⟨⟨b1,r2⟩,f,h⟩:=bind_some h;cases h;refine aa.step (ai _ _) ?_;refine hg.grow (J9 (ih n (WW _)) pat hg.pz hd e) (DC pat) (EH pat p) (by simp) fun g hg=> ?_;refine aa.bind (FG hn (fun m hm=>ih m (by omega)) list pat rfl hd n _ b1 _ _ g (WW _) f hg (by simp;omega)) ?_;rintro q ⟨B,rfl,hg⟩;refine aa.step (ae _) ?_;have hd1:=zr hn f rfl;have j:=dX hn e (lO pat);have hl:=Bb _ _ _ _ _ _ _ f;refine hg.grow (oY hg.pz (gQ list)) rfl rfl (by simp;omega) fun C hg=> ?_;have b:=hg.nd.fin (t:=node (kindOf list pat) ([aJ r]++[u]++b1++[cN (gQ list) r2])) (by
   have:=bS r;have:=fh (gQ list) r2;simp only [bE,cq,bz,aS];omega)
  exact b
end
section
variable {β:Type} {Q:β->Prop} {st0 st:St} {p:Nat} {L:List aU} {x:AV} {d d':Nat} {r r':List aU} {l l1 l2:List Vr} {os:List (AV×List AV)} {t:T}
def J3 (pat:Bool):List UInt8:=if pat then iH else kL
theorem I2 {n:Nat} (ih:IH n) (pat:Bool):rC 90 (fun _=>[.bool pat]) (.atom pat) (n+1):=by
 intro st p L x d r t r' hp hd h;simp only [P] at h;refine aa.wide (aa.step (Rm _ _ _) ?_);unfold Wu;refine aa.step (ak _ _) (aa.alloc (Wd.begin hp) fun s1 _ w=> ?_);have e: ∀{β:Type} (K:bT->Option β),az (aW pat (some ([AV.str iH,.int .u8 17,.int .u8 18,.str [95],yO true p,.int .u8 5],s1)) (some ([.str kL,.int .u8 14,.int .u8 15,.str [40],yO false p,.int .u8 6],s1))) K
   =K ([.str (J3 pat),.int .u8 (kindOf false pat:Int),.int .u8 (kindOf true pat:Int),.str (rG pat),yO pat p,.int .u8 (rI pat:Int)],s1):=by cases pat <;> exact fun K=>rfl
 refine aa.step (e _) ?_;simp only [ad,ax,af,ae];refine aa.next w fun s2 g w=> ?_;refine aa.cI pat w fun i w=> ?_;split at h
 .rename_i hb;rw [hb];refine aa.step (ai _ _) ?_;refine aa.gv (WS) w rfl (aa.step (af _ _ _) ?_);split at h
  .rename_i f;cases h;rw [show (((nx r).1:Int)==9)=true by rw [f];rfl];refine aa.step (ao _ _) (aa.take w fun k tk tx y s hnd a w=> ?_);refine aa.two hnd (aa.fit hnd fun j b _ _=> ?_);refine aa.Ek [_] (old:=z4) w rfl (jo (lU b) (by simp)) ?_;have:=bS r;simp only [bE,bz,aS];omega
  rename_i f;rw [show (((nx r).1:Int)==9)=false from WX.2 (by omega)];refine aa.step (ai _ _) (aa.I6 w fun l w=> ?_);split at h
  .rename_i ho;refine aa.step (cZ (c:=true) ho _ _) (aa.step (ao _ _) ?_);exact aa.node w (ih.closed false pat _ p L x d r t r' w.pz hd h) rfl rfl fun k tk tx y s hnd a w=>aa.res [_] (old:=z4) w rfl hnd a
  rename_i ho;refine aa.step (cZ (c:=false) (Xi ho) _ _) (aa.step (ai _ _) (aa.I6 w fun m w=> ?_));split at h
  .rename_i ho;refine aa.step (cZ (c:=true) ho _ _) (aa.step (ao _ _) ?_);exact aa.node w (ih.closed true pat _ p L x d r t r' w.pz hd h) rfl rfl fun k tk tx y s hnd a w=>aa.res [_] (old:=z4) w rfl hnd a
  .rename_i ho;cases h;refine aa.step (cZ (c:=false) (Xi ho) _ _) (aa.step (ai _ _) ?_);exact aa.take w fun k tk tx y s hnd a w=>aa.res [_] (old:=z4) w rfl hnd a
 .rename_i hb;cases h;rw [Xi hb];refine aa.step (ao _ _) (aa.step (oT _ _ _) ?_);refine aa.res [_] (old:=z4) w rfl (ja (J3 pat)) ?_;rw [fF];omega
theorem Nv.load {PT:TypeId} {s:St} {a b:Nat} (h:Nv PT st0 s p L x d r a b t) {K:Int->Int->List UInt8->AV->List Nat->Option β} (g: ∀(k tk:Nat) (tx:List UInt8) (y:AV),Wd PT st0 s p L x d r [(a,ND,[.int .u8 (k:Int),.int .u8 (tk:Int),.str tx,y]),(b,ND,z4)] []->Nd t k tk tx y->aa (K k tk tx y [a]) Q):aa (al 4 true (.mp a 0) s fun v rd=>wq v fun a b c y=>K a b c y rd) Q:=by
 obtain ⟨k,tk,tx,y,w,hn⟩:=h;exact aa.fq (WS) w (g k tk tx y w hn)
theorem Ir {n:Nat} (hn:n<=10000000) (ih: ∀m,m < n->IH m) {a b:Nat} {c:St} (ha:c.h=a) (hd:d<=64): ∀(m:Nat) (acc t:T) (r r':List aU) (s:St),m<=n->P m (.args acc) d r=some ([t],r')->Nv PP st0 s p L x d r a b acc->eP acc+m<=900000000000000->
  aa (aK (qW (.mp p 0) c) ([],s)) (fun q=> ∃s',q=(0,[],s')/\Nv PP st0 s' p L x d r' a b t/\eP t<=900000000000000):=by
 intro m
 induction m with
 | zero=>intro acc t r r' s _ h;cases h
 | succ m j=>
  intro acc t r r' s hm h hg hl;simp only [P] at h;obtain ⟨k,tk,tx,y,w,hnd⟩:=hg;split at h
  .rename_i hb;obtain ⟨⟨B,l⟩,o,h⟩:=bind_some h;obtain ⟨u,rfl⟩:=cO _ _ _ _ _ _ o rfl;have D:=dX (by omega:m<=10000000) o rfl;have f:aa (qW (.mp p 0) c ([],s)) (fun q=> ∃s',q= .inl ([],s')/\Nv PP st0 s' p L x d l a b (node 13 [acc,u])):=by
    simp only [qW,ha,ae];refine aa.cI false w fun s1 w=> ?_;rw [hb];refine aa.step (ao _ _) ?_;refine aa.fq (WS) w ?_;refine aa.node w ((ih m (by omega)).atom false _ p L x d r u l w.pz hd o) rfl rfl fun k2 E F H I i G C=> ?_;have B:=w.lg C (WS) hnd (by omega);refine aa.step (gP (by rw [B];rfl) _) ?_;refine aa.two hnd (aa.two i (aa.fit hnd fun J v _ _=>aa.fit i fun z2 z _ _=> ?_));refine aa.store [] C fun A K w=> ?_;exact aa.some ⟨A,rfl,13,0,[],_,w,jo (Aq v z) (by simp)⟩
   obtain ⟨q,e,s',rfl,g⟩:=f;rw [aP e];refine j _ t l _ s' (by omega) h g ?_;simp only [bE,bz,aS];omega
  .rename_i hb;cases h;have f:aa (qW (.mp p 0) c ([],s)) (fun q=> ∃s',q= .inr (0,[],s')/\Nv PP st0 s' p L x d r a b acc):=by
    simp only [qW,ha,ae];refine aa.cI false w fun s1 w=> ?_;rw [Xi hb];exact aa.step (ai _ _) (aa.some ⟨s1,rfl,k,tk,tx,y,w,hnd⟩)
   obtain ⟨q,e,s',rfl,g⟩:=f;exact ⟨_,aF e,s',rfl,g,by omega⟩
theorem JZ {n:Nat} (ih: ∀m,m<=n->IH m) (hn:n<=10000000):rC 156 (fun _=>[]) .neg (n+1):=by
 intro st p L x d r t r' hp hd h;simp only [P] at h;refine aa.wide (aa.step (MO _ _) ?_);unfold Sr;refine aa.alloc (Wd.begin hp) fun s1 _ w=> ?_;refine aa.is [[45],[45,46]] (by simp) w fun s2 w=> ?_;split at h
 .rename_i hb;rw [hb];refine aa.step (ai _ _) ?_;refine aa.take w fun k tk tx y s hnd f w=> ?_;refine aa.alloc w fun B _ w=>aa.two hnd ?_;refine aa.store [] w fun A C w=> ?_;refine aa.fq (WS) w ?_;have H:=bS r;split at h
  .rename_i hd;subst hd;cases h;refine aa.node w (pU _ _ w.pz) rfl rfl fun k2 l o D E a v g=> ?_;have i:=w.lg g (WS) hnd (by omega);refine aa.step (gP (by rw [i];rfl) _) ?_;refine aa.two hnd (aa.two a (aa.fit hnd fun G b _ _=>aa.fit a fun z2 c _ _=> ?_));refine aa.Ek [_] (old:=z4) g rfl (jo (Aq b c) (by simp)) ?_;have:=pL kL (aL r);simp only [bE,bz,aS];omega
  .obtain ⟨⟨i,j⟩,e,h⟩:=bind_some h;obtain ⟨u,rfl⟩:=cO _ _ _ _ _ _ e rfl;cases h;have z:=dX hn e rfl;refine aa.node w (uO (F:=156) (args:=[.mp p 0]) _ w.pz (by omega) rfl rfl (fun _ _=>rfl) fun s _ hp=>(ih n (WW _)).neg s p L x (d+1) _ u j hp (by omega) e) rfl rfl fun k2 l o D E a v g=> ?_;have i:=w.lg g (WS) hnd (by omega);refine aa.step (gP (by rw [i];rfl) _) ?_;refine aa.two hnd (aa.two a (aa.fit hnd fun G b _ _=>aa.fit a fun z2 c _ _=> ?_));refine aa.Ek [_] (old:=z4) g rfl (jo (Aq b c) (by simp)) ?_;simp only [bE,bz,aS];omega
 .rename_i hb;rw [Xi hb];refine aa.step (ao _ _) ?_;obtain ⟨⟨i,j⟩,e,h⟩:=bind_some h;obtain ⟨u,rfl⟩:=cO _ _ _ _ _ _ e rfl;have z:=dX hn e rfl;refine aa.node w ((ih n (WW _)).atom false _ p L x d r u j w.pz hd e) rfl rfl fun k tk tx y s hnd f w=> ?_;refine aa.alloc w fun B _ w=>aa.two hnd ?_;refine aa.store [] w fun A C w=> ?_;refine aa.bind (Ir hn (fun m hm=>ih m (by omega)) rfl hd n u t j r' A (WW _) h ⟨k,tk,tx,y,w,hnd⟩ (by omega)) ?_;rintro q ⟨I,rfl,hg,f⟩;exact aa.step (ae _) (hg.fin (by omega))
def JN:AV:= .sl 2 [.agg [.sl 1 [.str [124,124]] .shut,.bool false],.agg [.sl 1 [.str [38,38]] .shut,.bool false],.agg [.sl 1 [.str [61],.str [60,62],.str [60],.str [60,61],.str [62],.str [62,61]] .shut,.bool true],.agg [.sl 1 [.str [64],.str [94]] .shut,.bool false],
 .agg [.sl 1 [.str [58,58]] .shut,.bool false],.agg [.sl 1 [.str [43],.str [45],.str [43,46],.str [45,46]] .shut,.bool true],.agg [.sl 1 [.str [42],.str [47],.str [42,46],.str [47,46],.str [109,111,100]] .shut,.bool true]] .shut
theorem EC {β:Type} (st:St) (K:Kv β):bc (aV vE) 155 [] st K=K JN st q0:=aG st K rfl rfl rfl (aX rfl (MQ.trans rfl))
theorem HC {k:Nat} (hk:k<=6) {β:Type} (st:St) (K:AV->List Nat->Option β):bU 2 JN (k:Int) st K=K (.ip [.sl 1 ((opsOf k).map AV.str) .shut,.bool (Parse.leftOf k)]) []:=by
 match k,hk with
 | 0,_=>rfl
 | 1,_=>rfl
 | 2,_=>rfl
 | 3,_=>rfl
 | 4,_=>rfl
 | 5,_=>rfl
 | 6,_=>rfl
theorem K9 {n:Nat} (hn:n<=10000000) (ih: ∀m,m < n->IH m) {a b k:Nat} (hk:k<=6) {c:St} (ha:c.h=a) (hd:d<=64): ∀(m:Nat) (acc t:T) (r r':List aU) (s:St),m<=n->P m (.ops k acc) d r=some ([t],r')->Nv PP st0 s p L x d r a b acc->eP acc+m<=900000000000000->
  aa (aK (qY (.mp p 0) (k:Int) JN c) ([],s)) (fun q=> ∃s',q=(0,[],s')/\Nv PP st0 s' p L x d r' a b t/\eP t<=900000000000000):=by
 intro m
 induction m with
 | zero=>intro acc t r r' s _ h;cases h
 | succ m l=>
  intro acc t r r' s hm h hg hl;simp only [P] at h;obtain ⟨k1,tk,tx,y,w,hnd⟩:=hg;have hlen:(opsOf k).length<=1000:=by
   match k,hk with
   | 0,_=>simp [opsOf]
   | 1,_=>simp [opsOf]
   | 2,_=>simp [opsOf]
   | 3,_=>simp [opsOf]
   | 4,_=>simp [opsOf]
   | 5,_=>simp [opsOf]
   | 6,_=>simp [opsOf]
  split at h
  .rename_i hb;obtain ⟨⟨H,o⟩,v,h⟩:=bind_some h;obtain ⟨u,rfl⟩:=cO _ _ _ _ _ _ v rfl;have I:=dX (by omega:m<=10000000) v rfl;have J:=bS r;have g:aa (qY (.mp p 0) (k:Int) JN c ([],s)) (fun q=> ∃s',q= .inl ([],s')/\Nv PP st0 s' p L x d o a b (node 11 [acc,aJ r,u])):=by
    simp only [qY,ha,ae,HC hk,jv,bx,Xc,mS,bq,aj,ak];refine aa.is (opsOf k) hlen w fun s1 w=> ?_;rw [hb];refine aa.step (ao _ _) ?_;refine aa.take w fun U M N y' V f z w=> ?_;refine aa.alloc w fun W _ w=>aa.two f ?_;refine aa.store [] w fun A O w=> ?_;have e: ∀{β:Type} (K:bT->Option β),az (aW (Parse.leftOf k) (aN (IntKind.wrap .i64 ((k:Int)+1)) fun B=>some ([AV.int .i64 B],A)) (some ([AV.int .i64 (k:Int)],A))) K=K ([.int .i64 ((if Parse.leftOf k then k+1 else k:Nat):Int)],A):=by
     intro β K;cases Parse.leftOf k with
     | true=>
      rw [ao,aB,bm (by omega),if_pos rfl];rfl
     | false=>
      rw [ai,if_neg (by simp)];rfl
    refine aa.step (e _) ?_;simp only [ad,af,ae];refine aa.fq (a:=a) (WZ _ WS) w ?_;refine aa.fq (WS) w ?_;refine aa.node w ((ih m (by omega)).level _ (by split <;> omega) _ p L x d _ u o w.pz hd v) rfl rfl fun k2 Q R X Y j S C=> ?_;have H:=w.lg C (WS) f z;have a2:=w.lg C (a:=a) (WZ _ WS) hnd (by omega);refine aa.step (gP (by rw [H,a2];rfl) _) ?_;refine aa.two hnd (aa.two f (aa.two j (aa.fit hnd fun Z D _ _=>aa.fit f fun z2 E _ _=>aa.fit j fun z3 F _ _=> ?_)));refine aa.store [_] C fun G O w=> ?_;exact aa.some ⟨G,rfl,11,0,[],_,w.sub NI,jo (Ax D E F) (by simp)⟩
   obtain ⟨q,e,s',rfl,i⟩:=g;rw [aP e];refine l _ t o _ s' (by omega) h i ?_;simp only [bE,bz,aS];omega
  .rename_i hb;cases h;have g:aa (qY (.mp p 0) (k:Int) JN c ([],s)) (fun q=> ∃s',q= .inr (0,[],s')/\Nv PP st0 s' p L x d r a b acc):=by
    simp only [qY,ha,ae,HC hk,jv,bx,Xc,mS,bq,aj,ak];refine aa.is (opsOf k) hlen w fun s1 w=> ?_;rw [Xi hb];exact aa.step (ai _ _) (aa.some ⟨s1,rfl,k1,tk,tx,y,w,hnd⟩)
   obtain ⟨q,e,s',rfl,i⟩:=g;exact ⟨_,aF e,s',rfl,i,by omega⟩
theorem GH {n:Nat} (ih: ∀m,m<=n->IH m) (hn:n<=10000000) (k:Nat) (hk:k<=7):rC 145 (fun _=>[.int .i64 (k:Int)]) (.level k) (n+1):=by
 intro st p L x d r t r' hp hd h;simp only [P] at h;refine aa.wide (aa.step (NS _ _ _) ?_);unfold SU;refine aa.step (af _ _ _) (aa.alloc (Wd.begin hp) fun s1 _ w=> ?_);refine aa.step (EC _ _) ?_;refine aa.step (Mb _ _ _ _) ?_;split at h
 .rename_i e;subst e;refine aa.step (ao _ _) ?_;exact aa.node w ((ih n (WW _)).neg _ p L x d r t r' w.pz hd h) rfl rfl fun k tk tx y s hnd a w=>aa.res [] (old:=z4) w rfl hnd a
 .rename_i e;refine aa.step (cZ (c:=false) (WX.2 (show (k:Int)≠((7:Nat):Int) by omega)) _ _) (aa.step (ai _ _) ?_);rw [aB,bm (by omega)];obtain ⟨⟨j,f⟩,b,h⟩:=bind_some h;obtain ⟨u,rfl⟩:=cO _ _ _ _ _ _ b rfl;have g:=dX hn b rfl;refine aa.node w ((ih n (WW _)).level (k+1) (by omega) _ p L x d r u f w.pz hd b) rfl rfl fun k1 tk tx y s hnd a w=> ?_;refine aa.alloc w fun l _ w=>aa.two hnd ?_;refine aa.store [] w fun i o w=> ?_;refine aa.bind (K9 hn (fun m hm=>ih m (by omega)) (by omega:k<=6) rfl hd n u t f r' i (WW _) h ⟨k1,tk,tx,y,w,hnd⟩ (by omega)) ?_;rintro q ⟨v,rfl,hg,a⟩;exact aa.step (ae _) (hg.fin (by omega))
end
section
variable {β:Type} {Q:β->Prop} {PT:TypeId} {st0 st s:St} {p:Nat} {L:List aU} {x:AV} {d d':Nat} {r r':List aU} {l l1 l2:List Vr} {os:List (AV×List AV)} {t:T}
theorem Wd.made (w:Wd PT st0 st p L x d r l os) {es:List AV} {n:Nat} (hn:n=es.length) (hl:n<=1000000000):Wd PT st0 (st.add (.tok n ND)) p L x d r l ((.sl 4 es (.own st.h),es)::os):=by
 subst hn;have w':=w.quiet (ba.add st (.tok es.length ND) _);refine ⟨w'.pz,w'.k,w'.v,w'.nd,fun q a=> ?_,XZ.2 ⟨fun q a j hj b=> ?_,w'.od⟩,w.p0,w.ro0⟩
 .rcases Xb.1 a with rfl | a
  .refine ⟨⟨Yt w.ro,by show es.length<=9223372036854775807;omega,.inr (.inr ⟨st.h,rfl,St.dE,w.ro⟩)⟩,fun j hj=> ?_⟩;obtain ⟨_,_,e⟩:=hj;cases e;exact w.h
  .exact w'.o q a
 .obtain ⟨_,_,e⟩:=hj;cases e;have:=(F5 (w.o q a).1 b).1;omega
def Sv (PT:TypeId) (st0 s:St) (p:Nat) (L:List aU) (x:AV) (d:Nat) (r:List aU) (v:AV) (ts:List T):Prop:= ∃es,Wd PT st0 s p L x d r [] [(v,es)]/\bO ts es/\eQ ts<=1000000000000000
theorem Sv.app {v:AV} {ts:List T} (h:Sv PT st0 s p L x d r v ts) {F:FuncId} {args:List AV} (hc:NW PT F args s p L x d t r') (h1:vE.isLook F=false) (h2:(bL (args.map strip)&& !vE.full F)=false) (hl:ts.length<=100000000) {K:AV->St->Option β} (g: ∀v s,Sv PT st0 s p L x d r' v (ts++[t])->aa (K v s) Q):
  aa (bc (aV vE) F args s fun u s _=>wq u fun n1 a tx y=>ab y (ab y (aD y fun y=>ab y (aD y fun y=>cT 4 56 ND v [.agg [.int .u8 n1,.int .u8 a,.str tx,y]] s fun v s _=>K v s)))) Q:=by
 obtain ⟨es,w,hs,hd⟩:=h;refine aa.node w hc h1 h2 fun j b c y s hn e w'=> ?_;refine aa.two hn (aa.fit hn fun y' f h1 hf=>aa.one h1 (aa.step (hf _) (aa.app w' (by simp) (by rw [bO.len hs];simp;omega) fun v' s' k ho i=> ?_)));exact g v' s' ⟨_,i,bO.app hs (lU f),by rw [cq,br];omega⟩
theorem Sv.pz {v:AV} {ts:List T} (h:Sv PT st0 s p L x d r v ts):Pz PT s p L x d r:=by
 obtain ⟨es,w,hs,hd⟩:=h;exact w.pz
theorem Sv.cI {v:AV} {ts:List T} (pat:Bool) (h:Sv PP st0 s p L x d r v ts) {K:Bool->St->Fx->Option β} (g: ∀s',Sv PP st0 s' p L x d r v ts->aa (K (cI pat r) s' ⟨[],.all s s'⟩) Q):
  aa (bc (aV vE) 89 [.mp p 0,.int .u8 (rI pat:Int),.str (rG pat)] s fun v s a=>bJ v fun b=>K b s a) Q:=by
 obtain ⟨es,w,hs,hd⟩:=h;exact aa.cI pat w fun s' w'=>g s' ⟨es,w',hs,hd⟩
theorem Ey {n:Nat} (ih: ∀m,m < n->IH m) (hd:d<=64): ∀(m:Nat) (ts bs:List T) (r r':List aU) (v:AV) (s:St),m<=n->P m .params d r=some (bs,r')->Sv PP st0 s p L x d r v ts->ts.length+m<=100000000->
  aa (aK (vq (.mp p 0)) ([v],s)) (fun q=> ∃v' s',q=(0,[v'],s')/\Sv PP st0 s' p L x d r' v' (ts++bs)):=by
 intro m
 induction m with
 | zero=>intro ts bs r r' v s _ h;cases h
 | succ m c=>
  intro ts bs r r' v s hm h hg hl;simp only [P] at h;split at h
  .rename_i hb;obtain ⟨⟨k,f⟩,i,h⟩:=bind_some h;obtain ⟨u,rfl⟩:=cO _ _ _ _ _ _ i rfl;obtain ⟨⟨b1,r2⟩,j,h⟩:=bind_some h;cases h;have a:aa (vq (.mp p 0) ([v],s)) (fun q=> ∃v' s',q= .inl ([v'],s')/\Sv PP st0 s' p L x d f v' (ts++[u])):=by
    simp only [vq,ad,ae];refine hg.cI true fun s1 hg=> ?_;rw [hb];refine aa.step (ao _ _) ?_;exact hg.app ((ih m (by omega)).atom true _ p L x d r u f hg.pz hd i) rfl rfl (by omega) fun v' s' hg=>aa.some ⟨v',s',rfl,hg⟩
   obtain ⟨q,e,v',s',rfl,b⟩:=a;rw [aP e];refine (c _ b1 f _ v' s' (by omega) j b (by simp;omega)).mono ?_;rintro q ⟨v2,s2,rfl,g⟩;exact ⟨v2,s2,rfl,by simpa using g⟩
  .rename_i hb;cases h;have a:aa (vq (.mp p 0) ([v],s)) (fun q=> ∃s',q= .inr (0,[v],s')/\Sv PP st0 s' p L x d r v ts):=by
    simp only [vq,ad,ae];refine hg.cI true fun s1 hg=> ?_;rw [Xi hb];exact aa.step (ai _ _) (aa.some ⟨s1,rfl,hg⟩)
   obtain ⟨q,e,s',rfl,b⟩:=a;exact ⟨_,aF e,v,s',rfl,by simpa using b⟩
theorem BM {n:Nat} (ih: ∀m,m<=n->IH m) (hn:n<=10000000):LA (n+1):=by
 intro st p L x d r ts r' hp hd h;simp only [P] at h;refine aa.wide (aa.step (P0 _ _) ?_);unfold VT;refine aa.I6 (Wd.begin hp) fun s1 w=> ?_;have U:=bS r;refine aa.bind (R:=fun c=> ∃v s,c=([v],s)/\Sv PP st s p L x d (if bY dn r then aL r else r) v (if bY dn r then [aJ r] else [])) ?_ ?_
 .cases hb:bY dn r with
  | true=>
   refine aa.step (cZ (c:=true) hb _ _) (aa.step (ao _ _) ?_);refine aa.take w fun k tk tx y s hnd i w=> ?_;refine aa.two hnd (aa.fit hnd fun G e h1 hf=>aa.one h1 (aa.step (hf _) ?_));refine aa.some ⟨_,_,rfl,_,w.made rfl (by simp),lU e, ?_⟩;rw [if_pos rfl,br];exact i
  | false=>
   refine aa.step (cZ (c:=false) hb _ _) (aa.step (ai _ _) ?_);exact aa.some ⟨_,_,rfl,[],w.ay,bO.nil,by simp [aS]⟩
 generalize f:(if bY dn r then [aJ r] else [])=rc at h;have H:rc.length<=1:=by rw [<- f];split <;> simp
 generalize (if bY dn r then aL r else r)=r0 at h;rintro c ⟨v,s,rfl,hg⟩;simp only [ad,ae];obtain ⟨es,w,hs,z⟩:=hg;refine aa.next w fun s2 I w=> ?_;refine aa.gv (WS) w rfl (aa.step (af _ _ _) ?_);have w:=w.sub (X0 _);have A: ∃xs a es r2,P n .expr d (bg sj a)=some ([es],r2)/\ts=rc++xs++[cN sj a]++[es]/\r'=r2/\xs.length<=n+1/\
   (if (nx r0).1=4 then ∃ps,P n .params d (aL r0)=some (ps,a)/\xs=aJ r0::ps else P n (.atom true) d r0=some (xs,a)):=by
  split at h
  .rename_i h4;obtain ⟨⟨xs,a⟩,g,h⟩:=bind_some h;obtain ⟨⟨ps,J⟩,t,g⟩:=bind_some g;cases g;obtain ⟨⟨es,r2⟩,b,h⟩:=bind_some h;obtain ⟨u,rfl⟩:=cO _ _ _ _ _ _ b rfl;cases h;have:=mi _ _ _ _ _ t;exact ⟨aJ r0::ps,J,u,_,b,rfl,rfl,by simpa using this,by rw [if_pos h4];exact ⟨ps,t,rfl⟩⟩
  .rename_i h4;obtain ⟨⟨xs,a⟩,g,h⟩:=bind_some h;obtain ⟨⟨es,r2⟩,b,h⟩:=bind_some h;obtain ⟨u,rfl⟩:=cO _ _ _ _ _ _ b rfl;cases h;have:=mC g rfl;exact ⟨xs,a,u,_,b,rfl,rfl,by omega,by rw [if_neg h4];exact g⟩
 clear h;obtain ⟨xs,a,u,r2,b,rfl,rfl,K,hx⟩:=A;have hg:Sv PP st I p L x d r0 v rc:=⟨es,w,f ▸ hs,f ▸ z⟩;refine aa.bind (R:=fun c=> ∃v s,c=([v],s)/\Sv PP st s p L x d a v (rc++xs)) ?_ ?_
 .by_cases h4:(nx r0).1=4
  .rw [if_pos h4] at hx;obtain ⟨ps,t,rfl⟩:=hx;refine aa.step (cZ (c:=true) (by rw [h4];rfl) _ _) (aa.step (ao _ _) ?_);refine hg.app (iT hg.pz) rfl rfl (by omega) fun v' s' hg=> ?_;refine aa.bind (Ey (fun m hm=>ih m (by omega)) hd n _ ps _ a v' s' (WW _) t hg (by simp;omega)) ?_;rintro q ⟨v2,F,rfl,hg⟩;simp only [ad,ae];exact aa.some ⟨v2,F,rfl,by simpa using hg⟩
  .rw [if_neg h4] at hx;obtain ⟨M,rfl⟩:=cO _ _ _ _ _ _ hx rfl;refine aa.step (cZ (c:=false) (WX.2 (by omega)) _ _) (aa.step (ai _ _) ?_);exact hg.app ((ih n (WW _)).atom true _ p L x d r0 M a hg.pz hd hx) rfl rfl (by omega) fun v' s' hg=>aa.some ⟨v',s',rfl,hg⟩
 .rintro c ⟨v',F,rfl,N,w,j,B⟩;simp only [ad,ae];have O:=dX hn b rfl;refine aa.zi w fun k tk tx y V hnd i w=> ?_;refine aa.node w ((ih n (WW _)).expr _ p L x d _ u r' w.pz hd b) rfl rfl fun k2 Q S W X l T w=> ?_;refine aa.two hnd (aa.two l (aa.fit hnd fun G e h1 C=>aa.fit l fun z2 D h2 E=>aa.one h1 (aa.step (C _) (aa.one h2 (aa.step (E _) ?_)))));refine aa.app w (by simp) (by rw [bO.len j];simp;omega) fun v5 Y Z ho w=> ?_;have hw:=w.o _ WS;refine aa.some ⟨_,hw.1,hw.2, ?_, ?_,w.pz,w.k⟩
  .rw [W6 (rc++xs)];exact bO.app j (Aq e D)
  .have:=fh sj a;simp only [cq,br] at B ⊢;omega
end
section
variable {β:Type} {Q:β->Prop} {PT:TypeId} {st0 st s:St} {p:Nat} {L:List aU} {x:AV} {d d':Nat} {r r':List aU} {l l1 l2:List Vr} {os:List (AV×List AV)} {t:T}
theorem M9 {t:T} {e:AV} (h:iz t e) {β:Type} (K:AV->Option β):Jr true e K=K e:=by
 cases t with
 | mk k tk tx l=>
  simp only [iz] at h;obtain ⟨x,es,rfl,hx,_⟩:=h;simp only [Jr,aE,xj,Je,I9,hx.ab,KQ,KJ,KX,hx.aD]
theorem Io {t:T} {e:AV} (h:iz t e):e.cells.length=4:=by
 cases t with
 | mk k tk tx l=>
  simp only [iz] at h;obtain ⟨x,es,rfl,hx,_⟩:=h;rfl
theorem bO.mem: ∀{l:List T} {es:List AV},bO l es-> ∀e∈es,∃t∈l,iz t e
 | [],_,h,e,he=>by simp only [bO] at h;subst h;cases he
 | t::l,_,h,e,he=>by
  simp only [bO] at h;obtain ⟨a,r,rfl,h1,h2⟩:=h;rcases Xb.1 he with rfl | he
  .exact ⟨t,WS,h1⟩
  .obtain ⟨u,hu,hi⟩:=bO.mem h2 e he;exact ⟨u,WZ _ hu,hi⟩
theorem G8 {l:List T} {es:List AV} (h:bO l es) {β:Type} (K:List AV->Option β):pS true es K=K es:=Dj (fun v hv K=>by
 obtain ⟨t,_,hi⟩:=h.mem v hv;exact M9 hi K) K
theorem DH {l:List T} {es:List AV} (h:bO l es):tg 4 es=true:=Gi fun v hv=>by
 obtain ⟨t,_,hi⟩:=h.mem v hv;exact Io hi
theorem K1 (u:AV) (a o:Nat) (F:FuncId):(bL ([u,AV.mp a o].map strip)&& !vE.full F)=false:=by
 show (bL [strip u,.mp a o]&& _)=false;simp only [bf];show (_&&(false&&true)&& _)=false;simp
theorem Qs (l1:List Vr) {a:Nat} {k tk:Int} {tx:List UInt8} {v:AV} {es:List AV} {ts us:List T} {u:AV} {fs:List AV}
  (w:Wd PT st0 st p L x d r (l1++(a,ND,[.int .u8 k,.int .u8 tk,.str tx,v])::l2) ((v,es)::os)) (e:bO ts es) (hu: ∀{γ:Type} (K:List AV->Option γ),mX u K=K fs) (c:bO us fs) (hne:us≠[]) (hl:ts.length+us.length<=100000000):
  aa ((aV vE).wide 143 [u,.mp a 0] st) (fun b=>b.1= .tup []/\ ∃v',Wd PT st0 b.2 p L x d r (l1++(a,ND,[.int .u8 k,.int .u8 tk,.str tx,v'])::l2) ((v',es++fs)::os)):=by
 have hm:(a,ND,[AV.int .u8 k,.int .u8 tk,.str tx,v])∈l1++(a,ND,[AV.int .u8 k,.int .u8 tk,.str tx,v])::l2:=List.mem_append_right _ WS;have f:=bO.len c;have g:=bO.len e;have hfn:fs≠[]:=by
  rintro rfl;cases us with
  | nil=>exact hne rfl
  | cons _ _=>cases f
 refine aa.wide (aa.step (M6 _ _ _) ?_);unfold Tj;refine aa.step (ct _ _ _ _) ?_;refine aa.gv hm w rfl ?_;refine aa.step (hu _) (aa.step (G8 c _) (aa.step (gP (DH c) _) ?_));refine aa.app w hfn (by omega) fun v' s j ho w=> ?_;refine aa.step (ct _ _ _ _) (aa.one ho (aa.one ho ?_));exact aa.jL l1 w (WU rfl) fun l h i=>aa.some ⟨rfl,v',i⟩
theorem Gv.add {a b k:Nat} {ts us:List T} {u:AV} {fs:List AV} (h:Gv PT st0 s p L x d r a b k ts) (hu: ∀{γ:Type} (K:List AV->Option γ),mX u K=K fs) (c:bO us fs) (hne:us≠[]) (hd:eQ us<=1000000000000000) (hl:ts.length+us.length<=100000000) {K:Kv β} (g: ∀s e,Gv PT st0 s p L x d r a b k (ts++us)->aa (K (.tup []) s e) Q):
  aa (bc (aV vE) 143 [u,.mp a 0] s K) Q:=by
 obtain ⟨v,es,w,hs,f⟩:=h;refine aa.gm (Qs [] w hs hu c hne hl) rfl (K1 u a 0 _) fun v2 s2 h=> ?_;obtain ⟨rfl,v',w'⟩:=h;exact g s2 _ ⟨v',_,w',bO.app hs c,by rw [cq];omega⟩
theorem Gv.oW {a b k:Nat} {ts:List T} (h:Gv PT st0 s p L x d r a b k ts) {F:FuncId} {args:List AV} (hc:NW PT F args s p L x d t r') (h1:vE.isLook F=false) (h2:(bL (args.map strip)&& !vE.full F)=false) (hl:ts.length+1<=100000000) {K:St->Option β} (g: ∀s,Gv PT st0 s p L x d r' a b k (ts++[t])->aa (K s) Q):
  aa (bc (aV vE) F args s fun u s _=>wq u fun n1 e tx y=>ab y (ab y (aD y fun y=>bc (aV vE) 143 [.sl 4 [.agg [.int .u8 n1,.int .u8 e,.str tx,y]] .shut,.mp a 0] s fun _ s _=>K s))) Q:=by
 obtain ⟨v,es,w,hs,hd⟩:=h;refine aa.node w hc h1 h2 fun l f i y s hn c w'=> ?_;refine aa.two hn (aa.fit hn fun y' j h1 hf=> ?_);have hg:Gv PT st0 s p L x d r' a b k ts:=⟨v,es,w',hs,hd⟩;exact hg.add (fun K=>rfl) (lU j) (by simp) (by rw [br];exact c) hl fun s m hg=>g s hg
theorem Gv.cI {a b k:Nat} {ts:List T} (pat:Bool) (h:Gv PP st0 s p L x d r a b k ts) {K:Bool->St->Fx->Option β} (g: ∀s',Gv PP st0 s' p L x d r a b k ts->aa (K (cI pat r) s' ⟨[],.all s s'⟩) Q):
  aa (bc (aV vE) 89 [.mp p 0,.int .u8 (rI pat:Int),.str (rG pat)] s fun v s c=>bJ v fun b=>K b s c) Q:=by
 obtain ⟨v,es,w,hs,hd⟩:=h;exact aa.cI pat w fun s' w'=>g s' ⟨v,es,w',hs,hd⟩
theorem BG {n:Nat} (ih: ∀m,m < n->IH m) {a b k:Nat} {c:St} (ha:c.h=a) (hd:d<=64): ∀(m:Nat) (ts bs:List T) (r r':List aU) (s:St),m<=n->P m .params d r=some (bs,r')->Gv PP st0 s p L x d r a b k ts->ts.length+m<=100000000->
  aa (aK (qz (.mp p 0) c) ([],s)) (fun q=> ∃s',q=(0,[],s')/\Gv PP st0 s' p L x d r' a b k (ts++bs)):=by
 intro m
 induction m with
 | zero=>intro ts bs r r' s _ h;cases h
 | succ m i=>
  intro ts bs r r' s hm h hg hl;simp only [P] at h;split at h
  .rename_i hb;obtain ⟨⟨v,j⟩,o,h⟩:=bind_some h;obtain ⟨u,rfl⟩:=cO _ _ _ _ _ _ o rfl;obtain ⟨⟨b1,r2⟩,t,h⟩:=bind_some h;cases h;have f:aa (qz (.mp p 0) c ([],s)) (fun q=> ∃s',q= .inl ([],s')/\Gv PP st0 s' p L x d j a b k (ts++[u])):=by
    simp only [qz,ae,ha];refine hg.cI true fun s1 hg=> ?_;rw [hb];refine aa.step (ao _ _) ?_;exact hg.oW ((ih m (by omega)).atom true _ p L x d r u j hg.pz hd o) rfl rfl (by omega) fun s' hg=>aa.some ⟨s',rfl,hg⟩
   obtain ⟨q,e,s',rfl,g⟩:=f;rw [aP e];refine (i _ b1 j _ s' (by omega) t g (by simp;omega)).mono ?_;rintro q ⟨s2,rfl,l⟩;exact ⟨s2,rfl,by simpa using l⟩
  .rename_i hb;cases h;have f:aa (qz (.mp p 0) c ([],s)) (fun q=> ∃s',q= .inr (0,[],s')/\Gv PP st0 s' p L x d r a b k ts):=by
    simp only [qz,ae,ha];refine hg.cI true fun s1 hg=> ?_;rw [Xi hb];exact aa.step (ai _ _) (aa.some ⟨s1,rfl,hg⟩)
   obtain ⟨q,e,s',rfl,g⟩:=f;exact ⟨_,aF e,s',rfl,by simpa using g⟩
theorem Is {n:Nat} (ih: ∀m,m < n->IH m) {a b k:Nat} {f:St} (ha:f.h=a) (hd:d<=64): ∀(m:Nat) (ts bs:List T) (r r':List aU) (s:St),m<=n->P m .arms d r=some (bs,r')->Gv PP st0 s p L x d r a b k ts->ts.length+2 * m<=100000000->
  aa (aK (qF (.mp p 0) f) ([],s)) (fun q=> ∃s',q=(0,[],s')/\Gv PP st0 s' p L x d r' a b k (ts++bs)):=by
 intro m
 induction m with
 | zero=>intro ts bs r r' s _ h;cases h
 | succ m j=>
  intro ts bs r r' s hm h hg hl;simp only [P] at h;split at h
  .rename_i hb;obtain ⟨⟨w,l⟩,t,h⟩:=bind_some h;obtain ⟨u,rfl⟩:=cO _ _ _ _ _ _ t rfl;obtain ⟨⟨b1,r2⟩,v,h⟩:=bind_some h;cases h;have g:aa (qF (.mp p 0) f ([],s)) (fun q=> ∃s',q= .inl ([],s')/\Gv PP st0 s' p L x d l a b k (ts++[aJ r]++[u])):=by
    simp only [qF,ae,ha];refine hg.is fun s1 hg=> ?_;refine aa.step (cZ (c:=true) hb _ _) (aa.step (ao _ _) ?_);refine hg.oW (iT hg.pz) rfl rfl (by omega) fun s' hg=> ?_;exact hg.oW ((ih m (by omega)).arm _ p L x d _ u l hg.pz hd t) rfl rfl (by simp;omega) fun s' hg=>aa.some ⟨s',rfl,hg⟩
   obtain ⟨q,e,s',rfl,i⟩:=g;rw [aP e];refine (j _ b1 l _ s' (by omega) v i (by simp;omega)).mono ?_;rintro q ⟨s2,rfl,o⟩;exact ⟨s2,rfl,by simpa using o⟩
  .rename_i hb;cases h;have g:aa (qF (.mp p 0) f ([],s)) (fun q=> ∃s',q= .inr (0,[],s')/\Gv PP st0 s' p L x d r a b k ts):=by
    simp only [qF,ae,ha];refine hg.is fun s1 hg=> ?_;exact aa.step (cZ (c:=false) (Xi hb) _ _) (aa.step (ai _ _) (aa.some ⟨s1,rfl,hg⟩))
   obtain ⟨q,e,s',rfl,i⟩:=g;exact ⟨_,aF e,s',rfl,by simpa using i⟩
def WA (n:Nat) (st s:St) (p:Nat) (L:List aU) (x:AV) (d a b:Nat) (t:T) (r':List aU):Prop:= ∃k ts e c,Gv PP st s p L x d c a b k ts/\P n .expr d c=some ([e],r')/\t=node k (ts++[e])/\ts.length<=50000000
def WR (M:St->Prop) (Q:AV×St->Prop):Sum bT (AV×St)->Prop
 | .inl q=> ∃s,q=([],s)/\M s
 | .inr b=>Q b
def WL (M:St->Prop) (Q:AV×St->Prop):Sum bT (Sum bT (AV×St))->Prop
 | .inl q=> ∃s,q=([],s)/\M s
 | .inr b=>WR M Q b
theorem Gt {n:Nat} (ih: ∀m,m<=n->IH m) (hn:n<=10000000):rC 122 (fun _=>[]) .whole (n+1):=by
 intro st p L x d r t r' hp hd h;have o:eP t<=200000000000000:=by
  have:=Hw (n+1) .whole d r [t] r' h;rw [show dz jI.whole=[] from rfl,aS,br] at this;have X:(n+1) * (n+1)<=10000001 * 10000001:=Yy (by omega) (by omega);omega
 simp only [P] at h;refine aa.wide (aa.step (Og _ _) ?_);unfold Su;refine aa.alloc (Wd.begin hp) fun s0 h0 w=> ?_;refine aa.alloc w fun s1 _ w=> ?_;refine aa.I6 w fun s2 w=> ?_;have a:=ih n (WW _);have S:=bS r;refine aa.bind (R:=WR (fun s=>WA n st s p L x d s0.h st.h t r') (NQ PP st p L x d t r')) ?_ ?_
 .split at h
  .rename_i hb;obtain ⟨⟨bs,r2⟩,i,h⟩:=bind_some h;obtain ⟨⟨es,C⟩,j,h⟩:=bind_some h;obtain ⟨e,rfl⟩:=cO _ _ _ _ _ _ j rfl;cases h;refine aa.step (cZ (c:=true) hb _ _) (aa.step (ao _ _) ?_);refine aa.jL [] w (WU rfl) fun O _ w=> ?_;have hg:Gv PP st O p L x d r s0.h st.h 6 []:=⟨_,_,w.ay,bO.nil,by simp [aS]⟩;refine hg.oW (iT hg.pz) rfl rfl (by simp) fun g hg=> ?_;refine aa.gm (a.binding g p L x d _ bs r2 hg.pz hd i) rfl rfl fun v A hv=> ?_;obtain ⟨es,ho,_,G,H,I,J⟩:=hv;have z:=pO _ _ _ _ _ i;have hg:Gv PP st A p L x d r2 s0.h st.h 6 ([]++[aJ r]):=by
    obtain ⟨v,es,w,hs,hd⟩:=hg;exact ⟨v,es,w.move J I,hs,hd⟩
   refine hg.add (fun K=>(CA.own ho).elems K) G z.2 H (by simp;omega) fun M _ hg=> ?_;refine hg.oW (oY hg.pz _) rfl rfl (by simp;omega) fun B hg=> ?_;exact aa.some ⟨B,rfl,6,_,e,_,hg,j,by simp [W6];rfl,by simp;omega⟩
  rename_i hb;refine aa.step (cZ (c:=false) (Xi hb) _ _) (aa.step (ai _ _) ?_);refine aa.I6 w fun O w=> ?_;refine aa.bind (R:=WL (fun s=>WA n st s p L x d s0.h st.h t r') (NQ PP st p L x d t r')) ?_ ?_
  .split at h
   .rename_i hb;obtain ⟨⟨Q,f⟩,i,h⟩:=bind_some h;obtain ⟨u,rfl⟩:=cO _ _ _ _ _ _ i rfl;obtain ⟨⟨ps,r2⟩,j,h⟩:=bind_some h;obtain ⟨⟨es,C⟩,l,h⟩:=bind_some h;obtain ⟨e,rfl⟩:=cO _ _ _ _ _ _ l rfl;cases h;have T:=mi _ _ _ _ _ j;refine aa.step (cZ (c:=true) hb _ _) (aa.step (ao _ _) ?_);refine aa.jL [] w (WU rfl) fun g _ w=> ?_;have hg:Gv PP st g p L x d r s0.h st.h 7 []:=⟨_,_,w.ay,bO.nil,by simp [aS]⟩;refine hg.oW (iT hg.pz) rfl rfl (by simp) fun g hg=> ?_;refine hg.oW (a.atom true _ p L x d _ u f hg.pz hd i) rfl rfl (by simp) fun A hg=> ?_;refine aa.bind (BG (fun m hm=>ih m (by omega)) rfl hd n _ ps _ r2 A (WW _) j hg (by simp;omega)) ?_;rintro q ⟨M,rfl,hg⟩;refine aa.step (ae _) ?_;refine hg.oW (oY hg.pz _) rfl rfl (by simp;omega) fun B hg=> ?_;exact aa.some ⟨B,rfl,7,_,e,_,hg,l,by simp [W6];rfl,by simp;omega⟩
   rename_i hb;refine aa.step (cZ (c:=false) (Xi hb) _ _) (aa.step (ai _ _) ?_);refine aa.I6 w fun g w=> ?_;split at h
   .rename_i hb;obtain ⟨⟨Q,f⟩,i,h⟩:=bind_some h;obtain ⟨u,rfl⟩:=cO _ _ _ _ _ _ i rfl;obtain ⟨⟨b1,r2⟩,j,h⟩:=bind_some h;obtain ⟨v,rfl⟩:=cO _ _ _ _ _ _ j rfl;obtain ⟨⟨es,C⟩,l,h⟩:=bind_some h;obtain ⟨e,rfl⟩:=cO _ _ _ _ _ _ l rfl;cases h;refine aa.step (cZ (c:=true) hb _ _) (aa.step (ao _ _) ?_);refine aa.jL [] w (WU rfl) fun g _ w=> ?_;have hg:Gv PP st g p L x d r s0.h st.h 8 []:=⟨_,_,w.ay,bO.nil,by simp [aS]⟩;refine hg.oW (iT hg.pz) rfl rfl (by simp) fun g hg=> ?_;refine hg.oW (a.expr _ p L x d _ u f hg.pz hd i) rfl rfl (by simp) fun A hg=> ?_;refine hg.oW (oY hg.pz _) rfl rfl (by simp) fun M hg=> ?_;refine hg.oW (a.expr _ p L x d _ v r2 hg.pz hd j) rfl rfl (by simp) fun B hg=> ?_;refine hg.oW (oY hg.pz _) rfl rfl (by simp) fun F hg=> ?_;exact aa.some ⟨F,rfl,8,_,e,_,hg,l,rfl,by simp⟩
   rename_i hb;refine aa.step (cZ (c:=false) (Xi hb) _ _) (aa.step (ai _ _) ?_);refine aa.I6 w fun A w=> ?_;split at h
   .rename_i hb;obtain ⟨⟨Q,f⟩,i,h⟩:=bind_some h;obtain ⟨u,rfl⟩:=cO _ _ _ _ _ _ i rfl;obtain ⟨⟨b1,C⟩,j,h⟩:=bind_some h;obtain ⟨v,rfl⟩:=cO _ _ _ _ _ _ j rfl;obtain ⟨⟨cs,Y⟩,l,h⟩:=bind_some h;cases h;have U:=DF _ _ _ _ _ l;refine aa.step (cZ (c:=true) hb _ _) (aa.step (ao _ _) ?_);refine aa.jL [] w (WU rfl) fun g _ w=> ?_;have hg:Gv PP st g p L x d r s0.h st.h 9 []:=⟨_,_,w.ay,bO.nil,by simp [aS]⟩;refine hg.oW (iT hg.pz) rfl rfl (by simp) fun g hg=> ?_;refine hg.oW (a.expr _ p L x d _ u f hg.pz hd i) rfl rfl (by simp) fun A hg=> ?_;refine hg.oW (oY hg.pz _) rfl rfl (by simp) fun M hg=> ?_;refine hg.is fun B hg=> ?_;refine aa.bind (R:=fun c=> ∃s,c=([],s)/\Gv PP st s p L x d (if bY gO (bg bD f)=true then aL (bg bD f) else bg bD f) s0.h st.h 9 ([aJ r]++[u]++[cN bD f]++if bY gO (bg bD f)=true then [aJ (bg bD f)] else [])) ?_ ?_
    .cases D:bY gO (bg bD f) with
     | true=>
      refine aa.step (cZ (c:=true) D _ _) (aa.step (ao _ _) ?_);exact hg.oW (iT hg.pz) rfl rfl (by simp) fun F hg=>aa.some ⟨F,rfl,hg⟩
     | false=>
      refine aa.step (cZ (c:=false) D _ _) (aa.step (ai _ _) ?_);exact aa.some ⟨B,rfl,by rw [if_neg (by simp),if_neg (by simp),Xe];exact hg⟩
    .rintro c ⟨F,rfl,hg⟩;have z:(if bY gO (bg bD f)=true then [aJ (bg bD f)] else []).length<=1:=by split <;> simp
     generalize (if bY gO (bg bD f)=true then [aJ (bg bD f)] else [])=bar at z hg o ⊢;refine aa.step (ae _) ?_;refine hg.oW (a.arm _ p L x d _ v C hg.pz hd j) rfl rfl (by simp;omega) fun V hg=> ?_;refine aa.bind (Is (fun m hm=>ih m (by omega)) rfl hd n _ cs _ _ V (WW _) l hg (by simp;omega)) ?_;rintro q ⟨W,rfl,hg⟩;refine aa.step (ae _) ?_;refine hg.nd.load fun k tk tx y w hnd=>aa.two hnd ?_;refine aa.store [_] w fun N _ w=> ?_;refine aa.bind (R:=fun c=> ∃b,c= .inr b/\NQ PP st p L x d _ _ b) (aa.bind (R:=NQ PP st p L x d (node 9 ([aJ r]++[u]++[cN bD f]++bar++[v]++cs)) _) (aa.fq (WZ _ WS) w (aa.some ⟨hnd.vn,Xs o (by omega),w.pz,w.k⟩)) fun b hb=>aa.some ⟨b,rfl,hb⟩) ?_;rintro c ⟨b,rfl,hb⟩;exact aa.some hb
   .rename_i hb;refine aa.step (cZ (c:=false) (Xi hb) _ _) (aa.step (ai _ _) ?_);refine aa.node w (a.level 0 (by omega) _ p L x d r t r' w.pz hd h) rfl rfl fun k tk tx y s hnd E w=>aa.two hnd ?_;refine aa.store [_] w fun N _ w=> ?_;refine aa.bind (R:=fun c=> ∃b,c= .inr b/\NQ PP st p L x d t r' b) (aa.bind (R:=NQ PP st p L x d t r') (aa.fq (WZ _ WS) w (aa.some ⟨hnd.vn,E,w.pz,w.k⟩)) fun b hb=>aa.some ⟨b,rfl,hb⟩) ?_;rintro c ⟨b,rfl,hb⟩;exact aa.some hb
  .intro c hc
   match c,hc with
   | .inl q,hc=>
    obtain ⟨s,rfl,hm⟩:=hc;exact aa.some ⟨s,rfl,hm⟩
   | .inr b,hc=>exact aa.some hc
 .intro c hc
  match c,hc with
  | .inl q,hc=>
   obtain ⟨s,rfl,k,ts,e,C,hg,he,rfl,hl⟩:=hc;refine aa.step (cF _ _) (aa.step (ae _) ?_);refine hg.oW (a.expr _ p L x d _ e r' hg.pz hd he) rfl rfl (by omega) fun g hg=> ?_;exact hg.nd.fin (Xs o (by omega))
  | .inr b,hc=>exact aa.some hc
theorem Qv: ∀n,n<=10000000->IH n:=by
 intro n
 induction n using Nat.strongRecOn with
 | _ n ih=>
  intro hn;cases n with
  | zero=>
   refine ⟨?_, ?_,fun k _=> ?_, ?_,fun pat=> ?_,fun list pat=> ?_, ?_, ?_, ?_⟩
   all_goals
    intro st p L x d r t r' _ _ h;cases h
  | succ n=>
   have b: ∀m,m<=n->IH m:=fun m hm=>ih m (by omega) (by omega);have i:=b n (WW _);have a:n<=10000000:=by omega
   exact ⟨I3 i,Gt b a,fun k hk=>GH b a k hk,JZ b a,fun pat=>I2 i pat,fun list pat=>EZ b a list pat,BH i a,KS i a,BM b a⟩
end
section
variable {β:Type} {Q:β->Prop} {PT:TypeId} {st0 st s:St} {p:Nat} {L:List aU} {x:AV} {d d':Nat} {r r':List aU} {l l1 l2:List Vr} {os:List (AV×List AV)} {t:T}
abbrev TO:TypeId:=24
theorem _root_.Go.VM.aa.renew {tk:Nat} {a:Int} {b:List UInt8} (w:Wd PP st0 st p L x d r l os) (hm:(tk,TO,[.int .u8 a,.str b])∈l) {K:St->Option β} (g: ∀s',Wd PP st0 s' p L x d r ((st.h,TO,[.int .u8 ((nx r).1:Int),.str (nx r).2])::l) os->aa (K s') Q):
  aa (al 2 true (.mp tk 0) st fun v _=>uk v fun cs=>bj cs fun u cs=>bk .u8 u fun n=>bj cs fun u cs=>dW u fun tx=>bC cs (bh (St.add st (.cells TO [.int .u8 0,.str []])) fun s1=>aM (aV vE) 2 (.mp (St.h st) 0) (.agg [.int .u8 n,.str tx]) [.int .u8 n,.str tx] s1 fun _ s2 _=>
   bc (aV vE) 63 [.mp p 0] s2 fun v s _=>gx v fun vs=>cE vs 0 fun u=>uk u fun cs=>bj cs fun a cs=>bk .u8 a fun n=>bj cs fun b cs=>dW b fun tx=>bC cs (gx v fun vs=>cE vs 1 fun u=>bk .i64 u fun _=>aM (aV vE) 2 (.mp (St.h st) 0) (.agg [.int .u8 n,.str tx]) [.int .u8 n,.str tx] s fun _ s' _=>K s'))) Q:=by
 refine aa.DJ hm w ?_;simp only [aE,ad,af,ax,ae];refine aa.alloc w fun s1 _ f=>aa.store [] f fun s2 _ c=> ?_;obtain ⟨i,h,rfl⟩:=c.pz;obtain ⟨o,k,e⟩:=nG h;refine aa.step (e _) ?_;simp only [cf,bw,bG,aE,ad,af,ax,ae];exact aa.store [] (c.quiet k) fun j _ m=>g j m
theorem qe {a b:Nat} (h:a≠b):((a:Int) != (b:Int))=true:=by
 rw [bne,WX.2 (show (a:Int)≠(b:Int) by omega)];rfl
theorem IB {f:bT} {kc:Nat} (hc:f.2.h=kc): ∀(m:Nat) (r:List aU) (tk:Nat) (ts:List T) (es:List AV) (v:AV) (s:St) (os:List (AV×List AV)),
  Wd PP st0 s p L x d r ([(tk,TO,[.int .u8 ((nx r).1:Int),.str (nx r).2])]++(kc,ND,[.int .u8 3,.int .u8 0,.str [],v])::l2) ((v,es)::os)->bO ts es->eQ ts<=2->ts.length+m<=100000000->r.length<=m->
  aa (aK (qf (.mp p 0) f) ([.mp tk 0],s)) (fun q=> ∃s' v' es',q=(0,[],s')/\Wd PP st0 s' p L x d (skip m r).2 ((kc,ND,[.int .u8 3,.int .u8 0,.str [],v'])::l2) ((v',es')::os)/\bO (ts++(skip m r).1) es'/\eQ (ts++(skip m r).1)<=2):=by
 intro m
 induction m with
 | zero=>
  intro r tk ts es v s os w j l hl hr;obtain rfl:r=[]:=XF (by omega);simp only [skip,Xe];have g:aa (qf (.mp p 0) f ([.mp tk 0],s)) (fun q=>q= .inr (0,[],s)):=by
   simp only [qf,ad,ae];refine aa.bind (R:=fun c=>c=([.bool false],s)) ?_ ?_
   .refine aa.step (ct _ _ _ _) ?_;refine aa.gv (WS) w rfl (aa.step (af _ _ _) ?_);exact aa.some rfl
   .rintro c rfl;exact aa.some rfl
  obtain ⟨q,e,rfl⟩:=g;exact ⟨_,aF e,s,v,es,rfl,w.sub (List.Sublist.cons _ (Yn _)),j,l⟩
 | succ m o=>
  intro r tk ts es v s os w j l hl hr;by_cases a:(nx r).1≠0/\bY mU r=false
  .have g:aa (qf (.mp p 0) f ([.mp tk 0],s)) (fun q=> ∃k s' v' e,q= .inl ([.mp k 0],s')/\Wd PP st0 s' p L x d (aL r) ([(k,TO,[.int .u8 ((nx (aL r)).1:Int),.str (nx (aL r)).2])]++(kc,ND,[.int .u8 3,.int .u8 0,.str [],v'])::l2) ((v',es++[e])::os)/\bO (ts++[aJ r]) (es++[e])):=by
    simp only [qf,ad,ae,hc];refine aa.bind (R:=fun c=> ∃s',c=([.bool true],s')/\Wd PP st0 s' p L x d r ([(tk,TO,[.int .u8 ((nx r).1:Int),.str (nx r).2])]++(kc,ND,[.int .u8 3,.int .u8 0,.str [],v])::l2) ((v,es)::os)) ?_ ?_
    .refine aa.step (ct _ _ _ _) ?_;refine aa.gv (WS) w rfl (aa.step (af _ _ _) ?_);refine aa.step (cZ (c:=true) (qe (b:=0) a.1) _ _) (aa.step (ao _ _) ?_);refine aa.I6 w fun s1 w=> ?_;exact aa.some ⟨s1,by rw [show bY [108,101,116] r=false from a.2];rfl,w⟩
    .rintro c ⟨s1,rfl,w⟩;simp only [ad,ae,ak,ao];refine aa.grow [_] w (iT w.pz) rfl rfl j (by omega) (by omega) fun v' e s2 i _ w=> ?_;refine aa.renew w (tk:=tk) WS fun z w=> ?_;refine aa.some ⟨_,z,v',e,rfl,w.sub ?_,i⟩;exact List.Sublist.cons_cons _ (List.Sublist.cons _ (Yn _))
   obtain ⟨q,e,k,s',v',C,rfl,w',i⟩:=g;rw [aP e];have A:=ej a.1;have n:skip (m+1) r=(aJ r::(skip m (aL r)).1,(skip m (aL r)).2):=by
    simp only [skip];rw [if_pos a]
   rw [n];refine (o (aL r) k _ _ v' s' os w' i ?_ (by simp;omega) (by omega)).mono ?_
   .have:=bS r;rw [cq,br];omega
   .rintro q ⟨s2,v2,t,rfl,B,u,y⟩;exact ⟨s2,v2,t,rfl,B,by simpa using u,by simpa using y⟩
  .have n:skip (m+1) r=([],r):=by
    simp only [skip];rw [if_neg a]
   rw [n,Xe];have g:aa (qf (.mp p 0) f ([.mp tk 0],s)) (fun q=> ∃s',q= .inr (0,[],s')/\Wd PP st0 s' p L x d r ([(tk,TO,[.int .u8 ((nx r).1:Int),.str (nx r).2])]++(kc,ND,[.int .u8 3,.int .u8 0,.str [],v])::l2) ((v,es)::os)):=by
    simp only [qf,ad,ae];refine aa.bind (R:=fun c=> ∃s',c=([.bool false],s')/\Wd PP st0 s' p L x d r ([(tk,TO,[.int .u8 ((nx r).1:Int),.str (nx r).2])]++(kc,ND,[.int .u8 3,.int .u8 0,.str [],v])::l2) ((v,es)::os)) ?_ ?_
    .refine aa.step (ct _ _ _ _) ?_;refine aa.gv (WS) w rfl (aa.step (af _ _ _) ?_);by_cases h0:(nx r).1=0
     .rw [h0];exact aa.some ⟨s,rfl,by rw [h0] at w;exact w⟩
     .have hb:bY mU r=true:=by
       cases hb:bY mU r with
       | true=>rfl
       | false=>exact absurd ⟨h0,hb⟩ a
      refine aa.step (cZ (c:=true) (qe (b:=0) h0) _ _) (aa.step (ao _ _) ?_);refine aa.I6 w fun s1 w=> ?_;exact aa.some ⟨s1,by rw [show bY [108,101,116] r=true from hb];rfl,w⟩
    .rintro c ⟨s1,rfl,w⟩;exact aa.some ⟨s1,rfl,w⟩
   obtain ⟨q,e,s',rfl,w'⟩:=g;exact ⟨_,aF e,s',v,es,rfl,w'.sub (List.Sublist.cons _ (Yn _)),j,l⟩
theorem DB (n:Nat) (r:List aU):eQ (skip n r).1<=2:=by
 induction n generalizing r with
 | zero=>simp [skip,aS]
 | succ n ih=>
  simp only [skip];split
  .have:=bS r;have:=ih (aL r);simp only [bz];omega
  .simp [aS]
theorem zS {s0:St} {a b:Nat} (ha:s0.h=a): ∀(N:Nat) (r:List aU) (D:List T) (tk:Nat) (ts:List T) (es:List AV) (v:AV) (s:St),N<=10000000->decls N r=some D->r.length<=1000000->
  Wd PP st0 s p L x 0 r ([(tk,TO,[.int .u8 ((nx r).1:Int),.str (nx r).2])]++(a,ND,[.int .u8 4,.int .u8 0,.str [],v])::[(b,ND,z4)]) [(v,es)]->bO ts es->eQ ts<=500000000000000->ts.length+N<=90000000->
  aa (aK (su (.mp p 0) s0) ([.mp tk 0],s)) (fun q=> ∃s' I z,q=(0,[],s')/\D=z++[aJ I]/\Gv PP st0 s' p L x 0 I a b 4 (ts++z)/\(ts++z).length<=90000000/\eQ (ts++z)<=500000000000000):=by
 intro N
 induction N with
 | zero=>intro r D tk ts es v s _ h;cases h
 | succ n K=>
  intro r D tk ts es v s J h a1 w o M hl;simp only [decls] at h;split at h
  .rename_i h0;cases h;have O:aa (su (.mp p 0) s0 ([.mp tk 0],s)) (fun q=>q= .inr (0,[],s)):=by
    simp only [su,ad,ae];refine aa.step (ct _ _ _ _) ?_;refine aa.gv (WS) w rfl (aa.step (af _ _ _) ?_);rw [h0];exact aa.some rfl
   obtain ⟨q,e,rfl⟩:=O;exact ⟨_,aF e,s,r,[],rfl,rfl,⟨v,es,w.sub (List.Sublist.cons _ (Yn _)),by simpa using o,by rw [Xe];omega⟩,by simp;omega,by rw [Xe];exact M⟩
  .rename_i h0;have P: ∃(u:T) (d:List aU) (m:List T),decls n d=some m/\D=u::m/\eP u<=300000000000000/\d.length<=r.length/\
     aa (su (.mp p 0) s0 ([.mp tk 0],s)) (fun q=> ∃g s' v' e,q= .inl ([.mp g 0],s')/\Wd PP st0 s' p L x 0 d ([(g,TO,[.int .u8 ((nx d).1:Int),.str (nx d).2])]++(a,ND,[.int .u8 4,.int .u8 0,.str [],v'])::[(b,ND,z4)]) [(v',es++[e])]/\iz u e):=by
    have back: ∀(kc:Nat) (k:Nat) (u:T) (d:List aU) (f:St) (l:AV),Nd u k 0 [] l->
      Wd PP st0 f p L x 0 d ((kc,ND,[.int .u8 (k:Int),.int .u8 0,.str [],l])::(tk,TO,[.int .u8 ((nx r).1:Int),.str (nx r).2])::(a,ND,[.int .u8 4,.int .u8 0,.str [],v])::[(b,ND,z4)]) [(v,es)]->
      aa (al 1 false (.mp a 3) f fun C _=>al 4 true (.mp kc 0) f fun v168 _=>wq v168 fun n1 n2 tx y=>ab y (ab y (aD y fun y=>ab y (aD y fun y=>cT 4 56 ND C [.agg [.int .u8 n1,.int .u8 n2,.str tx,y]] f fun i A _=>ab i (ab i (aM (aV vE) 1 (.mp a 3) i [i] A fun _ B _=>
       al 2 true (.mp tk 0) B fun v _=>uk v fun cs=>bj cs fun u cs=>bk .u8 u fun n=>bj cs fun u cs=>dW u fun tx=>bC cs (bh (St.add B (.cells TO [.int .u8 0,.str []])) fun s1=>aM (aV vE) 2 (.mp (St.h B) 0) (.agg [.int .u8 n,.str tx]) [.int .u8 n,.str tx] s1 fun _ s2 _=>
        bc (aV vE) 63 [.mp p 0] s2 fun v s _=>gx v fun vs=>cE vs 0 fun u=>uk u fun cs=>bj cs fun a cs=>bk .u8 a fun n=>bj cs fun b cs=>dW b fun tx=>bC cs (gx v fun vs=>cE vs 1 fun u=>bk .i64 u fun _=>aM (aV vE) 2 (.mp (St.h B) 0) (.agg [.int .u8 n,.str tx]) [.int .u8 n,.str tx] s fun _ s' _=>some (Sum.inl (β:=Nat×bT) ([AV.mp (St.h B) 0],s'))))))))))
       (fun q=> ∃g s' v' e,q= .inl ([.mp g 0],s')/\Wd PP st0 s' p L x 0 d ([(g,TO,[.int .u8 ((nx d).1:Int),.str (nx d).2])]++(a,ND,[.int .u8 4,.int .u8 0,.str [],v'])::[(b,ND,z4)]) [(v',es++[e])]/\iz u e):=by
     intro kc k u d f l hnd w;refine aa.gv (a:=a) (WZ _ (WZ _ WS)) w rfl ?_;refine aa.fq (WS) w ?_;refine aa.two hnd (aa.fit hnd fun y' J h1 hf=>aa.one h1 (aa.step (hf _) (aa.app w (by simp) (by rw [bO.len o];simp;omega) fun v' A _ ho w=> ?_)));refine aa.one ho (aa.one ho (aa.jL [_,_] w (WU rfl) fun B _ w=> ?_));refine aa.renew w (tk:=tk) (WZ _ WS) fun s8 w=> ?_;refine aa.some ⟨_,s8,v',_,rfl,w.sub ?_,J⟩;exact List.Sublist.cons_cons _ (List.Sublist.cons _ (List.Sublist.cons _ (Yn _)))
    split at h
    .rename_i hb;obtain ⟨⟨bs,d⟩,E,h⟩:=bind_some h;obtain ⟨m,F,h⟩:=bind_some h;cases h;have a6:=zr (by omega:n<=10000000) E rfl;have S:=pO _ _ _ _ _ E;have a7:=bS r;refine ⟨_,d,m,F,rfl,by simp only [bE,bz];omega, ?_, ?_⟩
     .have:=Am (Q:=fun q=>q.length<=r.length) (fun q hq=>Xs (iD q) hq) _ _ _ _ _ _ E (iD r);exact this
     simp only [su,ad,ae,ha];refine aa.step (ct _ _ _ _) ?_;refine aa.gv (WS) w rfl (aa.step (af _ _ _) ?_);refine aa.step (cZ (c:=true) (qe (b:=0) h0) _ _) (aa.step (ao _ _) ?_);refine aa.alloc w fun s1 _ w=> ?_;refine aa.I6 w fun s2 w=> ?_;refine aa.bind (R:=fun c=> ∃f l,c=([],f)/\Nd (node 5 (aJ r::bs)) 5 0 [] l/\Wd PP st0 f p L x 0 d ((s.h,ND,[.int .u8 ((5:Nat):Int),.int .u8 0,.str [],l])::(tk,TO,[.int .u8 ((nx r).1:Int),.str (nx r).2])::(a,ND,[.int .u8 4,.int .u8 0,.str [],v])::[(b,ND,z4)]) [(v,es)]) ?_ ?_
     .refine aa.step (cZ (c:=true) hb _ _) (aa.step (ao _ _) ?_);refine aa.take w fun k g tx y s3 hnd ar w=> ?_;refine aa.two hnd (aa.fit hnd fun z1 U _ _=> ?_);refine aa.gm ((Qv n (by omega)).binding s3 p L x 0 _ bs d w.pz (by omega) E) rfl rfl fun v4 s4 hv=> ?_;obtain ⟨a8,ho,_,j,av,V,W⟩:=hv;have w4:=w.move W V;refine aa.step ((CA.own ho).elems _) (aa.step (G8 j _) (aa.step (gP (DH j) _) ?_));have t:=bO.len j;refine aa.app (w4.shut (es:=[_]) (by simp)) (by
       intro e;rw [e] at t;exact S.2 (XF t.symm)) (by rw [t];simp;omega) fun v5 f _ G w5=> ?_
      refine aa.one G (aa.one G ?_);refine aa.store [] w5 fun A _ H=> ?_;exact aa.some ⟨A,v5,rfl,⟨⟨_,_,rfl,H.LC,bO.cons U j⟩⟩,H.drop⟩
     .rintro c ⟨f,l,rfl,hnd,w⟩;refine aa.step (ae _) ?_;exact back s.h 5 _ d f l hnd w
    .rename_i hb;obtain ⟨m,F,h⟩:=bind_some h;cases h;refine ⟨_,_,m,F,rfl,by have:=DB r.length r;simp only [bE];omega,wK _ _, ?_⟩;simp only [su,ad,ae,ha];refine aa.step (ct _ _ _ _) ?_;refine aa.gv (WS) w rfl (aa.step (af _ _ _) ?_);refine aa.step (cZ (c:=true) (qe (b:=0) h0) _ _) (aa.step (ao _ _) ?_);refine aa.alloc w fun s1 _ w=> ?_;refine aa.I6 w fun s2 w=> ?_;refine aa.bind (R:=fun c=> ∃f l,c=([],f)/\Nd (node 3 (skip r.length r).1) 3 0 [] l/\Wd PP st0 f p L x 0 (skip r.length r).2 ((s.h,ND,[.int .u8 ((3:Nat):Int),.int .u8 0,.str [],l])::(tk,TO,[.int .u8 ((nx r).1:Int),.str (nx r).2])::(a,ND,[.int .u8 4,.int .u8 0,.str [],v])::[(b,ND,z4)]) [(v,es)]) ?_ ?_
     .refine aa.step (cZ (c:=false) (Xi hb) _ _) (aa.step (ai _ _) ?_);refine aa.jL [] w (WU rfl) fun s3 _ w=> ?_;refine aa.next w fun s4 f w=> ?_;refine aa.bind (IB (kc:=s.h) rfl r.length r _ [] [] .ay f _ w.ay bO.nil (by simp [aS]) (by simp;omega) (WW _)) ?_;rintro q ⟨A,v6,bb,rfl,H,X,bt⟩;refine aa.step (ae _) ?_;exact aa.some ⟨A,v6,rfl,⟨⟨_,_,rfl,H.LC,by simpa using X⟩⟩,H.drop⟩
     .rintro c ⟨f,l,rfl,hnd,w⟩;refine aa.step (ae _) ?_;exact back s.h 3 _ _ f l hnd w
   obtain ⟨u,d,m,F,rfl,b4,aw,q,e,g,s',v',E,rfl,w',J⟩:=P;rw [aP e];refine (K d m g (ts++[u]) _ v' s' (by omega) F (by omega) w' (bO.app o (lU J)) (by rw [cq,br];omega) (by simp;omega)).mono ?_;rintro q ⟨s2,I,z,rfl,rfl,hg,Y,Z⟩;exact ⟨s2,I,u::z,rfl,rfl,by simpa using hg,by simpa using Y,by simpa using Z⟩
theorem CC {r:List aU} (h:r.length<=70000):fuel r<=10000000:=by unfold fuel;omega
theorem DD {i:Nat} (h:PS st p L x i 0) (hi:i=0) (hL:L.length<=70000):aa ((aV vE).wide 30 [.mp p 0] st) (fun b=>VN (doc L) b.1/\eP (doc L)<=1000000000000000/\ba st b.2 (· =p)):=by
 subst hi;obtain ⟨D,e,a⟩:=ju L;refine aa.wide (aa.step (Pg _ _) ?_);unfold VZ;have w:=Wd.start h;rw [Xc] at w;refine aa.alloc w fun s0 _ w=> ?_;refine aa.alloc w fun s1 _ w=> ?_;refine aa.store [] w fun s2 _ w=> ?_;refine aa.next w fun j f w=> ?_;have hf:=CC hL;refine aa.bind (zS rfl (fuel L) L D _ [] [] .ay f hf e (by omega) w.ay bO.nil (by rw [aS];omega) (by simp;omega)) ?_;rintro q ⟨k,d,g,rfl,rfl,hg,hl,hd⟩;refine aa.step (ae _) ?_;rw [W5] at hg hl hd;refine hg.grow (iT hg.pz) rfl rfl (by omega) fun l hg=> ?_;rw [a];have c:eP (node 4 (g++[aJ d]))<=1000000000000000:=by
  have:=bS d;simp only [bE,cq,br];omega
 refine (hg.nd.fin c).mono fun b hb=>⟨hb.1,hb.2.1,hb.2.2.2⟩
end
end Go.Proofs.YtgecmbapkplklaaGreatDoor.Vm
namespace Go.Proofs.YtgecmbapkplklaaGreatDoor.Vm
open Go Go.VM Go.Proofs Go.Lex
theorem Fi (s:List UInt8): ∃x,(aV vE).bare 29 [.str s]=some (.tup [x,.int .i64 (uh s)])/\bp 2 x (if uh s=0 then (tokens s).map tok else []):=by
 by_cases h1:65536 < s.length
 .have e:uh s=40:=by unfold uh;rw [if_pos h1]
  exact ⟨.ay,by rw [e];exact BW h1,by rw [e];exact bp.ay⟩
 .cases hv:cC s with
  | false=>
   have e:uh s=4:=by unfold uh;rw [if_neg h1,hv];rfl
   exact ⟨.ay,by rw [e];exact EN (by omega) hv,by rw [e];exact bp.ay⟩
  | true=>
   obtain ⟨x,hx,h⟩:=I7 (by omega) hv;have e:uh s=0:=QA (by omega) hv;exact ⟨x,by rw [e];exact hx,by rw [e];exact h⟩
end Go.Proofs.YtgecmbapkplklaaGreatDoor.Vm
namespace Go.Proofs.YtgecmbapkplklaaGreatDoor.Vm
open Go Go.VM Go.Proofs Go.Lex Go.Parse
theorem AA {t:T} {k tk:Nat} {tx:List UInt8} {y:AV} (h:Nd t k tk tx y): ∃y',iz t (.agg [.int .u8 (k:Int),.int .u8 (tk:Int),.str tx,y'])/\ ∀(st:St) (n:Nat),VM.freeze st 0 (n+2) (.agg [.int .u8 (k:Int),.int .u8 (tk:Int),.str tx,y])= .ok (.agg [.int .u8 (k:Int),.int .u8 (tk:Int),.str tx,y']):=by
 obtain ⟨l,es,rfl,hk,a⟩:=h.ex;rcases hk with hx | ⟨hl,j,rfl⟩
 .refine ⟨y,by simp only [iz];exact ⟨y,es,rfl,hx,a⟩,fun st n=> ?_⟩;refine QE (d:=1) (fun c hc=> ?_) st 0 (n+2) (by omega);simp only [Xb,XS,or_false] at hc;rcases hc with rfl | rfl | rfl | rfl
  .exact gM _ _
  .exact gM _ _
  .exact Bx _
  .exact yl hx
 .exact ⟨.sl 4 es .wide,by simp only [iz];exact ⟨_,es,rfl,bp.wide hl,a⟩,fun st n=>rfl⟩
theorem rn {t:T} {v:AV} (h:iz t v):VM.bare v=true/\VM.strip v=v:=by
 cases t with
 | mk k tk tx l=>
  simp only [iz] at h;obtain ⟨x,es,rfl,hx,_⟩:=h;refine ⟨?_,rfl⟩;rw [nN];simp only [bf,hx.bare];rfl
theorem Bk (s:List UInt8):(uh s=0/\(65536 < s.length)=False/\cC s=true)\/(uh s=40/\65536 < s.length)\/(uh s=4/\¬ 65536 < s.length/\cC s=false):=by
 unfold uh;by_cases h:65536 < s.length
 .rw [if_pos h];exact .inr (.inl ⟨rfl,h⟩)
 .rw [if_neg h];cases hv:cC s with
  | true=>exact .inl ⟨rfl,by simp [h],rfl⟩
  | false=>exact .inr (.inr ⟨rfl,h,rfl⟩)
def eS (s:List UInt8):T:=if uh s=0 then doc (tokens s) else .mk 0 0 [] []
theorem qq {t:T} {k tk:Nat} {tx:List UInt8} {y:AV} (h:Nd t k tk tx y) (n:Int): ∃v,iz t v/\ ∀{β:Type} (st:St) (K:AV->Option β),gR st 0 (.tup [.agg [.int .u8 (k:Int),.int .u8 (tk:Int),.str tx,y],.int .i64 n]) K=K (.tup [v,.int .i64 n]):=by
 obtain ⟨y',a,hf⟩:=AA h;refine ⟨_,a,fun st K=>MY (cr (hf st 97) (cr (by exact gM _ _ st 0 99 (by omega)) sT)) ?_ K⟩;simp only [bf,(rn a).1];rfl
theorem Cq:Nd (.mk 0 0 [] []) 0 0 [] .ay:=⟨⟨[],[],rfl,.inl bp.ay,bO.nil⟩⟩
theorem LG (s:List UInt8): ∃v,iz (eS s) v/\eP (eS s)<=1000000000000000/\(aV vE).bare 13 [.str s]=some (.tup [v,.int .i64 (uh s)]):=by
 obtain ⟨x,e,hx⟩:=Fi s;have c: ∀{β:Type} (st:St) (K:Kv β),bc (aV vE) 29 [.str s] st K=K (.tup [x,.int .i64 (uh s)]) st q0:=fun st K=>aG st K rfl rfl rfl e;have key:aa (bN vE 13 [.str s]) (fun b=> ∃v,b= .tup [v,.int .i64 (uh s)]/\iz (eS s) v/\eP (eS s)<=1000000000000000):=by
  refine aa.step (PO _) ?_;unfold g13;generalize a:St.mk 1 0 (Tr.node (some (VM.Obj.cells ND z4)) Tr.leaf Tr.leaf)=st;have hg:st.get 0= .ok (.cells ND z4):=by rw [<- a];rfl
  have n:st.h=1:=by rw [<- a]
  have hr:st.ro=0:=by rw [<- a]
  refine aa.step (ax _ _) (aa.step (c _ _) ?_);simp only [cf,bw,bG,af];by_cases h0:uh s=0
  .rw [h0] at hx ⊢;rw [if_pos rfl] at hx;have ht:eS s=doc (tokens s):=by unfold eS;rw [if_pos h0]
   rw [ht];refine aa.step (ai _ _) (aa.step (kJ hx.one _) (aa.step (kJ hx.one _) ?_));rw [eV];have hl:=(qp h0).1;have j:=qD s;generalize d:st.add (VM.Obj.cells PP [x,.int .i64 0,.int .i64 0])=st1;have k1:ba st st1 (fun _=>False):=by rw [<- d];exact ba.add _ _ _
   have g1:st1.get st.h= .ok (.cells PP [x,.int .i64 ((0:Nat):Int),.int .i64 ((0:Nat):Int)]):=by rw [<- d];exact St.dE
   have hp:PS st1 st.h (tokens s) x 0 0:=⟨g1,hx,XC _,by omega,by rw [k1.ro,hr];omega⟩;refine aa.gm (DD hp rfl (by omega)) rfl rfl fun v s2 hv=> ?_;obtain ⟨hv,hd,hk⟩:=hv;have g2:s2.get 0= .ok (.cells ND z4):=hk.An (by omega) (k1.old _ _ (fun f=>f) hg);obtain ⟨k,tk,tx,y,rfl,hnd⟩:=hv.cells;refine aa.step (lA ..) (aa.two hnd ?_);obtain ⟨l,g3,_,_,m,g⟩:=Uk g2 rfl (k:Int) (tk:Int) tx y (by rw [hk.ro,k1.ro,hr];omega);refine aa.step (g _) (aa.step (bu g3 _ _ _ _) (aa.step (aj _ _) (aa.step (lA ..) ?_)));obtain ⟨w,i,hf⟩:=qq hnd 0;exact aa.step (hf _ _) (aa.some ⟨w,rfl,i,hd⟩)
  .have ht:eS s= .mk 0 0 [] []:=by unfold eS;rw [if_neg h0]
   rw [ht];refine aa.step (cZ (c:=true) (by simpa using h0) _ _) (aa.step (ao _ _) ?_);obtain ⟨l,g3,_,_,m,g⟩:=Uk hg rfl 0 0 [] .ay (by rw [hr];omega);refine aa.step (g _) (aa.step (bu g3 _ _ _ _) (aa.step (aj _ _) (aa.step (lA ..) ?_)));obtain ⟨w,i,hf⟩:=qq Cq (uh s);exact aa.step (hf _ _) (aa.some ⟨w,rfl,i,by simp [eP,eQ]⟩)
 obtain ⟨b,e,v,rfl,h1,h2⟩:=key;exact ⟨v,h1,h2,aX rfl e⟩
section
variable {β:Type} {Q:β->Prop} {st:St} {t:T}
theorem Fg (s:List UInt8): ∃v,iz (eS s) v/\eP (eS s)<=1000000000000000/\ ∀{β:Type} (st:St) (K:Kv β),bc (aV vE) 13 [.str s] st K=K (.tup [v,.int .i64 (uh s)]) st q0:=by
 obtain ⟨v,h,hd,e⟩:=LG s;exact ⟨v,h,hd,fun st K=>aG st K rfl rfl rfl e⟩
theorem nF {t:T} {v:AV} (h:iz t v): ∃(k tk:Nat) (tx:List UInt8) (l:List T) (x:AV) (es:List AV),t= .mk k tk tx l/\v= .agg [.int .u8 (k:Int),.int .u8 (tk:Int),.str tx,x]/\bp 4 x es/\bO l es:=by
 cases t with
 | mk k tk tx l=>
  simp only [iz] at h;obtain ⟨x,es,rfl,hx,hs⟩:=h;exact ⟨k,tk,tx,l,x,es,rfl,rfl,hx,hs⟩
theorem bO.at: ∀{l:List T} {es:List AV} {k:Nat} {t:T},bO l es->l[k]? =some t-> ∃e,es[k]? =some e/\iz t e
 | [],_,_,_,_,hk=>by simp at hk
 | t::l,_,0,_,h,hk=>by
  simp only [bO] at h;obtain ⟨a,r,rfl,h1,h2⟩:=h;obtain rfl:t= _:=by simpa using hk
  exact ⟨a,rfl,h1⟩
 | t::l,_,k+1,t',h,hk=>by
  simp only [bO] at h;obtain ⟨a,r,rfl,h1,h2⟩:=h;obtain ⟨e,he,hi⟩:=bO.at (k:=k) (t:=t') h2 (by simpa using hk);exact ⟨e,by simpa using he,hi⟩
theorem va {l:List T} {x:AV} {es:List AV} {k:Nat} (hx:bp 4 x es) (hs:bO l es) (hk:l[k]? =some t): ∃(a b:Nat) (s:List UInt8) (y:AV),iz t (.agg [.int .u8 (a:Int),.int .u8 (b:Int),.str s,y])/\ ∀{β:Type} (st:St) (K:Int->Int->List UInt8->AV->Option β),(bU 4 x (k:Int) st fun u _=>al 4 true u st fun u _=>wq u K)=K (a:Int) (b:Int) s y:=by
 obtain ⟨e,he,c⟩:=hs.at hk;obtain ⟨a,b,s,f,y,es',rfl,rfl,hy,d⟩:=nF c;refine ⟨a,b,s,y,c,fun st K=> ?_⟩;rw [hx.idx he,jK,bx,Cj,aj,lA]
theorem T.ind {Pr:T->Prop} (h: ∀k tk tx l,(∀t∈l,Pr t)->Pr (.mk k tk tx l)): ∀t,Pr t:=by
 intro t;have key: ∀n (t:T),SizeOf.sizeOf t < n->Pr t:=by
  intro n
  induction n with
  | zero=>intro t ht;omega
  | succ n ih=>
   intro t ht;cases t with
   | mk k tk tx l=>
    refine h k tk tx l fun u hu=>ih u ?_;have:=List.sizeOf_lt_of_mem hu;simp only [T.mk.sizeOf_spec] at ht;omega
 exact key _ t (XW _)
end
end Go.Proofs.YtgecmbapkplklaaGreatDoor.Vm
