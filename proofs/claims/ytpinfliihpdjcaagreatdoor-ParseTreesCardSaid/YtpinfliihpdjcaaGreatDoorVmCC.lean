/-
  A part of the proof.
-/
import Derived.Test.YtpinfliihpdjcaaGreatDoorVmCB
set_option maxRecDepth 1000000
set_option linter.all false
set_option maxHeartbeats 0
namespace Go.Proofs.YtpinfliihpdjcaaGreatDoor.Vm
open Go Go.VM Go.Proofs Go.Lex Go.Parse
section
variable {β:Type} {Q:β->Prop}
abbrev S0:St:=St.mk 0 0 Tr.leaf
theorem DK {F:FuncId} {t:T} {v r:AV} (a:fI t v) (hf:vE.full F=false) (h:(bc vE).bare F [v]=some r) {β:Type} (st:St) (K:Kv β):aX (bc vE) F [v] st K=K r st q0:=
 aM st K hf (by simp only [Od,O5,(eW a).2]) (by simp only [bw,(eW a).1];rfl) h
theorem qR (a b:Nat):((a:Int) != (b:Int))=(a != b):=by rw [bne,db, <- bne]
theorem rG: ∀(l:List T),Parse.A9 l=l.all Parse.cH
 | []=>rfl
 | t::l=>by simp only [Parse.A9,Pm,rG l]
theorem mb {l:List T} {x:AV} {es:List AV} (a:cb 4 x es) (hs:bp l es) {γ:Type} (K:Nat->Option γ):iQ x K=K l.length:=by rw [a.len,hs.len]
theorem Bv {l:List T} {x:AV} {es:List AV} (a:cb 4 x es) (hs:bp l es):l.length<=9223372036854775807:=by rw [<- hs.len];exact a.1
theorem vu {l:List T} {x:AV} {es:List AV} (o:cb 4 x es) (hs:bp l es) (u: ∀t∈l,∀v,fI t v->(bc vE).bare 8 [v]=some (.bool (Parse.cH t))) (st:St): ∀(m:List T) (j:Nat),l.drop j=m->
  ∃(k:Nat) (i:Int),aI (pS x (.fn (.func 17) [] []) l.length) ([.int .i64 0,.int .i64 (j:Int)],st)=some (k,[.int .i64 i],st)/\((k=0/\m.all Parse.cH=true)\/(k=1/\0<=i/\m.all Parse.cH=false))
 | [],j,hd=>by
  have:=Ol.1 hd;have q:¬ (j:Int) < (l.length:Int):=by omega
  refine ⟨0,0,aC ?_,.inl ⟨rfl,rfl⟩⟩;simp only [pS,af,ah,ae,aw,if_neg q]
 | t::m,j,hd=>by
  obtain ⟨d,w,z⟩:=drop_cons hd;have q:(j:Int) < (l.length:Int):=by omega
  have hlen:=Bv o hs;obtain ⟨a,b,s,y,g,e⟩:=wF o hs d;obtain ⟨a',b',s',D,y',A,f,p,hy,B⟩:=jR g;have c:=u t (Ob d) _ g;have c1:(bc vE).bare 17 [.agg [.int .u8 (a:Int),.int .u8 (b:Int),.str s,y]]=some (.bool (!Parse.cH t)):=by
   refine aY rfl ((JK _).trans ?_);have r:y=y':=by injection p with p;simpa using (List.cons.inj (List.cons.inj (List.cons.inj (List.cons.inj p).2).2).2).1
   subst r;simp only [g17,bF,af,ah,aA,ae,hy.ab,hy.aJ,DK g rfl c,ar]
  have c2: ∀{γ:Type} (st:St) (K:Kv γ),jX (bc vE) (Sx.prim (sx vE 37)) (.fn (.func 17) [] []) [.agg [.int .u8 (a:Int),.int .u8 (b:Int),.str s,y]] st K=K (.bool (!Parse.cH t)) st q0:=fun st K=>(show _=aX (bc vE) 17 [_] st K from rfl).trans (DK g rfl c1 st K);have n:pS x (.fn (.func 17) [] []) l.length ([.int .i64 0,.int .i64 (j:Int)],st)=aW (!Parse.cH t) (some (.inr (1,[.int .i64 (j:Int)],st))) (some (.inl ([.int .i64 0,.int .i64 ((j+1:Nat):Int)],st))):=by
   simp only [pS,af,ah,ae,aw,if_pos q];refine (e st _).trans ?_;simp only [c2,ar,aD,bj (show j+1<=9223372036854775807 by omega)]
  cases f:Parse.cH t with
  | false=>
   rw [f] at n;exact ⟨1,j,aC n,.inr ⟨rfl,by omega,by simp [f]⟩⟩
  | true=>
   rw [f] at n;obtain ⟨k,i,C,h⟩:=vu o hs u st m (j+1) w;refine ⟨k,i,by rw [aL n,C], ?_⟩;simpa [f] using h
theorem FW: ∀(t:T) (v:AV),fI t v->(bc vE).bare 8 [v]=some (.bool (Parse.cH t)):=by
 refine T.ind fun k tk tx l ih v b=> ?_;simp only [fI] at b;obtain ⟨x,es,rfl,a,hs⟩:=b;have j:(bc vE).bare 16 [x,.fn (.func 17) [] []]=some (.bool (!l.all Parse.cH)):=by
  have hi: ∃i:Int,(bc vE).bare 37 [x,.fn (.func 17) [] []]=some (.int .i64 i)/\decide (i>=0)= !l.all Parse.cH:=by
   obtain ⟨k,i,e,h⟩:=vu a hs ih S0 l 0 rfl;have e:aI (pS x (.fn (.func 17) [] []) l.length) ([.int .i64 0,.int .i64 0],S0)= _:=e;rcases h with ⟨rfl,h⟩ | ⟨rfl,h0,h⟩
   .refine ⟨-1,aY rfl ((Dv _ _).trans ?_),by rw [h];rfl⟩;simp only [Mv,mb a hs,e,ak,af,ah,ae,dX]
   .refine ⟨i,aY rfl ((Dv _ _).trans ?_),by rw [h];simpa using h0⟩;simp only [Mv,mb a hs,e,ak,af,ah,ae,fB]
  obtain ⟨i,h1,d⟩:=hi;refine aY rfl ((Ii _ _).trans ?_);have c:=fun {β:Type} (st:St) (K:Kv β)=>aM (f:=37) st K rfl (by simp only [Od,O5,a.strip];rfl) (by simp only [bw,a.bare];rfl) h1;simp only [g16,c,ah,d]
 have g:=fun {β:Type} (st:St) (K:Kv β)=>aM (f:=16) st K rfl (by simp only [Od,O5,a.strip];rfl) (by simp only [bw,a.bare];rfl) j;refine aY rfl ((K7 _).trans ?_);have m:((k:Int) != 2)=(k != 2):=qR k 2;have n:((k:Int) != 3)=(k != 3):=qR k 3;have o:((k:Int) != 1)=(k != 1):=qR k 1;have p:((tk:Int) != 9)=(tk != 9):=qR tk 9;simp only [g8,bF,af,ah,aA,ae,a.ab,a.aJ,o,m,n,p,Parse.cH,rG];cases d:k != 2 <;> simp only [au,ai,ak,af,ar,ae,O0,O7]
 cases q:k != 3 <;> simp only [au,ai,ak,af,ar,ae,O0,O7]
 cases h1:k != 1 <;> simp only [au,ai,ak,af,ar,ae,Ov,O9,O7,g,Bool.not_not]
 cases r:tk != 9 <;> simp only [au,ai,ak,af,ar,ae,O0,O7,g,Bool.not_not]
end
theorem E4 (a b:Nat):((a:Int) != (b:Int))= !(a==b):=by rw [bne,db]
theorem JC {F:FuncId} {t u:T} {v w r:AV} (a:fI t v) (b:fI u w) (hf:vE.full F=false) (h:(bc vE).bare F [v,w]=some r) {β:Type} (st:St) (K:Kv β):aX (bc vE) F [v,w] st K=K r st q0:=
 aM st K hf (by simp only [Od,O5,(eW a).2,(eW b).2]) (by simp only [bw,(eW a).1,(eW b).1];rfl) h
theorem tB {l:List T} {x y:AV} {es fs:List AV} (b:cb 4 x es) (hs:bp l es) (hy:cb 4 y fs) (c:bp l fs) (ih: ∀t∈l,∀v w,fI t v->fI t w->(bc vE).bare 7 [v,w]=some (.bool true)) (st:St): ∀(a:List T) (j:Nat),l.drop j=a->
  aI (uj x y) ([.bool false,.int .i64 (j:Int)],st)=some (0,[.bool false],st)
 | [],j,d=>by
  have:=Ol.1 d;have q:¬ (j:Int) < (l.length:Int):=by omega
  refine aC ?_;simp only [uj,af,ar,ah,ae,mb b hs,aw,if_neg q]
 | t::a,j,d=>by
  obtain ⟨f,i,k⟩:=drop_cons d;have q:(j:Int) < (l.length:Int):=by omega
  have h1:=Bv b hs;obtain ⟨o,p,r,s,g,m⟩:=wF b hs f;obtain ⟨u,z,A,z2,h,n⟩:=wF hy c f;have e:uj x y ([.bool false,.int .i64 (j:Int)],st)=some (.inl ([.bool false,.int .i64 ((j+1:Nat):Int)],st)):=by
   simp only [uj,af,ar,ah,ae,mb b hs,aw,if_pos q];refine (m st _).trans ?_;refine (n st _).trans ?_;simp only [JC g h rfl (ih t (Ob f) _ _ g h),ar,aD,bj (show j+1<=9223372036854775807 by omega),Ou,ai]
  rw [aL e,tB b hs hy c ih st a (j+1) i]
theorem DF: ∀(t:T) (v w:AV),fI t v->fI t w->(bc vE).bare 7 [v,w]=some (.bool true):=by
 refine T.ind fun k tk tx l ih=> ?_;intro v w c d;simp only [fI] at c d;obtain ⟨x,es,rfl,b,hs⟩:=c;obtain ⟨y,fs,rfl,hy,a⟩:=d;refine aY rfl ((Kh _ _).trans ?_);simp only [g7,bF,af,ah,aA,ae,b.ab,b.aJ,hy.ab,hy.aJ,E4,mb b hs,mb hy a,FJ,db,beq_self_eq_true,Ou,au,ai,ak,ar,OZ];have e:aI (uj x y) ([.bool false,.int .i64 0],St.mk 0 0 Tr.leaf)= _:=tB b hs hy a ih (St.mk 0 0 Tr.leaf) l 0 rfl;rw [e];rfl
section
variable {β:Type} {Q:β->Prop}
theorem sX {l:List T} {x:AV} {es:List AV} (d:cb 4 x es) (hs:bp l es) (i: ∀t∈l,∀v,fI t v->(bc vE).bare 9 [v]=some (.bool (Parse.cH t))) (st:St): ∀(m:List T) (j:Nat),l.drop j=m->
  aI (ru x) ([.bool false,.int .i64 (j:Int)],st)=some (if m.all Parse.cH then 0 else 1,[.bool false],st)
 | [],j,hd=>by
  have:=Ol.1 hd;have q:¬ (j:Int) < (l.length:Int):=by omega
  refine aC ?_;simp only [ru,af,ah,ar,ae,mb d hs,aw,if_neg q];rfl
 | t::m,j,hd=>by
  obtain ⟨f,n,o⟩:=drop_cons hd;have q:(j:Int) < (l.length:Int):=by omega
  have hlen:=Bv d hs;obtain ⟨a,b,s,y,k,e⟩:=wF d hs f;have c:=fun {γ:Type} (st:St) (K:Kv γ)=>DK k rfl (i t (Ob f) _ k) st K;have g:ru x ([.bool false,.int .i64 (j:Int)],st)=aW (!Parse.cH t) (some (.inr (1,[.bool false],st))) (some (.inl ([.bool false,.int .i64 ((j+1:Nat):Int)],st))):=by
   simp only [ru,af,ah,ar,ae,mb d hs,aw,if_pos q];refine (e st _).trans ?_;simp only [c,ar,aD,bj (show j+1<=9223372036854775807 by omega)]
  cases h:Parse.cH t with
  | false=>
   rw [h] at g;rw [aC g];simp [h]
  | true=>
   rw [h] at g;rw [aL g,sX d hs i st m (j+1) n];simp [h]
theorem Eo: ∀(t:T) (v:AV),fI t v->(bc vE).bare 9 [v]=some (.bool (Parse.cH t)):=by
 refine T.ind fun k tk tx l ih v i=> ?_;simp only [fI] at i;obtain ⟨x,es,rfl,b,hs⟩:=i;refine aY rfl ((LG _).trans ?_);have j:((k:Int)==2)=(k==2):=db k 2;have m:((k:Int)==3)=(k==3):=db k 3;have n:((k:Int)==1)=(k==1):=db k 1;have o:((tk:Int)==9)=(tk==9):=db tk 9;have c:=sX b hs ih S0 l 0 rfl;have c:aI (ru x) ([.bool false,.int .i64 0],S0)= _:=c;have key:(if l.all Parse.cH=true then (0:Nat) else 1)=0/\l.all Parse.cH=true\/(if l.all Parse.cH=true then (0:Nat) else 1)=1/\l.all Parse.cH=false:=by
  cases h:l.all Parse.cH <;> simp
 simp only [g9,bF,af,ah,aA,ae,b.ab,b.aJ,n,j,m,o,Parse.cH,rG,bne];have fin:aB (aI (ru x) ([.bool false,.int .i64 0],S0)) (fun a:Nat×bR=>br (Prod.fst (Prod.snd a)) fun d e=>bG d fun f=>bE e (ja (Prod.fst a) (some (AV.bool true)) fun _x=>some (AV.bool f)))=some (.bool (l.all Parse.cH)):=by
  rw [c];rcases key with ⟨h1,g⟩ | ⟨h1,g⟩ <;> rw [h1,g] <;> rfl
 cases g:k==2 <;> simp only [au,ai,ak,af,ar,ae,Ou,OG,O0,O7]
 cases p:k==3 <;> simp only [au,ai,ak,af,ar,ae,Ou,OG,O0,O7]
 cases h1:k==1 <;> simp only [au,ai,ak,af,ar,ae,Ou,OG,Ov,O9,O7]
 .exact fin
 cases q:tk==9 <;> simp only [au,ai,ak,af,ar,ae,Ou,OG,O0,O7]
 exact fin
end
end Go.Proofs.YtpinfliihpdjcaaGreatDoor.Vm
namespace Go.Proofs.YtpinfliihpdjcaaGreatDoor.Vm
open Go Go.VM Go.Proofs
noncomputable def g6:AV->Option AV:=fun g=>dV g fun h=>aU 14 [.str h] (St.mk 1 0 (Tr.node (some (VM.Obj.cells 27 (nC 0 0 [] .aG))) Tr.leaf Tr.leaf)) fun a b _x=>fU a fun i=>cC i 0 fun j=>fU a fun k=>cC k 1 fun l=>bg .i64 l fun c=>aW (c != 0) (cL 4 (.mp 0 0) (nC 0 0 [] .aG) b fun _x d _x_1=>ax 4 true (.mp 0 0) d fun m _x=>ag m fun n o p q=>(kQ d 0 (.tup [nA n o p q,.int .i64 c]) fun r=>some r)) (aU 15 [j] b fun s t _x=>ag s fun u v w e=>(ab e (cL 4 (.mp 0 0) (nC u v w e) t fun _x f _x_1=>ax 4 true (.mp 0 0) f fun y _x=>ag y fun z x A B=>(kQ f 0 (.tup [nA z x A B,.int .i64 0]) fun C=>some C))))
theorem KG (a:AV):bT vE 6 [a]=g6 a:=by kernel_rfl
noncomputable def pQ (d:St):bR->Option (bR ⊕ Nat×bR):=fun e=>bE e.1 (aB (aU 33 [.mp 1 0] e.2 fun j f _x=>cW j fun k _x=>(aW (k != 0) (aU 34 [.mp 1 0,.str [108,101,116]] f fun l m _x=>bG l fun n=>some ([.bool !n],m)) (some ([.bool false],f)))) fun a=>br a.1 fun o p=>bG o fun q=>bE p (aW q (ax 1 false (.mp (St.h d) 3) a.2 fun r s=>aU 35 [.mp 1 0] a.2 fun t u g=>ag t fun v w y b=>(cu (apart (Fx.mk s dL.kept) g&&(apart (⟨[],.kept⟩) g&&true)) (ab b (ab b (aJ b fun i=>ab i (aJ i fun z=>cq 4 56 27 r [nA v w y z] u fun c x _x=>ab c (ab c (iC (.mp (St.h d) 3) c x fun _x A _x_1=>some (Sum.inl ([],A)))))))))) (some (Sum.inr (0,[],Prod.snd a)))))
noncomputable def ny:bR->Option (bR ⊕ Nat×bR):=fun k=>bE k.1 (aU 33 [.mp 1 0] k.2 fun q l _x=>cW q fun r _x=>(aW (r != 0) (aB (aU 34 [.mp 1 0,.str [108,101,116]] l fun s a _x=>bG s fun t=>aW t (aU 35 [.mp 1 0] a fun u c _x=>ag u fun v w y d=>(ab d (ab d (aJ d fun z=>ba (St.add c (VM.Obj.cells 27 (nC 0 0 [] .aG))) fun x=>cL 4 (.mp (St.h c) 0) [.int .u8 5,.int .u8 0,.str [],.sl 4 [nA v w y z] .shut] x fun _x e _x_1=>ax 1 false (.mp 2 3) e fun A B=>ax 4 true (.mp (St.h c) 0) e fun C _x=>ag C fun D E F G=>(aU 36 [.mp 1 0,nA D E F G] e fun H I m=>ag H fun b0 b1 J f=>(cu (apart (Fx.mk B dL.kept) m&&(apart (⟨[],.kept⟩) m&&true)) (ab f (ab f (aJ f fun n=>ab n (aJ n fun K=>cq 4 56 27 A [nA b0 b1 J K] I fun g L _x=>ab g (ab g (iC (.mp 2 3) g L fun _x M _x_2=>some (Sum.inl ([],M)))))))))))))) (ba (St.add a (VM.Obj.cells 27 (nC 0 0 [] .aG))) fun N=>cL 4 (.mp (St.h a) 0) (nC 3 0 [] .aG) N fun _x O _x_1=>aB (aI (pQ a) ([],O)) fun b=>bE b.2.1 (ax 1 false (.mp 2 3) b.2.2 fun P _x=>ax 4 true (.mp (St.h a) 0) b.2.2 fun Q _x=>ag Q fun c0 c1 c2 i=>(ab i (ab i (aJ i fun o=>ab o (aJ o fun c3=>cq 4 56 27 P [nA c0 c1 c2 c3] b.2.2 fun j R _x=>ab j (ab j (iC (.mp 2 3) j R fun _x S _x_2=>some (Sum.inl ([],S))))))))))) fun T=>iP T fun p=>bE p.1 (some (Sum.inl ([],Prod.snd p)))) (some (Sum.inr (0,[],l)))))
noncomputable def g15:AV->Option AV:=fun a=>ab a (ab a (aB (aI ny ([],St.mk 3 0 (Tr.node (some (VM.Obj.cells 27 (nC 0 0 [] .aG))) (Tr.node (some (VM.Obj.cells 56 [a,.int .i64 0,.int .i64 0])) Tr.leaf Tr.leaf) (Tr.node (some (VM.Obj.cells 27 (nC 4 0 [] .aG))) Tr.leaf Tr.leaf)))) fun b=>bE b.2.1 (ax 1 false (.mp 2 3) b.2.2 fun j k=>aU 35 [.mp 1 0] b.2.2 fun l m e=>ag l fun n o p c=>(cu (apart (Fx.mk k dL.kept) e&&(apart (⟨[],.kept⟩) e&&true)) (ab c (ab c (aJ c fun f=>ab f (aJ f fun q=>cq 4 56 27 j [nA n o p q] m fun d r _x=>ab d (ab d (iC (.mp 2 3) d r fun _x g _x_1=>ax 4 true (.mp 2 0) g fun s _x=>ag s fun t u v h=>(ab h (cL 4 (.mp 0 0) (nC t u v h) g fun _x i _x_2=>ax 4 true (.mp 0 0) i fun w _x=>ag w fun y z x A=>(kQ i 0 (nA y z x A) fun B=>some B)))))))))))))
theorem HX (a:AV):bT vE 15 [a]=g15 a:=by kernel_rfl
noncomputable def Mf:AV->St->Option (AV×St):=fun b st=>ba (St.add st (VM.Obj.cells 24 [.int .u8 0,.str []])) fun f=>aU 63 [b] f fun g a _x=>bg .i64 g fun c=>cu (notNil b) (cI 0 b fun i=>ax 1 false i a fun j _x=>iQ j fun k=>aW (decide (c < (↑k:Int))) (cu (notNil b) (cI 0 b fun l=>ax 1 false l a fun m _x=>fc 2 m c a fun n _x=>ax 2 true n a fun o _x=>cW o fun p q=>(cL 2 (.mp (St.h st) 0) [.int .u8 p,.str q] a fun _x d _x_1=>ax 2 true (.mp (St.h st) 0) d fun r _x=>cW r fun s t=>(some (.agg [.int .u8 s,.str t],d))))) (cL 2 (.mp (St.h st) 0) [.int .u8 0,.str []] a fun _x e _x_1=>ax 2 true (.mp (St.h st) 0) e fun u _x=>cW u fun v w=>(some (.agg [.int .u8 v,.str w],e))))
theorem EL (a:AV) (st:St):cE vE 33 [a] st=Mf a st:=by kernel_rfl
noncomputable def Nl:AV->AV->St->Option (AV×St):=fun e f st=>dV f fun c=>aU 33 [e] st fun g b _x=>cW g fun i j=>(ba (St.add b (VM.Obj.cells 24 [.int .u8 0,.str []])) fun k=>cL 2 (.mp (St.h b) 0) [.int .u8 i,.str j] k fun _x a _x_1=>aB (ax 1 false (.mp (St.h b) 0) a fun l _x=>bg .u8 l fun m=>aW (m==3) (ax 1 false (.mp (St.h b) 1) a fun n _x=>dV n fun o=>some ([.bool (o==c)],a)) (ax 1 false (.mp (St.h b) 0) a fun p _x=>bg .u8 p fun q=>aW (q==8) (ax 1 false (.mp (St.h b) 1) a fun r _x=>dV r fun s=>some ([.bool (s==c)],a)) (some ([.bool false],a)))) fun d=>br d.1 fun t u=>bG t fun v=>bE u (some (.bool v,Prod.snd d)))
theorem JF (a b:AV) (st:St):cE vE 34 [a,b] st=Nl a b st:=by kernel_rfl
noncomputable def Ac (a:AV) (d:St) (g:Int):bR->Option (bR ⊕ Nat×bR):=fun b=>bE b.1 (cu (notNil a) (cI 1 a fun i=>ax 1 false i b.2 fun j _x=>bg .i64 j fun k=>aW (decide (k < g)) (ax 1 false (.mp (St.h d) 3) b.2 fun l _x=>cu (notNil a) (cI 0 a fun m=>ax 1 false m b.2 fun n _x=>cu (notNil a) (cI 1 a fun o=>ax 1 false o b.2 fun p _x=>bg .i64 p fun q=>fc 2 n q b.2 fun r _x=>ax 2 true r b.2 fun s _x=>cW s fun t u=>(cq 4 56 27 l [nA 1 t u .aG] b.2 fun c v _x=>ab c (ab c (iC (.mp (St.h d) 3) c v fun _x e _x_1=>cu (notNil a) (cI 1 a fun w=>ax 1 false w e fun y _x=>bg .i64 y fun z=>aN (IntKind.wrap .i64 (z+1)) fun f=>cu (notNil a) (cI 1 a fun x=>bn (bc vE) 1 x (.int .i64 f) [.int .i64 f] e fun _x A _x_2=>some (Sum.inl ([],A)))))))))) (some (Sum.inr (0,[],Prod.snd b)))))
noncomputable def Nn:AV->St->Option (AV×St):=fun a st=>ba (St.add st (VM.Obj.cells 27 (nC 0 0 [] .aG))) fun i=>aU 33 [a] i fun j c _x=>cW j fun k l=>(ba (St.add c (VM.Obj.cells 27 (nC 0 0 [] .aG))) fun m=>cL 4 (.mp (St.h c) 0) (nC 1 k l .aG) m fun _x n _x_1=>aU 63 [a] n fun o p _x=>bg .i64 o fun q=>aB (aI (Ac a c q) ([],p)) fun b=>bE b.2.1 (cu (notNil a) (cI 1 a fun r=>ax 1 false r b.2.2 fun s _x=>bg .i64 s fun t=>cu (notNil a) (cI 0 a fun u=>ax 1 false u b.2.2 fun v _x=>iQ v fun w=>aB (aW (decide (t < (↑w:Int))) (cu (notNil a) (cI 1 a fun y=>ax 1 false y b.2.2 fun z _x=>bg .i64 z fun x=>aN (IntKind.wrap .i64 (x+1)) fun e=>cu (notNil a) (cI 1 a fun A=>bn (bc vE) 1 A (.int .i64 e) [.int .i64 e] b.2.2 fun _x B _x_2=>some ([],B)))) (some ([],Prod.snd b.2))) fun d=>bE d.1 (ax 4 true (.mp (St.h c) 0) d.2 fun C _x=>ag C fun D E F f=>(ab f (cL 4 (.mp (St.h st) 0) (nC D E F f) d.2 fun _x g _x_2=>ax 4 true (.mp (St.h st) 0) g fun G _x=>ag G fun H I b0 b1=>(some (nA H I b0 b1,g)))))))))
theorem Jg (a:AV) (st:St):cE vE 35 [a] st=Nn a st:=by kernel_rfl
noncomputable def pH (d:AV) (st:St):bR->Option (bR ⊕ Nat×bR):=fun e=>bE e.1 (aU 64 [d] e.2 fun i a _x=>bG i fun j=>aW j (ax 1 false (.mp (St.h st) 3) a fun k l=>aU 65 [d] a fun m n f=>ag m fun o p q b=>(cu (apart (Fx.mk l dL.kept) f&&(apart (⟨[],.kept⟩) f&&true)) (ab b (ab b (aJ b fun g=>ab g (aJ g fun r=>cq 4 56 27 k [nA o p q r] n fun c s _x=>ab c (ab c (iC (.mp (St.h st) 3) c s fun _x t _x_1=>some (Sum.inl ([],t)))))))))) (some (Sum.inr (0,[],a))))
noncomputable def MV:AV->AV->St->Option (AV×St):=fun a H st=>ag H fun I J K q=>(ab q (ba (St.add st (VM.Obj.cells 27 (nC I J K q))) fun c=>ba (St.add c (VM.Obj.cells 27 (nC 0 0 [] .aG))) fun L=>aU 34 [a,.str [114,101,99]] L fun b0 d _x=>bG b0 fun b1=>aB (aW b1 (ax 1 false (.mp (St.h st) 3) d fun M N=>aU 35 [a] d fun O P r=>ag O fun Q R S e=>(cu (apart (Fx.mk N dL.kept) r&&(apart (⟨[],.kept⟩) r&&true)) (ab e (ab e (aJ e fun s=>ab s (aJ s fun T=>cq 4 56 27 M [nA Q R S T] P fun f c0 _x=>ab f (ab f (iC (.mp (St.h st) 3) f c0 fun _x c1 _x_1=>some ([],c1))))))))) (some ([],d))) fun t=>bE t.1 (aU 33 [a] t.2 fun c2 b _x=>cW c2 fun c3 _x=>(aB (aW (c3==4) (ax 1 false (.mp (St.h st) 3) b fun U V=>aU 35 [a] b fun W X u=>ag W fun Y Z d0 g=>(cu (apart (Fx.mk V dL.kept) u&&(apart (⟨[],.kept⟩) u&&true)) (ab g (ab g (aJ g fun v=>ab v (aJ v fun d1=>cq 4 56 27 U [nA Y Z d0 d1] X fun i d2 _x=>ab i (ab i (iC (.mp (St.h st) 3) i d2 fun _x d3 _x_1=>aB (aI (pH a st) ([],d3)) fun w=>bE w.2.1 (some ([],Prod.snd w.2)))))))))) (ax 1 false (.mp (St.h st) 3) b fun d4 d5=>aU 65 [a] b fun d6 d7 y=>ag d6 fun d8 d9 e0 j=>(cu (apart (Fx.mk d5 dL.kept) y&&(apart (⟨[],.kept⟩) y&&true)) (ab j (ab j (aJ j fun z=>ab z (aJ z fun e1=>cq 4 56 27 d4 [nA d8 d9 e0 e1] d7 fun k e2 _x=>ab k (ab k (iC (.mp (St.h st) 3) k e2 fun _x e3 _x_1=>some ([],e3)))))))))) fun l=>bE l.1 (ax 1 false (.mp (St.h st) 3) l.2 fun e4 e5=>aU 66 [a,.str [61]] l.2 fun e6 e7 x=>ag e6 fun e8 e9 f0 m=>(cu (apart (Fx.mk e5 dL.kept) x&&(apart (⟨[],.kept⟩) x&&true)) (ab m (ab m (aJ m fun A=>ab A (aJ A fun f1=>cq 4 56 27 e4 [nA e8 e9 f0 f1] e7 fun n f2 _x=>ab n (ab n (iC (.mp (St.h st) 3) n f2 fun _x B _x_1=>ax 1 false (.mp (St.h st) 3) B fun f3 f4=>aU 67 [a] B fun f5 f6 C=>ag f5 fun f7 f8 f9 o=>(cu (apart (Fx.mk f4 dL.kept) C&&(apart (⟨[],.kept⟩) C&&true)) (ab o (ab o (aJ o fun D=>ab D (aJ D fun h0=>cq 4 56 27 f3 [nA f7 f8 f9 h0] f6 fun p h1 _x=>ab p (ab p (iC (.mp (St.h st) 3) p h1 fun _x E _x_2=>ax 4 true (.mp (St.h st) 0) E fun h2 _x=>ag h2 fun h3 h4 h5 F=>(ab F (cL 4 (.mp (St.h c) 0) (nC h3 h4 h5 F) E fun _x G _x_3=>ax 4 true (.mp (St.h c) 0) G fun h6 _x=>ag h6 fun h7 h8 h9 i0=>(some (nA h7 h8 h9 i0,G)))))))))))))))))))))))
theorem Hw (a b:AV) (st:St):cE vE 36 [a,b] st=MV a b st:=by kernel_rfl
noncomputable def rC (b:AV):bR->Option (bR ⊕ Nat×bR):=fun a=>br a.1 fun e f=>bg .i64 e fun c=>bE f (aB (cu (notNil b) (cI 0 b fun g=>ax 1 false g a.2 fun h _x=>iQ h fun i=>aW (decide (c < (↑i:Int))) (cu (notNil b) (cI 0 b fun j=>ax 1 false j a.2 fun k _x=>fc 2 k c a.2 fun l _x=>cI 0 l fun m=>ax 1 false m a.2 fun n _x=>bg .u8 n fun o=>aW (o==1) (some ([.bool true],Prod.snd a)) (cu (notNil b) (cI 0 b fun p=>ax 1 false p a.2 fun q _x=>fc 2 q c a.2 fun r _x=>cI 0 r fun s=>ax 1 false s a.2 fun t _x=>bg .u8 t fun u=>some ([.bool (u==2)],Prod.snd a))))) (some ([.bool false],Prod.snd a)))) fun d=>br d.1 fun v w=>bG v fun y=>bE w (aW y (aN (IntKind.wrap .i64 (c+1)) fun z=>some (Sum.inl ([.int .i64 z],Prod.snd d))) (some (Sum.inr (0,[.int .i64 c],Prod.snd d)))))
noncomputable def NB:AV->St->Option (AV×St):=fun a st=>cu (notNil a) (cI 1 a fun c=>ax 1 false c st fun d _x=>bg .i64 d fun e=>aB (aI (rC a) ([.int .i64 e],st)) fun b=>br b.2.1 fun f g=>bg .i64 f fun h=>bE g (some (.int .i64 h,Prod.snd b.2)))
theorem IY (a:AV) (st:St):cE vE 63 [a] st=NB a st:=by kernel_rfl
noncomputable def Nz:AV->St->Option (AV×St):=fun c st=>aU 33 [c] st fun g a _x=>cW g fun i j=>(ba (St.add a (VM.Obj.cells 24 [.int .u8 0,.str []])) fun k=>cL 2 (.mp (St.h a) 0) [.int .u8 i,.str j] k fun _x d _x_1=>aB (ax 2 true (.mp (St.h a) 0) d fun l _x=>cW l fun m n=>(aU 85 [.agg [.int .u8 m,.str n]] d fun o b _x=>bG o fun p=>aW p (some ([.bool true],b)) (ax 1 false (.mp (St.h a) 0) b fun q _x=>bg .u8 q fun r=>aW (r==9) (some ([.bool true],b)) (aU 34 [c,.str [95]] b fun s e _x=>bG s fun t=>aW t (some ([.bool true],e)) (aU 86 [c] e fun u v _x=>bG u fun w=>some ([.bool w],v)))))) fun f=>br f.1 fun y z=>bG y fun x=>bE z (some (.bool x,Prod.snd f)))
theorem JA (a:AV) (st:St):cE vE 64 [a] st=Nz a st:=by kernel_rfl
noncomputable def MJ:AV->St->Option (AV×St):=fun a st=>ba (St.add st (VM.Obj.cells 27 (nC 0 0 [] .aG))) fun s=>aU 33 [a] s fun t c _x=>cW t fun u v=>(ba (St.add c (VM.Obj.cells 24 [.int .u8 0,.str []])) fun w=>cL 2 (.mp (St.h c) 0) [.int .u8 u,.str v] w fun _x e _x_1=>aB (ax 2 true (.mp (St.h c) 0) e fun y _x=>cW y fun z x=>(aU 85 [.agg [.int .u8 z,.str x]] e fun A f _x=>bG A fun B=>aW B (some ([.bool true],f)) (aU 34 [a,.str [95]] f fun C D _x=>bG C fun E=>some ([.bool E],D)))) fun b=>br b.1 fun F G=>bG F fun H=>bE G (aW H (aU 35 [a] b.2 fun I b0 _x=>ag I fun b1 J K g=>(ab g (cL 4 (.mp (St.h st) 0) (nC b1 J K g) b0 fun _x i _x_2=>ax 4 true (.mp (St.h st) 0) i fun L _x=>ag L fun M N O P=>(some (nA M N O P,i))))) (ax 1 false (.mp (St.h c) 0) b.2 fun Q _x=>bg .u8 Q fun c0=>aW (c0==9) (aU 35 [a] b.2 fun c1 c2 _x=>ag c1 fun c3 R S d=>(ab d (ab d (aJ d fun T=>cL 4 (.mp (St.h st) 0) [.int .u8 3,.int .u8 0,.str [],.sl 4 [nA c3 R S T] .shut] c2 fun _x j _x_2=>ax 4 true (.mp (St.h st) 0) j fun U _x=>ag U fun V W X Y=>(some (nA V W X Y,j)))))) (aU 34 [a,.str [40]] b.2 fun Z k _x=>bG Z fun d3=>aW d3 (aU 87 [a,.int .u8 17,.str [44],.str [41],.bool true] k fun d4 d5 _x=>ag d4 fun d6 d7 d8 l=>(ab l (cL 4 (.mp (St.h st) 0) (nC d6 d7 d8 l) d5 fun _x m _x_2=>ax 4 true (.mp (St.h st) 0) m fun d9 _x=>ag d9 fun e0 e1 e2 e3=>(some (nA e0 e1 e2 e3,m))))) (aU 34 [a,.str [91]] k fun e4 n _x=>bG e4 fun e5=>aW e5 (aU 87 [a,.int .u8 18,.str [59],.str [93],.bool true] n fun e6 e7 _x=>ag e6 fun e8 e9 f0 o=>(ab o (cL 4 (.mp (St.h st) 0) (nC e8 e9 f0 o) e7 fun _x p _x_2=>ax 4 true (.mp (St.h st) 0) p fun f1 _x=>ag f1 fun f2 f3 f4 f5=>(some (nA f2 f3 f4 f5,p))))) (aU 88 [.str [112,97,116,116,101,114,110]] n fun f6 f7 _x=>ag f6 fun f8 f9 h0 q=>(ab q (cL 4 (.mp (St.h st) 0) (nC f8 f9 h0 q) f7 fun _x r _x_2=>ax 4 true (.mp (St.h st) 0) r fun h1 _x=>ag h1 fun h2 h3 h4 h5=>(some (nA h2 h3 h4 h5,r))))))))))
theorem Ju (a:AV) (st:St):cE vE 65 [a] st=MJ a st:=by kernel_rfl
noncomputable def MW:AV->AV->St->Option (AV×St):=fun a i st=>dV i fun b=>ba (St.add st (VM.Obj.cells 27 (nC 0 0 [] .aG))) fun j=>aU 34 [a,.str b] j fun k c _x=>bG k fun l=>aW l (aU 35 [a] c fun m n _x=>ag m fun o p q d=>(ab d (cL 4 (.mp (St.h st) 0) (nC o p q d) n fun _x e _x_1=>ax 4 true (.mp (St.h st) 0) e fun r _x=>ag r fun s t u v=>(some (nA s t u v,e))))) (aU 88 [.str b] c fun w y _x=>ag w fun z x A f=>(ab f (cL 4 (.mp (St.h st) 0) (nC z x A f) y fun _x g _x_1=>ax 4 true (.mp (St.h st) 0) g fun B _x=>ag B fun C D E F=>(some (nA C D E F,g)))))
theorem ID (a b:AV) (st:St):cE vE 66 [a,b] st=MW a b st:=by kernel_rfl
noncomputable def MI:AV->St->Option (AV×St):=fun a st=>ba (St.add st (VM.Obj.cells 27 (nC 0 0 [] .aG))) fun b=>cu (notNil a) (cI 2 a fun n=>ax 1 false n b fun o _x=>bg .i64 o fun p=>aW (p==64) (aU 89 [a,.str [101,120,112,114]] b fun q r _x=>ag q fun s t u d=>(ab d (cL 4 (.mp (St.h st) 0) (nC s t u d) r fun _x e _x_1=>ax 4 true (.mp (St.h st) 0) e fun v _x=>ag v fun w y z x=>(some (nA w y z x,e))))) (cu (notNil a) (cI 2 a fun A=>ax 1 false A b fun B _x=>bg .i64 B fun C=>aN (IntKind.wrap .i64 (C+1)) fun f=>cu (notNil a) (cI 2 a fun D=>bn (bc vE) 1 D (.int .i64 f) [.int .i64 f] b fun _x E _x_1=>aU 90 [a] E fun F c _x=>ag F fun G H I g=>(ba (St.add c (VM.Obj.cells 27 (nC 0 0 [] .aG))) fun b0=>ab g (cL 4 (.mp (St.h c) 0) (nC G H I g) b0 fun _x i _x_2=>cu (notNil a) (cI 2 a fun b1=>ax 1 false b1 i fun J _x=>bg .i64 J fun K=>aN (IntKind.wrap .i64 (K - 1)) fun j=>cu (notNil a) (cI 2 a fun L=>bn (bc vE) 1 L (.int .i64 j) [.int .i64 j] i fun _x k _x_3=>ax 4 true (.mp (St.h c) 0) k fun M _x=>ag M fun N O P l=>(ab l (cL 4 (.mp (St.h st) 0) (nC N O P l) k fun _x m _x_4=>ax 4 true (.mp (St.h st) 0) m fun Q _x=>ag Q fun c0 c1 c2 c3=>(some (nA c0 c1 c2 c3,m))))))))))))
theorem Ic (a:AV) (st:St):cE vE 67 [a] st=MI a st:=by kernel_rfl
noncomputable def MK:AV->Option AV:=fun c=>cW c fun a b=>(aB (aW (a==4) (some ([.bool true],sZ)) (aW (a==5) (some ([.bool true],sZ)) (aW (a==7) (some ([.bool true],sZ)) (aW (a==3) (aW (b==[116,114,117,101]) (some ([.bool true],sZ)) (some ([.bool (b==[102,97,108,115,101])],sZ))) (some ([.bool false],sZ)))))) fun d=>br d.1 fun e f=>bG e fun g=>bE f (some (.bool g)))
theorem Ir (a:AV):bT vE 85 [a]=MK a:=by kernel_rfl
noncomputable def M9:AV->St->Option (AV×St):=fun a st=>aB (aU 34 [a,.str [40]] st fun d b _x=>bG d fun e=>aW e (some ([.bool true],b)) (aU 34 [a,.str [91]] b fun f g _x=>bG f fun h=>some ([.bool h],g))) fun c=>br c.1 fun i j=>bG i fun k=>bE j (some (.bool k,Prod.snd c))
theorem I6 (a:AV) (st:St):cE vE 86 [a] st=M9 a st:=by kernel_rfl
noncomputable def pW (b:AV) (o:List UInt8) (p:Bool) (a:St):bR->Option (bR ⊕ Nat×bR):=fun i=>bE i.1 (aU 34 [b,.str o] i.2 fun q c _x=>bG q fun r=>aW r (ax 1 false (.mp (St.h a) 3) c fun s t=>aU 35 [b] c fun u v j=>ag u fun w y z d=>(cu (apart (Fx.mk t dL.kept) j&&(apart (⟨[],.kept⟩) j&&true)) (ab d (ab d (aJ d fun k=>ab k (aJ k fun x=>cq 4 56 27 s [nA w y z x] v fun e A _x=>ab e (ab e (iC (.mp (St.h a) 3) e A fun _x l _x_1=>ax 1 false (.mp (St.h a) 3) l fun B C=>aU 108 [b,.bool p] l fun D E m=>ag D fun F G H f=>(cu (apart (Fx.mk C dL.kept) m&&(apart (⟨[],.kept⟩) m&&true)) (ab f (ab f (aJ f fun n=>ab n (aJ n fun I=>cq 4 56 27 B [nA F G H I] E fun g b0 _x=>ab g (ab g (iC (.mp (St.h a) 3) g b0 fun _x b1 _x_2=>some (Sum.inl ([],b1))))))))))))))))) (some (Sum.inr (0,[],c))))
noncomputable def Nh:AV->AV->AV->AV->AV->St->Option (AV×St):=fun b A B C D st=>bg .u8 A fun E=>dV B fun l1=>dV C fun m=>bG D fun n=>ba (St.add st (VM.Obj.cells 27 (nC 0 0 [] .aG))) fun F=>aU 35 [b] F fun G a _x=>ag G fun H I J d=>(ab d (ab d (aJ d fun K=>ba (St.add a (VM.Obj.cells 27 (nC 0 0 [] .aG))) fun L=>cL 4 (.mp (St.h a) 0) [.int .u8 E,.int .u8 0,.str [],.sl 4 [nA H I J K] .shut] L fun _x M _x_1=>aU 34 [b,.str m] M fun N c _x=>bG N fun O=>aW O (ax 1 false (.mp (St.h a) 3) c fun b0 b1=>aU 35 [b] c fun P Q o=>ag P fun R S T e=>(cu (apart (Fx.mk b1 dL.kept) o&&(apart (⟨[],.kept⟩) o&&true)) (ab e (ab e (aJ e fun p=>ab p (aJ p fun U=>cq 4 56 27 b0 [nA R S T U] Q fun f V _x=>ab f (ab f (iC (.mp (St.h a) 3) f V fun _x q _x_2=>ax 4 true (.mp (St.h a) 0) q fun W _x=>ag W fun c0 c1 c2 r=>(ab r (cL 4 (.mp (St.h st) 0) (nC c0 c1 c2 r) q fun _x s _x_3=>ax 4 true (.mp (St.h st) 0) s fun c3 _x=>ag c3 fun X Y Z c7=>(some (nA X Y Z c7,s)))))))))))) (ax 1 false (.mp (St.h a) 3) c fun c8 c9=>aU 108 [b,.bool n] c fun d0 d1 t=>ag d0 fun d2 d3 d4 g=>(cu (apart (Fx.mk c9 dL.kept) t&&(apart (⟨[],.kept⟩) t&&true)) (ab g (ab g (aJ g fun u=>ab u (aJ u fun d5=>cq 4 56 27 c8 [nA d2 d3 d4 d5] d1 fun i d6 _x=>ab i (ab i (iC (.mp (St.h a) 3) i d6 fun _x d7 _x_2=>aB (aI (pW b l1 n a) ([],d7)) fun j=>bE j.2.1 (ax 1 false (.mp (St.h a) 3) j.2.2 fun d8 d9=>aU 66 [b,.str m] j.2.2 fun e0 e1 v=>ag e0 fun e2 e3 e4 k=>(cu (apart (Fx.mk d9 dL.kept) v&&(apart (⟨[],.kept⟩) v&&true)) (ab k (ab k (aJ k fun w=>ab w (aJ w fun e5=>cq 4 56 27 d8 [nA e2 e3 e4 e5] e1 fun l e6 _x=>ab l (ab l (iC (.mp (St.h a) 3) l e6 fun _x y _x_3=>ax 4 true (.mp (St.h a) 0) y fun e7 _x=>ag e7 fun e8 e9 f0 z=>(ab z (cL 4 (.mp (St.h st) 0) (nC e8 e9 f0 z) y fun _x x _x_4=>ax 4 true (.mp (St.h st) 0) x fun f1 _x=>ag f1 fun f2 f3 f4 f5=>(some (nA f2 f3 f4 f5,x)))))))))))))))))))))))
theorem IV (a b c d e:AV) (st:St):cE vE 87 [a,b,c,d,e] st=Nh a b c d e st:=by kernel_rfl
noncomputable def Ng:AV->Option AV:=fun a=>dV a fun b=>some (nA 2 0 b .aG)
theorem Jw (a:AV):bT vE 88 [a]=Ng a:=by kernel_rfl
noncomputable def Nq:AV->AV->St->Option (AV×St):=fun b g st=>dV g fun i=>ba (St.add st (VM.Obj.cells 27 (nC 0 0 [] .aG))) fun j=>aU 33 [b] j fun k c _x=>cW k fun l _x=>(aW (l==0) (aU 88 [.str i] c fun m n _x=>ag m fun o p q d=>(ab d (cL 4 (.mp (St.h st) 0) (nC o p q d) n fun _x e _x_1=>ax 4 true (.mp (St.h st) 0) e fun r _x=>ag r fun s t u v=>(some (nA s t u v,e))))) (aU 35 [b] c fun w y _x=>ag w fun z x A a=>(ab a (ab a (aJ a fun B=>cL 4 (.mp (St.h st) 0) [.int .u8 3,.int .u8 0,.str [],.sl 4 [nA z x A B] .shut] y fun _x f _x_1=>ax 4 true (.mp (St.h st) 0) f fun C _x=>ag C fun D E F G=>(some (nA D E F G,f)))))))
theorem IA (a b:AV) (st:St):cE vE 89 [a,b] st=Nq a b st:=by kernel_rfl
noncomputable def pZ (d:AV) (e:St):bR->Option (bR ⊕ Nat×bR):=fun f=>bE f.1 (aU 64 [d] f.2 fun j a _x=>bG j fun k=>aW k (ax 1 false (.mp (St.h e) 3) a fun l m=>aU 65 [d] a fun n o g=>ag n fun p q r b=>(cu (apart (Fx.mk m dL.kept) g&&(apart (⟨[],.kept⟩) g&&true)) (ab b (ab b (aJ b fun i=>ab i (aJ i fun s=>cq 4 56 27 l [nA p q r s] o fun c t _x=>ab c (ab c (iC (.mp (St.h e) 3) c t fun _x u _x_1=>some (Sum.inl ([],u)))))))))) (some (Sum.inr (0,[],a))))
noncomputable def pJ (b:AV) (a:St):bR->Option (bR ⊕ Nat×bR):=fun i=>bE i.1 (aU 34 [b,.str [124]] i.2 fun o c _x=>bG o fun p=>aW p (ax 1 false (.mp (St.h a) 3) c fun q r=>aU 35 [b] c fun s t j=>ag s fun u v w d=>(cu (apart (Fx.mk r dL.kept) j&&(apart (⟨[],.kept⟩) j&&true)) (ab d (ab d (aJ d fun k=>ab k (aJ k fun y=>cq 4 56 27 q [nA u v w y] t fun e z _x=>ab e (ab e (iC (.mp (St.h a) 3) e z fun _x l _x_1=>ax 1 false (.mp (St.h a) 3) l fun x A=>aU 109 [b] l fun B C m=>ag B fun D E F f=>(cu (apart (Fx.mk A dL.kept) m&&(apart (⟨[],.kept⟩) m&&true)) (ab f (ab f (aJ f fun n=>ab n (aJ n fun G=>cq 4 56 27 x [nA D E F G] C fun g H _x=>ab g (ab g (iC (.mp (St.h a) 3) g H fun _x I _x_2=>some (Sum.inl ([],I))))))))))))))))) (some (Sum.inr (0,[],c))))
noncomputable def MX:AV->St->Option (AV×St):=fun a st=>ba (St.add st (VM.Obj.cells 27 (nC 0 0 [] .aG))) fun i4=>aU 34 [a,.str [108,101,116]] i4 fun v1 b7 _x=>bG v1 fun x=>aW x (aU 35 [a] b7 fun A i5 _x=>ag A fun i6 i7 i8 f=>(ab f (ab f (aJ f fun i9=>aU 36 [a,.agg [.int .u8 6,.int .u8 0,.str [],.sl 4 [nA i6 i7 i8 i9] .shut]] i5 fun j0 e _x=>ag j0 fun j1 j2 j3 b8=>(ba (St.add e (VM.Obj.cells 27 (nC 0 0 [] .aG))) fun j4=>ab b8 (cL 4 (.mp (St.h e) 0) (nC j1 j2 j3 b8) j4 fun _x b9 _x_1=>ax 1 false (.mp (St.h e) 3) b9 fun j5 j6=>aU 66 [a,.str [105,110]] b9 fun j7 j8 c0=>ag j7 fun j9 k0 k1 g=>(cu (apart (Fx.mk j6 dL.kept) c0&&(apart (⟨[],.kept⟩) c0&&true)) (ab g (ab g (aJ g fun c1=>ab c1 (aJ c1 fun k2=>cq 4 56 27 j5 [nA j9 k0 k1 k2] j8 fun i k3 _x=>ab i (ab i (iC (.mp (St.h e) 3) i k3 fun _x c2 _x_2=>ax 1 false (.mp (St.h e) 3) c2 fun k4 k5=>aU 67 [a] c2 fun k6 k7 c3=>ag k6 fun k8 k9 m0 j=>(cu (apart (Fx.mk k5 dL.kept) c3&&(apart (⟨[],.kept⟩) c3&&true)) (ab j (ab j (aJ j fun c4=>ab c4 (aJ c4 fun m1=>cq 4 56 27 k4 [nA k8 k9 m0 m1] k7 fun k m2 _x=>ab k (ab k (iC (.mp (St.h e) 3) k m2 fun _x c5 _x_3=>ax 4 true (.mp (St.h e) 0) c5 fun m3 _x=>ag m3 fun m4 m5 m6 c6=>(ab c6 (cL 4 (.mp (St.h st) 0) (nC m4 m5 m6 c6) c5 fun _x c7 _x_4=>ax 4 true (.mp (St.h st) 0) c7 fun m7 _x=>ag m7 fun m8 m9 n0 n1=>(some (nA m8 m9 n0 n1,c7)))))))))))))))))))))))) (aU 34 [a,.str [102,117,110]] b7 fun n2 c8 _x=>bG n2 fun n3=>aW n3 (aU 35 [a] c8 fun n4 d _x=>ag n4 fun n5 n6 n7 l=>(ab l (ab l (aJ l fun n8=>ba (St.add d (VM.Obj.cells 27 (nC 0 0 [] .aG))) fun n9=>cL 4 (.mp (St.h d) 0) [.int .u8 7,.int .u8 0,.str [],.sl 4 [nA n5 n6 n7 n8] .shut] n9 fun _x c9 _x_1=>ax 1 false (.mp (St.h d) 3) c9 fun o0 o1=>aU 65 [a] c9 fun o2 o3 d0=>ag o2 fun o4 o5 o6 m=>(cu (apart (Fx.mk o1 dL.kept) d0&&(apart (⟨[],.kept⟩) d0&&true)) (ab m (ab m (aJ m fun d1=>ab d1 (aJ d1 fun o7=>cq 4 56 27 o0 [nA o4 o5 o6 o7] o3 fun n o8 _x=>ab n (ab n (iC (.mp (St.h d) 3) n o8 fun _x o9 _x_2=>aB (aI (pZ a d) ([],o9)) fun o=>bE o.2.1 (ax 1 false (.mp (St.h d) 3) o.2.2 fun p0 p1=>aU 66 [a,.str [45,62]] o.2.2 fun p2 p3 d2=>ag p2 fun p4 p5 p6 p=>(cu (apart (Fx.mk p1 dL.kept) d2&&(apart (⟨[],.kept⟩) d2&&true)) (ab p (ab p (aJ p fun d3=>ab d3 (aJ d3 fun p7=>cq 4 56 27 p0 [nA p4 p5 p6 p7] p3 fun q p8 _x=>ab q (ab q (iC (.mp (St.h d) 3) q p8 fun _x d4 _x_3=>ax 1 false (.mp (St.h d) 3) d4 fun p9 q0=>aU 67 [a] d4 fun q1 q2 d5=>ag q1 fun q3 q4 q5 r=>(cu (apart (Fx.mk q0 dL.kept) d5&&(apart (⟨[],.kept⟩) d5&&true)) (ab r (ab r (aJ r fun d6=>ab d6 (aJ d6 fun q6=>cq 4 56 27 p9 [nA q3 q4 q5 q6] q2 fun s q7 _x=>ab s (ab s (iC (.mp (St.h d) 3) s q7 fun _x d7 _x_4=>ax 4 true (.mp (St.h d) 0) d7 fun q8 _x=>ag q8 fun q9 s0 s1 d8=>(ab d8 (cL 4 (.mp (St.h st) 0) (nC q9 s0 s1 d8) d7 fun _x d9 _x_5=>ax 4 true (.mp (St.h st) 0) d9 fun s2 _x=>ag s2 fun s3 s4 s5 s6=>(some (nA s3 s4 s5 s6,d9)))))))))))))))))))))))))))))) (aU 34 [a,.str [105,102]] c8 fun s7 e0 _x=>bG s7 fun s8=>aW s8 (aU 35 [a] e0 fun s9 b _x=>ag s9 fun t0 t1 t2 t=>(ab t (ab t (aJ t fun t3=>ba (St.add b (VM.Obj.cells 27 (nC 0 0 [] .aG))) fun t4=>cL 4 (.mp (St.h b) 0) [.int .u8 8,.int .u8 0,.str [],.sl 4 [nA t0 t1 t2 t3] .shut] t4 fun _x e1 _x_1=>ax 1 false (.mp (St.h b) 3) e1 fun t5 t6=>aU 67 [a] e1 fun t7 t8 e2=>ag t7 fun t9 u0 u1 u=>(cu (apart (Fx.mk t6 dL.kept) e2&&(apart (⟨[],.kept⟩) e2&&true)) (ab u (ab u (aJ u fun e3=>ab e3 (aJ e3 fun u2=>cq 4 56 27 t5 [nA t9 u0 u1 u2] t8 fun v u3 _x=>ab v (ab v (iC (.mp (St.h b) 3) v u3 fun _x e4 _x_2=>ax 1 false (.mp (St.h b) 3) e4 fun u4 u5=>aU 66 [a,.str [116,104,101,110]] e4 fun u6 u7 e5=>ag u6 fun u9 v0 v1 w=>(cu (apart (Fx.mk u5 dL.kept) e5&&(apart (⟨[],.kept⟩) e5&&true)) (ab w (ab w (aJ w fun e6=>ab e6 (aJ e6 fun v2=>cq 4 56 27 u4 [nA u9 v0 v1 v2] u7 fun y v3 _x=>ab y (ab y (iC (.mp (St.h b) 3) y v3 fun _x e7 _x_3=>ax 1 false (.mp (St.h b) 3) e7 fun v4 A=>aU 67 [a] e7 fun v6 v7 e8=>ag v6 fun v8 v9 x0 z=>(cu (apart (Fx.mk A dL.kept) e8&&(apart (⟨[],.kept⟩) e8&&true)) (ab z (ab z (aJ z fun e9=>ab e9 (aJ e9 fun x1=>cq 4 56 27 v4 [nA v8 v9 x0 x1] v7 fun B x2 _x=>ab B (ab B (iC (.mp (St.h b) 3) B x2 fun _x f0 _x_4=>ax 1 false (.mp (St.h b) 3) f0 fun x3 x4=>aU 66 [a,.str [101,108,115,101]] f0 fun x5 x6 f1=>ag x5 fun x7 x8 x9 C=>(cu (apart (Fx.mk x4 dL.kept) f1&&(apart (⟨[],.kept⟩) f1&&true)) (ab C (ab C (aJ C fun f2=>ab f2 (aJ f2 fun y0=>cq 4 56 27 x3 [nA x7 x8 x9 y0] x6 fun D y1 _x=>ab D (ab D (iC (.mp (St.h b) 3) D y1 fun _x f3 _x_5=>ax 1 false (.mp (St.h b) 3) f3 fun y2 y3=>aU 67 [a] f3 fun y4 y5 f4=>ag y4 fun y6 y7 y8 E=>(cu (apart (Fx.mk y3 dL.kept) f4&&(apart (⟨[],.kept⟩) f4&&true)) (ab E (ab E (aJ E fun f5=>ab f5 (aJ f5 fun y9=>cq 4 56 27 y2 [nA y6 y7 y8 y9] y5 fun F z0 _x=>ab F (ab F (iC (.mp (St.h b) 3) F z0 fun _x f6 _x_6=>ax 4 true (.mp (St.h b) 0) f6 fun z1 _x=>ag z1 fun z2 z3 z4 f7=>(ab f7 (cL 4 (.mp (St.h st) 0) (nC z2 z3 z4 f7) f6 fun _x f8 _x_7=>ax 4 true (.mp (St.h st) 0) f8 fun z5 _x=>ag z5 fun z6 z7 z8 z9=>(some (nA z6 z7 z8 z9,f8))))))))))))))))))))))))))))))))))))))))))) (aU 34 [a,.str [109,97,116,99,104]] e0 fun G f9 _x=>bG G fun H=>aW H (aU 35 [a] f9 fun I c _x=>ag I fun J K L M=>(ab M (ab M (aJ M fun N=>ba (St.add c (VM.Obj.cells 27 (nC 0 0 [] .aG))) fun O=>cL 4 (.mp (St.h c) 0) [.int .u8 9,.int .u8 0,.str [],.sl 4 [nA J K L N] .shut] O fun _x h0 _x_1=>ax 1 false (.mp (St.h c) 3) h0 fun P Q=>aU 67 [a] h0 fun R S h1=>ag R fun T U V W=>(cu (apart (Fx.mk Q dL.kept) h1&&(apart (⟨[],.kept⟩) h1&&true)) (ab W (ab W (aJ W fun h2=>ab h2 (aJ h2 fun X=>cq 4 56 27 P [nA T U V X] S fun Y Z _x=>ab Y (ab Y (iC (.mp (St.h c) 3) Y Z fun _x h3 _x_2=>ax 1 false (.mp (St.h c) 3) h3 fun av bb=>aU 66 [a,.str [119,105,116,104]] h3 fun cc cd h4=>ag cc fun cn cv cz a8=>(cu (apart (Fx.mk bb dL.kept) h4&&(apart (⟨[],.kept⟩) h4&&true)) (ab a8 (ab a8 (aJ a8 fun h5=>ab h5 (aJ h5 fun de=>cq 4 56 27 av [nA cn cv cz de] cd fun a9 dk _x=>ab a9 (ab a9 (iC (.mp (St.h c) 3) a9 dk fun _x dx _x_3=>aU 34 [a,.str [124]] dx fun ea b0 _x=>bG ea fun ed=>aB (aW ed (ax 1 false (.mp (St.h c) 3) b0 fun ee eg=>aU 35 [a] b0 fun ei ej h6=>ag ei fun ek eo et b1=>(cu (apart (Fx.mk eg dL.kept) h6&&(apart (⟨[],.kept⟩) h6&&true)) (ab b1 (ab b1 (aJ b1 fun h7=>ab h7 (aJ h7 fun ez=>cq 4 56 27 ee [nA ek eo et ez] ej fun b2 eF _x=>ab b2 (ab b2 (iC (.mp (St.h c) 3) b2 eF fun _x eT _x_4=>some ([],eT))))))))) (some ([],b0))) fun b3=>bE b3.1 (ax 1 false (.mp (St.h c) 3) b3.2 fun fi ft=>aU 109 [a] b3.2 fun fv fx h8=>ag fv fun gg hh hp x=>(cu (apart (Fx.mk ft dL.kept) h8&&(apart (⟨[],.kept⟩) h8&&true)) (ab x (ab x (aJ x fun h9=>ab h9 (aJ h9 fun hq=>cq 4 56 27 fi [nA gg hh hp hq] fx fun b5 hD _x=>ab b5 (ab b5 (iC (.mp (St.h c) 3) b5 hD fun _x hE _x_4=>aB (aI (pJ a c) ([],hE)) fun b6=>bE b6.2.1 (ax 4 true (.mp (St.h c) 0) b6.2.2 fun hF _x=>ag hF fun hI hJ hM i0=>(ab i0 (cL 4 (.mp (St.h st) 0) (nC hI hJ hM i0) b6.2.2 fun _x i1 _x_5=>ax 4 true (.mp (St.h st) 0) i1 fun hN _x=>ag hN fun hO hQ hR hX=>(some (nA hO hQ hR hX,i1))))))))))))))))))))))))))))))) (aU 110 [a,.int .i64 0] f9 fun hY hZ _x=>ag hY fun ie iv ix i2=>(ab i2 (cL 4 (.mp (St.h st) 0) (nC ie iv ix i2) hZ fun _x i3 _x_1=>ax 4 true (.mp (St.h st) 0) i3 fun jj _x=>ag jj fun ka kb kd kf=>(some (nA ka kb kd kf,i3))))))))
theorem Jl (a:AV) (st:St):cE vE 90 [a] st=MX a st:=by kernel_rfl
noncomputable def Lk:AV->AV->St->Option (AV×St):=fun a g st=>bG g fun i=>ba (St.add st (VM.Obj.cells 27 (nC 0 0 [] .aG))) fun b=>aW i (aU 120 [a] b fun j k _x=>ag j fun l m n c=>(ab c (cL 4 (.mp (St.h st) 0) (nC l m n c) k fun _x d _x_1=>ax 4 true (.mp (St.h st) 0) d fun o _x=>ag o fun p q r s=>(some (nA p q r s,d))))) (aU 67 [a] b fun t u _x=>ag t fun v w y e=>(ab e (cL 4 (.mp (St.h st) 0) (nC v w y e) u fun _x f _x_1=>ax 4 true (.mp (St.h st) 0) f fun z _x=>ag z fun x A B C=>(some (nA x A B C,f)))))
theorem F2 (a b:AV) (st:St):cE vE 108 [a,b] st=Lk a b st:=by kernel_rfl
noncomputable def K3:AV->St->Option (AV×St):=fun b st=>ba (St.add st (VM.Obj.cells 27 (nC 0 0 [] .aG))) fun a=>ba (St.add a (VM.Obj.cells 27 (nC 0 0 [] .aG))) fun v=>cL 4 (.mp (St.h a) 0) (nC 10 0 [] .aG) v fun _x j _x_1=>ax 1 false (.mp (St.h a) 3) j fun w y=>aU 120 [b] j fun z x k=>ag z fun A B C c=>(cu (apart (Fx.mk y dL.kept) k&&(apart (⟨[],.kept⟩) k&&true)) (ab c (ab c (aJ c fun l=>ab l (aJ l fun D=>cq 4 56 27 w [nA A B C D] x fun d E _x=>ab d (ab d (iC (.mp (St.h a) 3) d E fun _x m _x_2=>ax 1 false (.mp (St.h a) 3) m fun F G=>aU 66 [b,.str [45,62]] m fun H I n=>ag H fun b0 b1 J e=>(cu (apart (Fx.mk G dL.kept) n&&(apart (⟨[],.kept⟩) n&&true)) (ab e (ab e (aJ e fun o=>ab o (aJ o fun K=>cq 4 56 27 F [nA b0 b1 J K] I fun f L _x=>ab f (ab f (iC (.mp (St.h a) 3) f L fun _x p _x_3=>ax 1 false (.mp (St.h a) 3) p fun M N=>aU 67 [b] p fun O P q=>ag O fun Q c0 c1 g=>(cu (apart (Fx.mk N dL.kept) q&&(apart (⟨[],.kept⟩) q&&true)) (ab g (ab g (aJ g fun r=>ab r (aJ r fun c2=>cq 4 56 27 M [nA Q c0 c1 c2] P fun i c3 _x=>ab i (ab i (iC (.mp (St.h a) 3) i c3 fun _x s _x_4=>ax 4 true (.mp (St.h a) 0) s fun R _x=>ag R fun S T U t=>(ab t (cL 4 (.mp (St.h st) 0) (nC S T U t) s fun _x u _x_5=>ax 4 true (.mp (St.h st) 0) u fun V _x=>ag V fun W X Y Z=>(some (nA W X Y Z,u)))))))))))))))))))))))))
theorem GQ (a:AV) (st:St):cE vE 109 [a] st=K3 a st:=by kernel_rfl
noncomputable def mr (a:AV) (g:Int) (i:St):bR->Option (bR ⊕ Nat×bR):=fun j=>bE j.1 (aU 123 [.int .i64 g] j.2 fun n o _x=>aU 122 [a,n] o fun p k _x=>bG p fun q=>aW q (aU 35 [a] k fun r b _x=>ag r fun s t u l=>(ba (St.add b (VM.Obj.cells 27 (nC 0 0 [] .aG))) fun v=>ab l (cL 4 (.mp (St.h b) 0) (nC s t u l) v fun _x c _x_1=>ax 4 true (.mp (St.h i) 0) c fun w y=>ag w fun z x A d=>(ax 4 true (.mp (St.h b) 0) c fun B C=>ag B fun D E F e=>(aU 121 [a,.int .i64 g] c fun G H m=>ag G fun I b0 b1 f=>(cu (apart (Fx.mk C dL.kept) m&&(apart (Fx.mk y dL.kept) m&&true)) (ab d (ab e (ab f (ab d (aJ d fun J=>ab e (aJ e fun K=>ab f (aJ f fun L=>cL 4 (.mp (St.h i) 0) [.int .u8 11,.int .u8 0,.str [],.sl 4 [nA z x A J,nA D E F K,nA I b0 b1 L] .shut] H fun _x M _x_2=>some (Sum.inl ([],M))))))))))))))) (some (Sum.inr (0,[],k))))
noncomputable def Lj:AV->AV->St->Option (AV×St):=fun c v st=>bg .i64 v fun a=>ba (St.add st (VM.Obj.cells 27 (nC 0 0 [] .aG))) fun w=>aU 121 [c,.int .i64 a] w fun y b _x=>ag y fun z x A m=>(ba (St.add b (VM.Obj.cells 27 (nC 0 0 [] .aG))) fun B=>ab m (cL 4 (.mp (St.h b) 0) (nC z x A m) B fun _x n _x_1=>aB (aW (a==2) (some ([.bool true],n)) (some ([.bool (decide (a>=5))],n))) fun d=>br d.1 fun C D=>bG C fun E=>bE D (aW E (aB (aI (mr c a b) ([],Prod.snd d)) fun e=>bE e.2.1 (ax 4 true (.mp (St.h b) 0) e.2.2 fun F _x=>ag F fun G H I o=>(ab o (cL 4 (.mp (St.h st) 0) (nC G H I o) e.2.2 fun _x p _x_2=>ax 4 true (.mp (St.h st) 0) p fun b0 _x=>ag b0 fun b1 J K L=>(some (nA b1 J K L,p)))))) (aU 123 [.int .i64 a] d.2 fun M N _x=>aU 122 [c,M] N fun O f _x=>bG O fun P=>aW P (aU 35 [c] f fun Q g _x=>ag Q fun c0 c1 c2 q=>(ba (St.add g (VM.Obj.cells 27 (nC 0 0 [] .aG))) fun c3=>ab q (cL 4 (.mp (St.h g) 0) (nC c0 c1 c2 q) c3 fun _x i _x_2=>ax 4 true (.mp (St.h b) 0) i fun R S=>ag R fun T U V j=>(ax 4 true (.mp (St.h g) 0) i fun W X=>ag W fun Y Z d3 k=>(aU 110 [c,.int .i64 a] i fun d4 d5 r=>ag d4 fun d6 d7 d8 l=>(cu (apart (Fx.mk X dL.kept) r&&(apart (Fx.mk S dL.kept) r&&true)) (ab j (ab k (ab l (ab j (aJ j fun d9=>ab k (aJ k fun e0=>ab l (aJ l fun e1=>cL 4 (.mp (St.h st) 0) [.int .u8 11,.int .u8 0,.str [],.sl 4 [nA T U V d9,nA Y Z d3 e0,nA d6 d7 d8 e1] .shut] d5 fun _x s _x_3=>ax 4 true (.mp (St.h st) 0) s fun e2 _x=>ag e2 fun e3 e4 e5 e6=>(some (nA e3 e4 e5 e6,s))))))))))))))) (ax 4 true (.mp (St.h b) 0) f fun e7 _x=>ag e7 fun e8 e9 f0 t=>(ab t (cL 4 (.mp (St.h st) 0) (nC e8 e9 f0 t) f fun _x u _x_2=>ax 4 true (.mp (St.h st) 0) u fun f1 _x=>ag f1 fun f2 f3 f4 f5=>(some (nA f2 f3 f4 f5,u)))))))))
theorem F6 (a b:AV) (st:St):cE vE 110 [a,b] st=Lj a b st:=by kernel_rfl
noncomputable def Lc:AV->St->Option (AV×St):=fun a st=>ba (St.add st (VM.Obj.cells 27 (nC 0 0 [] .aG))) fun c=>cu (notNil a) (cI 2 a fun v=>ax 1 false v c fun w _x=>bg .i64 w fun y=>aW (y==64) (aU 89 [a,.str [112,97,116,116,101,114,110]] c fun z x _x=>ag z fun A B C k=>(ab k (cL 4 (.mp (St.h st) 0) (nC A B C k) x fun _x l _x_1=>ax 4 true (.mp (St.h st) 0) l fun D _x=>ag D fun E F G H=>(some (nA E F G H,l))))) (cu (notNil a) (cI 2 a fun I=>ax 1 false I c fun b0 _x=>bg .i64 b0 fun b1=>aN (IntKind.wrap .i64 (b1+1)) fun m=>cu (notNil a) (cI 2 a fun J=>bn (bc vE) 1 J (.int .i64 m) [.int .i64 m] c fun _x K _x_1=>aU 65 [a] K fun L b _x=>ag L fun M N O n=>(ba (St.add b (VM.Obj.cells 27 (nC 0 0 [] .aG))) fun P=>ab n (cL 4 (.mp (St.h b) 0) (nC M N O n) P fun _x Q _x_2=>aU 34 [a,.str [58,58]] Q fun c0 o _x=>bG c0 fun c1=>aB (aW c1 (aU 35 [a] o fun c2 d _x=>ag c2 fun c3 R S p=>(ba (St.add d (VM.Obj.cells 27 (nC 0 0 [] .aG))) fun T=>ab p (cL 4 (.mp (St.h d) 0) (nC c3 R S p) T fun _x e _x_3=>ax 4 true (.mp (St.h b) 0) e fun U V=>ag U fun W X Y f=>(ax 4 true (.mp (St.h d) 0) e fun Z d3=>ag Z fun d4 d5 d6 g=>(aU 120 [a] e fun d7 d8 q=>ag d7 fun d9 e0 e1 i=>(cu (apart (Fx.mk d3 dL.kept) q&&(apart (Fx.mk V dL.kept) q&&true)) (ab f (ab g (ab i (ab f (aJ f fun e2=>ab g (aJ g fun e3=>ab i (aJ i fun e4=>cL 4 (.mp (St.h b) 0) [.int .u8 16,.int .u8 0,.str [],.sl 4 [nA W X Y e2,nA d4 d5 d6 e3,nA d9 e0 e1 e4] .shut] d8 fun _x e5 _x_4=>some ([],e5)))))))))))))) (some ([],o))) fun j=>bE j.1 (cu (notNil a) (cI 2 a fun e6=>ax 1 false e6 j.2 fun e7 _x=>bg .i64 e7 fun e8=>aN (IntKind.wrap .i64 (e8 - 1)) fun r=>cu (notNil a) (cI 2 a fun e9=>bn (bc vE) 1 e9 (.int .i64 r) [.int .i64 r] j.2 fun _x s _x_3=>ax 4 true (.mp (St.h b) 0) s fun f0 _x=>ag f0 fun f1 f2 f3 t=>(ab t (cL 4 (.mp (St.h st) 0) (nC f1 f2 f3 t) s fun _x u _x_4=>ax 4 true (.mp (St.h st) 0) u fun f4 _x=>ag f4 fun f5 f6 f7 f8=>(some (nA f5 f6 f7 f8,u)))))))))))))
theorem FL (a:AV) (st:St):cE vE 120 [a] st=Lc a st:=by kernel_rfl
noncomputable def Lz:AV->AV->St->Option (AV×St):=fun a i st=>bg .i64 i fun b=>ba (St.add st (VM.Obj.cells 27 (nC 0 0 [] .aG))) fun c=>aW (decide (b < 6)) (aN (IntKind.wrap .i64 (b+1)) fun j=>aU 110 [a,.int .i64 j] c fun k l _x=>ag k fun m n o d=>(ab d (cL 4 (.mp (St.h st) 0) (nC m n o d) l fun _x e _x_1=>ax 4 true (.mp (St.h st) 0) e fun p _x=>ag p fun q r s t=>(some (nA q r s t,e))))) (aU 130 [a] c fun u v _x=>ag u fun w y z f=>(ab f (cL 4 (.mp (St.h st) 0) (nC w y z f) v fun _x g _x_1=>ax 4 true (.mp (St.h st) 0) g fun x _x=>ag x fun A B C D=>(some (nA A B C D,g)))))
theorem FQ (a b:AV) (st:St):cE vE 121 [a,b] st=Lz a b st:=by kernel_rfl
noncomputable def oP (f:AV) (c:AV):bR->Option (bR ⊕ Nat×bR):=fun a=>br a.1 fun g h=>bG g fun d=>br h fun i j=>bg .i64 i fun b=>bE j (iQ c fun k=>aW (decide (b < (↑k:Int))) (fc 1 c b a.2 fun l _x=>ax 1 false l a.2 fun m _x=>dV m fun n=>aU 34 [f,.str n] a.2 fun o e _x=>bG o fun p=>aW p (some (Sum.inr (1,[.bool true],e))) (aN (IntKind.wrap .i64 (b+1)) fun q=>some (Sum.inl ([.bool d,.int .i64 q],e)))) (some (Sum.inr (0,[.bool d],Prod.snd a))))
noncomputable def Kg:AV->AV->St->Option (AV×St):=fun b c st=>aB (aI (oP b c) ([.bool false,.int .i64 0],st)) fun a=>br a.2.1 fun d e=>bG d fun f=>bE e (ja a.1 (some (.bool false,Prod.snd a.2)) fun _x=>some (.bool f,Prod.snd a.2))
theorem Gm (a b:AV) (st:St):cE vE 122 [a,b] st=Kg a b st:=by kernel_rfl
noncomputable def Mk:AV->Option AV:=fun b=>bg .i64 b fun a=>aW (a==0) (some (.sl 1 [.str [124,124]] .shut)) (aW (a==1) (some (.sl 1 [.str [38,38]] .shut)) (aW (a==2) (some (.sl 1 [.str [61],.str [60,62],.str [60],.str [60,61],.str [62],.str [62,61]] .shut)) (aW (a==3) (some (.sl 1 [.str [64],.str [94]] .shut)) (aW (a==4) (some (.sl 1 [.str [58,58]] .shut)) (aW (a==5) (some (.sl 1 [.str [43],.str [45],.str [43,46],.str [45,46]] .shut)) (some (.sl 1 [.str [42],.str [47],.str [42,46],.str [47,46],.str [109,111,100]] .shut)))))))
theorem Gd (a:AV):bT vE 123 [a]=Mk a:=by kernel_rfl
noncomputable def KQ:AV->St->Option (AV×St):=fun a st=>ba (St.add st (VM.Obj.cells 27 (nC 0 0 [] .aG))) fun D=>aB (aU 34 [a,.str [45]] D fun v1 k _x=>bG v1 fun x=>aW (!x) (aU 34 [a,.str [45,46]] k fun E F _x=>bG E fun A=>some ([.bool !A],F)) (some ([.bool false],k))) fun d=>br d.1 fun G H=>bG G fun I=>bE H (aW I (aU 135 [a] d.2 fun J K _x=>ag J fun L b0 b1 l=>(ab l (cL 4 (.mp (St.h st) 0) (nC L b0 b1 l) K fun _x m _x_1=>ax 4 true (.mp (St.h st) 0) m fun M _x=>ag M fun N x O P=>(some (nA N x O P,m))))) (aU 35 [a] d.2 fun Q b _x=>ag Q fun A R c0 e=>(ab e (ab e (aJ e fun c1=>ba (St.add b (VM.Obj.cells 27 (nC 0 0 [] .aG))) fun c2=>cL 4 (.mp (St.h b) 0) [.int .u8 12,.int .u8 0,.str [],.sl 4 [nA A R c0 c1] .shut] c2 fun _x c _x_1=>cu (notNil a) (cI 2 a fun c3=>ax 1 false c3 c fun S _x=>bg .i64 S fun T=>aW (T==64) (ax 1 false (.mp (St.h b) 3) c fun U V=>aU 89 [a,.str [101,120,112,114]] c fun W X n=>ag W fun Y Z d2 f=>(cu (apart (Fx.mk V dL.kept) n&&(apart (⟨[],.kept⟩) n&&true)) (ab f (ab f (aJ f fun o=>ab o (aJ o fun d3=>cq 4 56 27 U [nA Y Z d2 d3] X fun g d4 _x=>ab g (ab g (iC (.mp (St.h b) 3) g d4 fun _x p _x_2=>ax 4 true (.mp (St.h b) 0) p fun d5 _x=>ag d5 fun d6 d7 d8 q=>(ab q (cL 4 (.mp (St.h st) 0) (nC d6 d7 d8 q) p fun _x r _x_3=>ax 4 true (.mp (St.h st) 0) r fun d9 _x=>ag d9 fun e0 e1 e2 e3=>(some (nA e0 e1 e2 e3,r)))))))))))) (cu (notNil a) (cI 2 a fun e4=>ax 1 false e4 c fun e5 _x=>bg .i64 e5 fun e6=>aN (IntKind.wrap .i64 (e6+1)) fun s=>cu (notNil a) (cI 2 a fun e7=>bn (bc vE) 1 e7 (.int .i64 s) [.int .i64 s] c fun _x t _x_2=>ax 1 false (.mp (St.h b) 3) t fun e8 e9=>aU 130 [a] t fun f0 f1 u=>ag f0 fun f2 f3 f4 i=>(cu (apart (Fx.mk e9 dL.kept) u&&(apart (⟨[],.kept⟩) u&&true)) (ab i (ab i (aJ i fun v=>ab v (aJ v fun f5=>cq 4 56 27 e8 [nA f2 f3 f4 f5] f1 fun j f6 _x=>ab j (ab j (iC (.mp (St.h b) 3) j f6 fun _x w _x_3=>cu (notNil a) (cI 2 a fun f7=>ax 1 false f7 w fun f8 _x=>bg .i64 f8 fun f9=>aN (IntKind.wrap .i64 (f9 - 1)) fun y=>cu (notNil a) (cI 2 a fun h0=>bn (bc vE) 1 h0 (.int .i64 y) [.int .i64 y] w fun _x z _x_4=>ax 4 true (.mp (St.h b) 0) z fun h1 _x=>ag h1 fun h2 h3 h4 B=>(ab B (cL 4 (.mp (St.h st) 0) (nC h2 h3 h4 B) z fun _x C _x_5=>ax 4 true (.mp (St.h st) 0) C fun h5 _x=>ag h5 fun h6 h7 h8 h9=>(some (nA h6 h7 h8 h9,C))))))))))))))))))))))
theorem F7 (a:AV) (st:St):cE vE 130 [a] st=KQ a st:=by kernel_rfl
noncomputable def mB (d:AV) (e:St):bR->Option (bR ⊕ Nat×bR):=fun f=>bE f.1 (aU 141 [d] f.2 fun g a _x=>bG g fun i=>aW i (ax 4 true (.mp (St.h e) 0) a fun j k=>ag j fun l m n b=>(aU 140 [d] a fun o p q=>ag o fun r s t c=>(cu (apart (Fx.mk k dL.kept) q&&true) (ab b (ab c (ab b (aJ b fun u=>ab c (aJ c fun v=>cL 4 (.mp (St.h e) 0) [.int .u8 13,.int .u8 0,.str [],.sl 4 [nA l m n u,nA r s t v] .shut] p fun _x w _x_1=>some (Sum.inl ([],w)))))))))) (some (Sum.inr (0,[],a))))
noncomputable def LC:AV->St->Option (AV×St):=fun c st=>ba (St.add st (VM.Obj.cells 27 (nC 0 0 [] .aG))) fun g=>aU 140 [c] g fun i a _x=>ag i fun j k l d=>(ba (St.add a (VM.Obj.cells 27 (nC 0 0 [] .aG))) fun m=>ab d (cL 4 (.mp (St.h a) 0) (nC j k l d) m fun _x n _x_1=>aB (aI (mB c a) ([],n)) fun b=>bE b.2.1 (ax 4 true (.mp (St.h a) 0) b.2.2 fun o _x=>ag o fun p q r e=>(ab e (cL 4 (.mp (St.h st) 0) (nC p q r e) b.2.2 fun _x f _x_2=>ax 4 true (.mp (St.h st) 0) f fun s _x=>ag s fun t u v w=>(some (nA t u v w,f)))))))
theorem FB (a:AV) (st:St):cE vE 135 [a] st=LC a st:=by kernel_rfl
noncomputable def LH:AV->St->Option (AV×St):=fun a st=>ba (St.add st (VM.Obj.cells 27 (nC 0 0 [] .aG))) fun s=>aU 33 [a] s fun t b _x=>cW t fun u v=>(ba (St.add b (VM.Obj.cells 24 [.int .u8 0,.str []])) fun w=>cL 2 (.mp (St.h b) 0) [.int .u8 u,.str v] w fun _x f _x_1=>aB (ax 2 true (.mp (St.h b) 0) f fun y _x=>cW y fun z x=>(aU 85 [.agg [.int .u8 z,.str x]] f fun A d _x=>bG A fun B=>aW B (some ([.bool true],d)) (ax 1 false (.mp (St.h b) 0) d fun C _x=>bg .u8 C fun D=>some ([.bool (D==6)],d)))) fun c=>br c.1 fun E F=>bG E fun G=>bE F (aW G (aU 35 [a] c.2 fun H I _x=>ag H fun b0 b1 J g=>(ab g (cL 4 (.mp (St.h st) 0) (nC b0 b1 J g) I fun _x i _x_2=>ax 4 true (.mp (St.h st) 0) i fun K _x=>ag K fun L M N O=>(some (nA L M N O,i))))) (ax 1 false (.mp (St.h b) 0) c.2 fun P _x=>bg .u8 P fun Q=>aW (Q==9) (aU 35 [a] c.2 fun c0 c1 _x=>ag c0 fun c2 c3 R e=>(ab e (ab e (aJ e fun S=>cL 4 (.mp (St.h st) 0) [.int .u8 3,.int .u8 0,.str [],.sl 4 [nA c2 c3 R S] .shut] c1 fun _x j _x_2=>ax 4 true (.mp (St.h st) 0) j fun T _x=>ag T fun U V W X=>(some (nA U V W X,j)))))) (aU 34 [a,.str [40]] c.2 fun Y k _x=>bG Y fun Z=>aW Z (aU 87 [a,.int .u8 14,.str [44],.str [41],.bool false] k fun d3 d4 _x=>ag d3 fun d5 d6 d7 l=>(ab l (cL 4 (.mp (St.h st) 0) (nC d5 d6 d7 l) d4 fun _x m _x_2=>ax 4 true (.mp (St.h st) 0) m fun d8 _x=>ag d8 fun d9 e0 e1 e2=>(some (nA d9 e0 e1 e2,m))))) (aU 34 [a,.str [91]] k fun e3 n _x=>bG e3 fun e4=>aW e4 (aU 87 [a,.int .u8 15,.str [59],.str [93],.bool false] n fun e5 e6 _x=>ag e5 fun e7 e8 e9 o=>(ab o (cL 4 (.mp (St.h st) 0) (nC e7 e8 e9 o) e6 fun _x p _x_2=>ax 4 true (.mp (St.h st) 0) p fun f0 _x=>ag f0 fun f1 f2 f3 f4=>(some (nA f1 f2 f3 f4,p))))) (aU 88 [.str [101,120,112,114]] n fun f5 f6 _x=>ag f5 fun f7 f8 f9 q=>(ab q (cL 4 (.mp (St.h st) 0) (nC f7 f8 f9 q) f6 fun _x r _x_2=>ax 4 true (.mp (St.h st) 0) r fun h0 _x=>ag h0 fun h1 h2 h3 h4=>(some (nA h1 h2 h3 h4,r))))))))))
theorem FZ (a:AV) (st:St):cE vE 140 [a] st=LH a st:=by kernel_rfl
noncomputable def KR:AV->St->Option (AV×St):=fun c st=>aU 33 [c] st fun f b _x=>cW f fun g i=>(ba (St.add b (VM.Obj.cells 24 [.int .u8 0,.str []])) fun j=>cL 2 (.mp (St.h b) 0) [.int .u8 g,.str i] j fun _x d _x_1=>aB (ax 2 true (.mp (St.h b) 0) d fun k _x=>cW k fun l m=>(aU 85 [.agg [.int .u8 l,.str m]] d fun n a _x=>bG n fun o=>aW o (some ([.bool true],a)) (ax 1 false (.mp (St.h b) 0) a fun p _x=>bg .u8 p fun q=>aW (q==6) (some ([.bool true],a)) (ax 1 false (.mp (St.h b) 0) a fun r _x=>bg .u8 r fun s=>aW (s==9) (some ([.bool true],a)) (aU 86 [c] a fun t u _x=>bG t fun v=>some ([.bool v],u)))))) fun e=>br e.1 fun w y=>bG w fun z=>bE y (some (.bool z,Prod.snd e)))
theorem GY (a:AV) (st:St):cE vE 141 [a] st=KR a st:=by kernel_rfl
end Go.Proofs.YtpinfliihpdjcaaGreatDoor.Vm
namespace Go.Proofs.YtpinfliihpdjcaaGreatDoor.Vm
open Go Go.VM Go.Proofs Go.Lex Go.Parse
abbrev PR:TypeId:=56
def E8 {β:Type} (v:AV) (K:Int->List UInt8->Option β):Option β:=yF v fun l=>br l fun v1 l=>bg .u8 v1 fun a=>br l fun b l=>dV b fun s=>bE l (K a s)
theorem Eu {β:Type} (a:Int) (s:List UInt8) (K:Int->List UInt8->Option β):E8 (.agg [.int .u8 a,.str s]) K=K a s:=by
 simp only [E8,bF,af,ah,aA,ae]
section
variable {st st':St} {p:Nat} {L:List bo} {x:AV} {i d:Nat}
theorem I4 (t:bo):bP t=if (t.1:Int)=1 then true else ((t.1:Int)==2):=by
 unfold bP;have e:((t.1:Int)==2)=(t.1==2):=db t.1 2;rw [e];by_cases h:t.1=1
 .rw [if_pos (by omega),h];rfl
 .rw [if_neg (by omega),NY.2 h];rfl
theorem rn (h:zx PR st p L x i d): ∀(l:List bo) (j:Nat),L.drop j=l->aI (rC (.mp p 0)) ([.int .i64 (j:Int)],st)=some (0,[.int .i64 ((j+wT l:Nat):Int)],st)
 | [],j,hd=>by
  have:=Ol.1 hd;have q:¬ (j:Int) < ((L.map tok).length:Int):=by rw [Ok];omega
  refine aC ?_;simp only [rC,af,ah,ae,dh,bV,cY,Ow,N5,bh h.get,N7,bl,ak,h.sl.len,aw,if_neg q,ar,ai];rfl
 | t::l,j,hd=>by
  obtain ⟨a,c,f⟩:=drop_cons hd;have q:(j:Int) < ((L.map tok).length:Int):=by rw [Ok];omega
  have hlen:=h.len;have e: ∀{β:Type} (K:bR->Option β),aB (aW ((t.1:Int)==1) (some ([AV.bool true],st)) (some ([AV.bool ((t.1:Int)==2)],st))) K=K ([.bool (bP t)],st):=by
   intro β K;rw [I4 t];by_cases h1:(t.1:Int)=1
   .rw [h1];rfl
   .rw [NY.2 h1,if_neg h1];rfl
  rw [qS];cases b:bP t with
  | true=>
   rw [b] at e;rw [if_pos rfl,aL (s':=([.int .i64 ((j+1:Nat):Int)],st)),rn h l (j+1) c,show j+1+wT l=j+(wT l+1) by omega];simp only [rC,af,ah,ae,dh,bV,cY,qM,AV.cells,tok,Ow,N5,bh h.get,N7,bl,ak,h.sl.len,aw,if_pos q,iF h.sl a,cO,e,ar,if_true,aD,bj (show j+1<=9223372036854775807 by omega)];rfl
  | false=>
   rw [b] at e;rw [if_neg Oy];refine aC ?_;simp only [rC,af,ah,ae,dh,bV,cY,qM,AV.cells,tok,Ow,N5,bh h.get,N7,bl,ak,h.sl.len,aw,if_pos q,iF h.sl a,cO,e,ar];rfl
theorem EW (h:zx PR st p L x i d):(bc vE).wide 63 [.mp p 0] st=some (.int .i64 ((i+wT (L.drop i):Nat):Int),st):=by
 refine fJ ((IY _ _).trans ?_);simp only [NB,dh,bV,cY,N5,bh h.get,jQ,bl,ak,ah,rn h (L.drop i) i rfl,af,ae]
theorem nF (h:zx PR st p L x i d) {β:Type} (K:Kv β):aX (bc vE) 63 [.mp p 0] st K=K (.int .i64 ((i+wT (L.drop i):Nat):Int)) st ⟨[],.all st st⟩:=fO (E:=vE) K rfl rfl (EW h)
theorem Hg {r:List bo} {t:bo} {l:List bo} (h:r.dropWhile bP=t::l):r[wT r]? =some t:=by
 have:=OC (fun q:List bo=>q[0]?) ((vU r).trans h);simpa using this
theorem Ha {r:List bo} {t:bo} {l:List bo} (h:r.dropWhile bP=t::l):nx r=t:=by unfold nx;rw [h]
theorem KZ {r:List bo} {t:bo} {l:List bo} (h:r.dropWhile bP=t::l):wT r < r.length:=by
 have:=Hg h;exact (Ph.1 this).1
theorem EM (h:zx PR st p L x i d):
  ∃st',(bc vE).wide 33 [.mp p 0] st=some (.agg [.int .u8 ((nx (L.drop i)).1:Int),.str (nx (L.drop i)).2],st')/\aV st st' (fun _=>False):=by
 have b:aV st (st.add (.cells 24 [.int .u8 0,.str []])) (fun _=>False):=aV.add _ _ _;have h0:=h.keeps b (fun f=>f);have e:(st.add (.cells 24 [.int .u8 0,.str []])).get st.h= .ok (.cells 24 [.int .u8 0,.str []]):=St.en;have r:=h.le;have hlen:=h.len;generalize c:st.add (.cells 24 [.int .u8 0,.str []])=s0 at b h0 e;cases hd:(L.drop i).dropWhile bP with
 | nil=>
  obtain ⟨a,o,g,j,s,k⟩:=tz (O:=bc vE) (.agg [.int .u8 0,.str []]) e (z:=2) (cs:=[.int .u8 0,.str []]) rfl rfl (by rw [b.ro];exact h.qE);have m:¬ ((i+wT (L.drop i):Nat):Int) < ((L.map tok).length:Int):=by
   rw [Ah hd,N3,Ok];omega
  refine ⟨a,fJ ((EL _ _).trans ?_),b.fresh j (NX _)⟩;rw [AQ hd];simp only [Mf,ef,c,nF h0,ah,dh,bV,cY,N5,bh h0.get,N7,bl,ak,h.sl.len,aw,if_neg m,k,bh g,ke,bF,af,aA,ae];rfl
 | cons t l=>
  obtain ⟨a,o,g,j,s,k⟩:=tz (O:=bc vE) (.agg [.int .u8 (t.1:Int),.str t.2]) e (z:=2) (cs:=[.int .u8 (t.1:Int),.str t.2]) rfl rfl (by rw [b.ro];exact h.qE);have n:=KZ hd;rw [N3] at n;have m:((i+wT (L.drop i):Nat):Int) < ((L.map tok).length:Int):=by
   rw [Ok];omega
  have q:L[i+wT (L.drop i)]? =some t:=by
   have:=Hg hd
   rwa [Po] at this
  refine ⟨a,fJ ((EL _ _).trans ?_),b.fresh j (NX _)⟩;rw [Ha hd];simp only [Mf,ef,c,nF h0,ah,dh,bV,cY,N5,bh h0.get,N7,bl,ak,h.sl.len,aw,if_pos m,iF h.sl q,cO,ke,bF,af,aA,ae,k,bh g]
end
section
variable {β:Type} {Q:β->Prop} {st0 st:St} {p:Nat} {L:List bo} {x:AV} {d d':Nat} {r r':List bo} {l l1 l2:List Vr} {os:List (AV×List AV)} {t:T}
theorem _root_.Go.VM.aa.Dp (w:Wd PR st0 st p L x d r l os) {K:Int->List UInt8->St->Fx->Option β} (g: ∀s,Wd PR st0 s p L x d r l os->aa (K ((nx r).1:Int) (nx r).2 s ⟨[],.all st s⟩) Q):
  aa (aX (bc vE) 33 [.mp p 0] st fun v s b=>E8 v fun a c=>K a c s b) Q:=by
 obtain ⟨i,h,rfl⟩:=w.pz;obtain ⟨s,e,k⟩:=EM h;exact aa.step (fO (E:=vE) _ rfl rfl e) (aa.step (Eu ..) (g s (w.quiet k)))
theorem _root_.Go.VM.aa.KW (w:Wd PR st0 st p L x d r l os) {K:St->St->Option β} (g: ∀s s',Wd PR st0 s' p L x d r ((s.h,24,[.int .u8 ((nx r).1:Int),.str (nx r).2])::l) os->aa (K s s') Q):
  aa (aX (bc vE) 33 [.mp p 0] st fun v s _=>E8 v fun n tx=>ba (St.add s (.cells 24 [.int .u8 0,.str []])) fun a=>bn (bc vE) 2 (.mp (St.h s) 0) (.agg [.int .u8 n,.str tx]) [.int .u8 n,.str tx] a fun _ s' _=>K s s') Q:=
 aa.Dp w fun s w=>aa.alloc w fun a _ w1=>aa.store [] w1 fun b e c=>g s b c
theorem _root_.Go.VM.aa.nP {s0:List UInt8} (w:Wd PR st0 st p L x d r l os) {K:Bool->St->Fx->Option β} (g: ∀s a,Wd PR st0 s p L x d r l os->aa (K (bY s0 r) s a) Q):
  aa (aX (bc vE) 34 [.mp p 0,.str s0] st fun v s a=>bG v fun b=>K b s a) Q:=by
 have key:aa ((bc vE).wide 34 [.mp p 0,.str s0] st) (fun b=>b.1= .bool (bY s0 r)/\Wd PR st b.2 p L x d r [] []):=by
  refine aa.wide (aa.step (JF _ _ _) ?_);unfold Nl;refine aa.step (aA _ _) (aa.KW (Wd.begin w.pz) fun s s' w=> ?_);refine aa.bind (R:=fun c=>c=([.bool (bY s0 r)],s')) ?_ ?_
  .have e:(((nx r).1:Int)==3)=((nx r).1==3):=db _ 3;have f:(((nx r).1:Int)==8)=((nx r).1==8):=db _ 8;refine aa.eM NV w rfl (aa.step (ah _ _ _) ?_);rw [e];unfold bY;cases i:(nx r).1==3 with
   | true=>exact aa.step (au _ _) (aa.eM NV w (o:=1) rfl (aa.step (aA _ _) (aa.some (by simp))))
   | false=>
    refine aa.step (ai _ _) (aa.eM NV w rfl (aa.step (ah _ _ _) ?_));rw [f];cases j:(nx r).1==8 with
    | true=>exact aa.step (au _ _) (aa.eM NV w (o:=1) rfl (aa.step (aA _ _) (aa.some (by simp))))
    | false=>exact aa.step (ai _ _) (aa.some rfl)
  .rintro c rfl;simp only [af,ar,ae];exact aa.some ⟨rfl,w.sub (OU _)⟩
 refine aa.lb key rfl rfl fun v s h=> ?_;obtain ⟨rfl,w'⟩:=h;exact aa.step (ar _ _) (g s _ (w.move w'.k w'.pz))
end
end Go.Proofs.YtpinfliihpdjcaaGreatDoor.Vm
namespace Go.Proofs.YtpinfliihpdjcaaGreatDoor.Vm
open Go Go.VM Go.Proofs Go.Scope
section
variable {p:Dl} {ps:List Dl} {e:Ft} {l:List Ft} {es:List AV} {v:AV}
end
def Lp {σ β:Type} (I:σ->Prop) (Q:β->Prop):Sum σ β->Prop
 | .inl s=>I s
 | .inr b=>Q b
theorem aa.inl {σ β:Type} {I:σ->Prop} {Q:β->Prop} {s:σ} (h:I s):aa (some (Sum.inl s:Sum σ β)) (Lp I Q):=⟨_,rfl,h⟩
theorem aa.inr {σ β:Type} {I:σ->Prop} {Q:β->Prop} {b:β} (h:Q b):aa (some (Sum.inr b:Sum σ β)) (Lp I Q):=⟨_,rfl,h⟩
theorem aa.upto {σ β:Type} {Q:β->Prop} {F:σ->Option (Sum σ β)} {n:Nat} {I:Nat->σ->Prop} (step: ∀i s,i < n->I i s->aa (F s) (Lp (I (i+1)) Q))
  (last: ∀s,I n s->aa (F s) (Lp (fun _=>False) Q)): ∀(k i:Nat) (s:σ),i+k=n->I i s->aa (aI F s) Q:=by
 intro k
 induction k with
 | zero=>
  intro i s hi h;obtain ⟨r,e,a⟩:=last s (by rw [<- show i=n by omega];exact h);cases r with
  | inl s'=>exact a.elim
  | inr b=>exact ⟨b,aC e,a⟩
 | succ k ih=>
  intro i s hi h;obtain ⟨r,e,a⟩:=step i s (by omega) h;cases r with
  | inl s'=>rw [aL e];exact ih (i+1) s' (by omega) a
  | inr b=>exact ⟨b,aC e,a⟩
@[simp] theorem dh (i o:Nat):notNil (.mp i o)=true:=id rfl
section
variable {β:Type} {z:Nat} {x:AV} {es:List AV}
end
section
variable {p q:Nat->Prop} {a b c:St}
end
structure Jv (st:St) (x:Fx):Prop where
 l0:apart ⟨[],.kept⟩ x=true
 r0:apart x ⟨[],.kept⟩=true
 l: ∀i t cs,st.get i= .ok (.cells t cs)->apart ⟨[i],.kept⟩ x=true
 r: ∀i t cs,st.get i= .ok (.cells t cs)->apart x ⟨[i],.kept⟩=true
end Go.Proofs.YtpinfliihpdjcaaGreatDoor.Vm
namespace Go.Proofs.YtpinfliihpdjcaaGreatDoor.Vm
open Go Go.VM Go.Proofs Go.Lex Go.Parse
section
variable {β:Type} {Q:β->Prop} {st0 st:St} {p:Nat} {L:List bo} {x:AV} {i d d':Nat} {r r':List bo} {l l1 l2:List Vr} {os:List (AV×List AV)} {t:T}
theorem _root_.Go.VM.aa.As {f:List (List UInt8)} {y:AV} (hy:cb 1 y (f.map AV.str)) (w:Wd PR st0 st p L x d r l os) {K:Bool->St->Fx->Option β} (g: ∀s t,Wd PR st0 s p L x d r l os->aa (K (isAny f r) s t) Q):
  aa (aX (bc vE) 122 [.mp p 0,y] st fun v s t=>bG v fun b=>K b s t) Q:=by
 have u:=hy.1;rw [Ok] at u;have key:aa ((bc vE).wide 122 [.mp p 0,y] st) (fun b=>b.1= .bool (isAny f r)/\Wd PR st b.2 p L x d r [] []):=by
  refine aa.wide (aa.step (Gm _ _ _) ?_);unfold Kg;have loop: ∀(m:List (List UInt8)) (j:Nat) (s:St),f.drop j=m->Wd PR st s p L x d r [] []->
    aa (aI (oP (.mp p 0) y) ([.bool false,.int .i64 (j:Int)],s)) (fun q=> ∃n b s',q=(n,[.bool b],s')/\Wd PR st s' p L x d r [] []/\((n=0/\m.any (fun a=>bY a r)=false)\/(n=1/\b=true/\m.any (fun a=>bY a r)=true))):=by
   intro m
   induction m with
   | nil=>
    intro j s hd w;have:=Ol.1 hd;have q:¬ (j:Int) < ((f.map AV.str).length:Int):=by rw [Ok];omega
    refine ⟨_,aC (r:=(0,[.bool false],s)) ?_,0,false,s,rfl,w,.inl ⟨rfl,rfl⟩⟩;simp only [oP,af,ah,ar,ae,hy.len,aw,if_neg q]
   | cons a m ih=>
    intro j s hd w;obtain ⟨z,B,C⟩:=drop_cons hd;have q:(j:Int) < ((f.map AV.str).length:Int):=by rw [Ok];omega
    have A:aa (oP (.mp p 0) y ([.bool false,.int .i64 (j:Int)],s)) (fun q=> ∃s',Wd PR st s' p L x d r [] []/\q=if bY a r=true then .inr (1,[.bool true],s') else .inl ([.bool false,.int .i64 ((j+1:Nat):Int)],s')):=by
     simp only [oP,af,ah,ar,ae,hy.len,aw,if_pos q,xc hy z,cO,bl,ak,aA];refine aa.nP w fun s' _ w=> ?_;cases i:bY a r with
     | true=>exact aa.step (au _ _) (aa.some ⟨s',w,rfl⟩)
     | false=>
      rw [ai,aD,bj (show j+1<=9223372036854775807 by omega)];exact aa.some ⟨s',w,rfl⟩
    obtain ⟨E,e,s',w,rfl⟩:=A;cases i:bY a r with
    | true=>
     rw [i,if_pos rfl] at e;exact ⟨_,aC e,1,true,s',rfl,w,.inr ⟨rfl,rfl,by simp [i]⟩⟩
    | false=>
     rw [i,if_neg Oy] at e;rw [aL e];refine (ih (j+1) s' B w).mono ?_;rintro q ⟨n,b,D,rfl,w,h⟩;refine ⟨n,b,D,rfl,w, ?_⟩;simpa [i] using h
  have o:isAny f r=f.any (fun a=>bY a r):=by
   unfold isAny bY;cases ((nx r).1==3||(nx r).1==8) with
   | true=>simp only [O7];congr 1;funext a;rw [Bool.eq_iff_iff,OL,OL];exact eq_comm
   | false=>simp
  refine aa.bind (loop f 0 st rfl (Wd.begin w.pz)) ?_;rintro c ⟨n,b,s,rfl,w,h⟩;simp only [af,ar,ae];rw [o];rcases h with ⟨rfl,h⟩ | ⟨rfl,rfl,h⟩
  .exact aa.step (dX _ _) (aa.some ⟨by rw [h],w⟩)
  .exact aa.step (fB _ _) (aa.some ⟨by rw [h],w⟩)
 refine aa.lb key rfl (by simp only [Od,O5,hy.strip,bw];rfl) fun v s h=> ?_;obtain ⟨rfl,w'⟩:=h;exact aa.step (ar _ _) (g s _ (w.move w'.k w'.pz))
theorem _root_.Go.VM.aa.Kx (w:Wd PR st0 st p L x d r l os) (h:zx PR st p L x i d) (hi:i < L.length) (a:L.drop i=r) {K:Kv β} (g: ∀s b,Wd PR st0 s p L x d (r.drop 1) l os->aa (K VM.undef s b) Q):aa (bn (bc vE) 1 (.mp p 1) (.int .i64 ((i+1:Nat):Int)) [.int .i64 ((i+1:Nat):Int)] st K) Q:=by
 refine aa.step (eS (cs:=[.int .i64 ((i+1:Nat):Int)]) (z:=1) (off:=1) h.get rfl (N4 rfl) h.ro K) (g _ _ ?_);have k:aV st (st.put p (.cells PR (cJ [x,.int .i64 (i:Int),.int .i64 (d:Int)] 1 [.int .i64 ((i+1:Nat):Int)]))) (· =p):=aV.put rfl;exact w.move k ⟨i+1,⟨St.aP (St.cA.1 h.get).1,h.sl,hi,h.len,by rw [k.ro];exact h.ro⟩,by rw [<- a,O8]⟩
theorem Kz {r:List bo} {j:Nat} (h:j < (r.takeWhile bP).length):r[j]? =(r.takeWhile bP)[j]? :=
 (OC (fun q:List bo=>q[j]?) (Pl (p:=bP) (l:=r)).symm).trans (Oh h)
theorem gj (F:Pz PR st p L x d r):NW PR 35 [.mp p 0] st p L x d (aO r) (aT r):=by
 refine aa.wide (aa.step (Jg _ _) ?_);unfold Nn;refine aa.alloc (Wd.begin F) fun U _ w=> ?_;refine aa.Dp w fun z w=> ?_;refine aa.alloc w fun V _ w=> ?_;refine aa.store [] w fun G _ w=> ?_;obtain ⟨a,h0,f⟩:=w.pz;have D:=h0.le;have hlen:=h0.len;have H:r.length=L.length - a:=by rw [<- f,N3]
 have J:=Hd r;refine aa.step (nF h0 _) (aa.step (ah _ _ _) ?_);rw [f];have K:((r.takeWhile bP)).length=wT r:=rfl;refine aa.bind (R:=fun c=> ∃s v,c=(0,[],s)/\Wd PR st s p L x d (r.drop (wT r)) [(z.h,ND,[.int .u8 1,.int .u8 ((nx r).1:Int),.str (nx r).2,v]),(st.h,ND,z4)] [(v,(r.takeWhile bP).map oL)]) ?_ ?_
 .refine aa.upto (n:=wT r) (I:=fun j c=> ∃s v,c=([],s)/\Wd PR st s p L x d (r.drop j) [(z.h,ND,[.int .u8 1,.int .u8 ((nx r).1:Int),.str (nx r).2,v]),(st.h,ND,z4)] [(v,((r.takeWhile bP).take j).map oL)]) ?_ ?_ (wT r) 0 _ (by omega) ⟨G,.aG,rfl,by simpa using w.aG⟩
  .rintro j c M ⟨s,v,rfl,w⟩;obtain ⟨i,h,k⟩:=w.pz;have l:=h.le;have b:i=a+j:=by
    have:=OC List.length k;rw [N3,N3] at this;omega
   subst b;have g:j < (r.takeWhile bP).length:=M;have A:L[a+j]? =some (r.takeWhile bP)[j]:=by
    have h1:(L.drop a)[j]? =(r.takeWhile bP)[j]? :=by
     rw [f];exact Kz g
    rw [Po] at h1;rw [h1,Oj g]
   rw [CK g,OJ];generalize (r.takeWhile bP)[j]=q at *;have N:((a+j:Nat):Int) < ((a+wT r:Nat):Int):=by omega
   simp only [Ac,ae,dh,bV,cY,N5,bh h.get,jQ,N7,bl,ak,ah,aw,if_pos N];refine aa.eM NV w (o:=3) rfl ?_;simp only [iF h.sl A,cO,ke,ak,bF,af,ah,aA,ae];refine aa.app w (by simp) (by simp only [Ok,Oa,Om,OO];omega) fun O P _ ho w=>aa.one ho (aa.one ho (aa.gz [] w (N4 rfl) fun Q _ w=> ?_));obtain ⟨S,B,m⟩:=w.pz;have E:=B.le;have t:S=a+j:=by
    have:=OC List.length m;rw [N3,N3] at this;omega
   subst t;simp only [bh B.get,jQ,bl,ak,ah,aD,bj (show a+j+1<=9223372036854775807 by omega)];refine aa.Kx w B (by omega) m fun y _ w=> ?_;rw [O8] at w;exact aa.inl ⟨y,O,rfl,w⟩
  .rintro c ⟨s,v,rfl,w⟩;obtain ⟨i,h,k⟩:=w.pz;have l:=h.le;have b:i=a+wT r:=by
    have:=OC List.length k;rw [N3,N3] at this;omega
   subst b;simp only [Ac,ae,dh,bV,cY,N5,bh h.get,jQ,N7,bl,ak,ah,aw,if_neg (Int.lt_irrefl _)];rw [<- K,Ot] at w;exact aa.inr ⟨s,v,rfl,w⟩
 .rintro c ⟨s,v,rfl,w⟩;obtain ⟨i,h,k⟩:=w.pz;have l:=h.le;have b:i=a+wT r:=by
   have:=OC List.length k;rw [N3,N3] at this;omega
  subst b;simp only [ae,dh,bV,cY,N5,bh h.get,jQ,N7,bl,ak,ah,h.sl.len,Ok];have u:aT r=(r.drop (wT r)).drop 1:=by unfold aT;rw [vU]
  refine aa.bind (R:=fun c=> ∃s,c=([],s)/\Wd PR st s p L x d (aT r) [(z.h,ND,[.int .u8 1,.int .u8 ((nx r).1:Int),.str (nx r).2,v]),(st.h,ND,z4)] [(v,(r.takeWhile bP).map oL)]) ?_ ?_
  .by_cases T:a+wT r < L.length
   .rw [Pa (show ((a+wT r:Nat):Int) < (L.length:Int) by omega)];refine aa.step (au _ _) ?_;simp only [aD,bj (show a+wT r+1<=9223372036854775807 by omega)];refine aa.Kx w h T k fun y _ w=>aa.some ⟨y,rfl, ?_⟩;rw [u];exact w
   .rw [OX (show ¬ ((a+wT r:Nat):Int) < (L.length:Int) by omega)];refine aa.step (ai _ _) (aa.some ⟨s,rfl, ?_⟩);have e:r.drop (wT r)=[]:=Ol.2 (by omega);rw [u,e];rw [e] at w;exact w
  .rintro c ⟨y,rfl,w⟩;have C:Nd (aO r) 1 (nx r).1 (nx r).2 v:=⟨⟨_,_,rfl,w.ET,sA _⟩⟩;simp only [ae];refine aa.dQ NV w ?_;exact aa.res [_] (old:=z4) w rfl C (Oe (bz r) (by omega))
end
def Sg (L:List bo):Prop:= ∀t∈L,t.1=8->t.2.length<=2
theorem G4 {L r:List bo} {i:Nat} (hs:Sg L) (a:L.drop i=r):(nx r).1=8->(nx r).2.length<=2:=by
 intro h;cases hd:r.dropWhile bP with
 | nil=>rw [AQ hd] at h;cases h
 | cons t l=>
  rw [Ha hd] at h ⊢;refine hs t ?_ h;have h1:t∈r:=(PN bP).subset (by rw [hd];exact NV);rw [<- a] at h1;exact List.mem_of_mem_drop h1
def eZ (t:bo):Bool:=t.1==4||t.1==5||t.1==7||(t.1==3&&(t.2==fQ||t.2==eH))
theorem ze {r:List bo} (hs:(nx r).1=8->(nx r).2.length<=2):cj false r=(eZ (nx r)||(nx r).1==6||(nx r).1==9||(bY cZ r||bY ck r)):=by
 unfold cj isAny bY eZ;generalize nx r=t at *;obtain ⟨k,s⟩:=t;by_cases h4:k=4
 .subst h4;rfl
 by_cases l:k=5
 .subst l;rfl
 by_cases m:k=7
 .subst m;rfl
 by_cases n:k=9
 .subst n;rfl
 by_cases o:k=6
 .subst o;rfl
 by_cases p:k=3
 .subst p;by_cases a:s=fQ
  .subst a;rfl
  by_cases b:s=eH
  .subst b;rfl
  by_cases c:s=cZ
  .subst c;rfl
  by_cases d:s=ck
  .subst d;rfl
  have e:(s==fQ)=false:=NY.2 a;have f:(s==eH)=false:=NY.2 b;have g:(s==cZ)=false:=NY.2 c;have h:(s==ck)=false:=NY.2 d;have i:(fQ==s)=false:=NY.2 (Ne.symm a);have j:(eH==s)=false:=NY.2 (Ne.symm b);have g3:(cZ==s)=false:=NY.2 (Ne.symm c);have g4:(ck==s)=false:=NY.2 (Ne.symm d);simp only [Pn,List.any_nil,Oi,if_false,e,f,g,h,i,j,g3,g4];rfl
 by_cases q:k=8
 .subst q;by_cases a:s=fQ
  .subst a;exact absurd (hs rfl) (by decide)
  by_cases b:s=eH
  .subst b;exact absurd (hs rfl) (by decide)
  by_cases c:s=cZ
  .subst c;rfl
  by_cases d:s=ck
  .subst d;rfl
  have e:(s==fQ)=false:=NY.2 a;have f:(s==eH)=false:=NY.2 b;have g:(s==cZ)=false:=NY.2 c;have h:(s==ck)=false:=NY.2 d;have i:(fQ==s)=false:=NY.2 (Ne.symm a);have j:(eH==s)=false:=NY.2 (Ne.symm b);have g3:(cZ==s)=false:=NY.2 (Ne.symm c);have g4:(ck==s)=false:=NY.2 (Ne.symm d);simp only [Pn,List.any_nil,Oi,if_false,e,f,g,h,i,j,g3,g4];rfl
 simp only [NY.2 h4,NY.2 l,NY.2 m,NY.2 n,NY.2 o,NY.2 p,NY.2 q,Oi,if_false,O0,Bool.or_self]
theorem xX {r:List bo} (hs:(nx r).1=8->(nx r).2.length<=2):cj true r=(eZ (nx r)||(nx r).1==9||bY mL r||(bY cZ r||bY ck r)):=by
 unfold cj isAny bY eZ;generalize nx r=t at *;obtain ⟨k,s⟩:=t;by_cases h4:k=4
 .subst h4;rfl
 by_cases n:k=5
 .subst n;rfl
 by_cases o:k=7
 .subst o;rfl
 by_cases p:k=9
 .subst p;rfl
 by_cases q:k=3
 .subst q;by_cases a:s=fQ
  .subst a;rfl
  by_cases b:s=eH
  .subst b;rfl
  by_cases c:s=cZ
  .subst c;rfl
  by_cases d:s=ck
  .subst d;rfl
  by_cases e:s=mL
  .subst e;rfl
  have f:(s==fQ)=false:=NY.2 a;have g:(s==eH)=false:=NY.2 b;have h:(s==cZ)=false:=NY.2 c;have i:(s==ck)=false:=NY.2 d;have j:(s==mL)=false:=NY.2 e;have l:(fQ==s)=false:=NY.2 (Ne.symm a);have m:(eH==s)=false:=NY.2 (Ne.symm b);have g3:(cZ==s)=false:=NY.2 (Ne.symm c);have g4:(ck==s)=false:=NY.2 (Ne.symm d);have g5:(mL==s)=false:=NY.2 (Ne.symm e);simp only [Pn,List.any_nil,if_true,f,g,h,i,j,l,m,g3,g4,g5];rfl
 by_cases u:k=8
 .subst u;by_cases a:s=fQ
  .subst a;exact absurd (hs rfl) (by decide)
  by_cases b:s=eH
  .subst b;exact absurd (hs rfl) (by decide)
  by_cases c:s=cZ
  .subst c;rfl
  by_cases d:s=ck
  .subst d;rfl
  by_cases e:s=mL
  .subst e;rfl
  have f:(s==fQ)=false:=NY.2 a;have g:(s==eH)=false:=NY.2 b;have h:(s==cZ)=false:=NY.2 c;have i:(s==ck)=false:=NY.2 d;have j:(s==mL)=false:=NY.2 e;have l:(fQ==s)=false:=NY.2 (Ne.symm a);have m:(eH==s)=false:=NY.2 (Ne.symm b);have g3:(cZ==s)=false:=NY.2 (Ne.symm c);have g4:(ck==s)=false:=NY.2 (Ne.symm d);have g5:(mL==s)=false:=NY.2 (Ne.symm e);simp only [Pn,List.any_nil,if_true,f,g,h,i,j,l,m,g3,g4,g5];rfl
 simp only [NY.2 h4,NY.2 n,NY.2 o,NY.2 p,NY.2 q,NY.2 u,if_true,O0,Bool.or_self]
theorem Eb (t:bo):(bc vE).bare 85 [.agg [.int .u8 (t.1:Int),.str t.2]]=some (.bool (eZ t)):=by
 refine aY rfl ((Ir _).trans ?_);have a:((t.1:Int)==4)=(t.1==4):=db _ 4;have b:((t.1:Int)==5)=(t.1==5):=db _ 5;have c:((t.1:Int)==7)=(t.1==7):=db _ 7;have d:((t.1:Int)==3)=(t.1==3):=db _ 3;have e:(t.2==[116,114,117,101])=(t.2==fQ):=rfl;have f:(t.2==[102,97,108,115,101])=(t.2==eH):=rfl;simp only [MK,bF,af,ah,aA,ae,a,b,c,d,e,f];unfold eZ;cases t.1==4 <;> cases t.1==5 <;> cases t.1==7 <;> cases t.1==3 <;> cases t.2==fQ <;> cases t.2==eH <;> rfl
theorem kE (t:bo) {γ:Type} (st:St) (K:Kv γ):aX (bc vE) 85 [.agg [.int .u8 (t.1:Int),.str t.2]] st K=K (.bool (eZ t)) st q0:=aM st K rfl rfl rfl (Eb t)
def M7 (pat:Bool):FuncId:=match pat with | true=>64 | false=>141
theorem ko (s:List UInt8) {β:Type} (st:St) (K:Kv β):aX (bc vE) 88 [.str s] st K=K (.agg [.int .u8 2,.int .u8 0,.str s,.aG]) st q0:=
 aM st K rfl rfl rfl (aY rfl ((Jw _).trans (by simp only [Ng,aA])))
section
variable {β:Type} {Q:β->Prop} {st0 st:St} {p:Nat} {L:List bo} {x:AV} {i d d':Nat} {r r':List bo} {l l1 l2:List Vr} {os:List (AV×List AV)} {t:T}
theorem _root_.Go.VM.aa.jf (pat:Bool) (hs:Sg L) (w:Wd PR st0 st p L x d r l os) {K:Bool->St->Fx->Option β} (g: ∀s e,Wd PR st0 s p L x d r l os->aa (K (cj pat r) s e) Q):
  aa (aX (bc vE) (M7 pat) [.mp p 0] st fun v s e=>bG v fun b=>K b s e) Q:=by
 have f:(nx r).1=8->(nx r).2.length<=2:=by
  obtain ⟨i,_,o⟩:=w.pz;exact G4 hs o
 have m: ∀(s:St),Wd PR s s p L x d r [] []->aa ((bc vE).wide 86 [.mp p 0] s) (fun b=>b.1= .bool (bY cZ r||bY ck r)/\Wd PR s b.2 p L x d r [] []):=by
  intro st w;refine aa.wide (aa.step (I6 _ _) ?_);unfold M9;refine aa.bind (R:=fun c=> ∃s,c=([.bool (bY cZ r||bY ck r)],s)/\Wd PR st s p L x d r [] []) ?_ ?_
  .refine aa.nP (s0:=cZ) w fun q _ w=> ?_;cases bY cZ r with
   | true=>exact aa.step (au _ _) (aa.some ⟨q,rfl,w⟩)
   | false=>exact aa.step (ai _ _) (aa.nP (s0:=ck) w fun a _ w=>aa.some ⟨a,rfl,w⟩)
  .rintro c ⟨s,rfl,w⟩;simp only [af,ar,ae];exact aa.some ⟨rfl,w⟩
 have j: ∀{st1:St} (s:St) (l:List Vr) {γ:Type} {K:Kv γ} {Q:γ->Prop},Wd PR st1 s p L x d r l []->(∀s e,Wd PR st1 s p L x d r l []->aa (K (.bool (bY cZ r||bY ck r)) s e) Q)->aa (aX (bc vE) 86 [.mp p 0] s K) Q:=by
  intro st1 s l γ K Q w g;refine aa.lb (R:=fun b=>b.1= .bool (bY cZ r||bY ck r)/\Wd PR s b.2 p L x d r [] []) ?_ rfl rfl fun v a h=> ?_
  .exact m s (Wd.begin w.pz)
  .obtain ⟨rfl,w'⟩:=h;exact g a _ (w.move w'.k w'.pz)
 have n:(((nx r).1:Int)==9)=((nx r).1==9):=db _ 9;have t:(((nx r).1:Int)==6)=((nx r).1==6):=db _ 6;cases pat with
 | false=>
  have key:aa ((bc vE).wide 141 [.mp p 0] st) (fun b=>b.1= .bool (cj false r)/\Wd PR st b.2 p L x d r [] []):=by
   refine aa.wide (aa.step (GY _ _) ?_);unfold KR;refine aa.KW (Wd.begin w.pz) fun s s' w=> ?_;rw [ze f];refine aa.bind (R:=fun c=> ∃a,c=([.bool (eZ (nx r)||(nx r).1==6||(nx r).1==9||(bY cZ r||bY ck r))],a)/\Wd PR st a p L x d r [] []) ?_ ?_
   .refine aa.xr NV w ?_;simp only [bF,af,ah,aA,ae];refine aa.step (kE (nx r) _ _) (aa.step (ar _ _) ?_);cases eZ (nx r) with
    | true=>exact aa.step (au _ _) (aa.some ⟨s',rfl,w.sub (OU _)⟩)
    | false=>
     refine aa.step (ai _ _) (aa.eM NV w rfl (aa.step (ah _ _ _) ?_));rw [t];cases (nx r).1==6 with
     | true=>exact aa.step (au _ _) (aa.some ⟨s',rfl,w.sub (OU _)⟩)
     | false=>
      refine aa.step (ai _ _) (aa.eM NV w rfl (aa.step (ah _ _ _) ?_));rw [n];cases (nx r).1==9 with
      | true=>exact aa.step (au _ _) (aa.some ⟨s',rfl,w.sub (OU _)⟩)
      | false=>exact aa.step (ai _ _) (j s' _ w fun a e w=>aa.step (ar _ _) (aa.some ⟨a,by simp,w.sub (OU _)⟩))
   .rintro c ⟨a,rfl,w⟩;simp only [af,ar,ae];exact aa.some ⟨rfl,w⟩
  refine aa.lb key rfl rfl fun v s h=> ?_;obtain ⟨rfl,w'⟩:=h;exact aa.step (ar _ _) (g s _ (w.move w'.k w'.pz))
 | true=>
  have key:aa ((bc vE).wide 64 [.mp p 0] st) (fun b=>b.1= .bool (cj true r)/\Wd PR st b.2 p L x d r [] []):=by
   refine aa.wide (aa.step (JA _ _) ?_);unfold Nz;refine aa.KW (Wd.begin w.pz) fun s s' w=> ?_;rw [xX f];refine aa.bind (R:=fun c=> ∃a,c=([.bool (eZ (nx r)||(nx r).1==9||bY mL r||(bY cZ r||bY ck r))],a)/\Wd PR st a p L x d r [] []) ?_ ?_
   .refine aa.xr NV w ?_;simp only [bF,af,ah,aA,ae];refine aa.step (kE (nx r) _ _) (aa.step (ar _ _) ?_);cases eZ (nx r) with
    | true=>exact aa.step (au _ _) (aa.some ⟨s',rfl,w.sub (OU _)⟩)
    | false=>
     refine aa.step (ai _ _) (aa.eM NV w rfl (aa.step (ah _ _ _) ?_));rw [n];cases (nx r).1==9 with
     | true=>exact aa.step (au _ _) (aa.some ⟨s',rfl,w.sub (OU _)⟩)
     | false=>
      refine aa.step (ai _ _) (aa.nP (s0:=mL) w fun a _ w=> ?_);cases bY mL r with
      | true=>exact aa.step (au _ _) (aa.some ⟨a,rfl,w.sub (OU _)⟩)
      | false=>exact aa.step (ai _ _) (j a _ w fun a e w=>aa.step (ar _ _) (aa.some ⟨a,by simp,w.sub (OU _)⟩))
   .rintro c ⟨a,rfl,w⟩;simp only [af,ar,ae];exact aa.some ⟨rfl,w⟩
  refine aa.lb key rfl rfl fun v s h=> ?_;obtain ⟨rfl,w'⟩:=h;exact aa.step (ar _ _) (g s _ (w.move w'.k w'.pz))
theorem _root_.Go.VM.aa.lh (w:Wd PR st0 st p L x d r l os) {K:Int->Int->List UInt8->AV->St->Fx->Option β}
 (g: ∀(k tk:Nat) (tx:List UInt8) (y:AV) (s:St),Nd (aO r) k tk tx y->dH (aO r)<=1000000000000000->Wd PR st0 s p L x d (aT r) l os->aa (K (k:Int) (tk:Int) tx y s ⟨[],.all st s⟩) Q):
 aa (aX (bc vE) 35 [.mp p 0] st fun v s e=>qJ v fun a b c y=>K a b c y s e) Q:=aa.node w (gj w.pz) rfl rfl g
theorem gN (a:Pz PR st p L x d r) (s:List UInt8):NW PR 66 [.mp p 0,.str s] st p L x d (du s r) (bL s r):=by
 refine aa.wide (aa.step (ID _ _ _) ?_);unfold MW;refine aa.step (aA _ _) (aa.alloc (Wd.begin a) fun c _ w=> ?_);refine aa.nP w fun e _ w=> ?_;unfold du bL;cases bY s r with
 | true=>
  refine aa.step (au _ _) ?_;exact aa.lh w fun k tk tx y f b hd w=>aa.res [] (old:=z4) w rfl b hd
 | false=>
  refine aa.step (ai _ _) (aa.step (ko _ _ _) ?_);refine aa.res [] (old:=z4) w rfl (fN s) ?_;show dH (missing s)<= _;rw [eh];omega
theorem sW (b:Pz PR st p L x d r) (s:List UInt8):NW PR 89 [.mp p 0,.str s] st p L x d (mR s r) (lA r):=by
 refine aa.wide (aa.step (IA _ _ _) ?_);unfold Nq;refine aa.step (aA _ _) (aa.alloc (Wd.begin b) fun e _ w=> ?_);refine aa.Dp w fun f w=> ?_;unfold mR lA;by_cases h0:(nx r).1=0
 .rw [if_pos h0,if_pos h0,show (((nx r).1:Int)==0)=true by rw [h0];rfl];refine aa.step (au _ _) (aa.step (ko _ _ _) ?_);refine aa.res [] (old:=z4) w rfl (fN s) ?_;rw [eh];omega
 .rw [if_neg h0,if_neg h0,show (((nx r).1:Int)==0)=false from NY.2 (by omega)];refine aa.step (ai _ _) (aa.lh w fun k tk tx y s a hd w=> ?_);refine aa.two a (aa.fit a fun y' c _ _=> ?_);refine aa.yW [] (old:=z4) w rfl (gk (iI c) (by simp)) ?_;rw [bk,aZ];have:=bz r;omega
end
def fP (F:FuncId) (more:List AV) (job:pc) (n:Nat):Prop:= ∀(st:St) (p:Nat) (L:List bo) (x:AV) (d:Nat) (r:List bo) (t:T) (r':List bo),Sg L->Pz PR st p L x d r->d<=64->P n job d r=some ([t],r')->NW PR F (.mp p 0::more) st p L x d t r'
def Nu (pat:Bool):FuncId:=match pat with | true=>65 | false=>140
def NN (st:St) (p:Nat) (L:List bo) (x:AV) (d k:Nat) (ts:List T) (r':List bo):AV×St->Prop:=fun b=> ∃y es,b.1= .agg [.int .u8 (k:Int),.int .u8 0,.str [],y]/\jE b.2 4 ND y es/\(∀j,dm y j->st.h<=j)/\bp ts es/\dB ts<=900000000000000/\Pz PR b.2 p L x d r'/\aV st b.2 (· =p)
def Bk (n:Nat):Prop:= ∀(st:St) (p:Nat) (L:List bo) (x:AV) (d:Nat) (r:List bo) (k:Nat) (a:T) (e:AV) (ts:List T) (r':List bo),Sg L->Pz PR st p L x d r->d<=64->fI a e->dH a<=1000000->P n .binding d r=some (ts,r')->
 aa ((bc vE).wide 36 [.mp p 0,.agg [.int .u8 (k:Int),.int .u8 0,.str [],.sl 4 [e] .shut]] st) (NN st p L x d k (a::ts) r')
structure vK (n:Nat):Prop where
 expr:fP 67 [] .expr n
 whole:fP 90 [] .whole n
 level: ∀k:Nat,k<=6->fP 110 [.int .i64 (k:Int)] (.level k) n
 oper: ∀k:Nat,k<=6->fP 121 [.int .i64 (k:Int)] (.level (k+1)) n
 neg:fP 130 [] .neg n
 atom: ∀pat,fP (Nu pat) [] (.atom pat) n
 closed: ∀list pat,fP 87 [.int .u8 (kindOf list pat:Int),.str (oE list),.str (gn list),.bool pat] (.closed list pat) n
 pattern:fP 120 [] .pattern n
 arm:fP 109 [] .arm n
 binding:Bk n
section
variable {β:Type} {Q:β->Prop} {st0 st:St} {p:Nat} {L:List bo} {x:AV} {d d':Nat} {r r':List bo} {l l1 l2:List Vr} {os:List (AV×List AV)} {t:T}
theorem zL {n:Nat} (ih:vK n):fP 67 [] .expr (n+1):=by
 intro st p L x d r t r' hs e hd h;simp only [P] at h;refine aa.wide (aa.step (Ic _ _) ?_);unfold MI;refine aa.alloc (Wd.begin e) fun f _ w=> ?_;refine aa.tY (aa.jM w (aa.step (ah _ _ _) ?_));split at h
 .rename_i hd;subst hd;cases h;refine aa.step (au _ _) ?_;exact aa.node w (sW w.pz _) rfl rfl fun k tk tx y s a hd w=>aa.res [] (old:=z4) w rfl a hd
 .rw [show ((d:Int)==64)=false from NY.2 (by omega)];refine aa.step (ai _ _) (aa.tY (aa.jM w (aa.step (ah _ _ _) ?_)));rw [aD,bj (by omega)];refine aa.tY (aa.deep (d+1) w fun g c w=> ?_);refine aa.node w (ih.whole _ p L x (d+1) r t r' hs w.pz (by omega) h) rfl rfl fun k tk tx y s a b w=> ?_;refine aa.alloc w fun i _ w=>aa.two a ?_;refine aa.store [] w fun j c w=> ?_;refine aa.tY (aa.jM w (aa.step (ah _ _ _) ?_));rw [aD,show ((d+1:Nat):Int) - 1=((d+1:Nat):Int) - ((1:Nat):Int) from rfl,qA (by omega) (by omega),PB];refine aa.tY (aa.deep d w fun l c w=> ?_);refine aa.dQ (NV) w ?_;exact aa.res [_] (old:=z4) w rfl a b
theorem ub {n:Nat} (ih:vK n) (l:n<=10000000):fP 120 [] .pattern (n+1):=by
 intro st p L x d r t r' hs O hd h;simp only [P] at h;refine aa.wide (aa.step (FL _ _) ?_);unfold Lc;refine aa.alloc (Wd.begin O) fun s1 _ w=> ?_;refine aa.tY (aa.jM w (aa.step (ah _ _ _) ?_));split at h
 .rename_i hd;subst hd;cases h;refine aa.step (au _ _) ?_;exact aa.node w (sW w.pz _) rfl rfl fun k tk tx y s l hd w=>aa.res [] (old:=z4) w rfl l hd
 .rw [show ((d:Int)==64)=false from NY.2 (by omega)];refine aa.step (ai _ _) (aa.tY (aa.jM w (aa.step (ah _ _ _) ?_)));rw [aD,bj (by omega)];refine aa.tY (aa.deep (d+1) w fun s2 m w=> ?_);obtain ⟨⟨a,o⟩,B,h⟩:=bind_some h;obtain ⟨u,rfl⟩:=bU _ _ _ _ _ _ B rfl;have K:=dn l B rfl;refine aa.node w (ih.atom true _ p L x (d+1) r u o hs w.pz (by omega) B) rfl rfl fun k tk tx y s e i w=> ?_;refine aa.alloc w fun s3 _ w=>aa.two e ?_;refine aa.store [] w fun s4 m w=> ?_;refine aa.nP (s0:=uS) w fun s5 _ w=> ?_;have fin: ∀{g:St} {t:T},Nv PR st g p L x (d+1) r' s.h st.h t->dH t<=1000000000000000->aa (aB (some (([]:List AV),g)) fun c=>bE (Prod.fst c) (cu (notNil (.mp p 0)) (cI 2 (.mp p 0) fun v=>ax 1 false v (Prod.snd c) fun v _=>bg .i64 v fun n=>aN (IntKind.wrap .i64 (n - 1)) fun n=>cu (notNil (.mp p 0)) (cI 2 (.mp p 0) fun v=>bn (bc vE) 1 v (.int .i64 n) [.int .i64 n] (Prod.snd c) fun _ q _=>
    ax 4 true (.mp s.h 0) q fun v _=>qJ v fun z A tx y=>ab y (bn (bc vE) 4 (.mp st.h 0) (.agg [.int .u8 z,.int .u8 A,.str tx,y]) [.int .u8 z,.int .u8 A,.str tx,y] q fun _ s _=>ax 4 true (.mp st.h 0) s fun v _=>qJ v fun z A tx y=>some (.agg [.int .u8 z,.int .u8 A,.str tx,y],s)))))) (NQ PR st p L x d t r'):=by
   rintro g t ⟨k,tk,tx,y,w,e⟩ C;refine aa.step (ak _ _) (aa.step (ae _) ?_);refine aa.tY (aa.jM w (aa.step (ah _ _ _) ?_));rw [aD,show ((d+1:Nat):Int) - 1=((d+1:Nat):Int) - ((1:Nat):Int) from rfl,qA (by omega) (by omega),PB];refine aa.tY (aa.deep d w fun q m w=> ?_);refine aa.dQ (NV) w ?_;exact aa.res [_] (old:=z4) w rfl e C
  dsimp only at h;cases M:bY uS o with
  | true=>
   rw [M,if_pos rfl] at h;obtain ⟨⟨b,N⟩,D,h⟩:=bind_some h;obtain ⟨v,rfl⟩:=bU _ _ _ _ _ _ D rfl;cases h;have Q:=dn l D rfl;have S:=bz o;refine aa.bind (R:=fun c=> ∃g,c=([],g)/\Nv PR st g p L x (d+1) N s.h st.h (node 16 [u,aO o,v])) ?_ ?_
   .refine aa.step (au _ _) ?_;refine aa.lh w fun k' U V y' g f E w=> ?_;refine aa.alloc w fun q _ w=>aa.two f ?_;refine aa.store [] w fun s8 m w=> ?_;refine aa.dQ (a:=s.h) (N2 _ NV) w ?_;refine aa.dQ (NV) w ?_;refine aa.node w (ih.pattern _ p L x (d+1) _ v N hs w.pz (by omega) D) rfl rfl fun k2 W X y2 s9 j Y F=> ?_;have Z:=w.hP F (NV) f E;have a2:=w.hP F (a:=s.h) (N2 _ NV) e i;refine aa.step (ff (by rw [Z,a2];rfl) _) ?_;refine aa.two e (aa.two f (aa.two j (aa.fit e fun z1 G _ _=>aa.fit f fun z2 H _ _=>aa.fit j fun z3 I _ _=> ?_)));refine aa.store [_] F fun J m w=> ?_;exact aa.some ⟨J,rfl,16,0,[],_,w.sub Fh,gk (uV G H I) (by simp)⟩
   .rintro c ⟨g,rfl,h⟩;refine aa.step (ak _ _).symm (fin h ?_);rw [bk];simp only [bI,bf,aK];omega
  | false=>
   rw [M,if_neg Oy] at h;cases h;exact aa.step (OC (aB · _) (ai _ _)) (fin ⟨k,tk,tx,y,w,e⟩ i)
theorem BG {n:Nat} (ih:vK n) (g:n<=10000000):fP 109 [] .arm (n+1):=by
 intro st p L x d r t r' hs j hd h;simp only [P] at h;obtain ⟨⟨a,i⟩,e,h⟩:=bind_some h;obtain ⟨u,rfl⟩:=bU _ _ _ _ _ _ e rfl;obtain ⟨⟨b,k⟩,f,h⟩:=bind_some h;obtain ⟨v,rfl⟩:=bU _ _ _ _ _ _ f rfl;cases h;have l:=dn g e rfl;have m:=dn g f rfl;have o:=dU fu i;refine aa.wide (aa.step (GQ _ _) ?_);unfold K3;refine aa.alloc (Wd.begin j) fun q h1 w=> ?_;refine aa.alloc w fun y _ w=> ?_;refine aa.store [] w fun s z w=> ?_;have c:Gv PR st s p L x d r q.h st.h 10 []:=⟨_,_,w.aG,bp.nil,by simp [aK]⟩;refine c.grow (ih.pattern _ p L x d _ u i hs c.pz hd e) rfl rfl (by simp) fun A c=> ?_;refine c.grow (gN c.pz fu) rfl rfl (by simp) fun B c=> ?_;refine c.grow (ih.expr _ p L x d _ v k hs c.pz hd f) rfl rfl (by simp) fun C c=> ?_;refine c.nd.fin ?_;simp only [bk,bI,bf,aK];omega
theorem Be {n:Nat} (ih:vK n) (pat:Bool) (hs:Sg L) (b:Pz PR st p L x d r) (hd:d<=64) (h:P n (if pat then .pattern else .expr) d r=some ([t],r')):NW PR 108 [.mp p 0,.bool pat] st p L x d t r':=by
 refine aa.wide (aa.step (F2 _ _ _) ?_);unfold Lk;refine aa.step (ar _ _) (aa.alloc (Wd.begin b) fun c h1 w=> ?_);cases pat with
 | true=>
  refine aa.step (au _ _) ?_;exact aa.node w (ih.pattern _ p L x d _ t r' hs w.pz hd h) rfl rfl fun k tk tx y s a hd w=>aa.res [] (old:=z4) w rfl a hd
 | false=>
  refine aa.step (ai _ _) ?_;exact aa.node w (ih.expr _ p L x d _ t r' hs w.pz hd h) rfl rfl fun k tk tx y s a hd w=>aa.res [] (old:=z4) w rfl a hd
theorem Gv.nP {s:St} {a b k:Nat} {ts:List T} (h:Gv PR st0 s p L x d r a b k ts) {s0:List UInt8} {K:Bool->St->Fx->Option β} (g: ∀s' c,Gv PR st0 s' p L x d r a b k ts->aa (K (bY s0 r) s' c) Q):
  aa (aX (bc vE) 34 [.mp p 0,.str s0] s fun v s c=>bG v fun b=>K b s c) Q:=by
 obtain ⟨v,es,w,hs,hd⟩:=h;exact aa.nP w fun s' c w'=>g s' c ⟨v,es,w',hs,hd⟩
theorem Gv.jf {s:St} {a b k:Nat} {ts:List T} (pat:Bool) (h:Gv PR st0 s p L x d r a b k ts) (e:Sg L) {K:Bool->St->Fx->Option β} (g: ∀s' c,Gv PR st0 s' p L x d r a b k ts->aa (K (Parse.cj pat r) s' c) Q):
  aa (aX (bc vE) (M7 pat) [.mp p 0] s fun v s c=>bG v fun b=>K b s c) Q:=by
 obtain ⟨v,es,w,hs,hd⟩:=h;exact aa.jf pat e w fun s' c w'=>g s' c ⟨v,es,w',hs,hd⟩
theorem yi {n:Nat} (D:n<=10000000) (ih: ∀m,m < n->vK m) (list pat:Bool) (j:Sg L) {a b k:Nat} {f:St} (v:f.h=a) (hd:d<=64): ∀(m:Nat) (ts bs:List T) (r r':List bo) (s:St),m<=n->P m (.items list pat) d r=some (bs,r')->Gv PR st0 s p L x d r a b k ts->ts.length+2 * m<=100000000->
  aa (aI (pW (.mp p 0) (oE list) pat f) ([],s)) (fun q=> ∃s',q=(0,[],s')/\Gv PR st0 s' p L x d r' a b k (ts++bs)):=by
 intro m
 induction m with
 | zero=>intro ts bs r r' s _ h;cases h
 | succ m l=>
  intro ts bs r r' s E h c hl;simp only [P] at h;split at h
  .rename_i o;obtain ⟨⟨F,w⟩,y,h⟩:=bind_some h;obtain ⟨u,rfl⟩:=bU _ _ _ _ _ _ y (qO pat);obtain ⟨⟨b1,G⟩,B,h⟩:=bind_some h;cases h;have g:aa (pW (.mp p 0) (oE list) pat f ([],s)) (fun q=> ∃s',q= .inl ([],s')/\Gv PR st0 s' p L x d w a b k (ts++[aO r]++[u])):=by
    simp only [pW,v,ae];refine c.nP fun z _ c=> ?_;rw [o];refine aa.step (au _ _) ?_;refine c.grow (gj c.pz) rfl rfl (by omega) fun A c=> ?_;refine c.grow (Be (ih m (by omega)) pat j c.pz hd y) rfl rfl (by simp;omega) fun C c=> ?_;exact aa.some ⟨C,rfl,c⟩
   obtain ⟨q,e,s',rfl,i⟩:=g;rw [aL e];refine (l _ b1 w _ s' (by omega) B i (by simp;omega)).mono ?_;rintro q ⟨A,rfl,t⟩;refine ⟨A,rfl, ?_⟩;simpa using t
  .rename_i o;cases h;have g:aa (pW (.mp p 0) (oE list) pat f ([],s)) (fun q=> ∃s',q= .inr (0,[],s')/\Gv PR st0 s' p L x d r a b k ts):=by
    simp only [pW,v,ae];refine c.nP fun z _ c=> ?_;rw [N6 o];exact aa.step (ai _ _) (aa.some ⟨z,rfl,c⟩)
   obtain ⟨q,e,s',rfl,i⟩:=g;exact ⟨_,aC e,s',rfl,by simpa using i⟩
theorem wV {n:Nat} (ih: ∀m,m<=n->vK m) (f:n<=10000000) (list pat:Bool):fP 87 [.int .u8 (kindOf list pat:Int),.str (oE list),.str (gn list),.bool pat] (.closed list pat) (n+1):=by
 intro st p L x d r t r' hs z hd h;simp only [P] at h;refine aa.wide (aa.step (IV _ _ _ _ _ _) ?_);simp only [Nh,ah,aA,ar];refine aa.alloc (Wd.begin z) fun D _ w=> ?_;refine aa.lh w fun k tk tx y s b c w=> ?_;refine aa.two b (aa.fit b fun E g _ _=> ?_);refine aa.alloc w fun o _ w=> ?_;refine aa.store [] w fun A F w=> ?_;have a:Gv PR st A p L x d (aT r) s.h st.h (kindOf list pat) [aO r]:=⟨_,_,w.shut (by simp),iI g,by rw [aZ];exact c⟩;refine a.nP fun G _ a=> ?_;split at h
 .rename_i i;cases h;rw [i];refine aa.step (au _ _) ?_;refine a.grow (gj a.pz) rfl rfl (by simp) fun H a=> ?_;refine a.nd.fin ?_;have:=bz r;have:=bz (aT r);simp only [bk,bI,bf,aK];omega
 .rename_i i;rw [N6 i];obtain ⟨⟨I,J⟩,j,h⟩:=bind_some h;obtain ⟨u,rfl⟩:=bU _ _ _ _ _ _ j (qO pat);obtain ⟨⟨b1,v⟩,l,h⟩:=bind_some h;cases h;refine aa.step (ai _ _) ?_;refine a.grow (Be (ih n (NX _)) pat hs a.pz hd j) rfl rfl (by simp) fun o a=> ?_;refine aa.bind (yi f (fun m K=>ih m (by omega)) list pat hs rfl hd n _ b1 _ _ o (NX _) l a (by simp;omega)) ?_;rintro q ⟨M,rfl,a⟩;refine aa.step (ae _) ?_;have B:=ry f l rfl;have C:=dn f j (mE pat);have hl:=uN _ _ _ _ _ _ _ l;refine a.grow (gN a.pz (gn list)) rfl rfl (by simp;omega) fun N a=> ?_;have e:=a.nd.fin (t:=node (kindOf list pat) ([aO r]++[u]++b1++[du (gn list) v])) (by
   have:=bz r;have:=dU (gn list) v;simp only [bk,bI,bf,aK];omega)
  exact e
end
theorem iA {s:List UInt8} {r:List bo} (h:bY s r=true):((nx r).1=3\/(nx r).1=8)/\(nx r).2=s:=by
 unfold bY at h;simp only [N0,OW,OL] at h;exact h
theorem yu {r:List bo} (h:eZ (nx r)=true):(nx r).1≠9/\bY cZ r=false/\bY ck r=false:=by
 have key: ∀s:List UInt8,s≠fQ->s≠eH->bY s r=false:=fun s h1 a=>by
  cases b:bY s r with
  | false=>rfl
  | true=>
   obtain ⟨c,hs⟩:=iA b;unfold eZ at h;simp only [OW,N0,OL] at h;rw [hs] at h;rcases h with ((h | h) | h) | ⟨_,h | h⟩
   .omega
   .omega
   .omega
   .exact absurd h h1
   .exact absurd h a
 refine ⟨?_,key _ (by decide) (by decide),key _ (by decide) (by decide)⟩;unfold eZ at h;simp only [OW,N0,OL] at h;omega
theorem Ew {s u:List UInt8} {r:List bo} (h:bY s r=true) (a:s≠u):bY u r=false:=by
 cases b:bY u r with
 | false=>rfl
 | true=>
  have h1:=(iA h).2;have c:=(iA b).2;exact absurd (h1.symm.trans c) a
section
variable {β:Type} {Q:β->Prop} {st0 st:St} {p:Nat} {L:List bo} {x:AV} {d d':Nat} {r r':List bo} {l l1 l2:List Vr} {os:List (AV×List AV)} {t:T}
theorem zr (w:Wd PR st0 st p L x d r (l1++(st0.h,ND,z4)::l2) os):
  aa (aX (bc vE) 35 [.mp p 0] st fun v s _=>qJ v fun a b tx y=>ab y (bn (bc vE) 4 (.mp st0.h 0) (.agg [.int .u8 a,.int .u8 b,.str tx,y]) [.int .u8 a,.int .u8 b,.str tx,y] s fun _ s _=>ax 4 true (.mp st0.h 0) s fun v _=>qJ v fun a b tx y=>some (.agg [.int .u8 a,.int .u8 b,.str tx,y],s))) (NQ PR st0 p L x d (aO r) (aT r)):=
 aa.lh w fun k tk tx y s c hd w=>aa.res l1 (old:=z4) w rfl c hd
theorem xK (w:Wd PR st0 st p L x d r (l1++(st0.h,ND,z4)::l2) os):
  aa (aX (bc vE) 35 [.mp p 0] st fun v s _=>qJ v fun a b tx y=>ab y (ab y (aJ y fun y=>bn (bc vE) 4 (.mp st0.h 0) (.agg [.int .u8 3,.int .u8 0,.str [],.sl 4 [.agg [.int .u8 a,.int .u8 b,.str tx,y]] .shut]) [.int .u8 3,.int .u8 0,.str [],.sl 4 [.agg [.int .u8 a,.int .u8 b,.str tx,y]] .shut] s fun _ s _=>ax 4 true (.mp st0.h 0) s fun v _=>qJ v fun a b tx y=>some (.agg [.int .u8 a,.int .u8 b,.str tx,y],s)))) (NQ PR st0 p L x d (node 3 [aO r]) (aT r)):=by
 refine aa.lh w fun k tk tx y s e hd w=> ?_;refine aa.two e (aa.fit e fun f c _ _=> ?_);refine aa.yW l1 (old:=z4) w rfl (gk (iI c) (by simp)) ?_;have:=bz r;simp only [bk,bf,aK];omega
theorem An {n:Nat} (ih:vK n) (pat:Bool):fP (Nu pat) [] (.atom pat) (n+1):=by
 intro st p L x d r t r' hs m hd h;have l:(nx r).1=8->(nx r).2.length<=2:=by
  obtain ⟨i,_,C⟩:=m;exact G4 hs C
 simp only [P] at h;have A:(((nx r).1:Int)==9)=((nx r).1==9):=db _ 9;have D:(((nx r).1:Int)==6)=((nx r).1==6):=db _ 6;cases pat with
 | false=>
  rw [ze l] at h;refine aa.wide (aa.step (FZ _ _) ?_);unfold LH;refine aa.alloc (Wd.begin m) fun E _ w=> ?_;refine aa.KW w fun B o w=> ?_;refine aa.bind (R:=fun c=>c=([.bool (eZ (nx r)||(nx r).1==6)],o)) ?_ ?_
  .refine aa.xr NV w ?_;simp only [bF,af,ah,aA,ae];refine aa.step (kE (nx r) _ _) (aa.step (ar _ _) ?_);cases eZ (nx r) with
   | true=>exact aa.step (au _ _) (aa.some rfl)
   | false=>
    refine aa.step (ai _ _) (aa.eM NV w rfl (aa.step (ah _ _ _) ?_));rw [D];exact aa.some rfl
  .rintro c rfl;simp only [af,ar,ae];cases g:(eZ (nx r)||(nx r).1==6) with
   | true=>
    have a:(nx r).1≠9/\bY cZ r=false/\bY ck r=false:=by
     cases hl:eZ (nx r) with
     | true=>exact yu hl
     | false=>
      rw [hl,Ov,OL] at g;refine ⟨by omega, ?_, ?_⟩
      .cases q:bY cZ r with
       | false=>rfl
       | true=>have:=(iA q).1;omega
      .cases q:bY ck r with
       | false=>rfl
       | true=>have:=(iA q).1;omega
    rw [g,O9,O9,if_pos rfl,if_neg a.1,a.2.1,a.2.2,if_neg Oy,if_neg Oy] at h;cases h;refine aa.step (au _ _) ?_;exact zr (l1:=[_]) w
   | false=>
    rw [g,Ov] at h;refine aa.step (ai _ _) (aa.eM NV w rfl (aa.step (ah _ _ _) ?_));rw [A];by_cases f:(nx r).1=9
    .rw [f] at h ⊢;rw [if_pos (by simp),if_pos rfl] at h;cases h;refine aa.step (au _ _) ?_;exact xK (l1:=[_]) (by rw [f] at w;exact w)
    .rw [NY.2 f] at h ⊢;rw [Ov] at h;refine aa.step (ai _ _) (aa.nP (s0:=cZ) w fun j _ w=> ?_);cases ho:bY cZ r with
     | true=>
      rw [ho,O9,if_pos rfl,if_neg f,if_pos rfl] at h;refine aa.step (au _ _) ?_;exact aa.node w (ih.closed false false _ p L x d r t r' hs w.pz hd h) rfl rfl fun k tk tx y s b e w=>aa.res [_] (old:=z4) w rfl b e
     | false=>
      rw [ho,Ov] at h;refine aa.step (ai _ _) (aa.nP (s0:=ck) w fun F _ w=> ?_);cases hl:bY ck r with
      | true=>
       rw [hl,if_pos rfl,if_neg f,if_neg Oy,if_pos rfl] at h;refine aa.step (au _ _) ?_;exact aa.node w (ih.closed true false _ p L x d r t r' hs w.pz hd h) rfl rfl fun k tk tx y s b e w=>aa.res [_] (old:=z4) w rfl b e
      | false=>
       rw [hl,if_neg Oy] at h;cases h;refine aa.step (ai _ _) (aa.step (ko _ _ _) ?_);refine aa.res [_] (old:=z4) w rfl (fN lu) ?_;show dH (missing lu)<= _;rw [eh];omega
 | true=>
  rw [xX l] at h;refine aa.wide (aa.step (Ju _ _) ?_);unfold MJ;refine aa.alloc (Wd.begin m) fun E _ w=> ?_;refine aa.KW w fun B o w=> ?_;refine aa.bind (R:=fun c=> ∃j,c=([.bool (eZ (nx r)||bY mL r)],j)/\Wd PR st j p L x d r [(B.h,24,[.int .u8 ((nx r).1:Int),.str (nx r).2]),(st.h,ND,z4)] []) ?_ ?_
  .refine aa.xr NV w ?_;simp only [bF,af,ah,aA,ae];refine aa.step (kE (nx r) _ _) (aa.step (ar _ _) ?_);cases eZ (nx r) with
   | true=>exact aa.step (au _ _) (aa.some ⟨o,rfl,w⟩)
   | false=>
    refine aa.step (ai _ _) (aa.nP (s0:=mL) w fun j _ w=> ?_);exact aa.some ⟨j,rfl,w⟩
  .rintro c ⟨j,rfl,w⟩;simp only [af,ar,ae];cases g:(eZ (nx r)||bY mL r) with
   | true=>
    have a:(nx r).1≠9/\bY cZ r=false/\bY ck r=false:=by
     cases hl:eZ (nx r) with
     | true=>exact yu hl
     | false=>
      rw [hl,Ov] at g;exact ⟨by have:=(iA g).1;omega,Ew g (by decide),Ew g (by decide)⟩
    have u:(eZ (nx r)||(nx r).1==9||bY mL r||(bY cZ r||bY ck r))=true:=by
     rcases (OW _ _).mp g with h | h
     .rw [h];rfl
     .rw [h];simp
    rw [u,if_pos rfl,if_neg a.1,a.2.1,a.2.2,if_neg Oy,if_neg Oy] at h;cases h;refine aa.step (au _ _) ?_;exact zr (l1:=[_]) w
   | false=>
    obtain ⟨v,z⟩:=(PI).1 g;rw [v,z,Ov,PQ] at h;refine aa.step (ai _ _) (aa.eM NV w rfl (aa.step (ah _ _ _) ?_));rw [A];by_cases f:(nx r).1=9
    .rw [f] at h ⊢;rw [if_pos (by simp),if_pos rfl] at h;cases h;refine aa.step (au _ _) ?_;exact xK (l1:=[_]) (by rw [f] at w;exact w)
    .rw [NY.2 f] at h ⊢;rw [Ov] at h;refine aa.step (ai _ _) (aa.nP (s0:=cZ) w fun j _ w=> ?_);cases ho:bY cZ r with
     | true=>
      rw [ho,O9,if_pos rfl,if_neg f,if_pos rfl] at h;refine aa.step (au _ _) ?_;exact aa.node w (ih.closed false true _ p L x d r t r' hs w.pz hd h) rfl rfl fun k tk tx y s b e w=>aa.res [_] (old:=z4) w rfl b e
     | false=>
      rw [ho,Ov] at h;refine aa.step (ai _ _) (aa.nP (s0:=ck) w fun F _ w=> ?_);cases hl:bY ck r with
      | true=>
       rw [hl,if_pos rfl,if_neg f,if_neg Oy,if_pos rfl] at h;refine aa.step (au _ _) ?_;exact aa.node w (ih.closed true true _ p L x d r t r' hs w.pz hd h) rfl rfl fun k tk tx y s b e w=>aa.res [_] (old:=z4) w rfl b e
      | false=>
       rw [hl,if_neg Oy] at h;cases h;refine aa.step (ai _ _) (aa.step (ko _ _ _) ?_);refine aa.res [_] (old:=z4) w rfl (fN iR) ?_;show dH (missing iR)<= _;rw [eh];omega
end
theorem DP {k:Nat}: ∀(n:Nat) (acc:T) (d:Nat) (r:List bo) (l:List T) (r':List bo),P n (.ops k acc) d r=some (l,r')->isAny (opsOf k) r'=false
 | 0,_,_,_,_,_,h=>by cases h
 | n+1,acc,d,r,l,r',h=>by
  simp only [P] at h;split at h
  .obtain ⟨⟨b,a⟩,_,h⟩:=bind_some h;exact DP n _ d a l r' h
  .rename_i c;cases h;exact N6 c
theorem D7 {k:Nat} (c:k<=6) {n d:Nat} {r:List bo} {l:List T} {r':List bo} (h:P n (.level k) d r=some (l,r')):isAny (opsOf k) r'=false:=by
 cases n with
 | zero=>cases h
 | succ n=>
  simp only [P] at h;rw [if_neg (by omega)] at h;obtain ⟨⟨a,e⟩,b,h⟩:=bind_some h;obtain ⟨u,rfl⟩:=bU _ _ _ _ _ _ b rfl;exact DP _ _ _ _ _ _ h
section
variable {β:Type} {Q:β->Prop} {st0 st:St} {p:Nat} {L:List bo} {x:AV} {d d':Nat} {r r':List bo} {l l1 l2:List Vr} {os:List (AV×List AV)} {t:T}
theorem zG {n:Nat} (N:n<=10000000) (ih: ∀m,m < n->vK m) (hs:Sg L) {a b:Nat} {c:St} (D:c.h=a) (hd:d<=64): ∀(m:Nat) (acc t:T) (r r':List bo) (s:St),m<=n->P m (.args acc) d r=some ([t],r')->Nv PR st0 s p L x d r a b acc->dH acc+m<=900000000000000->
  aa (aI (mB (.mp p 0) c) ([],s)) (fun q=> ∃s',q=(0,[],s')/\Nv PR st0 s' p L x d r' a b t/\dH t<=900000000000000):=by
 intro m
 induction m with
 | zero=>intro acc t r r' s _ h;cases h
 | succ m l=>
  intro acc t r r' s O h H hl;simp only [P] at h;obtain ⟨k,tk,tx,y,w,f⟩:=H;split at h
  .rename_i o;obtain ⟨⟨E,v⟩,z,h⟩:=bind_some h;obtain ⟨u,rfl⟩:=bU _ _ _ _ _ _ z rfl;have I:=dn (by omega:m<=10000000) z rfl;have g:aa (mB (.mp p 0) c ([],s)) (fun q=> ∃s',q= .inl ([],s')/\Nv PR st0 s' p L x d v a b (node 13 [acc,u])):=by
    simp only [mB,D,ae];refine aa.jf false hs w fun F _ w=> ?_;rw [o];refine aa.step (au _ _) ?_;refine aa.dQ (NV) w ?_;refine aa.node w ((ih m (by omega)).atom false _ p L x d r u v hs w.pz hd z) rfl rfl fun Q J K R S j M G=> ?_;have E:=w.hP G (NV) f (by omega);refine aa.step (ff (by rw [E];rfl) _) ?_;refine aa.two f (aa.two j (aa.fit f fun U A _ _=>aa.fit j fun z2 B _ _=> ?_));refine aa.store [] G fun C V w=> ?_;exact aa.some ⟨C,rfl,13,0,[],_,w,gk (uy A B) (by simp)⟩
   obtain ⟨q,e,s',rfl,i⟩:=g;rw [aL e];refine l _ t v _ s' (by omega) h i ?_;simp only [bk,bf,aK];omega
  .rename_i o;cases h;have g:aa (mB (.mp p 0) c ([],s)) (fun q=> ∃s',q= .inr (0,[],s')/\Nv PR st0 s' p L x d r a b acc):=by
    simp only [mB,D,ae];refine aa.jf false hs w fun F _ w=> ?_;rw [N6 o];exact aa.step (ai _ _) (aa.some ⟨F,rfl,k,tk,tx,y,w,f⟩)
   obtain ⟨q,e,s',rfl,i⟩:=g;exact ⟨_,aC e,s',rfl,i,by omega⟩
theorem BT {n:Nat} (ih: ∀m,m<=n->vK m) (e:n<=10000000) (hs:Sg L) (g:Pz PR st p L x d r) (hd:d<=64) {u:T} {b:List bo} (f:P n (.atom false) d r=some ([u],b)) (h:P n (.args u) d b=some ([t],r')):NW PR 135 [.mp p 0] st p L x d t r':=by
 have i:=dn e f rfl;refine aa.wide (aa.step (FB _ _) ?_);unfold LC;refine aa.alloc (Wd.begin g) fun o _ w=> ?_;refine aa.node w ((ih n (NX _)).atom false _ p L x d r u b hs w.pz hd f) rfl rfl fun k tk tx y s a c w=> ?_;refine aa.alloc w fun v _ w=>aa.two a ?_;refine aa.store [] w fun j z w=> ?_;refine aa.bind (zG e (fun m A=>ih m (by omega)) hs rfl hd n u t b r' j (NX _) h ⟨k,tk,tx,y,w,a⟩ (by omega)) ?_;rintro q ⟨B,rfl,l,c⟩;exact aa.step (ae _) (l.fin (by omega))
theorem Cn {n:Nat} (ih: ∀m,m<=n->vK m) (A:n<=10000000):fP 130 [] .neg (n+1):=by
 intro st p L x d r t r' hs E hd h;simp only [P] at h;have j:isAny [[45],[45,46]] r=(bY [45] r||bY [45,46] r):=by
  unfold isAny bY;cases ((nx r).1==3||(nx r).1==8) with
  | true=>
   simp only [O7,Pn,List.any_nil,PQ];congr 1 <;> (rw [Bool.eq_iff_iff,OL,OL];exact eq_comm)
  | false=>rfl
 refine aa.wide (aa.step (F7 _ _) ?_);unfold KQ;refine aa.alloc (Wd.begin E) fun J _ w=> ?_;refine aa.bind (R:=fun c=> ∃l,c=([.bool (!(isAny [[45],[45,46]] r))],l)/\Wd PR st l p L x d r [(st.h,ND,z4)] []) ?_ ?_
 .rw [j];refine aa.nP (s0:=[45]) w fun l _ w=> ?_;cases bY [45] r with
  | true=>exact aa.step (ai _ _) (aa.some ⟨l,rfl,w⟩)
  | false=>exact aa.step (au _ _) (aa.nP (s0:=[45,46]) w fun B _ w=>aa.some ⟨B,rfl,w⟩)
 .rintro c ⟨l,rfl,w⟩;simp only [af,ar,ae];split at h
  .rename_i o;rw [o];refine aa.step (ai _ _) ?_;refine aa.lh w fun k tk tx y s b e w=> ?_;refine aa.two b (aa.fit b fun K q _ _=> ?_);refine aa.alloc w fun B _ w=> ?_;refine aa.store [] w fun F C w=> ?_;have M:=bz r;refine aa.tY (aa.jM w (aa.step (ah _ _ _) ?_));have a:Gv PR st F p L x d (aT r) s.h st.h 12 [aO r]:=⟨_,_,w.shut (by simp),iI q,by rw [aZ];exact e⟩;split at h
   .rename_i hd;subst hd;cases h;refine aa.step (au _ _) ?_;refine a.grow (sW a.pz _) rfl rfl (by simp) fun D a=> ?_;refine a.nd.fin ?_;have:=lQ lu (aT r);show dH (node 12 ([aO r]++[mR lu (aT r)]))<= _;simp only [bk,bI,bf,aK];omega
   .obtain ⟨⟨G,z⟩,i,h⟩:=bind_some h;obtain ⟨u,rfl⟩:=bU _ _ _ _ _ _ i rfl;cases h;have H:=dn A i rfl;rw [show ((d:Int)==64)=false from NY.2 (by omega)];refine aa.step (ai _ _) ?_;obtain ⟨v,es,w,f,g⟩:=a;refine aa.tY (aa.jM w (aa.step (ah _ _ _) ?_));rw [aD,bj (by omega)];refine aa.tY (aa.deep (d+1) w fun D C w=> ?_);have a:Gv PR st D p L x (d+1) (aT r) s.h st.h 12 [aO r]:=⟨v,es,w,f,g⟩;refine a.grow ((ih n (NX _)).neg _ p L x (d+1) _ u z hs a.pz (by omega) i) rfl rfl (by simp) fun N a=> ?_;obtain ⟨v,es,w,f,g⟩:=a;refine aa.tY (aa.jM w (aa.step (ah _ _ _) ?_));rw [aD,show ((d+1:Nat):Int) - 1=((d+1:Nat):Int) - ((1:Nat):Int) from rfl,qA (by omega) (by omega),PB];refine aa.tY (aa.deep d w fun I C w=> ?_);have a:Gv PR st I p L x d z s.h st.h 12 ([aO r]++[u]):=⟨v,es,w,f,g⟩;refine a.nd.fin (t:=node 12 ([aO r]++[u])) ?_;simp only [bk,bI,bf,aK];omega
  .rename_i o;rw [N6 o];refine aa.step (au _ _) ?_;obtain ⟨⟨G,z⟩,i,h⟩:=bind_some h;obtain ⟨u,rfl⟩:=bU _ _ _ _ _ _ i rfl;exact aa.node w (BT ih A hs w.pz hd i h) rfl rfl fun k tk tx y s b e w=>aa.res [] (old:=z4) w rfl b e
theorem tA {k:Nat} (a:k<=6) {γ:Type} (st:St) (K:Kv γ):aX (bc vE) 123 [.int .i64 (k:Int)] st K=K (.sl 1 ((opsOf k).map AV.str) .shut) st q0:=by
 refine aM st K rfl rfl rfl (aY rfl ((Gd _).trans ?_))
 match k,a with
 | 0,_=>rfl
 | 1,_=>rfl
 | 2,_=>rfl
 | 3,_=>rfl
 | 4,_=>rfl
 | 5,_=>rfl
 | 6,_=>rfl
theorem wz {k:Nat} (a:k<=6):(opsOf k).length<=1000:=by
 match k,a with
 | 0,_=>simp [opsOf]
 | 1,_=>simp [opsOf]
 | 2,_=>simp [opsOf]
 | 3,_=>simp [opsOf]
 | 4,_=>simp [opsOf]
 | 5,_=>simp [opsOf]
 | 6,_=>simp [opsOf]
theorem En {n:Nat} (e: ∀k:Nat,k<=6->fP 110 [.int .i64 (k:Int)] (.level k) n) (neg: ∀m,n=m+1->fP 130 [] .neg m) (k:Nat) (i:k<=6):fP 121 [.int .i64 (k:Int)] (.level (k+1)) n:=by
 intro st p L x d r t r' hs f hd h;refine aa.wide (aa.step (FQ _ _ _) ?_);unfold Lz;refine aa.step (ah _ _ _) (aa.alloc (Wd.begin f) fun j _ w=> ?_);by_cases l:k < 6
 .refine aa.step (cy (c:=true) (Pa (show (k:Int) < 6 by omega)) _ _) (aa.step (au _ _) ?_);rw [aD,bj (by omega)];exact aa.node w (e (k+1) (by omega) _ p L x d r t r' hs w.pz hd h) rfl rfl fun g tk tx y s a b w=>aa.res [] (old:=z4) w rfl a b
 .obtain rfl:k=6:=by omega
  refine aa.step (cy (c:=false) (OX (by decide)) _ _) (aa.step (ai _ _) ?_);cases n with
  | zero=>cases h
  | succ m=>
   simp only [P,if_true] at h;exact aa.node w (neg m rfl _ p L x d r t r' hs w.pz hd h) rfl rfl fun g tk tx y s a b w=>aa.res [] (old:=z4) w rfl a b
theorem BL {n:Nat} (hn:n<=10000000) (ih: ∀m,m < n->vK m) (hs:Sg L) {a b k:Nat} (l:k<=6) (v:Parse.leftOf k=true) {c:St} (J:c.h=a) (hd:d<=64): ∀(m:Nat) (acc t:T) (r r':List bo) (s:St),m<=n->P m (.ops k acc) d r=some ([t],r')->Nv PR st0 s p L x d r a b acc->dH acc+m<=900000000000000->
  aa (aI (mr (.mp p 0) (k:Int) c) ([],s)) (fun q=> ∃s',q=(0,[],s')/\Nv PR st0 s' p L x d r' a b t/\dH t<=900000000000000):=by
 intro m
 induction m with
 | zero=>intro acc t r r' s _ h;cases h
 | succ m z=>
  intro acc t r r' s hm h N hl;simp only [P] at h;obtain ⟨O,tk,tx,y,w,f⟩:=N;split at h
  .rename_i A;obtain ⟨⟨K,B⟩,C,h⟩:=bind_some h;obtain ⟨u,rfl⟩:=bU _ _ _ _ _ _ C rfl;have Q:=dn (by omega:m<=10000000) C rfl;have R:=bz r;have i:aa (mr (.mp p 0) (k:Int) c ([],s)) (fun q=> ∃s',q= .inl ([],s')/\Nv PR st0 s' p L x d B a b (node 11 [acc,aO r,u])):=by
    simp only [mr,J,ae];refine aa.step (tA l _ _) ?_;refine aa.As (iy (opsOf k) (wz l)) w fun M _ w=> ?_;rw [A];refine aa.step (au _ _) ?_;refine aa.lh w fun k' S U y' s6 g D w=> ?_;refine aa.alloc w fun s7 _ w=>aa.two g ?_;refine aa.store [] w fun s8 V w=> ?_;refine aa.dQ (a:=a) (N2 _ NV) w ?_;refine aa.dQ (NV) w ?_;refine aa.node w ((ih m (by omega)).oper k l _ p L x d _ u B hs w.pz hd C) rfl rfl fun k2 W X y2 s9 o Y E=> ?_;have K:=w.hP E (NV) g D;have Z:=w.hP E (a:=a) (N2 _ NV) f (by omega);refine aa.step (ff (by rw [K,Z];rfl) _) ?_;refine aa.two f (aa.two g (aa.two o (aa.fit f fun z1 F _ _=>aa.fit g fun z2 G _ _=>aa.fit o fun z3 H _ _=> ?_)));refine aa.store [_] E fun I V w=> ?_;exact aa.some ⟨I,rfl,11,0,[],_,w.sub Fh,gk (uV F G H) (by simp)⟩
   obtain ⟨q,e,s',rfl,j⟩:=i;rw [aL e];refine z _ t B _ s' (by omega) h j ?_;simp only [bk,bf,aK];omega
  .rename_i A;cases h;have i:aa (mr (.mp p 0) (k:Int) c ([],s)) (fun q=> ∃s',q= .inr (0,[],s')/\Nv PR st0 s' p L x d r a b acc):=by
    simp only [mr,J,ae];refine aa.step (tA l _ _) ?_;refine aa.As (iy (opsOf k) (wz l)) w fun M _ w=> ?_;rw [N6 A];exact aa.step (ai _ _) (aa.some ⟨M,rfl,O,tk,tx,y,w,f⟩)
   obtain ⟨q,e,s',rfl,j⟩:=i;exact ⟨_,aC e,s',rfl,j,by omega⟩
theorem xS {n:Nat} (ih: ∀m,m<=n->vK m) (I:n<=10000000) (k:Nat) (g:k<=6):fP 110 [.int .i64 (k:Int)] (.level k) (n+1):=by
 intro st p L x d r t r' hs M hd h;simp only [P] at h;rw [if_neg (by omega)] at h;obtain ⟨⟨J,z⟩,A,h⟩:=bind_some h;obtain ⟨u,rfl⟩:=bU _ _ _ _ _ _ A rfl;have N:=dn I A rfl;refine aa.wide (aa.step (F6 _ _ _) ?_);unfold Lj;refine aa.step (ah _ _ _) (aa.alloc (Wd.begin M) fun s1 _ w=> ?_);refine aa.node w ((ih n (NX _)).oper k g _ p L x d r u z hs w.pz hd A) rfl rfl fun O tk tx y s b i w=> ?_;refine aa.alloc w fun s3 _ w=>aa.two b ?_;refine aa.store [] w fun K Q w=> ?_;refine aa.bind (R:=fun c=>c=([.bool (Parse.leftOf k)],K)) ?_ ?_
 .match k,g with
  | 0,_=>exact aa.some rfl
  | 1,_=>exact aa.some rfl
  | 2,_=>exact aa.some rfl
  | 3,_=>exact aa.some rfl
  | 4,_=>exact aa.some rfl
  | 5,_=>exact aa.some rfl
  | 6,_=>exact aa.some rfl
 .rintro c rfl;simp only [af,ar,ae];cases e:Parse.leftOf k with
  | true=>
   refine aa.step (au _ _) ?_;refine aa.bind (BL I (fun m hm=>ih m (by omega)) hs g e rfl hd n u t z r' K (NX _) h ⟨O,tk,tx,y,w,b⟩ (by omega)) ?_;rintro q ⟨S,rfl,T,i⟩;exact aa.step (ae _) (T.fin (by omega))
  | false=>
   refine aa.step (ai _ _) (aa.step (tA g _ _) ?_);refine aa.As (iy (opsOf k) (wz g)) w fun s5 _ w=> ?_;cases n with
   | zero=>cases h
   | succ m=>
    simp only [P] at h;split at h
    .rename_i B;obtain ⟨⟨b1,U⟩,j,h⟩:=bind_some h
     try rw [e,if_neg Oy] at j
     obtain ⟨v,rfl⟩:=bU _ _ _ _ _ _ j rfl;have V:=dn (by omega:m<=10000000) j rfl;have C:=D7 g j;have l:t=node 11 [u,aO z,v]/\r'=U:=by
      cases m with
      | zero=>cases h
      | succ m=>
       simp only [P] at h;rw [C,if_neg Oy] at h;cases h;exact ⟨rfl,rfl⟩
     obtain ⟨rfl,rfl⟩:=l;have W:=bz z;rw [B];refine aa.step (au _ _) ?_;refine aa.lh w fun k' X Y y' S f D w=> ?_;refine aa.alloc w fun s7 _ w=>aa.two f ?_;refine aa.store [] w fun s8 Q w=> ?_;refine aa.dQ (a:=s.h) (N2 _ NV) w ?_;refine aa.dQ (NV) w ?_;refine aa.node w ((ih m (by omega)).level k g _ p L x d _ v r' hs w.pz hd j) rfl rfl fun k2 Z av y2 s9 o a6 E=> ?_;have J:=w.hP E (NV) f D;have a2:=w.hP E (a:=s.h) (N2 _ NV) b (by omega);refine aa.step (ff (by rw [J,a2];rfl) _) ?_;refine aa.two b (aa.two f (aa.two o (aa.fit b fun z1 F _ _=>aa.fit f fun z2 G _ _=>aa.fit o fun z3 H _ _=> ?_)));refine aa.yW [_,_] (old:=z4) E rfl (gk (uV F G H) (by simp)) ?_;simp only [bk,bf,aK];omega
    .rename_i B;cases h;rw [N6 B];refine aa.step (ai _ _) ?_;refine aa.dQ (NV) w ?_;exact aa.res [_] (old:=z4) w rfl b i
end
section
variable {β:Type} {Q:β->Prop} {PT:TypeId} {st0 st:St} {p:Nat} {L:List bo} {x:AV} {d d':Nat} {r r':List bo} {l l1 l2:List Vr} {os:List (AV×List AV)} {t:T}
theorem Wd.swap {u v:Vr} (w:Wd PT st0 st p L x d r (u::v::l) os):Wd PT st0 st p L x d r (v::u::l) os:=by
 refine ⟨w.pz,w.k,fun q a=>w.v q ?_, ?_,w.o,w.od,w.p0,w.ro0⟩
 .rcases Oc.1 a with h | a
  .exact N2 _ (by rw [h];exact NV)
  .rcases Oc.1 a with h | a
   .rw [h];exact NV
   .exact N2 _ (N2 _ a)
 .have h:=w.nd;simp only [Od,Ps,Oc,not_or] at h ⊢;exact ⟨⟨fun e=>h.1.1 e.symm,h.2.1⟩,h.1.2,h.2.2⟩
theorem Wd.My (w:Wd PT st0 st p L x d r l []) {v:AV} {es:List AV} (h:jE st 4 ND v es) (a: ∀j,dm v j->st0.h<=j):Wd PT st0 st p L x d r l [(v,es)]:=
 ⟨w.pz,w.k,w.v,w.nd,fun q b=>by
  rw [Pw.1 b];exact ⟨h,a⟩,List.pairwise_singleton _ _,w.p0,w.ro0⟩
theorem Gv.Dp {s:St} {a b k:Nat} {ts:List T} (h:Gv PR st0 s p L x d r a b k ts) {K:Int->List UInt8->St->Fx->Option β} (g: ∀s' e,Gv PR st0 s' p L x d r a b k ts->aa (K ((nx r).1:Int) (nx r).2 s' e) Q):
  aa (aX (bc vE) 33 [.mp p 0] s fun v s e=>E8 v fun a c=>K a c s e) Q:=by
 obtain ⟨v,es,w,hs,hd⟩:=h;exact aa.Dp w fun s' w'=>g s' _ ⟨v,es,w',hs,hd⟩
theorem wL {n:Nat} (ih: ∀m,m < n->vK m) (hs:Sg L) {a b k:Nat} {c:St} (v:c.h=a) (hd:d<=64): ∀(m:Nat) (ts bs:List T) (r r':List bo) (s:St),m<=n->P m .params d r=some (bs,r')->Gv PR st0 s p L x d r a b k ts->ts.length+m<=100000000->
  aa (aI (pH (.mp p 0) c) ([],s)) (fun q=> ∃s',q=(0,[],s')/\Gv PR st0 s' p L x d r' a b k (ts++bs)):=by
 intro m
 induction m with
 | zero=>intro ts bs r r' s _ h;cases h
 | succ m j=>
  intro ts bs r r' s B h f hl;simp only [P] at h;split at h
  .rename_i l;obtain ⟨⟨C,o⟩,w,h⟩:=bind_some h;obtain ⟨u,rfl⟩:=bU _ _ _ _ _ _ w rfl;obtain ⟨⟨b1,D⟩,z,h⟩:=bind_some h;cases h;have g:aa (pH (.mp p 0) c ([],s)) (fun q=> ∃s',q= .inl ([],s')/\Gv PR st0 s' p L x d o a b k (ts++[u])):=by
    simp only [pH,ae,v];refine f.jf true hs fun y _ f=> ?_;rw [l];refine aa.step (au _ _) ?_;exact f.grow ((ih m (by omega)).atom true _ p L x d r u o hs f.pz hd w) rfl rfl (by omega) fun s' f=>aa.some ⟨s',rfl,f⟩
   obtain ⟨q,e,s',rfl,i⟩:=g;rw [aL e];refine (j _ b1 o _ s' (by omega) z i (by simp;omega)).mono ?_;rintro q ⟨A,rfl,t⟩;exact ⟨A,rfl,by simpa using t⟩
  .rename_i l;cases h;have g:aa (pH (.mp p 0) c ([],s)) (fun q=> ∃s',q= .inr (0,[],s')/\Gv PR st0 s' p L x d r a b k ts):=by
    simp only [pH,ae,v];refine f.jf true hs fun y _ f=> ?_;rw [N6 l];exact aa.step (ai _ _) (aa.some ⟨y,rfl,f⟩)
   obtain ⟨q,e,s',rfl,i⟩:=g;exact ⟨_,aC e,s',rfl,by simpa using i⟩
theorem ue {n:Nat} (ih: ∀m,m < n->vK m) (hs:Sg L) {a b k:Nat} {c:St} (v:c.h=a) (hd:d<=64): ∀(m:Nat) (ts bs:List T) (r r':List bo) (s:St),m<=n->P m .params d r=some (bs,r')->Gv PR st0 s p L x d r a b k ts->ts.length+m<=100000000->
  aa (aI (pZ (.mp p 0) c) ([],s)) (fun q=> ∃s',q=(0,[],s')/\Gv PR st0 s' p L x d r' a b k (ts++bs)):=by
 intro m
 induction m with
 | zero=>intro ts bs r r' s _ h;cases h
 | succ m j=>
  intro ts bs r r' s B h f hl;simp only [P] at h;split at h
  .rename_i l;obtain ⟨⟨C,o⟩,w,h⟩:=bind_some h;obtain ⟨u,rfl⟩:=bU _ _ _ _ _ _ w rfl;obtain ⟨⟨b1,D⟩,z,h⟩:=bind_some h;cases h;have g:aa (pZ (.mp p 0) c ([],s)) (fun q=> ∃s',q= .inl ([],s')/\Gv PR st0 s' p L x d o a b k (ts++[u])):=by
    simp only [pZ,ae,v];refine f.jf true hs fun y _ f=> ?_;rw [l];refine aa.step (au _ _) ?_;exact f.grow ((ih m (by omega)).atom true _ p L x d r u o hs f.pz hd w) rfl rfl (by omega) fun s' f=>aa.some ⟨s',rfl,f⟩
   obtain ⟨q,e,s',rfl,i⟩:=g;rw [aL e];refine (j _ b1 o _ s' (by omega) z i (by simp;omega)).mono ?_;rintro q ⟨A,rfl,t⟩;exact ⟨A,rfl,by simpa using t⟩
  .rename_i l;cases h;have g:aa (pZ (.mp p 0) c ([],s)) (fun q=> ∃s',q= .inr (0,[],s')/\Gv PR st0 s' p L x d r a b k ts):=by
    simp only [pZ,ae,v];refine f.jf true hs fun y _ f=> ?_;rw [N6 l];exact aa.step (ai _ _) (aa.some ⟨y,rfl,f⟩)
   obtain ⟨q,e,s',rfl,i⟩:=g;exact ⟨_,aC e,s',rfl,by simpa using i⟩
theorem Ad {n:Nat} (ih: ∀m,m < n->vK m) (hs:Sg L) {a b k:Nat} {f:St} (v:f.h=a) (hd:d<=64): ∀(m:Nat) (ts bs:List T) (r r':List bo) (s:St),m<=n->P m .arms d r=some (bs,r')->Gv PR st0 s p L x d r a b k ts->ts.length+2 * m<=100000000->
  aa (aI (pJ (.mp p 0) f) ([],s)) (fun q=> ∃s',q=(0,[],s')/\Gv PR st0 s' p L x d r' a b k (ts++bs)):=by
 intro m
 induction m with
 | zero=>intro ts bs r r' s _ h;cases h
 | succ m j=>
  intro ts bs r r' s B h c hl;simp only [P] at h;split at h
  .rename_i l;obtain ⟨⟨C,o⟩,w,h⟩:=bind_some h;obtain ⟨u,rfl⟩:=bU _ _ _ _ _ _ w rfl;obtain ⟨⟨b1,D⟩,z,h⟩:=bind_some h;cases h;have g:aa (pJ (.mp p 0) f ([],s)) (fun q=> ∃s',q= .inl ([],s')/\Gv PR st0 s' p L x d o a b k (ts++[aO r]++[u])):=by
    simp only [pJ,ae,v];refine c.nP (s0:=jD) fun y _ c=> ?_;rw [l];refine aa.step (au _ _) ?_;refine c.grow (gj c.pz) rfl rfl (by omega) fun s' c=> ?_;exact c.grow ((ih m (by omega)).arm _ p L x d _ u o hs c.pz hd w) rfl rfl (by simp;omega) fun s' c=>aa.some ⟨s',rfl,c⟩
   obtain ⟨q,e,s',rfl,i⟩:=g;rw [aL e];refine (j _ b1 o _ s' (by omega) z i (by simp;omega)).mono ?_;rintro q ⟨A,rfl,t⟩;exact ⟨A,rfl,by simpa using t⟩
  .rename_i l;cases h;have g:aa (pJ (.mp p 0) f ([],s)) (fun q=> ∃s',q= .inr (0,[],s')/\Gv PR st0 s' p L x d r a b k ts):=by
    simp only [pJ,ae,v];refine c.nP (s0:=jD) fun y _ c=> ?_;rw [N6 l];exact aa.step (ai _ _) (aa.some ⟨y,rfl,c⟩)
   obtain ⟨q,e,s',rfl,i⟩:=g;exact ⟨_,aC e,s',rfl,by simpa using i⟩
theorem tR {n:Nat} (ih: ∀m,m<=n->vK m) (U:n<=10000000):Bk (n+1):=by
 intro st p L x d r k a e ts r' hs F hd y G h;have H:dB ts<=200000000000000:=by
  have:=Bx (n+1) .binding d r ts r' h;rw [show gP pc.binding=[] from rfl,aK] at this;have V:(n+1) * (n+1)<=10000001 * 10000001:=PC (by omega) (by omega);omega
 have z: ∃xs f es,P n .expr d (bL xj f)=some ([es],r')/\ts=(if bY fw r then [aO r] else [])++xs++[du xj f]++[es]/\xs.length<=n+1/\
   (if (nx (if bY fw r then aT r else r)).1=4 then ∃ps,P n .params d (aT (if bY fw r then aT r else r))=some (ps,f)/\xs=aO (if bY fw r then aT r else r)::ps else P n (.atom true) d (if bY fw r then aT r else r)=some (xs,f)):=by
  simp only [P] at h;generalize (if bY fw r then aT r else r)=r0 at h ⊢;split at h
  .rename_i h4;obtain ⟨⟨xs,f⟩,i,h⟩:=bind_some h;obtain ⟨⟨ps,I⟩,l,i⟩:=bind_some i;cases i;obtain ⟨⟨es,J⟩,g,h⟩:=bind_some h;obtain ⟨u,rfl⟩:=bU _ _ _ _ _ _ g rfl;cases h;have:=iD _ _ _ _ _ l;exact ⟨aO r0::ps,I,u,g,rfl,by simpa using this,by rw [if_pos h4];exact ⟨ps,l,rfl⟩⟩
  .rename_i h4;obtain ⟨⟨xs,f⟩,i,h⟩:=bind_some h;obtain ⟨⟨es,J⟩,g,h⟩:=bind_some h;obtain ⟨u,rfl⟩:=bU _ _ _ _ _ _ g rfl;cases h;have:=js i rfl;exact ⟨xs,f,u,g,rfl,by omega,by rw [if_neg h4];exact i⟩
 clear h;obtain ⟨xs,f,u,g,A,K,j⟩:=z;refine aa.wide (aa.step (Hw _ _ _) ?_);unfold MV;refine aa.step (ib ..) (aa.one rfl ?_);refine aa.alloc (Wd.begin F) fun B M w=>aa.alloc w fun N _ w=> ?_;have b:Gv PR st N p L x d r st.h B.h k [a]:=⟨_,_,w.swap.shut (by simp),iI y,by rw [aZ];omega⟩;refine b.nP (s0:=fw) fun O _ b=> ?_;refine aa.bind (R:=fun c=> ∃s,c=([],s)/\Gv PR st s p L x d (if bY fw r then aT r else r) st.h B.h k ([a]++(if bY fw r then [aO r] else []))) ?_ ?_
 .cases W:bY fw r with
  | true=>exact aa.step (au _ _) (b.grow (gj b.pz) rfl rfl (by simp) fun D b=>aa.some ⟨D,rfl,b⟩)
  | false=>exact aa.step (ai _ _) (aa.some ⟨O,rfl,by simpa using b⟩)
 have Q:(if bY fw r then [aO r] else []).length<=1:=by split <;> simp
 generalize (if bY fw r then [aO r] else [])=rc at *;generalize (if bY fw r then aT r else r)=r0 at *;rintro c ⟨D,rfl,b⟩;refine aa.step (ae _) (b.Dp fun X _ b=> ?_);refine aa.bind (R:=fun c=> ∃s,c=([],s)/\Gv PR st s p L x d f st.h B.h k ([a]++rc++xs)) ?_ ?_
 .by_cases h4:(nx r0).1=4
  .rw [if_pos h4] at j;obtain ⟨ps,l,rfl⟩:=j;refine aa.step (cy (c:=true) (by rw [h4];rfl) _ _) (aa.step (au _ _) ?_);refine b.grow (gj b.pz) rfl rfl (by simp;omega) fun t b=> ?_;refine aa.bind (wL (fun m Y=>ih m (by omega)) hs rfl hd n _ ps _ f t (NX _) l b (by simp;omega)) ?_;rintro q ⟨E,rfl,b⟩;exact aa.step (ae _) (aa.some ⟨E,rfl,by simpa using b⟩)
  .rw [if_neg h4] at j;obtain ⟨S,rfl⟩:=bU _ _ _ _ _ _ j rfl;refine aa.step (cy (c:=false) (NY.2 (by omega)) _ _) (aa.step (ai _ _) ?_);exact b.grow ((ih n (NX _)).atom true _ p L x d r0 S f hs b.pz hd j) rfl rfl (by simp;omega) fun t b=>aa.some ⟨t,rfl,b⟩
 .rintro c ⟨t,rfl,b⟩;refine aa.step (ae _) ?_;refine b.grow (gN b.pz xj) rfl rfl (by simp;omega) fun E b=> ?_;refine b.grow ((ih n (NX _)).expr _ p L x d _ u r' hs b.pz hd g) rfl rfl (by simp;omega) fun Z b=> ?_;obtain ⟨v,es,w,C,T⟩:=b;refine aa.dQ NV w (aa.one w.ET.one ?_);refine aa.store [_] w fun s9 _ w=> ?_;refine aa.dQ (N2 _ NV) w (aa.some ?_);have ho:=w.o _ NV;refine ⟨v,es,rfl,ho.1,ho.2, ?_, ?_,w.pz,w.k⟩
  .rw [A];have:[a]++rc++xs++[du xj f]++[u]=a::(rc++xs++[du xj f]++[u]):=by simp
   rw [<- this];exact C
  .rw [bf];omega
end
section
variable {β:Type} {Q:β->Prop} {PT:TypeId} {st0 st:St} {p:Nat} {L:List bo} {x:AV} {d d':Nat} {r r':List bo} {l l1 l2:List Vr} {os:List (AV×List AV)} {t:T}
theorem _root_.Go.VM.aa.xV (w:Wd PR st0 st p L x d r [(st0.h,ND,z4)] []) (k:Nat) {K:St->St->Option β} (g: ∀s s',Gv PR st0 s' p L x d (aT r) s.h st0.h k [aO r]->aa (K s s') Q):
  aa (aX (bc vE) 35 [.mp p 0] st fun v s _=>qJ v fun e f tx y=>ab y (ab y (aJ y fun y=>ba (St.add s (.cells ND z4)) fun i=>bn (bc vE) 4 (.mp (St.h s) 0) (.agg [.int .u8 (k:Int),.int .u8 0,.str [],.sl 4 [.agg [.int .u8 e,.int .u8 f,.str tx,y]] .shut]) [.int .u8 (k:Int),.int .u8 0,.str [],.sl 4 [.agg [.int .u8 e,.int .u8 f,.str tx,y]] .shut] i fun _ s' _=>K s s'))) Q:=by
 refine aa.lh w fun l tk tx y s a b w=>aa.two a (aa.fit a fun m c _ _=> ?_);refine aa.alloc w fun i _ w=>aa.store [] w fun j _ w=> ?_;exact g s j ⟨_,_,w.shut (by simp),iI c,by rw [aZ];exact b⟩
theorem yO {n:Nat} (ih: ∀m,m<=n->vK m) (hn:n<=10000000):fP 90 [] .whole (n+1):=by
 intro st p L x d r t r' hs V hd h;have i:dH t<=200000000000000:=by
  have:=Bx (n+1) .whole d r [t] r' h;rw [show gP pc.whole=[] from rfl,aK,aZ] at this;have hq:(n+1) * (n+1)<=10000001 * 10000001:=PC (by omega) (by omega);omega
 simp only [P] at h;refine aa.wide (aa.step (Jl _ _) ?_);unfold MX;refine aa.alloc (Wd.begin V) fun s0 h0 w=> ?_;refine aa.nP (s0:=ku) w fun s2 _ w=> ?_;have b:=ih n (NX _);have W:=bz r;split at h
 .rename_i g;obtain ⟨⟨bs,D⟩,l,h⟩:=bind_some h;obtain ⟨⟨es,H⟩,o,h⟩:=bind_some h;obtain ⟨e,rfl⟩:=bU _ _ _ _ _ _ o rfl;cases h;have F:=lN _ _ _ _ _ l;refine aa.step (cy (c:=true) g _ _) (aa.step (au _ _) ?_);refine aa.lh w fun k tk tx y s z A w=>aa.two z (aa.fit z fun z1 J _ _=> ?_);refine aa.lb (b.binding _ p L x d _ 6 (aO r) _ bs D hs w.pz hd J (by omega) l) rfl rfl fun v G X=> ?_;obtain ⟨Y,Z,C,ho,K,M,av,N,O⟩:=X;have C:v= .agg [.int .u8 ((6:Nat):Int),.int .u8 0,.str [],Y]:=C;have w5:=(w.move O N).My ho fun j hj=>Oe w.h (K j hj);rw [C];refine aa.step (ib ..) (aa.alloc w5 fun Q _ w6=>aa.one ho.one ?_);refine aa.store [] w6 fun I _ w=> ?_;have a:Gv PR st I p L x d D G.h st.h 6 (aO r::bs):=⟨_,_,w,M,by omega⟩;refine a.grow (gN a.pz JM) rfl rfl (by simp;omega) fun E a=> ?_;refine a.grow (b.expr _ p L x d _ e _ hs a.pz hd o) rfl rfl (by simp;omega) fun T a=> ?_;have:=a.nd.fin (Oe i (by omega));exact this
 rename_i g;refine aa.step (cy (c:=false) (N6 g) _ _) (aa.step (ai _ _) ?_);refine aa.nP (s0:=HF) w fun s3 _ w=> ?_;split at h
 .rename_i g;obtain ⟨⟨U,f⟩,l,h⟩:=bind_some h;obtain ⟨u,rfl⟩:=bU _ _ _ _ _ _ l rfl;obtain ⟨⟨ps,D⟩,o,h⟩:=bind_some h;obtain ⟨⟨es,H⟩,B,h⟩:=bind_some h;obtain ⟨e,rfl⟩:=bU _ _ _ _ _ _ B rfl;cases h;have a6:=iD _ _ _ _ _ o;refine aa.step (cy (c:=true) g _ _) (aa.step (au _ _) ?_);refine aa.xV w 7 fun s s' a=> ?_;refine a.grow (b.atom true _ p L x d _ u f hs a.pz hd l) rfl rfl (by simp) fun G a=> ?_;refine aa.bind (ue (fun m hm=>ih m (by omega)) hs rfl hd n _ ps _ D G (NX _) o a (by simp;omega)) ?_;rintro q ⟨Q,rfl,a⟩;refine aa.step (ae _) ?_;refine a.grow (gN a.pz fu) rfl rfl (by simp;omega) fun I a=> ?_;refine a.grow (b.expr _ p L x d _ e _ hs a.pz hd B) rfl rfl (by simp;omega) fun E a=> ?_;refine a.nd.fin (Oe ?_ (by omega:200000000000000<=1000000000000000));simpa [On] using i
 rename_i g;refine aa.step (cy (c:=false) (N6 g) _ _) (aa.step (ai _ _) ?_);refine aa.nP (s0:=L4) w fun s4 _ w=> ?_;split at h
 .rename_i g;obtain ⟨⟨U,f⟩,l,h⟩:=bind_some h;obtain ⟨u,rfl⟩:=bU _ _ _ _ _ _ l rfl;obtain ⟨⟨b1,D⟩,o,h⟩:=bind_some h;obtain ⟨v,rfl⟩:=bU _ _ _ _ _ _ o rfl;obtain ⟨⟨es,H⟩,B,h⟩:=bind_some h;obtain ⟨e,rfl⟩:=bU _ _ _ _ _ _ B rfl;cases h;refine aa.step (cy (c:=true) g _ _) (aa.step (au _ _) ?_);refine aa.xV w 8 fun s s' a=> ?_;refine a.grow (b.expr _ p L x d _ u f hs a.pz hd l) rfl rfl (by simp) fun G a=> ?_;refine a.grow (gN a.pz rp) rfl rfl (by simp) fun Q a=> ?_;refine a.grow (b.expr _ p L x d _ v D hs a.pz hd o) rfl rfl (by simp) fun I a=> ?_;refine a.grow (gN a.pz r6) rfl rfl (by simp) fun E a=> ?_;refine a.grow (b.expr _ p L x d _ e _ hs a.pz hd B) rfl rfl (by simp) fun T a=> ?_;exact a.nd.fin (Oe i (by omega))
 rename_i g;refine aa.step (cy (c:=false) (N6 g) _ _) (aa.step (ai _ _) ?_);refine aa.nP (s0:=zy) w fun G _ w=> ?_;split at h
 .rename_i g;obtain ⟨⟨U,f⟩,l,h⟩:=bind_some h;obtain ⟨u,rfl⟩:=bU _ _ _ _ _ _ l rfl;obtain ⟨⟨b1,H⟩,o,h⟩:=bind_some h;obtain ⟨v,rfl⟩:=bU _ _ _ _ _ _ o rfl;obtain ⟨⟨cs,r4⟩,B,h⟩:=bind_some h;cases h;have a7:=yV _ _ _ _ _ B;refine aa.step (cy (c:=true) g _ _) (aa.step (au _ _) ?_);refine aa.xV w 9 fun s s' a=> ?_;refine a.grow (b.expr _ p L x d _ u f hs a.pz hd l) rfl rfl (by simp) fun Q a=> ?_;refine a.grow (gN a.pz cR) rfl rfl (by simp) fun I a=> ?_;refine a.nP (s0:=jD) fun E _ a=> ?_;refine aa.bind (R:=fun c=> ∃s',c=([],s')/\Gv PR st s' p L x d (if bY jD (bL cR f)=true then aT (bL cR f) else bL cR f) s.h st.h 9 ([aO r]++[u]++[du cR f]++if bY jD (bL cR f)=true then [aO (bL cR f)] else [])) ?_ ?_
  .cases a8:bY jD (bL cR f) with
   | true=>exact aa.step (au _ _) (a.grow (gj a.pz) rfl rfl (by simp) fun E a=>aa.some ⟨E,rfl,a⟩)
   | false=>exact aa.step (ai _ _) (aa.some ⟨E,rfl,by rw [if_neg (by simp),if_neg (by simp),ON];exact a⟩)
  .rintro c ⟨T,rfl,a⟩;have F:(if bY jD (bL cR f)=true then [aO (bL cR f)] else []).length<=1:=by split <;> simp
   generalize (if bY jD (bL cR f)=true then [aO (bL cR f)] else [])=bb at F a i ⊢;refine aa.step (ae _) ?_;refine a.grow (b.arm _ p L x d _ v H hs a.pz hd o) rfl rfl (by simp;omega) fun S a=> ?_;refine aa.bind (Ad (fun m hm=>ih m (by omega)) hs rfl hd n _ cs _ _ S (NX _) B a (by simp;omega)) ?_;rintro q ⟨b4,rfl,a⟩;refine aa.step (ae _) ?_;exact a.nd.fin (Oe i (by omega))
 .rename_i g;refine aa.step (cy (c:=false) (N6 g) _ _) (aa.step (ai _ _) ?_);exact aa.node w (b.level 0 (by omega) _ p L x d r t r' hs w.pz hd h) rfl rfl fun k tk tx y s z A w=>aa.res [] (old:=z4) w rfl z A
theorem GV: ∀n,n<=10000000->vK n:=by
 intro n
 induction n using Nat.strongRecOn with
 | _ n ih=>
  intro j;cases n with
  | zero=>
   refine ⟨?_, ?_,fun k _=> ?_,fun k _=> ?_, ?_,fun pat=> ?_,fun list pat=> ?_, ?_, ?_, ?_⟩
   case refine_10=>
    intro st p L x d r k a e ts r' _ _ _ _ _ h;cases h
   all_goals
    intro st p L x d r t r' _ _ _ h;cases h
  | succ n=>
   have c: ∀m,m<=n->vK m:=fun m l=>ih m (by omega) (by omega);have i:=c n (NX _);have b:n<=10000000:=by omega
   have f:=fun k (g:k<=6)=>xS c b k g;exact ⟨zL i,yO c b,f,fun k g=>En f (fun m e=>by cases e;exact i.neg) k g,Cn c b,fun pat=>An i pat,fun list pat=>wV c b list pat,ub i b,BG i b,tR c b⟩
end
section
variable {β:Type} {Q:β->Prop} {PT:TypeId} {st0 st s:St} {L:List bo} {x:AV} {d d':Nat} {r r':List bo} {l l1 l2:List Vr} {os:List (AV×List AV)} {t:T}
theorem AA {f:St} {kc:Nat} (B:f.h=kc): ∀(m:Nat) (r:List bo) (ts:List T) (es:List AV) (v:AV) (s:St) (os:List (AV×List AV)),
  Wd PR st0 s 1 L x d r ((kc,ND,[.int .u8 3,.int .u8 0,.str [],v])::l2) ((v,es)::os)->bp ts es->dB ts<=2->ts.length+m<=100000000->r.length<=m->
  aa (aI (pQ f) ([],s)) (fun q=> ∃s' v' n,q=(0,[],s')/\Wd PR st0 s' 1 L x d (skip m r).2 ((kc,ND,[.int .u8 3,.int .u8 0,.str [],v'])::l2) ((v',n)::os)/\bp (ts++(skip m r).1) n/\dB (ts++(skip m r).1)<=2):=by
 have stop: ∀(r:List bo) (es:List AV) (v:AV) (s:St) (os:List (AV×List AV)),¬ ((nx r).1≠0/\bY ku r=false)->Wd PR st0 s 1 L x d r ((kc,ND,[.int .u8 3,.int .u8 0,.str [],v])::l2) ((v,es)::os)->
   aa (pQ f ([],s)) (fun q=> ∃s',q= .inr (0,[],s')/\Wd PR st0 s' 1 L x d r ((kc,ND,[.int .u8 3,.int .u8 0,.str [],v])::l2) ((v,es)::os)):=by
  intro r es v s os a w;simp only [pQ,ae];refine aa.bind (R:=fun c=> ∃s',c=([.bool false],s')/\Wd PR st0 s' 1 L x d r ((kc,ND,[.int .u8 3,.int .u8 0,.str [],v])::l2) ((v,es)::os)) ?_ ?_
  .refine aa.Dp w fun o w=> ?_;by_cases h0:(nx r).1=0
   .rw [h0];exact aa.some ⟨o,rfl,w⟩
   .have p:bY ku r=true:=by
     cases p:bY ku r with
     | true=>rfl
     | false=>exact absurd ⟨h0,p⟩ a
    refine aa.step (cy (c:=true) (lD (b:=0) h0) _ _) (aa.step (au _ _) ?_);refine aa.nP (s0:=ku) w fun j _ w=> ?_;exact aa.some ⟨j,by rw [p];rfl,w⟩
  .rintro c ⟨o,rfl,w⟩;exact aa.some ⟨o,rfl,w⟩
 intro m
 induction m with
 | zero=>
  intro r ts es v s os w i k hl C;obtain rfl:r=[]:=Oo (by omega);simp only [skip,ON];obtain ⟨q,e,s',rfl,w'⟩:=stop [] es v s os (fun h=>h.1 rfl) w;exact ⟨_,aC e,s',v,es,rfl,w',i,k⟩
 | succ m t=>
  intro r ts es v s os w i k hl C;by_cases a:(nx r).1≠0/\bY ku r=false
  .have u:aa (pQ f ([],s)) (fun q=> ∃s' v' e,q= .inl ([],s')/\Wd PR st0 s' 1 L x d (aT r) ((kc,ND,[.int .u8 3,.int .u8 0,.str [],v'])::l2) ((v',es++[e])::os)/\bp (ts++[aO r]) (es++[e])):=by
    simp only [pQ,ae,B];refine aa.bind (R:=fun c=> ∃s',c=([.bool true],s')/\Wd PR st0 s' 1 L x d r ((kc,ND,[.int .u8 3,.int .u8 0,.str [],v])::l2) ((v,es)::os)) ?_ ?_
    .refine aa.Dp w fun o w=> ?_;refine aa.step (cy (c:=true) (lD (b:=0) a.1) _ _) (aa.step (au _ _) ?_);refine aa.nP (s0:=ku) w fun j _ w=> ?_;exact aa.some ⟨j,by rw [a.2];rfl,w⟩
    .rintro c ⟨o,rfl,w⟩;simp only [af,ae,ar,au];refine aa.grow [] w (gj w.pz) rfl rfl i (by omega) (by omega) fun v' e j g _ w=> ?_;exact aa.some ⟨j,v',e,rfl,w,g⟩
   obtain ⟨q,e,s',v',G,rfl,w',g⟩:=u;rw [aL e];have D:=dI a.1;have l:skip (m+1) r=(aO r::(skip m (aT r)).1,(skip m (aT r)).2):=by
    simp only [skip];rw [if_pos a]
   rw [l];refine (t (aT r) _ _ v' s' os w' g ?_ (by simp;omega) (by omega)).mono ?_
   .have:=bz r;rw [bI,aZ];omega
   .rintro q ⟨j,E,y,rfl,F,z,A⟩;exact ⟨j,E,y,rfl,F,by simpa using z,by simpa using A⟩
  .have l:skip (m+1) r=([],r):=by
    simp only [skip];rw [if_neg a]
   rw [l,ON];obtain ⟨q,e,s',rfl,w'⟩:=stop r es v s os a w;exact ⟨_,aC e,s',v,es,rfl,w',i,k⟩
theorem zU (H:Sg L): ∀(N:Nat) (r:List bo) (D:List T) (ts:List T) (es:List AV) (v:AV) (s:St),N<=10000000->decls N r=some D->r.length<=1000000->
  Wd PR st0 s 1 L x 0 r [(2,ND,[.int .u8 4,.int .u8 0,.str [],v])] [(v,es)]->bp ts es->dB ts<=500000000000000->ts.length+N<=90000000->
  aa (aI ny ([],s)) (fun q=> ∃s' F t v' A,q=(0,[],s')/\D=t++[aO F]/\Wd PR st0 s' 1 L x 0 F [(2,ND,[.int .u8 4,.int .u8 0,.str [],v'])] [(v',A)]/\bp (ts++t) A/\(ts++t).length<=90000000/\dB (ts++t)<=500000000000000):=by
 intro N
 induction N with
 | zero=>intro r D ts es v s _ h;cases h
 | succ n I=>
  intro r D ts es v s z h b6 w f J hl;simp only [decls] at h;split at h
  .rename_i h0;cases h;have K:aa (ny ([],s)) (fun q=> ∃s',q= .inr (0,[],s')/\Wd PR st0 s' 1 L x 0 r [(2,ND,[.int .u8 4,.int .u8 0,.str [],v])] [(v,es)]):=by
    simp only [ny,ae];refine aa.Dp w fun M w=> ?_;rw [h0];exact aa.some ⟨M,rfl,w⟩
   obtain ⟨q,e,s',rfl,w'⟩:=K;exact ⟨_,aC e,s',r,[],v,es,rfl,rfl,w',by simpa using f,by simp;omega,by rw [ON];exact J⟩
  .rename_i h0;have O: ∃(u:T) (i:List bo) (j:List T),decls n i=some j/\D=u::j/\dH u<=300000000000000/\i.length<=r.length/\
     aa (ny ([],s)) (fun q=> ∃s' v' e,q= .inl ([],s')/\Wd PR st0 s' 1 L x 0 i [(2,ND,[.int .u8 4,.int .u8 0,.str [],v'])] [(v',es++[e])]/\fI u e):=by
    split at h
    .rename_i P;obtain ⟨⟨bs,i⟩,G,h⟩:=bind_some h;obtain ⟨j,B,h⟩:=bind_some h;cases h;have b7:=ry (by omega:n<=10000000) G rfl;have b8:=bz r;refine ⟨_,i,j,B,rfl,by simp only [bk,bf];omega, ?_, ?_⟩
     .have:=Hk (Q:=fun q=>q.length<=r.length) (fun q hq=>Oe (fA q) hq) _ _ _ _ _ _ G (fA r);exact this
     simp only [ny,ae];refine aa.Dp w fun M w=> ?_;refine aa.step (cy (c:=true) (lD (b:=0) h0) _ _) (aa.step (au _ _) ?_);refine aa.bind (R:=fun c=> ∃s' v' e,c= .inl ([],s')/\Wd PR st0 s' 1 L x 0 i [(2,ND,[.int .u8 4,.int .u8 0,.str [],v'])] [(v',es++[e])]/\fI (node 5 (aO r::bs)) e) ?_ ?_
     .refine aa.nP (s0:=ku) w fun S _ w=> ?_;rw [P];refine aa.step (au _ _) ?_;refine aa.lh w fun k tk tx y s3 C bb w=> ?_;refine aa.two C (aa.fit C fun z1 U _ _=> ?_);refine aa.alloc w fun s4 _ w=>aa.store [] w fun s5 _ w=> ?_;refine aa.eM (a:=2) (N2 _ NV) w rfl ?_;refine aa.dQ (NV) w ?_;refine aa.lb ((GV n (by omega)).binding s5 1 L x 0 _ 5 (aO r) _ bs i H w.pz (by omega) U (by omega) G) rfl rfl fun V s6 hv=> ?_;obtain ⟨y6,W,l,ho,_,E,b4,X,Y⟩:=hv;have l:V= .agg [.int .u8 ((5:Nat):Int),.int .u8 0,.str [],y6]:=l;have m:=w.move Y X;have Z:=w.same m (a:=2) (N2 _ NV) w.ET f (by omega);rw [l];refine aa.step (ib ..) (aa.step (ff (by rw [Z];rfl) _) ?_);have d:Nd (node 5 (aO r::bs)) 5 0 [] y6:=⟨⟨_,_,rfl,wv.own ho,E⟩⟩;refine aa.two d (aa.fit d fun z2 o h2 p=>aa.one h2 (aa.step (p _) ?_));refine aa.app m (by simp) (by rw [bp.len f];simp;omega) fun v7 s7 _ g w7=> ?_;refine aa.one g (aa.one g (aa.gz [_] w7 (N4 rfl) fun s8 _ w8=> ?_));exact aa.some ⟨s8,v7,_,rfl,w8.sub (PM _ _),o⟩
     .rintro c ⟨s',v',e,rfl,w',z⟩;exact aa.step (cN _ _) (aa.step (ae _) (aa.some ⟨s',v',e,rfl,w',z⟩))
    .rename_i P;obtain ⟨j,B,h⟩:=bind_some h;cases h;refine ⟨_,_,j,B,rfl,by have:=xP r.length r;simp only [bk];omega,qX _ _, ?_⟩;simp only [ny,ae];refine aa.Dp w fun M w=> ?_;refine aa.step (cy (c:=true) (lD (b:=0) h0) _ _) (aa.step (au _ _) ?_);refine aa.bind (R:=fun c=> ∃s' v' e,c= .inl ([],s')/\Wd PR st0 s' 1 L x 0 (skip r.length r).2 [(2,ND,[.int .u8 4,.int .u8 0,.str [],v'])] [(v',es++[e])]/\fI (node 3 (skip r.length r).1) e) ?_ ?_
     .refine aa.nP (s0:=ku) w fun S _ w=> ?_;rw [N6 P];refine aa.step (ai _ _) ?_;refine aa.alloc w fun s3 _ w=>aa.store [] w fun s4 _ w=> ?_;refine aa.bind (AA rfl r.length r [] [] .aG s4 _ w.aG bp.nil (by simp [aK]) (by simp;omega) (NX _)) ?_;rintro q ⟨s6,V,W,rfl,m,av,b9⟩;refine aa.step (ae _) ?_;refine aa.eM (a:=2) (N2 _ NV) m rfl ?_;refine aa.dQ (NV) m ?_;have d:Nd (node 3 (skip r.length r).1) 3 0 [] V:=⟨⟨_,_,rfl,m.ET,by simpa using av⟩⟩;refine aa.two d (aa.fit d fun z2 o h2 p=>aa.one h2 (aa.step (p _) ?_));refine aa.app m.drop (by simp) (by rw [bp.len f];simp;omega) fun v7 s7 _ g w7=> ?_;refine aa.one g (aa.one g (aa.gz [_] w7 (N4 rfl) fun s8 _ w8=> ?_));exact aa.some ⟨s8,v7,_,rfl,w8.sub (PM _ _),o⟩
     .rintro c ⟨s',v',e,rfl,w',z⟩;exact aa.step (cN _ _) (aa.step (ae _) (aa.some ⟨s',v',e,rfl,w',z⟩))
   obtain ⟨u,i,j,B,rfl,cc,b5,q,e,s',v',G,rfl,w',z⟩:=O;rw [aL e];refine (I i j (ts++[u]) _ v' s' (by omega) B (by omega) w' (bp.app f (iI z)) (by rw [bI,aZ];omega) (by simp;omega)).mono ?_;rintro q ⟨S,F,t,v2,a1,rfl,rfl,w2,a6,a7,a8⟩;exact ⟨S,F,u::t,v2,a1,rfl,rfl,w2,by simpa using a6,by simpa using a7,by simpa using a8⟩
end
end Go.Proofs.YtpinfliihpdjcaaGreatDoor.Vm
namespace Go.Proofs.YtpinfliihpdjcaaGreatDoor.Vm
open Go Go.VM Go.Proofs Go.Lex
def Bt (o:Int):List UInt8->Int
 | []=>o
 | b::l=>Bt (o * 64+b.toNat - 128) l
theorem uI (l:List UInt8) (hl:l.length<=4) (st:St): ∀(r:List UInt8) (i:Nat) (o:Int),l.drop i=r->i<=l.length-> -(1000 * 100 ^ i:Nat)<=o->o<=(1000 * 100 ^ i:Nat)->
  aI (sN l) ([.int .i64 o,.int .i64 (i:Int)],st)=some (0,[.int .i64 (Bt o r)],st)
 | [],i,o,hd,hi,_,_=>by
  have:=Ol.1 hd;have q:¬ (i:Int) < (l.length:Int):=by omega
  refine aC ?_;simp only [sN,af,ah,ae,aw,if_neg q,Bt]
 | b::r,i,o,hd,hi,h1,p=>by
  obtain ⟨c,d,a⟩:=drop_cons hd;have q:(i:Int) < (l.length:Int):=by omega
  have e:l[i]=b:=eP a c;have f:=UInt8.toNat_lt b;have s:(100:Nat) ^ i<=100 ^ 4:=Nat.pow_le_pow_right (by omega) (by omega);have g:1<=(100:Nat) ^ i:=Nat.one_le_pow _ _ (by omega);have h:(100:Nat) ^ (i+1)=100 * 100 ^ i:=by rw [Nat.pow_succ,Nat.mul_comm]
  have j:(100:Nat) ^ 4=100000000:=by decide
  have w1:IntKind.wrap .i64 (o * 64)=o * 64:=wrap_i64 (by omega) (by omega);have k:IntKind.wrap .i64 (b.toNat:Int)=(b.toNat:Int):=wrap_i64 (by omega) (by omega);have m:IntKind.wrap .i64 (o * 64+(b.toNat:Int))=o * 64+(b.toNat:Int):=wrap_i64 (by omega) (by omega);have n:IntKind.wrap .i64 (o * 64+(b.toNat:Int) - 128)=o * 64+(b.toNat:Int) - 128:=wrap_i64 (by omega) (by omega);have ih:=uI l hl st r (i+1) (o * 64+(b.toNat:Int) - 128) d (by omega) (by omega) (by omega);rw [aL (s':=([.int .i64 (o * 64+(b.toNat:Int) - 128),.int .i64 ((i+1:Nat):Int)],st)),ih]
  .rfl
  .simp only [sN,af,ah,ae,aw,if_pos q,aD,w1,bt a,e,k,m,n,bj (show i+1<=9223372036854775807 by omega)]
def kh:Nat->Int
 | 2=>192
 | 3=>224
 | 4=>240
 | _=>0
def fq:List UInt8->Int
 | []=>0
 | [b]=>b.toNat
 | b::l=>Bt ((b.toNat:Int) - kh (l.length+1)) l
theorem De {β:Type} {n:Nat} (h:2<=n) (h4:n<=4) (st:St) (K:AV->List Nat->Option β):fc 1 (AV.sl 1 [AV.int .i64 0,AV.int .i64 0,AV.int .i64 192,AV.int .i64 224,AV.int .i64 240] Perm.shut) (n:Int) st K=K (.ip [.int .i64 (kh n)]) []:=by
 match n,h,h4 with
 | 2,_,_=>rfl
 | 3,_,_=>rfl
 | 4,_,_=>rfl
theorem GM {l:List UInt8} (h:l≠[]) (h4:l.length<=4):(bc vE).bare 83 [.str l]=some (.int .i64 (fq l)):=by
 refine aY rfl ((JB _).trans ?_);cases l with
 | nil=>exact absurd rfl h
 | cons b r=>
  have e:=UInt8.toNat_lt b;have a: ∀{β:Type} (K:UInt8->Option β),ey (b::r) 0 K=K b:=fun K=>bt (k:=0) (by simp) K;have d:IntKind.wrap .i64 (b.toNat:Int)=(b.toNat:Int):=wrap_i64 (by omega) (by omega);cases r with
  | nil=>
   have q:(([b]:List UInt8).length:Int)=1:=rfl;simp only [Mh,aA,cX,if_pos q,a,aD,d,fq]
  | cons c r=>
   have q:¬ (((b::c::r).length:Nat):Int)=1:=by simp;omega
   have g:kh ((b::c::r).length)<=240/\0<=kh ((b::c::r).length):=by
    unfold kh;split <;> omega
   have f:IntKind.wrap .i64 ((b.toNat:Int) - kh ((b::c::r).length))=(b.toNat:Int) - kh ((b::c::r).length):=wrap_i64 (by omega) (by omega);have hl:=uI (b::c::r) h4 (St.mk 0 0 Tr.leaf) (c::r) 1 ((b.toNat:Int) - kh ((b::c::r).length)) rfl (by simp) (by omega) (by omega);have hl:aI (sN (b::c::r)) ([.int .i64 ((b.toNat:Int) - kh ((b::c::r).length)),.int .i64 1],St.mk 0 0 Tr.leaf)= _:=hl;simp only [Mh,aA,cX,if_neg q,a,aD,d,De (show 2<=(b::c::r).length by simp) h4,cO,bl,ak,ah,f];rw [hl];simp only [ak,af,ah,ae,fq,Om]
def oM (k:Nat):List UInt8:=
 if 1114111 < k\/(55296<=k/\k<=57343) then []
 else if k < 128 then [UInt8.ofNat k]
 else if k < 2048 then [UInt8.ofNat (192+k / 64),UInt8.ofNat (128+k % 64)]
 else if k < 65536 then [UInt8.ofNat (224+k / 4096),UInt8.ofNat (128+k / 64 % 64),UInt8.ofNat (128+k % 64)]
 else [UInt8.ofNat (240+k / 262144),UInt8.ofNat (128+k / 4096 % 64),UInt8.ofNat (128+k / 64 % 64),UInt8.ofNat (128+k % 64)]
theorem mX {n:Nat} (h:n<=255):IntKind.wrap .u8 (n:Int)=(n:Int):=by
 show (if (false&&decide ((n:Int) % (2 ^ 8:Int)>=(2 ^ 7:Int)))=true then (n:Int) % (2 ^ 8:Int) - (2 ^ 8:Int) else (n:Int) % (2 ^ 8:Int))= _;simp only [O0,Oi,if_false];omega
theorem A4 (k:Nat) (r:k<=9223372036854775807):(bc vE).bare 84 [.int .i64 (k:Int)]=some (.str (oM k)):=by
 refine aY rfl ((IB _).trans ?_);have q0:¬ ((k:Int) < 0):=by omega
 simp only [Ny,ah,aw,if_neg q0];unfold oM;by_cases c1:(k:Int) > 1114111
 .simp only [if_pos c1,ak,af,ar,ae,au,if_pos (show 1114111 < k\/(55296<=k/\k<=57343) by omega)]
 rw [if_neg c1];by_cases c2:(k:Int)>=55296/\(k:Int)<=57343
 .simp only [if_pos c2.1,Pa c2.2,ak,af,ar,ae,au,if_pos (show 1114111 < k\/(55296<=k/\k<=57343) by omega)]
 have l: ∀{β:Type} (K:bR->Option β),aB (if (k:Int)>=55296 then some (([AV.bool (decide ((k:Int)<=57343))],St.mk 0 0 Tr.leaf):bR) else some ([AV.bool false],St.mk 0 0 Tr.leaf)) K=K ([AV.bool false],St.mk 0 0 Tr.leaf):=by
  intro β K;by_cases h:(k:Int)>=55296
  .have:¬ (k:Int)<=57343:=fun m=>c2 ⟨h,m⟩;rw [if_pos h,OX this];rfl
  .rw [if_neg h];rfl
 rw [l];rw [if_neg (show ¬ (1114111 < k\/(55296<=k/\k<=57343)) by omega)];simp only [af,ar,ae,ai,aw];by_cases c3:k < 128
 .rw [if_pos (show (k:Int) < 128 by omega),if_pos c3];simp only [aD,mX (show k<=255 by omega),Int.toNat_natCast]
 rw [if_neg (show ¬ (k:Int) < 128 by omega),if_neg c3];have d:Int.tdiv (k:Int) 64=((k / 64:Nat):Int):=rfl;have a:Int.tdiv (k:Int) 4096=((k / 4096:Nat):Int):=rfl;have b:Int.tdiv (k:Int) 262144=((k / 262144:Nat):Int):=rfl;have e: ∀n:Nat,Int.tmod (n:Int) 64=((n % 64:Nat):Int):=fun n=>rfl;have g: ∀c n:Nat,c+n<=9223372036854775807->IntKind.wrap .i64 ((c:Int)+(n:Int))=((c+n:Nat):Int):=fun c n h=>oI h;have f: ∀n:Nat,n<=1000->IntKind.wrap .i64 (128+(n:Int))=((128+n:Nat):Int):=fun n h=>g 128 n (by omega);have o: ∀n:Nat,n<=1000->IntKind.wrap .i64 (192+(n:Int))=((192+n:Nat):Int):=fun n h=>g 192 n (by omega);have p: ∀n:Nat,n<=1000->IntKind.wrap .i64 (224+(n:Int))=((224+n:Nat):Int):=fun n h=>g 224 n (by omega);have q: ∀n:Nat,n<=1000->IntKind.wrap .i64 (240+(n:Int))=((240+n:Nat):Int):=fun n h=>g 240 n (by omega);by_cases i:k < 2048
 .rw [if_pos (show (k:Int) < 2048 by omega),if_pos i];simp only [aD,d,e,mP (show k / 64<=9223372036854775807 by omega),f (k % 64) (by omega),o (k / 64) (by omega),mX (show 192+k / 64<=255 by omega),mX (show 128+k % 64<=255 by omega),Int.toNat_natCast]
 rw [if_neg (show ¬ (k:Int) < 2048 by omega),if_neg i];by_cases j:k < 65536
 .rw [if_pos (show (k:Int) < 65536 by omega),if_pos j];simp only [aD,d,a,e,mP (show k / 64<=9223372036854775807 by omega),mP (show k / 4096<=9223372036854775807 by omega),f (k % 64) (by omega),f (k / 64 % 64) (by omega),p (k / 4096) (by omega),mX (show 224+k / 4096<=255 by omega),mX (show 128+k / 64 % 64<=255 by omega),mX (show 128+k % 64<=255 by omega),Int.toNat_natCast]
 rw [if_neg (show ¬ (k:Int) < 65536 by omega),if_neg j];simp only [aD,d,a,b,e,mP (show k / 64<=9223372036854775807 by omega),mP (show k / 4096<=9223372036854775807 by omega),mP (show k / 262144<=9223372036854775807 by omega),f (k % 64) (by omega),f (k / 64 % 64) (by omega),f (k / 4096 % 64) (by omega),q (k / 262144) (by omega),mX (show 240+k / 262144<=255 by omega),mX (show 128+k / 4096 % 64<=255 by omega),mX (show 128+k / 64 % 64<=255 by omega),mX (show 128+k % 64<=255 by omega),Int.toNat_natCast]
theorem of_eq {n:Nat} {a:UInt8} (h:n<=255):UInt8.ofNat n=a↔n=a.toNat:=by
 constructor
 .intro e;rw [<- e,UInt8.toNat_ofNat'];omega
 .intro e;apply Pp.1;rw [UInt8.toNat_ofNat'];have:=UInt8.toNat_lt a;omega
theorem L3 (a:UInt8):oM a.toNat=[a]↔a.toNat < 128:=by
 have b:=UInt8.toNat_lt a;unfold oM;rw [if_neg (by omega)];by_cases h:a.toNat < 128
 .rw [if_pos h];simp [h]
 .rw [if_neg h,if_pos (by omega)];simp [h]
theorem K5 {k:Nat} {a b:UInt8} (d:(k:Int)=((a.toNat:Int) - 192) * 64+b.toNat - 128):oM k=[a,b]↔(194<=a.toNat/\a.toNat<=223)/\¬ (b.toNat < 128\/191 < b.toNat):=by
 have e:=UInt8.toNat_lt a;have f:=UInt8.toNat_lt b;unfold oM;by_cases c1:1114111 < k\/(55296<=k/\k<=57343)
 .rw [if_pos c1];simp;omega
 rw [if_neg c1];by_cases c2:k < 128
 .rw [if_pos c2];simp;omega
 rw [if_neg c2];by_cases c3:k < 2048
 .rw [if_pos c3];simp only [OT,Px,of_eq (show 192+k / 64<=255 by omega),of_eq (show 128+k % 64<=255 by omega)];omega
 rw [if_neg c3];by_cases c:k < 65536
 .rw [if_pos c];simp;omega
 .rw [if_neg c];simp;omega
theorem KU {k:Nat} {a b c:UInt8} (e:(k:Int)=(((a.toNat:Int) - 224) * 64+b.toNat - 128) * 64+c.toNat - 128):
  oM k=[a,b,c]↔(224<=a.toNat/\a.toNat<=239)/\¬ (b.toNat < 128\/191 < b.toNat\/c.toNat < 128\/191 < c.toNat\/(a.toNat=224/\b.toNat < 160)\/(a.toNat=237/\159 < b.toNat)):=by
 have f:=UInt8.toNat_lt a;have g:=UInt8.toNat_lt b;have h:=UInt8.toNat_lt c;unfold oM;by_cases c1:1114111 < k\/(55296<=k/\k<=57343)
 .rw [if_pos c1];simp;omega
 rw [if_neg c1];by_cases c2:k < 128
 .rw [if_pos c2];simp;omega
 rw [if_neg c2];by_cases c3:k < 2048
 .rw [if_pos c3];simp;omega
 rw [if_neg c3];by_cases d:k < 65536
 .rw [if_pos d];simp only [OT,Px,of_eq (show 224+k / 4096<=255 by omega),of_eq (show 128+k / 64 % 64<=255 by omega),of_eq (show 128+k % 64<=255 by omega)];omega
 .rw [if_neg d];simp;omega
theorem KM {k:Nat} {a b c d:UInt8} (f:(k:Int)=((((a.toNat:Int) - 240) * 64+b.toNat - 128) * 64+c.toNat - 128) * 64+d.toNat - 128):
  oM k=[a,b,c,d]↔(240<=a.toNat/\a.toNat<=244)/\¬ (b.toNat < 128\/191 < b.toNat\/c.toNat < 128\/191 < c.toNat\/d.toNat < 128\/191 < d.toNat\/(a.toNat=240/\b.toNat < 144)\/(a.toNat=244/\143 < b.toNat)):=by
 have g:=UInt8.toNat_lt a;have h:=UInt8.toNat_lt b;have i:=UInt8.toNat_lt c;have hd:=UInt8.toNat_lt d;unfold oM;by_cases c1:1114111 < k\/(55296<=k/\k<=57343)
 .rw [if_pos c1];simp;omega
 rw [if_neg c1];by_cases c2:k < 128
 .rw [if_pos c2];simp;omega
 rw [if_neg c2];by_cases c3:k < 2048
 .rw [if_pos c3];simp;omega
 rw [if_neg c3];by_cases e:k < 65536
 .rw [if_pos e];simp;omega
 .rw [if_neg e];simp only [OT,Px,of_eq (show 240+k / 262144<=255 by omega),of_eq (show 128+k / 4096 % 64<=255 by omega),of_eq (show 128+k / 64 % 64<=255 by omega),of_eq (show 128+k % 64<=255 by omega)];omega
def cH (t:List UInt8):Prop:=0<=fq t/\oM (fq t).toNat=t
theorem Hv (a:UInt8):cH [a]↔a.toNat < 128:=by
 have e:fq [a]=(a.toNat:Int):=rfl;unfold cH;rw [e,Int.toNat_natCast,L3];exact ⟨fun h=>h.2,fun h=>⟨by omega,h⟩⟩
theorem Hi (a b:UInt8):cH [a,b]↔(194<=a.toNat/\a.toNat<=223)/\¬ (b.toNat < 128\/191 < b.toNat):=by
 have e:fq [a,b]=((a.toNat:Int) - 192) * 64+b.toNat - 128:=rfl;unfold cH;rw [e];constructor
 .rintro ⟨h0,h⟩;exact (K5 (by omega)).1 h
 .intro h;have h0:0<=((a.toNat:Int) - 192) * 64+b.toNat - 128:=by omega
  exact ⟨h0,(K5 (by omega)).2 h⟩
theorem Hc (a b c:UInt8):cH [a,b,c]↔(224<=a.toNat/\a.toNat<=239)/\¬ (b.toNat < 128\/191 < b.toNat\/c.toNat < 128\/191 < c.toNat\/(a.toNat=224/\b.toNat < 160)\/(a.toNat=237/\159 < b.toNat)):=by
 have e:fq [a,b,c]=(((a.toNat:Int) - 224) * 64+b.toNat - 128) * 64+c.toNat - 128:=rfl;unfold cH;rw [e];constructor
 .rintro ⟨h0,h⟩;exact (KU (by omega)).1 h
 .intro h;have h0:0<=(((a.toNat:Int) - 224) * 64+b.toNat - 128) * 64+c.toNat - 128:=by omega
  exact ⟨h0,(KU (by omega)).2 h⟩
theorem Hl (a b c d:UInt8):cH [a,b,c,d]↔(240<=a.toNat/\a.toNat<=244)/\¬ (b.toNat < 128\/191 < b.toNat\/c.toNat < 128\/191 < c.toNat\/d.toNat < 128\/191 < d.toNat\/(a.toNat=240/\b.toNat < 144)\/(a.toNat=244/\143 < b.toNat)):=by
 have e:fq [a,b,c,d]=((((a.toNat:Int) - 240) * 64+b.toNat - 128) * 64+c.toNat - 128) * 64+d.toNat - 128:=rfl;unfold cH;rw [e];constructor
 .rintro ⟨h0,h⟩;exact (KM (by omega)).1 h
 .intro h;have h0:0<=((((a.toNat:Int) - 240) * 64+b.toNat - 128) * 64+c.toNat - 128) * 64+d.toNat - 128:=by omega
  exact ⟨h0,(KM (by omega)).2 h⟩
theorem rq: ∀(l:List UInt8),l.length<=4->fq l<=100000000
 | [],_=>by simp [fq]
 | [a],_=>by have:=UInt8.toNat_lt a;simp only [fq];omega
 | [a,b],_=>by
  have:=UInt8.toNat_lt a;have:=UInt8.toNat_lt b;have e:fq [a,b]=((a.toNat:Int) - 192) * 64+b.toNat - 128:=rfl;omega
 | [a,b,c],_=>by
  have:=UInt8.toNat_lt a;have:=UInt8.toNat_lt b;have:=UInt8.toNat_lt c;have e:fq [a,b,c]=(((a.toNat:Int) - 224) * 64+b.toNat - 128) * 64+c.toNat - 128:=rfl;omega
 | [a,b,c,d],_=>by
  have:=UInt8.toNat_lt a;have:=UInt8.toNat_lt b;have:=UInt8.toNat_lt c;have:=UInt8.toNat_lt d;have e:fq [a,b,c,d]=((((a.toNat:Int) - 240) * 64+b.toNat - 128) * 64+c.toNat - 128) * 64+d.toNat - 128:=rfl;omega
 | _:: _:: _:: _:: _:: _,h=>by simp at h
section
variable {s:List UInt8} (st:St) {n:Nat} (h1:1<=n) (h4:n<=4) (hl:n<=s.length)
include h1 h4 hl
theorem rM:(s.take n≠[]/\(s.take n).length<=4)/\(∀{β:Type} (st:St) (K:Kv β),aX (bc vE) 83 [.str (s.take n)] st K=K (.int .i64 (fq (s.take n))) st q0):=by
 have hlen:(s.take n).length=n:=by rw [Oa];omega
 have a:s.take n≠[]:=by
  intro e;rw [e] at hlen;simp at hlen;omega
 exact ⟨⟨a,by omega⟩,fun st K=>aM st K rfl rfl rfl (GM a (by omega))⟩
theorem oo (e:cH (s.take n)):aI (gd s) ([.int .i64 0,.int .i64 0,.int .i64 (n:Int)],st)=some (1,[.int .i64 (fq (s.take n)),.int .i64 (n:Int)],st):=by
 obtain ⟨⟨f,a⟩,g⟩:=rM h1 h4 hl;have h:=rq (s.take n) a;obtain ⟨b,c⟩:=e;obtain ⟨k,d⟩:=Int.eq_ofNat_of_zero_le b;have i: ∀{β:Type} (st:St) (K:Kv β),aX (bc vE) 84 [.int .i64 (fq (s.take n))] st K=K (.str (s.take n)) st q0:=fun st K=>by
  rw [d,aM st K rfl rfl rfl (A4 k (by omega))];rw [d] at c;rw [show (s.take n)=oM k from c.symm]
 refine aC ?_;have j:(n:Int)<=4:=by omega
 have l:(n:Int)<=(s.length:Int):=by omega
 simp only [gd,af,ah,ae,aw,if_pos j,Pa l,ak,ar,au,bC hl,N7,aD,g,if_pos (show fq (s.take n)>=0 from b),i,aA,nN,lU,OZ,bV,beq_self_eq_true]
theorem rh (i:¬ cH (s.take n)):aI (gd s) ([.int .i64 0,.int .i64 0,.int .i64 (n:Int)],st)=aI (gd s) ([.int .i64 0,.int .i64 0,.int .i64 ((n+1:Nat):Int)],st):=by
 obtain ⟨⟨j,c⟩,d⟩:=rM h1 h4 hl;have l:=rq (s.take n) c;have f:(n:Int)<=4:=by omega
 have g:(n:Int)<=(s.length:Int):=by omega
 refine aL ?_;by_cases b:fq (s.take n)>=0
 .obtain ⟨k,h⟩:=Int.eq_ofNat_of_zero_le b;have a:(oM k==s.take n)=false:=by
   rw [NY];intro e;exact i ⟨b,by rw [h];exact e⟩
  have m: ∀{β:Type} (st:St) (K:Kv β),aX (bc vE) 84 [.int .i64 (fq (s.take n))] st K=K (.str (oM k)) st q0:=fun st K=>by
   rw [h,aM st K rfl rfl rfl (A4 k (by omega))]
  simp only [gd,af,ah,ae,aw,if_pos f,Pa g,ak,ar,au,bC hl,N7,aD,d,if_pos b,m,aA,nN,lU,OZ,bV,a,ai,bj (show n+1<=9223372036854775807 by omega)]
 .simp only [gd,af,ah,ae,aw,if_pos f,Pa g,ak,ar,au,bC hl,N7,aD,d,if_neg b,ai,bj (show n+1<=9223372036854775807 by omega)]
end
theorem oU {s:List UInt8} (st:St) {n:Nat} (h:4 < n\/s.length < n):aI (gd s) ([.int .i64 0,.int .i64 0,.int .i64 (n:Int)],st)=some (0,[.int .i64 0,.int .i64 0],st):=by
 refine aC ?_;by_cases a:(n:Int)<=4
 .have b:¬ (n:Int)<=(s.length:Int):=by omega
  simp only [gd,af,ah,ae,aw,if_pos a,OX b,ak,ar,ai]
 .simp only [gd,af,ah,ae,aw,if_neg a,ak,ar,ai]
theorem ou {t:List UInt8} (h:cH t):0<=fq t:=h.1
theorem CM {s:List UInt8} (u:s≠[]) (st:St):(lq s=0/\aI (gd s) ([.int .i64 0,.int .i64 0,.int .i64 ((1:Nat):Int)],st)=some (0,[.int .i64 0,.int .i64 0],st))\/
  (lq s≠0/\ ∃p:Int,0<=p/\aI (gd s) ([.int .i64 0,.int .i64 0,.int .i64 ((1:Nat):Int)],st)=some (1,[.int .i64 p,.int .i64 (lq s:Int)],st)):=by
 cases s with
 | nil=>exact absurd rfl u
 | cons a g=>
 have l1:1<=(a::g).length:=by simp
 by_cases t:a.toNat < 128
 .have f:cH ((a::g).take 1):=(Hv a).2 t;have i:lq (a::g)=1:=by
   show xf _ a.toNat _ _ _=1;unfold xf;rw [if_pos t]
  exact .inr ⟨by omega,_,ou f,by rw [i];exact oo st (NX _) (by omega) l1 f⟩
 have y:=rh st (n:=1) (NX _) (by omega) l1 (fun h=>t ((Hv a).1 h));rw [y];have e:lq (a::g)=xf (a::g).length a.toNat (g.getD 0 0).toNat (g.getD 1 0).toNat (g.getD 2 0).toNat:=rfl;unfold xf at e;rw [if_neg t] at e;cases g with
 | nil=>
  refine .inl ⟨?_,oU st (.inr (by simp))⟩;rw [e]
  repeat' split
  all_goals first | rfl | (exfalso;simp at *;done)
 | cons b l=>
 have l2:2<=(a::b::l).length:=by simp
 by_cases m:(194<=a.toNat/\a.toNat<=223)/\¬ (b.toNat < 128\/191 < b.toNat)
 .have f:cH ((a::b::l).take 2):=(Hi a b).2 m;have i:lq (a::b::l)=2:=by
   rw [e,if_pos m.1,if_neg];intro h;rcases h with h | h
   .omega
   .exact m.2 h
  exact .inr ⟨by omega,_,ou f,by rw [i];exact oo st (by omega) (by omega) l2 f⟩
 have z:=rh st (n:=2) (by omega) (by omega) l2 (fun h=>m ((Hi a b).1 h));rw [z];have j:(194<=a.toNat/\a.toNat<=223)->lq (a::b::l)=0:=by
  intro h;rw [e,if_pos h,if_pos];have:=fun k=>m ⟨h,k⟩;refine .inr ?_;show b.toNat < 128\/191 < b.toNat
  omega
 cases l with
 | nil=>
  refine .inl ⟨?_,oU st (.inr (by simp))⟩;by_cases h:194<=a.toNat/\a.toNat<=223
  .exact j h
  .rw [e,if_neg h]
   repeat' split
   all_goals first | rfl | (exfalso;simp at *;done)
 | cons c o=>
 have w:3<=(a::b::c::o).length:=by simp
 by_cases g3:(224<=a.toNat/\a.toNat<=239)/\¬ (b.toNat < 128\/191 < b.toNat\/c.toNat < 128\/191 < c.toNat\/(a.toNat=224/\b.toNat < 160)\/(a.toNat=237/\159 < b.toNat))
 .have f:cH ((a::b::c::o).take 3):=(Hc a b c).2 g3;have i:lq (a::b::c::o)=3:=by
   rw [e,if_neg (by omega),if_pos g3.1,if_neg];intro h;rcases h with h | h
   .omega
   .exact g3.2 h
  exact .inr ⟨by omega,_,ou f,by rw [i];exact oo st (by omega) (by omega) w f⟩
 have A:=rh st (n:=3) (by omega) (by omega) w (fun h=>g3 ((Hc a b c).1 h));rw [A];have q:(224<=a.toNat/\a.toNat<=239)->lq (a::b::c::o)=0:=by
  intro h;rw [e,if_neg (by omega),if_pos h,if_pos];refine .inr ?_;show b.toNat < 128\/191 < b.toNat\/c.toNat < 128\/191 < c.toNat\/(a.toNat=224/\b.toNat < 160)\/(a.toNat=237/\159 < b.toNat);exact Classical.byContradiction fun k=>g3 ⟨h,k⟩
 cases o with
 | nil=>
  refine .inl ⟨?_,oU st (.inr (by simp))⟩;by_cases h:194<=a.toNat/\a.toNat<=223
  .exact j h
  .by_cases r:224<=a.toNat/\a.toNat<=239
   .exact q r
   .rw [e,if_neg h,if_neg r]
    repeat' split
    all_goals first | rfl | (exfalso;simp at *;done)
 | cons d v=>
 have x:4<=(a::b::c::d::v).length:=by simp
 by_cases g4:(240<=a.toNat/\a.toNat<=244)/\¬ (b.toNat < 128\/191 < b.toNat\/c.toNat < 128\/191 < c.toNat\/d.toNat < 128\/191 < d.toNat\/(a.toNat=240/\b.toNat < 144)\/(a.toNat=244/\143 < b.toNat))
 .have f:cH ((a::b::c::d::v).take 4):=(Hl a b c d).2 g4;have i:lq (a::b::c::d::v)=4:=by
   rw [e,if_neg (by omega),if_neg (by omega),if_pos g4.1,if_neg];intro h;rcases h with h | h
   .omega
   .exact g4.2 h
  exact .inr ⟨by omega,_,ou f,by rw [i];exact oo st (by omega) (by omega) x f⟩
 have B:=rh st (n:=4) (by omega) (by omega) x (fun h=>g4 ((Hl a b c d).1 h));rw [B];refine .inl ⟨?_,oU st (.inl (by omega))⟩;by_cases h:194<=a.toNat/\a.toNat<=223
 .exact j h
 .by_cases r:224<=a.toNat/\a.toNat<=239
  .exact q r
  .rw [e,if_neg h,if_neg r];by_cases h4:240<=a.toNat/\a.toNat<=244
   .rw [if_pos h4,if_pos];refine .inr ?_;show b.toNat < 128\/191 < b.toNat\/c.toNat < 128\/191 < c.toNat\/d.toNat < 128\/191 < d.toNat\/(a.toNat=240/\b.toNat < 144)\/(a.toNat=244/\143 < b.toNat);exact Classical.byContradiction fun k=>g4 ⟨h4,k⟩
   .rw [if_neg h4]
theorem xT {s:List UInt8} (a:s≠[]): ∃p:Int,(bc vE).bare 52 [.str s]=some (.tup [.int .i64 p,.int .i64 (Au s:Int)])/\((p < 0/\lq s=0)\/(0<=p/\lq s≠0)):=by
 have b:(s==[])=false:=by simpa using a
 rcases CM a (St.mk 0 0 Tr.leaf) with ⟨h,e⟩ | ⟨h,p,c,e⟩
 .refine ⟨-1,aY rfl ((DV _).trans ?_),.inl ⟨by omega,h⟩⟩;have e:aI (gd s) ([.int .i64 0,.int .i64 0,.int .i64 1],St.mk 0 0 Tr.leaf)= _:=e;simp only [L0,aA,b,ai,e,ak,af,ah,ae,dX,Au,if_pos h];rfl
 .refine ⟨p,aY rfl ((DV _).trans ?_),.inr ⟨c,h⟩⟩;have e:aI (gd s) ([.int .i64 0,.int .i64 0,.int .i64 1],St.mk 0 0 Tr.leaf)= _:=e;simp only [L0,aA,b,ai,e,ak,af,ah,ae,fB,Au,if_neg h]
theorem rX (st:St): ∀(n:Nat) (s:List UInt8),s.length<=n->aI tL ([.bool false,.str s],st)=some (if dN s then (0,[.bool false],st) else (1,[.bool false],st))
 | n,[],_=>by
  refine aC ?_;simp only [tL,af,ar,aA,ae,show (!(([]:List UInt8)==[]))=false from rfl,ai];rfl
 | 0,_:: _,h=>by simp at h
 | n+1,c::l,h=>by
  obtain ⟨p,e,g⟩:=xT (s:=c::l) (by simp);have f: ∀{β:Type} (st:St) (K:Kv β),aX (bc vE) 52 [.str (c::l)] st K=K (.tup [.int .i64 p,.int .i64 (Au (c::l):Int)]) st q0:=fun st K=>aM st K rfl rfl rfl e;rw [yp (l:=c::l) (by simp)];rcases g with ⟨h1,a⟩ | ⟨h1,a⟩
  .rw [if_pos a];refine aC ?_;simp only [tL,af,ar,aA,ae,show (!((c::l:List UInt8)==[]))=true from rfl,au,f,ch,bA,bM,ah,aw,if_pos h1];rfl
  .rw [if_neg a];have i:=DQ (l:=c::l) (by simp);have b:Au (c::l)=lq (c::l):=by unfold Au;rw [if_neg a]
   have d:¬ p < 0:=by omega
   rw [aL (s':=([.bool false,.str ((c::l).drop (lq (c::l)))],st)),rX st n _ (by rw [N3];omega)];simp only [tL,af,ar,aA,ae,show (!((c::l:List UInt8)==[]))=true from rfl,au,f,b,ch,bA,bM,ah,aw,if_neg d,bC i,Ot,aD]
theorem Df (s:List UInt8):(bc vE).bare 31 [.str s]=some (.bool (dN s)):=by
 refine aY rfl ((Ia _).trans ?_);have e:=rX (St.mk 0 0 Tr.leaf) s.length s (NX _);simp only [NF,aA,e];cases dN s <;> simp [dX,fB]
theorem pt {s:List UInt8} {n:Nat} (h:s.drop n=[]):s.getD n 0=0:=by
 have:=Ol.1 h;rw [Pc,Og this];rfl
theorem mn {s l:List UInt8} {n:Nat} {c:UInt8} (h:s.drop n=c::l):s.getD n 0=c:=by
 rw [Pc,(drop_cons h).1];rfl
theorem LD (s:List UInt8) (i:Nat):(bc vE).bare 54 [.str s,.int .i64 (i:Int)]=some (.int .u8 ((s.getD i 0).toNat:Int)):=by
 refine aY rfl ((HY _ _).trans ?_);have q:¬ (i:Int) < 0:=by omega
 by_cases h:i < s.length
 .have a:¬ (i:Int)>=(s.length:Int):=by omega
  have e:s.getD i 0=s[i]:=by rw [Pc,Oj h];rfl
  rw [e];simp only [MC,aA,ah,aw,if_neg q,if_neg a,ak,af,ar,ae,bt h]
 .have a:(i:Int)>=(s.length:Int):=by omega
  have e:s.getD i 0=0:=by rw [Pc,Og (by omega)];rfl
  rw [e];simp only [MC,aA,ah,aw,if_neg q,if_pos a,ak,af,ar,ae];rfl
theorem ew {β:Type} (s:List UInt8) (i:Nat) (st:St) (K:Kv β):aX (bc vE) 54 [.str s,.int .i64 (i:Int)] st K=K (.int .u8 ((s.getD i 0).toNat:Int)) st q0:=aM st K rfl rfl rfl (LD s i)
theorem bW (c d:UInt8):((c.toNat:Int)==(d.toNat:Int))=(c==d):=by
 by_cases h:c=d
 .subst h;simp
 .rw [NY.2 h,NY.2 (mo h)]
theorem Jp (c:UInt8):(bc vE).bare 53 [.int .u8 (c.toNat:Int)]=some (.bool (ep c)):=by
 refine aY rfl ((JH _).trans ?_);have b1:((c.toNat:Int)==32)=(c==32):=bW c 32;have a:((c.toNat:Int)==9)=(c==9):=bW c 9;have b:((c.toNat:Int)==10)=(c==10):=bW c 10;have d:((c.toNat:Int)==13)=(c==13):=bW c 13;simp only [MO,ah,b1,a,b,d,ep];cases c==32 <;> cases c==9 <;> cases c==10 <;> rfl
theorem Me (c:UInt8):(bc vE).bare 57 [.int .u8 (c.toNat:Int)]=some (.bool (gM c)):=by
 refine aY rfl ((HV _).trans ?_);have b1:decide ((c.toNat:Int)>=97)=decide (97<=c.toNat):=decide_eq_decide.2 (by omega);have a:decide ((c.toNat:Int)<=122)=decide (c.toNat<=122):=decide_eq_decide.2 (by omega);have b:((c.toNat:Int)==95)=(c==95):=bW c 95;simp only [MR,ah,b1,a,b,gM];cases decide (97<=c.toNat) <;> cases decide (c.toNat<=122) <;> rfl
theorem HC (c:UInt8):(bc vE).bare 60 [.int .u8 (c.toNat:Int)]=some (.bool (aR c)):=by
 refine aY rfl ((IK _).trans ?_);have b1:decide ((c.toNat:Int)>=48)=decide (48<=c.toNat):=decide_eq_decide.2 (by omega);have a:decide ((c.toNat:Int)<=57)=decide (c.toNat<=57):=decide_eq_decide.2 (by omega);simp only [NA,ah,b1,a,aR];cases decide (48<=c.toNat) <;> cases decide (c.toNat<=57) <;> rfl
theorem lI {β:Type} (c:UInt8) (st:St) (K:Kv β):aX (bc vE) 53 [.int .u8 (c.toNat:Int)] st K=K (.bool (ep c)) st q0:=aM st K rfl rfl rfl (Jp c)
theorem ux {β:Type} (c:UInt8) (st:St) (K:Kv β):aX (bc vE) 57 [.int .u8 (c.toNat:Int)] st K=K (.bool (gM c)) st q0:=aM st K rfl rfl rfl (Me c)
theorem eb {β:Type} (c:UInt8) (st:St) (K:Kv β):aX (bc vE) 60 [.int .u8 (c.toNat:Int)] st K=K (.bool (aR c)) st q0:=aM st K rfl rfl rfl (HC c)
theorem F8 (c:UInt8):(bc vE).bare 58 [.int .u8 (c.toNat:Int)]=some (.bool (eL c)):=by
 refine aY rfl ((Iu _).trans ?_);have b1:decide ((c.toNat:Int)>=65)=decide (65<=c.toNat):=decide_eq_decide.2 (by omega);have a:decide ((c.toNat:Int)<=90)=decide (c.toNat<=90):=decide_eq_decide.2 (by omega);have b:((c.toNat:Int)==39)=(c==39):=bW c 39;simp only [Nw,ah,b1,a,b,ux,eb,ar,eL];cases gM c <;> cases aR c <;> cases decide (65<=c.toNat) <;> cases decide (c.toNat<=90) <;> rfl
theorem oG {β:Type} (c:UInt8) (st:St) (K:Kv β):aX (bc vE) 58 [.int .u8 (c.toNat:Int)] st K=K (.bool (eL c)) st q0:=aM st K rfl rfl rfl (F8 c)
theorem Mi {s t:List UInt8} {i:Nat} (b:t.length=2) (hi:i<=1000000):(bc vE).bare 55 [.str s,.int .i64 (i:Int),.str t]=some (.bool ((s.drop i).take 2==t)):=by
 refine aY rfl ((Jj _ _ _).trans ?_);by_cases h:i+2<=s.length
 .have a:((i+2:Nat):Int)<=(s.length:Int):=by omega
  have e:(s.take (i+2)).drop i=(s.drop i).take 2:=by rw [List.drop_take];congr 1;omega
  simp only [Mg,aA,ah,aD,kG (show i+2<=9223372036854775807 by omega),aw,if_pos a,bC h,bC (show i<=i+2 by omega),e,ak,af,ar,ae]
 .have a:¬ ((i+2:Nat):Int)<=(s.length:Int):=by omega
  have e:((s.drop i).take 2==t)=false:=by
   rw [NY];intro e;have:=OC List.length e;rw [Oa,N3,b] at this;omega
  simp only [Mg,aA,ah,aD,kG (show i+2<=9223372036854775807 by omega),aw,if_neg a,e,ak,af,ar,ae]
theorem fF {β:Type} (s:List UInt8) {t:List UInt8} {i:Nat} (a:t.length=2) (hi:i<=1000000) (st:St) (K:Kv β):aX (bc vE) 55 [.str s,.int .i64 (i:Int),.str t] st K=K (.bool ((s.drop i).take 2==t)) st q0:=aM st K rfl rfl rfl (Mi a hi)
theorem vi {β:Type} (s:List UInt8) {t:List UInt8} (a:t.length=2) (st:St) (K:Kv β):aX (bc vE) 55 [.str s,.int .i64 0,.str t] st K=K (.bool (s.take 2==t)) st q0:=fF s (i:=0) a (by omega) st K
theorem ot {p:UInt8->Bool} {L:bR->Option (bR ⊕ Nat×bR)} {s:List UInt8} {st:St} (b:p 0=false)
  (h1: ∀n:Nat,n < s.length->p (s.getD n 0)=true->L ([.int .i64 (n:Int)],st)=some (.inl ([.int .i64 ((n+1:Nat):Int)],st)))
  (h0: ∀n:Nat,p (s.getD n 0)=false->L ([.int .i64 (n:Int)],st)=some (.inr (0,[.int .i64 (n:Int)],st))):
  ∀(l:List UInt8) (n:Nat),s.drop n=l->aI L ([.int .i64 (n:Int)],st)=some (0,[.int .i64 ((n+wh p l:Nat):Int)],st)
 | [],n,hd=>by
  rw [aC (h0 n (by rw [pt hd];exact b))];rfl
 | c::l,n,hd=>by
  obtain ⟨_,f,a⟩:=drop_cons hd;have d:=mn hd;rw [eX];cases e:p c with
  | true=>
   rw [aL (h1 n a (by rw [d];exact e)),ot b h1 h0 l (n+1) f];simp only [if_true];rw [show n+1+wh p l=n+(wh p l+1) by omega]
  | false=>
   rw [aC (h0 n (by rw [d];exact e))];rfl
section
variable {s:List UInt8} (hs:s.length<=1000000) (st:St) {l:List UInt8} {n:Nat} (hd:s.drop n=l)
include hs hd
theorem BX:aI (rT s) ([.int .i64 (n:Int)],st)=some (0,[.int .i64 ((n+wh aR l:Nat):Int)],st):=by
 refine ot (p:=aR) rfl (fun n a h=> ?_) (fun n h=> ?_) l n hd
 .simp only [rT,af,ah,ae,ew,eb,h,ar,au,aD,bj (show n+1<=9223372036854775807 by omega)]
 .simp only [rT,af,ah,ae,ew,eb,h,ar,ai]
theorem BF:aI (wo s) ([.int .i64 (n:Int)],st)=some (0,[.int .i64 ((n+wh aR l:Nat):Int)],st):=by
 refine ot (p:=aR) rfl (fun n a h=> ?_) (fun n h=> ?_) l n hd
 .simp only [wo,af,ah,ae,ew,eb,h,ar,au,aD,bj (show n+1<=9223372036854775807 by omega)]
 .simp only [wo,af,ah,ae,ew,eb,h,ar,ai]
theorem CX:aI (sU s) ([.int .i64 (n:Int)],st)=some (0,[.int .i64 ((n+wh ep l:Nat):Int)],st):=by
 refine ot (p:=ep) rfl (fun n a h=> ?_) (fun n h=> ?_) l n hd
 .simp only [sU,af,ah,ae,ew,lI,h,ar,au,aD,bj (show n+1<=9223372036854775807 by omega)]
 .simp only [sU,af,ah,ae,ew,lI,h,ar,ai]
theorem Cl:aI (r8 s) ([.int .i64 (n:Int)],st)=some (0,[.int .i64 ((n+wh eL l:Nat):Int)],st):=by
 refine ot (p:=eL) rfl (fun n a h=> ?_) (fun n h=> ?_) l n hd
 .simp only [r8,af,ah,ae,ew,oG,h,ar,au,aD,bj (show n+1<=9223372036854775807 by omega)]
 .simp only [r8,af,ah,ae,ew,oG,h,ar,ai]
end
def qi (a:Nat) (c:UInt8):Nat:=min (ld a c) 1000000
def CP (a:Nat) (l:List UInt8):Nat:=l.foldl qi a
theorem EJ (a:Nat):CP a []=a:=id rfl
theorem ur (a:Nat) (c:UInt8) (l:List UInt8):CP a (c::l)=CP (qi a c) l:=id rfl
theorem xR: ∀(l:List UInt8) (a:Nat),CP (min a 1000000) l=min (gB a l) 1000000
 | [],a=>by rw [EJ,rk]
 | c::l,a=>by
  rw [ur,pF, <- xR l (ld a c)];congr 1;unfold qi ld;omega
theorem zq {s:List UInt8} (hs:s.length<=1000000) (st:St): ∀(l:List UInt8) (n a:Nat),s.drop n=l->a<=1000000->
  aI (np s) ([.int .i64 (a:Int),.int .i64 (n:Int)],st)=some (0,[.int .i64 (CP a (l.take (wh aR l)):Int),.int .i64 ((n+wh aR l:Nat):Int)],st)
 | [],n,a,hd,f=>by
  have h:aR (s.getD n 0)=false:=by rw [pt hd];rfl
  refine aC ?_;simp only [np,af,ah,ae,ew,eb,h,ar,ai];rfl
 | c::l,n,a,hd,f=>by
  obtain ⟨g,i,b⟩:=drop_cons hd;have d:=mn hd;rw [eX];cases e:aR c with
  | false=>
   have h:aR (s.getD n 0)=false:=by rw [d];exact e
   refine aC ?_;simp only [np,af,ah,ae,ew,eb,h,ar,ai];rfl
  | true=>
   have h:aR (s.getD n 0)=true:=by rw [d];exact e
   have j:48<=c.toNat/\c.toNat<=57:=by
    simpa only [aR,N0,OI] using e
   have k:s[n]=c:=eP b g;have w1:IntKind.wrap .i64 ((a:Int) * 10)=((a * 10:Nat):Int):=mP (n:=a * 10) (by omega);have o:IntKind.wrap .i64 ((c.toNat:Nat):Int)=((c.toNat:Nat):Int):=mP (by omega);have p:IntKind.wrap .i64 (((a * 10:Nat):Int)+((c.toNat:Nat):Int))=((a * 10+c.toNat:Nat):Int):=oI (by omega);have q:IntKind.wrap .i64 (((a * 10+c.toNat:Nat):Int) - 48)=((a * 10+c.toNat - 48:Nat):Int):=qA (m:=48) (by omega) (by omega);have r:(if (1000000:Int) < ((a * 10+c.toNat - 48:Nat):Int) then (1000000:Int) else ((a * 10+c.toNat - 48:Nat):Int))=(qi a c:Int):=by
    unfold qi ld;split <;> omega
   have t:qi a c<=1000000:=by unfold qi;omega
   rw [aL (s':=([.int .i64 (qi a c:Int),.int .i64 ((n+1:Nat):Int)],st)),zq hs st l (n+1) _ i t]
   .simp only [if_true,List.take_succ_cons,ur];rw [show n+1+wh aR l=n+(wh aR l+1) by omega]
   .simp only [np,af,ah,ae,ew,eb,h,ar,au,aD,w1,bt b,k,o,p,q,r,bj (show n+1<=9223372036854775807 by omega)]
theorem fX (s:List UInt8) (hs:s.length<=1000000) (st:St): ∀(l:List UInt8) (i d:Nat),s.drop i=l->i<=s.length->1<=d->d<=i->
  aI (kO s) ([.int .i64 (d:Int),.int .i64 0,.bool false,.int .i64 (i:Int)],st)=some (match rem l d with | some n=>(1,[.int .i64 ((i+n:Nat):Int),.bool true],st) | none=>(0,[.int .i64 0,.bool false],st))
 | [],i,d,hd,hi,h1,o=>by
  have:=Ol.1 hd;have q:¬ (i:Int) < (s.length:Int):=by omega
  refine aC ?_;simp only [kO,af,ah,ar,ae,aw,if_neg q];rfl
 | [a],i,d,hd,hi,h1,o=>by
  obtain ⟨r,f,j⟩:=drop_cons hd;have q:(i:Int) < (s.length:Int):=by omega
  have ih:=fX s hs st [] (i+1) d f (by omega) h1 (by omega);rw [aL (s':=([.int .i64 (d:Int),.int .i64 0,.bool false,.int .i64 ((i+1:Nat):Int)],st)),ih]
  .rfl
  .simp only [kO,af,ah,ae,aw,if_pos q,fF s (t:=[40,42]) rfl (show i<=1000000 by omega),fF s (t:=[42,41]) rfl (show i<=1000000 by omega),hd,ar];simp only [show ([a].take 2==[(40:UInt8),42])=false by simp,show ([a].take 2==[(42:UInt8),41])=false by simp,ai,aD,ak,cN,af,ah,ar,ae,bj (show i+1<=9223372036854775807 by omega)]
 | a::b::l,i,d,hd,hi,h1,o=>by
  obtain ⟨r,f,j⟩:=drop_cons hd;obtain ⟨u,c,p⟩:=drop_cons f;have q:(i:Int) < (s.length:Int):=by omega
  have g:((a::b::l).take 2==[40,42])=(decide (a=40/\b=42)):=by
   show ([a,b]==[40,42])= _;by_cases h:a=40/\b=42
   .rw [h.1,h.2];rfl
   .rw [OX h,NY];intro e;simp only [OT,Px] at e;exact h e
  have k:((a::b::l).take 2==[42,41])=(decide (a=42/\b=41)):=by
   show ([a,b]==[42,41])= _;by_cases h:a=42/\b=41
   .rw [h.1,h.2];rfl
   .rw [OX h,NY];intro e;simp only [OT,Px] at e;exact h e
  by_cases c1:a=40/\b=42
  .have ih:=fX s hs st l (i+2) (d+1) c (by omega) (by omega) (by omega);rw [aL (s':=([.int .i64 ((d+1:Nat):Int),.int .i64 0,.bool false,.int .i64 ((i+2:Nat):Int)],st)),ih]
   .simp only [rem,if_pos c1];cases rem l (d+1) with
    | none=>rfl
    | some n=>simp only [Option.map_some];rw [show i+2+n=i+(n+2) by omega]
   .simp only [kO,af,ah,ae,aw,if_pos q,fF s (t:=[40,42]) rfl (show i<=1000000 by omega),hd,g,if_pos c1,ar,aD,ak,cN,bj (show d+1<=9223372036854775807 by omega),kG (show i+2<=9223372036854775807 by omega)]
  .by_cases c2:a=42/\b=41
   .have w:=qA (n:=d) (m:=1) h1 (by omega);have w:IntKind.wrap .i64 ((d:Int) - 1)=((d - 1:Nat):Int):=w;by_cases c3:d=1
    .subst c3;simp only [rem,if_neg c1,if_pos c2,if_true];refine aC ?_;simp only [kO,af,ah,ae,aw,if_pos q,fF s (t:=[40,42]) rfl (show i<=1000000 by omega),fF s (t:=[42,41]) rfl (show i<=1000000 by omega),hd,g,k,if_neg c1,if_pos c2,ar,aD,ak,w,kG (show i+2<=9223372036854775807 by omega),cX];rfl
    .have ih:=fX s hs st l (i+2) (d - 1) c (by omega) (by omega) (by omega);have z:¬ ((d - 1:Nat):Int)=0:=by omega
     rw [aL (s':=([.int .i64 ((d - 1:Nat):Int),.int .i64 0,.bool false,.int .i64 ((i+2:Nat):Int)],st)),ih]
     .simp only [rem,if_neg c1,if_pos c2,if_neg c3];cases rem l (d - 1) with
      | none=>rfl
      | some n=>simp only [Option.map_some];rw [show i+2+n=i+(n+2) by omega]
     .simp only [kO,af,ah,ae,aw,if_pos q,fF s (t:=[40,42]) rfl (show i<=1000000 by omega),fF s (t:=[42,41]) rfl (show i<=1000000 by omega),hd,g,k,if_neg c1,if_pos c2,ar,aD,ak,w,kG (show i+2<=9223372036854775807 by omega),cX,if_neg z,cN]
   .have ih:=fX s hs st (b::l) (i+1) d f (by omega) h1 (by omega);rw [aL (s':=([.int .i64 (d:Int),.int .i64 0,.bool false,.int .i64 ((i+1:Nat):Int)],st)),ih]
    .simp only [rem,if_neg c1,if_neg c2];cases rem (b::l) d with
     | none=>rfl
     | some n=>simp only [Option.map_some];rw [show i+1+n=i+(n+1) by omega]
    .simp only [kO,af,ah,ae,aw,if_pos q,fF s (t:=[40,42]) rfl (show i<=1000000 by omega),fF s (t:=[42,41]) rfl (show i<=1000000 by omega),hd,g,k,if_neg c1,if_neg c2,ar,aD,ak,cN,bj (show i+1<=9223372036854775807 by omega)]
theorem AL {s:List UInt8} (hs:s.length<=1000000) (a:2<=s.length):(bc vE).bare 56 [.str s]=some (match rem (s.drop 2) 1 with | some n=> .tup [.int .i64 ((n+2:Nat):Int),.bool true] | none=> .tup [.int .i64 (s.length:Int),.bool false]):=by
 refine aY rfl ((Jt _).trans ?_);have e:aI (kO s) ([.int .i64 1,.int .i64 0,.bool false,.int .i64 2],St.mk 0 0 Tr.leaf)= _:=fX s hs (St.mk 0 0 Tr.leaf) (s.drop 2) 2 1 rfl a (by omega) (by omega);simp only [MY,aA];rw [e];cases rem (s.drop 2) 1 with
 | none=>simp only [ak,af,ah,ar,ae,dX]
 | some n=>simp only [ak,af,ah,ar,ae,fB];rw [Pb 2 n]
def Ends (st:St) (r:Option (Nat×bR)) (p:Nat×Nat):Prop:=
 (∃c:Int,r=some (1,[.int .u8 (p.1:Int),.int .i64 (p.2:Int),.int .i64 c],st))\/(p.1=9/\r=some (0,[.int .u8 0,.int .i64 0,.int .i64 (p.2:Int)],st))
theorem sK {s:List UInt8} (hs:s.length<=1000000) (st:St): ∀(l:List UInt8) (i:Nat),s.drop i=l->i<=s.length->
  Ends st (aI (eN s) ([.int .u8 0,.int .i64 0,.bool true,.int .i64 (i:Int)],st)) (9,i+iu l)
 | [],i,hd,hi=>by
  have:=Ol.1 hd;have q:¬ (i:Int) < (s.length:Int):=by omega
  refine .inr ⟨rfl,aC ?_⟩;simp only [eN,af,ah,ar,ae,aw,if_neg q,ak,ai];rfl
 | c::l,i,hd,hi=>by
  obtain ⟨e,f,a⟩:=drop_cons hd;have q:(i:Int) < (s.length:Int):=by omega
  have b:s[i]=c:=eP a e;have b1:((c.toNat:Int) != 10)=(c != 10):=by unfold bne;rw [show ((c.toNat:Int)==10)=(c==10) from bW c 10]
  have d:((c.toNat:Int)==34)=(c==34):=bW c 34;have g:((c.toNat:Int)==92)=(c==92):=bW c 92;by_cases c1:c=10
  .have z:(c != 10)=false:=by simp [c1]
   simp only [iu,if_pos c1];refine .inr ⟨rfl,aC ?_⟩;simp only [eN,af,ah,ar,ae,aw,if_pos q,bt a,b,b1,z,ak,ai];rfl
  .have z:(c != 10)=true:=by simp [c1]
   by_cases c2:c=34
   .have z2:(c==34)=true:=by simp [c2]
    simp only [iu,if_neg c1,if_pos c2];refine .inl ⟨(i:Int),aC ?_⟩;simp only [eN,af,ah,ar,ae,aw,if_pos q,bt a,b,b1,d,z,z2,ak,au,aD,bj (show i+1<=9223372036854775807 by omega)];rfl
   .have z2:(c==34)=false:=by simp [c2]
    have ih:=sK hs st l (i+1) f (by omega);rw [aL (s':=([.int .u8 0,.int .i64 0,.bool true,.int .i64 ((i+1:Nat):Int)],st))]
    .simp only [iu,if_neg c1,if_neg c2];rw [show i+(iu l+1)=i+1+iu l by omega];exact ih
    .simp only [eN,af,ah,ar,ae,aw,if_pos q,bt a,b,b1,d,g,z,z2,ak,au,ai,aD,Ou];cases c==92 <;> simp only [au,ai,ak,af,ar,ah,ae,aD,bj (show i+1<=9223372036854775807 by omega)]
theorem kS {s:List UInt8} (hs:s.length<=1000000) (st:St): ∀(l:List UInt8) (i:Nat),s.drop i=l->i<=s.length->
  Ends st (aI (eN s) ([.int .u8 0,.int .i64 0,.bool false,.int .i64 (i:Int)],st)) ((fj l).1,i+(fj l).2)
 | [],i,hd,hi=>by
  have:=Ol.1 hd;have q:¬ (i:Int) < (s.length:Int):=by omega
  refine .inr ⟨rfl,aC ?_⟩;simp only [eN,af,ah,ar,ae,aw,if_neg q,ak,ai];rfl
 | [c],i,hd,hi=>by
  obtain ⟨o,f,a⟩:=drop_cons hd;have q:(i:Int) < (s.length:Int):=by omega
  have b:s[i]=c:=eP a o;have b1:((c.toNat:Int) != 10)=(c != 10):=by unfold bne;rw [show ((c.toNat:Int)==10)=(c==10) from bW c 10]
  have g:((c.toNat:Int)==34)=(c==34):=bW c 34;have k:((c.toNat:Int)==92)=(c==92):=bW c 92;by_cases c1:c=10
  .have z:(c != 10)=false:=by simp [c1]
   simp only [fj,if_pos c1];refine .inr ⟨rfl,aC ?_⟩;simp only [eN,af,ah,ar,ae,aw,if_pos q,bt a,b,b1,z,ak,ai];rfl
  .have z:(c != 10)=true:=by simp [c1]
   by_cases c2:c=34
   .have z2:(c==34)=true:=by simp [c2]
    simp only [fj,if_neg c1,if_pos c2];refine .inl ⟨(i:Int),aC ?_⟩;simp only [eN,af,ah,ar,ae,aw,if_pos q,bt a,b,b1,g,z,z2,ak,au,ai,aD,bj (show i+1<=9223372036854775807 by omega)];rfl
   .have z2:(c==34)=false:=by simp [c2]
    simp only [fj,if_neg c1,if_neg c2];cases h:c==92 with
    | true=>
     rw [aL (s':=([.int .u8 0,.int .i64 0,.bool true,.int .i64 ((i+1:Nat):Int)],st))]
     .exact sK hs st [] (i+1) f (by omega)
     .have n:=pt f;have e:(((0:UInt8).toNat:Nat):Int)=0:=rfl;simp only [eN,af,ah,ar,ae,aw,if_pos q,bt a,b,b1,g,k,z,z2,h,ak,au,ai,aD,OG,bj (show i+1<=9223372036854775807 by omega),ew,n,e];simp only [show ((0:Int)==110)=false from rfl,show ((0:Int)==116)=false from rfl,show ((0:Int)==92)=false from rfl,show ((0:Int)==34)=false from rfl,ai,ak,af,ar,ah,ae,aD,bj (show i+1<=9223372036854775807 by omega)]
    | false=>
     rw [aL (s':=([.int .u8 0,.int .i64 0,.bool false,.int .i64 ((i+1:Nat):Int)],st))]
     .exact kS hs st [] (i+1) f (by omega)
     .simp only [eN,af,ah,ar,ae,aw,if_pos q,bt a,b,b1,g,k,z,z2,h,ak,au,ai,aD,bj (show i+1<=9223372036854775807 by omega)]
 | c::d::l,i,hd,hi=>by
  obtain ⟨o,f,a⟩:=drop_cons hd;obtain ⟨y,p,r⟩:=drop_cons f;have q:(i:Int) < (s.length:Int):=by omega
  have b:s[i]=c:=eP a o;have b1:((c.toNat:Int) != 10)=(c != 10):=by unfold bne;rw [show ((c.toNat:Int)==10)=(c==10) from bW c 10]
  have g:((c.toNat:Int)==34)=(c==34):=bW c 34;have k:((c.toNat:Int)==92)=(c==92):=bW c 92;by_cases c1:c=10
  .have z:(c != 10)=false:=by simp [c1]
   simp only [fj,if_pos c1];refine .inr ⟨rfl,aC ?_⟩;simp only [eN,af,ah,ar,ae,aw,if_pos q,bt a,b,b1,z,ak,ai];rfl
  .have z:(c != 10)=true:=by simp [c1]
   by_cases c2:c=34
   .have z2:(c==34)=true:=by simp [c2]
    simp only [fj,if_neg c1,if_pos c2];refine .inl ⟨(i:Int),aC ?_⟩;simp only [eN,af,ah,ar,ae,aw,if_pos q,bt a,b,b1,g,z,z2,ak,au,ai,aD,bj (show i+1<=9223372036854775807 by omega)];rfl
   .have z2:(c==34)=false:=by simp [c2]
    simp only [fj,if_neg c1,if_neg c2];cases h:c==92 with
    | true=>
     have j:c=92:=eq_of_beq h;simp only [if_pos j];have n:=mn f;have t:((d.toNat:Int)==110)=(d==110):=bW d 110;have u:((d.toNat:Int)==116)=(d==116):=bW d 116;have v:((d.toNat:Int)==92)=(d==92):=bW d 92;have w:((d.toNat:Int)==34)=(d==34):=bW d 34;have m: ∀(st:St) {β:Type} (K:List AV×St->Option β),(aB (aW (d==110) (some ([AV.bool true],st)) (aW (d==116) (some ([AV.bool true],st)) (aW (d==92) (some ([AV.bool true],st)) (some ([AV.bool (d==34)],st))))) K)=K ([AV.bool (rH d)],st):=by
      intro st β K;unfold rH;cases d==110 <;> cases d==116 <;> cases d==92 <;> rfl
     cases x:rH d with
     | true=>
      simp only [if_true];rw [aL (s':=([.int .u8 0,.int .i64 0,.bool false,.int .i64 ((i+2:Nat):Int)],st)),show i+((fj l).2+2)=i+2+(fj l).2 by omega]
      .exact kS hs st l (i+2) p (by omega)
      .simp only [eN,af,ah,ar,ae,aw,if_pos q,bt a,b,b1,g,k,z,z2,h,ak,au,ai,aD,OG,bj (show i+1<=9223372036854775807 by omega),ew,n,t,u,v,w,m,x,bj (show i+1+1<=9223372036854775807 by omega)]
     | false=>
      simp only [Oi,if_false];rw [aL (s':=([.int .u8 0,.int .i64 0,.bool true,.int .i64 ((i+1:Nat):Int)],st)),show i+(iu (d::l)+1)=i+1+iu (d::l) by omega]
      .exact sK hs st (d::l) (i+1) f (by omega)
      .simp only [eN,af,ah,ar,ae,aw,if_pos q,bt a,b,b1,g,k,z,z2,h,ak,au,ai,aD,OG,bj (show i+1<=9223372036854775807 by omega),ew,n,t,u,v,w,m,x]
    | false=>
     have j:¬ c=92:=by simpa using h
     simp only [if_neg j];rw [aL (s':=([.int .u8 0,.int .i64 0,.bool false,.int .i64 ((i+1:Nat):Int)],st)),show i+((fj (d::l)).2+1)=i+1+(fj (d::l)).2 by omega]
     .exact kS hs st (d::l) (i+1) f (by omega)
     .simp only [eN,af,ah,ar,ae,aw,if_pos q,bt a,b,b1,g,k,z,z2,h,ak,au,ai,aD,bj (show i+1<=9223372036854775807 by omega)]
theorem DD {c:UInt8} {l:List UInt8} (hs:(c::l).length<=1000000):(bc vE).bare 62 [.str (c::l)]=some (.tup [.int .u8 ((fj l).1:Int),.int .i64 (((fj l).2+1:Nat):Int)]):=by
 refine aY rfl ((HA _).trans ?_);have e:=kS hs (St.mk 0 0 Tr.leaf) l 1 rfl (by simp);rw [Pb 1 (fj l).2] at e;simp only [NJ,aA];rcases e with ⟨x,e⟩ | ⟨a,e⟩
 .have e:aI (eN (c::l)) ([.int .u8 0,.int .i64 0,.bool false,.int .i64 1],St.mk 0 0 Tr.leaf)= _:=e;rw [e];simp only [ak,af,ah,ae,fB]
 .have e:aI (eN (c::l)) ([.int .u8 0,.int .i64 0,.bool false,.int .i64 1],St.mk 0 0 Tr.leaf)= _:=e;have a:(fj l).1=9:=a;rw [e,a];simp only [ak,af,ah,ae,dX];rfl
theorem Bh (s:List UInt8) (n:Nat) (d:UInt8) (hd:d≠0):(s.getD n 0==d)=decide ((s.drop n).head?=some d):=by
  cases h:s.drop n with
  | nil=>
    rw [pt h];simp;exact fun e=>hd e.symm
  | cons c l=>
    rw [mn h];by_cases e:c=d
    · subst e;simp
    · rw [NY.2 e]
      simp [e]
theorem KX {s:List UInt8} (hs:s.length<=1000000) (e:Nat) (a:Int) (hp: -2000000<=a) (a8:a<=2000000) (he:e<=s.length) {β:Type} (st:St) (K:bR->Option β):
    (aB (aX (bc vE) 54 [AV.str s,AV.int .i64 (e:Int)] st fun F g _x=>bg .u8 F fun G=>aW (G==101) (some
 ([AV.bool true],g)) (aX (bc vE) 54 [AV.str s,AV.int .i64 (e:Int)] g fun H o _x=>bg .u8 H fun I=>some ([AV.bool (I==69)],o))) fun k=>br (Prod.fst k) fun J L=>bG J fun M=>
 bE L (aB (aW M (aN (IntKind.wrap .i64 ((e:Int)+1)) fun b=>aX (bc vE) 54 [AV.str s,AV.int .i64 b] (Prod.snd k) fun O h _x=>bg .u8 O fun p=>aB (aW (p==45) (some ([AV.bool
 true],h)) (aX (bc vE) 54 [AV.str s,AV.int .i64 b] h fun P t _x=>bg .u8 P fun Q=>some ([AV.bool (Q==43)],t))) fun m=>br (Prod.fst m) fun R S=>bG R fun T=>bE S
 (aB (aW T (aN (IntKind.wrap .i64 (b+1)) fun U=>some ([AV.int .i64 U],Prod.snd m)) (some ([AV.int .i64 b],Prod.snd m))) fun u=>br (Prod.fst u) fun V W=>bg .i64 V fun v=>bE
 W (aB (aI (np s) ([AV.int .i64 0,AV.int .i64 v],Prod.snd u)) fun f=>br (Prod.fst (Prod.snd f)) fun X Y=>bg .i64 X fun w=>br Y fun Z x=>bg .i64 Z fun n101=>bE x
 (aB (aW (decide (n101 > v)) (aB (aW (p==45) (aN (IntKind.wrap .i64 (0 - w)) fun n102=>some ([AV.int .i64 n102],Prod.snd (Prod.snd f))) (some ([AV.int .i64 w],Prod.snd (Prod.snd f)))) fun i
 =>br (Prod.fst i) fun y z=>bg .i64 y fun n106=>bE z (aN (IntKind.wrap .i64 (a+n106)) fun n107=>some ([AV.int .i64 n101,AV.int .i64 n107],Prod.snd i))) (some ([AV.int .i64 (e:Int),AV.int .i64
 a],Prod.snd (Prod.snd f)))) fun j=>br (Prod.fst j) fun v109 A=>bg .i64 v109 fun n111=>br A fun B C=>bg .i64 B fun n114=>bE C (some ([AV.int .i64 n111,AV.int .i64 n114],
 Prod.snd j)))))) (some ([AV.int .i64 (e:Int),AV.int .i64 a],Prod.snd k))) K))=K ([.int .i64 ((e+(jb (s.drop e)).1:Nat):Int),.int .i64 (a+(jb (s.drop e)).2)],st):=by
  have a1:((((s.getD e 0).toNat:Nat):Int)==101)=(s.getD e 0==101):=bW _ 101;have a2:((((s.getD e 0).toNat:Nat):Int)==69)=(s.getD e 0==69):=bW _ 69;have w1:=bj (show e+1<=9223372036854775807 by omega);have a3:((((s.getD (e+1) 0).toNat:Nat):Int)==45)=(s.getD (e+1) 0==45):=bW _ 45;have a4:((((s.getD (e+1) 0).toNat:Nat):Int)==43)=(s.getD (e+1) 0==43):=bW _ 43;have JY: ∀(st:St) {γ:Type} (K:List AV×St->Option γ),aB (aW (s.getD e 0==101) (some ([AV.bool true],st)) (some ([AV.bool (s.getD e 0==69)],st))) K=K ([AV.bool (s.getD e 0==101||s.getD e 0==69)],st):=by
    intro st γ K;cases s.getD e 0==101 <;> rfl
  have bY: ∀(st:St) {γ:Type} (K:List AV×St->Option γ),aB (aW (s.getD (e+1) 0==45) (some ([AV.bool true],st)) (some ([AV.bool (s.getD (e+1) 0==43)],st))) K=K ([AV.bool (ng (s.getD (e+1) 0))],st):=by
    intro st γ K;unfold ng;cases s.getD (e+1) 0==45 <;> cases s.getD (e+1) 0==43 <;> rfl
  simp only [ew,ah,a1,a2,JY,af,ar,ae];cases hd:s.drop e with
  | nil=>
    rw [pt hd];simp only [show ((0:UInt8)==101||(0:UInt8)==69)=false from rfl,ai,ak,jb];simp
  | cons c l=>
    obtain ⟨hg,D,bb⟩:=drop_cons hd;rw [mn hd];by_cases E:c=101\/c=69
    · have n:(c==101||c==69)=true:=by simpa using E
      have av:eY l=if ng (s.getD (e+1) 0)=true then 1 else 0:=by
        cases l with
        | nil=>rw [pt D];rfl
        | cons d r=>rw [mn D];rfl
      have b4:=Ao l;have b5:l.length=s.length - (e+1):=by rw [<- D,N3]
      have a6:(s.getD (e+1) 0==45)=decide (l.head?=some 45):=by rw [Bh s (e+1) 45 (by decide),D]
      have sg: ∀(st:St) {γ:Type} (K:List AV×St->Option γ),aB (aW (ng (s.getD (e+1) 0)) (some ([AV.int .i64 ((e+1+1:Nat):Int)],st)) (some ([AV.int .i64 ((e+1:Nat):Int)],st))) K=K ([AV.int .i64 ((e+1+eY l:Nat):Int)],st):=by
        intro st γ K;rw [av];cases ng (s.getD (e+1) 0) <;> rfl
      have a7:s.drop (e+1+eY l)=l.drop (eY l):=by rw [<- D,O8]
      have lp:=fun st=>zq hs st (l.drop (eY l)) (e+1+eY l) 0 a7 (by omega);have lp: ∀st,aI (np s) ([.int .i64 0,.int .i64 ((e+1+eY l:Nat):Int)],st)= _:=lp;simp only [n,au,aD,w1,ew,ah,a3,a4,bY,af,ar,ae,bj (show e+1+1<=9223372036854775807 by omega),sg,lp,ak];have hx:CP 0 ((l.drop (eY l)).take (wh aR (l.drop (eY l))))=min (gB 0 ((l.drop (eY l)).take (wh aR (l.drop (eY l))))) 1000000:=xR _ 0;simp only [jb,if_pos E];by_cases hz:wh aR (l.drop (eY l))=0
      · have q:¬ (((e+1+eY l+wh aR (l.drop (eY l)):Nat):Int) > ((e+1+eY l:Nat):Int)):=by omega
        simp only [aw,if_neg q,ak,af,ah,ae,if_pos hz];simp
      · have q:(((e+1+eY l+wh aR (l.drop (eY l)):Nat):Int) > ((e+1+eY l:Nat):Int)):=by omega
        simp only [aw,if_pos q,ak,af,ah,ae,if_neg hz,hx,a6];generalize hN:gB 0 ((l.drop (eY l)).take (wh aR (l.drop (eY l))))=N;by_cases hm:l.head?=some 45
        · have w2:IntKind.wrap .i64 (0 - ((min N 1000000:Nat):Int))= -((min N 1000000:Nat):Int):=by
            rw [wrap_i64 (by omega) (by omega)];omega
          have w3:IntKind.wrap .i64 (a+ -((min N 1000000:Nat):Int))=a+ -((min N 1000000:Nat):Int):=wrap_i64 (by omega) (by omega);simp only [if_pos hm,aD,w2,ak,af,ah,ae,w3];rw [show e+1+eY l+wh aR (l.drop (eY l))=e+(1+eY l+wh aR (l.drop (eY l))) by omega]
        · have w3:IntKind.wrap .i64 (a+((min N 1000000:Nat):Int))=a+((min N 1000000:Nat):Int):=wrap_i64 (by omega) (by omega)
          simp only [if_neg hm,aD,ak,af,ah,ae,w3];rw [show e+1+eY l+wh aR (l.drop (eY l))=e+(1+eY l+wh aR (l.drop (eY l))) by omega]
    · have n:(c==101||c==69)=false:=by simpa using E
      simp only [n,ai,ak,jb,if_neg E];simp
theorem zV (s:List UInt8): -1000000<=(jb s).2/\(jb s).2<=1000000:=by
  unfold jb;split
  · simp
  · split
    · dsimp only
      split
      · simp
      · dsimp only
        split <;> omega
    · simp
theorem GC {s:List UInt8} (hs:s.length<=1000000) (h1:1<=wh aR s):(bc vE).bare 61 [.str s]=some (.tup [.int .u8 ((number s).1:Int),.int .i64 ((number s).2:Int)]):=by
  refine aY rfl ((Jr _).trans ?_);have l1:aI (rT s) ([.int .i64 0],St.mk 0 0 Tr.leaf)=some (0,[.int .i64 ((wh aR s:Nat):Int)],St.mk 0 0 Tr.leaf):=by
    have:=BX hs (St.mk 0 0 Tr.leaf) (n:=0) (l:=s) rfl;rw [N5] at this;exact this
  have p:=jY aR s;have hd:=Bh s (wh aR s) 46 (by decide);have e:((((s.getD (wh aR s) 0).toNat:Nat):Int) != 46)= !(decide ((s.drop (wh aR s)).head?=some 46)):=by
    unfold bne;rw [<- hd,show ((((s.getD (wh aR s) 0).toNat:Nat):Int)==46)=(s.getD (wh aR s) 0==46) from bW _ 46]
  simp only [MQ,aA,l1,ak,af,ah,ae,ew,e];have c:number s=if (s.drop (wh aR s)).head?=some 46 then (if wh aR s+wh aR (s.drop (wh aR s+1)) > 15\/(jb (s.drop (wh aR s+1+wh aR (s.drop (wh aR s+1))))).2 - (wh aR (s.drop (wh aR s+1)):Int) < -22\/(jb (s.drop (wh aR s+1+wh aR (s.drop (wh aR s+1))))).2 - (wh aR (s.drop (wh aR s+1)):Int) > 22 then 9 else 6,wh aR s+1+wh aR (s.drop (wh aR s+1))+(jb (s.drop (wh aR s+1+wh aR (s.drop (wh aR s+1))))).1) else (5,wh aR s):=rfl
  rw [c];by_cases b:(s.drop (wh aR s)).head?=some 46
  · have h:wh aR s < s.length:=by
      rcases Nat.lt_or_ge (wh aR s) s.length with q | q
      · exact q
      · rw [List.drop_of_length_le q] at b;cases b
    have l2:=BF hs (St.mk 0 0 Tr.leaf) (n:=wh aR s+1) (l:=s.drop (wh aR s+1)) rfl;have i:=jY aR (s.drop (wh aR s+1));rw [N3] at i;generalize r:wh aR s=n at *;generalize j:wh aR (s.drop (n+1))=k at *;have w1:=bj (show n+1<=9223372036854775807 by omega);have m:IntKind.wrap .i64 (((n+1:Nat):Int) - ((n+1+k:Nat):Int))= -(k:Int):=by rw [wrap_i64 (by omega) (by omega)];omega
    have o:IntKind.wrap .i64 (((n+1+k:Nat):Int) - 1)=((n+k:Nat):Int):=by rw [wrap_i64 (by omega) (by omega)];omega
    simp only [Pa b,Ou,ai,aD,w1,l2,ak,af,ah,ae,m,o,if_pos b];have g:=fun (K:bR->Option AV)=>KX hs (n+1+k) (-(k:Int)) (by omega) (by omega) (by omega) (St.mk 0 0 Tr.leaf) K;simp only [aD] at g;rw [g];have t:=zV (s.drop (n+1+k));generalize (jb (s.drop (n+1+k))).1=u at *;generalize (jb (s.drop (n+1+k))).2=a at *;simp only [af,ah,ae];by_cases c1:n+k > 15
    · have q:((n+k:Nat):Int) > 15:=by omega
      simp only [aw,if_pos q,ak,af,ar,ae,au,if_pos (show n+k > 15\/a - (k:Int) < -22\/a - (k:Int) > 22 from .inl c1)];rfl
    · have q:¬ ((n+k:Nat):Int) > 15:=by omega
      by_cases c2:a - (k:Int) < -22
      · have d: -(k:Int)+a < -22:=by omega
        simp only [aw,if_neg q,if_pos d,ak,af,ar,ae,au,if_pos (show n+k > 15\/a - (k:Int) < -22\/a - (k:Int) > 22 from .inr (.inl c2))];rfl
      · have d:¬ -(k:Int)+a < -22:=by omega
        by_cases c3:a - (k:Int) > 22
        · have f: -(k:Int)+a > 22:=by omega
          simp only [aw,if_neg q,if_neg d,if_pos f,ak,af,ar,ae,if_pos (show n+k > 15\/a - (k:Int) < -22\/a - (k:Int) > 22 from .inr (.inr c3))];rfl
        · have f:¬ -(k:Int)+a > 22:=by omega
          simp only [aw,if_neg q,if_neg d,if_neg f,ak,af,ar,ae,if_neg (show ¬ (n+k > 15\/a - (k:Int) < -22\/a - (k:Int) > 22) by omega)];rfl
  · simp only [OX b,OG,au,if_neg b]
    rfl
def Dq:AV:=AV.sl 1 [AV.str [108,101,116],AV.str [114,101,99],AV.str [105,110],AV.str [102,117,110],AV.str [105,102],AV.str [116,104,101,110],AV.str [101,108,115,101],AV.str [109,97,116,99,104],AV.str [119,105,116,104],AV.str [116,114,117,101],AV.str [102,97,108,115,101],AV.str [109,111,100]] Perm.shut
def Hh:AV:=AV.sl 1 [AV.str [45,62],AV.str [58,58],AV.str [60,62],AV.str [60,61],AV.str [62,61],AV.str [43,46],AV.str [45,46],AV.str [42,46],AV.str [47,46],AV.str [38,38],AV.str [124,124]] Perm.shut
theorem xF (l:List (List UInt8)) (hl:l.length<=1000) {j:Nat} {w:List UInt8} (h:l[j]? =some w) {β:Type} (st:St) (K:AV->List Nat->Option β):fc 1 (AV.sl 1 (l.map AV.str) .shut) (j:Int) st K=K (.ip [.str w]) []:=
 (cb.shut (z:=1) (es:=l.map AV.str) (by rw [Ok];omega)).idx (by rw [OM,h];rfl) st K
theorem CW {j:Nat} {w:List UInt8} (h:words[j]? =some w) {β:Type} (st:St) (K:AV->List Nat->Option β):fc 1 Dq (j:Int) st K=K (.ip [.str w]) []:=xF words (by decide) h st K
theorem Ep {j:Nat} {w:List UInt8} (h:jK[j]? =some w) {β:Type} (st:St) (K:AV->List Nat->Option β):fc 1 Hh (j:Int) st K=K (.ip [.str w]) []:=xF jK (by decide) h st K
theorem vB (w:List UInt8) (st:St): ∀(l:List (List UInt8)) (j:Nat),words.drop j=l->l.length+j=12->
  aI (po w) ([.bool false,.int .i64 (j:Int)],st)=some (if l.contains w then (1,[.bool true],st) else (0,[.bool false],st))
 | [],j,hd,b=>by
  have q:¬ (j:Int) < 12:=by simp at b;omega
  refine aC ?_;simp only [po,af,ar,ah,ae,aw,if_neg q];rfl
 | x::l,j,hd,b=>by
  obtain ⟨d,e,f⟩:=drop_cons hd;have q:(j:Int) < 12:=by simp at b;omega
  have a:=fun {β:Type} (st:St) (K:AV->List Nat->Option β)=>CW d st K;unfold Dq at a;rw [List.contains_cons,BEq.comm];cases c:x==w with
  | true=>
   refine aC ?_;simp only [po,af,ar,ah,ae,aw,if_pos q,a,cO,bl,ak,aA,c,au,O9,if_true]
  | false=>
   rw [aL (s':=([.bool false,.int .i64 ((j+1:Nat):Int)],st)),vB w st l (j+1) e (by simp at b;omega),Ov];simp only [po,af,ar,ah,ae,aw,if_pos q,a,cO,bl,ak,aA,c,ai,aD,bj (show j+1<=9223372036854775807 by simp at b;omega)]
theorem xV (w:List UInt8):(bc vE).bare 59 [.str w]=some (.bool (words.contains w)):=by
 refine aY rfl ((Ji _).trans ?_);have e:aI (po w) ([.bool false,.int .i64 0],St.mk 0 0 Tr.leaf)= _:=vB w (St.mk 0 0 Tr.leaf) words 0 rfl rfl;simp only [MT,aA];rw [e];cases words.contains w <;> rfl
theorem zX {β:Type} (w:List UInt8) (st:St) (K:Kv β):aX (bc vE) 59 [.str w] st K=K (.bool (words.contains w)) st q0:=aM st K rfl rfl rfl (xV w)
theorem EI {t:List UInt8} {j:Nat} (h:jK[j]? =some t):t.length=2:=by
 have a:=Ob h;simp only [jK,Oc,List.not_mem_nil,or_false] at a;rcases a with rfl | rfl | rfl | rfl | rfl | rfl | rfl | rfl | rfl | rfl | rfl <;> rfl
theorem xW (s:List UInt8) (st:St): ∀(l:List (List UInt8)) (j:Nat),jK.drop j=l->l.length+j=11->
  aI (pU s) ([.int .u8 0,.int .i64 0,.int .i64 (j:Int)],st)=some (if l.contains (s.take 2) then (1,[.int .u8 8,.int .i64 2],st) else (0,[.int .u8 0,.int .i64 0],st))
 | [],j,hd,b=>by
  have q:¬ (j:Int) < 11:=by simp at b;omega
  refine aC ?_;simp only [pU,af,ah,ae,aw,if_neg q];rfl
 | x::l,j,hd,b=>by
  obtain ⟨c,f,g⟩:=drop_cons hd;have q:(j:Int) < 11:=by simp at b;omega
  have a:=fun {β:Type} (st:St) (K:AV->List Nat->Option β)=>Ep c st K;have d:=fun {β:Type} (st:St) (K:Kv β)=>vi s (EI c) st K;unfold Hh at a;rw [List.contains_cons];cases e:s.take 2==x with
  | true=>
   refine aC ?_;simp only [pU,af,ah,ae,aw,if_pos q,a,cO,bl,ak,aA,d,e,ar,au,O9,if_true]
  | false=>
   rw [aL (s':=([.int .u8 0,.int .i64 0,.int .i64 ((j+1:Nat):Int)],st)),xW s st l (j+1) f (by simp at b;omega),Ov];simp only [pU,af,ah,ae,aw,if_pos q,a,cO,bl,ak,aA,d,e,ar,ai,aD,bj (show j+1<=9223372036854775807 by simp at b;omega)]
theorem zo (c:UInt8) (st:St): ∀(l:List UInt8) (j:Nat),xx.drop j=l->l.length+j=16->
  aI (pV c) ([.int .u8 0,.int .i64 0,.int .i64 (j:Int)],st)=some (if l.contains c then (1,[.int .u8 8,.int .i64 1],st) else (0,[.int .u8 0,.int .i64 0],st))
 | [],j,hd,a=>by
  have q:¬ (j:Int) < 16:=by simp at a;omega
  refine aC ?_;simp only [pV,af,ah,ae,aw,if_neg q];rfl
 | x::l,j,hd,a=>by
  obtain ⟨f,g,b⟩:=drop_cons hd;have q:(j:Int) < 16:=by simp at a;omega
  have hi:=fun {β:Type} (K:UInt8->Option β)=>bt b K;have h:xx[j]=x:=eP b f;rw [h] at hi;unfold xx at hi;have d:=bW x c;rw [List.contains_cons,BEq.comm];cases e:x==c with
  | true=>
   rw [e] at d;refine aC ?_;simp only [pV,af,ah,ae,aw,if_pos q,hi,d,au,O9,if_true]
  | false=>
   rw [e] at d;rw [aL (s':=([.int .u8 0,.int .i64 0,.int .i64 ((j+1:Nat):Int)],st)),zo c st l (j+1) g (by simp at a;omega),Ov];simp only [pV,af,ah,ae,aw,if_pos q,hi,d,ai,aD,bj (show j+1<=9223372036854775807 by simp at a;omega)]
theorem Mc {s:List UInt8} (g:s≠[]) (hs:s.length<=1000000):(bc vE).bare 32 [.str s]=some (.tup [.int .u8 ((cut s).1:Int),.int .i64 ((cut s).2:Int)]):=by
 cases s with
 | nil=>exact absurd rfl g
 | cons c l=>
 refine aY rfl ((Jy _).trans ?_);have j: ∀{β:Type} (K:UInt8->Option β),ey (c::l) 0 K=K c:=fun K=>bt (k:=0) (by simp) K;have m:=fun {β:Type} (st:St) (K:Kv β)=>vi (c::l) (t:=[40,42]) rfl st K;simp only [MP,aA,j,lI,ar];unfold cut;dsimp only;cases w:ep c with
 | true=>
  have e:aI (sU (c::l)) ([.int .i64 0],St.mk 0 0 Tr.leaf)=some (0,[.int .i64 ((wh ep (c::l):Nat):Int)],St.mk 0 0 Tr.leaf):=by
   have:=CX hs (St.mk 0 0 Tr.leaf) (n:=0) (l:=c::l) rfl;rw [N5] at this;exact this
  simp only [au,e,ak,af,ah,ae,if_true];rfl
 | false=>
 simp only [ai,m,ar,Oi,if_false];by_cases d:(c::l).take 2=[40,42]
 .have a:((c::l).take 2==[40,42])=true:=OL.2 d;have hl:2<=(c::l).length:=by
   have:=OC List.length d;rw [Oa] at this;simp at this;simp;omega
  have e:=fun {β:Type} (st:St) (K:Kv β)=>aM st K rfl rfl rfl (AL hs hl);simp only [a,au,e,if_pos d];cases rem (List.drop 2 (c::l)) 1 with
  | some n=>simp only [ch,bA,bM,ah,ar,au];rfl
  | none=>simp only [ch,bA,bM,ah,ar,ai];rfl
 have a:((c::l).take 2==[40,42])=false:=NY.2 d;simp only [a,ai,if_neg d,ux,ar];cases o:gM c with
 | true=>
  have e:aI (r8 (c::l)) ([.int .i64 0],St.mk 0 0 Tr.leaf)=some (0,[.int .i64 ((wh eL (c::l):Nat):Int)],St.mk 0 0 Tr.leaf):=by
   have:=Cl hs (St.mk 0 0 Tr.leaf) (n:=0) (l:=c::l) rfl;rw [N5] at this;exact this
  have q:=qV eL (c::l);simp only [au,e,ak,af,ah,ae,bC (jY eL (c::l)),N7,aD,q,zX,ar,if_true];unfold sr;by_cases h1:(c::l).takeWhile eL=[95]
  .have r:wh eL (c::l)=1:=by
    show ((c::l).takeWhile eL).length=1;rw [h1];rfl
   rw [h1,r];rfl
  .rw [NY.2 h1,if_neg h1];cases words.contains ((c::l).takeWhile eL) <;> rfl
 | false=>
 simp only [ai,Oi,if_false,eb,ar];cases h:aR c with
 | true=>
  have e:=fun {β:Type} (st:St) (K:Kv β)=>aM st K rfl rfl rfl (GC hs (by rw [eX,if_pos h];omega));simp only [au,e,ch,bA,bM,ah,if_true]
 | false=>
 have i:((c.toNat:Int)==34)=(c==34):=bW c 34;simp only [ai,Oi,if_false,i];by_cases f:c=34
 .have b:(c==34)=true:=OL.2 f;have e:=fun {β:Type} (st:St) (K:Kv β)=>aM st K rfl rfl rfl (DD (c:=c) hs);simp only [b,au,e,ch,bA,bM,ah,if_pos f]
 have b:(c==34)=false:=NY.2 f;have u:aI (pU (c::l)) ([.int .u8 0,.int .i64 0,.int .i64 0],St.mk 0 0 Tr.leaf)= _:=xW (c::l) (St.mk 0 0 Tr.leaf) jK 0 rfl rfl;simp only [b,ai,if_neg f];rw [u];cases x:jK.contains ((c::l).take 2) with
 | true=>rfl
 | false=>
 have v:aI (pV c) ([.int .u8 0,.int .i64 0,.int .i64 0],St.mk 0 0 Tr.leaf)=some (if jn c then (1,[.int .u8 8,.int .i64 1],St.mk 0 0 Tr.leaf) else (0,[.int .u8 0,.int .i64 0],St.mk 0 0 Tr.leaf)):=zo c (St.mk 0 0 Tr.leaf) xx 0 rfl rfl;simp only [Oi,if_false,ak,af,ah,ae,dX];rw [v];cases ho:jn c with
 | true=>rfl
 | false=>
 obtain ⟨p,e,_⟩:=xT (s:=c::l) (by simp);have e:=fun {β:Type} (st:St) (K:Kv β)=>aM st K rfl rfl rfl e;simp only [Oi,if_false,ak,af,ah,ae,dX,e,ch,bA,bM];rfl
theorem tl: ∀(n:Nat) (s:List UInt8) (st:St) (v:AV) (es:List AV),s.length<=n->n<=500000->jE st 2 24 v es->es.length+n<=500000->
  ∃v' st',aI wI ([v,.str s],st)=some (0,[v'],st')/\jE st' 2 24 v' (es++(tokens s).map tok)
 | n,[],st,v,es,_,_,ho,_=>by
  refine ⟨v,st,aC ?_,by simpa [sy] using ho⟩;simp only [wI,af,aA,ae,show (!(([]:List UInt8)==[]))=false from rfl,ai]
 | 0,c::l,_,_,_,h,_,_,_=>by simp at h
 | n+1,c::l,st,v,es,h,m,ho,o=>by
  have g:=qa (s:=c::l) (by simp);have a:=fun {β:Type} (st:St) (K:Kv β)=>aM st K rfl rfl rfl (Mc (s:=c::l) (by simp) (by omega));obtain ⟨v1,st1,o1,p,i,d⟩:=A6 (b:=24) (tok ((cut (c::l)).1,(c::l).take (cut (c::l)).2)) ho (qQ (by omega) (by omega) (by omega));have d: ∀{β:Type} (K:Kv β),cq 2 24 24 v [.agg [.int .u8 ((cut (c::l)).1:Int),.str ((c::l).take (cut (c::l)).2)]] st K=K v1 st1 i:=fun K=>d K;have hd:((c::l).drop (cut (c::l)).2).length<=n:=by rw [N3];omega
  obtain ⟨j,e,k,f⟩:=tl n ((c::l).drop (cut (c::l)).2) st1 v1 _ hd (by omega) o1 (by rw [N8];simp;omega);refine ⟨j,e, ?_, ?_⟩
  .rw [aL (s':=([v1,.str ((c::l).drop (cut (c::l)).2)],st1)),k];simp only [wI,af,aA,ae,show (!((c::l:List UInt8)==[]))=true from rfl,au,a,ch,bA,bM,ah,bC g.2,N7,aD,d,Ot]
  .rw [qf (by simp),Od];rw [On] at f;exact f
theorem ql {β:Type} (s:List UInt8) (st:St) (K:Kv β):aX (bc vE) 31 [.str s] st K=K (.bool (dN s)) st q0:=aM st K rfl rfl rfl (Df s)
theorem tQ {s:List UInt8} (h:65536 < s.length):(bc vE).bare 14 [.str s]=some (.tup [.aG,.int .i64 40]):=by
 refine aY rfl ((Aw _).trans ?_);have q:(s.length:Int) > 65536:=by omega
 simp only [g14,aA,aw,if_pos q]
theorem wU {s:List UInt8} (h:s.length<=65536) (a:dN s=false):(bc vE).bare 14 [.str s]=some (.tup [.aG,.int .i64 4]):=by
 refine aY rfl ((Aw _).trans ?_);have q:¬ (s.length:Int) > 65536:=by omega
 simp only [g14,aA,aw,if_neg q,ql,a,ar,OG,au]
theorem zZ {s:List UInt8} (h:s.length<=65536) (a:dN s=true): ∃x,(bc vE).bare 14 [.str s]=some (.tup [x,.int .i64 0])/\cb 2 x ((tokens s).map tok):=by
 have q:¬ (s.length:Int) > 65536:=by omega
 obtain ⟨v',st',e,o⟩:=tl s.length s (St.mk 0 0 Tr.leaf) .aG [] (NX _) (by omega) (jE.aG (NX _) _ _) (by simp;omega);rw [O3] at o;obtain ⟨x,b,hf⟩:=xn o (tg .i64 0) rfl;refine ⟨x,aY rfl ((Aw _).trans ?_),b⟩;simp only [g14,aA,aw,if_neg q,ql,a,ar,Ou,ai,e,ak,af,ae,hf]
end Go.Proofs.YtpinfliihpdjcaaGreatDoor.Vm
namespace Go.Proofs.YtpinfliihpdjcaaGreatDoor.Vm
open Go Go.VM Go.Proofs Go.Lex Go.Parse
theorem Kt {t:T} {k tk:Nat} {tx:List UInt8} {y:AV} (h:Nd t k tk tx y): ∃v,fI t v/\ ∀{β:Type} (st:St) (K:AV->Option β),kQ st 0 (.agg [.int .u8 (k:Int),.int .u8 (tk:Int),.str tx,y]) K=K v:=by
 obtain ⟨y',a,hf⟩:=vq h;refine ⟨_,a,fun st K=> ?_⟩;have b:VM.freeze st 0 100 (.agg [.int .u8 (k:Int),.int .u8 (tk:Int),.str tx,y])= _:=hf st 98;simp only [kQ,b,(eW a).1,bV]
abbrev S2 (x:AV):St:=St.mk 2 0 (Tr.node (some (VM.Obj.cells ND z4)) (Tr.node (some (VM.Obj.cells PR [x,.int .i64 0,.int .i64 0])) Tr.leaf Tr.leaf) Tr.leaf)
abbrev S3 (x:AV):St:=St.mk 3 0 (Tr.node (some (VM.Obj.cells ND z4)) (Tr.node (some (VM.Obj.cells PR [x,.int .i64 0,.int .i64 0])) Tr.leaf Tr.leaf) (Tr.node (some (VM.Obj.cells ND [.int .u8 4,.int .u8 0,.str [],.aG])) Tr.leaf Tr.leaf))
theorem EA {L:List bo} {x:AV} (d:cb 2 x (L.map tok)) (hL:L.length<=70000) (f:Sg L): ∃v,(bc vE).bare 15 [x]=some v/\fI (doc L) v:=by
 obtain ⟨D,n,a⟩:=Bz L;have key:aa (bT vE 15 [x]) (fI (doc L)):=by
  refine aa.step (HX _) ?_;unfold g15;refine aa.one d.one (aa.one d.one ?_);have g:zx PR (S2 x) 1 L x 0 0:=⟨rfl,d,O4 _,by omega,O4 _⟩;have w:=Wd.start g;rw [N7] at w;have w:=w.alloc ND [.int .u8 4,.int .u8 0,.str [],.aG];have o:(S2 x).add (.cells ND [.int .u8 4,.int .u8 0,.str [],.aG])=S3 x:=by kernel_rfl
  rw [o] at w;have w:Wd PR (S2 x) (S3 x) 1 L x 0 L [(2,ND,[.int .u8 4,.int .u8 0,.str [],.aG])] []:=w;refine aa.bind (zU f (fuel L) L D [] [] .aG _ (wY hL) n (by omega) w.aG bp.nil (by rw [aK];omega) (by have:=wY hL;simp;omega)) ?_;rintro q ⟨u,y,A,v,es,rfl,rfl,w,b,hl,hd⟩;refine aa.step (ae _) ?_;rw [O3] at b hl hd;refine aa.grow [] w (gj w.pz) rfl rfl b (by omega) (by omega) fun v' e i c p w=> ?_;refine aa.dQ NV w (aa.one w.ET.one ?_);have j:i.ro=0:=w.k.ro;have r:i.get 0= .ok (.cells ND z4):=w.k.old 0 _ (by decide) rfl;have l:Vw i [(0,ND,z4)]:=⟨fun q s=>by
   rw [Pw.1 s];exact ⟨r,by rw [j];exact NX _⟩,by simp,w.ro⟩
  refine aa.wb [] l fun B _ _ l=>aa.A7 NV l rfl ?_;simp only [bF,af,ah,aA,ae];have m:Nd (doc L) 4 0 [] v':=⟨⟨_,_,a,w.ET,c⟩⟩;obtain ⟨z,t,hf⟩:=Kt m;exact aa.step (hf _ _) (aa.some t)
 obtain ⟨v,e,h⟩:=key;exact ⟨v,aY rfl e,h⟩
theorem H3 (s:List UInt8):Sg (tokens s):=fun t a=>(Ast.Ef _ s t a).2.2
theorem Cj (s:List UInt8): ∃v,fI (dT s) v/\(bc vE).bare 6 [.str s]=some (.tup [v,.int .i64 (qj s)]):=by
 have key:aa (bT vE 6 [.str s]) (fun b=> ∃v,b= .tup [v,.int .i64 (qj s)]/\fI (dT s) v):=by
  refine aa.step (KG _) ?_;unfold g6;refine aa.step (aA _ _) ?_;have w0:Vw (St.mk 1 0 (Tr.node (some (VM.Obj.cells ND z4)) Tr.leaf Tr.leaf)) [(0,ND,z4)]:=⟨fun q f=>by
   rw [Pw.1 f];exact ⟨rfl,O4 _⟩,by simp,O4 _⟩
  rcases CV s with ⟨h0,h1,g⟩ | ⟨h0,h1⟩ | ⟨h0,h1,g⟩
  .obtain ⟨x,e,i⟩:=zZ (r5 h0).1 g;have m:=vA s;have n:=(r5 h0).1;obtain ⟨v,ev,o⟩:=EA i (by omega) (H3 s);have a:dT s=doc (tokens s):=by unfold dT;rw [if_pos h0]
   rw [a,h0];refine aa.step (aM _ _ rfl rfl rfl e) ?_;simp only [ch,bA,bM,ah];refine aa.step (ai _ _) (aa.step (aM _ _ rfl (by simp only [Od,O5,i.strip]) (by simp only [bw,i.bare];rfl) ev) ?_);obtain ⟨k,tk,tx,p,y,es,f,rfl,hy,hs⟩:=jR o;simp only [bF,af,ah,aA,ae];refine aa.step (hy.ab _) (aa.wb [] w0 fun l _ _ d=>aa.A7 NV d rfl ?_);simp only [bF,af,ah,aA,ae];have j:Nd (doc (tokens s)) k tk tx y:=⟨⟨_,_,f,.inl hy,hs⟩⟩;obtain ⟨z,c,hf⟩:=lB j 0;exact aa.step (hf _ _) (aa.some ⟨z,rfl,c⟩)
  .have a:dT s= .mk 0 0 [] []:=by unfold dT;rw [if_neg (by rw [h0];decide)]
   rw [a,h0];refine aa.step (aM _ _ rfl rfl rfl (tQ h1)) ?_;simp only [ch,bA,bM,ah];refine aa.step (au _ _) (aa.wb [] w0 fun l _ _ d=>aa.A7 NV d rfl ?_);simp only [bF,af,ah,aA,ae];obtain ⟨z,c,hf⟩:=lB vO 40;exact aa.step (hf _ _) (aa.some ⟨z,rfl,c⟩)
  .have a:dT s= .mk 0 0 [] []:=by unfold dT;rw [if_neg (by rw [h0];decide)]
   rw [a,h0];refine aa.step (aM _ _ rfl rfl rfl (wU (by omega) g)) ?_;simp only [ch,bA,bM,ah];refine aa.step (au _ _) (aa.wb [] w0 fun l _ _ d=>aa.A7 NV d rfl ?_);simp only [bF,af,ah,aA,ae];obtain ⟨z,c,hf⟩:=lB vO 4;exact aa.step (hf _ _) (aa.some ⟨z,rfl,c⟩)
 obtain ⟨b,e,v,rfl,h⟩:=key;exact ⟨v,h,aY rfl e⟩
end Go.Proofs.YtpinfliihpdjcaaGreatDoor.Vm
namespace Go.Proofs.YtpinfliihpdjcaaGreatDoor.Vm
open Go Go.VM Go.Proofs
theorem B5:(caller vE 3000).bare 4 []= .ok (.bool true):=by kernel_rfl
end Go.Proofs.YtpinfliihpdjcaaGreatDoor.Vm
