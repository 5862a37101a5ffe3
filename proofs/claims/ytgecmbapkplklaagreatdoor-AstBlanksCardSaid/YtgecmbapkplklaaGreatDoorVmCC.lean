/-
  (A part of the proof: ParseQ, ScopeA, FA, AstA, AstB, AstC, AstD, AstE, AstF, AstG, AstH, AstI, AstJ, AstK, AstL, AstM, AstAw, FR, RefA, RefB, RefC, RefD.)
-/
import Derived.Test.YtgecmbapkplklaaGreatDoorVmAA
import Derived.Test.YtgecmbapkplklaaGreatDoorVmCB
import Derived.Test.YtgecmbapkplklaaGreatDoorVmBF
import Derived.Test.YtgecmbapkplklaaGreatDoorVmAJ
set_option maxRecDepth 1000000
set_option linter.unusedSimpArgs false
set_option maxHeartbeats 0
namespace Go.Proofs.YtgecmbapkplklaaGreatDoor.Vm
open Go Go.VM Go.Proofs Go.Lex Go.Parse
section
variable {β:Type} {Q:β->Prop}
abbrev S0:St:=St.mk 0 0 Tr.leaf
theorem xX {F:FuncId} {t:T} {v r:AV} (a:iz t v) (hf:vE.full F=false) (h:(aV vE).bare F [v]=some r) {β:Type} (st:St) (K:Kv β):bc (aV vE) F [v] st K=K r st q0:=
 aG st K hf (by simp only [W8,Xm,(rn a).2]) (by simp only [bf,(rn a).1];rfl) h
theorem mA (a b:Nat):((a:Int) != (b:Int))=(a != b):=by rw [bne,bP, <- bne]
theorem zB: ∀(l:List T),Parse.dc l=l.all Parse.bZ
 | []=>rfl
 | t::l=>by simp only [Parse.dc,Yq,zB l]
theorem oz {l:List T} {x:AV} {es:List AV} (hx:bp 4 x es) (hs:bO l es) {γ:Type} (K:Nat->Option γ):fc x K=K l.length:=by rw [hx.len,hs.len]
theorem DY {l:List T} {x:AV} {es:List AV} (hx:bp 4 x es) (hs:bO l es):l.length<=9223372036854775807:=by rw [<- hs.len];exact hx.1
theorem AG {l:List T} {x:AV} {es:List AV} (hx:bp 4 x es) (hs:bO l es) (hg: ∀t∈l,∀v,iz t v->(aV vE).bare 14 [v]=some (.bool (Parse.bZ t))) (st:St): ∀(m:List T) (j:Nat),l.drop j=m->
  ∃(k:Nat) (i:Int),aK (uQ x (.fn (.func 32) [] []) l.length) ([.int .i64 0,.int .i64 (j:Int)],st)=some (k,[.int .i64 i],st)/\((k=0/\m.all Parse.bZ=true)\/(k=1/\0<=i/\m.all Parse.bZ=false))
 | [],j,hd=>by
  have:=Xz.1 hd;have q:¬ (j:Int) < (l.length:Int):=by omega
  refine ⟨0,0,aF ?_,.inl ⟨rfl,rfl⟩⟩;simp only [uQ,ad,af,ae,aq,if_neg q]
 | t::m,j,hd=>by
  obtain ⟨d,hr,o⟩:=drop_cons hd;have q:(j:Int) < (l.length:Int):=by omega
  have hlen:=DY hx hs;obtain ⟨a,b,s,y,f,e⟩:=va hx hs d;obtain ⟨a',b',s',u,y',es',ht,hv,hy,p⟩:=nF f;have c:=hg t (Xo d) _ f;have c1:(aV vE).bare 32 [.agg [.int .u8 (a:Int),.int .u8 (b:Int),.str s,y]]=some (.bool (!Parse.bZ t)):=by
   refine aX rfl ((PW _).trans ?_);have n:y=y':=by injection hv with hv;simpa using (List.cons.inj (List.cons.inj (List.cons.inj (List.cons.inj hv).2).2).2).1
   subst n;simp only [VF,aE,ad,af,ax,ae,hy.ab,hy.aD,xX f rfl c,ak]
  have c2: ∀{γ:Type} (st:St) (K:Kv γ),kK (aV vE) (Sx.prim (sx vE 67)) (.fn (.func 32) [] []) [.agg [.int .u8 (a:Int),.int .u8 (b:Int),.str s,y]] st K=K (.bool (!Parse.bZ t)) st q0:=fun st K=>(show _=bc (aV vE) 32 [_] st K from rfl).trans (xX f rfl c1 st K);have g:uQ x (.fn (.func 32) [] []) l.length ([.int .i64 0,.int .i64 (j:Int)],st)=aW (!Parse.bZ t) (some (.inr (1,[.int .i64 (j:Int)],st))) (some (.inl ([.int .i64 0,.int .i64 ((j+1:Nat):Int)],st))):=by
   simp only [uQ,ad,af,ae,aq,if_pos q];refine (e st _).trans ?_;simp only [c2,ak,aB,bm (show j+1<=9223372036854775807 by omega)]
  cases ht:Parse.bZ t with
  | false=>
   rw [ht] at g;exact ⟨1,j,aF g,.inr ⟨rfl,by omega,by simp [ht]⟩⟩
  | true=>
   rw [ht] at g;obtain ⟨k,i,r,h⟩:=AG hx hs hg st m (j+1) hr;refine ⟨k,i,by rw [aP g,r], ?_⟩;simpa [ht] using h
theorem Mk: ∀(t:T) (v:AV),iz t v->(aV vE).bare 14 [v]=some (.bool (Parse.bZ t)):=by
 refine T.ind fun k tk tx l ih v hv=> ?_;simp only [iz] at hv;obtain ⟨x,es,rfl,hx,hs⟩:=hv;have hc:(aV vE).bare 31 [x,.fn (.func 32) [] []]=some (.bool (!l.all Parse.bZ)):=by
  have hi: ∃i:Int,(aV vE).bare 67 [x,.fn (.func 32) [] []]=some (.int .i64 i)/\decide (i>=0)= !l.all Parse.bZ:=by
   obtain ⟨k,i,e,h⟩:=AG hx hs ih S0 l 0 rfl;have e:aK (uQ x (.fn (.func 32) [] []) l.length) ([.int .i64 0,.int .i64 0],S0)= _:=e;rcases h with ⟨rfl,h⟩ | ⟨rfl,h0,h⟩
   .refine ⟨-1,aX rfl ((J6 _ _).trans ?_),by rw [h];rfl⟩;simp only [UT,oz hx hs,e,aj,ad,af,ae,er]
   .refine ⟨i,aX rfl ((J6 _ _).trans ?_),by rw [h];simpa using h0⟩;simp only [UT,oz hx hs,e,aj,ad,af,ae,iC]
  obtain ⟨i,h1,h2⟩:=hi;refine aX rfl ((Q6 _ _).trans ?_);have c:=fun {β:Type} (st:St) (K:Kv β)=>aG (f:=67) st K rfl (by simp only [W8,Xm,hx.strip];rfl) (by simp only [bf,hx.bare];rfl) h1;simp only [V7,c,af,h2]
 have a:=fun {β:Type} (st:St) (K:Kv β)=>aG (f:=31) st K rfl (by simp only [W8,Xm,hx.strip];rfl) (by simp only [bf,hx.bare];rfl) hc;refine aX rfl ((RF _).trans ?_);have b:((k:Int) != 2)=(k != 2):=mA k 2;have d:((k:Int) != 3)=(k != 3):=mA k 3;have g:((k:Int) != 1)=(k != 1):=mA k 1;have j:((tk:Int) != 9)=(tk != 9):=mA tk 9;simp only [g14,aE,ad,af,ax,ae,hx.ab,hx.aD,g,b,d,j,Parse.bZ,zB];cases h2:k != 2 <;> simp only [ao,ai,aj,ad,ak,ae,X3,X8]
 cases h3:k != 3 <;> simp only [ao,ai,aj,ad,ak,ae,X3,X8]
 cases h1:k != 1 <;> simp only [ao,ai,aj,ad,ak,ae,XK,Yi,X8,a,Bool.not_not]
 cases m:tk != 9 <;> simp only [ao,ai,aj,ad,ak,ae,X3,X8,a,Bool.not_not]
end
end Go.Proofs.YtgecmbapkplklaaGreatDoor.Vm
namespace Go.Proofs.YtgecmbapkplklaaGreatDoor.Vm
open Go Go.VM Go.Proofs Go.Scope
mutual
def zJ:iV->AV->Prop
 | .mk k lit sp nm ps,v=> ∃x es,v= .agg [.int .u8 (k:Int),.int .u8 (lit:Int),.int .i64 sp.1,.int .i64 sp.2,.str nm,x]/\bp 6 x es/\cY ps es
def cY:List iV->List AV->Prop
 | [],es=>es=[]
 | p::ps,es=> ∃v vs,es=v::vs/\zJ p v/\cY ps vs
end
mutual
def vO:jG->AV->Prop
 | .mk k sp rc nm ps ls,v=> ∃x es y fs,v= .agg [.int .u8 (k:Int),.int .i64 sp.1,.int .i64 sp.2,.bool rc,.str nm,x,y]/\bp 6 x es/\cY ps es/\bp 7 y fs/\eO ls fs/\ps.length<=100000000
def eO:List jG->List AV->Prop
 | [],es=>es=[]
 | e::l,es=> ∃v vs,es=v::vs/\vO e v/\eO l vs
end
def Qm (d:Bd) (v:AV):Prop:= ∃x es be,v= .agg ([.int .i64 d.sp.1,.int .i64 d.sp.2,.bool d.rc,x]++be)/\bp 6 x es/\cY d.ps es/\vO d.body (.agg be)
def iq:List Bd->List AV->Prop
 | [],es=>es=[]
 | d::l,es=> ∃v vs,es=v::vs/\Qm d v/\iq l vs
section
variable {p:iV} {ps:List iV} {e:jG} {l:List jG} {es:List AV} {v:AV}
theorem cY.nil:cY [] []:=by simp only [cY]
theorem cY.cons {vs:List AV} (h:zJ p v) (k:cY ps vs):cY (p::ps) (v::vs):=by simp only [cY];exact ⟨v,vs,rfl,h,k⟩
theorem eO.nil:eO [] []:=by simp only [eO]
theorem eO.cons {vs:List AV} (h:vO e v) (k:eO l vs):eO (e::l) (v::vs):=by simp only [eO];exact ⟨v,vs,rfl,h,k⟩
theorem cY.len: ∀{ps:List iV} {es:List AV},cY ps es->es.length=ps.length
 | [],_,h=>by simp only [cY] at h;rw [h];rfl
 | p::ps,_,h=>by
  simp only [cY] at h;obtain ⟨v,vs,rfl,_,h⟩:=h;simp [cY.len h]
theorem eO.len: ∀{l:List jG} {es:List AV},eO l es->es.length=l.length
 | [],_,h=>by simp only [eO] at h;rw [h];rfl
 | e::l,_,h=>by
  simp only [eO] at h;obtain ⟨v,vs,rfl,_,h⟩:=h;simp [eO.len h]
theorem iq.len: ∀{l:List Bd} {es:List AV},iq l es->es.length=l.length
 | [],_,h=>by simp only [iq] at h;rw [h];rfl
 | e::l,_,h=>by
  simp only [iq] at h;obtain ⟨v,vs,rfl,_,h⟩:=h;simp [iq.len h]
theorem cY.drop: ∀{ps:List iV} {es:List AV} (i:Nat),cY ps es->cY (ps.drop i) (es.drop i)
 | ps,es,0,h=>by simpa using h
 | [],_,i+1,h=>by simp only [cY] at h;subst h;simp [cY]
 | p::ps,_,i+1,h=>by
  simp only [cY] at h;obtain ⟨v,vs,rfl,_,h⟩:=h;simpa using cY.drop i h
theorem eO.drop: ∀{l:List jG} {es:List AV} (i:Nat),eO l es->eO (l.drop i) (es.drop i)
 | l,es,0,h=>by simpa using h
 | [],_,i+1,h=>by simp only [eO] at h;subst h;simp [eO]
 | e::l,_,i+1,h=>by
  simp only [eO] at h;obtain ⟨v,vs,rfl,_,h⟩:=h;simpa using eO.drop i h
theorem iq.drop: ∀{l:List Bd} {es:List AV} (i:Nat),iq l es->iq (l.drop i) (es.drop i)
 | l,es,0,h=>by simpa using h
 | [],_,i+1,h=>by simp only [iq] at h;subst h;simp [iq]
 | e::l,_,i+1,h=>by
  simp only [iq] at h;obtain ⟨v,vs,rfl,_,h⟩:=h;simpa using iq.drop i h
theorem cY.get {r:List iV} {i:Nat} (h:cY ps es) (hd:ps.drop i=p::r): ∃v,es[i]? =some v/\zJ p v/\i < ps.length:=by
 have h1:=cY.drop i h;rw [hd] at h1;simp only [cY] at h1;obtain ⟨v,vs,he,hp,_⟩:=h1;exact ⟨v,(drop_cons he).1,hp,(drop_cons hd).2.2⟩
theorem eO.get {r:List jG} {i:Nat} (h:eO l es) (hd:l.drop i=e::r): ∃v,es[i]? =some v/\vO e v/\i < l.length:=by
 have h1:=eO.drop i h;rw [hd] at h1;simp only [eO] at h1;obtain ⟨v,vs,he,hp,_⟩:=h1;exact ⟨v,(drop_cons he).1,hp,(drop_cons hd).2.2⟩
theorem iq.get {l r:List Bd} {d:Bd} {i:Nat} (h:iq l es) (hd:l.drop i=d::r): ∃v,es[i]? =some v/\Qm d v/\i < l.length:=by
 have h1:=iq.drop i h;rw [hd] at h1;simp only [iq] at h1;obtain ⟨v,vs,he,hp,_⟩:=h1;exact ⟨v,(drop_cons he).1,hp,(drop_cons hd).2.2⟩
theorem zJ.UE {k lit:Nat} {sp:Sp} {nm:Tx} (h:zJ (.mk k lit sp nm ps) v): ∃x es,v= .agg [.int .u8 (k:Int),.int .u8 (lit:Int),.int .i64 sp.1,.int .i64 sp.2,.str nm,x]/\bp 6 x es/\cY ps es:=by
 simpa only [zJ] using h
theorem vO.UE {k:Nat} {sp:Sp} {rc:Bool} {nm:Tx} {ls:List jG} (h:vO (.mk k sp rc nm ps ls) v): ∃x es y fs,v= .agg [.int .u8 (k:Int),.int .i64 sp.1,.int .i64 sp.2,.bool rc,.str nm,x,y]/\bp 6 x es/\cY ps es/\bp 7 y fs/\eO ls fs:=by
 simp only [vO] at h;obtain ⟨x,es,y,fs,h0,h1,h2,h3,h4,_⟩:=h;exact ⟨x,es,y,fs,h0,h1,h2,h3,h4⟩
theorem vO.WJ {k:Nat} {sp:Sp} {rc:Bool} {nm:Tx} {ls:List jG} (h:vO (.mk k sp rc nm ps ls) v):ps.length<=100000000:=by
 simp only [vO] at h;obtain ⟨x,es,y,fs,_,_,_,_,_,a⟩:=h;exact a
end
def Lp {σ β:Type} (I:σ->Prop) (Q:β->Prop):Sum σ β->Prop
 | .inl s=>I s
 | .inr b=>Q b
theorem aa.inl {σ β:Type} {I:σ->Prop} {Q:β->Prop} {s:σ} (h:I s):aa (some (Sum.inl s:Sum σ β)) (Lp I Q):=⟨_,rfl,h⟩
theorem aa.inr {σ β:Type} {I:σ->Prop} {Q:β->Prop} {b:β} (h:Q b):aa (some (Sum.inr b:Sum σ β)) (Lp I Q):=⟨_,rfl,h⟩
theorem aa.upto {σ β:Type} {Q:β->Prop} {F:σ->Option (Sum σ β)} {n:Nat} {I:Nat->σ->Prop} (step: ∀i s,i < n->I i s->aa (F s) (Lp (I (i+1)) Q))
  (last: ∀s,I n s->aa (F s) (Lp (fun _=>False) Q)): ∀(k i:Nat) (s:σ),i+k=n->I i s->aa (aK F s) Q:=by
 intro k
 induction k with
 | zero=>
  intro i s hi h;obtain ⟨r,e,hr⟩:=last s (by rw [<- show i=n by omega];exact h);cases r with
  | inl s'=>exact hr.elim
  | inr b=>exact ⟨b,aF e,hr⟩
 | succ k ih=>
  intro i s hi h;obtain ⟨r,e,hr⟩:=step i s (by omega) h;cases r with
  | inl s'=>rw [aP e];exact ih (i+1) s' (by omega) hr
  | inr b=>exact ⟨b,aF e,hr⟩
@[simp] theorem ck (i o:Nat):notNil (.mp i o)=true:=id rfl
def VQ (z:Nat) (x:AV) (es:List AV):Prop:=bp z x es\/(es.length<=9223372036854775807/\ ∃k,x= .sl z es (.own k))
section
variable {β:Type} {z:Nat} {x:AV} {es:List AV}
theorem VQ.len (h:VQ z x es) (K:Nat->Option β):fc x K=K es.length:=by
 rcases h with h | ⟨_,k,rfl⟩
 .exact h.len K
 .rfl
end
section
variable {p q:Nat->Prop} {a b c:St}
end
structure Qq (st:St) (x:Fx):Prop where
 l0:apart ⟨[],.kept⟩ x=true
 r0:apart x ⟨[],.kept⟩=true
 l: ∀i t cs,st.get i= .ok (.cells t cs)->apart ⟨[i],.kept⟩ x=true
 r: ∀i t cs,st.get i= .ok (.cells t cs)->apart x ⟨[i],.kept⟩=true
end Go.Proofs.YtgecmbapkplklaaGreatDoor.Vm
namespace Go.Proofs.YtgecmbapkplklaaGreatDoor.Vm
open Go Go.VM Go.Proofs
noncomputable def g3:AV->AV->Option AV:=fun n o=>dW n fun d=>bk .u8 o fun p=>az (aW (decide ((↑(List.length d):Int) > 2000)) (some ([.bool true],sZ)) (aT 4 [] sZ fun q r _x=>bJ q fun s=>some ([.bool !s],r))) fun e=>bj e.1 fun t u=>bJ t fun v=>bC u (aW v (aT 4 [] e.2 fun w _x _x_1=>bJ w fun y=>some (.bool y)) (aT 5 [.str d] e.2 fun g a _x=>gx g fun z=>cE z 0 fun a0=>ah a0 fun x a2 a3 i=>(gx g fun a4=>cE a4 1 fun a5=>bk .i64 a5 fun A=>bh (St.add a (VM.Obj.cells 27 (nC 0 0 [] .ay))) fun B=>ab i (dj 4 (.mp (St.h a) 0) (nC x a2 a3 i) B fun _x f _x_1=>az (aW (A != 0) (some ([.bool true],f)) (al 4 true (.mp (St.h a) 0) f fun C _x=>ah C fun a9 b0 b1 b2=>(aT 6 [nA a9 b0 b1 b2] f fun b3 D _x=>bJ b3 fun E=>some ([.bool !E],D)))) fun b=>bj b.1 fun F G=>bJ F fun H=>bC G (aW H (some (.bool true)) (aN (Int.tmod p 4) fun I=>bU 1 (.sl 1 [.str [32],.str [10],.str [9,32,13,10],.str [32,32,32,32]] .shut) I b.2 fun c0 _x=>al 1 false c0 b.2 fun c1 _x=>dW c1 fun c2=>aT 7 [.str d] b.2 fun j k _x=>gx j fun c3=>cE c3 0 fun c4=>gx j fun c5=>cE c5 1 fun J=>bk .i64 J fun K=>al 4 true (.mp (St.h a) 0) k fun L _x=>ah L fun c9 d0 d1 d2=>(aT 8 [nA c9 d0 d1 d2,.str c2] k fun d3 d4 _x=>dW d3 fun d5=>aT 7 [.str d5] d4 fun l c _x=>gx l fun d6=>cE d6 0 fun d7=>gx l fun d8=>cE d8 1 fun d9=>bk .i64 d9 fun m=>az (aW (m==40) (some ([.bool true],c)) (aW (K==0) (aW (m==0) (aT 9 [c4,d7,.bool false] c fun M N _x=>bJ M fun O=>some ([.bool O],N)) (some ([.bool false],c))) (some ([.bool false],c)))) fun P=>bj P.1 fun Q R=>bJ Q fun S=>bC R (some (.bool S)))))))))
theorem SR (x0 x1:AV):bN vE 3 [x0,x1]=g3 x0 x1:=by kernel_rfl
noncomputable def G4 (z:AV) (a0:Nat):bT->Option (bT ⊕ Nat×bT):=fun a=>bj a.1 fun d x=>bj x fun a2 a3=>bk .i64 a2 fun e=>bC a3 (aW (decide (e < (↑a0:Int))) (bU 5 z e a.2 fun a4 _x=>al 5 true a4 a.2 fun a5 _x=>cG a5 fun k l m f n=>(bh (St.add a.2 (VM.Obj.cells 56 [.int .u8 0,.int .u8 0,.str [],.ay,.int .i64 0])) fun A=>ab f (aM (aV vE) 5 (.mp (St.h a.2) 0) (.agg [.int .u8 k,.int .u8 l,.str m,f,.int .i64 n]) [.int .u8 k,.int .u8 l,.str m,f,.int .i64 n] A fun _x b _x_1=>al 1 false (.mp (St.h a.2) 0) b fun B _x=>bk .u8 B fun C=>az (aW (C==5) (al 5 true (.mp (St.h a.2) 0) b fun a9 _x=>cG a9 fun b0 b1 b2 b3 D=>(aT 15 [.agg [.int .u8 b0,.int .u8 b1,.str b2,b3,.int .i64 D]] b fun E F _x=>aT 16 [E] F fun G c _x=>gY G fun H I c0 o c1 c2 c3 c4 c5 p q=>(bh (St.add c (VM.Obj.cells 46 [.int .i64 0,.int .i64 0,.bool false,.ay,.int .u8 0,.int .i64 0,.int .i64 0,.bool false,.str [],.ay,.ay])) fun J=>ab o (ab p (ab q (dj 11 (.mp (St.h c) 0) [.int .i64 H,.int .i64 I,.bool c0,o,.int .u8 c1,.int .i64 c2,.int .i64 c3,.bool c4,.str c5,p,q] J fun _x r _x_2=>al 5 true (.mp (St.h a.2) 0) r fun K _x=>cG K fun L c9 d0 d1 d2=>(aT 17 [.agg [.int .u8 L,.int .u8 c9,.str d0,d1,.int .i64 d2]] r fun s d3 _x=>gx s fun d4=>cE d4 0 fun d5=>xG d5 fun d6 d7=>(gx s fun d8=>cE d8 1 fun d9=>bJ d9 fun _x=>dj 2 (.mp (St.h c) 0) [.int .i64 d6,.int .i64 d7] d3 fun _x t _x_3=>al 11 true (.mp (St.h c) 0) t fun M _x=>gY M fun N O P g Q R S T U i j=>(ab g (ab i (ab j (ab g (ab i (ab j (aD g fun u=>aD i fun v=>aD j fun w=>ab u (ab v (ab w (aD u fun V=>aD v fun f0=>aD w fun f1=>cT 11 144 46 d [.agg [.int .i64 N,.int .i64 O,.bool P,V,.int .u8 Q,.int .i64 R,.int .i64 S,.bool T,.str U,f0,f1]] t fun f2 f3 _x=>some ([f2],f3))))))))))))))))))) (some ([d],b))) fun y=>bj y.1 fun f4 f5=>bC f5 (aN (IntKind.wrap .i64 (e+1)) fun f6=>some (Sum.inl ([f4,.int .i64 f6],Prod.snd y)))))) (some (Sum.inr (0,[d],Prod.snd a))))
noncomputable def g7:AV->Option AV:=fun j=>dW j fun k=>aT 13 [.str k] sZ fun b a _x=>gx b fun l=>cE l 0 fun m=>ah m fun n o p c=>(gx b fun q=>cE q 1 fun r=>bk .i64 r fun d=>bh (St.add a (VM.Obj.cells 27 (nC 0 0 [] .ay))) fun s=>ab c (dj 4 (.mp (St.h a) 0) (nC n o p c) s fun _x e _x_1=>aW (d != 0) (some (.tup [.ay,.int .i64 d])) (al 4 true (.mp (St.h a) 0) e fun t _x=>ah t fun u v w y=>(aT 14 [nA u v w y] e fun z f _x=>bJ z fun a0=>aW (!a0) (some (.tup [.ay,.int .i64 50])) (al 4 true (.mp (St.h a) 0) f fun x _x=>ah x fun a2 a3 a4 a5=>(aT 15 [.agg [.int .u8 a2,.int .u8 a3,.str a4,a5,.int .i64 0]] f fun g A _x=>fc g fun B=>az (aK (G4 g B) ([.ay,.int .i64 0],A)) fun i=>bj i.2.1 fun C a9=>bC a9 (gR i.2.2 0 (.tup [C,.int .i64 0]) fun b0=>some b0)))))))
theorem TG (x0:AV):bN vE 7 [x0]=g7 x0:=by kernel_rfl
noncomputable def KU (c:AV) (d:AV) (g:Bool):bT->Option (bT ⊕ Nat×bT):=fun a=>bj a.1 fun j k=>bJ j fun i=>bj k fun l m=>bk .i64 l fun b=>bC m (fc c fun n=>aW (decide (b < (↑n:Int))) (az (bU 11 c b a.2 fun o _x=>bF 2 o fun p=>al 1 false p a.2 fun q _x=>bJ q fun r=>bU 11 d b a.2 fun s _x=>bF 2 s fun t=>al 1 false t a.2 fun u _x=>bJ u fun v=>aW (!r==v) (some ([.bool true],Prod.snd a)) (aW g (bU 11 c b a.2 fun w _x=>bF 0 w fun y=>al 2 true y a.2 fun z _x=>xG z fun a0 x=>(bU 11 d b a.2 fun a2 _x=>bF 0 a2 fun a3=>al 2 true a3 a.2 fun a4 _x=>xG a4 fun a5 A=>(az (JJ (VM.binOp (Env.T vE) BinOp.neq 40 (.agg [.int .i64 a0,.int .i64 x]) (.agg [.int .i64 a5,.int .i64 A]))) fun B=>bJ B fun C=>aW C (some ([.bool true],Prod.snd a)) (bU 11 c b a.2 fun a9 _x=>bF 3 a9 fun b0=>al 1 false b0 a.2 fun b1 _x=>bU 11 d b a.2 fun b2 _x=>bF 3 b2 fun b3=>al 1 false b3 a.2 fun D _x=>aT 18 [b1,D,.bool g] a.2 fun E e _x=>bJ E fun F=>aW (!F) (some ([.bool true],e)) (bU 11 c b e fun G _x=>bF 4 G fun H=>al 7 true H e fun I _x=>cS I fun c0 c1 c2 c3 c4 c5 J=>(bU 11 d b e fun K _x=>bF 4 K fun L=>al 7 true L e fun c9 _x=>cS c9 fun d0 d1 d2 d3 d4 d5 d6=>(aT 19 [.agg [.int .u8 c0,.int .i64 c1,.int .i64 c2,.bool c3,.str c4,c5,J],.agg [.int .u8 d0,.int .i64 d1,.int .i64 d2,.bool d3,.str d4,d5,d6],.bool g] e fun d7 d8 _x=>bJ d7 fun d9=>some ([.bool !d9],d8)))))))) (bU 11 c b a.2 fun M _x=>bF 3 M fun N=>al 1 false N a.2 fun O _x=>bU 11 d b a.2 fun P _x=>bF 3 P fun Q=>al 1 false Q a.2 fun R _x=>aT 18 [O,R,.bool g] a.2 fun S f _x=>bJ S fun U=>aW (!U) (some ([.bool true],f)) (bU 11 c b f fun V _x=>bF 4 V fun W=>al 7 true W f fun f0 _x=>cS f0 fun f1 f2 f3 f4 f5 f6 f7=>(bU 11 d b f fun f8 _x=>bF 4 f8 fun f9=>al 7 true f9 f fun h0 _x=>cS h0 fun h1 h2 h3 h4 X Y Z=>(aT 19 [.agg [.int .u8 f1,.int .i64 f2,.int .i64 f3,.bool f4,.str f5,f6,f7],.agg [.int .u8 h1,.int .i64 h2,.int .i64 h3,.bool h4,.str X,Y,Z],.bool g] f fun h8 h9 _x=>bJ h8 fun i0=>some ([.bool !i0],h9))))))) fun h=>bj h.1 fun i1 i2=>bJ i1 fun i3=>bC i2 (aW i3 (some (Sum.inr (1,[.bool false],Prod.snd h))) (aN (IntKind.wrap .i64 (b+1)) fun i4=>some (Sum.inl ([.bool i,.int .i64 i4],Prod.snd h))))) (some (Sum.inr (0,[.bool i],Prod.snd a))))
noncomputable def g9:AV->AV->AV->Option AV:=fun a b d=>bJ d fun e=>fc a fun f=>fc b fun g=>aW ((↑f:Int) != (↑g:Int)) (some (.bool false)) (az (aK (KU a b e) ([.bool false,.int .i64 0],sZ)) fun c=>bj c.2.1 fun h i=>bJ h fun j=>bC i (lC c.1 (some (.bool true)) fun _x=>some (.bool j)))
theorem Ts (x0 x1 a:AV):bN vE 9 [x0,x1,a]=g9 x0 x1 a:=by kernel_rfl
noncomputable def GS (n:AV) (o:Nat):bT->Option (bT ⊕ Nat×bT):=fun a=>bj a.1 fun e p=>bj p fun q r=>bk .i64 q fun f=>bj r fun s t=>bk .i64 s fun b=>bC t (aW (decide (b < (↑o:Int))) (bU 4 n b a.2 fun u _x=>al 4 true u a.2 fun v _x=>ah v fun g i j c=>(bh (St.add a.2 (VM.Obj.cells 27 (nC 0 0 [] .ay))) fun w=>ab c (aM (aV vE) 4 (.mp (St.h a.2) 0) (nA g i j c) (nC g i j c) w fun _x k _x_1=>al 4 true (.mp (St.h a.2) 0) k fun y _x=>ah y fun z a0 x d=>(ab d (ab d (aD d fun l=>ab l (aD l fun a2=>cT 5 64 56 e [.agg [.int .u8 z,.int .u8 a0,.str x,a2,.int .i64 f]] k fun a3 m _x=>al 4 true (.mp (St.h a.2) 0) m fun a4 _x=>ah a4 fun a5 A B C=>(aT 33 [nA a5 A B C] m fun a9 b0 _x=>bk .i64 a9 fun b1=>aN (IntKind.wrap .i64 (f+b1)) fun b2=>aN (IntKind.wrap .i64 (b+1)) fun b3=>some (Sum.inl ([a3,.int .i64 b2,.int .i64 b3],b0)))))))))) (some (Sum.inr (0,[e],Prod.snd a))))
noncomputable def g15:AV->Option AV:=fun d=>cG d fun _x _x _x a e=>(ab a (aD a fun b=>fc b fun f=>az (aK (GS b f) ([.ay,.int .i64 e,.int .i64 0],sZ)) fun c=>bj c.2.1 fun g h=>bC h (gR c.2.2 0 (oneOf [g]) fun i=>some i)))
theorem Rw (x0:AV):bN vE 15 [x0]=g15 x0:=by kernel_rfl
noncomputable def g16:AV->Option AV:=fun r=>gi 5 r (some 1) none none fun c=>az (bU 5 c 0 (St.mk 2 0 (Tr.node (some (VM.Obj.cells 46 [.int .i64 0,.int .i64 0,.bool false,.ay,.int .u8 0,.int .i64 0,.int .i64 0,.bool false,.str [],.ay,.ay])) (Tr.node (some (VM.Obj.cells 46 [.int .i64 0,.int .i64 0,.bool false,.ay,.int .u8 0,.int .i64 0,.int .i64 0,.bool false,.str [],.ay,.ay])) Tr.leaf Tr.leaf) Tr.leaf)) fun s _x=>bF 0 s fun t=>bF 1 t fun u=>bF 0 u fun v=>al 1 false v (St.mk 2 0 (Tr.node (some (VM.Obj.cells 46 [.int .i64 0,.int .i64 0,.bool false,.ay,.int .u8 0,.int .i64 0,.int .i64 0,.bool false,.str [],.ay,.ay])) (Tr.node (some (VM.Obj.cells 46 [.int .i64 0,.int .i64 0,.bool false,.ay,.int .u8 0,.int .i64 0,.int .i64 0,.bool false,.str [],.ay,.ay])) Tr.leaf Tr.leaf) Tr.leaf)) fun w _x=>bk .u8 w fun y=>aW (y==3) (bU 5 c 0 (St.mk 2 0 (Tr.node (some (VM.Obj.cells 46 [.int .i64 0,.int .i64 0,.bool false,.ay,.int .u8 0,.int .i64 0,.int .i64 0,.bool false,.str [],.ay,.ay])) (Tr.node (some (VM.Obj.cells 46 [.int .i64 0,.int .i64 0,.bool false,.ay,.int .u8 0,.int .i64 0,.int .i64 0,.bool false,.str [],.ay,.ay])) Tr.leaf Tr.leaf) Tr.leaf)) fun z _x=>bF 0 z fun a0=>bF 1 a0 fun x=>bF 1 x fun a2=>al 1 false a2 (St.mk 2 0 (Tr.node (some (VM.Obj.cells 46 [.int .i64 0,.int .i64 0,.bool false,.ay,.int .u8 0,.int .i64 0,.int .i64 0,.bool false,.str [],.ay,.ay])) (Tr.node (some (VM.Obj.cells 46 [.int .i64 0,.int .i64 0,.bool false,.ay,.int .u8 0,.int .i64 0,.int .i64 0,.bool false,.str [],.ay,.ay])) Tr.leaf Tr.leaf) Tr.leaf)) fun a3 _x=>dW a3 fun a4=>some ([.bool (a4==[114,101,99])],St.mk 2 0 (Tr.node (some (VM.Obj.cells 46 [.int .i64 0,.int .i64 0,.bool false,.ay,.int .u8 0,.int .i64 0,.int .i64 0,.bool false,.str [],.ay,.ay])) (Tr.node (some (VM.Obj.cells 46 [.int .i64 0,.int .i64 0,.bool false,.ay,.int .u8 0,.int .i64 0,.int .i64 0,.bool false,.str [],.ay,.ay])) Tr.leaf Tr.leaf) Tr.leaf))) (some ([.bool false],St.mk 2 0 (Tr.node (some (VM.Obj.cells 46 [.int .i64 0,.int .i64 0,.bool false,.ay,.int .u8 0,.int .i64 0,.int .i64 0,.bool false,.str [],.ay,.ay])) (Tr.node (some (VM.Obj.cells 46 [.int .i64 0,.int .i64 0,.bool false,.ay,.int .u8 0,.int .i64 0,.int .i64 0,.bool false,.str [],.ay,.ay])) Tr.leaf Tr.leaf) Tr.leaf)))) fun d=>bj d.1 fun a5 A=>bJ a5 fun B=>bC A (az (aW B (aM (aV vE) 1 (.mp 1 2) (.bool true) [.bool true] d.2 fun _x C _x_1=>gi 5 c (some 1) none none fun a9=>some ([a9],C)) (some ([c],Prod.snd d))) fun i=>bj i.1 fun e b0=>bC b0 (fc e fun j=>aN (IntKind.wrap .i64 ((↑j:Int) - 2)) fun b1=>gi 5 e none (some b1) none fun b2=>aT 34 [b2] i.2 fun f g b=>bM (apart b (⟨[],.kept⟩)&&true) (bM (apart b (⟨[],.kept⟩)&&true) (aN (IntKind.wrap .i64 ((↑j:Int) - 1)) fun b3=>bM (apart b (⟨[],.kept⟩)&&true) (bU 5 e b3 g fun D E=>bM (apart b (Fx.mk E dO.kept)&&true) (al 5 true D g fun F G=>cG F fun H I c0 c1 c2=>(bM (apart b (Fx.mk G dO.kept)&&true) (aT 35 [.agg [.int .u8 H,.int .u8 I,.str c0,c1,.int .i64 c2]] g fun c3 c4 c5=>cS c3 fun J K L c9 d0 k l=>(bM (apart c5 (⟨[],.kept⟩)&&true) (ab f (ab f (iU (.mp 1 3) f c4 fun _x d1 _x_1=>ab k (ab l (dj 7 (.mp 1 4) [.int .u8 J,.int .i64 K,.int .i64 L,.bool c9,.str d0,k,l] d1 fun _x a _x_2=>az (al 1 false (.mp 1 2) a fun d2 _x=>bJ d2 fun d3=>aW d3 (al 1 false (.mp 1 3) a fun d4 _x=>bU 6 d4 0 a fun d5 _x=>bF 0 d5 fun d6=>al 1 false d6 a fun d7 _x=>bk .u8 d7 fun m=>aM (aV vE) 1 (.mp 1 2) (.bool (m==15)) [.bool (m==15)] a fun _x d8 _x_3=>some ([],d8)) (aM (aV vE) 1 (.mp 1 2) (.bool false) [.bool false] a fun _x d9 _x_3=>some ([],d9))) fun h=>bC h.1 (al 11 true (.mp 1 0) h.2 fun M _x=>gY M fun N O P n Q R S T U o p=>(ab n (ab o (ab p (dj 11 (.mp 0 0) [.int .i64 N,.int .i64 O,.bool P,n,.int .u8 Q,.int .i64 R,.int .i64 S,.bool T,.str U,o,p] h.2 fun _x q _x_3=>al 11 true (.mp 0 0) q fun V _x=>gY V fun f0 f1 f2 f3 f4 f5 f6 f7 f8 f9 h0=>(gR q 0 (.agg [.int .i64 f0,.int .i64 f1,.bool f2,f3,.int .u8 f4,.int .i64 f5,.int .i64 f6,.bool f7,.str f8,f9,h0]) fun h1=>some h1))))))))))))))))))))
theorem Qh (x0:AV):bN vE 16 [x0]=g16 x0:=by kernel_rfl
noncomputable def g17:AV->Option AV:=fun c=>cG c fun d e f b g=>(ab b (aD b fun h=>aT 36 [nA d e f h,.mp 4 0,.mp 2 0,.mp 3 0,.mp 1 0] (St.mk 5 0 (Tr.node (some (VM.Obj.cells 40 [.int .i64 0,.int .i64 0])) (Tr.node (some (VM.Obj.cells 40 [.int .i64 0,.int .i64 0])) (Tr.node (some (VM.Obj.cells 3 [.int .i64 g])) Tr.leaf Tr.leaf) Tr.leaf) (Tr.node (some (VM.Obj.cells 4 [.bool false])) (Tr.node (some (VM.Obj.cells 82 [.fn (Fn.func 36) [] [.mp 4 0,.mp 2 0,.mp 3 0,.mp 1 0]])) Tr.leaf Tr.leaf) Tr.leaf))) fun _x a _x_1=>al 2 true (.mp 1 0) a fun i _x=>xG i fun j k=>(al 1 false (.mp 2 0) a fun l m=>bJ l fun n=>dj 2 (.mp 0 0) [.int .i64 j,.int .i64 k] a fun _x o p=>bM (apart (Fx.mk m dO.kept) p&&true) (al 2 true (.mp 0 0) o fun q _x=>xG q fun r s=>(some (.tup [.agg [.int .i64 r,.int .i64 s],.bool n]))))))
theorem Ro (x0:AV):bN vE 17 [x0]=g17 x0:=by kernel_rfl
noncomputable def Gf (c:AV) (f:AV) (g:Bool):bT->Option (bT ⊕ Nat×bT):=fun a=>bj a.1 fun h i=>bJ h fun d=>bj i fun j k=>bk .i64 j fun b=>bC k (fc c fun l=>aW (decide (b < (↑l:Int))) (bU 6 c b a.2 fun m _x=>al 6 true m a.2 fun n _x=>fD n fun o p q r s t=>(bU 6 f b a.2 fun u _x=>al 6 true u a.2 fun v _x=>fD v fun w y z a0 x a2=>(aT 38 [.agg [.int .u8 o,.int .u8 p,.int .i64 q,.int .i64 r,.str s,t],.agg [.int .u8 w,.int .u8 y,.int .i64 z,.int .i64 a0,.str x,a2],.bool g] a.2 fun a3 e _x=>bJ a3 fun a4=>aW (!a4) (some (Sum.inr (1,[.bool false],e))) (aN (IntKind.wrap .i64 (b+1)) fun a5=>some (Sum.inl ([.bool d,.int .i64 a5],e)))))) (some (Sum.inr (0,[.bool d],Prod.snd a))))
noncomputable def g18:AV->AV->AV->Option AV:=fun a b d=>bJ d fun e=>fc a fun f=>fc b fun g=>aW ((↑f:Int) != (↑g:Int)) (some (.bool false)) (az (aK (Gf a b e) ([.bool false,.int .i64 0],sZ)) fun c=>bj c.2.1 fun h i=>bJ h fun j=>bC i (lC c.1 (some (.bool true)) fun _x=>some (.bool j)))
theorem Rt (x0 x1 a:AV):bN vE 18 [x0,x1,a]=g18 x0 x1 a:=by kernel_rfl
noncomputable def Fj (f:Bool) (c:AV) (g:AV):bT->Option (bT ⊕ Nat×bT):=fun a=>bj a.1 fun h i=>bJ h fun d=>bj i fun j k=>bk .i64 j fun b=>bC k (fc c fun l=>aW (decide (b < (↑l:Int))) (bU 7 c b a.2 fun m _x=>al 7 true m a.2 fun n _x=>cS n fun o p q r s t u=>(bU 7 g b a.2 fun v _x=>al 7 true v a.2 fun w _x=>cS w fun y z a0 x a2 a3 a4=>(aT 19 [.agg [.int .u8 o,.int .i64 p,.int .i64 q,.bool r,.str s,t,u],.agg [.int .u8 y,.int .i64 z,.int .i64 a0,.bool x,.str a2,a3,a4],.bool f] a.2 fun a5 e _x=>bJ a5 fun A=>aW (!A) (some (Sum.inr (1,[.bool false],e))) (aN (IntKind.wrap .i64 (b+1)) fun B=>some (Sum.inl ([.bool d,.int .i64 B],e)))))) (some (Sum.inr (0,[.bool d],Prod.snd a))))
noncomputable def g19:AV->AV->AV->Option AV:=fun l m n=>cS l fun o p q r s b c=>(cS m fun t u v w y d e=>(bJ n fun a=>ab b (ab c (aD b fun f=>aD c fun g=>ab d (ab e (aD d fun h=>aD e fun i=>az (aW (o != t) (some ([.bool true],sZ)) (aW (!r==w) (some ([.bool true],sZ)) (aW (!s==y) (some ([.bool true],sZ)) (fc g fun z=>fc i fun a0=>aW ((↑z:Int) != (↑a0:Int)) (some ([.bool true],sZ)) (aW a (az (JJ (VM.binOp (Env.T vE) BinOp.neq 40 (.agg [.int .i64 p,.int .i64 q]) (.agg [.int .i64 u,.int .i64 v]))) fun x=>bJ x fun a2=>aW a2 (some ([.bool true],sZ)) (aT 18 [f,h,.bool a] sZ fun a3 a4 _x=>bJ a3 fun a5=>some ([.bool !a5],a4))) (aT 18 [f,h,.bool a] sZ fun A B _x=>bJ A fun C=>some ([.bool !C],B))))))) fun j=>bj j.1 fun a9 b0=>bJ a9 fun b1=>bC b0 (aW b1 (some (.bool false)) (az (aK (Fj a g i) ([.bool false,.int .i64 0],Prod.snd j)) fun k=>bj k.2.1 fun b2 b3=>bJ b2 fun D=>bC b3 (lC k.1 (some (.bool true)) fun _x=>some (.bool D))))))))))
theorem O6 (x0 x1 a:AV):bN vE 19 [x0,x1,a]=g19 x0 x1 a:=by kernel_rfl
noncomputable def BF (j:AV) (k:Nat):bT->Option (bT ⊕ Nat×bT):=fun a=>bj a.1 fun l m=>bk .i64 l fun d=>bj m fun n o=>bk .i64 n fun b=>bC o (aW (decide (b < (↑k:Int))) (bU 4 j b a.2 fun p _x=>al 4 true p a.2 fun q _x=>ah q fun e f g c=>(bh (St.add a.2 (VM.Obj.cells 27 (nC 0 0 [] .ay))) fun r=>ab c (aM (aV vE) 4 (.mp (St.h a.2) 0) (nA e f g c) (nC e f g c) r fun _x i _x_1=>al 4 true (.mp (St.h a.2) 0) i fun s _x=>ah s fun t u v w=>(aT 33 [nA t u v w] i fun y z _x=>bk .i64 y fun a0=>aN (IntKind.wrap .i64 (d+a0)) fun x=>aN (IntKind.wrap .i64 (b+1)) fun a2=>some (Sum.inl ([.int .i64 x,.int .i64 a2],z)))))) (some (Sum.inr (0,[.int .i64 d],Prod.snd a))))
noncomputable def Vt:AV->Option AV:=fun e=>ah e fun f _x g b=>(ab b (aD b fun c=>fc c fun h=>az (aK (BF c h) ([.int .i64 0,.int .i64 0],sZ)) fun a=>bj a.2.1 fun i j=>bk .i64 i fun d=>bC j (az (aW (f==1) (aN (IntKind.wrap .i64 (d+(↑(List.length g):Int))) fun k=>some ([.int .i64 k],Prod.snd a.2)) (some ([.int .i64 d],Prod.snd a.2))) fun l=>bj l.1 fun m n=>bk .i64 m fun o=>bC n (some (.int .i64 o)))))
theorem P5 (x0:AV):bN vE 33 [x0]=Vt x0:=by kernel_rfl
noncomputable def Ge (m:AV) (n:Nat):bT->Option (bT ⊕ Nat×bT):=fun a=>bj a.1 fun e o=>bj o fun p q=>bk .i64 p fun b=>bC q (aW (decide (b < (↑n:Int))) (bU 5 m b a.2 fun r _x=>al 5 true r a.2 fun s _x=>cG s fun f g i c j=>(bh (St.add a.2 (VM.Obj.cells 56 [.int .u8 0,.int .u8 0,.str [],.ay,.int .i64 0])) fun t=>ab c (aM (aV vE) 5 (.mp (St.h a.2) 0) (.agg [.int .u8 f,.int .u8 g,.str i,c,.int .i64 j]) [.int .u8 f,.int .u8 g,.str i,c,.int .i64 j] t fun _x k _x_1=>al 5 true (.mp (St.h a.2) 0) k fun u _x=>cG u fun v w y z a0=>(aT 68 [.agg [.int .u8 v,.int .u8 w,.str y,z,.int .i64 a0]] k fun x a2 _x=>fD x fun a3 a4 a5 A B d=>(ab d (ab d (aD d fun l=>ab l (aD l fun C=>cT 6 64 48 e [.agg [.int .u8 a3,.int .u8 a4,.int .i64 a5,.int .i64 A,.str B,C]] a2 fun a9 b0 _x=>aN (IntKind.wrap .i64 (b+1)) fun b1=>some (Sum.inl ([a9,.int .i64 b1],b0)))))))))) (some (Sum.inr (0,[e],Prod.snd a))))
noncomputable def V3:AV->St->Option (AV×St):=fun a st=>fc a fun c=>az (aK (Ge a c) ([.ay,.int .i64 0],st)) fun b=>bj b.2.1 fun d e=>bC e (some (oneOf [d],Prod.snd b.2))
theorem Ql (x0:AV) (st:St):cA vE 34 [x0] st=V3 x0 st:=by kernel_rfl
noncomputable def UM:AV->Option AV:=fun x0=>cG x0 fun b e f h i=>(ab h (aD h fun j=>aT 17 [.agg [.int .u8 b,.int .u8 e,.str f,j,.int .i64 i]] (St.mk 2 0 (Tr.node (some (VM.Obj.cells 44 [.int .u8 0,.int .i64 0,.int .i64 0,.bool false,.str [],.ay,.ay])) (Tr.node (some (VM.Obj.cells 44 [.int .u8 0,.int .i64 0,.int .i64 0,.bool false,.str [],.ay,.ay])) Tr.leaf Tr.leaf) Tr.leaf)) fun k x _x=>gx k fun a2=>cE a2 0 fun a3=>xG a3 fun a4 a5=>(gx k fun A=>cE A 1 fun B=>bJ B fun _x=>dj 2 (.mp 1 1) [.int .i64 a4,.int .i64 a5] x fun _x l _x_1=>aW (b==1) (aT 69 [.agg [.int .u8 e,.str f]] l fun m C _x=>gx m fun a9=>cE a9 0 fun b0=>bk .u8 b0 fun n=>gx m fun b1=>cE b1 1 fun b2=>dW b2 fun o=>aM (aV vE) 1 (.mp 1 0) (.int .u8 n) [.int .u8 n] C fun _x b3 _x_2=>aM (aV vE) 1 (.mp 1 4) (.str o) [.str o] b3 fun _x p _x_3=>al 7 true (.mp 1 0) p fun D _x=>cS D fun E F G H I q r=>(ab q (ab r (dj 7 (.mp 0 0) [.int .u8 E,.int .i64 F,.int .i64 G,.bool H,.str I,q,r] p fun _x s _x_4=>al 7 true (.mp 0 0) s fun c0 _x=>cS c0 fun c1 c2 c3 c4 c5 J K=>(gR s 0 (.agg [.int .u8 c1,.int .i64 c2,.int .i64 c3,.bool c4,.str c5,J,K]) fun L=>some L))))) (aT 70 [] l fun c9 d0 c=>bM (apart c (⟨[],.kept⟩)&&true) (bM (apart c (⟨[],.kept⟩)&&true) (bM (apart c (⟨[],.kept⟩)&&true) (dK (aV vE) (js (Env.T vE) 105 c9 (.int .u8 b) false) d0 fun d1 d2 t=>bM (apart t (⟨[],.kept⟩)&&(apart c (⟨[],.kept⟩)&&true)) (aT 15 [.agg [.int .u8 b,.int .u8 e,.str f,j,.int .i64 i]] d2 fun d3 d4 d=>bM (apart t d&&(apart (⟨[],.kept⟩) d&&(apart (⟨[],.kept⟩) d&&(apart (⟨[],.kept⟩) d&&true)))) (kK (aV vE) (Sx.prim (sx vE 35)) d1 [.mp 1 0,d3] d4 fun _x g _x_2=>az (aW (b==14) (al 1 false (.mp 1 6) g fun d5 _x=>fc d5 fun d6=>some ([.bool ((↑d6:Int)==1)],g)) (some ([.bool false],g))) fun a=>bj a.1 fun d7 d8=>bJ d7 fun d9=>bC d8 (aW d9 (al 1 false (.mp 1 6) a.2 fun M _x=>bU 7 M 0 a.2 fun N _x=>al 7 true N a.2 fun O _x=>cS O fun P Q R S U u v=>(ab u (ab v (dj 7 (.mp 0 0) [.int .u8 P,.int .i64 Q,.int .i64 R,.bool S,.str U,u,v] a.2 fun _x w _x_3=>al 7 true (.mp 0 0) w fun V _x=>cS V fun W f0 f1 f2 f3 f4 f5=>(gR w 0 (.agg [.int .u8 W,.int .i64 f0,.int .i64 f1,.bool f2,.str f3,f4,f5]) fun f6=>some f6))))) (al 7 true (.mp 1 0) a.2 fun f7 _x=>cS f7 fun f8 f9 h0 h1 h2 y z=>(ab y (ab z (dj 7 (.mp 0 0) [.int .u8 f8,.int .i64 f9,.int .i64 h0,.bool h1,.str h2,y,z] a.2 fun _x a0 _x_3=>al 7 true (.mp 0 0) a0 fun h3 _x=>cS h3 fun h4 X Y Z h8 h9 i0=>(gR a0 0 (.agg [.int .u8 h4,.int .i64 X,.int .i64 Y,.bool Z,.str h8,h9,i0]) fun i1=>some i1)))))))))))))))
theorem LU (x0:AV):bN vE 35 [x0]=UM x0:=by kernel_rfl
noncomputable def Ft (i:AV) (j:AV) (k:Nat):bT->Option (bT ⊕ Nat×bT):=fun a=>bj a.1 fun l m=>bk .i64 l fun b=>bC m (aW (decide (b < (↑k:Int))) (bU 4 j b a.2 fun n _x=>al 4 true n a.2 fun o _x=>ah o fun e f g c=>(bh (St.add a.2 (VM.Obj.cells 27 (nC 0 0 [] .ay))) fun p=>ab c (aM (aV vE) 4 (.mp (St.h a.2) 0) (nA e f g c) (nC e f g c) p fun _x d _x_1=>al 1 false i d fun q _x=>al 4 true (.mp (St.h a.2) 0) d fun r _x=>ah r fun s t u v=>(kK (aV vE) (Sx.prim (sx vE 36)) q [nA s t u v] d fun _x w _x_2=>aN (IntKind.wrap .i64 (b+1)) fun y=>some (Sum.inl ([.int .i64 y],w)))))) (some (Sum.inr (0,[],Prod.snd a))))
noncomputable def VC:AV->AV->AV->AV->AV->St->Option (AV×St):=fun n o g b h st=>ah n fun p q c i=>(ab i (aD i fun j=>fc j fun r=>az (aK (Ft o j r) ([.int .i64 0],st)) fun d=>bC d.2.1 (aW (p != 1) (some (.tup [],Prod.snd d.2)) (aT 37 [.agg [.int .u8 q,.str c]] d.2.2 fun s a _x=>bJ s fun t=>az (aW t (al 1 false g a fun u _x=>bJ u fun v=>az (aW (!v) (al 1 false b a fun w _x=>bk .i64 w fun k=>bF 0 h fun y=>aM (aV vE) 1 y (.int .i64 k) [.int .i64 k] a fun _x z _x_1=>aM (aV vE) 1 g (.bool true) [.bool true] z fun _x a0 _x_2=>some ([],a0)) (some ([],a))) fun e=>bC e.1 (al 1 false b e.2 fun x _x=>bk .i64 x fun a2=>aN (IntKind.wrap .i64 (a2+(↑(List.length c):Int))) fun l=>bF 1 h fun a3=>aM (aV vE) 1 a3 (.int .i64 l) [.int .i64 l] e.2 fun _x a4 _x_1=>some ([],a4))) (some ([],a))) fun f=>bC f.1 (al 1 false b f.2 fun a5 _x=>bk .i64 a5 fun A=>aN (IntKind.wrap .i64 (A+(↑(List.length c):Int))) fun m=>aM (aV vE) 1 b (.int .i64 m) [.int .i64 m] f.2 fun _x B _x_1=>some (.tup [],B))))))
theorem PY (x0 x1 a b c:AV) (st:St):cA vE 36 [x0,x1,a,b,c] st=VC x0 x1 a b c st:=by kernel_rfl
noncomputable def VO:AV->Option AV:=fun b=>dH b fun a _x=>(az (aW (a != 0) (aW (a != 1) (some ([.bool (a != 2)],sZ)) (some ([.bool false],sZ))) (some ([.bool false],sZ))) fun c=>bj c.1 fun d e=>bJ d fun f=>bC e (some (.bool f)))
theorem Qx (x0:AV):bN vE 37 [x0]=VO x0:=by kernel_rfl
noncomputable def VJ:AV->AV->AV->Option AV:=fun e f g=>fD e fun h i j k l a=>(fD f fun m n o p q b=>(bJ g fun c=>ab a (aD a fun r=>ab b (aD b fun s=>az (aW (h != m) (some ([.bool true],sZ)) (aW (i != n) (some ([.bool true],sZ)) (aW (!l==q) (some ([.bool true],sZ)) (aW c (az (JJ (VM.binOp (Env.T vE) BinOp.neq 40 (.agg [.int .i64 j,.int .i64 k]) (.agg [.int .i64 o,.int .i64 p]))) fun t=>bJ t fun u=>some ([.bool u],sZ)) (some ([.bool false],sZ)))))) fun d=>bj d.1 fun v w=>bJ v fun y=>bC w (aW y (some (.bool false)) (aT 18 [r,s,.bool c] d.2 fun z _x _x_1=>bJ z fun a0=>some (.bool a0)))))))
theorem QL (x0 x1 a:AV):bN vE 38 [x0,x1,a]=VJ x0 x1 a:=by kernel_rfl
noncomputable def Ww:AV->Option AV:=fun x0=>cG x0 fun c d h o p=>(ab o (aD o fun q=>aT 17 [.agg [.int .u8 c,.int .u8 d,.str h,q,.int .i64 p]] (St.mk 2 0 (Tr.node (some (VM.Obj.cells 48 [.int .u8 0,.int .u8 0,.int .i64 0,.int .i64 0,.str [],.ay])) (Tr.node (some (VM.Obj.cells 48 [.int .u8 0,.int .u8 0,.int .i64 0,.int .i64 0,.str [],.ay])) Tr.leaf Tr.leaf) Tr.leaf)) fun r F _x=>gx r fun G=>cE G 0 fun H=>xG H fun I c0=>(gx r fun c1=>cE c1 1 fun c2=>bJ c2 fun _x=>dj 2 (.mp 1 2) [.int .i64 I,.int .i64 c0] F fun _x c3 _x_1=>aT 15 [.agg [.int .u8 c,.int .u8 d,.str h,q,.int .i64 p]] c3 fun e a _x=>az (aW (c==16) (bU 5 e 0 a fun c4 _x=>al 5 true c4 a fun c5 _x=>cG c5 fun J K L c9 d0=>(aT 68 [.agg [.int .u8 J,.int .u8 K,.str L,c9,.int .i64 d0]] a fun d1 i f=>fD d1 fun s t u v w j=>(bM (apart f (⟨[],.kept⟩)&&true) (bU 5 e 2 i fun d2 d3=>bM (apart f (Fx.mk d3 dO.kept)&&true) (al 5 true d2 i fun d4 d5=>cG d4 fun d6 d7 d8 d9 M=>(bM (apart f (Fx.mk d5 dO.kept)&&true) (aT 68 [.agg [.int .u8 d6,.int .u8 d7,.str d8,d9,.int .i64 M]] i fun N O P=>fD N fun y z a0 x a2 k=>(ab j (ab k (ab j (aD j fun a3=>ab k (aD k fun a4=>bM (apart P (⟨[],.kept⟩)&&(apart f (⟨[],.kept⟩)&&true)) (aM (aV vE) 1 (.mp 1 0) (.int .u8 20) [.int .u8 20] O fun _x Q R=>bM (apart (⟨[],.kept⟩) R&&true) (aM (aV vE) 1 (.mp 1 5) (.sl 6 [.agg [.int .u8 s,.int .u8 t,.int .i64 u,.int .i64 v,.str w,a3],.agg [.int .u8 y,.int .u8 z,.int .i64 a0,.int .i64 x,.str a2,a4]] .shut) [.sl 6 [.agg [.int .u8 s,.int .u8 t,.int .i64 u,.int .i64 v,.str w,a3],.agg [.int .u8 y,.int .u8 z,.int .i64 a0,.int .i64 x,.str a2,a4]] .shut] Q fun _x S _x_2=>some (Sum.inl ([],S)))))))))))))))) (az (aW (c==18) (aT 93 [e] a fun T U _x=>aT 34 [T] U fun l V _x=>aM (aV vE) 1 (.mp 1 0) (.int .u8 19) [.int .u8 19] V fun _x f0 _x_2=>ab l (ab l (iU (.mp 1 5) l f0 fun _x f1 _x_3=>some (Sum.inl ([],f1))))) (az (aW (c==17) (aT 93 [e] a fun f2 f3 _x=>aT 34 [f2] f3 fun m f4 _x=>aM (aV vE) 1 (.mp 1 0) (.int .u8 18) [.int .u8 18] f4 fun _x f5 _x_2=>ab m (ab m (iU (.mp 1 5) m f5 fun _x b _x_3=>al 1 false (.mp 1 5) b fun f6 _x=>fc f6 fun f7=>aW ((↑f7:Int)==1) (al 1 false (.mp 1 5) b fun f8 _x=>bU 6 f8 0 b fun f9 _x=>al 6 true f9 b fun h0 _x=>fD h0 fun h1 h2 h3 h4 W a5=>(ab a5 (dj 6 (.mp 0 0) [.int .u8 h1,.int .u8 h2,.int .i64 h3,.int .i64 h4,.str W,a5] b fun _x A _x_4=>az (az (az (al 6 true (.mp 0 0) A fun X _x=>fD X fun Y Z h9 i0 i1 i2=>(gR A 0 (.agg [.int .u8 Y,.int .u8 Z,.int .i64 h9,.int .i64 i0,.str i1,i2]) fun i3=>some i3)) fun i4=>some (Sum.inr i4)) fun i5=>some (Sum.inr i5)) fun i6=>some (Sum.inr i6)))) (some (Sum.inl ([],b)))))) (aT 69 [.agg [.int .u8 d,.str h]] a fun B i7 _x=>gx B fun i8=>cE i8 0 fun i9=>bk .u8 i9 fun C=>gx B fun j0=>cE j0 1 fun j1=>dW j1 fun a9=>aM (aV vE) 1 (.mp 1 1) (.int .u8 C) [.int .u8 C] i7 fun _x j2 _x_2=>aM (aV vE) 1 (.mp 1 4) (.str a9) [.str a9] j2 fun _x g _x_3=>al 1 false (.mp 1 1) g fun j3 _x=>bk .u8 j3 fun j4=>az (aW (j4==1) (aM (aV vE) 1 (.mp 1 0) (.int .u8 15) [.int .u8 15] g fun _x j5 _x_4=>aM (aV vE) 1 (.mp 1 1) (.int .u8 0) [.int .u8 0] j5 fun _x j6 _x_5=>some ([],j6)) (az (aW (d==8) (aM (aV vE) 1 (.mp 1 0) (.int .u8 16) [.int .u8 16] g fun _x j7 _x_4=>aM (aV vE) 1 (.mp 1 1) (.int .u8 0) [.int .u8 0] j7 fun _x j8 _x_5=>aM (aV vE) 1 (.mp 1 4) (.str []) [.str []] j8 fun _x j9 _x_6=>some ([],j9)) (aM (aV vE) 1 (.mp 1 0) (.int .u8 17) [.int .u8 17] g fun _x k0 _x_4=>some ([],k0))) fun b0=>bC b0.1 (some ([],Prod.snd b0)))) fun b1=>bC b1.1 (some (Sum.inl ([],Prod.snd b1))))) fun k1=>iK k1 fun b2=>bC b2.1 (some (Sum.inl ([],Prod.snd b2))))) fun k2=>iK k2 fun b3=>bC b3.1 (some (Sum.inl ([],Prod.snd b3))))) fun k3=>iK k3 fun n=>bC n.1 (al 6 true (.mp 1 0) n.2 fun k4 _x=>fD k4 fun k5 k6 k7 k8 k9 D=>(ab D (dj 6 (.mp 0 0) [.int .u8 k5,.int .u8 k6,.int .i64 k7,.int .i64 k8,.str k9,D] n.2 fun _x E _x_2=>al 6 true (.mp 0 0) E fun m0 _x=>fD m0 fun m1 m2 m3 m4 m5 m6=>(gR E 0 (.agg [.int .u8 m1,.int .u8 m2,.int .i64 m3,.int .i64 m4,.str m5,m6]) fun m7=>some m7)))))))
theorem RI (x0:AV):bN vE 68 [x0]=Ww x0:=by kernel_rfl
noncomputable def VK:AV->Option AV:=fun c=>dH c fun b a=>(aW (b==4) (some (.tup [.int .u8 1,.str a])) (aW (b==5) (some (.tup [.int .u8 2,.str a])) (aW (b==6) (some (.tup [.int .u8 3,.str a])) (aW (b==7) (aT 94 [.str a] sZ fun d _x _x_1=>dW d fun e=>some (.tup [.int .u8 4,.str e])) (some (.tup [.int .u8 5,.str a]))))))
theorem Rj (x0:AV):bN vE 69 [x0]=VK x0:=by kernel_rfl
noncomputable def WK:Option AV:=some (.im [(.int .u8 14,.fn (Fn.func 95) [] []),(.int .u8 15,.fn (Fn.func 97) [] []),(.int .u8 13,.fn (Fn.func 98) [] []),(.int .u8 11,.fn (Fn.func 99) [] []),(.int .u8 12,.fn (Fn.func 100) [] []),(.int .u8 8,.fn (Fn.func 101) [] []),(.int .u8 7,.fn (Fn.func 102) [] []),(.int .u8 6,.fn (Fn.func 103) [] []),(.int .u8 9,.fn (Fn.func 104) [] [])])
theorem QH:bN vE 70 []=WK:=by kernel_rfl
noncomputable def FB (d:AV):bT->Option (bT ⊕ Nat×bT):=fun a=>bj a.1 fun e g=>bj g fun h i=>bk .i64 h fun b=>bC i (fc d fun j=>aN (IntKind.wrap .i64 ((↑j:Int) - 1)) fun k=>aW (decide (b < k)) (bU 5 d b a.2 fun l _x=>al 5 true l a.2 fun m _x=>cG m fun n o p c q=>(ab c (ab c (aD c fun f=>ab f (aD f fun r=>cT 5 64 56 e [.agg [.int .u8 n,.int .u8 o,.str p,r,.int .i64 q]] a.2 fun s t _x=>aN (IntKind.wrap .i64 (b+2)) fun u=>some (Sum.inl ([s,.int .i64 u],t))))))) (some (Sum.inr (0,[e],Prod.snd a))))
noncomputable def VA:AV->Option AV:=fun b=>az (aK (FB b) ([.ay,.int .i64 1],sZ)) fun a=>bj a.2.1 fun c d=>bC d (gR a.2.2 0 (oneOf [c]) fun e=>some e)
theorem O8 (x0:AV):bN vE 93 [x0]=VA x0:=by kernel_rfl
noncomputable def na (b:List UInt8):bT->Option (bT ⊕ Nat×bT):=fun a=>bj a.1 fun i j=>bk .i64 i fun c=>bC j (aW (decide (c < (↑(List.length b):Int))) (az (eC b c fun k=>aW ((↑(UInt8.toNat k):Int) != 92) (eC b c fun l=>aT 123 [.mp 0 0,.int .u8 (↑(UInt8.toNat l):Int)] a.2 fun _x m _x_1=>some (Sum.inl ([.int .i64 c],m))) (aN (IntKind.wrap .i64 (c+1)) fun d=>eC b d fun e=>az (aW ((↑(UInt8.toNat e):Int)==110) (aT 123 [.mp 0 0,.int .u8 10] a.2 fun _x n _x_1=>some ([],n)) (az (aW ((↑(UInt8.toNat e):Int)==116) (aT 123 [.mp 0 0,.int .u8 9] a.2 fun _x o _x_1=>some ([],o)) (eC b d fun p=>aT 123 [.mp 0 0,.int .u8 (↑(UInt8.toNat p):Int)] a.2 fun _x q _x_1=>some ([],q))) fun f=>bC f.1 (some ([],Prod.snd f)))) fun g=>bC g.1 (some (Sum.inl ([.int .i64 d],Prod.snd g))))) fun r=>iK r fun h=>bj h.1 fun s t=>bk .i64 s fun u=>bC t (aN (IntKind.wrap .i64 (u+1)) fun v=>some (Sum.inl ([.int .i64 v],Prod.snd h)))) (some (Sum.inr (0,[],Prod.snd a))))
noncomputable def Wh:AV->Option AV:=fun d=>dW d fun a=>aN (IntKind.wrap .i64 ((↑(List.length a):Int) - 1)) fun e=>eh e (List.length a) fun b=>bM (Nat.ble 1 b) (aN (List.drop 1 (List.take b a)) fun f=>az (aK (na f) ([.int .i64 0],St.mk 1 0 (Tr.node (some (VM.Obj.cells 146 [.nilp,.ay])) Tr.leaf Tr.leaf))) fun c=>bC c.2.1 (dK (aV vE) (fO (Prim.builderString 5) [.mp 0 0]) c.2.2 fun g _x _x_1=>dW g fun h=>some (.str h)))
theorem PQ (x0:AV):bN vE 94 [x0]=Wh x0:=by kernel_rfl
noncomputable def WH:AV->AV->St->Option (AV×St):=fun a c st=>aT 93 [c] st fun d e _x=>aT 96 [d] e fun b f _x=>bM (notNil a) (bF 0 a fun g=>aM (aV vE) 1 g (.int .u8 6) [.int .u8 6] f fun _x h _x_1=>bM (notNil a) (bF 6 a fun i=>ab b (ab b (iU i b h fun _x j _x_2=>some (.tup [],j)))))
theorem Q1 (x0 x1:AV) (st:St):cA vE 95 [x0,x1] st=WH x0 x1 st:=by kernel_rfl
noncomputable def F8 (o:AV) (p:Nat):bT->Option (bT ⊕ Nat×bT):=fun a=>bj a.1 fun f q=>bj q fun r s=>bk .i64 r fun b=>bC s (aW (decide (b < (↑p:Int))) (bU 5 o b a.2 fun t _x=>al 5 true t a.2 fun u _x=>cG u fun g i j c k=>(bh (St.add a.2 (VM.Obj.cells 56 [.int .u8 0,.int .u8 0,.str [],.ay,.int .i64 0])) fun v=>ab c (aM (aV vE) 5 (.mp (St.h a.2) 0) (.agg [.int .u8 g,.int .u8 i,.str j,c,.int .i64 k]) [.int .u8 g,.int .u8 i,.str j,c,.int .i64 k] v fun _x l _x_1=>al 5 true (.mp (St.h a.2) 0) l fun w _x=>cG w fun y z a0 x a2=>(aT 35 [.agg [.int .u8 y,.int .u8 z,.str a0,x,.int .i64 a2]] l fun a3 a4 _x=>cS a3 fun a5 A B C a9 d e=>(ab d (ab e (ab d (ab e (aD d fun m=>aD e fun n=>ab m (ab n (aD m fun b0=>aD n fun b1=>cT 7 96 44 f [.agg [.int .u8 a5,.int .i64 A,.int .i64 B,.bool C,.str a9,b0,b1]] a4 fun b2 b3 _x=>aN (IntKind.wrap .i64 (b+1)) fun D=>some (Sum.inl ([b2,.int .i64 D],b3))))))))))))) (some (Sum.inr (0,[f],Prod.snd a))))
noncomputable def Wf:AV->St->Option (AV×St):=fun a st=>fc a fun c=>az (aK (F8 a c) ([.ay,.int .i64 0],st)) fun b=>bj b.2.1 fun d e=>bC e (some (oneOf [d],Prod.snd b.2))
theorem QD (x0:AV) (st:St):cA vE 96 [x0] st=Wf x0 st:=by kernel_rfl
noncomputable def WM:AV->AV->St->Option (AV×St):=fun a c st=>aT 93 [c] st fun d e _x=>aT 96 [d] e fun b f _x=>bM (notNil a) (bF 0 a fun g=>aM (aV vE) 1 g (.int .u8 7) [.int .u8 7] f fun _x h _x_1=>bM (notNil a) (bF 6 a fun i=>ab b (ab b (iU i b h fun _x j _x_2=>some (.tup [],j)))))
theorem PE (x0 x1:AV) (st:St):cA vE 97 [x0,x1] st=WM x0 x1 st:=by kernel_rfl
noncomputable def WC:AV->AV->St->Option (AV×St):=fun a c st=>aT 96 [c] st fun b d _x=>bM (notNil a) (bF 0 a fun e=>aM (aV vE) 1 e (.int .u8 8) [.int .u8 8] d fun _x f _x_1=>bM (notNil a) (bF 6 a fun g=>ab b (ab b (iU g b f fun _x h _x_2=>some (.tup [],h)))))
theorem P7 (x0 x1:AV) (st:St):cA vE 98 [x0,x1] st=WC x0 x1 st:=by kernel_rfl
noncomputable def Vu:AV->AV->St->Option (AV×St):=fun b c st=>bU 5 c 1 st fun i j=>bF 0 i fun k=>bF 1 k fun l=>bF 1 l fun m=>al 1 false m st fun n o=>dW n fun g=>bU 5 c 0 st fun p _x=>al 5 true p st fun q _x=>cG q fun r s t d u=>(bU 5 c 2 st fun v _x=>al 5 true v st fun w _x=>cG w fun y z a0 e x=>(ab d (ab e (ab d (aD d fun a2=>ab e (aD e fun a3=>aT 96 [.sl 5 [.agg [.int .u8 r,.int .u8 s,.str t,a2,.int .i64 u],.agg [.int .u8 y,.int .u8 z,.str a0,a3,.int .i64 x]] .shut] st fun f a4 a=>bM (apart (Fx.mk o dO.kept) a&&(apart (⟨[],.kept⟩) a&&(apart (⟨[],.kept⟩) a&&(apart (⟨[],.kept⟩) a&&(apart (Fx.mk j dO.kept) a&&(apart (⟨[],.kept⟩) a&&(apart (⟨[],.kept⟩) a&&(apart (⟨[],.kept⟩) a&&(apart (⟨[],.kept⟩) a&&true))))))))) (bM (notNil b) (bF 0 b fun a5=>aM (aV vE) 1 a5 (.int .u8 9) [.int .u8 9] a4 fun _x A h=>bM (apart (⟨[],.kept⟩) h&&(apart (⟨[],.kept⟩) h&&true)) (bM (notNil b) (bF 4 b fun B=>aM (aV vE) 1 B (.str g) [.str g] A fun _x C a9=>bM (apart (⟨[],.kept⟩) a9&&true) (bM (notNil b) (bF 6 b fun b0=>ab f (ab f (iU b0 f C fun _x b1 _x_1=>some (.tup [],b1)))))))))))))))
theorem Pk (x0 x1:AV) (st:St):cA vE 99 [x0,x1] st=Vu x0 x1 st:=by kernel_rfl
noncomputable def SO:AV->AV->St->Option (AV×St):=fun b e st=>bU 5 e 0 st fun h i=>bF 0 h fun j=>bF 1 j fun k=>bF 1 k fun l=>al 1 false l st fun m n=>dW m fun f=>bU 5 e 1 st fun o _x=>al 5 true o st fun p _x=>cG p fun q r s c t=>(ab c (ab c (aD c fun u=>aT 96 [.sl 5 [.agg [.int .u8 q,.int .u8 r,.str s,u,.int .i64 t]] .shut] st fun d v a=>bM (apart (Fx.mk n dO.kept) a&&(apart (⟨[],.kept⟩) a&&(apart (⟨[],.kept⟩) a&&(apart (⟨[],.kept⟩) a&&(apart (Fx.mk i dO.kept) a&&(apart (⟨[],.kept⟩) a&&(apart (⟨[],.kept⟩) a&&(apart (⟨[],.kept⟩) a&&(apart (⟨[],.kept⟩) a&&true))))))))) (bM (notNil b) (bF 0 b fun w=>aM (aV vE) 1 w (.int .u8 10) [.int .u8 10] v fun _x y g=>bM (apart (⟨[],.kept⟩) g&&(apart (⟨[],.kept⟩) g&&true)) (bM (notNil b) (bF 4 b fun z=>aM (aV vE) 1 z (.str f) [.str f] y fun _x a0 x=>bM (apart (⟨[],.kept⟩) x&&true) (bM (notNil b) (bF 6 b fun a2=>ab d (ab d (iU a2 d a0 fun _x a3 _x_1=>some (.tup [],a3))))))))))))
theorem L8 (x0 x1:AV) (st:St):cA vE 100 [x0,x1] st=SO x0 x1 st:=by kernel_rfl
noncomputable def TY:AV->AV->St->Option (AV×St):=fun a b st=>bU 5 b 1 st fun h _x=>al 5 true h st fun i _x=>cG i fun j k l c m=>(bU 5 b 3 st fun n _x=>al 5 true n st fun o _x=>cG o fun p q r d s=>(bU 5 b 5 st fun t _x=>al 5 true t st fun u _x=>cG u fun v w y e z=>(ab c (ab d (ab e (ab c (aD c fun a0=>ab d (aD d fun x=>ab e (aD e fun a2=>aT 96 [.sl 5 [.agg [.int .u8 j,.int .u8 k,.str l,a0,.int .i64 m],.agg [.int .u8 p,.int .u8 q,.str r,x,.int .i64 s],.agg [.int .u8 v,.int .u8 w,.str y,a2,.int .i64 z]] .shut] st fun f a3 g=>bM (apart (⟨[],.kept⟩) g&&(apart (⟨[],.kept⟩) g&&true)) (bM (notNil a) (bF 0 a fun a4=>aM (aV vE) 1 a4 (.int .u8 12) [.int .u8 12] a3 fun _x a5 A=>bM (apart (⟨[],.kept⟩) A&&true) (bM (notNil a) (bF 6 a fun B=>ab f (ab f (iU B f a5 fun _x C _x_1=>some (.tup [],C))))))))))))))))
theorem L5 (x0 x1:AV) (st:St):cA vE 101 [x0,x1] st=TY x0 x1 st:=by kernel_rfl
noncomputable def TA:AV->AV->St->Option (AV×St):=fun b c st=>fc c fun i=>aN (IntKind.wrap .i64 ((↑i:Int) - 2)) fun k=>gi 5 c (some 1) (some k) none fun l=>aT 34 [l] st fun d e a=>bM (apart (⟨[],.kept⟩) a&&(apart (⟨[],.kept⟩) a&&(apart (⟨[],.kept⟩) a&&true))) (bM (apart a (⟨[],.kept⟩)&&true) (bM (apart a (⟨[],.kept⟩)&&true) (aN (IntKind.wrap .i64 ((↑i:Int) - 1)) fun m=>bM (apart a (⟨[],.kept⟩)&&true) (bU 5 c m e fun n o=>bM (apart a (Fx.mk o dO.kept)&&true) (al 5 true n e fun p q=>cG p fun r s t f u=>(bM (apart a (Fx.mk q dO.kept)&&true) (ab f (ab f (aD f fun v=>bM (apart a (⟨[],.kept⟩)&&true) (aT 96 [.sl 5 [.agg [.int .u8 r,.int .u8 s,.str t,v,.int .i64 u]] .shut] e fun g w h=>bM (apart (⟨[],.kept⟩) h&&(apart (⟨[],.kept⟩) h&&(apart (⟨[],.kept⟩) h&&true))) (bM (notNil b) (bF 0 b fun y=>aM (aV vE) 1 y (.int .u8 11) [.int .u8 11] w fun _x z j=>bM (apart (⟨[],.kept⟩) j&&(apart (⟨[],.kept⟩) j&&true)) (bM (notNil b) (bF 5 b fun a0=>ab d (ab d (iU a0 d z fun _x x a2=>bM (apart (⟨[],.kept⟩) a2&&true) (bM (notNil b) (bF 6 b fun a3=>ab g (ab g (iU a3 g x fun _x a4 _x_1=>some (.tup [],a4)))))))))))))))))))))
theorem L7 (x0 x1:AV) (st:St):cA vE 102 [x0,x1] st=TA x0 x1 st:=by kernel_rfl
noncomputable def Uf:AV->AV->St->Option (AV×St):=fun b j st=>fc j fun q=>aN (IntKind.wrap .i64 ((↑q:Int) - 2)) fun n1=>gi 5 j none (some n1) none fun v2=>aT 16 [v2] st fun v3 e _x=>gY v3 fun b2 b3 D r E F G H I s t=>(bh (St.add e (VM.Obj.cells 46 [.int .i64 0,.int .i64 0,.bool false,.ay,.int .u8 0,.int .i64 0,.int .i64 0,.bool false,.str [],.ay,.ay])) fun c0=>ab r (ab s (ab t (dj 11 (.mp (St.h e) 0) [.int .i64 b2,.int .i64 b3,.bool D,r,.int .u8 E,.int .i64 F,.int .i64 G,.bool H,.str I,s,t] c0 fun _x d _x_1=>al 1 false (.mp (St.h e) 2) d fun c1 k=>bJ c1 fun u=>al 1 false (.mp (St.h e) 3) d fun l g=>al 7 true (.mp (St.h e) 4) d fun c2 c3=>cS c2 fun v w y z a0 m n=>(ab m (ab n (ab m (ab n (aD m fun x=>aD n fun a2=>aN (IntKind.wrap .i64 ((↑q:Int) - 1)) fun c4=>bU 5 j c4 d fun c5 _x=>al 5 true c5 d fun J _x=>cG J fun K L c9 d0 d1=>(aT 35 [.agg [.int .u8 K,.int .u8 L,.str c9,d0,.int .i64 d1]] d fun d2 f a=>cS d2 fun a3 a4 a5 A B o p=>(bM (apart (⟨[],.kept⟩) a&&(apart (Fx.mk c3 dO.kept) a&&(apart (⟨[],.kept⟩) a&&(apart (Fx.mk g dO.kept) a&&(apart (⟨[],.kept⟩) a&&(apart (Fx.mk k dO.kept) a&&(apart (⟨[],.kept⟩) a&&(apart (⟨[],.kept⟩) a&&(apart (⟨[],.kept⟩) a&&(apart (⟨[],.kept⟩) a&&(apart (⟨[],.kept⟩) a&&true))))))))))) (ab o (ab p (ab o (ab p (aD o fun C=>aD p fun a9=>ab C (ab a9 (aD C fun b0=>aD a9 fun b1=>bh (St.add f (Obj.tok 2 44)) fun d3=>bM (apart (Fx.mk g dO.kept) (Fx.mk [] (dO.made (St.h f) (Obj.tok 2 44)))&&(apart (Fx.mk k dO.kept) (Fx.mk [] (dO.made (St.h f) (Obj.tok 2 44)))&&true)) (bM (notNil b) (bF 0 b fun d4=>aM (aV vE) 1 d4 (.int .u8 14) [.int .u8 14] d3 fun _x d5 c=>bM (apart (Fx.mk g dO.kept) c&&(apart (⟨[],.kept⟩) c&&(apart (Fx.mk k dO.kept) c&&(apart (⟨[],.kept⟩) c&&(apart (⟨[],.kept⟩) c&&(apart (⟨[],.kept⟩) c&&(apart (⟨[],.kept⟩) c&&true))))))) (bM (notNil b) (bF 3 b fun d6=>aM (aV vE) 1 d6 (.bool u) [.bool u] d5 fun _x d7 i=>bM (apart (Fx.mk g dO.kept) i&&(apart (⟨[],.kept⟩) i&&(apart (⟨[],.kept⟩) i&&(apart (⟨[],.kept⟩) i&&true)))) (bM (notNil b) (bF 5 b fun d8=>ab l (ab l (iU d8 l d7 fun _x d9 M=>bM (apart (⟨[],.kept⟩) M&&true) (bM (notNil b) (bF 6 b fun N=>aM (aV vE) 1 N (.sl 7 [.agg [.int .u8 v,.int .i64 w,.int .i64 y,.bool z,.str a0,x,a2],.agg [.int .u8 a3,.int .i64 a4,.int .i64 a5,.bool A,.str B,b0,b1]] (Perm.own (St.h f))) [.sl 7 [.agg [.int .u8 v,.int .i64 w,.int .i64 y,.bool z,.str a0,x,a2],.agg [.int .u8 a3,.int .i64 a4,.int .i64 a5,.bool A,.str B,b0,b1]] (Perm.own (St.h f))] d9 fun _x O _x_2=>some (.tup [],O)))))))))))))))))))))))))))))
theorem N4 (x0 x1:AV) (st:St):cA vE 103 [x0,x1] st=Uf x0 x1 st:=by kernel_rfl
noncomputable def BD (a:AV) (x1:AV) (a4:Nat):bT->Option (bT ⊕ Nat×bT):=fun b=>bj b.1 fun a5 A=>bk .i64 a5 fun k=>bC A (aW (decide (k < (↑a4:Int))) (bU 5 x1 k b.2 fun B _x=>al 5 true B b.2 fun C _x=>cG C fun o p q l r=>(bh (St.add b.2 (VM.Obj.cells 56 [.int .u8 0,.int .u8 0,.str [],.ay,.int .i64 0])) fun a9=>ab l (aM (aV vE) 5 (.mp (St.h b.2) 0) (.agg [.int .u8 o,.int .u8 p,.str q,l,.int .i64 r]) [.int .u8 o,.int .u8 p,.str q,l,.int .i64 r] a9 fun _x e _x_1=>al 1 false (.mp (St.h b.2) 0) e fun b0 _x=>bk .u8 b0 fun b1=>az (aW (b1==10) (al 5 true (.mp (St.h b.2) 0) e fun b2 _x=>cG b2 fun b3 D E F G=>(aT 15 [.agg [.int .u8 b3,.int .u8 D,.str E,F,.int .i64 G]] e fun s f _x=>bM (notNil a) (bF 5 a fun H=>al 1 false H f fun t I=>bU 5 s 0 f fun c0 _x=>al 5 true c0 f fun c1 _x=>cG c1 fun c2 c3 c4 c5 J=>(aT 68 [.agg [.int .u8 c2,.int .u8 c3,.str c4,c5,.int .i64 J]] f fun K L c=>fD K fun c9 d0 d1 d2 d3 u=>(bM (apart (Fx.mk I dO.kept) c&&(apart (⟨[],.kept⟩) c&&(apart (⟨[],.kept⟩) c&&(apart (⟨[],.kept⟩) c&&true)))) (fc t fun d4=>bM (apart c (⟨[],.kept⟩)&&true) (bM (apart c (⟨[],.kept⟩)&&true) (dK (aV vE) (ia (TI.mk (U.struct [(0,5),(1,5),(2,40),(4,9),(5,41)]) 6 64 [.int .u8 0,.int .u8 0,.int .i64 0,.int .i64 0,.str [],.ay] true true) 48 t [.agg [.int .u8 0,.int .u8 0,.int .i64 0,.int .i64 0,.str [],.ay]]) L fun g v _x=>bU 6 g (↑d4:Int) v fun d5 d6=>ab u (dj 6 d5 [.int .u8 c9,.int .u8 d0,.int .i64 d1,.int .i64 d2,.str d3,u] v fun _x d7 m=>bM (notNil a) (bM (apart m (⟨[],.kept⟩)&&true) (bF 5 a fun d8=>bM (apart m (⟨[],.kept⟩)&&true) (ab g (ab g (iU d8 g d7 fun _x i w=>bM (apart m w&&(apart (Fx.mk d6 dO.kept) w&&true)) (bM (notNil a) (bF 6 a fun d9=>al 1 false d9 i fun y M=>bU 5 s 2 i fun N _x=>al 5 true N i fun O _x=>cG O fun P Q R S T=>(aT 35 [.agg [.int .u8 P,.int .u8 Q,.str R,S,.int .i64 T]] i fun V W d=>cS V fun f0 f1 f2 f3 f4 z a0=>(bM (apart (Fx.mk M dO.kept) d&&(apart (⟨[],.kept⟩) d&&(apart (⟨[],.kept⟩) d&&(apart (⟨[],.kept⟩) d&&true)))) (fc y fun f5=>bM (apart d (⟨[],.kept⟩)&&true) (bM (apart d (⟨[],.kept⟩)&&true) (dK (aV vE) (ia (TI.mk (U.struct [(0,5),(1,40),(3,4),(4,9),(5,41),(6,42)]) 7 96 [.int .u8 0,.int .i64 0,.int .i64 0,.bool false,.str [],.ay,.ay] true true) 44 y [.agg [.int .u8 0,.int .i64 0,.int .i64 0,.bool false,.str [],.ay,.ay]]) W fun j x _x=>bU 7 j (↑f5:Int) x fun f6 f7=>ab z (ab a0 (dj 7 f6 [.int .u8 f0,.int .i64 f1,.int .i64 f2,.bool f3,.str f4,z,a0] x fun _x f8 n=>bM (notNil a) (bM (apart n (⟨[],.kept⟩)&&true) (bF 6 a fun f9=>bM (apart n (⟨[],.kept⟩)&&true) (ab j (ab j (iU f9 j f8 fun _x h0 a2=>bM (apart n a2&&(apart (Fx.mk f7 dO.kept) a2&&true)) (some ([],h0)))))))))))))))))))))))))))))) (some ([],e))) fun a3=>bC a3.1 (aN (IntKind.wrap .i64 (k+1)) fun h1=>some (Sum.inl ([.int .i64 h1],Prod.snd a3)))))) (some (Sum.inr (0,[],Prod.snd b))))
noncomputable def SQ:AV->AV->St->Option (AV×St):=fun a b st=>bU 5 b 1 st fun f _x=>al 5 true f st fun g _x=>cG g fun h i j c k=>(ab c (ab c (aD c fun l=>aT 96 [.sl 5 [.agg [.int .u8 h,.int .u8 i,.str j,l,.int .i64 k]] .shut] st fun d m _x=>bM (notNil a) (bF 0 a fun n=>aM (aV vE) 1 n (.int .u8 13) [.int .u8 13] m fun _x o _x_1=>bM (notNil a) (bF 6 a fun p=>ab d (ab d (iU p d o fun _x q _x_2=>fc b fun r=>az (aK (BD a b r) ([.int .i64 0],q)) fun e=>bC e.2.1 (some (.tup [],Prod.snd e.2)))))))))
theorem Md (x0 x1:AV) (st:St):cA vE 104 [x0,x1] st=SQ x0 x1 st:=by kernel_rfl
end Go.Proofs.YtgecmbapkplklaaGreatDoor.Vm
namespace Go.Proofs.YtgecmbapkplklaaGreatDoor.Vm
open Go Go.VM Go.Proofs Go.Lex Go.Parse Go.Scope Go.Ast
structure gu {α:Type} (R:α->AV->Prop) (l:List α) (es:List AV):Prop where
 len:es.length=l.length
 at': ∀(i:Nat) (a:α),l[i]? =some a-> ∃v,es[i]? =some v/\R a v
section
variable {α:Type} {R:α->AV->Prop} {l:List α} {es:List AV}
theorem gu.nil:gu R [] []:=⟨rfl,fun i a h=>by simp at h⟩
theorem gu.snoc {a:α} {v:AV} (h:gu R l es) (hv:R a v):gu R (l++[a]) (es++[v]):=by
 refine ⟨by simp [h.len],fun i b hb=> ?_⟩;by_cases hi:i < l.length
 .rw [Xr hi] at hb;obtain ⟨w,hw,hr⟩:=h.at' i b hb;exact ⟨w,by rw [Xr (by rw [h.len];exact hi)];exact hw,hr⟩
 .rw [XB (by omega)] at hb;have c:i - l.length=0:=by
   by_cases h0:i - l.length=0
   .exact h0
   .rw [Xu (by simp;omega)] at hb;cases hb
  rw [c] at hb;obtain rfl:a=b:=by simpa using hb
  exact ⟨v,by rw [XB (by rw [h.len];omega),h.len,c];rfl,hv⟩
theorem gu.drop (h:gu R l es) (m:Nat):gu R (l.drop m) (es.drop m):=
 ⟨by simp [h.len],fun i a hi=>by
  rw [X6] at hi ⊢;exact h.at' _ a hi⟩
theorem gu.take (h:gu R l es) (m:Nat):gu R (l.take m) (es.take m):=
 ⟨by simp [h.len],fun i a hi=>by
  rw [List.getElem?_take] at hi ⊢;split at hi
  .rename_i h1;rw [if_pos h1];exact h.at' _ a hi
  .cases hi⟩
end
theorem lq {t:T} {a b:Nat} {s:List UInt8} {y:AV} (h:iz t (.agg [.int .u8 (a:Int),.int .u8 (b:Int),.str s,y])): ∃l es,t= .mk a b s l/\bp 4 y es/\bO l es:=by
 cases t with
 | mk k tk tx l=>
  simp only [iz] at h;obtain ⟨x,es,hv,hx,hs⟩:=h;injection hv with hv
  have h2:=List.cons.inj hv;have h3:=List.cons.inj h2.2;have h4:=List.cons.inj h3.2;have d:=List.cons.inj h4.2;have e:=h2.1;have f:=h3.1;have c:=h4.1;have g:=d.1;simp only [AV.int.injEq,Yo] at e f;simp only [AV.str.injEq] at c;obtain rfl:a=k:=by omega
  obtain rfl:b=tk:=by omega
  subst c g;exact ⟨l,es,rfl,hx,hs⟩
def lu (p:Nat×T) (v:AV):Prop:= ∃(a b:Nat) (s:List UInt8) (y:AV),v= .agg [.int .u8 (a:Int),.int .u8 (b:Int),.str s,y,.int .i64 (p.1:Int)]/\iz p.2 (.agg [.int .u8 (a:Int),.int .u8 (b:Int),.str s,y])
def bX (a:Nat):List T->List (Nat×T)
 | []=>[]
 | t::l=>(a,t)::bX (a+(cy t).length) l
theorem dt: ∀(l:List T) (a:Nat),(bX a l).length=l.length
 | [],_=>rfl
 | t::l,a=>by simp [bX,dt l]
theorem lM: ∀(l:List T) (t:T) (a:Nat),bX a (l++[t])=bX a l++[(a+(bB l).length,t)]
 | [],t,a=>by simp [bX,bB]
 | u::l,t,a=>by
  rw [Xf,bX,lM l t,bX,show bB (u::l)=cy u++bB l by simp [bB],W9,Yl];rfl
theorem JY: ∀(t:T) (v:AV),iz t v->(cy t).length<=1000000000000->(aV vE).bare 33 [v]=some (.int .i64 ((cy t).length:Int)):=by
 refine T.ind fun k tk tx l ih v hv hl=> ?_;simp only [iz] at hv;obtain ⟨x,es,rfl,hx,hs⟩:=hv;have hlen:=DY hx hs;have j:(bB l).length<=1000000000000:=by
  simp only [cy,W9] at hl;omega
 have key:aa (aK (BF x l.length) ([.int .i64 0,.int .i64 0],S0)) fun c=> ∃s,c=(0,[.int .i64 ((bB l).length:Int)],s):=by
  refine aa.upto (n:=l.length) (I:=fun i c=> ∃s:St,c=([.int .i64 ((bB (l.take i)).length:Int),.int .i64 (i:Int)],s)/\s.ro<=s.h) ?_ ?_ l.length 0 _ (by omega) ⟨S0,rfl,WW _⟩
  .rintro i c hi ⟨s,rfl,d⟩;have ht:l[i]? =some l[i]:=Xl hi;obtain ⟨a,b,o,y,f,e⟩:=va hx hs ht;obtain ⟨p,es',_,hy,_⟩:=lq f;have g:l.take (i+1)=l.take i++[l[i]]:=by rw [List.take_add_one,ht];rfl
   have hb:(bB (l.take (i+1))).length<=(bB l).length:=by
    have:=Xy (fun m=>(bB m).length) (XM (i+1) l);simp only [dy,W9] at this;omega
   have he:(bB (l.take (i+1))).length=(bB (l.take i)).length+(cy l[i]).length:=by rw [g,dy,bR,W9]
   simp only [BF,ad,af,ae,aq,if_pos (show (i:Int) < (l.length:Int) by omega)];refine aa.step (e s _) ?_;refine aa.Cd (Vw.start d) fun s1 _ w=>aa.step (hy.ab _) ?_;refine aa.ng [] w fun s2 _ _ w=>aa.fX WS w rfl ?_;have c:=fun {γ:Type} (st:St) (K:Kv γ)=>xX f rfl (ih _ (Yd hi) _ f (by omega)) st K;simp only [aE,ad,af,ax,ae,c,aB,mD (show (bB (l.take i)).length+(cy l[i]).length<=9223372036854775807 by omega),bm (show i+1<=9223372036854775807 by omega)];exact aa.inl ⟨s2,by rw [he],w.ro⟩
  .rintro c ⟨s,rfl,d⟩;simp only [BF,ad,af,ae,aq,if_neg (show ¬ ((l.length:Nat):Int) < (l.length:Int) by omega),Xv];exact aa.inr ⟨s,rfl⟩
 obtain ⟨c,e,s,rfl⟩:=key;refine aX rfl ((P5 _).trans ?_);simp only [Vt,aE,ad,af,ax,ae,hx.ab,hx.aD,oz hx hs,e,aj,bP];simp only [cy] at hl ⊢;by_cases h:k=1
 .rw [if_pos h] at hl ⊢;rw [W9] at hl;simp only [bP k 1,show ((k:Int)==1)=(k==1) from bP k 1,XA.2 h,ao,aB,mD (show (bB l).length+tx.length<=9223372036854775807 by omega),aj,ad,af,ae,W9]
 .rw [if_neg h] at hl ⊢;simp only [show ((k:Int)==1)=(k==1) from bP k 1,WX.2 h,ai,aj,ad,af,ae,Xe]
theorem rP (l:List T) (i:Nat):(bB (l.take i)).length<=(bB l).length:=by
 have:=Xy (fun m=>(bB m).length) (XM i l);simp only [dy,W9] at this;omega
theorem jP {α:Type} {l:List α} {i:Nat} (hi:i < l.length):l.take (i+1)=l.take i++[l[i]]:=by rw [List.take_add_one,Xl hi];rfl
theorem qm {a k tk:Nat} {tx:List UInt8} {l:List T} {v:AV} (h:lu (a,.mk k tk tx l) v) (ha:a+(bB l).length<=1000000000000) (hn:l.length < 1000000000): ∃x es,(aV vE).bare 15 [v]=some x/\bp 5 x es/\gu lu (bX a l) es:=by
 obtain ⟨q,b1,s1,x,rfl,m⟩:=h;obtain ⟨r,es,ht,hx,hs⟩:=lq m;cases ht;have key:aa (bN vE 15 [.agg [.int .u8 (k:Int),.int .u8 (tk:Int),.str tx,x,.int .i64 (a:Int)]]) fun b=> ∃fs,bp 5 b fs/\gu lu (bX a l) fs:=by
  refine aa.step (Rw _) ?_;simp only [g15,aE,ad,af,ax,ae,hx.ab,hx.aD,oz hx hs];refine aa.bind (R:=fun c=> ∃s v ws,c=(0,[v],s)/\Wv S0 s [] 5 56 v ws/\gu lu (bX a l) ws) ?_ ?_
  .refine aa.upto (n:=l.length) (I:=fun i c=> ∃s v ws,c=([v,.int .i64 ((a+(bB (l.take i)).length:Nat):Int),.int .i64 (i:Int)],s)/\Wv S0 s [] 5 56 v ws/\gu lu (bX a (l.take i)) ws) ?_ ?_ l.length 0 _ (by omega) ⟨S0,.ay,[],rfl,Wv.start (WW _) _ _,gu.nil⟩
   .rintro i c hi ⟨s,v,ws,rfl,w,hw⟩;have f:=jP hi;have hb:=rP l (i+1);have he:(bB (l.take (i+1))).length=(bB (l.take i)).length+(cy l[i]).length:=by rw [f,dy,bR,W9]
    have g:=hw.len;rw [dt,Xg] at g;obtain ⟨a2,b2,j,y,d,e⟩:=va hx hs (Xl hi);obtain ⟨l2,o,_,hy,_⟩:=lq d;simp only [GS,ad,af,ae,aq,if_pos (show (i:Int) < (l.length:Int) by omega)];refine aa.step (e s _) ?_;refine aa.ux w fun s1 _ w=>aa.step (hy.ab _) ?_;refine aa.vi [] w fun s2 _ _ w=>aa.fX WS w.w rfl ?_;simp only [aE,ad,af,ax,ae,hy.ab,hy.aD];refine aa.KD w (by omega) (by omega) (by omega) fun v2 p _ w=>aa.fX WS w.w rfl ?_;have c:=fun {γ:Type} (st:St) (K:Kv γ)=>xX d rfl (JY _ _ d (by omega)) st K;simp only [aE,ad,af,ax,ae,c,aB,mD (show (a+(bB (l.take i)).length)+(cy l[i]).length<=9223372036854775807 by omega),bm (show i+1<=9223372036854775807 by omega)];refine aa.inl ⟨p,v2,_,by rw [he,Yl],w.none, ?_⟩;rw [f,lM];exact hw.snoc ⟨a2,b2,j,y,rfl,d⟩
   .rintro c ⟨s,v,ws,rfl,w,hw⟩;simp only [GS,ad,af,ae,aq,if_neg (show ¬ ((l.length:Nat):Int) < (l.length:Int) by omega)];rw [Xv] at hw;exact aa.inr ⟨s,v,ws,rfl,w,hw⟩
  .rintro c ⟨s,v,ws,rfl,w,hw⟩;simp only [ad,ae,ru];exact aa.TL w fun x hx=>aa.some ⟨ws,hx,hw⟩
 obtain ⟨x,e,fs,hx,hr⟩:=key;exact ⟨x,fs,aX rfl e,hx,hr⟩
theorem oB {ps:List (Nat×T)} {x:AV} {es:List AV} {p:Nat×T} {i:Nat} (hx:bp 5 x es) (hs:gu lu ps es) (hp:ps[i]? =some p): ∃(a b:Nat) (s:List UInt8) (y:AV),iz p.2 (.agg [.int .u8 (a:Int),.int .u8 (b:Int),.str s,y])/\(∀{β:Type} (st:St) (K:AV->List Nat->Option β),bU 5 x (i:Int) st K=K (.ip [.int .u8 (a:Int),.int .u8 (b:Int),.str s,y,.int .i64 (p.1:Int)]) []):=by
 obtain ⟨v,hv,a,b,s,y,rfl,c⟩:=hs.at' i p hp;exact ⟨a,b,s,y,c,fun st K=>hx.idx hv st K⟩
theorem gB {a b c d e:AV}:mg 5 true [a,b,c,d,e]=some (.agg [a,b,c,d,e]):=rfl
theorem yg {α:Type} [Inhabited α]: ∀(l:List α),ey l=(List.range ((l.length - 1) / 2)).map fun q=>l.getD (2 * q+1) default
 | []=>by simp [ey]
 | [_]=>by simp [ey]
 | [_,_]=>by simp [ey]
 | z::x::y::l=>by
  have ih:=yg (y::l);simp only [ey,ih];have e:((z::x::y::l:List α).length - 1) / 2=(((y::l).length - 1) / 2)+1:=by simp only [Xk];omega
  rw [e,List.range_succ_eq_map,W8,List.map_map];refine congr (Xy List.cons (by rfl)) ?_;refine List.map_congr_left fun q _=> ?_;show (y::l).getD (2 * q+1) default=(z::x::y::l).getD (2 * (q+1)+1) default;rw [show 2 * (q+1)+1=(2 * q)+1+1+1 by omega];simp only [List.getD_cons_succ]
theorem CR {ps:List (Nat×T)} {x:AV} {es:List AV} (hx:bp 5 x es) (hs:gu lu ps es) (hn:ps.length < 1000000000): ∃y fs,(aV vE).bare 93 [x]=some y/\bp 5 y fs/\gu lu (ey ps) fs:=by
 have hlen:=hs.len;have key:aa (bN vE 93 [x]) fun b=> ∃fs,bp 5 b fs/\gu lu (ey ps) fs:=by
  refine aa.step (O8 _) ?_;unfold VA;refine aa.bind (R:=fun c=> ∃s v ws,c=(0,[v],s)/\Wv S0 s [] 5 56 v ws/\gu lu (ey ps) ws) ?_ ?_
  .rw [yg ps];refine aa.upto (n:=(ps.length - 1) / 2) (I:=fun i c=> ∃s v ws,c=([v,.int .i64 ((2 * i+1:Nat):Int)],s)/\Wv S0 s [] 5 56 v ws/\gu lu ((List.range i).map fun q=>ps.getD (2 * q+1) default) ws) ?_ ?_ ((ps.length - 1) / 2) 0 _ (by omega) ⟨S0,.ay,[],rfl,Wv.start (WW _) _ _,gu.nil⟩
   .rintro i c hi ⟨s,v,ws,rfl,w,hw⟩;have a:2 * i+1 < ps.length:=by omega
    have f:=hw.len;rw [Xn,List.length_range] at f;obtain ⟨a2,b2,g,y,d,e⟩:=oB hx hs (Xl a);obtain ⟨l2,k,_,hy,_⟩:=lq d;have h:IntKind.wrap .i64 ((es.length:Int) - 1)=((es.length - 1:Nat):Int):=rY (m:=1) (by omega) hx.1;simp only [FB,ad,af,ae,hx.len,aB,h,aq,if_pos (show ((2 * i+1:Nat):Int) < ((es.length - 1:Nat):Int) by omega),e,bx,gB,aj,aE,ax,hy.ab,hy.aD];refine aa.KD w (by omega) (by omega) (by omega) fun v2 l _ w=> ?_;simp only [aB,mV (show (2 * i+1)+2<=9223372036854775807 by omega)];refine aa.inl ⟨l,v2,_,by rw [show 2 * (i+1)+1=2 * i+1+2 by omega],w, ?_⟩;rw [List.range_succ,Xh];have o:ps.getD (2 * i+1) default=ps[2 * i+1]:=by rw [Xp,Xl a];rfl
    refine hw.snoc ?_;show lu (ps.getD (2 * i+1) default) _;rw [o];exact ⟨a2,b2,g,y,rfl,d⟩
   .rintro c ⟨s,v,ws,rfl,w,hw⟩;have j:¬ ((2 * ((ps.length - 1) / 2)+1:Nat):Int) < IntKind.wrap .i64 ((es.length:Int) - 1):=by
     have h1:=hx.1;rw [wrap_i64 (by omega) (by omega)];omega
    simp only [FB,ad,af,ae,hx.len,aB,aq,if_neg j];exact aa.inr ⟨s,v,ws,rfl,w,hw⟩
  .rintro c ⟨s,v,ws,rfl,w,hw⟩;simp only [ad,ae,ru];exact aa.TL w fun x hx=>aa.some ⟨ws,hx,hw⟩
 obtain ⟨x,e,fs,hx,hr⟩:=key;exact ⟨x,fs,aX rfl e,hx,hr⟩
abbrev R1 (st:St) (out:List UInt8):Prop:=UY st 146 5 0 [] [] out/\st.ro<=st.h
theorem Li {st:St} {out:List UInt8} (h:R1 st out) (hl:out.length<=1000000000) (b:UInt8): ∃st',R1 st' (out++[b])/\ ∃v l,∀{β:Type} (K:Kv β),bc (aV vE) 123 [.mp 0 0,.int .u8 (b.toNat:Int)] st K=K v st' l:=by
 obtain ⟨m,g⟩:=h;obtain ⟨o,u,h1,h2,h3,h4,p,l,j⟩:=Ct (O:=aV vE) (L:=[(145,2,0),(146,2,0)]) m rfl;obtain ⟨v,a,b1,b2,b3,q,r,t,i⟩:=NZ (s:=[b]) h2 (by simp;omega) (by rw [h4.ro,p];exact g);have f:=r 0 _ (by intro n;simp) h1;have k:=fun (K:Kv (AV×St))=>dq (O:=aV vE) (z:=1) (v:=v) (cs:=[v]) (off:=1) f rfl (by simp) (by rw [b3];exact h3) K;refine ⟨a.put 0 (.cells 146 [.mp 0 0,v]),⟨⟨_,v,St.aQ (St.ch.1 f).1,.inr rfl,b1.put f,by show a.ro<=0;rw [b3];exact h3⟩, ?_⟩, ?_⟩
 .show a.ro<=a.h;rw [b3,h4.ro];exact Xs g (Xs h4.h q)
 .have e:cA vE 123 [.mp 0 0,.int .u8 (b.toNat:Int)] st=some (.nili,a.put 0 (.cells 146 [.mp 0 0,v])):=by
   refine (On _ _ _).trans ?_;have c:=fun {γ:Type} (K:Kv γ)=>i K;have d:=fun {γ:Type} (K:Kv γ)=>j K;simp only [XI,ofBytes,W8,Xm] at c d;simp only [Sy,af,d,ck,aR,ct,Xd,bu h1,W5,mS,bq,aj,c,kJ b2,k];rfl
  exact ⟨_,_,fun K=>gV K rfl rfl (il e)⟩
theorem ji {β:Type} {s:List UInt8} {i:Nat} {c:UInt8} (h:s[i]? =some c) (K:UInt8->Option β):eC s (i:Int) K=K c:=by
 have hl:=(Yb.1 h).1;rw [bI hl,fR hl h]
theorem qL (s:List UInt8) (hs:s.length<=1000000): ∀(m:List UInt8) (i:Nat) (out:List UInt8) (st:St),s.drop i=m->vo m=true->out.length<=i->R1 st out->aa (aK (na s) ([.int .i64 (i:Int)],st)) fun c=> ∃st',c=(0,[],st')/\R1 st' (out++lr m)
 | [],i,out,st,hd,he,ho,o=>by
  have:=Xz.1 hd;refine ⟨(0,[],st),aF ?_,st,rfl,by simpa [lr] using o⟩;simp only [na,ad,af,ae,aq,if_neg (show ¬ (i:Int) < (s.length:Int) by omega)]
 | [c],i,out,st,hd,he,ho,o=>by
  obtain ⟨a,hr,r⟩:=drop_cons hd;have hc:c≠92:=by simpa [vo] using he
  have hne:(((c.toNat:Nat):Int) != 92)=true:=by
   have:=kq hc;simpa using this
  obtain ⟨st1,hB1,v,u,h⟩:=Li o (by omega) c;obtain ⟨q,p,e,rfl,f⟩:=qL s hs [] (i+1) (out++[c]) st1 hr rfl (by simp;omega) hB1;refine ⟨_, ?_,e,rfl,by simpa [lr] using f⟩;rw [aP (s':=([.int .i64 ((i+1:Nat):Int)],st1)),p];simp only [na,ad,af,ae,aq,if_pos (show (i:Int) < (s.length:Int) by omega),ji a,hne,ao,h,aj,cF,aB,bm (show i+1<=9223372036854775807 by omega)]
 | c::d::l,i,out,st,hd,he,ho,o=>by
  obtain ⟨a,hr,r⟩:=drop_cons hd;obtain ⟨g,t,w⟩:=drop_cons hr;by_cases hc:c=92
  .subst hc;have hne:(((92:UInt8).toNat:Int) != 92)=false:=by decide
   have j:=bm (show i+1<=9223372036854775807 by omega);have k:=bm (show i+1+1<=9223372036854775807 by omega);simp only [vo,if_true] at he;have key: ∀b:UInt8,b=(if d=110 then 10 else if d=116 then 9 else d)->aa (aK (na s) ([.int .i64 (i:Int)],st)) fun c=> ∃st',c=(0,[],st')/\R1 st' (out++lr (92::d::l)):=fun b hb=>by
    obtain ⟨st1,hB1,v,u,h⟩:=Li o (by omega) b;obtain ⟨q,p,e,rfl,f⟩:=qL s hs l (i+1+1) (out++[b]) st1 t he (by simp;omega) hB1;refine ⟨_, ?_,e,rfl,by rw [lr,if_pos rfl, <- hb];simpa using f⟩;rw [aP (s':=([.int .i64 ((i+1+1:Nat):Int)],st1)),p];by_cases h1:d=110
    .subst h1;rw [if_pos rfl] at hb;subst hb;have h:=fun {γ:Type} (K:Kv γ)=>h K;have q1:(((110:UInt8).toNat:Int)==110)=true:=by decide
     have n:=fun {γ:Type} (K:Kv γ)=>(show bc (aV vE) 123 [.mp 0 0,.int .u8 10] st K= _ from h K);simp only [na,ad,af,ae,aq,if_pos (show (i:Int) < (s.length:Int) by omega),ji a,ji g,hne,ai,aB,j,q1,ao,n,aj,cF,k]
    .rw [if_neg h1] at hb;have q1:(((d.toNat:Nat):Int)==110)=false:=by
      have:=kq h1;simpa using this
     by_cases h2:d=116
     .subst h2;rw [if_pos rfl] at hb;subst hb;have q2:(((116:UInt8).toNat:Int)==116)=true:=by decide
      have n:=fun {γ:Type} (K:Kv γ)=>(show bc (aV vE) 123 [.mp 0 0,.int .u8 9] st K= _ from h K);simp only [na,ad,af,ae,aq,if_pos (show (i:Int) < (s.length:Int) by omega),ji a,ji g,hne,ai,aB,j,q1,q2,ao,n,aj,cF,k]
     .rw [if_neg h2] at hb;subst hb;have q2:(((b.toNat:Nat):Int)==116)=false:=by
       have:=kq h2;simpa using this
      simp only [na,ad,af,ae,aq,if_pos (show (i:Int) < (s.length:Int) by omega),ji a,ji g,hne,ai,aB,j,q1,q2,h,aj,cF,k]
   exact key _ rfl
  .have hne:(((c.toNat:Nat):Int) != 92)=true:=by
    have:=kq hc;simpa using this
   rw [vo,if_neg hc] at he;obtain ⟨st1,hB1,v,u,h⟩:=Li o (by omega) c;obtain ⟨q,p,e,rfl,f⟩:=qL s hs (d::l) (i+1) (out++[c]) st1 hr he (by simp;omega) hB1;refine ⟨_, ?_,e,rfl,by rw [lr,if_neg hc];simpa using f⟩;rw [aP (s':=([.int .i64 ((i+1:Nat):Int)],st1)),p];simp only [na,ad,af,ae,aq,if_pos (show (i:Int) < (s.length:Int) by omega),ji a,hne,ao,h,aj,cF,aB,bm (show i+1<=9223372036854775807 by omega)]
theorem Mg {s u:List UInt8} (hs:s=34::u++[34]) (he:vo u=true) (hl:s.length<=1000000):(aV vE).bare 94 [.str s]=some (.str (told s)):=by
 have hlen:s.length=u.length+2:=by rw [hs];simp
 have hu:(s.take (s.length - 1)).drop 1=u:=by rw [hlen,hs];simp
 have ht:told s=lr u:=by unfold told;rw [hs];simp
 have i:R1 (St.mk 1 0 (Tr.node (some (VM.Obj.cells 146 [AV.nilp,AV.ay])) Tr.leaf Tr.leaf)) []:=⟨⟨.nilp,.ay,rfl,.inl rfl,.inl ⟨rfl,rfl⟩,WW _⟩,XC _⟩;obtain ⟨q,a,j,rfl,b⟩:=qL u (by omega) u 0 [] _ rfl he (XC _) i;have a:aK (na u) ([.int .i64 0],_)= _:=a;have e:(lr u).length<=1000000:=by
  have: ∀(n:Nat) (l:List UInt8),l.length<=n->(lr l).length<=l.length:=by
   intro n
   induction n with
   | zero=>intro l h;obtain rfl:=List.length_eq_zero_iff.1 (Nat.le_zero.1 h);simp [lr]
   | succ n ih=>
    intro l h
    match l with
    | []=>simp [lr]
    | [c]=>simp [lr]
    | c::d::l=>
     rw [lr];split
     .have:=ih l (by simp at h;omega);simp;omega
     .have:=ih (d::l) (by simp at h ⊢;omega);simp at this ⊢;omega
  have:=this _ u (WW _);omega
 obtain ⟨o,k⟩:=Fo (O:=aV vE) b.1 (by rw [W5];omega) (fun f _ _=>dW f fun g=>some (AV.str g));refine aX rfl ((PQ _).trans ?_);have hw:IntKind.wrap .i64 ((s.length:Int) - 1)=((s.length - 1:Nat):Int):=rY (m:=1) (by omega) (by omega);simp only [Wh,ax,aB,hw,bW (show s.length - 1<=s.length by omega),gN (show 1<=s.length - 1 by omega),aR,hu,a,aj,ae];refine k.trans ?_;rw [W5,ax,ht]
theorem HF {tk:Nat} {s:List UInt8} (e:iA (tk,s)) (hl:s.length<=1000000):(aV vE).bare 69 [.agg [.int .u8 (tk:Int),.str s]]=some (.tup [.int .u8 ((gh tk s).1:Int),.str (gh tk s).2]):=by
 refine aX rfl ((Rj _).trans ?_);have g:((tk:Int)==4)=(tk==4):=bP tk 4;have h:((tk:Int)==5)=(tk==5):=bP tk 5;have i:((tk:Int)==6)=(tk==6):=bP tk 6;have j:((tk:Int)==7)=(tk==7):=bP tk 7;simp only [VK,aE,ad,af,ax,ae,g,h,i,j];unfold gh;by_cases h4:tk=4
 .simp [h4,ao]
 by_cases a:tk=5
 .simp [a,ao,ai]
 by_cases b:tk=6
 .simp [b,ao,ai]
 by_cases d:tk=7
 .obtain ⟨u,hu,he⟩:=e.2.1 d;have c:=fun {γ:Type} (st:St) (K:Kv γ)=>aG (f:=94) st K rfl rfl rfl (Mg hu he hl);rw [WX.2 h4,WX.2 a,WX.2 b,XA.2 d,if_neg h4,if_neg a,if_neg b,if_pos d];simp only [ao,ai,c,ax];rfl
 .rw [WX.2 h4,WX.2 a,WX.2 b,WX.2 d,if_neg h4,if_neg a,if_neg b,if_neg d];rfl
theorem Kw (tk:Nat) (s:List UInt8):(aV vE).bare 37 [.agg [.int .u8 (tk:Int),.str s]]=some (.bool (tk != 0&&(tk != 1&&tk != 2))):=by
 refine aX rfl ((Qx _).trans ?_);have a:((tk:Int) != 0)=(tk != 0):=mA tk 0;have b:((tk:Int) != 1)=(tk != 1):=mA tk 1;have c:((tk:Int) != 2)=(tk != 2):=mA tk 2;simp only [VO,aE,ad,af,ax,ae,a,b,c];cases tk != 0 <;> cases tk != 1 <;> rfl
abbrev VY:AV:= .fn (.func 36) [] [.mp 4 0,.mp 2 0,.mp 3 0,.mp 1 0]
abbrev Vx (fnd:Bool) (a f t:Int):ui:=[(4,82,[VY]),(2,4,[.bool fnd]),(3,3,[.int .i64 a]),(1,40,[.int .i64 f,.int .i64 t]),(0,40,[.int .i64 0,.int .i64 0])]
abbrev Vs (L:List (Nat×Nat)) (a:Nat):ui:=Vx (!L.isEmpty) (a:Int) (kG L).1 (kG L).2
theorem V1 (v:AV) (i o:Nat) (l:List AV) (x:Bool):(bL ((v:: .mp i o::l).map strip)&&x)=false:=by
  simp only [W8,bf,show strip (.mp i o)= .mp i o from rfl,show VM.bare (.mp i o)=false from rfl,X3,YD]
theorem Dr: ∀(l:List T) (t:T) (a:Nat),JH a (l++[t])=JH a l++L3 (a+(bB l).length) t
  | [],t,a=>by simp [JH,bB]
  | u::l,t,a=>by
    rw [Xf,JH,Dr l t,JH,show bB (u::l)=cy u++bB l by simp [bB],W9,Yl,W6]
theorem Fp (L:List (Nat×Nat)) (p q:Nat):(kG (L++[(p,q)])).2=(q:Int)/\(kG (L++[(p,q)])).1=if L.isEmpty=true then (p:Int) else (kG L).1:=by
  unfold kG;refine ⟨by simp, ?_⟩;cases L with
  | nil=>simp
  | cons a l=>simp
theorem NG: ∀(t:T) (v:AV) (st:St) (L:List (Nat×Nat)) (a:Nat),iz t v->Vw st (Vs L a)->a+(cy t).length<=1000000000000->
    aa ((aV vE).wide 36 [v,.mp 4 0,.mp 2 0,.mp 3 0,.mp 1 0] st) fun r=>r.1= .tup []/\Vw r.2 (Vs (L++L3 a t) (a+(cy t).length)):=by
  refine T.ind fun k tk tx l ih v st L a hv hw ha=> ?_;simp only [iz] at hv;obtain ⟨x,es,rfl,hx,hs⟩:=hv;have hlen:=DY hx hs;have m:a+(bB l).length<=1000000000000:=by
    simp only [cy,W9] at ha;omega
  refine aa.wide (aa.step (PY _ _ _ _ _ _) ?_);simp only [VC,aE,ad,af,ax,ae,hx.ab,hx.aD,oz hx hs];refine aa.bind (R:=fun c=> ∃s,c=(0,[],s)/\Vw s (Vs (L++JH a l) (a+(bB l).length))) ?_ ?_
  · refine aa.upto (n:=l.length) (I:=fun i c=> ∃s,c=([.int .i64 (i:Int)],s)/\Vw s (Vs (L++JH a (l.take i)) (a+(bB (l.take i)).length))) ?_ ?_ l.length 0 _ (by omega) ⟨st,rfl,by simpa [JH,bB] using hw⟩
    · rintro i c hi ⟨s,rfl,w⟩
      have b:=jP hi;have hb:=rP l (i+1);have he:(bB (l.take (i+1))).length=(bB (l.take i)).length+(cy l[i]).length:=by rw [b,dy,bR,W9]
      obtain ⟨a2,b2,o,y,d,e⟩:=va hx hs (Xl hi);obtain ⟨l2,p,_,hy,_⟩:=lq d;simp only [Ft,ad,af,ae,aq,if_pos (show (i:Int) < (l.length:Int) by omega)];refine aa.step (e s _) ?_;refine aa.Cd w fun s1 _ w=>aa.step (hy.ab _) ?_;refine aa.ng [] w fun s2 _ _ w=> ?_;refine aa.fT (WZ _ WS) w rfl (aa.fX WS w rfl ?_);simp only [aE,ad,af,ax,ae];refine aa.step (show kK _ _ _ _ _ _=bc (aV vE) 36 [_,.mp 4 0,.mp 2 0,.mp 3 0,.mp 1 0] s2 _ from rfl) ?_;refine aa.gm (ih _ (Yd hi) _ s2 (L++JH a (l.take i)) (a+(bB (l.take i)).length) d (w.sub (Yf _ _)) (by omega)) rfl (V1 _ _ _ _ _) ?_;rintro u g ⟨_,q⟩;simp only [aB,bm (show i+1<=9223372036854775807 by omega)];refine aa.inl ⟨g,rfl, ?_⟩;rw [b,Dr, <- W6, <- b,he, <- Yl];exact q
    · rintro c ⟨s,rfl,w⟩
      rw [Xv] at w;simp only [Ft,ad,af,ae,aq,if_neg (show ¬ ((l.length:Nat):Int) < (l.length:Int) by omega)];exact aa.inr ⟨s,rfl,w⟩
  rintro c ⟨s,rfl,w⟩;simp only [ae,show ((k:Int) != 1)=(k != 1) from mA k 1];simp only [L3,cy] at ha ⊢;by_cases hk:k=1
  · subst hk
    rw [if_pos rfl,W9] at ha;rw [if_pos rfl,W9, <- Yl, <- W6];generalize C:a+(bB l).length=P at *;generalize L++JH a l=M at *;have z:=fun {γ:Type} (st:St) (K:Kv γ)=>aG (f:=37) st K rfl rfl rfl (Kw tk tx);simp only [show ((1:Nat) != 1)=false from rfl,ai,z,ak];refine aa.bind (R:=fun c=> ∃s,c=([],s)/\Vw s (Vx (!(M++if pI 1 tk=true then [(P,P+tx.length)] else []).isEmpty) (P:Int) (kG (M++if pI 1 tk=true then [(P,P+tx.length)] else [])).1 (kG (M++if pI 1 tk=true then [(P,P+tx.length)] else [])).2)) ?_ ?_
    · have h:pI 1 tk=(tk != 0&&(tk != 1&&tk != 2)):=rfl
      rw [<- h];cases hb:pI 1 tk with
      | false=>
        refine aa.step (ai _ _) (aa.some ⟨s,rfl, ?_⟩);simpa using w
      | true=>
        obtain ⟨A,B⟩:=Fp M P (P+tx.length);simp only [if_true,B,A];refine aa.step (ao _ _) (aa.fT (WZ _ WS) w rfl (aa.step (ak _ _) ?_));have hne:(!(M++[(P,P+tx.length)]).isEmpty)=true:=by simp
        rw [hne];have w:Vw s (Vx (!M.isEmpty) (P:Int) (kG M).1 (kG M).2):=w;refine aa.bind (R:=fun c=> ∃s,c=([],s)/\Vw s (Vx true (P:Int) (if M.isEmpty=true then (P:Int) else (kG M).1) (kG M).2)) ?_ ?_
        · cases j:M.isEmpty with
          | false=>
            rw [j] at w;refine aa.step (ai _ _) (aa.some ⟨s,rfl, ?_⟩);simpa using w
          | true=>
            rw [j] at w;refine aa.step (ao _ _) (aa.fT (WZ _ (WZ _ WS)) w rfl (aa.step (af _ _ _) ?_));simp only [ct,XO];refine aa.B5 [_,_,_] w (WU rfl) fun s2 _ _ w=>aa.ng [_] w fun g _ _ w=>aa.some ⟨g,rfl,w⟩
        · rintro c ⟨s2,rfl,w⟩
          refine aa.step (ae _) (aa.fT (WZ _ (WZ _ WS)) w rfl (aa.step (af _ _ _) ?_));simp only [aB,ct,Xd,mD (show P+tx.length<=9223372036854775807 by omega)];exact aa.B5 [_,_,_] w (WU rfl) fun s2 _ _ w=>aa.some ⟨s2,rfl,w⟩
    · rintro c ⟨s2,rfl,w⟩
      refine aa.step (ae _) (aa.fT (WZ _ (WZ _ WS)) w rfl (aa.step (af _ _ _) ?_));simp only [aB,mD (show P+tx.length<=9223372036854775807 by omega)];exact aa.ng [_,_] w fun s2 _ _ w=>aa.some ⟨rfl,w⟩
  · have hp:pI k tk=false:=by simp [pI,hk]
    rw [hp,if_neg (by simp),if_neg hk,Xe,Xe];rw [show (k != 1)=true by simpa using hk];exact aa.step (ao _ _) (aa.some ⟨rfl,w⟩)
theorem wU {p:Nat×T} {v:AV} (h:lu p v) (ha:p.1+(cy p.2).length<=1000000000000):(aV vE).bare 17 [v]=some (.tup [.agg [.int .i64 (mF p.1 p.2).1,.int .i64 (mF p.1 p.2).2],.bool (!(L3 p.1 p.2).isEmpty)]):=by
  obtain ⟨e,b1,s1,y,rfl,a⟩:=h;obtain ⟨f,es,ht,hy,hs⟩:=lq a;obtain ⟨p1,p2⟩:=p;simp only at a ha ht ⊢;refine aX rfl ((Ro _).trans (aa.eq ?_));simp only [g17,aE,ad,af,ax,ae,hy.ab,hy.aD];have w0:Vw (St.mk 5 0 (Tr.node (some (VM.Obj.cells 40 [AV.int .i64 0,AV.int .i64 0])) (Tr.node (some (VM.Obj.cells 40 [AV.int .i64 0,AV.int .i64 0])) (Tr.node (some (VM.Obj.cells 3 [AV.int .i64 (p1:Int)])) Tr.leaf Tr.leaf) Tr.leaf) (Tr.node (some
 (VM.Obj.cells 4 [AV.bool false])) (Tr.node (some (VM.Obj.cells 82 [VY])) Tr.leaf Tr.leaf) Tr.leaf))) (Vs [] p1):=by
    refine ⟨fun q c=> ?_,by show ([4,2,3,1,0]:List Nat).Nodup;decide,XC _⟩;simp only [Vs,Vx,Xb,XS,or_false] at c;rcases c with rfl | rfl | rfl | rfl | rfl <;> (refine ⟨?_,Nat.zero_le _⟩;dsimp only;rfl)
  refine aa.gm (NG _ _ _ [] p1 a w0 ha) rfl (V1 _ _ _ _ _) ?_;rintro u s ⟨_,w⟩;refine aa.fX (WZ _ (WZ _ (WZ _ WS))) w rfl ?_;simp only [aE,ad,af,ae];refine aa.fT (WZ _ WS) w rfl (aa.step (ak _ _) ?_);have hm:=w.v _ (WZ _ (WZ _ (WZ _ (WZ _ WS))));have d:=fun {γ:Type} (K:Kv γ)=>dq (O:=aV vE) (z:=2) (v:= .agg [.int .i64 (kG ([]++L3 p1 p2)).1,.int .i64 (kG ([]++L3 p1 p2)).2]) (cs:=[.int .i64 (kG ([]++L3 p1 p2)).1,.int .i64 (kG ([]++L3 p1 p2)).2]) (off:=0) hm.1 rfl (WU rfl) hm.2 K;refine aa.step (d _) ?_;have b: ∀o,apart ⟨[2],.kept⟩ ⟨[0],.wrote 0 o⟩=true:=fun o=>pF (by decide);rw [b,Yg];refine aa.step (aR _) (aa.step (bu (St.aQ (St.ch.1 hm.1).1) _ _ _ _) ?_);exact aa.some rfl
structure Fit (p:Nat×T):Prop where
 t:p.1+(cy p.2).length<=1000000
 s:(iZ p.2).length<=100000000
theorem nP: ∀(l:List T) (a:Nat),(bX a l).map (·.2)=l
 | [],_=>rfl
 | t::l,a=>by rw [bX,W8,nP l]
theorem HH: ∀(l:List T) (a:Nat),a+(bB l).length<=1000000->(qa l).length<=100000000-> ∀p∈bX a l,Fit p
 | [],_,_,_,p,h=>by cases h
 | t::l,a,h1,h2,p,h=>by
  simp only [bB,qa,W9,Xk] at h1 h2;rcases Xb.1 h with rfl | h
  .exact ⟨by simp only;omega,by simp only;omega⟩
  .exact HH l (a+(cy t).length) (by omega) (by omega) p h
theorem xg: ∀(l:List T),l.length<=(qa l).length
 | []=>WW _
 | t::l=>by
  have:=xg l;simp only [qa,W9,Xk];omega
theorem Fit.kids {a k:Nat} {l:List T} (h:Fit (a,node k l)) (h1:k≠1) (h2:k≠2):a+(bB l).length<=1000000/\l.length < 100000000/\ ∀p∈bX a l,Fit p:=by
 have ht:=h.t;have hs:=h.s;simp only [node,cy,if_neg h1,Xe,iZ,if_neg h2,Xk,W9,XI] at ht hs;have:=xg l;exact ⟨ht,by omega,HH l a ht (by omega)⟩
theorem Fa {ks:List T} (h:Tv iA ks):ks.length<=(bB ks).length:=by
 obtain ⟨r,rfl,hr⟩:=h
 induction r with
 | nil=>exact WW _
 | cons t r ih=>
  have h1:=ih fun x hx=>hr x (WZ _ hx);have h2:=(hr t WS).2.1;have h3:0 < t.2.length:=YC.2 h2;simp only [W8,Xk,bB,W9];have h4:(cy (iy t)).length=t.2.length:=by simp [iy,leaf,cy,bB]
  omega
theorem uC: ∀{l:List iV} {es:List AV} {p:iV} {v:AV},cY l es->zJ p v->cY (l++[p]) (es++[v])
 | [],_,_,_,h,k=>by simp only [cY] at h;subst h;exact cY.cons k cY.nil
 | p::l,_,_,_,h,k=>by
  simp only [cY] at h;obtain ⟨w,ws,rfl,h1,h2⟩:=h;exact cY.cons h1 (uC h2 k)
abbrev sP:TypeId:=48
abbrev z6:List AV:=[.int .u8 0,.int .u8 0,.int .i64 0,.int .i64 0,.str [],.ay]
abbrev rA (k lit:Nat) (sp:Sp) (nm:List UInt8) (x:AV):List AV:=[.int .u8 (k:Int),.int .u8 (lit:Int),.int .i64 sp.1,.int .i64 sp.2,.str nm,x]
def ny (p:Nat×T):Prop:= ∀v,lu p v->aa ((aV vE).bare 68 [v]) fun x=>zJ (iu p.1 p.2) x
theorem gT {p:iV} {v:AV} (h:zJ p v): ∃k lit sp nm ps x es,p= .mk k lit sp nm ps/\v= .agg (rA k lit sp nm x)/\bp 6 x es/\cY ps es:=by
 cases p with
 | mk k lit sp nm ps=>
  obtain ⟨x,es,e,h1,h2⟩:=h.UE;exact ⟨k,lit,sp,nm,ps,x,es,rfl,e,h1,h2⟩
theorem DZ {p:Nat×T} {v:AV} (h:lu p v):VM.bare v=true/\VM.strip v=v:=by
 obtain ⟨a,b,s,y,rfl,c⟩:=h;obtain ⟨l,es,_,hy,_⟩:=lq c;refine ⟨?_,rfl⟩;rw [nN];simp only [bf,hy.bare];rfl
theorem qR {a b c d e f g:AV}:mg 7 true [a,b,c,d,e,f,g]=some (.agg [a,b,c,d,e,f,g]):=rfl
theorem iI {F:FuncId} {p:Nat×T} {v r:AV} (a:lu p v) (hf:vE.full F=false) (h:(aV vE).bare F [v]=some r) {β:Type} (st:St) (K:Kv β):bc (aV vE) F [v] st K=K r st q0:=
 aG st K hf (by simp only [W8,Xm,(DZ a).2]) (by simp only [bf,(DZ a).1];rfl) h
theorem wM {ps:List (Nat×T)} {x:AV} {es:List AV} (hx:bp 5 x es) (hs:gu lu ps es) (hn:ps.length < 1000000000) (ih: ∀p∈ps,ny p) (st:St) (g:st.ro<=st.h):
  aa ((aV vE).wide 34 [x] st) fun r=> ∃ws,Wv st r.2 [] 6 sP r.1 ws/\cY (ps.map fun p=>iu p.1 p.2) ws:=by
 have hlen:=hs.len;refine aa.wide (aa.step (Ql _ _) ?_);simp only [V3,hx.len];refine aa.bind (R:=fun c=> ∃s v ws,c=(0,[v],s)/\Wv st s [] 6 sP v ws/\cY (ps.map fun p=>iu p.1 p.2) ws) ?_ ?_
 .refine aa.upto (n:=es.length) (I:=fun i c=> ∃s v ws,c=([v,.int .i64 (i:Int)],s)/\Wv st s [] 6 sP v ws/\cY ((ps.take i).map fun p=>iu p.1 p.2) ws) ?_ ?_ es.length 0 _ (by omega) ⟨st,.ay,[],rfl,Wv.start g _ _,by simpa using cY.nil⟩
  .rintro i c hi ⟨s,v,ws,rfl,w,hw⟩;have a:i < ps.length:=by omega
   have j:=hw.len;rw [Xn,Xg] at j;obtain ⟨a2,b2,b,y,d,e⟩:=oB hx hs (Xl a);obtain ⟨l2,m,_,hy,_⟩:=lq d;have l:lu ps[i] (.agg [.int .u8 (a2:Int),.int .u8 (b2:Int),.str b,y,.int .i64 (ps[i].1:Int)]):=⟨a2,b2,b,y,rfl,d⟩;obtain ⟨u,o,hu⟩:=ih _ (Yd a) _ l;obtain ⟨k,lit,sp,nm,z,A,fs,B,rfl,f,q⟩:=gT hu;simp only [Ge,ad,af,ae,aq,if_pos (show (i:Int) < (es.length:Int) by omega),e,bx,gB,aj,aE,ax];refine aa.ux w fun s1 _ w=>aa.step (hy.ab _) ?_;refine aa.vi [] w fun s2 _ _ w=>aa.fX WS w.w rfl ?_;simp only [aE,ad,af,ax,ae];refine aa.step (iI l rfl o s2 _) ?_;simp only [aE,ad,af,ax,ae,f.ab,f.aD];refine aa.KD w (by omega) (by omega) (by omega) fun v2 t _ w=> ?_;simp only [aB,bm (show i+1<=9223372036854775807 by omega)];refine aa.inl ⟨t,v2,_,rfl,w.none, ?_⟩;rw [jP a,Xh];exact uC hw hu
  .rintro c ⟨s,v,ws,rfl,w,hw⟩;simp only [Ge,ad,af,ae,aq,if_neg (show ¬ ((es.length:Nat):Int) < (es.length:Int) by omega)];rw [hlen,Xv] at hw;exact aa.inr ⟨s,v,ws,rfl,w,hw⟩
 .rintro c ⟨s,v,ws,rfl,w,hw⟩;simp only [ad,ae,ru];exact aa.some ⟨ws,w,hw⟩
theorem Lu {st:St} {x x':AV} {ws:List AV} (hx:bp 6 x' ws) (hf: ∀n,VM.freeze st 0 (n+1) x= .ok x') (k lit:Int) (a b:Int) (nm:List UInt8) {β:Type} (K:AV->Option β):
  gR st 0 (.agg [.int .u8 k,.int .u8 lit,.int .i64 a,.int .i64 b,.str nm,x]) K=K (.agg [.int .u8 k,.int .u8 lit,.int .i64 a,.int .i64 b,.str nm,x']):=by
 refine CN (cr (gM _ _ st 0 99 (by omega)) (cr (gM _ _ st 0 99 (by omega)) (cr (gM _ _ st 0 99 (by omega)) (cr (gM _ _ st 0 99 (by omega)) (cr (Bx _ st 0 99 (by omega)) (cr (hf 98) sT)))))) ?_ K;simp only [bf,hx.bare];rfl
theorem JM {k lit:Nat} {sp:Sp} {nm:List UInt8} {ps:List iV} {x:AV} {es:List AV} (hx:bp 6 x es) (hp:cY ps es):zJ (.mk k lit sp nm ps) (.agg (rA k lit sp nm x)):=by
 simp only [zJ];exact ⟨x,es,rfl,hx,hp⟩
theorem NP {l:List T} {a:Nat}:(ey (bX a l)).map (·.2)=ey l:=by rw [<- jZ,nP]
theorem wJ {α:Type}: ∀{l:List α} {x:α},x∈ey l->x∈l
 | [],_,h=>by simp [ey] at h
 | [_],_,h=>by simp [ey] at h
 | [_,_],_,h=>by simp [ey] at h
 | _::x::y::l,u,h=>by
  simp only [ey,Xb] at h;rcases h with rfl | h
  .simp
  .have:=wJ (l:=y::l) h;simp only [Xb] at this ⊢;exact .inr (.inr this)
theorem pV {α:Type}: ∀(l:List α),(ey l).length<=l.length
 | []=>WW _
 | [_]=>by simp [ey]
 | [_,_]=>by simp [ey]
 | _::x::y::l=>by
  have:=pV (y::l);simp only [ey,Xk] at this ⊢;omega
theorem ml: ∀(l:List T) (a:Nat),pC a l=(bX a l).map fun p=>iu p.1 p.2
 | [],_=>rfl
 | t::l,a=>by rw [pC,bX,W8,ml l]
abbrev OK (k lit:Nat) (sp:Sp) (nm:List UInt8) (x:AV):ui:=[(1,sP,rA k lit sp nm x),(0,sP,z6)]
def TH (p:Nat×T) (S:Sp) {X:Type} (f:AV->X) (c:Sum bT X):Prop:=(∃s k2 lit nm z ws ps,c= .inl ([],s)/\Vo s (OK k2 lit S nm z) 6 sP z ws/\cY ps ws/\iu p.1 p.2= .mk k2 lit S nm ps)\/ ∃r,c= .inr (f r)/\zJ (iu p.1 p.2) r
theorem ON {p:Nat×T} {S:Sp} {X:Type} (f:AV->X) (c:Sum bT (Sum bT X)) (h:TH p S (fun r=>Sum.inr (f r)) c):aa (iK c fun c=>bC c.1 (some (Sum.inl ([],c.2)))) (TH p S f):=by
 rcases h with ⟨s,k2,lit,nm,z,ws,ps,rfl,h⟩ | ⟨r,rfl,hr⟩
 .exact aa.some (.inl ⟨s,k2,lit,nm,z,ws,ps,rfl,h⟩)
 .exact aa.some (.inr ⟨r,rfl,hr⟩)
theorem qT (l:List AV):(bL (l.map strip)&& !vE.full 34)=false:=by rw [show vE.full 34=true from rfl];simp
theorem G0 {a b c d e f:AV}:mg 6 true [a,b,c,d,e,f]=some (.agg [a,b,c,d,e,f]):=rfl
theorem Na: ∀{l:List iV} (_:l.length≠1) (S:Sp),Dh S l= .mk 18 0 S [] l
 | [],_,_=>rfl
 | [_],h,_=>absurd rfl h
 | _:: _:: _,_,_=>rfl
theorem yi {p:Nat×T} {k tk:Nat} {tx:List UInt8} {l:List T} (hp:p.2= .mk k tk tx l) (hf:Fit p) (hl:l.length < 1000000000) (ht:p.1+(bB l).length<=1000000)
  (d:k≠16->k≠17->k≠18->iA (tk,tx)/\tx.length<=1000000) (C:k=16-> ∀i W,(i=0\/i=2)->(bX p.1 l)[i]? =some W->ny W) (h:k=16->l.length=3) (D: ∀W∈ey (bX p.1 l),(k=17\/k=18)->ny W):ny p:=by
 rintro v hv;have hsp:=wU hv (by have:=hf.t;omega);have E:lu (p.1,.mk k tk tx l) v:=by rw [<- hp];exact hv
 obtain ⟨x,es,Z,hx,hs⟩:=qm E (by omega) hl;have ar:=fun {γ:Type} (st:St) (K:Kv γ)=>iI hv rfl hsp st K;have av:=fun {γ:Type} (st:St) (K:Kv γ)=>iI hv rfl Z st K;have g:iu p.1 p.2=rK k tk tx (mF p.1 p.2) ((bX p.1 l).map fun q=>iu q.1 q.2):=by rw [hp,iu,ml]
 obtain ⟨a1,b1,s1,y,rfl,hN⟩:=E;obtain ⟨l',es',aw,hy,cc⟩:=lq hN;cases aw;generalize hS:mF p.1 p.2=S at *;refine aa.bare rfl (aa.step (RI _) ?_);simp only [Ww,aE,ad,af,ax,ae,hy.ab,hy.aD];refine aa.step (ar _ _) ?_;simp only [cf,bw,bG,aE,ad,af,ae,ak];have w0:Vo (St.mk 2 0 (Tr.node (some (VM.Obj.cells sP z6)) (Tr.node (some (VM.Obj.cells sP z6)) Tr.leaf Tr.leaf) Tr.leaf)) [(1,sP,z6),(0,sP,z6)] 6 sP .ay []:=by
  refine ⟨⟨fun q d=> ?_,by show ([1,0]:List Nat).Nodup;decide,XC _⟩,iS.ay (XC _) _ _⟩;simp only [Xb,XS,or_false] at d;rcases d with rfl | rfl <;> (refine ⟨?_,Nat.zero_le _⟩;dsimp only;rfl)
 refine aa.mh [] w0 (WU rfl) fun s1 o1 _ w=>aa.step (av _ _) ?_;have w:Vo s1 (OK 0 0 S [] .ay) 6 sP .ay []:=w;have a6:((k:Int)==16)=(k==16):=bP k 16;have a7:((k:Int)==17)=(k==17):=bP k 17;have a8:((k:Int)==18)=(k==18):=bP k 18;simp only [a6,a7,a8];refine aa.bind (R:=TH p S id) ?_ ?_
 .by_cases h1:k=16
  .obtain ⟨p0,hp0⟩: ∃p0,(bX p.1 l)[0]? =some p0:=⟨_,Xl (by rw [dt,h h1];omega)⟩;obtain ⟨p2,j⟩: ∃p2,(bX p.1 l)[2]? =some p2:=⟨_,Xl (by rw [dt,h h1];omega)⟩;obtain ⟨a0,b0,s0,y0,bb,e0⟩:=oB hx hs hp0;obtain ⟨a2,b2,s2,y2,bt,e2⟩:=oB hx hs j;have F:lu p0 (.agg [.int .u8 (a0:Int),.int .u8 (b0:Int),.str s0,y0,.int .i64 (p0.1:Int)]):=⟨a0,b0,s0,y0,rfl,bb⟩;have G:lu p2 (.agg [.int .u8 (a2:Int),.int .u8 (b2:Int),.str s2,y2,.int .i64 (p2.1:Int)]):=⟨a2,b2,s2,y2,rfl,bt⟩;obtain ⟨u0,b4,H⟩:=C h1 0 p0 (.inl rfl) hp0 _ F;obtain ⟨u2,b5,I⟩:=C h1 2 p2 (.inr rfl) j _ G;obtain ⟨k3,e,m,A,J,y3,b6,L,rfl,b,M⟩:=gT H;obtain ⟨k4,N,b7,b8,cd,y4,cg,cn,rfl,O,cp⟩:=gT I;have e0: ∀{β:Type} (st:St) (K:AV->List Nat->Option β),bU 5 x 0 st K= _:=e0;have e2: ∀{β:Type} (st:St) (K:AV->List Nat->Option β),bU 5 x 2 st K= _:=e2;have c0:=fun {γ:Type} (st:St) (K:Kv γ)=>iI F rfl b4 st K;have c2:=fun {γ:Type} (st:St) (K:Kv γ)=>iI G rfl b5 st K;rw [XA.2 h1];refine aa.step (ao _ _) ?_;simp only [e0,e2,c0,c2,bx,gB,aj,aE,ad,af,ax,ae,fU,fb,Xt,aR,b.ab,b.aD,O.ab,O.aD];refine aa.mh [] w (WU rfl) fun s5 o5 _ w=>aa.step (aR _) (aa.mh [] w (WU rfl) fun P o6 _ w=>aa.some (.inl ⟨P,20,0,[],.sl 6 [.agg (rA k3 e m A y3),.agg (rA k4 N b7 b8 y4)] .shut,_,[iu p0.1 p0.2,iu p2.1 p2.2],rfl,Vo.new w (.inr rfl) (WU rfl),cY.cons H (cY.cons I cY.nil), ?_⟩))
   .rw [g,rK,if_pos h1];simp only [Xp,XG,hp0,j,Option.map_some,Option.getD_some]
  .rw [WX.2 h1];refine aa.step (ai _ _) (aa.bind (R:=TH (X:=Sum bT AV) p S fun r=>Sum.inr (id r)) ?_ (ON id));by_cases h2:k=18
   .obtain ⟨z,gs,eo,hz,hg⟩:=CR hx hs (by rw [dt];exact hl);have co:=fun {γ:Type} (st:St) (K:Kv γ)=>aG (f:=93) st K rfl (by simp only [W8,Xm,hx.strip]) (by simp only [bf,hx.bare];rfl) eo;rw [XA.2 h2];refine aa.step (ao _ _) (aa.step (co _ _) ?_);refine aa.gm (wM hz hg (by have:=pV (bX p.1 l);rw [dt] at this;omega) (fun q d=>D q d (.inr h2)) s1 w.w.ro) rfl (qT _) ?_;rintro v5 s5 ⟨ws,w5,hps⟩;have w:=w.call w5;refine aa.mh [] w (WU rfl) fun P o6 _ w=>aa.one w.o.one (aa.one w.o.one (aa.mh [] w (WU rfl) fun B Y _ w=>aa.some (.inl ⟨B,19,0,[],_,_,_,rfl,w,hps, ?_⟩)));rw [g,rK,if_neg h1,if_pos h2,jZ]
   .rw [WX.2 h2];refine aa.step (ai _ _) (aa.bind (R:=TH (X:=Sum bT (Sum bT AV)) p S fun r=>Sum.inr (Sum.inr r)) ?_ (ON (X:=Sum bT AV) fun r=>Sum.inr r));by_cases h3:k=17
    .obtain ⟨z,gs,eo,hz,hg⟩:=CR hx hs (by rw [dt];exact hl);have co:=fun {γ:Type} (st:St) (K:Kv γ)=>aG (f:=93) st K rfl (by simp only [W8,Xm,hx.strip]) (by simp only [bf,hx.bare];rfl) eo;rw [XA.2 h3];refine aa.step (ao _ _) (aa.step (co _ _) ?_);refine aa.gm (wM hz hg (by have:=pV (bX p.1 l);rw [dt] at this;omega) (fun q d=>D q d (.inl h3)) s1 w.w.ro) rfl (qT _) ?_;rintro v5 s5 ⟨ws,w5,hps⟩;have w:=w.call w5;have a:iu p.1 p.2=Dh S ((ey (bX p.1 l)).map fun q=>iu q.1 q.2):=by rw [g,rK,if_neg h1,if_neg h2,if_pos h3,jZ]
     refine aa.mh [] w (WU rfl) fun P o6 _ w=>aa.one w.o.one (aa.one w.o.one (aa.mh [] w (WU rfl) fun B Y _ w=> ?_));refine aa.fT WS w.w rfl (aa.step (Ht w.o _) ?_);by_cases Q:ws.length=1
     .obtain ⟨q,d⟩: ∃q,(ey (bX p.1 l)).map (fun q=>iu q.1 q.2)=[q]:=by
       have:=hps.len;exact List.length_eq_one_iff.1 (by omega)
      rw [d] at hps;simp only [cY] at hps;obtain ⟨u,us,rfl,hu,rfl⟩:=hps;obtain ⟨k3,e,m,A,J,y3,b6,L,rfl,b,M⟩:=gT hu;refine aa.step (ao _ _) (aa.fT WS w.w rfl (aa.step (Ck w.o (k:=0) rfl _ _) ?_));simp only [jK,bx,G0,aj,aE,ad,af,ax,ae,b.ab];refine aa.mh [_] w (WU rfl) fun s8 o8 _ w=> ?_;have U:iu p.1 p.2= .mk k3 e m A J:=by rw [a,d];exact L
      refine aa.bind (R:=fun c=> ∃r,c=Sum.inr (Sum.inr r)/\zJ (iu p.1 p.2) r) (aa.bind (R:=fun c=> ∃r,c=Sum.inr r/\zJ (iu p.1 p.2) r) (aa.bind (R:=fun r=>zJ (iu p.1 p.2) r) (aa.fX (WZ _ WS) w.w rfl ?_) fun r hr=>aa.some ⟨r,rfl,hr⟩) ?_) ?_
      .show aa (uk (.agg [_,_,_,_,_,_]) _) _;simp only [aE,ad,af,ax,ae];refine aa.step (Lu b (fun n=>yl b _ 0 (n+1) (by omega)) _ _ _ _ _ _) (aa.some ?_);rw [U];exact JM b M
      .rintro c ⟨r,rfl,hr⟩;exact aa.some ⟨r,rfl,hr⟩
      .rintro c ⟨r,rfl,hr⟩;exact aa.some (.inr ⟨r,rfl,hr⟩)
     .rw [show ((ws.length:Int)==1)=false by rw [WX];omega];refine aa.step (ai _ _) (aa.some (.inl ⟨B,18,0,[],_,_,_,rfl,w,hps, ?_⟩));rw [a];exact Na (by rw [<- hps.len];exact Q) S
    .obtain ⟨d,b9⟩:=d h1 h3 h2;have cl:=fun {γ:Type} (st:St) (K:Kv γ)=>aG (f:=69) st K rfl rfl rfl (HF d b9);rw [WX.2 h3];refine aa.step (ai _ _) (aa.step (cl _ _) ?_);simp only [cf,bw,bG,af,ax];refine aa.mh [] w (WU rfl) fun s5 o5 _ w=>aa.mh [] w (WU rfl) fun P o6 _ w=> ?_;have w:Vo P (OK 0 (gh tk tx).1 S (gh tk tx).2 .ay) 6 sP .ay []:=w;have a:iu p.1 p.2=if (gh tk tx).1=1 then .mk 15 0 S (gh tk tx).2 [] else if tk=8 then .mk 16 0 S [] [] else .mk 17 (gh tk tx).1 S (gh tk tx).2 []:=by rw [g,rK,if_neg h1,if_neg h2,if_neg h3]
     refine aa.fT WS w.w rfl (aa.step (af _ _ _) ?_);have e1:(((gh tk tx).1:Int)==1)=((gh tk tx).1==1):=bP _ 1;have e8:((tk:Int)==8)=(tk==8):=bP tk 8;rw [e1,e8];by_cases g1:(gh tk tx).1=1
     .rw [XA.2 g1];rw [if_pos g1] at a;refine aa.bind (R:=fun c=> ∃s,c=([],s)/\Vo s (OK 15 0 S (gh tk tx).2 .ay) 6 sP .ay []) (aa.step (ao _ _) (aa.mh [] w (WU rfl) fun B Y _ w=>aa.mh [] w (WU rfl) fun s8 o8 _ w=>aa.some ⟨s8,rfl,w⟩)) ?_;rintro c ⟨s,rfl,w⟩;exact aa.some (.inl ⟨s,15,0,_,_,_,_,rfl,w,cY.nil,a⟩)
     .rw [WX.2 g1];rw [if_neg g1] at a;by_cases g8:tk=8
      .rw [XA.2 g8];rw [if_pos g8] at a;refine aa.bind (R:=fun c=> ∃s,c=([],s)/\Vo s (OK 16 0 S [] .ay) 6 sP .ay []) (aa.step (ai _ _) (aa.bind (R:=fun c=> ∃s,c=([],s)/\Vo s (OK 16 0 S [] .ay) 6 sP .ay []) (aa.step (ao _ _) (aa.mh [] w (WU rfl) fun B Y _ w=>aa.mh [] w (WU rfl) fun s8 o8 _ w=>aa.mh [] w (WU rfl) fun s9 o9 _ w=>aa.some ⟨s9,rfl,w⟩)) ?_)) ?_
       .rintro c ⟨s,rfl,w⟩;exact aa.some ⟨s,rfl,w⟩
       .rintro c ⟨s,rfl,w⟩;exact aa.some (.inl ⟨s,16,0,_,_,_,_,rfl,w,cY.nil,a⟩)
      .rw [WX.2 g8];rw [if_neg g8] at a;refine aa.bind (R:=fun c=> ∃s,c=([],s)/\Vo s (OK 17 (gh tk tx).1 S (gh tk tx).2 .ay) 6 sP .ay []) (aa.step (ai _ _) (aa.bind (R:=fun c=> ∃s,c=([],s)/\Vo s (OK 17 (gh tk tx).1 S (gh tk tx).2 .ay) 6 sP .ay []) (aa.step (ai _ _) (aa.mh [] w (WU rfl) fun B Y _ w=>aa.some ⟨B,rfl,w⟩)) ?_)) ?_
       .rintro c ⟨s,rfl,w⟩;exact aa.some ⟨s,rfl,w⟩
       .rintro c ⟨s,rfl,w⟩;exact aa.some (.inl ⟨s,17,_,_,_,_,_,rfl,w,cY.nil,a⟩)
 .rintro c (⟨s,k2,lit,nm,z,ws,ps,rfl,w,hps,cb⟩ | ⟨r,rfl,hr⟩)
  .simp only [cF,ae];refine aa.fX WS w.w rfl ?_;simp only [aE,ad,af,ax,ae];refine aa.one w.o.one (aa.mh [_] w (WU rfl) fun s2 o2 _ w=> ?_);refine aa.fX (WZ _ WS) w.w rfl ?_;obtain ⟨x',V,hf'⟩:=sH w.o;show aa (uk (.agg [_,_,_,_,_,_]) _) _;simp only [aE,ad,af,ax,ae];refine aa.step (Lu V hf' _ _ _ _ _ _) (aa.some ?_);rw [cb];exact JM V hps
  .exact aa.some hr
theorem Ha {b:Bool}: ∀(n:Nat) (l:List T),l.length<=n->RP iA b l-> ∀o a c,PT iA a-> ∀t∈ey (o::a::(l++[c])),PT iA t
 | n,[],_,_,o,a,c,ha,t,ht=>by
  simp only [W5,ey,Xb,XS,or_false] at ht;rw [ht];exact ha
 | 0,_:: _,h,_,_,_,_,_,_,_=>by simp at h
 | n+1,s::l,h,hl,o,a,c,ha,t,ht=>by
  cases hl with
  | cons hb hx hl=>
   rename_i x d;simp only [Xf,ey,Xb] at ht;rcases ht with rfl | ht
   .exact ha
   .exact Ha n d (by simp at h;omega) hl s x c hx t ht
theorem Bz {b:Bool}: ∀(n:Nat) (l:List T),l.length<=n->RZ iA b l-> ∀o a c,ET iA a-> ∀t∈ey (o::a::(l++[c])),ET iA t
 | n,[],_,_,o,a,c,ha,t,ht=>by
  simp only [W5,ey,Xb,XS,or_false] at ht;rw [ht];exact ha
 | 0,_:: _,h,_,_,_,_,_,_,_=>by simp at h
 | n+1,s::l,h,hl,o,a,c,ha,t,ht=>by
  cases hl with
  | cons hb hx hl=>
   rename_i x d;simp only [Xf,ey,Xb] at ht;rcases ht with rfl | ht
   .exact ha
   .exact Bz n d (by simp at h;omega) hl s x c hx t ht
theorem qU {l:List T} {a:Nat} {p:Nat×T} (h:p∈bX a l):p.2∈l:=by
 have:=List.mem_map_of_mem (f:=fun q:Nat×T=>q.2) h;rw [nP] at this;exact this
theorem BU {l:List T} {a:Nat} {p:Nat×T} (h:p∈ey (bX a l)):p.2∈ey l:=by
 have:=List.mem_map_of_mem (f:=fun q:Nat×T=>q.2) h;rw [NP] at this;exact this
theorem yJ {k:Nat} {l:List T} {t:T} (h:t∈l):SizeOf.sizeOf t < SizeOf.sizeOf (node k l):=by
 have:=List.sizeOf_lt_of_mem h;simp only [node,T.mk.sizeOf_spec];omega
theorem E1 {a k:Nat} {tx:List UInt8} {ks:List T} (h:Fit (a,.mk 1 k tx ks)) (ht:Tv iA ks):ks.length < 1000000000/\a+(bB ks).length<=1000000/\tx.length<=1000000:=by
 have h1:=h.t;have h2:=Fa ht;simp only [cy,if_true,W9] at h1;exact ⟨by omega,by omega,by omega⟩
theorem yE {a k:Nat} {l:List T} (hf:Fit (a,node k l)) (h1:k≠1) (h2:k≠2) (hk:k=16\/k=17\/k=18) (d:k=16-> ∀i c,(i=0\/i=2)->(bX a l)[i]? =some c->ny c) (b:k=16->l.length=3) (e: ∀c∈ey (bX a l),(k=17\/k=18)->ny c):ny (a,node k l):=by
 obtain ⟨g1,g2,g3⟩:=hf.kids h1 h2;exact yi rfl hf (by omega) g1 (fun f g h=>by omega) d b e
theorem F6: ∀(n:Nat) (t:T) (a:Nat),SizeOf.sizeOf t < n->PT iA t->Fit (a,t)->ny (a,t):=by
 intro n
 induction n with
 | zero=>intro t a h;omega
 | succ n ih=>
  intro t a hn g hf;cases g with
  | leaf j hk ht=>
   obtain ⟨g1,g2,g3⟩:=E1 hf ht;exact yi rfl hf g1 g2 (fun _ _ _=>⟨j,g3⟩) (fun e=>by cases e) (fun e=>by cases e) (fun p _ e=>by rcases e with e | e <;> cases e)
  | cons ha ho hb=>
   rename_i x op y;obtain ⟨g1,g2,g3⟩:=hf.kids (by decide) (by decide);refine yE hf (by decide) (by decide) (.inl rfl) (fun _ i f hi hp=> ?_) (fun _=>rfl) (fun p _ e=>by rcases e with e | e <;> cases e);have hm:=Xo hp;have hs:=yJ (k:=16) (qU hm);have d:PT iA f.2:=by
    rcases hi with rfl | rfl
    .obtain rfl: _=f:=by simpa [bX] using hp
     exact ha
    .obtain rfl: _=f:=by simpa [bX] using hp
     exact hb
   exact ih f.2 f.1 (by omega) d (g3 f hm)
  | none ho hc=>
   rename_i list o c;have hk:kindOf list true=17\/kindOf list true=18:=by cases list <;> decide
   have b:kindOf list true≠1/\kindOf list true≠2/\kindOf list true≠16:=by cases list <;> decide
   refine yE hf b.1 b.2.1 (.inr hk) (fun e=>absurd e b.2.2) (fun e=>absurd e b.2.2) (fun p hp _=> ?_);simp [bX,ey] at hp
  | some ho ha hl hc=>
   rename_i list o c x l;have hk:kindOf list true=17\/kindOf list true=18:=by cases list <;> decide
   have b:kindOf list true≠1/\kindOf list true≠2/\kindOf list true≠16:=by cases list <;> decide
   obtain ⟨g1,g2,g3⟩:=hf.kids b.1 b.2.1;refine yE hf b.1 b.2.1 (.inr hk) (fun e=>absurd e b.2.2) (fun e=>absurd e b.2.2) (fun p hp _=> ?_);have hm:=wJ hp;have hs:=yJ (k:=kindOf list true) (qU hm);have d:=Ha _ l (WW _) hl o x c ha p.2 (BU hp);exact ih p.2 p.1 (by omega) d (g3 p hm)
abbrev sw:TypeId:=44
abbrev z7:List AV:=[.int .u8 0,.int .i64 0,.int .i64 0,.bool false,.str [],.ay,.ay]
abbrev eM (k:Nat) (sp:Sp) (rc:Bool) (nm:List UInt8) (x y:AV):List AV:=[.int .u8 (k:Int),.int .i64 sp.1,.int .i64 sp.2,.bool rc,.str nm,x,y]
def fA (p:Nat×T):Prop:= ∀v,lu p v->aa ((aV vE).bare 35 [v]) fun x=>vO (cM p.1 p.2) x
theorem gF {e:jG} {v:AV} (h:vO e v): ∃k sp rc nm ps ls x es y fs,e= .mk k sp rc nm ps ls/\v= .agg (eM k sp rc nm x y)/\bp 6 x es/\cY ps es/\bp 7 y fs/\eO ls fs/\ps.length<=100000000:=by
 cases e with
 | mk k sp rc nm ps ls=>
  have hf:=h.WJ;obtain ⟨x,es,y,fs,e,h1,h2,h3,h4⟩:=h.UE;exact ⟨k,sp,rc,nm,ps,ls,x,es,y,fs,rfl,e,h1,h2,h3,h4,hf⟩
theorem uR {k:Nat} {sp:Sp} {rc:Bool} {nm:List UInt8} {ps:List iV} {ls:List jG} {x y:AV} {es fs:List AV} (hx:bp 6 x es) (hp:cY ps es) (hy:bp 7 y fs) (hl:eO ls fs) (hn:ps.length<=100000000):vO (.mk k sp rc nm ps ls) (.agg (eM k sp rc nm x y)):=by
 simp only [vO];exact ⟨x,es,y,fs,rfl,hx,hp,hy,hl,hn⟩
theorem uE: ∀{l:List jG} {es:List AV} {p:jG} {v:AV},eO l es->vO p v->eO (l++[p]) (es++[v])
 | [],_,_,_,h,k=>by simp only [eO] at h;subst h;exact eO.cons k eO.nil
 | p::l,_,_,_,h,k=>by
  simp only [eO] at h;obtain ⟨w,ws,rfl,h1,h2⟩:=h;exact eO.cons h1 (uE h2 k)
theorem gr: ∀(l:List T) (a:Nat),gz a l=(bX a l).map fun p=>cM p.1 p.2
 | [],_=>rfl
 | t::l,a=>by rw [gz,bX,W8,gr l]
theorem kM {ps:List (Nat×T)} {x:AV} {es:List AV} (hx:bp 5 x es) (hs:gu lu ps es) (hn:ps.length < 1000000000) (ih: ∀p∈ps,fA p) (st:St) (j:st.ro<=st.h):
  aa ((aV vE).wide 96 [x] st) fun r=> ∃ws,Wv st r.2 [] 7 sw r.1 ws/\eO (ps.map fun p=>cM p.1 p.2) ws:=by
 have hlen:=hs.len;refine aa.wide (aa.step (QD _ _) ?_);simp only [Wf,hx.len];refine aa.bind (R:=fun c=> ∃s v ws,c=(0,[v],s)/\Wv st s [] 7 sw v ws/\eO (ps.map fun p=>cM p.1 p.2) ws) ?_ ?_
 .refine aa.upto (n:=es.length) (I:=fun i c=> ∃s v ws,c=([v,.int .i64 (i:Int)],s)/\Wv st s [] 7 sw v ws/\eO ((ps.take i).map fun p=>cM p.1 p.2) ws) ?_ ?_ es.length 0 _ (by omega) ⟨st,.ay,[],rfl,Wv.start j _ _,by simpa using eO.nil⟩
  .rintro i c hi ⟨s,v,ws,rfl,w,hw⟩;have a:i < ps.length:=by omega
   have l:=hw.len;rw [Xn,Xg] at l;obtain ⟨a2,b2,b,y,d,e⟩:=oB hx hs (Xl a);obtain ⟨l2,o,_,hy,_⟩:=lq d;have m:lu ps[i] (.agg [.int .u8 (a2:Int),.int .u8 (b2:Int),.str b,y,.int .i64 (ps[i].1:Int)]):=⟨a2,b2,b,y,rfl,d⟩;obtain ⟨u,q,hu⟩:=ih _ (Yd a) _ m;obtain ⟨k,sp,rc,nm,B,ls,C,gs,D,fs,E,rfl,f,t,g,z,_⟩:=gF hu;simp only [F8,ad,af,ae,aq,if_pos (show (i:Int) < (es.length:Int) by omega),e,bx,gB,aj,aE,ax];refine aa.ux w fun s1 _ w=>aa.step (hy.ab _) ?_;refine aa.vi [] w fun s2 _ _ w=>aa.fX WS w.w rfl ?_;simp only [aE,ad,af,ax,ae];refine aa.step (iI m rfl q s2 _) ?_;simp only [aE,ad,af,ak,ax,ae,f.ab,f.aD,g.ab,g.aD];refine aa.KD w (by omega) (by omega) (by omega) fun v2 A _ w=> ?_;simp only [aB,bm (show i+1<=9223372036854775807 by omega)];refine aa.inl ⟨A,v2,_,rfl,w.none, ?_⟩;rw [jP a,Xh];exact uE hw hu
  .rintro c ⟨s,v,ws,rfl,w,hw⟩;simp only [F8,ad,af,ae,aq,if_neg (show ¬ ((es.length:Nat):Int) < (es.length:Int) by omega)];rw [hlen,Xv] at hw;exact aa.inr ⟨s,v,ws,rfl,w,hw⟩
 .rintro c ⟨s,v,ws,rfl,w,hw⟩;simp only [ad,ae,ru];exact aa.some ⟨ws,w,hw⟩
structure OU (st:St) (z:Nat) (x:AV) (ws:List AV):Prop where
 one:VM.one x=true
 fr: ∀st':St,(∀j o,2<=j->st.get j= .ok o->st'.get j= .ok o)-> ∃x',bp z x' ws/\ ∀n,VM.freeze st' 0 (n+1) x= .ok x'
theorem fZ {st a:St} {z:Nat} {e:TypeId} {x:AV} {ws:List AV} (h:iS st z e x ws):OU a z x ws:=by
 refine ⟨h.one,fun st' _=> ?_⟩;rcases h with ⟨_,hl,⟨rfl | rfl,rfl⟩ | rfl | ⟨k,rfl,_,_⟩⟩
 .exact ⟨.ay,bp.ay,fun _=>rfl⟩
 .exact ⟨.es,bp.emp,fun _=>rfl⟩
 .exact ⟨.sl z ws .shut,bp.shut hl,fun _=>rfl⟩
 .exact ⟨.sl z ws .wide,bp.wide hl,fun _=>rfl⟩
abbrev tB (k:Nat) (sp:Sp) (rc:Bool) (nm:List UInt8) (x y:AV):ui:=[(1,sw,eM k sp rc nm x y),(0,sw,z7)]
def zZ (S:Sp) (k:Nat) (rc:Bool) (nm:List UInt8) (ps:List iV) (es:List jG) (r:AV×St):Prop:=
 r.1= .tup []/\ ∃x ws y fs,Vw r.2 (tB k S rc nm x y)/\OU r.2 6 x ws/\OU r.2 7 y fs/\cY ps ws/\eO es fs/\(k=6->iS r.2 7 sw y fs)
theorem gX (l:List AV):(bL (l.map strip)&& !vE.full 96)=false:=by rw [show vE.full 96=true from rfl];simp
section
variable {st:St} {S:Sp} {x:AV} {es:List AV} {ps:List (Nat×T)} (w0:Vw st (tB 0 S false [] .ay .ay)) (hx:bp 5 x es) (hs:gu lu ps es) (hn:ps.length < 100000000)
include w0 hx hs hn
theorem Ty (ih: ∀p∈ey ps,fA p):aa ((aV vE).wide 95 [.mp 1 0,x] st) (zZ S 6 false [] [] ((ey ps).map fun p=>cM p.1 p.2)):=by
 obtain ⟨z,gs,a,hz,hg⟩:=CR hx hs (by omega);have co:=fun {γ:Type} (st:St) (K:Kv γ)=>aG (f:=93) st K rfl (by simp only [W8,Xm,hx.strip]) (by simp only [bf,hx.bare];rfl) a;refine aa.wide (aa.step (Q1 _ _ _) (aa.step (co _ _) ?_));refine aa.gm (kM hz hg (by have:=pV ps;omega) ih st w0.ro) rfl (gX _) ?_;rintro v s ⟨ws,w,hw⟩;have w:Vo s (tB 0 S false [] .ay .ay) 7 sw v ws:=⟨w0.keeps w.k fun _ _ f=>f,w.o⟩;simp only [ck,aR,ct,Xd];refine aa.mh [] w (WU rfl) fun b c _ w=>aa.one w.o.one (aa.one w.o.one (aa.mh [] w (WU rfl) fun d e _ w=>aa.some ⟨rfl,.ay,[],_,_,w.w,fZ (iS.ay w.w.ro _ sP),fZ w.o,cY.nil,hw,fun _=>w.o⟩))
theorem SC (ih: ∀p∈ey ps,fA p):aa ((aV vE).wide 97 [.mp 1 0,x] st) (zZ S 7 false [] [] ((ey ps).map fun p=>cM p.1 p.2)):=by
 obtain ⟨z,gs,a,hz,hg⟩:=CR hx hs (by omega);have co:=fun {γ:Type} (st:St) (K:Kv γ)=>aG (f:=93) st K rfl (by simp only [W8,Xm,hx.strip]) (by simp only [bf,hx.bare];rfl) a;refine aa.wide (aa.step (PE _ _ _) (aa.step (co _ _) ?_));refine aa.gm (kM hz hg (by have:=pV ps;omega) ih st w0.ro) rfl (gX _) ?_;rintro v s ⟨ws,w,hw⟩;have w:Vo s (tB 0 S false [] .ay .ay) 7 sw v ws:=⟨w0.keeps w.k fun _ _ f=>f,w.o⟩;simp only [ck,aR,ct,Xd];refine aa.mh [] w (WU rfl) fun b c _ w=>aa.one w.o.one (aa.one w.o.one (aa.mh [] w (WU rfl) fun d e _ w=>aa.some ⟨rfl,.ay,[],_,_,w.w,fZ (iS.ay w.w.ro _ sP),fZ w.o,cY.nil,hw,fun _=>w.o⟩))
theorem UK (ih: ∀p∈ps,fA p):aa ((aV vE).wide 98 [.mp 1 0,x] st) (zZ S 8 false [] [] (ps.map fun p=>cM p.1 p.2)):=by
 refine aa.wide (aa.step (P7 _ _ _) ?_);refine aa.gm (kM hx hs (by omega) ih st w0.ro) rfl (gX _) ?_;rintro v s ⟨ws,w,hw⟩;have w:Vo s (tB 0 S false [] .ay .ay) 7 sw v ws:=⟨w0.keeps w.k fun _ _ f=>f,w.o⟩;simp only [ck,aR,ct,Xd];refine aa.mh [] w (WU rfl) fun a b _ w=>aa.one w.o.one (aa.one w.o.one (aa.mh [] w (WU rfl) fun c d _ w=>aa.some ⟨rfl,.ay,[],_,_,w.w,fZ (iS.ay w.w.ro _ sP),fZ w.o,cY.nil,hw,fun _=>w.o⟩))
end
theorem Hv {p:Nat×T} {v:AV} (h:lu p v):gu lu [p] [v]:=gu.nil.snoc h
theorem OO {p q:Nat×T} {v w:AV} (h:lu p v) (k:lu q w):gu lu [p,q] [v,w]:=(Hv h).snoc k
theorem Se {p q r:Nat×T} {v w u:AV} (h:lu p v) (k:lu q w) (m:lu r u):gu lu [p,q,r] [v,w,u]:=(OO h k).snoc m
theorem ga {ps:List (Nat×T)} {x:AV} {es:List AV} {p:Nat×T} {i:Nat} (hx:bp 5 x es) (hs:gu lu ps es) (hp:ps[i]? =some p): ∃(a b:Nat) (s:List UInt8) (y:AV),lu p (.agg [.int .u8 (a:Int),.int .u8 (b:Int),.str s,y,.int .i64 (p.1:Int)])/\tl p.2=s/\(∃gs,bp 4 y gs)/\(∀{β:Type} (st:St) (K:AV->List Nat->Option β),bU 5 x (i:Int) st K=K (.ip [.int .u8 (a:Int),.int .u8 (b:Int),.str s,y,.int .i64 (p.1:Int)]) []):=by
 obtain ⟨a,b,s,y,c,e⟩:=oB hx hs hp;obtain ⟨l,gs,ht,hy,_⟩:=lq c;exact ⟨a,b,s,y,⟨a,b,s,y,rfl,c⟩,by rw [ht];rfl,⟨gs,hy⟩,e⟩
section
variable {st:St} {S:Sp} {x:AV} {es:List AV} (w0:Vw st (tB 0 S false [] .ay .ay)) (hx:bp 5 x es)
include w0 hx
theorem UJ {p0 p1 p2:Nat×T} (hs:gu lu [p0,p1,p2] es) (h0:fA p0) (h2:fA p2):aa ((aV vE).wide 99 [.mp 1 0,x] st) (zZ S 9 false (tl p1.2) [] [cM p0.1 p0.2,cM p2.1 p2.2]):=by
 obtain ⟨a0,b0,s0,m,c,_,⟨g0,a⟩,d⟩:=ga hx hs (i:=0) rfl;obtain ⟨n,b1,s1,y1,l,e,_,g⟩:=ga hx hs (i:=1) rfl;obtain ⟨a2,b2,s2,q,h,_,⟨g2,b⟩,j⟩:=ga hx hs (i:=2) rfl;have d: ∀{β:Type} (st:St) (K:AV->List Nat->Option β),bU 5 x 0 st K= _:=d;have g: ∀{β:Type} (st:St) (K:AV->List Nat->Option β),bU 5 x 1 st K= _:=g;have j: ∀{β:Type} (st:St) (K:AV->List Nat->Option β),bU 5 x 2 st K= _:=j;refine aa.wide (aa.step (Pk _ _ _) ?_);simp only [Vu,d,g,j,jv,XN,Xc,bx,bq,gB,aj,aE,ad,af,ax,ae,a.ab,a.aD,b.ab,b.aD];refine aa.gm (kM (bp.shut (WU rfl)) (OO c h) (WU rfl) (fun p hp=>by
  rcases Xb.1 hp with rfl | hp
  .exact h0
  .rcases Xb.1 hp with rfl | hp
   .exact h2
   .cases hp) st w0.ro) rfl (gX _) ?_
 rintro v s ⟨ws,w,hw⟩;have w:Vo s (tB 0 S false [] .ay .ay) 7 sw v ws:=⟨w0.keeps w.k fun _ _ f=>f,w.o⟩;simp only [l9,Xt,aR,ck,ct,Xd];refine aa.mh [] w (WU rfl) fun r t _ w=>aa.step (aR _) (aa.mh [] w (WU rfl) fun u y _ w=>aa.step (aR _) (aa.one w.o.one (aa.one w.o.one (aa.mh [] w (WU rfl) fun z A _ w=>aa.some ⟨rfl,.ay,[],_,_, ?_,fZ (iS.ay w.w.ro _ sP),fZ w.o,cY.nil,hw,fun _=>w.o⟩))));rw [e];exact w.w
theorem Vh {p0 p1:Nat×T} (hs:gu lu [p0,p1] es) (h1:fA p1):aa ((aV vE).wide 100 [.mp 1 0,x] st) (zZ S 10 false (tl p0.2) [] [cM p1.1 p1.2]):=by
 obtain ⟨a0,b0,s0,h,g,b,_,c⟩:=ga hx hs (i:=0) rfl;obtain ⟨j,b1,s1,y1,d,_,⟨g1,a⟩,e⟩:=ga hx hs (i:=1) rfl;have c: ∀{β:Type} (st:St) (K:AV->List Nat->Option β),bU 5 x 0 st K= _:=c;have e: ∀{β:Type} (st:St) (K:AV->List Nat->Option β),bU 5 x 1 st K= _:=e;refine aa.wide (aa.step (L8 _ _ _) ?_);simp only [SO,c,e,jv,XN,Xc,bx,bq,gB,aj,aE,ad,af,ax,ae,a.ab,a.aD];refine aa.gm (kM (bp.shut (WU rfl)) (Hv d) (WU rfl) (fun p hp=>by
  rcases Xb.1 hp with rfl | hp
  .exact h1
  .cases hp) st w0.ro) rfl (gX _) ?_
 rintro v s ⟨ws,w,hw⟩;have w:Vo s (tB 0 S false [] .ay .ay) 7 sw v ws:=⟨w0.keeps w.k fun _ _ f=>f,w.o⟩;simp only [l9,Xt,aR,ck,ct,Xd];refine aa.mh [] w (WU rfl) fun l m _ w=>aa.step (aR _) (aa.mh [] w (WU rfl) fun n q _ w=>aa.step (aR _) (aa.one w.o.one (aa.one w.o.one (aa.mh [] w (WU rfl) fun r t _ w=>aa.some ⟨rfl,.ay,[],_,_, ?_,fZ (iS.ay w.w.ro _ sP),fZ w.o,cY.nil,hw,fun _=>w.o⟩))));rw [b];exact w.w
theorem Ve {p0 p1 p2 p3 p4 p5:Nat×T} (hs:gu lu [p0,p1,p2,p3,p4,p5] es) (h1:fA p1) (h3:fA p3) (m:fA p5):aa ((aV vE).wide 101 [.mp 1 0,x] st) (zZ S 12 false [] [] [cM p1.1 p1.2,cM p3.1 p3.2,cM p5.1 p5.2]):=by
 obtain ⟨q,b1,s1,y1,d,_,⟨g1,a⟩,e⟩:=ga hx hs (i:=1) rfl;obtain ⟨a3,b3,r,y3,g,_,⟨g3,b⟩,h⟩:=ga hx hs (i:=3) rfl;obtain ⟨a5,t,u,y,j,_,⟨n,c⟩,l⟩:=ga hx hs (i:=5) rfl;have e: ∀{β:Type} (st:St) (K:AV->List Nat->Option β),bU 5 x 1 st K= _:=e;have h: ∀{β:Type} (st:St) (K:AV->List Nat->Option β),bU 5 x 3 st K= _:=h;have l: ∀{β:Type} (st:St) (K:AV->List Nat->Option β),bU 5 x 5 st K= _:=l;refine aa.wide (aa.step (L5 _ _ _) ?_);simp only [TY,e,h,l,jv,XN,Xc,bx,bq,gB,aj,aE,ad,af,ax,ae,a.ab,a.aD,b.ab,b.aD,c.ab,c.aD];refine aa.gm (kM (bp.shut (WU rfl)) (Se d g j) (WU rfl) (fun p hp=>by
  rcases Xb.1 hp with rfl | hp
  .exact h1
  .rcases Xb.1 hp with rfl | hp
   .exact h3
   .rcases Xb.1 hp with rfl | hp
    .exact m
    .cases hp) st w0.ro) rfl (gX _) ?_
 rintro v s ⟨ws,w,hw⟩;have w:Vo s (tB 0 S false [] .ay .ay) 7 sw v ws:=⟨w0.keeps w.k fun _ _ f=>f,w.o⟩;simp only [l9,Xt,aR,ck,ct,Xd];exact aa.mh [] w (WU rfl) fun z A _ w=>aa.step (aR _) (aa.one w.o.one (aa.one w.o.one (aa.mh [] w (WU rfl) fun B C _ w=>aa.some ⟨rfl,.ay,[],_,_,w.w,fZ (iS.ay w.w.ro _ sP),fZ w.o,cY.nil,hw,fun _=>w.o⟩)))
theorem U3 {p0 pa pe:Nat×T} {pp:List (Nat×T)} (hs:gu lu (p0::pp++[pa]++[pe]) es) (hn:pp.length < 100000000) (hp: ∀p∈pp,ny p) (he:fA pe):aa ((aV vE).wide 102 [.mp 1 0,x] st) (zZ S 11 false [] (pp.map fun p=>iu p.1 p.2) [cM pe.1 pe.2]):=by
 have hlen:es.length=pp.length+3:=by have:=hs.len;simpa using this
 have y:=hx.1;have hl:(p0::pp++[pa]++[pe])[pp.length+2]? =some pe:=by
  rw [XB (by simp)];simp
 obtain ⟨B,b1,s1,y1,g,_,⟨g1,a⟩,z⟩:=ga hx hs (i:=pp.length+2) hl;have h:IntKind.wrap .i64 ((es.length:Int) - 2)=((pp.length+1:Nat):Int):=by rw [wrap_i64 (by omega) (by omega)];omega
 have j:IntKind.wrap .i64 ((es.length:Int) - 1)=((pp.length+2:Nat):Int):=by rw [wrap_i64 (by omega) (by omega)];omega
 obtain ⟨x',n,A⟩:=hx.cut (lo:=some 1) (hi:=some ((pp.length+1:Nat):Int)) (l:=1) (m:=pp.length+1) (qA (k:=1) (by omega)) (qA (by omega));have b:=(hs.take (pp.length+1)).drop 1;have c:((p0::pp++[pa]++[pe]).take (pp.length+1)).drop 1=pp:=by simp [W6]
 rw [c] at b;refine aa.wide (aa.step (L7 _ _ _) ?_);simp only [TA,hx.len,aB,h,j,A];refine aa.gm (wM n b (by omega) hp st w0.ro) rfl (qT _) ?_;rintro v s ⟨ws,w,hw⟩;have t:Vw s (tB 0 S false [] .ay .ay):=w0.keeps w.k fun _ _ f=>f;have q:apart ⟨[],.all st s⟩ ⟨[],.kept⟩=true:=rfl;simp only [l9,q,Xt,aR,z,bx,gB,aj,aE,ad,af,ax,ae,a.ab,a.aD];refine aa.gm (kM (bp.shut (WU rfl)) (Hv g) (WU rfl) (fun p hp=>by
  rcases Xb.1 hp with rfl | hp
  .exact he
  .cases hp) s t.ro) rfl (gX _) ?_
 rintro v2 s2 ⟨r,u,d⟩;have w':Vo s2 (tB 0 S false [] .ay .ay) 7 sw v2 r:=⟨t.keeps u.k fun _ _ f=>f,u.o⟩;simp only [l9,Xt,aR,ck,ct,Xd];refine aa.mh [] w' (WU rfl) fun C D _ w'=>aa.step (aR _) (aa.one w.o.one (aa.one w.o.one (aa.mh [] w' (WU rfl) fun E F _ w'=>aa.step (aR _) (aa.one w'.o.one (aa.one w'.o.one (aa.mh [] w' (WU rfl) fun G H _ w'=>aa.some ⟨rfl,v,ws,_,_,w'.w,fZ w.o,fZ w'.o,hw,d,fun e=>by cases e⟩))))))
end
abbrev JF:TypeId:=46
abbrev Uu:List AV:=[.int .i64 0,.int .i64 0,.bool false,.ay,.int .u8 0,.int .i64 0,.int .i64 0,.bool false,.str [],.ay,.ay]
abbrev pP (s:Sp) (rc:Bool) (z:AV) (k:Nat) (sp:Sp) (rc2:Bool) (nm:List UInt8) (x y:AV):List AV:=[.int .i64 s.1,.int .i64 s.2,.bool rc,z,.int .u8 (k:Int),.int .i64 sp.1,.int .i64 sp.2,.bool rc2,.str nm,x,y]
theorem EF {z k:Nat} {x:AV} {es:List AV} (h:bp z x es) (hk:k<=es.length): ∃x',bp z x' (es.drop k)/\ ∀{β:Type} (K:AV->Option β),gi z x (some (k:Int)) none none K=K x':=by
 obtain ⟨x',hx,e⟩:=h.cut (lo:=some (k:Int)) (hi:=none) (l:=k) (m:=es.length) (qA hk) Dx;rw [Xv] at hx;exact ⟨x',hx,e⟩
theorem J5 {z k:Nat} {x:AV} {es:List AV} (h:bp z x es) (hk:k<=es.length): ∃x',bp z x' (es.take k)/\ ∀{β:Type} (K:AV->Option β),gi z x none (some (k:Int)) none K=K x':=by
 obtain ⟨x',hx,e⟩:=h.cut (lo:=none) (hi:=some (k:Int)) (l:=0) (m:=k) Dx (qA hk);rw [Xc] at hx;exact ⟨x',hx,e⟩
theorem Nk {st:St} {z x y z' x' y':AV} {a b c:List AV} (hz:bp 6 z' a) (hx:bp 6 x' b) (hy:bp 7 y' c) (fz: ∀n,VM.freeze st 0 (n+1) z= .ok z') (e: ∀n,VM.freeze st 0 (n+1) x= .ok x') (f: ∀n,VM.freeze st 0 (n+1) y= .ok y') (s:Sp) (rc:Bool) (k:Nat) (sp:Sp) (d:Bool) (nm:List UInt8) {β:Type} (K:AV->Option β):
  gR st 0 (.agg (pP s rc z k sp d nm x y)) K=K (.agg (pP s rc z' k sp d nm x' y')):=by
 refine CN (cr (gM _ _ st 0 99 (by omega)) (cr (gM _ _ st 0 99 (by omega)) (cr (Cu _ st 0 99 (by omega)) (cr (fz 98) (cr (gM _ _ st 0 99 (by omega)) (cr (gM _ _ st 0 99 (by omega)) (cr (gM _ _ st 0 99 (by omega)) (cr (Cu _ st 0 99 (by omega)) (cr (Bx _ st 0 99 (by omega)) (cr (e 98) (cr (f 98) sT))))))))))) ?_ K;simp only [bf,hz.bare,hx.bare,hy.bare];rfl
abbrev TK (rc:Bool) (z:AV) (k:Nat) (sp:Sp) (rc2:Bool) (nm:List UInt8) (x y:AV):ui:=[(1,JF,pP (0,0) rc z k sp rc2 nm x y),(0,JF,Uu)]
def xa (m:Nat) (ps:List (Nat×T)):List iV:=((ps.drop m).take (ps.length - m - 2)).map fun p=>iu p.1 p.2
def xP (l:List iV):Bool:=match l.getD 0 default with | .mk k _ _ _ _=>k==15
theorem yz {x:AV} {es:List AV} {ps:List (Nat×T)} {p1 pe:Nat×T} {m:Nat} (hx:bp 5 x es) (hs:gu lu ps es) (hn:ps.length < 100000000) (h1:ps[1]? =some p1) (hm:m=if isRec p1.2=true then 2 else 1) (hl:m+3<=ps.length)
  (hp: ∀p∈(ps.drop m).take (ps.length - m - 2),ny p) (he:ps[ps.length - 1]? =some pe) (hE:fA pe):
  aa ((aV vE).bare 16 [x]) fun v=>Qm ⟨(0,0),isRec p1.2&&xP (xa m ps),xa m ps,cM pe.1 pe.2⟩ v:=by
 have hlen:=hs.len;have bt:=hx.1;have b4:1<=m/\m<=2:=by rw [hm];split <;> omega
 obtain ⟨x1,r,t⟩:=EF (k:=1) hx (by omega);have t: ∀{β:Type} (K:AV->Option β),gi 5 x (some 1) none none K=K x1:=t;have O:=hs.drop 1;obtain ⟨a1,b1,s1,y1,P,b5,_,J⟩:=ga r O (i:=0) (p:=p1) (by rw [X6];exact h1);have J: ∀{β:Type} (st:St) (K:AV->List Nat->Option β),bU 5 x1 0 st K= _:=J;have j:isRec p1.2=(b1==3&&s1==dn):=by
  obtain ⟨a,b,s,y,e,hN⟩:=P;obtain ⟨l,gs,ht,_,_⟩:=lq hN;injection e with e
  have q2:=(List.cons.inj e).2;have q3:=(List.cons.inj q2).1;have q4:=(List.cons.inj (List.cons.inj q2).2).1;simp only [AV.int.injEq,Yo,AV.str.injEq] at q3 q4;rw [ht];show (b==3&&s==dn)= _;rw [q4,show b1=b by omega]
 obtain ⟨xm,z,h⟩: ∃xm,bp 5 xm (es.drop m)/\(isRec p1.2=true-> ∀{β:Type} (K:AV->Option β),gi 5 x1 (some 1) none none K=K xm)/\(isRec p1.2=false->xm=x1):=by
  cases hb:isRec p1.2 with
  | true=>
   obtain ⟨x2,B,Q⟩:=EF (k:=1) r (by rw [Xa];omega);rw [Ya] at B;rw [hb,if_pos rfl] at hm;subst hm;exact ⟨x2,B,⟨fun _=>Q,fun e=>absurd e.symm XJ⟩⟩
  | false=>
   rw [hb] at hm;obtain rfl:m=1:=by simpa using hm
   exact ⟨x1,r,⟨fun e=>absurd e XJ,fun _=>rfl⟩⟩
 have C:=hs.drop m;have b6:(es.drop m).length=ps.length - m:=by rw [Xa,hlen]
 have S:IntKind.wrap .i64 (((es.drop m).length:Int) - 2)=((ps.length - m - 2:Nat):Int):=by rw [wrap_i64 (by omega) (by omega)];omega
 have U:IntKind.wrap .i64 (((es.drop m).length:Int) - 1)=((ps.length - m - 1:Nat):Int):=by rw [wrap_i64 (by omega) (by omega)];omega
 obtain ⟨xp,V,W⟩:=J5 (k:=ps.length - m - 2) z (by omega);have hsp:=C.take (ps.length - m - 2);obtain ⟨a2,b2,s2,y2,D,_,⟨g2,b7⟩,e2⟩:=ga z C (i:=ps.length - m - 1) (p:=pe) (by rw [X6,show m+(ps.length - m - 1)=ps.length - 1 by omega];exact he);obtain ⟨u,eu,hu⟩:=hE _ D;obtain ⟨k,sp,rc,nm,qs,ls,L,gs,y3,fs,A,rfl,d,X,g,Y,E⟩:=gF hu;refine aa.bare rfl (aa.step (Qh _) ?_);unfold g16;refine aa.step (t _) ?_;generalize Z:(St.mk 2 0 _:St)=st0;have w0:Vw st0 (TK false .ay 0 (0,0) false [] .ay .ay):=by
  rw [<- Z];refine ⟨fun q A=> ?_,by show ([1,0]:List Nat).Nodup;decide,XC _⟩;simp only [Xb,XS,or_false] at A;rcases A with rfl | rfl <;> (refine ⟨?_,Nat.zero_le _⟩;dsimp only;rfl)
 refine aa.bind (R:=fun c=>c=([.bool (isRec p1.2)],st0)) ?_ ?_
 .refine aa.step (J _ _) ?_;simp only [jv,XN,Xc,bx,bq,aj,af,show ((b1:Int)==3)=(b1==3) from bP b1 3];cases hb:b1==3 with
  | false=>
   refine aa.step (ai _ _) (aa.some ?_);rw [j,hb];rfl
  | true=>
   refine aa.step (ao _ _) (aa.step (J _ _) ?_);simp only [jv,XN,Xc,bx,bq,aj,ax];refine aa.some ?_;rw [j,hb];rfl
 rintro c rfl;simp only [ad,ak,ae];refine aa.bind (R:=fun c=> ∃s,c=([xm],s)/\Vw s (TK (isRec p1.2) .ay 0 (0,0) false [] .ay .ay)) ?_ ?_
 .cases hb:isRec p1.2 with
  | false=>
   rw [hb] at h;refine aa.step (ai _ _) (aa.some ⟨st0,by rw [h.2 rfl],w0⟩)
  | true=>
   rw [hb] at h;refine aa.step (ao _ _) (aa.B5 [] w0 (WU rfl) fun s _ _ w=>aa.step (h.1 rfl _) (aa.some ⟨s,rfl,w⟩))
 rintro c ⟨s,rfl,w0⟩;simp only [ad,ae,z.len,aB,S,U,W];refine aa.gm (wM V hsp (by rw [Xg,Xa];omega) hp s w0.ro) rfl (qT _) ?_;rintro v s2 ⟨ws,w,hw⟩;have w:Vo s2 (TK (isRec p1.2) .ay 0 (0,0) false [] .ay .ay) 6 sP v ws:=⟨w0.keeps w.k fun _ _ f=>f,w.o⟩;have ar:apart ⟨[],.all s s2⟩ ⟨[],.kept⟩=true:=rfl;simp only [ar,Xt,aR,e2,bx,gB,aj,aE,ad,af,ax,ae,iI D rfl eu,ak,fU,fb,d.ab,g.ab];refine aa.one w.o.one (aa.one w.o.one (aa.mh [] w (WU rfl) fun s3 o3 _ w=>aa.mh [] w (WU rfl) fun s4 o4 _ w=> ?_));have w:Vo s4 (TK (isRec p1.2) v k sp rc nm L y3) 6 sP v ws:=w;have av:=hw.len;rw [Xn,Xg,Xa] at av;have aw: ∃q F,xa m ps=q::F:=by
  have h1:(xa m ps).length≠0:=by unfold xa;rw [Xn,Xg,Xa];omega
  cases A:xa m ps with
  | nil=>rw [A] at h1;exact absurd rfl h1
  | cons q l=>exact ⟨q,l,rfl⟩
 obtain ⟨q0,F,G⟩:=aw;have hw:cY (xa m ps) ws:=hw;refine aa.bind (R:=fun c=> ∃s,c=([],s)/\Vo s (TK (isRec p1.2&&xP (xa m ps)) v k sp rc nm L y3) 6 sP v ws) ?_ ?_
 .refine aa.fT WS w.w rfl (aa.step (ak _ _) ?_);cases hb:isRec p1.2 with
  | false=>
   refine aa.step (ai _ _) (aa.mh [] w (WU rfl) fun M o5 _ w=>aa.some ⟨M,rfl,w⟩)
  | true=>
   refine aa.step (ao _ _) (aa.fT WS w.w rfl ?_);rw [G] at hw;have H:=hw;simp only [cY] at H;obtain ⟨u0,us,rfl,a6,_⟩:=H;obtain ⟨N,bb,b8,b9,cb,y5,cc,a7,rfl,cd,cg⟩:=gT a6;refine aa.step (Ck w.o (k:=0) rfl _ _) ?_;simp only [jK,jv,Xc,bx,bq,aj,af,show ((N:Int)==15)=(N==15) from bP N 15];have a8:xP (xa m ps)=(N==15):=by rw [G,a7];rfl
   rw [<- a8];exact aa.mh [] w (WU rfl) fun M o5 _ w=>aa.some ⟨M,rfl,w⟩
 rintro c ⟨M,rfl,w⟩;refine aa.step (ae _) (aa.fX WS w.w rfl ?_);simp only [aE,ad,af,ak,ax,ae,d.ab,g.ab];refine aa.one w.o.one (aa.mh [_] w (WU rfl) fun s6 o6 _ w=>aa.fX (WZ _ WS) w.w rfl ?_);show aa (uk (.agg (pP (0,0) (isRec p1.2&&xP (xa m ps)) v k sp rc nm L y3)) _) _;simp only [aE,ad,af,ak,ax,ae];obtain ⟨v',I,hf'⟩:=sH w.o;refine aa.step (Nk I d g hf' (fun n=>yl d _ 0 (n+1) (by omega)) (fun n=>yl g _ 0 (n+1) (by omega)) (0,0) _ k sp rc nm _) (aa.some ?_);exact ⟨v',ws,eM k sp rc nm L y3,rfl,I,hw,by rw [show cM pe.1 pe.2= _ from A];exact uR d X g Y E⟩
theorem Ej {d:Bd} {v:AV} (h:Qm d v) (hs:d.sp=(0,0)): ∃z a k sp rc nm ps ls x es y fs,v= .agg (pP (0,0) d.rc z k sp rc nm x y)/\bp 6 z a/\cY d.ps a/\d.body= .mk k sp rc nm ps ls/\bp 6 x es/\cY ps es/\bp 7 y fs/\eO ls fs/\ps.length<=100000000:=by
 obtain ⟨z,a,be,rfl,hz,ha,hb⟩:=h;obtain ⟨k,sp,rc,nm,ps,ls,x,es,y,fs,b,e,hx,hp,hy,hl,hn⟩:=gF hb;injection e with e
 subst e;rw [hs];exact ⟨z,a,k,sp,rc,nm,ps,ls,x,es,y,fs,rfl,hz,ha,b,hx,hp,hy,hl,hn⟩
theorem PD {st:St} {z:Nat} {x:AV} {ws:List AV} (h:bp z x ws):OU st z x ws:=⟨h.one,fun _ _=>⟨x,h,fun n=>yl h _ 0 (n+1) (by omega)⟩⟩
theorem KR {st:St} {z k:Nat} {ws:List AV} (h:ws.length<=9223372036854775807):OU st z (.sl z ws (.own k)) ws:=⟨rfl,fun _ _=>⟨.sl z ws .wide,bp.wide h,fun _=>rfl⟩⟩
theorem KH {F:FuncId} {z:Nat} {x:AV} {es:List AV} (hx:bp z x es) {v:AV} (h:(aV vE).bare F [x]=some v) (hf:vE.full F=false) {γ:Type} (st:St) (K:Kv γ):bc (aV vE) F [x] st K=K v st q0:=
 aG st K hf (by simp only [W8,Xm,hx.strip]) (by simp only [bf,hx.bare];rfl) h
theorem La {a b:Nat} (h:a≠b) (o:VM.Obj):apart ⟨[a],.kept⟩ ⟨[],.made b o⟩=true:=by
 show (![a].contains b)=true;simp [h.symm]
section
variable {st:St} {S:Sp} {x:AV} {es:List AV} (w0:Vw st (tB 0 S false [] .ay .ay)) (hx:bp 5 x es)
include w0 hx
theorem Vc {bs:List (Nat×T)} {pi d p1 pe:Nat×T} {m:Nat} (hs:gu lu (bs++[pi]++[d]) es) (hn:bs.length < 100000000) (h1:bs[1]? =some p1) (hm:m=if isRec p1.2=true then 2 else 1) (hl:m+3<=bs.length)
  (hp: ∀p∈(bs.drop m).take (bs.length - m - 2),ny p) (he:bs[bs.length - 1]? =some pe) (hE:fA pe) (P:fA d):aa ((aV vE).wide 103 [.mp 1 0,x] st) (zZ S 14 (isRec p1.2&&xP (xa m bs)) [] (xa m bs) [cM pe.1 pe.2,cM d.1 d.2]):=by
 have hlen:es.length=bs.length+2:=by have:=hs.len;simpa using this
 have Q:=hx.1;have y:(bs++[pi]++[d])[bs.length+1]? =some d:=by
  rw [XB (by simp)];simp
 obtain ⟨a1,b1,s1,y1,q,_,⟨g1,R⟩,U⟩:=ga hx hs (i:=bs.length+1) y;have A:IntKind.wrap .i64 ((es.length:Int) - 2)=((bs.length:Nat):Int):=by rw [wrap_i64 (by omega) (by omega)];omega
 have B:IntKind.wrap .i64 ((es.length:Int) - 1)=((bs.length+1:Nat):Int):=by rw [wrap_i64 (by omega) (by omega)];omega
 obtain ⟨x',r,V⟩:=J5 (k:=bs.length) hx (by omega);have s:=hs.take bs.length;have t:(bs++[pi]++[d]).take bs.length=bs:=by rw [W6,List.take_left'];rfl
 rw [t] at s;obtain ⟨v,W,hv⟩:=yz r s (by omega) h1 hm hl hp he hE;obtain ⟨z,a,k,sp,rc,nm,ps,ls,C,X,y3,Y,rfl,hz,ha,g,b,D,c,E,F⟩:=Ej hv rfl;obtain ⟨u,Z,hu⟩:=P _ q;obtain ⟨k4,G,H,I,ar,av,x4,a6,y4,a7,J,rfl,j,K,l,L,M⟩:=gF hu;refine aa.wide (aa.step (N4 _ _ _) ?_);simp only [Uf,hx.len,aB,A,B,V];refine aa.step (KH r W rfl _ _) ?_;simp only [aE,ad,af,ak,ax,ae];have hh:2<=st.h:=by
  have:=(St.ch.1 (w0.get (WS))).1;omega
 have w0:Vo st (tB 0 S false [] .ay .ay) 7 sw .ay []:=⟨w0,iS.ay w0.ro _ _⟩;show aa (bh (st.add (.cells JF Uu)) _) _;have w1:Vo (st.add (.cells JF Uu)) ((st.h,JF,Uu)::tB 0 S false [] .ay .ay) 7 sw .ay []:=⟨w0.w.alloc _ _,iS.ay (Yt w0.w.ro) _ _⟩;refine aa.step (eV _ _) (aa.one hz.one (aa.one b.one (aa.one c.one (aa.mh [] w1 (WU rfl) fun s2 o2 N n=> ?_))));have n:Vo s2 ((st.h,JF,pP (0,0) (isRec p1.2&&xP (xa m bs)) z k sp rc nm C y3)::tB 0 S false [] .ay .ay) 7 sw .ay []:=n;refine aa.fT WS n.w rfl (aa.step (ak _ _) (aa.fT WS n.w rfl ?_));refine aa.step (bu (n.w.get WS) _ _ _ _) ?_;simp only [pP,XN,Xc,qR,aj,aE,ad,af,ak,ax,ae,b.ab,b.aD,c.ab,c.aD,U,bx,gB,iI q rfl Z,fU,fb,Xt,aR,j.ab,j.aD,l.ab,l.aD];have a8:st.h < s2.h:=by
  rw [N];exact XW _
 have w3:Vo (s2.add (VM.Obj.tok 2 sw)) ((st.h,JF,pP (0,0) (isRec p1.2&&xP (xa m bs)) z k sp rc nm C y3)::tB 0 S false [] .ay .ay) 7 sw .ay []:=⟨n.w.keeps (ba.add _ _ (fun _=>False)) (fun _ _ f=>f),iS.ay (Yt n.w.ro) _ _⟩;have hne:st.h≠1:=by omega
 have am:=fun o=>La (show st.h≠s2.h by omega) o;have O: ∀o,apart ⟨[st.h],.kept⟩ ⟨[1],.wrote 1 o⟩=true:=fun o=>pF hne;refine aa.step (eV _ _) ?_;show aa (bM (apart ⟨[st.h],.kept⟩ ⟨[],.made s2.h (VM.Obj.tok 2 sw)⟩&&(apart ⟨[st.h],.kept⟩ ⟨[],.made s2.h (VM.Obj.tok 2 sw)⟩&&true)) _) _;simp only [am,Xt,aR,ck,ct,Xd];refine aa.mh [_] w3 (WU rfl) fun s5 o5 _ w=> ?_;simp only [O,oK,Xt,aR];refine aa.mh [_] w (WU rfl) fun s6 o6 _ w=> ?_;simp only [O,oK,Xt,aR,hz.ab];refine aa.mh [_] w (WU rfl) fun s7 o7 _ w=> ?_;simp only [oK,Xt,aR];refine aa.mh [_] w (WU rfl) fun s8 o8 _ w=>aa.some ⟨rfl,z,a,.sl 7 [.agg (eM k sp rc nm C y3),.agg (eM k4 G H I x4 y4)] (.own s2.h),_,w.w.sub (Yf _ _),PD hz,KR (WU rfl),ha, ?_,fun e=>by cases e⟩;rw [show cM pe.1 pe.2= _ from g,J];exact eO.cons (uR b D c E F) (eO.cons (uR j K l L M) eO.nil)
end
abbrev Wl:TI:=TI.mk (U.struct [(0,5),(1,5),(2,40),(4,9),(5,41)]) 6 64 z6 true true
abbrev VB:TI:=TI.mk (U.struct [(0,5),(1,40),(3,4),(4,9),(5,41),(6,42)]) 7 96 z7 true true
theorem RA {n:Nat} (h:n<=1000000000):dp n Wl=true:=by
 simp only [dp,gN (show n * 64<=70368744177664 by omega),gN (show n<=70368744177664 by omega)];rfl
theorem Rl {n:Nat} (h:n<=1000000000):dp n VB=true:=by
 simp only [dp,gN (show n * 96<=70368744177664 by omega),gN (show n<=70368744177664 by omega)];rfl
structure Vg (st:St) (l:ui) (X:AV) (ws:List AV) (Y:AV) (fs:List AV):Prop where
 w:Vw st l
 p:pD st 6 sP X ws
 a:pD st 7 sw Y fs
section
variable {β:Type} {Q:β->Prop} {st:St} {l:ui} {X Y:AV} {ws fs:List AV}
theorem aa.RJ (w:Vg st l X ws Y fs) {ty:TypeId} {cs:List AV} {K:St->Option β} (g: ∀s,s.h=st.h+1->Vg s ((st.h,ty,cs)::l) X ws Y fs->aa (K s) Q):aa (bh (st.add (.cells ty cs)) K) Q:=
 g _ rfl ⟨w.w.alloc ty cs,w.p.keeps (ba.add _ _ _),w.a.keeps (ba.add _ _ _)⟩
theorem aa.TW {O:rB} (l1:ui) {l2:ui} {a:Nat} {ty:TypeId} {old:List AV} (w:Vg st (l1++(a,ty,old)::l2) X ws Y fs) {off y:Nat} {u:AV} {cs:List AV} {K:Kv β} (hl:off+cs.length<=old.length)
  (g: ∀s o,s.h=st.h->Vg s (l1++(a,ty,cJ old off cs)::l2) X ws Y fs->aa (K VM.undef s ⟨[a],.wrote a o⟩) Q) (hc:cs.length=y:=by rfl):aa (aM O y (.mp a off) u cs st K) Q:=by
 have hm:(a,ty,old)∈l1++(a,ty,old)::l2:=List.mem_append_right _ WS;have hg:=w.w.get hm;exact aa.step (dq hg hc hl (w.w.v _ hm).2 K) (g _ _ rfl ⟨w.w.putAt _,w.p.put hg,w.a.put hg⟩)
theorem ye {s:St} {k n z n' z':Nat} {e:TypeId} {es es':List AV} (h:uN st s e) (hg:s.get k= .ok (.grow n e z es)):uN st (s.put k (.grow n' e z' es')) e:=
 ⟨h.ro,h.h,fun j o h1 h2 hj=>by
  have a:=h.old j o h1 h2 hj;have:k≠j:=by rintro rfl;rw [hg] at a;cases a;exact h2 _ _ _ rfl
  rw [St.aY this];exact a⟩
theorem LO {z:Nat} {e:TypeId} {x:AV} (h:pD st z e x ws) (hl:ws.length<=9223372036854775807) (h0: ∃t cs,st.get 0= .ok (.cells t cs)) (h1: ∃t cs,st.get 1= .ok (.cells t cs)):OU st z x ws:=by
 refine ⟨h.one,fun st' a=> ?_⟩;rcases h with ⟨rfl,rfl⟩ | rfl | ⟨k,rfl,_⟩ | ⟨k,rfl,hg,_⟩
 .exact ⟨.ay,bp.ay,fun _=>rfl⟩
 .exact ⟨.sl z ws .shut,bp.shut hl,fun _=>rfl⟩
 .exact ⟨.sl z ws .wide,bp.wide hl,fun _=>rfl⟩
 .have hk:2<=k:=by
   obtain ⟨t,cs,h0⟩:=h0;obtain ⟨t',cs',h1⟩:=h1;have a0:k≠0:=by rintro rfl;rw [h0] at hg;cases hg
   have c:k≠1:=by rintro rfl;rw [h1] at hg;cases hg
   omega
  have b:=a k _ hk hg;refine ⟨.sl z ws .wide,bp.wide hl,fun n=> ?_⟩;have hb:((ws.length).beq ws.length&&(ws.length).beq ws.length&&z.beq z)=true:=by simp
  have h0:k.blt 0=false:=cW.2 (XC _);show (match k.blt 0 with
   | true=>Except.ok (AV.gs k z ws.length)
   | false=>do
    match <- st'.get k with
    | .grow m _ z' es=>match ((ws.length).beq m&&(ws.length).beq es.length)&&z'.beq z with
     | true=> .ok (.sl z es .wide)
     | false=> .error "freeze: an elder slice"
    | _=> .error "freeze: what?")= _
  rw [h0,b];simp only [aA,hb]
end
theorem JO {a b:Nat} (h:a≠b):a.beq b=false:=by
 cases e:a.beq b with
 | true=>exact absurd (W2 e) h
 | false=>rfl
theorem Nj {k lit:Nat} {sp:Sp} {nm:List UInt8} {x:AV} {es:List AV} (h:bp 6 x es):VM.fit (.agg (rA k lit sp nm x))= .ok (.agg (rA k lit sp nm x))/\fw (rA k lit sp nm x)=true:=by
 refine ⟨?_,by simp only [rA,fw,h.one];rfl⟩;show (match VM.bare (.agg [.int .u8 (k:Int),.int .u8 (lit:Int),.int .i64 sp.1,.int .i64 sp.2,.str nm,strip x]) with
  | true=>Except.ok (AV.agg [.int .u8 (k:Int),.int .u8 (lit:Int),.int .i64 sp.1,.int .i64 sp.2,.str nm,strip x])
  | false=> .error "a name within what never changes")= _
 rw [h.strip,nN];simp only [bf,h.bare];rfl
theorem Kx {k:Nat} {sp:Sp} {rc:Bool} {nm:List UInt8} {x y:AV} {es fs:List AV} (h:bp 6 x es) (a:bp 7 y fs):VM.fit (.agg (eM k sp rc nm x y))= .ok (.agg (eM k sp rc nm x y))/\fw (eM k sp rc nm x y)=true:=by
 refine ⟨?_,by simp only [eM,fw,h.one,a.one];rfl⟩;show (match VM.bare (.agg [.int .u8 (k:Int),.int .i64 sp.1,.int .i64 sp.2,.bool rc,.str nm,strip x,strip y]) with
  | true=>Except.ok (AV.agg [.int .u8 (k:Int),.int .i64 sp.1,.int .i64 sp.2,.bool rc,.str nm,strip x,strip y])
  | false=> .error "a name within what never changes")= _
 rw [h.strip,a.strip,nN];simp only [bf,h.bare,a.bare];rfl
def KB (p:Nat×T):Prop:= ∀tk tx l,p.2= .mk 10 tk tx l->l.length < 1000000000/\p.1+(bB l).length<=1000000000000/\ ∃q0 q1 q2,bX p.1 l=[q0,q1,q2]/\ny q0/\fA q2
def nX (p:Nat×T):List (iV×jG):=Cw p.1 p.2
theorem MM {p:Nat×T} {k tk:Nat} {tx:List UInt8} {l:List T} (h:p.2= .mk k tk tx l) (hk:k≠10):nX p=[]:=by
 unfold nX;rw [h,Cw,if_neg hk]
theorem K2 {p q0 q1 q2:Nat×T} {tk:Nat} {tx:List UInt8} {l:List T} (h:p.2= .mk 10 tk tx l) (a:bX p.1 l=[q0,q1,q2]):nX p=[(iu q0.1 q0.2,cM q2.1 q2.2)]:=by
 unfold nX;rw [h,Cw,if_pos rfl,ml,gr,a];rfl
theorem A7: ∀(l:List T) (a:Nat),uc a l=(bX a l).flatMap nX
 | [],_=>rfl
 | t::l,a=>by rw [uc,bX,X2,A7 l];rfl
section
variable {st:St} {S:Sp} {x:AV} {es:List AV} (w0:Vw st (tB 0 S false [] .ay .ay)) (hx:bp 5 x es)
include w0 hx
theorem UN {ps:List (Nat×T)} {p1:Nat×T} (hs:gu lu ps es) (hn:ps.length < 100000000) (h1:ps[1]? =some p1) (hE:fA p1) (hA: ∀p∈ps,KB p):
  aa ((aV vE).wide 104 [.mp 1 0,x] st) (zZ S 13 false [] ((ps.flatMap nX).map (·.1)) (cM p1.1 p1.2::(ps.flatMap nX).map (·.2))):=by
 have hlen:=hs.len;have de:=hx.1;obtain ⟨a1,b1,s1,y1,bb,_,⟨g1,U⟩,e1⟩:=ga hx hs (i:=1) h1;have e1: ∀{β:Type} (st:St) (K:AV->List Nat->Option β),bU 5 x 1 st K= _:=e1;refine aa.wide (aa.step (Md _ _ _) ?_);simp only [SQ,e1,bx,gB,aj,aE,ad,af,ax,ae,U.ab,U.aD];refine aa.gm (kM (bp.shut (WU rfl)) (Hv bb) (WU rfl) (fun p hp=>by
  rcases Xb.1 hp with rfl | hp
  .exact hE
  .cases hp) st w0.ro) rfl (gX _) ?_
 rintro v s ⟨C,w,hw⟩;have bt:C.length=1:=by have:=hw.len;simpa using this
 have b4:pD s 7 sw v C:=by
  rcases w.o.2.2 with ⟨_,rfl⟩ | h | ⟨k,h1,h2,h3⟩
  .cases bt
  .exact .inr (.inl h)
  .exact .inr (.inr (.inl ⟨k,h1,h2,h3⟩))
 have H:Vg s (tB 0 S false [] .ay .ay) .ay [] v C:=⟨w0.keeps w.k fun _ _ f=>f,.inl ⟨rfl,rfl⟩,b4⟩;simp only [ck,aR,ct,Xd];refine aa.TW [] H (WU rfl) fun s3 o3 _ H=>aa.one H.a.one (aa.one H.a.one (aa.TW [] H (WU rfl) fun s4 o4 _ H=> ?_));have H:Vg s4 (tB 13 S false [] .ay v) .ay [] v C:=H;refine aa.step (hx.len _) ?_;refine aa.bind (R:=fun c=> ∃s X ws Y fs,c=(0,[],s)/\Vg s (tB 13 S false [] X Y) X ws Y fs/\cY ((ps.flatMap nX).map (·.1)) ws/\eO (cM p1.1 p1.2::(ps.flatMap nX).map (·.2)) fs/\ws.length<=ps.length/\fs.length<=ps.length+1) ?_ ?_
 .refine aa.upto (n:=es.length) (I:=fun i c=> ∃s X ws Y fs,c=([.int .i64 (i:Int)],s)/\Vg s (tB 13 S false [] X Y) X ws Y fs/\cY (((ps.take i).flatMap nX).map (·.1)) ws/\eO (cM p1.1 p1.2::((ps.take i).flatMap nX).map (·.2)) fs/\ws.length<=i/\fs.length<=i+1) ?_ ?_ es.length 0 _ (by omega) ⟨s4,.ay,[],v,C,rfl,H,by simpa using cY.nil,by simpa using hw,WW _,by omega⟩
  .rintro i c hi ⟨s,X,ws,Y,fs,rfl,w,g,m,lw,lf⟩;have M:i < ps.length:=by omega
   obtain ⟨a2,b2,r,y2,N,_,⟨g2,b5⟩,e2⟩:=ga hx hs (i:=i) (Xl M);have q: ∃l2,ps[i].2= .mk a2 b2 r l2:=by
    obtain ⟨a,b,s,y,e,hN⟩:=N;obtain ⟨l,gs,ht,_,_⟩:=lq hN;injection e with e
    have q1:=(List.cons.inj e).1;have q2:=(List.cons.inj e).2;have q3:=(List.cons.inj q2).1;have q4:=(List.cons.inj (List.cons.inj q2).2).1;simp only [AV.int.injEq,Yo,AV.str.injEq] at q1 q3 q4;obtain rfl:a2=a:=by omega
    obtain rfl:b2=b:=by omega
    subst q4;exact ⟨l,ht⟩
   obtain ⟨l2,q⟩:=q;have hh:2<=s.h:=by
    have:=(St.ch.1 (w.w.get (WS))).1;omega
   simp only [BD,ad,af,ae,aq,if_pos (show (i:Int) < (es.length:Int) by omega),e2,bx,gB,aj,aE,ax];refine aa.RJ w fun s5 _ w=>aa.one b5.one (aa.TW [] w (WU rfl) fun s6 o6 _ w=>aa.fT WS w.w rfl (aa.step (af _ _ _) ?_));rw [show ((a2:Int)==10)=(a2==10) from bP a2 10];refine aa.bind (R:=fun c=> ∃s X ws Y fs,c=([],s)/\Vg s (tB 13 S false [] X Y) X ws Y fs/\cY (((ps.take (i+1)).flatMap nX).map (·.1)) ws/\eO (cM p1.1 p1.2::((ps.take (i+1)).flatMap nX).map (·.2)) fs/\ws.length<=i+1/\fs.length<=i+2) ?_ ?_
   .rw [jP M,List.flatMap_append,Xh,Xh];by_cases hk:a2=10
    .subst hk;obtain ⟨h5,h6,q0,q1,q2,hq,hp0,b6⟩:=hA _ (Yd M) _ _ _ q;have D:[ps[i]].flatMap nX=[(iu q0.1 q0.2,cM q2.1 q2.2)]:=by rw [X2,List.flatMap_nil,Xe,K2 q hq]
     rw [D];obtain ⟨z,zs,b8,hz,P⟩:=qm (a:=ps[i].1) (k:=10) (tk:=b2) (tx:=r) (l:=l2) (by rw [<- q];exact N) h6 h5;rw [hq] at P;obtain ⟨a7,b7,s7,y7,V,_,⟨g7,dk⟩,e7⟩:=ga hz P (i:=0) rfl;obtain ⟨a9,b9,s9,y9,W,_,⟨g9,dx⟩,e9⟩:=ga hz P (i:=2) rfl;have e7: ∀{β:Type} (st:St) (K:AV->List Nat->Option β),bU 5 z 0 st K= _:=e7;have e9: ∀{β:Type} (st:St) (K:AV->List Nat->Option β),bU 5 z 2 st K= _:=e9;obtain ⟨u,eu,hu⟩:=hp0 _ V;obtain ⟨u2,cb,Z⟩:=b6 _ W;obtain ⟨Q,d,A,B,ea,y3,eb,ec,rfl,ar,ed⟩:=gT hu;obtain ⟨k4,E,F,G,ee,eg,x4,ei,y4,ek,eo,rfl,av,et,aw,ez,eF⟩:=gF Z;have a6:lu (ps[i].1,.mk 10 b2 r l2) (.agg [.int .u8 ((10:Nat):Int),.int .u8 (b2:Int),.str r,y2,.int .i64 (ps[i].1:Int)]):=by rw [<- q];exact N
     refine aa.step (ao _ _) (aa.fX WS w.w rfl ?_);show aa (uk (.agg [_,_,_,_,_]) _) _;simp only [aE,ad,af,ax,ae];refine aa.step (iI a6 rfl b8 s6 _) ?_;simp only [ck,aR,ct,Xd];refine aa.fT (WZ _ WS) w.w rfl ?_;simp only [e7,bx,gB,aj,aE,ad,af,ax,ae,iI V rfl eu,fU,fb,Xt,aR,w.p.len];obtain ⟨k,t1,x1,ep,gk,rk,kk,nk⟩:=C7 (O:=aV vE) (i:=Wl) (u:= .agg z6) w.p w.w.ro rfl rfl rfl rfl (RA (by omega));obtain ⟨fp,op⟩:=Nj (k:=Q) (lit:=d) (sp:=A) (nm:=B) ar;refine aa.step (ep _) (aa.step (LX gk rfl _) (aa.one ar.one (aa.step (DQ (v:= .agg (rA Q d A B y3)) gk rfl rk rfl op fp _) ?_)));have kp:=ye (n':=ws.length+1) (z':=6) (es':=ws++[.agg (rA Q d A B y3)]) kk gk;have w9:Vg (t1.put k (.grow (ws.length+1) sP 6 (ws++[.agg (rA Q d A B y3)]))) ((s.h,56,[.int .u8 ((10:Nat):Int),.int .u8 (b2:Int),.str r,y2,.int .i64 (ps[i].1:Int)])::tB 13 S false [] X Y) (.gs k 6 (ws.length+1)) (ws++[.agg (rA Q d A B y3)]) Y fs:=
      ⟨kp.vw w.w,.inr (.inr (.inr ⟨k,by rw [W9];rfl,by rw [W9];exact St.aQ (St.ch.1 gk).1,rk⟩)),w.a.CZ kp (by decide)⟩
     have J:k≠1:=(nk 1 _ _ (w.w.get (WZ _ WS))).symm;have cc: ∀o o',apart ⟨[k],.wrote k o⟩ ⟨[1],.wrote 1 o'⟩=true:=fun o o'=>by
      show (!k.beq 1&& ![1].contains k&& ![k].contains 1)=true;have:k.beq 1=false:=JO J;simp [this,J,J.symm]
     have cd: ∀o',apart ⟨[k],.kept⟩ ⟨[1],.wrote 1 o'⟩=true:=fun o'=>pF J;have cg: ∀o,apart ⟨[k],.wrote k o⟩ ⟨[],.kept⟩=true:=fun o=>rfl;simp only [cg,Xt,aR];refine aa.one rfl (aa.one rfl (aa.TW [_] w9 (WU rfl) fun s9 o9 _ w=> ?_));simp only [cc,cd,Xt,aR];refine aa.fT (WZ _ WS) w.w rfl ?_;simp only [e9,bx,gB,aj,aE,ad,af,ak,ax,ae,iI W rfl cb,fU,fb,Xt,aR,w.a.len];obtain ⟨j,t2,x2,cl,gj,rj,kj,nj⟩:=C7 (O:=aV vE) (i:=VB) (u:= .agg z7) w.a w.w.ro rfl rfl rfl rfl (Rl (by omega));obtain ⟨cn,cp⟩:=Kx (k:=k4) (sp:=E) (rc:=F) (nm:=G) av aw;refine aa.step (cl _) (aa.step (LX gj rfl _) (aa.one av.one (aa.one aw.one (aa.step (DQ (v:= .agg (eM k4 E F G x4 y4)) gj rfl rj rfl cp cn _) ?_))));have a8:=ye (n':=fs.length+1) (z':=7) (es':=fs++[.agg (eM k4 E F G x4 y4)]) kj gj;have cv:Vg (t2.put j (.grow (fs.length+1) sw 7 (fs++[.agg (eM k4 E F G x4 y4)]))) ((s.h,56,[.int .u8 ((10:Nat):Int),.int .u8 (b2:Int),.str r,y2,.int .i64 (ps[i].1:Int)])::tB 13 S false [] (.gs k 6 (ws.length+1)) Y) (.gs k 6 (ws.length+1)) (ws++[.agg (rA Q d A B y3)]) (.gs j 7 (fs.length+1)) (fs++[.agg (eM k4 E F G x4 y4)]):=
      ⟨a8.vw w.w,w.p.CZ a8 (by decide),.inr (.inr (.inr ⟨j,by rw [W9];rfl,by rw [W9];exact St.aQ (St.ch.1 gj).1,rj⟩))⟩
     have L:j≠1:=(nj 1 _ _ (w.w.get (WZ _ WS))).symm;have cz: ∀o o',apart ⟨[j],.wrote j o⟩ ⟨[1],.wrote 1 o'⟩=true:=fun o o'=>by
      show (!j.beq 1&& ![1].contains j&& ![j].contains 1)=true;have:j.beq 1=false:=JO L;simp [this,L,L.symm]
     have c6: ∀o',apart ⟨[j],.kept⟩ ⟨[1],.wrote 1 o'⟩=true:=fun o'=>pF L;have c7: ∀o,apart ⟨[j],.wrote j o⟩ ⟨[],.kept⟩=true:=fun o=>rfl;simp only [c7,Xt,aR];refine aa.one rfl (aa.one rfl (aa.TW [_] cv (WU rfl) fun c8 eT _ w=> ?_));simp only [cz,c6,Xt,aR];refine aa.some ⟨c8,_,_,_,_,rfl,⟨w.w.sub (Yf _ _),w.p,w.a⟩,uC g hu, ?_,by rw [W9];simp;omega,by rw [W9];simp;omega⟩;exact uE (l:=cM p1.1 p1.2:: _) m Z
    .have D:[ps[i]].flatMap nX=[]:=by rw [X2,List.flatMap_nil,Xe,MM q hk]
     rw [D,Xm,Xm,Xe,Xe,WX.2 hk];exact aa.step (ai _ _) (aa.some ⟨s6,X,ws,Y,fs,rfl,⟨w.w.sub (Yf _ _),w.p,w.a⟩,g,m,by omega,by omega⟩)
   .rintro c ⟨s,X,ws,Y,fs,rfl,w,g,m,lw,lf⟩;simp only [ae,aB,bm (show i+1<=9223372036854775807 by omega)];exact aa.inl ⟨s,X,ws,Y,fs,rfl,w,g,m,by omega,by omega⟩
  .rintro c ⟨s,X,ws,Y,fs,rfl,w,g,m,lw,lf⟩;simp only [BD,ad,af,ae,aq,if_neg (show ¬ ((es.length:Nat):Int) < (es.length:Int) by omega)];rw [hlen,Xv] at g m;exact aa.inr ⟨s,X,ws,Y,fs,rfl,w,g,m,by omega,by omega⟩
 .rintro c ⟨s,X,ws,Y,fs,rfl,w,g,m,lw,lf⟩;have c1: ∃t cs,s.get 1= .ok (.cells t cs):=⟨_,_,w.w.get WS⟩;have c0: ∃t cs,s.get 0= .ok (.cells t cs):=⟨_,_,w.w.get (WZ _ WS)⟩;exact aa.step (ae _) (aa.some ⟨rfl,X,ws,Y,fs,w.w,LO w.p (by omega) c0 c1,LO w.a (by omega) c0 c1,g,m,fun e=>by cases e⟩)
end
abbrev Hc:AV:=AV.im [(AV.int .u8 14,AV.fn (Fn.func 95) [] []),(AV.int .u8 15,AV.fn (Fn.func 97) [] []),(AV.int .u8 13,AV.fn (Fn.func 98) [] []),(AV.int .u8 11,AV.fn (Fn.func 99) [] []),(AV.int .u8 12,AV.fn (Fn.func 100) [] []),(AV.int .u8 8,AV.fn (Fn.func 101) [] []),(AV.int .u8 7,AV.fn (Fn.func 102) [] []),(AV.int .u8 6,AV.fn (Fn.func 103) [] []),(AV.int .u8 9,AV.fn (Fn.func 104) [] [])]
theorem Od:(aV vE).bare 70 []=some Hc:=aX rfl QH
theorem HV {γ:Type} (st:St) (K:Kv γ):bc (aV vE) 70 [] st K=K Hc st q0:=aG st K rfl rfl rfl Od
def ox (k F:Nat):Prop:=js (Env.T vE) 105 Hc (.int .u8 (k:Int)) false= .ok (.val (.fn (.func F) [] []))
theorem KF:ox 14 95:=by unfold ox;kernel_rfl
theorem Ly:ox 15 97:=by unfold ox;kernel_rfl
theorem Qt:ox 13 98:=by unfold ox;kernel_rfl
theorem Rp:ox 11 99:=by unfold ox;kernel_rfl
theorem Q0:ox 12 100:=by unfold ox;kernel_rfl
theorem T6:ox 8 101:=by unfold ox;kernel_rfl
theorem S1:ox 7 102:=by unfold ox;kernel_rfl
theorem Th:ox 6 103:=by unfold ox;kernel_rfl
theorem Sd:ox 9 104:=by unfold ox;kernel_rfl
theorem G9 {st:St} {x y x' y':AV} {b c:List AV} (hx:bp 6 x' b) (hy:bp 7 y' c) (d: ∀n,VM.freeze st 0 (n+1) x= .ok x') (e: ∀n,VM.freeze st 0 (n+1) y= .ok y') (k:Nat) (sp:Sp) (a:Bool) (nm:List UInt8) {β:Type} (K:AV->Option β):
  gR st 0 (.agg (eM k sp a nm x y)) K=K (.agg (eM k sp a nm x' y')):=by
 refine CN (cr (gM _ _ st 0 99 (by omega)) (cr (gM _ _ st 0 99 (by omega)) (cr (gM _ _ st 0 99 (by omega)) (cr (Cu _ st 0 99 (by omega)) (cr (Bx _ st 0 99 (by omega)) (cr (d 98) (cr (e 98) sT))))))) ?_ K;simp only [bf,hx.bare,hy.bare];rfl
theorem HM {S:Sp} {Q:AV->Prop} {K:St->Option AV} {st:St} (a:st=St.mk 2 0 (Tr.node (some (VM.Obj.cells sw z7)) (Tr.node (some (VM.Obj.cells sw z7)) Tr.leaf Tr.leaf) Tr.leaf)) (g: ∀s,Vw s (tB 0 S false [] .ay .ay)->aa (K s) Q):
  aa (aM (aV vE) 2 (.mp 1 1) (.agg [.int .i64 S.1,.int .i64 S.2]) [.int .i64 S.1,.int .i64 S.2] st fun _ s _=>K s) Q:=by
 have w0:Vo st [(1,sw,z7),(0,sw,z7)] 7 sw .ay []:=by
  rw [a];refine ⟨⟨fun q b=> ?_,by show ([1,0]:List Nat).Nodup;decide,XC _⟩,iS.ay (XC _) _ _⟩;simp only [Xb,XS,or_false] at b;rcases b with rfl | rfl <;> (refine ⟨?_,Nat.zero_le _⟩;dsimp only;rfl)
 exact aa.mh [] w0 (WU rfl) fun s1 o1 _ w=>g s1 w.w
theorem K4 {st:St} {k:Nat} {S:Sp} {rc:Bool} {nm:List UInt8} {x y:AV} {ws fs:List AV} {P:List iV} {E:List jG} (w:Vw st (tB k S rc nm x y)) (hx:OU st 6 x ws) (hy:OU st 7 y fs) (hp:cY P ws) (he:eO E fs) (hn:P.length<=100000000) {k2:Nat} {S2:Sp} {a:Bool} {b:List UInt8} {f g:AV} (h:eM k2 S2 a b f g=eM k S rc nm x y):
  aa (aM (aV vE) 7 (.mp 0 0) (.agg (eM k2 S2 a b f g)) (eM k2 S2 a b f g) st fun _ s _=>al 7 true (.mp 0 0) s fun v _=>uk v fun l=>bj l fun v1 l=>bk .u8 v1 fun n1=>bj l fun v2 l=>bk .i64 v2 fun i=>bj l fun v3 l=>bk .i64 v3 fun n3=>bj l fun v4 l=>bJ v4 fun m=>bj l fun v5 l=>dW v5 fun n=>bj l fun v6 l=>bj l fun p l=>bC l (gR s 0 (.agg [.int .u8 n1,.int .i64 i,.int .i64 n3,.bool m,.str n,v6,p]) fun v=>some v)) (vO (.mk k S rc nm P E)):=by
 rw [h];have hm:=w.v _ (WZ _ WS);refine aa.step (dq (z:=7) (cs:=eM k S rc nm x y) (off:=0) (old:=z7) hm.1 rfl (WU rfl) hm.2 _) (aa.step (bu (St.aQ (St.ch.1 hm.1).1) _ _ _ _) ?_);have hsp:cJ z7 0 (eM k S rc nm x y)=eM k S rc nm x y:=rfl;rw [hsp];simp only [eM,Xc,qR,aj,aE,ad,af,ak,ax,ae];have c: ∀j o,2<=j->st.get j= .ok o->(st.put 0 (.cells sw (eM k S rc nm x y))).get j= .ok o:=fun j o hj hg=>by
  rw [St.aY (by omega)];exact hg
 obtain ⟨x',d,q⟩:=hx.fr _ c;obtain ⟨y',e,r⟩:=hy.fr _ c;exact aa.step (G9 d e q r k S rc nm _) (aa.some (uR d hp e he hn))
theorem D8:apart q0 q0=true:=rfl
def pick (r:jG):List jG->jG
 | [e]=>e
 | _=>r
theorem gl {a k F k2:Nat} {l:List T} {S:Sp} {rc:Bool} {nm:List UInt8} {P:List iV} {E:List jG} (hf:Fit (a,node k l)) (h1:k≠1) (h2:k≠2) (Q:mF a (node k l)=S) (look:ox k F) (m:vE.isLook F=false)
  (o: ∀(y:AV) (st:St) (K:Kv AV),kK (aV vE) (Sx.prim (sx vE 35)) (.fn (.func F) [] []) [.mp 1 0,y] st K=bc (aV vE) F [.mp 1 0,y] st K)
  (say: ∀(st:St) (x:AV) (es:List AV),Vw st (tB 0 S false [] .ay .ay)->bp 5 x es->gu lu (bX a l) es->aa ((aV vE).wide F [.mp 1 0,x] st) (zZ S k2 rc nm P E)) (O:P.length<=100000000) (B:k=14->k2=6)
  (b:cM a (node k l)=if k=14 then pick (.mk k2 S rc nm P E) E else .mk k2 S rc nm P E):fA (a,node k l):=by
 rintro v hv;obtain ⟨g1,g2,g3⟩:=hf.kids h1 h2;have hsp:=wU hv (by have:=hf.t;omega);obtain ⟨x,es,C,hx,hs⟩:=qm (a:=a) (k:=k) (tk:=0) (tx:=[]) (l:=l) hv (by omega) (by omega);have p:=fun {γ:Type} (st:St) (K:Kv γ)=>iI hv rfl hsp st K;have D:=fun {γ:Type} (st:St) (K:Kv γ)=>iI hv rfl C st K;obtain ⟨a1,b1,s1,y,rfl,U⟩:=hv;obtain ⟨l',es',G,hy,V⟩:=lq U;cases G;simp only [Q] at p;refine aa.bare rfl (aa.step (LU _) ?_);simp only [UM,aE,ad,af,ax,ae,hy.ab,hy.aD];refine aa.step (p _ _) ?_;simp only [cf,bw,bG,aE,ad,af,ae,ak];refine HM rfl fun s w=> ?_;rw [show ((k:Int)==1)=(k==1) from bP k 1,WX.2 h1,show ((k:Int)==14)=(k==14) from bP k 14];refine aa.step (ai _ _) (aa.step (HV _ _) ?_);have look:js (Env.T vE) 105 Hc (.int .u8 (k:Int)) false= _:=look;simp only [fU,fb,D8,Xt,aR,look,JD];refine aa.step (D _ _) ?_;simp only [fU,fb,D8,Xt,aR];refine aa.step (o _ _ _) ?_;refine aa.gm (say s x es w hx hs) m rfl ?_;rintro v2 s2 ⟨_,X,ws,Y,fs,w,sx,r,hp,he,ho⟩;by_cases hk:k=14
 .subst hk;obtain rfl:=B rfl;rw [if_pos rfl] at b;have ho:=ho rfl;have H:=he.len;refine aa.bind (R:=fun c=>c=([.bool ((fs.length:Int)==1)],s2)) (aa.step (ao _ _) (aa.fT WS w rfl (aa.step (Ht ho _) (aa.some rfl)))) ?_;rintro c rfl;simp only [ad,ak,ae];by_cases q:fs.length=1
  .obtain ⟨e,rfl⟩:=List.length_eq_one_iff.1 (show E.length=1 by omega);simp only [eO] at he;obtain ⟨u,us,rfl,hu,rfl⟩:=he;obtain ⟨A,d,f,g,W,Z,I,ar,y4,av,J,rfl,i,L,j,M,N⟩:=gF hu;refine aa.step (ao _ _) (aa.fT WS w rfl (aa.step (Ck ho (k:=0) rfl _ _) ?_));simp only [jK,bx,qR,aj,aE,ad,af,ak,ax,ae,i.ab,j.ab];have hm:=w.v _ (WZ _ WS);refine aa.step (dq (z:=7) (cs:=eM A d f g I y4) (off:=0) (old:=z7) hm.1 rfl (WU rfl) hm.2 _) (aa.step (bu (St.aQ (St.ch.1 hm.1).1) _ _ _ _) ?_);rw [show cJ z7 0 (eM A d f g I y4)=eM A d f g I y4 from rfl];simp only [eM,Xc,qR,aj,aE,ad,af,ak,ax,ae];refine aa.step (G9 i j (fun n=>yl i _ 0 (n+1) (by omega)) (fun n=>yl j _ 0 (n+1) (by omega)) A d f g _) (aa.some ?_);show vO (cM a (node 14 l)) _;rw [b];show vO e _;rw [J];exact uR i L j M N
  .rw [show ((fs.length:Int)==1)=false by rw [WX];omega];refine aa.step (ai _ _) (aa.fX WS w rfl ?_);simp only [aE,ad,af,ak,ax,ae];refine aa.one sx.one (aa.one r.one ?_);have hne:cM a (node 14 l)= .mk 6 S rc nm P E:=by
    rw [b]
    match E,H with
    | [],_=>rfl
    | [_],h=>exact absurd (h.trans rfl) q
    | _:: _:: _,_=>rfl
   show aa _ (vO (cM a (node 14 l)));rw [hne];exact K4 w sx r hp he O rfl
 .rw [if_neg hk] at b;refine aa.bind (R:=fun c=>c=([.bool false],s2)) (by rw [WX.2 hk];exact aa.step (ai _ _) (aa.some rfl)) ?_;rintro c rfl;simp only [ad,ak,ae];refine aa.step (ai _ _) (aa.fX WS w rfl ?_);simp only [aE,ad,af,ak,ax,ae];refine aa.one sx.one (aa.one r.one ?_);show aa _ (vO (cM a (node k l)));rw [b];exact K4 w sx r hp he O rfl
theorem JA {a tk:Nat} {tx:List UInt8} {ks:List T} (hf:Fit (a,.mk 1 tk tx ks)) (ht:Tv iA ks) (e:iA (tk,tx)):fA (a,.mk 1 tk tx ks):=by
 rintro v hv;obtain ⟨g1,g2,g3⟩:=E1 hf ht;have hsp:=wU hv (by have:=hf.t;omega);have c:=fun {γ:Type} (st:St) (K:Kv γ)=>iI hv rfl hsp st K;obtain ⟨l,b1,s1,y,rfl,g⟩:=hv;obtain ⟨m,es',d,hy,h⟩:=lq g;cases d;have i:=fun {γ:Type} (st:St) (K:Kv γ)=>aG (f:=69) st K rfl rfl rfl (HF e g3);have b:cM a (.mk 1 tk tx ks)= .mk (gh tk tx).1 (mF a (.mk 1 tk tx ks)) false (gh tk tx).2 [] []:=by rw [cM,nE,if_pos rfl]
 generalize j:mF a (.mk 1 tk tx ks)=S at *;refine aa.bare rfl (aa.step (LU _) ?_);simp only [UM,aE,ad,af,ax,ae,hy.ab,hy.aD];refine aa.step (c _ _) ?_;simp only [cf,bw,bG,aE,ad,af,ae,ak,j];refine HM rfl fun s w=> ?_;refine aa.step (ao _ _) (aa.step (i _ _) ?_);simp only [cf,bw,bG,af,ax];have w:Vo s (tB 0 S false [] .ay .ay) 7 sw .ay []:=⟨w,iS.ay w.ro _ _⟩;refine aa.mh [] w (WU rfl) fun n p _ w=>aa.mh [] w (WU rfl) fun k q _ w=> ?_;have w:Vo k (tB (gh tk tx).1 S false (gh tk tx).2 .ay .ay) 7 sw .ay []:=w;refine aa.fX WS w.w rfl ?_;simp only [aE,ad,af,ak,ax,ae];show aa _ (vO (cM a (.mk 1 tk tx ks)));rw [b];exact aa.one rfl (aa.one rfl (K4 w.w (fZ (iS.ay w.w.ro 6 sP)) (fZ w.o) cY.nil eO.nil (XC _) rfl))
theorem ff (a k:Nat) (l:List T):cM a (node k l)=nE k 0 [] (mF a (node k l)) l (pC a l) (gz a l) (uc a l):=by rw [node,cM]
structure CE (ps:List (Nat×T)) (m:Nat) (p1 pe:Nat×T):Prop where
 h1:ps[1]? =some p1
 hm:m=if isRec p1.2=true then 2 else 1
 hl:m+3<=ps.length
 hp: ∀p∈(ps.drop m).take (ps.length - m - 2),ny p
 he:ps[ps.length - 1]? =some pe
 hE:fA pe
theorem CE.eq {l:List T} {a m:Nat} {p1 pe:Nat×T} (h:CE (bX a l) m p1 pe):mP l (pC a l) (gz a l)=(isRec p1.2&&xP (xa m (bX a l)),xa m (bX a l),cM pe.1 pe.2):=by
 have c:l.getD 1 default=p1.2:=by
  have:=Xy (fun o:Option (Nat×T)=>o.map (·.2)) h.h1;simp only [Option.map_some] at this;rw [<- XG,nP] at this;rw [Xp,this];rfl
 have d:(gz a l).getD ((gz a l).length - 1) default=cM pe.1 pe.2:=by
  rw [gr,Xn,Xp,XG,h.he];rfl
 have hm:=h.hm;have b:m=if isRec p1.2=true then 2 else 1:=hm
 unfold mP;simp only [c,d, <- b];have e:((pC a l).drop m).take ((pC a l).length - m - 2)=xa m (bX a l):=by
  unfold xa;rw [ml,Xn,List.map_take,List.map_drop]
 rw [e];rfl
theorem JR {t:T} (h:PT iA t):isRec t=false:=by
 cases h with
 | leaf a hk ht=>
  rename_i k tx ks;show (k==3&&tx==dn)=false;rcases hk with rfl | rfl | rfl | ⟨_,rfl | rfl | rfl⟩
  .rfl
  .rfl
  .rfl
  .simp [gw,dn]
  .simp [eD,dn]
  .simp [np,dn]
 | cons _ _ _=>rfl
 | none _ _=>rfl
 | some _ _ _ _=>rfl
theorem Lw {t:T} (h:Lf iA dn t):isRec t=true:=by
 obtain ⟨k,ks,rfl,hk,a,_⟩:=h;rcases hk with rfl | rfl
 .rfl
 .have:=a.2.2 rfl;simp [dn] at this
theorem MB {s:List UInt8} {t:T} (h:Lf iA s t): ∃tk tx l,t= .mk 1 tk tx l:=by
 obtain ⟨k,ks,rfl,_⟩:=h;exact ⟨k,s,ks,rfl⟩
theorem QF {p:Nat×T} {k tk:Nat} {tx:List UInt8} {l:List T} (h:p.2= .mk k tk tx l) (hk:k≠10):KB p:=fun a b c e=>by
 rw [h] at e;injection e with e
 exact absurd e hk
theorem Mp {t:T} (h:ET iA t): ∃k tk tx l,t= .mk k tk tx l/\k≠10:=by
 cases h with
 | leaf _ _ _=>exact ⟨_,_,_,_,rfl,by decide⟩
 | letin _ _ _ _=>exact ⟨_,_,_,_,rfl,by decide⟩
 | lambda _ _ _ _ _=>exact ⟨_,_,_,_,rfl,by decide⟩
 | ife _ _ _ _ _ _=>exact ⟨_,_,_,_,rfl,by decide⟩
 | mtch _ _ _ _ _ _=>exact ⟨_,_,_,_,rfl,by decide⟩
 | bin _ _ _=>exact ⟨_,_,_,_,rfl,by decide⟩
 | un _ _=>exact ⟨_,_,_,_,rfl,by decide⟩
 | app _ _=>exact ⟨_,_,_,_,rfl,by decide⟩
 | none h1 h2=>rename_i list o c;exact ⟨_,_,_,_,rfl,by cases list <;> decide⟩
 | some h1 h2 h3 h4=>rename_i list o c x l;exact ⟨_,_,_,_,rfl,by cases list <;> decide⟩
theorem LP: ∀(n:Nat) (l:List T),l.length<=n->R6 iA l-> ∀t∈l,AT iA t\/ ∃s,Lf iA s t
 | _,[],_,_,t,ht=>by cases ht
 | 0,_:: _,h,_,_,_=>by simp at h
 | n+1,b::l,h,hl,t,ht=>by
  cases hl with
  | cons hb ha hl=>
   rename_i a c;rcases Xb.1 ht with rfl | ht
   .exact .inr ⟨_,hb⟩
   .rcases Xb.1 ht with rfl | ht
    .exact .inl ha
    .exact LP n c (by simp at h;omega) hl t ht
theorem vL {l:List T} {a i:Nat} {t:T} (h:l[i]? =some t): ∃p,(bX a l)[i]? =some p/\p.2=t:=by
 have:(bX a l).map (·.2)=l:=nP l a;rw [<- this,XG] at h;obtain ⟨p,hp,e⟩:=Xq.1 h;exact ⟨p,hp,e⟩
structure Below (n:Nat) (ps:List (Nat×T)):Prop where
 s: ∀p∈ps,SizeOf.sizeOf p.2 < n
 f: ∀p∈ps,Fit p
theorem ag {n:Nat} (ih: ∀(t:T) (a:Nat),SizeOf.sizeOf t < n->ET iA t->Fit (a,t)->fA (a,t)) {x:T} {bs:List T} {a:Nat} (hb:BT iA bs) (c:Below n (bX a (x::bs))): ∃m p1 pe,CE (bX a (x::bs)) m p1 pe:=by
 cases hb with
 | mk h hp hps v he=>
  rename_i rc ps p q e;have hlen:(bX a (x::(rc++(p::ps)++[q]++[e]))).length=rc.length+ps.length+4:=by rw [dt];simp;omega
  have d: ∀t,t=p\/t∈ps->PT iA t:=fun t ht=>by
   rcases ht with rfl | ht
   .exact hp
   .exact hps t ht
  have i:rc=[]\/ ∃r,Lf iA dn r/\rc=[r]:=h;obtain ⟨t1,j,hm⟩: ∃t1,(x::(rc++(p::ps)++[q]++[e]))[1]? =some t1/\rc.length+1=if isRec t1=true then 2 else 1:=by
   rcases i with rfl | ⟨r,k,rfl⟩
   .exact ⟨p,rfl,by rw [JR hp];rfl⟩
   .exact ⟨r,rfl,by rw [Lw k];rfl⟩
  obtain ⟨p1,hp1,rfl⟩:=vL (a:=a) j;have l:(x::(rc++(p::ps)++[q]++[e]))[rc.length+ps.length+3]? =some e:=by
   rw [show rc.length+ps.length+3=(rc.length+ps.length+2)+1 from rfl,Yp,XB (by simp;omega)];have:rc.length+ps.length+2 - (rc++(p::ps)++[q]).length=0:=by simp;omega
   rw [this];rfl
  obtain ⟨pe,g,rfl⟩:=vL (a:=a) l;refine ⟨rc.length+1,p1,pe,hp1,hm,by omega,fun y hy=> ?_,by rw [hlen];exact g, ?_⟩
  .have b:y∈bX a (x::(rc++(p::ps)++[q]++[pe.2])):=List.mem_of_mem_drop (List.mem_of_mem_take hy);have o:y.2∈(p::ps):=by
    have h1:=List.mem_map_of_mem (f:=fun z:Nat×T=>z.2) hy;rw [List.map_take,List.map_drop,nP,hlen] at h1;have u:rc.length+ps.length+4 - (rc.length+1) - 2=ps.length+1:=by omega
    rw [u,XN,W6,W6,List.drop_left',List.take_left'] at h1
    .exact h1
    .rfl
    .rfl
   exact F6 _ y.2 y.1 (XW _) (d _ (Xb.1 o)) (c.f y b)
  .have b:=Xo g;exact ih pe.2 pe.1 (c.s _ b) he (c.f _ b)
theorem iX {n a k:Nat} {l:List T} (hs:SizeOf.sizeOf (node k l) < n+1) (hf:Fit (a,node k l)) (h1:k≠1) (h2:k≠2):Below n (bX a l):=
 ⟨fun p hp=>by have:=yJ (k:=k) (qU hp);omega,(hf.kids h1 h2).2.2⟩
theorem Below.sub {n:Nat} {ps a:List (Nat×T)} (h:Below n ps) (hs: ∀p∈a,p∈ps):Below n a:=⟨fun p hp=>h.s p (hs p hp),fun p hp=>h.f p (hs p hp)⟩
theorem LM {l:List (Nat×T)} (h:l.length < 100000000):(l.map fun p=>iu p.1 p.2).length<=100000000:=by rw [Xn];omega
theorem MK: ∀(n:Nat) (t:T) (a:Nat),SizeOf.sizeOf t < n->ET iA t->Fit (a,t)->fA (a,t):=by
 intro n
 induction n with
 | zero=>intro t a h;omega
 | succ n ih=>
  intro t a hn hE hf;have sub: ∀{k:Nat} {l:List T},t=node k l->k≠1->k≠2-> ∀p∈bX a l,ET iA p.2->fA p:=fun ht h1 h2 p hp H=>by
   subst ht;have hb:=iX hn hf h1 h2;exact ih p.2 p.1 (hb.s p hp) H (hb.f p hp)
  cases hE with
  | leaf G hk ht=>exact JA hf ht G
  | bin ha ho hb=>
   rename_i x op y s;have hs:=sub rfl (by decide) (by decide);refine gl hf (by decide) (by decide) rfl Rp rfl (fun _ _ _=>rfl) (fun st x es w hx d=>UJ w hx d (hs _ (by simp [bX]) ha) (hs _ (by simp [bX]) hb)) (XC _) (fun e=>by cases e) ?_;rw [ff];simp [nE,gz,bX]
  | un ho ha=>
   rename_i op x;have hs:=sub rfl (by decide) (by decide);refine gl hf (by decide) (by decide) rfl Q0 rfl (fun _ _ _=>rfl) (fun st x es w hx d=>Vh w hx d (hs _ (by simp [bX]) ha)) (XC _) (fun e=>by cases e) ?_;rw [ff];simp [nE,gz,bX]
  | ife hi ha ht hb hl hc=>
   have hs:=sub rfl (by decide) (by decide);refine gl hf (by decide) (by decide) rfl T6 rfl (fun _ _ _=>rfl) (fun st x es w hx d=>Ve w hx d (hs _ (by simp [bX]) ha) (hs _ (by simp [bX]) hb) (hs _ (by simp [bX]) hc)) (XC _) (fun e=>by cases e) ?_;rw [ff];simp [nE,gz,bX]
  | app ha hb=>
   rename_i x y;have hs:=sub rfl (by decide) (by decide);obtain ⟨g1,g2,g3⟩:=hf.kids (by decide) (by decide);refine gl hf (by decide) (by decide) rfl Qt rfl (fun _ _ _=>rfl) (fun st x es w hx d=>UK w hx d (by rw [dt];omega) (fun p hp=>hs p hp ?_)) (XC _) (fun e=>by cases e) ?_
   .have:=qU hp;simp only [Xb,XS,or_false] at this;rcases this with h | h <;> rw [h] <;> assumption
   .rw [ff];simp [nE,gr]
  | none ho hc=>
   rename_i list o c;cases list with
   | false=>
    refine gl hf (by decide) (by decide) rfl KF rfl (fun _ _ _=>rfl) (fun st x es w hx d=>Ty w hx d (by rw [dt];exact WU rfl) (fun p hp=>by simp [bX,ey] at hp)) (XC _) (fun _=>rfl) ?_;rw [ff];simp [nE,gz,bX,ey,Ez,pick,kindOf]
   | true=>
    refine gl hf (by decide) (by decide) rfl Ly rfl (fun _ _ _=>rfl) (fun st x es w hx d=>SC w hx d (by rw [dt];exact WU rfl) (fun p hp=>by simp [bX,ey] at hp)) (XC _) (fun e=>by cases e) ?_;rw [ff];simp [nE,gz,bX,ey,kindOf]
  | some ho ha hl hc=>
   rename_i list o c x l;cases list with
   | false=>
    have hs:=sub rfl (by decide) (by decide);obtain ⟨g1,g2,g3⟩:=hf.kids (by decide) (by decide);refine gl hf (by decide) (by decide) rfl KF rfl (fun _ _ _=>rfl) (fun st y es w hx d=>Ty w hx d (by rw [dt];exact g2) (fun p hp=>hs p (wJ hp) (Bz _ l (WW _) hl o x c ha p.2 (BU hp)))) (XC _) (fun _=>rfl) ?_;rw [ff];show Ez _ (ey (gz a _))=pick _ _;rw [gr,jZ];generalize List.map (fun p:Nat×T=>cM p.1 p.2) _=E
    match E with
    | []=>rfl
    | [_]=>rfl
    | _:: _:: _=>rfl
   | true=>
    have hs:=sub rfl (by decide) (by decide);obtain ⟨g1,g2,g3⟩:=hf.kids (by decide) (by decide);refine gl hf (by decide) (by decide) rfl Ly rfl (fun _ _ _=>rfl) (fun st y es w hx d=>SC w hx d (by rw [dt];exact g2) (fun p hp=>hs p (wJ hp) (Bz _ l (WW _) hl o x c ha p.2 (BU hp)))) (XC _) (fun e=>by cases e) ?_;rw [ff];show jG.mk 7 _ false [] [] (ey (gz a _))= _;rw [gr,jZ];rfl
  | lambda N hp hps A he=>
   rename_i f p g e ps;have hs:=sub rfl (by decide) (by decide);obtain ⟨g1,g2,g3⟩:=hf.kids (by decide) (by decide);have hb:=iX hn hf (by decide) (by decide);obtain ⟨b1,hpos⟩: ∃b1 b2 b3,bX a (f::p::ps++[g]++[e])=(a,f)::bX b1 (p::ps)++[(b2,g)]++[(b3,e)]:=⟨_,_,_,by rw [lM,lM];rfl⟩;obtain ⟨b2,b3,hpos⟩:=hpos;rw [hpos] at hs hb;refine gl (k2:=11) (rc:=false) (nm:=[]) (P:=(bX b1 (p::ps)).map fun p=>iu p.1 p.2) (E:=[cM b3 e]) hf (by decide) (by decide) rfl S1 rfl (fun _ _ _=>rfl) (fun st y es w hx d=> ?_) (LM (by rw [dt];simp at g2 ⊢;omega)) (fun e=>by cases e) ?_
   .rw [hpos] at d;refine U3 w hx d (by rw [dt];simp at g2 ⊢;omega) (fun q G=> ?_) (hs (b3,e) (by simp) he);have hm:q∈(a,f)::bX b1 (p::ps)++[(b2,g)]++[(b3,e)]:=by simp [G]
    have I:=qU G;refine F6 _ q.2 q.1 (XW _) ?_ (hb.f q hm);rcases Xb.1 I with h | h
    .rw [h];exact hp
    .exact hps _ h
   .rw [ff,ml,gr,hpos];show jG.mk 11 _ false [] (List.take _ (List.drop 1 _)) [_]= _;have hlen:(bX b1 (p::ps)).length=ps.length+1:=dt _ _;have J:((List.map (fun p:Nat×T=>cM p.1 p.2) ((a,f)::bX b1 (p::ps)++[(b2,g)]++[(b3,e)])).getD ((List.map (fun p:Nat×T=>cM p.1 p.2) ((a,f)::bX b1 (p::ps)++[(b2,g)]++[(b3,e)])).length - 1) default)=cM b3 e:=by
     rw [Xh,Xp,XB (by simp)];simp
    rw [J];have K:List.take ((List.map (fun p:Nat×T=>iu p.1 p.2) ((a,f)::bX b1 (p::ps)++[(b2,g)]++[(b3,e)])).length - 3) (List.drop 1 (List.map (fun p:Nat×T=>iu p.1 p.2) ((a,f)::bX b1 (p::ps)++[(b2,g)]++[(b3,e)])))=(bX b1 (p::ps)).map fun p=>iu p.1 p.2:=by
     simp only [Xf,W8,XN,Xc,Xh,W6];rw [List.take_left'];simp
    rw [K];rfl
  | letin hle hb O he=>
   rename_i x i e bs;have hs:=sub rfl (by decide) (by decide);obtain ⟨g1,g2,g3⟩:=hf.kids (by decide) (by decide);have j:=iX hn hf (by decide) (by decide);obtain ⟨b2,b3,hpos⟩: ∃b2 b3,bX a (x::bs++[i]++[e])=bX a (x::bs)++[(b2,i)]++[(b3,e)]:=⟨_,_,by rw [lM,lM]⟩;rw [hpos] at hs j;obtain ⟨m,p1,pe,u⟩:=ag ih (x:=x) (a:=a) hb (j.sub fun p hp=>by simp [hp]);have heq:=u.eq;have Q:(bX a (x::bs)).length=bs.length+1:=dt _ _;have R:bs.length+3 < 100000000:=by simpa using g2
   refine gl (k2:=14) (nm:=[]) (P:=xa m (bX a (x::bs))) (E:=[cM pe.1 pe.2,cM b3 e]) (rc:=isRec p1.2&&xP (xa m (bX a (x::bs)))) hf (by decide) (by decide) rfl Th rfl (fun _ _ _=>rfl) (fun st y es w hx d=> ?_) (by unfold xa;rw [Xn,Xg];omega) (fun e=>by cases e) ?_
   .rw [hpos] at d;exact Vc w hx d (by omega) u.h1 u.hm u.hl u.hp u.he u.hE (hs (b3,e) (by simp) he)
   .rw [ff];have S:(x::bs++[i]++[e]).take ((x::bs++[i]++[e]).length - 2)=x::bs:=by
     rw [W6,List.take_left'];simp
    have J:(pC a (x::bs++[i]++[e])).take ((pC a (x::bs++[i]++[e])).length - 2)=pC a (x::bs):=by
     rw [ml,ml,hpos,Xh,Xh,W6,List.take_left'];simp
    have K:(gz a (x::bs++[i]++[e])).take ((gz a (x::bs++[i]++[e])).length - 2)=gz a (x::bs):=by
     rw [gr,gr,hpos,Xh,Xh,W6,List.take_left'];simp
    have U:(gz a (x::bs++[i]++[e])).getD ((gz a (x::bs++[i]++[e])).length - 1) default=cM b3 e:=by
     rw [gr,hpos,Xh,Xp,XB (by simp)];simp
    show jG.mk 14 _ (mP _ _ _).1 [] (mP _ _ _).2.1 [(mP _ _ _).2.2,_]= _;rw [S,J,K,U,heq];rfl
  | mtch hm he hw B ha has=>
   rename_i m e w x bar l2;have hs:=sub rfl (by decide) (by decide);obtain ⟨g1,g2,g3⟩:=hf.kids (by decide) (by decide);have j:=iX hn hf (by decide) (by decide);have C: ∀t∈m::e::w::bar++x::l2,AT iA t\/ ∃k tk tx l,t= .mk k tk tx l/\k≠10:=fun t ht=>by
    have r: ∀{s:List UInt8} {t:T},Lf iA s t-> ∃k tk tx l,t= .mk k tk tx l/\k≠10:=fun h=>by
     obtain ⟨tk,tx,l,rfl⟩:=MB h;exact ⟨1,tk,tx,l,rfl,by decide⟩
    simp only [Xf,Xb,Xj] at ht;rcases ht with rfl | rfl | rfl | h | rfl | h
    .exact .inr (r hm)
    .exact .inr (Mp he)
    .exact .inr (r hw)
    .rcases B with rfl | ⟨b,hb,rfl⟩
     .cases h
     .obtain rfl:t=b:=by simpa using h
      exact .inr (r hb)
    .exact .inl ha
    .rcases LP _ l2 (WW _) has t h with h | ⟨s,h⟩
     .exact .inl h
     .exact .inr (r h)
   have D: ∀p∈bX a (m::e::w::bar++x::l2),KB p:=fun p hp=>by
    rcases C p.2 (qU hp) with h | ⟨k,tk,tx,l,e,hk⟩
    .obtain ⟨q,t⟩:=p;have F:=j.f _ hp;have hsp:=j.s _ hp;simp only at h;cases h with
     | mk L A M=>
      rename_i y g z;intro tk tx l e;have e:node 10 [y,g,z]= .mk 10 tk tx l:=e;injection e with _ _ _ e
      subst e;obtain ⟨f1,f2,f3⟩:=F.kids (by decide) (by decide);have v:Below n (bX q [y,g,z]):=iX (k:=10) (Nat.lt_succ_of_lt hsp) F (by decide) (by decide);refine ⟨WU rfl,(show q+(bB [y,g,z]).length<=1000000000000 by omega),_,_,_,rfl, ?_, ?_⟩
      .exact F6 _ y q (XW _) L (v.f (q,y) (by simp [bX]))
      .exact ih z (q+(cy y).length+(cy g).length) (v.s (q+(cy y).length+(cy g).length,z) (by simp [bX])) M (v.f (q+(cy y).length+(cy g).length,z) (by simp [bX]))
    .exact QF e hk
   have h1:(bX a (m::e::w::bar++x::l2))[1]? =some (a+(cy m).length,e):=rfl;refine gl (P:=((bX a (m::e::w::bar++x::l2)).flatMap nX).map (·.1)) (E:=cM (a+(cy m).length) e::((bX a (m::e::w::bar++x::l2)).flatMap nX).map (·.2)) hf (by decide) (by decide) rfl Sd rfl (fun _ _ _=>rfl) (fun st y es w' hx d=>UN w' hx d (by rw [dt];exact g2) h1 (hs (a+(cy m).length,e) (Xo h1) he) D) ?_ (fun e=>by cases e) ?_
   .rw [Xn];have: ∀l:List (Nat×T),(l.flatMap nX).length<=l.length:=fun l=>by
     induction l with
     | nil=>exact WW _
     | cons p l ih=>
      rw [X2,W9,Xk];have:(nX p).length<=1:=by
       unfold nX;cases p.2 with
       | mk k tk tx l=>rw [Cw];split <;> simp
      omega
    have h2:=this (bX a (m::e::w::bar++x::l2));rw [dt] at h2;exact Xs h2 (YH g2)
   .rw [ff,A7,gr];rfl
theorem Bn: ∀{l:List Bd} {es:List AV} {p:Bd} {v:AV},iq l es->Qm p v->iq (l++[p]) (es++[v])
 | [],_,_,_,h,k=>by
  simp only [iq] at h;subst h;simp only [iq,W5];exact ⟨_,_,rfl,k,rfl⟩
 | p::l,_,_,_,h,k=>by
  simp only [iq] at h;obtain ⟨w,ws,rfl,h1,h2⟩:=h;simp only [Xf,iq];exact ⟨w,_,rfl,h1,Bn h2 k⟩
def Fh (p:Nat×T):Prop:= ∀tk tx l,p.2= .mk 5 tk tx l->l.length < 100000000/\p.1+(bB l).length<=1000000/\ ∃m p1 pe,CE (bX p.1 l) m p1 pe
def py (p:Nat×T):List Bd:=sR p.1 p.2
theorem Ko {p:Nat×T} {k tk:Nat} {tx:List UInt8} {l:List T} (h:p.2= .mk k tk tx l) (hk:k≠5):py p=[]:=by
 unfold py;rw [h,sR,if_neg hk]
theorem xQ: ∀(l:List T) (a:Nat),gU a l=(bX a l).flatMap py
 | [],_=>rfl
 | t::l,a=>by rw [gU,bX,X2,xQ l];rfl
theorem EV: ∀(l:List (Nat×T)),(l.flatMap py).length<=l.length
 | []=>WW _
 | p::l=>by
  rw [X2,W9,Xk];have h1:=EV l;have h2:(py p).length<=1:=by
   unfold py;cases p.2 with
   | mk k tk tx l=>rw [sR];split <;> simp
  omega
theorem Gg {ps:List (Nat×T)} {x:AV} {es:List AV} (hx:bp 5 x es) (hs:gu lu ps es) (hn:ps.length < 100000000) (hd: ∀p∈ps,Fh p) (hf: ∀p∈ps,p.1+(cy p.2).length<=1000000) {st0:St} (w0:Wv S0 st0 [] 11 JF .ay []):
  aa (aK (G4 x es.length) ([.ay,.int .i64 0],st0)) fun c=> ∃s v ws,c=(0,[v],s)/\Wv S0 s [] 11 JF v ws/\iq (ps.flatMap py) ws:=by
 have hlen:=hs.len;refine aa.upto (n:=es.length) (I:=fun i c=> ∃s v ws,c=([v,.int .i64 (i:Int)],s)/\Wv S0 s [] 11 JF v ws/\iq ((ps.take i).flatMap py) ws) ?_ ?_ es.length 0 _ (by omega) ⟨st0,.ay,[],rfl,w0,by simp [iq]⟩
 .rintro i c hi ⟨s,v,ws,rfl,w,hw⟩;have a:i < ps.length:=by omega
  have L:=hw.len;have r:=EV (ps.take i);rw [Xg] at r;obtain ⟨a2,b2,b,y,t,e⟩:=oB hx hs (Xl a);obtain ⟨l2,M,d,hy,_⟩:=lq t;have B:lu ps[i] (.agg [.int .u8 (a2:Int),.int .u8 (b2:Int),.str b,y,.int .i64 (ps[i].1:Int)]):=⟨a2,b2,b,y,rfl,t⟩;simp only [G4,ad,af,ae,aq,if_pos (show (i:Int) < (es.length:Int) by omega),e,bx,gB,aj,aE,ax];refine aa.ux w fun s1 _ w=>aa.step (hy.ab _) ?_;refine aa.vi [] w fun s2 _ _ w=>aa.fT WS w.w rfl (aa.step (af _ _ _) ?_);rw [show ((a2:Int)==5)=(a2==5) from bP a2 5,jP a,List.flatMap_append];refine aa.bind (R:=fun c=> ∃s v f,c=([v],s)/\Wv S0 s [] 11 JF v f/\iq ((ps.take i).flatMap py++[ps[i]].flatMap py) f) ?_ ?_
  .by_cases hk:a2=5
   .subst hk;obtain ⟨N,W,m,p1,pe,l⟩:=hd _ (Yd a) _ _ _ d;have A:lu (ps[i].1,.mk 5 b2 b l2) (.agg [.int .u8 ((5:Nat):Int),.int .u8 (b2:Int),.str b,y,.int .i64 (ps[i].1:Int)]):=by rw [<- d];exact B
    obtain ⟨z,zs,C,hz,D⟩:=qm A (by omega) (by omega);obtain ⟨u,O,hu⟩:=yz hz D (by rw [dt];exact N) l.h1 l.hm l.hl l.hp l.he l.hE;obtain ⟨z3,a3,k,sp,rc,nm,X,ls,J,P,y3,Q,rfl,g,E,o,h,F,j,G,H⟩:=Ej hu rfl;have hsp:=wU B (by have:=hf _ (Yd a);omega);have q:[ps[i]].flatMap py=[⟨mF ps[i].1 ps[i].2,isRec p1.2&&xP (xa m (bX ps[i].1 l2)),xa m (bX ps[i].1 l2),cM pe.1 pe.2⟩]:=by
     rw [X2,List.flatMap_nil,Xe];unfold py;generalize K:mF ps[i].1 ps[i].2=S;rw [d] at K ⊢;rw [sR,if_pos rfl,l.eq,K]
    rw [q];generalize mF ps[i].1 ps[i].2=S at *;refine aa.step (ao _ _) (aa.fX WS w.w rfl ?_);simp only [aE,ad,af,ax,ae];refine aa.step (iI A rfl C _ _) (aa.step (KH hz O rfl _ _) ?_);simp only [aE,ad,af,ak,ax,ae];refine aa.ux w fun Y U w=>aa.step (g.ab _) (aa.step (h.ab _) (aa.step (j.ab _) ?_));refine aa.vi [] w fun Z _ _ w=>aa.fX (WZ _ WS) w.w rfl ?_;simp only [aE,ad,af,ax,ae];refine aa.step (iI B rfl hsp _ _) ?_;simp only [cf,bw,bG,aE,ad,af,ae,ak];refine aa.WE [] w (WU rfl) fun s6 o6 _ w=>aa.fX WS w.w rfl ?_;show aa (uk (.agg (pP S (isRec p1.2&&xP (xa m (bX ps[i].1 l2))) z3 k sp rc nm J y3)) _) _;simp only [aE,ad,af,ak,ax,ae,g.ab,h.ab,j.ab,g.aD,h.aD,j.aD];refine aa.KD w (by omega) (by omega) (by omega) fun v2 V _ w=>aa.some ⟨V,v2,_,rfl,w.none,Bn hw ?_⟩;exact ⟨z3,a3,eM k sp rc nm J y3,rfl,g,E,by rw [show cM pe.1 pe.2= _ from o];exact uR h F j G H⟩
   .rw [WX.2 hk,X2,List.flatMap_nil,Xe,Ko d hk,Xe];exact aa.step (ai _ _) (aa.some ⟨s2,v,ws,rfl,w.none,hw⟩)
  .rintro c ⟨s,v,f,rfl,w,hw⟩;simp only [ad,ae,aB,bm (show i+1<=9223372036854775807 by have:=hx.1;omega)];exact aa.inl ⟨s,v,f,rfl,w,hw⟩
 .rintro c ⟨s,v,ws,rfl,w,hw⟩;simp only [G4,ad,af,ae,aq,if_neg (show ¬ ((es.length:Nat):Int) < (es.length:Int) by omega)];rw [hlen,Xv] at hw;exact aa.inr ⟨s,v,ws,rfl,w,hw⟩
def Ui (s:List UInt8) (v:AV):Prop:=match Bv s with
 | .ok D=> ∃x es,v= .tup [x,.int .i64 0]/\bp 11 x es/\iq D es
 | .error e=>v= .tup [.ay,.int .i64 (e:Int)]
theorem Di {n:Nat}: ∀(k:Nat) (l:List T) (a:Nat),l.length<=k->DT iA l->Below n (bX a l)-> ∀p∈bX a l,Fh p
 | _,[],_,_,_,_,p,hp=>by cases hp
 | 0,_:: _,_,h,_,_,_,_=>by simp at h
 | k+1,t::l,a,h,hd,hb,p,hp=>by
  cases hd with
  | last _=>
   intro tk tx g e;obtain rfl:p=(a,_):=by simpa [bX] using hp
   injection e with e
   cases e
  | cons ha c hl=>
   rename_i x bs;rcases Xb.1 hp with rfl | hp
   .intro tk tx g e;have e:node 5 (x::bs)= .mk 5 tk tx g:=e;injection e with _ _ _ e
    subst e;have b:=hb.f _ WS;have hsp:=hb.s _ WS;obtain ⟨f1,f2,f3⟩:=b.kids (by decide) (by decide);have d:Below n (bX a (x::bs)):=iX (k:=5) (Nat.lt_succ_of_lt hsp) b (by decide) (by decide);exact ⟨f2,f1,ag (MK n) c d⟩
   .exact Di k l _ (by simp at h;omega) hl (hb.sub fun q i=>WZ _ i) p hp
theorem O3: ∀(r:List aU),Wt r=100 * r.length+(cD r).length
 | []=>rfl
 | t::r=>by
  rw [Wt,O3 r,Parse.kI,W9,Xk];omega
theorem Ig {s:List UInt8} (hl:s.length<=65536) (hg:bZ (doc (tokens s))=true): ∃l,doc (tokens s)=node 4 l/\l.length < 100000000/\(bB l).length<=1000000/\(∀p∈bX 0 l,Fh p)/\ ∀p∈bX 0 l,Fit p:=by
 obtain ⟨l,e,d⟩:=ju (tokens s);have ht:=KV (tokens s) (oG s);have hz:=P4 (tokens s);have hk:=qD s;rw [jl] at ht;rw [O3,jl] at hz;rw [d] at hg ht hz;have a:Fit (0,node 4 l):=⟨by simp only [ht];omega,by simp only;omega⟩;obtain ⟨f1,f2,f3⟩:=a.kids (by decide) (by decide);have b:dc l=true:=by simpa [node,bZ] using hg
 have c:=vM (Q:=iA) _ _ _ e (oG s) (fun t ht=>GI _ _ t ht) b;exact ⟨l,d,f2,by omega,Di _ l 0 (WW _) c (iX (k:=4) (n:=SizeOf.sizeOf (node 4 l)) (XW _) a (by decide) (by decide)),f3⟩
theorem SB (s:List UInt8):aa ((aV vE).bare 7 [.str s]) (Ui s):=by
 obtain ⟨v,b,_,i⟩:=Fg s;obtain ⟨k,tk,tx,j,x,es,ht,rfl,hx,hs⟩:=nF b;refine aa.bare rfl (aa.step (TG _) ?_);unfold g7;refine aa.step (ax _ _) (aa.step (i _ _) ?_);simp only [cf,bw,bG,aE,ad,af,ax,ae];refine aa.ux (Wv.start (st:=S0) (WW _) 11 JF) fun s1 _ w=>aa.step (hx.ab _) ?_;refine aa.vi [] w fun s2 _ _ w=> ?_;unfold Ui Bv;rcases Bk s with ⟨h0,h1,h2⟩ | ⟨h0,h1⟩ | ⟨h0,h1,h2⟩
 .rw [h0,if_neg (by rw [h1];exact fun f=>f),if_pos h2];refine aa.step (ai _ _) (aa.fX WS w.w rfl ?_);simp only [aE,ad,af,ax,ae];have a:eS s=doc (tokens s):=by unfold eS;rw [if_pos h0]
  have m:=fun {γ:Type} (st:St) (K:Kv γ)=>xX b rfl (Mk _ _ b) st K;refine aa.step (m _ _) (aa.step (ak _ _) ?_);rw [a];cases hg:bZ (doc (tokens s)) with
  | false=>
   rw [if_neg (by simp)];exact aa.step (ao _ _) (aa.some rfl)
  | true=>
   rw [if_pos rfl];have hlen:s.length<=65536:=(qp h0).1;obtain ⟨l,el,f1,f2,f3,f4⟩:=Ig hlen hg;rw [a,el] at ht;injection (show T.mk 4 0 [] l= .mk k tk tx j from ht) with q1 q2 q3 n
   subst q1 q2 q3 n;refine aa.step (ai _ _) (aa.fX WS w.w rfl ?_);simp only [aE,ad,af,ax,ae];have h:lu (0,node 4 l) (.agg [.int .u8 ((4:Nat):Int),.int .u8 ((0:Nat):Int),.str [],x,.int .i64 ((0:Nat):Int)]):=⟨4,0,[],x,rfl,by rw [a,el] at b;exact b⟩;obtain ⟨z,zs,d,hz,e⟩:=qm h (by omega) (by omega);refine aa.step (iI h rfl d _ _) (aa.step (hz.len _) ?_);refine aa.bind (Gg hz e (by rw [dt];exact f1) f3 (fun p hp=>(f4 p hp).t) w.none) ?_;rintro c ⟨A,v,ws,rfl,q,r⟩;simp only [ad,ae];obtain ⟨x',g,y⟩:=xq (u:= .int .i64 0) q.o (gM _ _) rfl;refine aa.step (y _) (aa.some ?_);rw [el];show ∃x es,_= _/\bp 11 x es/\iq (gU 0 l) es;rw [xQ];exact ⟨x',ws,rfl,g,r⟩
 .rw [h0,if_pos h1];exact aa.step (ao _ _) (aa.some rfl)
 .rw [h0,if_neg h1,if_neg (by simp [h2])];exact aa.step (ao _ _) (aa.some rfl)
theorem Hy (s:List UInt8): ∃v,Ui s v/\ ∀{γ:Type} (st:St) (K:Kv γ),bc (aV vE) 7 [.str s] st K=K v st q0:=by
 obtain ⟨v,e,h⟩:=SB s;exact ⟨v,h,fun st K=>aG st K rfl rfl rfl e⟩
theorem Ea {p:iV} {v:AV} (h:zJ p v):VM.bare v=true/\VM.strip v=v:=by
 obtain ⟨k,lit,sp,nm,ps,x,es,rfl,rfl,hx,_⟩:=gT h;refine ⟨?_,rfl⟩;rw [nN];simp only [bf,hx.bare];rfl
theorem th {p:jG} {v:AV} (h:vO p v):VM.bare v=true/\VM.strip v=v:=by
 obtain ⟨k,sp,rc,nm,ps,ls,x,es,y,fs,rfl,rfl,hx,_,hy,_⟩:=gF h;refine ⟨?_,rfl⟩;rw [nN];simp only [bf,hx.bare,hy.bare];rfl
theorem call3 {F:FuncId} {v w r:AV} (hv:VM.bare v=true/\VM.strip v=v) (hw:VM.bare w=true/\VM.strip w=w) (hf:vE.full F=false) (h:(aV vE).bare F [v,w,.bool false]=some r) {β:Type} (st:St) (K:Kv β):bc (aV vE) F [v,w,.bool false] st K=K r st q0:=
 aG st K hf (by simp only [W8,Xm,hv.2,hw.2];rfl) (by simp only [bf,hv.1,hw.1];rfl) h
theorem OE {ps:List iV} {es:List AV} (h:cY ps es) {i:Nat} (hi:i < ps.length): ∃v,es[i]? =some v/\zJ ps[i] v:=by
 obtain ⟨v,h1,h2,_⟩:=h.get (i:=i) (List.drop_eq_getElem_cons hi);exact ⟨v,h1,h2⟩
theorem Ow {ps:List jG} {es:List AV} (h:eO ps es) {i:Nat} (hi:i < ps.length): ∃v,es[i]? =some v/\vO ps[i] v:=by
 obtain ⟨v,h1,h2,_⟩:=h.get (i:=i) (List.drop_eq_getElem_cons hi);exact ⟨v,h1,h2⟩
theorem OL {ps:List Bd} {es:List AV} (h:iq ps es) {i:Nat} (hi:i < ps.length): ∃v,es[i]? =some v/\Qm ps[i] v:=by
 obtain ⟨v,h1,h2,_⟩:=h.get (i:=i) (List.drop_eq_getElem_cons hi);exact ⟨v,h1,h2⟩
theorem Bp {ps b:List iV} {es fs:List AV} {x y:AV} (hp:cY ps es) (f:cY b fs) (hx:bp 6 x es) (hy:bp 6 y fs) (he:ps.map jF=b.map jF) (ih: ∀p∈ps,∀q,jF p=jF q-> ∀v w,zJ p v->zJ q w->(aV vE).bare 38 [v,w,.bool false]=some (.bool true)):
  (aV vE).bare 18 [x,y,.bool false]=some (.bool true):=by
 have hl:ps.length=b.length:=by simpa using Xy List.length he
 have l1:=hp.len;have l2:=f.len;have j:=hx.1;refine aX rfl (aa.eq (aa.step (Rt _ _ _) ?_));unfold g18;refine aa.step (ak _ _) (aa.step (hx.len _) (aa.step (hy.len _) ?_));rw [show ((es.length:Int) != (fs.length:Int))=false by rw [show es.length=fs.length by omega];simp];refine aa.step (ai _ _) (aa.bind (R:=fun c=>c=(0,[.bool false],S0)) (aa.upto (n:=es.length) (I:=fun i c=>c=([.bool false,.int .i64 (i:Int)],S0)) ?_ ?_ es.length 0 _ (by omega) rfl) ?_)
 .rintro i c hi rfl;have a:i < ps.length:=by omega
  have d:i < b.length:=by omega
  obtain ⟨v,hv,hV⟩:=OE hp a;obtain ⟨w,hw,hW⟩:=OE f d;have e:jF ps[i]=jF b[i]:=by
   have:=Xy (fun l=>l[i]?) he;simpa [a,d] using this
  have c:=fun {γ:Type} (st:St) (K:Kv γ)=>call3 (Ea hV) (Ea hW) rfl (ih _ (Yd a) _ e v w hV hW) st K;obtain ⟨G,g,k,m,o,y3,r,s,rfl,t,u⟩:=gT hV;obtain ⟨H,h,z,A,B,y4,C,D,rfl,E,F⟩:=gT hW;simp only [Gf,ad,af,ak,ae,hx.len,aq,if_pos (show (i:Int) < (es.length:Int) by omega),hx.idx hv,hy.idx hw,jK,rA,bx,G0,aj,aE,ax];refine aa.step (c _ _) ?_;simp only [ak,XE,ai,aB,bm (show i+1<=9223372036854775807 by omega)];exact aa.inl rfl
 .rintro c rfl;simp only [Gf,ad,af,ak,ae,hx.len,aq,if_neg (show ¬ ((es.length:Nat):Int) < (es.length:Int) by omega)];exact aa.inr rfl
 .rintro c rfl;simp only [ad,ak,ae,er];exact aa.some rfl
theorem Lr: ∀(n:Nat) (p q:iV),SizeOf.sizeOf p < n->jF p=jF q-> ∀v w,zJ p v->zJ q w->(aV vE).bare 38 [v,w,.bool false]=some (.bool true):=by
 intro n
 induction n with
 | zero=>intro p q h;omega
 | succ n ih=>
  intro p q hn he v w hv hw;obtain ⟨k,lit,sp,nm,ps,x,es,rfl,rfl,hx,hp⟩:=gT hv;obtain ⟨f,a,b,d,g,y,fs,rfl,rfl,hy,e⟩:=gT hw;simp only [jF,iV.mk.injEq,Yo,eE] at he;obtain ⟨rfl,rfl,rfl,he⟩:=he;have h1:=Bp hp e hx hy he fun p hp q=>ih p q (by
   have:=List.sizeOf_lt_of_mem hp;simp only [iV.mk.sizeOf_spec] at hn;omega)
  have c:=fun {γ:Type} (st:St) (K:Kv γ)=>call3 ⟨hx.bare,hx.strip⟩ ⟨hy.bare,hy.strip⟩ rfl h1 st K;refine aX rfl ((QL _ _ _).trans ?_);simp only [VJ,rA,aE,ad,af,ax,ae,ak,hx.ab,hx.aD,hy.ab,hy.aD,bne_self_eq_false,ai,YB,XE,aj,c]
theorem A8 {ps a:List iV} {es fs:List AV} {x y:AV} (hp:cY ps es) (b:cY a fs) (hx:bp 6 x es) (hy:bp 6 y fs) (he:ps.map jF=a.map jF) {β:Type} (st:St) (K:Kv β):bc (aV vE) 18 [x,y,.bool false] st K=K (.bool true) st q0:=
 call3 ⟨hx.bare,hx.strip⟩ ⟨hy.bare,hy.strip⟩ rfl (Bp hp b hx hy he fun p _ q=>Lr _ p q (XW _)) st K
theorem H9: ∀(n:Nat) (p q:jG),SizeOf.sizeOf p < n->lQ p=lQ q-> ∀v w,vO p v->vO q w->(aV vE).bare 19 [v,w,.bool false]=some (.bool true):=by
 intro n
 induction n with
 | zero=>intro p q h;omega
 | succ n ih=>
  intro p q hn he v w hv hw;obtain ⟨k,sp,rc,nm,ps,ls,x,es,y,fs,rfl,rfl,hx,hp,hy,hl,_⟩:=gF hv;obtain ⟨U,t,u,z,A,b,x',es',y',f,rfl,rfl,d,o,a,g,_⟩:=gF hw;simp only [lQ,jG.mk.injEq,Yo,eE,gG] at he;obtain ⟨rfl,rfl,rfl,r,j⟩:=he;have B:ls.length=b.length:=by simpa using Xy List.length j
  have l1:=hl.len;have l2:=g.len;have C:=hy.1;have c:=fun {γ:Type} (st:St) (K:Kv γ)=>A8 hp o hx d r st K;have hne:((fs.length:Int) != (f.length:Int))=false:=by rw [show fs.length=f.length by omega];simp
  refine aX rfl (aa.eq (aa.step (O6 _ _ _) ?_));simp only [g19,eM,aE,ad,af,ax,ae,ak,hx.ab,hx.aD,hy.ab,hy.aD,d.ab,d.aD,a.ab,a.aD,bne_self_eq_false,ai,YB,XE,aj,c,hy.len,a.len,hne];refine aa.bind (R:=fun c=>c=(0,[.bool false],S0)) (aa.upto (n:=fs.length) (I:=fun i c=>c=([.bool false,.int .i64 (i:Int)],S0)) ?_ ?_ fs.length 0 _ (by omega) rfl) ?_
  .rintro i c hi rfl;have e:i < ls.length:=by omega
   have m:i < b.length:=by omega
   obtain ⟨v,hv,hV⟩:=Ow hl e;obtain ⟨w,hw,hW⟩:=Ow g m;have s:lQ ls[i]=lQ b[i]:=by
    have:=Xy (fun l=>l[i]?) j;simpa [e,m] using this
   have c:=fun {γ:Type} (st:St) (K:Kv γ)=>call3 (th hV) (th hW) rfl (ih _ _ (by
    have:=List.sizeOf_lt_of_mem (Yd e);simp only [jG.mk.sizeOf_spec] at hn;omega) s v w hV hW) st K
   obtain ⟨V,D,E,F,G,H,W,J,y3,L,_,rfl,_⟩:=gF hV;obtain ⟨X,M,N,O,P,Q,Y,S,y4,T,_,rfl,_⟩:=gF hW;simp only [Fj,ad,af,ak,ae,hy.len,aq,if_pos (show (i:Int) < (fs.length:Int) by omega),hy.idx hv,a.idx hw,jK,eM,bx,qR,aj,aE,ax];refine aa.step (c _ _) ?_;simp only [ak,XE,ai,aB,bm (show i+1<=9223372036854775807 by omega)];exact aa.inl rfl
  .rintro c rfl;simp only [Fj,ad,af,ak,ae,hy.len,aq,if_neg (show ¬ ((fs.length:Nat):Int) < (fs.length:Int) by omega)];exact aa.inr rfl
  .rintro c rfl;simp only [ad,ak,ae,er];exact aa.some rfl
theorem GW {d:Bd} {v:AV} (h:Qm d v): ∃z a k sp rc nm x y,v= .agg (pP d.sp d.rc z k sp rc nm x y)/\bp 6 z a/\cY d.ps a/\vO d.body (.agg (eM k sp rc nm x y)):=by
 obtain ⟨z,a,be,rfl,hz,ha,hb⟩:=h;obtain ⟨k,sp,rc,nm,ps,ls,x,es,y,fs,b,e,hx,hp,hy,hl,hn⟩:=gF hb;injection e with e
 subst e;exact ⟨z,a,k,sp,rc,nm,x,y,rfl,hz,ha,hb⟩
theorem Fv {ps b:List Bd} {es fs:List AV} {x y:AV} (hp:iq ps es) (m:iq b fs) (hx:bp 11 x es) (hy:bp 11 y fs) (he:ps.map GX=b.map GX) {β:Type} (st:St) (K:Kv β):
  bc (aV vE) 9 [x,y,.bool false] st K=K (.bool true) st q0:=by
 refine call3 ⟨hx.bare,hx.strip⟩ ⟨hy.bare,hy.strip⟩ rfl ?_ st K;have hl:ps.length=b.length:=by simpa using Xy List.length he
 have l1:=hp.len;have l2:=m.len;have o:=hx.1;refine aX rfl (aa.eq (aa.step (Ts _ _ _) ?_));unfold g9;refine aa.step (ak _ _) (aa.step (hx.len _) (aa.step (hy.len _) ?_));rw [show ((es.length:Int) != (fs.length:Int))=false by rw [show es.length=fs.length by omega];simp];refine aa.step (ai _ _) (aa.bind (R:=fun c=>c=(0,[.bool false],S0)) (aa.upto (n:=es.length) (I:=fun i c=>c=([.bool false,.int .i64 (i:Int)],S0)) ?_ ?_ es.length 0 _ (by omega) rfl) ?_)
 .rintro i c hi rfl;have d:i < ps.length:=by omega
  have e:i < b.length:=by omega
  obtain ⟨v,hv,hV⟩:=OL hp d;obtain ⟨w,hw,hW⟩:=OL m e;have f:GX ps[i]=GX b[i]:=by
   have:=Xy (fun l=>l[i]?) he;simpa [d,e] using this
  obtain ⟨z,a,k,sp,rc,nm,x1,y1,rfl,hz,ha,hb⟩:=GW hV;obtain ⟨z',a',u,p,q,r,s,t,rfl,h,j,g⟩:=GW hW;unfold GX at f;injection f with _ h1 h2 h3
  have c1:=fun {γ:Type} (st:St) (K:Kv γ)=>A8 ha j hz h h2 st K;have c2:=fun {γ:Type} (st:St) (K:Kv γ)=>call3 (th hb) (th g) rfl (H9 _ _ _ (XW _) h3 _ _ hb g) st K;simp only [eM] at c2;simp only [KU,ad,af,ak,ae,hx.len,aq,if_pos (show (i:Int) < (es.length:Int) by omega),hx.idx hv,hy.idx hw,jK,pP,jv,XN,Xc,bx,bq,qR,aj,aE,ax,h1,YB,XE,ai,c1,c2,aB,bm (show i+1<=9223372036854775807 by omega)];exact aa.inl rfl
 .rintro c rfl;simp only [KU,ad,af,ak,ae,hx.len,aq,if_neg (show ¬ ((es.length:Nat):Int) < (es.length:Int) by omega)];exact aa.inr rfl
 .rintro c rfl;simp only [ad,ak,ae,er];exact aa.some rfl
end Go.Proofs.YtgecmbapkplklaaGreatDoor.Vm
namespace Go.Proofs.YtgecmbapkplklaaGreatDoor.Vm
open Go Go.VM Go.Proofs
theorem JE:(caller vE 3000).bare 4 []= .ok (.bool true):=by kernel_rfl
theorem xB {γ:Type} (st:St) (K:Kv γ):bc (aV vE) 4 [] st K=K (.bool true) st q0:=aG st K rfl rfl rfl (zy JE)
noncomputable def g5:AV->Option AV:=fun g=>dW g fun h=>aT 11 [.str h] (St.mk 1 0 (Tr.node (some (VM.Obj.cells 27 (nC 0 0 [] .ay))) Tr.leaf Tr.leaf)) fun a b _x=>gx a fun i=>cE i 0 fun j=>gx a fun k=>cE k 1 fun l=>bk .i64 l fun c=>aW (c != 0) (dj 4 (.mp 0 0) (nC 0 0 [] .ay) b fun _x d _x_1=>al 4 true (.mp 0 0) d fun m _x=>ah m fun n o p q=>(gR d 0 (.tup [nA n o p q,.int .i64 c]) fun r=>some r)) (aT 12 [j] b fun s t _x=>ah s fun u v w e=>(ab e (dj 4 (.mp 0 0) (nC u v w e) t fun _x f _x_1=>al 4 true (.mp 0 0) f fun y _x=>ah y fun z a0 x a2=>(gR f 0 (.tup [nA z a0 x a2,.int .i64 0]) fun a3=>some a3))))
theorem T5 (x0:AV):bN vE 5 [x0]=g5 x0:=by kernel_rfl
noncomputable def vh (d:St):bT->Option (bT ⊕ Nat×bT):=fun e=>bC e.1 (az (aT 25 [.mp 1 0] e.2 fun j f _x=>dH j fun k _x=>(aW (k != 0) (aT 26 [.mp 1 0,.str [108,101,116]] f fun l m _x=>bJ l fun n=>some ([.bool !n],m)) (some ([.bool false],f)))) fun a=>bj a.1 fun o p=>bJ o fun q=>bC p (aW q (al 1 false (.mp (St.h d) 3) a.2 fun r s=>aT 27 [.mp 1 0] a.2 fun t u g=>ah t fun v w y b=>(bM (apart (Fx.mk s dO.kept) g&&(apart (⟨[],.kept⟩) g&&true)) (ab b (ab b (aD b fun i=>ab i (aD i fun z=>cT 4 56 27 r [nA v w y z] u fun c a0 _x=>ab c (ab c (iU (.mp (St.h d) 3) c a0 fun _x x _x_1=>some (Sum.inl ([],x)))))))))) (some (Sum.inr (0,[],Prod.snd a)))))
noncomputable def sa:bT->Option (bT ⊕ Nat×bT):=fun k=>bC k.1 (aT 25 [.mp 1 0] k.2 fun q l _x=>dH q fun r _x=>(aW (r != 0) (az (aT 26 [.mp 1 0,.str [108,101,116]] l fun s a _x=>bJ s fun t=>aW t (aT 27 [.mp 1 0] a fun u c _x=>ah u fun v w y d=>(ab d (ab d (aD d fun z=>bh (St.add c (VM.Obj.cells 27 (nC 0 0 [] .ay))) fun a0=>dj 4 (.mp (St.h c) 0) [.int .u8 5,.int .u8 0,.str [],.sl 4 [nA v w y z] .shut] a0 fun _x e _x_1=>al 1 false (.mp 2 3) e fun x a2=>al 4 true (.mp (St.h c) 0) e fun a3 _x=>ah a3 fun a4 a5 A B=>(aT 28 [.mp 1 0,nA a4 a5 A B] e fun C a9 m=>ah C fun b0 b1 b2 f=>(bM (apart (Fx.mk a2 dO.kept) m&&(apart (⟨[],.kept⟩) m&&true)) (ab f (ab f (aD f fun n=>ab n (aD n fun b3=>cT 4 56 27 x [nA b0 b1 b2 b3] a9 fun g D _x=>ab g (ab g (iU (.mp 2 3) g D fun _x E _x_2=>some (Sum.inl ([],E)))))))))))))) (bh (St.add a (VM.Obj.cells 27 (nC 0 0 [] .ay))) fun F=>dj 4 (.mp (St.h a) 0) (nC 3 0 [] .ay) F fun _x G _x_1=>az (aK (vh a) ([],G)) fun b=>bC b.2.1 (al 1 false (.mp 2 3) b.2.2 fun H _x=>al 4 true (.mp (St.h a) 0) b.2.2 fun I _x=>ah I fun c0 c1 c2 i=>(ab i (ab i (aD i fun o=>ab o (aD o fun c3=>cT 4 56 27 H [nA c0 c1 c2 c3] b.2.2 fun j c4 _x=>ab j (ab j (iU (.mp 2 3) j c4 fun _x c5 _x_2=>some (Sum.inl ([],c5))))))))))) fun J=>iK J fun p=>bC p.1 (some (Sum.inl ([],Prod.snd p)))) (some (Sum.inr (0,[],l)))))
noncomputable def g12:AV->Option AV:=fun a=>ab a (ab a (az (aK sa ([],St.mk 3 0 (Tr.node (some (VM.Obj.cells 27 (nC 0 0 [] .ay))) (Tr.node (some (VM.Obj.cells 71 [a,.int .i64 0,.int .i64 0])) Tr.leaf Tr.leaf) (Tr.node (some (VM.Obj.cells 27 (nC 4 0 [] .ay))) Tr.leaf Tr.leaf)))) fun b=>bC b.2.1 (al 1 false (.mp 2 3) b.2.2 fun j k=>aT 27 [.mp 1 0] b.2.2 fun l m e=>ah l fun n o p c=>(bM (apart (Fx.mk k dO.kept) e&&(apart (⟨[],.kept⟩) e&&true)) (ab c (ab c (aD c fun f=>ab f (aD f fun q=>cT 4 56 27 j [nA n o p q] m fun d r _x=>ab d (ab d (iU (.mp 2 3) d r fun _x g _x_1=>al 4 true (.mp 2 0) g fun s _x=>ah s fun t u v h=>(ab h (dj 4 (.mp 0 0) (nC t u v h) g fun _x i _x_2=>al 4 true (.mp 0 0) i fun w _x=>ah w fun y z a0 x=>(gR i 0 (nA y z a0 x) fun a2=>some a2)))))))))))))
theorem Pb (x0:AV):bN vE 12 [x0]=g12 x0:=by kernel_rfl
noncomputable def UC:AV->St->Option (AV×St):=fun b st=>bh (St.add st (VM.Obj.cells 24 [.int .u8 0,.str []])) fun f=>aT 50 [b] f fun g a _x=>bk .i64 g fun c=>bM (notNil b) (bF 0 b fun i=>al 1 false i a fun j _x=>fc j fun k=>aW (decide (c < (↑k:Int))) (bM (notNil b) (bF 0 b fun l=>al 1 false l a fun m _x=>bU 2 m c a fun n _x=>al 2 true n a fun o _x=>dH o fun p q=>(dj 2 (.mp (St.h st) 0) [.int .u8 p,.str q] a fun _x d _x_1=>al 2 true (.mp (St.h st) 0) d fun r _x=>dH r fun s t=>(some (.agg [.int .u8 s,.str t],d))))) (dj 2 (.mp (St.h st) 0) [.int .u8 0,.str []] a fun _x e _x_1=>al 2 true (.mp (St.h st) 0) e fun u _x=>dH u fun v w=>(some (.agg [.int .u8 v,.str w],e))))
theorem Lj (x0:AV) (st:St):cA vE 25 [x0] st=UC x0 st:=by kernel_rfl
noncomputable def Vz:AV->AV->St->Option (AV×St):=fun e f st=>dW f fun c=>aT 25 [e] st fun g b _x=>dH g fun i j=>(bh (St.add b (VM.Obj.cells 24 [.int .u8 0,.str []])) fun k=>dj 2 (.mp (St.h b) 0) [.int .u8 i,.str j] k fun _x a _x_1=>az (al 1 false (.mp (St.h b) 0) a fun l _x=>bk .u8 l fun m=>aW (m==3) (al 1 false (.mp (St.h b) 1) a fun n _x=>dW n fun o=>some ([.bool (o==c)],a)) (al 1 false (.mp (St.h b) 0) a fun p _x=>bk .u8 p fun q=>aW (q==8) (al 1 false (.mp (St.h b) 1) a fun r _x=>dW r fun s=>some ([.bool (s==c)],a)) (some ([.bool false],a)))) fun d=>bj d.1 fun t u=>bJ t fun v=>bC u (some (.bool v,Prod.snd d)))
theorem Qe (x0 x1:AV) (st:St):cA vE 26 [x0,x1] st=Vz x0 x1 st:=by kernel_rfl
noncomputable def GV (a:AV) (d:St) (g:Int):bT->Option (bT ⊕ Nat×bT):=fun b=>bC b.1 (bM (notNil a) (bF 1 a fun i=>al 1 false i b.2 fun j _x=>bk .i64 j fun k=>aW (decide (k < g)) (al 1 false (.mp (St.h d) 3) b.2 fun l _x=>bM (notNil a) (bF 0 a fun m=>al 1 false m b.2 fun n _x=>bM (notNil a) (bF 1 a fun o=>al 1 false o b.2 fun p _x=>bk .i64 p fun q=>bU 2 n q b.2 fun r _x=>al 2 true r b.2 fun s _x=>dH s fun t u=>(cT 4 56 27 l [nA 1 t u .ay] b.2 fun c v _x=>ab c (ab c (iU (.mp (St.h d) 3) c v fun _x e _x_1=>bM (notNil a) (bF 1 a fun w=>al 1 false w e fun y _x=>bk .i64 y fun z=>aN (IntKind.wrap .i64 (z+1)) fun f=>bM (notNil a) (bF 1 a fun a0=>aM (aV vE) 1 a0 (.int .i64 f) [.int .i64 f] e fun _x x _x_2=>some (Sum.inl ([],x)))))))))) (some (Sum.inr (0,[],Prod.snd b)))))
noncomputable def Wi:AV->St->Option (AV×St):=fun a st=>bh (St.add st (VM.Obj.cells 27 (nC 0 0 [] .ay))) fun i=>aT 25 [a] i fun j c _x=>dH j fun k l=>(bh (St.add c (VM.Obj.cells 27 (nC 0 0 [] .ay))) fun m=>dj 4 (.mp (St.h c) 0) (nC 1 k l .ay) m fun _x n _x_1=>aT 50 [a] n fun o p _x=>bk .i64 o fun q=>az (aK (GV a c q) ([],p)) fun b=>bC b.2.1 (bM (notNil a) (bF 1 a fun r=>al 1 false r b.2.2 fun s _x=>bk .i64 s fun t=>bM (notNil a) (bF 0 a fun u=>al 1 false u b.2.2 fun v _x=>fc v fun w=>az (aW (decide (t < (↑w:Int))) (bM (notNil a) (bF 1 a fun y=>al 1 false y b.2.2 fun z _x=>bk .i64 z fun a0=>aN (IntKind.wrap .i64 (a0+1)) fun e=>bM (notNil a) (bF 1 a fun x=>aM (aV vE) 1 x (.int .i64 e) [.int .i64 e] b.2.2 fun _x a2 _x_2=>some ([],a2)))) (some ([],Prod.snd b.2))) fun d=>bC d.1 (al 4 true (.mp (St.h c) 0) d.2 fun a3 _x=>ah a3 fun a4 a5 A f=>(ab f (dj 4 (.mp (St.h st) 0) (nC a4 a5 A f) d.2 fun _x g _x_2=>al 4 true (.mp (St.h st) 0) g fun B _x=>ah B fun C a9 b0 b1=>(some (nA C a9 b0 b1,g)))))))))
theorem Py (x0:AV) (st:St):cA vE 27 [x0] st=Wi x0 st:=by kernel_rfl
noncomputable def vb (d:AV) (st:St):bT->Option (bT ⊕ Nat×bT):=fun e=>bC e.1 (aT 51 [d] e.2 fun i a _x=>bJ i fun j=>aW j (al 1 false (.mp (St.h st) 3) a fun k l=>aT 52 [d] a fun m n f=>ah m fun o p q b=>(bM (apart (Fx.mk l dO.kept) f&&(apart (⟨[],.kept⟩) f&&true)) (ab b (ab b (aD b fun g=>ab g (aD g fun r=>cT 4 56 27 k [nA o p q r] n fun c s _x=>ab c (ab c (iU (.mp (St.h st) 3) c s fun _x t _x_1=>some (Sum.inl ([],t)))))))))) (some (Sum.inr (0,[],a))))
noncomputable def Wz:AV->AV->St->Option (AV×St):=fun a x1 st=>ah x1 fun n4 C D q=>(ab q (bh (St.add st (VM.Obj.cells 27 (nC n4 C D q))) fun c=>bh (St.add c (VM.Obj.cells 27 (nC 0 0 [] .ay))) fun a9=>aT 26 [a,.str [114,101,99]] a9 fun b0 d _x=>bJ b0 fun b1=>az (aW b1 (al 1 false (.mp (St.h st) 3) d fun b2 b3=>aT 27 [a] d fun E F r=>ah E fun G H I e=>(bM (apart (Fx.mk b3 dO.kept) r&&(apart (⟨[],.kept⟩) r&&true)) (ab e (ab e (aD e fun s=>ab s (aD s fun J=>cT 4 56 27 b2 [nA G H I J] F fun f c0 _x=>ab f (ab f (iU (.mp (St.h st) 3) f c0 fun _x c1 _x_1=>some ([],c1))))))))) (some ([],d))) fun t=>bC t.1 (aT 25 [a] t.2 fun c2 b _x=>dH c2 fun c3 _x=>(az (aW (c3==4) (al 1 false (.mp (St.h st) 3) b fun c4 c5=>aT 27 [a] b fun K L u=>ah K fun M c9 d0 g=>(bM (apart (Fx.mk c5 dO.kept) u&&(apart (⟨[],.kept⟩) u&&true)) (ab g (ab g (aD g fun v=>ab v (aD v fun d1=>cT 4 56 27 c4 [nA M c9 d0 d1] L fun i d2 _x=>ab i (ab i (iU (.mp (St.h st) 3) i d2 fun _x d3 _x_1=>az (aK (vb a st) ([],d3)) fun w=>bC w.2.1 (some ([],Prod.snd w.2)))))))))) (al 1 false (.mp (St.h st) 3) b fun d4 d5=>aT 52 [a] b fun d6 d7 y=>ah d6 fun d8 d9 N j=>(bM (apart (Fx.mk d5 dO.kept) y&&(apart (⟨[],.kept⟩) y&&true)) (ab j (ab j (aD j fun z=>ab z (aD z fun O=>cT 4 56 27 d4 [nA d8 d9 N O] d7 fun k P _x=>ab k (ab k (iU (.mp (St.h st) 3) k P fun _x Q _x_1=>some ([],Q)))))))))) fun l=>bC l.1 (al 1 false (.mp (St.h st) 3) l.2 fun R S=>aT 53 [a,.str [61]] l.2 fun T U a0=>ah T fun V W f0 m=>(bM (apart (Fx.mk S dO.kept) a0&&(apart (⟨[],.kept⟩) a0&&true)) (ab m (ab m (aD m fun x=>ab x (aD x fun f1=>cT 4 56 27 R [nA V W f0 f1] U fun n f2 _x=>ab n (ab n (iU (.mp (St.h st) 3) n f2 fun _x a2 _x_1=>al 1 false (.mp (St.h st) 3) a2 fun f3 f4=>aT 54 [a] a2 fun f5 f6 a3=>ah f5 fun f7 f8 f9 o=>(bM (apart (Fx.mk f4 dO.kept) a3&&(apart (⟨[],.kept⟩) a3&&true)) (ab o (ab o (aD o fun a4=>ab a4 (aD a4 fun h0=>cT 4 56 27 f3 [nA f7 f8 f9 h0] f6 fun p h1 _x=>ab p (ab p (iU (.mp (St.h st) 3) p h1 fun _x a5 _x_2=>al 4 true (.mp (St.h st) 0) a5 fun h2 _x=>ah h2 fun h3 h4 X A=>(ab A (dj 4 (.mp (St.h c) 0) (nC h3 h4 X A) a5 fun _x B _x_3=>al 4 true (.mp (St.h c) 0) B fun Y _x=>ah Y fun Z h8 h9 i0=>(some (nA Z h8 h9 i0,B)))))))))))))))))))))))
theorem Pj (x0 x1:AV) (st:St):cA vE 28 [x0,x1] st=Wz x0 x1 st:=by kernel_rfl
noncomputable def zp (b:AV):bT->Option (bT ⊕ Nat×bT):=fun a=>bj a.1 fun e f=>bk .i64 e fun c=>bC f (az (bM (notNil b) (bF 0 b fun g=>al 1 false g a.2 fun h _x=>fc h fun i=>aW (decide (c < (↑i:Int))) (bM (notNil b) (bF 0 b fun j=>al 1 false j a.2 fun k _x=>bU 2 k c a.2 fun l _x=>bF 0 l fun m=>al 1 false m a.2 fun n _x=>bk .u8 n fun o=>aW (o==1) (some ([.bool true],Prod.snd a)) (bM (notNil b) (bF 0 b fun p=>al 1 false p a.2 fun q _x=>bU 2 q c a.2 fun r _x=>bF 0 r fun s=>al 1 false s a.2 fun t _x=>bk .u8 t fun u=>some ([.bool (u==2)],Prod.snd a))))) (some ([.bool false],Prod.snd a)))) fun d=>bj d.1 fun v w=>bJ v fun y=>bC w (aW y (aN (IntKind.wrap .i64 (c+1)) fun z=>some (Sum.inl ([.int .i64 z],Prod.snd d))) (some (Sum.inr (0,[.int .i64 c],Prod.snd d)))))
noncomputable def Wp:AV->St->Option (AV×St):=fun a st=>bM (notNil a) (bF 1 a fun c=>al 1 false c st fun d _x=>bk .i64 d fun e=>az (aK (zp a) ([.int .i64 e],st)) fun b=>bj b.2.1 fun f g=>bk .i64 f fun h=>bC g (some (.int .i64 h,Prod.snd b.2)))
theorem Pc (x0:AV) (st:St):cA vE 50 [x0] st=Wp x0 st:=by kernel_rfl
noncomputable def VX:AV->St->Option (AV×St):=fun c st=>aT 25 [c] st fun g a _x=>dH g fun i j=>(bh (St.add a (VM.Obj.cells 24 [.int .u8 0,.str []])) fun k=>dj 2 (.mp (St.h a) 0) [.int .u8 i,.str j] k fun _x d _x_1=>az (al 2 true (.mp (St.h a) 0) d fun l _x=>dH l fun m n=>(aT 73 [.agg [.int .u8 m,.str n]] d fun o b _x=>bJ o fun p=>aW p (some ([.bool true],b)) (al 1 false (.mp (St.h a) 0) b fun q _x=>bk .u8 q fun r=>aW (r==9) (some ([.bool true],b)) (aT 26 [c,.str [95]] b fun s e _x=>bJ s fun t=>aW t (some ([.bool true],e)) (aT 74 [c] e fun u v _x=>bJ u fun w=>some ([.bool w],v)))))) fun f=>bj f.1 fun y z=>bJ y fun a0=>bC z (some (.bool a0,Prod.snd f)))
theorem Rc (x0:AV) (st:St):cA vE 51 [x0] st=VX x0 st:=by kernel_rfl
noncomputable def V9:AV->St->Option (AV×St):=fun a st=>bh (St.add st (VM.Obj.cells 27 (nC 0 0 [] .ay))) fun s=>aT 25 [a] s fun t c _x=>dH t fun u v=>(bh (St.add c (VM.Obj.cells 24 [.int .u8 0,.str []])) fun w=>dj 2 (.mp (St.h c) 0) [.int .u8 u,.str v] w fun _x e _x_1=>az (al 2 true (.mp (St.h c) 0) e fun y _x=>dH y fun z a0=>(aT 73 [.agg [.int .u8 z,.str a0]] e fun x f _x=>bJ x fun a2=>aW a2 (some ([.bool true],f)) (aT 26 [a,.str [95]] f fun a3 a4 _x=>bJ a3 fun a5=>some ([.bool a5],a4)))) fun b=>bj b.1 fun A B=>bJ A fun C=>bC B (aW C (aT 27 [a] b.2 fun a9 b0 _x=>ah a9 fun b1 b2 b3 g=>(ab g (dj 4 (.mp (St.h st) 0) (nC b1 b2 b3 g) b0 fun _x i _x_2=>al 4 true (.mp (St.h st) 0) i fun D _x=>ah D fun E F G H=>(some (nA E F G H,i))))) (al 1 false (.mp (St.h c) 0) b.2 fun I _x=>bk .u8 I fun c0=>aW (c0==9) (aT 27 [a] b.2 fun c1 c2 _x=>ah c1 fun c3 c4 c5 d=>(ab d (ab d (aD d fun J=>dj 4 (.mp (St.h st) 0) [.int .u8 3,.int .u8 0,.str [],.sl 4 [nA c3 c4 c5 J] .shut] c2 fun _x j _x_2=>al 4 true (.mp (St.h st) 0) j fun K _x=>ah K fun L c9 d0 d1=>(some (nA L c9 d0 d1,j)))))) (aT 26 [a,.str [40]] b.2 fun d2 k _x=>bJ d2 fun d3=>aW d3 (aT 75 [a,.int .u8 17,.str [44],.str [41],.bool true] k fun d4 d5 _x=>ah d4 fun d6 d7 d8 l=>(ab l (dj 4 (.mp (St.h st) 0) (nC d6 d7 d8 l) d5 fun _x m _x_2=>al 4 true (.mp (St.h st) 0) m fun d9 _x=>ah d9 fun M N O P=>(some (nA M N O P,m))))) (aT 26 [a,.str [91]] k fun Q n _x=>bJ Q fun R=>aW R (aT 75 [a,.int .u8 18,.str [59],.str [93],.bool true] n fun S T _x=>ah S fun U V f0 o=>(ab o (dj 4 (.mp (St.h st) 0) (nC U V f0 o) T fun _x p _x_2=>al 4 true (.mp (St.h st) 0) p fun f1 _x=>ah f1 fun f2 f3 f4 f5=>(some (nA f2 f3 f4 f5,p))))) (aT 76 [.str [112,97,116,116,101,114,110]] n fun f6 f7 _x=>ah f6 fun f8 f9 h0 q=>(ab q (dj 4 (.mp (St.h st) 0) (nC f8 f9 h0 q) f7 fun _x r _x_2=>al 4 true (.mp (St.h st) 0) r fun h1 _x=>ah h1 fun h2 h3 h4 W=>(some (nA h2 h3 h4 W,r))))))))))
theorem Q7 (x0:AV) (st:St):cA vE 52 [x0] st=V9 x0 st:=by kernel_rfl
noncomputable def Wb:AV->AV->St->Option (AV×St):=fun a i st=>dW i fun b=>bh (St.add st (VM.Obj.cells 27 (nC 0 0 [] .ay))) fun j=>aT 26 [a,.str b] j fun k c _x=>bJ k fun l=>aW l (aT 27 [a] c fun m n _x=>ah m fun o p q d=>(ab d (dj 4 (.mp (St.h st) 0) (nC o p q d) n fun _x e _x_1=>al 4 true (.mp (St.h st) 0) e fun r _x=>ah r fun s t u v=>(some (nA s t u v,e))))) (aT 76 [.str b] c fun w y _x=>ah w fun z a0 x f=>(ab f (dj 4 (.mp (St.h st) 0) (nC z a0 x f) y fun _x g _x_1=>al 4 true (.mp (St.h st) 0) g fun a2 _x=>ah a2 fun a3 a4 a5 A=>(some (nA a3 a4 a5 A,g)))))
theorem Qk (x0 x1:AV) (st:St):cA vE 53 [x0,x1] st=Wb x0 x1 st:=by kernel_rfl
noncomputable def Wr:AV->St->Option (AV×St):=fun a st=>bh (St.add st (VM.Obj.cells 27 (nC 0 0 [] .ay))) fun b=>bM (notNil a) (bF 2 a fun n=>al 1 false n b fun o _x=>bk .i64 o fun p=>aW (p==64) (aT 77 [a,.str [101,120,112,114]] b fun q r _x=>ah q fun s t u d=>(ab d (dj 4 (.mp (St.h st) 0) (nC s t u d) r fun _x e _x_1=>al 4 true (.mp (St.h st) 0) e fun v _x=>ah v fun w y z a0=>(some (nA w y z a0,e))))) (bM (notNil a) (bF 2 a fun x=>al 1 false x b fun a2 _x=>bk .i64 a2 fun a3=>aN (IntKind.wrap .i64 (a3+1)) fun f=>bM (notNil a) (bF 2 a fun a4=>aM (aV vE) 1 a4 (.int .i64 f) [.int .i64 f] b fun _x a5 _x_1=>aT 78 [a] a5 fun A c _x=>ah A fun B C a9 g=>(bh (St.add c (VM.Obj.cells 27 (nC 0 0 [] .ay))) fun b0=>ab g (dj 4 (.mp (St.h c) 0) (nC B C a9 g) b0 fun _x i _x_2=>bM (notNil a) (bF 2 a fun b1=>al 1 false b1 i fun b2 _x=>bk .i64 b2 fun b3=>aN (IntKind.wrap .i64 (b3 - 1)) fun j=>bM (notNil a) (bF 2 a fun D=>aM (aV vE) 1 D (.int .i64 j) [.int .i64 j] i fun _x k _x_3=>al 4 true (.mp (St.h c) 0) k fun E _x=>ah E fun F G H l=>(ab l (dj 4 (.mp (St.h st) 0) (nC F G H l) k fun _x m _x_4=>al 4 true (.mp (St.h st) 0) m fun I _x=>ah I fun c0 c1 c2 c3=>(some (nA c0 c1 c2 c3,m))))))))))))
theorem Rd (x0:AV) (st:St):cA vE 54 [x0] st=Wr x0 st:=by kernel_rfl
noncomputable def Wy:AV->Option AV:=fun c=>dH c fun a b=>(az (aW (a==4) (some ([.bool true],sZ)) (aW (a==5) (some ([.bool true],sZ)) (aW (a==7) (some ([.bool true],sZ)) (aW (a==3) (aW (b==[116,114,117,101]) (some ([.bool true],sZ)) (some ([.bool (b==[102,97,108,115,101])],sZ))) (some ([.bool false],sZ)))))) fun d=>bj d.1 fun e f=>bJ e fun g=>bC f (some (.bool g)))
theorem Rb (x0:AV):bN vE 73 [x0]=Wy x0:=by kernel_rfl
noncomputable def V4:AV->St->Option (AV×St):=fun a st=>az (aT 26 [a,.str [40]] st fun d b _x=>bJ d fun e=>aW e (some ([.bool true],b)) (aT 26 [a,.str [91]] b fun f g _x=>bJ f fun h=>some ([.bool h],g))) fun c=>bj c.1 fun i j=>bJ i fun k=>bC j (some (.bool k,Prod.snd c))
theorem Qo (x0:AV) (st:St):cA vE 74 [x0] st=V4 x0 st:=by kernel_rfl
noncomputable def vy (b:AV) (o:List UInt8) (p:Bool) (a:St):bT->Option (bT ⊕ Nat×bT):=fun i=>bC i.1 (aT 26 [b,.str o] i.2 fun q c _x=>bJ q fun r=>aW r (al 1 false (.mp (St.h a) 3) c fun s t=>aT 27 [b] c fun u v j=>ah u fun w y z d=>(bM (apart (Fx.mk t dO.kept) j&&(apart (⟨[],.kept⟩) j&&true)) (ab d (ab d (aD d fun k=>ab k (aD k fun a0=>cT 4 56 27 s [nA w y z a0] v fun e x _x=>ab e (ab e (iU (.mp (St.h a) 3) e x fun _x l _x_1=>al 1 false (.mp (St.h a) 3) l fun a2 a3=>aT 105 [b,.bool p] l fun a4 a5 m=>ah a4 fun A B C f=>(bM (apart (Fx.mk a3 dO.kept) m&&(apart (⟨[],.kept⟩) m&&true)) (ab f (ab f (aD f fun n=>ab n (aD n fun a9=>cT 4 56 27 a2 [nA A B C a9] a5 fun g b0 _x=>ab g (ab g (iU (.mp (St.h a) 3) g b0 fun _x b1 _x_2=>some (Sum.inl ([],b1))))))))))))))))) (some (Sum.inr (0,[],c))))
noncomputable def VL:AV->AV->AV->AV->AV->St->Option (AV×St):=fun b x1 x A B st=>bk .u8 x1 fun n0=>dW x fun l1=>dW A fun m=>bJ B fun n=>bh (St.add st (VM.Obj.cells 27 (nC 0 0 [] .ay))) fun C=>aT 27 [b] C fun v5 a _x=>ah v5 fun a2 a3 a4 d=>(ab d (ab d (aD d fun a5=>bh (St.add a (VM.Obj.cells 27 (nC 0 0 [] .ay))) fun D=>dj 4 (.mp (St.h a) 0) [.int .u8 n0,.int .u8 0,.str [],.sl 4 [nA a2 a3 a4 a5] .shut] D fun _x E _x_1=>aT 26 [b,.str m] E fun F c _x=>bJ F fun a9=>aW a9 (al 1 false (.mp (St.h a) 3) c fun b0 b1=>aT 27 [b] c fun b2 b3 o=>ah b2 fun G H I e=>(bM (apart (Fx.mk b1 dO.kept) o&&(apart (⟨[],.kept⟩) o&&true)) (ab e (ab e (aD e fun p=>ab p (aD p fun J=>cT 4 56 27 b0 [nA G H I J] b3 fun f K _x=>ab f (ab f (iU (.mp (St.h a) 3) f K fun _x q _x_2=>al 4 true (.mp (St.h a) 0) q fun L _x=>ah L fun c0 c1 c2 r=>(ab r (dj 4 (.mp (St.h st) 0) (nC c0 c1 c2 r) q fun _x s _x_3=>al 4 true (.mp (St.h st) 0) s fun c3 _x=>ah c3 fun c4 c5 M N=>(some (nA c4 c5 M N,s)))))))))))) (al 1 false (.mp (St.h a) 3) c fun O c9=>aT 105 [b,.bool n] c fun d0 d1 t=>ah d0 fun d2 d3 d4 g=>(bM (apart (Fx.mk c9 dO.kept) t&&(apart (⟨[],.kept⟩) t&&true)) (ab g (ab g (aD g fun u=>ab u (aD u fun d5=>cT 4 56 27 O [nA d2 d3 d4 d5] d1 fun i d6 _x=>ab i (ab i (iU (.mp (St.h a) 3) i d6 fun _x d7 _x_2=>az (aK (vy b l1 n a) ([],d7)) fun j=>bC j.2.1 (al 1 false (.mp (St.h a) 3) j.2.2 fun d8 d9=>aT 53 [b,.str m] j.2.2 fun P Q v=>ah P fun R S T k=>(bM (apart (Fx.mk d9 dO.kept) v&&(apart (⟨[],.kept⟩) v&&true)) (ab k (ab k (aD k fun w=>ab w (aD w fun U=>cT 4 56 27 d8 [nA R S T U] Q fun l V _x=>ab l (ab l (iU (.mp (St.h a) 3) l V fun _x y _x_3=>al 4 true (.mp (St.h a) 0) y fun W _x=>ah W fun X Y f0 z=>(ab z (dj 4 (.mp (St.h st) 0) (nC X Y f0 z) y fun _x a0 _x_4=>al 4 true (.mp (St.h st) 0) a0 fun f1 _x=>ah f1 fun f2 f3 f4 f5=>(some (nA f2 f3 f4 f5,a0)))))))))))))))))))))))
theorem QW (x0 x1 a b c:AV) (st:St):cA vE 75 [x0,x1,a,b,c] st=VL x0 x1 a b c st:=by kernel_rfl
noncomputable def V5:AV->Option AV:=fun a=>dW a fun b=>some (nA 2 0 b .ay)
theorem Qu (x0:AV):bN vE 76 [x0]=V5 x0:=by kernel_rfl
noncomputable def Wo:AV->AV->St->Option (AV×St):=fun b g st=>dW g fun i=>bh (St.add st (VM.Obj.cells 27 (nC 0 0 [] .ay))) fun j=>aT 25 [b] j fun k c _x=>dH k fun l _x=>(aW (l==0) (aT 76 [.str i] c fun m n _x=>ah m fun o p q d=>(ab d (dj 4 (.mp (St.h st) 0) (nC o p q d) n fun _x e _x_1=>al 4 true (.mp (St.h st) 0) e fun r _x=>ah r fun s t u v=>(some (nA s t u v,e))))) (aT 27 [b] c fun w y _x=>ah w fun z a0 x a=>(ab a (ab a (aD a fun a2=>dj 4 (.mp (St.h st) 0) [.int .u8 3,.int .u8 0,.str [],.sl 4 [nA z a0 x a2] .shut] y fun _x f _x_1=>al 4 true (.mp (St.h st) 0) f fun a3 _x=>ah a3 fun a4 a5 A B=>(some (nA a4 a5 A B,f)))))))
theorem PK (x0 x1:AV) (st:St):cA vE 77 [x0,x1] st=Wo x0 x1 st:=by kernel_rfl
noncomputable def uv (d:AV) (e:St):bT->Option (bT ⊕ Nat×bT):=fun f=>bC f.1 (aT 51 [d] f.2 fun j a _x=>bJ j fun k=>aW k (al 1 false (.mp (St.h e) 3) a fun l m=>aT 52 [d] a fun n o g=>ah n fun p q r b=>(bM (apart (Fx.mk m dO.kept) g&&(apart (⟨[],.kept⟩) g&&true)) (ab b (ab b (aD b fun i=>ab i (aD i fun s=>cT 4 56 27 l [nA p q r s] o fun c t _x=>ab c (ab c (iU (.mp (St.h e) 3) c t fun _x u _x_1=>some (Sum.inl ([],u)))))))))) (some (Sum.inr (0,[],a))))
noncomputable def vc (b:AV) (a:St):bT->Option (bT ⊕ Nat×bT):=fun i=>bC i.1 (aT 26 [b,.str [124]] i.2 fun o c _x=>bJ o fun p=>aW p (al 1 false (.mp (St.h a) 3) c fun q r=>aT 27 [b] c fun s t j=>ah s fun u v w d=>(bM (apart (Fx.mk r dO.kept) j&&(apart (⟨[],.kept⟩) j&&true)) (ab d (ab d (aD d fun k=>ab k (aD k fun y=>cT 4 56 27 q [nA u v w y] t fun e z _x=>ab e (ab e (iU (.mp (St.h a) 3) e z fun _x l _x_1=>al 1 false (.mp (St.h a) 3) l fun a0 x=>aT 106 [b] l fun a2 a3 m=>ah a2 fun a4 a5 A f=>(bM (apart (Fx.mk x dO.kept) m&&(apart (⟨[],.kept⟩) m&&true)) (ab f (ab f (aD f fun n=>ab n (aD n fun B=>cT 4 56 27 a0 [nA a4 a5 A B] a3 fun g C _x=>ab g (ab g (iU (.mp (St.h a) 3) g C fun _x a9 _x_2=>some (Sum.inl ([],a9))))))))))))))))) (some (Sum.inr (0,[],c))))
noncomputable def VE:AV->St->Option (AV×St):=fun a st=>bh (St.add st (VM.Obj.cells 27 (nC 0 0 [] .ay))) fun i4=>aT 26 [a,.str [108,101,116]] i4 fun v1 b7 _x=>bJ v1 fun x=>aW x (aT 27 [a] b7 fun v5 i5 _x=>ah v5 fun i6 i7 i8 f=>(ab f (ab f (aD f fun i9=>aT 28 [a,.agg [.int .u8 6,.int .u8 0,.str [],.sl 4 [nA i6 i7 i8 i9] .shut]] i5 fun j0 e _x=>ah j0 fun j1 j2 j3 b8=>(bh (St.add e (VM.Obj.cells 27 (nC 0 0 [] .ay))) fun j4=>ab b8 (dj 4 (.mp (St.h e) 0) (nC j1 j2 j3 b8) j4 fun _x b9 _x_1=>al 1 false (.mp (St.h e) 3) b9 fun j5 j6=>aT 53 [a,.str [105,110]] b9 fun j7 j8 c0=>ah j7 fun j9 k0 k1 g=>(bM (apart (Fx.mk j6 dO.kept) c0&&(apart (⟨[],.kept⟩) c0&&true)) (ab g (ab g (aD g fun c1=>ab c1 (aD c1 fun k2=>cT 4 56 27 j5 [nA j9 k0 k1 k2] j8 fun i k3 _x=>ab i (ab i (iU (.mp (St.h e) 3) i k3 fun _x c2 _x_2=>al 1 false (.mp (St.h e) 3) c2 fun k4 k5=>aT 54 [a] c2 fun k6 k7 c3=>ah k6 fun k8 k9 m0 j=>(bM (apart (Fx.mk k5 dO.kept) c3&&(apart (⟨[],.kept⟩) c3&&true)) (ab j (ab j (aD j fun c4=>ab c4 (aD c4 fun m1=>cT 4 56 27 k4 [nA k8 k9 m0 m1] k7 fun k m2 _x=>ab k (ab k (iU (.mp (St.h e) 3) k m2 fun _x c5 _x_3=>al 4 true (.mp (St.h e) 0) c5 fun m3 _x=>ah m3 fun m4 m5 m6 c6=>(ab c6 (dj 4 (.mp (St.h st) 0) (nC m4 m5 m6 c6) c5 fun _x c7 _x_4=>al 4 true (.mp (St.h st) 0) c7 fun m7 _x=>ah m7 fun m8 m9 n0 n1=>(some (nA m8 m9 n0 n1,c7)))))))))))))))))))))))) (aT 26 [a,.str [102,117,110]] b7 fun n2 c8 _x=>bJ n2 fun n3=>aW n3 (aT 27 [a] c8 fun n4 d _x=>ah n4 fun n5 n6 n7 l=>(ab l (ab l (aD l fun n8=>bh (St.add d (VM.Obj.cells 27 (nC 0 0 [] .ay))) fun n9=>dj 4 (.mp (St.h d) 0) [.int .u8 7,.int .u8 0,.str [],.sl 4 [nA n5 n6 n7 n8] .shut] n9 fun _x c9 _x_1=>al 1 false (.mp (St.h d) 3) c9 fun o0 o1=>aT 52 [a] c9 fun o2 o3 d0=>ah o2 fun o4 o5 o6 m=>(bM (apart (Fx.mk o1 dO.kept) d0&&(apart (⟨[],.kept⟩) d0&&true)) (ab m (ab m (aD m fun d1=>ab d1 (aD d1 fun o7=>cT 4 56 27 o0 [nA o4 o5 o6 o7] o3 fun n o8 _x=>ab n (ab n (iU (.mp (St.h d) 3) n o8 fun _x o9 _x_2=>az (aK (uv a d) ([],o9)) fun o=>bC o.2.1 (al 1 false (.mp (St.h d) 3) o.2.2 fun p0 p1=>aT 53 [a,.str [45,62]] o.2.2 fun p2 p3 d2=>ah p2 fun p4 p5 p6 p=>(bM (apart (Fx.mk p1 dO.kept) d2&&(apart (⟨[],.kept⟩) d2&&true)) (ab p (ab p (aD p fun d3=>ab d3 (aD d3 fun p7=>cT 4 56 27 p0 [nA p4 p5 p6 p7] p3 fun q p8 _x=>ab q (ab q (iU (.mp (St.h d) 3) q p8 fun _x d4 _x_3=>al 1 false (.mp (St.h d) 3) d4 fun p9 q0=>aT 54 [a] d4 fun q1 q2 d5=>ah q1 fun q3 q4 q5 r=>(bM (apart (Fx.mk q0 dO.kept) d5&&(apart (⟨[],.kept⟩) d5&&true)) (ab r (ab r (aD r fun d6=>ab d6 (aD d6 fun q6=>cT 4 56 27 p9 [nA q3 q4 q5 q6] q2 fun s q7 _x=>ab s (ab s (iU (.mp (St.h d) 3) s q7 fun _x d7 _x_4=>al 4 true (.mp (St.h d) 0) d7 fun q8 _x=>ah q8 fun q9 s0 s1 d8=>(ab d8 (dj 4 (.mp (St.h st) 0) (nC q9 s0 s1 d8) d7 fun _x d9 _x_5=>al 4 true (.mp (St.h st) 0) d9 fun s2 _x=>ah s2 fun s3 s4 s5 s6=>(some (nA s3 s4 s5 s6,d9)))))))))))))))))))))))))))))) (aT 26 [a,.str [105,102]] c8 fun s7 e0 _x=>bJ s7 fun s8=>aW s8 (aT 27 [a] e0 fun s9 b _x=>ah s9 fun t0 t1 t2 t=>(ab t (ab t (aD t fun t3=>bh (St.add b (VM.Obj.cells 27 (nC 0 0 [] .ay))) fun t4=>dj 4 (.mp (St.h b) 0) [.int .u8 8,.int .u8 0,.str [],.sl 4 [nA t0 t1 t2 t3] .shut] t4 fun _x e1 _x_1=>al 1 false (.mp (St.h b) 3) e1 fun t5 t6=>aT 54 [a] e1 fun t7 t8 e2=>ah t7 fun t9 u0 u1 u=>(bM (apart (Fx.mk t6 dO.kept) e2&&(apart (⟨[],.kept⟩) e2&&true)) (ab u (ab u (aD u fun e3=>ab e3 (aD e3 fun u2=>cT 4 56 27 t5 [nA t9 u0 u1 u2] t8 fun v u3 _x=>ab v (ab v (iU (.mp (St.h b) 3) v u3 fun _x e4 _x_2=>al 1 false (.mp (St.h b) 3) e4 fun u4 u5=>aT 53 [a,.str [116,104,101,110]] e4 fun u6 u7 e5=>ah u6 fun u9 v0 v1 w=>(bM (apart (Fx.mk u5 dO.kept) e5&&(apart (⟨[],.kept⟩) e5&&true)) (ab w (ab w (aD w fun e6=>ab e6 (aD e6 fun v2=>cT 4 56 27 u4 [nA u9 v0 v1 v2] u7 fun y v3 _x=>ab y (ab y (iU (.mp (St.h b) 3) y v3 fun _x e7 _x_3=>al 1 false (.mp (St.h b) 3) e7 fun v4 v5=>aT 54 [a] e7 fun v6 v7 e8=>ah v6 fun v8 v9 x0 z=>(bM (apart (Fx.mk v5 dO.kept) e8&&(apart (⟨[],.kept⟩) e8&&true)) (ab z (ab z (aD z fun e9=>ab e9 (aD e9 fun x1=>cT 4 56 27 v4 [nA v8 v9 x0 x1] v7 fun a0 x2 _x=>ab a0 (ab a0 (iU (.mp (St.h b) 3) a0 x2 fun _x f0 _x_4=>al 1 false (.mp (St.h b) 3) f0 fun x3 x4=>aT 53 [a,.str [101,108,115,101]] f0 fun x5 x6 f1=>ah x5 fun x7 x8 x9 A=>(bM (apart (Fx.mk x4 dO.kept) f1&&(apart (⟨[],.kept⟩) f1&&true)) (ab A (ab A (aD A fun f2=>ab f2 (aD f2 fun y0=>cT 4 56 27 x3 [nA x7 x8 x9 y0] x6 fun a2 y1 _x=>ab a2 (ab a2 (iU (.mp (St.h b) 3) a2 y1 fun _x f3 _x_5=>al 1 false (.mp (St.h b) 3) f3 fun y2 y3=>aT 54 [a] f3 fun y4 y5 f4=>ah y4 fun y6 y7 y8 a3=>(bM (apart (Fx.mk y3 dO.kept) f4&&(apart (⟨[],.kept⟩) f4&&true)) (ab a3 (ab a3 (aD a3 fun f5=>ab f5 (aD f5 fun y9=>cT 4 56 27 y2 [nA y6 y7 y8 y9] y5 fun a4 z0 _x=>ab a4 (ab a4 (iU (.mp (St.h b) 3) a4 z0 fun _x f6 _x_6=>al 4 true (.mp (St.h b) 0) f6 fun z1 _x=>ah z1 fun z2 z3 z4 f7=>(ab f7 (dj 4 (.mp (St.h st) 0) (nC z2 z3 z4 f7) f6 fun _x f8 _x_7=>al 4 true (.mp (St.h st) 0) f8 fun z5 _x=>ah z5 fun z6 z7 z8 z9=>(some (nA z6 z7 z8 z9,f8))))))))))))))))))))))))))))))))))))))))))) (aT 26 [a,.str [109,97,116,99,104]] e0 fun B f9 _x=>bJ B fun C=>aW C (aT 27 [a] f9 fun D c _x=>ah D fun E F G a5=>(ab a5 (ab a5 (aD a5 fun H=>bh (St.add c (VM.Obj.cells 27 (nC 0 0 [] .ay))) fun I=>dj 4 (.mp (St.h c) 0) [.int .u8 9,.int .u8 0,.str [],.sl 4 [nA E F G H] .shut] I fun _x h0 _x_1=>al 1 false (.mp (St.h c) 3) h0 fun J K=>aT 54 [a] h0 fun L M h1=>ah L fun N O P Q=>(bM (apart (Fx.mk K dO.kept) h1&&(apart (⟨[],.kept⟩) h1&&true)) (ab Q (ab Q (aD Q fun h2=>ab h2 (aD h2 fun R=>cT 4 56 27 J [nA N O P R] M fun S T _x=>ab S (ab S (iU (.mp (St.h c) 3) S T fun _x h3 _x_2=>al 1 false (.mp (St.h c) 3) h3 fun U V=>aT 53 [a,.str [119,105,116,104]] h3 fun W X h4=>ah W fun Y Z ar a8=>(bM (apart (Fx.mk V dO.kept) h4&&(apart (⟨[],.kept⟩) h4&&true)) (ab a8 (ab a8 (aD a8 fun h5=>ab h5 (aD h5 fun av=>cT 4 56 27 U [nA Y Z ar av] X fun a9 aw _x=>ab a9 (ab a9 (iU (.mp (St.h c) 3) a9 aw fun _x bb _x_3=>aT 26 [a,.str [124]] bb fun bt b0 _x=>bJ bt fun cb=>az (aW cb (al 1 false (.mp (St.h c) 3) b0 fun cc cd=>aT 27 [a] b0 fun cg cl h6=>ah cg fun cn cp cv b1=>(bM (apart (Fx.mk cd dO.kept) h6&&(apart (⟨[],.kept⟩) h6&&true)) (ab b1 (ab b1 (aD b1 fun h7=>ab h7 (aD h7 fun cz=>cT 4 56 27 cc [nA cn cp cv cz] cl fun b2 de _x=>ab b2 (ab b2 (iU (.mp (St.h c) 3) b2 de fun _x dk _x_4=>some ([],dk))))))))) (some ([],b0))) fun b3=>bC b3.1 (al 1 false (.mp (St.h c) 3) b3.2 fun dx ea=>aT 106 [a] b3.2 fun eb ec h8=>ah eb fun ed ee eg x=>(bM (apart (Fx.mk ea dO.kept) h8&&(apart (⟨[],.kept⟩) h8&&true)) (ab x (ab x (aD x fun h9=>ab h9 (aD h9 fun ei=>cT 4 56 27 dx [nA ed ee eg ei] ec fun b5 ek _x=>ab b5 (ab b5 (iU (.mp (St.h c) 3) b5 ek fun _x eo _x_4=>az (aK (vc a c) ([],eo)) fun b6=>bC b6.2.1 (al 4 true (.mp (St.h c) 0) b6.2.2 fun ep _x=>ah ep fun et eu ez i0=>(ab i0 (dj 4 (.mp (St.h st) 0) (nC et eu ez i0) b6.2.2 fun _x i1 _x_5=>al 4 true (.mp (St.h st) 0) i1 fun eF _x=>ah eF fun eT fi fp ft=>(some (nA eT fi fp ft,i1))))))))))))))))))))))))))))))) (aT 107 [a,.int .i64 0] f9 fun fv fx _x=>ah fv fun fy gg gj i2=>(ab i2 (dj 4 (.mp (St.h st) 0) (nC fy gg gj i2) fx fun _x i3 _x_1=>al 4 true (.mp (St.h st) 0) i3 fun gk _x=>ah gk fun hh hq hB hC=>(some (nA hh hq hB hC,i3))))))))
theorem Ps (x0:AV) (st:St):cA vE 78 [x0] st=VE x0 st:=by kernel_rfl
noncomputable def S4:AV->AV->St->Option (AV×St):=fun a g st=>bJ g fun i=>bh (St.add st (VM.Obj.cells 27 (nC 0 0 [] .ay))) fun b=>aW i (aT 125 [a] b fun j k _x=>ah j fun l m n c=>(ab c (dj 4 (.mp (St.h st) 0) (nC l m n c) k fun _x d _x_1=>al 4 true (.mp (St.h st) 0) d fun o _x=>ah o fun p q r s=>(some (nA p q r s,d))))) (aT 54 [a] b fun t u _x=>ah t fun v w y e=>(ab e (dj 4 (.mp (St.h st) 0) (nC v w y e) u fun _x f _x_1=>al 4 true (.mp (St.h st) 0) f fun z _x=>ah z fun a0 x a2 a3=>(some (nA a0 x a2 a3,f)))))
theorem N6 (x0 x1:AV) (st:St):cA vE 105 [x0,x1] st=S4 x0 x1 st:=by kernel_rfl
noncomputable def Sl:AV->St->Option (AV×St):=fun b st=>bh (St.add st (VM.Obj.cells 27 (nC 0 0 [] .ay))) fun a=>bh (St.add a (VM.Obj.cells 27 (nC 0 0 [] .ay))) fun v=>dj 4 (.mp (St.h a) 0) (nC 10 0 [] .ay) v fun _x j _x_1=>al 1 false (.mp (St.h a) 3) j fun w y=>aT 125 [b] j fun z a0 k=>ah z fun x a2 a3 c=>(bM (apart (Fx.mk y dO.kept) k&&(apart (⟨[],.kept⟩) k&&true)) (ab c (ab c (aD c fun l=>ab l (aD l fun a4=>cT 4 56 27 w [nA x a2 a3 a4] a0 fun d a5 _x=>ab d (ab d (iU (.mp (St.h a) 3) d a5 fun _x m _x_2=>al 1 false (.mp (St.h a) 3) m fun A B=>aT 53 [b,.str [45,62]] m fun C a9 n=>ah C fun b0 b1 b2 e=>(bM (apart (Fx.mk B dO.kept) n&&(apart (⟨[],.kept⟩) n&&true)) (ab e (ab e (aD e fun o=>ab o (aD o fun b3=>cT 4 56 27 A [nA b0 b1 b2 b3] a9 fun f D _x=>ab f (ab f (iU (.mp (St.h a) 3) f D fun _x p _x_3=>al 1 false (.mp (St.h a) 3) p fun E F=>aT 54 [b] p fun G H q=>ah G fun I c0 c1 g=>(bM (apart (Fx.mk F dO.kept) q&&(apart (⟨[],.kept⟩) q&&true)) (ab g (ab g (aD g fun r=>ab r (aD r fun c2=>cT 4 56 27 E [nA I c0 c1 c2] H fun i c3 _x=>ab i (ab i (iU (.mp (St.h a) 3) i c3 fun _x s _x_4=>al 4 true (.mp (St.h a) 0) s fun c4 _x=>ah c4 fun c5 J K t=>(ab t (dj 4 (.mp (St.h st) 0) (nC c5 J K t) s fun _x u _x_5=>al 4 true (.mp (St.h st) 0) u fun L _x=>ah L fun c9 d0 d1 d2=>(some (nA c9 d0 d1 d2,u)))))))))))))))))))))))))
theorem M1 (x0:AV) (st:St):cA vE 106 [x0] st=Sl x0 st:=by kernel_rfl
noncomputable def qB (a:AV) (g:Int) (i:St):bT->Option (bT ⊕ Nat×bT):=fun j=>bC j.1 (aT 128 [.int .i64 g] j.2 fun n o _x=>aT 127 [a,n] o fun p k _x=>bJ p fun q=>aW q (aT 27 [a] k fun r b _x=>ah r fun s t u l=>(bh (St.add b (VM.Obj.cells 27 (nC 0 0 [] .ay))) fun v=>ab l (dj 4 (.mp (St.h b) 0) (nC s t u l) v fun _x c _x_1=>al 4 true (.mp (St.h i) 0) c fun w y=>ah w fun z a0 x d=>(al 4 true (.mp (St.h b) 0) c fun a2 a3=>ah a2 fun a4 a5 A e=>(aT 126 [a,.int .i64 g] c fun B C m=>ah B fun a9 b0 b1 f=>(bM (apart (Fx.mk a3 dO.kept) m&&(apart (Fx.mk y dO.kept) m&&true)) (ab d (ab e (ab f (ab d (aD d fun b2=>ab e (aD e fun b3=>ab f (aD f fun D=>dj 4 (.mp (St.h i) 0) [.int .u8 11,.int .u8 0,.str [],.sl 4 [nA z a0 x b2,nA a4 a5 A b3,nA a9 b0 b1 D] .shut] C fun _x E _x_2=>some (Sum.inl ([],E))))))))))))))) (some (Sum.inr (0,[],k))))
noncomputable def TQ:AV->AV->St->Option (AV×St):=fun c v st=>bk .i64 v fun a=>bh (St.add st (VM.Obj.cells 27 (nC 0 0 [] .ay))) fun w=>aT 126 [c,.int .i64 a] w fun y b _x=>ah y fun z a0 x m=>(bh (St.add b (VM.Obj.cells 27 (nC 0 0 [] .ay))) fun a2=>ab m (dj 4 (.mp (St.h b) 0) (nC z a0 x m) a2 fun _x n _x_1=>az (aW (a==2) (some ([.bool true],n)) (some ([.bool (decide (a>=5))],n))) fun d=>bj d.1 fun a3 a4=>bJ a3 fun a5=>bC a4 (aW a5 (az (aK (qB c a b) ([],Prod.snd d)) fun e=>bC e.2.1 (al 4 true (.mp (St.h b) 0) e.2.2 fun A _x=>ah A fun B C a9 o=>(ab o (dj 4 (.mp (St.h st) 0) (nC B C a9 o) e.2.2 fun _x p _x_2=>al 4 true (.mp (St.h st) 0) p fun b0 _x=>ah b0 fun b1 b2 b3 D=>(some (nA b1 b2 b3 D,p)))))) (aT 128 [.int .i64 a] d.2 fun E F _x=>aT 127 [c,E] F fun G f _x=>bJ G fun H=>aW H (aT 27 [c] f fun I g _x=>ah I fun c0 c1 c2 q=>(bh (St.add g (VM.Obj.cells 27 (nC 0 0 [] .ay))) fun c3=>ab q (dj 4 (.mp (St.h g) 0) (nC c0 c1 c2 q) c3 fun _x i _x_2=>al 4 true (.mp (St.h b) 0) i fun c4 c5=>ah c4 fun J K L j=>(al 4 true (.mp (St.h g) 0) i fun c9 d0=>ah c9 fun d1 d2 d3 k=>(aT 107 [c,.int .i64 a] i fun d4 d5 r=>ah d4 fun d6 d7 d8 l=>(bM (apart (Fx.mk d0 dO.kept) r&&(apart (Fx.mk c5 dO.kept) r&&true)) (ab j (ab k (ab l (ab j (aD j fun d9=>ab k (aD k fun M=>ab l (aD l fun N=>dj 4 (.mp (St.h st) 0) [.int .u8 11,.int .u8 0,.str [],.sl 4 [nA J K L d9,nA d1 d2 d3 M,nA d6 d7 d8 N] .shut] d5 fun _x s _x_3=>al 4 true (.mp (St.h st) 0) s fun O _x=>ah O fun P Q R S=>(some (nA P Q R S,s))))))))))))))) (al 4 true (.mp (St.h b) 0) f fun T _x=>ah T fun U V f0 t=>(ab t (dj 4 (.mp (St.h st) 0) (nC U V f0 t) f fun _x u _x_2=>al 4 true (.mp (St.h st) 0) u fun f1 _x=>ah f1 fun f2 f3 f4 f5=>(some (nA f2 f3 f4 f5,u)))))))))
theorem Mu (x0 x1:AV) (st:St):cA vE 107 [x0,x1] st=TQ x0 x1 st:=by kernel_rfl
noncomputable def TM:AV->St->Option (AV×St):=fun a st=>bh (St.add st (VM.Obj.cells 27 (nC 0 0 [] .ay))) fun c=>bM (notNil a) (bF 2 a fun v=>al 1 false v c fun w _x=>bk .i64 w fun y=>aW (y==64) (aT 77 [a,.str [112,97,116,116,101,114,110]] c fun z a0 _x=>ah z fun x a2 a3 k=>(ab k (dj 4 (.mp (St.h st) 0) (nC x a2 a3 k) a0 fun _x l _x_1=>al 4 true (.mp (St.h st) 0) l fun a4 _x=>ah a4 fun a5 A B C=>(some (nA a5 A B C,l))))) (bM (notNil a) (bF 2 a fun a9=>al 1 false a9 c fun b0 _x=>bk .i64 b0 fun b1=>aN (IntKind.wrap .i64 (b1+1)) fun m=>bM (notNil a) (bF 2 a fun b2=>aM (aV vE) 1 b2 (.int .i64 m) [.int .i64 m] c fun _x b3 _x_1=>aT 52 [a] b3 fun D b _x=>ah D fun E F G n=>(bh (St.add b (VM.Obj.cells 27 (nC 0 0 [] .ay))) fun H=>ab n (dj 4 (.mp (St.h b) 0) (nC E F G n) H fun _x I _x_2=>aT 26 [a,.str [58,58]] I fun c0 o _x=>bJ c0 fun c1=>az (aW c1 (aT 27 [a] o fun c2 d _x=>ah c2 fun c3 c4 c5 p=>(bh (St.add d (VM.Obj.cells 27 (nC 0 0 [] .ay))) fun J=>ab p (dj 4 (.mp (St.h d) 0) (nC c3 c4 c5 p) J fun _x e _x_3=>al 4 true (.mp (St.h b) 0) e fun K L=>ah K fun c9 d0 d1 f=>(al 4 true (.mp (St.h d) 0) e fun d2 d3=>ah d2 fun d4 d5 d6 g=>(aT 125 [a] e fun d7 d8 q=>ah d7 fun d9 M N i=>(bM (apart (Fx.mk d3 dO.kept) q&&(apart (Fx.mk L dO.kept) q&&true)) (ab f (ab g (ab i (ab f (aD f fun O=>ab g (aD g fun P=>ab i (aD i fun Q=>dj 4 (.mp (St.h b) 0) [.int .u8 16,.int .u8 0,.str [],.sl 4 [nA c9 d0 d1 O,nA d4 d5 d6 P,nA d9 M N Q] .shut] d8 fun _x R _x_4=>some ([],R)))))))))))))) (some ([],o))) fun j=>bC j.1 (bM (notNil a) (bF 2 a fun S=>al 1 false S j.2 fun T _x=>bk .i64 T fun U=>aN (IntKind.wrap .i64 (U - 1)) fun r=>bM (notNil a) (bF 2 a fun V=>aM (aV vE) 1 V (.int .i64 r) [.int .i64 r] j.2 fun _x s _x_3=>al 4 true (.mp (St.h b) 0) s fun f0 _x=>ah f0 fun f1 f2 f3 t=>(ab t (dj 4 (.mp (St.h st) 0) (nC f1 f2 f3 t) s fun _x u _x_4=>al 4 true (.mp (St.h st) 0) u fun f4 _x=>ah f4 fun f5 f6 f7 f8=>(some (nA f5 f6 f7 f8,u)))))))))))))
theorem NF (x0:AV) (st:St):cA vE 125 [x0] st=TM x0 st:=by kernel_rfl
noncomputable def Tq:AV->AV->St->Option (AV×St):=fun a i st=>bk .i64 i fun b=>bh (St.add st (VM.Obj.cells 27 (nC 0 0 [] .ay))) fun c=>aW (decide (b < 6)) (aN (IntKind.wrap .i64 (b+1)) fun j=>aT 107 [a,.int .i64 j] c fun k l _x=>ah k fun m n o d=>(ab d (dj 4 (.mp (St.h st) 0) (nC m n o d) l fun _x e _x_1=>al 4 true (.mp (St.h st) 0) e fun p _x=>ah p fun q r s t=>(some (nA q r s t,e))))) (aT 147 [a] c fun u v _x=>ah u fun w y z f=>(ab f (dj 4 (.mp (St.h st) 0) (nC w y z f) v fun _x g _x_1=>al 4 true (.mp (St.h st) 0) g fun a0 _x=>ah a0 fun x a2 a3 a4=>(some (nA x a2 a3 a4,g)))))
theorem M8 (x0 x1:AV) (st:St):cA vE 126 [x0,x1] st=Tq x0 x1 st:=by kernel_rfl
noncomputable def tP (f:AV) (c:AV):bT->Option (bT ⊕ Nat×bT):=fun a=>bj a.1 fun g h=>bJ g fun d=>bj h fun i j=>bk .i64 i fun b=>bC j (fc c fun k=>aW (decide (b < (↑k:Int))) (bU 1 c b a.2 fun l _x=>al 1 false l a.2 fun m _x=>dW m fun n=>aT 26 [f,.str n] a.2 fun o e _x=>bJ o fun p=>aW p (some (Sum.inr (1,[.bool true],e))) (aN (IntKind.wrap .i64 (b+1)) fun q=>some (Sum.inl ([.bool d,.int .i64 q],e)))) (some (Sum.inr (0,[.bool d],Prod.snd a))))
noncomputable def TV:AV->AV->St->Option (AV×St):=fun b c st=>az (aK (tP b c) ([.bool false,.int .i64 0],st)) fun a=>bj a.2.1 fun d e=>bJ d fun f=>bC e (lC a.1 (some (.bool false,Prod.snd a.2)) fun _x=>some (.bool f,Prod.snd a.2))
theorem Oq (x0 x1:AV) (st:St):cA vE 127 [x0,x1] st=TV x0 x1 st:=by kernel_rfl
noncomputable def U0:AV->Option AV:=fun b=>bk .i64 b fun a=>aW (a==0) (some (.sl 1 [.str [124,124]] .shut)) (aW (a==1) (some (.sl 1 [.str [38,38]] .shut)) (aW (a==2) (some (.sl 1 [.str [61],.str [60,62],.str [60],.str [60,61],.str [62],.str [62,61]] .shut)) (aW (a==3) (some (.sl 1 [.str [64],.str [94]] .shut)) (aW (a==4) (some (.sl 1 [.str [58,58]] .shut)) (aW (a==5) (some (.sl 1 [.str [43],.str [45],.str [43,46],.str [45,46]] .shut)) (some (.sl 1 [.str [42],.str [47],.str [42,46],.str [47,46],.str [109,111,100]] .shut)))))))
theorem MP (x0:AV):bN vE 128 [x0]=U0 x0:=by kernel_rfl
noncomputable def TC:AV->St->Option (AV×St):=fun a st=>bh (St.add st (VM.Obj.cells 27 (nC 0 0 [] .ay))) fun a2=>az (aT 26 [a,.str [45]] a2 fun v1 k _x=>bJ v1 fun x=>aW (!x) (aT 26 [a,.str [45,46]] k fun v5 a3 _x=>bJ v5 fun A=>some ([.bool !A],a3)) (some ([.bool false],k))) fun d=>bj d.1 fun a4 a5=>bJ a4 fun C=>bC a5 (aW C (aT 158 [a] d.2 fun D E _x=>ah D fun a9 b0 b1 l=>(ab l (dj 4 (.mp (St.h st) 0) (nC a9 b0 b1 l) E fun _x m _x_1=>al 4 true (.mp (St.h st) 0) m fun b2 _x=>ah b2 fun b3 x F G=>(some (nA b3 x F G,m))))) (aT 27 [a] d.2 fun H b _x=>ah H fun A I c0 e=>(ab e (ab e (aD e fun c1=>bh (St.add b (VM.Obj.cells 27 (nC 0 0 [] .ay))) fun c2=>dj 4 (.mp (St.h b) 0) [.int .u8 12,.int .u8 0,.str [],.sl 4 [nA A I c0 c1] .shut] c2 fun _x c _x_1=>bM (notNil a) (bF 2 a fun c3=>al 1 false c3 c fun c4 _x=>bk .i64 c4 fun c5=>aW (c5==64) (al 1 false (.mp (St.h b) 3) c fun J K=>aT 77 [a,.str [101,120,112,114]] c fun L c9 n=>ah L fun d0 d1 d2 f=>(bM (apart (Fx.mk K dO.kept) n&&(apart (⟨[],.kept⟩) n&&true)) (ab f (ab f (aD f fun o=>ab o (aD o fun d3=>cT 4 56 27 J [nA d0 d1 d2 d3] c9 fun g d4 _x=>ab g (ab g (iU (.mp (St.h b) 3) g d4 fun _x p _x_2=>al 4 true (.mp (St.h b) 0) p fun d5 _x=>ah d5 fun d6 d7 d8 q=>(ab q (dj 4 (.mp (St.h st) 0) (nC d6 d7 d8 q) p fun _x r _x_3=>al 4 true (.mp (St.h st) 0) r fun d9 _x=>ah d9 fun M N O P=>(some (nA M N O P,r)))))))))))) (bM (notNil a) (bF 2 a fun Q=>al 1 false Q c fun R _x=>bk .i64 R fun S=>aN (IntKind.wrap .i64 (S+1)) fun s=>bM (notNil a) (bF 2 a fun T=>aM (aV vE) 1 T (.int .i64 s) [.int .i64 s] c fun _x t _x_2=>al 1 false (.mp (St.h b) 3) t fun U V=>aT 147 [a] t fun f0 f1 u=>ah f0 fun f2 f3 f4 i=>(bM (apart (Fx.mk V dO.kept) u&&(apart (⟨[],.kept⟩) u&&true)) (ab i (ab i (aD i fun v=>ab v (aD v fun f5=>cT 4 56 27 U [nA f2 f3 f4 f5] f1 fun j f6 _x=>ab j (ab j (iU (.mp (St.h b) 3) j f6 fun _x w _x_3=>bM (notNil a) (bF 2 a fun f7=>al 1 false f7 w fun f8 _x=>bk .i64 f8 fun f9=>aN (IntKind.wrap .i64 (f9 - 1)) fun y=>bM (notNil a) (bF 2 a fun h0=>aM (aV vE) 1 h0 (.int .i64 y) [.int .i64 y] w fun _x z _x_4=>al 4 true (.mp (St.h b) 0) z fun h1 _x=>ah h1 fun h2 h3 h4 a0=>(ab a0 (dj 4 (.mp (St.h st) 0) (nC h2 h3 h4 a0) z fun _x B _x_5=>al 4 true (.mp (St.h st) 0) B fun W _x=>ah W fun X Y Z h9=>(some (nA X Y Z h9,B))))))))))))))))))))))
theorem MT (x0:AV) (st:St):cA vE 147 [x0] st=TC x0 st:=by kernel_rfl
noncomputable def rm (d:AV) (e:St):bT->Option (bT ⊕ Nat×bT):=fun f=>bC f.1 (aT 166 [d] f.2 fun g a _x=>bJ g fun i=>aW i (al 4 true (.mp (St.h e) 0) a fun j k=>ah j fun l m n b=>(aT 165 [d] a fun o p q=>ah o fun r s t c=>(bM (apart (Fx.mk k dO.kept) q&&true) (ab b (ab c (ab b (aD b fun u=>ab c (aD c fun v=>dj 4 (.mp (St.h e) 0) [.int .u8 13,.int .u8 0,.str [],.sl 4 [nA l m n u,nA r s t v] .shut] p fun _x w _x_1=>some (Sum.inl ([],w)))))))))) (some (Sum.inr (0,[],a))))
noncomputable def Sk:AV->St->Option (AV×St):=fun c st=>bh (St.add st (VM.Obj.cells 27 (nC 0 0 [] .ay))) fun g=>aT 165 [c] g fun i a _x=>ah i fun j k l d=>(bh (St.add a (VM.Obj.cells 27 (nC 0 0 [] .ay))) fun m=>ab d (dj 4 (.mp (St.h a) 0) (nC j k l d) m fun _x n _x_1=>az (aK (rm c a) ([],n)) fun b=>bC b.2.1 (al 4 true (.mp (St.h a) 0) b.2.2 fun o _x=>ah o fun p q r e=>(ab e (dj 4 (.mp (St.h st) 0) (nC p q r e) b.2.2 fun _x f _x_2=>al 4 true (.mp (St.h st) 0) f fun s _x=>ah s fun t u v w=>(some (nA t u v w,f)))))))
theorem NH (x0:AV) (st:St):cA vE 158 [x0] st=Sk x0 st:=by kernel_rfl
noncomputable def T9:AV->St->Option (AV×St):=fun a st=>bh (St.add st (VM.Obj.cells 27 (nC 0 0 [] .ay))) fun s=>aT 25 [a] s fun t b _x=>dH t fun u v=>(bh (St.add b (VM.Obj.cells 24 [.int .u8 0,.str []])) fun w=>dj 2 (.mp (St.h b) 0) [.int .u8 u,.str v] w fun _x f _x_1=>az (al 2 true (.mp (St.h b) 0) f fun y _x=>dH y fun z a0=>(aT 73 [.agg [.int .u8 z,.str a0]] f fun x d _x=>bJ x fun a2=>aW a2 (some ([.bool true],d)) (al 1 false (.mp (St.h b) 0) d fun a3 _x=>bk .u8 a3 fun a4=>some ([.bool (a4==6)],d)))) fun c=>bj c.1 fun a5 A=>bJ a5 fun B=>bC A (aW B (aT 27 [a] c.2 fun C a9 _x=>ah C fun b0 b1 b2 g=>(ab g (dj 4 (.mp (St.h st) 0) (nC b0 b1 b2 g) a9 fun _x i _x_2=>al 4 true (.mp (St.h st) 0) i fun b3 _x=>ah b3 fun D E F G=>(some (nA D E F G,i))))) (al 1 false (.mp (St.h b) 0) c.2 fun H _x=>bk .u8 H fun I=>aW (I==9) (aT 27 [a] c.2 fun c0 c1 _x=>ah c0 fun c2 c3 c4 e=>(ab e (ab e (aD e fun c5=>dj 4 (.mp (St.h st) 0) [.int .u8 3,.int .u8 0,.str [],.sl 4 [nA c2 c3 c4 c5] .shut] c1 fun _x j _x_2=>al 4 true (.mp (St.h st) 0) j fun J _x=>ah J fun K L c9 d0=>(some (nA K L c9 d0,j)))))) (aT 26 [a,.str [40]] c.2 fun d1 k _x=>bJ d1 fun d2=>aW d2 (aT 75 [a,.int .u8 14,.str [44],.str [41],.bool false] k fun d3 d4 _x=>ah d3 fun d5 d6 d7 l=>(ab l (dj 4 (.mp (St.h st) 0) (nC d5 d6 d7 l) d4 fun _x m _x_2=>al 4 true (.mp (St.h st) 0) m fun d8 _x=>ah d8 fun d9 M N O=>(some (nA d9 M N O,m))))) (aT 26 [a,.str [91]] k fun P n _x=>bJ P fun Q=>aW Q (aT 75 [a,.int .u8 15,.str [59],.str [93],.bool false] n fun R S _x=>ah R fun T U V o=>(ab o (dj 4 (.mp (St.h st) 0) (nC T U V o) S fun _x p _x_2=>al 4 true (.mp (St.h st) 0) p fun f0 _x=>ah f0 fun f1 f2 f3 f4=>(some (nA f1 f2 f3 f4,p))))) (aT 76 [.str [101,120,112,114]] n fun f5 f6 _x=>ah f5 fun f7 f8 f9 q=>(ab q (dj 4 (.mp (St.h st) 0) (nC f7 f8 f9 q) f6 fun _x r _x_2=>al 4 true (.mp (St.h st) 0) r fun h0 _x=>ah h0 fun h1 h2 h3 h4=>(some (nA h1 h2 h3 h4,r))))))))))
theorem Mx (x0:AV) (st:St):cA vE 165 [x0] st=T9 x0 st:=by kernel_rfl
noncomputable def Tw:AV->St->Option (AV×St):=fun c st=>aT 25 [c] st fun f b _x=>dH f fun g i=>(bh (St.add b (VM.Obj.cells 24 [.int .u8 0,.str []])) fun j=>dj 2 (.mp (St.h b) 0) [.int .u8 g,.str i] j fun _x d _x_1=>az (al 2 true (.mp (St.h b) 0) d fun k _x=>dH k fun l m=>(aT 73 [.agg [.int .u8 l,.str m]] d fun n a _x=>bJ n fun o=>aW o (some ([.bool true],a)) (al 1 false (.mp (St.h b) 0) a fun p _x=>bk .u8 p fun q=>aW (q==6) (some ([.bool true],a)) (al 1 false (.mp (St.h b) 0) a fun r _x=>bk .u8 r fun s=>aW (s==9) (some ([.bool true],a)) (aT 74 [c] a fun t u _x=>bJ t fun v=>some ([.bool v],u)))))) fun e=>bj e.1 fun w y=>bJ w fun z=>bC y (some (.bool z,Prod.snd e)))
theorem NY (x0:AV) (st:St):cA vE 166 [x0] st=Tw x0 st:=by kernel_rfl
end Go.Proofs.YtgecmbapkplklaaGreatDoor.Vm
namespace Go.Proofs.YtgecmbapkplklaaGreatDoor.Vm
open Go Go.VM Go.Proofs Go.Lex Go.Parse
abbrev PR:TypeId:=71
def KW {β:Type} (v:AV) (K:Int->List UInt8->Option β):Option β:=uk v fun l=>bj l fun v1 l=>bk .u8 v1 fun a=>bj l fun v2 l=>dW v2 fun s=>bC l (K a s)
theorem Ke {β:Type} (a:Int) (s:List UInt8) (K:Int->List UInt8->Option β):KW (.agg [.int .u8 a,.str s]) K=K a s:=by
 simp only [KW,aE,ad,af,ax,ae]
section
variable {st st':St} {p:Nat} {L:List aU} {x:AV} {i d:Nat}
theorem P3 (t:aU):bn t=if (t.1:Int)=1 then true else ((t.1:Int)==2):=by
 unfold bn;have e:((t.1:Int)==2)=(t.1==2):=bP t.1 2;rw [e];by_cases h:t.1=1
 .rw [if_pos (by omega),h];rfl
 .rw [if_neg (by omega),WX.2 h];rfl
theorem zf (h:E6 PR st p L x i d): ∀(l:List aU) (j:Nat),L.drop j=l->aK (zp (.mp p 0)) ([.int .i64 (j:Int)],st)=some (0,[.int .i64 ((j+wT l:Nat):Int)],st)
 | [],j,hd=>by
  have:=Xz.1 hd;have q:¬ (j:Int) < ((L.map tok).length:Int):=by rw [Xn];omega
  refine aF ?_;simp only [zp,ad,af,ae,ck,aR,ct,XO,Xd,bu h.get,Xc,bq,aj,h.sl.len,aq,if_neg q,ak,ai];rfl
 | t::l,j,hd=>by
  obtain ⟨a,hr,b⟩:=drop_cons hd;have q:(j:Int) < ((L.map tok).length:Int):=by rw [Xn];omega
  have hlen:=h.len;have e: ∀{β:Type} (K:bT->Option β),az (aW ((t.1:Int)==1) (some ([AV.bool true],st)) (some ([AV.bool ((t.1:Int)==2)],st))) K=K ([.bool (bn t)],st):=by
   intro β K;rw [P3 t];by_cases h1:(t.1:Int)=1
   .rw [h1];rfl
   .rw [WX.2 h1,if_neg h1];rfl
  rw [wG];cases ht:bn t with
  | true=>
   rw [ht] at e;rw [if_pos rfl,aP (s':=([.int .i64 ((j+1:Nat):Int)],st)),zf h l (j+1) hr,show j+1+wT l=j+(wT l+1) by omega];simp only [zp,ad,af,ae,ck,aR,ct,jv,AV.cells,tok,XO,Xd,bu h.get,Xc,bq,aj,h.sl.len,aq,if_pos q,mb h.sl a,bx,e,ak,if_true,aB,bm (show j+1<=9223372036854775807 by omega)];rfl
  | false=>
   rw [ht] at e;rw [if_neg XJ];refine aF ?_;simp only [zp,ad,af,ae,ck,aR,ct,jv,AV.cells,tok,XO,Xd,bu h.get,Xc,bq,aj,h.sl.len,aq,if_pos q,mb h.sl a,bx,e,ak];rfl
theorem KE (h:E6 PR st p L x i d):(aV vE).wide 50 [.mp p 0] st=some (.int .i64 ((i+wT (L.drop i):Nat):Int),st):=by
 refine il ((Pc _ _).trans ?_);simp only [Wp,ck,aR,ct,Xd,bu h.get,mS,bq,aj,af,zf h (L.drop i) i rfl,ad,ae]
theorem sA (h:E6 PR st p L x i d) {β:Type} (K:Kv β):bc (aV vE) 50 [.mp p 0] st K=K (.int .i64 ((i+wT (L.drop i):Nat):Int)) st ⟨[],.all st st⟩:=gV (E:=vE) K rfl rfl (KE h)
theorem OP {r:List aU} {t:aU} {l:List aU} (h:r.dropWhile bn=t::l):r[wT r]? =some t:=by
 have:=Xy (fun q:List aU=>q[0]?) ((Cs r).trans h);simpa using this
theorem OG {r:List aU} {t:aU} {l:List aU} (h:r.dropWhile bn=t::l):nx r=t:=by unfold nx;rw [h]
theorem Sz {r:List aU} {t:aU} {l:List aU} (h:r.dropWhile bn=t::l):wT r < r.length:=by
 have:=OP h;exact (Yb.1 this).1
theorem Kj (h:E6 PR st p L x i d):
  ∃st',(aV vE).wide 25 [.mp p 0] st=some (.agg [.int .u8 ((nx (L.drop i)).1:Int),.str (nx (L.drop i)).2],st')/\ba st st' (fun _=>False):=by
 have b:ba st (st.add (.cells 24 [.int .u8 0,.str []])) (fun _=>False):=ba.add _ _ _;have h0:=h.keeps b (fun f=>f);have g0:(st.add (.cells 24 [.int .u8 0,.str []])).get st.h= .ok (.cells 24 [.int .u8 0,.str []]):=St.dE;have hle:=h.le;have hlen:=h.len;generalize c:st.add (.cells 24 [.int .u8 0,.str []])=s0 at b h0 g0;cases hd:(L.drop i).dropWhile bn with
 | nil=>
  obtain ⟨a,o,g2,k2,j,p2⟩:=yG (O:=aV vE) (.agg [.int .u8 0,.str []]) g0 (z:=2) (cs:=[.int .u8 0,.str []]) rfl rfl (by rw [b.ro];exact h.wB);have hw:¬ ((i+wT (L.drop i):Nat):Int) < ((L.map tok).length:Int):=by
   rw [GA hd,Xa,Xn];omega
  refine ⟨a,il ((Lj _ _).trans ?_),b.fresh k2 (WW _)⟩;rw [Gd hd];simp only [UC,eV,c,sA h0,af,ck,aR,ct,Xd,bu h0.get,Xc,bq,aj,h.sl.len,aq,if_neg hw,p2,bu g2,oE,aE,ad,ax,ae];rfl
 | cons t l=>
  obtain ⟨a,o,g2,k2,j,p2⟩:=yG (O:=aV vE) (.agg [.int .u8 (t.1:Int),.str t.2]) g0 (z:=2) (cs:=[.int .u8 (t.1:Int),.str t.2]) rfl rfl (by rw [b.ro];exact h.wB);have e:=Sz hd;rw [Xa] at e;have hw:((i+wT (L.drop i):Nat):Int) < ((L.map tok).length:Int):=by
   rw [Xn];omega
  have g:L[i+wT (L.drop i)]? =some t:=by
   have:=OP hd
   rwa [X6] at this
  refine ⟨a,il ((Lj _ _).trans ?_),b.fresh k2 (WW _)⟩;rw [OG hd];simp only [UC,eV,c,sA h0,af,ck,aR,ct,Xd,bu h0.get,Xc,bq,aj,h.sl.len,aq,if_pos hw,mb h.sl g,bx,oE,aE,ad,ax,ae,p2,bu g2]
end
section
variable {β:Type} {Q:β->Prop} {st0 st:St} {p:Nat} {L:List aU} {x:AV} {d d':Nat} {r r':List aU} {l l1 l2:List Vr} {os:List (AV×List AV)} {t:T}
theorem _root_.Go.VM.aa.Lx (w:Wd PR st0 st p L x d r l os) {K:Int->List UInt8->St->Fx->Option β} (g: ∀s,Wd PR st0 s p L x d r l os->aa (K ((nx r).1:Int) (nx r).2 s ⟨[],.all st s⟩) Q):
  aa (bc (aV vE) 25 [.mp p 0] st fun v s b=>KW v fun a c=>K a c s b) Q:=by
 obtain ⟨i,h,rfl⟩:=w.pz;obtain ⟨s,e,k⟩:=Kj h;exact aa.step (gV (E:=vE) _ rfl rfl e) (aa.step (Ke ..) (g s (w.quiet k)))
theorem _root_.Go.VM.aa.SE (w:Wd PR st0 st p L x d r l os) {K:St->St->Option β} (g: ∀s s',Wd PR st0 s' p L x d r ((s.h,24,[.int .u8 ((nx r).1:Int),.str (nx r).2])::l) os->aa (K s s') Q):
  aa (bc (aV vE) 25 [.mp p 0] st fun v s _=>KW v fun n tx=>bh (St.add s (.cells 24 [.int .u8 0,.str []])) fun s1=>aM (aV vE) 2 (.mp (St.h s) 0) (.agg [.int .u8 n,.str tx]) [.int .u8 n,.str tx] s1 fun _ s' _=>K s s') Q:=
 aa.Lx w fun s w=>aa.alloc w fun s1 _ a=>aa.store [] a fun s2 c b=>g s s2 b
theorem _root_.Go.VM.aa.sQ {s0:List UInt8} (w:Wd PR st0 st p L x d r l os) {K:Bool->St->Fx->Option β} (g: ∀s a,Wd PR st0 s p L x d r l os->aa (K (bY s0 r) s a) Q):
  aa (bc (aV vE) 26 [.mp p 0,.str s0] st fun v s a=>bJ v fun b=>K b s a) Q:=by
 have key:aa ((aV vE).wide 26 [.mp p 0,.str s0] st) (fun b=>b.1= .bool (bY s0 r)/\Wd PR st b.2 p L x d r [] []):=by
  refine aa.wide (aa.step (Qe _ _ _) ?_);unfold Vz;refine aa.step (ax _ _) (aa.SE (Wd.begin w.pz) fun s s' w=> ?_);refine aa.bind (R:=fun c=>c=([.bool (bY s0 r)],s')) ?_ ?_
  .have e:(((nx r).1:Int)==3)=((nx r).1==3):=bP _ 3;have f:(((nx r).1:Int)==8)=((nx r).1==8):=bP _ 8;refine aa.gv WS w rfl (aa.step (af _ _ _) ?_);rw [e];unfold bY;cases h3:(nx r).1==3 with
   | true=>exact aa.step (ao _ _) (aa.gv WS w (o:=1) rfl (aa.step (ax _ _) (aa.some (by simp))))
   | false=>
    refine aa.step (ai _ _) (aa.gv WS w rfl (aa.step (af _ _ _) ?_));rw [f];cases i:(nx r).1==8 with
    | true=>exact aa.step (ao _ _) (aa.gv WS w (o:=1) rfl (aa.step (ax _ _) (aa.some (by simp))))
    | false=>exact aa.step (ai _ _) (aa.some rfl)
  .rintro c rfl;simp only [ad,ak,ae];exact aa.some ⟨rfl,w.sub (X0 _)⟩
 refine aa.gm key rfl rfl fun v s h=> ?_;obtain ⟨rfl,w'⟩:=h;exact aa.step (ak _ _) (g s _ (w.move w'.k w'.pz))
end
section
variable {β:Type} {Q:β->Prop} {st0 st:St} {p:Nat} {L:List aU} {x:AV} {i d d':Nat} {r r':List aU} {l l1 l2:List Vr} {os:List (AV×List AV)} {t:T}
theorem _root_.Go.VM.aa.GU {f:List (List UInt8)} {y:AV} (hy:bp 1 y (f.map AV.str)) (w:Wd PR st0 st p L x d r l os) {K:Bool->St->Fx->Option β} (g: ∀s o,Wd PR st0 s p L x d r l os->aa (K (isAny f r) s o) Q):
  aa (bc (aV vE) 127 [.mp p 0,y] st fun v s o=>bJ v fun b=>K b s o) Q:=by
 have t:=hy.1;rw [Xn] at t;have key:aa ((aV vE).wide 127 [.mp p 0,y] st) (fun b=>b.1= .bool (isAny f r)/\Wd PR st b.2 p L x d r [] []):=by
  refine aa.wide (aa.step (Oq _ _ _) ?_);unfold TV;have loop: ∀(m:List (List UInt8)) (j:Nat) (s:St),f.drop j=m->Wd PR st s p L x d r [] []->
    aa (aK (tP (.mp p 0) y) ([.bool false,.int .i64 (j:Int)],s)) (fun q=> ∃n b s',q=(n,[.bool b],s')/\Wd PR st s' p L x d r [] []/\((n=0/\m.any (fun a=>bY a r)=false)\/(n=1/\b=true/\m.any (fun a=>bY a r)=true))):=by
   intro m
   induction m with
   | nil=>
    intro j s hd w;have:=Xz.1 hd;have q:¬ (j:Int) < ((f.map AV.str).length:Int):=by rw [Xn];omega
    refine ⟨_,aF (r:=(0,[.bool false],s)) ?_,0,false,s,rfl,w,.inl ⟨rfl,rfl⟩⟩;simp only [tP,ad,af,ak,ae,hy.len,aq,if_neg q]
   | cons a m ih=>
    intro j s hd w;obtain ⟨u,hr,A⟩:=drop_cons hd;have q:(j:Int) < ((f.map AV.str).length:Int):=by rw [Xn];omega
    have z:aa (tP (.mp p 0) y ([.bool false,.int .i64 (j:Int)],s)) (fun q=> ∃s',Wd PR st s' p L x d r [] []/\q=if bY a r=true then .inr (1,[.bool true],s') else .inl ([.bool false,.int .i64 ((j+1:Nat):Int)],s')):=by
     simp only [tP,ad,af,ak,ae,hy.len,aq,if_pos q,CT hy u,bx,bq,aj,ax];refine aa.sQ w fun s' _ w=> ?_;cases hb:bY a r with
     | true=>exact aa.step (ao _ _) (aa.some ⟨s',w,rfl⟩)
     | false=>
      rw [ai,aB,bm (show j+1<=9223372036854775807 by omega)];exact aa.some ⟨s',w,rfl⟩
    obtain ⟨q1,e,s',w,rfl⟩:=z;cases hb:bY a r with
    | true=>
     rw [hb,if_pos rfl] at e;exact ⟨_,aF e,1,true,s',rfl,w,.inr ⟨rfl,rfl,by simp [hb]⟩⟩
    | false=>
     rw [hb,if_neg XJ] at e;rw [aP e];refine (ih (j+1) s' hr w).mono ?_;rintro q ⟨n,b,s2,rfl,w,h⟩;refine ⟨n,b,s2,rfl,w, ?_⟩;simpa [hb] using h
  have i:isAny f r=f.any (fun a=>bY a r):=by
   unfold isAny bY;cases ((nx r).1==3||(nx r).1==8) with
   | true=>simp only [X8];congr 1;funext a;rw [Bool.eq_iff_iff,XA,XA];exact eq_comm
   | false=>simp
  refine aa.bind (loop f 0 st rfl (Wd.begin w.pz)) ?_;rintro c ⟨n,b,s,rfl,w,h⟩;simp only [ad,ak,ae];rw [i];rcases h with ⟨rfl,h⟩ | ⟨rfl,rfl,h⟩
  .exact aa.step (er _ _) (aa.some ⟨by rw [h],w⟩)
  .exact aa.step (iC _ _) (aa.some ⟨by rw [h],w⟩)
 refine aa.gm key rfl (by simp only [W8,Xm,hy.strip,bf];rfl) fun v s h=> ?_;obtain ⟨rfl,w'⟩:=h;exact aa.step (ak _ _) (g s _ (w.move w'.k w'.pz))
theorem _root_.Go.VM.aa.S8 (w:Wd PR st0 st p L x d r l os) (h:E6 PR st p L x i d) (hi:i < L.length) (hr:L.drop i=r) {K:Kv β} (g: ∀s a,Wd PR st0 s p L x d (r.drop 1) l os->aa (K VM.undef s a) Q):aa (aM (aV vE) 1 (.mp p 1) (.int .i64 ((i+1:Nat):Int)) [.int .i64 ((i+1:Nat):Int)] st K) Q:=by
 refine aa.step (dq (cs:=[.int .i64 ((i+1:Nat):Int)]) (z:=1) (off:=1) h.get rfl (WU rfl) h.ro K) (g _ _ ?_);have k:ba st (st.put p (.cells PR (cJ [x,.int .i64 (i:Int),.int .i64 (d:Int)] 1 [.int .i64 ((i+1:Nat):Int)]))) (· =p):=ba.put rfl;exact w.move k ⟨i+1,⟨St.aQ (St.ch.1 h.get).1,h.sl,hi,h.len,by rw [k.ro];exact h.ro⟩,by rw [<- hr,Ya]⟩
theorem TS {r:List aU} {j:Nat} (h:j < (r.takeWhile bn).length):r[j]? =(r.takeWhile bn)[j]? :=
 (Xy (fun q:List aU=>q[j]?) (X9 (p:=bn) (l:=r)).symm).trans (Xr h)
theorem jx (hp:Pz PR st p L x d r):NW PR 27 [.mp p 0] st p L x d (aJ r) (aL r):=by
 refine aa.wide (aa.step (Py _ _) ?_);unfold Wi;refine aa.alloc (Wd.begin hp) fun s1 _ w=> ?_;refine aa.Lx w fun s2 w=> ?_;refine aa.alloc w fun G _ w=> ?_;refine aa.store [] w fun z _ w=> ?_;obtain ⟨i0,h0,e⟩:=w.pz;have u:=h0.le;have hlen:=h0.len;have A:r.length=L.length - i0:=by rw [<- e,Xa]
 have B:=Oy r;refine aa.step (sA h0 _) (aa.step (af _ _ _) ?_);rw [e];have hz:((r.takeWhile bn)).length=wT r:=rfl;refine aa.bind (R:=fun c=> ∃s v,c=(0,[],s)/\Wd PR st s p L x d (r.drop (wT r)) [(s2.h,ND,[.int .u8 1,.int .u8 ((nx r).1:Int),.str (nx r).2,v]),(st.h,ND,z4)] [(v,(r.takeWhile bn).map sX)]) ?_ ?_
 .refine aa.upto (n:=wT r) (I:=fun j c=> ∃s v,c=([],s)/\Wd PR st s p L x d (r.drop j) [(s2.h,ND,[.int .u8 1,.int .u8 ((nx r).1:Int),.str (nx r).2,v]),(st.h,ND,z4)] [(v,((r.takeWhile bn).take j).map sX)]) ?_ ?_ (wT r) 0 _ (by omega) ⟨z,.ay,rfl,by simpa using w.ay⟩
  .rintro j c hj ⟨s,v,rfl,w⟩;obtain ⟨i,h,hr⟩:=w.pz;have hle:=h.le;have a:i=i0+j:=by
    have:=Xy List.length hr;rw [Xa,Xa] at this;omega
   subst a;have f:j < (r.takeWhile bn).length:=hj;have m:L[i0+j]? =some (r.takeWhile bn)[j]:=by
    have h1:(L.drop i0)[j]? =(r.takeWhile bn)[j]? :=by
     rw [e];exact TS f
    rw [X6] at h1;rw [h1,Xl f]
   rw [jP f,Xh];generalize (r.takeWhile bn)[j]=q at *;have q1:((i0+j:Nat):Int) < ((i0+wT r:Nat):Int):=by omega
   simp only [GV,ae,ck,aR,ct,Xd,bu h.get,mS,Xc,bq,aj,af,aq,if_pos q1];refine aa.gv WS w (o:=3) rfl ?_;simp only [mb h.sl m,bx,oE,aj,aE,ad,af,ax,ae];refine aa.app w (by simp) (by simp only [Xn,Xg,Xk,XI];omega) fun v2 C _ ho w=>aa.one ho (aa.one ho (aa.jL [] w (WU rfl) fun D _ w=> ?_));obtain ⟨E,t,g⟩:=w.pz;have y:=t.le;have k:E=i0+j:=by
    have:=Xy List.length g;rw [Xa,Xa] at this;omega
   subst k;simp only [bu t.get,mS,bq,aj,af,aB,bm (show i0+j+1<=9223372036854775807 by omega)];refine aa.S8 w t (by omega) g fun l _ w=> ?_;rw [Ya] at w;exact aa.inl ⟨l,v2,rfl,w⟩
  .rintro c ⟨s,v,rfl,w⟩;obtain ⟨i,h,hr⟩:=w.pz;have hle:=h.le;have a:i=i0+wT r:=by
    have:=Xy List.length hr;rw [Xa,Xa] at this;omega
   subst a;simp only [GV,ae,ck,aR,ct,Xd,bu h.get,mS,Xc,bq,aj,af,aq,if_neg (Int.lt_irrefl _)];rw [<- hz,Xv] at w;exact aa.inr ⟨s,v,rfl,w⟩
 .rintro c ⟨s,v,rfl,w⟩;obtain ⟨i,h,hr⟩:=w.pz;have hle:=h.le;have a:i=i0+wT r:=by
   have:=Xy List.length hr;rw [Xa,Xa] at this;omega
  subst a;simp only [ae,ck,aR,ct,Xd,bu h.get,mS,Xc,bq,aj,af,h.sl.len,Xn];have hd1:aL r=(r.drop (wT r)).drop 1:=by unfold aL;rw [Cs]
  refine aa.bind (R:=fun c=> ∃s,c=([],s)/\Wd PR st s p L x d (aL r) [(s2.h,ND,[.int .u8 1,.int .u8 ((nx r).1:Int),.str (nx r).2,v]),(st.h,ND,z4)] [(v,(r.takeWhile bn).map sX)]) ?_ ?_
  .by_cases F:i0+wT r < L.length
   .rw [Ye (show ((i0+wT r:Nat):Int) < (L.length:Int) by omega)];refine aa.step (ao _ _) ?_;simp only [aB,bm (show i0+wT r+1<=9223372036854775807 by omega)];refine aa.S8 w h F hr fun l _ w=>aa.some ⟨l,rfl, ?_⟩;rw [hd1];exact w
   .rw [X5 (show ¬ ((i0+wT r:Nat):Int) < (L.length:Int) by omega)];refine aa.step (ai _ _) (aa.some ⟨s,rfl, ?_⟩);have b:r.drop (wT r)=[]:=Xz.2 (by omega);rw [hd1,b];rw [b] at w;exact w
  .rintro c ⟨l,rfl,w⟩;have hnd:Nd (aJ r) 1 (nx r).1 (nx r).2 v:=⟨⟨_,_,rfl,w.LC,xS _⟩⟩;simp only [ae];refine aa.fq WS w ?_;exact aa.res [_] (old:=z4) w rfl hnd (Xs (bS r) (by omega))
end
def Sg (L:List aU):Prop:= ∀t∈L,t.1=8->t.2.length<=2
theorem OJ {L r:List aU} {i:Nat} (hs:Sg L) (hr:L.drop i=r):(nx r).1=8->(nx r).2.length<=2:=by
 intro h;cases hd:r.dropWhile bn with
 | nil=>rw [Gd hd] at h;cases h
 | cons t l=>
  rw [OG hd] at h ⊢;refine hs t ?_ h;have h1:t∈r:=(Yc bn).subset (by rw [hd];exact WS);rw [<- hr] at h1;exact List.mem_of_mem_drop h1
def hH (t:aU):Bool:=t.1==4||t.1==5||t.1==7||(t.1==3&&(t.2==gw||t.2==eD))
theorem DU {r:List aU} (hs:(nx r).1=8->(nx r).2.length<=2):cI false r=(hH (nx r)||(nx r).1==6||(nx r).1==9||(bY dw r||bY cU r)):=by
 unfold cI isAny bY hH;generalize nx r=t at *;obtain ⟨k,s⟩:=t;by_cases h4:k=4
 .subst h4;rfl
 by_cases e:k=5
 .subst e;rfl
 by_cases f:k=7
 .subst f;rfl
 by_cases g:k=9
 .subst g;rfl
 by_cases h:k=6
 .subst h;rfl
 by_cases h3:k=3
 .subst h3;by_cases a:s=gw
  .subst a;rfl
  by_cases b:s=eD
  .subst b;rfl
  by_cases c:s=dw
  .subst c;rfl
  by_cases d:s=cU
  .subst d;rfl
  have f1:(s==gw)=false:=WX.2 a;have f2:(s==eD)=false:=WX.2 b;have f3:(s==dw)=false:=WX.2 c;have f4:(s==cU)=false:=WX.2 d;have g1:(gw==s)=false:=WX.2 (Ne.symm a);have g2:(eD==s)=false:=WX.2 (Ne.symm b);have g3:(dw==s)=false:=WX.2 (Ne.symm c);have g4:(cU==s)=false:=WX.2 (Ne.symm d);simp only [Ym,List.any_nil,Xw,if_false,f1,f2,f3,f4,g1,g2,g3,g4];rfl
 by_cases i:k=8
 .subst i;by_cases a:s=gw
  .subst a;exact absurd (hs rfl) (by decide)
  by_cases b:s=eD
  .subst b;exact absurd (hs rfl) (by decide)
  by_cases c:s=dw
  .subst c;rfl
  by_cases d:s=cU
  .subst d;rfl
  have f1:(s==gw)=false:=WX.2 a;have f2:(s==eD)=false:=WX.2 b;have f3:(s==dw)=false:=WX.2 c;have f4:(s==cU)=false:=WX.2 d;have g1:(gw==s)=false:=WX.2 (Ne.symm a);have g2:(eD==s)=false:=WX.2 (Ne.symm b);have g3:(dw==s)=false:=WX.2 (Ne.symm c);have g4:(cU==s)=false:=WX.2 (Ne.symm d);simp only [Ym,List.any_nil,Xw,if_false,f1,f2,f3,f4,g1,g2,g3,g4];rfl
 simp only [WX.2 h4,WX.2 e,WX.2 f,WX.2 g,WX.2 h,WX.2 h3,WX.2 i,Xw,if_false,X3,Bool.or_self]
theorem Dd {r:List aU} (hs:(nx r).1=8->(nx r).2.length<=2):cI true r=(hH (nx r)||(nx r).1==9||bY np r||(bY dw r||bY cU r)):=by
 unfold cI isAny bY hH;generalize nx r=t at *;obtain ⟨k,s⟩:=t;by_cases h4:k=4
 .subst h4;rfl
 by_cases f:k=5
 .subst f;rfl
 by_cases g:k=7
 .subst g;rfl
 by_cases h:k=9
 .subst h;rfl
 by_cases h3:k=3
 .subst h3;by_cases a:s=gw
  .subst a;rfl
  by_cases b:s=eD
  .subst b;rfl
  by_cases c:s=dw
  .subst c;rfl
  by_cases d:s=cU
  .subst d;rfl
  by_cases e:s=np
  .subst e;rfl
  have f1:(s==gw)=false:=WX.2 a;have f2:(s==eD)=false:=WX.2 b;have f3:(s==dw)=false:=WX.2 c;have f4:(s==cU)=false:=WX.2 d;have f5:(s==np)=false:=WX.2 e;have g1:(gw==s)=false:=WX.2 (Ne.symm a);have g2:(eD==s)=false:=WX.2 (Ne.symm b);have g3:(dw==s)=false:=WX.2 (Ne.symm c);have g4:(cU==s)=false:=WX.2 (Ne.symm d);have g5:(np==s)=false:=WX.2 (Ne.symm e);simp only [Ym,List.any_nil,if_true,f1,f2,f3,f4,f5,g1,g2,g3,g4,g5];rfl
 by_cases i:k=8
 .subst i;by_cases a:s=gw
  .subst a;exact absurd (hs rfl) (by decide)
  by_cases b:s=eD
  .subst b;exact absurd (hs rfl) (by decide)
  by_cases c:s=dw
  .subst c;rfl
  by_cases d:s=cU
  .subst d;rfl
  by_cases e:s=np
  .subst e;rfl
  have f1:(s==gw)=false:=WX.2 a;have f2:(s==eD)=false:=WX.2 b;have f3:(s==dw)=false:=WX.2 c;have f4:(s==cU)=false:=WX.2 d;have f5:(s==np)=false:=WX.2 e;have g1:(gw==s)=false:=WX.2 (Ne.symm a);have g2:(eD==s)=false:=WX.2 (Ne.symm b);have g3:(dw==s)=false:=WX.2 (Ne.symm c);have g4:(cU==s)=false:=WX.2 (Ne.symm d);have g5:(np==s)=false:=WX.2 (Ne.symm e);simp only [Ym,List.any_nil,if_true,f1,f2,f3,f4,f5,g1,g2,g3,g4,g5];rfl
 simp only [WX.2 h4,WX.2 f,WX.2 g,WX.2 h,WX.2 h3,WX.2 i,if_true,X3,Bool.or_self]
theorem JP (t:aU):(aV vE).bare 73 [.agg [.int .u8 (t.1:Int),.str t.2]]=some (.bool (hH t)):=by
 refine aX rfl ((Rb _).trans ?_);have a:((t.1:Int)==4)=(t.1==4):=bP _ 4;have b:((t.1:Int)==5)=(t.1==5):=bP _ 5;have c:((t.1:Int)==7)=(t.1==7):=bP _ 7;have d:((t.1:Int)==3)=(t.1==3):=bP _ 3;have e:(t.2==[116,114,117,101])=(t.2==gw):=rfl;have f:(t.2==[102,97,108,115,101])=(t.2==eD):=rfl;simp only [Wy,aE,ad,af,ax,ae,a,b,c,d,e,f];unfold hH;cases t.1==4 <;> cases t.1==5 <;> cases t.1==7 <;> cases t.1==3 <;> cases t.2==gw <;> cases t.2==eD <;> rfl
theorem oN (t:aU) {γ:Type} (st:St) (K:Kv γ):bc (aV vE) 73 [.agg [.int .u8 (t.1:Int),.str t.2]] st K=K (.bool (hH t)) st q0:=aG st K rfl rfl rfl (JP t)
def V0 (pat:Bool):FuncId:=match pat with | true=>51 | false=>166
theorem ot (s:List UInt8) {β:Type} (st:St) (K:Kv β):bc (aV vE) 76 [.str s] st K=K (.agg [.int .u8 2,.int .u8 0,.str s,.ay]) st q0:=
 aG st K rfl rfl rfl (aX rfl ((Qu _).trans (by simp only [V5,ax])))
section
variable {β:Type} {Q:β->Prop} {st0 st:St} {p:Nat} {L:List aU} {x:AV} {i d d':Nat} {r r':List aU} {l l1 l2:List Vr} {os:List (AV×List AV)} {t:T}
theorem _root_.Go.VM.aa.mH (pat:Bool) (hs:Sg L) (w:Wd PR st0 st p L x d r l os) {K:Bool->St->Fx->Option β} (g: ∀s a,Wd PR st0 s p L x d r l os->aa (K (cI pat r) s a) Q):
  aa (bc (aV vE) (V0 pat) [.mp p 0] st fun v s a=>bJ v fun b=>K b s a) Q:=by
 have e:(nx r).1=8->(nx r).2.length<=2:=by
  obtain ⟨i,_,hr⟩:=w.pz;exact OJ hs hr
 have j: ∀(s:St),Wd PR s s p L x d r [] []->aa ((aV vE).wide 74 [.mp p 0] s) (fun b=>b.1= .bool (bY dw r||bY cU r)/\Wd PR s b.2 p L x d r [] []):=by
  intro st w;refine aa.wide (aa.step (Qo _ _) ?_);unfold V4;refine aa.bind (R:=fun c=> ∃s,c=([.bool (bY dw r||bY cU r)],s)/\Wd PR st s p L x d r [] []) ?_ ?_
  .refine aa.sQ (s0:=dw) w fun s1 _ w=> ?_;cases bY dw r with
   | true=>exact aa.step (ao _ _) (aa.some ⟨s1,rfl,w⟩)
   | false=>exact aa.step (ai _ _) (aa.sQ (s0:=cU) w fun s2 _ w=>aa.some ⟨s2,rfl,w⟩)
  .rintro c ⟨s,rfl,w⟩;simp only [ad,ak,ae];exact aa.some ⟨rfl,w⟩
 have f: ∀{st1:St} (s:St) (l:List Vr) {γ:Type} {K:Kv γ} {Q:γ->Prop},Wd PR st1 s p L x d r l []->(∀s a,Wd PR st1 s p L x d r l []->aa (K (.bool (bY dw r||bY cU r)) s a) Q)->aa (bc (aV vE) 74 [.mp p 0] s K) Q:=by
  intro st1 s l γ K Q w g;refine aa.gm (R:=fun b=>b.1= .bool (bY dw r||bY cU r)/\Wd PR s b.2 p L x d r [] []) ?_ rfl rfl fun v s2 h=> ?_
  .exact j s (Wd.begin w.pz)
  .obtain ⟨rfl,w'⟩:=h;exact g s2 _ (w.move w'.k w'.pz)
 have m:(((nx r).1:Int)==9)=((nx r).1==9):=bP _ 9;have n:(((nx r).1:Int)==6)=((nx r).1==6):=bP _ 6;cases pat with
 | false=>
  have key:aa ((aV vE).wide 166 [.mp p 0] st) (fun b=>b.1= .bool (cI false r)/\Wd PR st b.2 p L x d r [] []):=by
   refine aa.wide (aa.step (NY _ _) ?_);unfold Tw;refine aa.SE (Wd.begin w.pz) fun s s' w=> ?_;rw [DU e];refine aa.bind (R:=fun c=> ∃s2,c=([.bool (hH (nx r)||(nx r).1==6||(nx r).1==9||(bY dw r||bY cU r))],s2)/\Wd PR st s2 p L x d r [] []) ?_ ?_
   .refine aa.DJ WS w ?_;simp only [aE,ad,af,ax,ae];refine aa.step (oN (nx r) _ _) (aa.step (ak _ _) ?_);cases hH (nx r) with
    | true=>exact aa.step (ao _ _) (aa.some ⟨s',rfl,w.sub (X0 _)⟩)
    | false=>
     refine aa.step (ai _ _) (aa.gv WS w rfl (aa.step (af _ _ _) ?_));rw [n];cases (nx r).1==6 with
     | true=>exact aa.step (ao _ _) (aa.some ⟨s',rfl,w.sub (X0 _)⟩)
     | false=>
      refine aa.step (ai _ _) (aa.gv WS w rfl (aa.step (af _ _ _) ?_));rw [m];cases (nx r).1==9 with
      | true=>exact aa.step (ao _ _) (aa.some ⟨s',rfl,w.sub (X0 _)⟩)
      | false=>exact aa.step (ai _ _) (f s' _ w fun s2 a w=>aa.step (ak _ _) (aa.some ⟨s2,by simp,w.sub (X0 _)⟩))
   .rintro c ⟨s2,rfl,w⟩;simp only [ad,ak,ae];exact aa.some ⟨rfl,w⟩
  refine aa.gm key rfl rfl fun v s h=> ?_;obtain ⟨rfl,w'⟩:=h;exact aa.step (ak _ _) (g s _ (w.move w'.k w'.pz))
 | true=>
  have key:aa ((aV vE).wide 51 [.mp p 0] st) (fun b=>b.1= .bool (cI true r)/\Wd PR st b.2 p L x d r [] []):=by
   refine aa.wide (aa.step (Rc _ _) ?_);unfold VX;refine aa.SE (Wd.begin w.pz) fun s s' w=> ?_;rw [Dd e];refine aa.bind (R:=fun c=> ∃s2,c=([.bool (hH (nx r)||(nx r).1==9||bY np r||(bY dw r||bY cU r))],s2)/\Wd PR st s2 p L x d r [] []) ?_ ?_
   .refine aa.DJ WS w ?_;simp only [aE,ad,af,ax,ae];refine aa.step (oN (nx r) _ _) (aa.step (ak _ _) ?_);cases hH (nx r) with
    | true=>exact aa.step (ao _ _) (aa.some ⟨s',rfl,w.sub (X0 _)⟩)
    | false=>
     refine aa.step (ai _ _) (aa.gv WS w rfl (aa.step (af _ _ _) ?_));rw [m];cases (nx r).1==9 with
     | true=>exact aa.step (ao _ _) (aa.some ⟨s',rfl,w.sub (X0 _)⟩)
     | false=>
      refine aa.step (ai _ _) (aa.sQ (s0:=np) w fun s2 _ w=> ?_);cases bY np r with
      | true=>exact aa.step (ao _ _) (aa.some ⟨s2,rfl,w.sub (X0 _)⟩)
      | false=>exact aa.step (ai _ _) (f s2 _ w fun s2 a w=>aa.step (ak _ _) (aa.some ⟨s2,by simp,w.sub (X0 _)⟩))
   .rintro c ⟨s2,rfl,w⟩;simp only [ad,ak,ae];exact aa.some ⟨rfl,w⟩
  refine aa.gm key rfl rfl fun v s h=> ?_;obtain ⟨rfl,w'⟩:=h;exact aa.step (ak _ _) (g s _ (w.move w'.k w'.pz))
theorem _root_.Go.VM.aa.pq (w:Wd PR st0 st p L x d r l os) {K:Int->Int->List UInt8->AV->St->Fx->Option β}
  (g: ∀(k tk:Nat) (tx:List UInt8) (y:AV) (s:St),Nd (aJ r) k tk tx y->eP (aJ r)<=1000000000000000->Wd PR st0 s p L x d (aL r) l os->aa (K (k:Int) (tk:Int) tx y s ⟨[],.all st s⟩) Q):
  aa (bc (aV vE) 27 [.mp p 0] st fun v s e=>wq v fun a b c y=>K a b c y s e) Q:=aa.node w (jx w.pz) rfl rfl g
theorem kC (hp:Pz PR st p L x d r) (s:List UInt8):NW PR 53 [.mp p 0,.str s] st p L x d (cN s r) (bg s r):=by
 refine aa.wide (aa.step (Qk _ _ _) ?_);unfold Wb;refine aa.step (ax _ _) (aa.alloc (Wd.begin hp) fun s1 _ w=> ?_);refine aa.sQ w fun s2 _ w=> ?_;unfold cN bg;cases bY s r with
 | true=>
  refine aa.step (ao _ _) ?_;exact aa.pq w fun k tk tx y a hn hd w=>aa.res [] (old:=z4) w rfl hn hd
 | false=>
  refine aa.step (ai _ _) (aa.step (ot _ _ _) ?_);refine aa.res [] (old:=z4) w rfl (ja s) ?_;show eP (missing s)<= _;rw [fF];omega
theorem yq (hp:Pz PR st p L x d r) (s:List UInt8):NW PR 77 [.mp p 0,.str s] st p L x d (iM s r) (je r):=by
 refine aa.wide (aa.step (PK _ _ _) ?_);unfold Wo;refine aa.step (ax _ _) (aa.alloc (Wd.begin hp) fun s1 _ w=> ?_);refine aa.Lx w fun s2 w=> ?_;unfold iM je;by_cases h0:(nx r).1=0
 .rw [if_pos h0,if_pos h0,show (((nx r).1:Int)==0)=true by rw [h0];rfl];refine aa.step (ao _ _) (aa.step (ot _ _ _) ?_);refine aa.res [] (old:=z4) w rfl (ja s) ?_;rw [fF];omega
 .rw [if_neg h0,if_neg h0,show (((nx r).1:Int)==0)=false from WX.2 (by omega)];refine aa.step (ai _ _) (aa.pq w fun k tk tx y s hn hd w=> ?_);refine aa.two hn (aa.fit hn fun y' a _ _=> ?_);refine aa.Ek [] (old:=z4) w rfl (jo (lU a) (by simp)) ?_;rw [bE,br];have:=bS r;omega
end
def jd (F:FuncId) (more:List AV) (job:jI) (n:Nat):Prop:= ∀(st:St) (p:Nat) (L:List aU) (x:AV) (d:Nat) (r:List aU) (t:T) (r':List aU),Sg L->Pz PR st p L x d r->d<=64->P n job d r=some ([t],r')->NW PR F (.mp p 0::more) st p L x d t r'
def Wk (pat:Bool):FuncId:=match pat with | true=>52 | false=>165
def WI (st:St) (p:Nat) (L:List aU) (x:AV) (d k:Nat) (ts:List T) (r':List aU):AV×St->Prop:=fun b=> ∃y es,b.1= .agg [.int .u8 (k:Int),.int .u8 0,.str [],y]/\iS b.2 4 ND y es/\(∀j,dS y j->st.h<=j)/\bO ts es/\eQ ts<=900000000000000/\Pz PR b.2 p L x d r'/\ba st b.2 (· =p)
def He (n:Nat):Prop:= ∀(st:St) (p:Nat) (L:List aU) (x:AV) (d:Nat) (r:List aU) (k:Nat) (a:T) (e:AV) (ts:List T) (r':List aU),Sg L->Pz PR st p L x d r->d<=64->iz a e->eP a<=1000000->P n .binding d r=some (ts,r')->
 aa ((aV vE).wide 28 [.mp p 0,.agg [.int .u8 (k:Int),.int .u8 0,.str [],.sl 4 [e] .shut]] st) (WI st p L x d k (a::ts) r')
structure Cg (n:Nat):Prop where
 expr:jd 54 [] .expr n
 whole:jd 78 [] .whole n
 level: ∀k:Nat,k<=6->jd 107 [.int .i64 (k:Int)] (.level k) n
 oper: ∀k:Nat,k<=6->jd 126 [.int .i64 (k:Int)] (.level (k+1)) n
 neg:jd 147 [] .neg n
 atom: ∀pat,jd (Wk pat) [] (.atom pat) n
 closed: ∀list pat,jd 75 [.int .u8 (kindOf list pat:Int),.str (ry list),.str (gQ list),.bool pat] (.closed list pat) n
 pattern:jd 125 [] .pattern n
 arm:jd 106 [] .arm n
 binding:He n
section
variable {β:Type} {Q:β->Prop} {st0 st:St} {p:Nat} {L:List aU} {x:AV} {d d':Nat} {r r':List aU} {l l1 l2:List Vr} {os:List (AV×List AV)} {t:T}
theorem Gm {n:Nat} (ih:Cg n):jd 54 [] .expr (n+1):=by
 intro st p L x d r t r' hs hp hd h;simp only [P] at h;refine aa.wide (aa.step (Rd _ _) ?_);unfold Wr;refine aa.alloc (Wd.begin hp) fun s1 _ w=> ?_;refine aa.zM (aa.nU w (aa.step (af _ _ _) ?_));split at h
 .rename_i hd;subst hd;cases h;refine aa.step (ao _ _) ?_;exact aa.node w (yq w.pz _) rfl rfl fun k tk tx y s hn hd w=>aa.res [] (old:=z4) w rfl hn hd
 .rw [show ((d:Int)==64)=false from WX.2 (by omega)];refine aa.step (ai _ _) (aa.zM (aa.nU w (aa.step (af _ _ _) ?_)));rw [aB,bm (by omega)];refine aa.zM (aa.deep (d+1) w fun s2 b w=> ?_);refine aa.node w (ih.whole _ p L x (d+1) r t r' hs w.pz (by omega) h) rfl rfl fun k tk tx y s hn a w=> ?_;refine aa.alloc w fun c _ w=>aa.two hn ?_;refine aa.store [] w fun e b w=> ?_;refine aa.zM (aa.nU w (aa.step (af _ _ _) ?_));rw [aB,show ((d+1:Nat):Int) - 1=((d+1:Nat):Int) - ((1:Nat):Int) from rfl,rY (by omega) (by omega),Yx];refine aa.zM (aa.deep d w fun f b w=> ?_);refine aa.fq (WS) w ?_;exact aa.res [_] (old:=z4) w rfl hn a
theorem zH {n:Nat} (ih:Cg n) (hn:n<=10000000):jd 125 [] .pattern (n+1):=by
 intro st p L x d r t r' hs hp hd h;simp only [P] at h;refine aa.wide (aa.step (NF _ _) ?_);unfold TM;refine aa.alloc (Wd.begin hp) fun s1 _ w=> ?_;refine aa.zM (aa.nU w (aa.step (af _ _ _) ?_));split at h
 .rename_i hd;subst hd;cases h;refine aa.step (ao _ _) ?_;exact aa.node w (yq w.pz _) rfl rfl fun k tk tx y s hn hd w=>aa.res [] (old:=z4) w rfl hn hd
 .rw [show ((d:Int)==64)=false from WX.2 (by omega)];refine aa.step (ai _ _) (aa.zM (aa.nU w (aa.step (af _ _ _) ?_)));rw [aB,bm (by omega)];refine aa.zM (aa.deep (d+1) w fun s2 j w=> ?_);obtain ⟨⟨a,l⟩,q,h⟩:=bind_some h;obtain ⟨u,rfl⟩:=cO _ _ _ _ _ _ q rfl;have H:=dX hn q rfl;refine aa.node w (ih.atom true _ p L x (d+1) r u l hs w.pz (by omega) q) rfl rfl fun k tk tx y s hnd g w=> ?_;refine aa.alloc w fun U _ w=>aa.two hnd ?_;refine aa.store [] w fun V j w=> ?_;refine aa.sQ (s0:=zb) w fun W _ w=> ?_;have fin: ∀{f:St} {t:T},Nv PR st f p L x (d+1) r' s.h st.h t->eP t<=1000000000000000->aa (az (some (([]:List AV),f)) fun c=>bC (Prod.fst c) (bM (notNil (.mp p 0)) (bF 2 (.mp p 0) fun v=>al 1 false v (Prod.snd c) fun v _=>bk .i64 v fun n=>aN (IntKind.wrap .i64 (n - 1)) fun n=>bM (notNil (.mp p 0)) (bF 2 (.mp p 0) fun v=>aM (aV vE) 1 v (.int .i64 n) [.int .i64 n] (Prod.snd c) fun _ m _=>
    al 4 true (.mp s.h 0) m fun v _=>wq v fun n1 o tx y=>ab y (aM (aV vE) 4 (.mp st.h 0) (.agg [.int .u8 n1,.int .u8 o,.str tx,y]) [.int .u8 n1,.int .u8 o,.str tx,y] m fun _ s _=>al 4 true (.mp st.h 0) s fun v _=>wq v fun n1 o tx y=>some (.agg [.int .u8 n1,.int .u8 o,.str tx,y],s)))))) (NQ PR st p L x d t r'):=by
   rintro f t ⟨k,tk,tx,y,w,hnd⟩ z;refine aa.step (aj _ _) (aa.step (ae _) ?_);refine aa.zM (aa.nU w (aa.step (af _ _ _) ?_));rw [aB,show ((d+1:Nat):Int) - 1=((d+1:Nat):Int) - ((1:Nat):Int) from rfl,rY (by omega) (by omega),Yx];refine aa.zM (aa.deep d w fun m j w=> ?_);refine aa.fq (WS) w ?_;exact aa.res [_] (old:=z4) w rfl hnd z
  dsimp only at h;cases hb:bY zb l with
  | true=>
   rw [hb,if_pos rfl] at h;obtain ⟨⟨b,r2⟩,A,h⟩:=bind_some h;obtain ⟨v,rfl⟩:=cO _ _ _ _ _ _ A rfl;cases h;have I:=dX hn A rfl;have J:=bS l;refine aa.bind (R:=fun c=> ∃f,c=([],f)/\Nv PR st f p L x (d+1) r2 s.h st.h (node 16 [u,aJ l,v])) ?_ ?_
   .refine aa.step (ao _ _) ?_;refine aa.pq w fun X K M y' f e B w=> ?_;refine aa.alloc w fun m _ w=>aa.two e ?_;refine aa.store [] w fun Y j w=> ?_;refine aa.fq (a:=s.h) (WZ _ WS) w ?_;refine aa.fq (WS) w ?_;refine aa.node w (ih.pattern _ p L x (d+1) _ v r2 hs w.pz (by omega) A) rfl rfl fun k2 N O Z s9 i Q C=> ?_;have S:=w.lg C (WS) e B;have a2:=w.lg C (a:=s.h) (WZ _ WS) hnd g;refine aa.step (gP (by rw [S,a2];rfl) _) ?_;refine aa.two hnd (aa.two e (aa.two i (aa.fit hnd fun z1 D _ _=>aa.fit e fun z2 E _ _=>aa.fit i fun z3 F _ _=> ?_)));refine aa.store [_] C fun G j w=> ?_;exact aa.some ⟨G,rfl,16,0,[],_,w.sub NI,jo (Ax D E F) (by simp)⟩
   .rintro c ⟨f,rfl,h⟩;refine aa.step (aj _ _).symm (fin h ?_);rw [bE];simp only [cq,bz,aS];omega
  | false=>
   rw [hb,if_neg XJ] at h;cases h;exact aa.step (Xy (az · _) (ai _ _)) (fin ⟨k,tk,tx,y,w,hnd⟩ g)
theorem Jk {n:Nat} (ih:Cg n) (hn:n<=10000000):jd 106 [] .arm (n+1):=by
 intro st p L x d r t r' hs hp hd h;simp only [P] at h;obtain ⟨⟨a,f⟩,c,h⟩:=bind_some h;obtain ⟨u,rfl⟩:=cO _ _ _ _ _ _ c rfl;obtain ⟨⟨b,r2⟩,e,h⟩:=bind_some h;obtain ⟨v,rfl⟩:=cO _ _ _ _ _ _ e rfl;cases h;have g:=dX hn c rfl;have i:=dX hn e rfl;have j:=fh fB f;refine aa.wide (aa.step (M1 _ _) ?_);unfold Sl;refine aa.alloc (Wd.begin hp) fun s1 h1 w=> ?_;refine aa.alloc w fun s2 _ w=> ?_;refine aa.store [] w fun k l w=> ?_;have hg:Gv PR st k p L x d r s1.h st.h 10 []:=⟨_,_,w.ay,bO.nil,by simp [aS]⟩;refine hg.grow (ih.pattern _ p L x d _ u f hs hg.pz hd c) rfl rfl (by simp) fun m hg=> ?_;refine hg.grow (kC hg.pz fB) rfl rfl (by simp) fun o hg=> ?_;refine hg.grow (ih.expr _ p L x d _ v r2 hs hg.pz hd e) rfl rfl (by simp) fun q hg=> ?_;refine hg.nd.fin ?_;simp only [bE,cq,bz,aS];omega
theorem Ho {n:Nat} (ih:Cg n) (pat:Bool) (hs:Sg L) (hp:Pz PR st p L x d r) (hd:d<=64) (h:P n (if pat then .pattern else .expr) d r=some ([t],r')):NW PR 105 [.mp p 0,.bool pat] st p L x d t r':=by
 refine aa.wide (aa.step (N6 _ _ _) ?_);unfold S4;refine aa.step (ak _ _) (aa.alloc (Wd.begin hp) fun s1 h1 w=> ?_);cases pat with
 | true=>
  refine aa.step (ao _ _) ?_;exact aa.node w (ih.pattern _ p L x d _ t r' hs w.pz hd h) rfl rfl fun k tk tx y s hn hd w=>aa.res [] (old:=z4) w rfl hn hd
 | false=>
  refine aa.step (ai _ _) ?_;exact aa.node w (ih.expr _ p L x d _ t r' hs w.pz hd h) rfl rfl fun k tk tx y s hn hd w=>aa.res [] (old:=z4) w rfl hn hd
theorem Gv.sQ {s:St} {a b k:Nat} {ts:List T} (h:Gv PR st0 s p L x d r a b k ts) {s0:List UInt8} {K:Bool->St->Fx->Option β} (g: ∀s' c,Gv PR st0 s' p L x d r a b k ts->aa (K (bY s0 r) s' c) Q):
  aa (bc (aV vE) 26 [.mp p 0,.str s0] s fun v s c=>bJ v fun b=>K b s c) Q:=by
 obtain ⟨v,es,w,hs,hd⟩:=h;exact aa.sQ w fun s' c w'=>g s' c ⟨v,es,w',hs,hd⟩
theorem Gv.mH {s:St} {a b k:Nat} {ts:List T} (pat:Bool) (h:Gv PR st0 s p L x d r a b k ts) (e:Sg L) {K:Bool->St->Fx->Option β} (g: ∀s' c,Gv PR st0 s' p L x d r a b k ts->aa (K (Parse.cI pat r) s' c) Q):
  aa (bc (aV vE) (V0 pat) [.mp p 0] s fun v s c=>bJ v fun b=>K b s c) Q:=by
 obtain ⟨v,es,w,hs,hd⟩:=h;exact aa.mH pat e w fun s' c w'=>g s' c ⟨v,es,w',hs,hd⟩
theorem E4 {n:Nat} (hn:n<=10000000) (ih: ∀m,m < n->Cg m) (list pat:Bool) (i:Sg L) {a b k:Nat} {c:St} (ha:c.h=a) (hd:d<=64): ∀(m:Nat) (ts bs:List T) (r r':List aU) (s:St),m<=n->P m (.items list pat) d r=some (bs,r')->Gv PR st0 s p L x d r a b k ts->ts.length+2 * m<=100000000->
  aa (aK (vy (.mp p 0) (ry list) pat c) ([],s)) (fun q=> ∃s',q=(0,[],s')/\Gv PR st0 s' p L x d r' a b k (ts++bs)):=by
 intro m
 induction m with
 | zero=>intro ts bs r r' s _ h;cases h
 | succ m j=>
  intro ts bs r r' s hm h hg hl;simp only [P] at h;split at h
  .rename_i hb;obtain ⟨⟨y,o⟩,t,h⟩:=bind_some h;obtain ⟨u,rfl⟩:=cO _ _ _ _ _ _ t (wS pat);obtain ⟨⟨b1,r2⟩,v,h⟩:=bind_some h;cases h;have f:aa (vy (.mp p 0) (ry list) pat c ([],s)) (fun q=> ∃s',q= .inl ([],s')/\Gv PR st0 s' p L x d o a b k (ts++[aJ r]++[u])):=by
    simp only [vy,ha,ae];refine hg.sQ fun s1 _ hg=> ?_;rw [hb];refine aa.step (ao _ _) ?_;refine hg.grow (jx hg.pz) rfl rfl (by omega) fun s2 hg=> ?_;refine hg.grow (Ho (ih m (by omega)) pat i hg.pz hd t) rfl rfl (by simp;omega) fun w hg=> ?_;exact aa.some ⟨w,rfl,hg⟩
   obtain ⟨q,e,s',rfl,g⟩:=f;rw [aP e];refine (j _ b1 o _ s' (by omega) v g (by simp;omega)).mono ?_;rintro q ⟨s2,rfl,l⟩;refine ⟨s2,rfl, ?_⟩;simpa using l
  .rename_i hb;cases h;have f:aa (vy (.mp p 0) (ry list) pat c ([],s)) (fun q=> ∃s',q= .inr (0,[],s')/\Gv PR st0 s' p L x d r a b k ts):=by
    simp only [vy,ha,ae];refine hg.sQ fun s1 _ hg=> ?_;rw [Xi hb];exact aa.step (ai _ _) (aa.some ⟨s1,rfl,hg⟩)
   obtain ⟨q,e,s',rfl,g⟩:=f;exact ⟨_,aF e,s',rfl,by simpa using g⟩
theorem Cr {n:Nat} (ih: ∀m,m<=n->Cg m) (hn:n<=10000000) (list pat:Bool):jd 75 [.int .u8 (kindOf list pat:Int),.str (ry list),.str (gQ list),.bool pat] (.closed list pat) (n+1):=by
 intro st p L x d r t r' hs hp hd h;simp only [P] at h;refine aa.wide (aa.step (QW _ _ _ _ _ _) ?_);simp only [VL,af,ax,ak];refine aa.alloc (Wd.begin hp) fun s1 _ w=> ?_;refine aa.pq w fun k tk tx y s hnd a w=> ?_;refine aa.two hnd (aa.fit hnd fun l c _ _=> ?_);refine aa.alloc w fun g _ w=> ?_;refine aa.store [] w fun i o w=> ?_;have hg:Gv PR st i p L x d (aL r) s.h st.h (kindOf list pat) [aJ r]:=⟨_,_,w.shut (by simp),lU c,by rw [br];exact a⟩;refine hg.sQ fun v _ hg=> ?_;split at h
 .rename_i hb;cases h;rw [hb];refine aa.step (ao _ _) ?_;refine hg.grow (jx hg.pz) rfl rfl (by simp) fun s2 hg=> ?_;refine hg.nd.fin ?_;have:=bS r;have:=bS (aL r);simp only [bE,cq,bz,aS];omega
 .rename_i hb;rw [Xi hb];obtain ⟨⟨z,A⟩,e,h⟩:=bind_some h;obtain ⟨u,rfl⟩:=cO _ _ _ _ _ _ e (wS pat);obtain ⟨⟨b1,r2⟩,f,h⟩:=bind_some h;cases h;refine aa.step (ai _ _) ?_;refine hg.grow (Ho (ih n (WW _)) pat hs hg.pz hd e) rfl rfl (by simp) fun g hg=> ?_;refine aa.bind (E4 hn (fun m hm=>ih m (by omega)) list pat hs rfl hd n _ b1 _ _ g (WW _) f hg (by simp;omega)) ?_;rintro q ⟨B,rfl,hg⟩;refine aa.step (ae _) ?_;have hd1:=zr hn f rfl;have j:=dX hn e (lO pat);have hl:=Bb _ _ _ _ _ _ _ f;refine hg.grow (kC hg.pz (gQ list)) rfl rfl (by simp;omega) fun C hg=> ?_;have b:=hg.nd.fin (t:=node (kindOf list pat) ([aJ r]++[u]++b1++[cN (gQ list) r2])) (by
   have:=bS r;have:=fh (gQ list) r2;simp only [bE,cq,bz,aS];omega)
  exact b
end
end Go.Proofs.YtgecmbapkplklaaGreatDoor.Vm
