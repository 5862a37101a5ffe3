/-
  A part of the proof.
-/
import Derived.Test.YtkpeicabocpbkaaGreatDoorVmAB
import Derived.Calls
import Derived.Laws.World
import Derived.Laws.Sem
import Derived.Orders
set_option linter.all false
namespace Go.VM
inductive tz where
 | cw (b:Nat)
 | tok (loc:Nat->Oq (Nat×Nat))
structure Gh where
 F:Nat->Nat->Oq Value
 M:Nat->Oq (List MapEntry×Nat)
 E:Nat->Oq tz
def uF (g:Gh) (p:Perm) (n b o cap:Nat):Prop:=
 match p with
 | .shut=>cap=n
 | .wide=>True
 | .own k=>o=0/\ ∃loc,g.E k=some (.tok loc)/\loc n=some (b,cap)
mutual
def R (g:Gh):AV->Value->Prop
 | .bool b,x=>x= .bool b
 | .int k n,x=>x= .int k n
 | .str s,x=>x= .string ⟨s.toArray⟩
 | .flt k b,x=>x= .float k b
 | .nilp,x=>x= .pointer none
 | .ip cs,x=>bN cs=true/\ ∃b o,x= .pointer (some ⟨b,o,none⟩)/\oH g cs b o
 | .mp id off,x=> ∃b,g.E id=some (.cw b)/\x= .pointer (some ⟨b,off,none⟩)
 | .aD,x=>x= .slice none 0 0
 | .sl z es p,x=>bN es=true/\ ∃b o cap,x= .slice (some ⟨b,o,none⟩) es.length cap/\es.length<=cap/\1<=z/\iD g z es b o/\uF g p es.length b o cap
 | .ms id off z len cap,x=> ∃b o,g.E id=some (.cw b)/\ ∃c,x= .slice (some ⟨b,o,none⟩) len c/\len<=c/\1<=z/\(c≠0->o=off)/\(cap=c\/cap=0)
 | .nilm,x=>x= .map none
 | .mm id,x=> ∃b,g.E id=some (.cw b)/\x= .map (some b)
 | .im es,x=> ∃b ents clk,g.M b=some (ents,clk)/\x= .map (some b)/\rG g es ents
 | .fn f a c,x=> ∃a' c',x= .func f a' c'/\RL g a a'.toList/\RL g c c'.toList
 | .nilfn,x=>x= .nilFunc
 | .iface t v,x=> ∃y,x= .iface t y/\R g v y
 | .nili,x=>x= .nilIface
 | .agg cs,x=> ∃ys,x= .agg ys/\RL g cs ys.toList
 | .tup vs,x=> ∃ys,x= .tuple ys/\RL g vs ys.toList
 | .gs k z n,x=> ∃loc b cap,g.E k=some (.tok loc)/\loc n=some (b,cap)/\x= .slice (some ⟨b,0,none⟩) n cap/\n<=cap/\1<=z
 | .gp k n off,x=> ∃loc b cap,g.E k=some (.tok loc)/\loc n=some (b,cap)/\x= .pointer (some ⟨b,off,none⟩)
 | .es,x=> ∃a,x= .slice (some a) 0 0
 | .opq i,x=>(i=true/\(x= .nilIface\/ ∃t y,x= .iface t y))\/(i=false/\ ∃a,x= .pointer a)
 | .yld k,x=> ∃l,g.E k=some (.cw l)/\x= .func (.yield l) #[] #[]
def RL (g:Gh):List AV->List Value->Prop
 | [],l=>l=[]
 | v::vs,l=> ∃x xs,l=x::xs/\R g v x/\RL g vs xs
def oH (g:Gh):List AV->Nat->Nat->Prop
 | [],_,_=>True
 | v::vs,b,o=>(∃x,g.F b o=some x/\x.oneCell'=true/\R g v x)/\oH g vs b (o+1)
def iD (g:Gh) (z:Nat):List AV->Nat->Nat->Prop
 | [],_,_=>True
 | .agg cs::vs,b,o=>(cs.length=z/\oH g cs b o)/\iD g z vs b (o+z)
 | v::vs,b,o=>(1=z/\ ∃x,g.F b o=some x/\x.oneCell'=true/\R g v x)/\iD g z vs b (o+z)
def rG (g:Gh):List (AV×AV)->List MapEntry->Prop
 | [],l=>l=[]
 | (k,v)::es,l=> ∃e l',l=e::l'/\R g k e.key/\R g v e.val/\rG g es l'
end
theorem ml (g:Gh) (z:Nat) (v:AV) (vs:List AV) (b o:Nat):
  iD g z (v::vs) b o↔v.cells.length=z/\oH g v.cells b o/\iD g z vs b (o+z):=by
 cases v <;> simp [iD,AV.cells,oH,and_assoc]
structure Le (g g':Gh):Prop where
 F: ∀b o v,g.F b o=some v->g'.F b o=some v
 M: ∀b e,g.M b=some e->g'.M b=some e
 cw: ∀id b,g.E id=some (.cw b)->g'.E id=some (.cw b)
 tok: ∀id loc,g.E id=some (.tok loc)-> ∃loc',g'.E id=some (.tok loc')/\ ∀n x,loc n=some x->loc' n=some x
theorem Le.refl (g:Gh):Le g g:=⟨fun _ _ _ h=>h,fun _ _ h=>h,fun _ _ h=>h,fun _ loc h=>⟨loc,h,fun _ _ h=>h⟩⟩
theorem Le.trans {a b c:Gh} (h:Le a b) (k:Le b c):Le a c:=
 ⟨fun _ _ _ x=>k.F _ _ _ (h.F _ _ _ x),fun _ _ x=>k.M _ _ (h.M _ _ x),fun _ _ x=>k.cw _ _ (h.cw _ _ x),fun id loc x=>by
  obtain ⟨l1,d,e⟩:=h.tok id loc x;obtain ⟨l2,f,g⟩:=k.tok id l1 d;exact ⟨l2,f,fun n y hy=>g _ _ (e _ _ hy)⟩⟩
theorem IC {g g':Gh} (h:Le g g') {p:Perm} {n b o cap:Nat} (a:uF g p n b o cap):uF g' p n b o cap:=by
 cases p with
 | shut=>exact a
 | wide=>exact a
 | own k=>
  obtain ⟨h0,loc,h1,c⟩:=a;obtain ⟨loc',d,h4⟩:=h.tok k loc h1;exact ⟨h0,loc',d,h4 _ _ c⟩
mutual
theorem nK {g g':Gh} (h:Le g g'): ∀(v:AV) (x:Value),R g v x->R g' v x
 | .bool _,_,hr | .int _ _,_,hr | .str _,_,hr | .flt _ _,_,hr | .nilp,_,hr | .aD,_,hr | .nilm,_,hr | .nilfn,_,hr | .nili,_,hr | .es,_,hr | .opq _,_,hr=>by
  simpa only [R] using hr
 | .ip cs,x,hr=>by
  simp only [R] at hr ⊢;obtain ⟨h0,b,o,h1,h2⟩:=hr;exact ⟨h0,b,o,h1,uo h cs b o h2⟩
 | .mp id off,x,hr=>by
  simp only [R] at hr ⊢;obtain ⟨b,h1,h2⟩:=hr;exact ⟨b,h.cw _ _ h1,h2⟩
 | .sl z es p,x,hr=>by
  simp only [R] at hr ⊢;obtain ⟨h0,b,o,cap,h1,h2,h2',h3,h4⟩:=hr;exact ⟨h0,b,o,cap,h1,h2,h2',js h z es b o h3,IC h h4⟩
 | .ms id off z len cap,x,hr=>by
  simp only [R] at hr ⊢;obtain ⟨b,o,h1,h2⟩:=hr;exact ⟨b,o,h.cw _ _ h1,h2⟩
 | .gs k z n,x,hr=>by
  simp only [R] at hr ⊢;obtain ⟨loc,b,cap,h1,h2,h3⟩:=hr;obtain ⟨loc',h4,h5⟩:=h.tok k loc h1;exact ⟨loc',b,cap,h4,h5 _ _ h2,h3⟩
 | .gp k n off,x,hr=>by
  simp only [R] at hr ⊢;obtain ⟨loc,b,cap,h1,h2,h3⟩:=hr;obtain ⟨loc',h4,h5⟩:=h.tok k loc h1;exact ⟨loc',b,cap,h4,h5 _ _ h2,h3⟩
 | .mm id,x,hr=>by
  simp only [R] at hr ⊢;obtain ⟨b,h1,h2⟩:=hr;exact ⟨b,h.cw _ _ h1,h2⟩
 | .yld k,x,hr=>by
  simp only [R] at hr ⊢;obtain ⟨b,h1,h2⟩:=hr;exact ⟨b,h.cw _ _ h1,h2⟩
 | .im es,x,hr=>by
  simp only [R] at hr ⊢;obtain ⟨b,ents,clk,h1,h2,h3⟩:=hr;exact ⟨b,ents,clk,h.M _ _ h1,h2,zS h es ents h3⟩
 | .fn f a c,x,hr=>by
  simp only [R] at hr ⊢;obtain ⟨a',c',h1,h2,h3⟩:=hr;exact ⟨a',c',h1,gj h a _ h2,gj h c _ h3⟩
 | .iface t v,x,hr=>by
  simp only [R] at hr ⊢;obtain ⟨y,h1,h2⟩:=hr;exact ⟨y,h1,nK h v y h2⟩
 | .agg cs,x,hr=>by
  simp only [R] at hr ⊢;obtain ⟨y,h1,h2⟩:=hr;exact ⟨y,h1,gj h cs _ h2⟩
 | .tup cs,x,hr=>by
  simp only [R] at hr ⊢;obtain ⟨y,h1,h2⟩:=hr;exact ⟨y,h1,gj h cs _ h2⟩
theorem gj {g g':Gh} (h:Le g g'): ∀(vs:List AV) (xs:List Value),RL g vs xs->RL g' vs xs
 | [],_,hr=>by simp only [RL] at hr ⊢;exact hr
 | v::vs,l,hr=>by
  simp only [RL] at hr ⊢;obtain ⟨x,xs,h1,h2,h3⟩:=hr;exact ⟨x,xs,h1,nK h v x h2,gj h vs xs h3⟩
theorem uo {g g':Gh} (h:Le g g'): ∀(vs:List AV) (b o:Nat),oH g vs b o->oH g' vs b o
 | [],_,_,_=>by simp only [oH]
 | v::vs,b,o,hr=>by
  simp only [oH] at hr ⊢;obtain ⟨⟨x,h1,h2,h3⟩,h4⟩:=hr;exact ⟨⟨x,h.F _ _ _ h1,h2,nK h v x h3⟩,uo h vs b (o+1) h4⟩
theorem js {g g':Gh} (h:Le g g') (z:Nat): ∀(vs:List AV) (b o:Nat),iD g z vs b o->iD g' z vs b o
 | [],_,_,_=>by simp only [iD]
 | v::vs,b,o,hr=>by
  cases v with
  | agg cs=>
   simp only [iD] at hr ⊢;exact ⟨⟨hr.1.1,uo h cs b o hr.1.2⟩,js h z vs b (o+z) hr.2⟩
  | _=>
   simp only [iD] at hr ⊢;obtain ⟨⟨h0,x,h1,h2,h3⟩,h4⟩:=hr;exact ⟨⟨h0,x,h.F _ _ _ h1,h2,nK h _ x h3⟩,js h z vs b (o+z) h4⟩
theorem zS {g g':Gh} (h:Le g g'): ∀(es:List (AV×AV)) (l:List MapEntry),rG g es l->rG g' es l
 | [],_,hr=>by simp only [rG] at hr ⊢;exact hr
 | (k,v)::es,l,hr=>by
  simp only [rG] at hr ⊢;obtain ⟨e,l',h1,h2,h3,h4⟩:=hr;exact ⟨e,l',h1,nK h k _ h2,nK h v _ h3,zS h es l' h4⟩
end
structure Th (g g':Gh):Prop where
 F: ∀b o v,g.F b o=some v->g'.F b o=some v
 M: ∀b e,g.M b=some e->g'.M b=some e
abbrev qv:=bare.qv
theorem bf (v:AV) (l:List AV):bN (v::l)=(bare v&&bN l):=rfl
mutual
theorem tc {g g':Gh} (h:Th g g'): ∀(v:AV) (x:Value),bare v=true->R g v x->R g' v x
 | .bool _,_,_,hr | .int _ _,_,_,hr | .str _,_,_,hr | .flt _ _,_,_,hr | .nilp,_,_,hr | .aD,_,_,hr | .nilm,_,_,hr | .nilfn,_,_,hr | .nili,_,_,hr | .es,_,_,hr | .opq _,_,_,hr=>by
  simpa only [R] using hr
 | .ip cs,x,_,hr=>by
  simp only [R] at hr ⊢;obtain ⟨h0,b,o,h1,h2⟩:=hr;exact ⟨h0,b,o,h1,ub h cs b o h0 h2⟩
 | .mp id off,x,hb,hr=>by simp [bare] at hb
 | .sl z es p,x,hb,hr=>by
  simp only [R] at hr ⊢;obtain ⟨h0,b,o,cap,h1,h2,h2',h3,h4⟩:=hr;refine ⟨h0,b,o,cap,h1,h2,h2',wJ h z es b o h0 h3, ?_⟩;cases p with
  | shut=>exact h4
  | wide=>exact h4
  | own k=>simp [bare] at hb
 | .ms ..,x,hb,hr=>by simp [bare] at hb
 | .mm id,x,hb,hr=>by simp [bare] at hb
 | .yld _,x,hb,hr=>by simp [bare] at hb
 | .im es,x,hb,hr=>by
  simp only [R] at hr ⊢;obtain ⟨b,ents,clk,h1,h2,h3⟩:=hr;simp only [bare] at hb;exact ⟨b,ents,clk,h.M _ _ h1,h2,Fq h es ents hb h3⟩
 | .fn f a c,x,hb,hr=>by
  simp only [R] at hr ⊢;simp only [bare,aaf] at hb;obtain ⟨a',c',h1,h2,h3⟩:=hr;exact ⟨a',c',h1,sc h a _ hb.1 h2,sc h c _ hb.2 h3⟩
 | .iface t v,x,hb,hr=>by
  simp only [R] at hr ⊢;simp only [bare] at hb;obtain ⟨y,h1,h2⟩:=hr;exact ⟨y,h1,tc h v y hb h2⟩
 | .agg cs,x,hb,hr=>by
  simp only [R] at hr ⊢;simp only [bare] at hb;obtain ⟨y,h1,h2⟩:=hr;exact ⟨y,h1,sc h cs _ hb h2⟩
 | .tup cs,x,hb,hr=>by
  simp only [R] at hr ⊢;simp only [bare] at hb;obtain ⟨y,h1,h2⟩:=hr;exact ⟨y,h1,sc h cs _ hb h2⟩
theorem sc {g g':Gh} (h:Th g g'): ∀(vs:List AV) (xs:List Value),bN vs=true->RL g vs xs->RL g' vs xs
 | [],_,_,hr=>by simp only [RL] at hr ⊢;exact hr
 | v::vs,l,hb,hr=>by
  simp only [RL] at hr ⊢;simp only [bf,aaf] at hb;obtain ⟨x,xs,h1,h2,h3⟩:=hr;exact ⟨x,xs,h1,tc h v x hb.1 h2,sc h vs xs hb.2 h3⟩
theorem ub {g g':Gh} (h:Th g g'): ∀(vs:List AV) (b o:Nat),bN vs=true->oH g vs b o->oH g' vs b o
 | [],_,_,_,_=>by simp only [oH]
 | v::vs,b,o,hb,hr=>by
  simp only [oH] at hr ⊢;simp only [bf,aaf] at hb;obtain ⟨⟨x,h1,h2,h3⟩,h4⟩:=hr;exact ⟨⟨x,h.F _ _ _ h1,h2,tc h v x hb.1 h3⟩,ub h vs b (o+1) hb.2 h4⟩
theorem wJ {g g':Gh} (h:Th g g') (z:Nat): ∀(vs:List AV) (b o:Nat),bN vs=true->iD g z vs b o->iD g' z vs b o
 | [],_,_,_,_=>by simp only [iD]
 | v::vs,b,o,hb,hr=>by
  simp only [bf,aaf] at hb;cases v with
  | agg cs=>
   simp only [iD] at hr ⊢;exact ⟨⟨hr.1.1,ub h cs b o hb.1 hr.1.2⟩,wJ h z vs b (o+z) hb.2 hr.2⟩
  | _=>
   simp only [iD] at hr ⊢;obtain ⟨⟨h0,x,h1,h2,h3⟩,h4⟩:=hr;exact ⟨⟨h0,x,h.F _ _ _ h1,h2,tc h _ x hb.1 h3⟩,wJ h z vs b (o+z) hb.2 h4⟩
theorem Fq {g g':Gh} (h:Th g g'): ∀(es:List (AV×AV)) (l:List MapEntry),qv es=true->rG g es l->rG g' es l
 | [],_,_,hr=>by simp only [rG] at hr ⊢;exact hr
 | (k,v)::es,l,hb,hr=>by
  simp only [rG] at hr ⊢;simp only [qv,bare.qv,aaf] at hb;obtain ⟨e,l',h1,h2,h3,h4⟩:=hr;exact ⟨e,l',h1,tc h k _ hb.1.1 h2,tc h v _ hb.1.2 h3,Fq h es l' hb.2 h4⟩
end
section
variable {g:Gh}
theorem gF:RL g [] []:=by simp [RL]
theorem cA {v:AV} {vs:List AV} {x:Value} {xs:List Value} (h:R g v x) (hs:RL g vs xs):RL g (v::vs) (x::xs):=by
 simp only [RL];exact ⟨x,xs,rfl,h,hs⟩
theorem fp: ∀{vs:List AV} {xs:List Value},RL g vs xs->xs.length=vs.length
 | [],_,h=>by simp only [RL] at h;subst h;rfl
 | _:: _,_,h=>by
  simp only [RL] at h;obtain ⟨x,xs,rfl,_,a⟩:=h;simp [fp a]
theorem gY: ∀{vs us:List AV} {xs ys:List Value},RL g vs xs->RL g us ys->RL g (vs++us) (xs++ys)
 | [],_,_,_,h,k=>by simp only [RL] at h;subst h;exact k
 | _:: _,_,_,_,h,k=>by
  simp only [RL] at h;obtain ⟨x,xs,rfl,h1,a⟩:=h;exact cA h1 (gY a k)
theorem px: ∀(n:Nat) {vs:List AV} {xs:List Value},RL g vs xs->RL g (vs.take n) (xs.take n)
 | 0,_,_,_=>by simp [RL]
 | _+1,[],_,h=>by simp only [RL] at h;subst h;simp [RL]
 | n+1,_:: _,_,h=>by
  simp only [RL] at h;obtain ⟨x,xs,rfl,h1,a⟩:=h;exact cA h1 (px n a)
theorem jJ: ∀(n:Nat) {vs:List AV} {xs:List Value},RL g vs xs->RL g (vs.drop n) (xs.drop n)
 | 0,_,_,h=>h
 | _+1,[],_,h=>by simp only [RL] at h;subst h;simp [RL]
 | n+1,_:: _,_,h=>by
  simp only [RL] at h;obtain ⟨x,xs,rfl,h1,a⟩:=h;exact jJ n a
theorem ON: ∀{vs:List AV} {xs:List Value} {n:Nat} {v:AV},RL g vs xs->fy vs n= .ok v-> ∃x,xs[n]? =some x/\R g v x
 | [],_,_,_,_,e=>by simp [fy] at e
 | _:: _,_,0,_,h,e=>by
  simp only [RL] at h;obtain ⟨x,xs,rfl,h1,a⟩:=h;simp only [fy,aac] at e;subst e;exact ⟨x,rfl,h1⟩
 | _:: _,_,n+1,_,h,e=>by
  simp only [RL] at h;obtain ⟨x,xs,rfl,h1,a⟩:=h;simp only [fy] at e;obtain ⟨y,hy,b⟩:=ON a e;exact ⟨y,by simpa using hy,b⟩
theorem xq: ∀{vs:List AV} {xs:List Value} {n:Nat} {v:AV},RL g vs xs->vs[n]? =some v-> ∃x,xs[n]? =some x/\R g v x
 | [],_,_,_,_,e=>by simp at e
 | _:: _,_,0,_,h,e=>by
  simp only [RL] at h;obtain ⟨x,xs,rfl,h1,a⟩:=h;simp only [ach,aav] at e;subst e;exact ⟨x,rfl,h1⟩
 | _:: _,_,n+1,_,h,e=>by
  simp only [RL] at h;obtain ⟨x,xs,rfl,h1,a⟩:=h;simp only [abX] at e;obtain ⟨y,hy,b⟩:=xq a e;exact ⟨y,by simpa using hy,b⟩
theorem th: ∀{vs us:List AV} {b o:Nat},oH g (vs++us) b o↔oH g vs b o/\oH g us b (o+vs.length)
 | [],us,b,o=>by simp [oH]
 | v::vs,us,b,o=>by
  simp only [aap,oH,th (vs:=vs),aab,and_assoc];rw [show o+1+vs.length=o+(vs.length+1) by omega]
theorem FI {vs:List AV} {b o:Nat} (n:Nat) (h:oH g vs b o) (hn:n<=vs.length):oH g (vs.drop n) b (o+n):=by
 have a:=h;rw [<- abk n vs,th] at a;have:=a.2
 rwa [aat,abR hn] at this
theorem Ce {vs:List AV} {b o:Nat} (n:Nat) (h:oH g vs b o):oH g (vs.drop n) b (o+n):=by
 rcases Nat.le_total n vs.length with k | k
 .exact FI n h k
 .rw [List.drop_eq_nil_of_le k];simp [oH]
theorem lq: ∀{vs:List AV} {b o:Nat},oH g vs b o-> ∃xs:List Value,RL g vs xs/\(∀i x,xs[i]? =some x->g.F b (o+i)=some x/\x.oneCell'=true)
 | [],_,_,_=>⟨[],by simp [RL],by simp⟩
 | v::vs,b,o,h=>by
  simp only [oH] at h;obtain ⟨⟨x,h1,a,c⟩,h4⟩:=h;obtain ⟨xs,k1,d⟩:=lq h4;refine ⟨x::xs,cA c k1, ?_⟩;intro i y hy;cases i with
  | zero=>simp only [ach,aav] at hy;subst hy;exact ⟨h1,a⟩
  | succ i=>
   simp only [abX] at hy;have:=d i y hy
   rwa [show o+1+i=o+(i+1) by omega] at this
theorem fB: ∀{vs:List AV} {xs:List Value} {b o:Nat},RL g vs xs->(∀i x,xs[i]? =some x->g.F b (o+i)=some x/\x.oneCell'=true)->oH g vs b o
 | [],_,_,_,_,_=>by simp [oH]
 | v::vs,l,b,o,h,k=>by
  simp only [RL] at h;obtain ⟨x,xs,rfl,h1,c⟩:=h;simp only [oH];have a:=k 0 x rfl;refine ⟨⟨x,a.1,a.2,h1⟩,fB c fun i y hy=> ?_⟩;have:=k (i+1) y (by simpa using hy)
  rwa [show o+(i+1)=o+1+i by omega] at this
theorem hH (v:AV) (l:List AV):flat (v::l)=v.cells++flat l:=rfl
theorem wX (l m:List AV):flat (l++m)=flat l++flat m:=by
 induction l with
 | nil=>rfl
 | cons v l ih=>simp [hH,ih]
theorem gi {z:Nat}: ∀{vs:List AV} {b o:Nat},iD g z vs b o↔(∀v∈vs,v.cells.length=z)/\oH g (flat vs) b o
 | [],b,o=>by simp [iD,flat,oH]
 | v::vs,b,o=>by
  rw [ml,gi (vs:=vs),hH,th];constructor
  .rintro ⟨h1,a,c,h4⟩;exact ⟨by simpa [h1] using c,a,by rwa [h1]⟩
  .rintro ⟨h1,a,c⟩;have d:=h1 v (by simp);exact ⟨d,a,fun u e=>h1 u (by simp [e]),by rwa [d] at c⟩
theorem gO {z:Nat}: ∀{vs:List AV},(∀v∈vs,v.cells.length=z)->(flat vs).length=vs.length * z
 | [],_=>by simp [flat]
 | v::vs,h=>by
  have h1:=h v (by simp);have a:=gO (vs:=vs) fun u b=>h u (by simp [b]);simp only [hH,aaa,h1,a,aab,Nat.add_mul];omega
theorem CN {z:Nat}: ∀{vs:List AV} (n:Nat),(∀v∈vs,v.cells.length=z)->flat (vs.drop n)=(flat vs).drop (n * z)
 | [],n,_=>by simp [flat]
 | v::vs,0,_=>by simp
 | v::vs,n+1,h=>by
  have h1:=h v (by simp);have a:=CN (vs:=vs) n fun u b=>h u (by simp [b]);simp only [aaE,a,hH,Nat.add_mul,Nat.one_mul];rw [show n * z+z=v.cells.length+n * z by omega,List.drop_append];simp
theorem KJ {z:Nat} {vs:List AV} {b o:Nat} (n:Nat) (h:iD g z vs b o) (hn:n<=vs.length):iD g z (vs.drop n) b (o+n * z):=by
 rw [gi] at h ⊢;refine ⟨fun v a=>h.1 v (List.mem_of_mem_drop a), ?_⟩;rw [CN n h.1];refine FI _ h.2 ?_;rw [gO h.1];exact Nat.mul_le_mul_right _ hn
theorem xJ {z:Nat} {vs us:List AV} {b o:Nat}:iD g z (vs++us) b o↔iD g z vs b o/\iD g z us b (o+vs.length * z):=by
 induction vs generalizing o with
 | nil=>simp [iD]
 | cons v vs ih=>
  rw [aap,ml,ml,ih,aab];rw [show o+z+vs.length * z=o+(vs.length+1) * z by rw [Nat.add_mul];omega];simp [and_assoc]
theorem Mb {z:Nat} {vs:List AV} {b o:Nat} (n:Nat) (h:iD g z vs b o):iD g z (vs.take n) b o:=by
 rw [<- abk n vs,xJ] at h;exact h.1
theorem Az {z:Nat}: ∀{vs:List AV} {b o n:Nat} {v:AV},iD g z vs b o->fy vs n= .ok v->v.cells.length=z/\oH g v.cells b (o+n * z)
 | [],_,_,_,_,_,e=>by simp [fy] at e
 | u::us,b,o,0,v,h,e=>by
  simp only [fy,aac] at e;subst e;rw [ml] at h;exact ⟨h.1,by simpa using h.2.1⟩
 | u::us,b,o,n+1,v,h,e=>by
  simp only [fy] at e;rw [ml] at h;have:=Az h.2.2 e
  rwa [show o+z+n * z=o+(n+1) * z by rw [Nat.add_mul];omega] at this
end
theorem jY (l m:List AV):bN (l++m)=(bN l&&bN m):=by
 induction l with
 | nil=>rfl
 | cons v l ih=>simp only [aap,bf,ih,Bool.and_assoc]
theorem HZ {l:List AV} (n:Nat) (h:bN l=true):bN (l.take n)=true:=by
 rw [<- abk n l,jY,aaf] at h;exact h.1
theorem sR {l:List AV} (n:Nat) (h:bN l=true):bN (l.drop n)=true:=by
 rw [<- abk n l,jY,aaf] at h;exact h.2
theorem wm: ∀{l:List AV} {n:Nat} {v:AV},bN l=true->fy l n= .ok v->bare v=true
 | [],_,_,_,e=>by simp [fy] at e
 | u::us,0,v,h,e=>by
  simp only [fy,aac] at e;subst e;simp only [bf,aaf] at h;exact h.1
 | u::us,n+1,v,h,e=>by
  simp only [fy] at e;simp only [bf,aaf] at h;exact wm h.2 e
theorem xa {v:AV} (h:bare v=true):bN v.cells=true:=by
 cases v <;> first | exact h | simpa [AV.cells,bf,bN,bare.bareAll] using h
theorem yn {g:Gh} {v:AV} {x:Value} (h:R g v x):R g (strip v) x:=by
 cases v with
 | sl z es p=>
  cases p with
  | own k=>
   simp only [strip,R] at h ⊢;obtain ⟨h0,b,o,cap,h1,c,a,d,h4⟩:=h;exact ⟨h0,b,o,cap,h1,c,a,d,trivial⟩
  | _=>exact h
 | _=>exact h
theorem nZ {g:Gh}: ∀{vs:List AV} {xs:List Value},RL g vs xs->RL g (vs.map strip) xs
 | [],_,h=>h
 | v::vs,_,h=>by
  simp only [RL] at h;obtain ⟨x,xs,rfl,h1,a⟩:=h;exact cA (yn h1) (nZ a)
theorem ah {α β:Type} {x:cY α} {f:α->cY β} {b:β}:(x >>= f)= .ok b↔ ∃a,x= .ok a/\f a= .ok b:=by
 cases x <;> simp [bind,Except.bind]
theorem au {α:Type} {a b:α}:(pure a:cY α)= .ok b↔a=b:=by simp [pure,Except.pure]
theorem WY {g:Gh} {v v':AV} {x:Value} (h:R g v x) (e:fit v= .ok v'):R g v' x/\bare v'=true/\v'.cells.length=v.cells.length:=by
 unfold fit at e;simp only at e;split at e
 .rename_i a;simp only [aac] at e;subst e;refine ⟨?_,a, ?_⟩
  .cases v with
   | agg cs=>
    simp only [R] at h ⊢;obtain ⟨ys,h1,b⟩:=h;exact ⟨ys,h1,nZ b⟩
   | _=>exact yn h
  .cases v with
   | agg cs=>simp [AV.cells]
   | sl z es p=>cases p <;> rfl
   | _=>rfl
 .simp at e
theorem Eu {g:Gh}: ∀{vs vs':List AV} {xs:List Value},RL g vs xs->fits vs= .ok vs'->RL g vs' xs/\bN vs'=true
 | [],_,_,h,e=>by
  simp only [fits,aac] at e;subst e;exact ⟨h,rfl⟩
 | v::vs,vs',_,h,e=>by
  simp only [RL] at h;obtain ⟨x,xs,rfl,h1,a⟩:=h;simp only [fits,ah,au] at e;obtain ⟨u,b,us,c,rfl⟩:=e;obtain ⟨k1,d,_⟩:=WY h1 b;obtain ⟨f,i⟩:=Eu a c;exact ⟨cA k1 f,by simp [bf,d,i]⟩
def lD (ops:List Oper):Bool:=
 (ops.zipIdx.all fun (o,j)=>o.after.toList.all fun e=> !Region.binds .any e||e.on.blt j)&&
 (ops.zipIdx.all fun (o,j)=>(ops.zipIdx.take j).all fun (o',i)=>o'.apart ops.toArray o||behind ops (j+1) j i)
def codeOk:Code->Bool
 | .region _ ops draw=> !draw||lD ops.toList
 | .seq a b=>codeOk a&&codeOk b
 | .cond _ a b=>codeOk a&&codeOk b
 | .block _ c=>codeOk c
 | .loop c=>codeOk c
 | .scope c=>codeOk c
 | .rangeFunc _ _ a c=>codeOk a&&codeOk c
 | _=>true
structure yx (g:Gh) (fr:Fr) (tmps:Array Value):Prop where
 size:tmps.size=fr.n
 at': ∀t,(fr.strict=true/\fr.t.get t=none)\/R g (fr.get t) (tmps.getD t Go.undef)
theorem yx.mono {g g':Gh} {fr:Fr} {tmps:Array Value} (h:yx g fr tmps) (le:Le g g'):yx g' fr tmps:=⟨h.size,fun t=>(h.at' t).imp id (nK le _ _)⟩
theorem yx.at {g:Gh} {fr:Fr} {tmps:Array Value} (h:yx g fr tmps) (hs:fr.strict=false) (t:Nat):R g (fr.get t) (tmps.getD t Go.undef):=by
 rcases h.at' t with ⟨h1,_⟩ | h1
 .rw [hs] at h1;cases h1
 .exact h1
def MM (s:Nat) (p:Ex) (r:Loop):Prop:=
 (s=0/\r.state= .ready/\r.pending=none/\p= .normal)\/(s=1/\r.state= .busy)\/(s=2/\r.state= .done/\((p= .ret/\r.pending=some .ret)\/ ∃i,p= .exit i/\r.pending=some (.exit i)))
namespace Tr
variable {α:Type}
theorem get_set_same: ∀(f:Nat) (t:Tr α) (n:Nat) (x:α),n < f->(set f t n x).get n=some x
 | 0,_,_,_,h=>by omega
 | f+1,t,n,x,h=>by
  unfold set;cases hn:n.beq 0 with
  | true=>cases t <;> simp [get,hn]
  | false=>
   have h0:n≠0:=by intro e;subst e;simp at hn
   cases hm:(n % 2).beq 1 with
   | true=>cases t <;> simp [get,hn,hm,get_set_same f _ (n / 2) x (by omega)]
   | false=>cases t <;> simp [get,hn,hm,get_set_same f _ (n / 2 - 1) x (by omega)]
theorem tX (n:Nat):(Tr.leaf:Tr α).get n=none:=by unfold get;rfl
theorem mG: ∀(f:Nat) (t:Tr α) (n m:Nat) (x:α),n≠m->(set f t n x).get m=t.get m
 | 0,_,_,_,_,_=>rfl
 | f+1,t,n,m,x,h=>by
  unfold set;cases hn:n.beq 0 with
  | true=>
   have c:n=0:=aan hn;have hm:m.beq 0=false:=by
    cases hm:m.beq 0 with
    | false=>rfl
    | true=>exact absurd (c.trans (aan hm).symm) h
   cases t with
   | leaf=>cases g:(m % 2).beq 1 <;> simp [get,hm,g]
   | node v l r=>cases g:(m % 2).beq 1 <;> simp [get,hm,g]
  | false=>
   have c:n≠0:=by intro e;subst e;simp at hn
   cases hm:m.beq 0 with
   | true=>
    cases d:(n % 2).beq 1 with
    | true=>cases t <;> simp [get,hm]
    | false=>cases t <;> simp [get,hm]
   | false=>
    have k:m≠0:=by intro e;subst e;simp at hm
    cases d:(n % 2).beq 1 with
    | true=>
     have i:=aan d;cases b:(m % 2).beq 1 with
     | true=>
      have j:=aan b;have a:n / 2≠m / 2:=by omega
      cases t with
      | leaf=>simp [get,hm,b,mG f _ _ _ x a]
      | node v l r=>simp [get,hm,b,mG f _ _ _ x a]
     | false=>cases t <;> simp [get,hm,b]
    | false=>
     have i:n % 2≠1:=by intro e;rw [e] at d;simp at d
     cases b:(m % 2).beq 1 with
     | true=>cases t <;> simp [get,hm,b]
     | false=>
      have j:m % 2≠1:=by intro e;rw [e] at b;simp at b
      have a:n / 2 - 1≠m / 2 - 1:=by omega
      cases t with
      | leaf=>simp [get,hm,b,mG f _ _ _ x a]
      | node v l r=>simp [get,hm,b,mG f _ _ _ x a]
theorem la (t:Tr α) (n m:Nat) (x:α):(t.put n x).get m=if n=m then some x else t.get m:=by
 unfold put;by_cases h:n=m
 .subst h;rw [if_pos rfl];exact get_set_same _ _ _ _ (by omega)
 .rw [if_neg h];exact mG _ _ _ _ _ h
theorem set_set: ∀(f:Nat) (t:Tr α) (n:Nat) (x y:α),set f (set f t n x) n y=set f t n y
 | 0,_,_,_,_=>rfl
 | f+1,t,n,x,y=>by
  cases hn:n.beq 0 with
  | true=>cases t <;> simp [set,hn]
  | false=>
   cases hm:(n % 2).beq 1 with
   | true=>cases t <;> simp [set,hn,hm,set_set f]
   | false=>cases t <;> simp [set,hn,hm,set_set f]
end Tr
theorem cS {a b:Nat}:a.blt b=true↔a < b:=by simp [Nat.blt];omega
theorem eG {a b:Nat}:a.blt b=false↔b<=a:=by
 cases h:a.blt b with
 | true=>rw [cS] at h;simp;omega
 | false=>simp;exact Nat.le_of_not_lt fun k=>by rw [cS.2 k] at h;cases h
theorem St.cZ {s:St} {i:Nat} {o:Obj}:s.get i= .ok o↔i < s.h/\s.objs.get i=some o:=by
 unfold St.get;cases h:i.blt s.h with
 | true=>
  rw [cS] at h;cases k:s.objs.get i <;> simp [h]
 | false=>rw [eG] at h;simp;omega
theorem St.bx {s:St} {i:Nat} {o:Obj} (h:i < s.h):(s.put i o).get i= .ok o:=by
 rw [St.cZ];exact ⟨h,by simp [St.put,Tr.la]⟩
theorem St.bD {s:St} {i j:Nat} {o:Obj} (h:i≠j):(s.put i o).get j=s.get j:=by
 simp [St.put,St.get,Tr.la,h]
theorem St.gz {s:St} {j:Nat} {o o':Obj}:(s.new o).2.get j= .ok o'↔(j=s.h/\o'=o)\/(j < s.h/\s.get j= .ok o'):=by
 rw [St.cZ,St.cZ];simp only [St.new,Tr.la];by_cases h:s.h=j
 .subst h;simp;constructor <;> intro h <;> exact h.symm
 .rw [if_neg h];constructor
  .rintro ⟨h1,a⟩;exact .inr ⟨by omega,by omega,a⟩
  .rintro (⟨h1,_⟩ | ⟨h1,_,b⟩)
   .exact absurd h1.symm h
   .exact ⟨by omega,b⟩
def Ae (d:TypeDesc):U->Prop
 | .bool=>d= .bool
 | .int k=>d= .int k
 | .str=>d= .string
 | .flt k=>d= .float k
 | .ptr e=>d= .pointer e
 | .slice e=>d= .slice e
 | .arr n e=>d= .array n e
 | .map k e=>d= .map k e
 | .struct fs=> ∃fields,d= .struct fields/\fields.toList.map (fun f=>(f.offset,f.type))=fs
 | .func=> ∃a b c,d= .func a b c
 | .iface bare=> ∃ms,d= .interface ms/\(bare=true->ms= #[])
 | .uptr=>d= .unsafePointer
 | .other=>True
structure jX (P:Program) (t:Td) (i:TI):Prop where
 und: ∃d,P.underlying t=some d/\Ae d i.und/\(i.agg=match d with | .struct _ | .array .. =>true | _=>false)
 cmp:i.cmp=true->P.eqGuardType P.depth t=false/\P.stoodInHeld t=false/\ ∀fields,P.underlying t=some (.struct fields)-> ∀f∈fields.toList,f.name≠ "_"
 info: ∃f,P.info? t=some f/\f.size=i.size/\f.bytes=i.bytes/\ ∃z,f.zero=some z/\z.cells.size=i.size/\(i.agg=false->z.oneCell'=true)/\(∀v∈z.cells,v.oneCell'=true)/\(i.agg=true-> ∃cs,z= .agg cs)/\ ∀g,RL g i.zero z.cells.toList
def yp (P:Program) (T:TT):Prop:= ∀t i,T.get t=some i->jX P t i
theorem cy {T:TT} {t:Td} {i:TI}:ti T t= .ok i↔T.get t=some i:=by
 unfold ti;cases T.get t <;> simp
theorem cell_of {w:World} {b o:Nat} {vs:Array Value} {ty:Td} {fz:Nat×Nat} (h:w.heap[b]? =some (.cells vs ty fz)):
  w.cell? ⟨b,o,none⟩=vs[o]? :=by
 simp [World.cell?,h]
theorem lb {w:World} {b o:Nat} {vs rest:Array Value} {ty:Td} {fz:Nat×Nat} {x:Value} (h:w.heap[b]? =some (.cells (vs++rest) ty fz)) (hx:vs[o]? =some x):
  w.cell? ⟨b,o,none⟩=some x:=by
 rw [cell_of h];have a:o < vs.size:=by
  rcases Nat.lt_or_ge o vs.size with q | q
  .exact q
  .rw [Array.getElem?_eq_none q] at hx;cases hx
 rw [Array.getElem?_append_left a];exact hx
theorem og {w:World} {b o:Nat} {v:Value} (h:w.cell? ⟨b,o,none⟩=some v): ∃vs ty fz,w.heap[b]? =some (.cells vs ty fz)/\vs[o]? =some v:=by
 unfold World.cell? at h;split at h
 .rename_i c ty fz a;exact ⟨c,ty,fz,a,by simpa using h⟩
 .simp at h
def At (g:Gh) (id:Nat):Obj->Nat->Prop
 | .cells _ _,b=>g.E id=some (.cw b)
 | .map _,b=>g.E id=some (.cw b)
 | .sit ..,b=>g.E id=some (.cw b)
 | .tok n _,b=> ∃loc cap,g.E id=some (.tok loc)/\loc n=some (b,cap)
 | .dead,_=>False
 | .grow n _ _ _,b=> ∃loc cap,g.E id=some (.tok loc)/\loc n=some (b,cap)
 | .AF,_=>False
 | .row n _ _ _,b=> ∃loc cap,g.E id=some (.tok loc)/\loc n=some (b,cap)
 | .loop ..,b=>g.E id=some (.cw b)
def Holds (T:TT) (g:Gh) (w:World) (id:Nat):Obj->Prop
 | .cells ty cs=> ∃b vs rest d,g.E id=some (.cw b)/\w.heap[b]? =some (.cells (vs++rest) d (0,0))/\RL g cs vs.toList/\(∀v∈vs.toList,v.oneCell'=true)/\(∀o,g.F b o=none)/\(ty < 1000000->rest= #[]/\d=ty)
 | .tok n e=> ∃loc b cap i vs fz,g.E id=some (.tok loc)/\loc n=some (b,cap)/\(∀m,n < m->loc m=none)/\T.get e=some i/\1<=i.size/\n<=cap/\
  w.heap[b]? =some (.cells vs e fz)/\vs.size=cap * i.size/\fz.2<=n * i.size/\ ∀o,n * i.size<=o->g.F b o=none
 | .map es=> ∃b ents clk,g.E id=some (.cw b)/\w.heap[b]? =some (.map ents clk)/\rG g es ents.toList/\g.M b=none
 | .sit s pos=> ∃b,g.E id=some (.cw b)/\w.heap[b]? =some (.stringIter ⟨s.toArray⟩ pos)
 | .dead=>True
 | .grow n e z es=> ∃loc b cap i vs fz,g.E id=some (.tok loc)/\loc n=some (b,cap)/\(∀m,n < m->loc m=none)/\T.get e=some i/\1<=i.size/\n<=cap/\
  w.heap[b]? =some (.cells vs e fz)/\vs.size=cap * i.size/\fz.2<=es.length * i.size/\(∀o,es.length * i.size<=o->g.F b o=none)/\z=i.size/\es.length<=n/\bN es=true/\iD g z es b 0
 | .AF=>g.E id=none
 | .row n e z cs=> ∃loc b cap i pre rest,g.E id=some (.tok loc)/\loc n=some (b,cap)/\(∀m,n < m->loc m=none)/\T.get e=some i/\1<=i.size/\n<=cap/\
  w.heap[b]? =some (.cells (pre++rest) e (0,0))/\(pre++rest).size=cap * i.size/\(∀o,g.F b o=none)/\z=i.size/\RL g cs pre.toList/\(∀v∈pre.toList,v.oneCell'=true)/\cs.length=n * i.size
 | .loop _ ps a c fr s p=> ∃b r,g.E id=some (.cw b)/\w.heap[b]? =some (.loop r)/\yx g fr r.tmps/\r.params.toList=ps/\r.assign=a/\r.body=c/\(codeOk a=true/\codeOk c=true/\fr.strict=true)/\MM s p r
structure Inv (T:TT) (A:Nat->Prop) (g:Gh) (st:St) (w:World):Prop where
 F: ∀b o v,g.F b o=some v->w.cell? ⟨b,o,none⟩=some v
 M: ∀b ents clk,g.M b=some (ents,clk)->w.heap[b]? =some (.map ents.toArray clk)
 E: ∀id,st.h<=id->g.E id=none
 H: ∀id o,st.get id= .ok o->Holds T g w id o
 D: ∀id id' o o' b,st.get id= .ok o->st.get id'= .ok o'->At g id o b->At g id' o' b->id=id'
 own: ∀id o b,st.get id= .ok o->At g id o b->st.ro<=id->A b
 up: ∀b,w.heap.size<=b->A b
structure Kp (A:Nat->Prop) (g:Gh) (w:World) (g':Gh) (w':World):Prop where
 size:w.heap.size<=w'.heap.size
 heap: ∀b,¬ A b->w'.heap[b]? =w.heap[b]?
 F: ∀b,¬ A b-> ∀o,g'.F b o=g.F b o
 M: ∀b,¬ A b->g'.M b=g.M b
 le:Le g g'
 rest:w'.os=w.os/\w'.tape=w.tape/\w'.output=w.output
theorem Kp.refl (A:Nat->Prop) (g:Gh) (w:World):Kp A g w g w:=⟨aah _,fun _ _=>rfl,fun _ _ _=>rfl,fun _ _=>rfl,Le.refl g,rfl,rfl,rfl⟩
theorem Kp.trans {A:Nat->Prop} {g g' c:Gh} {w w' d:World} (h:Kp A g w g' w') (k:Kp A g' w' c d):Kp A g w c d:=
 ⟨aaL h.size k.size,fun b a=>(k.heap b a).trans (h.heap b a),fun b a o=>(k.F b a o).trans (h.F b a o),fun b a=>(k.M b a).trans (h.M b a),h.le.trans k.le,k.rest.1.trans h.rest.1,k.rest.2.1.trans h.rest.2.1,k.rest.2.2.trans h.rest.2.2⟩
theorem np {T:TT} {g:Gh} {w w':World} {id:Nat} {o:Obj} (h:Holds T g w id o) (j: ∀b,At g id o b->w'.heap[b]? =w.heap[b]?):Holds T g w' id o:=by
 cases o with
 | cells ty cs=>
  obtain ⟨b,vs,rest,t,h1,d,f⟩:=h;exact ⟨b,vs,rest,t,h1,by rw [j b h1];exact d,f⟩
 | tok n e=>
  obtain ⟨loc,b,cap,i,vs,fz,h1,d,f,h4,k,l,m,q⟩:=h;exact ⟨loc,b,cap,i,vs,fz,h1,d,f,h4,k,l,by rw [j b ⟨loc,cap,h1,d⟩];exact m,q⟩
 | map es=>
  obtain ⟨b,ents,clk,h1,d,f⟩:=h;exact ⟨b,ents,clk,h1,by rw [j b h1];exact d,f⟩
 | sit s pos=>
  obtain ⟨b,h1,d⟩:=h;exact ⟨b,h1,by rw [j b h1];exact d⟩
 | dead=>trivial
 | grow n e z es=>
  obtain ⟨loc,b,cap,i,vs,fz,h1,d,f,h4,k,l,m,q⟩:=h;exact ⟨loc,b,cap,i,vs,fz,h1,d,f,h4,k,l,by rw [j b ⟨loc,cap,h1,d⟩];exact m,q⟩
 | AF=>exact h
 | row n e z cs=>
  obtain ⟨loc,b,cap,i,pre,rest,h1,d,f,h4,k,l,m,q⟩:=h;exact ⟨loc,b,cap,i,pre,rest,h1,d,f,h4,k,l,by rw [j b ⟨loc,cap,h1,d⟩];exact m,q⟩
 | loop imm ps a c fr s p=>
  obtain ⟨b,r,h1,d,f⟩:=h;exact ⟨b,r,h1,by rw [j b h1];exact d,f⟩
theorem GX {T:TT} {g:Gh} {w:World} {id b:Nat} {o:Obj} (h:Holds T g w id o) (f:At g id o b):b < w.heap.size:=by
 have key: ∀x:Go.Obj,w.heap[b]? =some x->b < w.heap.size:=fun x hx=>by
  rcases Nat.lt_or_ge b w.heap.size with h | h
  .exact h
  .simp [Array.getElem?_eq_none h] at hx
 cases o with
 | cells ty cs=>
  obtain ⟨b',vs,rest,A,h1,d,m⟩:=h;have:b'=b:=by have:=h1.symm.trans f;simpa using this
  subst this;exact key _ d
 | tok n e=>
  obtain ⟨loc,b',cap,i,vs,fz,h1,d,m,h4,u,v,q,y⟩:=h;obtain ⟨loc',j,k1,t⟩:=f;have k:=h1.symm.trans k1;simp only [aav,tz.tok.injEq] at k;subst k;have l:=d.symm.trans t;simp only [aav,aag] at l;obtain ⟨rfl,rfl⟩:=l;exact key _ q
 | map es=>
  obtain ⟨b',ents,clk,h1,d,m⟩:=h;have:b'=b:=by have:=h1.symm.trans f;simpa using this
  subst this;exact key _ d
 | sit s pos=>
  obtain ⟨b',h1,d⟩:=h;have:b'=b:=by have:=h1.symm.trans f;simpa using this
  subst this;exact key _ d
 | dead=>exact f.elim
 | grow n e z es=>
  obtain ⟨loc,b',cap,i,vs,fz,h1,d,m,h4,u,v,q,y⟩:=h;obtain ⟨loc',j,k1,t⟩:=f;have k:=h1.symm.trans k1;simp only [aav,tz.tok.injEq] at k;subst k;have l:=d.symm.trans t;simp only [aav,aag] at l;obtain ⟨rfl,rfl⟩:=l;exact key _ q
 | AF=>exact f.elim
 | row n e z cs=>
  obtain ⟨loc,b',cap,i,pre,rest,h1,d,m,h4,u,v,q,y⟩:=h;obtain ⟨loc',j,k1,t⟩:=f;have k:=h1.symm.trans k1;simp only [aav,tz.tok.injEq] at k;subst k;have l:=d.symm.trans t;simp only [aav,aag] at l;obtain ⟨rfl,rfl⟩:=l;exact key _ q
 | loop imm ps a c fr s p=>
  obtain ⟨b',r,h1,d,m⟩:=h;have:b'=b:=by have:=h1.symm.trans f;simpa using this
  subst this;exact key _ d
theorem World.iS {w:World} {o:Go.Obj} {b:Nat} (h:b < w.heap.size):(w.alloc o).heap[b]? =w.heap[b]? :=by
 show (w.heap.push o)[b]? = _;rw [Array.getElem?_push,if_neg (by omega)]
theorem World.heap_alloc_new {w:World} {o:Go.Obj}:(w.alloc o).heap[w.heap.size]? =some o:=by
 show (w.heap.push o)[w.heap.size]? = _;rw [Array.getElem?_push,if_pos rfl]
theorem lt_of_heap {w:World} {b:Nat} {x:Go.Obj} (hx:w.heap[b]? =some x):b < w.heap.size:=by
 rcases Nat.lt_or_ge b w.heap.size with h | h
 .exact h
 .simp [Array.getElem?_eq_none h] at hx
theorem tv {w w':World} {b:Nat} (h:w'.heap[b]? =w.heap[b]?) (o:Nat):w'.cell? ⟨b,o,none⟩=w.cell? ⟨b,o,none⟩:=by
 simp [World.cell?,h]
theorem Inv.world {T:TT} {A:Nat->Prop} {g:Gh} {st:St} {w w':World} (h:Inv T A g st w) (hs:w.heap.size<=w'.heap.size)
  (a: ∀b,b < w.heap.size->w'.heap[b]? =w.heap[b]?):Inv T A g st w' where
 F b o v d:=by
  have h1:=h.F b o v d;obtain ⟨vs,ty,fz,e,_⟩:=og h1;rw [tv (a b (lt_of_heap e))];exact h1
 M b ents clk hm:=by rw [a b (lt_of_heap (h.M b ents clk hm))];exact h.M b ents clk hm
 E:=h.E
 H id o ho:=np (h.H id o ho) fun b c=>a b (GX (h.H id o ho) c)
 D:=h.D
 own:=h.own
 up b c:=h.up b (aaL hs c)
theorem Inv.alloc {T:TT} {A:Nat->Prop} {g:Gh} {st:St} {w:World} (o:Go.Obj) (h:Inv T A g st w):Inv T A g st (w.alloc o):=
 h.world (by simp) fun _ a=>World.iS a
theorem Inv.drew {T:TT} {A:Nat->Prop} {g:Gh} {st:St} {w:World} (h:Inv T A g st w):Inv T A g st w.drew:=
 h.world (aah _) fun _ _=>rfl
theorem Kp.alloc {T:TT} {A:Nat->Prop} {g:Gh} {st:St} {w:World} (o:Go.Obj) (h:Inv T A g st w):Kp A g w g (w.alloc o):=
 ⟨by simp,fun b a=>World.iS (Nat.lt_of_not_le fun k=>a (h.up b k)),fun _ _ _=>rfl,fun _ _=>rfl,Le.refl g,rfl,rfl,rfl⟩
theorem Kp.drew (A:Nat->Prop) (g:Gh) (w:World):Kp A g w g w.drew:=⟨aah _,fun _ _=>rfl,fun _ _ _=>rfl,fun _ _=>rfl,Le.refl g,rfl,rfl,rfl⟩
theorem mz {T:TT} {g g':Gh} {w:World} {id:Nat} {o:Obj} (h:Holds T g w id o) (le:Le g g') (hE:g'.E id=g.E id)
  (v: ∀b,At g id o b->(∀k,g'.F b k=g.F b k)/\g'.M b=g.M b):Holds T g' w id o:=by
 cases o with
 | cells ty cs=>
  obtain ⟨b,vs,rest,B,h1,d,f,h4,l,m⟩:=h;exact ⟨b,vs,rest,B,hE.trans h1,d,gj le _ _ f,h4,fun k=>by rw [(v b h1).1 k];exact l k,m⟩
 | tok n e=>
  obtain ⟨loc,b,cap,i,vs,fz,h1,d,f,h4,l,m,x,y,A,j⟩:=h;exact ⟨loc,b,cap,i,vs,fz,hE.trans h1,d,f,h4,l,m,x,y,A,fun k C=>by rw [(v b ⟨loc,cap,h1,d⟩).1 k];exact j k C⟩
 | map es=>
  obtain ⟨b,ents,clk,h1,d,f,h4⟩:=h;exact ⟨b,ents,clk,hE.trans h1,d,zS le _ _ f,by rw [(v b h1).2];exact h4⟩
 | sit s pos=>
  obtain ⟨b,h1,d⟩:=h;exact ⟨b,hE.trans h1,d⟩
 | dead=>trivial
 | grow n e z es=>
  obtain ⟨loc,b,cap,i,vs,fz,h1,d,f,h4,l,m,x,y,A,j,q,t,u,D⟩:=h;exact ⟨loc,b,cap,i,vs,fz,hE.trans h1,d,f,h4,l,m,x,y,A,fun k C=>by rw [(v b ⟨loc,cap,h1,d⟩).1 k];exact j k C,q,t,u,js le _ _ _ _ D⟩
 | AF=>exact hE.trans h
 | row n e z cs=>
  obtain ⟨loc,b,cap,i,pre,rest,h1,d,f,h4,l,m,x,y,A,j,q,t,u⟩:=h;exact ⟨loc,b,cap,i,pre,rest,hE.trans h1,d,f,h4,l,m,x,y,fun k=>by rw [(v b ⟨loc,cap,h1,d⟩).1 k];exact A k,j,gj le _ _ q,t,u⟩
 | loop imm ps a c fr s p=>
  obtain ⟨b,r,h1,d,f,h4⟩:=h;exact ⟨b,r,hE.trans h1,d,f.mono le,h4⟩
theorem uu {g g':Gh} {id:Nat} {o:Obj} {b:Nat} (hE:g'.E id=g.E id):At g' id o b↔At g id o b:=by
 cases o <;> simp [At,hE]
def Gh.dP (g:Gh) (id:Nat) (e:tz):Gh:={g with E:=fun j=>if j=id then some e else g.E j}
theorem Gh.bJ (g:Gh) (id:Nat) (e:tz):(g.dP id e).E id=some e:=by simp [Gh.dP]
theorem Gh.dM (g:Gh) (e:tz) {id j:Nat} (h:j≠id):(g.dP id e).E j=g.E j:=by simp [Gh.dP,h]
theorem Le.dP {g:Gh} {id:Nat} {e:tz} (h:g.E id=none):Le g (g.dP id e):=by
 refine ⟨fun _ _ _ x=>x,fun _ _ x=>x,fun j b x=> ?_,fun j loc x=>⟨loc, ?_,fun _ _ y=>y⟩⟩
 .have:j≠id:=fun e=>by subst e;rw [h] at x;cases x
  rw [Gh.dM _ _ this];exact x
 .have:j≠id:=fun e=>by subst e;rw [h] at x;cases x
  rw [Gh.dM _ _ this];exact x
theorem Kp.dP {A:Nat->Prop} {g:Gh} {w:World} {id:Nat} {e:tz} (h:g.E id=none):Kp A g w (g.dP id e) w:=
 ⟨aah _,fun _ _=>rfl,fun _ _ _=>rfl,fun _ _=>rfl,Le.dP h,rfl,rfl,rfl⟩
theorem Inv.name {T:TT} {A:Nat->Prop} {g:Gh} {st:St} {w:World} (h:Inv T A g st w) (o:Obj) (e:tz) (b:Nat)
  (l: ∀id o',st.get id= .ok o'->¬ At g id o' b) (hA:A b) (c: ∀b',At (g.dP st.h e) st.h o b'->b'=b)
  (ho:Holds T (g.dP st.h e) w st.h o):Inv T A (g.dP st.h e) (st.new o).2 w where
 F:=h.F
 M:=h.M
 E id j:=by
  have m:st.h+1<=id:=j;rw [Gh.dM _ _ (by omega)];exact h.E id (by omega)
 H id o' k:=by
  rcases St.gz.1 k with ⟨rfl,rfl⟩ | ⟨p,d⟩
  .exact ho
  .exact mz (h.H id o' d) (Le.dP (h.E _ (aah _))) (Gh.dM _ _ (by omega)) fun _ _=>⟨fun _=>rfl,rfl⟩
 D id id' q r b' h1 s a f:=by
  rcases St.gz.1 h1 with ⟨rfl,rfl⟩ | ⟨l1,i⟩ <;> rcases St.gz.1 s with ⟨rfl,rfl⟩ | ⟨l2,n⟩
  .rfl
  .rw [uu (Gh.dM _ _ (by omega))] at f;have:=c b' a;subst this;exact absurd f (l _ _ n)
  .rw [uu (Gh.dM _ _ (by omega))] at a;have:=c b' f;subst this;exact absurd a (l _ _ i)
  .rw [uu (Gh.dM _ _ (by omega))] at a f;exact h.D id id' q r b' i n a f
 own id o' b' h1 a t:=by
  rcases St.gz.1 h1 with ⟨rfl,rfl⟩ | ⟨l1,i⟩
  .rw [c b' a];exact hA
  .rw [uu (Gh.dM _ _ (by omega))] at a;exact h.own id o' b' i a t
 up:=h.up
def Gh.eR (g:Gh) (b lo:Nat) (vs:List Value):Gh:={g with F:=fun b' o=>if b'=b/\lo<=o/\o < lo+vs.length then vs[o - lo]? else g.F b' o}
theorem Gh.rv (g:Gh) (b lo:Nat) (vs:List Value) (i:Nat) (v:Value) (h:vs[i]? =some v):(g.eR b lo vs).F b (lo+i)=some v:=by
 have hi:i < vs.length:=by
  rcases Nat.lt_or_ge i vs.length with k | k
  .exact k
  .simp [aaX k] at h
 simp only [Gh.eR];rw [if_pos ⟨trivial,by omega,by omega⟩,show lo+i - lo=i by omega];exact h
theorem Gh.fM (g:Gh) (b lo:Nat) (vs:List Value) {b' o:Nat} (h:b'≠b\/o < lo\/lo+vs.length<=o):(g.eR b lo vs).F b' o=g.F b' o:=by
 simp only [Gh.eR];rw [if_neg (by omega)]
theorem Le.eR {g:Gh} {b lo:Nat} {vs:List Value} (h: ∀o,lo<=o->o < lo+vs.length->g.F b o=none):Le g (g.eR b lo vs):=by
 refine ⟨fun b' o v a=> ?_,fun _ _ x=>x,fun _ _ x=>x,fun _ loc x=>⟨loc,x,fun _ _ y=>y⟩⟩;by_cases c:b'=b/\lo<=o/\o < lo+vs.length
 .obtain ⟨rfl,h1,d⟩:=c;rw [h o h1 d] at a;cases a
 .rw [Gh.fM _ _ _ _ (by omega)];exact a
theorem Inv.eR {T:TT} {A:Nat->Prop} {g:Gh} {st:St} {w:World} (h:Inv T A g st w) (b lo:Nat) (vs:List Value)
  (a: ∀o,lo<=o->o < lo+vs.length->g.F b o=none) (c: ∀i v,vs[i]? =some v->w.cell? ⟨b,lo+i,none⟩=some v)
  (d: ∀id o,st.get id= .ok o->¬ At g id o b):Inv T A (g.eR b lo vs) st w where
 F b' o v f:=by
  by_cases k:b'=b/\lo<=o/\o < lo+vs.length
  .obtain ⟨rfl,h1,l⟩:=k;simp only [Gh.eR] at f;rw [if_pos ⟨trivial,h1,l⟩] at f;have:=c _ _ f
   rwa [show lo+(o - lo)=o by omega] at this
  .rw [Gh.fM _ _ _ _ (by omega)] at f;exact h.F b' o v f
 M:=h.M
 E:=h.E
 H id o ho:=mz (h.H id o ho) (Le.eR a) rfl fun _ j=>⟨fun _=>Gh.fM _ _ _ _ (.inl fun e=>d id o ho (e ▸ j)),rfl⟩
 D:=h.D
 own:=h.own
 up:=h.up
theorem Kp.eR {A:Nat->Prop} {g:Gh} {w:World} {b lo:Nat} {vs:List Value} (hA:A b) (h: ∀o,lo<=o->o < lo+vs.length->g.F b o=none):Kp A g w (g.eR b lo vs) w:=
 ⟨aah _,fun _ _=>rfl,fun _ a _=>Gh.fM _ _ _ _ (.inl fun e=>a (e ▸ hA)),fun _ _=>rfl,Le.eR h,rfl,rfl,rfl⟩
theorem Inv.write {T:TT} {A:Nat->Prop} {g:Gh} {st:St} {w w':World} (h:Inv T A g st w) {id b:Nat} {o:Obj} (a:st.get id= .ok o) (l:At g id o b) (o':Obj)
  (hs:w'.heap.size=w.heap.size) (r: ∀b',b'≠b->w'.heap[b']? =w.heap[b']?)
  (B: ∀k v,g.F b k=some v->w'.cell? ⟨b,k,none⟩=some v) (C:g.M b=none)
  (f: ∀b',At g id o' b'->b'=b) (s:Holds T g w' id o'):Inv T A g (st.put id o') w' where
 F b' k v x:=by
  by_cases m:b'=b
  .subst m;exact B k v x
  .rw [tv (r b' m)];exact h.F b' k v x
 M b' ents clk hm:=by
  by_cases m:b'=b
  .subst m;rw [C] at hm;cases hm
  .rw [r b' m];exact h.M b' ents clk hm
 E:=h.E
 H j u d:=by
  by_cases t:j=id
  .subst t;have c:=(St.cZ.1 a).1;rw [St.bx c] at d;cases d;exact s
  .rw [St.bD (fun e=>t e.symm)] at d;refine np (h.H j u d) fun b' n=>r b' fun e=> ?_;subst e;exact t (h.D j id u o b' d a n l)
 D i j u v b' h1 G p I:=by
  have c:=(St.cZ.1 a).1;have key: ∀i u,(st.put id o').get i= .ok u->At g i u b'-> ∃q,st.get i= .ok q/\At g i q b':=fun i u d y=>by
   by_cases hi:i=id
   .subst hi;rw [St.bx c] at d;cases d;have:=f b' y;subst this;exact ⟨o,a,l⟩
   .rw [St.bD (fun e=>hi e.symm)] at d;exact ⟨u,d,y⟩
  obtain ⟨q,k1,J⟩:=key i u h1 p;obtain ⟨v',K,L⟩:=key j v G I;exact h.D i j q v' b' k1 K J L
 own i u b' h1 p z:=by
  have c:=(St.cZ.1 a).1;by_cases hi:i=id
  .subst hi;rw [St.bx c] at h1;cases h1;have:=f b' p;subst this;exact h.own i o b' a l z
  .rw [St.bD (fun e=>hi e.symm)] at h1;exact h.own i u b' h1 p z
 up b' n:=h.up b' (by omega)
theorem Kp.write {A:Nat->Prop} {g:Gh} {w w':World} {b:Nat} (hA:A b) (hs:w'.heap.size=w.heap.size) (c: ∀b',b'≠b->w'.heap[b']? =w.heap[b']?) (ho:w'.os=w.os/\w'.tape=w.tape/\w'.output=w.output:=by exact ⟨rfl,rfl,rfl⟩):Kp A g w g w':=
 ⟨by omega,fun b' a=>c b' fun e=>a (e ▸ hA),fun _ _ _=>rfl,fun _ _=>rfl,Le.refl g,ho⟩
end Go.VM
