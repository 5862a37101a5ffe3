/-
  (A part of the proof: Rel, Inv.)
-/
import Derived.Test.YtgecmbapkplklaaGreatDoorVmAA
import Derived.Test.YtgecmbapkplklaaGreatDoorVmAB
import Derived.Calls
import Derived.Laws.World
import Derived.Laws.Sem
import Derived.Orders
set_option linter.unusedSimpArgs false
namespace Go.VM
inductive nt where
 | gf (b:Nat)
 | tok (loc:Nat->Option (Nat×Nat))
structure Gh where
 F:Nat->Nat->Option Value
 M:Nat->Option (List MapEntry×Nat)
 E:Nat->Option nt
def tY (g:Gh) (p:Perm) (n b o cap:Nat):Prop:=
 match p with
 | .shut=>cap=n
 | .wide=>True
 | .own k=>o=0/\ ∃loc,g.E k=some (.tok loc)/\loc n=some (b,cap)
mutual
def R (g:Gh):AV->Value->Prop
 | .bool b,x=>x= .bool b
 | .int k n,x=>x= .int k n
 | .str s,x=>x= .string ⟨s.toArray⟩
 | .flt k b,x=>x= .float k b
 | .nilp,x=>x= .pointer none
 | .ip cs,x=>bL cs=true/\ ∃b o,x= .pointer (some ⟨b,o,none⟩)/\nI g cs b o
 | .mp id off,x=> ∃b,g.E id=some (.gf b)/\x= .pointer (some ⟨b,off,none⟩)
 | .ay,x=>x= .slice none 0 0
 | .sl z es p,x=>bL es=true/\ ∃b o cap,x= .slice (some ⟨b,o,none⟩) es.length cap/\es.length<=cap/\1<=z/\gS g z es b o/\tY g p es.length b o cap
 | .ms id off z len cap,x=> ∃b o,g.E id=some (.gf b)/\ ∃c,x= .slice (some ⟨b,o,none⟩) len c/\len<=c/\1<=z/\(c≠0->o=off)/\(cap=c\/cap=0)
 | .nilm,x=>x= .map none
 | .mm id,x=> ∃b,g.E id=some (.gf b)/\x= .map (some b)
 | .im es,x=> ∃b ents clk,g.M b=some (ents,clk)/\x= .map (some b)/\rb g es ents
 | .fn f a c,x=> ∃a' c',x= .func f a' c'/\RL g a a'.toList/\RL g c c'.toList
 | .nilfn,x=>x= .nilFunc
 | .iface t v,x=> ∃y,x= .iface t y/\R g v y
 | .nili,x=>x= .nilIface
 | .agg cs,x=> ∃ys,x= .agg ys/\RL g cs ys.toList
 | .tup vs,x=> ∃ys,x= .tuple ys/\RL g vs ys.toList
 | .gs k z n,x=> ∃loc b cap,g.E k=some (.tok loc)/\loc n=some (b,cap)/\x= .slice (some ⟨b,0,none⟩) n cap/\n<=cap/\1<=z
 | .gp k n off,x=> ∃loc b cap,g.E k=some (.tok loc)/\loc n=some (b,cap)/\x= .pointer (some ⟨b,off,none⟩)
 | .es,x=> ∃a,x= .slice (some a) 0 0
 | .opq i,x=>(i=true/\(x= .nilIface\/ ∃t y,x= .iface t y))\/(i=false/\ ∃a,x= .pointer a)
 | .yld k,x=> ∃l,g.E k=some (.gf l)/\x= .func (.yield l) #[] #[]
def RL (g:Gh):List AV->List Value->Prop
 | [],l=>l=[]
 | v::vs,l=> ∃x xs,l=x::xs/\R g v x/\RL g vs xs
def nI (g:Gh):List AV->Nat->Nat->Prop
 | [],_,_=>True
 | v::vs,b,o=>(∃x,g.F b o=some x/\x.oneCell'=true/\R g v x)/\nI g vs b (o+1)
def gS (g:Gh) (z:Nat):List AV->Nat->Nat->Prop
 | [],_,_=>True
 | .agg cs::vs,b,o=>(cs.length=z/\nI g cs b o)/\gS g z vs b (o+z)
 | v::vs,b,o=>(1=z/\ ∃x,g.F b o=some x/\x.oneCell'=true/\R g v x)/\gS g z vs b (o+z)
def rb (g:Gh):List (AV×AV)->List MapEntry->Prop
 | [],l=>l=[]
 | (k,v)::es,l=> ∃e l',l=e::l'/\R g k e.key/\R g v e.val/\rb g es l'
end
theorem lR (g:Gh) (z:Nat) (v:AV) (vs:List AV) (b o:Nat):
  gS g z (v::vs) b o↔v.cells.length=z/\nI g v.cells b o/\gS g z vs b (o+z):=by
 cases v <;> simp [gS,AV.cells,nI,and_assoc]
structure Le (g g':Gh):Prop where
 F: ∀b o v,g.F b o=some v->g'.F b o=some v
 M: ∀b e,g.M b=some e->g'.M b=some e
 gf: ∀id b,g.E id=some (.gf b)->g'.E id=some (.gf b)
 tok: ∀id loc,g.E id=some (.tok loc)-> ∃loc',g'.E id=some (.tok loc')/\ ∀n x,loc n=some x->loc' n=some x
theorem Le.refl (g:Gh):Le g g:=⟨fun _ _ _ h=>h,fun _ _ h=>h,fun _ _ h=>h,fun _ loc h=>⟨loc,h,fun _ _ h=>h⟩⟩
theorem Le.trans {a b c:Gh} (h:Le a b) (k:Le b c):Le a c:=
 ⟨fun _ _ _ x=>k.F _ _ _ (h.F _ _ _ x),fun _ _ x=>k.M _ _ (h.M _ _ x),fun _ _ x=>k.gf _ _ (h.gf _ _ x),fun id loc x=>by
  obtain ⟨l1,d,s1⟩:=h.tok id loc x;obtain ⟨l2,e,s2⟩:=k.tok id l1 d;exact ⟨l2,e,fun n y hy=>s2 _ _ (s1 _ _ hy)⟩⟩
theorem Gq {g g':Gh} (h:Le g g') {p:Perm} {n b o cap:Nat} (hp:tY g p n b o cap):tY g' p n b o cap:=by
 cases p with
 | shut=>exact hp
 | wide=>exact hp
 | own k=>
  obtain ⟨h0,loc,h1,h2⟩:=hp;obtain ⟨loc',h3,h4⟩:=h.tok k loc h1;exact ⟨h0,loc',h3,h4 _ _ h2⟩
mutual
theorem mT {g g':Gh} (h:Le g g'): ∀(v:AV) (x:Value),R g v x->R g' v x
 | .bool _,_,hr | .int _ _,_,hr | .str _,_,hr | .flt _ _,_,hr | .nilp,_,hr | .ay,_,hr | .nilm,_,hr | .nilfn,_,hr | .nili,_,hr | .es,_,hr | .opq _,_,hr=>by
  simpa only [R] using hr
 | .ip cs,x,hr=>by
  simp only [R] at hr ⊢;obtain ⟨h0,b,o,h1,h2⟩:=hr;exact ⟨h0,b,o,h1,tI h cs b o h2⟩
 | .mp id off,x,hr=>by
  simp only [R] at hr ⊢;obtain ⟨b,h1,h2⟩:=hr;exact ⟨b,h.gf _ _ h1,h2⟩
 | .sl z es p,x,hr=>by
  simp only [R] at hr ⊢;obtain ⟨h0,b,o,cap,h1,h2,h2',h3,h4⟩:=hr;exact ⟨h0,b,o,cap,h1,h2,h2',gq h z es b o h3,Gq h h4⟩
 | .ms id off z len cap,x,hr=>by
  simp only [R] at hr ⊢;obtain ⟨b,o,h1,h2⟩:=hr;exact ⟨b,o,h.gf _ _ h1,h2⟩
 | .gs k z n,x,hr=>by
  simp only [R] at hr ⊢;obtain ⟨loc,b,cap,h1,h2,h3⟩:=hr;obtain ⟨loc',h4,h5⟩:=h.tok k loc h1;exact ⟨loc',b,cap,h4,h5 _ _ h2,h3⟩
 | .gp k n off,x,hr=>by
  simp only [R] at hr ⊢;obtain ⟨loc,b,cap,h1,h2,h3⟩:=hr;obtain ⟨loc',h4,h5⟩:=h.tok k loc h1;exact ⟨loc',b,cap,h4,h5 _ _ h2,h3⟩
 | .mm id,x,hr=>by
  simp only [R] at hr ⊢;obtain ⟨b,h1,h2⟩:=hr;exact ⟨b,h.gf _ _ h1,h2⟩
 | .yld k,x,hr=>by
  simp only [R] at hr ⊢;obtain ⟨b,h1,h2⟩:=hr;exact ⟨b,h.gf _ _ h1,h2⟩
 | .im es,x,hr=>by
  simp only [R] at hr ⊢;obtain ⟨b,ents,clk,h1,h2,h3⟩:=hr;exact ⟨b,ents,clk,h.M _ _ h1,h2,yp h es ents h3⟩
 | .fn f a c,x,hr=>by
  simp only [R] at hr ⊢;obtain ⟨a',c',h1,h2,h3⟩:=hr;exact ⟨a',c',h1,eA h a _ h2,eA h c _ h3⟩
 | .iface t v,x,hr=>by
  simp only [R] at hr ⊢;obtain ⟨y,h1,h2⟩:=hr;exact ⟨y,h1,mT h v y h2⟩
 | .agg cs,x,hr=>by
  simp only [R] at hr ⊢;obtain ⟨y,h1,h2⟩:=hr;exact ⟨y,h1,eA h cs _ h2⟩
 | .tup cs,x,hr=>by
  simp only [R] at hr ⊢;obtain ⟨y,h1,h2⟩:=hr;exact ⟨y,h1,eA h cs _ h2⟩
theorem eA {g g':Gh} (h:Le g g'): ∀(vs:List AV) (xs:List Value),RL g vs xs->RL g' vs xs
 | [],_,hr=>by simp only [RL] at hr ⊢;exact hr
 | v::vs,l,hr=>by
  simp only [RL] at hr ⊢;obtain ⟨x,xs,h1,h2,h3⟩:=hr;exact ⟨x,xs,h1,mT h v x h2,eA h vs xs h3⟩
theorem tI {g g':Gh} (h:Le g g'): ∀(vs:List AV) (b o:Nat),nI g vs b o->nI g' vs b o
 | [],_,_,_=>by simp only [nI]
 | v::vs,b,o,hr=>by
  simp only [nI] at hr ⊢;obtain ⟨⟨x,h1,h2,h3⟩,h4⟩:=hr;exact ⟨⟨x,h.F _ _ _ h1,h2,mT h v x h3⟩,tI h vs b (o+1) h4⟩
theorem gq {g g':Gh} (h:Le g g') (z:Nat): ∀(vs:List AV) (b o:Nat),gS g z vs b o->gS g' z vs b o
 | [],_,_,_=>by simp only [gS]
 | v::vs,b,o,hr=>by
  cases v with
  | agg cs=>
   simp only [gS] at hr ⊢;exact ⟨⟨hr.1.1,tI h cs b o hr.1.2⟩,gq h z vs b (o+z) hr.2⟩
  | _=>
   simp only [gS] at hr ⊢;obtain ⟨⟨h0,x,h1,h2,h3⟩,h4⟩:=hr;exact ⟨⟨h0,x,h.F _ _ _ h1,h2,mT h _ x h3⟩,gq h z vs b (o+z) h4⟩
theorem yp {g g':Gh} (h:Le g g'): ∀(es:List (AV×AV)) (l:List MapEntry),rb g es l->rb g' es l
 | [],_,hr=>by simp only [rb] at hr ⊢;exact hr
 | (k,v)::es,l,hr=>by
  simp only [rb] at hr ⊢;obtain ⟨e,l',h1,h2,h3,h4⟩:=hr;exact ⟨e,l',h1,mT h k _ h2,mT h v _ h3,yp h es l' h4⟩
end
structure Qw (g g':Gh):Prop where
 F: ∀b o v,g.F b o=some v->g'.F b o=some v
 M: ∀b e,g.M b=some e->g'.M b=some e
abbrev pJ:=bare.pJ
theorem bf (v:AV) (l:List AV):bL (v::l)=(bare v&&bL l):=rfl
mutual
theorem sd {g g':Gh} (h:Qw g g'): ∀(v:AV) (x:Value),bare v=true->R g v x->R g' v x
 | .bool _,_,_,hr | .int _ _,_,_,hr | .str _,_,_,hr | .flt _ _,_,_,hr | .nilp,_,_,hr | .ay,_,_,hr | .nilm,_,_,hr | .nilfn,_,_,hr | .nili,_,_,hr | .es,_,_,hr | .opq _,_,_,hr=>by
  simpa only [R] using hr
 | .ip cs,x,_,hr=>by
  simp only [R] at hr ⊢;obtain ⟨h0,b,o,h1,h2⟩:=hr;exact ⟨h0,b,o,h1,tA h cs b o h0 h2⟩
 | .mp id off,x,hb,hr=>by simp [bare] at hb
 | .sl z es p,x,hb,hr=>by
  simp only [R] at hr ⊢;obtain ⟨h0,b,o,cap,h1,h2,h2',h3,h4⟩:=hr;refine ⟨h0,b,o,cap,h1,h2,h2',uq h z es b o h0 h3, ?_⟩;cases p with
  | shut=>exact h4
  | wide=>exact h4
  | own k=>simp [bare] at hb
 | .ms ..,x,hb,hr=>by simp [bare] at hb
 | .mm id,x,hb,hr=>by simp [bare] at hb
 | .yld _,x,hb,hr=>by simp [bare] at hb
 | .im es,x,hb,hr=>by
  simp only [R] at hr ⊢;obtain ⟨b,ents,clk,h1,h2,h3⟩:=hr;simp only [bare] at hb;exact ⟨b,ents,clk,h.M _ _ h1,h2,EG h es ents hb h3⟩
 | .fn f a c,x,hb,hr=>by
  simp only [R] at hr ⊢;simp only [bare,WY] at hb;obtain ⟨a',c',h1,h2,h3⟩:=hr;exact ⟨a',c',h1,qS h a _ hb.1 h2,qS h c _ hb.2 h3⟩
 | .iface t v,x,hb,hr=>by
  simp only [R] at hr ⊢;simp only [bare] at hb;obtain ⟨y,h1,h2⟩:=hr;exact ⟨y,h1,sd h v y hb h2⟩
 | .agg cs,x,hb,hr=>by
  simp only [R] at hr ⊢;simp only [bare] at hb;obtain ⟨y,h1,h2⟩:=hr;exact ⟨y,h1,qS h cs _ hb h2⟩
 | .tup cs,x,hb,hr=>by
  simp only [R] at hr ⊢;simp only [bare] at hb;obtain ⟨y,h1,h2⟩:=hr;exact ⟨y,h1,qS h cs _ hb h2⟩
theorem qS {g g':Gh} (h:Qw g g'): ∀(vs:List AV) (xs:List Value),bL vs=true->RL g vs xs->RL g' vs xs
 | [],_,_,hr=>by simp only [RL] at hr ⊢;exact hr
 | v::vs,l,hb,hr=>by
  simp only [RL] at hr ⊢;simp only [bf,WY] at hb;obtain ⟨x,xs,h1,h2,h3⟩:=hr;exact ⟨x,xs,h1,sd h v x hb.1 h2,qS h vs xs hb.2 h3⟩
theorem tA {g g':Gh} (h:Qw g g'): ∀(vs:List AV) (b o:Nat),bL vs=true->nI g vs b o->nI g' vs b o
 | [],_,_,_,_=>by simp only [nI]
 | v::vs,b,o,hb,hr=>by
  simp only [nI] at hr ⊢;simp only [bf,WY] at hb;obtain ⟨⟨x,h1,h2,h3⟩,h4⟩:=hr;exact ⟨⟨x,h.F _ _ _ h1,h2,sd h v x hb.1 h3⟩,tA h vs b (o+1) hb.2 h4⟩
theorem uq {g g':Gh} (h:Qw g g') (z:Nat): ∀(vs:List AV) (b o:Nat),bL vs=true->gS g z vs b o->gS g' z vs b o
 | [],_,_,_,_=>by simp only [gS]
 | v::vs,b,o,hb,hr=>by
  simp only [bf,WY] at hb;cases v with
  | agg cs=>
   simp only [gS] at hr ⊢;exact ⟨⟨hr.1.1,tA h cs b o hb.1 hr.1.2⟩,uq h z vs b (o+z) hb.2 hr.2⟩
  | _=>
   simp only [gS] at hr ⊢;obtain ⟨⟨h0,x,h1,h2,h3⟩,h4⟩:=hr;exact ⟨⟨h0,x,h.F _ _ _ h1,h2,sd h _ x hb.1 h3⟩,uq h z vs b (o+z) hb.2 h4⟩
theorem EG {g g':Gh} (h:Qw g g'): ∀(es:List (AV×AV)) (l:List MapEntry),pJ es=true->rb g es l->rb g' es l
 | [],_,_,hr=>by simp only [rb] at hr ⊢;exact hr
 | (k,v)::es,l,hb,hr=>by
  simp only [rb] at hr ⊢;simp only [pJ,bare.pJ,WY] at hb;obtain ⟨e,l',h1,h2,h3,h4⟩:=hr;exact ⟨e,l',h1,sd h k _ hb.1.1 h2,sd h v _ hb.1.2 h3,EG h es l' hb.2 h4⟩
end
section
variable {g:Gh}
theorem fQ:RL g [] []:=by simp [RL]
theorem cH {v:AV} {vs:List AV} {x:Value} {xs:List Value} (h:R g v x) (hs:RL g vs xs):RL g (v::vs) (x::xs):=by
 simp only [RL];exact ⟨x,xs,rfl,h,hs⟩
theorem dB: ∀{vs:List AV} {xs:List Value},RL g vs xs->xs.length=vs.length
 | [],_,h=>by simp only [RL] at h;subst h;rfl
 | _:: _,_,h=>by
  simp only [RL] at h;obtain ⟨x,xs,rfl,_,h2⟩:=h;simp [dB h2]
theorem eN: ∀{vs us:List AV} {xs ys:List Value},RL g vs xs->RL g us ys->RL g (vs++us) (xs++ys)
 | [],_,_,_,h,k=>by simp only [RL] at h;subst h;exact k
 | _:: _,_,_,_,h,k=>by
  simp only [RL] at h;obtain ⟨x,xs,rfl,h1,h2⟩:=h;exact cH h1 (eN h2 k)
theorem mR: ∀(n:Nat) {vs:List AV} {xs:List Value},RL g vs xs->RL g (vs.take n) (xs.take n)
 | 0,_,_,_=>by simp [RL]
 | _+1,[],_,h=>by simp only [RL] at h;subst h;simp [RL]
 | n+1,_:: _,_,h=>by
  simp only [RL] at h;obtain ⟨x,xs,rfl,h1,h2⟩:=h;exact cH h1 (mR n h2)
theorem iP: ∀(n:Nat) {vs:List AV} {xs:List Value},RL g vs xs->RL g (vs.drop n) (xs.drop n)
 | 0,_,_,h=>h
 | _+1,[],_,h=>by simp only [RL] at h;subst h;simp [RL]
 | n+1,_:: _,_,h=>by
  simp only [RL] at h;obtain ⟨x,xs,rfl,h1,h2⟩:=h;exact iP n h2
theorem KK: ∀{vs:List AV} {xs:List Value} {n:Nat} {v:AV},RL g vs xs->eZ vs n= .ok v-> ∃x,xs[n]? =some x/\R g v x
 | [],_,_,_,_,e=>by simp [eZ] at e
 | _:: _,_,0,_,h,e=>by
  simp only [RL] at h;obtain ⟨x,xs,rfl,h1,h2⟩:=h;simp only [eZ,WT] at e;subst e;exact ⟨x,rfl,h1⟩
 | _:: _,_,n+1,_,h,e=>by
  simp only [RL] at h;obtain ⟨x,xs,rfl,h1,h2⟩:=h;simp only [eZ] at e;obtain ⟨y,hy,hr⟩:=KK h2 e;exact ⟨y,by simpa using hy,hr⟩
theorem vQ: ∀{vs:List AV} {xs:List Value} {n:Nat} {v:AV},RL g vs xs->vs[n]? =some v-> ∃x,xs[n]? =some x/\R g v x
 | [],_,_,_,_,e=>by simp at e
 | _:: _,_,0,_,h,e=>by
  simp only [RL] at h;obtain ⟨x,xs,rfl,h1,h2⟩:=h;simp only [Yz,W7] at e;subst e;exact ⟨x,rfl,h1⟩
 | _:: _,_,n+1,_,h,e=>by
  simp only [RL] at h;obtain ⟨x,xs,rfl,h1,h2⟩:=h;simp only [Yp] at e;obtain ⟨y,hy,hr⟩:=vQ h2 e;exact ⟨y,by simpa using hy,hr⟩
theorem si: ∀{vs us:List AV} {b o:Nat},nI g (vs++us) b o↔nI g vs b o/\nI g us b (o+vs.length)
 | [],us,b,o=>by simp [nI]
 | v::vs,us,b,o=>by
  simp only [Xf,nI,si (vs:=vs),Xk,and_assoc];rw [show o+1+vs.length=o+(vs.length+1) by omega]
theorem C8 {vs:List AV} {b o:Nat} (n:Nat) (h:nI g vs b o) (hn:n<=vs.length):nI g (vs.drop n) b (o+n):=by
 have a:=h;rw [<- XM n vs,si] at a;have:=a.2
 rwa [Xg,Yv hn] at this
theorem AX {vs:List AV} {b o:Nat} (n:Nat) (h:nI g vs b o):nI g (vs.drop n) b (o+n):=by
 rcases Nat.le_total n vs.length with k | k
 .exact C8 n h k
 .rw [List.drop_eq_nil_of_le k];simp [nI]
theorem iF: ∀{vs:List AV} {b o:Nat},nI g vs b o-> ∃xs:List Value,RL g vs xs/\(∀i x,xs[i]? =some x->g.F b (o+i)=some x/\x.oneCell'=true)
 | [],_,_,_=>⟨[],by simp [RL],by simp⟩
 | v::vs,b,o,h=>by
  simp only [nI] at h;obtain ⟨⟨x,h1,h2,h3⟩,h4⟩:=h;obtain ⟨xs,k1,k2⟩:=iF h4;refine ⟨x::xs,cH h3 k1, ?_⟩;intro i y hy;cases i with
  | zero=>simp only [Yz,W7] at hy;subst hy;exact ⟨h1,h2⟩
  | succ i=>
   simp only [Yp] at hy;have:=k2 i y hy
   rwa [show o+1+i=o+(i+1) by omega] at this
theorem dv: ∀{vs:List AV} {xs:List Value} {b o:Nat},RL g vs xs->(∀i x,xs[i]? =some x->g.F b (o+i)=some x/\x.oneCell'=true)->nI g vs b o
 | [],_,_,_,_,_=>by simp [nI]
 | v::vs,l,b,o,h,k=>by
  simp only [RL] at h;obtain ⟨x,xs,rfl,h1,h2⟩:=h;simp only [nI];have a:=k 0 x rfl;refine ⟨⟨x,a.1,a.2,h1⟩,dv h2 fun i y hy=> ?_⟩;have:=k (i+1) y (by simpa using hy)
  rwa [show o+(i+1)=o+1+i by omega] at this
theorem gL (v:AV) (l:List AV):flat (v::l)=v.cells++flat l:=rfl
theorem mQ (l m:List AV):flat (l++m)=flat l++flat m:=by
 induction l with
 | nil=>rfl
 | cons v l ih=>simp [gL,ih]
theorem dL {z:Nat}: ∀{vs:List AV} {b o:Nat},gS g z vs b o↔(∀v∈vs,v.cells.length=z)/\nI g (flat vs) b o
 | [],b,o=>by simp [gS,flat,nI]
 | v::vs,b,o=>by
  rw [lR,dL (vs:=vs),gL,si];constructor
  .rintro ⟨h1,h2,h3,h4⟩;exact ⟨by simpa [h1] using h3,h2,by rwa [h1]⟩
  .rintro ⟨h1,h2,h3⟩;have hv:=h1 v (by simp);exact ⟨hv,h2,fun u hu=>h1 u (by simp [hu]),by rwa [hv] at h3⟩
theorem dF {z:Nat}: ∀{vs:List AV},(∀v∈vs,v.cells.length=z)->(flat vs).length=vs.length * z
 | [],_=>by simp [flat]
 | v::vs,h=>by
  have h1:=h v (by simp);have h2:=dF (vs:=vs) fun u hu=>h u (by simp [hu]);simp only [gL,W9,h1,h2,Xk,Nat.add_mul];omega
theorem AJ {z:Nat}: ∀{vs:List AV} (n:Nat),(∀v∈vs,v.cells.length=z)->flat (vs.drop n)=(flat vs).drop (n * z)
 | [],n,_=>by simp [flat]
 | v::vs,0,_=>by simp
 | v::vs,n+1,h=>by
  have h1:=h v (by simp);have h2:=AJ (vs:=vs) n fun u hu=>h u (by simp [hu]);simp only [XN,h2,gL,Nat.add_mul,Nat.one_mul];rw [show n * z+z=v.cells.length+n * z by omega,List.drop_append];simp
theorem Ip {z:Nat} {vs:List AV} {b o:Nat} (n:Nat) (h:gS g z vs b o) (hn:n<=vs.length):gS g z (vs.drop n) b (o+n * z):=by
 rw [dL] at h ⊢;refine ⟨fun v hv=>h.1 v (List.mem_of_mem_drop hv), ?_⟩;rw [AJ n h.1];refine C8 _ h.2 ?_;rw [dF h.1];exact Nat.mul_le_mul_right _ hn
theorem mE {z:Nat} {vs us:List AV} {b o:Nat}:gS g z (vs++us) b o↔gS g z vs b o/\gS g z us b (o+vs.length * z):=by
 induction vs generalizing o with
 | nil=>simp [gS]
 | cons v vs ih=>
  rw [Xf,lR,lR,ih,Xk];rw [show o+z+vs.length * z=o+(vs.length+1) * z by rw [Nat.add_mul];omega];simp [and_assoc]
theorem I4 {z:Nat} {vs:List AV} {b o:Nat} (n:Nat) (h:gS g z vs b o):gS g z (vs.take n) b o:=by
 rw [<- XM n vs,mE] at h;exact h.1
theorem zv {z:Nat}: ∀{vs:List AV} {b o n:Nat} {v:AV},gS g z vs b o->eZ vs n= .ok v->v.cells.length=z/\nI g v.cells b (o+n * z)
 | [],_,_,_,_,_,e=>by simp [eZ] at e
 | u::us,b,o,0,v,h,e=>by
  simp only [eZ,WT] at e;subst e;rw [lR] at h;exact ⟨h.1,by simpa using h.2.1⟩
 | u::us,b,o,n+1,v,h,e=>by
  simp only [eZ] at e;rw [lR] at h;have:=zv h.2.2 e
  rwa [show o+z+n * z=o+(n+1) * z by rw [Nat.add_mul];omega] at this
end
theorem fK (l m:List AV):bL (l++m)=(bL l&&bL m):=by
 induction l with
 | nil=>rfl
 | cons v l ih=>simp only [Xf,bf,ih,Bool.and_assoc]
theorem FP {l:List AV} (n:Nat) (h:bL l=true):bL (l.take n)=true:=by
 rw [<- XM n l,fK,WY] at h;exact h.1
theorem sr {l:List AV} (n:Nat) (h:bL l=true):bL (l.drop n)=true:=by
 rw [<- XM n l,fK,WY] at h;exact h.2
theorem uX: ∀{l:List AV} {n:Nat} {v:AV},bL l=true->eZ l n= .ok v->bare v=true
 | [],_,_,_,e=>by simp [eZ] at e
 | u::us,0,v,h,e=>by
  simp only [eZ,WT] at e;subst e;simp only [bf,WY] at h;exact h.1
 | u::us,n+1,v,h,e=>by
  simp only [eZ] at e;simp only [bf,WY] at h;exact uX h.2 e
theorem wk {v:AV} (h:bare v=true):bL v.cells=true:=by
 cases v <;> first | exact h | simpa [AV.cells,bf,bL,bare.bareAll] using h
theorem wN {g:Gh} {v:AV} {x:Value} (h:R g v x):R g (strip v) x:=by
 cases v with
 | sl z es p=>
  cases p with
  | own k=>
   simp only [strip,R] at h ⊢;obtain ⟨h0,b,o,cap,h1,h2,a,h3,h4⟩:=h;exact ⟨h0,b,o,cap,h1,h2,a,h3,trivial⟩
  | _=>exact h
 | _=>exact h
theorem nY {g:Gh}: ∀{vs:List AV} {xs:List Value},RL g vs xs->RL g (vs.map strip) xs
 | [],_,h=>h
 | v::vs,_,h=>by
  simp only [RL] at h;obtain ⟨x,xs,rfl,h1,h2⟩:=h;exact cH (wN h1) (nY h2)
theorem ag {α β:Type} {x:db α} {f:α->db β} {b:β}:(x >>= f)= .ok b↔ ∃a,x= .ok a/\f a= .ok b:=by
 cases x <;> simp [bind,Except.bind]
theorem au {α:Type} {a b:α}:(pure a:db α)= .ok b↔a=b:=by simp [pure,Except.pure]
theorem S9 {g:Gh} {v v':AV} {x:Value} (h:R g v x) (e:fit v= .ok v'):R g v' x/\bare v'=true/\v'.cells.length=v.cells.length:=by
 unfold fit at e;simp only at e;split at e
 .rename_i hb;simp only [WT] at e;subst e;refine ⟨?_,hb, ?_⟩
  .cases v with
   | agg cs=>
    simp only [R] at h ⊢;obtain ⟨ys,h1,h2⟩:=h;exact ⟨ys,h1,nY h2⟩
   | _=>exact wN h
  .cases v with
   | agg cs=>simp [AV.cells]
   | sl z es p=>cases p <;> rfl
   | _=>rfl
 .simp at e
theorem CQ {g:Gh}: ∀{vs vs':List AV} {xs:List Value},RL g vs xs->fits vs= .ok vs'->RL g vs' xs/\bL vs'=true
 | [],_,_,h,e=>by
  simp only [fits,WT] at e;subst e;exact ⟨h,rfl⟩
 | v::vs,vs',_,h,e=>by
  simp only [RL] at h;obtain ⟨x,xs,rfl,h1,h2⟩:=h;simp only [fits,ag,au] at e;obtain ⟨u,a,us,b,rfl⟩:=e;obtain ⟨k1,k2,_⟩:=S9 h1 a;obtain ⟨c,d⟩:=CQ h2 b;exact ⟨cH k1 c,by simp [bf,k2,d]⟩
def kE (ops:List Oper):Bool:=
 (ops.zipIdx.all fun (o,j)=>o.after.toList.all fun e=> !Region.binds .any e||e.on.blt j)&&
 (ops.zipIdx.all fun (o,j)=>(ops.zipIdx.take j).all fun (o',i)=>o'.apart ops.toArray o||behind ops (j+1) j i)
def codeOk:Code->Bool
 | .region _ ops draw=> !draw||kE ops.toList
 | .seq a b=>codeOk a&&codeOk b
 | .cond _ a b=>codeOk a&&codeOk b
 | .block _ c=>codeOk c
 | .loop c=>codeOk c
 | .scope c=>codeOk c
 | .rangeFunc _ _ a c=>codeOk a&&codeOk c
 | _=>true
structure wP (g:Gh) (fr:Fr) (tmps:Array Value):Prop where
 size:tmps.size=fr.n
 at': ∀t,(fr.strict=true/\fr.t.get t=none)\/R g (fr.get t) (tmps.getD t Go.undef)
theorem wP.mono {g g':Gh} {fr:Fr} {tmps:Array Value} (h:wP g fr tmps) (le:Le g g'):wP g' fr tmps:=⟨h.size,fun t=>(h.at' t).imp id (mT le _ _)⟩
theorem wP.at {g:Gh} {fr:Fr} {tmps:Array Value} (h:wP g fr tmps) (hs:fr.strict=false) (t:Nat):R g (fr.get t) (tmps.getD t Go.undef):=by
 rcases h.at' t with ⟨h1,_⟩ | h1
 .rw [hs] at h1;cases h1
 .exact h1
def Ln (s:Nat) (p:Ex) (r:Loop):Prop:=
 (s=0/\r.state= .ready/\r.pending=none/\p= .normal)\/(s=1/\r.state= .busy)\/(s=2/\r.state= .done/\((p= .ret/\r.pending=some .ret)\/ ∃i,p= .exit i/\r.pending=some (.exit i)))
namespace Tr
variable {α:Type}
theorem get_set_same: ∀(f:Nat) (t:Tr α) (n:Nat) (x:α),n < f->(set f t n x).get n=some x
 | 0,_,_,_,h=>by omega
 | f+1,t,n,x,h=>by
  unfold set;cases hn:n.beq 0 with
  | true=>cases t <;> simp [get,hn]
  | false=>
   have h0:n≠0:=by intro e;subst e;simp at hn
   cases hm:(n % 2).beq 1 with
   | true=>cases t <;> simp [get,hn,hm,get_set_same f _ (n / 2) x (by omega)]
   | false=>cases t <;> simp [get,hn,hm,get_set_same f _ (n / 2 - 1) x (by omega)]
theorem tb (n:Nat):(Tr.leaf:Tr α).get n=none:=by unfold get;rfl
theorem lT: ∀(f:Nat) (t:Tr α) (n m:Nat) (x:α),n≠m->(set f t n x).get m=t.get m
 | 0,_,_,_,_,_=>rfl
 | f+1,t,n,m,x,h=>by
  unfold set;cases hn:n.beq 0 with
  | true=>
   have b:n=0:=W2 hn;have hm:m.beq 0=false:=by
    cases hm:m.beq 0 with
    | false=>rfl
    | true=>exact absurd (b.trans (W2 hm).symm) h
   cases t with
   | leaf=>cases hk:(m % 2).beq 1 <;> simp [get,hm,hk]
   | node v l r=>cases hk:(m % 2).beq 1 <;> simp [get,hm,hk]
  | false=>
   have b:n≠0:=by intro e;subst e;simp at hn
   cases hm:m.beq 0 with
   | true=>
    cases hp:(n % 2).beq 1 with
    | true=>cases t <;> simp [get,hm]
    | false=>cases t <;> simp [get,hm]
   | false=>
    have g:m≠0:=by intro e;subst e;simp at hm
    cases hp:(n % 2).beq 1 with
    | true=>
     have c:=W2 hp;cases a:(m % 2).beq 1 with
     | true=>
      have d:=W2 a;have hne:n / 2≠m / 2:=by omega
      cases t with
      | leaf=>simp [get,hm,a,lT f _ _ _ x hne]
      | node v l r=>simp [get,hm,a,lT f _ _ _ x hne]
     | false=>cases t <;> simp [get,hm,a]
    | false=>
     have c:n % 2≠1:=by intro e;rw [e] at hp;simp at hp
     cases a:(m % 2).beq 1 with
     | true=>cases t <;> simp [get,hm,a]
     | false=>
      have d:m % 2≠1:=by intro e;rw [e] at a;simp at a
      have hne:n / 2 - 1≠m / 2 - 1:=by omega
      cases t with
      | leaf=>simp [get,hm,a,lT f _ _ _ x hne]
      | node v l r=>simp [get,hm,a,lT f _ _ _ x hne]
theorem ko (t:Tr α) (n m:Nat) (x:α):(t.put n x).get m=if n=m then some x else t.get m:=by
 unfold put;by_cases h:n=m
 .subst h;rw [if_pos rfl];exact get_set_same _ _ _ _ (by omega)
 .rw [if_neg h];exact lT _ _ _ _ _ h
theorem set_set: ∀(f:Nat) (t:Tr α) (n:Nat) (x y:α),set f (set f t n x) n y=set f t n y
 | 0,_,_,_,_=>rfl
 | f+1,t,n,x,y=>by
  cases hn:n.beq 0 with
  | true=>cases t <;> simp [set,hn]
  | false=>
   cases hm:(n % 2).beq 1 with
   | true=>cases t <;> simp [set,hn,hm,set_set f]
   | false=>cases t <;> simp [set,hn,hm,set_set f]
end Tr
theorem dD {a b:Nat}:a.blt b=true↔a < b:=by simp [Nat.blt];omega
theorem cW {a b:Nat}:a.blt b=false↔b<=a:=by
 cases h:a.blt b with
 | true=>rw [dD] at h;simp;omega
 | false=>simp;exact Nat.le_of_not_lt fun k=>by rw [dD.2 k] at h;cases h
theorem St.ch {s:St} {i:Nat} {o:Obj}:s.get i= .ok o↔i < s.h/\s.objs.get i=some o:=by
 unfold St.get;cases h:i.blt s.h with
 | true=>
  rw [dD] at h;cases k:s.objs.get i <;> simp [h]
 | false=>rw [cW] at h;simp;omega
theorem St.aQ {s:St} {i:Nat} {o:Obj} (h:i < s.h):(s.put i o).get i= .ok o:=by
 rw [St.ch];exact ⟨h,by simp [St.put,Tr.ko]⟩
theorem St.aY {s:St} {i j:Nat} {o:Obj} (h:i≠j):(s.put i o).get j=s.get j:=by
 simp [St.put,St.get,Tr.ko,h]
theorem St.fV {s:St} {j:Nat} {o o':Obj}:(s.new o).2.get j= .ok o'↔(j=s.h/\o'=o)\/(j < s.h/\s.get j= .ok o'):=by
 rw [St.ch,St.ch];simp only [St.new,Tr.ko];by_cases h:s.h=j
 .subst h;simp;constructor <;> intro h <;> exact h.symm
 .rw [if_neg h];constructor
  .rintro ⟨h1,h2⟩;exact .inr ⟨by omega,by omega,h2⟩
  .rintro (⟨h1,_⟩ | ⟨h1,_,h3⟩)
   .exact absurd h1.symm h
   .exact ⟨by omega,h3⟩
def xR (d:TypeDesc):U->Prop
 | .bool=>d= .bool
 | .int k=>d= .int k
 | .str=>d= .string
 | .flt k=>d= .float k
 | .ptr e=>d= .pointer e
 | .slice e=>d= .slice e
 | .arr n e=>d= .array n e
 | .map k e=>d= .map k e
 | .struct fs=> ∃fields,d= .struct fields/\fields.toList.map (fun f=>(f.offset,f.type))=fs
 | .func=> ∃a b c,d= .func a b c
 | .iface bare=> ∃ms,d= .interface ms/\(bare=true->ms= #[])
 | .uptr=>d= .unsafePointer
 | .other=>True
structure jD (P:Program) (t:TypeId) (i:TI):Prop where
 und: ∃d,P.underlying t=some d/\xR d i.und/\(i.agg=match d with | .struct _ | .array .. =>true | _=>false)
 cmp:i.cmp=true->P.eqGuardType P.depth t=false/\P.stoodInHeld t=false/\ ∀fields,P.underlying t=some (.struct fields)-> ∀f∈fields.toList,f.name≠ "_"
 info: ∃f,P.info? t=some f/\f.size=i.size/\f.bytes=i.bytes/\ ∃z,f.zero=some z/\z.cells.size=i.size/\(i.agg=false->z.oneCell'=true)/\(∀v∈z.cells,v.oneCell'=true)/\(i.agg=true-> ∃cs,z= .agg cs)/\ ∀g,RL g i.zero z.cells.toList
def wW (P:Program) (T:TT):Prop:= ∀t i,T.get t=some i->jD P t i
theorem cB {T:TT} {t:TypeId} {i:TI}:ti T t= .ok i↔T.get t=some i:=by
 unfold ti;cases T.get t <;> simp
theorem cell_of {w:World} {b o:Nat} {vs:Array Value} {ty:TypeId} {fz:Nat×Nat} (h:w.heap[b]? =some (.cells vs ty fz)):
  w.cell? ⟨b,o,none⟩=vs[o]? :=by
 simp [World.cell?,h]
theorem kB {w:World} {b o:Nat} {vs rest:Array Value} {ty:TypeId} {fz:Nat×Nat} {x:Value} (h:w.heap[b]? =some (.cells (vs++rest) ty fz)) (hx:vs[o]? =some x):
  w.cell? ⟨b,o,none⟩=some x:=by
 rw [cell_of h];have a:o < vs.size:=by
  rcases Nat.lt_or_ge o vs.size with q | q
  .exact q
  .rw [Array.getElem?_eq_none q] at hx;cases hx
 rw [Array.getElem?_append_left a];exact hx
theorem nQ {w:World} {b o:Nat} {v:Value} (h:w.cell? ⟨b,o,none⟩=some v): ∃vs ty fz,w.heap[b]? =some (.cells vs ty fz)/\vs[o]? =some v:=by
 unfold World.cell? at h;split at h
 .rename_i c ty fz hb;exact ⟨c,ty,fz,hb,by simpa using h⟩
 .simp at h
def At (g:Gh) (id:Nat):Obj->Nat->Prop
 | .cells _ _,b=>g.E id=some (.gf b)
 | .map _,b=>g.E id=some (.gf b)
 | .sit ..,b=>g.E id=some (.gf b)
 | .tok n _,b=> ∃loc cap,g.E id=some (.tok loc)/\loc n=some (b,cap)
 | .dead,_=>False
 | .grow n _ _ _,b=> ∃loc cap,g.E id=some (.tok loc)/\loc n=some (b,cap)
 | .yZ,_=>False
 | .row n _ _ _,b=> ∃loc cap,g.E id=some (.tok loc)/\loc n=some (b,cap)
 | .loop ..,b=>g.E id=some (.gf b)
def Holds (T:TT) (g:Gh) (w:World) (id:Nat):Obj->Prop
 | .cells ty cs=> ∃b vs rest d,g.E id=some (.gf b)/\w.heap[b]? =some (.cells (vs++rest) d (0,0))/\RL g cs vs.toList/\(∀v∈vs.toList,v.oneCell'=true)/\(∀o,g.F b o=none)/\(ty < 1000000->rest= #[]/\d=ty)
 | .tok n e=> ∃loc b cap i vs fz,g.E id=some (.tok loc)/\loc n=some (b,cap)/\(∀m,n < m->loc m=none)/\T.get e=some i/\1<=i.size/\n<=cap/\
   w.heap[b]? =some (.cells vs e fz)/\vs.size=cap * i.size/\fz.2<=n * i.size/\ ∀o,n * i.size<=o->g.F b o=none
 | .map es=> ∃b ents clk,g.E id=some (.gf b)/\w.heap[b]? =some (.map ents clk)/\rb g es ents.toList/\g.M b=none
 | .sit s pos=> ∃b,g.E id=some (.gf b)/\w.heap[b]? =some (.stringIter ⟨s.toArray⟩ pos)
 | .dead=>True
 | .grow n e z es=> ∃loc b cap i vs fz,g.E id=some (.tok loc)/\loc n=some (b,cap)/\(∀m,n < m->loc m=none)/\T.get e=some i/\1<=i.size/\n<=cap/\
   w.heap[b]? =some (.cells vs e fz)/\vs.size=cap * i.size/\fz.2<=es.length * i.size/\(∀o,es.length * i.size<=o->g.F b o=none)/\z=i.size/\es.length<=n/\bL es=true/\gS g z es b 0
 | .yZ=>g.E id=none
 | .row n e z cs=> ∃loc b cap i pre rest,g.E id=some (.tok loc)/\loc n=some (b,cap)/\(∀m,n < m->loc m=none)/\T.get e=some i/\1<=i.size/\n<=cap/\
   w.heap[b]? =some (.cells (pre++rest) e (0,0))/\(pre++rest).size=cap * i.size/\(∀o,g.F b o=none)/\z=i.size/\RL g cs pre.toList/\(∀v∈pre.toList,v.oneCell'=true)/\cs.length=n * i.size
 | .loop _ ps a c fr s p=> ∃b r,g.E id=some (.gf b)/\w.heap[b]? =some (.loop r)/\wP g fr r.tmps/\r.params.toList=ps/\r.assign=a/\r.body=c/\(codeOk a=true/\codeOk c=true/\fr.strict=true)/\Ln s p r
structure Inv (T:TT) (A:Nat->Prop) (g:Gh) (st:St) (w:World):Prop where
 F: ∀b o v,g.F b o=some v->w.cell? ⟨b,o,none⟩=some v
 M: ∀b ents clk,g.M b=some (ents,clk)->w.heap[b]? =some (.map ents.toArray clk)
 E: ∀id,st.h<=id->g.E id=none
 H: ∀id o,st.get id= .ok o->Holds T g w id o
 D: ∀id id' o o' b,st.get id= .ok o->st.get id'= .ok o'->At g id o b->At g id' o' b->id=id'
 own: ∀id o b,st.get id= .ok o->At g id o b->st.ro<=id->A b
 up: ∀b,w.heap.size<=b->A b
structure Kp (A:Nat->Prop) (g:Gh) (w:World) (g':Gh) (w':World):Prop where
 size:w.heap.size<=w'.heap.size
 heap: ∀b,¬ A b->w'.heap[b]? =w.heap[b]?
 F: ∀b,¬ A b-> ∀o,g'.F b o=g.F b o
 M: ∀b,¬ A b->g'.M b=g.M b
 le:Le g g'
 rest:w'.os=w.os/\w'.tape=w.tape/\w'.output=w.output
theorem Kp.refl (A:Nat->Prop) (g:Gh) (w:World):Kp A g w g w:=⟨WW _,fun _ _=>rfl,fun _ _ _=>rfl,fun _ _=>rfl,Le.refl g,rfl,rfl,rfl⟩
theorem Kp.trans {A:Nat->Prop} {g g' a:Gh} {w w' c:World} (h:Kp A g w g' w') (k:Kp A g' w' a c):Kp A g w a c:=
 ⟨Xs h.size k.size,fun b hb=>(k.heap b hb).trans (h.heap b hb),fun b hb o=>(k.F b hb o).trans (h.F b hb o),fun b hb=>(k.M b hb).trans (h.M b hb),h.le.trans k.le,k.rest.1.trans h.rest.1,k.rest.2.1.trans h.rest.2.1,k.rest.2.2.trans h.rest.2.2⟩
theorem mq {T:TT} {g:Gh} {w w':World} {id:Nat} {o:Obj} (h:Holds T g w id o) (hw: ∀b,At g id o b->w'.heap[b]? =w.heap[b]?):Holds T g w' id o:=by
 cases o with
 | cells ty cs=>
  obtain ⟨b,vs,rest,l,h1,h2,h3⟩:=h;exact ⟨b,vs,rest,l,h1,by rw [hw b h1];exact h2,h3⟩
 | tok n e=>
  obtain ⟨loc,b,cap,i,vs,fz,h1,h2,h3,h4,d,f,j,k⟩:=h;exact ⟨loc,b,cap,i,vs,fz,h1,h2,h3,h4,d,f,by rw [hw b ⟨loc,cap,h1,h2⟩];exact j,k⟩
 | map es=>
  obtain ⟨b,ents,clk,h1,h2,h3⟩:=h;exact ⟨b,ents,clk,h1,by rw [hw b h1];exact h2,h3⟩
 | sit s pos=>
  obtain ⟨b,h1,h2⟩:=h;exact ⟨b,h1,by rw [hw b h1];exact h2⟩
 | dead=>trivial
 | grow n e z es=>
  obtain ⟨loc,b,cap,i,vs,fz,h1,h2,h3,h4,d,f,j,k⟩:=h;exact ⟨loc,b,cap,i,vs,fz,h1,h2,h3,h4,d,f,by rw [hw b ⟨loc,cap,h1,h2⟩];exact j,k⟩
 | yZ=>exact h
 | row n e z cs=>
  obtain ⟨loc,b,cap,i,pre,rest,h1,h2,h3,h4,d,f,j,k⟩:=h;exact ⟨loc,b,cap,i,pre,rest,h1,h2,h3,h4,d,f,by rw [hw b ⟨loc,cap,h1,h2⟩];exact j,k⟩
 | loop imm ps a c fr s p=>
  obtain ⟨b,r,h1,h2,h3⟩:=h;exact ⟨b,r,h1,by rw [hw b h1];exact h2,h3⟩
theorem D3 {T:TT} {g:Gh} {w:World} {id b:Nat} {o:Obj} (h:Holds T g w id o) (ha:At g id o b):b < w.heap.size:=by
 have key: ∀x:Go.Obj,w.heap[b]? =some x->b < w.heap.size:=fun x hx=>by
  rcases Nat.lt_or_ge b w.heap.size with h | h
  .exact h
  .simp [Array.getElem?_eq_none h] at hx
 cases o with
 | cells ty cs=>
  obtain ⟨b',vs,rest,t,h1,h2,h3⟩:=h;have:b'=b:=by have:=h1.symm.trans ha;simpa using this
  subst this;exact key _ h2
 | tok n e=>
  obtain ⟨loc,b',cap,i,vs,fz,h1,h2,h3,h4,l,m,k,q⟩:=h;obtain ⟨loc',d,k1,k2⟩:=ha;have f:=h1.symm.trans k1;simp only [W7,nt.tok.injEq] at f;subst f;have j:=h2.symm.trans k2;simp only [W7,WV] at j;obtain ⟨rfl,rfl⟩:=j;exact key _ k
 | map es=>
  obtain ⟨b',ents,clk,h1,h2,h3⟩:=h;have:b'=b:=by have:=h1.symm.trans ha;simpa using this
  subst this;exact key _ h2
 | sit s pos=>
  obtain ⟨b',h1,h2⟩:=h;have:b'=b:=by have:=h1.symm.trans ha;simpa using this
  subst this;exact key _ h2
 | dead=>exact ha.elim
 | grow n e z es=>
  obtain ⟨loc,b',cap,i,vs,fz,h1,h2,h3,h4,l,m,k,q⟩:=h;obtain ⟨loc',d,k1,k2⟩:=ha;have f:=h1.symm.trans k1;simp only [W7,nt.tok.injEq] at f;subst f;have j:=h2.symm.trans k2;simp only [W7,WV] at j;obtain ⟨rfl,rfl⟩:=j;exact key _ k
 | yZ=>exact ha.elim
 | row n e z cs=>
  obtain ⟨loc,b',cap,i,pre,rest,h1,h2,h3,h4,l,m,k,q⟩:=h;obtain ⟨loc',d,k1,k2⟩:=ha;have f:=h1.symm.trans k1;simp only [W7,nt.tok.injEq] at f;subst f;have j:=h2.symm.trans k2;simp only [W7,WV] at j;obtain ⟨rfl,rfl⟩:=j;exact key _ k
 | loop imm ps a c fr s p=>
  obtain ⟨b',r,h1,h2,h3⟩:=h;have:b'=b:=by have:=h1.symm.trans ha;simpa using this
  subst this;exact key _ h2
theorem World.iL {w:World} {o:Go.Obj} {b:Nat} (h:b < w.heap.size):(w.alloc o).heap[b]? =w.heap[b]? :=by
 show (w.heap.push o)[b]? = _;rw [Array.getElem?_push,if_neg (by omega)]
theorem World.heap_alloc_new {w:World} {o:Go.Obj}:(w.alloc o).heap[w.heap.size]? =some o:=by
 show (w.heap.push o)[w.heap.size]? = _;rw [Array.getElem?_push,if_pos rfl]
theorem lt_of_heap {w:World} {b:Nat} {x:Go.Obj} (hx:w.heap[b]? =some x):b < w.heap.size:=by
 rcases Nat.lt_or_ge b w.heap.size with h | h
 .exact h
 .simp [Array.getElem?_eq_none h] at hx
theorem sC {w w':World} {b:Nat} (h:w'.heap[b]? =w.heap[b]?) (o:Nat):w'.cell? ⟨b,o,none⟩=w.cell? ⟨b,o,none⟩:=by
 simp [World.cell?,h]
theorem Inv.world {T:TT} {A:Nat->Prop} {g:Gh} {st:St} {w w':World} (h:Inv T A g st w) (hs:w.heap.size<=w'.heap.size)
  (hw: ∀b,b < w.heap.size->w'.heap[b]? =w.heap[b]?):Inv T A g st w' where
 F b o v hv:=by
  have h1:=h.F b o v hv;obtain ⟨vs,ty,fz,h2,_⟩:=nQ h1;rw [sC (hw b (lt_of_heap h2))];exact h1
 M b ents clk hm:=by rw [hw b (lt_of_heap (h.M b ents clk hm))];exact h.M b ents clk hm
 E:=h.E
 H id o ho:=mq (h.H id o ho) fun b hb=>hw b (D3 (h.H id o ho) hb)
 D:=h.D
 own:=h.own
 up b hb:=h.up b (Xs hs hb)
theorem Inv.alloc {T:TT} {A:Nat->Prop} {g:Gh} {st:St} {w:World} (o:Go.Obj) (h:Inv T A g st w):Inv T A g st (w.alloc o):=
 h.world (by simp) fun _ hb=>World.iL hb
theorem Inv.drew {T:TT} {A:Nat->Prop} {g:Gh} {st:St} {w:World} (h:Inv T A g st w):Inv T A g st w.drew:=
 h.world (WW _) fun _ _=>rfl
theorem Kp.alloc {T:TT} {A:Nat->Prop} {g:Gh} {st:St} {w:World} (o:Go.Obj) (h:Inv T A g st w):Kp A g w g (w.alloc o):=
 ⟨by simp,fun b hb=>World.iL (Nat.lt_of_not_le fun k=>hb (h.up b k)),fun _ _ _=>rfl,fun _ _=>rfl,Le.refl g,rfl,rfl,rfl⟩
theorem Kp.drew (A:Nat->Prop) (g:Gh) (w:World):Kp A g w g w.drew:=⟨WW _,fun _ _=>rfl,fun _ _ _=>rfl,fun _ _=>rfl,Le.refl g,rfl,rfl,rfl⟩
theorem jQ {T:TT} {g g':Gh} {w:World} {id:Nat} {o:Obj} (h:Holds T g w id o) (le:Le g g') (hE:g'.E id=g.E id)
  (t: ∀b,At g id o b->(∀k,g'.F b k=g.F b k)/\g'.M b=g.M b):Holds T g' w id o:=by
 cases o with
 | cells ty cs=>
  obtain ⟨b,vs,rest,y,h1,h2,h3,h4,f,j⟩:=h;exact ⟨b,vs,rest,y,hE.trans h1,h2,eA le _ _ h3,h4,fun k=>by rw [(t b h1).1 k];exact f k,j⟩
 | tok n e=>
  obtain ⟨loc,b,cap,i,vs,fz,h1,h2,h3,h4,f,j,u,v,x,d⟩:=h;exact ⟨loc,b,cap,i,vs,fz,hE.trans h1,h2,h3,h4,f,j,u,v,x,fun k hk=>by rw [(t b ⟨loc,cap,h1,h2⟩).1 k];exact d k hk⟩
 | map es=>
  obtain ⟨b,ents,clk,h1,h2,h3,h4⟩:=h;exact ⟨b,ents,clk,hE.trans h1,h2,yp le _ _ h3,by rw [(t b h1).2];exact h4⟩
 | sit s pos=>
  obtain ⟨b,h1,h2⟩:=h;exact ⟨b,hE.trans h1,h2⟩
 | dead=>trivial
 | grow n e z es=>
  obtain ⟨loc,b,cap,i,vs,fz,h1,h2,h3,h4,f,j,u,v,x,d,l,m,q,A⟩:=h;exact ⟨loc,b,cap,i,vs,fz,hE.trans h1,h2,h3,h4,f,j,u,v,x,fun k hk=>by rw [(t b ⟨loc,cap,h1,h2⟩).1 k];exact d k hk,l,m,q,gq le _ _ _ _ A⟩
 | yZ=>exact hE.trans h
 | row n e z cs=>
  obtain ⟨loc,b,cap,i,pre,rest,h1,h2,h3,h4,f,j,u,v,x,d,l,m,q⟩:=h;exact ⟨loc,b,cap,i,pre,rest,hE.trans h1,h2,h3,h4,f,j,u,v,fun k=>by rw [(t b ⟨loc,cap,h1,h2⟩).1 k];exact x k,d,eA le _ _ l,m,q⟩
 | loop imm ps a c fr s p=>
  obtain ⟨b,r,h1,h2,h3,h4⟩:=h;exact ⟨b,r,hE.trans h1,h2,h3.mono le,h4⟩
theorem oI {g g':Gh} {id:Nat} {o:Obj} {b:Nat} (hE:g'.E id=g.E id):At g' id o b↔At g id o b:=by
 cases o <;> simp [At,hE]
def Gh.dm (g:Gh) (id:Nat) (e:nt):Gh:={g with E:=fun j=>if j=id then some e else g.E j}
theorem Gh.aZ (g:Gh) (id:Nat) (e:nt):(g.dm id e).E id=some e:=by simp [Gh.dm]
theorem Gh.ca (g:Gh) (e:nt) {id j:Nat} (h:j≠id):(g.dm id e).E j=g.E j:=by simp [Gh.dm,h]
theorem Le.dm {g:Gh} {id:Nat} {e:nt} (h:g.E id=none):Le g (g.dm id e):=by
 refine ⟨fun _ _ _ x=>x,fun _ _ x=>x,fun j b x=> ?_,fun j loc x=>⟨loc, ?_,fun _ _ y=>y⟩⟩
 .have:j≠id:=fun e=>by subst e;rw [h] at x;cases x
  rw [Gh.ca _ _ this];exact x
 .have:j≠id:=fun e=>by subst e;rw [h] at x;cases x
  rw [Gh.ca _ _ this];exact x
theorem Kp.dm {A:Nat->Prop} {g:Gh} {w:World} {id:Nat} {e:nt} (h:g.E id=none):Kp A g w (g.dm id e) w:=
 ⟨WW _,fun _ _=>rfl,fun _ _ _=>rfl,fun _ _=>rfl,Le.dm h,rfl,rfl,rfl⟩
theorem Inv.name {T:TT} {A:Nat->Prop} {g:Gh} {st:St} {w:World} (h:Inv T A g st w) (o:Obj) (e:nt) (b:Nat)
  (hb: ∀id o',st.get id= .ok o'->¬ At g id o' b) (hA:A b) (c: ∀b',At (g.dm st.h e) st.h o b'->b'=b)
  (ho:Holds T (g.dm st.h e) w st.h o):Inv T A (g.dm st.h e) (st.new o).2 w where
 F:=h.F
 M:=h.M
 E id hid:=by
  have i:st.h+1<=id:=hid;rw [Gh.ca _ _ (by omega)];exact h.E id (by omega)
 H id o' f:=by
  rcases St.fV.1 f with ⟨rfl,rfl⟩ | ⟨j,d⟩
  .exact ho
  .exact jQ (h.H id o' d) (Le.dm (h.E _ (WW _))) (Gh.ca _ _ (by omega)) fun _ _=>⟨fun _=>rfl,rfl⟩
 D id id' o1 k b' h1 h2 a a2:=by
  rcases St.fV.1 h1 with ⟨rfl,rfl⟩ | ⟨l1,g1⟩ <;> rcases St.fV.1 h2 with ⟨rfl,rfl⟩ | ⟨l2,g2⟩
  .rfl
  .rw [oI (Gh.ca _ _ (by omega))] at a2;have:=c b' a;subst this;exact absurd a2 (hb _ _ g2)
  .rw [oI (Gh.ca _ _ (by omega))] at a;have:=c b' a2;subst this;exact absurd a (hb _ _ g1)
  .rw [oI (Gh.ca _ _ (by omega))] at a a2;exact h.D id id' o1 k b' g1 g2 a a2
 own id o' b' h1 a hr:=by
  rcases St.fV.1 h1 with ⟨rfl,rfl⟩ | ⟨l1,g1⟩
  .rw [c b' a];exact hA
  .rw [oI (Gh.ca _ _ (by omega))] at a;exact h.own id o' b' g1 a hr
 up:=h.up
def Gh.cP (g:Gh) (b lo:Nat) (vs:List Value):Gh:={g with F:=fun b' o=>if b'=b/\lo<=o/\o < lo+vs.length then vs[o - lo]? else g.F b' o}
theorem Gh.kg (g:Gh) (b lo:Nat) (vs:List Value) (i:Nat) (v:Value) (h:vs[i]? =some v):(g.cP b lo vs).F b (lo+i)=some v:=by
 have hi:i < vs.length:=by
  rcases Nat.lt_or_ge i vs.length with k | k
  .exact k
  .simp [Xu k] at h
 simp only [Gh.cP];rw [if_pos ⟨trivial,by omega,by omega⟩,show lo+i - lo=i by omega];exact h
theorem Gh.cX (g:Gh) (b lo:Nat) (vs:List Value) {b' o:Nat} (h:b'≠b\/o < lo\/lo+vs.length<=o):(g.cP b lo vs).F b' o=g.F b' o:=by
 simp only [Gh.cP];rw [if_neg (by omega)]
theorem Le.cP {g:Gh} {b lo:Nat} {vs:List Value} (h: ∀o,lo<=o->o < lo+vs.length->g.F b o=none):Le g (g.cP b lo vs):=by
 refine ⟨fun b' o v hv=> ?_,fun _ _ x=>x,fun _ _ x=>x,fun _ loc x=>⟨loc,x,fun _ _ y=>y⟩⟩;by_cases hc:b'=b/\lo<=o/\o < lo+vs.length
 .obtain ⟨rfl,h1,h2⟩:=hc;rw [h o h1 h2] at hv;cases hv
 .rw [Gh.cX _ _ _ _ (by omega)];exact hv
theorem Inv.cP {T:TT} {A:Nat->Prop} {g:Gh} {st:St} {w:World} (h:Inv T A g st w) (b lo:Nat) (vs:List Value)
  (a: ∀o,lo<=o->o < lo+vs.length->g.F b o=none) (c: ∀i v,vs[i]? =some v->w.cell? ⟨b,lo+i,none⟩=some v)
  (d: ∀id o,st.get id= .ok o->¬ At g id o b):Inv T A (g.cP b lo vs) st w where
 F b' o v hv:=by
  by_cases hc:b'=b/\lo<=o/\o < lo+vs.length
  .obtain ⟨rfl,h1,h2⟩:=hc;simp only [Gh.cP] at hv;rw [if_pos ⟨trivial,h1,h2⟩] at hv;have:=c _ _ hv
   rwa [show lo+(o - lo)=o by omega] at this
  .rw [Gh.cX _ _ _ _ (by omega)] at hv;exact h.F b' o v hv
 M:=h.M
 E:=h.E
 H id o ho:=jQ (h.H id o ho) (Le.cP a) rfl fun _ f=>⟨fun _=>Gh.cX _ _ _ _ (.inl fun e=>d id o ho (e ▸ f)),rfl⟩
 D:=h.D
 own:=h.own
 up:=h.up
theorem Kp.cP {A:Nat->Prop} {g:Gh} {w:World} {b lo:Nat} {vs:List Value} (hA:A b) (h: ∀o,lo<=o->o < lo+vs.length->g.F b o=none):Kp A g w (g.cP b lo vs) w:=
 ⟨WW _,fun _ _=>rfl,fun _ a _=>Gh.cX _ _ _ _ (.inl fun e=>a (e ▸ hA)),fun _ _=>rfl,Le.cP h,rfl,rfl,rfl⟩
theorem Inv.write {T:TT} {A:Nat->Prop} {g:Gh} {st:St} {w w':World} (h:Inv T A g st w) {id b:Nat} {o:Obj} (hid:st.get id= .ok o) (d:At g id o b) (o':Obj)
  (hs:w'.heap.size=w.heap.size) (hw: ∀b',b'≠b->w'.heap[b']? =w.heap[b']?)
  (p: ∀k v,g.F b k=some v->w'.cell? ⟨b,k,none⟩=some v) (q:g.M b=none)
  (c: ∀b',At g id o' b'->b'=b) (n:Holds T g w' id o'):Inv T A g (st.put id o') w' where
 F b' k v hv:=by
  by_cases hb:b'=b
  .subst hb;exact p k v hv
  .rw [sC (hw b' hb)];exact h.F b' k v hv
 M b' ents clk hm:=by
  by_cases hb:b'=b
  .subst hb;rw [q] at hm;cases hm
  .rw [hw b' hb];exact h.M b' ents clk hm
 E:=h.E
 H j u hu:=by
  by_cases hj:j=id
  .subst hj;have a:=(St.ch.1 hid).1;rw [St.aQ a] at hu;cases hu;exact n
  .rw [St.aY (fun e=>hj e.symm)] at hu;refine mq (h.H j u hu) fun b' f=>hw b' fun e=> ?_;subst e;exact hj (h.D j id u o b' hu hid f d)
 D i j u v b' h1 h2 l a2:=by
  have a:=(St.ch.1 hid).1;have key: ∀i u,(st.put id o').get i= .ok u->At g i u b'-> ∃m,st.get i= .ok m/\At g i m b':=fun i u hu ha=>by
   by_cases hi:i=id
   .subst hi;rw [St.aQ a] at hu;cases hu;have:=c b' ha;subst this;exact ⟨o,hid,d⟩
   .rw [St.aY (fun e=>hi e.symm)] at hu;exact ⟨u,hu,ha⟩
  obtain ⟨m,k1,k2⟩:=key i u h1 l;obtain ⟨v',r,s⟩:=key j v h2 a2;exact h.D i j m v' b' k1 r k2 s
 own i u b' h1 l hr:=by
  have a:=(St.ch.1 hid).1;by_cases hi:i=id
  .subst hi;rw [St.aQ a] at h1;cases h1;have:=c b' l;subst this;exact h.own i o b' hid d hr
  .rw [St.aY (fun e=>hi e.symm)] at h1;exact h.own i u b' h1 l hr
 up b' f:=h.up b' (by omega)
theorem Kp.write {A:Nat->Prop} {g:Gh} {w w':World} {b:Nat} (hA:A b) (hs:w'.heap.size=w.heap.size) (hw: ∀b',b'≠b->w'.heap[b']? =w.heap[b']?) (ho:w'.os=w.os/\w'.tape=w.tape/\w'.output=w.output:=by exact ⟨rfl,rfl,rfl⟩):Kp A g w g w':=
 ⟨by omega,fun b' a=>hw b' fun e=>a (e ▸ hA),fun _ _ _=>rfl,fun _ _=>rfl,Le.refl g,ho⟩
end Go.VM
