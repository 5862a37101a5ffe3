/-
  A part of the proof.
-/
import Derived.Test.YtpinfliihpdjcaaGreatDoorVmAB
import Derived.Calls
import Derived.Laws.World
import Derived.Laws.Sem
import Derived.Orders
set_option linter.all false
namespace Go.VM
inductive jo where
 | blk (b:Nat)
 | tok (loc:Nat->Option (Nat×Nat))
structure Gh where
 F:Nat->Nat->Option Value
 M:Nat->Option (List MapEntry×Nat)
 E:Nat->Option jo
 C:Prop
def oH (g:Gh) (p:Perm) (n b o cap:Nat):Prop:=
 match p with
 | .shut=>cap=n
 | .wide=>True
 | .own k=>o=0/\ ∃loc,g.E k=some (.tok loc)/\loc n=some (b,cap)
mutual
def R (g:Gh):AV->Value->Prop
 | .bool b,x=>x= .bool b
 | .int k n,x=>x= .int k n
 | .str s,x=>x= .string ⟨s.toArray⟩
 | .flt k b,x=>x= .float k b
 | .nilp,x=>x= .pointer none
 | .ip cs,x=>bx cs=true/\ ∃b o,x= .pointer (some ⟨b,o,none⟩)/\ig g cs b o
 | .mp id off,x=> ∃b,g.E id=some (.blk b)/\x= .pointer (some ⟨b,off,none⟩)
 | .aG,x=>x= .slice none 0 0
 | .sl z es p,x=>bx es=true/\ ∃b o cap,x= .slice (some ⟨b,o,none⟩) es.length cap/\es.length<=cap/\1<=z/\eR g z es b o/\oH g p es.length b o cap
 | .ms id off z len cap,x=> ∃b o,g.E id=some (.blk b)/\ ∃c,x= .slice (some ⟨b,o,none⟩) len c/\len<=c/\1<=z/\(c≠0->o=off)/\(cap=c\/cap=0)
 | .nilm,x=>x= .map none
 | .mm id,x=> ∃b,g.E id=some (.blk b)/\x= .map (some b)
 | .im es,x=> ∃b ents clk,g.M b=some (ents,clk)/\x= .map (some b)/\mi g es ents
 | .fn f a c,x=> ∃a' c',x= .func f a' c'/\RL g a a'.toList/\RL g c c'.toList
 | .nilfn,x=>x= .nilFunc
 | .iface t v,x=> ∃y,x= .iface t y/\R g v y
 | .nili,x=>x= .nilIface
 | .agg cs,x=> ∃ys,x= .agg ys/\RL g cs ys.toList
 | .tup vs,x=> ∃ys,x= .tuple ys/\RL g vs ys.toList
 | .gs k z n,x=> ∃loc b cap,g.E k=some (.tok loc)/\loc n=some (b,cap)/\x= .slice (some ⟨b,0,none⟩) n cap/\n<=cap/\1<=z
 | .gp k n off,x=> ∃loc b cap,g.E k=some (.tok loc)/\loc n=some (b,cap)/\x= .pointer (some ⟨b,off,none⟩)
 | .es,x=> ∃a,x= .slice (some a) 0 0
 | .opq i,x=>(i=true/\(x= .nilIface\/ ∃t y,x= .iface t y))\/(i=false/\ ∃a,x= .pointer a)
 | .yld k,x=> ∃l,g.E k=some (.blk l)/\x= .func (.yield l) #[] #[]
def RL (g:Gh):List AV->List Value->Prop
 | [],l=>l=[]
 | v::vs,l=> ∃x xs,l=x::xs/\R g v x/\RL g vs xs
def ig (g:Gh):List AV->Nat->Nat->Prop
 | [],_,_=>True
 | v::vs,b,o=>(∃x,g.F b o=some x/\x.oneCell'=true/\R g v x)/\ig g vs b (o+1)
def eR (g:Gh) (z:Nat):List AV->Nat->Nat->Prop
 | [],_,_=>True
 | .agg cs::vs,b,o=>(cs.length=z/\ig g cs b o)/\eR g z vs b (o+z)
 | v::vs,b,o=>(1=z/\ ∃x,g.F b o=some x/\x.oneCell'=true/\R g v x)/\eR g z vs b (o+z)
def mi (g:Gh):List (AV×AV)->List MapEntry->Prop
 | [],l=>l=[]
 | (k,v)::es,l=> ∃e l',l=e::l'/\R g k e.key/\R g v e.val/\mi g es l'
end
theorem fS (g:Gh) (z:Nat) (v:AV) (vs:List AV) (b o:Nat):
  eR g z (v::vs) b o↔v.cells.length=z/\ig g v.cells b o/\eR g z vs b (o+z):=by
 cases v <;> simp [eR,AV.cells,ig,and_assoc]
structure Le (g g':Gh):Prop where
 F: ∀b o v,g.F b o=some v->g'.F b o=some v
 M: ∀b e,g.M b=some e->g'.M b=some e
 blk: ∀id b,g.E id=some (.blk b)->g'.E id=some (.blk b)
 tok: ∀id loc,g.E id=some (.tok loc)-> ∃loc',g'.E id=some (.tok loc')/\ ∀n x,loc n=some x->loc' n=some x
 C:g'.C↔g.C
theorem Le.refl (g:Gh):Le g g:=⟨fun _ _ _ h=>h,fun _ _ h=>h,fun _ _ h=>h,fun _ loc h=>⟨loc,h,fun _ _ h=>h⟩,Iff.rfl⟩
theorem Le.trans {a b c:Gh} (h:Le a b) (k:Le b c):Le a c:=
 ⟨fun _ _ _ x=>k.F _ _ _ (h.F _ _ _ x),fun _ _ x=>k.M _ _ (h.M _ _ x),fun _ _ x=>k.blk _ _ (h.blk _ _ x),fun id loc x=>by
  obtain ⟨l1,d,e⟩:=h.tok id loc x;obtain ⟨l2,f,g⟩:=k.tok id l1 d;exact ⟨l2,f,fun n y hy=>g _ _ (e _ _ hy)⟩,k.C.trans h.C⟩
theorem zM {g g':Gh} (h:Le g g') {p:Perm} {n b o cap:Nat} (a:oH g p n b o cap):oH g' p n b o cap:=by
 cases p with
 | shut=>exact a
 | wide=>exact a
 | own k=>
  obtain ⟨h0,loc,h1,c⟩:=a;obtain ⟨loc',d,h4⟩:=h.tok k loc h1;exact ⟨h0,loc',d,h4 _ _ c⟩
mutual
theorem jF {g g':Gh} (h:Le g g'): ∀(v:AV) (x:Value),R g v x->R g' v x
 | .bool _,_,hr | .int _ _,_,hr | .str _,_,hr | .flt _ _,_,hr | .nilp,_,hr | .aG,_,hr | .nilm,_,hr | .nilfn,_,hr | .nili,_,hr | .es,_,hr | .opq _,_,hr=>by
  simpa only [R] using hr
 | .ip cs,x,hr=>by
  simp only [R] at hr ⊢;obtain ⟨h0,b,o,h1,h2⟩:=hr;exact ⟨h0,b,o,h1,nY h cs b o h2⟩
 | .mp id off,x,hr=>by
  simp only [R] at hr ⊢;obtain ⟨b,h1,h2⟩:=hr;exact ⟨b,h.blk _ _ h1,h2⟩
 | .sl z es p,x,hr=>by
  simp only [R] at hr ⊢;obtain ⟨h0,b,o,cap,h1,h2,h2',h3,h4⟩:=hr;exact ⟨h0,b,o,cap,h1,h2,h2',eG h z es b o h3,zM h h4⟩
 | .ms id off z len cap,x,hr=>by
  simp only [R] at hr ⊢;obtain ⟨b,o,h1,h2⟩:=hr;exact ⟨b,o,h.blk _ _ h1,h2⟩
 | .gs k z n,x,hr=>by
  simp only [R] at hr ⊢;obtain ⟨loc,b,cap,h1,h2,h3⟩:=hr;obtain ⟨loc',h4,h5⟩:=h.tok k loc h1;exact ⟨loc',b,cap,h4,h5 _ _ h2,h3⟩
 | .gp k n off,x,hr=>by
  simp only [R] at hr ⊢;obtain ⟨loc,b,cap,h1,h2,h3⟩:=hr;obtain ⟨loc',h4,h5⟩:=h.tok k loc h1;exact ⟨loc',b,cap,h4,h5 _ _ h2,h3⟩
 | .mm id,x,hr=>by
  simp only [R] at hr ⊢;obtain ⟨b,h1,h2⟩:=hr;exact ⟨b,h.blk _ _ h1,h2⟩
 | .yld k,x,hr=>by
  simp only [R] at hr ⊢;obtain ⟨b,h1,h2⟩:=hr;exact ⟨b,h.blk _ _ h1,h2⟩
 | .im es,x,hr=>by
  simp only [R] at hr ⊢;obtain ⟨b,ents,clk,h1,h2,h3⟩:=hr;exact ⟨b,ents,clk,h.M _ _ h1,h2,tu h es ents h3⟩
 | .fn f a c,x,hr=>by
  simp only [R] at hr ⊢;obtain ⟨a',c',h1,h2,h3⟩:=hr;exact ⟨a',c',h1,cT h a _ h2,cT h c _ h3⟩
 | .iface t v,x,hr=>by
  simp only [R] at hr ⊢;obtain ⟨y,h1,h2⟩:=hr;exact ⟨y,h1,jF h v y h2⟩
 | .agg cs,x,hr=>by
  simp only [R] at hr ⊢;obtain ⟨y,h1,h2⟩:=hr;exact ⟨y,h1,cT h cs _ h2⟩
 | .tup cs,x,hr=>by
  simp only [R] at hr ⊢;obtain ⟨y,h1,h2⟩:=hr;exact ⟨y,h1,cT h cs _ h2⟩
theorem cT {g g':Gh} (h:Le g g'): ∀(vs:List AV) (xs:List Value),RL g vs xs->RL g' vs xs
 | [],_,hr=>by simp only [RL] at hr ⊢;exact hr
 | v::vs,l,hr=>by
  simp only [RL] at hr ⊢;obtain ⟨x,xs,h1,h2,h3⟩:=hr;exact ⟨x,xs,h1,jF h v x h2,cT h vs xs h3⟩
theorem nY {g g':Gh} (h:Le g g'): ∀(vs:List AV) (b o:Nat),ig g vs b o->ig g' vs b o
 | [],_,_,_=>by simp only [ig]
 | v::vs,b,o,hr=>by
  simp only [ig] at hr ⊢;obtain ⟨⟨x,h1,h2,h3⟩,h4⟩:=hr;exact ⟨⟨x,h.F _ _ _ h1,h2,jF h v x h3⟩,nY h vs b (o+1) h4⟩
theorem eG {g g':Gh} (h:Le g g') (z:Nat): ∀(vs:List AV) (b o:Nat),eR g z vs b o->eR g' z vs b o
 | [],_,_,_=>by simp only [eR]
 | v::vs,b,o,hr=>by
  cases v with
  | agg cs=>
   simp only [eR] at hr ⊢;exact ⟨⟨hr.1.1,nY h cs b o hr.1.2⟩,eG h z vs b (o+z) hr.2⟩
  | _=>
   simp only [eR] at hr ⊢;obtain ⟨⟨h0,x,h1,h2,h3⟩,h4⟩:=hr;exact ⟨⟨h0,x,h.F _ _ _ h1,h2,jF h _ x h3⟩,eG h z vs b (o+z) h4⟩
theorem tu {g g':Gh} (h:Le g g'): ∀(es:List (AV×AV)) (l:List MapEntry),mi g es l->mi g' es l
 | [],_,hr=>by simp only [mi] at hr ⊢;exact hr
 | (k,v)::es,l,hr=>by
  simp only [mi] at hr ⊢;obtain ⟨e,l',h1,h2,h3,h4⟩:=hr;exact ⟨e,l',h1,jF h k _ h2,jF h v _ h3,tu h es l' h4⟩
end
structure wW (g g':Gh):Prop where
 F: ∀b o v,g.F b o=some v->g'.F b o=some v
 M: ∀b e,g.M b=some e->g'.M b=some e
abbrev lY:=bare.lY
theorem bw (v:AV) (l:List AV):bx (v::l)=(bare v&&bx l):=rfl
mutual
theorem jB {g g':Gh} (h:wW g g'): ∀(v:AV) (x:Value),bare v=true->R g v x->R g' v x
 | .bool _,_,_,hr | .int _ _,_,_,hr | .str _,_,_,hr | .flt _ _,_,_,hr | .nilp,_,_,hr | .aG,_,_,hr | .nilm,_,_,hr | .nilfn,_,_,hr | .nili,_,_,hr | .es,_,_,hr | .opq _,_,_,hr=>by
  simpa only [R] using hr
 | .ip cs,x,_,hr=>by
  simp only [R] at hr ⊢;obtain ⟨h0,b,o,h1,h2⟩:=hr;exact ⟨h0,b,o,h1,oK h cs b o h0 h2⟩
 | .mp id off,x,hb,hr=>by simp [bare] at hb
 | .sl z es p,x,hb,hr=>by
  simp only [R] at hr ⊢;obtain ⟨h0,b,o,cap,h1,h2,h2',h3,h4⟩:=hr;refine ⟨h0,b,o,cap,h1,h2,h2',pR h z es b o h0 h3, ?_⟩;cases p with
  | shut=>exact h4
  | wide=>exact h4
  | own k=>simp [bare] at hb
 | .ms ..,x,hb,hr=>by simp [bare] at hb
 | .mm id,x,hb,hr=>by simp [bare] at hb
 | .yld _,x,hb,hr=>by simp [bare] at hb
 | .im es,x,hb,hr=>by
  simp only [R] at hr ⊢;obtain ⟨b,ents,clk,h1,h2,h3⟩:=hr;simp only [bare] at hb;exact ⟨b,ents,clk,h.M _ _ h1,h2,xN h es ents hb h3⟩
 | .fn f a c,x,hb,hr=>by
  simp only [R] at hr ⊢;simp only [bare,N0] at hb;obtain ⟨a',c',h1,h2,h3⟩:=hr;exact ⟨a',c',h1,mI h a _ hb.1 h2,mI h c _ hb.2 h3⟩
 | .iface t v,x,hb,hr=>by
  simp only [R] at hr ⊢;simp only [bare] at hb;obtain ⟨y,h1,h2⟩:=hr;exact ⟨y,h1,jB h v y hb h2⟩
 | .agg cs,x,hb,hr=>by
  simp only [R] at hr ⊢;simp only [bare] at hb;obtain ⟨y,h1,h2⟩:=hr;exact ⟨y,h1,mI h cs _ hb h2⟩
 | .tup cs,x,hb,hr=>by
  simp only [R] at hr ⊢;simp only [bare] at hb;obtain ⟨y,h1,h2⟩:=hr;exact ⟨y,h1,mI h cs _ hb h2⟩
theorem mI {g g':Gh} (h:wW g g'): ∀(vs:List AV) (xs:List Value),bx vs=true->RL g vs xs->RL g' vs xs
 | [],_,_,hr=>by simp only [RL] at hr ⊢;exact hr
 | v::vs,l,hb,hr=>by
  simp only [RL] at hr ⊢;simp only [bw,N0] at hb;obtain ⟨x,xs,h1,h2,h3⟩:=hr;exact ⟨x,xs,h1,jB h v x hb.1 h2,mI h vs xs hb.2 h3⟩
theorem oK {g g':Gh} (h:wW g g'): ∀(vs:List AV) (b o:Nat),bx vs=true->ig g vs b o->ig g' vs b o
 | [],_,_,_,_=>by simp only [ig]
 | v::vs,b,o,hb,hr=>by
  simp only [ig] at hr ⊢;simp only [bw,N0] at hb;obtain ⟨⟨x,h1,h2,h3⟩,h4⟩:=hr;exact ⟨⟨x,h.F _ _ _ h1,h2,jB h v x hb.1 h3⟩,oK h vs b (o+1) hb.2 h4⟩
theorem pR {g g':Gh} (h:wW g g') (z:Nat): ∀(vs:List AV) (b o:Nat),bx vs=true->eR g z vs b o->eR g' z vs b o
 | [],_,_,_,_=>by simp only [eR]
 | v::vs,b,o,hb,hr=>by
  simp only [bw,N0] at hb;cases v with
  | agg cs=>
   simp only [eR] at hr ⊢;exact ⟨⟨hr.1.1,oK h cs b o hb.1 hr.1.2⟩,pR h z vs b (o+z) hb.2 hr.2⟩
  | _=>
   simp only [eR] at hr ⊢;obtain ⟨⟨h0,x,h1,h2,h3⟩,h4⟩:=hr;exact ⟨⟨h0,x,h.F _ _ _ h1,h2,jB h _ x hb.1 h3⟩,pR h z vs b (o+z) hb.2 h4⟩
theorem xN {g g':Gh} (h:wW g g'): ∀(es:List (AV×AV)) (l:List MapEntry),lY es=true->mi g es l->mi g' es l
 | [],_,_,hr=>by simp only [mi] at hr ⊢;exact hr
 | (k,v)::es,l,hb,hr=>by
  simp only [mi] at hr ⊢;simp only [lY,bare.lY,N0] at hb;obtain ⟨e,l',h1,h2,h3,h4⟩:=hr;exact ⟨e,l',h1,jB h k _ hb.1.1 h2,jB h v _ hb.1.2 h3,xN h es l' hb.2 h4⟩
end
section
variable {g:Gh}
theorem dF:RL g [] []:=by simp [RL]
theorem bJ {v:AV} {vs:List AV} {x:Value} {xs:List Value} (h:R g v x) (hs:RL g vs xs):RL g (v::vs) (x::xs):=by
 simp only [RL];exact ⟨x,xs,rfl,h,hs⟩
theorem cD: ∀{vs:List AV} {xs:List Value},RL g vs xs->xs.length=vs.length
 | [],_,h=>by simp only [RL] at h;subst h;rfl
 | _:: _,_,h=>by
  simp only [RL] at h;obtain ⟨x,xs,rfl,_,a⟩:=h;simp [cD a]
theorem df: ∀{vs us:List AV} {xs ys:List Value},RL g vs xs->RL g us ys->RL g (vs++us) (xs++ys)
 | [],_,_,_,h,k=>by simp only [RL] at h;subst h;exact k
 | _:: _,_,_,_,h,k=>by
  simp only [RL] at h;obtain ⟨x,xs,rfl,h1,a⟩:=h;exact bJ h1 (df a k)
theorem jw: ∀(n:Nat) {vs:List AV} {xs:List Value},RL g vs xs->RL g (vs.take n) (xs.take n)
 | 0,_,_,_=>by simp [RL]
 | _+1,[],_,h=>by simp only [RL] at h;subst h;simp [RL]
 | n+1,_:: _,_,h=>by
  simp only [RL] at h;obtain ⟨x,xs,rfl,h1,a⟩:=h;exact bJ h1 (jw n a)
theorem fK: ∀(n:Nat) {vs:List AV} {xs:List Value},RL g vs xs->RL g (vs.drop n) (xs.drop n)
 | 0,_,_,h=>h
 | _+1,[],_,h=>by simp only [RL] at h;subst h;simp [RL]
 | n+1,_:: _,_,h=>by
  simp only [RL] at h;obtain ⟨x,xs,rfl,h1,a⟩:=h;exact fK n a
theorem DW: ∀{vs:List AV} {xs:List Value} {n:Nat} {v:AV},RL g vs xs->fa vs n= .ok v-> ∃x,xs[n]? =some x/\R g v x
 | [],_,_,_,_,e=>by simp [fa] at e
 | _:: _,_,0,_,h,e=>by
  simp only [RL] at h;obtain ⟨x,xs,rfl,h1,a⟩:=h;simp only [fa,NT] at e;subst e;exact ⟨x,rfl,h1⟩
 | _:: _,_,n+1,_,h,e=>by
  simp only [RL] at h;obtain ⟨x,xs,rfl,h1,a⟩:=h;simp only [fa] at e;obtain ⟨y,hy,b⟩:=DW a e;exact ⟨y,by simpa using hy,b⟩
theorem qy: ∀{vs:List AV} {xs:List Value} {n:Nat} {v:AV},RL g vs xs->vs[n]? =some v-> ∃x,xs[n]? =some x/\R g v x
 | [],_,_,_,_,e=>by simp at e
 | _:: _,_,0,_,h,e=>by
  simp only [RL] at h;obtain ⟨x,xs,rfl,h1,a⟩:=h;simp only [PD,N1] at e;subst e;exact ⟨x,rfl,h1⟩
 | _:: _,_,n+1,_,h,e=>by
  simp only [RL] at h;obtain ⟨x,xs,rfl,h1,a⟩:=h;simp only [PE] at e;obtain ⟨y,hy,b⟩:=qy a e;exact ⟨y,by simpa using hy,b⟩
theorem nv: ∀{vs us:List AV} {b o:Nat},ig g (vs++us) b o↔ig g vs b o/\ig g us b (o+vs.length)
 | [],us,b,o=>by simp [ig]
 | v::vs,us,b,o=>by
  simp only [Pu,ig,nv (vs:=vs),Om,and_assoc];rw [show o+1+vs.length=o+(vs.length+1) by omega]
theorem zf {vs:List AV} {b o:Nat} (n:Nat) (h:ig g vs b o) (c:n<=vs.length):ig g (vs.drop n) b (o+n):=by
 have a:=h;rw [<- OY n vs,nv] at a;have:=a.2
 rwa [Oa,Pv c] at this
theorem uQ {vs:List AV} {b o:Nat} (n:Nat) (h:ig g vs b o):ig g (vs.drop n) b (o+n):=by
 rcases Nat.le_total n vs.length with k | k
 .exact zf n h k
 .rw [List.drop_eq_nil_of_le k];simp [ig]
theorem fZ: ∀{vs:List AV} {b o:Nat},ig g vs b o-> ∃xs:List Value,RL g vs xs/\(∀i x,xs[i]? =some x->g.F b (o+i)=some x/\x.oneCell'=true)
 | [],_,_,_=>⟨[],by simp [RL],by simp⟩
 | v::vs,b,o,h=>by
  simp only [ig] at h;obtain ⟨⟨x,h1,a,c⟩,h4⟩:=h;obtain ⟨xs,d,e⟩:=fZ h4;refine ⟨x::xs,bJ c d, ?_⟩;intro i y hy;cases i with
  | zero=>simp only [PD,N1] at hy;subst hy;exact ⟨h1,a⟩
  | succ i=>
   simp only [PE] at hy;have:=e i y hy
   rwa [show o+1+i=o+(i+1) by omega] at this
theorem cF: ∀{vs:List AV} {xs:List Value} {b o:Nat},RL g vs xs->(∀i x,xs[i]? =some x->g.F b (o+i)=some x/\x.oneCell'=true)->ig g vs b o
 | [],_,_,_,_,_=>by simp [ig]
 | v::vs,l,b,o,h,k=>by
  simp only [RL] at h;obtain ⟨x,xs,rfl,h1,c⟩:=h;simp only [ig];have a:=k 0 x rfl;refine ⟨⟨x,a.1,a.2,h1⟩,cF c fun i y hy=> ?_⟩;have:=k (i+1) y (by simpa using hy)
  rwa [show o+(i+1)=o+1+i by omega] at this
theorem fk (v:AV) (l:List AV):flat (v::l)=v.cells++flat l:=rfl
theorem jv (l m:List AV):flat (l++m)=flat l++flat m:=by
 induction l with
 | nil=>rfl
 | cons v l ih=>simp [fk,ih]
theorem da {z:Nat}: ∀{vs:List AV} {b o:Nat},eR g z vs b o↔(∀v∈vs,v.cells.length=z)/\ig g (flat vs) b o
 | [],b,o=>by simp [eR,flat,ig]
 | v::vs,b,o=>by
  rw [fS,da (vs:=vs),fk,nv];constructor
  .rintro ⟨h1,a,c,h4⟩;exact ⟨by simpa [h1] using c,a,by rwa [h1]⟩
  .rintro ⟨h1,a,c⟩;have d:=h1 v (by simp);exact ⟨d,a,fun u e=>h1 u (by simp [e]),by rwa [d] at c⟩
theorem cM {z:Nat}: ∀{vs:List AV},(∀v∈vs,v.cells.length=z)->(flat vs).length=vs.length * z
 | [],_=>by simp [flat]
 | v::vs,h=>by
  have h1:=h v (by simp);have a:=cM (vs:=vs) fun u b=>h u (by simp [b]);simp only [fk,N8,h1,a,Om,Nat.add_mul];omega
theorem ui {z:Nat}: ∀{vs:List AV} (n:Nat),(∀v∈vs,v.cells.length=z)->flat (vs.drop n)=(flat vs).drop (n * z)
 | [],n,_=>by simp [flat]
 | v::vs,0,_=>by simp
 | v::vs,n+1,h=>by
  have h1:=h v (by simp);have a:=ui (vs:=vs) n fun u b=>h u (by simp [b]);simp only [PJ,a,fk,Nat.add_mul,Nat.one_mul];rw [show n * z+z=v.cells.length+n * z by omega,List.drop_append];simp
theorem CH {z:Nat} {vs:List AV} {b o:Nat} (n:Nat) (h:eR g z vs b o) (a:n<=vs.length):eR g z (vs.drop n) b (o+n * z):=by
 rw [da] at h ⊢;refine ⟨fun v c=>h.1 v (List.mem_of_mem_drop c), ?_⟩;rw [ui n h.1];refine zf _ h.2 ?_;rw [cM h.1];exact Nat.mul_le_mul_right _ a
theorem jd {z:Nat} {vs us:List AV} {b o:Nat}:eR g z (vs++us) b o↔eR g z vs b o/\eR g z us b (o+vs.length * z):=by
 induction vs generalizing o with
 | nil=>simp [eR]
 | cons v vs ih=>
  rw [Pu,fS,fS,ih,Om];rw [show o+z+vs.length * z=o+(vs.length+1) * z by rw [Nat.add_mul];omega];simp [and_assoc]
theorem BU {z:Nat} {vs:List AV} {b o:Nat} (n:Nat) (h:eR g z vs b o):eR g z (vs.take n) b o:=by
 rw [<- OY n vs,jd] at h;exact h.1
theorem sC {z:Nat}: ∀{vs:List AV} {b o n:Nat} {v:AV},eR g z vs b o->fa vs n= .ok v->v.cells.length=z/\ig g v.cells b (o+n * z)
 | [],_,_,_,_,_,e=>by simp [fa] at e
 | u::us,b,o,0,v,h,e=>by
  simp only [fa,NT] at e;subst e;rw [fS] at h;exact ⟨h.1,by simpa using h.2.1⟩
 | u::us,b,o,n+1,v,h,e=>by
  simp only [fa] at e;rw [fS] at h;have:=sC h.2.2 e
  rwa [show o+z+n * z=o+(n+1) * z by rw [Nat.add_mul];omega] at this
end
theorem eu (l m:List AV):bx (l++m)=(bx l&&bx m):=by
 induction l with
 | nil=>rfl
 | cons v l ih=>simp only [Pu,bw,ih,Bool.and_assoc]
theorem AM {l:List AV} (n:Nat) (h:bx l=true):bx (l.take n)=true:=by
 rw [<- OY n l,eu,N0] at h;exact h.1
theorem nG {l:List AV} (n:Nat) (h:bx l=true):bx (l.drop n)=true:=by
 rw [<- OY n l,eu,N0] at h;exact h.2
theorem pG: ∀{l:List AV} {n:Nat} {v:AV},bx l=true->fa l n= .ok v->bare v=true
 | [],_,_,_,e=>by simp [fa] at e
 | u::us,0,v,h,e=>by
  simp only [fa,NT] at e;subst e;simp only [bw,N0] at h;exact h.1
 | u::us,n+1,v,h,e=>by
  simp only [fa] at e;simp only [bw,N0] at h;exact pG h.2 e
theorem qg {v:AV} (h:bare v=true):bx v.cells=true:=by
 cases v <;> first | exact h | simpa [AV.cells,bw,bx,bare.bareAll] using h
theorem qZ {g:Gh} {v:AV} {x:Value} (h:R g v x):R g (strip v) x:=by
 cases v with
 | sl z es p=>
  cases p with
  | own k=>
   simp only [strip,R] at h ⊢;obtain ⟨h0,b,o,cap,h1,c,a,d,h4⟩:=h;exact ⟨h0,b,o,cap,h1,c,a,d,trivial⟩
  | _=>exact h
 | _=>exact h
theorem jW {g:Gh}: ∀{vs:List AV} {xs:List Value},RL g vs xs->RL g (vs.map strip) xs
 | [],_,h=>h
 | v::vs,_,h=>by
  simp only [RL] at h;obtain ⟨x,xs,rfl,h1,a⟩:=h;exact bJ (qZ h1) (jW a)
theorem ad {α β:Type} {x:cl α} {f:α->cl β} {b:β}:(x >>= f)= .ok b↔ ∃a,x= .ok a/\f a= .ok b:=by
 cases x <;> simp [bind,Except.bind]
theorem aj {α:Type} {a b:α}:(pure a:cl α)= .ok b↔a=b:=by simp [pure,Except.pure]
theorem Lb {g:Gh} {v v':AV} {x:Value} (h:R g v x) (e:fit v= .ok v'):R g v' x/\bare v'=true/\v'.cells.length=v.cells.length:=by
 unfold fit at e;simp only at e;split at e
 .rename_i a;simp only [NT] at e;subst e;refine ⟨?_,a, ?_⟩
  .cases v with
   | agg cs=>
    simp only [R] at h ⊢;obtain ⟨ys,h1,b⟩:=h;exact ⟨ys,h1,jW b⟩
   | _=>exact qZ h
  .cases v with
   | agg cs=>simp [AV.cells]
   | sl z es p=>cases p <;> rfl
   | _=>rfl
 .simp at e
theorem xa {g:Gh}: ∀{vs vs':List AV} {xs:List Value},RL g vs xs->fits vs= .ok vs'->RL g vs' xs/\bx vs'=true
 | [],_,_,h,e=>by
  simp only [fits,NT] at e;subst e;exact ⟨h,rfl⟩
 | v::vs,vs',_,h,e=>by
  simp only [RL] at h;obtain ⟨x,xs,rfl,h1,a⟩:=h;simp only [fits,ad,aj] at e;obtain ⟨u,b,us,c,rfl⟩:=e;obtain ⟨d,f,_⟩:=Lb h1 b;obtain ⟨i,j⟩:=xa a c;exact ⟨bJ d i,by simp [bw,f,j]⟩
def gS (ops:List Oper):Bool:=
 (ops.zipIdx.all fun (o,j)=>o.after.toList.all fun e=> !Region.binds .any e||e.on.blt j)&&
 (ops.zipIdx.all fun (o,j)=>(ops.zipIdx.take j).all fun (o',i)=>o'.apart ops.toArray o||behind ops (j+1) j i)
def codeOk:Code->Bool
 | .region _ ops draw=> !draw||gS ops.toList
 | .seq a b=>codeOk a&&codeOk b
 | .cond _ a b=>codeOk a&&codeOk b
 | .block _ c=>codeOk c
 | .loop c=>codeOk c
 | .scope c=>codeOk c
 | .rangeFunc _ _ a c=>codeOk a&&codeOk c
 | _=>true
structure ra (g:Gh) (fr:Fr) (tmps:Array Value):Prop where
 size:tmps.size=fr.n
 at': ∀t,(fr.strict=true/\fr.t.get t=none)\/R g (fr.get t) (tmps.getD t Go.undef)
theorem ra.mono {g g':Gh} {fr:Fr} {tmps:Array Value} (h:ra g fr tmps) (le:Le g g'):ra g' fr tmps:=⟨h.size,fun t=>(h.at' t).imp id (jF le _ _)⟩
theorem ra.at {g:Gh} {fr:Fr} {tmps:Array Value} (h:ra g fr tmps) (hs:fr.strict=false) (t:Nat):R g (fr.get t) (tmps.getD t Go.undef):=by
 rcases h.at' t with ⟨h1,_⟩ | h1
 .rw [hs] at h1;cases h1
 .exact h1
def DI (s:Nat) (p:Ex) (r:Loop):Prop:=
 (s=0/\r.state= .ready/\r.pending=none/\p= .normal)\/(s=1/\r.state= .busy)\/(s=2/\r.state= .done/\((p= .ret/\r.pending=some .ret)\/ ∃i,p= .exit i/\r.pending=some (.exit i)))
end Go.VM
