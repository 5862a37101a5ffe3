/-
  A part of the proof.
-/
import Derived.Test.YtkbkbndajpbcjaaGreatDoorVmAB
import Derived.Calls
import Derived.Laws.World
import Derived.Laws.Sem
import Derived.Orders
set_option linter.all false
namespace Go.VM
inductive pq where
 | cG (b:Nat)
 | tok (loc:Nat->Oq (Nat×Nat))
structure Gh where
 F:Nat->Nat->Oq Value
 M:Nat->Oq (List MapEntry×Nat)
 E:Nat->Oq pq
def wI (g:Gh) (p:Perm) (n b o cap:Nat):Prop:=
 match p with
 | .shut=>cap=n
 | .wide=>True
 | .own k=>o=0/\ ∃loc,g.E k=some (.tok loc)/\loc n=some (b,cap)
mutual
def R (g:Gh):AV->Value->Prop
 | .bool b,x=>x= .bool b
 | .int k n,x=>x= .int k n
 | .str s,x=>x= .string ⟨s.toArray⟩
 | .flt k b,x=>x= .float k b
 | .nilp,x=>x= .pointer none
 | .ip cs,x=>bH cs=true/\ ∃b o,x= .pointer (some ⟨b,o,none⟩)/\pt g cs b o
 | .mp id off,x=> ∃b,g.E id=some (.cG b)/\x= .pointer (some ⟨b,off,none⟩)
 | .ax,x=>x= .slice none 0 0
 | .sl z es p,x=>bH es=true/\ ∃b o cap,x= .slice (some ⟨b,o,none⟩) es.length cap/\es.length<=cap/\1<=z/\iW g z es b o/\wI g p es.length b o cap
 | .ms id off z len cap,x=> ∃b o,g.E id=some (.cG b)/\ ∃c,x= .slice (some ⟨b,o,none⟩) len c/\len<=c/\1<=z/\(c≠0->o=off)/\(cap=c\/cap=0)
 | .nilm,x=>x= .map none
 | .mm id,x=> ∃b,g.E id=some (.cG b)/\x= .map (some b)
 | .im es,x=> ∃b ents clk,g.M b=some (ents,clk)/\x= .map (some b)/\tI g es ents
 | .fn f a c,x=> ∃a' c',x= .func f a' c'/\RL g a a'.toList/\RL g c c'.toList
 | .nilfn,x=>x= .nilFunc
 | .iface t v,x=> ∃y,x= .iface t y/\R g v y
 | .nili,x=>x= .nilIface
 | .agg cs,x=> ∃ys,x= .agg ys/\RL g cs ys.toList
 | .tup vs,x=> ∃ys,x= .tuple ys/\RL g vs ys.toList
 | .gs k z n,x=> ∃loc b cap,g.E k=some (.tok loc)/\loc n=some (b,cap)/\x= .slice (some ⟨b,0,none⟩) n cap/\n<=cap/\1<=z
 | .gp k n off,x=> ∃loc b cap,g.E k=some (.tok loc)/\loc n=some (b,cap)/\x= .pointer (some ⟨b,off,none⟩)
 | .es,x=> ∃a,x= .slice (some a) 0 0
 | .opq i,x=>(i=true/\(x= .nilIface\/ ∃t y,x= .iface t y))\/(i=false/\ ∃a,x= .pointer a)
 | .yld k,x=> ∃l,g.E k=some (.cG l)/\x= .func (.yield l) #[] #[]
def RL (g:Gh):List AV->List Value->Prop
 | [],l=>l=[]
 | v::vs,l=> ∃x xs,l=x::xs/\R g v x/\RL g vs xs
def pt (g:Gh):List AV->Nat->Nat->Prop
 | [],_,_=>True
 | v::vs,b,o=>(∃x,g.F b o=some x/\x.oneCell'=true/\R g v x)/\pt g vs b (o+1)
def iW (g:Gh) (z:Nat):List AV->Nat->Nat->Prop
 | [],_,_=>True
 | .agg cs::vs,b,o=>(cs.length=z/\pt g cs b o)/\iW g z vs b (o+z)
 | v::vs,b,o=>(1=z/\ ∃x,g.F b o=some x/\x.oneCell'=true/\R g v x)/\iW g z vs b (o+z)
def tI (g:Gh):List (AV×AV)->List MapEntry->Prop
 | [],l=>l=[]
 | (k,v)::es,l=> ∃e l',l=e::l'/\R g k e.key/\R g v e.val/\tI g es l'
end
theorem nH (g:Gh) (z:Nat) (v:AV) (vs:List AV) (b o:Nat):
  iW g z (v::vs) b o↔v.cells.length=z/\pt g v.cells b o/\iW g z vs b (o+z):=by
 cases v <;> simp [iW,AV.cells,pt,and_assoc]
structure Le (g g':Gh):Prop where
 F: ∀b o v,g.F b o=some v->g'.F b o=some v
 M: ∀b e,g.M b=some e->g'.M b=some e
 cG: ∀id b,g.E id=some (.cG b)->g'.E id=some (.cG b)
 tok: ∀id loc,g.E id=some (.tok loc)-> ∃loc',g'.E id=some (.tok loc')/\ ∀n x,loc n=some x->loc' n=some x
theorem Le.refl (g:Gh):Le g g:=⟨fun _ _ _ h=>h,fun _ _ h=>h,fun _ _ h=>h,fun _ loc h=>⟨loc,h,fun _ _ h=>h⟩⟩
theorem Le.trans {a b c:Gh} (h:Le a b) (k:Le b c):Le a c:=
 ⟨fun _ _ _ x=>k.F _ _ _ (h.F _ _ _ x),fun _ _ x=>k.M _ _ (h.M _ _ x),fun _ _ x=>k.cG _ _ (h.cG _ _ x),fun id loc x=>by
  obtain ⟨l1,d,e⟩:=h.tok id loc x;obtain ⟨l2,f,g⟩:=k.tok id l1 d;exact ⟨l2,f,fun n y hy=>g _ _ (e _ _ hy)⟩⟩
theorem Iu {g g':Gh} (h:Le g g') {p:Perm} {n b o cap:Nat} (hp:wI g p n b o cap):wI g' p n b o cap:=by
 cases p with
 | shut=>exact hp
 | wide=>exact hp
 | own k=>
  obtain ⟨h0,loc,h1,a⟩:=hp;obtain ⟨loc',c,d⟩:=h.tok k loc h1;exact ⟨h0,loc',c,d _ _ a⟩
mutual
theorem oX {g g':Gh} (h:Le g g'): ∀(v:AV) (x:Value),R g v x->R g' v x
 | .bool _,_,hr | .int _ _,_,hr | .str _,_,hr | .flt _ _,_,hr | .nilp,_,hr | .ax,_,hr | .nilm,_,hr | .nilfn,_,hr | .nili,_,hr | .es,_,hr | .opq _,_,hr=>by
  simpa only [R] using hr
 | .ip cs,x,hr=>by
  simp only [R] at hr ⊢;obtain ⟨h0,b,o,h1,h2⟩:=hr;exact ⟨h0,b,o,h1,vq h cs b o h2⟩
 | .mp id off,x,hr=>by
  simp only [R] at hr ⊢;obtain ⟨b,h1,h2⟩:=hr;exact ⟨b,h.cG _ _ h1,h2⟩
 | .sl z es p,x,hr=>by
  simp only [R] at hr ⊢;obtain ⟨h0,b,o,cap,h1,h2,h2',h3,h4⟩:=hr;exact ⟨h0,b,o,cap,h1,h2,h2',gV h z es b o h3,Iu h h4⟩
 | .ms id off z len cap,x,hr=>by
  simp only [R] at hr ⊢;obtain ⟨b,o,h1,h2⟩:=hr;exact ⟨b,o,h.cG _ _ h1,h2⟩
 | .gs k z n,x,hr=>by
  simp only [R] at hr ⊢;obtain ⟨loc,b,cap,h1,h2,h3⟩:=hr;obtain ⟨loc',h4,h5⟩:=h.tok k loc h1;exact ⟨loc',b,cap,h4,h5 _ _ h2,h3⟩
 | .gp k n off,x,hr=>by
  simp only [R] at hr ⊢;obtain ⟨loc,b,cap,h1,h2,h3⟩:=hr;obtain ⟨loc',h4,h5⟩:=h.tok k loc h1;exact ⟨loc',b,cap,h4,h5 _ _ h2,h3⟩
 | .mm id,x,hr=>by
  simp only [R] at hr ⊢;obtain ⟨b,h1,h2⟩:=hr;exact ⟨b,h.cG _ _ h1,h2⟩
 | .yld k,x,hr=>by
  simp only [R] at hr ⊢;obtain ⟨b,h1,h2⟩:=hr;exact ⟨b,h.cG _ _ h1,h2⟩
 | .im es,x,hr=>by
  simp only [R] at hr ⊢;obtain ⟨b,ents,clk,h1,h2,h3⟩:=hr;exact ⟨b,ents,clk,h.M _ _ h1,h2,Ak h es ents h3⟩
 | .fn f a c,x,hr=>by
  simp only [R] at hr ⊢;obtain ⟨a',c',h1,h2,h3⟩:=hr;exact ⟨a',c',h1,eZ h a _ h2,eZ h c _ h3⟩
 | .iface t v,x,hr=>by
  simp only [R] at hr ⊢;obtain ⟨y,h1,h2⟩:=hr;exact ⟨y,h1,oX h v y h2⟩
 | .agg cs,x,hr=>by
  simp only [R] at hr ⊢;obtain ⟨y,h1,h2⟩:=hr;exact ⟨y,h1,eZ h cs _ h2⟩
 | .tup cs,x,hr=>by
  simp only [R] at hr ⊢;obtain ⟨y,h1,h2⟩:=hr;exact ⟨y,h1,eZ h cs _ h2⟩
theorem eZ {g g':Gh} (h:Le g g'): ∀(vs:List AV) (xs:List Value),RL g vs xs->RL g' vs xs
 | [],_,hr=>by simp only [RL] at hr ⊢;exact hr
 | v::vs,l,hr=>by
  simp only [RL] at hr ⊢;obtain ⟨x,xs,h1,h2,h3⟩:=hr;exact ⟨x,xs,h1,oX h v x h2,eZ h vs xs h3⟩
theorem vq {g g':Gh} (h:Le g g'): ∀(vs:List AV) (b o:Nat),pt g vs b o->pt g' vs b o
 | [],_,_,_=>by simp only [pt]
 | v::vs,b,o,hr=>by
  simp only [pt] at hr ⊢;obtain ⟨⟨x,h1,h2,h3⟩,h4⟩:=hr;exact ⟨⟨x,h.F _ _ _ h1,h2,oX h v x h3⟩,vq h vs b (o+1) h4⟩
theorem gV {g g':Gh} (h:Le g g') (z:Nat): ∀(vs:List AV) (b o:Nat),iW g z vs b o->iW g' z vs b o
 | [],_,_,_=>by simp only [iW]
 | v::vs,b,o,hr=>by
  cases v with
  | agg cs=>
   simp only [iW] at hr ⊢;exact ⟨⟨hr.1.1,vq h cs b o hr.1.2⟩,gV h z vs b (o+z) hr.2⟩
  | _=>
   simp only [iW] at hr ⊢;obtain ⟨⟨h0,x,h1,h2,h3⟩,h4⟩:=hr;exact ⟨⟨h0,x,h.F _ _ _ h1,h2,oX h _ x h3⟩,gV h z vs b (o+z) h4⟩
theorem Ak {g g':Gh} (h:Le g g'): ∀(es:List (AV×AV)) (l:List MapEntry),tI g es l->tI g' es l
 | [],_,hr=>by simp only [tI] at hr ⊢;exact hr
 | (k,v)::es,l,hr=>by
  simp only [tI] at hr ⊢;obtain ⟨e,l',h1,h2,h3,h4⟩:=hr;exact ⟨e,l',h1,oX h k _ h2,oX h v _ h3,Ak h es l' h4⟩
end
structure VD (g g':Gh):Prop where
 F: ∀b o v,g.F b o=some v->g'.F b o=some v
 M: ∀b e,g.M b=some e->g'.M b=some e
abbrev sS:=bare.sS
theorem aJ (v:AV) (l:List AV):bH (v::l)=(bare v&&bH l):=rfl
mutual
theorem uV {g g':Gh} (h:VD g g'): ∀(v:AV) (x:Value),bare v=true->R g v x->R g' v x
 | .bool _,_,_,hr | .int _ _,_,_,hr | .str _,_,_,hr | .flt _ _,_,_,hr | .nilp,_,_,hr | .ax,_,_,hr | .nilm,_,_,hr | .nilfn,_,_,hr | .nili,_,_,hr | .es,_,_,hr | .opq _,_,_,hr=>by
  simpa only [R] using hr
 | .ip cs,x,_,hr=>by
  simp only [R] at hr ⊢;obtain ⟨h0,b,o,h1,h2⟩:=hr;exact ⟨h0,b,o,h1,vM h cs b o h0 h2⟩
 | .mp id off,x,hb,hr=>by simp [bare] at hb
 | .sl z es p,x,hb,hr=>by
  simp only [R] at hr ⊢;obtain ⟨h0,b,o,cap,h1,h2,h2',h3,h4⟩:=hr;refine ⟨h0,b,o,cap,h1,h2,h2',yg h z es b o h0 h3, ?_⟩;cases p with
  | shut=>exact h4
  | wide=>exact h4
  | own k=>simp [bare] at hb
 | .ms ..,x,hb,hr=>by simp [bare] at hb
 | .mm id,x,hb,hr=>by simp [bare] at hb
 | .yld _,x,hb,hr=>by simp [bare] at hb
 | .im es,x,hb,hr=>by
  simp only [R] at hr ⊢;obtain ⟨b,ents,clk,h1,h2,h3⟩:=hr;simp only [bare] at hb;exact ⟨b,ents,clk,h.M _ _ h1,h2,Hi h es ents hb h3⟩
 | .fn f a c,x,hb,hr=>by
  simp only [R] at hr ⊢;simp only [bare,aak] at hb;obtain ⟨a',c',h1,h2,h3⟩:=hr;exact ⟨a',c',h1,tS h a _ hb.1 h2,tS h c _ hb.2 h3⟩
 | .iface t v,x,hb,hr=>by
  simp only [R] at hr ⊢;simp only [bare] at hb;obtain ⟨y,h1,h2⟩:=hr;exact ⟨y,h1,uV h v y hb h2⟩
 | .agg cs,x,hb,hr=>by
  simp only [R] at hr ⊢;simp only [bare] at hb;obtain ⟨y,h1,h2⟩:=hr;exact ⟨y,h1,tS h cs _ hb h2⟩
 | .tup cs,x,hb,hr=>by
  simp only [R] at hr ⊢;simp only [bare] at hb;obtain ⟨y,h1,h2⟩:=hr;exact ⟨y,h1,tS h cs _ hb h2⟩
theorem tS {g g':Gh} (h:VD g g'): ∀(vs:List AV) (xs:List Value),bH vs=true->RL g vs xs->RL g' vs xs
 | [],_,_,hr=>by simp only [RL] at hr ⊢;exact hr
 | v::vs,l,hb,hr=>by
  simp only [RL] at hr ⊢;simp only [aJ,aak] at hb;obtain ⟨x,xs,h1,h2,h3⟩:=hr;exact ⟨x,xs,h1,uV h v x hb.1 h2,tS h vs xs hb.2 h3⟩
theorem vM {g g':Gh} (h:VD g g'): ∀(vs:List AV) (b o:Nat),bH vs=true->pt g vs b o->pt g' vs b o
 | [],_,_,_,_=>by simp only [pt]
 | v::vs,b,o,hb,hr=>by
  simp only [pt] at hr ⊢;simp only [aJ,aak] at hb;obtain ⟨⟨x,h1,h2,h3⟩,h4⟩:=hr;exact ⟨⟨x,h.F _ _ _ h1,h2,uV h v x hb.1 h3⟩,vM h vs b (o+1) hb.2 h4⟩
theorem yg {g g':Gh} (h:VD g g') (z:Nat): ∀(vs:List AV) (b o:Nat),bH vs=true->iW g z vs b o->iW g' z vs b o
 | [],_,_,_,_=>by simp only [iW]
 | v::vs,b,o,hb,hr=>by
  simp only [aJ,aak] at hb;cases v with
  | agg cs=>
   simp only [iW] at hr ⊢;exact ⟨⟨hr.1.1,vM h cs b o hb.1 hr.1.2⟩,yg h z vs b (o+z) hb.2 hr.2⟩
  | _=>
   simp only [iW] at hr ⊢;obtain ⟨⟨h0,x,h1,h2,h3⟩,h4⟩:=hr;exact ⟨⟨h0,x,h.F _ _ _ h1,h2,uV h _ x hb.1 h3⟩,yg h z vs b (o+z) hb.2 h4⟩
theorem Hi {g g':Gh} (h:VD g g'): ∀(es:List (AV×AV)) (l:List MapEntry),sS es=true->tI g es l->tI g' es l
 | [],_,_,hr=>by simp only [tI] at hr ⊢;exact hr
 | (k,v)::es,l,hb,hr=>by
  simp only [tI] at hr ⊢;simp only [sS,bare.sS,aak] at hb;obtain ⟨e,l',h1,h2,h3,h4⟩:=hr;exact ⟨e,l',h1,uV h k _ hb.1.1 h2,uV h v _ hb.1.2 h3,Hi h es l' hb.2 h4⟩
end
section
variable {g:Gh}
theorem gJ:RL g [] []:=by simp [RL]
theorem cL {v:AV} {vs:List AV} {x:Value} {xs:List Value} (h:R g v x) (hs:RL g vs xs):RL g (v::vs) (x::xs):=by
 simp only [RL];exact ⟨x,xs,rfl,h,hs⟩
theorem dQ: ∀{vs:List AV} {xs:List Value},RL g vs xs->xs.length=vs.length
 | [],_,h=>by simp only [RL] at h;subst h;rfl
 | _:: _,_,h=>by
  simp only [RL] at h;obtain ⟨x,xs,rfl,_,a⟩:=h;simp [dQ a]
theorem fk: ∀{vs us:List AV} {xs ys:List Value},RL g vs xs->RL g us ys->RL g (vs++us) (xs++ys)
 | [],_,_,_,h,k=>by simp only [RL] at h;subst h;exact k
 | _:: _,_,_,_,h,k=>by
  simp only [RL] at h;obtain ⟨x,xs,rfl,h1,a⟩:=h;exact cL h1 (fk a k)
theorem oM: ∀(n:Nat) {vs:List AV} {xs:List Value},RL g vs xs->RL g (vs.take n) (xs.take n)
 | 0,_,_,_=>by simp [RL]
 | _+1,[],_,h=>by simp only [RL] at h;subst h;simp [RL]
 | n+1,_:: _,_,h=>by
  simp only [RL] at h;obtain ⟨x,xs,rfl,h1,a⟩:=h;exact cL h1 (oM n a)
theorem jM: ∀(n:Nat) {vs:List AV} {xs:List Value},RL g vs xs->RL g (vs.drop n) (xs.drop n)
 | 0,_,_,h=>h
 | _+1,[],_,h=>by simp only [RL] at h;subst h;simp [RL]
 | n+1,_:: _,_,h=>by
  simp only [RL] at h;obtain ⟨x,xs,rfl,h1,a⟩:=h;exact jM n a
theorem PL: ∀{vs:List AV} {xs:List Value} {n:Nat} {v:AV},RL g vs xs->fM vs n= .ok v-> ∃x,xs[n]? =some x/\R g v x
 | [],_,_,_,_,e=>by simp [fM] at e
 | _:: _,_,0,_,h,e=>by
  simp only [RL] at h;obtain ⟨x,xs,rfl,h1,a⟩:=h;simp only [fM,aaf] at e;subst e;exact ⟨x,rfl,h1⟩
 | _:: _,_,n+1,_,h,e=>by
  simp only [RL] at h;obtain ⟨x,xs,rfl,h1,a⟩:=h;simp only [fM] at e;obtain ⟨y,hy,b⟩:=PL a e;exact ⟨y,by simpa using hy,b⟩
theorem yr: ∀{vs:List AV} {xs:List Value} {n:Nat} {v:AV},RL g vs xs->vs[n]? =some v-> ∃x,xs[n]? =some x/\R g v x
 | [],_,_,_,_,e=>by simp at e
 | _:: _,_,0,_,h,e=>by
  simp only [RL] at h;obtain ⟨x,xs,rfl,h1,a⟩:=h;simp only [abV,aas] at e;subst e;exact ⟨x,rfl,h1⟩
 | _:: _,_,n+1,_,h,e=>by
  simp only [RL] at h;obtain ⟨x,xs,rfl,h1,a⟩:=h;simp only [abD] at e;obtain ⟨y,hy,b⟩:=yr a e;exact ⟨y,by simpa using hy,b⟩
theorem uQ: ∀{vs us:List AV} {b o:Nat},pt g (vs++us) b o↔pt g vs b o/\pt g us b (o+vs.length)
 | [],us,b,o=>by simp [pt]
 | v::vs,us,b,o=>by
  simp only [aat,pt,uQ (vs:=vs),aae,and_assoc];rw [show o+1+vs.length=o+(vs.length+1) by omega]
theorem FE {vs:List AV} {b o:Nat} (n:Nat) (h:pt g vs b o) (hn:n<=vs.length):pt g (vs.drop n) b (o+n):=by
 have a:=h;rw [<- abb n vs,uQ] at a;have:=a.2
 rwa [aau,abG hn] at this
theorem CU {vs:List AV} {b o:Nat} (n:Nat) (h:pt g vs b o):pt g (vs.drop n) b (o+n):=by
 rcases Nat.le_total n vs.length with k | k
 .exact FE n h k
 .rw [List.drop_eq_nil_of_le k];simp [pt]
theorem jC: ∀{vs:List AV} {b o:Nat},pt g vs b o-> ∃xs:List Value,RL g vs xs/\(∀i x,xs[i]? =some x->g.F b (o+i)=some x/\x.oneCell'=true)
 | [],_,_,_=>⟨[],by simp [RL],by simp⟩
 | v::vs,b,o,h=>by
  simp only [pt] at h;obtain ⟨⟨x,h1,a,c⟩,d⟩:=h;obtain ⟨xs,k1,k2⟩:=jC d;refine ⟨x::xs,cL c k1, ?_⟩;intro i y hy;cases i with
  | zero=>simp only [abV,aas] at hy;subst hy;exact ⟨h1,a⟩
  | succ i=>
   simp only [abD] at hy;have:=k2 i y hy
   rwa [show o+1+i=o+(i+1) by omega] at this
theorem dN: ∀{vs:List AV} {xs:List Value} {b o:Nat},RL g vs xs->(∀i x,xs[i]? =some x->g.F b (o+i)=some x/\x.oneCell'=true)->pt g vs b o
 | [],_,_,_,_,_=>by simp [pt]
 | v::vs,l,b,o,h,k=>by
  simp only [RL] at h;obtain ⟨x,xs,rfl,h1,c⟩:=h;simp only [pt];have a:=k 0 x rfl;refine ⟨⟨x,a.1,a.2,h1⟩,dN c fun i y hy=> ?_⟩;have:=k (i+1) y (by simpa using hy)
  rwa [show o+(i+1)=o+1+i by omega] at this
theorem iO (v:AV) (l:List AV):flat (v::l)=v.cells++flat l:=rfl
theorem oL (l m:List AV):flat (l++m)=flat l++flat m:=by
 induction l with
 | nil=>rfl
 | cons v l ih=>simp [iO,ih]
theorem en {z:Nat}: ∀{vs:List AV} {b o:Nat},iW g z vs b o↔(∀v∈vs,v.cells.length=z)/\pt g (flat vs) b o
 | [],b,o=>by simp [iW,flat,pt]
 | v::vs,b,o=>by
  rw [nH,en (vs:=vs),iO,uQ];constructor
  .rintro ⟨h1,a,c,f⟩;exact ⟨by simpa [h1] using c,a,by rwa [h1]⟩
  .rintro ⟨h1,a,c⟩;have d:=h1 v (by simp);exact ⟨d,a,fun u e=>h1 u (by simp [e]),by rwa [d] at c⟩
theorem eB {z:Nat}: ∀{vs:List AV},(∀v∈vs,v.cells.length=z)->(flat vs).length=vs.length * z
 | [],_=>by simp [flat]
 | v::vs,h=>by
  have h1:=h v (by simp);have a:=eB (vs:=vs) fun u b=>h u (by simp [b]);simp only [iO,aad,h1,a,aae,Nat.add_mul];omega
theorem Dc {z:Nat}: ∀{vs:List AV} (n:Nat),(∀v∈vs,v.cells.length=z)->flat (vs.drop n)=(flat vs).drop (n * z)
 | [],n,_=>by simp [flat]
 | v::vs,0,_=>by simp
 | v::vs,n+1,h=>by
  have h1:=h v (by simp);have a:=Dc (vs:=vs) n fun u b=>h u (by simp [b]);simp only [aaD,a,iO,Nat.add_mul,Nat.one_mul];rw [show n * z+z=v.cells.length+n * z by omega,List.drop_append];simp
theorem MP {z:Nat} {vs:List AV} {b o:Nat} (n:Nat) (h:iW g z vs b o) (hn:n<=vs.length):iW g z (vs.drop n) b (o+n * z):=by
 rw [en] at h ⊢;refine ⟨fun v a=>h.1 v (List.mem_of_mem_drop a), ?_⟩;rw [Dc n h.1];refine FE _ h.2 ?_;rw [eB h.1];exact Nat.mul_le_mul_right _ hn
theorem oE {z:Nat} {vs us:List AV} {b o:Nat}:iW g z (vs++us) b o↔iW g z vs b o/\iW g z us b (o+vs.length * z):=by
 induction vs generalizing o with
 | nil=>simp [iW]
 | cons v vs ih=>
  rw [aat,nH,nH,ih,aae];rw [show o+z+vs.length * z=o+(vs.length+1) * z by rw [Nat.add_mul];omega];simp [and_assoc]
theorem LO {z:Nat} {vs:List AV} {b o:Nat} (n:Nat) (h:iW g z vs b o):iW g z (vs.take n) b o:=by
 rw [<- abb n vs,oE] at h;exact h.1
theorem Ad {z:Nat}: ∀{vs:List AV} {b o n:Nat} {v:AV},iW g z vs b o->fM vs n= .ok v->v.cells.length=z/\pt g v.cells b (o+n * z)
 | [],_,_,_,_,_,e=>by simp [fM] at e
 | u::us,b,o,0,v,h,e=>by
  simp only [fM,aaf] at e;subst e;rw [nH] at h;exact ⟨h.1,by simpa using h.2.1⟩
 | u::us,b,o,n+1,v,h,e=>by
  simp only [fM] at e;rw [nH] at h;have:=Ad h.2.2 e
  rwa [show o+z+n * z=o+(n+1) * z by rw [Nat.add_mul];omega] at this
end
theorem gw (l m:List AV):bH (l++m)=(bH l&&bH m):=by
 induction l with
 | nil=>rfl
 | cons v l ih=>simp only [aat,aJ,ih,Bool.and_assoc]
theorem Jd {l:List AV} (n:Nat) (h:bH l=true):bH (l.take n)=true:=by
 rw [<- abb n l,gw,aak] at h;exact h.1
theorem uJ {l:List AV} (n:Nat) (h:bH l=true):bH (l.drop n)=true:=by
 rw [<- abb n l,gw,aak] at h;exact h.2
theorem wY: ∀{l:List AV} {n:Nat} {v:AV},bH l=true->fM l n= .ok v->bare v=true
 | [],_,_,_,e=>by simp [fM] at e
 | u::us,0,v,h,e=>by
  simp only [fM,aaf] at e;subst e;simp only [aJ,aak] at h;exact h.1
 | u::us,n+1,v,h,e=>by
  simp only [fM] at e;simp only [aJ,aak] at h;exact wY h.2 e
theorem yT {v:AV} (h:bare v=true):bH v.cells=true:=by
 cases v <;> first | exact h | simpa [AV.cells,aJ,bH,bare.bareAll] using h
theorem zF {g:Gh} {v:AV} {x:Value} (h:R g v x):R g (strip v) x:=by
 cases v with
 | sl z es p=>
  cases p with
  | own k=>
   simp only [strip,R] at h ⊢;obtain ⟨h0,b,o,cap,h1,c,a,d,e⟩:=h;exact ⟨h0,b,o,cap,h1,c,a,d,trivial⟩
  | _=>exact h
 | _=>exact h
theorem pW {g:Gh}: ∀{vs:List AV} {xs:List Value},RL g vs xs->RL g (vs.map strip) xs
 | [],_,h=>h
 | v::vs,_,h=>by
  simp only [RL] at h;obtain ⟨x,xs,rfl,h1,a⟩:=h;exact cL (zF h1) (pW a)
theorem ag {α β:Type} {x:df α} {f:α->df β} {b:β}:(x >>= f)= .ok b↔ ∃a,x= .ok a/\f a= .ok b:=by
 cases x <;> simp [bind,Except.bind]
theorem aj {α:Type} {a b:α}:(pure a:df α)= .ok b↔a=b:=by simp [pure,Except.pure]
theorem XN {g:Gh} {v v':AV} {x:Value} (h:R g v x) (e:fit v= .ok v'):R g v' x/\bare v'=true/\v'.cells.length=v.cells.length:=by
 unfold fit at e;simp only at e;split at e
 .rename_i a;simp only [aaf] at e;subst e;refine ⟨?_,a, ?_⟩
  .cases v with
   | agg cs=>
    simp only [R] at h ⊢;obtain ⟨ys,h1,b⟩:=h;exact ⟨ys,h1,pW b⟩
   | _=>exact zF h
  .cases v with
   | agg cs=>simp [AV.cells]
   | sl z es p=>cases p <;> rfl
   | _=>rfl
 .simp at e
theorem EJ {g:Gh}: ∀{vs vs':List AV} {xs:List Value},RL g vs xs->fits vs= .ok vs'->RL g vs' xs/\bH vs'=true
 | [],_,_,h,e=>by
  simp only [fits,aaf] at e;subst e;exact ⟨h,rfl⟩
 | v::vs,vs',_,h,e=>by
  simp only [RL] at h;obtain ⟨x,xs,rfl,h1,a⟩:=h;simp only [fits,ag,aj] at e;obtain ⟨u,b,us,c,rfl⟩:=e;obtain ⟨k1,k2,_⟩:=XN h1 b;obtain ⟨d,f⟩:=EJ a c;exact ⟨cL k1 d,by simp [aJ,k2,f]⟩
def ml (ops:List Oper):Bool:=
 (ops.zipIdx.all fun (o,j)=>o.after.toList.all fun e=> !Region.binds .any e||e.on.blt j)&&
 (ops.zipIdx.all fun (o,j)=>(ops.zipIdx.take j).all fun (o',i)=>o'.apart ops.toArray o||behind ops (j+1) j i)
def codeOk:Code->Bool
 | .region _ ops draw=> !draw||ml ops.toList
 | .seq a b=>codeOk a&&codeOk b
 | .cond _ a b=>codeOk a&&codeOk b
 | .block _ c=>codeOk c
 | .loop c=>codeOk c
 | .scope c=>codeOk c
 | .rangeFunc _ _ a c=>codeOk a&&codeOk c
 | _=>true
structure zo (g:Gh) (fr:Fr) (tmps:Array Value):Prop where
 size:tmps.size=fr.n
 at': ∀t,(fr.strict=true/\fr.t.get t=none)\/R g (fr.get t) (tmps.getD t Go.undef)
theorem zo.mono {g g':Gh} {fr:Fr} {tmps:Array Value} (h:zo g fr tmps) (le:Le g g'):zo g' fr tmps:=⟨h.size,fun t=>(h.at' t).imp id (oX le _ _)⟩
theorem zo.at {g:Gh} {fr:Fr} {tmps:Array Value} (h:zo g fr tmps) (hs:fr.strict=false) (t:Nat):R g (fr.get t) (tmps.getD t Go.undef):=by
 rcases h.at' t with ⟨h1,_⟩ | h1
 .rw [hs] at h1;cases h1
 .exact h1
def PM (s:Nat) (p:Ex) (r:Loop):Prop:=
 (s=0/\r.state= .ready/\r.pending=none/\p= .normal)\/(s=1/\r.state= .busy)\/(s=2/\r.state= .done/\((p= .ret/\r.pending=some .ret)\/ ∃i,p= .exit i/\r.pending=some (.exit i)))
namespace Tr
variable {α:Type}
theorem get_set_same: ∀(f:Nat) (t:Tr α) (n:Nat) (x:α),n < f->(set f t n x).get n=some x
 | 0,_,_,_,h=>by omega
 | f+1,t,n,x,h=>by
  unfold set;cases hn:n.beq 0 with
  | true=>cases t <;> simp [get,hn]
  | false=>
   have h0:n≠0:=by intro e;subst e;simp at hn
   cases hm:(n % 2).beq 1 with
   | true=>cases t <;> simp [get,hn,hm,get_set_same f _ (n / 2) x (by omega)]
   | false=>cases t <;> simp [get,hn,hm,get_set_same f _ (n / 2 - 1) x (by omega)]
theorem vC (n:Nat):(Tr.leaf:Tr α).get n=none:=by unfold get;rfl
theorem oe: ∀(f:Nat) (t:Tr α) (n m:Nat) (x:α),n≠m->(set f t n x).get m=t.get m
 | 0,_,_,_,_,_=>rfl
 | f+1,t,n,m,x,h=>by
  unfold set;cases hn:n.beq 0 with
  | true=>
   have c:n=0:=aap hn;have hm:m.beq 0=false:=by
    cases hm:m.beq 0 with
    | false=>rfl
    | true=>exact absurd (c.trans (aap hm).symm) h
   cases t with
   | leaf=>cases d:(m % 2).beq 1 <;> simp [get,hm,d]
   | node v l r=>cases d:(m % 2).beq 1 <;> simp [get,hm,d]
  | false=>
   have c:n≠0:=by intro e;subst e;simp at hn
   cases hm:m.beq 0 with
   | true=>
    cases hp:(n % 2).beq 1 with
    | true=>cases t <;> simp [get,hm]
    | false=>cases t <;> simp [get,hm]
   | false=>
    have j:m≠0:=by intro e;subst e;simp at hm
    cases hp:(n % 2).beq 1 with
    | true=>
     have g:=aap hp;cases b:(m % 2).beq 1 with
     | true=>
      have i:=aap b;have a:n / 2≠m / 2:=by omega
      cases t with
      | leaf=>simp [get,hm,b,oe f _ _ _ x a]
      | node v l r=>simp [get,hm,b,oe f _ _ _ x a]
     | false=>cases t <;> simp [get,hm,b]
    | false=>
     have g:n % 2≠1:=by intro e;rw [e] at hp;simp at hp
     cases b:(m % 2).beq 1 with
     | true=>cases t <;> simp [get,hm,b]
     | false=>
      have i:m % 2≠1:=by intro e;rw [e] at b;simp at b
      have a:n / 2 - 1≠m / 2 - 1:=by omega
      cases t with
      | leaf=>simp [get,hm,b,oe f _ _ _ x a]
      | node v l r=>simp [get,hm,b,oe f _ _ _ x a]
theorem lY (t:Tr α) (n m:Nat) (x:α):(t.put n x).get m=if n=m then some x else t.get m:=by
 unfold put;by_cases h:n=m
 .subst h;rw [if_pos rfl];exact get_set_same _ _ _ _ (by omega)
 .rw [if_neg h];exact oe _ _ _ _ _ h
theorem set_set: ∀(f:Nat) (t:Tr α) (n:Nat) (x y:α),set f (set f t n x) n y=set f t n y
 | 0,_,_,_,_=>rfl
 | f+1,t,n,x,y=>by
  cases hn:n.beq 0 with
  | true=>cases t <;> simp [set,hn]
  | false=>
   cases hm:(n % 2).beq 1 with
   | true=>cases t <;> simp [set,hn,hm,set_set f]
   | false=>cases t <;> simp [set,hn,hm,set_set f]
end Tr
theorem cZ {a b:Nat}:a.blt b=true↔a < b:=by simp [Nat.blt];omega
theorem da {a b:Nat}:a.blt b=false↔b<=a:=by
 cases h:a.blt b with
 | true=>rw [cZ] at h;simp;omega
 | false=>simp;exact Nat.le_of_not_lt fun k=>by rw [cZ.2 k] at h;cases h
theorem St.ca {s:St} {i:Nat} {o:Obj}:s.get i= .ok o↔i < s.h/\s.objs.get i=some o:=by
 unfold St.get;cases h:i.blt s.h with
 | true=>
  rw [cZ] at h;cases k:s.objs.get i <;> simp [h]
 | false=>rw [da] at h;simp;omega
theorem St.aN {s:St} {i:Nat} {o:Obj} (h:i < s.h):(s.put i o).get i= .ok o:=by
 rw [St.ca];exact ⟨h,by simp [St.put,Tr.lY]⟩
theorem St.aT {s:St} {i j:Nat} {o:Obj} (h:i≠j):(s.put i o).get j=s.get j:=by
 simp [St.put,St.get,Tr.lY,h]
theorem St.gK {s:St} {j:Nat} {o o':Obj}:(s.new o).2.get j= .ok o'↔(j=s.h/\o'=o)\/(j < s.h/\s.get j= .ok o'):=by
 rw [St.ca,St.ca];simp only [St.new,Tr.lY];by_cases h:s.h=j
 .subst h;simp;constructor <;> intro h <;> exact h.symm
 .rw [if_neg h];constructor
  .rintro ⟨h1,a⟩;exact .inr ⟨by omega,by omega,a⟩
  .rintro (⟨h1,_⟩ | ⟨h1,_,b⟩)
   .exact absurd h1.symm h
   .exact ⟨by omega,b⟩
def Ax (d:TypeDesc):U->Prop
 | .bool=>d= .bool
 | .int k=>d= .int k
 | .str=>d= .string
 | .flt k=>d= .float k
 | .ptr e=>d= .pointer e
 | .slice e=>d= .slice e
 | .arr n e=>d= .array n e
 | .map k e=>d= .map k e
 | .struct fs=> ∃fields,d= .struct fields/\fields.toList.map (fun f=>(f.offset,f.type))=fs
 | .func=> ∃a b c,d= .func a b c
 | .iface bare=> ∃ms,d= .interface ms/\(bare=true->ms= #[])
 | .uptr=>d= .unsafePointer
 | .other=>True
structure kP (P:Program) (t:Td) (i:TI):Prop where
 und: ∃d,P.underlying t=some d/\Ax d i.und/\(i.agg=match d with | .struct _ | .array .. =>true | _=>false)
 cmp:i.cmp=true->P.eqGuardType P.depth t=false/\P.stoodInHeld t=false/\ ∀fields,P.underlying t=some (.struct fields)-> ∀f∈fields.toList,f.name≠ "_"
 info: ∃f,P.info? t=some f/\f.size=i.size/\f.bytes=i.bytes/\ ∃z,f.zero=some z/\z.cells.size=i.size/\(i.agg=false->z.oneCell'=true)/\(∀v∈z.cells,v.oneCell'=true)/\(i.agg=true-> ∃cs,z= .agg cs)/\ ∀g,RL g i.zero z.cells.toList
def zm (P:Program) (T:TT):Prop:= ∀t i,T.get t=some i->kP P t i
theorem cH {T:TT} {t:Td} {i:TI}:ti T t= .ok i↔T.get t=some i:=by
 unfold ti;cases T.get t <;> simp
theorem cell_of {w:World} {b o:Nat} {vs:Array Value} {ty:Td} {fz:Nat×Nat} (h:w.heap[b]? =some (.cells vs ty fz)):
  w.cell? ⟨b,o,none⟩=vs[o]? :=by
 simp [World.cell?,h]
theorem my {w:World} {b o:Nat} {vs rest:Array Value} {ty:Td} {fz:Nat×Nat} {x:Value} (h:w.heap[b]? =some (.cells (vs++rest) ty fz)) (hx:vs[o]? =some x):
  w.cell? ⟨b,o,none⟩=some x:=by
 rw [cell_of h];have a:o < vs.size:=by
  rcases Nat.lt_or_ge o vs.size with q | q
  .exact q
  .rw [Array.getElem?_eq_none q] at hx;cases hx
 rw [Array.getElem?_append_left a];exact hx
theorem qe {w:World} {b o:Nat} {v:Value} (h:w.cell? ⟨b,o,none⟩=some v): ∃vs ty fz,w.heap[b]? =some (.cells vs ty fz)/\vs[o]? =some v:=by
 unfold World.cell? at h;split at h
 .rename_i c ty fz a;exact ⟨c,ty,fz,a,by simpa using h⟩
 .simp at h
def At (g:Gh) (id:Nat):Obj->Nat->Prop
 | .cells _ _,b=>g.E id=some (.cG b)
 | .map _,b=>g.E id=some (.cG b)
 | .sit ..,b=>g.E id=some (.cG b)
 | .tok n _,b=> ∃loc cap,g.E id=some (.tok loc)/\loc n=some (b,cap)
 | .dead,_=>False
 | .grow n _ _ _,b=> ∃loc cap,g.E id=some (.tok loc)/\loc n=some (b,cap)
 | .Bc,_=>False
 | .row n _ _ _,b=> ∃loc cap,g.E id=some (.tok loc)/\loc n=some (b,cap)
 | .loop ..,b=>g.E id=some (.cG b)
def Holds (T:TT) (g:Gh) (w:World) (id:Nat):Obj->Prop
 | .cells ty cs=> ∃b vs rest d,g.E id=some (.cG b)/\w.heap[b]? =some (.cells (vs++rest) d (0,0))/\RL g cs vs.toList/\(∀v∈vs.toList,v.oneCell'=true)/\(∀o,g.F b o=none)/\(ty < 1000000->rest= #[]/\d=ty)
 | .tok n e=> ∃loc b cap i vs fz,g.E id=some (.tok loc)/\loc n=some (b,cap)/\(∀m,n < m->loc m=none)/\T.get e=some i/\1<=i.size/\n<=cap/\
  w.heap[b]? =some (.cells vs e fz)/\vs.size=cap * i.size/\fz.2<=n * i.size/\ ∀o,n * i.size<=o->g.F b o=none
 | .map es=> ∃b ents clk,g.E id=some (.cG b)/\w.heap[b]? =some (.map ents clk)/\tI g es ents.toList/\g.M b=none
 | .sit s pos=> ∃b,g.E id=some (.cG b)/\w.heap[b]? =some (.stringIter ⟨s.toArray⟩ pos)
 | .dead=>True
 | .grow n e z es=> ∃loc b cap i vs fz,g.E id=some (.tok loc)/\loc n=some (b,cap)/\(∀m,n < m->loc m=none)/\T.get e=some i/\1<=i.size/\n<=cap/\
  w.heap[b]? =some (.cells vs e fz)/\vs.size=cap * i.size/\fz.2<=es.length * i.size/\(∀o,es.length * i.size<=o->g.F b o=none)/\z=i.size/\es.length<=n/\bH es=true/\iW g z es b 0
 | .Bc=>g.E id=none
 | .row n e z cs=> ∃loc b cap i pre rest,g.E id=some (.tok loc)/\loc n=some (b,cap)/\(∀m,n < m->loc m=none)/\T.get e=some i/\1<=i.size/\n<=cap/\
  w.heap[b]? =some (.cells (pre++rest) e (0,0))/\(pre++rest).size=cap * i.size/\(∀o,g.F b o=none)/\z=i.size/\RL g cs pre.toList/\(∀v∈pre.toList,v.oneCell'=true)/\cs.length=n * i.size
 | .loop _ ps a c fr s p=> ∃b r,g.E id=some (.cG b)/\w.heap[b]? =some (.loop r)/\zo g fr r.tmps/\r.params.toList=ps/\r.assign=a/\r.body=c/\(codeOk a=true/\codeOk c=true/\fr.strict=true)/\PM s p r
structure Inv (T:TT) (A:Nat->Prop) (g:Gh) (st:St) (w:World):Prop where
 F: ∀b o v,g.F b o=some v->w.cell? ⟨b,o,none⟩=some v
 M: ∀b ents clk,g.M b=some (ents,clk)->w.heap[b]? =some (.map ents.toArray clk)
 E: ∀id,st.h<=id->g.E id=none
 H: ∀id o,st.get id= .ok o->Holds T g w id o
 D: ∀id id' o o' b,st.get id= .ok o->st.get id'= .ok o'->At g id o b->At g id' o' b->id=id'
 own: ∀id o b,st.get id= .ok o->At g id o b->st.ro<=id->A b
 up: ∀b,w.heap.size<=b->A b
structure Kp (A:Nat->Prop) (g:Gh) (w:World) (g':Gh) (w':World):Prop where
 size:w.heap.size<=w'.heap.size
 heap: ∀b,¬ A b->w'.heap[b]? =w.heap[b]?
 F: ∀b,¬ A b-> ∀o,g'.F b o=g.F b o
 M: ∀b,¬ A b->g'.M b=g.M b
 le:Le g g'
 rest:w'.os=w.os/\w'.tape=w.tape/\w'.output=w.output
theorem Kp.refl (A:Nat->Prop) (g:Gh) (w:World):Kp A g w g w:=⟨aal _,fun _ _=>rfl,fun _ _ _=>rfl,fun _ _=>rfl,Le.refl g,rfl,rfl,rfl⟩
theorem Kp.trans {A:Nat->Prop} {g g' c:Gh} {w w' d:World} (h:Kp A g w g' w') (k:Kp A g' w' c d):Kp A g w c d:=
 ⟨aaR h.size k.size,fun b a=>(k.heap b a).trans (h.heap b a),fun b a o=>(k.F b a o).trans (h.F b a o),fun b a=>(k.M b a).trans (h.M b a),h.le.trans k.le,k.rest.1.trans h.rest.1,k.rest.2.1.trans h.rest.2.1,k.rest.2.2.trans h.rest.2.2⟩
theorem oV {T:TT} {g:Gh} {w w':World} {id:Nat} {o:Obj} (h:Holds T g w id o) (j: ∀b,At g id o b->w'.heap[b]? =w.heap[b]?):Holds T g w' id o:=by
 cases o with
 | cells ty cs=>
  obtain ⟨b,vs,rest,u,h1,d,f⟩:=h;exact ⟨b,vs,rest,u,h1,by rw [j b h1];exact d,f⟩
 | tok n e=>
  obtain ⟨loc,b,cap,i,vs,fz,h1,d,f,k,l,m,q,t⟩:=h;exact ⟨loc,b,cap,i,vs,fz,h1,d,f,k,l,m,by rw [j b ⟨loc,cap,h1,d⟩];exact q,t⟩
 | map es=>
  obtain ⟨b,ents,clk,h1,d,f⟩:=h;exact ⟨b,ents,clk,h1,by rw [j b h1];exact d,f⟩
 | sit s pos=>
  obtain ⟨b,h1,d⟩:=h;exact ⟨b,h1,by rw [j b h1];exact d⟩
 | dead=>trivial
 | grow n e z es=>
  obtain ⟨loc,b,cap,i,vs,fz,h1,d,f,k,l,m,q,t⟩:=h;exact ⟨loc,b,cap,i,vs,fz,h1,d,f,k,l,m,by rw [j b ⟨loc,cap,h1,d⟩];exact q,t⟩
 | Bc=>exact h
 | row n e z cs=>
  obtain ⟨loc,b,cap,i,pre,rest,h1,d,f,k,l,m,q,t⟩:=h;exact ⟨loc,b,cap,i,pre,rest,h1,d,f,k,l,m,by rw [j b ⟨loc,cap,h1,d⟩];exact q,t⟩
 | loop imm ps a c fr s p=>
  obtain ⟨b,r,h1,d,f⟩:=h;exact ⟨b,r,h1,by rw [j b h1];exact d,f⟩
theorem G2 {T:TT} {g:Gh} {w:World} {id b:Nat} {o:Obj} (h:Holds T g w id o) (f:At g id o b):b < w.heap.size:=by
 have key: ∀x:Go.Obj,w.heap[b]? =some x->b < w.heap.size:=fun x hx=>by
  rcases Nat.lt_or_ge b w.heap.size with h | h
  .exact h
  .simp [Array.getElem?_eq_none h] at hx
 cases o with
 | cells ty cs=>
  obtain ⟨b',vs,rest,A,h1,d,m⟩:=h;have:b'=b:=by have:=h1.symm.trans f;simpa using this
  subst this;exact key _ d
 | tok n e=>
  obtain ⟨loc,b',cap,i,vs,fz,h1,d,m,t,u,v,q,y⟩:=h;obtain ⟨loc',j,k1,k2⟩:=f;have k:=h1.symm.trans k1;simp only [aas,pq.tok.injEq] at k;subst k;have l:=d.symm.trans k2;simp only [aas,aaj] at l;obtain ⟨rfl,rfl⟩:=l;exact key _ q
 | map es=>
  obtain ⟨b',ents,clk,h1,d,m⟩:=h;have:b'=b:=by have:=h1.symm.trans f;simpa using this
  subst this;exact key _ d
 | sit s pos=>
  obtain ⟨b',h1,d⟩:=h;have:b'=b:=by have:=h1.symm.trans f;simpa using this
  subst this;exact key _ d
 | dead=>exact f.elim
 | grow n e z es=>
  obtain ⟨loc,b',cap,i,vs,fz,h1,d,m,t,u,v,q,y⟩:=h;obtain ⟨loc',j,k1,k2⟩:=f;have k:=h1.symm.trans k1;simp only [aas,pq.tok.injEq] at k;subst k;have l:=d.symm.trans k2;simp only [aas,aaj] at l;obtain ⟨rfl,rfl⟩:=l;exact key _ q
 | Bc=>exact f.elim
 | row n e z cs=>
  obtain ⟨loc,b',cap,i,pre,rest,h1,d,m,t,u,v,q,y⟩:=h;obtain ⟨loc',j,k1,k2⟩:=f;have k:=h1.symm.trans k1;simp only [aas,pq.tok.injEq] at k;subst k;have l:=d.symm.trans k2;simp only [aas,aaj] at l;obtain ⟨rfl,rfl⟩:=l;exact key _ q
 | loop imm ps a c fr s p=>
  obtain ⟨b',r,h1,d,m⟩:=h;have:b'=b:=by have:=h1.symm.trans f;simpa using this
  subst this;exact key _ d
theorem World.jG {w:World} {o:Go.Obj} {b:Nat} (h:b < w.heap.size):(w.alloc o).heap[b]? =w.heap[b]? :=by
 show (w.heap.push o)[b]? = _;rw [Array.getElem?_push,if_neg (by omega)]
theorem World.heap_alloc_new {w:World} {o:Go.Obj}:(w.alloc o).heap[w.heap.size]? =some o:=by
 show (w.heap.push o)[w.heap.size]? = _;rw [Array.getElem?_push,if_pos rfl]
theorem lt_of_heap {w:World} {b:Nat} {x:Go.Obj} (hx:w.heap[b]? =some x):b < w.heap.size:=by
 rcases Nat.lt_or_ge b w.heap.size with h | h
 .exact h
 .simp [Array.getElem?_eq_none h] at hx
theorem uN {w w':World} {b:Nat} (h:w'.heap[b]? =w.heap[b]?) (o:Nat):w'.cell? ⟨b,o,none⟩=w.cell? ⟨b,o,none⟩:=by
 simp [World.cell?,h]
theorem Inv.world {T:TT} {A:Nat->Prop} {g:Gh} {st:St} {w w':World} (h:Inv T A g st w) (hs:w.heap.size<=w'.heap.size)
  (a: ∀b,b < w.heap.size->w'.heap[b]? =w.heap[b]?):Inv T A g st w' where
 F b o v d:=by
  have h1:=h.F b o v d;obtain ⟨vs,ty,fz,e,_⟩:=qe h1;rw [uN (a b (lt_of_heap e))];exact h1
 M b ents clk hm:=by rw [a b (lt_of_heap (h.M b ents clk hm))];exact h.M b ents clk hm
 E:=h.E
 H id o ho:=oV (h.H id o ho) fun b c=>a b (G2 (h.H id o ho) c)
 D:=h.D
 own:=h.own
 up b c:=h.up b (aaR hs c)
theorem Inv.alloc {T:TT} {A:Nat->Prop} {g:Gh} {st:St} {w:World} (o:Go.Obj) (h:Inv T A g st w):Inv T A g st (w.alloc o):=
 h.world (by simp) fun _ a=>World.jG a
theorem Inv.drew {T:TT} {A:Nat->Prop} {g:Gh} {st:St} {w:World} (h:Inv T A g st w):Inv T A g st w.drew:=
 h.world (aal _) fun _ _=>rfl
theorem Kp.alloc {T:TT} {A:Nat->Prop} {g:Gh} {st:St} {w:World} (o:Go.Obj) (h:Inv T A g st w):Kp A g w g (w.alloc o):=
 ⟨by simp,fun b a=>World.jG (Nat.lt_of_not_le fun k=>a (h.up b k)),fun _ _ _=>rfl,fun _ _=>rfl,Le.refl g,rfl,rfl,rfl⟩
theorem Kp.drew (A:Nat->Prop) (g:Gh) (w:World):Kp A g w g w.drew:=⟨aal _,fun _ _=>rfl,fun _ _ _=>rfl,fun _ _=>rfl,Le.refl g,rfl,rfl,rfl⟩
theorem lG {T:TT} {g g':Gh} {w:World} {id:Nat} {o:Obj} (h:Holds T g w id o) (le:Le g g') (hE:g'.E id=g.E id)
  (x: ∀b,At g id o b->(∀k,g'.F b k=g.F b k)/\g'.M b=g.M b):Holds T g' w id o:=by
 cases o with
 | cells ty cs=>
  obtain ⟨b,vs,rest,C,h1,d,f,j,m,q⟩:=h;exact ⟨b,vs,rest,C,hE.trans h1,d,eZ le _ _ f,j,fun k=>by rw [(x b h1).1 k];exact m k,q⟩
 | tok n e=>
  obtain ⟨loc,b,cap,i,vs,fz,h1,d,f,j,m,q,y,A,B,l⟩:=h;exact ⟨loc,b,cap,i,vs,fz,hE.trans h1,d,f,j,m,q,y,A,B,fun k D=>by rw [(x b ⟨loc,cap,h1,d⟩).1 k];exact l k D⟩
 | map es=>
  obtain ⟨b,ents,clk,h1,d,f,j⟩:=h;exact ⟨b,ents,clk,hE.trans h1,d,Ak le _ _ f,by rw [(x b h1).2];exact j⟩
 | sit s pos=>
  obtain ⟨b,h1,d⟩:=h;exact ⟨b,hE.trans h1,d⟩
 | dead=>trivial
 | grow n e z es=>
  obtain ⟨loc,b,cap,i,vs,fz,h1,d,f,j,m,q,y,A,B,l,t,u,v,G⟩:=h;exact ⟨loc,b,cap,i,vs,fz,hE.trans h1,d,f,j,m,q,y,A,B,fun k D=>by rw [(x b ⟨loc,cap,h1,d⟩).1 k];exact l k D,t,u,v,gV le _ _ _ _ G⟩
 | Bc=>exact hE.trans h
 | row n e z cs=>
  obtain ⟨loc,b,cap,i,pre,rest,h1,d,f,j,m,q,y,A,B,l,t,u,v⟩:=h;exact ⟨loc,b,cap,i,pre,rest,hE.trans h1,d,f,j,m,q,y,A,fun k=>by rw [(x b ⟨loc,cap,h1,d⟩).1 k];exact B k,l,eZ le _ _ t,u,v⟩
 | loop imm ps a c fr s p=>
  obtain ⟨b,r,h1,d,f,j⟩:=h;exact ⟨b,r,hE.trans h1,d,f.mono le,j⟩
theorem qN {g g':Gh} {id:Nat} {o:Obj} {b:Nat} (hE:g'.E id=g.E id):At g' id o b↔At g id o b:=by
 cases o <;> simp [At,hE]
def Gh.dB (g:Gh) (id:Nat) (e:pq):Gh:={g with E:=fun j=>if j=id then some e else g.E j}
theorem Gh.aX (g:Gh) (id:Nat) (e:pq):(g.dB id e).E id=some e:=by simp [Gh.dB]
theorem Gh.cj (g:Gh) (e:pq) {id j:Nat} (h:j≠id):(g.dB id e).E j=g.E j:=by simp [Gh.dB,h]
theorem Le.dB {g:Gh} {id:Nat} {e:pq} (h:g.E id=none):Le g (g.dB id e):=by
 refine ⟨fun _ _ _ x=>x,fun _ _ x=>x,fun j b x=> ?_,fun j loc x=>⟨loc, ?_,fun _ _ y=>y⟩⟩
 .have:j≠id:=fun e=>by subst e;rw [h] at x;cases x
  rw [Gh.cj _ _ this];exact x
 .have:j≠id:=fun e=>by subst e;rw [h] at x;cases x
  rw [Gh.cj _ _ this];exact x
theorem Kp.dB {A:Nat->Prop} {g:Gh} {w:World} {id:Nat} {e:pq} (h:g.E id=none):Kp A g w (g.dB id e) w:=
 ⟨aal _,fun _ _=>rfl,fun _ _ _=>rfl,fun _ _=>rfl,Le.dB h,rfl,rfl,rfl⟩
theorem Inv.name {T:TT} {A:Nat->Prop} {g:Gh} {st:St} {w:World} (h:Inv T A g st w) (o:Obj) (e:pq) (b:Nat)
  (l: ∀id o',st.get id= .ok o'->¬ At g id o' b) (hA:A b) (c: ∀b',At (g.dB st.h e) st.h o b'->b'=b)
  (ho:Holds T (g.dB st.h e) w st.h o):Inv T A (g.dB st.h e) (st.new o).2 w where
 F:=h.F
 M:=h.M
 E id j:=by
  have m:st.h+1<=id:=j;rw [Gh.cj _ _ (by omega)];exact h.E id (by omega)
 H id o' k:=by
  rcases St.gK.1 k with ⟨rfl,rfl⟩ | ⟨p,d⟩
  .exact ho
  .exact lG (h.H id o' d) (Le.dB (h.E _ (aal _))) (Gh.cj _ _ (by omega)) fun _ _=>⟨fun _=>rfl,rfl⟩
 D id id' o1 q b' h1 r a f:=by
  rcases St.gK.1 h1 with ⟨rfl,rfl⟩ | ⟨l1,i⟩ <;> rcases St.gK.1 r with ⟨rfl,rfl⟩ | ⟨l2,n⟩
  .rfl
  .rw [qN (Gh.cj _ _ (by omega))] at f;have:=c b' a;subst this;exact absurd f (l _ _ n)
  .rw [qN (Gh.cj _ _ (by omega))] at a;have:=c b' f;subst this;exact absurd a (l _ _ i)
  .rw [qN (Gh.cj _ _ (by omega))] at a f;exact h.D id id' o1 q b' i n a f
 own id o' b' h1 a s:=by
  rcases St.gK.1 h1 with ⟨rfl,rfl⟩ | ⟨l1,i⟩
  .rw [c b' a];exact hA
  .rw [qN (Gh.cj _ _ (by omega))] at a;exact h.own id o' b' i a s
 up:=h.up
def Gh.cU (g:Gh) (b lo:Nat) (vs:List Value):Gh:={g with F:=fun b' o=>if b'=b/\lo<=o/\o < lo+vs.length then vs[o - lo]? else g.F b' o}
theorem Gh.l3 (g:Gh) (b lo:Nat) (vs:List Value) (i:Nat) (v:Value) (h:vs[i]? =some v):(g.cU b lo vs).F b (lo+i)=some v:=by
 have hi:i < vs.length:=by
  rcases Nat.lt_or_ge i vs.length with k | k
  .exact k
  .simp [aaS k] at h
 simp only [Gh.cU];rw [if_pos ⟨trivial,by omega,by omega⟩,show lo+i - lo=i by omega];exact h
theorem Gh.dh (g:Gh) (b lo:Nat) (vs:List Value) {b' o:Nat} (h:b'≠b\/o < lo\/lo+vs.length<=o):(g.cU b lo vs).F b' o=g.F b' o:=by
 simp only [Gh.cU];rw [if_neg (by omega)]
theorem Le.cU {g:Gh} {b lo:Nat} {vs:List Value} (h: ∀o,lo<=o->o < lo+vs.length->g.F b o=none):Le g (g.cU b lo vs):=by
 refine ⟨fun b' o v a=> ?_,fun _ _ x=>x,fun _ _ x=>x,fun _ loc x=>⟨loc,x,fun _ _ y=>y⟩⟩;by_cases c:b'=b/\lo<=o/\o < lo+vs.length
 .obtain ⟨rfl,h1,d⟩:=c;rw [h o h1 d] at a;cases a
 .rw [Gh.dh _ _ _ _ (by omega)];exact a
theorem Inv.cU {T:TT} {A:Nat->Prop} {g:Gh} {st:St} {w:World} (h:Inv T A g st w) (b lo:Nat) (vs:List Value)
  (a: ∀o,lo<=o->o < lo+vs.length->g.F b o=none) (c: ∀i v,vs[i]? =some v->w.cell? ⟨b,lo+i,none⟩=some v)
  (d: ∀id o,st.get id= .ok o->¬ At g id o b):Inv T A (g.cU b lo vs) st w where
 F b' o v f:=by
  by_cases k:b'=b/\lo<=o/\o < lo+vs.length
  .obtain ⟨rfl,h1,l⟩:=k;simp only [Gh.cU] at f;rw [if_pos ⟨trivial,h1,l⟩] at f;have:=c _ _ f
   rwa [show lo+(o - lo)=o by omega] at this
  .rw [Gh.dh _ _ _ _ (by omega)] at f;exact h.F b' o v f
 M:=h.M
 E:=h.E
 H id o ho:=lG (h.H id o ho) (Le.cU a) rfl fun _ j=>⟨fun _=>Gh.dh _ _ _ _ (.inl fun e=>d id o ho (e ▸ j)),rfl⟩
 D:=h.D
 own:=h.own
 up:=h.up
theorem Kp.cU {A:Nat->Prop} {g:Gh} {w:World} {b lo:Nat} {vs:List Value} (hA:A b) (h: ∀o,lo<=o->o < lo+vs.length->g.F b o=none):Kp A g w (g.cU b lo vs) w:=
 ⟨aal _,fun _ _=>rfl,fun _ a _=>Gh.dh _ _ _ _ (.inl fun e=>a (e ▸ hA)),fun _ _=>rfl,Le.cU h,rfl,rfl,rfl⟩
theorem Inv.write {T:TT} {A:Nat->Prop} {g:Gh} {st:St} {w w':World} (h:Inv T A g st w) {id b:Nat} {o:Obj} (a:st.get id= .ok o) (l:At g id o b) (o':Obj)
  (hs:w'.heap.size=w.heap.size) (r: ∀b',b'≠b->w'.heap[b']? =w.heap[b']?)
  (B: ∀k v,g.F b k=some v->w'.cell? ⟨b,k,none⟩=some v) (C:g.M b=none)
  (f: ∀b',At g id o' b'->b'=b) (s:Holds T g w' id o'):Inv T A g (st.put id o') w' where
 F b' k v x:=by
  by_cases m:b'=b
  .subst m;exact B k v x
  .rw [uN (r b' m)];exact h.F b' k v x
 M b' ents clk hm:=by
  by_cases m:b'=b
  .subst m;rw [C] at hm;cases hm
  .rw [r b' m];exact h.M b' ents clk hm
 E:=h.E
 H j u d:=by
  by_cases t:j=id
  .subst t;have c:=(St.ca.1 a).1;rw [St.aN c] at d;cases d;exact s
  .rw [St.aT (fun e=>t e.symm)] at d;refine oV (h.H j u d) fun b' n=>r b' fun e=> ?_;subst e;exact t (h.D j id u o b' d a n l)
 D i j u v b' h1 G p I:=by
  have c:=(St.ca.1 a).1;have key: ∀i u,(st.put id o').get i= .ok u->At g i u b'-> ∃q,st.get i= .ok q/\At g i q b':=fun i u d y=>by
   by_cases hi:i=id
   .subst hi;rw [St.aN c] at d;cases d;have:=f b' y;subst this;exact ⟨o,a,l⟩
   .rw [St.aT (fun e=>hi e.symm)] at d;exact ⟨u,d,y⟩
  obtain ⟨q,k1,k2⟩:=key i u h1 p;obtain ⟨v',J,K⟩:=key j v G I;exact h.D i j q v' b' k1 J k2 K
 own i u b' h1 p z:=by
  have c:=(St.ca.1 a).1;by_cases hi:i=id
  .subst hi;rw [St.aN c] at h1;cases h1;have:=f b' p;subst this;exact h.own i o b' a l z
  .rw [St.aT (fun e=>hi e.symm)] at h1;exact h.own i u b' h1 p z
 up b' n:=h.up b' (by omega)
theorem Kp.write {A:Nat->Prop} {g:Gh} {w w':World} {b:Nat} (hA:A b) (hs:w'.heap.size=w.heap.size) (c: ∀b',b'≠b->w'.heap[b']? =w.heap[b']?) (ho:w'.os=w.os/\w'.tape=w.tape/\w'.output=w.output:=by exact ⟨rfl,rfl,rfl⟩):Kp A g w g w':=
 ⟨by omega,fun b' a=>c b' fun e=>a (e ▸ hA),fun _ _ _=>rfl,fun _ _=>rfl,Le.refl g,ho⟩
end Go.VM
