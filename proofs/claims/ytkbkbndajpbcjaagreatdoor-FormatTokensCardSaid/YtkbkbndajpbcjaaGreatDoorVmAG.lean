/-
  A part of the proof.
-/
import Derived.Test.YtkbkbndajpbcjaaGreatDoorVmAF
import Derived.Laws.Append
set_option linter.all false
namespace Go.VM
section
variable {P:Program} {T:TT} {A:Nat->Prop} {g:Gh} {st:St} {w:World}
theorem Inv.Ta (h:Inv T A g st w) {k n n':Nat} {e:Td} {loc loc':Nat->Oq (Nat×Nat)} (b' lo:Nat) (vals:List Value)
  (P:st.get k= .ok (.tok n e)) (hE:g.E k=some (.tok loc)) (C: ∀m x,loc m=some x->loc' m=some x) (Q:st.ro<=k)
  (t: ∀o,lo<=o->o < lo+vals.length->g.F b' o=none) (u: ∀i v,vals[i]? =some v->w.cell? ⟨b',lo+i,none⟩=some v)
  (f: ∀id o,st.get id= .ok o->id≠k->¬ At g id o b') (hA:A b') (z: ∀b cap,loc' n'=some (b,cap)->b=b')
  (ho:Holds T ((g.cU b' lo vals).dB k (.tok loc')) w k (.tok n' e)):
  Inv T A ((g.cU b' lo vals).dB k (.tok loc')) (st.put k (.tok n' e)) w/\Kp A g w ((g.cU b' lo vals).dB k (.tok loc')) w:=by
 have q:=(St.ca.1 P).1;have K:Le g (g.cU b' lo vals):=Le.cU t;have L:Le (g.cU b' lo vals) ((g.cU b' lo vals).dB k (.tok loc')):=by
  refine ⟨fun _ _ _ x=>x,fun _ _ x=>x,fun j b x=> ?_,fun j l x=> ?_⟩
  .have:j≠k:=fun e=>by subst e;have:=hE.symm.trans x;cases this
   rw [Gh.cj _ _ this];exact x
  .by_cases B:j=k
   .subst B;have x':g.E j=some (.tok l):=x;have:=hE.symm.trans x';simp only [aas,pq.tok.injEq] at this;subst this;exact ⟨loc',Gh.aX _ _ _,C⟩
   .exact ⟨l,by rw [Gh.cj _ _ B];exact x,fun _ _ y=>y⟩
 have le:=K.trans L;refine ⟨⟨?_,h.M, ?_, ?_, ?_, ?_,h.up⟩,⟨aal _,fun _ _=>rfl,fun b N o=>Gh.dh _ _ _ _ (.inl fun e=>N (e ▸ hA)),fun _ _=>rfl,le,rfl,rfl,rfl⟩⟩
 .intro b o v O;by_cases R:b=b'/\lo<=o/\o < lo+vals.length
  .obtain ⟨rfl,h1,s⟩:=R;have d:(g.cU b lo vals).F b o=some v:=O;simp only [Gh.cU] at d;rw [if_pos ⟨trivial,h1,s⟩] at d;have:=u _ _ d
   rwa [show lo+(o - lo)=o by omega] at this
  .have d:(g.cU b' lo vals).F b o=some v:=O;rw [Gh.dh _ _ _ _ (by omega)] at d;exact h.F b o v d
 .intro id a;have G:st.h<=id:=a;rw [Gh.cj _ _ (by omega)];exact h.E id G
 .intro id o a;by_cases B:id=k
  .subst B;rw [St.aN q] at a;cases a;exact ho
  .rw [St.aT (fun e=>B e.symm)] at a;exact lG (h.H id o a) le (Gh.cj _ _ B) fun b N=>⟨fun _=>Gh.dh _ _ _ _ (.inl fun e=>f id o a B (e ▸ N)),rfl⟩
 .intro id id' o o' b h1 s r I;by_cases hi:id=k <;> by_cases c:id'=k
  .rw [hi,c]
  .subst hi;rw [St.aN q] at h1;cases h1;rw [St.aT (fun e=>c e.symm)] at s;rw [qN (Gh.cj _ _ c)] at I;obtain ⟨l,cap,p,J⟩:=r;rw [Gh.aX] at p;simp only [aas,pq.tok.injEq] at p;subst p;have:=z b cap J;subst this;exact absurd I (f id' o' s c)
  .subst c;rw [St.aN q] at s;cases s;rw [St.aT (fun e=>hi e.symm)] at h1;rw [qN (Gh.cj _ _ hi)] at r;obtain ⟨l,cap,p,J⟩:=I;rw [Gh.aX] at p;simp only [aas,pq.tok.injEq] at p;subst p;have:=z b cap J;subst this;exact absurd r (f id o h1 hi)
  .rw [St.aT (fun e=>hi e.symm)] at h1;rw [St.aT (fun e=>c e.symm)] at s;rw [qN (Gh.cj _ _ hi)] at r;rw [qN (Gh.cj _ _ c)] at I;exact h.D id id' o o' b h1 s r I
 .intro id o b h1 r S;by_cases hi:id=k
  .subst hi;rw [St.aN q] at h1;cases h1;obtain ⟨l,cap,p,J⟩:=r;rw [Gh.aX] at p;simp only [aas,pq.tok.injEq] at p;subst p;have:=z b cap J;subst this;exact hA
  .rw [St.aT (fun e=>hi e.symm)] at h1;rw [qN (Gh.cj _ _ hi)] at r;exact h.own id o b h1 r S
structure Src (P:Program) (size:Nat) (x:Value) (n:Nat) (news:List Value) (w:World):Prop where
 len:(Builtin.lenOf x).run P w= .ok n w
 first:(Builtin.firstCells size n x).run P w= .ok news.toArray w
 drew:(Builtin.firstCells size n x).run P w.drew= .ok news.toArray w.drew
 l:news.length=n * size
theorem rT {t xt ty e:Td} {i:TypeInfo} {z:Value} {h:TypeDesc} (l:P.underlying t=some (.slice e)) (g:P.underlying xt=some h) (m: ∀k,h≠ .int k) (hi:P.info? e=some i) (o:i.zero=some z)
  {base:Oq Addr} {a b n:Nat} {c news:List Value} {x:Value} (hs:Src P i.size (.slice base a b) a c w) (hx:Src P i.size x n news w)
  (q:b < a+n) (p:((a+n:Nat):Int)<=9223372036854775807) (j:Builtin.nextslicecap (a+n) b * i.bytes<=281474976710656):
  (Builtin.append_ #[t,xt] ty #[.slice base a b,x]).run P w=
   .ok (.slice (some ⟨w.heap.size,0,none⟩) (a+n) (grownCap w (a+n) b e))
    (w.drew.alloc (.cells (c.toArray++news.toArray++Builtin.zeroCells z.cells (grownCap w (a+n) b e - (a+n))) e)):=by
 have hn:¬ (a+n<=b):=by omega
 have d:¬ (9223372036854775807 < ((a:Int)+(n:Int))):=by omega
 have f:¬ (281474976710656 < Builtin.nextslicecap (a+n) b * i.bytes):=by omega
 simp [Builtin.append_,gQ l,gQ g,sizeOf,typeInfo,zeroValue,hi,o,hx.len,hn,d,f,Question.forced,hs.drew,hx.drew,newRow,grownCap];congr 2;apply Array.ext';simp [aar]
theorem F8 {t xt ty e:Td} {i:TypeInfo} {h:TypeDesc} (j:P.underlying t=some (.slice e)) (f:P.underlying xt=some h) (l: ∀k,h≠ .int k) (hi:P.info? e=some i)
  {a:Addr} {b c n:Nat} {news:List Value} {x:Value} {w':World} (hx:Src P i.size x n news w)
  (d:b+n<=c) (g:(storeCells (a.add (b * i.size)) news).run P w= .ok () w'):
  (Builtin.append_ #[t,xt] ty #[.slice (some a) b c,x]).run P w= .ok (.slice (some a) (b+n) c) w':=by
 simp [Builtin.append_,gQ j,gQ f,sizeOf,typeInfo,hi,hx.len,d,hx.first,g]
theorem Inv.T3 (h:Inv T A g st w) {e:Td} {i:TI} (hi:T.get e=some i) (h1:1<=i.size) {els:LA} {vals rest:List Value} {cap n:Nat} (hn:els.length=n)
  (p: ∀v∈els,v.cells.length=i.size) (z:bH els=true) (r:RL g (flat els) vals) (ho: ∀v∈vals,v.oneCell'=true) (d:vals.length+rest.length=cap * i.size) (b:n<=cap):
  ∃g',Inv T A g' (st.new (.tok n e)).2 (w.drew.alloc (.cells (vals++rest).toArray e))/\Kp A g w g' (w.drew.alloc (.cells (vals++rest).toArray e))/\
   R g' (.sl i.size els (.own st.h)) (.slice (some ⟨w.heap.size,0,none⟩) n cap):=by
 have s:=h.drew;have f: ∀o,0<=o->o < 0+vals.length->g.F w.heap.size o=none:=fun o _ _=>h.mZ (aal _) o;have B:vals.length=n * i.size:=by rw [dQ r,eB p,hn]
 have C:Inv T A g st (w.drew.alloc (.cells (vals++rest).toArray e)):=s.alloc _;have D:Inv T A (g.cU w.heap.size 0 vals) st (w.drew.alloc (.cells (vals++rest).toArray e)):=C.cU _ 0 vals f (fun k v t=>by
   have:(w.drew.alloc (.cells (vals++rest).toArray e)).heap[w.heap.size]? =some (.cells (vals++rest).toArray e):=World.heap_alloc_new (w:=w.drew);rw [cell_of this];have G:k < vals.length:=by
    rcases Nat.lt_or_ge k vals.length with q | q
    .exact q
    .simp [aaS q] at t
   simp only [aax,abc];rw [aaP G];exact t) fun id o a=>h.js (aal _) id o a
 have c:(g.cU w.heap.size 0 vals).E st.h=none:=h.E _ (aal _);have j:Le g (g.cU w.heap.size 0 vals):=Le.cU f;refine ⟨(g.cU w.heap.size 0 vals).dB st.h (.tok fun m=>if m=n then some (w.heap.size,cap) else none), ?_, ?_, ?_⟩
 .refine D.name (.tok n e) _ w.heap.size (fun id o a=> ?_) (h.up _ (aal _)) ?_ ?_
  .exact h.js (aal _) id o a
  .rintro b' ⟨loc,u,l,y⟩;rw [Gh.aX] at l;simp only [aas,pq.tok.injEq] at l;subst l;simp at y;exact y.1.symm
  .refine ⟨_,w.heap.size,cap,i,(vals++rest).toArray,(0,0),Gh.aX _ _ _,by simp,fun m hm=> ?_,hi,h1,b,World.heap_alloc_new (w:=w.drew),by simpa using d,by simp,fun o H=> ?_⟩
   .rw [if_neg (by omega)]
   .show (g.cU w.heap.size 0 vals).F w.heap.size o=none;rw [Gh.dh _ _ _ _ (by omega)];exact h.mZ (aal _) o
 .exact ((Kp.drew A g w).trans (Kp.alloc _ s)).trans ((Kp.cU (h.up _ (aal _)) f).trans (Kp.dB c))
 .simp only [R];refine ⟨z,w.heap.size,0,cap,by rw [hn],by omega,h1, ?_,rfl,_,Gh.aX _ _ _,by simp [hn]⟩;refine gV (Le.dB c) _ _ _ _ ?_;rw [en];refine ⟨p,dN (eZ j _ _ r) fun k x hx=>⟨Gh.l3 g _ 0 vals k x hx,ho x (aaK hx)⟩⟩
theorem Inv.RY (h:Inv T A g st w) {e:Td} {i:TI} (hi:T.get e=some i) (h1:1<=i.size) {els:LA} {vals rest:List Value} {cap n:Nat} (hn:els.length=n)
  (p: ∀v∈els,v.cells.length=i.size) (z:bH els=true) (r:RL g (flat els) vals) (ho: ∀v∈vals,v.oneCell'=true) (d:vals.length+rest.length=cap * i.size) (b:n<=cap):
  ∃g',Inv T A g' (st.new (.tok n e)).2 (w.alloc (.cells (vals++rest).toArray e))/\Kp A g w g' (w.alloc (.cells (vals++rest).toArray e))/\
   R g' (.sl i.size els (.own st.h)) (.slice (some ⟨w.heap.size,0,none⟩) n cap):=by
 have s:=h;have f: ∀o,0<=o->o < 0+vals.length->g.F w.heap.size o=none:=fun o _ _=>h.mZ (aal _) o;have B:vals.length=n * i.size:=by rw [dQ r,eB p,hn]
 have C:Inv T A g st (w.alloc (.cells (vals++rest).toArray e)):=s.alloc _;have D:Inv T A (g.cU w.heap.size 0 vals) st (w.alloc (.cells (vals++rest).toArray e)):=C.cU _ 0 vals f (fun k v t=>by
   have:(w.alloc (.cells (vals++rest).toArray e)).heap[w.heap.size]? =some (.cells (vals++rest).toArray e):=World.heap_alloc_new (w:=w);rw [cell_of this];have G:k < vals.length:=by
    rcases Nat.lt_or_ge k vals.length with q | q
    .exact q
    .simp [aaS q] at t
   simp only [aax,abc];rw [aaP G];exact t) fun id o a=>h.js (aal _) id o a
 have c:(g.cU w.heap.size 0 vals).E st.h=none:=h.E _ (aal _);have j:Le g (g.cU w.heap.size 0 vals):=Le.cU f;refine ⟨(g.cU w.heap.size 0 vals).dB st.h (.tok fun m=>if m=n then some (w.heap.size,cap) else none), ?_, ?_, ?_⟩
 .refine D.name (.tok n e) _ w.heap.size (fun id o a=> ?_) (h.up _ (aal _)) ?_ ?_
  .exact h.js (aal _) id o a
  .rintro b' ⟨loc,u,l,y⟩;rw [Gh.aX] at l;simp only [aas,pq.tok.injEq] at l;subst l;simp at y;exact y.1.symm
  .refine ⟨_,w.heap.size,cap,i,(vals++rest).toArray,(0,0),Gh.aX _ _ _,by simp,fun m hm=> ?_,hi,h1,b,World.heap_alloc_new (w:=w),by simpa using d,by simp,fun o H=> ?_⟩
   .rw [if_neg (by omega)]
   .show (g.cU w.heap.size 0 vals).F w.heap.size o=none;rw [Gh.dh _ _ _ _ (by omega)];exact h.mZ (aal _) o
 .exact (Kp.alloc _ s).trans ((Kp.cU (h.up _ (aal _)) f).trans (Kp.dB c))
 .simp only [R];refine ⟨z,w.heap.size,0,cap,by rw [hn],by omega,h1, ?_,rfl,_,Gh.aX _ _ _,by simp [hn]⟩;refine gV (Le.dB c) _ _ _ _ ?_;rw [en];refine ⟨p,dN (eZ j _ _ r) fun k x hx=>⟨Gh.l3 g _ 0 vals k x hx,ho x (aaK hx)⟩⟩
theorem gr (b o:Nat) (ty:Td) (fz:Nat×Nat): ∀(vs:List Value) (i:Nat) (cur:Array Value) (w:World),w.heap[b]? =some (.cells cur ty fz)->o+i+vs.length<=cur.size->
  fz.2<=o+i->(∀v∈vs,v.oneCell'=true)->
  (storeCells ⟨b,o,none⟩ vs i).run P w= .ok () (w.setRow b (cur.toList.take (o+i)++vs++cur.toList.drop (o+i+vs.length)).toArray)
 | [],i,cur,w,c,_,_,_=>by
  simp only [storeCells,aay,aai,abf,abb,Array.toArray_toList];rw [setRow_self w b cur ty fz c];rfl
 | v::rest,i,cur,w,c,hl,g,h1=>by
  have hi:o+i < cur.size:=by simp at hl;omega
  have a:w.cell? ⟨b,o+i,none⟩=some cur[o+i]:=by simp [World.cell?,c,hi]
  have d:w.frozen? ⟨b,o+i,none⟩=false:=by
   simp only [World.frozen?,c];simp;omega
  have f:(store ((⟨b,o,none⟩:Addr).add i) v).run P w= .ok () (w.setRow b (cur.setIfInBounds (o+i) v)):=by
   rw [Addr.fL,run_store P w _ v _ (h1 v (by simp)),a];simp [d,setCell_eq_setRow w b (o+i) cur ty fz v c]
  have ih:=gr b o ty fz rest (i+1) (cur.setIfInBounds (o+i) v) (w.setRow b (cur.setIfInBounds (o+i) v)) (setRow_heap w b cur _ ty _ c) (by simp at hl ⊢;omega) (by omega) (fun x hx=>h1 x (by simp [hx]));simp only [storeCells,Sem.run_bind,f,Result.andThen_ok,ih,setRow_setRow];congr 3;have e:=list_seg_step cur.toList (o+i) v rest (by simp at hl ⊢;omega);simpa [Array.toList_setIfInBounds,abH] using e
end
section
variable {P:Program} {T:TT} {A:Nat->Prop} {g:Gh} {st:St} {w:World}
theorem CD {v v':AV} {xs:List Value} (e:fit v= .ok v') (h:RL g v.cells xs):RL g v'.cells xs/\bare v'=true/\v'.cells.length=v.cells.length:=by
 unfold fit at e;simp only at e;split at e
 .rename_i a;simp only [aaf] at e;subst e;cases v with
  | agg cs=>exact ⟨pW h,a,by simp [AV.cells]⟩
  | sl z es p=>
   cases p with
   | own k=>exact ⟨pW (vs:=[.sl z es (.own k)]) h,a,rfl⟩
   | _=>exact ⟨h,a,rfl⟩
  | _=>exact ⟨h,a,rfl⟩
 .cases e
theorem P3 {us vs:LA} {xs:List Value} (h:RL g (us++vs) xs):RL g us (xs.take us.length)/\RL g vs (xs.drop us.length):=by
 have h1:=oM us.length h;have a:=jM us.length h;simp at h1 a;exact ⟨h1,a⟩
theorem pC: ∀{vs vs':LA} {xs:List Value},fits vs= .ok vs'->RL g (flat vs) xs->RL g (flat vs') xs/\bH vs'=true/\vs'.length=vs.length/\vs'.map (·.cells.length)=vs.map (·.cells.length)
 | [],_,_,e,h=>by
  simp only [fits,aaf] at e;subst e;exact ⟨h,rfl,rfl,rfl⟩
 | v::vs,vs',xs,e,h=>by
  simp only [fits,ag,aj] at e;obtain ⟨u,a,us,b,rfl⟩:=e;rw [iO] at h;obtain ⟨h1,c⟩:=P3 h;obtain ⟨k1,k2,d⟩:=CD a h1;obtain ⟨f,i,k6,j⟩:=pC b c;refine ⟨?_,by simp [aJ,k2,i],by simp [k6],by simp [d,j]⟩;rw [iO];have:=fk k1 f
  rwa [abb] at this
theorem grownCap_ge {n c:Nat} {e:Td}:n<=grownCap w n c e:=by
 simp only [grownCap,Question.cut];omega
theorem jo (z:Array Value) (n:Nat):(Builtin.zeroCells z n).toList.length=n * z.size:=by
 simp [Builtin.zeroCells]
structure y8 (P:Program) (T:TT) (t xt e:Td) (i:TI):Prop where
 t:P.underlying t=some (.slice e)
 xt: ∃d,P.underlying xt=some d/\ ∀k,d≠ .int k
 get:T.get e=some i
 ok:kP P e i
theorem y8.info {t xt e:Td} {i:TI} (h:y8 P T t xt e i): ∃f z,P.info? e=some f/\f.size=i.size/\f.bytes=i.bytes/\f.zero=some z/\z.cells.size=i.size:=by
 obtain ⟨f,h1,a,b,z,c,d,_⟩:=h.ok.info;exact ⟨f,z,h1,a,b,c,d⟩
theorem qa {n:Nat} {i:TI} (h:dn n i=true):n * i.bytes<=70368744177664/\1<=i.size/\n<=70368744177664:=by
 simp only [dn,aak] at h;exact ⟨aah h.1,aah h.2.1,aah h.2.2⟩
theorem uE {t xt ty e:Td} {i:TI} (he:y8 P T t xt e i) {base:Oq Addr} {a b n:Nat} {j news:List Value} {x:Value}
  (hs:Src P i.size (.slice base a b) a j w) (hx:Src P i.size x n news w) (o:b < a+n) (k:dn (a+n) i=true)
  (h:Inv T A g st w) {els:LA} (hn:els.length=a+n) (p: ∀v∈els,v.cells.length=i.size) (s:bH els=true) (q:RL g (flat els) (j++news)) (ho: ∀v∈j++news,v.oneCell'=true):
  bh P T A g w (.sl i.size els (.own st.h)) (st.new (.tok (a+n) e)).2 (Builtin.append_ #[t,xt] ty #[.slice base a b,x]):=by
 obtain ⟨f,z,u,r,y,B,C⟩:=he.info;obtain ⟨d,d1,d2⟩:=he.xt;obtain ⟨F,r2,G⟩:=qa k;have l:Builtin.nextslicecap (a+n) b * f.bytes<=281474976710656:=growslice_fits o (by rw [y];omega);have hrun:=rT (ty:=ty) he.t d1 d2 u B (by rw [r];exact hs) (by rw [r];exact hx) o (by omega) l;have m:=grownCap_ge (w:=w) (n:=a+n) (c:=b) (e:=e);obtain ⟨g',k1,k2,D⟩:=h.T3 (rest:=(Builtin.zeroCells z.cells (grownCap w (a+n) b e - (a+n))).toList) (cap:=grownCap w (a+n) b e) he.get r2 hn p s q ho (by
  rw [jo,C,dQ q,eB p,hn, <- Nat.add_mul];congr 1;omega) m
 have E:j.toArray++news.toArray++Builtin.zeroCells z.cells (grownCap w (a+n) b e - (a+n))=(j++news++(Builtin.zeroCells z.cells (grownCap w (a+n) b e - (a+n))).toList).toArray:=by
  apply Array.ext';simp
 rw [E] at hrun;exact ⟨_,g',_,hrun,D,k1,k2⟩
theorem HV {t xt ty e:Td} {i:TI} (he:y8 P T t xt e i) {k b o cap n:Nat} {es new:LA} {news:List Value} {x:Value}
  (hk:st.get k= .ok (.tok es.length e)) (U:st.ro<=k) (cy:bH es=true) (b4:iW g i.size es b o) (Y:es.length<=cap) (hp:wI g (.own k) es.length b o cap)
  (hx:Src P i.size x n news w) (hn:new.length=n) (dv:0 < n) (hc: ∀v∈new,v.cells.length=i.size) (hb:bH new=true) (hr:RL g (flat new) news) (ho: ∀v∈news,v.oneCell'=true)
  (aw:dn (es.length+n) i=true) (h:Inv T A g st w):
  bh P T A g w (.sl i.size (es++new) (.own k)) (st.put k (.tok (es.length+n) e)) (Builtin.append_ #[t,xt] ty #[.slice (some ⟨b,o,none⟩) es.length cap,x]):=by
 obtain ⟨f,z,f1,f2,f3,f4,f5⟩:=he.info;obtain ⟨d,d1,d2⟩:=he.xt;obtain ⟨r1,r2,r3⟩:=qa aw;obtain ⟨rfl,loc,hE,b5⟩:=hp;obtain ⟨J,B,r,s,vs,fz,q1,q2,q3,q4,q5,q6,q7,q8,q9,V⟩:=h.H k _ hk;have e1:=q1.symm.trans hE;simp only [aas,pq.tok.injEq] at e1;subst e1;have e2:=q2.symm.trans b5;simp only [aas,aaj] at e2;obtain ⟨rfl,rfl⟩:=e2;have e3:=q4.symm.trans he.get;simp only [aas] at e3;subst e3;have Z:=b4;rw [en] at Z;obtain ⟨ar,b6⟩:=Z;obtain ⟨p,o1,o2⟩:=jC b6;have a1:p.length=es.length * s.size:=by rw [dQ o1,eB ar]
 have a6:news.length=n * s.size:=hx.l;have cz:flat (es++new)=flat es++flat new:=oL _ _;have a7: ∀v∈es++new,v.cells.length=s.size:=fun v C=>by
  rcases aaC.1 C with C | C
  .exact ar v C
  .exact hc v C
 have L:bH (es++new)=true:=by rw [gw,cy,hb];rfl
 have G:(es++new).length=es.length+n:=by simp [hn]
 by_cases N:es.length+n<=r
 ·-- in place
  have b7:=gr (P:=P) B (es.length * s.size) e fz news 0 vs w q7 (by
   rw [q8,a6];simp only [abf];rw [<- Nat.add_mul];exact Nat.mul_le_mul_right _ N) (by simpa using q9) ho
  simp only [abf] at b7;have hrun:=F8 (ty:=ty) (a:=⟨B,0,none⟩) he.t d1 d2 f1 (by rw [f2];exact hx) N (by rw [f2,Addr.fL,aax];exact b7);generalize O:vs.toList.take (es.length * s.size)++news++vs.toList.drop (es.length * s.size+news.length)=row at hrun;have Q:row.length=vs.size:=by
   rw [<- O];have:es.length * s.size+news.length<=vs.size:=by rw [q8,a6, <- Nat.add_mul];exact Nat.mul_le_mul_right _ N
   simp;omega
  have b8: ∀j,j < es.length * s.size->row[j]? =vs[j]? :=fun j hj=>by
   rw [<- O,aar,aaP (by simp;have:=Nat.mul_le_mul_right s.size Y;omega),List.getElem?_take,if_pos hj];simp
  have b9: ∀j v,news[j]? =some v->row[es.length * s.size+j]? =some v:=fun j v C=>by
   have hj:j < news.length:=by
    rcases Nat.lt_or_ge j news.length with q | q
    .exact q
    .simp [aaS q] at C
   have cc:(vs.toList.take (es.length * s.size)).length=es.length * s.size:=by
    have h1:vs.toList.length=r * s.size:=q8;have h2:es.length * s.size<=r * s.size:=Nat.mul_le_mul_right _ Y;rw [aau,h1];omega
   rw [<- O,aar,aaM (by rw [cc];omega),cc,aaP (by omega)];rw [show es.length * s.size+j - es.length * s.size=j by omega];exact C
  have u:(w.setRow B row.toArray).heap[B]? =some (.cells row.toArray e fz):=setRow_heap _ _ _ _ _ _ q7;have cF:g.M B=none:=by
   cases hm:g.M B with
   | none=>rfl
   | some ee=>
    have:=h.M B ee.1 ee.2 hm;rw [q7] at this;cases this
  have K:At g k (.tok es.length e) B:=⟨J,r,q1,q2⟩;have i1:Inv T A g (st.put k (.tok es.length e)) (w.setRow B row.toArray):=h.write hk K (.tok es.length e) (setRow_size _ _ _) (fun _ hb=>iN _ _ _ hb)
   (fun j v C=>by
    have hj:j < es.length * s.size:=by
     rcases Nat.lt_or_ge j (es.length * s.size) with q | q
     .exact q
     .rw [V j q] at C;cases C
    have:=h.F B j v C;rw [cell_of q7] at this;rw [cell_of u,abc,b8 j hj];exact this) cF
   (fun b' c6=>by
    obtain ⟨l,c,p1,p2⟩:=c6;have e1:=p1.symm.trans q1;simp only [aas,pq.tok.injEq] at e1;subst e1;have e2:=p2.symm.trans q2;simp only [aas,aaj] at e2;exact e2.1)
   ⟨J,B,r,s,row.toArray,fz,q1,q2,q3,q4,q5,q6,u,by simpa [Q] using q8,q9,V⟩
  have a8:Kp A g w g (w.setRow B row.toArray):=Kp.write (h.own k _ B hk K U) (setRow_size _ _ _) (fun _ hb=>iN _ _ _ hb);have c7:(st.put k (.tok es.length e)).get k= .ok (.tok es.length e):=St.aN (St.ca.1 hk).1;have bb: ∀o,es.length * s.size<=o->o < es.length * s.size+news.length->g.F B o=none:=fun o ho _=>V o ho;obtain ⟨W,S⟩:=i1.Ta (n':=es.length+n) (loc':=fun m=>if m=es.length+n then some (B,r) else J m) B (es.length * s.size) news c7 q1
   (fun m y hy=>by
    by_cases hm:m=es.length+n
    .have:=q3 m (by omega);rw [this] at hy;cases hy
    .rw [if_neg hm];exact hy) U bb
   (fun j v C=>by rw [cell_of u,abc];exact b9 j v C)
   (fun id o X cd ha=>by
    rw [St.aT (fun e=>cd e.symm)] at X;exact cd (h.D id k o _ B X hk ha K)) (h.own k _ B hk K U)
   (fun b c I=>by rw [if_pos rfl] at I;simp only [aas,aaj] at I;exact I.1.symm)
   ⟨_,B,r,s,row.toArray,fz,Gh.aX _ _ _,by simp,fun m hm=>by rw [if_neg (by omega)];exact q3 m (by omega),q4,q5,N,u,by simpa [Q] using q8,
    aaR q9 (Nat.mul_le_mul_right _ (by omega)),fun o cg=>by
     show (g.cU B (es.length * s.size) news).F B o=none;rw [Nat.add_mul] at cg;rw [Gh.dh _ _ _ _ (by omega)];exact V o (by omega)⟩
  have cl:(st.put k (.tok es.length e)).put k (.tok (es.length+n) e)=st.put k (.tok (es.length+n) e):=by
   simp only [St.put,Tr.put,Tr.set_set]
  rw [cl] at W;refine ⟨_,_,_,hrun, ?_,W,a8.trans S⟩;have cn:Le g _:=S.le;simp only [R];refine ⟨L,B,0,r,by rw [G],by rw [G];exact N,q5, ?_,rfl,_,Gh.aX _ _ _,by simp [hn]⟩;rw [oE];refine ⟨gV cn _ _ _ _ b4, ?_⟩;rw [en];refine ⟨hc,dN (eZ cn _ _ hr) fun j v C=>⟨?_,ho v (aaK C)⟩⟩;rw [aax];exact Gh.l3 g B (es.length * s.size) news j v C
 ·-- in a new array
  have av: ∀w':World,(∀b o,w'.cell? ⟨b,o,none⟩=w.cell? ⟨b,o,none⟩)->(Builtin.firstCells s.size es.length (.slice (some ⟨B,0,none⟩) es.length r)).run P w'= .ok p.toArray w':=fun w' c8=>
   run_firstCells_some (P:=P) w' s.size es.length ⟨B,0,none⟩ es.length r p a1 (fun j v C=>by
    rw [Addr.fL,c8];exact h.F _ _ _ (o2 j v C).1)
  have hs:Src P s.size (.slice (some ⟨B,0,none⟩) es.length r) es.length p w:=⟨by simp [Builtin.lenOf],av w fun _ _=>rfl,av w.drew fun _ _=>rfl,a1⟩;have hg:r < es.length+n:=by omega
  have cp:Builtin.nextslicecap (es.length+n) r * f.bytes<=281474976710656:=growslice_fits hg (by rw [f3];omega);have hrun:=rT (ty:=ty) he.t d1 d2 f1 f4 (by rw [f2];exact hs) (by rw [f2];exact hx) hg (by omega) cp;have bt:=grownCap_ge (w:=w) (n:=es.length+n) (c:=r) (e:=e);generalize grownCap w (es.length+n) r e=E at hrun bt;have hw:p.toArray++news.toArray++Builtin.zeroCells z.cells (E - (es.length+n))=(p++news++(Builtin.zeroCells z.cells (E - (es.length+n))).toList).toArray:=by
   apply Array.ext';simp
  rw [hw] at hrun;have cv:(Builtin.zeroCells z.cells (E - (es.length+n))).toList.length=(E - (es.length+n)) * s.size:=by rw [jo,f5]
  generalize (Builtin.zeroCells z.cells (E - (es.length+n))).toList=rest at hrun cv;have hd:=h.drew;have i1:Inv T A g st (w.drew.alloc (.cells (p++news++rest).toArray e)):=hd.alloc _;have a8:Kp A g w g (w.drew.alloc (.cells (p++news++rest).toArray e)):=(Kp.drew A g w).trans (Kp.alloc _ hd);have u:(w.drew.alloc (.cells (p++news++rest).toArray e)).heap[w.heap.size]? =some (.cells (p++news++rest).toArray e):=World.heap_alloc_new (w:=w.drew);have de:(p++news).length=(es.length+n) * s.size:=by simp [a1,a6,Nat.add_mul]
  obtain ⟨W,S⟩:=i1.Ta (n':=es.length+n) (loc':=fun m=>if m=es.length+n then some (w.heap.size,E) else J m) w.heap.size 0 (p++news) hk q1
   (fun m y hy=>by
    by_cases hm:m=es.length+n
    .have:=q3 m (by omega);rw [this] at hy;cases hy
    .rw [if_neg hm];exact hy) U (fun o _ _=>h.mZ (aal _) o)
   (fun j v C=>by
    have hj:j < (p++news).length:=by
     rcases Nat.lt_or_ge j (p++news).length with q | q
     .exact q
     .rw [aaS q] at C;cases C
    rw [cell_of u,abc,aax,aaP hj];exact C)
   (fun id o X _=>h.js (aal _) id o X) (h.up _ (aal _))
   (fun b c I=>by rw [if_pos rfl] at I;simp only [aas,aaj] at I;exact I.1.symm)
   ⟨_,w.heap.size,E,s,(p++news++rest).toArray,(0,0),Gh.aX _ _ _,by simp,fun m hm=>by rw [if_neg (by omega)];exact q3 m (by omega),q4,q5,bt,u,by
     simp only [ab1];rw [aad,de,cv, <- Nat.add_mul];congr 1;omega,by simp,fun o cg=>by
     show (g.cU w.heap.size 0 (p++news)).F w.heap.size o=none;rw [Gh.dh _ _ _ _ (by omega)];exact h.mZ (aal _) o⟩
  refine ⟨_,_,_,hrun, ?_,W,a8.trans S⟩;simp only [R];refine ⟨L,w.heap.size,0,E,by rw [G],by rw [G];exact bt,q5, ?_,rfl,_,Gh.aX _ _ _,by simp [hn]⟩;rw [en];refine ⟨a7, ?_⟩;rw [cz];exact dN (eZ S.le _ _ (fk o1 hr)) fun j v C=>⟨Gh.l3 g w.heap.size 0 (p++news) j v C,by
   rcases aaC.1 (aaK C) with hm | hm
   .obtain ⟨jj,dk⟩:=List.getElem?_of_mem hm;exact (o2 jj v dk).2
   .exact ho v hm⟩
end
section
variable {P:Program} {T:TT} {A:Nat->Prop} {g:Gh} {st:St} {w:World}
theorem D8 (s:LB):flat (ofBytes s)=ofBytes s:=by
 unfold ofBytes
 induction s with
 | nil=>rfl
 | cons b s ih=>rw [aan,iO,ih];rfl
theorem O9 (s:LB):RL g (ofBytes s) (s.map fun b=>Value.int .u8 b.toNat):=by
 unfold ofBytes
 induction s with
 | nil=>simp [RL]
 | cons b s ih=>exact cL (by simp only [R]) ih
theorem EV {new:LA} {z:Nat} (h:new.all (fun v=>v.cells.length.beq z)=true): ∀v∈new,v.cells.length=z:=by
 intro v a;exact aap (aa7.1 h v a)
theorem xV {x:Value} {s:AV} {new c:LA} {z:Nat} (hx:R g s x) (he:qT s=some new) (hf:fits new= .ok c) (t: ∀v∈c,v.cells.length=z) (e:new≠[]) (h:Inv T A g st w):
  ∃news,Src P z x c.length news w/\RL g (flat c) news/\bH c=true/\(∀v∈news,v.oneCell'=true)/\c.length=new.length:=by
 cases s <;> simp only [qT,aas] at he <;> (try (cases he;done))
 ·-- a string
  rename_i s;subst he;simp only [R] at hx;subst hx;obtain ⟨k1,k2,i,m⟩:=pC (g:=g) hf (xs:=s.map fun b=>Value.int .u8 b.toNat) (by rw [D8];exact O9 s);have hl:c.length=s.length:=by rw [i];simp [ofBytes]
  have q:z=1:=by
   cases c with
   | nil=>
    have:s=[]:=aa6 (by simpa using hl.symm);subst this;exact absurd rfl e
   | cons v l=>
    have:=t v (by simp);cases s with
    | nil=>simp [ofBytes] at e
    | cons b s=>
     simp only [ofBytes,aan,abx] at m;have:v.cells.length=1:=m.1;omega
  subst q;have d: ∀w',(Builtin.firstCells 1 c.length (.string ⟨s.toArray⟩)).run P w'= .ok (s.map fun b=>Value.int .u8 b.toNat).toArray w':=fun w'=>by
   simp only [Builtin.firstCells,Sem.run_pure,hl];congr 1;apply Array.ext';simp [ByteArray.data_extract]
  refine ⟨_,⟨by simp [Builtin.lenOf,qb,hl],d w,d w.drew,by simp [hl]⟩,k1,k2,fun v k=> ?_,i⟩;simp only [aa8] at k;obtain ⟨b,_,rfl⟩:=k;rfl
 .subst he;exact absurd rfl e
 .rename_i z' es p;subst he;simp only [R] at hx;obtain ⟨E,b,o,cap,rfl,u,C,n,hp⟩:=hx;rw [en] at n;obtain ⟨xs,y,B⟩:=jC n.2;obtain ⟨k1,k2,i,m⟩:=pC hf y;have q:z'=z:=by
   cases f:es with
   | nil=>exact absurd f e
   | cons v l=>
    cases hn:c with
    | nil=>rw [hn,f] at i;simp at i
    | cons v' G=>
     rw [hn,f] at m;simp only [aan,abx] at m;have h1:=t v' (by rw [hn];simp);have H:=n.1 v (by rw [f];simp);omega
  subst q;have hl:xs.length=c.length * z':=by rw [dQ y,eB n.1,i]
  have d: ∀w':World,(∀b o,w'.cell? ⟨b,o,none⟩=w.cell? ⟨b,o,none⟩)->(Builtin.firstCells z' c.length (.slice (some ⟨b,o,none⟩) es.length cap)).run P w'= .ok xs.toArray w':=fun w' r=>
   run_firstCells_some (P:=P) w' z' c.length ⟨b,o,none⟩ es.length cap xs hl (fun j v k=>by
    rw [Addr.fL,r];exact h.F _ _ _ (B j v k).1)
  exact ⟨xs,⟨by simp [Builtin.lenOf,i],d w fun _ _=>rfl,d w.drew fun _ _=>rfl,hl⟩,k1,k2,fun v k=>by
   obtain ⟨j,D⟩:=List.getElem?_of_mem k;exact (B j v D).2,i⟩
 .subst he;exact absurd rfl e
theorem vB {C:dt} {t xt ty e:Td} {i:TI} (he:y8 P T t xt e i) {s x r:AV} {sv xv:Value} {new:LA} {p:dY} {fx:Fx} (G:qT x=some new)
  (hp:jP i e s new= .ok p) (hrun:aE C st p= .ok (r,fx)) (hs:R g s sv) (hx:R g x xv) (h:Inv T A g st w):
  bh P T A g w r (fx.did.app st) (Builtin.append_ #[t,xt] ty #[sv,xv]):=by
 obtain ⟨f,z,f1,f2,f3,f4,f5⟩:=he.info;obtain ⟨d,d1,d2⟩:=he.xt;unfold jP at hp;split at hp
 ·-- nothing is M
  have m:(Builtin.lenOf xv).run P w= .ok 0 w/\(Builtin.firstCells f.size 0 xv).run P w= .ok #[] w:=by
   cases x <;> simp only [qT,aas] at G <;> (try (cases G;done)) <;> simp only [R] at hx
   .rename_i s;have:s=[]:=by simpa [ofBytes] using G
    subst this;subst hx;have h0:(⟨[].toArray⟩:ByteArray)=ByteArray.empty:=rfl;rw [h0];exact ⟨by simp [Builtin.lenOf],by simp [Builtin.firstCells]⟩
   .subst hx;exact ⟨by simp [Builtin.lenOf],by simp [Builtin.firstCells]⟩
   .subst G;obtain ⟨_,b,o,cap,rfl,_⟩:=hx;exact ⟨by simp [Builtin.lenOf],by simp [Builtin.firstCells,loadCells,loadCellsFrom]⟩
   .obtain ⟨a,rfl⟩:=hx;exact ⟨by simp [Builtin.lenOf],by simp [Builtin.firstCells,loadCells,loadCellsFrom]⟩
  split at hp
  .simp only [aj] at hp;subst hp;simp only [aE,aaf,aaj] at hrun;obtain ⟨rfl,rfl⟩:=hrun;simp only [R] at hs;subst hs;refine bh.of h (x:= .slice none 0 0) ?_ (by simp only [R]);simp [Builtin.append_,gQ he.t,gQ d1,sizeOf,typeInfo,f1,m.1,m.2]
  .simp only [aj] at hp;subst hp;simp only [aE,aaf,aaj] at hrun;obtain ⟨rfl,rfl⟩:=hrun;have q:=hs;simp only [R] at q;obtain ⟨_,b,o,cap,rfl,H,_⟩:=q;refine bh.of h ?_ hs;simp [Builtin.append_,gQ he.t,gQ d1,sizeOf,typeInfo,f1,m.1,m.2,H,storeCells]
  .simp only [aj] at hp;subst hp;simp only [aE,aaf,aaj] at hrun;obtain ⟨rfl,rfl⟩:=hrun;have q:=hs;simp only [R] at q;obtain ⟨a,rfl⟩:=q;refine bh.of h ?_ hs;simp [Builtin.append_,gQ he.t,gQ d1,sizeOf,typeInfo,f1,m.1,m.2,storeCells]
  .cases hp
 .rename_i v l;simp only [ag] at hp;obtain ⟨y,hf,hp⟩:=hp;split at hp
  .cases hp
  .rename_i O;have Q:=EV O;obtain ⟨news,X,Y,Z,s4,s5⟩:=xV (P:=P) hx G hf Q (by simp) h;have hpos:0 < y.length:=by rw [s5];simp
   split at hp
   ·-- to nil
    split at hp
    .rename_i c;simp only [aj] at hp;subst hp;simp only [aE,aaf,aaj] at hrun;obtain ⟨rfl,rfl⟩:=hrun;simp only [R] at hs;subst hs;have I:Src P i.size (.slice none 0 0) 0 [] w:=⟨by simp [Builtin.lenOf],by simp [Builtin.firstCells],by simp [Builtin.firstCells],by simp⟩;have:=uE (ty:=ty) he I X (by omega) (by rw [aax];exact c) h (els:=y) (by omega) Q Z (by simpa using Y) (by simpa using s4);rw [aax] at this;exact this
    .cases hp
   .rename_i z' es p';split at hp
    .cases hp
    .rename_i c;simp only [aak] at c;obtain ⟨c,K⟩:=c;have K:=aap K;subst K;have q:=hs;simp only [R] at q;obtain ⟨S,b,o,cap,rfl,H,aw,U,J⟩:=q;split at hp
     .simp only [aj] at hp;subst hp;simp only [aE,aaf,aaj] at hrun;obtain ⟨rfl,rfl⟩:=hrun;have L:cap=es.length:=J;subst L;have B:=U;rw [en] at B;obtain ⟨xs,x1,x2⟩:=jC B.2;have hl:xs.length=es.length * i.size:=by rw [dQ x1,eB B.1]
      have D: ∀w':World,(∀b o,w'.cell? ⟨b,o,none⟩=w.cell? ⟨b,o,none⟩)->(Builtin.firstCells i.size es.length (.slice (some ⟨b,o,none⟩) es.length es.length)).run P w'= .ok xs.toArray w':=fun w' ar=>
       run_firstCells_some (P:=P) w' i.size es.length ⟨b,o,none⟩ es.length es.length xs hl (fun j v E=>by
        rw [Addr.fL,ar];exact h.F _ _ _ (x2 j v E).1)
      have m:Src P i.size (.slice (some ⟨b,o,none⟩) es.length es.length) es.length xs w:=⟨by simp [Builtin.lenOf],D w fun _ _=>rfl,D w.drew fun _ _=>rfl,hl⟩;exact uE (ty:=ty) he m X (by omega) c h (els:=es++y) (by simp) (fun v E=>by
       rcases aaC.1 E with E | E
       .exact B.1 v E
       .exact Q v E) (by rw [gw,S,Z];rfl) (by rw [oL];exact fk x1 Y) (fun v E=>by
       rcases aaC.1 E with E | E
       .obtain ⟨j,hj⟩:=List.getElem?_of_mem E;exact (x2 j v hj).2
       .exact s4 v E)
     .rename_i k;simp only [aj] at hp;subst hp;simp only [aE,ag,aj] at hrun;obtain ⟨ob,h1,⟨v',o'⟩,N,dd,V,h6⟩:=hrun;split at N
      .rename_i n e';split at N
       .rename_i u;simp only [aak] at u;have hn:=aap u.1;have av:=aap u.2;subst hn av;simp only [aj,aaj] at N;obtain ⟨rfl,rfl⟩:=N;simp only [fh] at V;split at V
        .cases V
        .rename_i W;rw [da] at W;simp only [aaf] at V;subst V;simp only [aaj] at h6;obtain ⟨rfl,rfl⟩:=h6;exact HV he h1 W S U H J X rfl hpos Q Z Y s4 c h
       .cases N
      .cases N
     .cases hp
   .split at hp
    .rename_i c;simp only [aj] at hp;subst hp;simp only [aE,aaf,aaj] at hrun;obtain ⟨rfl,rfl⟩:=hrun;simp only [R] at hs;obtain ⟨a,rfl⟩:=hs;have I:Src P i.size (.slice (some a) 0 0) 0 [] w:=⟨by simp [Builtin.lenOf],by simp [Builtin.firstCells,loadCells,loadCellsFrom],by simp [Builtin.firstCells,loadCells,loadCellsFrom],by simp⟩;have:=uE (ty:=ty) he I X (by omega) (by rw [aax];exact c) h (els:=y) (by omega) Q Z (by simpa using Y) (by simpa using s4);rw [aax] at this;exact this
    .cases hp
   .cases hp
end
end Go.VM
