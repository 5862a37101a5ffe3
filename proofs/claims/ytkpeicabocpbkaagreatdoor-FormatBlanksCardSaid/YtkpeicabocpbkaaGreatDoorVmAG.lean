/-
  A part of the proof.
-/
import Derived.Test.YtkpeicabocpbkaaGreatDoorVmAF
import Derived.Laws.Append
set_option linter.all false
namespace Go.VM
section
variable {P:Program} {T:TT} {A:Nat->Prop} {g:Gh} {st:St} {w:World}
theorem Inv.Sl (h:Inv T A g st w) {k n n':Nat} {e:Td} {loc loc':Nat->Oq (Nat×Nat)} (b' lo:Nat) (vals:List Value)
  (P:st.get k= .ok (.tok n e)) (hE:g.E k=some (.tok loc)) (C: ∀m x,loc m=some x->loc' m=some x) (Q:st.ro<=k)
  (t: ∀o,lo<=o->o < lo+vals.length->g.F b' o=none) (u: ∀i v,vals[i]? =some v->w.cell? ⟨b',lo+i,none⟩=some v)
  (f: ∀id o,st.get id= .ok o->id≠k->¬ At g id o b') (hA:A b') (z: ∀b cap,loc' n'=some (b,cap)->b=b')
  (ho:Holds T ((g.eR b' lo vals).dP k (.tok loc')) w k (.tok n' e)):
  Inv T A ((g.eR b' lo vals).dP k (.tok loc')) (st.put k (.tok n' e)) w/\Kp A g w ((g.eR b' lo vals).dP k (.tok loc')) w:=by
 have q:=(St.cZ.1 P).1;have K:Le g (g.eR b' lo vals):=Le.eR t;have L:Le (g.eR b' lo vals) ((g.eR b' lo vals).dP k (.tok loc')):=by
  refine ⟨fun _ _ _ x=>x,fun _ _ x=>x,fun j b x=> ?_,fun j l x=> ?_⟩
  .have:j≠k:=fun e=>by subst e;have:=hE.symm.trans x;cases this
   rw [Gh.dM _ _ this];exact x
  .by_cases B:j=k
   .subst B;have x':g.E j=some (.tok l):=x;have:=hE.symm.trans x';simp only [aav,tz.tok.injEq] at this;subst this;exact ⟨loc',Gh.bJ _ _ _,C⟩
   .exact ⟨l,by rw [Gh.dM _ _ B];exact x,fun _ _ y=>y⟩
 have le:=K.trans L;refine ⟨⟨?_,h.M, ?_, ?_, ?_, ?_,h.up⟩,⟨aah _,fun _ _=>rfl,fun b N o=>Gh.fM _ _ _ _ (.inl fun e=>N (e ▸ hA)),fun _ _=>rfl,le,rfl,rfl,rfl⟩⟩
 .intro b o v O;by_cases R:b=b'/\lo<=o/\o < lo+vals.length
  .obtain ⟨rfl,h1,s⟩:=R;have d:(g.eR b lo vals).F b o=some v:=O;simp only [Gh.eR] at d;rw [if_pos ⟨trivial,h1,s⟩] at d;have:=u _ _ d
   rwa [show lo+(o - lo)=o by omega] at this
  .have d:(g.eR b' lo vals).F b o=some v:=O;rw [Gh.fM _ _ _ _ (by omega)] at d;exact h.F b o v d
 .intro id a;have G:st.h<=id:=a;rw [Gh.dM _ _ (by omega)];exact h.E id G
 .intro id o a;by_cases B:id=k
  .subst B;rw [St.bx q] at a;cases a;exact ho
  .rw [St.bD (fun e=>B e.symm)] at a;exact mz (h.H id o a) le (Gh.dM _ _ B) fun b N=>⟨fun _=>Gh.fM _ _ _ _ (.inl fun e=>f id o a B (e ▸ N)),rfl⟩
 .intro id id' o o' b h1 s r I;by_cases hi:id=k <;> by_cases c:id'=k
  .rw [hi,c]
  .subst hi;rw [St.bx q] at h1;cases h1;rw [St.bD (fun e=>c e.symm)] at s;rw [uu (Gh.dM _ _ c)] at I;obtain ⟨l,cap,p,J⟩:=r;rw [Gh.bJ] at p;simp only [aav,tz.tok.injEq] at p;subst p;have:=z b cap J;subst this;exact absurd I (f id' o' s c)
  .subst c;rw [St.bx q] at s;cases s;rw [St.bD (fun e=>hi e.symm)] at h1;rw [uu (Gh.dM _ _ hi)] at r;obtain ⟨l,cap,p,J⟩:=I;rw [Gh.bJ] at p;simp only [aav,tz.tok.injEq] at p;subst p;have:=z b cap J;subst this;exact absurd r (f id o h1 hi)
  .rw [St.bD (fun e=>hi e.symm)] at h1;rw [St.bD (fun e=>c e.symm)] at s;rw [uu (Gh.dM _ _ hi)] at r;rw [uu (Gh.dM _ _ c)] at I;exact h.D id id' o o' b h1 s r I
 .intro id o b h1 r S;by_cases hi:id=k
  .subst hi;rw [St.bx q] at h1;cases h1;obtain ⟨l,cap,p,J⟩:=r;rw [Gh.bJ] at p;simp only [aav,tz.tok.injEq] at p;subst p;have:=z b cap J;subst this;exact hA
  .rw [St.bD (fun e=>hi e.symm)] at h1;rw [uu (Gh.dM _ _ hi)] at r;exact h.own id o b h1 r S
structure Src (P:Program) (size:Nat) (x:Value) (n:Nat) (news:List Value) (w:World):Prop where
 len:(Builtin.lenOf x).run P w= .ok n w
 first:(Builtin.firstCells size n x).run P w= .ok news.toArray w
 drew:(Builtin.firstCells size n x).run P w.drew= .ok news.toArray w.drew
 l:news.length=n * size
theorem zw {t xt ty e:Td} {i:TypeInfo} {z:Value} {h:TypeDesc} (l:P.underlying t=some (.slice e)) (g:P.underlying xt=some h) (m: ∀k,h≠ .int k) (hi:P.info? e=some i) (o:i.zero=some z)
  {base:Oq Addr} {a b n:Nat} {c news:List Value} {x:Value} (hs:Src P i.size (.slice base a b) a c w) (hx:Src P i.size x n news w)
  (q:b < a+n) (p:((a+n:Nat):Int)<=9223372036854775807) (j:Builtin.nextslicecap (a+n) b * i.bytes<=281474976710656):
  (Builtin.append_ #[t,xt] ty #[.slice base a b,x]).run P w=
   .ok (.slice (some ⟨w.heap.size,0,none⟩) (a+n) (grownCap w (a+n) b e))
    (w.drew.alloc (.cells (c.toArray++news.toArray++Builtin.zeroCells z.cells (grownCap w (a+n) b e - (a+n))) e)):=by
 have hn:¬ (a+n<=b):=by omega
 have d:¬ (9223372036854775807 < ((a:Int)+(n:Int))):=by omega
 have f:¬ (281474976710656 < Builtin.nextslicecap (a+n) b * i.bytes):=by omega
 simp [Builtin.append_,gD l,gD g,sizeOf,typeInfo,zeroValue,hi,o,hx.len,hn,d,f,Question.forced,hs.drew,hx.drew,newRow,grownCap];congr 2;apply Array.ext';simp [aao]
theorem Oh {t xt ty e:Td} {i:TypeInfo} {h:TypeDesc} (j:P.underlying t=some (.slice e)) (f:P.underlying xt=some h) (l: ∀k,h≠ .int k) (hi:P.info? e=some i)
  {a:Addr} {b c n:Nat} {news:List Value} {x:Value} {w':World} (hx:Src P i.size x n news w)
  (d:b+n<=c) (g:(storeCells (a.add (b * i.size)) news).run P w= .ok () w'):
  (Builtin.append_ #[t,xt] ty #[.slice (some a) b c,x]).run P w= .ok (.slice (some a) (b+n) c) w':=by
 simp [Builtin.append_,gD j,gD f,sizeOf,typeInfo,hi,hx.len,d,hx.first,g]
theorem Inv.UL (h:Inv T A g st w) {e:Td} {i:TI} (hi:T.get e=some i) (h1:1<=i.size) {els:LA} {vals rest:List Value} {cap n:Nat} (hn:els.length=n)
  (p: ∀v∈els,v.cells.length=i.size) (y:bN els=true) (r:RL g (flat els) vals) (ho: ∀v∈vals,v.oneCell'=true) (d:vals.length+rest.length=cap * i.size) (b:n<=cap):
  ∃g',Inv T A g' (st.new (.tok n e)).2 (w.drew.alloc (.cells (vals++rest).toArray e))/\Kp A g w g' (w.drew.alloc (.cells (vals++rest).toArray e))/\
   R g' (.sl i.size els (.own st.h)) (.slice (some ⟨w.heap.size,0,none⟩) n cap):=by
 have hd:=h.drew;have f: ∀o,0<=o->o < 0+vals.length->g.F w.heap.size o=none:=fun o _ _=>h.rj (aah _) o;have z:vals.length=n * i.size:=by rw [fp r,gO p,hn]
 have B:Inv T A g st (w.drew.alloc (.cells (vals++rest).toArray e)):=hd.alloc _;have C:Inv T A (g.eR w.heap.size 0 vals) st (w.drew.alloc (.cells (vals++rest).toArray e)):=B.eR _ 0 vals f (fun k v s=>by
   have:(w.drew.alloc (.cells (vals++rest).toArray e)).heap[w.heap.size]? =some (.cells (vals++rest).toArray e):=World.heap_alloc_new (w:=w.drew);rw [cell_of this];have D:k < vals.length:=by
    rcases Nat.lt_or_ge k vals.length with q | q
    .exact q
    .simp [aaX q] at s
   simp only [aau,abS];rw [abi D];exact s) fun id o a=>h.kU (aah _) id o a
 have c:(g.eR w.heap.size 0 vals).E st.h=none:=h.E _ (aah _);have j:Le g (g.eR w.heap.size 0 vals):=Le.eR f;refine ⟨(g.eR w.heap.size 0 vals).dP st.h (.tok fun m=>if m=n then some (w.heap.size,cap) else none), ?_, ?_, ?_⟩
 .refine C.name (.tok n e) _ w.heap.size (fun id o a=> ?_) (h.up _ (aah _)) ?_ ?_
  .exact h.kU (aah _) id o a
  .rintro b' ⟨loc,t,l,u⟩;rw [Gh.bJ] at l;simp only [aav,tz.tok.injEq] at l;subst l;simp at u;exact u.1.symm
  .refine ⟨_,w.heap.size,cap,i,(vals++rest).toArray,(0,0),Gh.bJ _ _ _,by simp,fun m hm=> ?_,hi,h1,b,World.heap_alloc_new (w:=w.drew),by simpa using d,by simp,fun o G=> ?_⟩
   .rw [if_neg (by omega)]
   .show (g.eR w.heap.size 0 vals).F w.heap.size o=none;rw [Gh.fM _ _ _ _ (by omega)];exact h.rj (aah _) o
 .exact ((Kp.drew A g w).trans (Kp.alloc _ hd)).trans ((Kp.eR (h.up _ (aah _)) f).trans (Kp.dP c))
 .simp only [R];refine ⟨y,w.heap.size,0,cap,by rw [hn],by omega,h1, ?_,rfl,_,Gh.bJ _ _ _,by simp [hn]⟩;refine js (Le.dP c) _ _ _ _ ?_;rw [gi];refine ⟨p,fB (gj j _ _ r) fun k x hx=>⟨Gh.rv g _ 0 vals k x hx,ho x (aaJ hx)⟩⟩
theorem Inv.RF (h:Inv T A g st w) {e:Td} {i:TI} (hi:T.get e=some i) (h1:1<=i.size) {els:LA} {vals rest:List Value} {cap n:Nat} (hn:els.length=n)
  (p: ∀v∈els,v.cells.length=i.size) (y:bN els=true) (r:RL g (flat els) vals) (ho: ∀v∈vals,v.oneCell'=true) (d:vals.length+rest.length=cap * i.size) (b:n<=cap):
  ∃g',Inv T A g' (st.new (.tok n e)).2 (w.alloc (.cells (vals++rest).toArray e))/\Kp A g w g' (w.alloc (.cells (vals++rest).toArray e))/\
   R g' (.sl i.size els (.own st.h)) (.slice (some ⟨w.heap.size,0,none⟩) n cap):=by
 have hd:=h;have f: ∀o,0<=o->o < 0+vals.length->g.F w.heap.size o=none:=fun o _ _=>h.rj (aah _) o;have z:vals.length=n * i.size:=by rw [fp r,gO p,hn]
 have B:Inv T A g st (w.alloc (.cells (vals++rest).toArray e)):=hd.alloc _;have C:Inv T A (g.eR w.heap.size 0 vals) st (w.alloc (.cells (vals++rest).toArray e)):=B.eR _ 0 vals f (fun k v s=>by
   have:(w.alloc (.cells (vals++rest).toArray e)).heap[w.heap.size]? =some (.cells (vals++rest).toArray e):=World.heap_alloc_new (w:=w);rw [cell_of this];have D:k < vals.length:=by
    rcases Nat.lt_or_ge k vals.length with q | q
    .exact q
    .simp [aaX q] at s
   simp only [aau,abS];rw [abi D];exact s) fun id o a=>h.kU (aah _) id o a
 have c:(g.eR w.heap.size 0 vals).E st.h=none:=h.E _ (aah _);have j:Le g (g.eR w.heap.size 0 vals):=Le.eR f;refine ⟨(g.eR w.heap.size 0 vals).dP st.h (.tok fun m=>if m=n then some (w.heap.size,cap) else none), ?_, ?_, ?_⟩
 .refine C.name (.tok n e) _ w.heap.size (fun id o a=> ?_) (h.up _ (aah _)) ?_ ?_
  .exact h.kU (aah _) id o a
  .rintro b' ⟨loc,t,l,u⟩;rw [Gh.bJ] at l;simp only [aav,tz.tok.injEq] at l;subst l;simp at u;exact u.1.symm
  .refine ⟨_,w.heap.size,cap,i,(vals++rest).toArray,(0,0),Gh.bJ _ _ _,by simp,fun m hm=> ?_,hi,h1,b,World.heap_alloc_new (w:=w),by simpa using d,by simp,fun o G=> ?_⟩
   .rw [if_neg (by omega)]
   .show (g.eR w.heap.size 0 vals).F w.heap.size o=none;rw [Gh.fM _ _ _ _ (by omega)];exact h.rj (aah _) o
 .exact (Kp.alloc _ hd).trans ((Kp.eR (h.up _ (aah _)) f).trans (Kp.dP c))
 .simp only [R];refine ⟨y,w.heap.size,0,cap,by rw [hn],by omega,h1, ?_,rfl,_,Gh.bJ _ _ _,by simp [hn]⟩;refine js (Le.dP c) _ _ _ _ ?_;rw [gi];refine ⟨p,fB (gj j _ _ r) fun k x hx=>⟨Gh.rv g _ 0 vals k x hx,ho x (aaJ hx)⟩⟩
theorem nt (b o:Nat) (ty:Td) (fz:Nat×Nat): ∀(vs:List Value) (i:Nat) (cur:Array Value) (w:World),w.heap[b]? =some (.cells cur ty fz)->o+i+vs.length<=cur.size->
  fz.2<=o+i->(∀v∈vs,v.oneCell'=true)->
  (storeCells ⟨b,o,none⟩ vs i).run P w= .ok () (w.setRow b (cur.toList.take (o+i)++vs++cur.toList.drop (o+i+vs.length)).toArray)
 | [],i,cur,w,c,_,_,_=>by
  simp only [storeCells,aaw,aae,abq,abk,Array.toArray_toList];rw [setRow_self w b cur ty fz c];rfl
 | v::rest,i,cur,w,c,hl,g,h1=>by
  have hi:o+i < cur.size:=by simp at hl;omega
  have a:w.cell? ⟨b,o+i,none⟩=some cur[o+i]:=by simp [World.cell?,c,hi]
  have d:w.frozen? ⟨b,o+i,none⟩=false:=by
   simp only [World.frozen?,c];simp;omega
  have f:(store ((⟨b,o,none⟩:Addr).add i) v).run P w= .ok () (w.setRow b (cur.setIfInBounds (o+i) v)):=by
   rw [Addr.gx,run_store P w _ v _ (h1 v (by simp)),a];simp [d,setCell_eq_setRow w b (o+i) cur ty fz v c]
  have ih:=nt b o ty fz rest (i+1) (cur.setIfInBounds (o+i) v) (w.setRow b (cur.setIfInBounds (o+i) v)) (setRow_heap w b cur _ ty _ c) (by simp at hl ⊢;omega) (by omega) (fun x hx=>h1 x (by simp [hx]));simp only [storeCells,Sem.run_bind,f,Result.andThen_ok,ih,setRow_setRow];congr 3;have e:=list_seg_step cur.toList (o+i) v rest (by simp at hl ⊢;omega);simpa [Array.toList_setIfInBounds,acr] using e
end
section
variable {P:Program} {T:TT} {A:Nat->Prop} {g:Gh} {st:St} {w:World}
theorem Lw {v v':AV} {xs:List Value} (e:fit v= .ok v') (h:RL g v.cells xs):RL g v'.cells xs/\bare v'=true/\v'.cells.length=v.cells.length:=by
 unfold fit at e;simp only at e;split at e
 .rename_i a;simp only [aac] at e;subst e;cases v with
  | agg cs=>exact ⟨nZ h,a,by simp [AV.cells]⟩
  | sl z es p=>
   cases p with
   | own k=>exact ⟨nZ (vs:=[.sl z es (.own k)]) h,a,rfl⟩
   | _=>exact ⟨h,a,rfl⟩
  | _=>exact ⟨h,a,rfl⟩
 .cases e
theorem O3 {us vs:LA} {xs:List Value} (h:RL g (us++vs) xs):RL g us (xs.take us.length)/\RL g vs (xs.drop us.length):=by
 have h1:=px us.length h;have a:=jJ us.length h;simp at h1 a;exact ⟨h1,a⟩
theorem ox: ∀{vs vs':LA} {xs:List Value},fits vs= .ok vs'->RL g (flat vs) xs->RL g (flat vs') xs/\bN vs'=true/\vs'.length=vs.length/\vs'.map (·.cells.length)=vs.map (·.cells.length)
 | [],_,_,e,h=>by
  simp only [fits,aac] at e;subst e;exact ⟨h,rfl,rfl,rfl⟩
 | v::vs,vs',xs,e,h=>by
  simp only [fits,ah,au] at e;obtain ⟨u,a,us,b,rfl⟩:=e;rw [hH] at h;obtain ⟨h1,c⟩:=O3 h;obtain ⟨k1,d,f⟩:=Lw a h1;obtain ⟨i,j,k6,k⟩:=ox b c;refine ⟨?_,by simp [bf,d,j],by simp [k6],by simp [f,k]⟩;rw [hH];have:=gY k1 i
  rwa [abk] at this
theorem grownCap_ge {n c:Nat} {e:Td}:n<=grownCap w n c e:=by
 simp only [grownCap,Question.cut];omega
theorem oD (z:Array Value) (n:Nat):(Builtin.zeroCells z n).toList.length=n * z.size:=by
 simp [Builtin.zeroCells]
structure Bx (P:Program) (T:TT) (t xt e:Td) (i:TI):Prop where
 t:P.underlying t=some (.slice e)
 xt: ∃d,P.underlying xt=some d/\ ∀k,d≠ .int k
 get:T.get e=some i
 ok:jX P e i
theorem Bx.info {t xt e:Td} {i:TI} (h:Bx P T t xt e i): ∃f z,P.info? e=some f/\f.size=i.size/\f.bytes=i.bytes/\f.zero=some z/\z.cells.size=i.size:=by
 obtain ⟨f,h1,a,b,z,h4,c,_⟩:=h.ok.info;exact ⟨f,z,h1,a,b,h4,c⟩
theorem wN {n:Nat} {i:TI} (h:fo n i=true):n * i.bytes<=70368744177664/\1<=i.size/\n<=70368744177664:=by
 simp only [fo,aaf] at h;exact ⟨aaq h.1,aaq h.2.1,aaq h.2.2⟩
theorem tl {t xt ty e:Td} {i:TI} (m:Bx P T t xt e i) {base:Oq Addr} {a b n:Nat} {j news:List Value} {x:Value}
  (hs:Src P i.size (.slice base a b) a j w) (hx:Src P i.size x n news w) (p:b < a+n) (k:fo (a+n) i=true)
  (h:Inv T A g st w) {els:LA} (hn:els.length=a+n) (q: ∀v∈els,v.cells.length=i.size) (u:bN els=true) (r:RL g (flat els) (j++news)) (ho: ∀v∈j++news,v.oneCell'=true):
  bn P T A g w (.sl i.size els (.own st.h)) (st.new (.tok (a+n) e)).2 (Builtin.append_ #[t,xt] ty #[.slice base a b,x]):=by
 obtain ⟨f,z,y,s,B,C,D⟩:=m.info;obtain ⟨d,d1,d2⟩:=m.xt;obtain ⟨H,r2,I⟩:=wN k;have l:Builtin.nextslicecap (a+n) b * f.bytes<=281474976710656:=growslice_fits p (by rw [B];omega);have hrun:=zw (ty:=ty) m.t d1 d2 y C (by rw [s];exact hs) (by rw [s];exact hx) p (by omega) l;have o:=grownCap_ge (w:=w) (n:=a+n) (c:=b) (e:=e);obtain ⟨g',k1,E,F⟩:=h.UL (rest:=(Builtin.zeroCells z.cells (grownCap w (a+n) b e - (a+n))).toList) (cap:=grownCap w (a+n) b e) m.get r2 hn q u r ho (by
  rw [oD,D,fp r,gO q,hn, <- Nat.add_mul];congr 1;omega) o
 have G:j.toArray++news.toArray++Builtin.zeroCells z.cells (grownCap w (a+n) b e - (a+n))=(j++news++(Builtin.zeroCells z.cells (grownCap w (a+n) b e - (a+n))).toList).toArray:=by
  apply Array.ext';simp
 rw [G] at hrun;exact ⟨_,g',_,hrun,F,k1,E⟩
theorem Hr {t xt ty e:Td} {i:TI} (he:Bx P T t xt e i) {k b o cap n:Nat} {es new:LA} {news:List Value} {x:Value}
  (hk:st.get k= .ok (.tok es.length e)) (U:st.ro<=k) (c7:bN es=true) (b6:iD g i.size es b o) (Y:es.length<=cap) (hp:uF g (.own k) es.length b o cap)
  (hx:Src P i.size x n news w) (hn:new.length=n) (ed:0 < n) (hc: ∀v∈new,v.cells.length=i.size) (hb:bN new=true) (hr:RL g (flat new) news) (ho: ∀v∈news,v.oneCell'=true)
  (a6:fo (es.length+n) i=true) (h:Inv T A g st w):
  bn P T A g w (.sl i.size (es++new) (.own k)) (st.put k (.tok (es.length+n) e)) (Builtin.append_ #[t,xt] ty #[.slice (some ⟨b,o,none⟩) es.length cap,x]):=by
 obtain ⟨f,z,f1,f2,f3,f4,f5⟩:=he.info;obtain ⟨d,d1,d2⟩:=he.xt;obtain ⟨r1,r2,r3⟩:=wN a6;obtain ⟨rfl,loc,hE,b7⟩:=hp;obtain ⟨J,B,r,s,vs,fz,q1,q2,q3,q4,q5,q6,q7,q8,q9,V⟩:=h.H k _ hk;have e1:=q1.symm.trans hE;simp only [aav,tz.tok.injEq] at e1;subst e1;have e2:=q2.symm.trans b7;simp only [aav,aag] at e2;obtain ⟨rfl,rfl⟩:=e2;have e3:=q4.symm.trans he.get;simp only [aav] at e3;subst e3;have Z:=b6;rw [gi] at Z;obtain ⟨av,b8⟩:=Z;obtain ⟨p,o1,o2⟩:=lq b8;have a7:p.length=es.length * s.size:=by rw [fp o1,gO av]
 have a8:news.length=n * s.size:=hx.l;have c8:flat (es++new)=flat es++flat new:=wX _ _;have bb: ∀v∈es++new,v.cells.length=s.size:=fun v C=>by
  rcases aaA.1 C with C | C
  .exact av v C
  .exact hc v C
 have L:bN (es++new)=true:=by rw [jY,c7,hb];rfl
 have G:(es++new).length=es.length+n:=by simp [hn]
 by_cases N:es.length+n<=r
 ·-- in place
  have b9:=nt (P:=P) B (es.length * s.size) e fz news 0 vs w q7 (by
   rw [q8,a8];simp only [abq];rw [<- Nat.add_mul];exact Nat.mul_le_mul_right _ N) (by simpa using q9) ho
  simp only [abq] at b9;have hrun:=Oh (ty:=ty) (a:=⟨B,0,none⟩) he.t d1 d2 f1 (by rw [f2];exact hx) N (by rw [f2,Addr.gx,aau];exact b9);generalize O:vs.toList.take (es.length * s.size)++news++vs.toList.drop (es.length * s.size+news.length)=row at hrun;have Q:row.length=vs.size:=by
   rw [<- O];have:es.length * s.size+news.length<=vs.size:=by rw [q8,a8, <- Nat.add_mul];exact Nat.mul_le_mul_right _ N
   simp;omega
  have cb: ∀j,j < es.length * s.size->row[j]? =vs[j]? :=fun j hj=>by
   rw [<- O,aao,abi (by simp;have:=Nat.mul_le_mul_right s.size Y;omega),List.getElem?_take,if_pos hj];simp
  have cc: ∀j v,news[j]? =some v->row[es.length * s.size+j]? =some v:=fun j v C=>by
   have hj:j < news.length:=by
    rcases Nat.lt_or_ge j news.length with q | q
    .exact q
    .simp [aaX q] at C
   have cd:(vs.toList.take (es.length * s.size)).length=es.length * s.size:=by
    have h1:vs.toList.length=r * s.size:=q8;have h2:es.length * s.size<=r * s.size:=Nat.mul_le_mul_right _ Y;rw [aat,h1];omega
   rw [<- O,aao,abg (by rw [cd];omega),cd,abi (by omega)];rw [show es.length * s.size+j - es.length * s.size=j by omega];exact C
  have u:(w.setRow B row.toArray).heap[B]? =some (.cells row.toArray e fz):=setRow_heap _ _ _ _ _ _ q7;have de:g.M B=none:=by
   cases hm:g.M B with
   | none=>rfl
   | some ee=>
    have:=h.M B ee.1 ee.2 hm;rw [q7] at this;cases this
  have K:At g k (.tok es.length e) B:=⟨J,r,q1,q2⟩;have i1:Inv T A g (st.put k (.tok es.length e)) (w.setRow B row.toArray):=h.write hk K (.tok es.length e) (setRow_size _ _ _) (fun _ hb=>rC _ _ _ hb)
   (fun j v C=>by
    have hj:j < es.length * s.size:=by
     rcases Nat.lt_or_ge j (es.length * s.size) with q | q
     .exact q
     .rw [V j q] at C;cases C
    have:=h.F B j v C;rw [cell_of q7] at this;rw [cell_of u,abS,cb j hj];exact this) de
   (fun b' dk=>by
    obtain ⟨l,c,p1,p2⟩:=dk;have e1:=p1.symm.trans q1;simp only [aav,tz.tok.injEq] at e1;subst e1;have e2:=p2.symm.trans q2;simp only [aav,aag] at e2;exact e2.1)
   ⟨J,B,r,s,row.toArray,fz,q1,q2,q3,q4,q5,q6,u,by simpa [Q] using q8,q9,V⟩
  have bt:Kp A g w g (w.setRow B row.toArray):=Kp.write (h.own k _ B hk K U) (setRow_size _ _ _) (fun _ hb=>rC _ _ _ hb);have dv:(st.put k (.tok es.length e)).get k= .ok (.tok es.length e):=St.bx (St.cZ.1 hk).1;have b4: ∀o,es.length * s.size<=o->o < es.length * s.size+news.length->g.F B o=none:=fun o ho _=>V o ho;obtain ⟨W,S⟩:=i1.Sl (n':=es.length+n) (loc':=fun m=>if m=es.length+n then some (B,r) else J m) B (es.length * s.size) news dv q1
   (fun m y hy=>by
    by_cases hm:m=es.length+n
    .have:=q3 m (by omega);rw [this] at hy;cases hy
    .rw [if_neg hm];exact hy) U b4
   (fun j v C=>by rw [cell_of u,abS];exact cc j v C)
   (fun id o X cl ha=>by
    rw [St.bD (fun e=>cl e.symm)] at X;exact cl (h.D id k o _ B X hk ha K)) (h.own k _ B hk K U)
   (fun b c I=>by rw [if_pos rfl] at I;simp only [aav,aag] at I;exact I.1.symm)
   ⟨_,B,r,s,row.toArray,fz,Gh.bJ _ _ _,by simp,fun m hm=>by rw [if_neg (by omega)];exact q3 m (by omega),q4,q5,N,u,by simpa [Q] using q8,
    aaL q9 (Nat.mul_le_mul_right _ (by omega)),fun o cn=>by
     show (g.eR B (es.length * s.size) news).F B o=none;rw [Nat.add_mul] at cn;rw [Gh.fM _ _ _ _ (by omega)];exact V o (by omega)⟩
  have cv:(st.put k (.tok es.length e)).put k (.tok (es.length+n) e)=st.put k (.tok (es.length+n) e):=by
   simp only [St.put,Tr.put,Tr.set_set]
  rw [cv] at W;refine ⟨_,_,_,hrun, ?_,W,bt.trans S⟩;have cz:Le g _:=S.le;simp only [R];refine ⟨L,B,0,r,by rw [G],by rw [G];exact N,q5, ?_,rfl,_,Gh.bJ _ _ _,by simp [hn]⟩;rw [xJ];refine ⟨js cz _ _ _ _ b6, ?_⟩;rw [gi];refine ⟨hc,fB (gj cz _ _ hr) fun j v C=>⟨?_,ho v (aaJ C)⟩⟩;rw [aau];exact Gh.rv g B (es.length * s.size) news j v C
 ·-- in a new array
  have a1: ∀w':World,(∀b o,w'.cell? ⟨b,o,none⟩=w.cell? ⟨b,o,none⟩)->(Builtin.firstCells s.size es.length (.slice (some ⟨B,0,none⟩) es.length r)).run P w'= .ok p.toArray w':=fun w' dx=>
   run_firstCells_some (P:=P) w' s.size es.length ⟨B,0,none⟩ es.length r p a7 (fun j v C=>by
    rw [Addr.gx,dx];exact h.F _ _ _ (o2 j v C).1)
  have hs:Src P s.size (.slice (some ⟨B,0,none⟩) es.length r) es.length p w:=⟨by simp [Builtin.lenOf],a1 w fun _ _=>rfl,a1 w.drew fun _ _=>rfl,a7⟩;have hg:r < es.length+n:=by omega
  have cF:Builtin.nextslicecap (es.length+n) r * f.bytes<=281474976710656:=growslice_fits hg (by rw [f3];omega);have hrun:=zw (ty:=ty) he.t d1 d2 f1 f4 (by rw [f2];exact hs) (by rw [f2];exact hx) hg (by omega) cF;have b5:=grownCap_ge (w:=w) (n:=es.length+n) (c:=r) (e:=e);generalize grownCap w (es.length+n) r e=E at hrun b5;have hw:p.toArray++news.toArray++Builtin.zeroCells z.cells (E - (es.length+n))=(p++news++(Builtin.zeroCells z.cells (E - (es.length+n))).toList).toArray:=by
   apply Array.ext';simp
  rw [hw] at hrun;have c6:(Builtin.zeroCells z.cells (E - (es.length+n))).toList.length=(E - (es.length+n)) * s.size:=by rw [oD,f5]
  generalize (Builtin.zeroCells z.cells (E - (es.length+n))).toList=rest at hrun c6;have hd:=h.drew;have i1:Inv T A g st (w.drew.alloc (.cells (p++news++rest).toArray e)):=hd.alloc _;have bt:Kp A g w g (w.drew.alloc (.cells (p++news++rest).toArray e)):=(Kp.drew A g w).trans (Kp.alloc _ hd);have u:(w.drew.alloc (.cells (p++news++rest).toArray e)).heap[w.heap.size]? =some (.cells (p++news++rest).toArray e):=World.heap_alloc_new (w:=w.drew);have ea:(p++news).length=(es.length+n) * s.size:=by simp [a7,a8,Nat.add_mul]
  obtain ⟨W,S⟩:=i1.Sl (n':=es.length+n) (loc':=fun m=>if m=es.length+n then some (w.heap.size,E) else J m) w.heap.size 0 (p++news) hk q1
   (fun m y hy=>by
    by_cases hm:m=es.length+n
    .have:=q3 m (by omega);rw [this] at hy;cases hy
    .rw [if_neg hm];exact hy) U (fun o _ _=>h.rj (aah _) o)
   (fun j v C=>by
    have hj:j < (p++news).length:=by
     rcases Nat.lt_or_ge j (p++news).length with q | q
     .exact q
     .rw [aaX q] at C;cases C
    rw [cell_of u,abS,aau,abi hj];exact C)
   (fun id o X _=>h.kU (aah _) id o X) (h.up _ (aah _))
   (fun b c I=>by rw [if_pos rfl] at I;simp only [aav,aag] at I;exact I.1.symm)
   ⟨_,w.heap.size,E,s,(p++news++rest).toArray,(0,0),Gh.bJ _ _ _,by simp,fun m hm=>by rw [if_neg (by omega)];exact q3 m (by omega),q4,q5,b5,u,by
     simp only [List.size_toArray];rw [aaa,ea,c6, <- Nat.add_mul];congr 1;omega,by simp,fun o cn=>by
     show (g.eR w.heap.size 0 (p++news)).F w.heap.size o=none;rw [Gh.fM _ _ _ _ (by omega)];exact h.rj (aah _) o⟩
  refine ⟨_,_,_,hrun, ?_,W,bt.trans S⟩;simp only [R];refine ⟨L,w.heap.size,0,E,by rw [G],by rw [G];exact b5,q5, ?_,rfl,_,Gh.bJ _ _ _,by simp [hn]⟩;rw [gi];refine ⟨bb, ?_⟩;rw [c8];exact fB (gj S.le _ _ (gY o1 hr)) fun j v C=>⟨Gh.rv g w.heap.size 0 (p++news) j v C,by
   rcases aaA.1 (aaJ C) with hm | hm
   .obtain ⟨jj,eb⟩:=List.getElem?_of_mem hm;exact (o2 jj v eb).2
   .exact ho v hm⟩
end
section
variable {P:Program} {T:TT} {A:Nat->Prop} {g:Gh} {st:St} {w:World}
theorem EH (s:LB):flat (ofBytes s)=ofBytes s:=by
 unfold ofBytes
 induction s with
 | nil=>rfl
 | cons b s ih=>rw [aal,hH,ih];rfl
theorem NH (s:LB):RL g (ofBytes s) (s.map fun b=>Value.int .u8 b.toNat):=by
 unfold ofBytes
 induction s with
 | nil=>simp [RL]
 | cons b s ih=>exact cA (by simp only [R]) ih
theorem Dt {new:LA} {z:Nat} (h:new.all (fun v=>v.cells.length.beq z)=true): ∀v∈new,v.cells.length=z:=by
 intro v a;exact aan (abd.1 h v a)
theorem vM {x:Value} {s:AV} {new c:LA} {z:Nat} (hx:R g s x) (k:oT s=some new) (hf:fits new= .ok c) (B: ∀v∈c,v.cells.length=z) (e:new≠[]) (h:Inv T A g st w):
  ∃news,Src P z x c.length news w/\RL g (flat c) news/\bN c=true/\(∀v∈news,v.oneCell'=true)/\c.length=new.length:=by
 cases s <;> simp only [oT,aav] at k <;> (try (cases k;done))
 ·-- a string
  rename_i s;subst k;simp only [R] at hx;subst hx;obtain ⟨k1,t,i,n⟩:=ox (g:=g) hf (xs:=s.map fun b=>Value.int .u8 b.toNat) (by rw [EH];exact NH s);have hl:c.length=s.length:=by rw [i];simp [ofBytes]
  have u:z=1:=by
   cases c with
   | nil=>
    have:s=[]:=aaZ (by simpa using hl.symm);subst this;exact absurd rfl e
   | cons v l=>
    have:=B v (by simp);cases s with
    | nil=>simp [ofBytes] at e
    | cons b s=>
     simp only [ofBytes,aal,abo] at n;have:v.cells.length=1:=n.1;omega
  subst u;have d: ∀w',(Builtin.firstCells 1 c.length (.string ⟨s.toArray⟩)).run P w'= .ok (s.map fun b=>Value.int .u8 b.toNat).toArray w':=fun w'=>by
   simp only [Builtin.firstCells,Sem.run_pure,hl];congr 1;apply Array.ext';simp [ByteArray.data_extract]
  refine ⟨_,⟨by simp [Builtin.lenOf,nY,hl],d w,d w.drew,by simp [hl]⟩,k1,t,fun v m=> ?_,i⟩;simp only [abf] at m;obtain ⟨b,_,rfl⟩:=m;rfl
 .subst k;exact absurd rfl e
 .rename_i q es p;subst k;simp only [R] at hx;obtain ⟨I,b,o,cap,rfl,C,G,r,J⟩:=hx;rw [gi] at r;obtain ⟨xs,D,E⟩:=lq r.2;obtain ⟨k1,t,i,n⟩:=ox hf D;have u:q=z:=by
   cases f:es with
   | nil=>exact absurd f e
   | cons v l=>
    cases hn:c with
    | nil=>rw [hn,f] at i;simp at i
    | cons v' K=>
     rw [hn,f] at n;simp only [aal,abo] at n;have h1:=B v' (by rw [hn];simp);have L:=r.1 v (by rw [f];simp);omega
  subst u;have hl:xs.length=c.length * q:=by rw [fp D,gO r.1,i]
  have d: ∀w':World,(∀b o,w'.cell? ⟨b,o,none⟩=w.cell? ⟨b,o,none⟩)->(Builtin.firstCells q c.length (.slice (some ⟨b,o,none⟩) es.length cap)).run P w'= .ok xs.toArray w':=fun w' y=>
   run_firstCells_some (P:=P) w' q c.length ⟨b,o,none⟩ es.length cap xs hl (fun j v m=>by
    rw [Addr.gx,y];exact h.F _ _ _ (E j v m).1)
  exact ⟨xs,⟨by simp [Builtin.lenOf,i],d w fun _ _=>rfl,d w.drew fun _ _=>rfl,hl⟩,k1,t,fun v m=>by
   obtain ⟨j,H⟩:=List.getElem?_of_mem m;exact (E j v H).2,i⟩
 .subst k;exact absurd rfl e
theorem uT {C:dh} {t xt ty e:Td} {i:TI} (L:Bx P T t xt e i) {s x r:AV} {sv xv:Value} {new:LA} {p:dI} {fx:Fx} (H:oT x=some new)
  (m:iZ i e s new= .ok p) (hrun:aE C st p= .ok (r,fx)) (hs:R g s sv) (hx:R g x xv) (h:Inv T A g st w):
  bn P T A g w r (fx.did.app st) (Builtin.append_ #[t,xt] ty #[sv,xv]):=by
 obtain ⟨f,z,f1,f2,f3,f4,f5⟩:=L.info;obtain ⟨d,d1,d2⟩:=L.xt;unfold iZ at m;split at m
 ·-- nothing is O
  have q:(Builtin.lenOf xv).run P w= .ok 0 w/\(Builtin.firstCells f.size 0 xv).run P w= .ok #[] w:=by
   cases x <;> simp only [oT,aav] at H <;> (try (cases H;done)) <;> simp only [R] at hx
   .rename_i s;have:s=[]:=by simpa [ofBytes] using H
    subst this;subst hx;have h0:(⟨[].toArray⟩:ByteArray)=ByteArray.empty:=rfl;rw [h0];exact ⟨by simp [Builtin.lenOf],by simp [Builtin.firstCells]⟩
   .subst hx;exact ⟨by simp [Builtin.lenOf],by simp [Builtin.firstCells]⟩
   .subst H;obtain ⟨_,b,o,cap,rfl,_⟩:=hx;exact ⟨by simp [Builtin.lenOf],by simp [Builtin.firstCells,loadCells,loadCellsFrom]⟩
   .obtain ⟨a,rfl⟩:=hx;exact ⟨by simp [Builtin.lenOf],by simp [Builtin.firstCells,loadCells,loadCellsFrom]⟩
  split at m
  .simp only [au] at m;subst m;simp only [aE,aac,aag] at hrun;obtain ⟨rfl,rfl⟩:=hrun;simp only [R] at hs;subst hs;refine bn.of h (x:= .slice none 0 0) ?_ (by simp only [R]);simp [Builtin.append_,gD L.t,gD d1,sizeOf,typeInfo,f1,q.1,q.2]
  .simp only [au] at m;subst m;simp only [aE,aac,aag] at hrun;obtain ⟨rfl,rfl⟩:=hrun;have u:=hs;simp only [R] at u;obtain ⟨_,b,o,cap,rfl,I,_⟩:=u;refine bn.of h ?_ hs;simp [Builtin.append_,gD L.t,gD d1,sizeOf,typeInfo,f1,q.1,q.2,I,storeCells]
  .simp only [au] at m;subst m;simp only [aE,aac,aag] at hrun;obtain ⟨rfl,rfl⟩:=hrun;have u:=hs;simp only [R] at u;obtain ⟨a,rfl⟩:=u;refine bn.of h ?_ hs;simp [Builtin.append_,gD L.t,gD d1,sizeOf,typeInfo,f1,q.1,q.2,storeCells]
  .cases m
 .rename_i v l;simp only [ah] at m;obtain ⟨B,hf,m⟩:=m;split at m
  .cases m
  .rename_i S;have U:=Dt S;obtain ⟨news,Z,s2,s3,s4,s5⟩:=vM (P:=P) hx H hf U (by simp) h;have hpos:0 < B.length:=by rw [s5];simp
   split at m
   ·-- to nil
    split at m
    .rename_i c;simp only [au] at m;subst m;simp only [aE,aac,aag] at hrun;obtain ⟨rfl,rfl⟩:=hrun;simp only [R] at hs;subst hs;have J:Src P i.size (.slice none 0 0) 0 [] w:=⟨by simp [Builtin.lenOf],by simp [Builtin.firstCells],by simp [Builtin.firstCells],by simp⟩;have:=tl (ty:=ty) L J Z (by omega) (by rw [aau];exact c) h (els:=B) (by omega) U s3 (by simpa using s2) (by simpa using s4);rw [aau] at this;exact this
    .cases m
   .rename_i z' es p';split at m
    .cases m
    .rename_i c;simp only [aaf] at c;obtain ⟨c,M⟩:=c;have M:=aan M;subst M;have u:=hs;simp only [R] at u;obtain ⟨V,b,o,cap,rfl,I,a6,W,K⟩:=u;split at m
     .simp only [au] at m;subst m;simp only [aE,aac,aag] at hrun;obtain ⟨rfl,rfl⟩:=hrun;have N:cap=es.length:=K;subst N;have D:=W;rw [gi] at D;obtain ⟨xs,x1,x2⟩:=lq D.2;have hl:xs.length=es.length * i.size:=by rw [fp x1,gO D.1]
      have E: ∀w':World,(∀b o,w'.cell? ⟨b,o,none⟩=w.cell? ⟨b,o,none⟩)->(Builtin.firstCells i.size es.length (.slice (some ⟨b,o,none⟩) es.length es.length)).run P w'= .ok xs.toArray w':=fun w' av=>
       run_firstCells_some (P:=P) w' i.size es.length ⟨b,o,none⟩ es.length es.length xs hl (fun j v G=>by
        rw [Addr.gx,av];exact h.F _ _ _ (x2 j v G).1)
      have q:Src P i.size (.slice (some ⟨b,o,none⟩) es.length es.length) es.length xs w:=⟨by simp [Builtin.lenOf],E w fun _ _=>rfl,E w.drew fun _ _=>rfl,hl⟩;exact tl (ty:=ty) L q Z (by omega) c h (els:=es++B) (by simp) (fun v G=>by
       rcases aaA.1 G with G | G
       .exact D.1 v G
       .exact U v G) (by rw [jY,V,s3];rfl) (by rw [wX];exact gY x1 s2) (fun v G=>by
       rcases aaA.1 G with G | G
       .obtain ⟨j,hj⟩:=List.getElem?_of_mem G;exact (x2 j v hj).2
       .exact s4 v G)
     .rename_i k;simp only [au] at m;subst m;simp only [aE,ah,au] at hrun;obtain ⟨ob,h1,⟨v',o'⟩,Q,dd,X,h6⟩:=hrun;split at Q
      .rename_i n e';split at Q
       .rename_i y;simp only [aaf] at y;have hn:=aan y.1;have a1:=aan y.2;subst hn a1;simp only [au,aag] at Q;obtain ⟨rfl,rfl⟩:=Q;simp only [fK] at X;split at X
        .cases X
        .rename_i Y;rw [eG] at Y;simp only [aac] at X;subst X;simp only [aag] at h6;obtain ⟨rfl,rfl⟩:=h6;exact Hr L h1 Y V W I K Z rfl hpos U s3 s2 s4 c h
       .cases Q
      .cases Q
     .cases m
   .split at m
    .rename_i c;simp only [au] at m;subst m;simp only [aE,aac,aag] at hrun;obtain ⟨rfl,rfl⟩:=hrun;simp only [R] at hs;obtain ⟨a,rfl⟩:=hs;have J:Src P i.size (.slice (some a) 0 0) 0 [] w:=⟨by simp [Builtin.lenOf],by simp [Builtin.firstCells,loadCells,loadCellsFrom],by simp [Builtin.firstCells,loadCells,loadCellsFrom],by simp⟩;have:=tl (ty:=ty) L J Z (by omega) (by rw [aau];exact c) h (els:=B) (by omega) U s3 (by simpa using s2) (by simpa using s4);rw [aau] at this;exact this
    .cases m
   .cases m
end
end Go.VM
