/-
  (A part of the proof: Ops6, Ops7, Ops8.)
-/
import Derived.Test.YtgecmbapkplklaaGreatDoorVmAA
import Derived.Test.YtgecmbapkplklaaGreatDoorVmAF
import Derived.Laws.Append
set_option linter.unusedSimpArgs false
namespace Go.VM
section
variable {P:Program} {T:TT} {A:Nat->Prop} {g:Gh} {st:St} {w:World}
theorem Inv.OV (h:Inv T A g st w) {k n n':Nat} {e:TypeId} {loc loc':Nat->Option (Nat×Nat)} (b' lo:Nat) (vals:List Value)
  (hk:st.get k= .ok (.tok n e)) (hE:g.E k=some (.tok loc)) (t: ∀m x,loc m=some x->loc' m=some x) (C:st.ro<=k)
  (q: ∀o,lo<=o->o < lo+vals.length->g.F b' o=none) (r: ∀i v,vals[i]? =some v->w.cell? ⟨b',lo+i,none⟩=some v)
  (d: ∀id o,st.get id= .ok o->id≠k->¬ At g id o b') (hA:A b') (s: ∀b cap,loc' n'=some (b,cap)->b=b')
  (ho:Holds T ((g.cP b' lo vals).dm k (.tok loc')) w k (.tok n' e)):
  Inv T A ((g.cP b' lo vals).dm k (.tok loc')) (st.put k (.tok n' e)) w/\Kp A g w ((g.cP b' lo vals).dm k (.tok loc')) w:=by
 have f:=(St.ch.1 hk).1;have z:Le g (g.cP b' lo vals):=Le.cP q;have B:Le (g.cP b' lo vals) ((g.cP b' lo vals).dm k (.tok loc')):=by
  refine ⟨fun _ _ _ x=>x,fun _ _ x=>x,fun j b x=> ?_,fun j l x=> ?_⟩
  .have:j≠k:=fun e=>by subst e;have:=hE.symm.trans x;cases this
   rw [Gh.ca _ _ this];exact x
  .by_cases hj:j=k
   .subst hj;have x':g.E j=some (.tok l):=x;have:=hE.symm.trans x';simp only [W7,nt.tok.injEq] at this;subst this;exact ⟨loc',Gh.aZ _ _ _,t⟩
   .exact ⟨l,by rw [Gh.ca _ _ hj];exact x,fun _ _ y=>y⟩
 have le:=z.trans B;refine ⟨⟨?_,h.M, ?_, ?_, ?_, ?_,h.up⟩,⟨WW _,fun _ _=>rfl,fun b hb o=>Gh.cX _ _ _ _ (.inl fun e=>hb (e ▸ hA)),fun _ _=>rfl,le,rfl,rfl,rfl⟩⟩
 .intro b o v hv;by_cases hc:b=b'/\lo<=o/\o < lo+vals.length
  .obtain ⟨rfl,h1,h2⟩:=hc;have c:(g.cP b lo vals).F b o=some v:=hv;simp only [Gh.cP] at c;rw [if_pos ⟨trivial,h1,h2⟩] at c;have:=r _ _ c
   rwa [show lo+(o - lo)=o by omega] at this
  .have c:(g.cP b' lo vals).F b o=some v:=hv;rw [Gh.cX _ _ _ _ (by omega)] at c;exact h.F b o v c
 .intro id hid;have u:st.h<=id:=hid;rw [Gh.ca _ _ (by omega)];exact h.E id u
 .intro id o hid;by_cases hj:id=k
  .subst hj;rw [St.aQ f] at hid;cases hid;exact ho
  .rw [St.aY (fun e=>hj e.symm)] at hid;exact jQ (h.H id o hid) le (Gh.ca _ _ hj) fun b hb=>⟨fun _=>Gh.cX _ _ _ _ (.inl fun e=>d id o hid hj (e ▸ hb)),rfl⟩
 .intro id id' o o' b h1 h2 p a2;by_cases hi:id=k <;> by_cases a:id'=k
  .rw [hi,a]
  .subst hi;rw [St.aQ f] at h1;cases h1;rw [St.aY (fun e=>a e.symm)] at h2;rw [oI (Gh.ca _ _ a)] at a2;obtain ⟨l,cap,q1,q2⟩:=p;rw [Gh.aZ] at q1;simp only [W7,nt.tok.injEq] at q1;subst q1;have:=s b cap q2;subst this;exact absurd a2 (d id' o' h2 a)
  .subst a;rw [St.aQ f] at h2;cases h2;rw [St.aY (fun e=>hi e.symm)] at h1;rw [oI (Gh.ca _ _ hi)] at p;obtain ⟨l,cap,q1,q2⟩:=a2;rw [Gh.aZ] at q1;simp only [W7,nt.tok.injEq] at q1;subst q1;have:=s b cap q2;subst this;exact absurd p (d id o h1 hi)
  .rw [St.aY (fun e=>hi e.symm)] at h1;rw [St.aY (fun e=>a e.symm)] at h2;rw [oI (Gh.ca _ _ hi)] at p;rw [oI (Gh.ca _ _ a)] at a2;exact h.D id id' o o' b h1 h2 p a2
 .intro id o b h1 p hr;by_cases hi:id=k
  .subst hi;rw [St.aQ f] at h1;cases h1;obtain ⟨l,cap,q1,q2⟩:=p;rw [Gh.aZ] at q1;simp only [W7,nt.tok.injEq] at q1;subst q1;have:=s b cap q2;subst this;exact hA
  .rw [St.aY (fun e=>hi e.symm)] at h1;rw [oI (Gh.ca _ _ hi)] at p;exact h.own id o b h1 p hr
structure Src (P:Program) (size:Nat) (x:Value) (n:Nat) (news:List Value) (w:World):Prop where
 len:(Builtin.lenOf x).run P w= .ok n w
 first:(Builtin.firstCells size n x).run P w= .ok news.toArray w
 drew:(Builtin.firstCells size n x).run P w.drew= .ok news.toArray w.drew
 l:news.length=n * size
theorem pT {t xt ty e:TypeId} {i:TypeInfo} {z:Value} {h:TypeDesc} (ht:P.underlying t=some (.slice e)) (g:P.underlying xt=some h) (l: ∀k,h≠ .int k) (hi:P.info? e=some i) (hz:i.zero=some z)
  {base:Option Addr} {a b n:Nat} {c news:List Value} {x:Value} (hs:Src P i.size (.slice base a b) a c w) (hx:Src P i.size x n news w)
  (hg:b < a+n) (m:((a+n:Nat):Int)<=9223372036854775807) (j:Builtin.nextslicecap (a+n) b * i.bytes<=281474976710656):
  (Builtin.append_ #[t,xt] ty #[.slice base a b,x]).run P w=
   .ok (.slice (some ⟨w.heap.size,0,none⟩) (a+n) (grownCap w (a+n) b e))
    (w.drew.alloc (.cells (c.toArray++news.toArray++Builtin.zeroCells z.cells (grownCap w (a+n) b e - (a+n))) e)):=by
 have hn:¬ (a+n<=b):=by omega
 have d:¬ (9223372036854775807 < ((a:Int)+(n:Int))):=by omega
 have f:¬ (281474976710656 < Builtin.nextslicecap (a+n) b * i.bytes):=by omega
 simp [Builtin.append_,gd ht,gd g,sizeOf,typeInfo,zeroValue,hi,hz,hx.len,hn,d,f,Question.forced,hs.drew,hx.drew,newRow,grownCap];congr 2;apply Array.ext';simp [W6]
theorem Ev {t xt ty e:TypeId} {i:TypeInfo} {h:TypeDesc} (ht:P.underlying t=some (.slice e)) (f:P.underlying xt=some h) (j: ∀k,h≠ .int k) (hi:P.info? e=some i)
  {a:Addr} {b c n:Nat} {news:List Value} {x:Value} {w':World} (hx:Src P i.size x n news w)
  (d:b+n<=c) (g:(storeCells (a.add (b * i.size)) news).run P w= .ok () w'):
  (Builtin.append_ #[t,xt] ty #[.slice (some a) b c,x]).run P w= .ok (.slice (some a) (b+n) c) w':=by
 simp [Builtin.append_,gd ht,gd f,sizeOf,typeInfo,hi,hx.len,d,hx.first,g]
theorem Inv.QS (h:Inv T A g st w) {e:TypeId} {i:TI} (hi:T.get e=some i) (h1:1<=i.size) {els:List AV} {vals rest:List Value} {cap n:Nat} (hn:els.length=n)
  (hc: ∀v∈els,v.cells.length=i.size) (hb:bL els=true) (hr:RL g (flat els) vals) (ho: ∀v∈vals,v.oneCell'=true) (c:vals.length+rest.length=cap * i.size) (a:n<=cap):
  ∃g',Inv T A g' (st.new (.tok n e)).2 (w.drew.alloc (.cells (vals++rest).toArray e))/\Kp A g w g' (w.drew.alloc (.cells (vals++rest).toArray e))/\
   R g' (.sl i.size els (.own st.h)) (.slice (some ⟨w.heap.size,0,none⟩) n cap):=by
 have hd:=h.drew;have d: ∀o,0<=o->o < 0+vals.length->g.F w.heap.size o=none:=fun o _ _=>h.lh (WW _) o;have l:vals.length=n * i.size:=by rw [dB hr,dF hc,hn]
 have p:Inv T A g st (w.drew.alloc (.cells (vals++rest).toArray e)):=hd.alloc _;have i2:Inv T A (g.cP w.heap.size 0 vals) st (w.drew.alloc (.cells (vals++rest).toArray e)):=p.cP _ 0 vals d (fun k v hv=>by
   have:(w.drew.alloc (.cells (vals++rest).toArray e)).heap[w.heap.size]? =some (.cells (vals++rest).toArray e):=World.heap_alloc_new (w:=w.drew);rw [cell_of this];have hk:k < vals.length:=by
    rcases Nat.lt_or_ge k vals.length with q | q
    .exact q
    .simp [Xu q] at hv
   simp only [Xd,XP];rw [Xr hk];exact hv) fun id o hid=>h.ib (WW _) id o hid
 have b:(g.cP w.heap.size 0 vals).E st.h=none:=h.E _ (WW _);have f:Le g (g.cP w.heap.size 0 vals):=Le.cP d;refine ⟨(g.cP w.heap.size 0 vals).dm st.h (.tok fun m=>if m=n then some (w.heap.size,cap) else none), ?_, ?_, ?_⟩
 .refine i2.name (.tok n e) _ w.heap.size (fun id o hid=> ?_) (h.up _ (WW _)) ?_ ?_
  .exact h.ib (WW _) id o hid
  .rintro b' ⟨loc,j,q1,q2⟩;rw [Gh.aZ] at q1;simp only [W7,nt.tok.injEq] at q1;subst q1;simp at q2;exact q2.1.symm
  .refine ⟨_,w.heap.size,cap,i,(vals++rest).toArray,(0,0),Gh.aZ _ _ _,by simp,fun m hm=> ?_,hi,h1,a,World.heap_alloc_new (w:=w.drew),by simpa using c,by simp,fun o r=> ?_⟩
   .rw [if_neg (by omega)]
   .show (g.cP w.heap.size 0 vals).F w.heap.size o=none;rw [Gh.cX _ _ _ _ (by omega)];exact h.lh (WW _) o
 .exact ((Kp.drew A g w).trans (Kp.alloc _ hd)).trans ((Kp.cP (h.up _ (WW _)) d).trans (Kp.dm b))
 .simp only [R];refine ⟨hb,w.heap.size,0,cap,by rw [hn],by omega,h1, ?_,rfl,_,Gh.aZ _ _ _,by simp [hn]⟩;refine gq (Le.dm b) _ _ _ _ ?_;rw [dL];refine ⟨hc,dv (eA f _ _ hr) fun k x hx=>⟨Gh.kg g _ 0 vals k x hx,ho x (Xo hx)⟩⟩
theorem Inv.Oh (h:Inv T A g st w) {e:TypeId} {i:TI} (hi:T.get e=some i) (h1:1<=i.size) {els:List AV} {vals rest:List Value} {cap n:Nat} (hn:els.length=n)
  (hc: ∀v∈els,v.cells.length=i.size) (hb:bL els=true) (hr:RL g (flat els) vals) (ho: ∀v∈vals,v.oneCell'=true) (c:vals.length+rest.length=cap * i.size) (a:n<=cap):
  ∃g',Inv T A g' (st.new (.tok n e)).2 (w.alloc (.cells (vals++rest).toArray e))/\Kp A g w g' (w.alloc (.cells (vals++rest).toArray e))/\
   R g' (.sl i.size els (.own st.h)) (.slice (some ⟨w.heap.size,0,none⟩) n cap):=by
 have hd:=h;have d: ∀o,0<=o->o < 0+vals.length->g.F w.heap.size o=none:=fun o _ _=>h.lh (WW _) o;have l:vals.length=n * i.size:=by rw [dB hr,dF hc,hn]
 have p:Inv T A g st (w.alloc (.cells (vals++rest).toArray e)):=hd.alloc _;have i2:Inv T A (g.cP w.heap.size 0 vals) st (w.alloc (.cells (vals++rest).toArray e)):=p.cP _ 0 vals d (fun k v hv=>by
   have:(w.alloc (.cells (vals++rest).toArray e)).heap[w.heap.size]? =some (.cells (vals++rest).toArray e):=World.heap_alloc_new (w:=w);rw [cell_of this];have hk:k < vals.length:=by
    rcases Nat.lt_or_ge k vals.length with q | q
    .exact q
    .simp [Xu q] at hv
   simp only [Xd,XP];rw [Xr hk];exact hv) fun id o hid=>h.ib (WW _) id o hid
 have b:(g.cP w.heap.size 0 vals).E st.h=none:=h.E _ (WW _);have f:Le g (g.cP w.heap.size 0 vals):=Le.cP d;refine ⟨(g.cP w.heap.size 0 vals).dm st.h (.tok fun m=>if m=n then some (w.heap.size,cap) else none), ?_, ?_, ?_⟩
 .refine i2.name (.tok n e) _ w.heap.size (fun id o hid=> ?_) (h.up _ (WW _)) ?_ ?_
  .exact h.ib (WW _) id o hid
  .rintro b' ⟨loc,j,q1,q2⟩;rw [Gh.aZ] at q1;simp only [W7,nt.tok.injEq] at q1;subst q1;simp at q2;exact q2.1.symm
  .refine ⟨_,w.heap.size,cap,i,(vals++rest).toArray,(0,0),Gh.aZ _ _ _,by simp,fun m hm=> ?_,hi,h1,a,World.heap_alloc_new (w:=w),by simpa using c,by simp,fun o r=> ?_⟩
   .rw [if_neg (by omega)]
   .show (g.cP w.heap.size 0 vals).F w.heap.size o=none;rw [Gh.cX _ _ _ _ (by omega)];exact h.lh (WW _) o
 .exact (Kp.alloc _ hd).trans ((Kp.cP (h.up _ (WW _)) d).trans (Kp.dm b))
 .simp only [R];refine ⟨hb,w.heap.size,0,cap,by rw [hn],by omega,h1, ?_,rfl,_,Gh.aZ _ _ _,by simp [hn]⟩;refine gq (Le.dm b) _ _ _ _ ?_;rw [dL];refine ⟨hc,dv (eA f _ _ hr) fun k x hx=>⟨Gh.kg g _ 0 vals k x hx,ho x (Xo hx)⟩⟩
theorem fJ (b o:Nat) (ty:TypeId) (fz:Nat×Nat): ∀(vs:List Value) (i:Nat) (cur:Array Value) (w:World),w.heap[b]? =some (.cells cur ty fz)->o+i+vs.length<=cur.size->
  fz.2<=o+i->(∀v∈vs,v.oneCell'=true)->
  (storeCells ⟨b,o,none⟩ vs i).run P w= .ok () (w.setRow b (cur.toList.take (o+i)++vs++cur.toList.drop (o+i+vs.length)).toArray)
 | [],i,cur,w,hg,_,_,_=>by
  simp only [storeCells,Xe,XI,XO,XM,Array.toArray_toList];rw [setRow_self w b cur ty fz hg];rfl
 | v::rest,i,cur,w,hg,hl,hfz,h1=>by
  have hi:o+i < cur.size:=by simp at hl;omega
  have a:w.cell? ⟨b,o+i,none⟩=some cur[o+i]:=by simp [World.cell?,hg,hi]
  have c:w.frozen? ⟨b,o+i,none⟩=false:=by
   simp only [World.frozen?,hg];simp;omega
  have d:(store ((⟨b,o,none⟩:Addr).add i) v).run P w= .ok () (w.setRow b (cur.setIfInBounds (o+i) v)):=by
   rw [Addr.eY,run_store P w _ v _ (h1 v (by simp)),a];simp [c,setCell_eq_setRow w b (o+i) cur ty fz v hg]
  have ih:=fJ b o ty fz rest (i+1) (cur.setIfInBounds (o+i) v) (w.setRow b (cur.setIfInBounds (o+i) v)) (setRow_heap w b cur _ ty _ hg) (by simp at hl ⊢;omega) (by omega) (fun x hx=>h1 x (by simp [hx]));simp only [storeCells,Sem.run_bind,d,Result.andThen_ok,ih,setRow_setRow];congr 3;have e:=list_seg_step cur.toList (o+i) v rest (by simp at hl ⊢;omega);simpa [Array.toList_setIfInBounds,Yl] using e
end
section
variable {P:Program} {T:TT} {A:Nat->Prop} {g:Gh} {st:St} {w:World}
theorem Bc {v v':AV} {xs:List Value} (e:fit v= .ok v') (h:RL g v.cells xs):RL g v'.cells xs/\bare v'=true/\v'.cells.length=v.cells.length:=by
 unfold fit at e;simp only at e;split at e
 .rename_i hb;simp only [WT] at e;subst e;cases v with
  | agg cs=>exact ⟨nY h,hb,by simp [AV.cells]⟩
  | sl z es p=>
   cases p with
   | own k=>exact ⟨nY (vs:=[.sl z es (.own k)]) h,hb,rfl⟩
   | _=>exact ⟨h,hb,rfl⟩
  | _=>exact ⟨h,hb,rfl⟩
 .cases e
theorem Ky {us vs:List AV} {xs:List Value} (h:RL g (us++vs) xs):RL g us (xs.take us.length)/\RL g vs (xs.drop us.length):=by
 have h1:=mR us.length h;have h2:=iP us.length h;simp at h1 h2;exact ⟨h1,h2⟩
theorem nT: ∀{vs vs':List AV} {xs:List Value},fits vs= .ok vs'->RL g (flat vs) xs->RL g (flat vs') xs/\bL vs'=true/\vs'.length=vs.length/\vs'.map (·.cells.length)=vs.map (·.cells.length)
 | [],_,_,e,h=>by
  simp only [fits,WT] at e;subst e;exact ⟨h,rfl,rfl,rfl⟩
 | v::vs,vs',xs,e,h=>by
  simp only [fits,ag,au] at e;obtain ⟨u,a,us,b,rfl⟩:=e;rw [gL] at h;obtain ⟨h1,h2⟩:=Ky h;obtain ⟨k1,k2,c⟩:=Bc a h1;obtain ⟨d,f,k6,i⟩:=nT b h2;refine ⟨?_,by simp [bf,k2,f],by simp [k6],by simp [c,i]⟩;rw [gL];have:=eN k1 d
  rwa [XM] at this
theorem grownCap_ge {n c:Nat} {e:TypeId}:n<=grownCap w n c e:=by
 simp only [grownCap,Question.cut];omega
theorem ik (z:Array Value) (n:Nat):(Builtin.zeroCells z n).toList.length=n * z.size:=by
 simp [Builtin.zeroCells]
structure wA (P:Program) (T:TT) (t xt e:TypeId) (i:TI):Prop where
 t:P.underlying t=some (.slice e)
 xt: ∃d,P.underlying xt=some d/\ ∀k,d≠ .int k
 get:T.get e=some i
 ok:jD P e i
theorem wA.info {t xt e:TypeId} {i:TI} (h:wA P T t xt e i): ∃f z,P.info? e=some f/\f.size=i.size/\f.bytes=i.bytes/\f.zero=some z/\z.cells.size=i.size:=by
 obtain ⟨f,h1,h2,h3,z,h4,a,_⟩:=h.ok.info;exact ⟨f,z,h1,h2,h3,h4,a⟩
theorem nz {n:Nat} {i:TI} (h:dp n i=true):n * i.bytes<=70368744177664/\1<=i.size/\n<=70368744177664:=by
 simp only [dp,WY] at h;exact ⟨WU h.1,WU h.2.1,WU h.2.2⟩
theorem sc {t xt ty e:TypeId} {i:TI} (he:wA P T t xt e i) {base:Option Addr} {a b n:Nat} {j news:List Value} {x:Value}
  (hs:Src P i.size (.slice base a b) a j w) (hx:Src P i.size x n news w) (hg:b < a+n) (k:dp (a+n) i=true)
  (h:Inv T A g st w) {els:List AV} (hn:els.length=a+n) (hc: ∀v∈els,v.cells.length=i.size) (hb:bL els=true) (hr:RL g (flat els) (j++news)) (ho: ∀v∈j++news,v.oneCell'=true):
  bl P T A g w (.sl i.size els (.own st.h)) (st.new (.tok (a+n) e)).2 (Builtin.append_ #[t,xt] ty #[.slice base a b,x]):=by
 obtain ⟨f,z,f1,f2,f3,f4,f5⟩:=he.info;obtain ⟨d,d1,d2⟩:=he.xt;obtain ⟨p,r2,q⟩:=nz k;have l:Builtin.nextslicecap (a+n) b * f.bytes<=281474976710656:=growslice_fits hg (by rw [f3];omega);have hrun:=pT (ty:=ty) he.t d1 d2 f1 f4 (by rw [f2];exact hs) (by rw [f2];exact hx) hg (by omega) l;have m:=grownCap_ge (w:=w) (n:=a+n) (c:=b) (e:=e);obtain ⟨g',k1,k2,o⟩:=h.QS (rest:=(Builtin.zeroCells z.cells (grownCap w (a+n) b e - (a+n))).toList) (cap:=grownCap w (a+n) b e) he.get r2 hn hc hb hr ho (by
  rw [ik,f5,dB hr,dF hc,hn, <- Nat.add_mul];congr 1;omega) m
 have hw:j.toArray++news.toArray++Builtin.zeroCells z.cells (grownCap w (a+n) b e - (a+n))=(j++news++(Builtin.zeroCells z.cells (grownCap w (a+n) b e - (a+n))).toList).toArray:=by
  apply Array.ext';simp
 rw [hw] at hrun;exact ⟨_,g',_,hrun,o,k1,k2⟩
theorem Gp {t xt ty e:TypeId} {i:TI} (he:wA P T t xt e i) {k b o cap n:Nat} {es new:List AV} {news:List Value} {x:Value}
  (hk:st.get k= .ok (.tok es.length e)) (O:st.ro<=k) (cc:bL es=true) (a7:gS g i.size es b o) (U:es.length<=cap) (hp:tY g (.own k) es.length b o cap)
  (hx:Src P i.size x n news w) (hn:new.length=n) (c6:0 < n) (hc: ∀v∈new,v.cells.length=i.size) (hb:bL new=true) (hr:RL g (flat new) news) (ho: ∀v∈news,v.oneCell'=true)
  (Y:dp (es.length+n) i=true) (h:Inv T A g st w):
  bl P T A g w (.sl i.size (es++new) (.own k)) (st.put k (.tok (es.length+n) e)) (Builtin.append_ #[t,xt] ty #[.slice (some ⟨b,o,none⟩) es.length cap,x]):=by
 obtain ⟨f,z,f1,f2,f3,f4,f5⟩:=he.info;obtain ⟨d,d1,d2⟩:=he.xt;obtain ⟨r1,r2,r3⟩:=nz Y;obtain ⟨rfl,loc,hE,a8⟩:=hp;obtain ⟨E,b2,r,i2,vs,fz,q1,q2,q3,q4,q5,q6,q7,q8,q9,Q⟩:=h.H k _ hk;have e1:=q1.symm.trans hE;simp only [W7,nt.tok.injEq] at e1;subst e1;have e2:=q2.symm.trans a8;simp only [W7,WV] at e2;obtain ⟨rfl,rfl⟩:=e2;have e3:=q4.symm.trans he.get;simp only [W7] at e3;subst e3;have V:=a7;rw [dL] at V;obtain ⟨W,bb⟩:=V;obtain ⟨p,o1,o2⟩:=iF bb;have Z:p.length=es.length * i2.size:=by rw [dB o1,dF W]
 have ar:news.length=n * i2.size:=hx.l;have cd:flat (es++new)=flat es++flat new:=mQ _ _;have av: ∀v∈es++new,v.cells.length=i2.size:=fun v hv=>by
  rcases Xj.1 hv with hv | hv
  .exact W v hv
  .exact hc v hv
 have I:bL (es++new)=true:=by rw [fK,cc,hb];rfl
 have B:(es++new).length=es.length+n:=by simp [hn]
 by_cases J:es.length+n<=r
 ·-- in place
  have bt:=fJ (P:=P) b2 (es.length * i2.size) e fz news 0 vs w q7 (by
   rw [q8,ar];simp only [XO];rw [<- Nat.add_mul];exact Nat.mul_le_mul_right _ J) (by simpa using q9) ho
  simp only [XO] at bt;have hrun:=Ev (ty:=ty) (a:=⟨b2,0,none⟩) he.t d1 d2 f1 (by rw [f2];exact hx) J (by rw [f2,Addr.eY,Xd];exact bt);generalize K:vs.toList.take (es.length * i2.size)++news++vs.toList.drop (es.length * i2.size+news.length)=row at hrun;have L:row.length=vs.size:=by
   rw [<- K];have:es.length * i2.size+news.length<=vs.size:=by rw [q8,ar, <- Nat.add_mul];exact Nat.mul_le_mul_right _ J
   simp;omega
  have b4: ∀j,j < es.length * i2.size->row[j]? =vs[j]? :=fun j hj=>by
   rw [<- K,W6,Xr (by simp;have:=Nat.mul_le_mul_right i2.size U;omega),List.getElem?_take,if_pos hj];simp
  have b5: ∀j v,news[j]? =some v->row[es.length * i2.size+j]? =some v:=fun j v hv=>by
   have hj:j < news.length:=by
    rcases Nat.lt_or_ge j news.length with q | q
    .exact q
    .simp [Xu q] at hv
   have b6:(vs.toList.take (es.length * i2.size)).length=es.length * i2.size:=by
    have h1:vs.toList.length=r * i2.size:=q8;have h2:es.length * i2.size<=r * i2.size:=Nat.mul_le_mul_right _ U;rw [Xg,h1];omega
   rw [<- K,W6,XB (by rw [b6];omega),b6,Xr (by omega)];rw [show es.length * i2.size+j - es.length * i2.size=j by omega];exact hv
  have s:(w.setRow b2 row.toArray).heap[b2]? =some (.cells row.toArray e fz):=setRow_heap _ _ _ _ _ _ q7;have cg:g.M b2=none:=by
   cases hm:g.M b2 with
   | none=>rfl
   | some ee=>
    have:=h.M b2 ee.1 ee.2 hm;rw [q7] at this;cases this
  have G:At g k (.tok es.length e) b2:=⟨E,r,q1,q2⟩;have i1:Inv T A g (st.put k (.tok es.length e)) (w.setRow b2 row.toArray):=h.write hk G (.tok es.length e) (setRow_size _ _ _) (fun _ hb=>gJ _ _ _ hb)
   (fun j v hv=>by
    have hj:j < es.length * i2.size:=by
     rcases Nat.lt_or_ge j (es.length * i2.size) with q | q
     .exact q
     .rw [Q j q] at hv;cases hv
    have:=h.F b2 j v hv;rw [cell_of q7] at this;rw [cell_of s,XP,b4 j hj];exact this) cg
   (fun b' cl=>by
    obtain ⟨l,c,p1,p2⟩:=cl;have e1:=p1.symm.trans q1;simp only [W7,nt.tok.injEq] at e1;subst e1;have e2:=p2.symm.trans q2;simp only [W7,WV] at e2;exact e2.1)
   ⟨E,b2,r,i2,row.toArray,fz,q1,q2,q3,q4,q5,q6,s,by simpa [L] using q8,q9,Q⟩
  have aw:Kp A g w g (w.setRow b2 row.toArray):=Kp.write (h.own k _ b2 hk G O) (setRow_size _ _ _) (fun _ hb=>gJ _ _ _ hb);have cn:(st.put k (.tok es.length e)).get k= .ok (.tok es.length e):=St.aQ (St.ch.1 hk).1;have a1: ∀o,es.length * i2.size<=o->o < es.length * i2.size+news.length->g.F b2 o=none:=fun o ho _=>Q o ho;obtain ⟨S,N⟩:=i1.OV (n':=es.length+n) (loc':=fun m=>if m=es.length+n then some (b2,r) else E m) b2 (es.length * i2.size) news cn q1
   (fun m y hy=>by
    by_cases hm:m=es.length+n
    .have:=q3 m (by omega);rw [this] at hy;cases hy
    .rw [if_neg hm];exact hy) O a1
   (fun j v hv=>by rw [cell_of s,XP];exact b5 j v hv)
   (fun id o hid hne ha=>by
    rw [St.aY (fun e=>hne e.symm)] at hid;exact hne (h.D id k o _ b2 hid hk ha G)) (h.own k _ b2 hk G O)
   (fun b c C=>by rw [if_pos rfl] at C;simp only [W7,WV] at C;exact C.1.symm)
   ⟨_,b2,r,i2,row.toArray,fz,Gh.aZ _ _ _,by simp,fun m hm=>by rw [if_neg (by omega)];exact q3 m (by omega),q4,q5,J,s,by simpa [L] using q8,
    Xs q9 (Nat.mul_le_mul_right _ (by omega)),fun o b7=>by
     show (g.cP b2 (es.length * i2.size) news).F b2 o=none;rw [Nat.add_mul] at b7;rw [Gh.cX _ _ _ _ (by omega)];exact Q o (by omega)⟩
  have b8:(st.put k (.tok es.length e)).put k (.tok (es.length+n) e)=st.put k (.tok (es.length+n) e):=by
   simp only [St.put,Tr.put,Tr.set_set]
  rw [b8] at S;refine ⟨_,_,_,hrun, ?_,S,aw.trans N⟩;have hle:Le g _:=N.le;simp only [R];refine ⟨I,b2,0,r,by rw [B],by rw [B];exact J,q5, ?_,rfl,_,Gh.aZ _ _ _,by simp [hn]⟩;rw [mE];refine ⟨gq hle _ _ _ _ a7, ?_⟩;rw [dL];refine ⟨hc,dv (eA hle _ _ hr) fun j v hv=>⟨?_,ho v (Xo hv)⟩⟩;rw [Xd];exact Gh.kg g b2 (es.length * i2.size) news j v hv
 ·-- in a new array
  have X: ∀w':World,(∀b o,w'.cell? ⟨b,o,none⟩=w.cell? ⟨b,o,none⟩)->(Builtin.firstCells i2.size es.length (.slice (some ⟨b2,0,none⟩) es.length r)).run P w'= .ok p.toArray w':=fun w' cp=>
   run_firstCells_some (P:=P) w' i2.size es.length ⟨b2,0,none⟩ es.length r p Z (fun j v hv=>by
    rw [Addr.eY,cp];exact h.F _ _ _ (o2 j v hv).1)
  have hs:Src P i2.size (.slice (some ⟨b2,0,none⟩) es.length r) es.length p w:=⟨by simp [Builtin.lenOf],X w fun _ _=>rfl,X w.drew fun _ _=>rfl,Z⟩;have hg:r < es.length+n:=by omega
  have b9:Builtin.nextslicecap (es.length+n) r * f.bytes<=281474976710656:=growslice_fits hg (by rw [f3];omega);have hrun:=pT (ty:=ty) he.t d1 d2 f1 f4 (by rw [f2];exact hs) (by rw [f2];exact hx) hg (by omega) b9;have a6:=grownCap_ge (w:=w) (n:=es.length+n) (c:=r) (e:=e);generalize grownCap w (es.length+n) r e=u at hrun a6;have hw:p.toArray++news.toArray++Builtin.zeroCells z.cells (u - (es.length+n))=(p++news++(Builtin.zeroCells z.cells (u - (es.length+n))).toList).toArray:=by
   apply Array.ext';simp
  rw [hw] at hrun;have cb:(Builtin.zeroCells z.cells (u - (es.length+n))).toList.length=(u - (es.length+n)) * i2.size:=by rw [ik,f5]
  generalize (Builtin.zeroCells z.cells (u - (es.length+n))).toList=rest at hrun cb;have hd:=h.drew;have i1:Inv T A g st (w.drew.alloc (.cells (p++news++rest).toArray e)):=hd.alloc _;have aw:Kp A g w g (w.drew.alloc (.cells (p++news++rest).toArray e)):=(Kp.drew A g w).trans (Kp.alloc _ hd);have s:(w.drew.alloc (.cells (p++news++rest).toArray e)).heap[w.heap.size]? =some (.cells (p++news++rest).toArray e):=World.heap_alloc_new (w:=w.drew);have cv:(p++news).length=(es.length+n) * i2.size:=by simp [Z,ar,Nat.add_mul]
  obtain ⟨S,N⟩:=i1.OV (n':=es.length+n) (loc':=fun m=>if m=es.length+n then some (w.heap.size,u) else E m) w.heap.size 0 (p++news) hk q1
   (fun m y hy=>by
    by_cases hm:m=es.length+n
    .have:=q3 m (by omega);rw [this] at hy;cases hy
    .rw [if_neg hm];exact hy) O (fun o _ _=>h.lh (WW _) o)
   (fun j v hv=>by
    have hj:j < (p++news).length:=by
     rcases Nat.lt_or_ge j (p++news).length with q | q
     .exact q
     .rw [Xu q] at hv;cases hv
    rw [cell_of s,XP,Xd,Xr hj];exact hv)
   (fun id o hid _=>h.ib (WW _) id o hid) (h.up _ (WW _))
   (fun b c C=>by rw [if_pos rfl] at C;simp only [W7,WV] at C;exact C.1.symm)
   ⟨_,w.heap.size,u,i2,(p++news++rest).toArray,(0,0),Gh.aZ _ _ _,by simp,fun m hm=>by rw [if_neg (by omega)];exact q3 m (by omega),q4,q5,a6,s,by
     simp only [YF];rw [W9,cv,cb, <- Nat.add_mul];congr 1;omega,by simp,fun o b7=>by
     show (g.cP w.heap.size 0 (p++news)).F w.heap.size o=none;rw [Gh.cX _ _ _ _ (by omega)];exact h.lh (WW _) o⟩
  refine ⟨_,_,_,hrun, ?_,S,aw.trans N⟩;simp only [R];refine ⟨I,w.heap.size,0,u,by rw [B],by rw [B];exact a6,q5, ?_,rfl,_,Gh.aZ _ _ _,by simp [hn]⟩;rw [dL];refine ⟨av, ?_⟩;rw [cd];exact dv (eA N.le _ _ (eN o1 hr)) fun j v hv=>⟨Gh.kg g w.heap.size 0 (p++news) j v hv,by
   rcases Xj.1 (Xo hv) with hm | hm
   .obtain ⟨jj,cz⟩:=List.getElem?_of_mem hm;exact (o2 jj v cz).2
   .exact ho v hm⟩
end
section
variable {P:Program} {T:TT} {A:Nat->Prop} {g:Gh} {st:St} {w:World}
theorem BO (s:List UInt8):flat (ofBytes s)=ofBytes s:=by
 unfold ofBytes
 induction s with
 | nil=>rfl
 | cons b s ih=>rw [W8,gL,ih];rfl
theorem Km (s:List UInt8):RL g (ofBytes s) (s.map fun b=>Value.int .u8 b.toNat):=by
 unfold ofBytes
 induction s with
 | nil=>simp [RL]
 | cons b s ih=>exact cH (by simp only [R]) ih
theorem Ce {new:List AV} {z:Nat} (h:new.all (fun v=>v.cells.length.beq z)=true): ∀v∈new,v.cells.length=z:=by
 intro v hv;exact W2 (XH.1 h v hv)
theorem vr {x:Value} {s:AV} {new c:List AV} {z:Nat} (hx:R g s x) (he:oP s=some new) (hf:fits new= .ok c) (hc: ∀v∈c,v.cells.length=z) (hne:new≠[]) (h:Inv T A g st w):
  ∃news,Src P z x c.length news w/\RL g (flat c) news/\bL c=true/\(∀v∈news,v.oneCell'=true)/\c.length=new.length:=by
 cases s <;> simp only [oP,W7] at he <;> (try (cases he;done))
 ·-- a string
  rename_i s;subst he;simp only [R] at hx;subst hx;obtain ⟨k1,k2,f,i⟩:=nT (g:=g) hf (xs:=s.map fun b=>Value.int .u8 b.toNat) (by rw [BO];exact Km s);have hl:c.length=s.length:=by rw [f];simp [ofBytes]
  have hz:z=1:=by
   cases c with
   | nil=>
    have:s=[]:=XF (by simpa using hl.symm);subst this;exact absurd rfl hne
   | cons v l=>
    have:=hc v (by simp);cases s with
    | nil=>simp [ofBytes] at hne
    | cons b s=>
     simp only [ofBytes,W8,XV] at i;have:v.cells.length=1:=i.1;omega
  subst hz;have d: ∀w',(Builtin.firstCells 1 c.length (.string ⟨s.toArray⟩)).run P w'= .ok (s.map fun b=>Value.int .u8 b.toNat).toArray w':=fun w'=>by
   simp only [Builtin.firstCells,Sem.run_pure,hl];congr 1;apply Array.ext';simp [ByteArray.data_extract]
  refine ⟨_,⟨by simp [Builtin.lenOf,nv,hl],d w,d w.drew,by simp [hl]⟩,k1,k2,fun v hv=> ?_,f⟩;simp only [XY] at hv;obtain ⟨b,_,rfl⟩:=hv;rfl
 .subst he;exact absurd rfl hne
 .rename_i z' es p;subst he;simp only [R] at hx;obtain ⟨hb,b,o,cap,rfl,m,q,hr,hp⟩:=hx;rw [dL] at hr;obtain ⟨xs,x1,n⟩:=iF hr.2;obtain ⟨k1,k2,f,i⟩:=nT hf x1;have hz:z'=z:=by
   cases e:es with
   | nil=>exact absurd e hne
   | cons v l=>
    cases hn:c with
    | nil=>rw [hn,e] at f;simp at f
    | cons v' r=>
     rw [hn,e] at i;simp only [W8,XV] at i;have h1:=hc v' (by rw [hn];simp);have h2:=hr.1 v (by rw [e];simp);omega
  subst hz;have hl:xs.length=c.length * z':=by rw [dB x1,dF hr.1,f]
  have d: ∀w':World,(∀b o,w'.cell? ⟨b,o,none⟩=w.cell? ⟨b,o,none⟩)->(Builtin.firstCells z' c.length (.slice (some ⟨b,o,none⟩) es.length cap)).run P w'= .ok xs.toArray w':=fun w' k=>
   run_firstCells_some (P:=P) w' z' c.length ⟨b,o,none⟩ es.length cap xs hl (fun j v hv=>by
    rw [Addr.eY,k];exact h.F _ _ _ (n j v hv).1)
  exact ⟨xs,⟨by simp [Builtin.lenOf,f],d w fun _ _=>rfl,d w.drew fun _ _=>rfl,hl⟩,k1,k2,fun v hv=>by
   obtain ⟨j,hj⟩:=List.getElem?_of_mem hv;exact (n j v hj).2,f⟩
 .subst he;exact absurd rfl hne
theorem tD {C:df} {t xt ty e:TypeId} {i:TI} (he:wA P T t xt e i) {s x r:AV} {X xv:Value} {new:List AV} {p:dG} {Y:Fx} (hev:oP x=some new)
  (hp:iO i e s new= .ok p) (hrun:aC C st p= .ok (r,Y)) (hs:R g s X) (hx:R g x xv) (h:Inv T A g st w):
  bl P T A g w r (Y.did.app st) (Builtin.append_ #[t,xt] ty #[X,xv]):=by
 obtain ⟨f,z,f1,f2,f3,f4,f5⟩:=he.info;obtain ⟨d,d1,d2⟩:=he.xt;unfold iO at hp;split at hp
 ·-- nothing is K
  have m:(Builtin.lenOf xv).run P w= .ok 0 w/\(Builtin.firstCells f.size 0 xv).run P w= .ok #[] w:=by
   cases x <;> simp only [oP,W7] at hev <;> (try (cases hev;done)) <;> simp only [R] at hx
   .rename_i s;have:s=[]:=by simpa [ofBytes] using hev
    subst this;subst hx;have h0:(⟨[].toArray⟩:ByteArray)=ByteArray.empty:=rfl;rw [h0];exact ⟨by simp [Builtin.lenOf],by simp [Builtin.firstCells]⟩
   .subst hx;exact ⟨by simp [Builtin.lenOf],by simp [Builtin.firstCells]⟩
   .subst hev;obtain ⟨_,b,o,cap,rfl,_⟩:=hx;exact ⟨by simp [Builtin.lenOf],by simp [Builtin.firstCells,loadCells,loadCellsFrom]⟩
   .obtain ⟨a,rfl⟩:=hx;exact ⟨by simp [Builtin.lenOf],by simp [Builtin.firstCells,loadCells,loadCellsFrom]⟩
  split at hp
  .simp only [au] at hp;subst hp;simp only [aC,WT,WV] at hrun;obtain ⟨rfl,rfl⟩:=hrun;simp only [R] at hs;subst hs;refine bl.of h (x:= .slice none 0 0) ?_ (by simp only [R]);simp [Builtin.append_,gd he.t,gd d1,sizeOf,typeInfo,f1,m.1,m.2]
  .simp only [au] at hp;subst hp;simp only [aC,WT,WV] at hrun;obtain ⟨rfl,rfl⟩:=hrun;have q:=hs;simp only [R] at q;obtain ⟨_,b,o,cap,rfl,E,_⟩:=q;refine bl.of h ?_ hs;simp [Builtin.append_,gd he.t,gd d1,sizeOf,typeInfo,f1,m.1,m.2,E,storeCells]
  .simp only [au] at hp;subst hp;simp only [aC,WT,WV] at hrun;obtain ⟨rfl,rfl⟩:=hrun;have q:=hs;simp only [R] at q;obtain ⟨a,rfl⟩:=q;refine bl.of h ?_ hs;simp [Builtin.append_,gd he.t,gd d1,sizeOf,typeInfo,f1,m.1,m.2,storeCells]
  .cases hp
 .rename_i v l;simp only [ag] at hp;obtain ⟨y,hf,hp⟩:=hp;split at hp
  .cases hp
  .rename_i L;have hc:=Ce L;obtain ⟨news,s1,s2,S,U,s5⟩:=vr (P:=P) hx hev hf hc (by simp) h;have hpos:0 < y.length:=by rw [s5];simp
   split at hp
   ·-- to nil
    split at hp
    .rename_i c;simp only [au] at hp;subst hp;simp only [aC,WT,WV] at hrun;obtain ⟨rfl,rfl⟩:=hrun;simp only [R] at hs;subst hs;have G:Src P i.size (.slice none 0 0) 0 [] w:=⟨by simp [Builtin.lenOf],by simp [Builtin.firstCells],by simp [Builtin.firstCells],by simp⟩;have:=sc (ty:=ty) he G s1 (by omega) (by rw [Xd];exact c) h (els:=y) (by omega) hc S (by simpa using s2) (by simpa using U);rw [Xd] at this;exact this
    .cases hp
   .rename_i z' es p';split at hp
    .cases hp
    .rename_i c;simp only [WY] at c;obtain ⟨c,I⟩:=c;have I:=W2 I;subst I;have q:=hs;simp only [R] at q;obtain ⟨M,b,o,cap,rfl,E,ar,N,H⟩:=q;split at hp
     .simp only [au] at hp;subst hp;simp only [aC,WT,WV] at hrun;obtain ⟨rfl,rfl⟩:=hrun;have J:cap=es.length:=H;subst J;have B:=N;rw [dL] at B;obtain ⟨xs,x1,Z⟩:=iF B.2;have hl:xs.length=es.length * i.size:=by rw [dB x1,dF B.1]
      have D: ∀w':World,(∀b o,w'.cell? ⟨b,o,none⟩=w.cell? ⟨b,o,none⟩)->(Builtin.firstCells i.size es.length (.slice (some ⟨b,o,none⟩) es.length es.length)).run P w'= .ok xs.toArray w':=fun w' V=>
       run_firstCells_some (P:=P) w' i.size es.length ⟨b,o,none⟩ es.length es.length xs hl (fun j v hv=>by
        rw [Addr.eY,V];exact h.F _ _ _ (Z j v hv).1)
      have m:Src P i.size (.slice (some ⟨b,o,none⟩) es.length es.length) es.length xs w:=⟨by simp [Builtin.lenOf],D w fun _ _=>rfl,D w.drew fun _ _=>rfl,hl⟩;exact sc (ty:=ty) he m s1 (by omega) c h (els:=es++y) (by simp) (fun v hv=>by
       rcases Xj.1 hv with hv | hv
       .exact B.1 v hv
       .exact hc v hv) (by rw [fK,M,S];rfl) (by rw [mQ];exact eN x1 s2) (fun v hv=>by
       rcases Xj.1 hv with hv | hv
       .obtain ⟨j,hj⟩:=List.getElem?_of_mem hv;exact (Z j v hj).2
       .exact U v hv)
     .rename_i k;simp only [au] at hp;subst hp;simp only [aC,ag,au] at hrun;obtain ⟨ob,h1,⟨v',o'⟩,h2,dd,O,h6⟩:=hrun;split at h2
      .rename_i n e';split at h2
       .rename_i u;simp only [WY] at u;have hn:=W2 u.1;have W:=W2 u.2;subst hn W;simp only [au,WV] at h2;obtain ⟨rfl,rfl⟩:=h2;simp only [eG] at O;split at O
        .cases O
        .rename_i Q;rw [cW] at Q;simp only [WT] at O;subst O;simp only [WV] at h6;obtain ⟨rfl,rfl⟩:=h6;exact Gp he h1 Q M N E H s1 rfl hpos hc S s2 U c h
       .cases h2
      .cases h2
     .cases hp
   .split at hp
    .rename_i c;simp only [au] at hp;subst hp;simp only [aC,WT,WV] at hrun;obtain ⟨rfl,rfl⟩:=hrun;simp only [R] at hs;obtain ⟨a,rfl⟩:=hs;have G:Src P i.size (.slice (some a) 0 0) 0 [] w:=⟨by simp [Builtin.lenOf],by simp [Builtin.firstCells,loadCells,loadCellsFrom],by simp [Builtin.firstCells,loadCells,loadCellsFrom],by simp⟩;have:=sc (ty:=ty) he G s1 (by omega) (by rw [Xd];exact c) h (els:=y) (by omega) hc S (by simpa using s2) (by simpa using U);rw [Xd] at this;exact this
    .cases hp
   .cases hp
end
end Go.VM
