/-
  A part of the proof.
-/
import Derived.Test.YtpinfliihpdjcaaGreatDoorVmAG
import Derived.Laws.Append
set_option linter.all false
namespace Go.VM
section
variable {P:Program} {T:TT} {A:Nat->Prop} {g:Gh} {st:St} {w:World}
theorem Inv.Hs (h:Inv T A g st w) {k n n':Nat} {e:TypeId} {loc loc':Nat->Option (Nat×Nat)} (b' lo:Nat) (vals:List Value)
  (U:st.get k= .ok (.tok n e)) (S:g.E k=some (.tok loc)) (J: ∀m x,loc m=some x->loc' m=some x) (V:st.ro<=k)
  (z: ∀o,lo<=o->o < lo+vals.length->g.F b' o=none) (B: ∀i v,vals[i]? =some v->w.cell? ⟨b',lo+i,none⟩=some v)
  (r: ∀id o,st.get id= .ok o->id≠k->¬ At g id o b') (hA:A b') (t: ∀b cap,loc' n'=some (b,cap)->b=b')
  (ho:Holds T ((g.bN b' lo vals).cg k (.tok loc')) w k (.tok n' e)) (hU:g.C->mQ w b':=by exact fun _=>mQ.D8):
  Inv T A ((g.bN b' lo vals).cg k (.tok loc')) (st.put k (.tok n' e)) w/\Kp A g w ((g.bN b' lo vals).cg k (.tok loc')) w:=by
 have s:=(St.cA.1 U).1;have O:Le g (g.bN b' lo vals):=Le.bN z;have P:Le (g.bN b' lo vals) ((g.bN b' lo vals).cg k (.tok loc')):=by
  refine ⟨fun _ _ _ x=>x,fun _ _ x=>x,fun j b x=> ?_,fun j l x=> ?_,Iff.rfl⟩
  .have:j≠k:=fun e=>by subst e;have:=S.symm.trans x;cases this
   rw [Gh.bm _ _ this];exact x
  .by_cases G:j=k
   .subst G;have W:g.E j=some (.tok l):=x;have:=S.symm.trans W;simp only [N1,jo.tok.injEq] at this;subst this;exact ⟨loc',Gh.aF _ _ _,J⟩
   .exact ⟨l,by rw [Gh.bm _ _ G];exact x,fun _ _ y=>y⟩
 have le:=O.trans P;refine ⟨⟨?_,h.M, ?_, ?_, ?_, ?_,h.up, ?_⟩,⟨NX _,fun _ _=>rfl,fun b Q o=>Gh.bH _ _ _ _ (.inl fun e=>Q (e ▸ hA)),fun _ _=>rfl,le,rfl,rfl,rfl⟩⟩
 .intro b o v N;by_cases R:b=b'/\lo<=o/\o < lo+vals.length
  .obtain ⟨rfl,h1,u⟩:=R;have a:(g.bN b lo vals).F b o=some v:=N;simp only [Gh.bN] at a;rw [if_pos ⟨trivial,h1,u⟩] at a;have:=B _ _ a
   rwa [show lo+(o - lo)=o by omega] at this
  .have a:(g.bN b' lo vals).F b o=some v:=N;rw [Gh.bH _ _ _ _ (by omega)] at a;exact h.F b o v a
 .intro id d;have K:st.h<=id:=d;rw [Gh.bm _ _ (by omega)];exact h.E id K
 .intro id o d;by_cases G:id=k
  .subst G;rw [St.aP s] at d;cases d;exact ho
  .rw [St.aQ (fun e=>G e.symm)] at d;exact gA (h.H id o d) le (Gh.bm _ _ G) fun b Q=>⟨fun _=>Gh.bH _ _ _ _ (.inl fun e=>r id o d G (e ▸ Q)),rfl⟩
 .intro id id' o o' b h1 u q L;by_cases hi:id=k <;> by_cases f:id'=k
  .rw [hi,f]
  .subst hi;rw [St.aP s] at h1;cases h1;rw [St.aQ (fun e=>f e.symm)] at u;rw [iU (Gh.bm _ _ f)] at L;obtain ⟨l,cap,p,I⟩:=q;rw [Gh.aF] at p;simp only [N1,jo.tok.injEq] at p;subst p;have:=t b cap I;subst this;exact absurd L (r id' o' u f)
  .subst f;rw [St.aP s] at u;cases u;rw [St.aQ (fun e=>hi e.symm)] at h1;rw [iU (Gh.bm _ _ hi)] at q;obtain ⟨l,cap,p,I⟩:=L;rw [Gh.aF] at p;simp only [N1,jo.tok.injEq] at p;subst p;have:=t b cap I;subst this;exact absurd q (r id o h1 hi)
  .rw [St.aQ (fun e=>hi e.symm)] at h1;rw [St.aQ (fun e=>f e.symm)] at u;rw [iU (Gh.bm _ _ hi)] at q;rw [iU (Gh.bm _ _ f)] at L;exact h.D id id' o o' b h1 u q L
 .intro id o b h1 q X;by_cases hi:id=k
  .subst hi;rw [St.aP s] at h1;cases h1;obtain ⟨l,cap,p,I⟩:=q;rw [Gh.aF] at p;simp only [N1,jo.tok.injEq] at p;subst p;have:=t b cap I;subst this;exact hA
  .rw [St.aQ (fun e=>hi e.symm)] at h1;rw [iU (Gh.bm _ _ hi)] at q;exact h.own id o b h1 q X
 .intro c;refine ⟨fun b o v Y N=> ?_,fun id o b h1 q=> ?_⟩
  .by_cases R:b=b'/\lo<=o/\o < lo+vals.length
   .rw [R.1];exact (hU c).KY o
   .have a:(g.bN b' lo vals).F b o=some v:=N;rw [Gh.bH _ _ _ _ (by omega)] at a;exact (h.C c).1 b o v Y a
  .by_cases hi:id=k
   .subst hi;rw [St.aP s] at h1;cases h1;obtain ⟨l,cap,p,I⟩:=q;rw [Gh.aF] at p;simp only [N1,jo.tok.injEq] at p;subst p;rw [t b cap I];exact hU c
   .rw [St.aQ (fun e=>hi e.symm)] at h1;rw [iU (Gh.bm _ _ hi)] at q;exact (h.C c).2 id o b h1 q
structure Src (P:Program) (size:Nat) (x:Value) (n:Nat) (news:List Value) (w:World):Prop where
 len:(Builtin.lenOf x).run P w= .ok n w
 first:(Builtin.firstCells size n x).run P w= .ok news.toArray w
 drew:(Builtin.firstCells size n x).run P w.drew= .ok news.toArray w.drew
 l:news.length=n * size
theorem iG {t xt ty e:TypeId} {i:TypeInfo} {z:Value} {h:TypeDesc} (m:P.underlying t=some (.slice e)) (g:P.underlying xt=some h) (o: ∀k,h≠ .int k) (hi:P.info? e=some i) (p:i.zero=some z)
  {base:Option Addr} {a b n:Nat} {c news:List Value} {x:Value} (hs:Src P i.size (.slice base a b) a c w) (j:Src P i.size x n news w)
  (s:b < a+n) (q:((a+n:Nat):Int)<=9223372036854775807) (l:Builtin.nextslicecap (a+n) b * i.bytes<=281474976710656):
  (Builtin.append_ #[t,xt] ty #[.slice base a b,x]).run P w=
   .ok (.slice (some ⟨w.heap.size,0,none⟩) (a+n) (grownCap w (a+n) b e))
    (w.drew.alloc (.cells (c.toArray++news.toArray++Builtin.zeroCells z.cells (grownCap w (a+n) b e - (a+n))) e)):=by
 have r:¬ (a+n<=b):=by omega
 have d:¬ (9223372036854775807 < ((a:Int)+(n:Int))):=by omega
 have f:¬ (281474976710656 < Builtin.nextslicecap (a+n) b * i.bytes):=by omega
 simp [Builtin.append_,eC m,eC g,sizeOf,typeInfo,zeroValue,hi,p,j.len,r,d,f,Question.forced,hs.drew,j.drew,newRow,grownCap];congr 2;apply Array.ext';simp [On]
theorem rK {t xt ty e:TypeId} {i:TypeInfo} {h:TypeDesc} (l:P.underlying t=some (.slice e)) (f:P.underlying xt=some h) (m: ∀k,h≠ .int k) (hi:P.info? e=some i)
  {a:Addr} {b c n:Nat} {news:List Value} {x:Value} {w':World} (j:Src P i.size x n news w)
  (d:b+n<=c) (g:(storeCells (a.add (b * i.size)) news).run P w= .ok () w'):
  (Builtin.append_ #[t,xt] ty #[.slice (some a) b c,x]).run P w= .ok (.slice (some a) (b+n) c) w':=by
 simp [Builtin.append_,eC l,eC f,sizeOf,typeInfo,hi,j.len,d,j.first,g]
theorem Inv.HI (h:Inv T A g st w) {e:TypeId} {i:TI} (hi:T.get e=some i) (h1:1<=i.size) {els:List AV} {vals rest:List Value} {cap n:Nat} (c:els.length=n)
  (p: ∀v∈els,v.cells.length=i.size) (y:bx els=true) (r:RL g (flat els) vals) (ho: ∀v∈vals,v.oneCell'=true) (d:vals.length+rest.length=cap * i.size) (hcap:n<=cap):
  ∃g',Inv T A g' (st.new (.tok n e)).2 (w.drew.alloc (.cells (vals++rest).toArray e))/\Kp A g w g' (w.drew.alloc (.cells (vals++rest).toArray e))/\
   R g' (.sl i.size els (.own st.h)) (.slice (some ⟨w.heap.size,0,none⟩) n cap):=by
 have hd:=h.drew;have f: ∀o,0<=o->o < 0+vals.length->g.F w.heap.size o=none:=fun o _ _=>h.fy (NX _) o;have z:vals.length=n * i.size:=by rw [cD r,cM p,c]
 have B:Inv T A g st (w.drew.alloc (.cells (vals++rest).toArray e)):=hd.alloc _;have C:Inv T A (g.bN w.heap.size 0 vals) st (w.drew.alloc (.cells (vals++rest).toArray e)):=B.bN _ 0 vals f (fun k v s=>by
   have:(w.drew.alloc (.cells (vals++rest).toArray e)).heap[w.heap.size]? =some (.cells (vals++rest).toArray e):=World.heap_alloc_new (w:=w.drew);rw [cell_of this];have D:k < vals.length:=by
    rcases Nat.lt_or_ge k vals.length with q | q
    .exact q
    .simp [Og q] at s
   simp only [N5,OA];rw [Oh D];exact s) fun id o a=>h.eQ (NX _) id o a
 have b:(g.bN w.heap.size 0 vals).E st.h=none:=h.E _ (NX _);have j:Le g (g.bN w.heap.size 0 vals):=Le.bN f;refine ⟨(g.bN w.heap.size 0 vals).cg st.h (.tok fun m=>if m=n then some (w.heap.size,cap) else none), ?_, ?_, ?_⟩
 .refine C.name (.tok n e) _ w.heap.size (fun id o a=> ?_) (h.up _ (NX _)) ?_ ?_
  .exact h.eQ (NX _) id o a
  .rintro b' ⟨loc,cap',l,t⟩;rw [Gh.aF] at l;simp only [N1,jo.tok.injEq] at l;subst l;simp at t;exact t.1.symm
  .refine ⟨_,w.heap.size,cap,i,(vals++rest).toArray,(0,0),Gh.aF _ _ _,by simp,fun m H=> ?_,hi,h1,hcap,World.heap_alloc_new (w:=w.drew),by simpa using d,by simp,fun o G=> ?_⟩
   .rw [if_neg (by omega)]
   .show (g.bN w.heap.size 0 vals).F w.heap.size o=none;rw [Gh.bH _ _ _ _ (by omega)];exact h.fy (NX _) o
 .exact ((Kp.drew A g w).trans (Kp.alloc _ hd)).trans ((Kp.bN (h.up _ (NX _)) f).trans (Kp.cg b))
 .simp only [R];refine ⟨y,w.heap.size,0,cap,by rw [c],by omega,h1, ?_,rfl,_,Gh.aF _ _ _,by simp [c]⟩;refine eG (Le.cg b) _ _ _ _ ?_;rw [da];refine ⟨p,cF (cT j _ _ r) fun k x u=>⟨Gh.gF g _ 0 vals k x u,ho x (Ob u)⟩⟩
theorem Inv.Fe (h:Inv T A g st w) {e:TypeId} {i:TI} (hi:T.get e=some i) (h1:1<=i.size) {els:List AV} {vals rest:List Value} {cap n:Nat} (c:els.length=n)
  (p: ∀v∈els,v.cells.length=i.size) (y:bx els=true) (r:RL g (flat els) vals) (ho: ∀v∈vals,v.oneCell'=true) (d:vals.length+rest.length=cap * i.size) (hcap:n<=cap):
  ∃g',Inv T A g' (st.new (.tok n e)).2 (w.alloc (.cells (vals++rest).toArray e))/\Kp A g w g' (w.alloc (.cells (vals++rest).toArray e))/\
   R g' (.sl i.size els (.own st.h)) (.slice (some ⟨w.heap.size,0,none⟩) n cap):=by
 have hd:=h;have f: ∀o,0<=o->o < 0+vals.length->g.F w.heap.size o=none:=fun o _ _=>h.fy (NX _) o;have z:vals.length=n * i.size:=by rw [cD r,cM p,c]
 have B:Inv T A g st (w.alloc (.cells (vals++rest).toArray e)):=hd.alloc _;have C:Inv T A (g.bN w.heap.size 0 vals) st (w.alloc (.cells (vals++rest).toArray e)):=B.bN _ 0 vals f (fun k v s=>by
   have:(w.alloc (.cells (vals++rest).toArray e)).heap[w.heap.size]? =some (.cells (vals++rest).toArray e):=World.heap_alloc_new (w:=w);rw [cell_of this];have D:k < vals.length:=by
    rcases Nat.lt_or_ge k vals.length with q | q
    .exact q
    .simp [Og q] at s
   simp only [N5,OA];rw [Oh D];exact s) fun id o a=>h.eQ (NX _) id o a
 have b:(g.bN w.heap.size 0 vals).E st.h=none:=h.E _ (NX _);have j:Le g (g.bN w.heap.size 0 vals):=Le.bN f;refine ⟨(g.bN w.heap.size 0 vals).cg st.h (.tok fun m=>if m=n then some (w.heap.size,cap) else none), ?_, ?_, ?_⟩
 .refine C.name (.tok n e) _ w.heap.size (fun id o a=> ?_) (h.up _ (NX _)) ?_ ?_
  .exact h.eQ (NX _) id o a
  .rintro b' ⟨loc,cap',l,t⟩;rw [Gh.aF] at l;simp only [N1,jo.tok.injEq] at l;subst l;simp at t;exact t.1.symm
  .refine ⟨_,w.heap.size,cap,i,(vals++rest).toArray,(0,0),Gh.aF _ _ _,by simp,fun m H=> ?_,hi,h1,hcap,World.heap_alloc_new (w:=w),by simpa using d,by simp,fun o G=> ?_⟩
   .rw [if_neg (by omega)]
   .show (g.bN w.heap.size 0 vals).F w.heap.size o=none;rw [Gh.bH _ _ _ _ (by omega)];exact h.fy (NX _) o
 .exact (Kp.alloc _ hd).trans ((Kp.bN (h.up _ (NX _)) f).trans (Kp.cg b))
 .simp only [R];refine ⟨y,w.heap.size,0,cap,by rw [c],by omega,h1, ?_,rfl,_,Gh.aF _ _ _,by simp [c]⟩;refine eG (Le.cg b) _ _ _ _ ?_;rw [da];refine ⟨p,cF (cT j _ _ r) fun k x u=>⟨Gh.gF g _ 0 vals k x u,ho x (Ob u)⟩⟩
theorem dw (b o:Nat) (ty:TypeId) (fz:Nat×Nat): ∀(vs:List Value) (i:Nat) (cur:Array Value) (w:World),w.heap[b]? =some (.cells cur ty fz)->o+i+vs.length<=cur.size->
  fz.2<=o+i->(∀v∈vs,v.oneCell'=true)->
  (storeCells ⟨b,o,none⟩ vs i).run P w= .ok () (w.setRow b (cur.toList.take (o+i)++vs++cur.toList.drop (o+i+vs.length)).toArray)
 | [],i,cur,w,c,_,_,_=>by
  simp only [storeCells,ON,OO,Ow,OY,Array.toArray_toList];rw [setRow_self w b cur ty fz c];rfl
 | v::rest,i,cur,w,c,hl,g,h1=>by
  have hi:o+i < cur.size:=by simp at hl;omega
  have a:w.cell? ⟨b,o+i,none⟩=some cur[o+i]:=by simp [World.cell?,c,hi]
  have d:w.frozen? ⟨b,o+i,none⟩=false:=by
   simp only [World.frozen?,c];simp;omega
  have f:(store ((⟨b,o,none⟩:Addr).add i) v).run P w= .ok () (w.setRow b (cur.setIfInBounds (o+i) v)):=by
   rw [Addr.dt,run_store P w _ v _ (h1 v (by simp)),a];simp [d,setCell_eq_setRow w b (o+i) cur ty fz v c]
  have ih:=dw b o ty fz rest (i+1) (cur.setIfInBounds (o+i) v) (w.setRow b (cur.setIfInBounds (o+i) v)) (setRow_heap w b cur _ ty _ c) (by simp at hl ⊢;omega) (by omega) (fun x h=>h1 x (by simp [h]));simp only [storeCells,Sem.run_bind,f,Result.andThen_ok,ih,setRow_setRow];congr 3;have e:=list_seg_step cur.toList (o+i) v rest (by simp at hl ⊢;omega);simpa [Array.toList_setIfInBounds,PO] using e
end
section
variable {P:Program} {T:TT} {A:Nat->Prop} {g:Gh} {st:St} {w:World}
theorem uP {v v':AV} {xs:List Value} (e:fit v= .ok v') (h:RL g v.cells xs):RL g v'.cells xs/\bare v'=true/\v'.cells.length=v.cells.length:=by
 unfold fit at e;simp only at e;split at e
 .rename_i a;simp only [NT] at e;subst e;cases v with
  | agg cs=>exact ⟨jW h,a,by simp [AV.cells]⟩
  | sl z es p=>
   cases p with
   | own k=>exact ⟨jW (vs:=[.sl z es (.own k)]) h,a,rfl⟩
   | _=>exact ⟨h,a,rfl⟩
  | _=>exact ⟨h,a,rfl⟩
 .cases e
theorem DA {us vs:List AV} {xs:List Value} (h:RL g (us++vs) xs):RL g us (xs.take us.length)/\RL g vs (xs.drop us.length):=by
 have h1:=jw us.length h;have a:=fK us.length h;simp at h1 a;exact ⟨h1,a⟩
theorem jU: ∀{vs vs':List AV} {xs:List Value},fits vs= .ok vs'->RL g (flat vs) xs->RL g (flat vs') xs/\bx vs'=true/\vs'.length=vs.length/\vs'.map (·.cells.length)=vs.map (·.cells.length)
 | [],_,_,e,h=>by
  simp only [fits,NT] at e;subst e;exact ⟨h,rfl,rfl,rfl⟩
 | v::vs,vs',xs,e,h=>by
  simp only [fits,ad,aj] at e;obtain ⟨u,a,us,b,rfl⟩:=e;rw [fk] at h;obtain ⟨h1,c⟩:=DA h;obtain ⟨d,f,i⟩:=uP a h1;obtain ⟨j,k,l,m⟩:=jU b c;refine ⟨?_,by simp [bw,f,k],by simp [l],by simp [i,m]⟩;rw [fk];have:=df d j
  rwa [OY] at this
theorem grownCap_ge {n c:Nat} {e:TypeId}:n<=grownCap w n c e:=by
 simp only [grownCap,Question.cut];omega
theorem dK (z:Array Value) (n:Nat):(Builtin.zeroCells z n).toList.length=n * z.size:=by
 simp [Builtin.zeroCells]
structure oX (P:Program) (T:TT) (t xt e:TypeId) (i:TI):Prop where
 t:P.underlying t=some (.slice e)
 xt: ∃d,P.underlying xt=some d/\ ∀k,d≠ .int k
 get:T.get e=some i
 ok:gf P e i
theorem oX.info {t xt e:TypeId} {i:TI} (h:oX P T t xt e i): ∃f z,P.info? e=some f/\f.size=i.size/\f.bytes=i.bytes/\f.zero=some z/\z.cells.size=i.size:=by
 obtain ⟨f,h1,a,b,z,h4,c,_⟩:=h.ok.info;exact ⟨f,z,h1,a,b,h4,c⟩
theorem gw {n:Nat} {i:TI} (h:cU n i=true):n * i.bytes<=70368744177664/\1<=i.size/\n<=70368744177664:=by
 simp only [cU,N0] at h;exact ⟨N4 h.1,N4 h.2.1,N4 h.2.2⟩
theorem nq {t xt ty e:TypeId} {i:TI} (o:oX P T t xt e i) {base:Option Addr} {a b n:Nat} {j news:List Value} {x:Value}
  (hs:Src P i.size (.slice base a b) a j w) (B:Src P i.size x n news w) (q:b < a+n) (l:cU (a+n) i=true)
  (h:Inv T A g st w) {els:List AV} (r:els.length=a+n) (s: ∀v∈els,v.cells.length=i.size) (C:bx els=true) (u:RL g (flat els) (j++news)) (ho: ∀v∈j++news,v.oneCell'=true):
  aS P T A g w (.sl i.size els (.own st.h)) (st.new (.tok (a+n) e)).2 (Builtin.append_ #[t,xt] ty #[.slice base a b,x]):=by
 obtain ⟨f,z,D,y,E,F,G⟩:=o.info;obtain ⟨d,H,I⟩:=o.xt;obtain ⟨O,J,Q⟩:=gw l;have m:Builtin.nextslicecap (a+n) b * f.bytes<=281474976710656:=growslice_fits q (by rw [E];omega);have k:=iG (ty:=ty) o.t H I D F (by rw [y];exact hs) (by rw [y];exact B) q (by omega) m;have p:=grownCap_ge (w:=w) (n:=a+n) (c:=b) (e:=e);obtain ⟨g',K,L,M⟩:=h.HI (rest:=(Builtin.zeroCells z.cells (grownCap w (a+n) b e - (a+n))).toList) (cap:=grownCap w (a+n) b e) o.get J r s C u ho (by
  rw [dK,G,cD u,cM s,r, <- Nat.add_mul];congr 1;omega) p
 have N:j.toArray++news.toArray++Builtin.zeroCells z.cells (grownCap w (a+n) b e - (a+n))=(j++news++(Builtin.zeroCells z.cells (grownCap w (a+n) b e - (a+n))).toList).toArray:=by
  apply Array.ext';simp
 rw [N] at k;exact ⟨_,g',_,k,M,K,L⟩
theorem zR {t xt ty e:TypeId} {i:TI} (he:oX P T t xt e i) {k b o cap n:Nat} {es new:List AV} {news:List Value} {x:Value}
  (hk:st.get k= .ok (.tok es.length e)) (X:st.ro<=k) (eg:bx es=true) (b9:eR g i.size es b o) (hcap:es.length<=cap) (hp:oH g (.own k) es.length b o cap)
  (hx:Src P i.size x n news w) (hn:new.length=n) (eF:0 < n) (hc: ∀v∈new,v.cells.length=i.size) (hb:bx new=true) (hr:RL g (flat new) news) (ho: ∀v∈news,v.oneCell'=true)
  (a8:cU (es.length+n) i=true) (h:Inv T A g st w):
  aS P T A g w (.sl i.size (es++new) (.own k)) (st.put k (.tok (es.length+n) e)) (Builtin.append_ #[t,xt] ty #[.slice (some ⟨b,o,none⟩) es.length cap,x]):=by
 obtain ⟨f,z,f1,f2,f3,f4,f5⟩:=he.info;obtain ⟨d,d1,d2⟩:=he.xt;obtain ⟨r1,r2,r3⟩:=gw a8;obtain ⟨rfl,loc,hE,cc⟩:=hp;obtain ⟨N,B,r,s,vs,fz,q1,q2,q3,q4,q5,q6,q7,q8,q9,Y⟩:=h.H k _ hk;have e1:=q1.symm.trans hE;simp only [N1,jo.tok.injEq] at e1;subst e1;have e2:=q2.symm.trans cc;simp only [N1,NU] at e2;obtain ⟨rfl,rfl⟩:=e2;have e3:=q4.symm.trans he.get;simp only [N1] at e3;subst e3;have a1:=b9;rw [da] at a1;obtain ⟨a6,cd⟩:=a1;obtain ⟨p,o1,o2⟩:=fZ cd;have bb:p.length=es.length * s.size:=by rw [cD o1,cM a6]
 have b4:news.length=n * s.size:=hx.l;have ei:flat (es++new)=flat es++flat new:=jv _ _;have b5: ∀v∈es++new,v.cells.length=s.size:=fun v E=>by
  rcases N9.1 E with E | E
  .exact a6 v E
  .exact hc v E
 have O:bx (es++new)=true:=by rw [eu,eg,hb];rfl
 have J:(es++new).length=es.length+n:=by simp [hn]
 by_cases Q:es.length+n<=r
 ·-- in place
  have cn:=dw (P:=P) B (es.length * s.size) e fz news 0 vs w q7 (by
   rw [q8,b4];simp only [Ow];rw [<- Nat.add_mul];exact Nat.mul_le_mul_right _ Q) (by simpa using q9) ho
  simp only [Ow] at cn;have I:=rK (ty:=ty) (a:=⟨B,0,none⟩) he.t d1 d2 f1 (by rw [f2];exact hx) Q (by rw [f2,Addr.dt,N5];exact cn);generalize S:vs.toList.take (es.length * s.size)++news++vs.toList.drop (es.length * s.size+news.length)=row at I;have U:row.length=vs.size:=by
   rw [<- S];have:es.length * s.size+news.length<=vs.size:=by rw [q8,b4, <- Nat.add_mul];exact Nat.mul_le_mul_right _ Q
   simp;omega
  have cv: ∀j,j < es.length * s.size->row[j]? =vs[j]? :=fun j hj=>by
   rw [<- S,On,Oh (by simp;have:=Nat.mul_le_mul_right s.size hcap;omega),List.getElem?_take,if_pos hj];simp
  have cz: ∀j v,news[j]? =some v->row[es.length * s.size+j]? =some v:=fun j v E=>by
   have hj:j < news.length:=by
    rcases Nat.lt_or_ge j news.length with q | q
    .exact q
    .simp [Og q] at E
   have c6:(vs.toList.take (es.length * s.size)).length=es.length * s.size:=by
    have h1:vs.toList.length=r * s.size:=q8;have h2:es.length * s.size<=r * s.size:=Nat.mul_le_mul_right _ hcap;rw [Oa,h1];omega
   rw [<- S,On,OV (by rw [c6];omega),c6,Oh (by omega)];rw [show es.length * s.size+j - es.length * s.size=j by omega];exact E
  have u:(w.setRow B row.toArray).heap[B]? =some (.cells row.toArray e fz):=setRow_heap _ _ _ _ _ _ q7;have ej:g.M B=none:=by
   cases V:g.M B with
   | none=>rfl
   | some ee=>
    have:=h.M B ee.1 ee.2 V;rw [q7] at this;cases this
  have K:At g k (.tok es.length e) B:=⟨N,r,q1,q2⟩;have i1:Inv T A g (st.put k (.tok es.length e)) (w.setRow B row.toArray):=h.write hk K (.tok es.length e) (setRow_size _ _ _) (fun _ hb=>dW _ _ _ hb)
   (fun j v E=>by
    have hj:j < es.length * s.size:=by
     rcases Nat.lt_or_ge j (es.length * s.size) with q | q
     .exact q
     .rw [Y j q] at E;cases E
    have:=h.F B j v E;rw [cell_of q7] at this;rw [cell_of u,OA,cv j hj];exact this) ej
   (fun b' ek=>by
    obtain ⟨l,c,p1,p2⟩:=ek;have e1:=p1.symm.trans q1;simp only [N1,jo.tok.injEq] at e1;subst e1;have e2:=p2.symm.trans q2;simp only [N1,NU] at e2;exact e2.1)
   ⟨N,B,r,s,row.toArray,fz,q1,q2,q3,q4,q5,q6,u,by simpa [U] using q8,q9,Y⟩
  have b6:Kp A g w g (w.setRow B row.toArray):=Kp.write (h.own k _ B hk K X) (setRow_size _ _ _) (fun _ hb=>dW _ _ _ hb);have c7:(st.put k (.tok es.length e)).get k= .ok (.tok es.length e):=St.aP (St.cA.1 hk).1;have b7: ∀o,es.length * s.size<=o->o < es.length * s.size+news.length->g.F B o=none:=fun o ho _=>Y o ho;obtain ⟨Z,W⟩:=i1.Hs (hU:=fun c=>(i1.C c).2 k _ B c7 K) (n':=es.length+n) (loc':=fun m=>if m=es.length+n then some (B,r) else N m) B (es.length * s.size) news c7 q1
   (fun m y hy=>by
    by_cases V:m=es.length+n
    .have:=q3 m (by omega);rw [this] at hy;cases hy
    .rw [if_neg V];exact hy) X b7
   (fun j v E=>by rw [cell_of u,OA];exact cz j v E)
   (fun id o av c8 ha=>by
    rw [St.aQ (fun e=>c8 e.symm)] at av;exact c8 (h.D id k o _ B av hk ha K)) (h.own k _ B hk K X)
   (fun b c L=>by rw [if_pos rfl] at L;simp only [N1,NU] at L;exact L.1.symm)
   ⟨_,B,r,s,row.toArray,fz,Gh.aF _ _ _,by simp,fun m V=>by rw [if_neg (by omega)];exact q3 m (by omega),q4,q5,Q,u,by simpa [U] using q8,
    Oe q9 (Nat.mul_le_mul_right _ (by omega)),fun o de=>by
     show (g.bN B (es.length * s.size) news).F B o=none;rw [Nat.add_mul] at de;rw [Gh.bH _ _ _ _ (by omega)];exact Y o (by omega)⟩
  have dk:(st.put k (.tok es.length e)).put k (.tok (es.length+n) e)=st.put k (.tok (es.length+n) e):=by
   simp only [St.put,Tr.put,Tr.set_set]
  rw [dk] at Z;refine ⟨_,_,_,I, ?_,Z,b6.trans W⟩;have dx:Le g _:=W.le;simp only [R];refine ⟨O,B,0,r,by rw [J],by rw [J];exact Q,q5, ?_,rfl,_,Gh.aF _ _ _,by simp [hn]⟩;rw [jd];refine ⟨eG dx _ _ _ _ b9, ?_⟩;rw [da];refine ⟨hc,cF (cT dx _ _ hr) fun j v E=>⟨?_,ho v (Ob E)⟩⟩;rw [N5];exact Gh.gF g B (es.length * s.size) news j v E
 ·-- in a new array
  have a7: ∀w':World,(∀b o,w'.cell? ⟨b,o,none⟩=w.cell? ⟨b,o,none⟩)->(Builtin.firstCells s.size es.length (.slice (some ⟨B,0,none⟩) es.length r)).run P w'= .ok p.toArray w':=fun w' eo=>
   run_firstCells_some (P:=P) w' s.size es.length ⟨B,0,none⟩ es.length r p bb (fun j v E=>by
    rw [Addr.dt,eo];exact h.F _ _ _ (o2 j v E).1)
  have hs:Src P s.size (.slice (some ⟨B,0,none⟩) es.length r) es.length p w:=⟨by simp [Builtin.lenOf],a7 w fun _ _=>rfl,a7 w.drew fun _ _=>rfl,bb⟩;have hg:r < es.length+n:=by omega
  have ea:Builtin.nextslicecap (es.length+n) r * f.bytes<=281474976710656:=growslice_fits hg (by rw [f3];omega);have I:=iG (ty:=ty) he.t d1 d2 f1 f4 (by rw [f2];exact hs) (by rw [f2];exact hx) hg (by omega) ea;have b8:=grownCap_ge (w:=w) (n:=es.length+n) (c:=r) (e:=e);generalize grownCap w (es.length+n) r e=G at I b8;have hw:p.toArray++news.toArray++Builtin.zeroCells z.cells (G - (es.length+n))=(p++news++(Builtin.zeroCells z.cells (G - (es.length+n))).toList).toArray:=by
   apply Array.ext';simp
  rw [hw] at I;have ed:(Builtin.zeroCells z.cells (G - (es.length+n))).toList.length=(G - (es.length+n)) * s.size:=by rw [dK,f5]
  generalize (Builtin.zeroCells z.cells (G - (es.length+n))).toList=rest at I ed;have hd:=h.drew;have i1:Inv T A g st (w.drew.alloc (.cells (p++news++rest).toArray e)):=hd.alloc _;have b6:Kp A g w g (w.drew.alloc (.cells (p++news++rest).toArray e)):=(Kp.drew A g w).trans (Kp.alloc _ hd);have u:(w.drew.alloc (.cells (p++news++rest).toArray e)).heap[w.heap.size]? =some (.cells (p++news++rest).toArray e):=World.heap_alloc_new (w:=w.drew);have et:(p++news).length=(es.length+n) * s.size:=by simp [bb,b4,Nat.add_mul]
  obtain ⟨Z,W⟩:=i1.Hs (n':=es.length+n) (loc':=fun m=>if m=es.length+n then some (w.heap.size,G) else N m) w.heap.size 0 (p++news) hk q1
   (fun m y hy=>by
    by_cases V:m=es.length+n
    .have:=q3 m (by omega);rw [this] at hy;cases hy
    .rw [if_neg V];exact hy) X (fun o _ _=>h.fy (NX _) o)
   (fun j v E=>by
    have hj:j < (p++news).length:=by
     rcases Nat.lt_or_ge j (p++news).length with q | q
     .exact q
     .rw [Og q] at E;cases E
    rw [cell_of u,OA,N5,Oh hj];exact E)
   (fun id o av _=>h.eQ (NX _) id o av) (h.up _ (NX _))
   (fun b c L=>by rw [if_pos rfl] at L;simp only [N1,NU] at L;exact L.1.symm)
   ⟨_,w.heap.size,G,s,(p++news++rest).toArray,(0,0),Gh.aF _ _ _,by simp,fun m V=>by rw [if_neg (by omega)];exact q3 m (by omega),q4,q5,b8,u,by
     simp only [Pf];rw [N8,et,ed, <- Nat.add_mul];congr 1;omega,by simp,fun o de=>by
     show (g.bN w.heap.size 0 (p++news)).F w.heap.size o=none;rw [Gh.bH _ _ _ _ (by omega)];exact h.fy (NX _) o⟩
  refine ⟨_,_,_,I, ?_,Z,b6.trans W⟩;simp only [R];refine ⟨O,w.heap.size,0,G,by rw [J],by rw [J];exact b8,q5, ?_,rfl,_,Gh.aF _ _ _,by simp [hn]⟩;rw [da];refine ⟨b5, ?_⟩;rw [ei];exact cF (cT W.le _ _ (df o1 hr)) fun j v E=>⟨Gh.gF g w.heap.size 0 (p++news) j v E,by
   rcases N9.1 (Ob E) with V | V
   .obtain ⟨jj,ez⟩:=List.getElem?_of_mem V;exact (o2 jj v ez).2
   .exact ho v V⟩
end
section
variable {P:Program} {T:TT} {A:Nat->Prop} {g:Gh} {st:St} {w:World}
theorem vJ (s:List UInt8):flat (ofBytes s)=ofBytes s:=by
 unfold ofBytes
 induction s with
 | nil=>rfl
 | cons b s ih=>rw [Od,fk,ih];rfl
theorem Dy (s:List UInt8):RL g (ofBytes s) (s.map fun b=>Value.int .u8 b.toNat):=by
 unfold ofBytes
 induction s with
 | nil=>simp [RL]
 | cons b s ih=>exact bJ (by simp only [R]) ih
theorem qN {new:List AV} {z:Nat} (h:new.all (fun v=>v.cells.length.beq z)=true): ∀v∈new,v.cells.length=z:=by
 intro v a;exact NZ (Ox.1 h v a)
theorem mq {x:Value} {s:AV} {new c:List AV} {z:Nat} (q:R g s x) (k:kH s=some new) (hf:fits new= .ok c) (D: ∀v∈c,v.cells.length=z) (e:new≠[]) (h:Inv T A g st w):
  ∃news,Src P z x c.length news w/\RL g (flat c) news/\bx c=true/\(∀v∈news,v.oneCell'=true)/\c.length=new.length:=by
 cases s <;> simp only [kH,N1] at k <;> (try (cases k;done))
 ·-- a string
  rename_i s;subst k;simp only [R] at q;subst q;obtain ⟨t,u,i,n⟩:=jU (g:=g) hf (xs:=s.map fun b=>Value.int .u8 b.toNat) (by rw [vJ];exact Dy s);have hl:c.length=s.length:=by rw [i];simp [ofBytes]
  have y:z=1:=by
   cases c with
   | nil=>
    have:s=[]:=Oo (by simpa using hl.symm);subst this;exact absurd rfl e
   | cons v l=>
    have:=D v (by simp);cases s with
    | nil=>simp [ofBytes] at e
    | cons b s=>
     simp only [ofBytes,Od,OT] at n;have:v.cells.length=1:=n.1;omega
  subst y;have d: ∀w',(Builtin.firstCells 1 c.length (.string ⟨s.toArray⟩)).run P w'= .ok (s.map fun b=>Value.int .u8 b.toNat).toArray w':=fun w'=>by
   simp only [Builtin.firstCells,Sem.run_pure,hl];congr 1;apply Array.ext';simp [ByteArray.data_extract]
  refine ⟨_,⟨by simp [Builtin.lenOf,jS,hl],d w,d w.drew,by simp [hl]⟩,t,u,fun v m=> ?_,i⟩;simp only [OQ] at m;obtain ⟨b,_,rfl⟩:=m;rfl
 .subst k;exact absurd rfl e
 .rename_i z' es p;subst k;simp only [R] at q;obtain ⟨J,b,o,cap,rfl,hcap,H,r,K⟩:=q;rw [da] at r;obtain ⟨xs,E,G⟩:=fZ r.2;obtain ⟨t,u,i,n⟩:=jU hf E;have y:z'=z:=by
   cases f:es with
   | nil=>exact absurd f e
   | cons v l=>
    cases B:c with
    | nil=>rw [B,f] at i;simp at i
    | cons v' L=>
     rw [B,f] at n;simp only [Od,OT] at n;have h1:=D v' (by rw [B];simp);have M:=r.1 v (by rw [f];simp);omega
  subst y;have hl:xs.length=c.length * z':=by rw [cD E,cM r.1,i]
  have d: ∀w':World,(∀b o,w'.cell? ⟨b,o,none⟩=w.cell? ⟨b,o,none⟩)->(Builtin.firstCells z' c.length (.slice (some ⟨b,o,none⟩) es.length cap)).run P w'= .ok xs.toArray w':=fun w' C=>
   run_firstCells_some (P:=P) w' z' c.length ⟨b,o,none⟩ es.length cap xs hl (fun j v m=>by
    rw [Addr.dt,C];exact h.F _ _ _ (G j v m).1)
  exact ⟨xs,⟨by simp [Builtin.lenOf,i],d w fun _ _=>rfl,d w.drew fun _ _=>rfl,hl⟩,t,u,fun v m=>by
   obtain ⟨j,I⟩:=List.getElem?_of_mem m;exact (G j v I).2,i⟩
 .subst k;exact absurd rfl e
theorem oy {C:cp} {t xt ty e:TypeId} {i:TI} (L:oX P T t xt e i) {s x r:AV} {sv xv:Value} {new:List AV} {p:cV} {fx:Fx} (I:kH x=some new)
  (q:fG i e s new= .ok p) (c:az C st p= .ok (r,fx)) (hs:R g s sv) (O:R g x xv) (h:Inv T A g st w):
  aS P T A g w r (fx.did.app st) (Builtin.append_ #[t,xt] ty #[sv,xv]):=by
 obtain ⟨f,z,f1,f2,f3,f4,f5⟩:=L.info;obtain ⟨d,d1,d2⟩:=L.xt;unfold fG at q;split at q
 ·-- nothing is Q
  have u:(Builtin.lenOf xv).run P w= .ok 0 w/\(Builtin.firstCells f.size 0 xv).run P w= .ok #[] w:=by
   cases x <;> simp only [kH,N1] at I <;> (try (cases I;done)) <;> simp only [R] at O
   .rename_i s;have:s=[]:=by simpa [ofBytes] using I
    subst this;subst O;have h0:(⟨[].toArray⟩:ByteArray)=ByteArray.empty:=rfl;rw [h0];exact ⟨by simp [Builtin.lenOf],by simp [Builtin.firstCells]⟩
   .subst O;exact ⟨by simp [Builtin.lenOf],by simp [Builtin.firstCells]⟩
   .subst I;obtain ⟨_,b,o,cap,rfl,_⟩:=O;exact ⟨by simp [Builtin.lenOf],by simp [Builtin.firstCells,loadCells,loadCellsFrom]⟩
   .obtain ⟨a,rfl⟩:=O;exact ⟨by simp [Builtin.lenOf],by simp [Builtin.firstCells,loadCells,loadCellsFrom]⟩
  split at q
  .simp only [aj] at q;subst q;simp only [az,NT,NU] at c;obtain ⟨rfl,rfl⟩:=c;simp only [R] at hs;subst hs;refine aS.of h (x:= .slice none 0 0) ?_ (by simp only [R]);simp [Builtin.append_,eC L.t,eC d1,sizeOf,typeInfo,f1,u.1,u.2]
  .simp only [aj] at q;subst q;simp only [az,NT,NU] at c;obtain ⟨rfl,rfl⟩:=c;have y:=hs;simp only [R] at y;obtain ⟨_,b,o,cap,rfl,hcap,_⟩:=y;refine aS.of h ?_ hs;simp [Builtin.append_,eC L.t,eC d1,sizeOf,typeInfo,f1,u.1,u.2,hcap,storeCells]
  .simp only [aj] at q;subst q;simp only [az,NT,NU] at c;obtain ⟨rfl,rfl⟩:=c;have y:=hs;simp only [R] at y;obtain ⟨a,rfl⟩:=y;refine aS.of h ?_ hs;simp [Builtin.append_,eC L.t,eC d1,sizeOf,typeInfo,f1,u.1,u.2,storeCells]
  .cases q
 .rename_i v l;simp only [ad] at q;obtain ⟨D,hf,q⟩:=q;split at q
  .cases q
  .rename_i U;have V:=qN U;obtain ⟨news,s1,s2,s3,s4,s5⟩:=mq (P:=P) O I hf V (by simp) h;have W:0 < D.length:=by rw [s5];simp
   split at q
   ·-- to nil
    split at q
    .rename_i m;simp only [aj] at q;subst q;simp only [az,NT,NU] at c;obtain ⟨rfl,rfl⟩:=c;simp only [R] at hs;subst hs;have J:Src P i.size (.slice none 0 0) 0 [] w:=⟨by simp [Builtin.lenOf],by simp [Builtin.firstCells],by simp [Builtin.firstCells],by simp⟩;have:=nq (ty:=ty) L J s1 (by omega) (by rw [N5];exact m) h (els:=D) (by omega) V s3 (by simpa using s2) (by simpa using s4);rw [N5] at this;exact this
    .cases q
   .rename_i z' es p';split at q
    .cases q
    .rename_i m;simp only [N0] at m;obtain ⟨m,M⟩:=m;have M:=NZ M;subst M;have y:=hs;simp only [R] at y;obtain ⟨X,b,o,cap,rfl,hcap,a7,Y,K⟩:=y;split at q
     .simp only [aj] at q;subst q;simp only [az,NT,NU] at c;obtain ⟨rfl,rfl⟩:=c;have N:cap=es.length:=K;subst N;have E:=Y;rw [da] at E;obtain ⟨xs,x1,x2⟩:=fZ E.2;have hl:xs.length=es.length * i.size:=by rw [cD x1,cM E.1]
      have G: ∀w':World,(∀b o,w'.cell? ⟨b,o,none⟩=w.cell? ⟨b,o,none⟩)->(Builtin.firstCells i.size es.length (.slice (some ⟨b,o,none⟩) es.length es.length)).run P w'= .ok xs.toArray w':=fun w' a1=>
       run_firstCells_some (P:=P) w' i.size es.length ⟨b,o,none⟩ es.length es.length xs hl (fun j v H=>by
        rw [Addr.dt,a1];exact h.F _ _ _ (x2 j v H).1)
      have u:Src P i.size (.slice (some ⟨b,o,none⟩) es.length es.length) es.length xs w:=⟨by simp [Builtin.lenOf],G w fun _ _=>rfl,G w.drew fun _ _=>rfl,hl⟩;exact nq (ty:=ty) L u s1 (by omega) m h (els:=es++D) (by simp) (fun v H=>by
       rcases N9.1 H with H | H
       .exact E.1 v H
       .exact V v H) (by rw [eu,X,s3];rfl) (by rw [jv];exact df x1 s2) (fun v H=>by
       rcases N9.1 H with H | H
       .obtain ⟨j,hj⟩:=List.getElem?_of_mem H;exact (x2 j v hj).2
       .exact s4 v H)
     .rename_i k;simp only [aj] at q;subst q;simp only [az,ad,aj] at c;obtain ⟨ob,h1,⟨v',o'⟩,S,dd,Z,h6⟩:=c;split at S
      .rename_i n e';split at S
       .rename_i B;simp only [N0] at B;have hn:=NZ B.1;have a6:=NZ B.2;subst hn a6;simp only [aj,NU] at S;obtain ⟨rfl,rfl⟩:=S;simp only [dv] at Z;split at Z
        .cases Z
        .rename_i av;rw [cB] at av;simp only [NT] at Z;subst Z;simp only [NU] at h6;obtain ⟨rfl,rfl⟩:=h6;exact zR L h1 av X Y hcap K s1 rfl W V s3 s2 s4 m h
       .cases S
      .cases S
     .cases q
   .split at q
    .rename_i m;simp only [aj] at q;subst q;simp only [az,NT,NU] at c;obtain ⟨rfl,rfl⟩:=c;simp only [R] at hs;obtain ⟨a,rfl⟩:=hs;have J:Src P i.size (.slice (some a) 0 0) 0 [] w:=⟨by simp [Builtin.lenOf],by simp [Builtin.firstCells,loadCells,loadCellsFrom],by simp [Builtin.firstCells,loadCells,loadCellsFrom],by simp⟩;have:=nq (ty:=ty) L J s1 (by omega) (by rw [N5];exact m) h (els:=D) (by omega) V s3 (by simpa using s2) (by simpa using s4);rw [N5] at this;exact this
    .cases q
   .cases q
end
end Go.VM
