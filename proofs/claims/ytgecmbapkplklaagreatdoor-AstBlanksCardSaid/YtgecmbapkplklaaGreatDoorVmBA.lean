/-
  (A part of the proof: Prims.)
-/
import Derived.Test.YtgecmbapkplklaaGreatDoorVmAA
import Derived.Test.YtgecmbapkplklaaGreatDoorVmAJ
import Derived.Lib.Bytealg
set_option linter.unusedSimpArgs false
namespace Go.VM
section
variable {P:Program} {T:TT} {G:Nat->Option (List AV)} {A:Nat->Prop} {g:Gh} {st:St} {w:World}
def fH (P:Program) (T:TT) (G:Nat->Option (List AV)) (f:FuncId) (q:Prim):Prop:=
 ∀C args p v a st A g w xs,GR g G->fO q args= .ok p->aC C st p= .ok (v,a)->RL g args xs->Inv T A g st w->uA P f xs.toArray w (la T A g (a.did.app st) w v)
theorem Ju {prim:FuncId->Option Prim} (h: ∀f q,prim f=some q->fH P T G f q):CJ P T G prim:=h
theorem la.same (h:Inv T A g st w) {v:AV} {x:Value} (hr:R g v x):la T A g st w v x w:=⟨g,hr,h,Kp.refl _ _ _⟩
theorem wg (c:Nat): ∀s:List UInt8,(match dI (c % 256) s with | some i=>(i:Int) | none=> -1)=Lib.indexByte s (UInt8.ofNat c)
 | []=>rfl
 | b::l=>by
  have ih:=wg c l;unfold dI Lib.indexByte;have hb:(b==UInt8.ofNat c)=b.toNat.beq (c % 256):=by
   rw [Bool.eq_iff_iff];simp only [XA,Nat.beq_eq];constructor
   .intro h;rw [h];simp
   .intro h;apply Yr.1;rw [h];simp
  rw [hb];cases b.toNat.beq (c % 256) with
  | true=>rfl
  | false=>
   dsimp only;rw [if_neg (by simp)];cases hf:dI (c % 256) l with
   | none=>
    rw [hf] at ih;dsimp only at ih ⊢;rw [<- ih];rfl
   | some i=>
    have a:(i:Int)=Lib.indexByte l (UInt8.ofNat c):=by rw [hf] at ih;exact ih
    have hi:¬ ((Lib.indexByte l (UInt8.ofNat c)== -1)=true):=by
     rw [<- a];intro e;have:=eq_of_beq e;omega
    rw [if_neg hi, <- a];show ((i+1:Nat):Int)= _;omega
theorem wD {args:List AV} {p:dG} (h:fO .indexByte args= .ok p):
  ∃s c,args=[.str s,.int .u8 c]/\p= .val (.int .i64 (match dI (c.toNat % 256) s with | some i=>(i:Int) | none=> -1)):=by
 unfold fO at h;split at h <;> first | (simp only [WT] at h;subst h;exact ⟨_,_,rfl,rfl⟩) | simp_all
theorem VH {a b:AV} {xs:List Value} (h:RL g [a,b] xs): ∃x y,xs=[x,y]/\R g a x/\R g b y:=by
 simp only [RL] at h;obtain ⟨x,ys,rfl,h1,y,zs,rfl,h2,rfl⟩:=h;exact ⟨x,y,rfl,h1,h2⟩
theorem Ti {a:AV} {xs:List Value} (h:RL g [a] xs): ∃x,xs=[x]/\R g a x:=by
 simp only [RL] at h;obtain ⟨x,ys,rfl,h1,rfl⟩:=h;exact ⟨x,rfl,h1⟩
theorem xH {f:FuncId} (hrun: ∀(s:ByteArray) (c:Int) (w:World),(callFunc f #[.string s,.int .u8 c]).run P w= .ok (.value (.int .i64 (Lib.indexByte s.data.toList c.toNat.toUInt8))) w):fH P T G f .indexByte:=by
 intro C args p v a st A g w xs _ hp hr hx h;obtain ⟨s,c,rfl,rfl⟩:=wD hp;obtain ⟨rfl,rfl⟩:=qK hr;obtain ⟨x,y,rfl,h1,h2⟩:=VH hx;simp only [R] at h1 h2;subst h1 h2;refine .inl ⟨_,_,hrun _ c w,la.same h ?_⟩;simp only [R];rw [wg]
theorem MD {l:List (TypeId×Nat×Nat)} {t:TypeId} {n off:Nat} (h:D6 l t n off=true):(t,n,off)∈l/\t < 1000000:=by
 induction l with
 | nil=>simp [D6] at h
 | cons x l ih=>
  obtain ⟨a,b,c⟩:=x;simp only [D6,XL,WY,Nat.beq_eq] at h;rcases h with ⟨⟨⟨rfl,rfl⟩,rfl⟩,h⟩ | h
  .exact ⟨WS,dD.1 h⟩
  .exact ⟨WZ _ (ih h).1,(ih h).2⟩
theorem vl: ∀{l:List AV} {n:Nat} {v:AV},eZ l n= .ok v->l[n]? =some v
 | [],n,v,h=>by cases n <;> simp [eZ] at h
 | a::l,0,v,h=>by simpa [eZ] using h
 | a::l,n+1,v,h=>by
  simp only [eZ] at h;simpa using vl h
theorem JS {l:List AV} {xs:List Value} (h:RL g l xs) {n:Nat} {v:AV} (hv:l[n]? =some v): ∃x,xs[n]? =some x/\R g v x:=by
 induction l generalizing n xs with
 | nil=>simp at hv
 | cons a l ih=>
  simp only [RL] at h;obtain ⟨x,ys,rfl,h1,h2⟩:=h;cases n with
  | zero=>simp at hv;subst hv;exact ⟨x,rfl,h1⟩
  | succ n=>simpa using ih h2 (by simpa using hv)
structure Rz (P:Program) (f:FuncId) (l:List (TypeId×Nat×Nat)):Prop where
 enter: ∀args w,(callFunc f args).run P w= .ok (.enter f args) w
 used: ∀(b o:Nat) (w:World),w.cell? ⟨b,o,none⟩=some (.pointer (some ⟨b,o,none⟩))->
  Calls P f #[.pointer (some ⟨b,o,none⟩)] w fun e w'=>e= .returned (.tuple #[])/\w'=w
 fresh: ∀(b o:Nat) (w:World) (e:TypeId) (n:Nat),w.cell? ⟨b,o,none⟩=some (.pointer none)->w.shape? b=some (e,n)->o < n->w.frozen? ⟨b,o,none⟩=false->(e,n,o)∈l->
  Calls P f #[.pointer (some ⟨b,o,none⟩)] w fun e w'=>e= .returned (.tuple #[])/\w'=w.setCell ⟨b,o,none⟩ (.pointer (some ⟨b,o,none⟩))
theorem wE {l:List (TypeId×Nat×Nat)} {args:List AV} {p:dG} (h:fO (.copyCheck l) args= .ok p): ∃id off,args=[.mp id off]/\p= .obj id (fun o=>do
   let (t,cs) <- mI o
   match (D6 l t cs.length off) with
   | false=> .error "copyCheck: where?"
   | true=>do
    match <- eZ cs off with
    | .nilp=>pure (.tup [],some (.cells t (cJ cs off [.mp id off])))
    | .mp id' a=>match id'.beq id&&a.beq off with
     | true=>pure (.tup [],none)
     | false=> .error "copyCheck"
    | _=> .error "copyCheck"):=by
 unfold fO at h;split at h <;> first | (rename_i e;cases e;simp only [WT] at h;subst h;exact ⟨_,_,rfl,rfl⟩) | simp_all
theorem xu {f:FuncId} {l:List (TypeId×Nat×Nat)} (z:Rz P f l):fH P T G f (.copyCheck l):=by
 intro C args p v Q st A g w xs _ hp hr hx h;obtain ⟨id,off,rfl,rfl⟩:=wE hp;obtain ⟨x,rfl,h1⟩:=Ti hx;simp only [R] at h1;obtain ⟨b,hE,rfl⟩:=h1;simp only [aC,ag,au] at hr;obtain ⟨o,H,⟨v',o'⟩,⟨⟨t,cs⟩,r2,k⟩,d,i,I⟩:=hr;rw [xK] at r2;subst r2;simp only [WV] at I;obtain ⟨rfl,rfl⟩:=I;obtain ⟨b',vs,rest,B,k1,k2,D,J,N,k6⟩:=h.cells H;have hb:b'=b:=by have:=k1.symm.trans hE;simpa using this
 subst hb;dsimp only at k;split at k
 .cases k
 .rename_i hl;obtain ⟨hl,E⟩:=MD hl;obtain ⟨rfl,ht⟩:=k6 E;subst ht;simp only [Array.append_empty] at k2;simp only [ag] at k;obtain ⟨u,O,c⟩:=k;have hu:=vl O;obtain ⟨y,hy,a⟩:=JS D hu;have j:vs[off]? =some y:=by simpa using hy
  have hlen:=dB D;simp only [XX] at hlen;split at c
  .simp only [au,WV] at c;obtain ⟨rfl,rfl⟩:=c;simp only [eG] at i;split at i
   .cases i
   .rename_i m;rw [cW] at m;simp only [WT] at i;subst i;simp only [R] at a;subst a;have n:off < vs.size:=by
     rcases Nat.lt_or_ge off vs.size with q | q
     .exact q
     .simp [Array.getElem?_eq_none q] at j
    have r:RL g [.mp id off] [Value.pointer (some ⟨b',off,none⟩)]:=cH (by simp only [R];exact ⟨b',hE,rfl⟩) fQ;obtain ⟨K,L⟩:=h.rewrite (rest:= #[]) H k1 (by simpa using k2) N (fun _=>⟨rfl,rfl⟩) m (cs':=cJ cs off [.mp id off]) (vs':=vs.toList.take off++[Value.pointer (some ⟨b',off,none⟩)]++vs.toList.drop (off+1))
     (by simpa using uP off D r) (fun u hu=>by
      simp only [Xj,Yj] at hu;rcases hu with (hu | rfl) | hu
      .exact J u (List.mem_of_mem_take hu)
      .rfl
      .exact J u (List.mem_of_mem_drop hu))
    simp only [Array.append_empty] at K L;have s:w.setCell ⟨b',off,none⟩ (.pointer (some ⟨b',off,none⟩))=w.setRow b' (vs.toList.take off++[Value.pointer (some ⟨b',off,none⟩)]++vs.toList.drop (off+1)).toArray:=by
     rw [setCell_eq_setRow w b' off vs _ (0,0) _ k2];congr 1;apply Array.ext';rw [Array.toList_setIfInBounds,List.set_eq_take_append_cons_drop,if_pos (by simpa using n)];simp
    refine .inr ⟨z.enter _ _,(z.fresh b' off w B vs.size (by rw [cell_of k2];exact j) (by simp [World.shape?,k2]) n (by simp [World.frozen?,k2]) (by rw [hlen];exact hl)).mono ?_⟩;rintro e w' ⟨rfl,rfl⟩;rw [s];exact ⟨_,rfl,g,by simp [R,RL],K,L⟩
  .rename_i id' M;split at c
   .rename_i hs;simp only [WY,Nat.beq_eq] at hs;obtain ⟨rfl,rfl⟩:=hs;simp only [au,WV] at c;obtain ⟨rfl,rfl⟩:=c;simp only [eG,WT] at i;subst i;simp only [R] at a;obtain ⟨b2,F,rfl⟩:=a;have:b2=b':=by have:=F.symm.trans hE;simpa using this
    subst this;refine .inr ⟨z.enter _ _,(z.used b2 _ w (by rw [cell_of k2];exact j)).mono ?_⟩;rintro e w' ⟨rfl,rfl⟩;exact ⟨_,rfl,la.same h (by simp [R,RL])⟩
   .cases c
  .cases c
theorem Inv.get_congr (h:Inv T A g st w) {st':St} (hg: ∀i,st'.get i=st.get i) (a:st'.h=st.h) (hr:st'.ro=st.ro):Inv T A g st' w where
 F:=h.F
 M:=h.M
 E id hid:=h.E id (by omega)
 H id o ho:=h.H id o (by rw [<- hg];exact ho)
 D id id' o o' b h1 h2:=h.D id id' o o' b (by rw [<- hg];exact h1) (by rw [<- hg];exact h2)
 own id o b h1 h2 h3:=h.own id o b (by rw [<- hg];exact h1) h2 (by omega)
 up:=h.up
structure K5 (P:Program) (T:TT) (f:FuncId) (u8:TypeId):Prop where
 enter: ∀args w,(callFunc f args).run P w= .ok (.enter f args) w
 size: ∀i,T.get u8=some i->i.size=1
 nothing: ∀(b o:Nat) (w:World),w.cell? ⟨b,o+1,none⟩=some (.slice none 0 0)->
  Calls P f #[.pointer (some ⟨b,o,none⟩)] w fun e w'=>e= .returned (.string .empty)/\w'=w.drew
 bytes: ∀(b o g n cap:Nat) (w:World) (l:List UInt8),l≠[]->l.length=n->w.cell? ⟨b,o+1,none⟩=some (.slice (some ⟨g,0,none⟩) n cap)->n<=cap->n < 4611686018427387904->
  ∀size,n<=size->w.shape? g=some (u8,size)->(∀j x,l[j]? =some x->w.cell? ⟨g,j,none⟩=some (.int .u8 x.toNat))->
  Calls P f #[.pointer (some ⟨b,o,none⟩)] w fun e w'=>e= .returned (.string ⟨l.toArray⟩)/\w'=w.drew.freeze ⟨g,0,none⟩ n
theorem nV: ∀{es:List AV} {bs:List UInt8} {xs:List Value},fa es= .ok bs->RL g es xs->xs=bs.map fun (x:UInt8)=>Value.int .u8 (x.toNat:Int)
 | [],_,_,h,hr=>by
  simp only [fa,WT] at h;subst h;simp only [RL] at hr;subst hr;rfl
 | e::es,bs,xs,h,hr=>by
  simp only [RL] at hr;obtain ⟨x,xs,rfl,h1,h2⟩:=hr;unfold fa at h;split at h
  .rename_i heq;cases heq
  .rename_i n l heq;cases heq;split at h
   .rename_i k;split at h
    .rename_i hk;rw [dD] at hk;simp only [ag,au] at h;obtain ⟨a,h3,rfl⟩:=h;rw [nV h3 h2];simp only [R] at h1;subst h1;simp only [W8,XV,Value.int.injEq,Yo,Ys];have:(UInt8.ofNat k).toNat=k:=by simp;omega
     rw [this];rfl
    .cases h
   .cases h
  .cases h
theorem nJ: ∀{es:List AV} {bs:List UInt8},fa es= .ok bs->flat es=es
 | [],_,_=>rfl
 | e::es,bs,h=>by
  unfold fa at h;split at h
  .rename_i heq;cases heq
  .rename_i n l heq;cases heq;split at h
   .split at h
    .simp only [ag,au] at h;obtain ⟨a,h3,rfl⟩:=h;rw [gL,nJ h3];rfl
    .cases h
   .cases h
  .cases h
theorem Cv {u8:TypeId} {args:List AV} {p:dG} (h:fO (.builderString u8) args= .ok p): ∃id off,args=[.mp id off]/\p= .both id
   (fun o=>do
    match <- eZ (<- cellsOf o) (off+1) with
    | .ay=>pure none
    | .sl 1 _ (.own k)=>pure (some k)
    | _=> .error "Builder.String")
   (fun o o'=>do
    match <- eZ (<- cellsOf o) (off+1),o' with
    | .ay,_=>pure (.str [])
    | .sl 1 e (.own _),some (.tok n ty)=>match ty.beq u8&&n.beq e.length&& !e.isEmpty&&n.blt 4611686018427387904 with
     | true=>do pure (.str (<- fa e))
     | false=> .error "Builder.String: bytes"
    | _,_=> .error "Builder.String"):=by
 unfold fO at h;split at h <;> first | (rename_i e;cases e;simp only [WT] at h;subst h;exact ⟨_,_,rfl,rfl⟩) | simp_all
theorem Inv.freeze (h:Inv T A g st w) {k n u:Nat} (hk:st.get k= .ok (.tok n u)) (r:st.ro<=k) (hu: ∀i,T.get u=some i->i.size=1) {loc:Nat->Option (Nat×Nat)} {b cap:Nat}
  (hE:g.E k=some (.tok loc)) (hl:loc n=some (b,cap)):Inv T A g st (w.freeze ⟨b,0,none⟩ n)/\Kp A g w g (w.freeze ⟨b,0,none⟩ n):=by
 by_cases hn:n=0
 .subst hn;exact ⟨h,Kp.refl _ _ _⟩
 obtain ⟨loc',b',d,i,vs,fz,q1,q2,q3,s,z,B,q,t,C,f⟩:=h.H k _ hk;have l:=q1.symm.trans hE;simp only [W7,nt.tok.injEq] at l;subst l;have m:=q2.symm.trans hl;simp only [W7,WV] at m;obtain ⟨rfl,rfl⟩:=m;have a:=hu i s;rw [a] at t C f;have D:=lt_of_heap q;have heap:(w.freeze ⟨b',0,none⟩ n).heap[b']? =some (.cells vs u (if fz.1==fz.2 then (0,0+n) else (min fz.1 0,max fz.2 (0+n)))):=by
  unfold World.freeze;rw [if_neg hn];simp only [Array.getElem?_modify,if_pos,q,Option.map_some]
 have other: ∀c,c≠b'->(w.freeze ⟨b',0,none⟩ n).heap[c]? =w.heap[c]? :=fun c hc=>by
  unfold World.freeze;rw [if_neg hn];simp only [Array.getElem?_modify];rw [if_neg (fun e=>hc e.symm)]
 have size:(w.freeze ⟨b',0,none⟩ n).heap.size=w.heap.size:=by
  unfold World.freeze;rw [if_neg hn];simp
 have o:At g k (.tok n u) b':=⟨_,_,hE,hl⟩;have hw:=h.write hk o (.tok n u) (w':=w.freeze ⟨b',0,none⟩ n) size other (fun j v hv=>by
   have:=h.F b' j v hv;rw [cell_of q] at this;rw [cell_of heap];exact this)
  (by
   cases hm:g.M b' with
   | none=>rfl
   | some e=>
    have:=h.M b' e.1 e.2 hm;rw [q] at this;cases this)
  (fun c hc=>by
   obtain ⟨x,y,G,z2⟩:=hc;have l:=G.symm.trans hE;simp only [W7,nt.tok.injEq] at l;subst l;have m:=z2.symm.trans hl;simp only [W7,WV] at m;exact m.1)
  ⟨_,b',d,i,vs,_,hE,hl,q3,s,z,B,heap,by rw [a];exact t,by
   rw [a];split
   .simp
   .simp only [Xd];omega,by rw [a];exact f⟩
 have p:=(St.ch.1 hk).1;refine ⟨hw.get_congr (fun j=> ?_) rfl rfl,Kp.write (h.own k _ b' hk o r) size other ?_⟩
 .by_cases hj:k=j
  .subst hj;rw [St.aQ p,hk]
  .rw [St.aY hj]
 .unfold World.freeze;rw [if_neg hn];exact ⟨rfl,rfl,rfl⟩
theorem sK {f:FuncId} {u8:TypeId} (D:K5 P T f u8):fH P T G f (.builderString u8):=by
 intro C args p v fx st A g w xs _ hp hr hx h;obtain ⟨id,off,rfl,rfl⟩:=Cv hp;obtain ⟨x,rfl,h1⟩:=Ti hx;simp only [R] at h1;obtain ⟨b,hE,rfl⟩:=h1;simp only [aC,ag] at hr;obtain ⟨o,Y,r,⟨cs,r2,u,S,E⟩,q⟩:=hr;rw [oH] at r2;obtain ⟨t,rfl⟩:=r2;obtain ⟨b',vs,rest,Z,k1,k2,k3,k4,k5,k6⟩:=h.cells Y;have hb:b'=b:=by have:=k1.symm.trans hE;simpa using this
 subst hb;have hu:=vl S;obtain ⟨y,hy,c⟩:=JS k3 hu;have U:vs[off+1]? =some y:=by simpa using hy
 have hc:w.cell? ⟨b',off+1,none⟩=some y:=kB k2 U;split at E
 .simp only [au] at E;subst E;simp only [ag,au,cellsOf,WV] at q;obtain ⟨s,⟨cs',l,u',a,d⟩,rfl,rfl⟩:=q;simp only [WT] at l;subst l;rw [S] at a;simp only [WT] at a;subst a;simp only [au] at d;subst d;simp only [R] at c;subst c;refine .inr ⟨D.enter _ _,(D.nothing b' off w hc).mono ?_⟩;rintro e w' ⟨rfl,rfl⟩;exact ⟨_,rfl,g,by simp only [R];rfl,h.drew,Kp.drew _ _ _⟩
 .rename_i e k;simp only [au] at E;subst E;dsimp only at q;split at q
  .rename_i z;have z:=WU z;simp only [ag,au,WV] at q;obtain ⟨o',W,s,⟨cs',l,u',a,d⟩,rfl,rfl⟩:=q;simp only [cellsOf,WT] at l;subst l;rw [S] at a;simp only [WT] at a;subst a;split at d
   .rename_i heq;cases heq
   .rename_i es k' n ty I J;cases I;cases J;split at d
    .rename_i K;simp only [WY,Nat.beq_eq,Bool.not_eq_true',List.isEmpty_eq_false_iff] at K;obtain ⟨⟨⟨rfl,rfl⟩,hne⟩,L⟩:=K;rw [dD] at L;simp only [ag,au] at d;obtain ⟨bs,X,rfl⟩:=d;simp only [R] at c;obtain ⟨_,b2,o2,cap,rfl,M,_,B,rfl,loc,N,m⟩:=c;obtain ⟨loc',b3,O,i,ws,fz,q1,q2,q3,q4,q5,q6,q7,q8,q9,ar⟩:=h.H k _ W;have l:=q1.symm.trans N;simp only [W7,nt.tok.injEq] at l;subst l;have a:=q2.symm.trans m;simp only [W7,WV] at a;obtain ⟨rfl,rfl⟩:=a;have V:=D.size i q4;rw [dL] at B;rw [nJ X] at B;obtain ⟨xs,m1,m2⟩:=iF B.2;have Q:=nV X m1;have hlen:bs.length=e.length:=by have:=dB m1;rw [Q] at this;simpa using this
     refine .inr ⟨D.enter _ _,(D.bytes b' off b3 e.length O w bs (fun hh=> ?_) hlen hc M L ws.size (by rw [q8,V];omega) (by simp [World.shape?,q7]) fun j x hj=> ?_).mono ?_⟩
     .subst hh;simp at hlen;exact hne (List.length_eq_zero_iff.1 hlen.symm)
     .have:xs[j]? =some (Value.int .u8 x.toNat):=by rw [Q];simp [hj]
      have:=(m2 j _ this).1;rw [Xd] at this;exact h.F _ _ _ this
     .rintro e' w' ⟨rfl,rfl⟩;obtain ⟨f1,f2⟩:=(h.drew).freeze W z D.size N m;exact ⟨_,rfl,g,by simp only [R],f1,(Kp.drew _ _ _).trans f2⟩
    .cases d
   .cases d
  .cases q
 .cases E
theorem M3 {l:List (TypeId×Nat×Nat)} {a e n o:Nat} (h:(l.all fun x=>liesAt P P.depth x.1 (x.2.1 / P.cellsOf x.1) x.2.2 a 1)=true) (hm:(e,n,o)∈l):liesAt P P.depth e (n / P.cellsOf e) o a 1=true:=
 XH.1 h _ hm
theorem N2 {u:TypeId} (h:(T.get u).all (fun i=>i.size.beq 1)=true): ∀i,T.get u=some i->i.size=1:=fun i hi=>by
 rw [hi] at h;exact W2 h
end
end Go.VM
