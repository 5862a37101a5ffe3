/-
  A part of the proof.
-/
import Derived.Test.YtkbkbndajpbcjaaGreatDoorVmAJ
import Derived.Lib.Bytealg
set_option linter.all false
namespace Go.VM
section
variable {P:Program} {T:TT} {G:Nat->Oq LA} {A:Nat->Prop} {g:Gh} {st:St} {w:World}
def dR (P:Program) (T:TT) (G:Nat->Oq LA) (f:FuncId) (q:Prim):Prop:=
 ∀C args p v a st A g w xs,GR g G->dK q args= .ok p->aE C st p= .ok (v,a)->RL g args xs->Inv T A g st w->xH P f xs.toArray w (mP T A g (a.did.app st) w v)
theorem Ld {prim:FuncId->Oq Prim} (h: ∀f q,prim f=some q->dR P T G f q):ER P T G prim:=h
theorem mP.same (h:Inv T A g st w) {v:AV} {x:Value} (a:R g v x):mP T A g st w v x w:=⟨g,a,h,Kp.refl _ _ _⟩
theorem yB (c:Nat): ∀s:LB,(match ew (c % 256) s with | some i=>(i:Int) | none=> -1)=Lib.indexByte s (UInt8.ofNat c)
 | []=>rfl
 | b::l=>by
  have ih:=yB c l;unfold ew Lib.indexByte;have d:(b==UInt8.ofNat c)=b.toNat.beq (c % 256):=by
   rw [Bool.eq_iff_iff];simp only [aaX,Nat.beq_eq];constructor
   .intro h;rw [h];simp
   .intro h;apply abt.1;rw [h];simp
  rw [d];cases b.toNat.beq (c % 256) with
  | true=>rfl
  | false=>
   dsimp only;rw [if_neg (by simp)];cases hf:ew (c % 256) l with
   | none=>
    rw [hf] at ih;dsimp only at ih ⊢;rw [<- ih];rfl
   | some i=>
    have a:(i:Int)=Lib.indexByte l (UInt8.ofNat c):=by rw [hf] at ih;exact ih
    have hi:¬ ((Lib.indexByte l (UInt8.ofNat c)== -1)=true):=by
     rw [<- a];intro e;have:=eq_of_beq e;omega
    rw [if_neg hi, <- a];show ((i+1:Nat):Int)= _;omega
theorem ze {args:LA} {p:dY} (h:dK .indexByte args= .ok p):
  ∃s c,args=[.str s,.int .u8 c]/\p= .val (.int .i64 (match ew (c.toNat % 256) s with | some i=>(i:Int) | none=> -1)):=by
 unfold dK at h;split at h <;> first | (simp only [aaf] at h;subst h;exact ⟨_,_,rfl,rfl⟩) | simp_all
theorem Yv {a b:AV} {xs:List Value} (h:RL g [a,b] xs): ∃x y,xs=[x,y]/\R g a x/\R g b y:=by
 simp only [RL] at h;obtain ⟨x,ys,rfl,h1,y,zs,rfl,c,rfl⟩:=h;exact ⟨x,y,rfl,h1,c⟩
theorem WI {a:AV} {xs:List Value} (h:RL g [a] xs): ∃x,xs=[x]/\R g a x:=by
 simp only [RL] at h;obtain ⟨x,ys,rfl,h1,rfl⟩:=h;exact ⟨x,rfl,h1⟩
theorem BS {f:FuncId} (hrun: ∀(s:ByteArray) (c:Int) (w:World),(callFunc f #[.string s,.int .u8 c]).run P w= .ok (.value (.int .i64 (Lib.indexByte s.data.toList c.toNat.toUInt8))) w):dR P T G f .indexByte:=by
 intro C args p v d st A g w xs _ hp b hx h;obtain ⟨s,c,rfl,rfl⟩:=ze hp;obtain ⟨rfl,rfl⟩:=tV b;obtain ⟨x,y,rfl,h1,a⟩:=Yv hx;simp only [R] at h1 a;subst h1 a;refine .inl ⟨_,_,hrun _ c w,mP.same h ?_⟩;simp only [R];rw [yB]
theorem SB {l:List (Td×Nat×Nat)} {t:Td} {n off:Nat} (h:ES l t n off=true):(t,n,off)∈l/\t < 1000000:=by
 induction l with
 | nil=>simp [ES] at h
 | cons x l ih=>
  obtain ⟨a,b,c⟩:=x;simp only [ES,aa0,aak,Nat.beq_eq] at h;rcases h with ⟨⟨⟨rfl,rfl⟩,rfl⟩,h⟩ | h
  .exact ⟨aag,cZ.1 h⟩
  .exact ⟨aam _ (ih h).1,(ih h).2⟩
theorem xN: ∀{l:LA} {n:Nat} {v:AV},fM l n= .ok v->l[n]? =some v
 | [],n,v,h=>by cases n <;> simp [fM] at h
 | a::l,0,v,h=>by simpa [fM] using h
 | a::l,n+1,v,h=>by
  simp only [fM] at h;simpa using xN h
theorem O8 {l:LA} {xs:List Value} (h:RL g l xs) {n:Nat} {v:AV} (b:l[n]? =some v): ∃x,xs[n]? =some x/\R g v x:=by
 induction l generalizing n xs with
 | nil=>simp at b
 | cons a l ih=>
  simp only [RL] at h;obtain ⟨x,ys,rfl,h1,c⟩:=h;cases n with
  | zero=>simp at b;subst b;exact ⟨x,rfl,h1⟩
  | succ n=>simpa using ih c (by simpa using b)
structure Uj (P:Program) (f:FuncId) (l:List (Td×Nat×Nat)):Prop where
 enter: ∀args w,(callFunc f args).run P w= .ok (.enter f args) w
 used: ∀(b o:Nat) (w:World),w.cell? ⟨b,o,none⟩=some (.pointer (some ⟨b,o,none⟩))->
  Calls P f #[.pointer (some ⟨b,o,none⟩)] w fun e w'=>e= .returned (.tuple #[])/\w'=w
 fresh: ∀(b o:Nat) (w:World) (e:Td) (n:Nat),w.cell? ⟨b,o,none⟩=some (.pointer none)->w.shape? b=some (e,n)->o < n->w.frozen? ⟨b,o,none⟩=false->(e,n,o)∈l->
  Calls P f #[.pointer (some ⟨b,o,none⟩)] w fun e w'=>e= .returned (.tuple #[])/\w'=w.setCell ⟨b,o,none⟩ (.pointer (some ⟨b,o,none⟩))
theorem zf {l:List (Td×Nat×Nat)} {args:LA} {p:dY} (h:dK (.copyCheck l) args= .ok p): ∃id off,args=[.mp id off]/\p= .obj id (fun o=>do
  let (t,cs) <- oC o
  match (ES l t cs.length off) with
  | false=> .error "copyCheck: where?"
  | true=>do
   match <- fM cs off with
   | .nilp=>pure (.tup [],some (.cells t (cO cs off [.mp id off])))
   | .mp id' a=>match id'.beq id&&a.beq off with
    | true=>pure (.tup [],none)
    | false=> .error "copyCheck"
   | _=> .error "copyCheck"):=by
 unfold dK at h;split at h <;> first | (rename_i e;cases e;simp only [aaf] at h;subst h;exact ⟨_,_,rfl,rfl⟩) | simp_all
theorem BZ {f:FuncId} {l:List (Td×Nat×Nat)} (B:Uj P f l):dR P T G f (.copyCheck l):=by
 intro C args p v X st A g w xs _ hp I hx h;obtain ⟨id,off,rfl,rfl⟩:=zf hp;obtain ⟨x,rfl,h1⟩:=WI hx;simp only [R] at h1;obtain ⟨b,hE,rfl⟩:=h1;simp only [aE,ag,aj] at I;obtain ⟨o,J,⟨v',o'⟩,⟨⟨t,cs⟩,r2,m⟩,d,j,K⟩:=I;rw [zK] at r2;subst r2;simp only [aaj] at K;obtain ⟨rfl,rfl⟩:=K;obtain ⟨b',vs,rest,D,k1,k2,E,L,S,k6⟩:=h.cells J;have U:b'=b:=by have:=k1.symm.trans hE;simpa using this
 subst U;dsimp only at m;split at m
 .cases m
 .rename_i hl;obtain ⟨hl,F⟩:=SB hl;obtain ⟨rfl,V⟩:=k6 F;subst V;simp only [Array.append_empty] at k2;simp only [ag] at m;obtain ⟨u,W,c⟩:=m;have i:=xN W;obtain ⟨y,hy,a⟩:=O8 E i;have k:vs[off]? =some y:=by simpa using hy
  have hlen:=dQ E;simp only [abj] at hlen;split at c
  .simp only [aj,aaj] at c;obtain ⟨rfl,rfl⟩:=c;simp only [fh] at j;split at j
   .cases j
   .rename_i n;rw [da] at n;simp only [aaf] at j;subst j;simp only [R] at a;subst a;have r:off < vs.size:=by
     rcases Nat.lt_or_ge off vs.size with q | q
     .exact q
     .simp [Array.getElem?_eq_none q] at k
    have s:RL g [.mp id off] [Value.pointer (some ⟨b',off,none⟩)]:=cL (by simp only [R];exact ⟨b',hE,rfl⟩) gJ;obtain ⟨M,N⟩:=h.rewrite (rest:= #[]) J k1 (by simpa using k2) S (fun _=>⟨rfl,rfl⟩) n (cs':=cO cs off [.mp id off]) (vs':=vs.toList.take off++[Value.pointer (some ⟨b',off,none⟩)]++vs.toList.drop (off+1))
     (by simpa using xk off E s) (fun u i=>by
      simp only [aaC,aaQ] at i;rcases i with (i | rfl) | i
      .exact L u (List.mem_of_mem_take i)
      .rfl
      .exact L u (List.mem_of_mem_drop i))
    simp only [Array.append_empty] at M N;have z:w.setCell ⟨b',off,none⟩ (.pointer (some ⟨b',off,none⟩))=w.setRow b' (vs.toList.take off++[Value.pointer (some ⟨b',off,none⟩)]++vs.toList.drop (off+1)).toArray:=by
     rw [setCell_eq_setRow w b' off vs _ (0,0) _ k2];congr 1;apply Array.ext';rw [Array.toList_setIfInBounds,List.set_eq_take_append_cons_drop,if_pos (by simpa using r)];simp
    refine .inr ⟨B.enter _ _,(B.fresh b' off w D vs.size (by rw [cell_of k2];exact k) (by simp [World.shape?,k2]) r (by simp [World.frozen?,k2]) (by rw [hlen];exact hl)).mono ?_⟩;rintro e w' ⟨rfl,rfl⟩;rw [z];exact ⟨_,rfl,g,by simp [R,RL],M,N⟩
  .rename_i id' O;split at c
   .rename_i hs;simp only [aak,Nat.beq_eq] at hs;obtain ⟨rfl,rfl⟩:=hs;simp only [aj,aaj] at c;obtain ⟨rfl,rfl⟩:=c;simp only [fh,aaf] at j;subst j;simp only [R] at a;obtain ⟨Q,H,rfl⟩:=a;have:Q=b':=by have:=H.symm.trans hE;simpa using this
    subst this;refine .inr ⟨B.enter _ _,(B.used Q _ w (by rw [cell_of k2];exact k)).mono ?_⟩;rintro e w' ⟨rfl,rfl⟩;exact ⟨_,rfl,mP.same h (by simp [R,RL])⟩
   .cases c
  .cases c
theorem Inv.get_congr (h:Inv T A g st w) {st':St} (a: ∀i,st'.get i=st.get i) (e:st'.h=st.h) (f:st'.ro=st.ro):Inv T A g st' w where
 F:=h.F
 M:=h.M
 E id d:=h.E id (by omega)
 H id o ho:=h.H id o (by rw [<- a];exact ho)
 D id id' o o' b h1 c:=h.D id id' o o' b (by rw [<- a];exact h1) (by rw [<- a];exact c)
 own id o b h1 c j:=h.own id o b (by rw [<- a];exact h1) c (by omega)
 up:=h.up
structure OW (P:Program) (T:TT) (f:FuncId) (u8:Td):Prop where
 enter: ∀args w,(callFunc f args).run P w= .ok (.enter f args) w
 size: ∀i,T.get u8=some i->i.size=1
 nothing: ∀(b o:Nat) (w:World),w.cell? ⟨b,o+1,none⟩=some (.slice none 0 0)->
  Calls P f #[.pointer (some ⟨b,o,none⟩)] w fun e w'=>e= .returned (.string .empty)/\w'=w.drew
 bytes: ∀(b o g n cap:Nat) (w:World) (l:LB),l≠[]->l.length=n->w.cell? ⟨b,o+1,none⟩=some (.slice (some ⟨g,0,none⟩) n cap)->n<=cap->n < 4611686018427387904->
  ∀size,n<=size->w.shape? g=some (u8,size)->(∀j x,l[j]? =some x->w.cell? ⟨g,j,none⟩=some (.int .u8 x.toNat))->
  Calls P f #[.pointer (some ⟨b,o,none⟩)] w fun e w'=>e= .returned (.string ⟨l.toArray⟩)/\w'=w.drew.freeze ⟨g,0,none⟩ n
theorem qg: ∀{es:LA} {bs:LB} {xs:List Value},fN es= .ok bs->RL g es xs->xs=bs.map fun (x:UInt8)=>Value.int .u8 (x.toNat:Int)
 | [],_,_,h,b=>by
  simp only [fN,aaf] at h;subst h;simp only [RL] at b;subst b;rfl
 | e::es,bs,xs,h,b=>by
  simp only [RL] at b;obtain ⟨x,xs,rfl,h1,c⟩:=b;unfold fN at h;split at h
  .rename_i a;cases a
  .rename_i n l a;cases a;split at h
   .rename_i k;split at h
    .rename_i d;rw [cZ] at d;simp only [ag,aj] at h;obtain ⟨f,i,rfl⟩:=h;rw [qg i c];simp only [R] at h1;subst h1;simp only [aan,abx,Value.int.injEq,abM,abZ];have:(UInt8.ofNat k).toNat=k:=by simp;omega
     rw [this];rfl
    .cases h
   .cases h
  .cases h
theorem pU: ∀{es:LA} {bs:LB},fN es= .ok bs->flat es=es
 | [],_,_=>rfl
 | e::es,bs,h=>by
  unfold fN at h;split at h
  .rename_i a;cases a
  .rename_i n l a;cases a;split at h
   .split at h
    .simp only [ag,aj] at h;obtain ⟨b,c,rfl⟩:=h;rw [iO,pU c];rfl
    .cases h
   .cases h
  .cases h
theorem DU {u8:Td} {args:LA} {p:dY} (h:dK (.builderString u8) args= .ok p): ∃id off,args=[.mp id off]/\p= .both id
  (fun o=>do
   match <- fM (<- cellsOf o) (off+1) with
   | .ax=>pure none
   | .sl 1 _ (.own k)=>pure (some k)
   | _=> .error "Builder.String")
  (fun o o'=>do
   match <- fM (<- cellsOf o) (off+1),o' with
   | .ax,_=>pure (.str [])
   | .sl 1 e (.own _),some (.tok n ty)=>match ty.beq u8&&n.beq e.length&& !e.isEmpty&&n.blt 4611686018427387904 with
    | true=>do pure (.str (<- fN e))
    | false=> .error "Builder.String: bytes"
   | _,_=> .error "Builder.String"):=by
 unfold dK at h;split at h <;> first | (rename_i e;cases e;simp only [aaf] at h;subst h;exact ⟨_,_,rfl,rfl⟩) | simp_all
theorem Inv.freeze (h:Inv T A g st w) {k n u:Nat} (d:st.get k= .ok (.tok n u)) (s:st.ro<=k) (D: ∀i,T.get u=some i->i.size=1) {loc:Nat->Oq (Nat×Nat)} {b cap:Nat}
  (hE:g.E k=some (.tok loc)) (hl:loc n=some (b,cap)):Inv T A g st (w.freeze ⟨b,0,none⟩ n)/\Kp A g w g (w.freeze ⟨b,0,none⟩ n):=by
 by_cases hn:n=0
 .subst hn;exact ⟨h,Kp.refl _ _ _⟩
 obtain ⟨loc',b',f,i,vs,fz,G,I,J,x,K,L,r,y,N,l⟩:=h.H k _ d;have m:=G.symm.trans hE;simp only [aas,pq.tok.injEq] at m;subst m;have o:=I.symm.trans hl;simp only [aas,aaj] at o;obtain ⟨rfl,rfl⟩:=o;have a:=D i x;rw [a] at y N l;have O:=lt_of_heap r;have heap:(w.freeze ⟨b',0,none⟩ n).heap[b']? =some (.cells vs u (if fz.1==fz.2 then (0,0+n) else (min fz.1 0,max fz.2 (0+n)))):=by
  unfold World.freeze;rw [if_neg hn];simp only [Array.getElem?_modify,if_pos,r,Option.map_some]
 have other: ∀c,c≠b'->(w.freeze ⟨b',0,none⟩ n).heap[c]? =w.heap[c]? :=fun c t=>by
  unfold World.freeze;rw [if_neg hn];simp only [Array.getElem?_modify];rw [if_neg (fun e=>t e.symm)]
 have size:(w.freeze ⟨b',0,none⟩ n).heap.size=w.heap.size:=by
  unfold World.freeze;rw [if_neg hn];simp
 have p:At g k (.tok n u) b':=⟨_,_,hE,hl⟩;have P:=h.write d p (.tok n u) (w':=w.freeze ⟨b',0,none⟩ n) size other (fun j v Q=>by
   have:=h.F b' j v Q;rw [cell_of r] at this;rw [cell_of heap];exact this)
  (by
   cases hm:g.M b' with
   | none=>rfl
   | some e=>
    have:=h.M b' e.1 e.2 hm;rw [r] at this;cases this)
  (fun c t=>by
   obtain ⟨z,B,R,S⟩:=t;have m:=R.symm.trans hE;simp only [aas,pq.tok.injEq] at m;subst m;have o:=S.symm.trans hl;simp only [aas,aaj] at o;exact o.1)
  ⟨_,b',f,i,vs,_,hE,hl,J,x,K,L,heap,by rw [a];exact y,by
   rw [a];split
   .simp
   .simp only [aax];omega,by rw [a];exact l⟩
 have q:=(St.ca.1 d).1;refine ⟨P.get_congr (fun j=> ?_) rfl rfl,Kp.write (h.own k _ b' d p s) size other ?_⟩
 .by_cases C:k=j
  .subst C;rw [St.aN q,d]
  .rw [St.aT C]
 .unfold World.freeze;rw [if_neg hn];exact ⟨rfl,rfl,rfl⟩
theorem uL {f:FuncId} {u8:Td} (D:OW P T f u8):dR P T G f (.builderString u8):=by
 intro C args p v fx st A g w xs _ hp Y hx h;obtain ⟨id,off,rfl,rfl⟩:=DU hp;obtain ⟨x,rfl,h1⟩:=WI hx;simp only [R] at h1;obtain ⟨b,hE,rfl⟩:=h1;simp only [aE,ag] at Y;obtain ⟨o,r1,r,⟨cs,r2,u,S,E⟩,q⟩:=Y;rw [qZ] at r2;obtain ⟨t,rfl⟩:=r2;obtain ⟨b',vs,rest,ar,k1,k2,k3,k4,k5,k6⟩:=h.cells r1;have hb:b'=b:=by have:=k1.symm.trans hE;simpa using this
 subst hb;have hu:=xN S;obtain ⟨y,hy,c⟩:=O8 k3 hu;have U:vs[off+1]? =some y:=by simpa using hy
 have Z:w.cell? ⟨b',off+1,none⟩=some y:=my k2 U;split at E
 .simp only [aj] at E;subst E;simp only [ag,aj,cellsOf,aaj] at q;obtain ⟨s,⟨cs',l,u',a,d⟩,rfl,rfl⟩:=q;simp only [aaf] at l;subst l;rw [S] at a;simp only [aaf] at a;subst a;simp only [aj] at d;subst d;simp only [R] at c;subst c;refine .inr ⟨D.enter _ _,(D.nothing b' off w Z).mono ?_⟩;rintro e w' ⟨rfl,rfl⟩;exact ⟨_,rfl,g,by simp only [R];rfl,h.drew,Kp.drew _ _ _⟩
 .rename_i e k;simp only [aj] at E;subst E;dsimp only at q;split at q
  .rename_i z;have z:=aah z;simp only [ag,aj,aaj] at q;obtain ⟨o',r6,s,⟨cs',l,u',a,d⟩,rfl,rfl⟩:=q;simp only [cellsOf,aaf] at l;subst l;rw [S] at a;simp only [aaf] at a;subst a;split at d
   .rename_i V;cases V
   .rename_i es k' n ty I J;cases I;cases J;split at d
    .rename_i K;simp only [aak,Nat.beq_eq,Bool.not_eq_true',List.isEmpty_eq_false_iff] at K;obtain ⟨⟨⟨rfl,rfl⟩,W⟩,L⟩:=K;rw [cZ] at L;simp only [ag,aj] at d;obtain ⟨bs,e4,rfl⟩:=d;simp only [R] at c;obtain ⟨_,b2,o2,cap,rfl,M,_,B,rfl,loc,N,m⟩:=c;obtain ⟨loc',b3,O,i,ws,fz,q1,q2,q3,q4,q5,q6,q7,q8,q9,av⟩:=h.H k _ r6;have l:=q1.symm.trans N;simp only [aas,pq.tok.injEq] at l;subst l;have a:=q2.symm.trans m;simp only [aas,aaj] at a;obtain ⟨rfl,rfl⟩:=a;have X:=D.size i q4;rw [en] at B;rw [pU e4] at B;obtain ⟨xs,m1,m2⟩:=jC B.2;have Q:=qg e4 m1;have hlen:bs.length=e.length:=by have:=dQ m1;rw [Q] at this;simpa using this
     refine .inr ⟨D.enter _ _,(D.bytes b' off b3 e.length O w bs (fun hh=> ?_) hlen Z M L ws.size (by rw [q8,X];omega) (by simp [World.shape?,q7]) fun j x hj=> ?_).mono ?_⟩
     .subst hh;simp at hlen;exact W (List.length_eq_zero_iff.1 hlen.symm)
     .have:xs[j]? =some (Value.int .u8 x.toNat):=by rw [Q];simp [hj]
      have:=(m2 j _ this).1;rw [aax] at this;exact h.F _ _ _ this
     .rintro e' w' ⟨rfl,rfl⟩;obtain ⟨f1,f2⟩:=(h.drew).freeze r6 z D.size N m;exact ⟨_,rfl,g,by simp only [R],f1,(Kp.drew _ _ _).trans f2⟩
    .cases d
   .cases d
  .cases q
 .cases E
theorem Qs {l:List (Td×Nat×Nat)} {a e n o:Nat} (h:(l.all fun x=>liesAt P P.depth x.1 (x.2.1 / P.cellsOf x.1) x.2.2 a 1)=true) (hm:(e,n,o)∈l):liesAt P P.depth e (n / P.cellsOf e) o a 1=true:=
 aa7.1 h _ hm
theorem QL {u:Td} (h:(T.get u).all (fun i=>i.size.beq 1)=true): ∀i,T.get u=some i->i.size=1:=fun i hi=>by
 rw [hi] at h;exact aap h
end
end Go.VM
