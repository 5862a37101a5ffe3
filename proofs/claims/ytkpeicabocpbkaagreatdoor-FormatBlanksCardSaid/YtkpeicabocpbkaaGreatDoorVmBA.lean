/-
  A part of the proof.
-/
import Derived.Test.YtkpeicabocpbkaaGreatDoorVmAJ
import Derived.Lib.Bytealg
set_option linter.all false
namespace Go.VM
section
variable {P:Program} {T:TT} {G:Nat->Oq LA} {A:Nat->Prop} {g:Gh} {st:St} {w:World}
def dD (P:Program) (T:TT) (G:Nat->Oq LA) (f:FuncId) (q:Prim):Prop:=
 ∀C args p v a st A g w xs,GR g G->dy q args= .ok p->aE C st p= .ok (v,a)->RL g args xs->Inv T A g st w->wR P f xs.toArray w (lM T A g (a.did.app st) w v)
theorem K0 {prim:FuncId->Oq Prim} (h: ∀f q,prim f=some q->dD P T G f q):EL P T G prim:=h
theorem lM.same (h:Inv T A g st w) {v:AV} {x:Value} (a:R g v x):lM T A g st w v x w:=⟨g,a,h,Kp.refl _ _ _⟩
theorem xE (c:Nat): ∀s:LB,(match dH (c % 256) s with | some i=>(i:Int) | none=> -1)=Lib.indexByte s (UInt8.ofNat c)
 | []=>rfl
 | b::l=>by
  have ih:=xE c l;unfold dH Lib.indexByte;have d:(b==UInt8.ofNat c)=b.toNat.beq (c % 256):=by
   rw [Bool.eq_iff_iff];simp only [aaM,Nat.beq_eq];constructor
   .intro h;rw [h];simp
   .intro h;apply abE.1;rw [h];simp
  rw [d];cases b.toNat.beq (c % 256) with
  | true=>rfl
  | false=>
   dsimp only;rw [if_neg (by simp)];cases hf:dH (c % 256) l with
   | none=>
    rw [hf] at ih;dsimp only at ih ⊢;rw [<- ih];rfl
   | some i=>
    have a:(i:Int)=Lib.indexByte l (UInt8.ofNat c):=by rw [hf] at ih;exact ih
    have hi:¬ ((Lib.indexByte l (UInt8.ofNat c)== -1)=true):=by
     rw [<- a];intro e;have:=eq_of_beq e;omega
    rw [if_neg hi, <- a];show ((i+1:Nat):Int)= _;omega
theorem xV {args:LA} {p:dI} (h:dy .indexByte args= .ok p):
  ∃s c,args=[.str s,.int .u8 c]/\p= .val (.int .i64 (match dH (c.toNat % 256) s with | some i=>(i:Int) | none=> -1)):=by
 unfold dy at h;split at h <;> first | (simp only [aac] at h;subst h;exact ⟨_,_,rfl,rfl⟩) | simp_all
theorem Xz {a b:AV} {xs:List Value} (h:RL g [a,b] xs): ∃x y,xs=[x,y]/\R g a x/\R g b y:=by
 simp only [RL] at h;obtain ⟨x,ys,rfl,h1,y,zs,rfl,c,rfl⟩:=h;exact ⟨x,y,rfl,h1,c⟩
theorem VE {a:AV} {xs:List Value} (h:RL g [a] xs): ∃x,xs=[x]/\R g a x:=by
 simp only [RL] at h;obtain ⟨x,ys,rfl,h1,rfl⟩:=h;exact ⟨x,rfl,h1⟩
theorem AB {f:FuncId} (hrun: ∀(s:ByteArray) (c:Int) (w:World),(callFunc f #[.string s,.int .u8 c]).run P w= .ok (.value (.int .i64 (Lib.indexByte s.data.toList c.toNat.toUInt8))) w):dD P T G f .indexByte:=by
 intro C args p v e st A g w xs _ b d hx h;obtain ⟨s,c,rfl,rfl⟩:=xV b;obtain ⟨rfl,rfl⟩:=rz d;obtain ⟨x,y,rfl,h1,a⟩:=Xz hx;simp only [R] at h1 a;subst h1 a;refine .inl ⟨_,_,hrun _ c w,lM.same h ?_⟩;simp only [R];rw [xE]
theorem Rn {l:List (Td×Nat×Nat)} {t:Td} {n off:Nat} (h:El l t n off=true):(t,n,off)∈l/\t < 1000000:=by
 induction l with
 | nil=>simp [El] at h
 | cons x l ih=>
  obtain ⟨a,b,c⟩:=x;simp only [El,aaP,aaf,Nat.beq_eq] at h;rcases h with ⟨⟨⟨rfl,rfl⟩,rfl⟩,h⟩ | h
  .exact ⟨aad,cS.1 h⟩
  .exact ⟨aak _ (ih h).1,(ih h).2⟩
theorem wb: ∀{l:LA} {n:Nat} {v:AV},fy l n= .ok v->l[n]? =some v
 | [],n,v,h=>by cases n <;> simp [fy] at h
 | a::l,0,v,h=>by simpa [fy] using h
 | a::l,n+1,v,h=>by
  simp only [fy] at h;simpa using wb h
theorem MX {l:LA} {xs:List Value} (h:RL g l xs) {n:Nat} {v:AV} (b:l[n]? =some v): ∃x,xs[n]? =some x/\R g v x:=by
 induction l generalizing n xs with
 | nil=>simp at b
 | cons a l ih=>
  simp only [RL] at h;obtain ⟨x,ys,rfl,h1,c⟩:=h;cases n with
  | zero=>simp at b;subst b;exact ⟨x,rfl,h1⟩
  | succ n=>simpa using ih c (by simpa using b)
structure Vt (P:Program) (f:FuncId) (l:List (Td×Nat×Nat)):Prop where
 enter: ∀args w,(callFunc f args).run P w= .ok (.enter f args) w
 used: ∀(b o:Nat) (w:World),w.cell? ⟨b,o,none⟩=some (.pointer (some ⟨b,o,none⟩))->
  Calls P f #[.pointer (some ⟨b,o,none⟩)] w fun e w'=>e= .returned (.tuple #[])/\w'=w
 fresh: ∀(b o:Nat) (w:World) (e:Td) (n:Nat),w.cell? ⟨b,o,none⟩=some (.pointer none)->w.shape? b=some (e,n)->o < n->w.frozen? ⟨b,o,none⟩=false->(e,n,o)∈l->
  Calls P f #[.pointer (some ⟨b,o,none⟩)] w fun e w'=>e= .returned (.tuple #[])/\w'=w.setCell ⟨b,o,none⟩ (.pointer (some ⟨b,o,none⟩))
theorem xW {l:List (Td×Nat×Nat)} {args:LA} {p:dI} (h:dy (.copyCheck l) args= .ok p): ∃id off,args=[.mp id off]/\p= .obj id (fun o=>do
  let (t,cs) <- nc o
  match (El l t cs.length off) with
  | false=> .error "copyCheck: where?"
  | true=>do
   match <- fy cs off with
   | .nilp=>pure (.tup [],some (.cells t (dj cs off [.mp id off])))
   | .mp id' a=>match id'.beq id&&a.beq off with
    | true=>pure (.tup [],none)
    | false=> .error "copyCheck"
   | _=> .error "copyCheck"):=by
 unfold dy at h;split at h <;> first | (rename_i e;cases e;simp only [aac] at h;subst h;exact ⟨_,_,rfl,rfl⟩) | simp_all
theorem Ay {f:FuncId} {l:List (Td×Nat×Nat)} (D:Vt P f l):dD P T G f (.copyCheck l):=by
 intro C args p v Z st A g w xs _ U J hx h;obtain ⟨id,off,rfl,rfl⟩:=xW U;obtain ⟨x,rfl,h1⟩:=VE hx;simp only [R] at h1;obtain ⟨b,hE,rfl⟩:=h1;simp only [aE,ah,au] at J;obtain ⟨o,K,⟨v',o'⟩,⟨⟨t,cs⟩,r2,n⟩,d,j,L⟩:=J;rw [zo] at r2;subst r2;simp only [aag] at L;obtain ⟨rfl,rfl⟩:=L;obtain ⟨b',vs,rest,E,k1,k,F,M,V,k6⟩:=h.cells K;have W:b'=b:=by have:=k1.symm.trans hE;simpa using this
 subst W;dsimp only at n;split at n
 .cases n
 .rename_i hl;obtain ⟨hl,H⟩:=Rn hl;obtain ⟨rfl,X⟩:=k6 H;subst X;simp only [Array.append_empty] at k;simp only [ah] at n;obtain ⟨u,Y,c⟩:=n;have i:=wb Y;obtain ⟨y,hy,a⟩:=MX F i;have m:vs[off]? =some y:=by simpa using hy
  have hlen:=fp F;simp only [abK] at hlen;split at c
  .simp only [au,aag] at c;obtain ⟨rfl,rfl⟩:=c;simp only [fK] at j;split at j
   .cases j
   .rename_i r;rw [eG] at r;simp only [aac] at j;subst j;simp only [R] at a;subst a;have s:off < vs.size:=by
     rcases Nat.lt_or_ge off vs.size with q | q
     .exact q
     .simp [Array.getElem?_eq_none q] at m
    have z:RL g [.mp id off] [Value.pointer (some ⟨b',off,none⟩)]:=cA (by simp only [R];exact ⟨b',hE,rfl⟩) gF;obtain ⟨N,O⟩:=h.rewrite (rest:= #[]) K k1 (by simpa using k) V (fun _=>⟨rfl,rfl⟩) r (cs':=dj cs off [.mp id off]) (vs':=vs.toList.take off++[Value.pointer (some ⟨b',off,none⟩)]++vs.toList.drop (off+1))
     (by simpa using vJ off F z) (fun u i=>by
      simp only [aaA,aaG] at i;rcases i with (i | rfl) | i
      .exact M u (List.mem_of_mem_take i)
      .rfl
      .exact M u (List.mem_of_mem_drop i))
    simp only [Array.append_empty] at N O;have B:w.setCell ⟨b',off,none⟩ (.pointer (some ⟨b',off,none⟩))=w.setRow b' (vs.toList.take off++[Value.pointer (some ⟨b',off,none⟩)]++vs.toList.drop (off+1)).toArray:=by
     rw [setCell_eq_setRow w b' off vs _ (0,0) _ k];congr 1;apply Array.ext';rw [Array.toList_setIfInBounds,List.set_eq_take_append_cons_drop,if_pos (by simpa using s)];simp
    refine .inr ⟨D.enter _ _,(D.fresh b' off w E vs.size (by rw [cell_of k];exact m) (by simp [World.shape?,k]) s (by simp [World.frozen?,k]) (by rw [hlen];exact hl)).mono ?_⟩;rintro e w' ⟨rfl,rfl⟩;rw [B];exact ⟨_,rfl,g,by simp [R,RL],N,O⟩
  .rename_i id' Q;split at c
   .rename_i hs;simp only [aaf,Nat.beq_eq] at hs;obtain ⟨rfl,rfl⟩:=hs;simp only [au,aag] at c;obtain ⟨rfl,rfl⟩:=c;simp only [fK,aac] at j;subst j;simp only [R] at a;obtain ⟨S,I,rfl⟩:=a;have:S=b':=by have:=I.symm.trans hE;simpa using this
    subst this;refine .inr ⟨D.enter _ _,(D.used S _ w (by rw [cell_of k];exact m)).mono ?_⟩;rintro e w' ⟨rfl,rfl⟩;exact ⟨_,rfl,lM.same h (by simp [R,RL])⟩
   .cases c
  .cases c
theorem Inv.get_congr (h:Inv T A g st w) {st':St} (a: ∀i,st'.get i=st.get i) (e:st'.h=st.h) (f:st'.ro=st.ro):Inv T A g st' w where
 F:=h.F
 M:=h.M
 E id d:=h.E id (by omega)
 H id o ho:=h.H id o (by rw [<- a];exact ho)
 D id id' o o' b h1 c:=h.D id id' o o' b (by rw [<- a];exact h1) (by rw [<- a];exact c)
 own id o b h1 c j:=h.own id o b (by rw [<- a];exact h1) c (by omega)
 up:=h.up
structure OX (P:Program) (T:TT) (f:FuncId) (u8:Td):Prop where
 enter: ∀args w,(callFunc f args).run P w= .ok (.enter f args) w
 size: ∀i,T.get u8=some i->i.size=1
 nothing: ∀(b o:Nat) (w:World),w.cell? ⟨b,o+1,none⟩=some (.slice none 0 0)->
  Calls P f #[.pointer (some ⟨b,o,none⟩)] w fun e w'=>e= .returned (.string .empty)/\w'=w.drew
 bytes: ∀(b o g n cap:Nat) (w:World) (l:LB),l≠[]->l.length=n->w.cell? ⟨b,o+1,none⟩=some (.slice (some ⟨g,0,none⟩) n cap)->n<=cap->n < 4611686018427387904->
  ∀size,n<=size->w.shape? g=some (u8,size)->(∀j x,l[j]? =some x->w.cell? ⟨g,j,none⟩=some (.int .u8 x.toNat))->
  Calls P f #[.pointer (some ⟨b,o,none⟩)] w fun e w'=>e= .returned (.string ⟨l.toArray⟩)/\w'=w.drew.freeze ⟨g,0,none⟩ n
theorem oF: ∀{es:LA} {bs:LB} {xs:List Value},fA es= .ok bs->RL g es xs->xs=bs.map fun (x:UInt8)=>Value.int .u8 (x.toNat:Int)
 | [],_,_,h,b=>by
  simp only [fA,aac] at h;subst h;simp only [RL] at b;subst b;rfl
 | e::es,bs,xs,h,b=>by
  simp only [RL] at b;obtain ⟨x,xs,rfl,h1,c⟩:=b;unfold fA at h;split at h
  .rename_i a;cases a
  .rename_i n l a;cases a;split at h
   .rename_i k;split at h
    .rename_i d;rw [cS] at d;simp only [ah,au] at h;obtain ⟨f,i,rfl⟩:=h;rw [oF i c];simp only [R] at h1;subst h1;simp only [aal,abo,Value.int.injEq,aca,abW];have:(UInt8.ofNat k).toNat=k:=by simp;omega
     rw [this];rfl
    .cases h
   .cases h
  .cases h
theorem nX: ∀{es:LA} {bs:LB},fA es= .ok bs->flat es=es
 | [],_,_=>rfl
 | e::es,bs,h=>by
  unfold fA at h;split at h
  .rename_i a;cases a
  .rename_i n l a;cases a;split at h
   .split at h
    .simp only [ah,au] at h;obtain ⟨b,c,rfl⟩:=h;rw [hH,nX c];rfl
    .cases h
   .cases h
  .cases h
theorem Eg {u8:Td} {args:LA} {p:dI} (h:dy (.builderString u8) args= .ok p): ∃id off,args=[.mp id off]/\p= .both id
  (fun o=>do
   match <- fy (<- cellsOf o) (off+1) with
   | .aD=>pure none
   | .sl 1 _ (.own k)=>pure (some k)
   | _=> .error "Builder.String")
  (fun o o'=>do
   match <- fy (<- cellsOf o) (off+1),o' with
   | .aD,_=>pure (.str [])
   | .sl 1 e (.own _),some (.tok n ty)=>match ty.beq u8&&n.beq e.length&& !e.isEmpty&&n.blt 4611686018427387904 with
    | true=>do pure (.str (<- fA e))
    | false=> .error "Builder.String: bytes"
   | _,_=> .error "Builder.String"):=by
 unfold dy at h;split at h <;> first | (rename_i e;cases e;simp only [aac] at h;subst h;exact ⟨_,_,rfl,rfl⟩) | simp_all
theorem Inv.freeze (h:Inv T A g st w) {k n u:Nat} (d:st.get k= .ok (.tok n u)) (s:st.ro<=k) (D: ∀i,T.get u=some i->i.size=1) {loc:Nat->Oq (Nat×Nat)} {b cap:Nat}
  (hE:g.E k=some (.tok loc)) (hl:loc n=some (b,cap)):Inv T A g st (w.freeze ⟨b,0,none⟩ n)/\Kp A g w g (w.freeze ⟨b,0,none⟩ n):=by
 by_cases hn:n=0
 .subst hn;exact ⟨h,Kp.refl _ _ _⟩
 obtain ⟨loc',b',f,i,vs,fz,G,I,J,x,K,L,r,y,N,l⟩:=h.H k _ d;have m:=G.symm.trans hE;simp only [aav,tz.tok.injEq] at m;subst m;have o:=I.symm.trans hl;simp only [aav,aag] at o;obtain ⟨rfl,rfl⟩:=o;have a:=D i x;rw [a] at y N l;have O:=lt_of_heap r;have heap:(w.freeze ⟨b',0,none⟩ n).heap[b']? =some (.cells vs u (if fz.1==fz.2 then (0,0+n) else (min fz.1 0,max fz.2 (0+n)))):=by
  unfold World.freeze;rw [if_neg hn];simp only [Array.getElem?_modify,if_pos,r,Option.map_some]
 have other: ∀c,c≠b'->(w.freeze ⟨b',0,none⟩ n).heap[c]? =w.heap[c]? :=fun c t=>by
  unfold World.freeze;rw [if_neg hn];simp only [Array.getElem?_modify];rw [if_neg (fun e=>t e.symm)]
 have size:(w.freeze ⟨b',0,none⟩ n).heap.size=w.heap.size:=by
  unfold World.freeze;rw [if_neg hn];simp
 have p:At g k (.tok n u) b':=⟨_,_,hE,hl⟩;have P:=h.write d p (.tok n u) (w':=w.freeze ⟨b',0,none⟩ n) size other (fun j v Q=>by
   have:=h.F b' j v Q;rw [cell_of r] at this;rw [cell_of heap];exact this)
  (by
   cases hm:g.M b' with
   | none=>rfl
   | some e=>
    have:=h.M b' e.1 e.2 hm;rw [r] at this;cases this)
  (fun c t=>by
   obtain ⟨z,B,R,S⟩:=t;have m:=R.symm.trans hE;simp only [aav,tz.tok.injEq] at m;subst m;have o:=S.symm.trans hl;simp only [aav,aag] at o;exact o.1)
  ⟨_,b',f,i,vs,_,hE,hl,J,x,K,L,heap,by rw [a];exact y,by
   rw [a];split
   .simp
   .simp only [aau];omega,by rw [a];exact l⟩
 have q:=(St.cZ.1 d).1;refine ⟨P.get_congr (fun j=> ?_) rfl rfl,Kp.write (h.own k _ b' d p s) size other ?_⟩
 .by_cases C:k=j
  .subst C;rw [St.bx q,d]
  .rw [St.bD C]
 .unfold World.freeze;rw [if_neg hn];exact ⟨rfl,rfl,rfl⟩
theorem tD {f:FuncId} {u8:Td} (D:OX P T f u8):dD P T G f (.builderString u8):=by
 intro C args p v fx st A g w xs _ hp Y hx h;obtain ⟨id,off,rfl,rfl⟩:=Eg hp;obtain ⟨x,rfl,h1⟩:=VE hx;simp only [R] at h1;obtain ⟨b,hE,rfl⟩:=h1;simp only [aE,ah] at Y;obtain ⟨o,r1,r,⟨cs,r2,u,S,E⟩,q⟩:=Y;rw [pM] at r2;obtain ⟨t,rfl⟩:=r2;obtain ⟨b',vs,rest,av,k1,k2,k3,k4,k5,k6⟩:=h.cells r1;have hb:b'=b:=by have:=k1.symm.trans hE;simpa using this
 subst hb;have hu:=wb S;obtain ⟨y,hy,c⟩:=MX k3 hu;have U:vs[off+1]? =some y:=by simpa using hy
 have Z:w.cell? ⟨b',off+1,none⟩=some y:=lb k2 U;split at E
 .simp only [au] at E;subst E;simp only [ah,au,cellsOf,aag] at q;obtain ⟨s,⟨cs',l,u',a,d⟩,rfl,rfl⟩:=q;simp only [aac] at l;subst l;rw [S] at a;simp only [aac] at a;subst a;simp only [au] at d;subst d;simp only [R] at c;subst c;refine .inr ⟨D.enter _ _,(D.nothing b' off w Z).mono ?_⟩;rintro e w' ⟨rfl,rfl⟩;exact ⟨_,rfl,g,by simp only [R];rfl,h.drew,Kp.drew _ _ _⟩
 .rename_i e k;simp only [au] at E;subst E;dsimp only at q;split at q
  .rename_i z;have z:=aaq z;simp only [ah,au,aag] at q;obtain ⟨o',r6,s,⟨cs',l,u',a,d⟩,rfl,rfl⟩:=q;simp only [cellsOf,aac] at l;subst l;rw [S] at a;simp only [aac] at a;subst a;split at d
   .rename_i V;cases V
   .rename_i es k' n ty I J;cases I;cases J;split at d
    .rename_i K;simp only [aaf,Nat.beq_eq,Bool.not_eq_true',List.isEmpty_eq_false_iff] at K;obtain ⟨⟨⟨rfl,rfl⟩,W⟩,L⟩:=K;rw [cS] at L;simp only [ah,au] at d;obtain ⟨bs,e4,rfl⟩:=d;simp only [R] at c;obtain ⟨_,b2,o2,cap,rfl,M,_,B,rfl,loc,N,m⟩:=c;obtain ⟨loc',b3,O,i,ws,fz,q1,q2,q3,q4,q5,q6,q7,q8,q9,a1⟩:=h.H k _ r6;have l:=q1.symm.trans N;simp only [aav,tz.tok.injEq] at l;subst l;have a:=q2.symm.trans m;simp only [aav,aag] at a;obtain ⟨rfl,rfl⟩:=a;have X:=D.size i q4;rw [gi] at B;rw [nX e4] at B;obtain ⟨xs,m1,m2⟩:=lq B.2;have Q:=oF e4 m1;have hlen:bs.length=e.length:=by have:=fp m1;rw [Q] at this;simpa using this
     refine .inr ⟨D.enter _ _,(D.bytes b' off b3 e.length O w bs (fun hh=> ?_) hlen Z M L ws.size (by rw [q8,X];omega) (by simp [World.shape?,q7]) fun j x hj=> ?_).mono ?_⟩
     .subst hh;simp at hlen;exact W (List.length_eq_zero_iff.1 hlen.symm)
     .have:xs[j]? =some (Value.int .u8 x.toNat):=by rw [Q];simp [hj]
      have:=(m2 j _ this).1;rw [aau] at this;exact h.F _ _ _ this
     .rintro e' w' ⟨rfl,rfl⟩;obtain ⟨f1,f2⟩:=(h.drew).freeze r6 z D.size N m;exact ⟨_,rfl,g,by simp only [R],f1,(Kp.drew _ _ _).trans f2⟩
    .cases d
   .cases d
  .cases q
 .cases E
theorem PA {l:List (Td×Nat×Nat)} {a e n o:Nat} (h:(l.all fun x=>liesAt P P.depth x.1 (x.2.1 / P.cellsOf x.1) x.2.2 a 1)=true) (hm:(e,n,o)∈l):liesAt P P.depth e (n / P.cellsOf e) o a 1=true:=
 abd.1 h _ hm
theorem Qj {u:Td} (h:(T.get u).all (fun i=>i.size.beq 1)=true): ∀i,T.get u=some i->i.size=1:=fun i hi=>by
 rw [hi] at h;exact aan h
end
end Go.VM
