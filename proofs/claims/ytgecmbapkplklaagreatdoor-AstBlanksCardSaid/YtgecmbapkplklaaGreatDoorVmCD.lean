/-
  (A part of the proof: RefE, RefF, RefG, RefH, RefI, LexE, LexF, LexG, LexH, LexI, LexJ, ParseQr, RefJ, BlkA, AstV, AstArg.)
-/
import Derived.Test.YtgecmbapkplklaaGreatDoorVmAA
import Derived.Test.YtgecmbapkplklaaGreatDoorVmCC
import Derived.Test.YtgecmbapkplklaaGreatDoorVmCB
import Derived.Test.YtgecmbapkplklaaGreatDoorVmBF
import Derived.Test.YtgecmbapkplklaaGreatDoorVmBI
set_option maxRecDepth 1000000
set_option linter.all false
namespace Go.Proofs.YtgecmbapkplklaaGreatDoor.Vm
open Go Go.VM Go.Proofs Go.Lex Go.Parse
theorem lJ {s:List UInt8} {r:List aU} (h:bY s r=true):((nx r).1=3\/(nx r).1=8)/\(nx r).2=s:=by
 unfold bY at h;simp only [WY,XL,XA] at h;exact h
theorem E3 {r:List aU} (h:hH (nx r)=true):(nx r).1≠9/\bY dw r=false/\bY cU r=false:=by
 have key: ∀s:List UInt8,s≠gw->s≠eD->bY s r=false:=fun s h1 h2=>by
  cases hb:bY s r with
  | false=>rfl
  | true=>
   obtain ⟨hk,hs⟩:=lJ hb;unfold hH at h;simp only [XL,WY,XA] at h;rw [hs] at h;rcases h with ((h | h) | h) | ⟨_,h | h⟩
   .omega
   .omega
   .omega
   .exact absurd h h1
   .exact absurd h h2
 refine ⟨?_,key _ (by decide) (by decide),key _ (by decide) (by decide)⟩;unfold hH at h;simp only [XL,WY,XA] at h;omega
theorem JL {s u:List UInt8} {r:List aU} (h:bY s r=true) (hn:s≠u):bY u r=false:=by
 cases hb:bY u r with
 | false=>rfl
 | true=>
  have h1:=(lJ h).2;have h2:=(lJ hb).2;exact absurd (h1.symm.trans h2) hn
section
variable {β:Type} {Q:β->Prop} {st0 st:St} {p:Nat} {L:List aU} {x:AV} {d d':Nat} {r r':List aU} {l l1 l2:List Vr} {os:List (AV×List AV)} {t:T}
theorem D7 (w:Wd PR st0 st p L x d r (l1++(st0.h,ND,z4)::l2) os):
  aa (bc (aV vE) 27 [.mp p 0] st fun v s _=>wq v fun n1 a tx y=>ab y (aM (aV vE) 4 (.mp st0.h 0) (.agg [.int .u8 n1,.int .u8 a,.str tx,y]) [.int .u8 n1,.int .u8 a,.str tx,y] s fun _ s _=>al 4 true (.mp st0.h 0) s fun v _=>wq v fun n1 a tx y=>some (.agg [.int .u8 n1,.int .u8 a,.str tx,y],s))) (NQ PR st0 p L x d (aJ r) (aL r)):=
 aa.pq w fun k tk tx y s hn hd w=>aa.res l1 (old:=z4) w rfl hn hd
theorem Ep (w:Wd PR st0 st p L x d r (l1++(st0.h,ND,z4)::l2) os):
  aa (bc (aV vE) 27 [.mp p 0] st fun v s _=>wq v fun n1 a tx y=>ab y (ab y (aD y fun y=>aM (aV vE) 4 (.mp st0.h 0) (.agg [.int .u8 3,.int .u8 0,.str [],.sl 4 [.agg [.int .u8 n1,.int .u8 a,.str tx,y]] .shut]) [.int .u8 3,.int .u8 0,.str [],.sl 4 [.agg [.int .u8 n1,.int .u8 a,.str tx,y]] .shut] s fun _ s _=>al 4 true (.mp st0.h 0) s fun v _=>wq v fun n1 a tx y=>some (.agg [.int .u8 n1,.int .u8 a,.str tx,y],s)))) (NQ PR st0 p L x d (node 3 [aJ r]) (aL r)):=by
 refine aa.pq w fun k tk tx y s hn hd w=> ?_;refine aa.two hn (aa.fit hn fun c b _ _=> ?_);refine aa.Ek l1 (old:=z4) w rfl (jo (lU b) (by simp)) ?_;have:=bS r;simp only [bE,bz,aS];omega
theorem Gs {n:Nat} (ih:Cg n) (pat:Bool):jd (Wk pat) [] (.atom pat) (n+1):=by
 intro st p L x d r t r' hs hp hd h;have g:(nx r).1=8->(nx r).2.length<=2:=by
  obtain ⟨i,_,hr⟩:=hp;exact OJ hs hr
 simp only [P] at h;have q:(((nx r).1:Int)==9)=((nx r).1==9):=bP _ 9;have u:(((nx r).1:Int)==6)=((nx r).1==6):=bP _ 6;cases pat with
 | false=>
  rw [DU g] at h;refine aa.wide (aa.step (Mx _ _) ?_);unfold T9;refine aa.alloc (Wd.begin hp) fun s1 _ w=> ?_;refine aa.SE w fun s2 j w=> ?_;refine aa.bind (R:=fun c=>c=([.bool (hH (nx r)||(nx r).1==6)],j)) ?_ ?_
  .refine aa.DJ WS w ?_;simp only [aE,ad,af,ax,ae];refine aa.step (oN (nx r) _ _) (aa.step (ak _ _) ?_);cases hH (nx r) with
   | true=>exact aa.step (ao _ _) (aa.some rfl)
   | false=>
    refine aa.step (ai _ _) (aa.gv WS w rfl (aa.step (af _ _ _) ?_));rw [u];exact aa.some rfl
  .rintro c rfl;simp only [ad,ak,ae];cases hk:(hH (nx r)||(nx r).1==6) with
   | true=>
    have a:(nx r).1≠9/\bY dw r=false/\bY cU r=false:=by
     cases hl:hH (nx r) with
     | true=>exact E3 hl
     | false=>
      rw [hl,XK,XA] at hk;refine ⟨by omega, ?_, ?_⟩
      .cases hb:bY dw r with
       | false=>rfl
       | true=>have:=(lJ hb).1;omega
      .cases hb:bY cU r with
       | false=>rfl
       | true=>have:=(lJ hb).1;omega
    rw [hk,Yi,Yi,if_pos rfl,if_neg a.1,a.2.1,a.2.2,if_neg XJ,if_neg XJ] at h;cases h;refine aa.step (ao _ _) ?_;exact D7 (l1:=[_]) w
   | false=>
    rw [hk,XK] at h;refine aa.step (ai _ _) (aa.gv WS w rfl (aa.step (af _ _ _) ?_));rw [q];by_cases e:(nx r).1=9
    .rw [e] at h ⊢;rw [if_pos (by simp),if_pos rfl] at h;cases h;refine aa.step (ao _ _) ?_;exact Ep (l1:=[_]) (by rw [e] at w;exact w)
    .rw [WX.2 e] at h ⊢;rw [XK] at h;refine aa.step (ai _ _) (aa.sQ (s0:=dw) w fun f _ w=> ?_);cases ho:bY dw r with
     | true=>
      rw [ho,Yi,if_pos rfl,if_neg e,if_pos rfl] at h;refine aa.step (ao _ _) ?_;exact aa.node w (ih.closed false false _ p L x d r t r' hs w.pz hd h) rfl rfl fun k tk tx y s hnd b w=>aa.res [_] (old:=z4) w rfl hnd b
     | false=>
      rw [ho,XK] at h;refine aa.step (ai _ _) (aa.sQ (s0:=cU) w fun v _ w=> ?_);cases hl:bY cU r with
      | true=>
       rw [hl,if_pos rfl,if_neg e,if_neg XJ,if_pos rfl] at h;refine aa.step (ao _ _) ?_;exact aa.node w (ih.closed true false _ p L x d r t r' hs w.pz hd h) rfl rfl fun k tk tx y s hnd b w=>aa.res [_] (old:=z4) w rfl hnd b
      | false=>
       rw [hl,if_neg XJ] at h;cases h;refine aa.step (ai _ _) (aa.step (ot _ _ _) ?_);refine aa.res [_] (old:=z4) w rfl (ja kL) ?_;show eP (missing kL)<= _;rw [fF];omega
 | true=>
  rw [Dd g] at h;refine aa.wide (aa.step (Q7 _ _) ?_);unfold V9;refine aa.alloc (Wd.begin hp) fun s1 _ w=> ?_;refine aa.SE w fun s2 j w=> ?_;refine aa.bind (R:=fun c=> ∃f,c=([.bool (hH (nx r)||bY np r)],f)/\Wd PR st f p L x d r [(s2.h,24,[.int .u8 ((nx r).1:Int),.str (nx r).2]),(st.h,ND,z4)] []) ?_ ?_
  .refine aa.DJ WS w ?_;simp only [aE,ad,af,ax,ae];refine aa.step (oN (nx r) _ _) (aa.step (ak _ _) ?_);cases hH (nx r) with
   | true=>exact aa.step (ao _ _) (aa.some ⟨j,rfl,w⟩)
   | false=>
    refine aa.step (ai _ _) (aa.sQ (s0:=np) w fun f _ w=> ?_);exact aa.some ⟨f,rfl,w⟩
  .rintro c ⟨f,rfl,w⟩;simp only [ad,ak,ae];cases hk:(hH (nx r)||bY np r) with
   | true=>
    have a:(nx r).1≠9/\bY dw r=false/\bY cU r=false:=by
     cases hl:hH (nx r) with
     | true=>exact E3 hl
     | false=>
      rw [hl,XK] at hk;exact ⟨by have:=(lJ hk).1;omega,JL hk (by decide),JL hk (by decide)⟩
    have l:(hH (nx r)||(nx r).1==9||bY np r||(bY dw r||bY cU r))=true:=by
     rcases (XL _ _).mp hk with h | h
     .rw [h];rfl
     .rw [h];simp
    rw [l,if_pos rfl,if_neg a.1,a.2.1,a.2.2,if_neg XJ,if_neg XJ] at h;cases h;refine aa.step (ao _ _) ?_;exact D7 (l1:=[_]) w
   | false=>
    obtain ⟨m,o⟩:=(Yu).1 hk;rw [m,o,XK,YE] at h;refine aa.step (ai _ _) (aa.gv WS w rfl (aa.step (af _ _ _) ?_));rw [q];by_cases e:(nx r).1=9
    .rw [e] at h ⊢;rw [if_pos (by simp),if_pos rfl] at h;cases h;refine aa.step (ao _ _) ?_;exact Ep (l1:=[_]) (by rw [e] at w;exact w)
    .rw [WX.2 e] at h ⊢;rw [XK] at h;refine aa.step (ai _ _) (aa.sQ (s0:=dw) w fun f _ w=> ?_);cases ho:bY dw r with
     | true=>
      rw [ho,Yi,if_pos rfl,if_neg e,if_pos rfl] at h;refine aa.step (ao _ _) ?_;exact aa.node w (ih.closed false true _ p L x d r t r' hs w.pz hd h) rfl rfl fun k tk tx y s hnd b w=>aa.res [_] (old:=z4) w rfl hnd b
     | false=>
      rw [ho,XK] at h;refine aa.step (ai _ _) (aa.sQ (s0:=cU) w fun v _ w=> ?_);cases hl:bY cU r with
      | true=>
       rw [hl,if_pos rfl,if_neg e,if_neg XJ,if_pos rfl] at h;refine aa.step (ao _ _) ?_;exact aa.node w (ih.closed true true _ p L x d r t r' hs w.pz hd h) rfl rfl fun k tk tx y s hnd b w=>aa.res [_] (old:=z4) w rfl hnd b
      | false=>
       rw [hl,if_neg XJ] at h;cases h;refine aa.step (ai _ _) (aa.step (ot _ _ _) ?_);refine aa.res [_] (old:=z4) w rfl (ja iH) ?_;show eP (missing iH)<= _;rw [fF];omega
end
theorem Lz {k:Nat}: ∀(n:Nat) (acc:T) (d:Nat) (r:List aU) (l:List T) (r':List aU),P n (.ops k acc) d r=some (l,r')->isAny (opsOf k) r'=false
 | 0,_,_,_,_,_,h=>by cases h
 | n+1,acc,d,r,l,r',h=>by
  simp only [P] at h;split at h
  .obtain ⟨⟨b,a⟩,_,h⟩:=bind_some h;exact Lz n _ d a l r' h
  .rename_i hb;cases h;exact Xi hb
theorem KT {k:Nat} (hk:k<=6) {n d:Nat} {r:List aU} {l:List T} {r':List aU} (h:P n (.level k) d r=some (l,r')):isAny (opsOf k) r'=false:=by
 cases n with
 | zero=>cases h
 | succ n=>
  simp only [P] at h;rw [if_neg (by omega)] at h;obtain ⟨⟨a,c⟩,b,h⟩:=bind_some h;obtain ⟨u,rfl⟩:=cO _ _ _ _ _ _ b rfl;exact Lz _ _ _ _ _ _ h
section
variable {β:Type} {Q:β->Prop} {st0 st:St} {p:Nat} {L:List aU} {x:AV} {d d':Nat} {r r':List aU} {l l1 l2:List Vr} {os:List (AV×List AV)} {t:T}
theorem FJ {n:Nat} (hn:n<=10000000) (ih: ∀m,m < n->Cg m) (hs:Sg L) {a b:Nat} {c:St} (ha:c.h=a) (hd:d<=64): ∀(m:Nat) (acc t:T) (r r':List aU) (s:St),m<=n->P m (.args acc) d r=some ([t],r')->Nv PR st0 s p L x d r a b acc->eP acc+m<=900000000000000->
  aa (aK (rm (.mp p 0) c) ([],s)) (fun q=> ∃s',q=(0,[],s')/\Nv PR st0 s' p L x d r' a b t/\eP t<=900000000000000):=by
 intro m
 induction m with
 | zero=>intro acc t r r' s _ h;cases h
 | succ m j=>
  intro acc t r r' s hm h hg hl;simp only [P] at h;obtain ⟨k,tk,tx,y,w,hnd⟩:=hg;split at h
  .rename_i hb;obtain ⟨⟨B,l⟩,o,h⟩:=bind_some h;obtain ⟨u,rfl⟩:=cO _ _ _ _ _ _ o rfl;have D:=dX (by omega:m<=10000000) o rfl;have f:aa (rm (.mp p 0) c ([],s)) (fun q=> ∃s',q= .inl ([],s')/\Nv PR st0 s' p L x d l a b (node 13 [acc,u])):=by
    simp only [rm,ha,ae];refine aa.mH false hs w fun s1 _ w=> ?_;rw [hb];refine aa.step (ao _ _) ?_;refine aa.fq (WS) w ?_;refine aa.node w ((ih m (by omega)).atom false _ p L x d r u l hs w.pz hd o) rfl rfl fun k2 E F H I i G C=> ?_;have B:=w.lg C (WS) hnd (by omega);refine aa.step (gP (by rw [B];rfl) _) ?_;refine aa.two hnd (aa.two i (aa.fit hnd fun J v _ _=>aa.fit i fun z2 z _ _=> ?_));refine aa.store [] C fun A K w=> ?_;exact aa.some ⟨A,rfl,13,0,[],_,w,jo (Aq v z) (by simp)⟩
   obtain ⟨q,e,s',rfl,g⟩:=f;rw [aP e];refine j _ t l _ s' (by omega) h g ?_;simp only [bE,bz,aS];omega
  .rename_i hb;cases h;have f:aa (rm (.mp p 0) c ([],s)) (fun q=> ∃s',q= .inr (0,[],s')/\Nv PR st0 s' p L x d r a b acc):=by
    simp only [rm,ha,ae];refine aa.mH false hs w fun s1 _ w=> ?_;rw [Xi hb];exact aa.step (ai _ _) (aa.some ⟨s1,rfl,k,tk,tx,y,w,hnd⟩)
   obtain ⟨q,e,s',rfl,g⟩:=f;exact ⟨_,aF e,s',rfl,g,by omega⟩
theorem Jx {n:Nat} (ih: ∀m,m<=n->Cg m) (hn:n<=10000000) (hs:Sg L) (hp:Pz PR st p L x d r) (hd:d<=64) {u:T} {a:List aU} (c:P n (.atom false) d r=some ([u],a)) (h:P n (.args u) d a=some ([t],r')):NW PR 158 [.mp p 0] st p L x d t r':=by
 have e:=dX hn c rfl;refine aa.wide (aa.step (NH _ _) ?_);unfold Sk;refine aa.alloc (Wd.begin hp) fun s1 _ w=> ?_;refine aa.node w ((ih n (WW _)).atom false _ p L x d r u a hs w.pz hd c) rfl rfl fun k tk tx y s hnd b w=> ?_;refine aa.alloc w fun g _ w=>aa.two hnd ?_;refine aa.store [] w fun f i w=> ?_;refine aa.bind (FJ hn (fun m hm=>ih m (by omega)) hs rfl hd n u t a r' f (WW _) h ⟨k,tk,tx,y,w,hnd⟩ (by omega)) ?_;rintro q ⟨j,rfl,hg,b⟩;exact aa.step (ae _) (hg.fin (by omega))
theorem Ji {n:Nat} (ih: ∀m,m<=n->Cg m) (hn:n<=10000000):jd 147 [] .neg (n+1):=by
 intro st p L x d r t r' hs hp hd h;simp only [P] at h;have g:isAny [[45],[45,46]] r=(bY [45] r||bY [45,46] r):=by
  unfold isAny bY;cases ((nx r).1==3||(nx r).1==8) with
  | true=>
   simp only [X8,Ym,List.any_nil,YE];congr 1 <;> (rw [Bool.eq_iff_iff,XA,XA];exact eq_comm)
  | false=>rfl
 refine aa.wide (aa.step (MT _ _) ?_);unfold TC;refine aa.alloc (Wd.begin hp) fun s1 _ w=> ?_;refine aa.bind (R:=fun c=> ∃s2,c=([.bool (!(isAny [[45],[45,46]] r))],s2)/\Wd PR st s2 p L x d r [(st.h,ND,z4)] []) ?_ ?_
 .rw [g];refine aa.sQ (s0:=[45]) w fun s2 _ w=> ?_;cases bY [45] r with
  | true=>exact aa.step (ai _ _) (aa.some ⟨s2,rfl,w⟩)
  | false=>exact aa.step (ao _ _) (aa.sQ (s0:=[45,46]) w fun l _ w=>aa.some ⟨l,rfl,w⟩)
 .rintro c ⟨s2,rfl,w⟩;simp only [ad,ak,ae];split at h
  .rename_i hb;rw [hb];refine aa.step (ai _ _) ?_;refine aa.pq w fun k tk tx y s hnd a w=> ?_;refine aa.two hnd (aa.fit hnd fun D i _ _=> ?_);refine aa.alloc w fun l _ w=> ?_;refine aa.store [] w fun z o w=> ?_;have E:=bS r;refine aa.zM (aa.nU w (aa.step (af _ _ _) ?_));have hg:Gv PR st z p L x d (aL r) s.h st.h 12 [aJ r]:=⟨_,_,w.shut (by simp),lU i,by rw [br];exact a⟩;split at h
   .rename_i hd;subst hd;cases h;refine aa.step (ao _ _) ?_;refine hg.grow (yq hg.pz _) rfl rfl (by simp) fun q hg=> ?_;refine hg.nd.fin ?_;have:=pL kL (aL r);show eP (node 12 ([aJ r]++[iM kL (aL r)]))<= _;simp only [bE,cq,bz,aS];omega
   .obtain ⟨⟨A,j⟩,f,h⟩:=bind_some h;obtain ⟨u,rfl⟩:=cO _ _ _ _ _ _ f rfl;cases h;have B:=dX hn f rfl;rw [show ((d:Int)==64)=false from WX.2 (by omega)];refine aa.step (ai _ _) ?_;obtain ⟨v,es,w,b,e⟩:=hg;refine aa.zM (aa.nU w (aa.step (af _ _ _) ?_));rw [aB,bm (by omega)];refine aa.zM (aa.deep (d+1) w fun q o w=> ?_);have hg:Gv PR st q p L x (d+1) (aL r) s.h st.h 12 [aJ r]:=⟨v,es,w,b,e⟩;refine hg.grow ((ih n (WW _)).neg _ p L x (d+1) _ u j hs hg.pz (by omega) f) rfl rfl (by simp) fun F hg=> ?_;obtain ⟨v,es,w,b,e⟩:=hg;refine aa.zM (aa.nU w (aa.step (af _ _ _) ?_));rw [aB,show ((d+1:Nat):Int) - 1=((d+1:Nat):Int) - ((1:Nat):Int) from rfl,rY (by omega) (by omega),Yx];refine aa.zM (aa.deep d w fun C o w=> ?_);have hg:Gv PR st C p L x d j s.h st.h 12 ([aJ r]++[u]):=⟨v,es,w,b,e⟩;refine hg.nd.fin (t:=node 12 ([aJ r]++[u])) ?_;simp only [bE,cq,bz,aS];omega
  .rename_i hb;rw [Xi hb];refine aa.step (ao _ _) ?_;obtain ⟨⟨A,j⟩,f,h⟩:=bind_some h;obtain ⟨u,rfl⟩:=cO _ _ _ _ _ _ f rfl;exact aa.node w (Jx ih hn hs w.pz hd f h) rfl rfl fun k tk tx y s hnd a w=>aa.res [] (old:=z4) w rfl hnd a
theorem yX {k:Nat} (hk:k<=6) {γ:Type} (st:St) (K:Kv γ):bc (aV vE) 128 [.int .i64 (k:Int)] st K=K (.sl 1 ((opsOf k).map AV.str) .shut) st q0:=by
 refine aG st K rfl rfl rfl (aX rfl ((MP _).trans ?_))
 match k,hk with
 | 0,_=>rfl
 | 1,_=>rfl
 | 2,_=>rfl
 | 3,_=>rfl
 | 4,_=>rfl
 | 5,_=>rfl
 | 6,_=>rfl
theorem CH {k:Nat} (hk:k<=6):(opsOf k).length<=1000:=by
 match k,hk with
 | 0,_=>simp [opsOf]
 | 1,_=>simp [opsOf]
 | 2,_=>simp [opsOf]
 | 3,_=>simp [opsOf]
 | 4,_=>simp [opsOf]
 | 5,_=>simp [opsOf]
 | 6,_=>simp [opsOf]
theorem Lo {n:Nat} (b: ∀k:Nat,k<=6->jd 107 [.int .i64 (k:Int)] (.level k) n) (neg: ∀m,n=m+1->jd 147 [] .neg m) (k:Nat) (hk:k<=6):jd 126 [.int .i64 (k:Int)] (.level (k+1)) n:=by
 intro st p L x d r t r' hs hp hd h;refine aa.wide (aa.step (M8 _ _ _) ?_);unfold Tq;refine aa.step (af _ _ _) (aa.alloc (Wd.begin hp) fun s1 _ w=> ?_);by_cases e:k < 6
 .refine aa.step (cZ (c:=true) (Ye (show (k:Int) < 6 by omega)) _ _) (aa.step (ao _ _) ?_);rw [aB,bm (by omega)];exact aa.node w (b (k+1) (by omega) _ p L x d r t r' hs w.pz hd h) rfl rfl fun k1 tk tx y s hnd a w=>aa.res [] (old:=z4) w rfl hnd a
 .obtain rfl:k=6:=by omega
  refine aa.step (cZ (c:=false) (X5 (by decide)) _ _) (aa.step (ai _ _) ?_);cases n with
  | zero=>cases h
  | succ m=>
   simp only [P,if_true] at h;exact aa.node w (neg m rfl _ p L x d r t r' hs w.pz hd h) rfl rfl fun k1 tk tx y s hnd a w=>aa.res [] (old:=z4) w rfl hnd a
theorem Jo {n:Nat} (hn:n<=10000000) (ih: ∀m,m < n->Cg m) (hs:Sg L) {a b k:Nat} (hk:k<=6) (l:Parse.leftOf k=true) {c:St} (ha:c.h=a) (hd:d<=64): ∀(m:Nat) (acc t:T) (r r':List aU) (s:St),m<=n->P m (.ops k acc) d r=some ([t],r')->Nv PR st0 s p L x d r a b acc->eP acc+m<=900000000000000->
  aa (aK (qB (.mp p 0) (k:Int) c) ([],s)) (fun q=> ∃s',q=(0,[],s')/\Nv PR st0 s' p L x d r' a b t/\eP t<=900000000000000):=by
 intro m
 induction m with
 | zero=>intro acc t r r' s _ h;cases h
 | succ m o=>
  intro acc t r r' s hm h hg hl;simp only [P] at h;obtain ⟨k1,tk,tx,y,w,hnd⟩:=hg;split at h
  .rename_i hb;obtain ⟨⟨G,v⟩,z,h⟩:=bind_some h;obtain ⟨u,rfl⟩:=cO _ _ _ _ _ _ z rfl;have H:=dX (by omega:m<=10000000) z rfl;have I:=bS r;have g:aa (qB (.mp p 0) (k:Int) c ([],s)) (fun q=> ∃s',q= .inl ([],s')/\Nv PR st0 s' p L x d v a b (node 11 [acc,aJ r,u])):=by
    simp only [qB,ha,ae];refine aa.step (yX hk _ _) ?_;refine aa.GU (lK (opsOf k) (CH hk)) w fun s1 _ w=> ?_;rw [hb];refine aa.step (ao _ _) ?_;refine aa.pq w fun R J K y' S f A w=> ?_;refine aa.alloc w fun U _ w=>aa.two f ?_;refine aa.store [] w fun V M w=> ?_;refine aa.fq (a:=a) (WZ _ WS) w ?_;refine aa.fq (WS) w ?_;refine aa.node w ((ih m (by omega)).oper k hk _ p L x d _ u v hs w.pz hd z) rfl rfl fun k2 N O W X j Q B=> ?_;have G:=w.lg B (WS) f A;have a2:=w.lg B (a:=a) (WZ _ WS) hnd (by omega);refine aa.step (gP (by rw [G,a2];rfl) _) ?_;refine aa.two hnd (aa.two f (aa.two j (aa.fit hnd fun Y C _ _=>aa.fit f fun z2 D _ _=>aa.fit j fun z3 E _ _=> ?_)));refine aa.store [_] B fun F M w=> ?_;exact aa.some ⟨F,rfl,11,0,[],_,w.sub NI,jo (Ax C D E) (by simp)⟩
   obtain ⟨q,e,s',rfl,i⟩:=g;rw [aP e];refine o _ t v _ s' (by omega) h i ?_;simp only [bE,bz,aS];omega
  .rename_i hb;cases h;have g:aa (qB (.mp p 0) (k:Int) c ([],s)) (fun q=> ∃s',q= .inr (0,[],s')/\Nv PR st0 s' p L x d r a b acc):=by
    simp only [qB,ha,ae];refine aa.step (yX hk _ _) ?_;refine aa.GU (lK (opsOf k) (CH hk)) w fun s1 _ w=> ?_;rw [Xi hb];exact aa.step (ai _ _) (aa.some ⟨s1,rfl,k1,tk,tx,y,w,hnd⟩)
   obtain ⟨q,e,s',rfl,i⟩:=g;exact ⟨_,aF e,s',rfl,i,by omega⟩
theorem Dg {n:Nat} (ih: ∀m,m<=n->Cg m) (hn:n<=10000000) (k:Nat) (hk:k<=6):jd 107 [.int .i64 (k:Int)] (.level k) (n+1):=by
 intro st p L x d r t r' hs hp hd h;simp only [P] at h;rw [if_neg (by omega)] at h;obtain ⟨⟨F,l⟩,o,h⟩:=bind_some h;obtain ⟨u,rfl⟩:=cO _ _ _ _ _ _ o rfl;have H:=dX hn o rfl;refine aa.wide (aa.step (Mu _ _ _) ?_);unfold TQ;refine aa.step (af _ _ _) (aa.alloc (Wd.begin hp) fun s1 _ w=> ?_);refine aa.node w ((ih n (WW _)).oper k hk _ p L x d r u l hs w.pz hd o) rfl rfl fun k1 tk tx y s hnd f w=> ?_;refine aa.alloc w fun U _ w=>aa.two hnd ?_;refine aa.store [] w fun G I w=> ?_;refine aa.bind (R:=fun c=>c=([.bool (Parse.leftOf k)],G)) ?_ ?_
 .match k,hk with
  | 0,_=>exact aa.some rfl
  | 1,_=>exact aa.some rfl
  | 2,_=>exact aa.some rfl
  | 3,_=>exact aa.some rfl
  | 4,_=>exact aa.some rfl
  | 5,_=>exact aa.some rfl
  | 6,_=>exact aa.some rfl
 .rintro c rfl;simp only [ad,ak,ae];cases b:Parse.leftOf k with
  | true=>
   refine aa.step (ao _ _) ?_;refine aa.bind (Jo hn (fun m hm=>ih m (by omega)) hs hk b rfl hd n u t l r' G (WW _) h ⟨k1,tk,tx,y,w,hnd⟩ (by omega)) ?_;rintro q ⟨J,rfl,hg,f⟩;exact aa.step (ae _) (hg.fin (by omega))
  | false=>
   refine aa.step (ai _ _) (aa.step (yX hk _ _) ?_);refine aa.GU (lK (opsOf k) (CH hk)) w fun V _ w=> ?_;cases n with
   | zero=>cases h
   | succ m=>
    simp only [P] at h;split at h
    .rename_i hb;obtain ⟨⟨b1,r2⟩,g,h⟩:=bind_some h
     try rw [b,if_neg XJ] at g
     obtain ⟨v,rfl⟩:=cO _ _ _ _ _ _ g rfl;have K:=dX (by omega:m<=10000000) g rfl;have z:=KT hk g;have i:t=node 11 [u,aJ l,v]/\r'=r2:=by
      cases m with
      | zero=>cases h
      | succ m=>
       simp only [P] at h;rw [z,if_neg XJ] at h;cases h;exact ⟨rfl,rfl⟩
     obtain ⟨rfl,rfl⟩:=i;have M:=bS l;rw [hb];refine aa.step (ao _ _) ?_;refine aa.pq w fun W N O y' J e A w=> ?_;refine aa.alloc w fun X _ w=>aa.two e ?_;refine aa.store [] w fun Y I w=> ?_;refine aa.fq (a:=s.h) (WZ _ WS) w ?_;refine aa.fq (WS) w ?_;refine aa.node w ((ih m (by omega)).level k hk _ p L x d _ v r' hs w.pz hd g) rfl rfl fun k2 Q S Z s9 j T B=> ?_;have F:=w.lg B (WS) e A;have a2:=w.lg B (a:=s.h) (WZ _ WS) hnd (by omega);refine aa.step (gP (by rw [F,a2];rfl) _) ?_;refine aa.two hnd (aa.two e (aa.two j (aa.fit hnd fun z1 C _ _=>aa.fit e fun z2 D _ _=>aa.fit j fun z3 E _ _=> ?_)));refine aa.Ek [_,_] (old:=z4) B rfl (jo (Ax C D E) (by simp)) ?_;simp only [bE,bz,aS];omega
    .rename_i hb;cases h;rw [Xi hb];refine aa.step (ai _ _) ?_;refine aa.fq (WS) w ?_;exact aa.res [_] (old:=z4) w rfl hnd f
end
section
variable {β:Type} {Q:β->Prop} {PT:TypeId} {st0 st:St} {p:Nat} {L:List aU} {x:AV} {d d':Nat} {r r':List aU} {l l1 l2:List Vr} {os:List (AV×List AV)} {t:T}
theorem Wd.swap {u v:Vr} (w:Wd PT st0 st p L x d r (u::v::l) os):Wd PT st0 st p L x d r (v::u::l) os:=by
 refine ⟨w.pz,w.k,fun q a=>w.v q ?_, ?_,w.o,w.od,w.p0,w.ro0⟩
 .rcases Xb.1 a with h | a
  .exact WZ _ (by rw [h];exact WS)
  .rcases Xb.1 a with h | a
   .rw [h];exact WS
   .exact WZ _ (WZ _ a)
 .have h:=w.nd;simp only [W8,Yk,Xb,not_or] at h ⊢;exact ⟨⟨fun e=>h.1.1 e.symm,h.2.1⟩,h.1.2,h.2.2⟩
theorem Wd.U7 (w:Wd PT st0 st p L x d r l []) {v:AV} {es:List AV} (h:iS st 4 ND v es) (hn: ∀j,dS v j->st0.h<=j):Wd PT st0 st p L x d r l [(v,es)]:=
 ⟨w.pz,w.k,w.v,w.nd,fun q a=>by
  rw [Yj.1 a];exact ⟨h,hn⟩,List.pairwise_singleton _ _,w.p0,w.ro0⟩
theorem Gv.Lx {s:St} {a b k:Nat} {ts:List T} (h:Gv PR st0 s p L x d r a b k ts) {K:Int->List UInt8->St->Fx->Option β} (g: ∀s' e,Gv PR st0 s' p L x d r a b k ts->aa (K ((nx r).1:Int) (nx r).2 s' e) Q):
  aa (bc (aV vE) 25 [.mp p 0] s fun v s e=>KW v fun a c=>K a c s e) Q:=by
 obtain ⟨v,es,w,hs,hd⟩:=h;exact aa.Lx w fun s' w'=>g s' _ ⟨v,es,w',hs,hd⟩
theorem Cl {n:Nat} (ih: ∀m,m < n->Cg m) (hs:Sg L) {a b k:Nat} {c:St} (ha:c.h=a) (hd:d<=64): ∀(m:Nat) (ts bs:List T) (r r':List aU) (s:St),m<=n->P m .params d r=some (bs,r')->Gv PR st0 s p L x d r a b k ts->ts.length+m<=100000000->
  aa (aK (vb (.mp p 0) c) ([],s)) (fun q=> ∃s',q=(0,[],s')/\Gv PR st0 s' p L x d r' a b k (ts++bs)):=by
 intro m
 induction m with
 | zero=>intro ts bs r r' s _ h;cases h
 | succ m i=>
  intro ts bs r r' s hm h hg hl;simp only [P] at h;split at h
  .rename_i hb;obtain ⟨⟨v,j⟩,o,h⟩:=bind_some h;obtain ⟨u,rfl⟩:=cO _ _ _ _ _ _ o rfl;obtain ⟨⟨b1,r2⟩,t,h⟩:=bind_some h;cases h;have f:aa (vb (.mp p 0) c ([],s)) (fun q=> ∃s',q= .inl ([],s')/\Gv PR st0 s' p L x d j a b k (ts++[u])):=by
    simp only [vb,ae,ha];refine hg.mH true hs fun s1 _ hg=> ?_;rw [hb];refine aa.step (ao _ _) ?_;exact hg.grow ((ih m (by omega)).atom true _ p L x d r u j hs hg.pz hd o) rfl rfl (by omega) fun s' hg=>aa.some ⟨s',rfl,hg⟩
   obtain ⟨q,e,s',rfl,g⟩:=f;rw [aP e];refine (i _ b1 j _ s' (by omega) t g (by simp;omega)).mono ?_;rintro q ⟨s2,rfl,l⟩;exact ⟨s2,rfl,by simpa using l⟩
  .rename_i hb;cases h;have f:aa (vb (.mp p 0) c ([],s)) (fun q=> ∃s',q= .inr (0,[],s')/\Gv PR st0 s' p L x d r a b k ts):=by
    simp only [vb,ae,ha];refine hg.mH true hs fun s1 _ hg=> ?_;rw [Xi hb];exact aa.step (ai _ _) (aa.some ⟨s1,rfl,hg⟩)
   obtain ⟨q,e,s',rfl,g⟩:=f;exact ⟨_,aF e,s',rfl,by simpa using g⟩
theorem zL {n:Nat} (ih: ∀m,m < n->Cg m) (hs:Sg L) {a b k:Nat} {c:St} (ha:c.h=a) (hd:d<=64): ∀(m:Nat) (ts bs:List T) (r r':List aU) (s:St),m<=n->P m .params d r=some (bs,r')->Gv PR st0 s p L x d r a b k ts->ts.length+m<=100000000->
  aa (aK (uv (.mp p 0) c) ([],s)) (fun q=> ∃s',q=(0,[],s')/\Gv PR st0 s' p L x d r' a b k (ts++bs)):=by
 intro m
 induction m with
 | zero=>intro ts bs r r' s _ h;cases h
 | succ m i=>
  intro ts bs r r' s hm h hg hl;simp only [P] at h;split at h
  .rename_i hb;obtain ⟨⟨v,j⟩,o,h⟩:=bind_some h;obtain ⟨u,rfl⟩:=cO _ _ _ _ _ _ o rfl;obtain ⟨⟨b1,r2⟩,t,h⟩:=bind_some h;cases h;have f:aa (uv (.mp p 0) c ([],s)) (fun q=> ∃s',q= .inl ([],s')/\Gv PR st0 s' p L x d j a b k (ts++[u])):=by
    simp only [uv,ae,ha];refine hg.mH true hs fun s1 _ hg=> ?_;rw [hb];refine aa.step (ao _ _) ?_;exact hg.grow ((ih m (by omega)).atom true _ p L x d r u j hs hg.pz hd o) rfl rfl (by omega) fun s' hg=>aa.some ⟨s',rfl,hg⟩
   obtain ⟨q,e,s',rfl,g⟩:=f;rw [aP e];refine (i _ b1 j _ s' (by omega) t g (by simp;omega)).mono ?_;rintro q ⟨s2,rfl,l⟩;exact ⟨s2,rfl,by simpa using l⟩
  .rename_i hb;cases h;have f:aa (uv (.mp p 0) c ([],s)) (fun q=> ∃s',q= .inr (0,[],s')/\Gv PR st0 s' p L x d r a b k ts):=by
    simp only [uv,ae,ha];refine hg.mH true hs fun s1 _ hg=> ?_;rw [Xi hb];exact aa.step (ai _ _) (aa.some ⟨s1,rfl,hg⟩)
   obtain ⟨q,e,s',rfl,g⟩:=f;exact ⟨_,aF e,s',rfl,by simpa using g⟩
theorem GJ {n:Nat} (ih: ∀m,m < n->Cg m) (hs:Sg L) {a b k:Nat} {c:St} (ha:c.h=a) (hd:d<=64): ∀(m:Nat) (ts bs:List T) (r r':List aU) (s:St),m<=n->P m .arms d r=some (bs,r')->Gv PR st0 s p L x d r a b k ts->ts.length+2 * m<=100000000->
  aa (aK (vc (.mp p 0) c) ([],s)) (fun q=> ∃s',q=(0,[],s')/\Gv PR st0 s' p L x d r' a b k (ts++bs)):=by
 intro m
 induction m with
 | zero=>intro ts bs r r' s _ h;cases h
 | succ m i=>
  intro ts bs r r' s hm h hg hl;simp only [P] at h;split at h
  .rename_i hb;obtain ⟨⟨v,j⟩,o,h⟩:=bind_some h;obtain ⟨u,rfl⟩:=cO _ _ _ _ _ _ o rfl;obtain ⟨⟨b1,r2⟩,t,h⟩:=bind_some h;cases h;have f:aa (vc (.mp p 0) c ([],s)) (fun q=> ∃s',q= .inl ([],s')/\Gv PR st0 s' p L x d j a b k (ts++[aJ r]++[u])):=by
    simp only [vc,ae,ha];refine hg.sQ (s0:=gO) fun s1 _ hg=> ?_;rw [hb];refine aa.step (ao _ _) ?_;refine hg.grow (jx hg.pz) rfl rfl (by omega) fun s' hg=> ?_;exact hg.grow ((ih m (by omega)).arm _ p L x d _ u j hs hg.pz hd o) rfl rfl (by simp;omega) fun s' hg=>aa.some ⟨s',rfl,hg⟩
   obtain ⟨q,e,s',rfl,g⟩:=f;rw [aP e];refine (i _ b1 j _ s' (by omega) t g (by simp;omega)).mono ?_;rintro q ⟨s2,rfl,l⟩;exact ⟨s2,rfl,by simpa using l⟩
  .rename_i hb;cases h;have f:aa (vc (.mp p 0) c ([],s)) (fun q=> ∃s',q= .inr (0,[],s')/\Gv PR st0 s' p L x d r a b k ts):=by
    simp only [vc,ae,ha];refine hg.sQ (s0:=gO) fun s1 _ hg=> ?_;rw [Xi hb];exact aa.step (ai _ _) (aa.some ⟨s1,rfl,hg⟩)
   obtain ⟨q,e,s',rfl,g⟩:=f;exact ⟨_,aF e,s',rfl,by simpa using g⟩
theorem zO {n:Nat} (ih: ∀m,m<=n->Cg m) (hn:n<=10000000):He (n+1):=by
 intro st p L x d r k a e ts r' hs hp hd l C h;have D:eQ ts<=200000000000000:=by
  have:=Hw (n+1) .binding d r ts r' h;rw [show dz jI.binding=[] from rfl,aS] at this;have M:(n+1) * (n+1)<=10000001 * 10000001:=Yy (by omega) (by omega);omega
 have t: ∃xs b es,P n .expr d (bg sj b)=some ([es],r')/\ts=(if bY dn r then [aJ r] else [])++xs++[cN sj b]++[es]/\xs.length<=n+1/\
   (if (nx (if bY dn r then aL r else r)).1=4 then ∃ps,P n .params d (aL (if bY dn r then aL r else r))=some (ps,b)/\xs=aJ (if bY dn r then aL r else r)::ps else P n (.atom true) d (if bY dn r then aL r else r)=some (xs,b)):=by
  simp only [P] at h;generalize (if bY dn r then aL r else r)=r0 at h ⊢;split at h
  .rename_i h4;obtain ⟨⟨xs,b⟩,g,h⟩:=bind_some h;obtain ⟨⟨ps,E⟩,i,g⟩:=bind_some g;cases g;obtain ⟨⟨es,r2⟩,f,h⟩:=bind_some h;obtain ⟨u,rfl⟩:=cO _ _ _ _ _ _ f rfl;cases h;have:=mi _ _ _ _ _ i;exact ⟨aJ r0::ps,E,u,f,rfl,by simpa using this,by rw [if_pos h4];exact ⟨ps,i,rfl⟩⟩
  .rename_i h4;obtain ⟨⟨xs,b⟩,g,h⟩:=bind_some h;obtain ⟨⟨es,r2⟩,f,h⟩:=bind_some h;obtain ⟨u,rfl⟩:=cO _ _ _ _ _ _ f rfl;cases h;have:=mC g rfl;exact ⟨xs,b,u,f,rfl,by omega,by rw [if_neg h4];exact g⟩
 clear h;obtain ⟨xs,b,u,f,y,F,hx⟩:=t;refine aa.wide (aa.step (Pj _ _ _) ?_);unfold Wz;refine aa.step (lA ..) (aa.one rfl ?_);refine aa.alloc (Wd.begin hp) fun s1 G w=>aa.alloc w fun s2 _ w=> ?_;have hg:Gv PR st s2 p L x d r st.h s1.h k [a]:=⟨_,_,w.swap.shut (by simp),lU l,by rw [br];omega⟩;refine hg.sQ (s0:=dn) fun H _ hg=> ?_;refine aa.bind (R:=fun c=> ∃s,c=([],s)/\Gv PR st s p L x d (if bY dn r then aL r else r) st.h s1.h k ([a]++(if bY dn r then [aJ r] else []))) ?_ ?_
 .cases hb:bY dn r with
  | true=>exact aa.step (ao _ _) (hg.grow (jx hg.pz) rfl rfl (by simp) fun A hg=>aa.some ⟨A,rfl,hg⟩)
  | false=>exact aa.step (ai _ _) (aa.some ⟨H,rfl,by simpa using hg⟩)
 have I:(if bY dn r then [aJ r] else []).length<=1:=by split <;> simp
 generalize (if bY dn r then [aJ r] else [])=rc at *;generalize (if bY dn r then aL r else r)=r0 at *;rintro c ⟨A,rfl,hg⟩;refine aa.step (ae _) (hg.Lx fun N _ hg=> ?_);refine aa.bind (R:=fun c=> ∃s,c=([],s)/\Gv PR st s p L x d b st.h s1.h k ([a]++rc++xs)) ?_ ?_
 .by_cases h4:(nx r0).1=4
  .rw [if_pos h4] at hx;obtain ⟨ps,i,rfl⟩:=hx;refine aa.step (cZ (c:=true) (by rw [h4];rfl) _ _) (aa.step (ao _ _) ?_);refine hg.grow (jx hg.pz) rfl rfl (by simp;omega) fun j hg=> ?_;refine aa.bind (Cl (fun m hm=>ih m (by omega)) hs rfl hd n _ ps _ b j (WW _) i hg (by simp;omega)) ?_;rintro q ⟨B,rfl,hg⟩;exact aa.step (ae _) (aa.some ⟨B,rfl,by simpa using hg⟩)
  .rw [if_neg h4] at hx;obtain ⟨J,rfl⟩:=cO _ _ _ _ _ _ hx rfl;refine aa.step (cZ (c:=false) (WX.2 (by omega)) _ _) (aa.step (ai _ _) ?_);exact hg.grow ((ih n (WW _)).atom true _ p L x d r0 J b hs hg.pz hd hx) rfl rfl (by simp;omega) fun j hg=>aa.some ⟨j,rfl,hg⟩
 .rintro c ⟨j,rfl,hg⟩;refine aa.step (ae _) ?_;refine hg.grow (kC hg.pz sj) rfl rfl (by simp;omega) fun B hg=> ?_;refine hg.grow ((ih n (WW _)).expr _ p L x d _ u r' hs hg.pz hd f) rfl rfl (by simp;omega) fun O hg=> ?_;obtain ⟨v,es,w,z,K⟩:=hg;refine aa.fq WS w (aa.one w.LC.one ?_);refine aa.store [_] w fun Q _ w=> ?_;refine aa.fq (WZ _ WS) w (aa.some ?_);have ho:=w.o _ WS;refine ⟨v,es,rfl,ho.1,ho.2, ?_, ?_,w.pz,w.k⟩
  .rw [y];have:[a]++rc++xs++[cN sj b]++[u]=a::(rc++xs++[cN sj b]++[u]):=by simp
   rw [<- this];exact z
  .rw [bz];omega
end
section
variable {β:Type} {Q:β->Prop} {PT:TypeId} {st0 st:St} {p:Nat} {L:List aU} {x:AV} {d d':Nat} {r r':List aU} {l l1 l2:List Vr} {os:List (AV×List AV)} {t:T}
theorem _root_.Go.VM.aa.EB (w:Wd PR st0 st p L x d r [(st0.h,ND,z4)] []) (k:Nat) {K:St->St->Option β} (g: ∀s s',Gv PR st0 s' p L x d (aL r) s.h st0.h k [aJ r]->aa (K s s') Q):
  aa (bc (aV vE) 27 [.mp p 0] st fun v s _=>wq v fun n1 c tx y=>ab y (ab y (aD y fun y=>bh (St.add s (.cells ND z4)) fun s1=>aM (aV vE) 4 (.mp (St.h s) 0) (.agg [.int .u8 (k:Int),.int .u8 0,.str [],.sl 4 [.agg [.int .u8 n1,.int .u8 c,.str tx,y]] .shut]) [.int .u8 (k:Int),.int .u8 0,.str [],.sl 4 [.agg [.int .u8 n1,.int .u8 c,.str tx,y]] .shut] s1 fun _ s' _=>K s s'))) Q:=by
 refine aa.pq w fun e tk tx y s hnd a w=>aa.two hnd (aa.fit hnd fun f b _ _=> ?_);refine aa.alloc w fun s1 _ w=>aa.store [] w fun s2 _ w=> ?_;exact g s s2 ⟨_,_,w.shut (by simp),lU b,by rw [br];exact a⟩
theorem C0 {n:Nat} (ih: ∀m,m<=n->Cg m) (hn:n<=10000000):jd 78 [] .whole (n+1):=by
 intro st p L x d r t r' hs hp hd h;have f:eP t<=200000000000000:=by
  have:=Hw (n+1) .whole d r [t] r' h;rw [show dz jI.whole=[] from rfl,aS,br] at this;have hq:(n+1) * (n+1)<=10000001 * 10000001:=Yy (by omega) (by omega);omega
 simp only [P] at h;refine aa.wide (aa.step (Ps _ _) ?_);unfold VE;refine aa.alloc (Wd.begin hp) fun s0 h0 w=> ?_;refine aa.sQ (s0:=mU) w fun s2 _ w=> ?_;have a:=ih n (WW _);have O:=bS r;split at h
 .rename_i hb;obtain ⟨⟨bs,r2⟩,g,h⟩:=bind_some h;obtain ⟨⟨es,C⟩,i,h⟩:=bind_some h;obtain ⟨e,rfl⟩:=cO _ _ _ _ _ _ i rfl;cases h;have A:=pO _ _ _ _ _ g;refine aa.step (cZ (c:=true) hb _ _) (aa.step (ao _ _) ?_);refine aa.pq w fun k tk tx y s hnd l w=>aa.two hnd (aa.fit hnd fun z1 E _ _=> ?_);refine aa.gm (a.binding _ p L x d _ 6 (aJ r) _ bs r2 hs w.pz hd E (by omega) g) rfl rfl fun v B hv=> ?_;obtain ⟨Q,S,hve,ho,F,G,T,H,I⟩:=hv;have hve:v= .agg [.int .u8 ((6:Nat):Int),.int .u8 0,.str [],Q]:=hve;have U:=(w.move I H).U7 ho fun j hj=>Xs w.h (F j hj);rw [hve];refine aa.step (lA ..) (aa.alloc U fun J _ V=>aa.one ho.one ?_);refine aa.store [] V fun D _ w=> ?_;have hg:Gv PR st D p L x d r2 B.h st.h 6 (aJ r::bs):=⟨_,_,w,G,by omega⟩;refine hg.grow (kC hg.pz L4) rfl rfl (by simp;omega) fun z hg=> ?_;refine hg.grow (a.expr _ p L x d _ e _ hs hg.pz hd i) rfl rfl (by simp;omega) fun M hg=> ?_;have:=hg.nd.fin (Xs f (by omega));exact this
 rename_i hb;refine aa.step (cZ (c:=false) (Xi hb) _ _) (aa.step (ai _ _) ?_);refine aa.sQ (s0:=Nr) w fun s3 _ w=> ?_;split at h
 .rename_i hb;obtain ⟨⟨N,b⟩,g,h⟩:=bind_some h;obtain ⟨u,rfl⟩:=cO _ _ _ _ _ _ g rfl;obtain ⟨⟨ps,r2⟩,i,h⟩:=bind_some h;obtain ⟨⟨es,C⟩,o,h⟩:=bind_some h;obtain ⟨e,rfl⟩:=cO _ _ _ _ _ _ o rfl;cases h;have W:=mi _ _ _ _ _ i;refine aa.step (cZ (c:=true) hb _ _) (aa.step (ao _ _) ?_);refine aa.EB w 7 fun s s' hg=> ?_;refine hg.grow (a.atom true _ p L x d _ u b hs hg.pz hd g) rfl rfl (by simp) fun B hg=> ?_;refine aa.bind (zL (fun m hm=>ih m (by omega)) hs rfl hd n _ ps _ r2 B (WW _) i hg (by simp;omega)) ?_;rintro q ⟨J,rfl,hg⟩;refine aa.step (ae _) ?_;refine hg.grow (kC hg.pz fB) rfl rfl (by simp;omega) fun D hg=> ?_;refine hg.grow (a.expr _ p L x d _ e _ hs hg.pz hd o) rfl rfl (by simp;omega) fun z hg=> ?_;refine hg.nd.fin (Xs ?_ (by omega:200000000000000<=1000000000000000));simpa [W6] using f
 rename_i hb;refine aa.step (cZ (c:=false) (Xi hb) _ _) (aa.step (ai _ _) ?_);refine aa.sQ (s0:=Ur) w fun s4 _ w=> ?_;split at h
 .rename_i hb;obtain ⟨⟨N,b⟩,g,h⟩:=bind_some h;obtain ⟨u,rfl⟩:=cO _ _ _ _ _ _ g rfl;obtain ⟨⟨b1,r2⟩,i,h⟩:=bind_some h;obtain ⟨v,rfl⟩:=cO _ _ _ _ _ _ i rfl;obtain ⟨⟨es,C⟩,o,h⟩:=bind_some h;obtain ⟨e,rfl⟩:=cO _ _ _ _ _ _ o rfl;cases h;refine aa.step (cZ (c:=true) hb _ _) (aa.step (ao _ _) ?_);refine aa.EB w 8 fun s s' hg=> ?_;refine hg.grow (a.expr _ p L x d _ u b hs hg.pz hd g) rfl rfl (by simp) fun B hg=> ?_;refine hg.grow (kC hg.pz rW) rfl rfl (by simp) fun J hg=> ?_;refine hg.grow (a.expr _ p L x d _ v r2 hs hg.pz hd i) rfl rfl (by simp) fun D hg=> ?_;refine hg.grow (kC hg.pz rT) rfl rfl (by simp) fun z hg=> ?_;refine hg.grow (a.expr _ p L x d _ e _ hs hg.pz hd o) rfl rfl (by simp) fun M hg=> ?_;exact hg.nd.fin (Xs f (by omega))
 rename_i hb;refine aa.step (cZ (c:=false) (Xi hb) _ _) (aa.step (ai _ _) ?_);refine aa.sQ (s0:=CG) w fun B _ w=> ?_;split at h
 .rename_i hb;obtain ⟨⟨N,b⟩,g,h⟩:=bind_some h;obtain ⟨u,rfl⟩:=cO _ _ _ _ _ _ g rfl;obtain ⟨⟨b1,C⟩,i,h⟩:=bind_some h;obtain ⟨v,rfl⟩:=cO _ _ _ _ _ _ i rfl;obtain ⟨⟨cs,r4⟩,o,h⟩:=bind_some h;cases h;have X:=DF _ _ _ _ _ o;refine aa.step (cZ (c:=true) hb _ _) (aa.step (ao _ _) ?_);refine aa.EB w 9 fun s s' hg=> ?_;refine hg.grow (a.expr _ p L x d _ u b hs hg.pz hd g) rfl rfl (by simp) fun J hg=> ?_;refine hg.grow (kC hg.pz bD) rfl rfl (by simp) fun D hg=> ?_;refine hg.sQ (s0:=gO) fun z _ hg=> ?_;refine aa.bind (R:=fun c=> ∃s',c=([],s')/\Gv PR st s' p L x d (if bY gO (bg bD b)=true then aL (bg bD b) else bg bD b) s.h st.h 9 ([aJ r]++[u]++[cN bD b]++if bY gO (bg bD b)=true then [aJ (bg bD b)] else [])) ?_ ?_
  .cases Y:bY gO (bg bD b) with
   | true=>exact aa.step (ao _ _) (hg.grow (jx hg.pz) rfl rfl (by simp) fun z hg=>aa.some ⟨z,rfl,hg⟩)
   | false=>exact aa.step (ai _ _) (aa.some ⟨z,rfl,by rw [if_neg (by simp),if_neg (by simp),Xe];exact hg⟩)
  .rintro c ⟨M,rfl,hg⟩;have A:(if bY gO (bg bD b)=true then [aJ (bg bD b)] else []).length<=1:=by split <;> simp
   generalize (if bY gO (bg bD b)=true then [aJ (bg bD b)] else [])=bar at A hg f ⊢;refine aa.step (ae _) ?_;refine hg.grow (a.arm _ p L x d _ v C hs hg.pz hd i) rfl rfl (by simp;omega) fun K hg=> ?_;refine aa.bind (GJ (fun m hm=>ih m (by omega)) hs rfl hd n _ cs _ _ K (WW _) o hg (by simp;omega)) ?_;rintro q ⟨Z,rfl,hg⟩;refine aa.step (ae _) ?_;exact hg.nd.fin (Xs f (by omega))
 .rename_i hb;refine aa.step (cZ (c:=false) (Xi hb) _ _) (aa.step (ai _ _) ?_);exact aa.node w (a.level 0 (by omega) _ p L x d r t r' hs w.pz hd h) rfl rfl fun k tk tx y s hnd l w=>aa.res [] (old:=z4) w rfl hnd l
theorem NJ: ∀n,n<=10000000->Cg n:=by
 intro n
 induction n using Nat.strongRecOn with
 | _ n ih=>
  intro hn;cases n with
  | zero=>
   refine ⟨?_, ?_,fun k _=> ?_,fun k _=> ?_, ?_,fun pat=> ?_,fun list pat=> ?_, ?_, ?_, ?_⟩
   case refine_10=>
    intro st p L x d r k a e ts r' _ _ _ _ _ h;cases h
   all_goals
    intro st p L x d r t r' _ _ _ h;cases h
  | succ n=>
   have c: ∀m,m<=n->Cg m:=fun m hm=>ih m (by omega) (by omega);have i:=c n (WW _);have b:n<=10000000:=by omega
   have g:=fun k (hk:k<=6)=>Dg c b k hk;exact ⟨Gm i,C0 c b,g,fun k hk=>Lo g (fun m e=>by cases e;exact i.neg) k hk,Ji c b,fun pat=>Gs i pat,fun list pat=>Cr c b list pat,zH i b,Jk i b,zO c b⟩
end
section
variable {β:Type} {Q:β->Prop} {PT:TypeId} {st0 st s:St} {L:List aU} {x:AV} {d d':Nat} {r r':List aU} {l l1 l2:List Vr} {os:List (AV×List AV)} {t:T}
theorem Fc {f:St} {kc:Nat} (hc:f.h=kc): ∀(m:Nat) (r:List aU) (ts:List T) (es:List AV) (v:AV) (s:St) (os:List (AV×List AV)),
  Wd PR st0 s 1 L x d r ((kc,ND,[.int .u8 3,.int .u8 0,.str [],v])::l2) ((v,es)::os)->bO ts es->eQ ts<=2->ts.length+m<=100000000->r.length<=m->
  aa (aK (vh f) ([],s)) (fun q=> ∃s' v' es',q=(0,[],s')/\Wd PR st0 s' 1 L x d (skip m r).2 ((kc,ND,[.int .u8 3,.int .u8 0,.str [],v'])::l2) ((v',es')::os)/\bO (ts++(skip m r).1) es'/\eQ (ts++(skip m r).1)<=2):=by
 have stop: ∀(r:List aU) (es:List AV) (v:AV) (s:St) (os:List (AV×List AV)),¬ ((nx r).1≠0/\bY mU r=false)->Wd PR st0 s 1 L x d r ((kc,ND,[.int .u8 3,.int .u8 0,.str [],v])::l2) ((v,es)::os)->
   aa (vh f ([],s)) (fun q=> ∃s',q= .inr (0,[],s')/\Wd PR st0 s' 1 L x d r ((kc,ND,[.int .u8 3,.int .u8 0,.str [],v])::l2) ((v,es)::os)):=by
  intro r es v s os a w;simp only [vh,ae];refine aa.bind (R:=fun c=> ∃s',c=([.bool false],s')/\Wd PR st0 s' 1 L x d r ((kc,ND,[.int .u8 3,.int .u8 0,.str [],v])::l2) ((v,es)::os)) ?_ ?_
  .refine aa.Lx w fun s1 w=> ?_;by_cases h0:(nx r).1=0
   .rw [h0];exact aa.some ⟨s1,rfl,w⟩
   .have hb:bY mU r=true:=by
     cases hb:bY mU r with
     | true=>rfl
     | false=>exact absurd ⟨h0,hb⟩ a
    refine aa.step (cZ (c:=true) (qe (b:=0) h0) _ _) (aa.step (ao _ _) ?_);refine aa.sQ (s0:=mU) w fun s2 _ w=> ?_;exact aa.some ⟨s2,by rw [hb];rfl,w⟩
  .rintro c ⟨s1,rfl,w⟩;exact aa.some ⟨s1,rfl,w⟩
 intro m
 induction m with
 | zero=>
  intro r ts es v s os w i j hl hr;obtain rfl:r=[]:=XF (by omega);simp only [skip,Xe];obtain ⟨q,e,s',rfl,w'⟩:=stop [] es v s os (fun h=>h.1 rfl) w;exact ⟨_,aF e,s',v,es,rfl,w',i,j⟩
 | succ m l=>
  intro r ts es v s os w i j hl hr;by_cases a:(nx r).1≠0/\bY mU r=false
  .have n:aa (vh f ([],s)) (fun q=> ∃s' v' e,q= .inl ([],s')/\Wd PR st0 s' 1 L x d (aL r) ((kc,ND,[.int .u8 3,.int .u8 0,.str [],v'])::l2) ((v',es++[e])::os)/\bO (ts++[aJ r]) (es++[e])):=by
    simp only [vh,ae,hc];refine aa.bind (R:=fun c=> ∃s',c=([.bool true],s')/\Wd PR st0 s' 1 L x d r ((kc,ND,[.int .u8 3,.int .u8 0,.str [],v])::l2) ((v,es)::os)) ?_ ?_
    .refine aa.Lx w fun s1 w=> ?_;refine aa.step (cZ (c:=true) (qe (b:=0) a.1) _ _) (aa.step (ao _ _) ?_);refine aa.sQ (s0:=mU) w fun s2 _ w=> ?_;exact aa.some ⟨s2,by rw [a.2];rfl,w⟩
    .rintro c ⟨s1,rfl,w⟩;simp only [ad,ae,ak,ao];refine aa.grow [] w (jx w.pz) rfl rfl i (by omega) (by omega) fun v' e s2 g _ w=> ?_;exact aa.some ⟨s2,v',e,rfl,w,g⟩
   obtain ⟨q,e,s',v',z,rfl,w',g⟩:=n;rw [aP e];have u:=ej a.1;have k:skip (m+1) r=(aJ r::(skip m (aL r)).1,(skip m (aL r)).2):=by
    simp only [skip];rw [if_pos a]
   rw [k];refine (l (aL r) _ _ v' s' os w' g ?_ (by simp;omega) (by omega)).mono ?_
   .have:=bS r;rw [cq,br];omega
   .rintro q ⟨s2,v2,o,rfl,y,p,t⟩;exact ⟨s2,v2,o,rfl,y,by simpa using p,by simpa using t⟩
  .have k:skip (m+1) r=([],r):=by
    simp only [skip];rw [if_neg a]
   rw [k,Xe];obtain ⟨q,e,s',rfl,w'⟩:=stop r es v s os a w;exact ⟨_,aF e,s',v,es,rfl,w',i,j⟩
theorem FU (E:Sg L): ∀(N:Nat) (r:List aU) (D:List T) (ts:List T) (es:List AV) (v:AV) (s:St),N<=10000000->decls N r=some D->r.length<=1000000->
  Wd PR st0 s 1 L x 0 r [(2,ND,[.int .u8 4,.int .u8 0,.str [],v])] [(v,es)]->bO ts es->eQ ts<=500000000000000->ts.length+N<=90000000->
  aa (aK sa ([],s)) (fun q=> ∃s' B p v' es',q=(0,[],s')/\D=p++[aJ B]/\Wd PR st0 s' 1 L x 0 B [(2,ND,[.int .u8 4,.int .u8 0,.str [],v'])] [(v',es')]/\bO (ts++p) es'/\(ts++p).length<=90000000/\eQ (ts++p)<=500000000000000):=by
 intro N
 induction N with
 | zero=>intro r D ts es v s _ h;cases h
 | succ n F=>
  intro r D ts es v s t h a7 w f G hl;simp only [decls] at h;split at h
  .rename_i h0;cases h;have H:aa (sa ([],s)) (fun q=> ∃s',q= .inr (0,[],s')/\Wd PR st0 s' 1 L x 0 r [(2,ND,[.int .u8 4,.int .u8 0,.str [],v])] [(v,es)]):=by
    simp only [sa,ae];refine aa.Lx w fun s1 w=> ?_;rw [h0];exact aa.some ⟨s1,rfl,w⟩
   obtain ⟨q,e,s',rfl,w'⟩:=H;exact ⟨_,aF e,s',r,[],v,es,rfl,rfl,w',by simpa using f,by simp;omega,by rw [Xe];exact G⟩
  .rename_i h0;have I: ∃(u:T) (i:List aU) (j:List T),decls n i=some j/\D=u::j/\eP u<=300000000000000/\i.length<=r.length/\
     aa (sa ([],s)) (fun q=> ∃s' v' e,q= .inl ([],s')/\Wd PR st0 s' 1 L x 0 i [(2,ND,[.int .u8 4,.int .u8 0,.str [],v'])] [(v',es++[e])]/\iz u e):=by
    split at h
    .rename_i hb;obtain ⟨⟨bs,i⟩,C,h⟩:=bind_some h;obtain ⟨j,z,h⟩:=bind_some h;cases h;have a8:=zr (by omega:n<=10000000) C rfl;have bb:=bS r;refine ⟨_,i,j,z,rfl,by simp only [bE,bz];omega, ?_, ?_⟩
     .have:=Am (Q:=fun q=>q.length<=r.length) (fun q hq=>Xs (iD q) hq) _ _ _ _ _ _ C (iD r);exact this
     simp only [sa,ae];refine aa.Lx w fun s1 w=> ?_;refine aa.step (cZ (c:=true) (qe (b:=0) h0) _ _) (aa.step (ao _ _) ?_);refine aa.bind (R:=fun c=> ∃s' v' e,c= .inl ([],s')/\Wd PR st0 s' 1 L x 0 i [(2,ND,[.int .u8 4,.int .u8 0,.str [],v'])] [(v',es++[e])]/\iz (node 5 (aJ r::bs)) e) ?_ ?_
     .refine aa.sQ (s0:=mU) w fun s2 _ w=> ?_;rw [hb];refine aa.step (ao _ _) ?_;refine aa.pq w fun k tk tx y s3 hnd aw w=> ?_;refine aa.two hnd (aa.fit hnd fun z1 J _ _=> ?_);refine aa.alloc w fun s4 _ w=>aa.store [] w fun s5 _ w=> ?_;refine aa.gv (a:=2) (WZ _ WS) w rfl ?_;refine aa.fq (WS) w ?_;refine aa.gm ((NJ n (by omega)).binding s5 1 L x 0 _ 5 (aJ r) _ bs i E w.pz (by omega) J (by omega) C) rfl rfl fun v6 s6 hv=> ?_;obtain ⟨y6,K,hve,ho,_,A,a1,M,O⟩:=hv;have hve:v6= .agg [.int .u8 ((5:Nat):Int),.int .u8 0,.str [],y6]:=hve;have l:=w.move O M;have P:=w.same l (a:=2) (WZ _ WS) w.LC f (by omega);rw [hve];refine aa.step (lA ..) (aa.step (gP (by rw [P];rfl) _) ?_);have d:Nd (node 5 (aJ r::bs)) 5 0 [] y6:=⟨⟨_,_,rfl,CA.own ho,A⟩⟩;refine aa.two d (aa.fit d fun z2 m h2 o=>aa.one h2 (aa.step (o _) ?_));refine aa.app l (by simp) (by rw [bO.len f];simp;omega) fun S s7 _ g U=> ?_;refine aa.one g (aa.one g (aa.jL [_] U (WU rfl) fun V _ W=> ?_));exact aa.some ⟨V,S,_,rfl,W.sub (Yf _ _),m⟩
     .rintro c ⟨s',v',e,rfl,w',t⟩;exact aa.step (cF _ _) (aa.step (ae _) (aa.some ⟨s',v',e,rfl,w',t⟩))
    .rename_i hb;obtain ⟨j,z,h⟩:=bind_some h;cases h;refine ⟨_,_,j,z,rfl,by have:=DB r.length r;simp only [bE];omega,wK _ _, ?_⟩;simp only [sa,ae];refine aa.Lx w fun s1 w=> ?_;refine aa.step (cZ (c:=true) (qe (b:=0) h0) _ _) (aa.step (ao _ _) ?_);refine aa.bind (R:=fun c=> ∃s' v' e,c= .inl ([],s')/\Wd PR st0 s' 1 L x 0 (skip r.length r).2 [(2,ND,[.int .u8 4,.int .u8 0,.str [],v'])] [(v',es++[e])]/\iz (node 3 (skip r.length r).1) e) ?_ ?_
     .refine aa.sQ (s0:=mU) w fun s2 _ w=> ?_;rw [Xi hb];refine aa.step (ai _ _) ?_;refine aa.alloc w fun s3 _ w=>aa.store [] w fun s4 _ w=> ?_;refine aa.bind (Fc rfl r.length r [] [] .ay s4 _ w.ay bO.nil (by simp [aS]) (by simp;omega) (WW _)) ?_;rintro q ⟨s6,v6,K,rfl,l,X,bt⟩;refine aa.step (ae _) ?_;refine aa.gv (a:=2) (WZ _ WS) l rfl ?_;refine aa.fq (WS) l ?_;have d:Nd (node 3 (skip r.length r).1) 3 0 [] v6:=⟨⟨_,_,rfl,l.LC,by simpa using X⟩⟩;refine aa.two d (aa.fit d fun z2 m h2 o=>aa.one h2 (aa.step (o _) ?_));refine aa.app l.drop (by simp) (by rw [bO.len f];simp;omega) fun S s7 _ g U=> ?_;refine aa.one g (aa.one g (aa.jL [_] U (WU rfl) fun V _ W=> ?_));exact aa.some ⟨V,S,_,rfl,W.sub (Yf _ _),m⟩
     .rintro c ⟨s',v',e,rfl,w',t⟩;exact aa.step (cF _ _) (aa.step (ae _) (aa.some ⟨s',v',e,rfl,w',t⟩))
   obtain ⟨u,i,j,z,rfl,b4,a6,q,e,s',v',C,rfl,w',t⟩:=I;rw [aP e];refine (F i j (ts++[u]) _ v' s' (by omega) z (by omega) w' (bO.app f (lU t)) (by rw [cq,br];omega) (by simp;omega)).mono ?_;rintro q ⟨s2,B,p,v2,Y,rfl,rfl,w2,Z,ar,av⟩;exact ⟨s2,B,u::p,v2,Y,rfl,rfl,w2,by simpa using Z,by simpa using ar,by simpa using av⟩
end
end Go.Proofs.YtgecmbapkplklaaGreatDoor.Vm
namespace Go.Proofs.YtgecmbapkplklaaGreatDoor.Vm
open Go Go.VM Go.Proofs Go.Lex
def Hb (o:Int):List UInt8->Int
 | []=>o
 | b::l=>Hb (o * 64+b.toNat - 128) l
theorem AD (l:List UInt8) (hl:l.length<=4) (st:St): ∀(r:List UInt8) (i:Nat) (o:Int),l.drop i=r->i<=l.length-> -(1000 * 100 ^ i:Nat)<=o->o<=(1000 * 100 ^ i:Nat)->
  aK (zt l) ([.int .i64 o,.int .i64 (i:Int)],st)=some (0,[.int .i64 (Hb o r)],st)
 | [],i,o,hd,hi,_,_=>by
  have:=Xz.1 hd;have q:¬ (i:Int) < (l.length:Int):=by omega
  refine aF ?_;simp only [zt,ad,af,ae,aq,if_neg q,Hb]
 | b::r,i,o,hd,hi,h1,h2=>by
  obtain ⟨hg,hr,a⟩:=drop_cons hd;have q:(i:Int) < (l.length:Int):=by omega
  have hb:l[i]=b:=fR a hg;have c:=UInt8.toNat_lt b;have hp:(100:Nat) ^ i<=100 ^ 4:=Nat.pow_le_pow_right (by omega) (by omega);have hp1:1<=(100:Nat) ^ i:=Nat.one_le_pow _ _ (by omega);have d:(100:Nat) ^ (i+1)=100 * 100 ^ i:=by rw [Nat.pow_succ,Nat.mul_comm]
  have e:(100:Nat) ^ 4=100000000:=by decide
  have f:IntKind.wrap .i64 (o * 64)=o * 64:=wrap_i64 (by omega) (by omega);have g:IntKind.wrap .i64 (b.toNat:Int)=(b.toNat:Int):=wrap_i64 (by omega) (by omega);have h:IntKind.wrap .i64 (o * 64+(b.toNat:Int))=o * 64+(b.toNat:Int):=wrap_i64 (by omega) (by omega);have j:IntKind.wrap .i64 (o * 64+(b.toNat:Int) - 128)=o * 64+(b.toNat:Int) - 128:=wrap_i64 (by omega) (by omega);have ih:=AD l hl st r (i+1) (o * 64+(b.toNat:Int) - 128) hr (by omega) (by omega) (by omega);rw [aP (s':=([.int .i64 (o * 64+(b.toNat:Int) - 128),.int .i64 ((i+1:Nat):Int)],st)),ih]
  .rfl
  .simp only [zt,ad,af,ae,aq,if_pos q,aB,f,bI a,hb,g,h,j,bm (show i+1<=9223372036854775807 by omega)]
def oD:Nat->Int
 | 2=>192
 | 3=>224
 | 4=>240
 | _=>0
def iw:List UInt8->Int
 | []=>0
 | [b]=>b.toNat
 | b::l=>Hb ((b.toNat:Int) - oD (l.length+1)) l
theorem IL {β:Type} {n:Nat} (h:2<=n) (h4:n<=4) (st:St) (K:AV->List Nat->Option β):bU 1 (AV.sl 1 [AV.int .i64 0,AV.int .i64 0,AV.int .i64 192,AV.int .i64 224,AV.int .i64 240] Perm.shut) (n:Int) st K=K (.ip [.int .i64 (oD n)]) []:=by
 match n,h,h4 with
 | 2,_,_=>rfl
 | 3,_,_=>rfl
 | 4,_,_=>rfl
theorem Ns {l:List UInt8} (h:l≠[]) (h4:l.length<=4):(aV vE).bare 71 [.str l]=some (.int .i64 (iw l)):=by
 refine aX rfl ((Ry _).trans ?_);cases l with
 | nil=>exact absurd rfl h
 | cons b r=>
  have d:=UInt8.toNat_lt b;have i0: ∀{β:Type} (K:UInt8->Option β),eC (b::r) 0 K=K b:=fun K=>bI (k:=0) (by simp) K;have a:IntKind.wrap .i64 (b.toNat:Int)=(b.toNat:Int):=wrap_i64 (by omega) (by omega);cases r with
  | nil=>
   have q:(([b]:List UInt8).length:Int)=1:=rfl;simp only [Uy,ax,dQ,if_pos q,i0,aB,a,iw]
  | cons c r=>
   have q:¬ (((b::c::r).length:Nat):Int)=1:=by simp;omega
   have f:oD ((b::c::r).length)<=240/\0<=oD ((b::c::r).length):=by
    unfold oD;split <;> omega
   have e:IntKind.wrap .i64 ((b.toNat:Int) - oD ((b::c::r).length))=(b.toNat:Int) - oD ((b::c::r).length):=wrap_i64 (by omega) (by omega);have hl:=AD (b::c::r) h4 (St.mk 0 0 Tr.leaf) (c::r) 1 ((b.toNat:Int) - oD ((b::c::r).length)) rfl (by simp) (by omega) (by omega);have hl:aK (zt (b::c::r)) ([.int .i64 ((b.toNat:Int) - oD ((b::c::r).length)),.int .i64 1],St.mk 0 0 Tr.leaf)= _:=hl;simp only [Uy,ax,dQ,if_neg q,i0,aB,a,IL (show 2<=(b::c::r).length by simp) h4,bx,bq,aj,af,e];rw [hl];simp only [aj,ad,af,ae,iw,Xk]
def tq (k:Nat):List UInt8:=
 if 1114111 < k\/(55296<=k/\k<=57343) then []
 else if k < 128 then [UInt8.ofNat k]
 else if k < 2048 then [UInt8.ofNat (192+k / 64),UInt8.ofNat (128+k % 64)]
 else if k < 65536 then [UInt8.ofNat (224+k / 4096),UInt8.ofNat (128+k / 64 % 64),UInt8.ofNat (128+k % 64)]
 else [UInt8.ofNat (240+k / 262144),UInt8.ofNat (128+k / 4096 % 64),UInt8.ofNat (128+k / 64 % 64),UInt8.ofNat (128+k % 64)]
theorem rJ {n:Nat} (h:n<=255):IntKind.wrap .u8 (n:Int)=(n:Int):=by
 show (if (false&&decide ((n:Int) % (2 ^ 8:Int)>=(2 ^ 7:Int)))=true then (n:Int) % (2 ^ 8:Int) - (2 ^ 8:Int) else (n:Int) % (2 ^ 8:Int))= _;simp only [X3,Xw,if_false];omega
theorem GY (k:Nat) (hk:k<=9223372036854775807):(aV vE).bare 72 [.int .i64 (k:Int)]=some (.str (tq k)):=by
 refine aX rfl ((PV _).trans ?_);have q0:¬ ((k:Int) < 0):=by omega
 simp only [VS,af,aq,if_neg q0];unfold tq;by_cases c1:(k:Int) > 1114111
 .simp only [if_pos c1,aj,ad,ak,ae,ao,if_pos (show 1114111 < k\/(55296<=k/\k<=57343) by omega)]
 rw [if_neg c1];by_cases c2:(k:Int)>=55296/\(k:Int)<=57343
 .simp only [if_pos c2.1,Ye c2.2,aj,ad,ak,ae,ao,if_pos (show 1114111 < k\/(55296<=k/\k<=57343) by omega)]
 have f: ∀{β:Type} (K:bT->Option β),az (if (k:Int)>=55296 then some (([AV.bool (decide ((k:Int)<=57343))],St.mk 0 0 Tr.leaf):bT) else some ([AV.bool false],St.mk 0 0 Tr.leaf)) K=K ([AV.bool false],St.mk 0 0 Tr.leaf):=by
  intro β K;by_cases h:(k:Int)>=55296
  .have:¬ (k:Int)<=57343:=fun h2=>c2 ⟨h,h2⟩;rw [if_pos h,X5 this];rfl
  .rw [if_neg h];rfl
 rw [f];rw [if_neg (show ¬ (1114111 < k\/(55296<=k/\k<=57343)) by omega)];simp only [ad,ak,ae,ai,aq];by_cases c3:k < 128
 .rw [if_pos (show (k:Int) < 128 by omega),if_pos c3];simp only [aB,rJ (show k<=255 by omega),Int.toNat_natCast]
 rw [if_neg (show ¬ (k:Int) < 128 by omega),if_neg c3];have t64:Int.tdiv (k:Int) 64=((k / 64:Nat):Int):=rfl;have a:Int.tdiv (k:Int) 4096=((k / 4096:Nat):Int):=rfl;have b:Int.tdiv (k:Int) 262144=((k / 262144:Nat):Int):=rfl;have m64: ∀n:Nat,Int.tmod (n:Int) 64=((n % 64:Nat):Int):=fun n=>rfl;have e: ∀c n:Nat,c+n<=9223372036854775807->IntKind.wrap .i64 ((c:Int)+(n:Int))=((c+n:Nat):Int):=fun c n h=>mD h;have d: ∀n:Nat,n<=1000->IntKind.wrap .i64 (128+(n:Int))=((128+n:Nat):Int):=fun n h=>e 128 n (by omega);have a2: ∀n:Nat,n<=1000->IntKind.wrap .i64 (192+(n:Int))=((192+n:Nat):Int):=fun n h=>e 192 n (by omega);have a3: ∀n:Nat,n<=1000->IntKind.wrap .i64 (224+(n:Int))=((224+n:Nat):Int):=fun n h=>e 224 n (by omega);have a4: ∀n:Nat,n<=1000->IntKind.wrap .i64 (240+(n:Int))=((240+n:Nat):Int):=fun n h=>e 240 n (by omega);by_cases c4:k < 2048
 .rw [if_pos (show (k:Int) < 2048 by omega),if_pos c4];simp only [aB,t64,m64,rL (show k / 64<=9223372036854775807 by omega),d (k % 64) (by omega),a2 (k / 64) (by omega),rJ (show 192+k / 64<=255 by omega),rJ (show 128+k % 64<=255 by omega),Int.toNat_natCast]
 rw [if_neg (show ¬ (k:Int) < 2048 by omega),if_neg c4];by_cases c5:k < 65536
 .rw [if_pos (show (k:Int) < 65536 by omega),if_pos c5];simp only [aB,t64,a,m64,rL (show k / 64<=9223372036854775807 by omega),rL (show k / 4096<=9223372036854775807 by omega),d (k % 64) (by omega),d (k / 64 % 64) (by omega),a3 (k / 4096) (by omega),rJ (show 224+k / 4096<=255 by omega),rJ (show 128+k / 64 % 64<=255 by omega),rJ (show 128+k % 64<=255 by omega),Int.toNat_natCast]
 rw [if_neg (show ¬ (k:Int) < 65536 by omega),if_neg c5];simp only [aB,t64,a,b,m64,rL (show k / 64<=9223372036854775807 by omega),rL (show k / 4096<=9223372036854775807 by omega),rL (show k / 262144<=9223372036854775807 by omega),d (k % 64) (by omega),d (k / 64 % 64) (by omega),d (k / 4096 % 64) (by omega),a4 (k / 262144) (by omega),rJ (show 240+k / 262144<=255 by omega),rJ (show 128+k / 4096 % 64<=255 by omega),rJ (show 128+k / 64 % 64<=255 by omega),rJ (show 128+k % 64<=255 by omega),Int.toNat_natCast]
theorem of_eq {n:Nat} {a:UInt8} (h:n<=255):UInt8.ofNat n=a↔n=a.toNat:=by
 constructor
 .intro e;rw [<- e,UInt8.toNat_ofNat'];omega
 .intro e;apply Yr.1;rw [UInt8.toNat_ofNat'];have:=UInt8.toNat_lt a;omega
theorem UU (a:UInt8):tq a.toNat=[a]↔a.toNat < 128:=by
 have ha:=UInt8.toNat_lt a;unfold tq;rw [if_neg (by omega)];by_cases h:a.toNat < 128
 .rw [if_pos h];simp [h]
 .rw [if_neg h,if_pos (by omega)];simp [h]
theorem Tg {k:Nat} {a b:UInt8} (hk:(k:Int)=((a.toNat:Int) - 192) * 64+b.toNat - 128):tq k=[a,b]↔(194<=a.toNat/\a.toNat<=223)/\¬ (b.toNat < 128\/191 < b.toNat):=by
 have ha:=UInt8.toNat_lt a;have hb:=UInt8.toNat_lt b;unfold tq;by_cases c1:1114111 < k\/(55296<=k/\k<=57343)
 .rw [if_pos c1];simp;omega
 rw [if_neg c1];by_cases c2:k < 128
 .rw [if_pos c2];simp;omega
 rw [if_neg c2];by_cases c3:k < 2048
 .rw [if_pos c3];simp only [XV,Ys,of_eq (show 192+k / 64<=255 by omega),of_eq (show 128+k % 64<=255 by omega)];omega
 rw [if_neg c3];by_cases c4:k < 65536
 .rw [if_pos c4];simp;omega
 .rw [if_neg c4];simp;omega
theorem T4 {k:Nat} {a b c:UInt8} (hk:(k:Int)=(((a.toNat:Int) - 224) * 64+b.toNat - 128) * 64+c.toNat - 128):
  tq k=[a,b,c]↔(224<=a.toNat/\a.toNat<=239)/\¬ (b.toNat < 128\/191 < b.toNat\/c.toNat < 128\/191 < c.toNat\/(a.toNat=224/\b.toNat < 160)\/(a.toNat=237/\159 < b.toNat)):=by
 have ha:=UInt8.toNat_lt a;have hb:=UInt8.toNat_lt b;have hc:=UInt8.toNat_lt c;unfold tq;by_cases c1:1114111 < k\/(55296<=k/\k<=57343)
 .rw [if_pos c1];simp;omega
 rw [if_neg c1];by_cases c2:k < 128
 .rw [if_pos c2];simp;omega
 rw [if_neg c2];by_cases c3:k < 2048
 .rw [if_pos c3];simp;omega
 rw [if_neg c3];by_cases c4:k < 65536
 .rw [if_pos c4];simp only [XV,Ys,of_eq (show 224+k / 4096<=255 by omega),of_eq (show 128+k / 64 % 64<=255 by omega),of_eq (show 128+k % 64<=255 by omega)];omega
 .rw [if_neg c4];simp;omega
theorem Ub {k:Nat} {a b c d:UInt8} (hk:(k:Int)=((((a.toNat:Int) - 240) * 64+b.toNat - 128) * 64+c.toNat - 128) * 64+d.toNat - 128):
  tq k=[a,b,c,d]↔(240<=a.toNat/\a.toNat<=244)/\¬ (b.toNat < 128\/191 < b.toNat\/c.toNat < 128\/191 < c.toNat\/d.toNat < 128\/191 < d.toNat\/(a.toNat=240/\b.toNat < 144)\/(a.toNat=244/\143 < b.toNat)):=by
 have ha:=UInt8.toNat_lt a;have hb:=UInt8.toNat_lt b;have hc:=UInt8.toNat_lt c;have hd:=UInt8.toNat_lt d;unfold tq;by_cases c1:1114111 < k\/(55296<=k/\k<=57343)
 .rw [if_pos c1];simp;omega
 rw [if_neg c1];by_cases c2:k < 128
 .rw [if_pos c2];simp;omega
 rw [if_neg c2];by_cases c3:k < 2048
 .rw [if_pos c3];simp;omega
 rw [if_neg c3];by_cases c4:k < 65536
 .rw [if_pos c4];simp;omega
 .rw [if_neg c4];simp only [XV,Ys,of_eq (show 240+k / 262144<=255 by omega),of_eq (show 128+k / 4096 % 64<=255 by omega),of_eq (show 128+k / 64 % 64<=255 by omega),of_eq (show 128+k % 64<=255 by omega)];omega
def bZ (t:List UInt8):Prop:=0<=iw t/\tq (iw t).toNat=t
theorem Ox (a:UInt8):bZ [a]↔a.toNat < 128:=by
 have e:iw [a]=(a.toNat:Int):=rfl;unfold bZ;rw [e,Int.toNat_natCast,UU];exact ⟨fun h=>h.2,fun h=>⟨by omega,h⟩⟩
theorem OY (a b:UInt8):bZ [a,b]↔(194<=a.toNat/\a.toNat<=223)/\¬ (b.toNat < 128\/191 < b.toNat):=by
 have e:iw [a,b]=((a.toNat:Int) - 192) * 64+b.toNat - 128:=rfl;unfold bZ;rw [e];constructor
 .rintro ⟨h0,h⟩;exact (Tg (by omega)).1 h
 .intro h;have h0:0<=((a.toNat:Int) - 192) * 64+b.toNat - 128:=by omega
  exact ⟨h0,(Tg (by omega)).2 h⟩
theorem OW (a b c:UInt8):bZ [a,b,c]↔(224<=a.toNat/\a.toNat<=239)/\¬ (b.toNat < 128\/191 < b.toNat\/c.toNat < 128\/191 < c.toNat\/(a.toNat=224/\b.toNat < 160)\/(a.toNat=237/\159 < b.toNat)):=by
 have e:iw [a,b,c]=(((a.toNat:Int) - 224) * 64+b.toNat - 128) * 64+c.toNat - 128:=rfl;unfold bZ;rw [e];constructor
 .rintro ⟨h0,h⟩;exact (T4 (by omega)).1 h
 .intro h;have h0:0<=(((a.toNat:Int) - 224) * 64+b.toNat - 128) * 64+c.toNat - 128:=by omega
  exact ⟨h0,(T4 (by omega)).2 h⟩
theorem OD (a b c d:UInt8):bZ [a,b,c,d]↔(240<=a.toNat/\a.toNat<=244)/\¬ (b.toNat < 128\/191 < b.toNat\/c.toNat < 128\/191 < c.toNat\/d.toNat < 128\/191 < d.toNat\/(a.toNat=240/\b.toNat < 144)\/(a.toNat=244/\143 < b.toNat)):=by
 have e:iw [a,b,c,d]=((((a.toNat:Int) - 240) * 64+b.toNat - 128) * 64+c.toNat - 128) * 64+d.toNat - 128:=rfl;unfold bZ;rw [e];constructor
 .rintro ⟨h0,h⟩;exact (Ub (by omega)).1 h
 .intro h;have h0:0<=((((a.toNat:Int) - 240) * 64+b.toNat - 128) * 64+c.toNat - 128) * 64+d.toNat - 128:=by omega
  exact ⟨h0,(Ub (by omega)).2 h⟩
theorem yU: ∀(l:List UInt8),l.length<=4->iw l<=100000000
 | [],_=>by simp [iw]
 | [a],_=>by have:=UInt8.toNat_lt a;simp only [iw];omega
 | [a,b],_=>by
  have:=UInt8.toNat_lt a;have:=UInt8.toNat_lt b;have e:iw [a,b]=((a.toNat:Int) - 192) * 64+b.toNat - 128:=rfl;omega
 | [a,b,c],_=>by
  have:=UInt8.toNat_lt a;have:=UInt8.toNat_lt b;have:=UInt8.toNat_lt c;have e:iw [a,b,c]=(((a.toNat:Int) - 224) * 64+b.toNat - 128) * 64+c.toNat - 128:=rfl;omega
 | [a,b,c,d],_=>by
  have:=UInt8.toNat_lt a;have:=UInt8.toNat_lt b;have:=UInt8.toNat_lt c;have:=UInt8.toNat_lt d;have e:iw [a,b,c,d]=((((a.toNat:Int) - 240) * 64+b.toNat - 128) * 64+c.toNat - 128) * 64+d.toNat - 128:=rfl;omega
 | _:: _:: _:: _:: _:: _,h=>by simp at h
section
variable {s:List UInt8} (st:St) {n:Nat} (h1:1<=n) (h4:n<=4) (hl:n<=s.length)
include h1 h4 hl
theorem xI:(s.take n≠[]/\(s.take n).length<=4)/\(∀{β:Type} (st:St) (K:Kv β),bc (aV vE) 71 [.str (s.take n)] st K=K (.int .i64 (iw (s.take n))) st q0):=by
 have hlen:(s.take n).length=n:=by rw [Xg];omega
 have hne:s.take n≠[]:=by
  intro e;rw [e] at hlen;simp at hlen;omega
 exact ⟨⟨hne,by omega⟩,fun st K=>aG st K rfl rfl rfl (Ns hne (by omega))⟩
theorem ub (hg:bZ (s.take n)):aK (jA s) ([.int .i64 0,.int .i64 0,.int .i64 (n:Int)],st)=some (1,[.int .i64 (iw (s.take n)),.int .i64 (n:Int)],st):=by
 obtain ⟨⟨hne,a⟩,hb⟩:=xI h1 h4 hl;have b:=yU (s.take n) a;obtain ⟨g0,g1⟩:=hg;obtain ⟨k,hk⟩:=Int.eq_ofNat_of_zero_le g0;have hp: ∀{β:Type} (st:St) (K:Kv β),bc (aV vE) 72 [.int .i64 (iw (s.take n))] st K=K (.str (s.take n)) st q0:=fun st K=>by
  rw [hk,aG st K rfl rfl rfl (GY k (by omega))];rw [hk] at g1;rw [show (s.take n)=tq k from g1.symm]
 refine aF ?_;have q1:(n:Int)<=4:=by omega
 have q2:(n:Int)<=(s.length:Int):=by omega
 simp only [jA,ad,af,ae,aq,if_pos q1,Ye q2,aj,ak,ao,bW hl,Xc,aB,hb,if_pos (show iw (s.take n)>=0 from g0),hp,ax,fU,fb,Xt,aR,YB]
theorem wF (hg:¬ bZ (s.take n)):aK (jA s) ([.int .i64 0,.int .i64 0,.int .i64 (n:Int)],st)=aK (jA s) ([.int .i64 0,.int .i64 0,.int .i64 ((n+1:Nat):Int)],st):=by
 obtain ⟨⟨hne,b⟩,hb⟩:=xI h1 h4 hl;have c:=yU (s.take n) b;have q1:(n:Int)<=4:=by omega
 have q2:(n:Int)<=(s.length:Int):=by omega
 refine aP ?_;by_cases g0:iw (s.take n)>=0
 .obtain ⟨k,hk⟩:=Int.eq_ofNat_of_zero_le g0;have a:(tq k==s.take n)=false:=by
   rw [WX];intro e;exact hg ⟨g0,by rw [hk];exact e⟩
  have hp: ∀{β:Type} (st:St) (K:Kv β),bc (aV vE) 72 [.int .i64 (iw (s.take n))] st K=K (.str (tq k)) st q0:=fun st K=>by
   rw [hk,aG st K rfl rfl rfl (GY k (by omega))]
  simp only [jA,ad,af,ae,aq,if_pos q1,Ye q2,aj,ak,ao,bW hl,Xc,aB,hb,if_pos g0,hp,ax,fU,fb,Xt,aR,a,ai,bm (show n+1<=9223372036854775807 by omega)]
 .simp only [jA,ad,af,ae,aq,if_pos q1,Ye q2,aj,ak,ao,bW hl,Xc,aB,hb,if_neg g0,ai,bm (show n+1<=9223372036854775807 by omega)]
end
theorem tW {s:List UInt8} (st:St) {n:Nat} (h:4 < n\/s.length < n):aK (jA s) ([.int .i64 0,.int .i64 0,.int .i64 (n:Int)],st)=some (0,[.int .i64 0,.int .i64 0],st):=by
 refine aF ?_;by_cases q1:(n:Int)<=4
 .have q2:¬ (n:Int)<=(s.length:Int):=by omega
  simp only [jA,ad,af,ae,aq,if_pos q1,X5 q2,aj,ak,ai]
 .simp only [jA,ad,af,ae,aq,if_neg q1,aj,ak,ai]
theorem tv {t:List UInt8} (h:bZ t):0<=iw t:=h.1
theorem Iz {s:List UInt8} (hne:s≠[]) (st:St):(gK s=0/\aK (jA s) ([.int .i64 0,.int .i64 0,.int .i64 ((1:Nat):Int)],st)=some (0,[.int .i64 0,.int .i64 0],st))\/
  (gK s≠0/\ ∃p:Int,0<=p/\aK (jA s) ([.int .i64 0,.int .i64 0,.int .i64 ((1:Nat):Int)],st)=some (1,[.int .i64 p,.int .i64 (gK s:Int)],st)):=by
 cases s with
 | nil=>exact absurd rfl hne
 | cons a s1=>
 have l1:1<=(a::s1).length:=by simp
 by_cases g1:a.toNat < 128
 .have f:bZ ((a::s1).take 1):=(Ox a).2 g1;have hz:gK (a::s1)=1:=by
   show mo _ a.toNat _ _ _=1;unfold mo;rw [if_pos g1]
  exact .inr ⟨by omega,_,tv f,by rw [hz];exact ub st (WW _) (by omega) l1 f⟩
 have n1:=wF st (n:=1) (WW _) (by omega) l1 (fun h=>g1 ((Ox a).1 h));rw [n1];have e:gK (a::s1)=mo (a::s1).length a.toNat (s1.getD 0 0).toNat (s1.getD 1 0).toNat (s1.getD 2 0).toNat:=rfl;unfold mo at e;rw [if_neg g1] at e;cases s1 with
 | nil=>
  refine .inl ⟨?_,tW st (.inr (by simp))⟩;rw [e]
  repeat' split
  all_goals first | rfl | (exfalso;simp at *;done)
 | cons b s2=>
 have l2:2<=(a::b::s2).length:=by simp
 by_cases g2:(194<=a.toNat/\a.toNat<=223)/\¬ (b.toNat < 128\/191 < b.toNat)
 .have f:bZ ((a::b::s2).take 2):=(OY a b).2 g2;have hz:gK (a::b::s2)=2:=by
   rw [e,if_pos g2.1,if_neg];intro h;rcases h with h | h
   .omega
   .exact g2.2 h
  exact .inr ⟨by omega,_,tv f,by rw [hz];exact ub st (by omega) (by omega) l2 f⟩
 have q:=wF st (n:=2) (by omega) (by omega) l2 (fun h=>g2 ((OY a b).1 h));rw [q];have g:(194<=a.toNat/\a.toNat<=223)->gK (a::b::s2)=0:=by
  intro h;rw [e,if_pos h,if_pos];have:=fun k=>g2 ⟨h,k⟩;refine .inr ?_;show b.toNat < 128\/191 < b.toNat
  omega
 cases s2 with
 | nil=>
  refine .inl ⟨?_,tW st (.inr (by simp))⟩;by_cases h:194<=a.toNat/\a.toNat<=223
  .exact g h
  .rw [e,if_neg h]
   repeat' split
   all_goals first | rfl | (exfalso;simp at *;done)
 | cons c i=>
 have m:3<=(a::b::c::i).length:=by simp
 by_cases g3:(224<=a.toNat/\a.toNat<=239)/\¬ (b.toNat < 128\/191 < b.toNat\/c.toNat < 128\/191 < c.toNat\/(a.toNat=224/\b.toNat < 160)\/(a.toNat=237/\159 < b.toNat))
 .have f:bZ ((a::b::c::i).take 3):=(OW a b c).2 g3;have hz:gK (a::b::c::i)=3:=by
   rw [e,if_neg (by omega),if_pos g3.1,if_neg];intro h;rcases h with h | h
   .omega
   .exact g3.2 h
  exact .inr ⟨by omega,_,tv f,by rw [hz];exact ub st (by omega) (by omega) m f⟩
 have n3:=wF st (n:=3) (by omega) (by omega) m (fun h=>g3 ((OW a b c).1 h));rw [n3];have j:(224<=a.toNat/\a.toNat<=239)->gK (a::b::c::i)=0:=by
  intro h;rw [e,if_neg (by omega),if_pos h,if_pos];refine .inr ?_;show b.toNat < 128\/191 < b.toNat\/c.toNat < 128\/191 < c.toNat\/(a.toNat=224/\b.toNat < 160)\/(a.toNat=237/\159 < b.toNat);exact Classical.byContradiction fun k=>g3 ⟨h,k⟩
 cases i with
 | nil=>
  refine .inl ⟨?_,tW st (.inr (by simp))⟩;by_cases h:194<=a.toNat/\a.toNat<=223
  .exact g h
  .by_cases h3:224<=a.toNat/\a.toNat<=239
   .exact j h3
   .rw [e,if_neg h,if_neg h3]
    repeat' split
    all_goals first | rfl | (exfalso;simp at *;done)
 | cons d l=>
 have o:4<=(a::b::c::d::l).length:=by simp
 by_cases g4:(240<=a.toNat/\a.toNat<=244)/\¬ (b.toNat < 128\/191 < b.toNat\/c.toNat < 128\/191 < c.toNat\/d.toNat < 128\/191 < d.toNat\/(a.toNat=240/\b.toNat < 144)\/(a.toNat=244/\143 < b.toNat))
 .have f:bZ ((a::b::c::d::l).take 4):=(OD a b c d).2 g4;have hz:gK (a::b::c::d::l)=4:=by
   rw [e,if_neg (by omega),if_neg (by omega),if_pos g4.1,if_neg];intro h;rcases h with h | h
   .omega
   .exact g4.2 h
  exact .inr ⟨by omega,_,tv f,by rw [hz];exact ub st (by omega) (by omega) o f⟩
 have n4:=wF st (n:=4) (by omega) (by omega) o (fun h=>g4 ((OD a b c d).1 h));rw [n4];refine .inl ⟨?_,tW st (.inl (by omega))⟩;by_cases h:194<=a.toNat/\a.toNat<=223
 .exact g h
 .by_cases h3:224<=a.toNat/\a.toNat<=239
  .exact j h3
  .rw [e,if_neg h,if_neg h3];by_cases h4:240<=a.toNat/\a.toNat<=244
   .rw [if_pos h4,if_pos];refine .inr ?_;show b.toNat < 128\/191 < b.toNat\/c.toNat < 128\/191 < c.toNat\/d.toNat < 128\/191 < d.toNat\/(a.toNat=240/\b.toNat < 144)\/(a.toNat=244/\143 < b.toNat);exact Classical.byContradiction fun k=>g4 ⟨h4,k⟩
   .rw [if_neg h4]
theorem Es {s:List UInt8} (hne:s≠[]): ∃p:Int,(aV vE).bare 39 [.str s]=some (.tup [.int .i64 p,.int .i64 (FO s:Int)])/\((p < 0/\gK s=0)\/(0<=p/\gK s≠0)):=by
 have he:(s==[])=false:=by simpa using hne
 rcases Iz hne (St.mk 0 0 Tr.leaf) with ⟨h,e⟩ | ⟨h,p,hp,e⟩
 .refine ⟨-1,aX rfl ((KC _).trans ?_),.inl ⟨by omega,h⟩⟩;have e:aK (jA s) ([.int .i64 0,.int .i64 0,.int .i64 1],St.mk 0 0 Tr.leaf)= _:=e;simp only [UD,ax,he,ai,e,aj,ad,af,ae,er,FO,if_pos h];rfl
 .refine ⟨p,aX rfl ((KC _).trans ?_),.inr ⟨hp,h⟩⟩;have e:aK (jA s) ([.int .i64 0,.int .i64 0,.int .i64 1],St.mk 0 0 Tr.leaf)= _:=e;simp only [UD,ax,he,ai,e,aj,ad,af,ae,iC,FO,if_neg h]
theorem xN (st:St): ∀(n:Nat) (s:List UInt8),s.length<=n->aK yx ([.bool false,.str s],st)=some (if cC s then (0,[.bool false],st) else (1,[.bool false],st))
 | n,[],_=>by
  refine aF ?_;simp only [yx,ad,ak,ax,ae,show (!(([]:List UInt8)==[]))=false from rfl,ai];rfl
 | 0,_:: _,h=>by simp at h
 | n+1,c::l,h=>by
  obtain ⟨p,e,hp⟩:=Es (s:=c::l) (by simp);have hc: ∀{β:Type} (st:St) (K:Kv β),bc (aV vE) 39 [.str (c::l)] st K=K (.tup [.int .i64 p,.int .i64 (FO (c::l):Int)]) st q0:=fun st K=>aG st K rfl rfl rfl e;rw [kO (l:=c::l) (by simp)];rcases hp with ⟨h1,h2⟩ | ⟨h1,h2⟩
  .rw [if_pos h2];refine aF ?_;simp only [yx,ad,ak,ax,ae,show (!((c::l:List UInt8)==[]))=true from rfl,ao,hc,cf,bw,bG,af,aq,if_pos h1];rfl
  .rw [if_neg h2];have hz:=sn (l:=c::l) (by simp);have a:FO (c::l)=gK (c::l):=by unfold FO;rw [if_neg h2]
   have b:¬ p < 0:=by omega
   rw [aP (s':=([.bool false,.str ((c::l).drop (gK (c::l)))],st)),xN st n _ (by rw [Xa];omega)];simp only [yx,ad,ak,ax,ae,show (!((c::l:List UInt8)==[]))=true from rfl,ao,hc,a,cf,bw,bG,af,aq,if_neg b,bW hz,Xv,aB]
theorem IY (s:List UInt8):(aV vE).bare 23 [.str s]=some (.bool (cC s)):=by
 refine aX rfl ((QJ _).trans ?_);have e:=xN (St.mk 0 0 Tr.leaf) s.length s (WW _);simp only [g23,ax,e];cases cC s <;> simp [er,iC]
theorem uF {s:List UInt8} {n:Nat} (h:s.drop n=[]):s.getD n 0=0:=by
 have:=Xz.1 h;rw [Xp,Xu this];rfl
theorem rp {s l:List UInt8} {n:Nat} {c:UInt8} (h:s.drop n=c::l):s.getD n 0=c:=by
 rw [Xp,(drop_cons h).1];rfl
theorem SG (s:List UInt8) (i:Nat):(aV vE).bare 41 [.str s,.int .i64 (i:Int)]=some (.int .u8 ((s.getD i 0).toNat:Int)):=by
 refine aX rfl ((PB _ _).trans ?_);have q:¬ (i:Int) < 0:=by omega
 by_cases h:i < s.length
 .have a:¬ (i:Int)>=(s.length:Int):=by omega
  have e:s.getD i 0=s[i]:=by rw [Xp,Xl h];rfl
  rw [e];simp only [UA,ax,af,aq,if_neg q,if_neg a,aj,ad,ak,ae,bI h]
 .have a:(i:Int)>=(s.length:Int):=by omega
  have e:s.getD i 0=0:=by rw [Xp,Xu (by omega)];rfl
  rw [e];simp only [UA,ax,af,aq,if_neg q,if_pos a,aj,ad,ak,ae];rfl
theorem fL {β:Type} (s:List UInt8) (i:Nat) (st:St) (K:Kv β):bc (aV vE) 41 [.str s,.int .i64 (i:Int)] st K=K (.int .u8 ((s.getD i 0).toNat:Int)) st q0:=aG st K rfl rfl rfl (SG s i)
theorem cQ (c d:UInt8):((c.toNat:Int)==(d.toNat:Int))=(c==d):=by
 by_cases h:c=d
 .subst h;simp
 .rw [WX.2 h,WX.2 (kq h)]
theorem Pf (c:UInt8):(aV vE).bare 40 [.int .u8 (c.toNat:Int)]=some (.bool (bH c)):=by
 refine aX rfl ((QY _).trans ?_);have b1:((c.toNat:Int)==32)=(c==32):=cQ c 32;have b2:((c.toNat:Int)==9)=(c==9):=cQ c 9;have b3:((c.toNat:Int)==10)=(c==10):=cQ c 10;have a:((c.toNat:Int)==13)=(c==13):=cQ c 13;simp only [Vp,af,b1,b2,b3,a,bH];cases c==32 <;> cases c==9 <;> cases c==10 <;> rfl
theorem UO (c:UInt8):(aV vE).bare 44 [.int .u8 (c.toNat:Int)]=some (.bool (jq c)):=by
 refine aX rfl ((PM _).trans ?_);have b1:decide ((c.toNat:Int)>=97)=decide (97<=c.toNat):=decide_eq_decide.2 (by omega);have b2:decide ((c.toNat:Int)<=122)=decide (c.toNat<=122):=decide_eq_decide.2 (by omega);have b3:((c.toNat:Int)==95)=(c==95):=cQ c 95;simp only [VR,af,b1,b2,b3,jq];cases decide (97<=c.toNat) <;> cases decide (c.toNat<=122) <;> rfl
theorem QN (c:UInt8):(aV vE).bare 47 [.int .u8 (c.toNat:Int)]=some (.bool (aI c)):=by
 refine aX rfl ((Rq _).trans ?_);have b1:decide ((c.toNat:Int)>=48)=decide (48<=c.toNat):=decide_eq_decide.2 (by omega);have b2:decide ((c.toNat:Int)<=57)=decide (c.toNat<=57):=decide_eq_decide.2 (by omega);simp only [VD,af,b1,b2,aI];cases decide (48<=c.toNat) <;> cases decide (c.toNat<=57) <;> rfl
theorem qg {β:Type} (c:UInt8) (st:St) (K:Kv β):bc (aV vE) 40 [.int .u8 (c.toNat:Int)] st K=K (.bool (bH c)) st q0:=aG st K rfl rfl rfl (Pf c)
theorem Bi {β:Type} (c:UInt8) (st:St) (K:Kv β):bc (aV vE) 44 [.int .u8 (c.toNat:Int)] st K=K (.bool (jq c)) st q0:=aG st K rfl rfl rfl (UO c)
theorem fG {β:Type} (c:UInt8) (st:St) (K:Kv β):bc (aV vE) 47 [.int .u8 (c.toNat:Int)] st K=K (.bool (aI c)) st q0:=aG st K rfl rfl rfl (QN c)
theorem Mv (c:UInt8):(aV vE).bare 45 [.int .u8 (c.toNat:Int)]=some (.bool (eH c)):=by
 refine aX rfl ((RB _).trans ?_);have b1:decide ((c.toNat:Int)>=65)=decide (65<=c.toNat):=decide_eq_decide.2 (by omega);have b2:decide ((c.toNat:Int)<=90)=decide (c.toNat<=90):=decide_eq_decide.2 (by omega);have b3:((c.toNat:Int)==39)=(c==39):=cQ c 39;simp only [Vq,af,b1,b2,b3,Bi,fG,ak,eH];cases jq c <;> cases aI c <;> cases decide (65<=c.toNat) <;> cases decide (c.toNat<=90) <;> rfl
theorem uf {β:Type} (c:UInt8) (st:St) (K:Kv β):bc (aV vE) 45 [.int .u8 (c.toNat:Int)] st K=K (.bool (eH c)) st q0:=aG st K rfl rfl rfl (Mv c)
theorem Vj {s t:List UInt8} {i:Nat} (ht:t.length=2) (hi:i<=1000000):(aV vE).bare 42 [.str s,.int .i64 (i:Int),.str t]=some (.bool ((s.drop i).take 2==t)):=by
 refine aX rfl ((Ph _ _ _).trans ?_);by_cases h:i+2<=s.length
 .have a:((i+2:Nat):Int)<=(s.length:Int):=by omega
  have e:(s.take (i+2)).drop i=(s.drop i).take 2:=by rw [List.drop_take];congr 1;omega
  simp only [UB,ax,af,aB,mV (show i+2<=9223372036854775807 by omega),aq,if_pos a,bW h,bW (show i<=i+2 by omega),e,aj,ad,ak,ae]
 .have a:¬ ((i+2:Nat):Int)<=(s.length:Int):=by omega
  have e:((s.drop i).take 2==t)=false:=by
   rw [WX];intro e;have:=Xy List.length e;rw [Xg,Xa,ht] at this;omega
  simp only [UB,ax,af,aB,mV (show i+2<=9223372036854775807 by omega),aq,if_neg a,e,aj,ad,ak,ae]
theorem iB {β:Type} (s:List UInt8) {t:List UInt8} {i:Nat} (ht:t.length=2) (hi:i<=1000000) (st:St) (K:Kv β):bc (aV vE) 42 [.str s,.int .i64 (i:Int),.str t] st K=K (.bool ((s.drop i).take 2==t)) st q0:=aG st K rfl rfl rfl (Vj ht hi)
theorem Af {β:Type} (s:List UInt8) {t:List UInt8} (ht:t.length=2) (st:St) (K:Kv β):bc (aV vE) 42 [.str s,.int .i64 0,.str t] st K=K (.bool (s.take 2==t)) st q0:=iB s (i:=0) ht (by omega) st K
theorem tH {p:UInt8->Bool} {L:bT->Option (bT ⊕ Nat×bT)} {s:List UInt8} {st:St} (hp:p 0=false)
  (h1: ∀n:Nat,n < s.length->p (s.getD n 0)=true->L ([.int .i64 (n:Int)],st)=some (.inl ([.int .i64 ((n+1:Nat):Int)],st)))
  (h0: ∀n:Nat,p (s.getD n 0)=false->L ([.int .i64 (n:Int)],st)=some (.inr (0,[.int .i64 (n:Int)],st))):
  ∀(l:List UInt8) (n:Nat),s.drop n=l->aK L ([.int .i64 (n:Int)],st)=some (0,[.int .i64 ((n+wh p l:Nat):Int)],st)
 | [],n,hd=>by
  rw [aF (h0 n (by rw [uF hd];exact hp))];rfl
 | c::l,n,hd=>by
  obtain ⟨_,hr,a⟩:=drop_cons hd;have ha:=rp hd;rw [eK];cases hc:p c with
  | true=>
   rw [aP (h1 n a (by rw [ha];exact hc)),tH hp h1 h0 l (n+1) hr];simp only [if_true];rw [show n+1+wh p l=n+(wh p l+1) by omega]
  | false=>
   rw [aF (h0 n (by rw [ha];exact hc))];rfl
section
variable {s:List UInt8} (hs:s.length<=1000000) (st:St) {l:List UInt8} {n:Nat} (hd:s.drop n=l)
include hs hd
theorem Jb:aK (yF s) ([.int .i64 (n:Int)],st)=some (0,[.int .i64 ((n+wh aI l:Nat):Int)],st):=by
 refine tH (p:=aI) rfl (fun n hn h=> ?_) (fun n h=> ?_) l n hd
 .simp only [yF,ad,af,ae,fL,fG,h,ak,ao,aB,bm (show n+1<=9223372036854775807 by omega)]
 .simp only [yF,ad,af,ae,fL,fG,h,ak,ai]
theorem Ii:aK (BE s) ([.int .i64 (n:Int)],st)=some (0,[.int .i64 ((n+wh aI l:Nat):Int)],st):=by
 refine tH (p:=aI) rfl (fun n hn h=> ?_) (fun n h=> ?_) l n hd
 .simp only [BE,ad,af,ae,fL,fG,h,ak,ao,aB,bm (show n+1<=9223372036854775807 by omega)]
 .simp only [BE,ad,af,ae,fL,fG,h,ak,ai]
theorem HW:aK (xk s) ([.int .i64 (n:Int)],st)=some (0,[.int .i64 ((n+wh bH l:Nat):Int)],st):=by
 refine tH (p:=bH) rfl (fun n hn h=> ?_) (fun n h=> ?_) l n hd
 .simp only [xk,ad,af,ae,fL,qg,h,ak,ao,aB,bm (show n+1<=9223372036854775807 by omega)]
 .simp only [xk,ad,af,ae,fL,qg,h,ak,ai]
theorem H7:aK (zd s) ([.int .i64 (n:Int)],st)=some (0,[.int .i64 ((n+wh eH l:Nat):Int)],st):=by
 refine tH (p:=eH) rfl (fun n hn h=> ?_) (fun n h=> ?_) l n hd
 .simp only [zd,ad,af,ae,fL,uf,h,ak,ao,aB,bm (show n+1<=9223372036854775807 by omega)]
 .simp only [zd,ad,af,ae,fL,uf,h,ak,ai]
end
def vZ (a:Nat) (c:UInt8):Nat:=min (ph a c) 1000000
def IA (a:Nat) (l:List UInt8):Nat:=l.foldl vZ a
theorem Lq (a:Nat):IA a []=a:=id rfl
theorem Bo (a:Nat) (c:UInt8) (l:List UInt8):IA a (c::l)=IA (vZ a c) l:=id rfl
theorem EA: ∀(l:List UInt8) (a:Nat),IA (min a 1000000) l=min (jO a l) 1000000
 | [],a=>by rw [Lq,yL]
 | c::l,a=>by
  rw [Bo,ve, <- EA l (ph a c)];congr 1;unfold vZ ph;omega
theorem Du {s:List UInt8} (hs:s.length<=1000000) (st:St): ∀(l:List UInt8) (n a:Nat),s.drop n=l->a<=1000000->
  aK (r9 s) ([.int .i64 (a:Int),.int .i64 (n:Int)],st)=some (0,[.int .i64 (IA a (l.take (wh aI l)):Int),.int .i64 ((n+wh aI l:Nat):Int)],st)
 | [],n,a,hd,ha=>by
  have h:aI (s.getD n 0)=false:=by rw [uF hd];rfl
  refine aF ?_;simp only [r9,ad,af,ae,fL,fG,h,ak,ai];rfl
 | c::l,n,a,hd,ha=>by
  obtain ⟨hg,hr,b⟩:=drop_cons hd;have d:=rp hd;rw [eK];cases hc:aI c with
  | false=>
   have h:aI (s.getD n 0)=false:=by rw [d];exact hc
   refine aF ?_;simp only [r9,ad,af,ae,fL,fG,h,ak,ai];rfl
  | true=>
   have h:aI (s.getD n 0)=true:=by rw [d];exact hc
   have e:48<=c.toNat/\c.toNat<=57:=by
    simpa only [aI,WY,XU] using hc
   have he:s[n]=c:=fR b hg;have f:IntKind.wrap .i64 ((a:Int) * 10)=((a * 10:Nat):Int):=rL (n:=a * 10) (by omega);have g:IntKind.wrap .i64 ((c.toNat:Nat):Int)=((c.toNat:Nat):Int):=rL (by omega);have i:IntKind.wrap .i64 (((a * 10:Nat):Int)+((c.toNat:Nat):Int))=((a * 10+c.toNat:Nat):Int):=mD (by omega);have j:IntKind.wrap .i64 (((a * 10+c.toNat:Nat):Int) - 48)=((a * 10+c.toNat - 48:Nat):Int):=rY (m:=48) (by omega) (by omega);have k:(if (1000000:Int) < ((a * 10+c.toNat - 48:Nat):Int) then (1000000:Int) else ((a * 10+c.toNat - 48:Nat):Int))=(vZ a c:Int):=by
    unfold vZ ph;split <;> omega
   have hb:vZ a c<=1000000:=by unfold vZ;omega
   rw [aP (s':=([.int .i64 (vZ a c:Int),.int .i64 ((n+1:Nat):Int)],st)),Du hs st l (n+1) _ hr hb]
   .simp only [if_true,List.take_succ_cons,Bo];rw [show n+1+wh aI l=n+(wh aI l+1) by omega]
   .simp only [r9,ad,af,ae,fL,fG,h,ak,ao,aB,f,bI b,he,g,i,j,k,bm (show n+1<=9223372036854775807 by omega)]
theorem jz (s:List UInt8) (hs:s.length<=1000000) (st:St): ∀(l:List UInt8) (i d:Nat),s.drop i=l->i<=s.length->1<=d->d<=i->
  aK (oZ s) ([.int .i64 (d:Int),.int .i64 0,.bool false,.int .i64 (i:Int)],st)=some (match rem l d with | some n=>(1,[.int .i64 ((i+n:Nat):Int),.bool true],st) | none=>(0,[.int .i64 0,.bool false],st))
 | [],i,d,hd,hi,h1,h2=>by
  have:=Xz.1 hd;have q:¬ (i:Int) < (s.length:Int):=by omega
  refine aF ?_;simp only [oZ,ad,af,ak,ae,aq,if_neg q];rfl
 | [a],i,d,hd,hi,h1,h2=>by
  obtain ⟨hg,hr,f⟩:=drop_cons hd;have q:(i:Int) < (s.length:Int):=by omega
  have ih:=jz s hs st [] (i+1) d hr (by omega) h1 (by omega);rw [aP (s':=([.int .i64 (d:Int),.int .i64 0,.bool false,.int .i64 ((i+1:Nat):Int)],st)),ih]
  .rfl
  .simp only [oZ,ad,af,ae,aq,if_pos q,iB s (t:=[40,42]) rfl (show i<=1000000 by omega),iB s (t:=[42,41]) rfl (show i<=1000000 by omega),hd,ak];simp only [show ([a].take 2==[(40:UInt8),42])=false by simp,show ([a].take 2==[(42:UInt8),41])=false by simp,ai,aB,aj,cF,ad,af,ak,ae,bm (show i+1<=9223372036854775807 by omega)]
 | a::b::l,i,d,hd,hi,h1,h2=>by
  obtain ⟨hg,hr,f⟩:=drop_cons hd;obtain ⟨j,c,g⟩:=drop_cons hr;have q:(i:Int) < (s.length:Int):=by omega
  have t1:((a::b::l).take 2==[40,42])=(decide (a=40/\b=42)):=by
   show ([a,b]==[40,42])= _;by_cases h:a=40/\b=42
   .rw [h.1,h.2];rfl
   .rw [X5 h,WX];intro e;simp only [XV,Ys] at e;exact h e
  have t2:((a::b::l).take 2==[42,41])=(decide (a=42/\b=41)):=by
   show ([a,b]==[42,41])= _;by_cases h:a=42/\b=41
   .rw [h.1,h.2];rfl
   .rw [X5 h,WX];intro e;simp only [XV,Ys] at e;exact h e
  by_cases c1:a=40/\b=42
  .have ih:=jz s hs st l (i+2) (d+1) c (by omega) (by omega) (by omega);rw [aP (s':=([.int .i64 ((d+1:Nat):Int),.int .i64 0,.bool false,.int .i64 ((i+2:Nat):Int)],st)),ih]
   .simp only [rem,if_pos c1];cases rem l (d+1) with
    | none=>rfl
    | some n=>simp only [Option.map_some];rw [show i+2+n=i+(n+2) by omega]
   .simp only [oZ,ad,af,ae,aq,if_pos q,iB s (t:=[40,42]) rfl (show i<=1000000 by omega),hd,t1,if_pos c1,ak,aB,aj,cF,bm (show d+1<=9223372036854775807 by omega),mV (show i+2<=9223372036854775807 by omega)]
  .by_cases c2:a=42/\b=41
   .have w:=rY (n:=d) (m:=1) h1 (by omega);have w:IntKind.wrap .i64 ((d:Int) - 1)=((d - 1:Nat):Int):=w;by_cases c3:d=1
    .subst c3;simp only [rem,if_neg c1,if_pos c2,if_true];refine aF ?_;simp only [oZ,ad,af,ae,aq,if_pos q,iB s (t:=[40,42]) rfl (show i<=1000000 by omega),iB s (t:=[42,41]) rfl (show i<=1000000 by omega),hd,t1,t2,if_neg c1,if_pos c2,ak,aB,aj,w,mV (show i+2<=9223372036854775807 by omega),dQ];rfl
    .have ih:=jz s hs st l (i+2) (d - 1) c (by omega) (by omega) (by omega);have z:¬ ((d - 1:Nat):Int)=0:=by omega
     rw [aP (s':=([.int .i64 ((d - 1:Nat):Int),.int .i64 0,.bool false,.int .i64 ((i+2:Nat):Int)],st)),ih]
     .simp only [rem,if_neg c1,if_pos c2,if_neg c3];cases rem l (d - 1) with
      | none=>rfl
      | some n=>simp only [Option.map_some];rw [show i+2+n=i+(n+2) by omega]
     .simp only [oZ,ad,af,ae,aq,if_pos q,iB s (t:=[40,42]) rfl (show i<=1000000 by omega),iB s (t:=[42,41]) rfl (show i<=1000000 by omega),hd,t1,t2,if_neg c1,if_pos c2,ak,aB,aj,w,mV (show i+2<=9223372036854775807 by omega),dQ,if_neg z,cF]
   .have ih:=jz s hs st (b::l) (i+1) d hr (by omega) h1 (by omega);rw [aP (s':=([.int .i64 (d:Int),.int .i64 0,.bool false,.int .i64 ((i+1:Nat):Int)],st)),ih]
    .simp only [rem,if_neg c1,if_neg c2];cases rem (b::l) d with
     | none=>rfl
     | some n=>simp only [Option.map_some];rw [show i+1+n=i+(n+1) by omega]
    .simp only [oZ,ad,af,ae,aq,if_pos q,iB s (t:=[40,42]) rfl (show i<=1000000 by omega),iB s (t:=[42,41]) rfl (show i<=1000000 by omega),hd,t1,t2,if_neg c1,if_neg c2,ak,aB,aj,cF,bm (show i+1<=9223372036854775807 by omega)]
theorem GL {s:List UInt8} (hs:s.length<=1000000) (h2:2<=s.length):(aV vE).bare 43 [.str s]=some (match rem (s.drop 2) 1 with | some n=> .tup [.int .i64 ((n+2:Nat):Int),.bool true] | none=> .tup [.int .i64 (s.length:Int),.bool false]):=by
 refine aX rfl ((Pm _).trans ?_);have e:aK (oZ s) ([.int .i64 1,.int .i64 0,.bool false,.int .i64 2],St.mk 0 0 Tr.leaf)= _:=jz s hs (St.mk 0 0 Tr.leaf) (s.drop 2) 2 1 rfl h2 (by omega) (by omega);simp only [Wm,ax];rw [e];cases rem (s.drop 2) 1 with
 | none=>simp only [aj,ad,af,ak,ae,er]
 | some n=>simp only [aj,ad,af,ak,ae,iC];rw [Yh 2 n]
def Ends (st:St) (r:Option (Nat×bT)) (p:Nat×Nat):Prop:=
 (∃c:Int,r=some (1,[.int .u8 (p.1:Int),.int .i64 (p.2:Int),.int .i64 c],st))\/(p.1=9/\r=some (0,[.int .u8 0,.int .i64 0,.int .i64 (p.2:Int)],st))
theorem yA {s:List UInt8} (hs:s.length<=1000000) (st:St): ∀(l:List UInt8) (i:Nat),s.drop i=l->i<=s.length->
  Ends st (aK (gD s) ([.int .u8 0,.int .i64 0,.bool true,.int .i64 (i:Int)],st)) (9,i+iE l)
 | [],i,hd,hi=>by
  have:=Xz.1 hd;have q:¬ (i:Int) < (s.length:Int):=by omega
  refine .inr ⟨rfl,aF ?_⟩;simp only [gD,ad,af,ak,ae,aq,if_neg q,aj,ai];rfl
 | c::l,i,hd,hi=>by
  obtain ⟨hg,hr,a⟩:=drop_cons hd;have q:(i:Int) < (s.length:Int):=by omega
  have hc:s[i]=c:=fR a hg;have b1:((c.toNat:Int) != 10)=(c != 10):=by unfold bne;rw [show ((c.toNat:Int)==10)=(c==10) from cQ c 10]
  have b2:((c.toNat:Int)==34)=(c==34):=cQ c 34;have b3:((c.toNat:Int)==92)=(c==92):=cQ c 92;by_cases c1:c=10
  .have z:(c != 10)=false:=by simp [c1]
   simp only [iE,if_pos c1];refine .inr ⟨rfl,aF ?_⟩;simp only [gD,ad,af,ak,ae,aq,if_pos q,bI a,hc,b1,z,aj,ai];rfl
  .have z:(c != 10)=true:=by simp [c1]
   by_cases c2:c=34
   .have z2:(c==34)=true:=by simp [c2]
    simp only [iE,if_neg c1,if_pos c2];refine .inl ⟨(i:Int),aF ?_⟩;simp only [gD,ad,af,ak,ae,aq,if_pos q,bI a,hc,b1,b2,z,z2,aj,ao,aB,bm (show i+1<=9223372036854775807 by omega)];rfl
   .have z2:(c==34)=false:=by simp [c2]
    have ih:=yA hs st l (i+1) hr (by omega);rw [aP (s':=([.int .u8 0,.int .i64 0,.bool true,.int .i64 ((i+1:Nat):Int)],st))]
    .simp only [iE,if_neg c1,if_neg c2];rw [show i+(iE l+1)=i+1+iE l by omega];exact ih
    .simp only [gD,ad,af,ak,ae,aq,if_pos q,bI a,hc,b1,b2,b3,z,z2,aj,ao,ai,aB,XE];cases c==92 <;> simp only [ao,ai,aj,ad,ak,af,ae,aB,bm (show i+1<=9223372036854775807 by omega)]
theorem pc {s:List UInt8} (hs:s.length<=1000000) (st:St): ∀(l:List UInt8) (i:Nat),s.drop i=l->i<=s.length->
  Ends st (aK (gD s) ([.int .u8 0,.int .i64 0,.bool false,.int .i64 (i:Int)],st)) ((dT l).1,i+(dT l).2)
 | [],i,hd,hi=>by
  have:=Xz.1 hd;have q:¬ (i:Int) < (s.length:Int):=by omega
  refine .inr ⟨rfl,aF ?_⟩;simp only [gD,ad,af,ak,ae,aq,if_neg q,aj,ai];rfl
 | [c],i,hd,hi=>by
  obtain ⟨hg,hr,a⟩:=drop_cons hd;have q:(i:Int) < (s.length:Int):=by omega
  have hc:s[i]=c:=fR a hg;have b1:((c.toNat:Int) != 10)=(c != 10):=by unfold bne;rw [show ((c.toNat:Int)==10)=(c==10) from cQ c 10]
  have b2:((c.toNat:Int)==34)=(c==34):=cQ c 34;have b3:((c.toNat:Int)==92)=(c==92):=cQ c 92;by_cases c1:c=10
  .have z:(c != 10)=false:=by simp [c1]
   simp only [dT,if_pos c1];refine .inr ⟨rfl,aF ?_⟩;simp only [gD,ad,af,ak,ae,aq,if_pos q,bI a,hc,b1,z,aj,ai];rfl
  .have z:(c != 10)=true:=by simp [c1]
   by_cases c2:c=34
   .have z2:(c==34)=true:=by simp [c2]
    simp only [dT,if_neg c1,if_pos c2];refine .inl ⟨(i:Int),aF ?_⟩;simp only [gD,ad,af,ak,ae,aq,if_pos q,bI a,hc,b1,b2,z,z2,aj,ao,ai,aB,bm (show i+1<=9223372036854775807 by omega)];rfl
   .have z2:(c==34)=false:=by simp [c2]
    simp only [dT,if_neg c1,if_neg c2];cases hb:c==92 with
    | true=>
     rw [aP (s':=([.int .u8 0,.int .i64 0,.bool true,.int .i64 ((i+1:Nat):Int)],st))]
     .exact yA hs st [] (i+1) hr (by omega)
     .have ha:=uF hr;have e:(((0:UInt8).toNat:Nat):Int)=0:=rfl;simp only [gD,ad,af,ak,ae,aq,if_pos q,bI a,hc,b1,b2,b3,z,z2,hb,aj,ao,ai,aB,XR,bm (show i+1<=9223372036854775807 by omega),fL,ha,e];simp only [show ((0:Int)==110)=false from rfl,show ((0:Int)==116)=false from rfl,show ((0:Int)==92)=false from rfl,show ((0:Int)==34)=false from rfl,ai,aj,ad,ak,af,ae,aB,bm (show i+1<=9223372036854775807 by omega)]
    | false=>
     rw [aP (s':=([.int .u8 0,.int .i64 0,.bool false,.int .i64 ((i+1:Nat):Int)],st))]
     .exact pc hs st [] (i+1) hr (by omega)
     .simp only [gD,ad,af,ak,ae,aq,if_pos q,bI a,hc,b1,b2,b3,z,z2,hb,aj,ao,ai,aB,bm (show i+1<=9223372036854775807 by omega)]
 | c::d::l,i,hd,hi=>by
  obtain ⟨hg,hr,a⟩:=drop_cons hd;obtain ⟨j,g,h⟩:=drop_cons hr;have q:(i:Int) < (s.length:Int):=by omega
  have hc:s[i]=c:=fR a hg;have b1:((c.toNat:Int) != 10)=(c != 10):=by unfold bne;rw [show ((c.toNat:Int)==10)=(c==10) from cQ c 10]
  have b2:((c.toNat:Int)==34)=(c==34):=cQ c 34;have b3:((c.toNat:Int)==92)=(c==92):=cQ c 92;by_cases c1:c=10
  .have z:(c != 10)=false:=by simp [c1]
   simp only [dT,if_pos c1];refine .inr ⟨rfl,aF ?_⟩;simp only [gD,ad,af,ak,ae,aq,if_pos q,bI a,hc,b1,z,aj,ai];rfl
  .have z:(c != 10)=true:=by simp [c1]
   by_cases c2:c=34
   .have z2:(c==34)=true:=by simp [c2]
    simp only [dT,if_neg c1,if_pos c2];refine .inl ⟨(i:Int),aF ?_⟩;simp only [gD,ad,af,ak,ae,aq,if_pos q,bI a,hc,b1,b2,z,z2,aj,ao,ai,aB,bm (show i+1<=9223372036854775807 by omega)];rfl
   .have z2:(c==34)=false:=by simp [c2]
    simp only [dT,if_neg c1,if_neg c2];cases hb:c==92 with
    | true=>
     have b:c=92:=eq_of_beq hb;simp only [if_pos b];have ha:=rp hr;have d1:((d.toNat:Int)==110)=(d==110):=cQ d 110;have d2:((d.toNat:Int)==116)=(d==116):=cQ d 116;have d3:((d.toNat:Int)==92)=(d==92):=cQ d 92;have d4:((d.toNat:Int)==34)=(d==34):=cQ d 34;have f: ∀(st:St) {β:Type} (K:List AV×St->Option β),(az (aW (d==110) (some ([AV.bool true],st)) (aW (d==116) (some ([AV.bool true],st)) (aW (d==92) (some ([AV.bool true],st)) (some ([AV.bool (d==34)],st))))) K)=K ([AV.bool (vN d)],st):=by
      intro st β K;unfold vN;cases d==110 <;> cases d==116 <;> cases d==92 <;> rfl
     cases he:vN d with
     | true=>
      simp only [if_true];rw [aP (s':=([.int .u8 0,.int .i64 0,.bool false,.int .i64 ((i+2:Nat):Int)],st)),show i+((dT l).2+2)=i+2+(dT l).2 by omega]
      .exact pc hs st l (i+2) g (by omega)
      .simp only [gD,ad,af,ak,ae,aq,if_pos q,bI a,hc,b1,b2,b3,z,z2,hb,aj,ao,ai,aB,XR,bm (show i+1<=9223372036854775807 by omega),fL,ha,d1,d2,d3,d4,f,he,bm (show i+1+1<=9223372036854775807 by omega)]
     | false=>
      simp only [Xw,if_false];rw [aP (s':=([.int .u8 0,.int .i64 0,.bool true,.int .i64 ((i+1:Nat):Int)],st)),show i+(iE (d::l)+1)=i+1+iE (d::l) by omega]
      .exact yA hs st (d::l) (i+1) hr (by omega)
      .simp only [gD,ad,af,ak,ae,aq,if_pos q,bI a,hc,b1,b2,b3,z,z2,hb,aj,ao,ai,aB,XR,bm (show i+1<=9223372036854775807 by omega),fL,ha,d1,d2,d3,d4,f,he]
    | false=>
     have b:¬ c=92:=by simpa using hb
     simp only [if_neg b];rw [aP (s':=([.int .u8 0,.int .i64 0,.bool false,.int .i64 ((i+1:Nat):Int)],st)),show i+((dT (d::l)).2+1)=i+1+(dT (d::l)).2 by omega]
     .exact pc hs st (d::l) (i+1) hr (by omega)
     .simp only [gD,ad,af,ak,ae,aq,if_pos q,bI a,hc,b1,b2,b3,z,z2,hb,aj,ao,ai,aB,bm (show i+1<=9223372036854775807 by omega)]
theorem Lk {c:UInt8} {l:List UInt8} (hs:(c::l).length<=1000000):(aV vE).bare 49 [.str (c::l)]=some (.tup [.int .u8 ((dT l).1:Int),.int .i64 (((dT l).2+1:Nat):Int)]):=by
 refine aX rfl ((Pt _).trans ?_);have e:=pc hs (St.mk 0 0 Tr.leaf) l 1 rfl (by simp);rw [Yh 1 (dT l).2] at e;simp only [Wj,ax];rcases e with ⟨x,e⟩ | ⟨a,e⟩
 .have e:aK (gD (c::l)) ([.int .u8 0,.int .i64 0,.bool false,.int .i64 1],St.mk 0 0 Tr.leaf)= _:=e;rw [e];simp only [aj,ad,af,ae,iC]
 .have e:aK (gD (c::l)) ([.int .u8 0,.int .i64 0,.bool false,.int .i64 1],St.mk 0 0 Tr.leaf)= _:=e;have a:(dT l).1=9:=a;rw [e,a];simp only [aj,ad,af,ae,er];rfl
theorem Hn (s:List UInt8) (n:Nat) (d:UInt8) (hd:d≠0):(s.getD n 0==d)=decide ((s.drop n).head?=some d):=by
  cases h:s.drop n with
  | nil=>
    rw [uF h];simp;exact fun e=>hd e.symm
  | cons c l=>
    rw [rp h];by_cases e:c=d
    · subst e;simp
    · rw [WX.2 e]
      simp [e]
theorem TX {s:List UInt8} (hs:s.length<=1000000) (e:Nat) (a:Int) (hp: -2000000<=a) (ar:a<=2000000) (he:e<=s.length) {β:Type} (st:St) (K:bT->Option β):
    (az (bc (aV vE) 41 [AV.str s,AV.int .i64 (e:Int)] st fun C g _x=>bk .u8 C fun D=>aW (D==101) (some
 ([AV.bool true],g)) (bc (aV vE) 41 [AV.str s,AV.int .i64 (e:Int)] g fun E n _x=>bk .u8 E fun F=>some ([AV.bool (F==69)],n))) fun c51=>bj (Prod.fst c51) fun G H=>bJ G fun I=>
 bC H (az (aW I (aN (IntKind.wrap .i64 ((e:Int)+1)) fun b=>bc (aV vE) 41 [AV.str s,AV.int .i64 b] (Prod.snd c51) fun J h _x=>bk .u8 J fun o=>az (aW (o==45) (some ([AV.bool
 true],h)) (bc (aV vE) 41 [AV.str s,AV.int .i64 b] h fun L p _x=>bk .u8 L fun M=>some ([AV.bool (M==43)],p))) fun k=>bj (Prod.fst k) fun O P=>bJ O fun Q=>bC P
 (az (aW Q (aN (IntKind.wrap .i64 (b+1)) fun R=>some ([AV.int .i64 R],Prod.snd k)) (some ([AV.int .i64 b],Prod.snd k))) fun t=>bj (Prod.fst t) fun v70 S=>bk .i64 v70 fun u=>bC
 S (az (aK (r9 s) ([AV.int .i64 0,AV.int .i64 u],Prod.snd t)) fun f=>bj (Prod.fst (Prod.snd f)) fun T U=>bk .i64 T fun v=>bj U fun V w=>bk .i64 V fun n101=>bC w
 (az (aW (decide (n101 > u)) (az (aW (o==45) (aN (IntKind.wrap .i64 (0 - v)) fun n102=>some ([AV.int .i64 n102],Prod.snd (Prod.snd f))) (some ([AV.int .i64 v],Prod.snd (Prod.snd f)))) fun i
 =>bj (Prod.fst i) fun x y=>bk .i64 x fun n106=>bC y (aN (IntKind.wrap .i64 (a+n106)) fun n107=>some ([AV.int .i64 n101,AV.int .i64 n107],Prod.snd i))) (some ([AV.int .i64 (e:Int),AV.int .i64
 a],Prod.snd (Prod.snd f)))) fun j=>bj (Prod.fst j) fun v109 z=>bk .i64 v109 fun n111=>bj z fun A B=>bk .i64 A fun n114=>bC B (some ([AV.int .i64 n111,AV.int .i64 n114],
 Prod.snd j)))))) (some ([AV.int .i64 (e:Int),AV.int .i64 a],Prod.snd c51))) K))=K ([.int .i64 ((e+(ir (s.drop e)).1:Nat):Int),.int .i64 (a+(ir (s.drop e)).2)],st):=by
  have a1:((((s.getD e 0).toNat:Nat):Int)==101)=(s.getD e 0==101):=cQ _ 101;have a2:((((s.getD e 0).toNat:Nat):Int)==69)=(s.getD e 0==69):=cQ _ 69;have w1:=bm (show e+1<=9223372036854775807 by omega);have a3:((((s.getD (e+1) 0).toNat:Nat):Int)==45)=(s.getD (e+1) 0==45):=cQ _ 45;have a4:((((s.getD (e+1) 0).toNat:Nat):Int)==43)=(s.getD (e+1) 0==43):=cQ _ 43;have RO: ∀(st:St) {γ:Type} (K:List AV×St->Option γ),az (aW (s.getD e 0==101) (some ([AV.bool true],st)) (some ([AV.bool (s.getD e 0==69)],st))) K=K ([AV.bool (s.getD e 0==101||s.getD e 0==69)],st):=by
    intro st γ K;cases s.getD e 0==101 <;> rfl
  have bY: ∀(st:St) {γ:Type} (K:List AV×St->Option γ),az (aW (s.getD (e+1) 0==45) (some ([AV.bool true],st)) (some ([AV.bool (s.getD (e+1) 0==43)],st))) K=K ([AV.bool (pA (s.getD (e+1) 0))],st):=by
    intro st γ K;unfold pA;cases s.getD (e+1) 0==45 <;> cases s.getD (e+1) 0==43 <;> rfl
  simp only [fL,af,a1,a2,RO,ad,ak,ae];cases hd:s.drop e with
  | nil=>
    rw [uF hd];simp only [show ((0:UInt8)==101||(0:UInt8)==69)=false from rfl,ai,aj,ir];simp
  | cons c l=>
    obtain ⟨hg,hr,av⟩:=drop_cons hd;rw [rp hd];by_cases hc:c=101\/c=69
    · have m:(c==101||c==69)=true:=by simpa using hc
      have W:fY l=if pA (s.getD (e+1) 0)=true then 1 else 0:=by
        cases l with
        | nil=>rw [uF hr];rfl
        | cons d r=>rw [rp hr];rfl
      have aw:=CL l;have a6:l.length=s.length - (e+1):=by rw [<- hr,Xa]
      have X:(s.getD (e+1) 0==45)=decide (l.head?=some 45):=by rw [Hn s (e+1) 45 (by decide),hr]
      have sg: ∀(st:St) {γ:Type} (K:List AV×St->Option γ),az (aW (pA (s.getD (e+1) 0)) (some ([AV.int .i64 ((e+1+1:Nat):Int)],st)) (some ([AV.int .i64 ((e+1:Nat):Int)],st))) K=K ([AV.int .i64 ((e+1+fY l:Nat):Int)],st):=by
        intro st γ K;rw [W];cases pA (s.getD (e+1) 0) <;> rfl
      have Y:s.drop (e+1+fY l)=l.drop (fY l):=by rw [<- hr,Ya]
      have Z:=fun st=>Du hs st (l.drop (fY l)) (e+1+fY l) 0 Y (by omega);have Z: ∀st,aK (r9 s) ([.int .i64 0,.int .i64 ((e+1+fY l:Nat):Int)],st)= _:=Z;simp only [m,ao,aB,w1,fL,af,a3,a4,bY,ad,ak,ae,bm (show e+1+1<=9223372036854775807 by omega),sg,Z,aj];have hx:IA 0 ((l.drop (fY l)).take (wh aI (l.drop (fY l))))=min (jO 0 ((l.drop (fY l)).take (wh aI (l.drop (fY l))))) 1000000:=EA _ 0;simp only [ir,if_pos hc];by_cases hz:wh aI (l.drop (fY l))=0
      · have q:¬ (((e+1+fY l+wh aI (l.drop (fY l)):Nat):Int) > ((e+1+fY l:Nat):Int)):=by omega
        simp only [aq,if_neg q,aj,ad,af,ae,if_pos hz];simp
      · have q:(((e+1+fY l+wh aI (l.drop (fY l)):Nat):Int) > ((e+1+fY l:Nat):Int)):=by omega
        simp only [aq,if_pos q,aj,ad,af,ae,if_neg hz,hx,X];generalize hN:jO 0 ((l.drop (fY l)).take (wh aI (l.drop (fY l))))=N;by_cases hm:l.head?=some 45
        · have w2:IntKind.wrap .i64 (0 - ((min N 1000000:Nat):Int))= -((min N 1000000:Nat):Int):=by
            rw [wrap_i64 (by omega) (by omega)];omega
          have w3:IntKind.wrap .i64 (a+ -((min N 1000000:Nat):Int))=a+ -((min N 1000000:Nat):Int):=wrap_i64 (by omega) (by omega);simp only [if_pos hm,aB,w2,aj,ad,af,ae,w3];rw [show e+1+fY l+wh aI (l.drop (fY l))=e+(1+fY l+wh aI (l.drop (fY l))) by omega]
        · have w3:IntKind.wrap .i64 (a+((min N 1000000:Nat):Int))=a+((min N 1000000:Nat):Int):=wrap_i64 (by omega) (by omega)
          simp only [if_neg hm,aB,aj,ad,af,ae,w3];rw [show e+1+fY l+wh aI (l.drop (fY l))=e+(1+fY l+wh aI (l.drop (fY l))) by omega]
    · have m:(c==101||c==69)=false:=by simpa using hc
      simp only [m,ai,aj,ir,if_neg hc];simp
theorem F4 (s:List UInt8): -1000000<=(ir s).2/\(ir s).2<=1000000:=by
  unfold ir;split
  · simp
  · split
    · dsimp only
      split
      · simp
      · dsimp only
        split <;> omega
    · simp
theorem Mh {s:List UInt8} (hs:s.length<=1000000) (h1:1<=wh aI s):(aV vE).bare 48 [.str s]=some (.tup [.int .u8 ((number s).1:Int),.int .i64 ((number s).2:Int)]):=by
  refine aX rfl ((Q3 _).trans ?_);have l1:aK (yF s) ([.int .i64 0],St.mk 0 0 Tr.leaf)=some (0,[.int .i64 ((wh aI s:Nat):Int)],St.mk 0 0 Tr.leaf):=by
    have:=Jb hs (St.mk 0 0 Tr.leaf) (n:=0) (l:=s) rfl;rw [Xd] at this;exact this
  have hw:=lk aI s;have hd:=Hn s (wh aI s) 46 (by decide);have d:((((s.getD (wh aI s) 0).toNat:Nat):Int) != 46)= !(decide ((s.drop (wh aI s)).head?=some 46)):=by
    unfold bne;rw [<- hd,show ((((s.getD (wh aI s) 0).toNat:Nat):Int)==46)=(s.getD (wh aI s) 0==46) from cQ _ 46]
  simp only [Wx,ax,l1,aj,ad,af,ae,fL,d];have c:number s=if (s.drop (wh aI s)).head?=some 46 then (if wh aI s+wh aI (s.drop (wh aI s+1)) > 15\/(ir (s.drop (wh aI s+1+wh aI (s.drop (wh aI s+1))))).2 - (wh aI (s.drop (wh aI s+1)):Int) < -22\/(ir (s.drop (wh aI s+1+wh aI (s.drop (wh aI s+1))))).2 - (wh aI (s.drop (wh aI s+1)):Int) > 22 then 9 else 6,wh aI s+1+wh aI (s.drop (wh aI s+1))+(ir (s.drop (wh aI s+1+wh aI (s.drop (wh aI s+1))))).1) else (5,wh aI s):=rfl
  rw [c];by_cases b:(s.drop (wh aI s)).head?=some 46
  · have f:wh aI s < s.length:=by
      rcases Nat.lt_or_ge (wh aI s) s.length with q | q
      · exact q
      · rw [List.drop_of_length_le q] at b;cases b
    have l2:=Ii hs (St.mk 0 0 Tr.leaf) (n:=wh aI s+1) (l:=s.drop (wh aI s+1)) rfl;have hk:=lk aI (s.drop (wh aI s+1));rw [Xa] at hk;generalize hn:wh aI s=n at *;generalize g:wh aI (s.drop (n+1))=k at *;have h:=bm (show n+1<=9223372036854775807 by omega);have i:IntKind.wrap .i64 (((n+1:Nat):Int) - ((n+1+k:Nat):Int))= -(k:Int):=by rw [wrap_i64 (by omega) (by omega)];omega
    have j:IntKind.wrap .i64 (((n+1+k:Nat):Int) - 1)=((n+k:Nat):Int):=by rw [wrap_i64 (by omega) (by omega)];omega
    simp only [Ye b,XE,ai,aB,h,l2,aj,ad,af,ae,i,j,if_pos b];have e:=fun (K:bT->Option AV)=>TX hs (n+1+k) (-(k:Int)) (by omega) (by omega) (by omega) (St.mk 0 0 Tr.leaf) K;simp only [aB] at e;rw [e];have hb:=F4 (s.drop (n+1+k));generalize (ir (s.drop (n+1+k))).1=x1 at *;generalize (ir (s.drop (n+1+k))).2=a at *;simp only [ad,af,ae];by_cases c1:n+k > 15
    · have q:((n+k:Nat):Int) > 15:=by omega
      simp only [aq,if_pos q,aj,ad,ak,ae,ao,if_pos (show n+k > 15\/a - (k:Int) < -22\/a - (k:Int) > 22 from .inl c1)];rfl
    · have q:¬ ((n+k:Nat):Int) > 15:=by omega
      by_cases c2:a - (k:Int) < -22
      · have q2: -(k:Int)+a < -22:=by omega
        simp only [aq,if_neg q,if_pos q2,aj,ad,ak,ae,ao,if_pos (show n+k > 15\/a - (k:Int) < -22\/a - (k:Int) > 22 from .inr (.inl c2))];rfl
      · have q2:¬ -(k:Int)+a < -22:=by omega
        by_cases c3:a - (k:Int) > 22
        · have q3: -(k:Int)+a > 22:=by omega
          simp only [aq,if_neg q,if_neg q2,if_pos q3,aj,ad,ak,ae,if_pos (show n+k > 15\/a - (k:Int) < -22\/a - (k:Int) > 22 from .inr (.inr c3))];rfl
        · have q3:¬ -(k:Int)+a > 22:=by omega
          simp only [aq,if_neg q,if_neg q2,if_neg q3,aj,ad,ak,ae,if_neg (show ¬ (n+k > 15\/a - (k:Int) < -22\/a - (k:Int) > 22) by omega)];rfl
  · simp only [X5 b,XR,ao,if_neg b]
    rfl
def Ka:AV:=AV.sl 1 [AV.str [108,101,116],AV.str [114,101,99],AV.str [105,110],AV.str [102,117,110],AV.str [105,102],AV.str [116,104,101,110],AV.str [101,108,115,101],AV.str [109,97,116,99,104],AV.str [119,105,116,104],AV.str [116,114,117,101],AV.str [102,97,108,115,101],AV.str [109,111,100]] Perm.shut
def Ot:AV:=AV.sl 1 [AV.str [45,62],AV.str [58,58],AV.str [60,62],AV.str [60,61],AV.str [62,61],AV.str [43,46],AV.str [45,46],AV.str [42,46],AV.str [47,46],AV.str [38,38],AV.str [124,124]] Perm.shut
theorem EL (l:List (List UInt8)) (hl:l.length<=1000) {j:Nat} {w:List UInt8} (h:l[j]? =some w) {β:Type} (st:St) (K:AV->List Nat->Option β):bU 1 (AV.sl 1 (l.map AV.str) .shut) (j:Int) st K=K (.ip [.str w]) []:=
 (bp.shut (z:=1) (es:=l.map AV.str) (by rw [Xn];omega)).idx (by rw [XG,h];rfl) st K
theorem Iw {j:Nat} {w:List UInt8} (h:words[j]? =some w) {β:Type} (st:St) (K:AV->List Nat->Option β):bU 1 Ka (j:Int) st K=K (.ip [.str w]) []:=EL words (by decide) h st K
theorem JQ {j:Nat} {w:List UInt8} (h:jE[j]? =some w) {β:Type} (st:St) (K:AV->List Nat->Option β):bU 1 Ot (j:Int) st K=K (.ip [.str w]) []:=EL jE (by decide) h st K
theorem Au (w:List UInt8) (st:St): ∀(l:List (List UInt8)) (j:Nat),words.drop j=l->l.length+j=12->
  aK (uD w) ([.bool false,.int .i64 (j:Int)],st)=some (if l.contains w then (1,[.bool true],st) else (0,[.bool false],st))
 | [],j,hd,hj=>by
  have q:¬ (j:Int) < 12:=by simp at hj;omega
  refine aF ?_;simp only [uD,ad,ak,af,ae,aq,if_neg q];rfl
 | x::l,j,hd,hj=>by
  obtain ⟨hg,hr,b⟩:=drop_cons hd;have q:(j:Int) < 12:=by simp at hj;omega
  have a:=fun {β:Type} (st:St) (K:AV->List Nat->Option β)=>Iw hg st K;unfold Ka at a;rw [List.contains_cons,BEq.comm];cases hx:x==w with
  | true=>
   refine aF ?_;simp only [uD,ad,ak,af,ae,aq,if_pos q,a,bx,bq,aj,ax,hx,ao,Yi,if_true]
  | false=>
   rw [aP (s':=([.bool false,.int .i64 ((j+1:Nat):Int)],st)),Au w st l (j+1) hr (by simp at hj;omega),XK];simp only [uD,ad,ak,af,ae,aq,if_pos q,a,bx,bq,aj,ax,hx,ai,aB,bm (show j+1<=9223372036854775807 by simp at hj;omega)]
theorem EB (w:List UInt8):(aV vE).bare 46 [.str w]=some (.bool (words.contains w)):=by
 refine aX rfl ((Qn _).trans ?_);have e:aK (uD w) ([.bool false,.int .i64 0],St.mk 0 0 Tr.leaf)= _:=Au w (St.mk 0 0 Tr.leaf) words 0 rfl rfl;simp only [Vn,ax];rw [e];cases words.contains w <;> rfl
theorem FQ {β:Type} (w:List UInt8) (st:St) (K:Kv β):bc (aV vE) 46 [.str w] st K=K (.bool (words.contains w)) st q0:=aG st K rfl rfl rfl (EB w)
theorem LZ {t:List UInt8} {j:Nat} (h:jE[j]? =some t):t.length=2:=by
 have hm:=Xo h;simp only [jE,Xb,List.not_mem_nil,or_false] at hm;rcases hm with rfl | rfl | rfl | rfl | rfl | rfl | rfl | rfl | rfl | rfl | rfl <;> rfl
theorem Dq (s:List UInt8) (st:St): ∀(l:List (List UInt8)) (j:Nat),jE.drop j=l->l.length+j=11->
  aK (vd s) ([.int .u8 0,.int .i64 0,.int .i64 (j:Int)],st)=some (if l.contains (s.take 2) then (1,[.int .u8 8,.int .i64 2],st) else (0,[.int .u8 0,.int .i64 0],st))
 | [],j,hd,hj=>by
  have q:¬ (j:Int) < 11:=by simp at hj;omega
  refine aF ?_;simp only [vd,ad,af,ae,aq,if_neg q];rfl
 | x::l,j,hd,hj=>by
  obtain ⟨hg,hr,c⟩:=drop_cons hd;have q:(j:Int) < 11:=by simp at hj;omega
  have a:=fun {β:Type} (st:St) (K:AV->List Nat->Option β)=>JQ hg st K;have b:=fun {β:Type} (st:St) (K:Kv β)=>Af s (LZ hg) st K;unfold Ot at a;rw [List.contains_cons];cases hx:s.take 2==x with
  | true=>
   refine aF ?_;simp only [vd,ad,af,ae,aq,if_pos q,a,bx,bq,aj,ax,b,hx,ak,ao,Yi,if_true]
  | false=>
   rw [aP (s':=([.int .u8 0,.int .i64 0,.int .i64 ((j+1:Nat):Int)],st)),Dq s st l (j+1) hr (by simp at hj;omega),XK];simp only [vd,ad,af,ae,aq,if_pos q,a,bx,bq,aj,ax,b,hx,ak,ai,aB,bm (show j+1<=9223372036854775807 by simp at hj;omega)]
theorem E2 (c:UInt8) (st:St): ∀(l:List UInt8) (j:Nat),Dl.drop j=l->l.length+j=16->
  aK (vf c) ([.int .u8 0,.int .i64 0,.int .i64 (j:Int)],st)=some (if l.contains c then (1,[.int .u8 8,.int .i64 1],st) else (0,[.int .u8 0,.int .i64 0],st))
 | [],j,hd,hj=>by
  have q:¬ (j:Int) < 16:=by simp at hj;omega
  refine aF ?_;simp only [vf,ad,af,ae,aq,if_neg q];rfl
 | x::l,j,hd,hj=>by
  obtain ⟨hg,hr,a⟩:=drop_cons hd;have q:(j:Int) < 16:=by simp at hj;omega
  have hi:=fun {β:Type} (K:UInt8->Option β)=>bI a K;have he:Dl[j]=x:=fR a hg;rw [he] at hi;unfold Dl at hi;have hb:=cQ x c;rw [List.contains_cons,BEq.comm];cases hx:x==c with
  | true=>
   rw [hx] at hb;refine aF ?_;simp only [vf,ad,af,ae,aq,if_pos q,hi,hb,ao,Yi,if_true]
  | false=>
   rw [hx] at hb;rw [aP (s':=([.int .u8 0,.int .i64 0,.int .i64 ((j+1:Nat):Int)],st)),E2 c st l (j+1) hr (by simp at hj;omega),XK];simp only [vf,ad,af,ae,aq,if_pos q,hi,hb,ai,aB,bm (show j+1<=9223372036854775807 by simp at hj;omega)]
theorem U2 {s:List UInt8} (hne:s≠[]) (hs:s.length<=1000000):(aV vE).bare 24 [.str s]=some (.tup [.int .u8 ((cut s).1:Int),.int .i64 ((cut s).2:Int)]):=by
 cases s with
 | nil=>exact absurd rfl hne
 | cons c l=>
 refine aX rfl ((Qj _).trans ?_);have i0: ∀{β:Type} (K:UInt8->Option β),eC (c::l) 0 K=K c:=fun K=>bI (k:=0) (by simp) K;have h:=fun {β:Type} (st:St) (K:Kv β)=>Af (c::l) (t:=[40,42]) rfl st K;simp only [g24,ax,i0,qg,ak];unfold cut;dsimp only;cases hb:bH c with
 | true=>
  have e:aK (xk (c::l)) ([.int .i64 0],St.mk 0 0 Tr.leaf)=some (0,[.int .i64 ((wh bH (c::l):Nat):Int)],St.mk 0 0 Tr.leaf):=by
   have:=HW hs (St.mk 0 0 Tr.leaf) (n:=0) (l:=c::l) rfl;rw [Xd] at this;exact this
  simp only [ao,e,aj,ad,af,ae,if_true];rfl
 | false=>
 simp only [ai,h,ak,Xw,if_false];by_cases hr:(c::l).take 2=[40,42]
 .have a:((c::l).take 2==[40,42])=true:=XA.2 hr;have hl:2<=(c::l).length:=by
   have:=Xy List.length hr;rw [Xg] at this;simp at this;simp;omega
  have e:=fun {β:Type} (st:St) (K:Kv β)=>aG st K rfl rfl rfl (GL hs hl);simp only [a,ao,e,if_pos hr];cases rem (List.drop 2 (c::l)) 1 with
  | some n=>simp only [cf,bw,bG,af,ak,ao];rfl
  | none=>simp only [cf,bw,bG,af,ak,ai];rfl
 have a:((c::l).take 2==[40,42])=false:=WX.2 hr;simp only [a,ai,if_neg hr,Bi,ak];cases i:jq c with
 | true=>
  have e:aK (zd (c::l)) ([.int .i64 0],St.mk 0 0 Tr.leaf)=some (0,[.int .i64 ((wh eH (c::l):Nat):Int)],St.mk 0 0 Tr.leaf):=by
   have:=H7 hs (St.mk 0 0 Tr.leaf) (n:=0) (l:=c::l) rfl;rw [Xd] at this;exact this
  have hw:=wI eH (c::l);simp only [ao,e,aj,ad,af,ae,bW (lk eH (c::l)),Xc,aB,hw,FQ,ak,if_true];unfold pt;by_cases h1:(c::l).takeWhile eH=[95]
  .have h2:wh eH (c::l)=1:=by
    show ((c::l).takeWhile eH).length=1;rw [h1];rfl
   rw [h1,h2];rfl
  .rw [WX.2 h1,if_neg h1];cases words.contains ((c::l).takeWhile eH) <;> rfl
 | false=>
 simp only [ai,Xw,if_false,fG,ak];cases f:aI c with
 | true=>
  have e:=fun {β:Type} (st:St) (K:Kv β)=>aG st K rfl rfl rfl (Mh hs (by rw [eK,if_pos f];omega));simp only [ao,e,cf,bw,bG,af,if_true]
 | false=>
 have g:((c.toNat:Int)==34)=(c==34):=cQ c 34;simp only [ai,Xw,if_false,g];by_cases d:c=34
 .have b:(c==34)=true:=XA.2 d;have e:=fun {β:Type} (st:St) (K:Kv β)=>aG st K rfl rfl rfl (Lk (c:=c) hs);simp only [b,ao,e,cf,bw,bG,af,if_pos d]
 have b:(c==34)=false:=WX.2 d;have j:aK (vd (c::l)) ([.int .u8 0,.int .i64 0,.int .i64 0],St.mk 0 0 Tr.leaf)= _:=Dq (c::l) (St.mk 0 0 Tr.leaf) jE 0 rfl rfl;simp only [b,ai,if_neg d];rw [j];cases ht:jE.contains ((c::l).take 2) with
 | true=>rfl
 | false=>
 have m:aK (vf c) ([.int .u8 0,.int .i64 0,.int .i64 0],St.mk 0 0 Tr.leaf)=some (if kQ c then (1,[.int .u8 8,.int .i64 1],St.mk 0 0 Tr.leaf) else (0,[.int .u8 0,.int .i64 0],St.mk 0 0 Tr.leaf)):=E2 c (St.mk 0 0 Tr.leaf) Dl 0 rfl rfl;simp only [Xw,if_false,aj,ad,af,ae,er];rw [m];cases ho:kQ c with
 | true=>rfl
 | false=>
 obtain ⟨p,e,_⟩:=Es (s:=c::l) (by simp);have e:=fun {β:Type} (st:St) (K:Kv β)=>aG st K rfl rfl rfl e;simp only [Xw,if_false,aj,ad,af,ae,er,e,cf,bw,bG];rfl
theorem yY: ∀(n:Nat) (s:List UInt8) (st:St) (v:AV) (es:List AV),s.length<=n->n<=500000->iS st 2 24 v es->es.length+n<=500000->
  ∃v' st',aK CD ([v,.str s],st)=some (0,[v'],st')/\iS st' 2 24 v' (es++(tokens s).map tok)
 | n,[],st,v,es,_,_,ho,_=>by
  refine ⟨v,st,aF ?_,by simpa [yk] using ho⟩;simp only [CD,ad,ax,ae,show (!(([]:List UInt8)==[]))=false from rfl,ai]
 | 0,c::l,_,_,_,h,_,_,_=>by simp at h
 | n+1,c::l,st,v,es,h,hn,ho,he=>by
  have hc:=kY (s:=c::l) (by simp);have a:=fun {β:Type} (st:St) (K:Kv β)=>aG st K rfl rfl rfl (U2 (s:=c::l) (by simp) (by omega));obtain ⟨v1,st1,o1,k1,x1,d⟩:=Hr (b:=24) (tok ((cut (c::l)).1,(c::l).take (cut (c::l)).2)) ho (tj (by omega) (by omega) (by omega));have d: ∀{β:Type} (K:Kv β),cT 2 24 24 v [.agg [.int .u8 ((cut (c::l)).1:Int),.str ((c::l).take (cut (c::l)).2)]] st K=K v1 st1 x1:=fun K=>d K;have hd:((c::l).drop (cut (c::l)).2).length<=n:=by rw [Xa];omega
  obtain ⟨v2,e,g,f⟩:=yY n ((c::l).drop (cut (c::l)).2) st1 v1 _ hd (by omega) o1 (by rw [W9];simp;omega);refine ⟨v2,e, ?_, ?_⟩
  .rw [aP (s':=([v1,.str ((c::l).drop (cut (c::l)).2)],st1)),g];simp only [CD,ad,ax,ae,show (!((c::l:List UInt8)==[]))=true from rfl,ao,a,cf,bw,bG,af,bW hc.2,Xc,aB,d,Xv]
  .rw [pG (by simp),W8];rw [W6] at f;exact f
theorem vK {β:Type} (s:List UInt8) (st:St) (K:Kv β):bc (aV vE) 23 [.str s] st K=K (.bool (cC s)) st q0:=aG st K rfl rfl rfl (IY s)
theorem zY {s:List UInt8} (h:65536 < s.length):(aV vE).bare 11 [.str s]=some (.tup [.ay,.int .i64 40]):=by
 refine aX rfl ((Gu _).trans ?_);have q:(s.length:Int) > 65536:=by omega
 simp only [g11,ax,aq,if_pos q]
theorem Co {s:List UInt8} (h:s.length<=65536) (hv:cC s=false):(aV vE).bare 11 [.str s]=some (.tup [.ay,.int .i64 4]):=by
 refine aX rfl ((Gu _).trans ?_);have q:¬ (s.length:Int) > 65536:=by omega
 simp only [g11,ax,aq,if_neg q,vK,hv,ak,XR,ao]
theorem GP {s:List UInt8} (h:s.length<=65536) (hv:cC s=true): ∃x,(aV vE).bare 11 [.str s]=some (.tup [x,.int .i64 0])/\bp 2 x ((tokens s).map tok):=by
 have q:¬ (s.length:Int) > 65536:=by omega
 obtain ⟨v',st',e,o⟩:=yY s.length s (St.mk 0 0 Tr.leaf) .ay [] (WW _) (by omega) (iS.ay (WW _) _ _) (by simp;omega);rw [W5] at o;obtain ⟨x,hx,hf⟩:=xq o (gM .i64 0) rfl;refine ⟨x,aX rfl ((Gu _).trans ?_),hx⟩;simp only [g11,ax,aq,if_neg q,vK,hv,ak,XE,ai,e,aj,ad,ae,hf]
end Go.Proofs.YtgecmbapkplklaaGreatDoor.Vm
namespace Go.Proofs.YtgecmbapkplklaaGreatDoor.Vm
open Go Go.VM Go.Proofs Go.Lex Go.Parse
section
variable {β:Type} {Q:β->Prop}
theorem xV {l:List T} {x:AV} {es:List AV} (hx:bp 4 x es) (hs:bO l es) (hg: ∀t∈l,∀v,iz t v->(aV vE).bare 6 [v]=some (.bool (Parse.bZ t))) (st:St): ∀(m:List T) (j:Nat),l.drop j=m->
  aK (yP x) ([.bool false,.int .i64 (j:Int)],st)=some (if m.all Parse.bZ then 0 else 1,[.bool false],st)
 | [],j,hd=>by
  have:=Xz.1 hd;have q:¬ (j:Int) < (l.length:Int):=by omega
  refine aF ?_;simp only [yP,ad,af,ak,ae,oz hx hs,aq,if_neg q];rfl
 | t::m,j,hd=>by
  obtain ⟨d,hr,h⟩:=drop_cons hd;have q:(j:Int) < (l.length:Int):=by omega
  have hlen:=DY hx hs;obtain ⟨a,b,s,y,g,e⟩:=va hx hs d;have c:=fun {γ:Type} (st:St) (K:Kv γ)=>xX g rfl (hg t (Xo d) _ g) st K;have f:yP x ([.bool false,.int .i64 (j:Int)],st)=aW (!Parse.bZ t) (some (.inr (1,[.bool false],st))) (some (.inl ([.bool false,.int .i64 ((j+1:Nat):Int)],st))):=by
   simp only [yP,ad,af,ak,ae,oz hx hs,aq,if_pos q];refine (e st _).trans ?_;simp only [c,ak,aB,bm (show j+1<=9223372036854775807 by omega)]
  cases ht:Parse.bZ t with
  | false=>
   rw [ht] at f;rw [aF f];simp [ht]
  | true=>
   rw [ht] at f;rw [aP f,xV hx hs hg st m (j+1) hr];simp [ht]
theorem Ll: ∀(t:T) (v:AV),iz t v->(aV vE).bare 6 [v]=some (.bool (Parse.bZ t)):=by
 refine T.ind fun k tk tx l ih v hv=> ?_;simp only [iz] at hv;obtain ⟨x,es,rfl,hx,hs⟩:=hv;refine aX rfl ((Tn _).trans ?_);have e:((k:Int)==2)=(k==2):=bP k 2;have f:((k:Int)==3)=(k==3):=bP k 3;have g:((k:Int)==1)=(k==1):=bP k 1;have i:((tk:Int)==9)=(tk==9):=bP tk 9;have b:=xV hx hs ih S0 l 0 rfl;have b:aK (yP x) ([.bool false,.int .i64 0],S0)= _:=b;have key:(if l.all Parse.bZ=true then (0:Nat) else 1)=0/\l.all Parse.bZ=true\/(if l.all Parse.bZ=true then (0:Nat) else 1)=1/\l.all Parse.bZ=false:=by
  cases h:l.all Parse.bZ <;> simp
 simp only [g6,aE,ad,af,ax,ae,hx.ab,hx.aD,g,e,f,i,Parse.bZ,zB,bne];have fin:az (aK (yP x) ([.bool false,.int .i64 0],S0)) (fun a:Nat×bT=>bj (Prod.fst (Prod.snd a)) fun v49 c=>bJ v49 fun d=>bC c (lC (Prod.fst a) (some (AV.bool true)) fun _x=>some (AV.bool d)))=some (.bool (l.all Parse.bZ)):=by
  rw [b];rcases key with ⟨h1,h2⟩ | ⟨h1,h2⟩ <;> rw [h1,h2] <;> rfl
 cases h2:k==2 <;> simp only [ao,ai,aj,ad,ak,ae,XE,XR,X3,X8]
 cases h3:k==3 <;> simp only [ao,ai,aj,ad,ak,ae,XE,XR,X3,X8]
 cases h1:k==1 <;> simp only [ao,ai,aj,ad,ak,ae,XE,XR,XK,Yi,X8]
 .exact fin
 cases j:tk==9 <;> simp only [ao,ai,aj,ad,ak,ae,XE,XR,X3,X8]
 exact fin
end
theorem Tk {t:T} {k tk:Nat} {tx:List UInt8} {y:AV} (h:Nd t k tk tx y): ∃v,iz t v/\ ∀{β:Type} (st:St) (K:AV->Option β),gR st 0 (.agg [.int .u8 (k:Int),.int .u8 (tk:Int),.str tx,y]) K=K v:=by
 obtain ⟨y',a,hf⟩:=AA h;refine ⟨_,a,fun st K=> ?_⟩;have b:VM.freeze st 0 100 (.agg [.int .u8 (k:Int),.int .u8 (tk:Int),.str tx,y])= _:=hf st 98;simp only [gR,b,(rn a).1,aR]
abbrev S2 (x:AV):St:=St.mk 2 0 (Tr.node (some (VM.Obj.cells ND z4)) (Tr.node (some (VM.Obj.cells PR [x,.int .i64 0,.int .i64 0])) Tr.leaf Tr.leaf) Tr.leaf)
abbrev S3 (x:AV):St:=St.mk 3 0 (Tr.node (some (VM.Obj.cells ND z4)) (Tr.node (some (VM.Obj.cells PR [x,.int .i64 0,.int .i64 0])) Tr.leaf Tr.leaf) (Tr.node (some (VM.Obj.cells ND [.int .u8 4,.int .u8 0,.str [],.ay])) Tr.leaf Tr.leaf))
theorem LJ {L:List aU} {x:AV} (hx:bp 2 x (L.map tok)) (hL:L.length<=70000) (d:Sg L): ∃v,(aV vE).bare 12 [x]=some v/\iz (doc L) v:=by
 obtain ⟨D,i,a⟩:=ju L;have key:aa (bN vE 12 [x]) (iz (doc L)):=by
  refine aa.step (Pb _) ?_;unfold g12;refine aa.one hx.one (aa.one hx.one ?_);have hps:E6 PR (S2 x) 1 L x 0 0:=⟨rfl,hx,XC _,by omega,XC _⟩;have w:=Wd.start hps;rw [Xc] at w;have w:=w.alloc ND [.int .u8 4,.int .u8 0,.str [],.ay];have j:(S2 x).add (.cells ND [.int .u8 4,.int .u8 0,.str [],.ay])=S3 x:=by kernel_rfl
  rw [j] at w;have w:Wd PR (S2 x) (S3 x) 1 L x 0 L [(2,ND,[.int .u8 4,.int .u8 0,.str [],.ay])] []:=w;refine aa.bind (FU d (fuel L) L D [] [] .ay _ (CC hL) i (by omega) w.ay bO.nil (by rw [aS];omega) (by have:=CC hL;simp;omega)) ?_;rintro q ⟨o,p,r,v,es,rfl,rfl,w,b,hl,hd⟩;refine aa.step (ae _) ?_;rw [W5] at b hl hd;refine aa.grow [] w (jx w.pz) rfl rfl b (by omega) (by omega) fun v' e f c l w=> ?_;refine aa.fq WS w (aa.one w.LC.one ?_);have g:f.ro=0:=w.k.ro;have g0:f.get 0= .ok (.cells ND z4):=w.k.old 0 _ (by decide) rfl;have vw:Vw f [(0,ND,z4)]:=⟨fun q m=>by
   rw [Yj.1 m];exact ⟨g0,by rw [g];exact WW _⟩,by simp,w.ro⟩
  refine aa.ng [] vw fun s _ _ vw=>aa.fX WS vw rfl ?_;simp only [aE,ad,af,ax,ae];have hnd:Nd (doc L) 4 0 [] v':=⟨⟨_,_,a,w.LC,c⟩⟩;obtain ⟨z,n,hf⟩:=Tk hnd;exact aa.step (hf _ _) (aa.some n)
 obtain ⟨v,e,h⟩:=key;exact ⟨v,aX rfl e,h⟩
theorem QC (s:List UInt8):Sg (tokens s):=fun t ht=>(Ast.GI _ s t ht).2.2
theorem Jv (s:List UInt8): ∃v,iz (eS s) v/\(aV vE).bare 5 [.str s]=some (.tup [v,.int .i64 (uh s)]):=by
 have key:aa (bN vE 5 [.str s]) (fun b=> ∃v,b= .tup [v,.int .i64 (uh s)]/\iz (eS s) v):=by
  refine aa.step (T5 _) ?_;unfold g5;refine aa.step (ax _ _) ?_;have w0:Vw (St.mk 1 0 (Tr.node (some (VM.Obj.cells ND z4)) Tr.leaf Tr.leaf)) [(0,ND,z4)]:=⟨fun q d=>by
   rw [Yj.1 d];exact ⟨rfl,XC _⟩,by simp,XC _⟩
  rcases Bk s with ⟨h0,h1,h2⟩ | ⟨h0,h1⟩ | ⟨h0,h1,h2⟩
  .obtain ⟨x,e,hx⟩:=GP (qp h0).1 h2;have g:=qD s;have i:=(qp h0).1;obtain ⟨v,ev,j⟩:=LJ hx (by omega) (QC s);have a:eS s=doc (tokens s):=by unfold eS;rw [if_pos h0]
   rw [a,h0];refine aa.step (aG _ _ rfl rfl rfl e) ?_;simp only [cf,bw,bG,af];refine aa.step (ai _ _) (aa.step (aG _ _ rfl (by simp only [W8,Xm,hx.strip]) (by simp only [bf,hx.bare];rfl) ev) ?_);obtain ⟨k,tk,tx,l,y,es,d,rfl,hy,hs⟩:=nF j;simp only [aE,ad,af,ax,ae];refine aa.step (hy.ab _) (aa.ng [] w0 fun f _ _ vw=>aa.fX WS vw rfl ?_);simp only [aE,ad,af,ax,ae];have hnd:Nd (doc (tokens s)) k tk tx y:=⟨⟨_,_,d,.inl hy,hs⟩⟩;obtain ⟨z,c,hf⟩:=qq hnd 0;exact aa.step (hf _ _) (aa.some ⟨z,rfl,c⟩)
  .have a:eS s= .mk 0 0 [] []:=by unfold eS;rw [if_neg (by rw [h0];decide)]
   rw [a,h0];refine aa.step (aG _ _ rfl rfl rfl (zY h1)) ?_;simp only [cf,bw,bG,af];refine aa.step (ao _ _) (aa.ng [] w0 fun f _ _ vw=>aa.fX WS vw rfl ?_);simp only [aE,ad,af,ax,ae];obtain ⟨z,c,hf⟩:=qq Cq 40;exact aa.step (hf _ _) (aa.some ⟨z,rfl,c⟩)
  .have a:eS s= .mk 0 0 [] []:=by unfold eS;rw [if_neg (by rw [h0];decide)]
   rw [a,h0];refine aa.step (aG _ _ rfl rfl rfl (Co (by omega) h2)) ?_;simp only [cf,bw,bG,af];refine aa.step (ao _ _) (aa.ng [] w0 fun f _ _ vw=>aa.fX WS vw rfl ?_);simp only [aE,ad,af,ax,ae];obtain ⟨z,c,hf⟩:=qq Cq 4;exact aa.step (hf _ _) (aa.some ⟨z,rfl,c⟩)
 obtain ⟨b,e,v,rfl,h⟩:=key;exact ⟨v,h,aX rfl e⟩
theorem Dn (s:List UInt8): ∃v,iz (eS s) v/\ ∀{γ:Type} (st:St) (K:Kv γ),bc (aV vE) 5 [.str s] st K=K (.tup [v,.int .i64 (uh s)]) st q0:=by
 obtain ⟨v,h,e⟩:=Jv s;exact ⟨v,h,fun st K=>aG st K rfl rfl rfl e⟩
section
variable {β:Type} {Q:β->Prop} {st:St} {l:ui}
theorem Eg {F:FuncId} {t:T} {v u r:AV} (b:iz t v) (hu:VM.bare u=true) (a:VM.strip u=u) (hf:vE.full F=false) (h:(aV vE).bare F [v,u]=some r) {β:Type} (st:St) (K:Kv β):bc (aV vE) F [v,u] st K=K r st q0:=
 aG st K hf (by simp only [W8,Xm,(rn b).2,a]) (by simp only [bf,(rn b).1,hu];rfl) h
theorem qj {B:List UInt8} {l:List T} {x:AV} {es:List AV} (hx:bp 4 x es) (hs:bO l es) (hg: ∀t∈l,∀v,iz t v->(Ci B t).length<=1000000000000->(aV vE).bare 8 [v,.str B]=some (.str (Ci B t))): ∀(m:List T) (j:Nat) (out:List UInt8) (st:St),st.ro<=st.h->l.drop j=m->out.length+(Fe B m).length<=1000000000000->
  aa (aK (Bj B x) ([.str out,.int .i64 (j:Int)],st)) (fun q=> ∃s',q=(0,[.str (out++Fe B m)],s'))
 | [],j,out,st,n,hd,hl=>by
  have:=Xz.1 hd;have q:¬ (j:Int) < (l.length:Int):=by omega
  refine ⟨(0,[.str (out++Fe B [])],st),aF ?_,st,rfl⟩;simp only [Fe,Xe,Bj,ad,af,ax,ae,oz hx hs,aq,if_neg q]
 | t::m,j,out,st,n,hd,hl=>by
  obtain ⟨o,hr,E⟩:=drop_cons hd;have q:(j:Int) < (l.length:Int):=by omega
  have hlen:=DY hx hs;rw [tK,W9] at hl;obtain ⟨a,b,s,y,r,e⟩:=va hx hs o;have p:=Xo o;obtain ⟨a',b',s',I,y',es',ht,hv,hy,F⟩:=nF r;have z:a=a'/\b=b'/\y=y':=by
   injection hv with hv
   have h1:=List.cons.inj hv;have h2:=List.cons.inj h1.2;have h3:=List.cons.inj h2.2;have h4:=List.cons.inj h3.2;have A:=h1.1;have C:=h2.1;simp only [AV.int.injEq,Yo] at A C;exact ⟨by omega,by omega,h4.1⟩
  obtain ⟨rfl,rfl,rfl⟩:=z;have A:((a:Int)==1)=(a==1):=bP a 1;have C:((b:Int)==1)=(b==1):=bP b 1;have D:aa (Bj B x ([.str out,.int .i64 (j:Int)],st)) (fun q=> ∃s',q= .inl ([.str (out++JG B t),.int .i64 ((j+1:Nat):Int)],s')/\s'.ro<=s'.h):=by
   simp only [Bj,ad,af,ax,ae,oz hx hs,aq,if_pos q];refine aa.bind (R:=fun c=> ∃s',c= .inl ([.str (out++JG B t)],s')/\s'.ro<=s'.h) ?_ ?_
   .refine aa.step (e st _) ?_;refine aa.Cd (Vw.start n) fun s1 _ w=>aa.step (hy.ab _) ?_;refine aa.ng [] w fun s2 _ _ w=> ?_;refine aa.bind (R:=fun c=> ∃s',c=([.bool (a==1&&b==1)],s')/\Vw s' [(st.h,ND,[.int .u8 (a:Int),.int .u8 (b:Int),.str s,y])]) ?_ ?_
    .refine aa.fT (WS) w rfl (aa.step (af _ _ _) ?_);rw [A];cases h1:a==1
     .exact aa.some ⟨s2,rfl,w⟩
     .refine aa.step (ao _ _) (aa.fT (WS) w rfl (aa.step (af _ _ _) ?_));rw [C];exact aa.some ⟨s2,rfl,w⟩
    .rintro c ⟨k,rfl,w⟩;simp only [ad,ak,ae];have i:JG B t=if a=1/\b=1 then B else Ci B t:=by rw [ht];rfl
     by_cases d:a=1/\b=1
     .rw [if_pos d] at i;rw [i] at hl ⊢;have f:(a==1&&b==1)=true:=by simp [d.1,d.2]
      rw [f];refine aa.step (ao _ _) (aa.step (gP (gN (by omega)) _) (aa.step (aB _ _) (aa.some ⟨k,rfl,w.ro⟩)))
     .rw [if_neg d] at i;rw [i] at hl ⊢;have f:(a==1&&b==1)=false:=by
       rw [Bool.eq_false_iff];intro h;simp only [WY,XA] at h;exact d h
      rw [f];refine aa.step (ai _ _) (aa.fX (WS) w rfl ?_);simp only [aE,ad,af,ax,ae,Eg (u:= .str B) r rfl rfl rfl (hg t p _ r (by omega)),gN (show out.length+(Ci B t).length<=9223372036854775807 by omega),aR,aB];exact aa.some ⟨k,rfl,w.ro⟩
   .rintro c ⟨k,rfl,g⟩;simp only [cF,ad,ax,ae,aB,bm (show j+1<=9223372036854775807 by omega)];exact aa.some ⟨k,rfl,g⟩
  obtain ⟨q2,G,k,rfl,g⟩:=D;rw [aP G];refine (qj hx hs hg m (j+1) _ k g hr (by rw [W9];omega)).mono ?_;rintro q3 ⟨H,rfl⟩;exact ⟨H,by rw [tK,W6]⟩
theorem CF (B:List UInt8): ∀(t:T) (v:AV),iz t v->(Ci B t).length<=1000000000000->(aV vE).bare 8 [v,.str B]=some (.str (Ci B t)):=by
 refine T.ind fun k tk tx l ih v hv hl=> ?_;simp only [iz] at hv;obtain ⟨x,es,rfl,hx,hs⟩:=hv;simp only [Ci,W9] at hl ⊢;obtain ⟨q,a,s',rfl⟩:=qj hx hs ih l 0 [] S0 (WW _) rfl (by simp only [XI];omega);have a:aK (Bj B x) ([.str [],.int .i64 0],S0)= _:=a;have b:((k:Int)==1)=(k==1):=bP k 1;refine aX rfl ((Tt _ _).trans ?_);simp only [g8,aE,ad,af,ax,ae,hx.ab,hx.aD,a,aj,W5,b];by_cases h:k=1
 .rw [if_pos h] at hl ⊢;simp only [XA.2 h,ao,gN (show (Fe B l).length+tx.length<=9223372036854775807 by omega),aR,aB,aj,ad,ax,ae]
 .rw [if_neg h];simp only [WX.2 h,ai,aj,ad,ax,ae,Xe]
end
theorem DI (n:Nat) {β:Type} (st:St) (K:AV->List Nat->Option β):bU 1 (.sl 1 [.str [32],.str [10],.str [9,32,13,10],.str [32,32,32,32]] .shut) (Int.tmod (n:Int) 4) st K=K (.ip [.str (mY (n % 4))]) []:=by
 rw [show Int.tmod (n:Int) 4=((n % 4:Nat):Int) from rfl];have h:n % 4 < 4:=Nat.mod_lt _ (by omega);generalize n % 4=m at h
 match m,h with
 | 0,_=>rfl
 | 1,_=>rfl
 | 2,_=>rfl
 | 3,_=>rfl
theorem Da (s:List UInt8) (n:Nat):(aV vE).bare 3 [.str s,.int .u8 (n:Int)]=some (.bool true):=by
 obtain ⟨v,e,r⟩:=Dn s;refine aX rfl (aa.eq (aa.step (SR _ _) ?_));unfold g3;refine aa.step (ax _ _) (aa.step (af _ _ _) ?_);refine aa.bind (R:=fun c=> ∃b,c=([.bool b],S0)/\(b=false->s.length<=2000)) ?_ ?_
 .by_cases hl:(s.length:Int) > 2000
  .exact aa.step (cZ (c:=true) (Ye hl) _ _) (aa.step (ao _ _) (aa.some ⟨_,rfl,fun h=>by cases h⟩))
  .exact aa.step (cZ (c:=false) (X5 hl) _ _) (aa.step (ai _ _) (aa.step (xB _ _) (aa.step (ak _ _) (aa.some ⟨_,rfl,fun _=>by omega⟩))))
 rintro c ⟨b,rfl,hlen⟩;simp only [ad,ak,ae];cases b with
 | true=>exact aa.step (ao _ _) (aa.step (xB _ _) (aa.step (ak _ _) (aa.some rfl)))
 | false=>
  have hlen:=hlen rfl;refine aa.step (ai _ _) (aa.step (r _ _) ?_);obtain ⟨k,tk,tx,F,y,es,G,rfl,hy,hs⟩:=nF e;simp only [cf,bw,bG,aE,ad,af,ax,ae];refine aa.Cd (Vw.start (XC _)) fun s1 _ t=>aa.step (hy.ab _) ?_;refine aa.ng [] t fun s2 _ _ l=> ?_;refine aa.bind (R:=fun c=>c=([.bool (decide (uh s≠0)|| !Parse.bZ (eS s))],s2)) ?_ ?_
  .by_cases h0:uh s=0
   .rw [h0];refine aa.step (ai _ _) (aa.fX WS l rfl ?_);simp only [aE,ad,af,ax,ae];exact aa.step (xX e rfl (Ll _ _ e) _ _) (aa.step (ak _ _) (aa.some rfl))
   .refine aa.step (cZ (c:=true) (by simpa using h0) _ _) (aa.step (ao _ _) (aa.some ?_));rw [Ye h0];rfl
  rintro c rfl;simp only [ad,ak,ae];cases hb:decide (uh s≠0)|| !Parse.bZ (eS s) with
  | true=>exact aa.step (ao _ _) (aa.some rfl)
  | false=>
   simp only [Yu,decide_eq_false_iff_not,ne_eq,Decidable.not_not,Bool.not_eq_false'] at hb;obtain ⟨h0,hg⟩:=hb;obtain ⟨w,hv⟩:=qp h0;have ht:eS s=doc (tokens s):=by unfold eS;rw [if_pos h0]
   obtain ⟨b1,b2,b3,H⟩:=Ay (n % 4);rw [ht] at hg e;obtain ⟨c1,c2⟩:=Jd hv b1 b2 b3 hg;have z:=FY s (n % 4);have A:=fun {γ:Type} (st:St) (K:Kv γ)=>Eg (u:= .str (mY (n % 4))) e rfl rfl rfl (CF _ _ _ e (by omega)) st K;generalize Ci (mY (n % 4)) (doc (tokens s))=m at *;have f:Parse.bZ (doc (tokens m))=true:=by rw [Format.Il c2];exact hg
   have B:Ast.Bv s= .ok (Ast.gU 0 (doc (tokens s)).kids):=by unfold Ast.Bv;rw [if_neg (by omega),if_pos hv,if_pos hg]
   have a2:Ast.Bv m= .ok (Ast.gU 0 (doc (tokens m)).kids):=by unfold Ast.Bv;rw [if_neg (by omega),if_pos c1,if_pos f]
   have g:=Ast.F0 c2;obtain ⟨u,a,C⟩:=Hy s;obtain ⟨o,d,D⟩:=Hy m;unfold Ui at a d;rw [B] at a;rw [a2] at d;obtain ⟨p,E,rfl,hp,hps⟩: ∃x es,u= .tup [x,.int .i64 0]/\bp 11 x es/\iq (Ast.gU 0 (doc (tokens s)).kids) es:=a;obtain ⟨q,fs,rfl,i,j⟩: ∃x es,o= .tup [x,.int .i64 0]/\bp 11 x es/\iq (Ast.gU 0 (doc (tokens m)).kids) es:=d;refine aa.step (ai _ _) (aa.step (aB _ _) (aa.step (DI n _ _) ?_));refine aa.step (bx _ _ _ _ _) (aa.step (aj _ _) (aa.step (ax _ _) ?_));refine aa.step (C _ _) ?_;simp only [cf,bw,bG,af];refine aa.fX WS l rfl ?_;simp only [aE,ad,af,ax,ae];refine aa.step (A _ _) (aa.step (ax _ _) (aa.step (D _ _) ?_));simp only [cf,bw,bG,af];refine aa.bind (R:=fun c=> ∃s',c=([.bool true],s')) (aa.step (ai _ _) (aa.step (ao _ _) (aa.step (ao _ _) (aa.step (Fv hps j hp i g.symm _ _) (aa.step (ak _ _) (aa.some ⟨_,rfl⟩)))))) ?_;rintro c ⟨s',rfl⟩;exact aa.some rfl
end Go.Proofs.YtgecmbapkplklaaGreatDoor.Vm
namespace Go.Proofs.YtgecmbapkplklaaGreatDoor.Vm
open Go Go.VM Go.Proofs
def EK:List TypeId:=[9,5,3]
theorem CU: ∀t,CV EK t=true->BV Tryz.prog EK t=true:=by
 intro t ht;have:t∈EK:=by
  obtain ⟨u,hu,e⟩:=List.any_eq_true.1 ht;rw [<- W2 e];exact hu
 exact XH.1 (show (EK.all fun t=>BV Tryz.prog EK t)=true by kernel_rfl) t this
theorem Re {n t:Nat} {cs:List AV} (hu:Tryz.prog.underlying t=some .string) (h:nD Tryz.prog n t cs): ∃s,cs=[.str s]/\s.length<=maxLen:=by
 cases n with
 | zero=>cases h
 | succ n=>simp only [nD,hu] at h;exact h
theorem To {n t:Nat} {cs:List AV} (hu:Tryz.prog.underlying t=some (.int .u8)) (h:nD Tryz.prog n t cs): ∃m:Nat,cs=[.int .u8 (m:Int)]:=by
 cases n with
 | zero=>cases h
 | succ n=>
  simp only [nD,hu] at h;obtain ⟨m,rfl,h1,h2⟩:=h;have h1:(0:Int)<=m:=h1;exact ⟨m.toNat,by rw [Int.toNat_of_nonneg h1]⟩
end Go.Proofs.YtgecmbapkplklaaGreatDoor.Vm
