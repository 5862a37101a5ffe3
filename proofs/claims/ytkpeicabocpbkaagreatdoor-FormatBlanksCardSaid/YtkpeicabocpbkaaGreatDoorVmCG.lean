/-
  A part of the proof.
-/
import Derived.Test.YtkpeicabocpbkaaGreatDoorVmCF
import Derived.Test.YtkpeicabocpbkaaGreatDoorVmCB
set_option maxRecDepth 1000000
set_option linter.all false
namespace Go.Proofs.YtkpeicabocpbkaaGreatDoor.Vm
open Go Go.VM Go.Proofs Go.Lex Go.Parse
section
variable {β:Type} {Q:β->Prop} {PT:Td} {st0 st:St} {p:Nat} {L:List aW} {x:AV} {d d':Nat} {r r':List aW} {l l1 l2:List Vr} {os:List (AV×LA)} {t:T}
theorem Wd.swap {u v:Vr} (w:Wd PT st0 st p L x d r (u::v::l) os):Wd PT st0 st p L x d r (v::u::l) os:=by
 refine ⟨w.pz,w.k,fun q a=>w.v q ?_, ?_,w.o,w.od,w.p0,w.ro0⟩
 .rcases aam.1 a with h | a
  .exact aak _ (by rw [h];exact aad)
  .rcases aam.1 a with h | a
   .rw [h];exact aad
   .exact aak _ (aak _ a)
 .have h:=w.nd;simp only [aal,abT,aam,not_or] at h ⊢;exact ⟨⟨fun e=>h.1.1 e.symm,h.2.1⟩,h.1.2,h.2.2⟩
theorem Wd.Yv (w:Wd PT st0 st p L x d r l []) {v:AV} {es:LA} (h:jg st 4 ND v es) (hn: ∀j,dQ v j->st0.h<=j):Wd PT st0 st p L x d r l [(v,es)]:=
 ⟨w.pz,w.k,w.v,w.nd,fun q a=>by
  rw [aaG.1 a];exact ⟨h,hn⟩,List.pairwise_singleton _ _,w.p0,w.ro0⟩
theorem Gv.OO {s:St} {a b k:Nat} {ts:List T} (h:Gv PR st0 s p L x d r a b k ts) {K:Int->LB->St->Fx->Oq β} (g: ∀s' e,Gv PR st0 s' p L x d r a b k ts->aa (K ((nx r).1:Int) (nx r).2 s' e) Q):
  aa (aV (aY vE) 15 [.mp p 0] s fun v s e=>M7 v fun a c=>K a c s e) Q:=by
 obtain ⟨v,es,w,hs,hd⟩:=h;exact aa.OO w fun s' w'=>g s' _ ⟨v,es,w',hs,hd⟩
theorem Eb {n:Nat} (ih: ∀m,m < n->Dv m) (hs:Sg L) {a b k:Nat} {c:St} (v:c.h=a) (hd:d<=64): ∀(m:Nat) (ts bs:List T) (r r':List aW) (s:St),m<=n->P m .params d r=some (bs,r')->Gv PR st0 s p L x d r a b k ts->ts.length+m<=100000000->
  aa (aH (wo (.mp p 0) c) ([],s)) (fun q=> ∃s',q=(0,[],s')/\Gv PR st0 s' p L x d r' a b k (ts++bs)):=by
 intro m
 induction m with
 | zero=>intro ts bs r r' s _ h;cases h
 | succ m j=>
  intro ts bs r r' s hm h f hl;simp only [P] at h;split at h
  .rename_i l;obtain ⟨⟨C,o⟩,w,h⟩:=bind_some h;obtain ⟨u,rfl⟩:=cH _ _ _ _ _ _ w rfl;obtain ⟨⟨z,r2⟩,A,h⟩:=bind_some h;cases h;have g:aa (wo (.mp p 0) c ([],s)) (fun q=> ∃s',q= .inl ([],s')/\Gv PR st0 s' p L x d o a b k (ts++[u])):=by
    simp only [wo,ae,v];refine f.ng true hs fun y _ f=> ?_;rw [l];refine aa.step (aq _ _) ?_;exact f.grow ((ih m (by omega)).atom true _ p L x d r u o hs f.pz hd w) rfl rfl (by omega) fun s' f=>aa.some ⟨s',rfl,f⟩
   obtain ⟨q,e,s',rfl,i⟩:=g;rw [aJ e];refine (j _ z o _ s' (by omega) A i (by simp;omega)).mono ?_;rintro q ⟨B,rfl,t⟩;exact ⟨B,rfl,by simpa using t⟩
  .rename_i l;cases h;have g:aa (wo (.mp p 0) c ([],s)) (fun q=> ∃s',q= .inr (0,[],s')/\Gv PR st0 s' p L x d r a b k ts):=by
    simp only [wo,ae,v];refine f.ng true hs fun y _ f=> ?_;rw [aaC l];exact aa.step (aj _ _) (aa.some ⟨y,rfl,f⟩)
   obtain ⟨q,e,s',rfl,i⟩:=g;exact ⟨_,aF e,s',rfl,by simpa using i⟩
theorem BK {n:Nat} (ih: ∀m,m < n->Dv m) (hs:Sg L) {a b k:Nat} {c:St} (v:c.h=a) (hd:d<=64): ∀(m:Nat) (ts bs:List T) (r r':List aW) (s:St),m<=n->P m .params d r=some (bs,r')->Gv PR st0 s p L x d r a b k ts->ts.length+m<=100000000->
  aa (aH (vU (.mp p 0) c) ([],s)) (fun q=> ∃s',q=(0,[],s')/\Gv PR st0 s' p L x d r' a b k (ts++bs)):=by
 intro m
 induction m with
 | zero=>intro ts bs r r' s _ h;cases h
 | succ m j=>
  intro ts bs r r' s hm h f hl;simp only [P] at h;split at h
  .rename_i l;obtain ⟨⟨C,o⟩,w,h⟩:=bind_some h;obtain ⟨u,rfl⟩:=cH _ _ _ _ _ _ w rfl;obtain ⟨⟨z,r2⟩,A,h⟩:=bind_some h;cases h;have g:aa (vU (.mp p 0) c ([],s)) (fun q=> ∃s',q= .inl ([],s')/\Gv PR st0 s' p L x d o a b k (ts++[u])):=by
    simp only [vU,ae,v];refine f.ng true hs fun y _ f=> ?_;rw [l];refine aa.step (aq _ _) ?_;exact f.grow ((ih m (by omega)).atom true _ p L x d r u o hs f.pz hd w) rfl rfl (by omega) fun s' f=>aa.some ⟨s',rfl,f⟩
   obtain ⟨q,e,s',rfl,i⟩:=g;rw [aJ e];refine (j _ z o _ s' (by omega) A i (by simp;omega)).mono ?_;rintro q ⟨B,rfl,t⟩;exact ⟨B,rfl,by simpa using t⟩
  .rename_i l;cases h;have g:aa (vU (.mp p 0) c ([],s)) (fun q=> ∃s',q= .inr (0,[],s')/\Gv PR st0 s' p L x d r a b k ts):=by
    simp only [vU,ae,v];refine f.ng true hs fun y _ f=> ?_;rw [aaC l];exact aa.step (aj _ _) (aa.some ⟨y,rfl,f⟩)
   obtain ⟨q,e,s',rfl,i⟩:=g;exact ⟨_,aF e,s',rfl,by simpa using i⟩
theorem Iz {n:Nat} (ih: ∀m,m < n->Dv m) (hs:Sg L) {a b k:Nat} {f:St} (v:f.h=a) (hd:d<=64): ∀(m:Nat) (ts bs:List T) (r r':List aW) (s:St),m<=n->P m .arms d r=some (bs,r')->Gv PR st0 s p L x d r a b k ts->ts.length+2 * m<=100000000->
  aa (aH (vm (.mp p 0) f) ([],s)) (fun q=> ∃s',q=(0,[],s')/\Gv PR st0 s' p L x d r' a b k (ts++bs)):=by
 intro m
 induction m with
 | zero=>intro ts bs r r' s _ h;cases h
 | succ m j=>
  intro ts bs r r' s hm h c hl;simp only [P] at h;split at h
  .rename_i l;obtain ⟨⟨C,o⟩,w,h⟩:=bind_some h;obtain ⟨u,rfl⟩:=cH _ _ _ _ _ _ w rfl;obtain ⟨⟨z,r2⟩,A,h⟩:=bind_some h;cases h;have g:aa (vm (.mp p 0) f ([],s)) (fun q=> ∃s',q= .inl ([],s')/\Gv PR st0 s' p L x d o a b k (ts++[aK r]++[u])):=by
    simp only [vm,ae,v];refine c.tO (s0:=fZ) fun y _ c=> ?_;rw [l];refine aa.step (aq _ _) ?_;refine c.grow (jP c.pz) rfl rfl (by omega) fun s' c=> ?_;exact c.grow ((ih m (by omega)).arm _ p L x d _ u o hs c.pz hd w) rfl rfl (by simp;omega) fun s' c=>aa.some ⟨s',rfl,c⟩
   obtain ⟨q,e,s',rfl,i⟩:=g;rw [aJ e];refine (j _ z o _ s' (by omega) A i (by simp;omega)).mono ?_;rintro q ⟨B,rfl,t⟩;exact ⟨B,rfl,by simpa using t⟩
  .rename_i l;cases h;have g:aa (vm (.mp p 0) f ([],s)) (fun q=> ∃s',q= .inr (0,[],s')/\Gv PR st0 s' p L x d r a b k ts):=by
    simp only [vm,ae,v];refine c.tO (s0:=fZ) fun y _ c=> ?_;rw [aaC l];exact aa.step (aj _ _) (aa.some ⟨y,rfl,c⟩)
   obtain ⟨q,e,s',rfl,i⟩:=g;exact ⟨_,aF e,s',rfl,by simpa using i⟩
theorem Bw {n:Nat} (ih: ∀m,m<=n->Dv m) (hn:n<=10000000):Kb (n+1):=by
 intro st p L x d r k a e ts r' hs E hd t F h;have G:eZ ts<=200000000000000:=by
  have:=Jz (n+1) .binding d r ts r' h;rw [show lB lJ.binding=[] from rfl,aU] at this;have S:(n+1) * (n+1)<=10000001 * 10000001:=acg (by omega) (by omega);omega
 have y: ∃xs f es,P n .expr d (bo wB f)=some ([es],r')/\ts=(if cf ey r then [aK r] else [])++xs++[cP wB f]++[es]/\xs.length<=n+1/\
   (if (nx (if cf ey r then aO r else r)).1=4 then ∃ps,P n .params d (aO (if cf ey r then aO r else r))=some (ps,f)/\xs=aK (if cf ey r then aO r else r)::ps else P n (.atom true) d (if cf ey r then aO r else r)=some (xs,f)):=by
  simp only [P] at h;generalize (if cf ey r then aO r else r)=r0 at h ⊢;split at h
  .rename_i h4;obtain ⟨⟨xs,f⟩,i,h⟩:=bind_some h;obtain ⟨⟨ps,H⟩,j,i⟩:=bind_some i;cases i;obtain ⟨⟨es,r2⟩,g,h⟩:=bind_some h;obtain ⟨u,rfl⟩:=cH _ _ _ _ _ _ g rfl;cases h;have:=mH _ _ _ _ _ j;exact ⟨aK r0::ps,H,u,g,rfl,by simpa using this,by rw [if_pos h4];exact ⟨ps,j,rfl⟩⟩
  .rename_i h4;obtain ⟨⟨xs,f⟩,i,h⟩:=bind_some h;obtain ⟨⟨es,r2⟩,g,h⟩:=bind_some h;obtain ⟨u,rfl⟩:=cH _ _ _ _ _ _ g rfl;cases h;have:=nu i rfl;exact ⟨xs,f,u,g,rfl,by omega,by rw [if_neg h4];exact i⟩
 clear h;obtain ⟨xs,f,u,g,z,I,hx⟩:=y;refine aa.wide (aa.step (T3 _ _ _) ?_);unfold Zl;refine aa.step (kY ..) (aa.one rfl ?_);refine aa.alloc (Wd.begin E) fun A J w=>aa.alloc w fun K _ w=> ?_;have b:Gv PR st K p L x d r st.h A.h k [a]:=⟨_,_,w.swap.shut (by simp),mI t,by rw [bq];omega⟩;refine b.tO (s0:=ey) fun M _ b=> ?_;refine aa.bind (R:=fun c=> ∃s,c=([],s)/\Gv PR st s p L x d (if cf ey r then aO r else r) st.h A.h k ([a]++(if cf ey r then [aK r] else []))) ?_ ?_
 .cases T:cf ey r with
  | true=>exact aa.step (aq _ _) (b.grow (jP b.pz) rfl rfl (by simp) fun C b=>aa.some ⟨C,rfl,b⟩)
  | false=>exact aa.step (aj _ _) (aa.some ⟨M,rfl,by simpa using b⟩)
 have N:(if cf ey r then [aK r] else []).length<=1:=by split <;> simp
 generalize (if cf ey r then [aK r] else [])=rc at *;generalize (if cf ey r then aO r else r)=r0 at *;rintro c ⟨C,rfl,b⟩;refine aa.step (ae _) (b.OO fun U _ b=> ?_);refine aa.bind (R:=fun c=> ∃s,c=([],s)/\Gv PR st s p L x d f st.h A.h k ([a]++rc++xs)) ?_ ?_
 .by_cases h4:(nx r0).1=4
  .rw [if_pos h4] at hx;obtain ⟨ps,j,rfl⟩:=hx;refine aa.step (cQ (c:=true) (by rw [h4];rfl) _ _) (aa.step (aq _ _) ?_);refine b.grow (jP b.pz) rfl rfl (by simp;omega) fun l b=> ?_;refine aa.bind (Eb (fun m hm=>ih m (by omega)) hs rfl hd n _ ps _ f l (aah _) j b (by simp;omega)) ?_;rintro q ⟨D,rfl,b⟩;exact aa.step (ae _) (aa.some ⟨D,rfl,by simpa using b⟩)
  .rw [if_neg h4] at hx;obtain ⟨O,rfl⟩:=cH _ _ _ _ _ _ hx rfl;refine aa.step (cQ (c:=false) (aai.2 (by omega)) _ _) (aa.step (aj _ _) ?_);exact b.grow ((ih n (aah _)).atom true _ p L x d r0 O f hs b.pz hd hx) rfl rfl (by simp;omega) fun l b=>aa.some ⟨l,rfl,b⟩
 .rintro c ⟨l,rfl,b⟩;refine aa.step (ae _) ?_;refine b.grow (lh b.pz wB) rfl rfl (by simp;omega) fun D b=> ?_;refine b.grow ((ih n (aah _)).expr _ p L x d _ u r' hs b.pz hd g) rfl rfl (by simp;omega) fun V b=> ?_;obtain ⟨v,es,w,B,Q⟩:=b;refine aa.fG aad w (aa.one w.Nt.one ?_);refine aa.store [_] w fun W _ w=> ?_;refine aa.fG (aak _ aad) w (aa.some ?_);have ho:=w.o _ aad;refine ⟨v,es,rfl,ho.1,ho.2, ?_, ?_,w.pz,w.k⟩
  .rw [z];have:[a]++rc++xs++[cP wB f]++[u]=a::(rc++xs++[cP wB f]++[u]):=by simp
   rw [<- this];exact B
  .rw [bC];omega
end
section
variable {β:Type} {Q:β->Prop} {PT:Td} {st0 st:St} {p:Nat} {L:List aW} {x:AV} {d d':Nat} {r r':List aW} {l l1 l2:List Vr} {os:List (AV×LA)} {t:T}
theorem _root_.Go.VM.aa.Ff (w:Wd PR st0 st p L x d r [(st0.h,ND,z4)] []) (k:Nat) {K:St->St->Oq β} (g: ∀s s',Gv PR st0 s' p L x d (aO r) s.h st0.h k [aK r]->aa (K s s') Q):
  aa (aV (aY vE) 17 [.mp p 0] st fun v s _=>xM v fun c e tx y=>ab y (ab y (aB y fun y=>bk (St.add s (.cells ND z4)) fun f=>bm (aY vE) 4 (.mp (St.h s) 0) (.agg [.int .u8 (k:Int),.int .u8 0,.str [],.sl 4 [.agg [.int .u8 c,.int .u8 e,.str tx,y]] .shut]) [.int .u8 (k:Int),.int .u8 0,.str [],.sl 4 [.agg [.int .u8 c,.int .u8 e,.str tx,y]] .shut] f fun _ s' _=>K s s'))) Q:=by
 refine aa.pW w fun j tk tx y s hnd a w=>aa.two hnd (aa.fit hnd fun l b _ _=> ?_);refine aa.alloc w fun f _ w=>aa.store [] w fun i _ w=> ?_;exact g s i ⟨_,_,w.shut (by simp),mI b,by rw [bq];exact a⟩
theorem Hb {n:Nat} (ih: ∀m,m<=n->Dv m) (hn:n<=10000000):jm 69 [] .whole (n+1):=by
 intro st p L x d r t r' hs T hd h;have i:fg t<=200000000000000:=by
  have:=Jz (n+1) .whole d r [t] r' h;rw [show lB lJ.whole=[] from rfl,aU,bq] at this;have hq:(n+1) * (n+1)<=10000001 * 10000001:=acg (by omega) (by omega);omega
 simp only [P] at h;refine aa.wide (aa.step (U9 _ _) ?_);unfold ZJ;refine aa.alloc (Wd.begin T) fun s0 h0 w=> ?_;refine aa.tO (s0:=lI) w fun s2 _ w=> ?_;have b:=ih n (aah _);have U:=bX r;split at h
 .rename_i g;obtain ⟨⟨bs,r2⟩,l,h⟩:=bind_some h;obtain ⟨⟨es,F⟩,o,h⟩:=bind_some h;obtain ⟨e,rfl⟩:=cH _ _ _ _ _ _ o rfl;cases h;have D:=qL _ _ _ _ _ l;refine aa.step (cQ (c:=true) g _ _) (aa.step (aq _ _) ?_);refine aa.pW w fun k tk tx y s hnd z w=>aa.two hnd (aa.fit hnd fun z1 H _ _=> ?_);refine aa.iR (b.binding _ p L x d _ 6 (aK r) _ bs r2 hs w.pz hd H (by omega) l) rfl rfl fun v E V=> ?_;obtain ⟨W,X,B,ho,I,J,Y,K,M⟩:=V;have B:v= .agg [.int .u8 ((6:Nat):Int),.int .u8 0,.str [],W]:=B;have Z:=(w.move M K).Yv ho fun j hj=>aaL w.h (I j hj);rw [B];refine aa.step (kY ..) (aa.alloc Z fun N _ w6=>aa.one ho.one ?_);refine aa.store [] w6 fun G _ w=> ?_;have a:Gv PR st G p L x d r2 E.h st.h 6 (aK r::bs):=⟨_,_,w,J,by omega⟩;refine a.grow (lh a.pz RW) rfl rfl (by simp;omega) fun C a=> ?_;refine a.grow (b.expr _ p L x d _ e _ hs a.pz hd o) rfl rfl (by simp;omega) fun Q a=> ?_;have:=a.nd.fin (aaL i (by omega));exact this
 rename_i g;refine aa.step (cQ (c:=false) (aaC g) _ _) (aa.step (aj _ _) ?_);refine aa.tO (s0:=Qh) w fun s3 _ w=> ?_;split at h
 .rename_i g;obtain ⟨⟨S,f⟩,l,h⟩:=bind_some h;obtain ⟨u,rfl⟩:=cH _ _ _ _ _ _ l rfl;obtain ⟨⟨ps,r2⟩,o,h⟩:=bind_some h;obtain ⟨⟨es,F⟩,A,h⟩:=bind_some h;obtain ⟨e,rfl⟩:=cH _ _ _ _ _ _ A rfl;cases h;have av:=mH _ _ _ _ _ o;refine aa.step (cQ (c:=true) g _ _) (aa.step (aq _ _) ?_);refine aa.Ff w 7 fun s s' a=> ?_;refine a.grow (b.atom true _ p L x d _ u f hs a.pz hd l) rfl rfl (by simp) fun E a=> ?_;refine aa.bind (BK (fun m hm=>ih m (by omega)) hs rfl hd n _ ps _ r2 E (aah _) o a (by simp;omega)) ?_;rintro q ⟨N,rfl,a⟩;refine aa.step (ae _) ?_;refine a.grow (lh a.pz ig) rfl rfl (by simp;omega) fun G a=> ?_;refine a.grow (b.expr _ p L x d _ e _ hs a.pz hd A) rfl rfl (by simp;omega) fun C a=> ?_;refine a.nd.fin (aaL ?_ (by omega:200000000000000<=1000000000000000));simpa [aao] using i
 rename_i g;refine aa.step (cQ (c:=false) (aaC g) _ _) (aa.step (aj _ _) ?_);refine aa.tO (s0:=XW) w fun s4 _ w=> ?_;split at h
 .rename_i g;obtain ⟨⟨S,f⟩,l,h⟩:=bind_some h;obtain ⟨u,rfl⟩:=cH _ _ _ _ _ _ l rfl;obtain ⟨⟨b1,r2⟩,o,h⟩:=bind_some h;obtain ⟨v,rfl⟩:=cH _ _ _ _ _ _ o rfl;obtain ⟨⟨es,F⟩,A,h⟩:=bind_some h;obtain ⟨e,rfl⟩:=cH _ _ _ _ _ _ A rfl;cases h;refine aa.step (cQ (c:=true) g _ _) (aa.step (aq _ _) ?_);refine aa.Ff w 8 fun s s' a=> ?_;refine a.grow (b.expr _ p L x d _ u f hs a.pz hd l) rfl rfl (by simp) fun E a=> ?_;refine a.grow (lh a.pz xF) rfl rfl (by simp) fun N a=> ?_;refine a.grow (b.expr _ p L x d _ v r2 hs a.pz hd o) rfl rfl (by simp) fun G a=> ?_;refine a.grow (lh a.pz xP) rfl rfl (by simp) fun C a=> ?_;refine a.grow (b.expr _ p L x d _ e _ hs a.pz hd A) rfl rfl (by simp) fun Q a=> ?_;exact a.nd.fin (aaL i (by omega))
 rename_i g;refine aa.step (cQ (c:=false) (aaC g) _ _) (aa.step (aj _ _) ?_);refine aa.tO (s0:=EG) w fun E _ w=> ?_;split at h
 .rename_i g;obtain ⟨⟨S,f⟩,l,h⟩:=bind_some h;obtain ⟨u,rfl⟩:=cH _ _ _ _ _ _ l rfl;obtain ⟨⟨b1,F⟩,o,h⟩:=bind_some h;obtain ⟨v,rfl⟩:=cH _ _ _ _ _ _ o rfl;obtain ⟨⟨cs,r4⟩,A,h⟩:=bind_some h;cases h;have a6:=G1 _ _ _ _ _ A;refine aa.step (cQ (c:=true) g _ _) (aa.step (aq _ _) ?_);refine aa.Ff w 9 fun s s' a=> ?_;refine a.grow (b.expr _ p L x d _ u f hs a.pz hd l) rfl rfl (by simp) fun N a=> ?_;refine a.grow (lh a.pz bR) rfl rfl (by simp) fun G a=> ?_;refine a.tO (s0:=fZ) fun C _ a=> ?_;refine aa.bind (R:=fun c=> ∃s',c=([],s')/\Gv PR st s' p L x d (if cf fZ (bo bR f)=true then aO (bo bR f) else bo bR f) s.h st.h 9 ([aK r]++[u]++[cP bR f]++if cf fZ (bo bR f)=true then [aK (bo bR f)] else [])) ?_ ?_
  .cases a7:cf fZ (bo bR f) with
   | true=>exact aa.step (aq _ _) (a.grow (jP a.pz) rfl rfl (by simp) fun C a=>aa.some ⟨C,rfl,a⟩)
   | false=>exact aa.step (aj _ _) (aa.some ⟨C,rfl,by rw [if_neg (by simp),if_neg (by simp),aaw];exact a⟩)
  .rintro c ⟨Q,rfl,a⟩;have D:(if cf fZ (bo bR f)=true then [aK (bo bR f)] else []).length<=1:=by split <;> simp
   generalize (if cf fZ (bo bR f)=true then [aK (bo bR f)] else [])=bar at D a i ⊢;refine aa.step (ae _) ?_;refine a.grow (b.arm _ p L x d _ v F hs a.pz hd o) rfl rfl (by simp;omega) fun O a=> ?_;refine aa.bind (Iz (fun m hm=>ih m (by omega)) hs rfl hd n _ cs _ _ O (aah _) A a (by simp;omega)) ?_;rintro q ⟨a8,rfl,a⟩;refine aa.step (ae _) ?_;exact a.nd.fin (aaL i (by omega))
 .rename_i g;refine aa.step (cQ (c:=false) (aaC g) _ _) (aa.step (aj _ _) ?_);exact aa.node w (b.level 0 (by omega) _ p L x d r t r' hs w.pz hd h) rfl rfl fun k tk tx y s hnd z w=>aa.res [] (old:=z4) w rfl hnd z
theorem Q4: ∀n,n<=10000000->Dv n:=by
 intro n
 induction n using Nat.strongRecOn with
 | _ n ih=>
  intro hn;cases n with
  | zero=>
   refine ⟨?_, ?_,fun k _=> ?_,fun k _=> ?_, ?_,fun pat=> ?_,fun list pat=> ?_, ?_, ?_, ?_⟩
   case refine_10=>
    intro st p L x d r k a e ts r' _ _ _ _ _ h;cases h
   all_goals
    intro st p L x d r t r' _ _ _ h;cases h
  | succ n=>
   have c: ∀m,m<=n->Dv m:=fun m hm=>ih m (by omega) (by omega);have i:=c n (aah _);have b:n<=10000000:=by omega
   have f:=fun k (g:k<=6)=>G3 c b k g;exact ⟨HH i,Hb c b,f,fun k g=>Og f (fun m e=>by cases e;exact i.neg) k g,LC c b,fun pat=>Ic i pat,fun list pat=>DI c b list pat,BF i b,My i b,Bw c b⟩
end
section
variable {β:Type} {Q:β->Prop} {PT:Td} {st0 st s:St} {L:List aW} {x:AV} {d d':Nat} {r r':List aW} {l l1 l2:List Vr} {os:List (AV×LA)} {t:T}
theorem Ht {f:St} {kc:Nat} (B:f.h=kc): ∀(m:Nat) (r:List aW) (ts:List T) (es:LA) (v:AV) (s:St) (os:List (AV×LA)),
  Wd PR st0 s 1 L x d r ((kc,ND,[.int .u8 3,.int .u8 0,.str [],v])::l2) ((v,es)::os)->bA ts es->eZ ts<=2->ts.length+m<=100000000->r.length<=m->
  aa (aH (vK f) ([],s)) (fun q=> ∃s' v' n,q=(0,[],s')/\Wd PR st0 s' 1 L x d (skip m r).2 ((kc,ND,[.int .u8 3,.int .u8 0,.str [],v'])::l2) ((v',n)::os)/\bA (ts++(skip m r).1) n/\eZ (ts++(skip m r).1)<=2):=by
 have stop: ∀(r:List aW) (es:LA) (v:AV) (s:St) (os:List (AV×LA)),¬ ((nx r).1≠0/\cf lI r=false)->Wd PR st0 s 1 L x d r ((kc,ND,[.int .u8 3,.int .u8 0,.str [],v])::l2) ((v,es)::os)->
   aa (vK f ([],s)) (fun q=> ∃s',q= .inr (0,[],s')/\Wd PR st0 s' 1 L x d r ((kc,ND,[.int .u8 3,.int .u8 0,.str [],v])::l2) ((v,es)::os)):=by
  intro r es v s os a w;simp only [vK,ae];refine aa.bind (R:=fun c=> ∃s',c=([.bool false],s')/\Wd PR st0 s' 1 L x d r ((kc,ND,[.int .u8 3,.int .u8 0,.str [],v])::l2) ((v,es)::os)) ?_ ?_
  .refine aa.OO w fun o w=> ?_;by_cases h0:(nx r).1=0
   .rw [h0];exact aa.some ⟨o,rfl,w⟩
   .have p:cf lI r=true:=by
     cases p:cf lI r with
     | true=>rfl
     | false=>exact absurd ⟨h0,p⟩ a
    refine aa.step (cQ (c:=true) (qE (b:=0) h0) _ _) (aa.step (aq _ _) ?_);refine aa.tO (s0:=lI) w fun j _ w=> ?_;exact aa.some ⟨j,by rw [p];rfl,w⟩
  .rintro c ⟨o,rfl,w⟩;exact aa.some ⟨o,rfl,w⟩
 intro m
 induction m with
 | zero=>
  intro r ts es v s os w i k hl C;obtain rfl:r=[]:=aaZ (by omega);simp only [skip,aaw];obtain ⟨q,e,s',rfl,w'⟩:=stop [] es v s os (fun h=>h.1 rfl) w;exact ⟨_,aF e,s',v,es,rfl,w',i,k⟩
 | succ m t=>
  intro r ts es v s os w i k hl C;by_cases a:(nx r).1≠0/\cf lI r=false
  .have u:aa (vK f ([],s)) (fun q=> ∃s' v' e,q= .inl ([],s')/\Wd PR st0 s' 1 L x d (aO r) ((kc,ND,[.int .u8 3,.int .u8 0,.str [],v'])::l2) ((v',es++[e])::os)/\bA (ts++[aK r]) (es++[e])):=by
    simp only [vK,ae,B];refine aa.bind (R:=fun c=> ∃s',c=([.bool true],s')/\Wd PR st0 s' 1 L x d r ((kc,ND,[.int .u8 3,.int .u8 0,.str [],v])::l2) ((v,es)::os)) ?_ ?_
    .refine aa.OO w fun o w=> ?_;refine aa.step (cQ (c:=true) (qE (b:=0) a.1) _ _) (aa.step (aq _ _) ?_);refine aa.tO (s0:=lI) w fun j _ w=> ?_;exact aa.some ⟨j,by rw [a.2];rfl,w⟩
    .rintro c ⟨o,rfl,w⟩;simp only [ad,ae,al,aq];refine aa.grow [] w (jP w.pz) rfl rfl i (by omega) (by omega) fun v' e j g _ w=> ?_;exact aa.some ⟨j,v',e,rfl,w,g⟩
   obtain ⟨q,e,s',v',G,rfl,w',g⟩:=u;rw [aJ e];have D:=eB a.1;have l:skip (m+1) r=(aK r::(skip m (aO r)).1,(skip m (aO r)).2):=by
    simp only [skip];rw [if_pos a]
   rw [l];refine (t (aO r) _ _ v' s' os w' g ?_ (by simp;omega) (by omega)).mono ?_
   .have:=bX r;rw [ck,bq];omega
   .rintro q ⟨j,E,y,rfl,F,z,A⟩;exact ⟨j,E,y,rfl,F,by simpa using z,by simpa using A⟩
  .have l:skip (m+1) r=([],r):=by
    simp only [skip];rw [if_neg a]
   rw [l,aaw];obtain ⟨q,e,s',rfl,w'⟩:=stop r es v s os a w;exact ⟨_,aF e,s',v,es,rfl,w',i,k⟩
theorem Il (G:Sg L): ∀(N:Nat) (r:List aW) (D:List T) (ts:List T) (es:LA) (v:AV) (s:St),N<=10000000->decls N r=some D->r.length<=1000000->
  Wd PR st0 s 1 L x 0 r [(2,ND,[.int .u8 4,.int .u8 0,.str [],v])] [(v,es)]->bA ts es->eZ ts<=500000000000000->ts.length+N<=90000000->
  aa (aH tb ([],s)) (fun q=> ∃s' E t v' A,q=(0,[],s')/\D=t++[aK E]/\Wd PR st0 s' 1 L x 0 E [(2,ND,[.int .u8 4,.int .u8 0,.str [],v'])] [(v',A)]/\bA (ts++t) A/\(ts++t).length<=90000000/\eZ (ts++t)<=500000000000000):=by
 intro N
 induction N with
 | zero=>intro r D ts es v s _ h;cases h
 | succ n H=>
  intro r D ts es v s z h b5 w f I hl;simp only [decls] at h;split at h
  .rename_i h0;cases h;have J:aa (tb ([],s)) (fun q=> ∃s',q= .inr (0,[],s')/\Wd PR st0 s' 1 L x 0 r [(2,ND,[.int .u8 4,.int .u8 0,.str [],v])] [(v,es)]):=by
    simp only [tb,ae];refine aa.OO w fun K w=> ?_;rw [h0];exact aa.some ⟨K,rfl,w⟩
   obtain ⟨q,e,s',rfl,w'⟩:=J;exact ⟨_,aF e,s',r,[],v,es,rfl,rfl,w',by simpa using f,by simp;omega,by rw [aaw];exact I⟩
  .rename_i h0;have M: ∃(u:T) (i:List aW) (j:List T),decls n i=some j/\D=u::j/\fg u<=300000000000000/\i.length<=r.length/\
     aa (tb ([],s)) (fun q=> ∃s' v' e,q= .inl ([],s')/\Wd PR st0 s' 1 L x 0 i [(2,ND,[.int .u8 4,.int .u8 0,.str [],v'])] [(v',es++[e])]/\iF u e):=by
    split at h
    .rename_i O;obtain ⟨⟨bs,i⟩,F,h⟩:=bind_some h;obtain ⟨j,B,h⟩:=bind_some h;cases h;have b6:=Aj (by omega:n<=10000000) F rfl;have b7:=bX r;refine ⟨_,i,j,B,rfl,by simp only [bI,bC];omega, ?_, ?_⟩
     .have:=B6 (Q:=fun q=>q.length<=r.length) (fun q hq=>aaL (iT q) hq) _ _ _ _ _ _ F (iT r);exact this
     simp only [tb,ae];refine aa.OO w fun K w=> ?_;refine aa.step (cQ (c:=true) (qE (b:=0) h0) _ _) (aa.step (aq _ _) ?_);refine aa.bind (R:=fun c=> ∃s' v' e,c= .inl ([],s')/\Wd PR st0 s' 1 L x 0 i [(2,ND,[.int .u8 4,.int .u8 0,.str [],v'])] [(v',es++[e])]/\iF (node 5 (aK r::bs)) e) ?_ ?_
     .refine aa.tO (s0:=lI) w fun P _ w=> ?_;rw [O];refine aa.step (aq _ _) ?_;refine aa.pW w fun k tk tx y s3 hnd bb w=> ?_;refine aa.two hnd (aa.fit hnd fun z1 S _ _=> ?_);refine aa.alloc w fun s4 _ w=>aa.store [] w fun s5 _ w=> ?_;refine aa.gQ (a:=2) (aak _ aad) w rfl ?_;refine aa.fG (aad) w ?_;refine aa.iR ((Q4 n (by omega)).binding s5 1 L x 0 _ 5 (aK r) _ bs i G w.pz (by omega) S (by omega) F) rfl rfl fun U s6 hv=> ?_;obtain ⟨y6,V,l,ho,_,C,bt,W,X⟩:=hv;have l:U= .agg [.int .u8 ((5:Nat):Int),.int .u8 0,.str [],y6]:=l;have m:=w.move X W;have Y:=w.same m (a:=2) (aak _ aad) w.Nt f (by omega);rw [l];refine aa.step (kY ..) (aa.step (ib (by rw [Y];rfl) _) ?_);have d:Nd (node 5 (aK r::bs)) 5 0 [] y6:=⟨⟨_,_,rfl,EJ.own ho,C⟩⟩;refine aa.two d (aa.fit d fun z2 o Z p=>aa.one Z (aa.step (p _) ?_));refine aa.app m (by simp) (by rw [bA.len f];simp;omega) fun v7 s7 _ g w7=> ?_;refine aa.one g (aa.one g (aa.kM [_] w7 (aaq rfl) fun s8 _ w8=> ?_));exact aa.some ⟨s8,v7,_,rfl,w8.sub (abQ _ _),o⟩
     .rintro c ⟨s',v',e,rfl,w',z⟩;exact aa.step (bu _ _) (aa.step (ae _) (aa.some ⟨s',v',e,rfl,w',z⟩))
    .rename_i O;obtain ⟨j,B,h⟩:=bind_some h;cases h;refine ⟨_,_,j,B,rfl,by have:=GD r.length r;simp only [bI];omega,yC _ _, ?_⟩;simp only [tb,ae];refine aa.OO w fun K w=> ?_;refine aa.step (cQ (c:=true) (qE (b:=0) h0) _ _) (aa.step (aq _ _) ?_);refine aa.bind (R:=fun c=> ∃s' v' e,c= .inl ([],s')/\Wd PR st0 s' 1 L x 0 (skip r.length r).2 [(2,ND,[.int .u8 4,.int .u8 0,.str [],v'])] [(v',es++[e])]/\iF (node 3 (skip r.length r).1) e) ?_ ?_
     .refine aa.tO (s0:=lI) w fun P _ w=> ?_;rw [aaC O];refine aa.step (aj _ _) ?_;refine aa.alloc w fun s3 _ w=>aa.store [] w fun s4 _ w=> ?_;refine aa.bind (Ht rfl r.length r [] [] .aD s4 _ w.aD bA.nil (by simp [aU]) (by simp;omega) (aah _)) ?_;rintro q ⟨s6,U,V,rfl,m,av,b8⟩;refine aa.step (ae _) ?_;refine aa.gQ (a:=2) (aak _ aad) m rfl ?_;refine aa.fG (aad) m ?_;have d:Nd (node 3 (skip r.length r).1) 3 0 [] U:=⟨⟨_,_,rfl,m.Nt,by simpa using av⟩⟩;refine aa.two d (aa.fit d fun z2 o Z p=>aa.one Z (aa.step (p _) ?_));refine aa.app m.drop (by simp) (by rw [bA.len f];simp;omega) fun v7 s7 _ g w7=> ?_;refine aa.one g (aa.one g (aa.kM [_] w7 (aaq rfl) fun s8 _ w8=> ?_));exact aa.some ⟨s8,v7,_,rfl,w8.sub (abQ _ _),o⟩
     .rintro c ⟨s',v',e,rfl,w',z⟩;exact aa.step (bu _ _) (aa.step (ae _) (aa.some ⟨s',v',e,rfl,w',z⟩))
   obtain ⟨u,i,j,B,rfl,b9,b4,q,e,s',v',F,rfl,w',z⟩:=M;rw [aJ e];refine (H i j (ts++[u]) _ v' s' (by omega) B (by omega) w' (bA.app f (mI z)) (by rw [ck,bq];omega) (by simp;omega)).mono ?_;rintro q ⟨P,E,t,v2,a1,rfl,rfl,w2,a6,a7,a8⟩;exact ⟨P,E,u::t,v2,a1,rfl,rfl,w2,by simpa using a6,by simpa using a7,by simpa using a8⟩
end
end Go.Proofs.YtkpeicabocpbkaaGreatDoor.Vm
namespace Go.Proofs.YtkpeicabocpbkaaGreatDoor.Vm
open Go Go.VM Go.Proofs Go.Lex
def Jr (o:Int):LB->Int
 | []=>o
 | b::l=>Jr (o * 64+b.toNat - 128) l
theorem CH (l:LB) (hl:l.length<=4) (st:St): ∀(r:LB) (i:Nat) (o:Int),l.drop i=r->i<=l.length-> -(1000 * 100 ^ i:Nat)<=o->o<=(1000 * 100 ^ i:Nat)->
  aH (zT l) ([.int .i64 o,.int .i64 (i:Int)],st)=some (0,[.int .i64 (Jr o r)],st)
 | [],i,o,hd,hi,_,_=>by
  have:=aaQ.1 hd;have q:¬ (i:Int) < (l.length:Int):=by omega
  refine aF ?_;simp only [zT,ad,af,ae,ak,if_neg q,Jr]
 | b::r,i,o,hd,hi,h1,s=>by
  obtain ⟨c,d,a⟩:=drop_cons hd;have q:(i:Int) < (l.length:Int):=by omega
  have e:l[i]=b:=gU a c;have f:=UInt8.toNat_lt b;have t:(100:Nat) ^ i<=100 ^ 4:=Nat.pow_le_pow_right (by omega) (by omega);have g:1<=(100:Nat) ^ i:=Nat.one_le_pow _ _ (by omega);have h:(100:Nat) ^ (i+1)=100 * 100 ^ i:=by rw [Nat.pow_succ,Nat.mul_comm]
  have j:(100:Nat) ^ 4=100000000:=by decide
  have k:IntKind.wrap .i64 (o * 64)=o * 64:=wrap_i64 (by omega) (by omega);have m:IntKind.wrap .i64 (b.toNat:Int)=(b.toNat:Int):=wrap_i64 (by omega) (by omega);have n:IntKind.wrap .i64 (o * 64+(b.toNat:Int))=o * 64+(b.toNat:Int):=wrap_i64 (by omega) (by omega);have p:IntKind.wrap .i64 (o * 64+(b.toNat:Int) - 128)=o * 64+(b.toNat:Int) - 128:=wrap_i64 (by omega) (by omega);have ih:=CH l hl st r (i+1) (o * 64+(b.toNat:Int) - 128) d (by omega) (by omega) (by omega);rw [aJ (s':=([.int .i64 (o * 64+(b.toNat:Int) - 128),.int .i64 ((i+1:Nat):Int)],st)),ih]
  .rfl
  .simp only [zT,ad,af,ae,ak,if_pos q,az,k,bM a,e,m,n,p,br (show i+1<=9223372036854775807 by omega)]
def oP:Nat->Int
 | 2=>192
 | 3=>224
 | 4=>240
 | _=>0
def iO:LB->Int
 | []=>0
 | [b]=>b.toNat
 | b::l=>Jr ((b.toNat:Int) - oP (l.length+1)) l
theorem KP {β:Type} {n:Nat} (h:2<=n) (h4:n<=4) (st:St) (K:AV->Ln->Oq β):dB 1 (AV.sl 1 [AV.int .i64 0,AV.int .i64 0,AV.int .i64 192,AV.int .i64 224,AV.int .i64 240] Perm.shut) (n:Int) st K=K (.ip [.int .i64 (oP n)]) []:=by
 match n,h,h4 with
 | 2,_,_=>rfl
 | 3,_,_=>rfl
 | 4,_,_=>rfl
theorem PC {l:LB} (h:l≠[]) (h4:l.length<=4):(aY vE).bare 62 [.str l]=some (.int .i64 (iO l)):=by
 refine aM rfl ((Tq _).trans ?_);cases l with
 | nil=>exact absurd rfl h
 | cons b r=>
  have e:=UInt8.toNat_lt b;have a: ∀{β:Type} (K:UInt8->Oq β),gv (b::r) 0 K=K b:=fun K=>bM (k:=0) (by simp) K;have d:IntKind.wrap .i64 (b.toNat:Int)=(b.toNat:Int):=wrap_i64 (by omega) (by omega);cases r with
  | nil=>
   have q:(([b]:LB).length:Int)=1:=rfl;simp only [Yb,ao,bP,if_pos q,a,az,d,iO]
  | cons c r=>
   have q:¬ (((b::c::r).length:Nat):Int)=1:=by simp;omega
   have g:oP ((b::c::r).length)<=240/\0<=oP ((b::c::r).length):=by
    unfold oP;split <;> omega
   have f:IntKind.wrap .i64 ((b.toNat:Int) - oP ((b::c::r).length))=(b.toNat:Int) - oP ((b::c::r).length):=wrap_i64 (by omega) (by omega);have hl:=CH (b::c::r) h4 (St.mk 0 0 Tr.leaf) (c::r) 1 ((b.toNat:Int) - oP ((b::c::r).length)) rfl (by simp) (by omega) (by omega);have hl:aH (zT (b::c::r)) ([.int .i64 ((b.toNat:Int) - oP ((b::c::r).length)),.int .i64 1],St.mk 0 0 Tr.leaf)= _:=hl;simp only [Yb,ao,bP,if_neg q,a,az,d,KP (show 2<=(b::c::r).length by simp) h4,bK,aL,ai,af,f];rw [hl];simp only [ai,ad,af,ae,iO,aab]
def tR (k:Nat):LB:=
 if 1114111 < k\/(55296<=k/\k<=57343) then []
 else if k < 128 then [UInt8.ofNat k]
 else if k < 2048 then [UInt8.ofNat (192+k / 64),UInt8.ofNat (128+k % 64)]
 else if k < 65536 then [UInt8.ofNat (224+k / 4096),UInt8.ofNat (128+k / 64 % 64),UInt8.ofNat (128+k % 64)]
 else [UInt8.ofNat (240+k / 262144),UInt8.ofNat (128+k / 4096 % 64),UInt8.ofNat (128+k / 64 % 64),UInt8.ofNat (128+k % 64)]
theorem sC {n:Nat} (h:n<=255):IntKind.wrap .u8 (n:Int)=(n:Int):=by
 show (if (false&&decide ((n:Int) % (2 ^ 8:Int)>=(2 ^ 7:Int)))=true then (n:Int) % (2 ^ 8:Int) - (2 ^ 8:Int) else (n:Int) % (2 ^ 8:Int))= _;simp only [abw,aaB,if_false];omega
theorem Jd (k:Nat) (u:k<=9223372036854775807):(aY vE).bare 63 [.int .i64 (k:Int)]=some (.str (tR k)):=by
 refine aM rfl ((UW _).trans ?_);have q0:¬ ((k:Int) < 0):=by omega
 simp only [Zx,af,ak,if_neg q0];unfold tR;by_cases j:(k:Int) > 1114111
 .simp only [if_pos j,ai,ad,al,ae,aq,if_pos (show 1114111 < k\/(55296<=k/\k<=57343) by omega)]
 rw [if_neg j];by_cases i:(k:Int)>=55296/\(k:Int)<=57343
 .simp only [if_pos i.1,abh i.2,ai,ad,al,ae,aq,if_pos (show 1114111 < k\/(55296<=k/\k<=57343) by omega)]
 have p: ∀{β:Type} (K:bU->Oq β),ax (if (k:Int)>=55296 then some (([AV.bool (decide ((k:Int)<=57343))],St.mk 0 0 Tr.leaf):bU) else some ([AV.bool false],St.mk 0 0 Tr.leaf)) K=K ([AV.bool false],St.mk 0 0 Tr.leaf):=by
  intro β K;by_cases h:(k:Int)>=55296
  .have:¬ (k:Int)<=57343:=fun q=>i ⟨h,q⟩;rw [if_pos h,abe this];rfl
  .rw [if_neg h];rfl
 rw [p];rw [if_neg (show ¬ (1114111 < k\/(55296<=k/\k<=57343)) by omega)];simp only [ad,al,ae,aj,ak];by_cases l:k < 128
 .rw [if_pos (show (k:Int) < 128 by omega),if_pos l];simp only [az,sC (show k<=255 by omega),Int.toNat_natCast]
 rw [if_neg (show ¬ (k:Int) < 128 by omega),if_neg l];have d:Int.tdiv (k:Int) 64=((k / 64:Nat):Int):=rfl;have a:Int.tdiv (k:Int) 4096=((k / 4096:Nat):Int):=rfl;have b:Int.tdiv (k:Int) 262144=((k / 262144:Nat):Int):=rfl;have e: ∀n:Nat,Int.tmod (n:Int) 64=((n % 64:Nat):Int):=fun n=>rfl;have g: ∀c n:Nat,c+n<=9223372036854775807->IntKind.wrap .i64 ((c:Int)+(n:Int))=((c+n:Nat):Int):=fun c n h=>uL h;have f: ∀n:Nat,n<=1000->IntKind.wrap .i64 (128+(n:Int))=((128+n:Nat):Int):=fun n h=>g 128 n (by omega);have r: ∀n:Nat,n<=1000->IntKind.wrap .i64 (192+(n:Int))=((192+n:Nat):Int):=fun n h=>g 192 n (by omega);have s: ∀n:Nat,n<=1000->IntKind.wrap .i64 (224+(n:Int))=((224+n:Nat):Int):=fun n h=>g 224 n (by omega);have t: ∀n:Nat,n<=1000->IntKind.wrap .i64 (240+(n:Int))=((240+n:Nat):Int):=fun n h=>g 240 n (by omega);by_cases m:k < 2048
 .rw [if_pos (show (k:Int) < 2048 by omega),if_pos m];simp only [az,d,e,wrapN (show k / 64<=9223372036854775807 by omega),f (k % 64) (by omega),r (k / 64) (by omega),sC (show 192+k / 64<=255 by omega),sC (show 128+k % 64<=255 by omega),Int.toNat_natCast]
 rw [if_neg (show ¬ (k:Int) < 2048 by omega),if_neg m];by_cases o:k < 65536
 .rw [if_pos (show (k:Int) < 65536 by omega),if_pos o];simp only [az,d,a,e,wrapN (show k / 64<=9223372036854775807 by omega),wrapN (show k / 4096<=9223372036854775807 by omega),f (k % 64) (by omega),f (k / 64 % 64) (by omega),s (k / 4096) (by omega),sC (show 224+k / 4096<=255 by omega),sC (show 128+k / 64 % 64<=255 by omega),sC (show 128+k % 64<=255 by omega),Int.toNat_natCast]
 rw [if_neg (show ¬ (k:Int) < 65536 by omega),if_neg o];simp only [az,d,a,b,e,wrapN (show k / 64<=9223372036854775807 by omega),wrapN (show k / 4096<=9223372036854775807 by omega),wrapN (show k / 262144<=9223372036854775807 by omega),f (k % 64) (by omega),f (k / 64 % 64) (by omega),f (k / 4096 % 64) (by omega),t (k / 262144) (by omega),sC (show 240+k / 262144<=255 by omega),sC (show 128+k / 4096 % 64<=255 by omega),sC (show 128+k / 64 % 64<=255 by omega),sC (show 128+k % 64<=255 by omega),Int.toNat_natCast]
theorem of_eq {n:Nat} {a:UInt8} (h:n<=255):UInt8.ofNat n=a↔n=a.toNat:=by
 constructor
 .intro e;rw [<- e,UInt8.toNat_ofNat'];omega
 .intro e;apply abE.1;rw [UInt8.toNat_ofNat'];have:=UInt8.toNat_lt a;omega
theorem Yi (a:UInt8):tR a.toNat=[a]↔a.toNat < 128:=by
 have b:=UInt8.toNat_lt a;unfold tR;rw [if_neg (by omega)];by_cases h:a.toNat < 128
 .rw [if_pos h];simp [h]
 .rw [if_neg h,if_pos (by omega)];simp [h]
theorem W2 {k:Nat} {a b:UInt8} (g:(k:Int)=((a.toNat:Int) - 192) * 64+b.toNat - 128):tR k=[a,b]↔(194<=a.toNat/\a.toNat<=223)/\¬ (b.toNat < 128\/191 < b.toNat):=by
 have h:=UInt8.toNat_lt a;have i:=UInt8.toNat_lt b;unfold tR;by_cases c:1114111 < k\/(55296<=k/\k<=57343)
 .rw [if_pos c];simp;omega
 rw [if_neg c];by_cases d:k < 128
 .rw [if_pos d];simp;omega
 rw [if_neg d];by_cases e:k < 2048
 .rw [if_pos e];simp only [abo,abW,of_eq (show 192+k / 64<=255 by omega),of_eq (show 128+k % 64<=255 by omega)];omega
 rw [if_neg e];by_cases f:k < 65536
 .rw [if_pos f];simp;omega
 .rw [if_neg f];simp;omega
theorem Wz {k:Nat} {a b c:UInt8} (h:(k:Int)=(((a.toNat:Int) - 224) * 64+b.toNat - 128) * 64+c.toNat - 128):
  tR k=[a,b,c]↔(224<=a.toNat/\a.toNat<=239)/\¬ (b.toNat < 128\/191 < b.toNat\/c.toNat < 128\/191 < c.toNat\/(a.toNat=224/\b.toNat < 160)\/(a.toNat=237/\159 < b.toNat)):=by
 have i:=UInt8.toNat_lt a;have j:=UInt8.toNat_lt b;have l:=UInt8.toNat_lt c;unfold tR;by_cases d:1114111 < k\/(55296<=k/\k<=57343)
 .rw [if_pos d];simp;omega
 rw [if_neg d];by_cases e:k < 128
 .rw [if_pos e];simp;omega
 rw [if_neg e];by_cases f:k < 2048
 .rw [if_pos f];simp;omega
 rw [if_neg f];by_cases g:k < 65536
 .rw [if_pos g];simp only [abo,abW,of_eq (show 224+k / 4096<=255 by omega),of_eq (show 128+k / 64 % 64<=255 by omega),of_eq (show 128+k % 64<=255 by omega)];omega
 .rw [if_neg g];simp;omega
theorem XG {k:Nat} {a b c d:UInt8} (i:(k:Int)=((((a.toNat:Int) - 240) * 64+b.toNat - 128) * 64+c.toNat - 128) * 64+d.toNat - 128):
  tR k=[a,b,c,d]↔(240<=a.toNat/\a.toNat<=244)/\¬ (b.toNat < 128\/191 < b.toNat\/c.toNat < 128\/191 < c.toNat\/d.toNat < 128\/191 < d.toNat\/(a.toNat=240/\b.toNat < 144)\/(a.toNat=244/\143 < b.toNat)):=by
 have j:=UInt8.toNat_lt a;have l:=UInt8.toNat_lt b;have m:=UInt8.toNat_lt c;have hd:=UInt8.toNat_lt d;unfold tR;by_cases e:1114111 < k\/(55296<=k/\k<=57343)
 .rw [if_pos e];simp;omega
 rw [if_neg e];by_cases f:k < 128
 .rw [if_pos f];simp;omega
 rw [if_neg f];by_cases g:k < 2048
 .rw [if_pos g];simp;omega
 rw [if_neg g];by_cases h:k < 65536
 .rw [if_pos h];simp;omega
 .rw [if_neg h];simp only [abo,abW,of_eq (show 240+k / 262144<=255 by omega),of_eq (show 128+k / 4096 % 64<=255 by omega),of_eq (show 128+k / 64 % 64<=255 by omega),of_eq (show 128+k % 64<=255 by omega)];omega
def bZ (t:LB):Prop:=0<=iO t/\tR (iO t).toNat=t
theorem Sc (a:UInt8):bZ [a]↔a.toNat < 128:=by
 have e:iO [a]=(a.toNat:Int):=rfl;unfold bZ;rw [e,Int.toNat_natCast,Yi];exact ⟨fun h=>h.2,fun h=>⟨by omega,h⟩⟩
theorem R9 (a b:UInt8):bZ [a,b]↔(194<=a.toNat/\a.toNat<=223)/\¬ (b.toNat < 128\/191 < b.toNat):=by
 have e:iO [a,b]=((a.toNat:Int) - 192) * 64+b.toNat - 128:=rfl;unfold bZ;rw [e];constructor
 .rintro ⟨h0,h⟩;exact (W2 (by omega)).1 h
 .intro h;have h0:0<=((a.toNat:Int) - 192) * 64+b.toNat - 128:=by omega
  exact ⟨h0,(W2 (by omega)).2 h⟩
theorem Sd (a b c:UInt8):bZ [a,b,c]↔(224<=a.toNat/\a.toNat<=239)/\¬ (b.toNat < 128\/191 < b.toNat\/c.toNat < 128\/191 < c.toNat\/(a.toNat=224/\b.toNat < 160)\/(a.toNat=237/\159 < b.toNat)):=by
 have e:iO [a,b,c]=(((a.toNat:Int) - 224) * 64+b.toNat - 128) * 64+c.toNat - 128:=rfl;unfold bZ;rw [e];constructor
 .rintro ⟨h0,h⟩;exact (Wz (by omega)).1 h
 .intro h;have h0:0<=(((a.toNat:Int) - 224) * 64+b.toNat - 128) * 64+c.toNat - 128:=by omega
  exact ⟨h0,(Wz (by omega)).2 h⟩
theorem R0 (a b c d:UInt8):bZ [a,b,c,d]↔(240<=a.toNat/\a.toNat<=244)/\¬ (b.toNat < 128\/191 < b.toNat\/c.toNat < 128\/191 < c.toNat\/d.toNat < 128\/191 < d.toNat\/(a.toNat=240/\b.toNat < 144)\/(a.toNat=244/\143 < b.toNat)):=by
 have e:iO [a,b,c,d]=((((a.toNat:Int) - 240) * 64+b.toNat - 128) * 64+c.toNat - 128) * 64+d.toNat - 128:=rfl;unfold bZ;rw [e];constructor
 .rintro ⟨h0,h⟩;exact (XG (by omega)).1 h
 .intro h;have h0:0<=((((a.toNat:Int) - 240) * 64+b.toNat - 128) * 64+c.toNat - 128) * 64+d.toNat - 128:=by omega
  exact ⟨h0,(XG (by omega)).2 h⟩
theorem zC: ∀(l:LB),l.length<=4->iO l<=100000000
 | [],_=>by simp [iO]
 | [a],_=>by have:=UInt8.toNat_lt a;simp only [iO];omega
 | [a,b],_=>by
  have:=UInt8.toNat_lt a;have:=UInt8.toNat_lt b;have e:iO [a,b]=((a.toNat:Int) - 192) * 64+b.toNat - 128:=rfl;omega
 | [a,b,c],_=>by
  have:=UInt8.toNat_lt a;have:=UInt8.toNat_lt b;have:=UInt8.toNat_lt c;have e:iO [a,b,c]=(((a.toNat:Int) - 224) * 64+b.toNat - 128) * 64+c.toNat - 128:=rfl;omega
 | [a,b,c,d],_=>by
  have:=UInt8.toNat_lt a;have:=UInt8.toNat_lt b;have:=UInt8.toNat_lt c;have:=UInt8.toNat_lt d;have e:iO [a,b,c,d]=((((a.toNat:Int) - 240) * 64+b.toNat - 128) * 64+c.toNat - 128) * 64+d.toNat - 128:=rfl;omega
 | _:: _:: _:: _:: _:: _,h=>by simp at h
section
variable {s:LB} (st:St) {n:Nat} (h1:1<=n) (h4:n<=4) (hl:n<=s.length)
include h1 h4 hl
theorem AO:(s.take n≠[]/\(s.take n).length<=4)/\(∀{β:Type} (st:St) (K:Kv β),aV (aY vE) 62 [.str (s.take n)] st K=K (.int .i64 (iO (s.take n))) st q0):=by
 have hlen:(s.take n).length=n:=by rw [aat];omega
 have a:s.take n≠[]:=by
  intro e;rw [e] at hlen;simp at hlen;omega
 exact ⟨⟨a,by omega⟩,fun st K=>aG st K rfl rfl rfl (PC a (by omega))⟩
theorem uf (e:bZ (s.take n)):aH (jz s) ([.int .i64 0,.int .i64 0,.int .i64 (n:Int)],st)=some (1,[.int .i64 (iO (s.take n)),.int .i64 (n:Int)],st):=by
 obtain ⟨⟨f,a⟩,g⟩:=AO h1 h4 hl;have h:=zC (s.take n) a;obtain ⟨b,c⟩:=e;obtain ⟨k,d⟩:=Int.eq_ofNat_of_zero_le b;have i: ∀{β:Type} (st:St) (K:Kv β),aV (aY vE) 63 [.int .i64 (iO (s.take n))] st K=K (.str (s.take n)) st q0:=fun st K=>by
  rw [d,aG st K rfl rfl rfl (Jd k (by omega))];rw [d] at c;rw [show (s.take n)=tR k from c.symm]
 refine aF ?_;have j:(n:Int)<=4:=by omega
 have l:(n:Int)<=(s.length:Int):=by omega
 simp only [jz,ad,af,ae,ak,if_pos j,abh l,ai,al,aq,ca hl,aar,az,g,if_pos (show iO (s.take n)>=0 from b),i,ao,dm,dq,aaW,aQ,abm]
theorem yr (i:¬ bZ (s.take n)):aH (jz s) ([.int .i64 0,.int .i64 0,.int .i64 (n:Int)],st)=aH (jz s) ([.int .i64 0,.int .i64 0,.int .i64 ((n+1:Nat):Int)],st):=by
 obtain ⟨⟨j,c⟩,d⟩:=AO h1 h4 hl;have l:=zC (s.take n) c;have f:(n:Int)<=4:=by omega
 have g:(n:Int)<=(s.length:Int):=by omega
 refine aJ ?_;by_cases b:iO (s.take n)>=0
 .obtain ⟨k,h⟩:=Int.eq_ofNat_of_zero_le b;have a:(tR k==s.take n)=false:=by
   rw [aai];intro e;exact i ⟨b,by rw [h];exact e⟩
  have m: ∀{β:Type} (st:St) (K:Kv β),aV (aY vE) 63 [.int .i64 (iO (s.take n))] st K=K (.str (tR k)) st q0:=fun st K=>by
   rw [h,aG st K rfl rfl rfl (Jd k (by omega))]
  simp only [jz,ad,af,ae,ak,if_pos f,abh g,ai,al,aq,ca hl,aar,az,d,if_pos b,m,ao,dm,dq,aaW,aQ,a,aj,br (show n+1<=9223372036854775807 by omega)]
 .simp only [jz,ad,af,ae,ak,if_pos f,abh g,ai,al,aq,ca hl,aar,az,d,if_neg b,aj,br (show n+1<=9223372036854775807 by omega)]
end
theorem uB {s:LB} (st:St) {n:Nat} (h:4 < n\/s.length < n):aH (jz s) ([.int .i64 0,.int .i64 0,.int .i64 (n:Int)],st)=some (0,[.int .i64 0,.int .i64 0],st):=by
 refine aF ?_;by_cases a:(n:Int)<=4
 .have b:¬ (n:Int)<=(s.length:Int):=by omega
  simp only [jz,ad,af,ae,ak,if_pos a,abe b,ai,al,aj]
 .simp only [jz,ad,af,ae,ak,if_neg a,ai,al,aj]
theorem ve {t:LB} (h:bZ t):0<=iO t:=h.1
theorem Lc {s:LB} (u:s≠[]) (st:St):(gC s=0/\aH (jz s) ([.int .i64 0,.int .i64 0,.int .i64 ((1:Nat):Int)],st)=some (0,[.int .i64 0,.int .i64 0],st))\/
  (gC s≠0/\ ∃p:Int,0<=p/\aH (jz s) ([.int .i64 0,.int .i64 0,.int .i64 ((1:Nat):Int)],st)=some (1,[.int .i64 p,.int .i64 (gC s:Int)],st)):=by
 cases s with
 | nil=>exact absurd rfl u
 | cons a g=>
 have l1:1<=(a::g).length:=by simp
 by_cases t:a.toNat < 128
 .have f:bZ ((a::g).take 1):=(Sc a).2 t;have i:gC (a::g)=1:=by
   show mZ _ a.toNat _ _ _=1;unfold mZ;rw [if_pos t]
  exact .inr ⟨by omega,_,ve f,by rw [i];exact uf st (aah _) (by omega) l1 f⟩
 have y:=yr st (n:=1) (aah _) (by omega) l1 (fun h=>t ((Sc a).1 h));rw [y];have e:gC (a::g)=mZ (a::g).length a.toNat (g.getD 0 0).toNat (g.getD 1 0).toNat (g.getD 2 0).toNat:=rfl;unfold mZ at e;rw [if_neg t] at e;cases g with
 | nil=>
  refine .inl ⟨?_,uB st (.inr (by simp))⟩;rw [e]
  repeat' split
  all_goals first | rfl | (exfalso;simp at *;done)
 | cons b l=>
 have l2:2<=(a::b::l).length:=by simp
 by_cases m:(194<=a.toNat/\a.toNat<=223)/\¬ (b.toNat < 128\/191 < b.toNat)
 .have f:bZ ((a::b::l).take 2):=(R9 a b).2 m;have i:gC (a::b::l)=2:=by
   rw [e,if_pos m.1,if_neg];intro h;rcases h with h | h
   .omega
   .exact m.2 h
  exact .inr ⟨by omega,_,ve f,by rw [i];exact uf st (by omega) (by omega) l2 f⟩
 have z:=yr st (n:=2) (by omega) (by omega) l2 (fun h=>m ((R9 a b).1 h));rw [z];have j:(194<=a.toNat/\a.toNat<=223)->gC (a::b::l)=0:=by
  intro h;rw [e,if_pos h,if_pos];have:=fun k=>m ⟨h,k⟩;refine .inr ?_;show b.toNat < 128\/191 < b.toNat
  omega
 cases l with
 | nil=>
  refine .inl ⟨?_,uB st (.inr (by simp))⟩;by_cases h:194<=a.toNat/\a.toNat<=223
  .exact j h
  .rw [e,if_neg h]
   repeat' split
   all_goals first | rfl | (exfalso;simp at *;done)
 | cons c o=>
 have w:3<=(a::b::c::o).length:=by simp
 by_cases g3:(224<=a.toNat/\a.toNat<=239)/\¬ (b.toNat < 128\/191 < b.toNat\/c.toNat < 128\/191 < c.toNat\/(a.toNat=224/\b.toNat < 160)\/(a.toNat=237/\159 < b.toNat))
 .have f:bZ ((a::b::c::o).take 3):=(Sd a b c).2 g3;have i:gC (a::b::c::o)=3:=by
   rw [e,if_neg (by omega),if_pos g3.1,if_neg];intro h;rcases h with h | h
   .omega
   .exact g3.2 h
  exact .inr ⟨by omega,_,ve f,by rw [i];exact uf st (by omega) (by omega) w f⟩
 have A:=yr st (n:=3) (by omega) (by omega) w (fun h=>g3 ((Sd a b c).1 h));rw [A];have q:(224<=a.toNat/\a.toNat<=239)->gC (a::b::c::o)=0:=by
  intro h;rw [e,if_neg (by omega),if_pos h,if_pos];refine .inr ?_;show b.toNat < 128\/191 < b.toNat\/c.toNat < 128\/191 < c.toNat\/(a.toNat=224/\b.toNat < 160)\/(a.toNat=237/\159 < b.toNat);exact Classical.byContradiction fun k=>g3 ⟨h,k⟩
 cases o with
 | nil=>
  refine .inl ⟨?_,uB st (.inr (by simp))⟩;by_cases h:194<=a.toNat/\a.toNat<=223
  .exact j h
  .by_cases r:224<=a.toNat/\a.toNat<=239
   .exact q r
   .rw [e,if_neg h,if_neg r]
    repeat' split
    all_goals first | rfl | (exfalso;simp at *;done)
 | cons d v=>
 have x:4<=(a::b::c::d::v).length:=by simp
 by_cases g4:(240<=a.toNat/\a.toNat<=244)/\¬ (b.toNat < 128\/191 < b.toNat\/c.toNat < 128\/191 < c.toNat\/d.toNat < 128\/191 < d.toNat\/(a.toNat=240/\b.toNat < 144)\/(a.toNat=244/\143 < b.toNat))
 .have f:bZ ((a::b::c::d::v).take 4):=(R0 a b c d).2 g4;have i:gC (a::b::c::d::v)=4:=by
   rw [e,if_neg (by omega),if_neg (by omega),if_pos g4.1,if_neg];intro h;rcases h with h | h
   .omega
   .exact g4.2 h
  exact .inr ⟨by omega,_,ve f,by rw [i];exact uf st (by omega) (by omega) x f⟩
 have B:=yr st (n:=4) (by omega) (by omega) x (fun h=>g4 ((R0 a b c d).1 h));rw [B];refine .inl ⟨?_,uB st (.inl (by omega))⟩;by_cases h:194<=a.toNat/\a.toNat<=223
 .exact j h
 .by_cases r:224<=a.toNat/\a.toNat<=239
  .exact q r
  .rw [e,if_neg h,if_neg r];by_cases h4:240<=a.toNat/\a.toNat<=244
   .rw [if_pos h4,if_pos];refine .inr ?_;show b.toNat < 128\/191 < b.toNat\/c.toNat < 128\/191 < c.toNat\/d.toNat < 128\/191 < d.toNat\/(a.toNat=240/\b.toNat < 144)\/(a.toNat=244/\143 < b.toNat);exact Classical.byContradiction fun k=>g4 ⟨h4,k⟩
   .rw [if_neg h4]
theorem G7 {s:LB} (a:s≠[]): ∃p:Int,(aY vE).bare 28 [.str s]=some (.tup [.int .i64 p,.int .i64 (HF s:Int)])/\((p < 0/\gC s=0)\/(0<=p/\gC s≠0)):=by
 have b:(s==[])=false:=by simpa using a
 rcases Lc a (St.mk 0 0 Tr.leaf) with ⟨h,e⟩ | ⟨h,p,c,e⟩
 .refine ⟨-1,aM rfl ((Ni _).trans ?_),.inl ⟨by omega,h⟩⟩;have e:aH (jz s) ([.int .i64 0,.int .i64 0,.int .i64 1],St.mk 0 0 Tr.leaf)= _:=e;simp only [Yp,ao,b,aj,e,ai,ad,af,ae,eX,HF,if_pos h];rfl
 .refine ⟨p,aM rfl ((Ni _).trans ?_),.inr ⟨c,h⟩⟩;have e:aH (jz s) ([.int .i64 0,.int .i64 0,.int .i64 1],St.mk 0 0 Tr.leaf)= _:=e;simp only [Yp,ao,b,aj,e,ai,ad,af,ae,iq,HF,if_neg h]
theorem zW (st:St): ∀(n:Nat) (s:LB),s.length<=n->aH zh ([.bool false,.str s],st)=some (if bH s then (0,[.bool false],st) else (1,[.bool false],st))
 | n,[],_=>by
  refine aF ?_;simp only [zh,ad,al,ao,ae,show (!(([]:LB)==[]))=false from rfl,aj];rfl
 | 0,_:: _,h=>by simp at h
 | n+1,c::l,h=>by
  obtain ⟨p,e,g⟩:=G7 (s:=c::l) (by simp);have f: ∀{β:Type} (st:St) (K:Kv β),aV (aY vE) 28 [.str (c::l)] st K=K (.tup [.int .i64 p,.int .i64 (HF (c::l):Int)]) st q0:=fun st K=>aG st K rfl rfl rfl e;rw [jo (l:=c::l) (by simp)];rcases g with ⟨h1,a⟩ | ⟨h1,a⟩
  .rw [if_pos a];refine aF ?_;simp only [zh,ad,al,ao,ae,show (!((c::l:LB)==[]))=true from rfl,aq,f,bp,aT,aZ,af,ak,if_pos h1];rfl
  .rw [if_neg a];have i:=ri (l:=c::l) (by simp);have b:HF (c::l)=gC (c::l):=by unfold HF;rw [if_neg a]
   have d:¬ p < 0:=by omega
   rw [aJ (s':=([.bool false,.str ((c::l).drop (gC (c::l)))],st)),zW st n _ (by rw [aas];omega)];simp only [zh,ad,al,ao,ae,show (!((c::l:LB)==[]))=true from rfl,aq,f,b,bp,aT,aZ,af,ak,if_neg d,ca i,aaH,az]
theorem Mg (s:LB):(aY vE).bare 13 [.str s]=some (.bool (bH s)):=by
 refine aM rfl ((Ud _).trans ?_);have e:=zW (St.mk 0 0 Tr.leaf) s.length s (aah _);simp only [g13,ao,e];cases bH s <;> simp [eX,iq]
theorem vY {s:LB} {n:Nat} (h:s.drop n=[]):s.getD n 0=0:=by
 have:=aaQ.1 h;rw [aaz,aaX this];rfl
theorem rK {s l:LB} {n:Nat} {c:UInt8} (h:s.drop n=c::l):s.getD n 0=c:=by
 rw [aaz,(drop_cons h).1];rfl
theorem WV (s:LB) (i:Nat):(aY vE).bare 30 [.str s,.int .i64 (i:Int)]=some (.int .u8 ((s.getD i 0).toNat:Int)):=by
 refine aM rfl ((Uw _ _).trans ?_);have q:¬ (i:Int) < 0:=by omega
 by_cases h:i < s.length
 .have a:¬ (i:Int)>=(s.length:Int):=by omega
  have e:s.getD i 0=s[i]:=by rw [aaz,aax h];rfl
  rw [e];simp only [YJ,ao,af,ak,if_neg q,if_neg a,ai,ad,al,ae,bM h]
 .have a:(i:Int)>=(s.length:Int):=by omega
  have e:s.getD i 0=0:=by rw [aaz,aaX (by omega)];rfl
  rw [e];simp only [YJ,ao,af,ak,if_neg q,if_pos a,ai,ad,al,ae];rfl
theorem ga {β:Type} (s:LB) (i:Nat) (st:St) (K:Kv β):aV (aY vE) 30 [.str s,.int .i64 (i:Int)] st K=K (.int .u8 ((s.getD i 0).toNat:Int)) st q0:=aG st K rfl rfl rfl (WV s i)
theorem cK (c d:UInt8):((c.toNat:Int)==(d.toNat:Int))=(c==d):=by
 by_cases h:c=d
 .subst h;simp
 .rw [aai.2 h,aai.2 (rM h)]
theorem Vq (c:UInt8):(aY vE).bare 29 [.int .u8 (c.toNat:Int)]=some (.bool (bw c)):=by
 refine aM rfl ((Um _).trans ?_);have a:((c.toNat:Int)==32)=(c==32):=cK c 32;have b:((c.toNat:Int)==9)=(c==9):=cK c 9;have d:((c.toNat:Int)==10)=(c==10):=cK c 10;have e:((c.toNat:Int)==13)=(c==13):=cK c 13;simp only [Zo,af,a,b,d,e,bw];cases c==32 <;> cases c==9 <;> cases c==10 <;> rfl
theorem YA (c:UInt8):(aY vE).bare 33 [.int .u8 (c.toNat:Int)]=some (.bool (iP c)):=by
 refine aM rfl ((TL _).trans ?_);have a:decide ((c.toNat:Int)>=97)=decide (97<=c.toNat):=decide_eq_decide.2 (by omega);have b:decide ((c.toNat:Int)<=122)=decide (c.toNat<=122):=decide_eq_decide.2 (by omega);have d:((c.toNat:Int)==95)=(c==95):=cK c 95;simp only [YW,af,a,b,d,iP];cases decide (97<=c.toNat) <;> cases decide (c.toNat<=122) <;> rfl
theorem TR (c:UInt8):(aY vE).bare 36 [.int .u8 (c.toNat:Int)]=some (.bool (aC c)):=by
 refine aM rfl ((Ub _).trans ?_);have a:decide ((c.toNat:Int)>=48)=decide (48<=c.toNat):=decide_eq_decide.2 (by omega);have b:decide ((c.toNat:Int)<=57)=decide (c.toNat<=57):=decide_eq_decide.2 (by omega);simp only [Zb,af,a,b,aC];cases decide (48<=c.toNat) <;> cases decide (c.toNat<=57) <;> rfl
theorem qo {β:Type} (c:UInt8) (st:St) (K:Kv β):aV (aY vE) 29 [.int .u8 (c.toNat:Int)] st K=K (.bool (bw c)) st q0:=aG st K rfl rfl rfl (Vq c)
theorem C7 {β:Type} (c:UInt8) (st:St) (K:Kv β):aV (aY vE) 33 [.int .u8 (c.toNat:Int)] st K=K (.bool (iP c)) st q0:=aG st K rfl rfl rfl (YA c)
theorem gq {β:Type} (c:UInt8) (st:St) (K:Kv β):aV (aY vE) 36 [.int .u8 (c.toNat:Int)] st K=K (.bool (aC c)) st q0:=aG st K rfl rfl rfl (TR c)
theorem Qd (c:UInt8):(aY vE).bare 34 [.int .u8 (c.toNat:Int)]=some (.bool (eA c)):=by
 refine aM rfl ((Ts _).trans ?_);have a:decide ((c.toNat:Int)>=65)=decide (65<=c.toNat):=decide_eq_decide.2 (by omega);have b:decide ((c.toNat:Int)<=90)=decide (c.toNat<=90):=decide_eq_decide.2 (by omega);have d:((c.toNat:Int)==39)=(c==39):=cK c 39;simp only [ZU,af,a,b,d,C7,gq,al,eA];cases iP c <;> cases aC c <;> cases decide (65<=c.toNat) <;> cases decide (c.toNat<=90) <;> rfl
theorem uP {β:Type} (c:UInt8) (st:St) (K:Kv β):aV (aY vE) 34 [.int .u8 (c.toNat:Int)] st K=K (.bool (eA c)) st q0:=aG st K rfl rfl rfl (Qd c)
theorem YI {s t:LB} {i:Nat} (b:t.length=2) (hi:i<=1000000):(aY vE).bare 31 [.str s,.int .i64 (i:Int),.str t]=some (.bool ((s.drop i).take 2==t)):=by
 refine aM rfl ((TB _ _ _).trans ?_);by_cases h:i+2<=s.length
 .have a:((i+2:Nat):Int)<=(s.length:Int):=by omega
  have e:(s.take (i+2)).drop i=(s.drop i).take 2:=by rw [List.drop_take];congr 1;omega
  simp only [YO,ao,af,az,oQ (show i+2<=9223372036854775807 by omega),ak,if_pos a,ca h,ca (show i<=i+2 by omega),e,ai,ad,al,ae]
 .have a:¬ ((i+2:Nat):Int)<=(s.length:Int):=by omega
  have e:((s.drop i).take 2==t)=false:=by
   rw [aai];intro e;have:=aaY List.length e;rw [aat,aas,b] at this;omega
  simp only [YO,ao,af,az,oQ (show i+2<=9223372036854775807 by omega),ak,if_neg a,e,ai,ad,al,ae]
theorem iQ {β:Type} (s:LB) {t:LB} {i:Nat} (a:t.length=2) (hi:i<=1000000) (st:St) (K:Kv β):aV (aY vE) 31 [.str s,.int .i64 (i:Int),.str t] st K=K (.bool ((s.drop i).take 2==t)) st q0:=aG st K rfl rfl rfl (YI a hi)
theorem CE {β:Type} (s:LB) {t:LB} (a:t.length=2) (st:St) (K:Kv β):aV (aY vE) 31 [.str s,.int .i64 0,.str t] st K=K (.bool (s.take 2==t)) st q0:=iQ s (i:=0) a (by omega) st K
theorem uy {p:UInt8->Bool} {L:bU->Oq (bU ⊕ Nat×bU)} {s:LB} {st:St} (b:p 0=false)
  (h1: ∀n:Nat,n < s.length->p (s.getD n 0)=true->L ([.int .i64 (n:Int)],st)=some (.inl ([.int .i64 ((n+1:Nat):Int)],st)))
  (h0: ∀n:Nat,p (s.getD n 0)=false->L ([.int .i64 (n:Int)],st)=some (.inr (0,[.int .i64 (n:Int)],st))):
  ∀(l:LB) (n:Nat),s.drop n=l->aH L ([.int .i64 (n:Int)],st)=some (0,[.int .i64 ((n+wh p l:Nat):Int)],st)
 | [],n,hd=>by
  rw [aF (h0 n (by rw [vY hd];exact b))];rfl
 | c::l,n,hd=>by
  obtain ⟨_,f,a⟩:=drop_cons hd;have d:=rK hd;rw [dr];cases e:p c with
  | true=>
   rw [aJ (h1 n a (by rw [d];exact e)),uy b h1 h0 l (n+1) f];simp only [if_true];rw [show n+1+wh p l=n+(wh p l+1) by omega]
  | false=>
   rw [aF (h0 n (by rw [d];exact e))];rfl
section
variable {s:LB} (hs:s.length<=1000000) (st:St) {l:LB} {n:Nat} (hd:s.drop n=l)
include hs hd
theorem Lr:aH (zt s) ([.int .i64 (n:Int)],st)=some (0,[.int .i64 ((n+wh aC l:Nat):Int)],st):=by
 refine uy (p:=aC) rfl (fun n hn h=> ?_) (fun n h=> ?_) l n hd
 .simp only [zt,ad,af,ae,ga,gq,h,al,aq,az,br (show n+1<=9223372036854775807 by omega)]
 .simp only [zt,ad,af,ae,ga,gq,h,al,aj]
theorem L3:aH (Ea s) ([.int .i64 (n:Int)],st)=some (0,[.int .i64 ((n+wh aC l:Nat):Int)],st):=by
 refine uy (p:=aC) rfl (fun n hn h=> ?_) (fun n h=> ?_) l n hd
 .simp only [Ea,ad,af,ae,ga,gq,h,al,aq,az,br (show n+1<=9223372036854775807 by omega)]
 .simp only [Ea,ad,af,ae,ga,gq,h,al,aj]
theorem LM:aH (Au s) ([.int .i64 (n:Int)],st)=some (0,[.int .i64 ((n+wh bw l:Nat):Int)],st):=by
 refine uy (p:=bw) rfl (fun n hn h=> ?_) (fun n h=> ?_) l n hd
 .simp only [Au,ad,af,ae,ga,qo,h,al,aq,az,br (show n+1<=9223372036854775807 by omega)]
 .simp only [Au,ad,af,ae,ga,qo,h,al,aj]
theorem Ky:aH (yU s) ([.int .i64 (n:Int)],st)=some (0,[.int .i64 ((n+wh eA l:Nat):Int)],st):=by
 refine uy (p:=eA) rfl (fun n hn h=> ?_) (fun n h=> ?_) l n hd
 .simp only [yU,ad,af,ae,ga,uP,h,al,aq,az,br (show n+1<=9223372036854775807 by omega)]
 .simp only [yU,ad,af,ae,ga,uP,h,al,aj]
end
def xg (a:Nat) (c:UInt8):Nat:=min (qa a c) 1000000
def Mw (a:Nat) (l:LB):Nat:=l.foldl xg a
theorem N1 (a:Nat):Mw a []=a:=id rfl
theorem Cc (a:Nat) (c:UInt8) (l:LB):Mw a (c::l)=Mw (xg a c) l:=id rfl
theorem GC: ∀(l:LB) (a:Nat),Mw (min a 1000000) l=min (kz a l) 1000000
 | [],a=>by rw [N1,Aq]
 | c::l,a=>by
  rw [Cc,wA, <- GC l (qa a c)];congr 1;unfold xg qa;omega
theorem GP {s:LB} (hs:s.length<=1000000) (st:St): ∀(l:LB) (n a:Nat),s.drop n=l->a<=1000000->
  aH (tu s) ([.int .i64 (a:Int),.int .i64 (n:Int)],st)=some (0,[.int .i64 (Mw a (l.take (wh aC l)):Int),.int .i64 ((n+wh aC l:Nat):Int)],st)
 | [],n,a,hd,f=>by
  have h:aC (s.getD n 0)=false:=by rw [vY hd];rfl
  refine aF ?_;simp only [tu,ad,af,ae,ga,gq,h,al,aj];rfl
 | c::l,n,a,hd,f=>by
  obtain ⟨g,i,b⟩:=drop_cons hd;have d:=rK hd;rw [dr];cases e:aC c with
  | false=>
   have h:aC (s.getD n 0)=false:=by rw [d];exact e
   refine aF ?_;simp only [tu,ad,af,ae,ga,gq,h,al,aj];rfl
  | true=>
   have h:aC (s.getD n 0)=true:=by rw [d];exact e
   have j:48<=c.toNat/\c.toNat<=57:=by
    simpa only [aC,aaf,aaT] using e
   have k:s[n]=c:=gU b g;have o:IntKind.wrap .i64 ((a:Int) * 10)=((a * 10:Nat):Int):=wrapN (n:=a * 10) (by omega);have p:IntKind.wrap .i64 ((c.toNat:Nat):Int)=((c.toNat:Nat):Int):=wrapN (by omega);have q:IntKind.wrap .i64 (((a * 10:Nat):Int)+((c.toNat:Nat):Int))=((a * 10+c.toNat:Nat):Int):=uL (by omega);have r:IntKind.wrap .i64 (((a * 10+c.toNat:Nat):Int) - 48)=((a * 10+c.toNat - 48:Nat):Int):=xH (m:=48) (by omega) (by omega);have t:(if (1000000:Int) < ((a * 10+c.toNat - 48:Nat):Int) then (1000000:Int) else ((a * 10+c.toNat - 48:Nat):Int))=(xg a c:Int):=by
    unfold xg qa;split <;> omega
   have u:xg a c<=1000000:=by unfold xg;omega
   rw [aJ (s':=([.int .i64 (xg a c:Int),.int .i64 ((n+1:Nat):Int)],st)),GP hs st l (n+1) _ i u]
   .simp only [if_true,abO,Cc];rw [show n+1+wh aC l=n+(wh aC l+1) by omega]
   .simp only [tu,ad,af,ae,ga,gq,h,al,aq,az,o,bM b,k,p,q,r,t,br (show n+1<=9223372036854775807 by omega)]
theorem jC (s:LB) (hs:s.length<=1000000) (st:St): ∀(l:LB) (i d:Nat),s.drop i=l->i<=s.length->1<=d->d<=i->
  aH (pB s) ([.int .i64 (d:Int),.int .i64 0,.bool false,.int .i64 (i:Int)],st)=some (match rem l d with | some n=>(1,[.int .i64 ((i+n:Nat):Int),.bool true],st) | none=>(0,[.int .i64 0,.bool false],st))
 | [],i,d,hd,hi,h1,r=>by
  have:=aaQ.1 hd;have q:¬ (i:Int) < (s.length:Int):=by omega
  refine aF ?_;simp only [pB,ad,af,al,ae,ak,if_neg q];rfl
 | [a],i,d,hd,hi,h1,r=>by
  obtain ⟨x,j,o⟩:=drop_cons hd;have q:(i:Int) < (s.length:Int):=by omega
  have ih:=jC s hs st [] (i+1) d j (by omega) h1 (by omega);rw [aJ (s':=([.int .i64 (d:Int),.int .i64 0,.bool false,.int .i64 ((i+1:Nat):Int)],st)),ih]
  .rfl
  .simp only [pB,ad,af,ae,ak,if_pos q,iQ s (t:=[40,42]) rfl (show i<=1000000 by omega),iQ s (t:=[42,41]) rfl (show i<=1000000 by omega),hd,al];simp only [show ([a].take 2==[(40:UInt8),42])=false by simp,show ([a].take 2==[(42:UInt8),41])=false by simp,aj,az,ai,bu,ad,af,al,ae,br (show i+1<=9223372036854775807 by omega)]
 | a::b::l,i,d,hd,hi,h1,r=>by
  obtain ⟨x,j,o⟩:=drop_cons hd;obtain ⟨y,g,u⟩:=drop_cons j;have q:(i:Int) < (s.length:Int):=by omega
  have k:((a::b::l).take 2==[40,42])=(decide (a=40/\b=42)):=by
   show ([a,b]==[40,42])= _;by_cases h:a=40/\b=42
   .rw [h.1,h.2];rfl
   .rw [abe h,aai];intro e;simp only [abo,abW] at e;exact h e
  have p:((a::b::l).take 2==[42,41])=(decide (a=42/\b=41)):=by
   show ([a,b]==[42,41])= _;by_cases h:a=42/\b=41
   .rw [h.1,h.2];rfl
   .rw [abe h,aai];intro e;simp only [abo,abW] at e;exact h e
  by_cases c:a=40/\b=42
  .have ih:=jC s hs st l (i+2) (d+1) g (by omega) (by omega) (by omega);rw [aJ (s':=([.int .i64 ((d+1:Nat):Int),.int .i64 0,.bool false,.int .i64 ((i+2:Nat):Int)],st)),ih]
   .simp only [rem,if_pos c];cases rem l (d+1) with
    | none=>rfl
    | some n=>simp only [Option.map_some];rw [show i+2+n=i+(n+2) by omega]
   .simp only [pB,ad,af,ae,ak,if_pos q,iQ s (t:=[40,42]) rfl (show i<=1000000 by omega),hd,k,if_pos c,al,az,ai,bu,br (show d+1<=9223372036854775807 by omega),oQ (show i+2<=9223372036854775807 by omega)]
  .by_cases f:a=42/\b=41
   .have w:=xH (n:=d) (m:=1) h1 (by omega);have w:IntKind.wrap .i64 ((d:Int) - 1)=((d - 1:Nat):Int):=w;by_cases v:d=1
    .subst v;simp only [rem,if_neg c,if_pos f,if_true];refine aF ?_;simp only [pB,ad,af,ae,ak,if_pos q,iQ s (t:=[40,42]) rfl (show i<=1000000 by omega),iQ s (t:=[42,41]) rfl (show i<=1000000 by omega),hd,k,p,if_neg c,if_pos f,al,az,ai,w,oQ (show i+2<=9223372036854775807 by omega),bP];rfl
    .have ih:=jC s hs st l (i+2) (d - 1) g (by omega) (by omega) (by omega);have z:¬ ((d - 1:Nat):Int)=0:=by omega
     rw [aJ (s':=([.int .i64 ((d - 1:Nat):Int),.int .i64 0,.bool false,.int .i64 ((i+2:Nat):Int)],st)),ih]
     .simp only [rem,if_neg c,if_pos f,if_neg v];cases rem l (d - 1) with
      | none=>rfl
      | some n=>simp only [Option.map_some];rw [show i+2+n=i+(n+2) by omega]
     .simp only [pB,ad,af,ae,ak,if_pos q,iQ s (t:=[40,42]) rfl (show i<=1000000 by omega),iQ s (t:=[42,41]) rfl (show i<=1000000 by omega),hd,k,p,if_neg c,if_pos f,al,az,ai,w,oQ (show i+2<=9223372036854775807 by omega),bP,if_neg z,bu]
   .have ih:=jC s hs st (b::l) (i+1) d j (by omega) h1 (by omega);rw [aJ (s':=([.int .i64 (d:Int),.int .i64 0,.bool false,.int .i64 ((i+1:Nat):Int)],st)),ih]
    .simp only [rem,if_neg c,if_neg f];cases rem (b::l) d with
     | none=>rfl
     | some n=>simp only [Option.map_some];rw [show i+1+n=i+(n+1) by omega]
    .simp only [pB,ad,af,ae,ak,if_pos q,iQ s (t:=[40,42]) rfl (show i<=1000000 by omega),iQ s (t:=[42,41]) rfl (show i<=1000000 by omega),hd,k,p,if_neg c,if_neg f,al,az,ai,bu,br (show i+1<=9223372036854775807 by omega)]
theorem Iq {s:LB} (hs:s.length<=1000000) (a:2<=s.length):(aY vE).bare 32 [.str s]=some (match rem (s.drop 2) 1 with | some n=> .tup [.int .i64 ((n+2:Nat):Int),.bool true] | none=> .tup [.int .i64 (s.length:Int),.bool false]):=by
 refine aM rfl ((Sw _).trans ?_);have e:aH (pB s) ([.int .i64 1,.int .i64 0,.bool false,.int .i64 2],St.mk 0 0 Tr.leaf)= _:=jC s hs (St.mk 0 0 Tr.leaf) (s.drop 2) 2 1 rfl a (by omega) (by omega);simp only [Zw,ao];rw [e];cases rem (s.drop 2) 1 with
 | none=>simp only [ai,ad,af,al,ae,eX]
 | some n=>simp only [ai,ad,af,al,ae,iq];rw [abC 2 n]
def Ends (st:St) (r:Oq (Nat×bU)) (p:Nat×Nat):Prop:=
 (∃c:Int,r=some (1,[.int .u8 (p.1:Int),.int .i64 (p.2:Int),.int .i64 c],st))\/(p.1=9/\r=some (0,[.int .u8 0,.int .i64 0,.int .i64 (p.2:Int)],st))
theorem Br {s:LB} (hs:s.length<=1000000) (st:St): ∀(l:LB) (i:Nat),s.drop i=l->i<=s.length->
  Ends st (aH (gV s) ([.int .u8 0,.int .i64 0,.bool true,.int .i64 (i:Int)],st)) (9,i+ff l)
 | [],i,hd,hi=>by
  have:=aaQ.1 hd;have q:¬ (i:Int) < (s.length:Int):=by omega
  refine .inr ⟨rfl,aF ?_⟩;simp only [gV,ad,af,al,ae,ak,if_neg q,ai,aj];rfl
 | c::l,i,hd,hi=>by
  obtain ⟨j,k,a⟩:=drop_cons hd;have q:(i:Int) < (s.length:Int):=by omega
  have e:s[i]=c:=gU a j;have f:((c.toNat:Int) != 10)=(c != 10):=by unfold bne;rw [show ((c.toNat:Int)==10)=(c==10) from cK c 10]
  have h:((c.toNat:Int)==34)=(c==34):=cK c 34;have m:((c.toNat:Int)==92)=(c==92):=cK c 92;by_cases b:c=10
  .have z:(c != 10)=false:=by simp [b]
   simp only [ff,if_pos b];refine .inr ⟨rfl,aF ?_⟩;simp only [gV,ad,af,al,ae,ak,if_pos q,bM a,e,f,z,ai,aj];rfl
  .have z:(c != 10)=true:=by simp [b]
   by_cases d:c=34
   .have g:(c==34)=true:=by simp [d]
    simp only [ff,if_neg b,if_pos d];refine .inl ⟨(i:Int),aF ?_⟩;simp only [gV,ad,af,al,ae,ak,if_pos q,bM a,e,f,h,z,g,ai,aq,az,br (show i+1<=9223372036854775807 by omega)];rfl
   .have g:(c==34)=false:=by simp [d]
    have ih:=Br hs st l (i+1) k (by omega);rw [aJ (s':=([.int .u8 0,.int .i64 0,.bool true,.int .i64 ((i+1:Nat):Int)],st))]
    .simp only [ff,if_neg b,if_neg d];rw [show i+(ff l+1)=i+1+ff l by omega];exact ih
    .simp only [gV,ad,af,al,ae,ak,if_pos q,bM a,e,f,h,m,z,g,ai,aq,aj,az,aaS];cases c==92 <;> simp only [aq,aj,ai,ad,al,af,ae,az,br (show i+1<=9223372036854775807 by omega)]
theorem pO {s:LB} (hs:s.length<=1000000) (st:St): ∀(l:LB) (i:Nat),s.drop i=l->i<=s.length->
  Ends st (aH (gV s) ([.int .u8 0,.int .i64 0,.bool false,.int .i64 (i:Int)],st)) ((cL l).1,i+(cL l).2)
 | [],i,hd,hi=>by
  have:=aaQ.1 hd;have q:¬ (i:Int) < (s.length:Int):=by omega
  refine .inr ⟨rfl,aF ?_⟩;simp only [gV,ad,af,al,ae,ak,if_neg q,ai,aj];rfl
 | [c],i,hd,hi=>by
  obtain ⟨u,k,a⟩:=drop_cons hd;have q:(i:Int) < (s.length:Int):=by omega
  have f:s[i]=c:=gU a u;have g:((c.toNat:Int) != 10)=(c != 10):=by unfold bne;rw [show ((c.toNat:Int)==10)=(c==10) from cK c 10]
  have m:((c.toNat:Int)==34)=(c==34):=cK c 34;have p:((c.toNat:Int)==92)=(c==92):=cK c 92;by_cases b:c=10
  .have z:(c != 10)=false:=by simp [b]
   simp only [cL,if_pos b];refine .inr ⟨rfl,aF ?_⟩;simp only [gV,ad,af,al,ae,ak,if_pos q,bM a,f,g,z,ai,aj];rfl
  .have z:(c != 10)=true:=by simp [b]
   by_cases j:c=34
   .have h:(c==34)=true:=by simp [j]
    simp only [cL,if_neg b,if_pos j];refine .inl ⟨(i:Int),aF ?_⟩;simp only [gV,ad,af,al,ae,ak,if_pos q,bM a,f,g,m,z,h,ai,aq,aj,az,br (show i+1<=9223372036854775807 by omega)];rfl
   .have h:(c==34)=false:=by simp [j]
    simp only [cL,if_neg b,if_neg j];cases n:c==92 with
    | true=>
     rw [aJ (s':=([.int .u8 0,.int .i64 0,.bool true,.int .i64 ((i+1:Nat):Int)],st))]
     .exact Br hs st [] (i+1) k (by omega)
     .have t:=vY k;have e:(((0:UInt8).toNat:Nat):Int)=0:=rfl;simp only [gV,ad,af,al,ae,ak,if_pos q,bM a,f,g,m,p,z,h,n,ai,aq,aj,az,aaR,br (show i+1<=9223372036854775807 by omega),ga,t,e];simp only [show ((0:Int)==110)=false from rfl,show ((0:Int)==116)=false from rfl,show ((0:Int)==92)=false from rfl,show ((0:Int)==34)=false from rfl,aj,ai,ad,al,af,ae,az,br (show i+1<=9223372036854775807 by omega)]
    | false=>
     rw [aJ (s':=([.int .u8 0,.int .i64 0,.bool false,.int .i64 ((i+1:Nat):Int)],st))]
     .exact pO hs st [] (i+1) k (by omega)
     .simp only [gV,ad,af,al,ae,ak,if_pos q,bM a,f,g,m,p,z,h,n,ai,aq,aj,az,br (show i+1<=9223372036854775807 by omega)]
 | c::d::l,i,hd,hi=>by
  obtain ⟨u,k,a⟩:=drop_cons hd;obtain ⟨y,v,w⟩:=drop_cons k;have q:(i:Int) < (s.length:Int):=by omega
  have f:s[i]=c:=gU a u;have g:((c.toNat:Int) != 10)=(c != 10):=by unfold bne;rw [show ((c.toNat:Int)==10)=(c==10) from cK c 10]
  have m:((c.toNat:Int)==34)=(c==34):=cK c 34;have p:((c.toNat:Int)==92)=(c==92):=cK c 92;by_cases b:c=10
  .have z:(c != 10)=false:=by simp [b]
   simp only [cL,if_pos b];refine .inr ⟨rfl,aF ?_⟩;simp only [gV,ad,af,al,ae,ak,if_pos q,bM a,f,g,z,ai,aj];rfl
  .have z:(c != 10)=true:=by simp [b]
   by_cases j:c=34
   .have h:(c==34)=true:=by simp [j]
    simp only [cL,if_neg b,if_pos j];refine .inl ⟨(i:Int),aF ?_⟩;simp only [gV,ad,af,al,ae,ak,if_pos q,bM a,f,g,m,z,h,ai,aq,aj,az,br (show i+1<=9223372036854775807 by omega)];rfl
   .have h:(c==34)=false:=by simp [j]
    simp only [cL,if_neg b,if_neg j];cases n:c==92 with
    | true=>
     have o:c=92:=eq_of_beq n;simp only [if_pos o];have t:=rK k;have d1:((d.toNat:Int)==110)=(d==110):=cK d 110;have d2:((d.toNat:Int)==116)=(d==116):=cK d 116;have d3:((d.toNat:Int)==92)=(d==92):=cK d 92;have d4:((d.toNat:Int)==34)=(d==34):=cK d 34;have r: ∀(st:St) {β:Type} (K:LA×St->Oq β),(ax (aX (d==110) (some ([AV.bool true],st)) (aX (d==116) (some ([AV.bool true],st)) (aX (d==92) (some ([AV.bool true],st)) (some ([AV.bool (d==34)],st))))) K)=K ([AV.bool (uw d)],st):=by
      intro st β K;unfold uw;cases d==110 <;> cases d==116 <;> cases d==92 <;> rfl
     cases x:uw d with
     | true=>
      simp only [if_true];rw [aJ (s':=([.int .u8 0,.int .i64 0,.bool false,.int .i64 ((i+2:Nat):Int)],st)),show i+((cL l).2+2)=i+2+(cL l).2 by omega]
      .exact pO hs st l (i+2) v (by omega)
      .simp only [gV,ad,af,al,ae,ak,if_pos q,bM a,f,g,m,p,z,h,n,ai,aq,aj,az,aaR,br (show i+1<=9223372036854775807 by omega),ga,t,d1,d2,d3,d4,r,x,br (show i+1+1<=9223372036854775807 by omega)]
     | false=>
      simp only [aaB,if_false];rw [aJ (s':=([.int .u8 0,.int .i64 0,.bool true,.int .i64 ((i+1:Nat):Int)],st)),show i+(ff (d::l)+1)=i+1+ff (d::l) by omega]
      .exact Br hs st (d::l) (i+1) k (by omega)
      .simp only [gV,ad,af,al,ae,ak,if_pos q,bM a,f,g,m,p,z,h,n,ai,aq,aj,az,aaR,br (show i+1<=9223372036854775807 by omega),ga,t,d1,d2,d3,d4,r,x]
    | false=>
     have o:¬ c=92:=by simpa using n
     simp only [if_neg o];rw [aJ (s':=([.int .u8 0,.int .i64 0,.bool false,.int .i64 ((i+1:Nat):Int)],st)),show i+((cL (d::l)).2+1)=i+1+(cL (d::l)).2 by omega]
     .exact pO hs st (d::l) (i+1) k (by omega)
     .simp only [gV,ad,af,al,ae,ak,if_pos q,bM a,f,g,m,p,z,h,n,ai,aq,aj,az,br (show i+1<=9223372036854775807 by omega)]
theorem M9 {c:UInt8} {l:LB} (hs:(c::l).length<=1000000):(aY vE).bare 38 [.str (c::l)]=some (.tup [.int .u8 ((cL l).1:Int),.int .i64 (((cL l).2+1:Nat):Int)]):=by
 refine aM rfl ((Ua _).trans ?_);have e:=pO hs (St.mk 0 0 Tr.leaf) l 1 rfl (by simp);rw [abC 1 (cL l).2] at e;simp only [ZB,ao];rcases e with ⟨x,e⟩ | ⟨a,e⟩
 .have e:aH (gV (c::l)) ([.int .u8 0,.int .i64 0,.bool false,.int .i64 1],St.mk 0 0 Tr.leaf)= _:=e;rw [e];simp only [ai,ad,af,ae,iq]
 .have e:aH (gV (c::l)) ([.int .u8 0,.int .i64 0,.bool false,.int .i64 1],St.mk 0 0 Tr.leaf)= _:=e;have a:(cL l).1=9:=a;rw [e,a];simp only [ai,ad,af,ae,eX];rfl
theorem JM (s:LB) (n:Nat) (d:UInt8) (hd:d≠0):(s.getD n 0==d)=decide ((s.drop n).head?=some d):=by
  cases h:s.drop n with
  | nil=>
    rw [vY h];simp;exact fun e=>hd e.symm
  | cons c l=>
    rw [rK h];by_cases e:c=d
    · subst e;simp
    · rw [aai.2 e]
      simp [e]
theorem Ws {s:LB} (hs:s.length<=1000000) (e:Nat) (a:Int) (hp: -2000000<=a) (a8:a<=2000000) (he:e<=s.length) {β:Type} (st:St) (K:bU->Oq β):
    (ax (aV (aY vE) 30 [AV.str s,AV.int .i64 (e:Int)] st fun F g _x=>bj .u8 F fun G=>aX (G==101) (some
 ([AV.bool true],g)) (aV (aY vE) 30 [AV.str s,AV.int .i64 (e:Int)] g fun H o _x=>bj .u8 H fun I=>some ([AV.bool (I==69)],o))) fun k=>bg (Prod.fst k) fun J L=>bG J fun M=>
 bB L (ax (aX M (aN (IntKind.wrap .i64 ((e:Int)+1)) fun b=>aV (aY vE) 30 [AV.str s,AV.int .i64 b] (Prod.snd k) fun O h _x=>bj .u8 O fun p=>ax (aX (p==45) (some ([AV.bool
 true],h)) (aV (aY vE) 30 [AV.str s,AV.int .i64 b] h fun P t _x=>bj .u8 P fun Q=>some ([AV.bool (Q==43)],t))) fun m=>bg (Prod.fst m) fun R S=>bG R fun T=>bB S
 (ax (aX T (aN (IntKind.wrap .i64 (b+1)) fun U=>some ([AV.int .i64 U],Prod.snd m)) (some ([AV.int .i64 b],Prod.snd m))) fun u=>bg (Prod.fst u) fun V W=>bj .i64 V fun v=>bB
 W (ax (aH (tu s) ([AV.int .i64 0,AV.int .i64 v],Prod.snd u)) fun f=>bg (Prod.fst (Prod.snd f)) fun X Y=>bj .i64 X fun w=>bg Y fun Z x=>bj .i64 Z fun n101=>bB x
 (ax (aX (decide (n101 > v)) (ax (aX (p==45) (aN (IntKind.wrap .i64 (0 - w)) fun n102=>some ([AV.int .i64 n102],Prod.snd (Prod.snd f))) (some ([AV.int .i64 w],Prod.snd (Prod.snd f)))) fun i
 =>bg (Prod.fst i) fun y z=>bj .i64 y fun n106=>bB z (aN (IntKind.wrap .i64 (a+n106)) fun n107=>some ([AV.int .i64 n101,AV.int .i64 n107],Prod.snd i))) (some ([AV.int .i64 (e:Int),AV.int .i64
 a],Prod.snd (Prod.snd f)))) fun j=>bg (Prod.fst j) fun v109 A=>bj .i64 v109 fun n111=>bg A fun B C=>bj .i64 B fun n114=>bB C (some ([AV.int .i64 n111,AV.int .i64 n114],
 Prod.snd j)))))) (some ([AV.int .i64 (e:Int),AV.int .i64 a],Prod.snd k))) K))=K ([.int .i64 ((e+(eO (s.drop e)).1:Nat):Int),.int .i64 (a+(eO (s.drop e)).2)],st):=by
  have a1:((((s.getD e 0).toNat:Nat):Int)==101)=(s.getD e 0==101):=cK _ 101;have a2:((((s.getD e 0).toNat:Nat):Int)==69)=(s.getD e 0==69):=cK _ 69;have w1:=br (show e+1<=9223372036854775807 by omega);have a3:((((s.getD (e+1) 0).toNat:Nat):Int)==45)=(s.getD (e+1) 0==45):=cK _ 45;have a4:((((s.getD (e+1) 0).toNat:Nat):Int)==43)=(s.getD (e+1) 0==43):=cK _ 43;have VI: ∀(st:St) {γ:Type} (K:LA×St->Oq γ),ax (aX (s.getD e 0==101) (some ([AV.bool true],st)) (some ([AV.bool (s.getD e 0==69)],st))) K=K ([AV.bool (s.getD e 0==101||s.getD e 0==69)],st):=by
    intro st γ K;cases s.getD e 0==101 <;> rfl
  have cf: ∀(st:St) {γ:Type} (K:LA×St->Oq γ),ax (aX (s.getD (e+1) 0==45) (some ([AV.bool true],st)) (some ([AV.bool (s.getD (e+1) 0==43)],st))) K=K ([AV.bool (qe (s.getD (e+1) 0))],st):=by
    intro st γ K;unfold qe;cases s.getD (e+1) 0==45 <;> cases s.getD (e+1) 0==43 <;> rfl
  simp only [ga,af,a1,a2,VI,ad,al,ae];cases hd:s.drop e with
  | nil=>
    rw [vY hd];simp only [show ((0:UInt8)==101||(0:UInt8)==69)=false from rfl,aj,ai,eO];simp
  | cons c l=>
    obtain ⟨hg,D,bb⟩:=drop_cons hd;rw [rK hd];by_cases E:c=101\/c=69
    · have n:(c==101||c==69)=true:=by simpa using E
      have av:eh l=if qe (s.getD (e+1) 0)=true then 1 else 0:=by
        cases l with
        | nil=>rw [vY D];rfl
        | cons d r=>rw [rK D];rfl
      have bt:=zF l;have b4:l.length=s.length - (e+1):=by rw [<- D,aas]
      have a6:(s.getD (e+1) 0==45)=decide (l.head?=some 45):=by rw [JM s (e+1) 45 (by decide),D]
      have sg: ∀(st:St) {γ:Type} (K:LA×St->Oq γ),ax (aX (qe (s.getD (e+1) 0)) (some ([AV.int .i64 ((e+1+1:Nat):Int)],st)) (some ([AV.int .i64 ((e+1:Nat):Int)],st))) K=K ([AV.int .i64 ((e+1+eh l:Nat):Int)],st):=by
        intro st γ K;rw [av];cases qe (s.getD (e+1) 0) <;> rfl
      have a7:s.drop (e+1+eh l)=l.drop (eh l):=by rw [<- D,abD]
      have lp:=fun st=>GP hs st (l.drop (eh l)) (e+1+eh l) 0 a7 (by omega);have lp: ∀st,aH (tu s) ([.int .i64 0,.int .i64 ((e+1+eh l:Nat):Int)],st)= _:=lp;simp only [n,aq,az,w1,ga,af,a3,a4,cf,ad,al,ae,br (show e+1+1<=9223372036854775807 by omega),sg,lp,ai];have hx:Mw 0 ((l.drop (eh l)).take (wh aC (l.drop (eh l))))=min (kz 0 ((l.drop (eh l)).take (wh aC (l.drop (eh l))))) 1000000:=GC _ 0;simp only [eO,if_pos E];by_cases hz:wh aC (l.drop (eh l))=0
      · have q:¬ (((e+1+eh l+wh aC (l.drop (eh l)):Nat):Int) > ((e+1+eh l:Nat):Int)):=by omega
        simp only [ak,if_neg q,ai,ad,af,ae,if_pos hz];simp
      · have q:(((e+1+eh l+wh aC (l.drop (eh l)):Nat):Int) > ((e+1+eh l:Nat):Int)):=by omega
        simp only [ak,if_pos q,ai,ad,af,ae,if_neg hz,hx,a6];generalize hN:kz 0 ((l.drop (eh l)).take (wh aC (l.drop (eh l))))=N;by_cases hm:l.head?=some 45
        · have w2:IntKind.wrap .i64 (0 - ((min N 1000000:Nat):Int))= -((min N 1000000:Nat):Int):=by
            rw [wrap_i64 (by omega) (by omega)];omega
          have w3:IntKind.wrap .i64 (a+ -((min N 1000000:Nat):Int))=a+ -((min N 1000000:Nat):Int):=wrap_i64 (by omega) (by omega);simp only [if_pos hm,az,w2,ai,ad,af,ae,w3];rw [show e+1+eh l+wh aC (l.drop (eh l))=e+(1+eh l+wh aC (l.drop (eh l))) by omega]
        · have w3:IntKind.wrap .i64 (a+((min N 1000000:Nat):Int))=a+((min N 1000000:Nat):Int):=wrap_i64 (by omega) (by omega)
          simp only [if_neg hm,az,ai,ad,af,ae,w3];rw [show e+1+eh l+wh aC (l.drop (eh l))=e+(1+eh l+wh aC (l.drop (eh l))) by omega]
    · have n:(c==101||c==69)=false:=by simpa using E
      simp only [n,aj,ai,eO,if_neg E];simp
theorem I5 (s:LB): -1000000<=(eO s).2/\(eO s).2<=1000000:=by
  unfold eO;split
  · simp
  · split
    · dsimp only
      split
      · simp
      · dsimp only
        split <;> omega
    · simp
theorem QY {s:LB} (hs:s.length<=1000000) (h1:1<=wh aC s):(aY vE).bare 37 [.str s]=some (.tup [.int .u8 ((number s).1:Int),.int .i64 ((number s).2:Int)]):=by
  refine aM rfl ((TN _).trans ?_);have l1:aH (zt s) ([.int .i64 0],St.mk 0 0 Tr.leaf)=some (0,[.int .i64 ((wh aC s:Nat):Int)],St.mk 0 0 Tr.leaf):=by
    have:=Lr hs (St.mk 0 0 Tr.leaf) (n:=0) (l:=s) rfl;rw [aau] at this;exact this
  have v:=jD aC s;have hd:=JM s (wh aC s) 46 (by decide);have e:((((s.getD (wh aC s) 0).toNat:Nat):Int) != 46)= !(decide ((s.drop (wh aC s)).head?=some 46)):=by
    unfold bne;rw [<- hd,show ((((s.getD (wh aC s) 0).toNat:Nat):Int)==46)=(s.getD (wh aC s) 0==46) from cK _ 46]
  simp only [Zj,ao,l1,ai,ad,af,ae,ga,e];have c:number s=if (s.drop (wh aC s)).head?=some 46 then (if wh aC s+wh aC (s.drop (wh aC s+1)) > 15\/(eO (s.drop (wh aC s+1+wh aC (s.drop (wh aC s+1))))).2 - (wh aC (s.drop (wh aC s+1)):Int) < -22\/(eO (s.drop (wh aC s+1+wh aC (s.drop (wh aC s+1))))).2 - (wh aC (s.drop (wh aC s+1)):Int) > 22 then 9 else 6,wh aC s+1+wh aC (s.drop (wh aC s+1))+(eO (s.drop (wh aC s+1+wh aC (s.drop (wh aC s+1))))).1) else (5,wh aC s):=rfl
  rw [c];by_cases b:(s.drop (wh aC s)).head?=some 46
  · have h:wh aC s < s.length:=by
      rcases Nat.lt_or_ge (wh aC s) s.length with q | q
      · exact q
      · rw [List.drop_of_length_le q] at b;cases b
    have l2:=L3 hs (St.mk 0 0 Tr.leaf) (n:=wh aC s+1) (l:=s.drop (wh aC s+1)) rfl;have i:=jD aC (s.drop (wh aC s+1));rw [aas] at i;generalize hn:wh aC s=n at *;generalize j:wh aC (s.drop (n+1))=k at *;have m:=br (show n+1<=9223372036854775807 by omega);have o:IntKind.wrap .i64 (((n+1:Nat):Int) - ((n+1+k:Nat):Int))= -(k:Int):=by rw [wrap_i64 (by omega) (by omega)];omega
    have p:IntKind.wrap .i64 (((n+1+k:Nat):Int) - 1)=((n+k:Nat):Int):=by rw [wrap_i64 (by omega) (by omega)];omega
    simp only [abh b,aaS,aj,az,m,l2,ai,ad,af,ae,o,p,if_pos b];have g:=fun (K:bU->Oq AV)=>Ws hs (n+1+k) (-(k:Int)) (by omega) (by omega) (by omega) (St.mk 0 0 Tr.leaf) K;simp only [az] at g;rw [g];have w:=I5 (s.drop (n+1+k));generalize (eO (s.drop (n+1+k))).1=x at *;generalize (eO (s.drop (n+1+k))).2=a at *;simp only [ad,af,ae];by_cases r:n+k > 15
    · have q:((n+k:Nat):Int) > 15:=by omega
      simp only [ak,if_pos q,ai,ad,al,ae,aq,if_pos (show n+k > 15\/a - (k:Int) < -22\/a - (k:Int) > 22 from .inl r)];rfl
    · have q:¬ ((n+k:Nat):Int) > 15:=by omega
      by_cases t:a - (k:Int) < -22
      · have d: -(k:Int)+a < -22:=by omega
        simp only [ak,if_neg q,if_pos d,ai,ad,al,ae,aq,if_pos (show n+k > 15\/a - (k:Int) < -22\/a - (k:Int) > 22 from .inr (.inl t))];rfl
      · have d:¬ -(k:Int)+a < -22:=by omega
        by_cases u:a - (k:Int) > 22
        · have f: -(k:Int)+a > 22:=by omega
          simp only [ak,if_neg q,if_neg d,if_pos f,ai,ad,al,ae,if_pos (show n+k > 15\/a - (k:Int) < -22\/a - (k:Int) > 22 from .inr (.inr u))];rfl
        · have f:¬ -(k:Int)+a > 22:=by omega
          simp only [ak,if_neg q,if_neg d,if_neg f,ai,ad,al,ae,if_neg (show ¬ (n+k > 15\/a - (k:Int) < -22\/a - (k:Int) > 22) by omega)];rfl
  · simp only [abe b,aaR,aq,if_neg b]
    rfl
def Ob:AV:=AV.sl 1 [AV.str [108,101,116],AV.str [114,101,99],AV.str [105,110],AV.str [102,117,110],AV.str [105,102],AV.str [116,104,101,110],AV.str [101,108,115,101],AV.str [109,97,116,99,104],AV.str [119,105,116,104],AV.str [116,114,117,101],AV.str [102,97,108,115,101],AV.str [109,111,100]] Perm.shut
def R8:AV:=AV.sl 1 [AV.str [45,62],AV.str [58,58],AV.str [60,62],AV.str [60,61],AV.str [62,61],AV.str [43,46],AV.str [45,46],AV.str [42,46],AV.str [47,46],AV.str [38,38],AV.str [124,124]] Perm.shut
theorem Gd (l:List LB) (hl:l.length<=1000) {j:Nat} {w:LB} (h:l[j]? =some w) {β:Type} (st:St) (K:AV->Ln->Oq β):dB 1 (AV.sl 1 (l.map AV.str) .shut) (j:Int) st K=K (.ip [.str w]) []:=
 (bF.shut (z:=1) (es:=l.map AV.str) (by rw [aay];omega)).idx (by rw [abc,h];rfl) st K
theorem K5 {j:Nat} {w:LB} (h:words[j]? =some w) {β:Type} (st:St) (K:AV->Ln->Oq β):dB 1 Ob (j:Int) st K=K (.ip [.str w]) []:=Gd words (by decide) h st K
theorem O6 {j:Nat} {w:LB} (h:gG[j]? =some w) {β:Type} (st:St) (K:AV->Ln->Oq β):dB 1 R8 (j:Int) st K=K (.ip [.str w]) []:=Gd gG (by decide) h st K
theorem CB (w:LB) (st:St): ∀(l:List LB) (j:Nat),words.drop j=l->l.length+j=12->
  aH (wz w) ([.bool false,.int .i64 (j:Int)],st)=some (if l.contains w then (1,[.bool true],st) else (0,[.bool false],st))
 | [],j,hd,b=>by
  have q:¬ (j:Int) < 12:=by simp at b;omega
  refine aF ?_;simp only [wz,ad,al,af,ae,ak,if_neg q];rfl
 | x::l,j,hd,b=>by
  obtain ⟨c,d,e⟩:=drop_cons hd;have q:(j:Int) < 12:=by simp at b;omega
  have a:=fun {β:Type} (st:St) (K:AV->Ln->Oq β)=>K5 c st K;unfold Ob at a;rw [List.contains_cons,BEq.comm];cases hx:x==w with
  | true=>
   refine aF ?_;simp only [wz,ad,al,af,ae,ak,if_pos q,a,bK,aL,ai,ao,hx,aq,abI,if_true]
  | false=>
   rw [aJ (s':=([.bool false,.int .i64 ((j+1:Nat):Int)],st)),CB w st l (j+1) d (by simp at b;omega),aaV];simp only [wz,ad,al,af,ae,ak,if_pos q,a,bK,aL,ai,ao,hx,aj,az,br (show j+1<=9223372036854775807 by simp at b;omega)]
theorem Ff (w:LB):(aY vE).bare 35 [.str w]=some (.bool (words.contains w)):=by
 refine aM rfl ((Vp _).trans ?_);have e:aH (wz w) ([.bool false,.int .i64 0],St.mk 0 0 Tr.leaf)= _:=CB w (St.mk 0 0 Tr.leaf) words 0 rfl rfl;simp only [Y0,ao];rw [e];cases words.contains w <;> rfl
theorem IM {β:Type} (w:LB) (st:St) (K:Kv β):aV (aY vE) 35 [.str w] st K=K (.bool (words.contains w)) st q0:=aG st K rfl rfl rfl (Ff w)
theorem MK {t:LB} {j:Nat} (h:gG[j]? =some t):t.length=2:=by
 have hm:=aaJ h;simp only [gG,aam,List.not_mem_nil,or_false] at hm;rcases hm with rfl | rfl | rfl | rfl | rfl | rfl | rfl | rfl | rfl | rfl | rfl <;> rfl
theorem E9 (s:LB) (st:St): ∀(l:List LB) (j:Nat),gG.drop j=l->l.length+j=11->
  aH (wy s) ([.int .u8 0,.int .i64 0,.int .i64 (j:Int)],st)=some (if l.contains (s.take 2) then (1,[.int .u8 8,.int .i64 2],st) else (0,[.int .u8 0,.int .i64 0],st))
 | [],j,hd,b=>by
  have q:¬ (j:Int) < 11:=by simp at b;omega
  refine aF ?_;simp only [wy,ad,af,ae,ak,if_neg q];rfl
 | x::l,j,hd,b=>by
  obtain ⟨c,e,f⟩:=drop_cons hd;have q:(j:Int) < 11:=by simp at b;omega
  have a:=fun {β:Type} (st:St) (K:AV->Ln->Oq β)=>O6 c st K;have d:=fun {β:Type} (st:St) (K:Kv β)=>CE s (MK c) st K;unfold R8 at a;rw [List.contains_cons];cases hx:s.take 2==x with
  | true=>
   refine aF ?_;simp only [wy,ad,af,ae,ak,if_pos q,a,bK,aL,ai,ao,d,hx,al,aq,abI,if_true]
  | false=>
   rw [aJ (s':=([.int .u8 0,.int .i64 0,.int .i64 ((j+1:Nat):Int)],st)),E9 s st l (j+1) e (by simp at b;omega),aaV];simp only [wy,ad,af,ae,ak,if_pos q,a,bK,aL,ai,ao,d,hx,al,aj,az,br (show j+1<=9223372036854775807 by simp at b;omega)]
theorem GQ (c:UInt8) (st:St): ∀(l:LB) (j:Nat),CK.drop j=l->l.length+j=16->
  aH (wu c) ([.int .u8 0,.int .i64 0,.int .i64 (j:Int)],st)=some (if l.contains c then (1,[.int .u8 8,.int .i64 1],st) else (0,[.int .u8 0,.int .i64 0],st))
 | [],j,hd,a=>by
  have q:¬ (j:Int) < 16:=by simp at a;omega
  refine aF ?_;simp only [wu,ad,af,ae,ak,if_neg q];rfl
 | x::l,j,hd,a=>by
  obtain ⟨e,f,b⟩:=drop_cons hd;have q:(j:Int) < 16:=by simp at a;omega
  have hi:=fun {β:Type} (K:UInt8->Oq β)=>bM b K;have g:CK[j]=x:=gU b e;rw [g] at hi;unfold CK at hi;have d:=cK x c;rw [List.contains_cons,BEq.comm];cases hx:x==c with
  | true=>
   rw [hx] at d;refine aF ?_;simp only [wu,ad,af,ae,ak,if_pos q,hi,d,aq,abI,if_true]
  | false=>
   rw [hx] at d;rw [aJ (s':=([.int .u8 0,.int .i64 0,.int .i64 ((j+1:Nat):Int)],st)),GQ c st l (j+1) f (by simp at a;omega),aaV];simp only [wu,ad,af,ae,ak,if_pos q,hi,d,aj,az,br (show j+1<=9223372036854775807 by simp at a;omega)]
theorem Ya {s:LB} (g:s≠[]) (hs:s.length<=1000000):(aY vE).bare 14 [.str s]=some (.tup [.int .u8 ((cut s).1:Int),.int .i64 ((cut s).2:Int)]):=by
 cases s with
 | nil=>exact absurd rfl g
 | cons c l=>
 refine aM rfl ((Uk _).trans ?_);have j: ∀{β:Type} (K:UInt8->Oq β),gv (c::l) 0 K=K c:=fun K=>bM (k:=0) (by simp) K;have m:=fun {β:Type} (st:St) (K:Kv β)=>CE (c::l) (t:=[40,42]) rfl st K;simp only [g14,ao,j,qo,al];unfold cut;dsimp only;cases w:bw c with
 | true=>
  have e:aH (Au (c::l)) ([.int .i64 0],St.mk 0 0 Tr.leaf)=some (0,[.int .i64 ((wh bw (c::l):Nat):Int)],St.mk 0 0 Tr.leaf):=by
   have:=LM hs (St.mk 0 0 Tr.leaf) (n:=0) (l:=c::l) rfl;rw [aau] at this;exact this
  simp only [aq,e,ai,ad,af,ae,if_true];rfl
 | false=>
 simp only [aj,m,al,aaB,if_false];by_cases d:(c::l).take 2=[40,42]
 .have a:((c::l).take 2==[40,42])=true:=aaM.2 d;have hl:2<=(c::l).length:=by
   have:=aaY List.length d;rw [aat] at this;simp at this;simp;omega
  have e:=fun {β:Type} (st:St) (K:Kv β)=>aG st K rfl rfl rfl (Iq hs hl);simp only [a,aq,e,if_pos d];cases rem (List.drop 2 (c::l)) 1 with
  | some n=>simp only [bp,aT,aZ,af,al,aq];rfl
  | none=>simp only [bp,aT,aZ,af,al,aj];rfl
 have a:((c::l).take 2==[40,42])=false:=aai.2 d;simp only [a,aj,if_neg d,C7,al];cases o:iP c with
 | true=>
  have e:aH (yU (c::l)) ([.int .i64 0],St.mk 0 0 Tr.leaf)=some (0,[.int .i64 ((wh eA (c::l):Nat):Int)],St.mk 0 0 Tr.leaf):=by
   have:=Ky hs (St.mk 0 0 Tr.leaf) (n:=0) (l:=c::l) rfl;rw [aau] at this;exact this
  have q:=pT eA (c::l);simp only [aq,e,ai,ad,af,ae,ca (jD eA (c::l)),aar,az,q,IM,al,if_true];unfold oc;by_cases h1:(c::l).takeWhile eA=[95]
  .have r:wh eA (c::l)=1:=by
    show ((c::l).takeWhile eA).length=1;rw [h1];rfl
   rw [h1,r];rfl
  .rw [aai.2 h1,if_neg h1];cases words.contains ((c::l).takeWhile eA) <;> rfl
 | false=>
 simp only [aj,aaB,if_false,gq,al];cases h:aC c with
 | true=>
  have e:=fun {β:Type} (st:St) (K:Kv β)=>aG st K rfl rfl rfl (QY hs (by rw [dr,if_pos h];omega));simp only [aq,e,bp,aT,aZ,af,if_true]
 | false=>
 have i:((c.toNat:Int)==34)=(c==34):=cK c 34;simp only [aj,aaB,if_false,i];by_cases f:c=34
 .have b:(c==34)=true:=aaM.2 f;have e:=fun {β:Type} (st:St) (K:Kv β)=>aG st K rfl rfl rfl (M9 (c:=c) hs);simp only [b,aq,e,bp,aT,aZ,af,if_pos f]
 have b:(c==34)=false:=aai.2 f;have u:aH (wy (c::l)) ([.int .u8 0,.int .i64 0,.int .i64 0],St.mk 0 0 Tr.leaf)= _:=E9 (c::l) (St.mk 0 0 Tr.leaf) gG 0 rfl rfl;simp only [b,aj,if_neg f];rw [u];cases x:gG.contains ((c::l).take 2) with
 | true=>rfl
 | false=>
 have v:aH (wu c) ([.int .u8 0,.int .i64 0,.int .i64 0],St.mk 0 0 Tr.leaf)=some (if jy c then (1,[.int .u8 8,.int .i64 1],St.mk 0 0 Tr.leaf) else (0,[.int .u8 0,.int .i64 0],St.mk 0 0 Tr.leaf)):=GQ c (St.mk 0 0 Tr.leaf) CK 0 rfl rfl;simp only [aaB,if_false,ai,ad,af,ae,eX];rw [v];cases ho:jy c with
 | true=>rfl
 | false=>
 obtain ⟨p,e,_⟩:=G7 (s:=c::l) (by simp);have e:=fun {β:Type} (st:St) (K:Kv β)=>aG st K rfl rfl rfl e;simp only [aaB,if_false,ai,ad,af,ae,eX,e,bp,aT,aZ];rfl
theorem AK: ∀(n:Nat) (s:LB) (st:St) (v:AV) (es:LA),s.length<=n->n<=500000->jg st 2 24 v es->es.length+n<=500000->
  ∃v' st',aH JV ([v,.str s],st)=some (0,[v'],st')/\jg st' 2 24 v' (es++(tokens s).map tok)
 | n,[],st,v,es,_,_,ho,_=>by
  refine ⟨v,st,aF ?_,by simpa [zr] using ho⟩;simp only [JV,ad,ao,ae,show (!(([]:LB)==[]))=false from rfl,aj]
 | 0,c::l,_,_,_,h,_,_,_=>by simp at h
 | n+1,c::l,st,v,es,h,hn,ho,m=>by
  have f:=jF (s:=c::l) (by simp);have a:=fun {β:Type} (st:St) (K:Kv β)=>aG st K rfl rfl rfl (Ya (s:=c::l) (by simp) (by omega));obtain ⟨v1,st1,g,k1,i,d⟩:=Jc (b:=24) (tok ((cut (c::l)).1,(c::l).take (cut (c::l)).2)) ho (rD (by omega) (by omega) (by omega));have d: ∀{β:Type} (K:Kv β),cq 2 24 24 v [.agg [.int .u8 ((cut (c::l)).1:Int),.str ((c::l).take (cut (c::l)).2)]] st K=K v1 st1 i:=fun K=>d K;have hd:((c::l).drop (cut (c::l)).2).length<=n:=by rw [aas];omega
  obtain ⟨j,st2,k,e⟩:=AK n ((c::l).drop (cut (c::l)).2) st1 v1 _ hd (by omega) g (by rw [aaa];simp;omega);refine ⟨j,st2, ?_, ?_⟩
  .rw [aJ (s':=([v1,.str ((c::l).drop (cut (c::l)).2)],st1)),k];simp only [JV,ad,ao,ae,show (!((c::l:LB)==[]))=true from rfl,aq,a,bp,aT,aZ,af,ca f.2,aar,az,d,aaH]
  .rw [qT (by simp),aal];rw [aao] at e;exact e
theorem xC {β:Type} (s:LB) (st:St) (K:Kv β):aV (aY vE) 13 [.str s] st K=K (.bool (bH s)) st q0:=aG st K rfl rfl rfl (Mg s)
theorem BM {s:LB} (h:65536 < s.length):(aY vE).bare 9 [.str s]=some (.tup [.aD,.int .i64 40]):=by
 refine aM rfl ((MQ _).trans ?_);have q:(s.length:Int) > 65536:=by omega
 simp only [g9,ao,ak,if_pos q]
theorem D2 {s:LB} (h:s.length<=65536) (a:bH s=false):(aY vE).bare 9 [.str s]=some (.tup [.aD,.int .i64 4]):=by
 refine aM rfl ((MQ _).trans ?_);have q:¬ (s.length:Int) > 65536:=by omega
 simp only [g9,ao,ak,if_neg q,xC,a,al,aaR,aq]
theorem IP {s:LB} (h:s.length<=65536) (a:bH s=true): ∃x,(aY vE).bare 9 [.str s]=some (.tup [x,.int .i64 0])/\bF 2 x ((tokens s).map tok):=by
 have q:¬ (s.length:Int) > 65536:=by omega
 obtain ⟨v',st',e,o⟩:=AK s.length s (St.mk 0 0 Tr.leaf) .aD [] (aah _) (by omega) (jg.aD (aah _) _ _) (by simp;omega);rw [aaj] at o;obtain ⟨x,hx,hf⟩:=Hd o (ku .i64 0) rfl;refine ⟨x,aM rfl ((MQ _).trans ?_),hx⟩;simp only [g9,ao,ak,if_neg q,xC,a,al,aaS,aj,e,ai,ad,ae,hf]
end Go.Proofs.YtkpeicabocpbkaaGreatDoor.Vm
namespace Go.Proofs.YtkpeicabocpbkaaGreatDoor.Vm
open Go Go.VM Go.Proofs Go.Lex Go.Parse
section
variable {β:Type} {Q:β->Prop}
theorem zP {l:List T} {x:AV} {es:LA} (hx:bF 4 x es) (hs:bA l es) (h: ∀t∈l,∀v,iF t v->(aY vE).bare 6 [v]=some (.bool (Parse.bZ t))) (st:St): ∀(m:List T) (j:Nat),l.drop j=m->
  aH (zv x) ([.bool false,.int .i64 (j:Int)],st)=some (if m.all Parse.bZ then 0 else 1,[.bool false],st)
 | [],j,hd=>by
  have:=aaQ.1 hd;have q:¬ (j:Int) < (l.length:Int):=by omega
  refine aF ?_;simp only [zv,ad,af,al,ae,iu hx hs,ak,if_neg q];rfl
 | t::m,j,hd=>by
  obtain ⟨d,k,n⟩:=drop_cons hd;have q:(j:Int) < (l.length:Int):=by omega
  have hlen:=Ji hx hs;obtain ⟨a,b,s,y,i,e⟩:=yO hx hs d;have c:=fun {γ:Type} (st:St) (K:Kv γ)=>sE i rfl (h t (aaJ d) _ i) st K;have f:zv x ([.bool false,.int .i64 (j:Int)],st)=aX (!Parse.bZ t) (some (.inr (1,[.bool false],st))) (some (.inl ([.bool false,.int .i64 ((j+1:Nat):Int)],st))):=by
   simp only [zv,ad,af,al,ae,iu hx hs,ak,if_pos q];refine (e st _).trans ?_;simp only [c,al,az,br (show j+1<=9223372036854775807 by omega)]
  cases g:Parse.bZ t with
  | false=>
   rw [g] at f;rw [aF f];simp [g]
  | true=>
   rw [g] at f;rw [aJ f,zP hx hs h st m (j+1) k];simp [g]
theorem Om: ∀(t:T) (v:AV),iF t v->(aY vE).bare 6 [v]=some (.bool (Parse.bZ t)):=by
 refine T.ind fun k tk tx l ih v g=> ?_;simp only [iF] at g;obtain ⟨x,es,rfl,hx,hs⟩:=g;refine aM rfl ((WC _).trans ?_);have i:((k:Int)==2)=(k==2):=cU k 2;have j:((k:Int)==3)=(k==3):=cU k 3;have m:((k:Int)==1)=(k==1):=cU k 1;have n:((tk:Int)==9)=(tk==9):=cU tk 9;have b:=zP hx hs ih S0 l 0 rfl;have b:aH (zv x) ([.bool false,.int .i64 0],S0)= _:=b;have key:(if l.all Parse.bZ=true then (0:Nat) else 1)=0/\l.all Parse.bZ=true\/(if l.all Parse.bZ=true then (0:Nat) else 1)=1/\l.all Parse.bZ=false:=by
  cases h:l.all Parse.bZ <;> simp
 simp only [g6,aw,ad,af,ao,ae,hx.ab,hx.aB,m,i,j,n,Parse.bZ,zb,bne];have fin:ax (aH (zv x) ([.bool false,.int .i64 0],S0)) (fun a:Nat×bU=>bg (Prod.fst (Prod.snd a)) fun c d=>bG c fun e=>bB d (mR (Prod.fst a) (some (AV.bool true)) fun _x=>some (AV.bool e)))=some (.bool (l.all Parse.bZ)):=by
  rw [b];rcases key with ⟨h1,f⟩ | ⟨h1,f⟩ <;> rw [h1,f] <;> rfl
 cases f:k==2 <;> simp only [aq,aj,ai,ad,al,ae,aaS,aaR,abw,abB]
 cases o:k==3 <;> simp only [aq,aj,ai,ad,al,ae,aaS,aaR,abw,abB]
 cases h1:k==1 <;> simp only [aq,aj,ai,ad,al,ae,aaS,aaR,aaV,abI,abB]
 .exact fin
 cases p:tk==9 <;> simp only [aq,aj,ai,ad,al,ae,aaS,aaR,abw,abB]
 exact fin
end
theorem Xf {t:T} {k tk:Nat} {tx:LB} {y:AV} (h:Nd t k tk tx y): ∃v,iF t v/\ ∀{β:Type} (st:St) (K:AV->Oq β),eQ st 0 (.agg [.int .u8 (k:Int),.int .u8 (tk:Int),.str tx,y]) K=K v:=by
 obtain ⟨y',a,hf⟩:=Cl h;refine ⟨_,a,fun st K=> ?_⟩;have b:VM.freeze st 0 100 (.agg [.int .u8 (k:Int),.int .u8 (tk:Int),.str tx,y])= _:=hf st 98;simp only [eQ,b,(pf a).1,aQ]
abbrev S2 (x:AV):St:=St.mk 2 0 (Tr.node (some (VM.Obj.cells ND z4)) (Tr.node (some (VM.Obj.cells PR [x,.int .i64 0,.int .i64 0])) Tr.leaf Tr.leaf) Tr.leaf)
abbrev S3 (x:AV):St:=St.mk 3 0 (Tr.node (some (VM.Obj.cells ND z4)) (Tr.node (some (VM.Obj.cells PR [x,.int .i64 0,.int .i64 0])) Tr.leaf Tr.leaf) (Tr.node (some (VM.Obj.cells ND [.int .u8 4,.int .u8 0,.str [],.aD])) Tr.leaf Tr.leaf))
theorem OU {L:List aW} {x:AV} (hx:bF 2 x (L.map tok)) (hL:L.length<=70000) (d:Sg L): ∃v,(aY vE).bare 10 [x]=some v/\iF (doc L) v:=by
 obtain ⟨D,l,a⟩:=lZ L;have key:aa (bz vE 10 [x]) (iF (doc L)):=by
  refine aa.step (Sr _) ?_;unfold g10;refine aa.one hx.one (aa.one hx.one ?_);have f:Hi PR (S2 x) 1 L x 0 0:=⟨rfl,hx,aba _,by omega,aba _⟩;have w:=Wd.start f;rw [aar] at w;have w:=w.alloc ND [.int .u8 4,.int .u8 0,.str [],.aD];have m:(S2 x).add (.cells ND [.int .u8 4,.int .u8 0,.str [],.aD])=S3 x:=by kernel_rfl
  rw [m] at w;have w:Wd PR (S2 x) (S3 x) 1 L x 0 L [(2,ND,[.int .u8 4,.int .u8 0,.str [],.aD])] []:=w;refine aa.bind (Il d (fuel L) L D [] [] .aD _ (Dl hL) l (by omega) w.aD bA.nil (by rw [aU];omega) (by have:=Dl hL;simp;omega)) ?_;rintro q ⟨s,t,u,v,es,rfl,rfl,w,b,hl,hd⟩;refine aa.step (ae _) ?_;rw [aaj] at b hl hd;refine aa.grow [] w (jP w.pz) rfl rfl b (by omega) (by omega) fun v' e g c n w=> ?_;refine aa.fG aad w (aa.one w.Nt.one ?_);have i:g.ro=0:=w.k.ro;have o:g.get 0= .ok (.cells ND z4):=w.k.old 0 _ (by decide) rfl;have j:Vw g [(0,ND,z4)]:=⟨fun q p=>by
   rw [aaG.1 p];exact ⟨o,by rw [i];exact aah _⟩,by simp,w.ro⟩
  refine aa.mW [] j fun y _ _ j=>aa.ju aad j rfl ?_;simp only [aw,ad,af,ao,ae];have hnd:Nd (doc L) 4 0 [] v':=⟨⟨_,_,a,w.Nt,c⟩⟩;obtain ⟨z,r,hf⟩:=Xf hnd;exact aa.step (hf _ _) (aa.some r)
 obtain ⟨v,e,h⟩:=key;exact ⟨v,aM rfl e,h⟩
theorem SP (s:LB):Sg (tokens s):=fun t a=>(Ast.H4 _ s t a).2.2
theorem LV (s:LB): ∃v,iF (fc s) v/\(aY vE).bare 5 [.str s]=some (.tup [v,.int .i64 (vj s)]):=by
 have key:aa (bz vE 5 [.str s]) (fun b=> ∃v,b= .tup [v,.int .i64 (vj s)]/\iF (fc s) v):=by
  refine aa.step (Xd _) ?_;unfold g5;refine aa.step (ao _ _) ?_;have f:Vw (St.mk 1 0 (Tr.node (some (VM.Obj.cells ND z4)) Tr.leaf Tr.leaf)) [(0,ND,z4)]:=⟨fun q g=>by
   rw [aaG.1 g];exact ⟨rfl,aba _⟩,by simp,aba _⟩
  rcases Cw s with ⟨h0,h1,i⟩ | ⟨h0,h1⟩ | ⟨h0,h1,i⟩
  .obtain ⟨x,e,hx⟩:=IP (tU h0).1 i;have l:=rq s;have m:=(tU h0).1;obtain ⟨v,ev,n⟩:=OU hx (by omega) (SP s);have a:fc s=doc (tokens s):=by unfold fc;rw [if_pos h0]
   rw [a,h0];refine aa.step (aG _ _ rfl rfl rfl e) ?_;simp only [bp,aT,aZ,af];refine aa.step (aj _ _) (aa.step (aG _ _ rfl (by simp only [aal,aaN,hx.strip]) (by simp only [bf,hx.bare];rfl) ev) ?_);obtain ⟨k,tk,tx,o,y,es,g,rfl,hy,hs⟩:=gm n;simp only [aw,ad,af,ao,ae];refine aa.step (hy.ab _) (aa.mW [] f fun j _ _ d=>aa.ju aad d rfl ?_);simp only [aw,ad,af,ao,ae];have hnd:Nd (doc (tokens s)) k tk tx y:=⟨⟨_,_,g,.inl hy,hs⟩⟩;obtain ⟨z,c,hf⟩:=qu hnd 0;exact aa.step (hf _ _) (aa.some ⟨z,rfl,c⟩)
  .have a:fc s= .mk 0 0 [] []:=by unfold fc;rw [if_neg (by rw [h0];decide)]
   rw [a,h0];refine aa.step (aG _ _ rfl rfl rfl (BM h1)) ?_;simp only [bp,aT,aZ,af];refine aa.step (aq _ _) (aa.mW [] f fun j _ _ d=>aa.ju aad d rfl ?_);simp only [aw,ad,af,ao,ae];obtain ⟨z,c,hf⟩:=qu Ez 40;exact aa.step (hf _ _) (aa.some ⟨z,rfl,c⟩)
  .have a:fc s= .mk 0 0 [] []:=by unfold fc;rw [if_neg (by rw [h0];decide)]
   rw [a,h0];refine aa.step (aG _ _ rfl rfl rfl (D2 (by omega) i)) ?_;simp only [bp,aT,aZ,af];refine aa.step (aq _ _) (aa.mW [] f fun j _ _ d=>aa.ju aad d rfl ?_);simp only [aw,ad,af,ao,ae];obtain ⟨z,c,hf⟩:=qu Ez 4;exact aa.step (hf _ _) (aa.some ⟨z,rfl,c⟩)
 obtain ⟨b,e,v,rfl,h⟩:=key;exact ⟨v,h,aM rfl e⟩
theorem E2 (s:LB): ∃v,iF (fc s) v/\ ∀{γ:Type} (st:St) (K:Kv γ),aV (aY vE) 5 [.str s] st K=K (.tup [v,.int .i64 (vj s)]) st q0:=by
 obtain ⟨v,h,e⟩:=LV s;exact ⟨v,h,fun st K=>aG st K rfl rfl rfl e⟩
section
variable {β:Type} {Q:β->Prop} {st:St} {l:FW}
theorem GY {F:FuncId} {t:T} {v u r:AV} (b:iF t v) (c:VM.bare u=true) (a:VM.strip u=u) (hf:vE.full F=false) (h:(aY vE).bare F [v,u]=some r) {β:Type} (st:St) (K:Kv β):aV (aY vE) F [v,u] st K=K r st q0:=
 aG st K hf (by simp only [aal,aaN,(pf b).2,a]) (by simp only [bf,(pf b).1,c];rfl) h
theorem qG {B:LB} {l:List T} {x:AV} {es:LA} (hx:bF 4 x es) (hs:bA l es) (F: ∀t∈l,∀v,iF t v->(Db B t).length<=1000000000000->(aY vE).bare 8 [v,.str B]=some (.str (Db B t))): ∀(m:List T) (j:Nat) (out:LB) (st:St),st.ro<=st.h->l.drop j=m->out.length+(HE B m).length<=1000000000000->
  aa (aH (B8 B x) ([.str out,.int .i64 (j:Int)],st)) (fun q=> ∃s',q=(0,[.str (out++HE B m)],s'))
 | [],j,out,st,n,hd,hl=>by
  have:=aaQ.1 hd;have q:¬ (j:Int) < (l.length:Int):=by omega
  refine ⟨(0,[.str (out++HE B [])],st),aF ?_,st,rfl⟩;simp only [HE,aaw,B8,ad,af,ao,ae,iu hx hs,ak,if_neg q]
 | t::m,j,out,st,n,hd,hl=>by
  obtain ⟨o,I,J⟩:=drop_cons hd;have q:(j:Int) < (l.length:Int):=by omega
  have hlen:=Ji hx hs;rw [uV,aaa] at hl;obtain ⟨a,b,s,y,r,e⟩:=yO hx hs o;have p:=aaJ o;obtain ⟨a',b',s',Q,y',K,L,z,hy,M⟩:=gm r;have A:a=a'/\b=b'/\y=y':=by
   injection z with z
   have h1:=List.cons.inj z;have G:=List.cons.inj h1.2;have N:=List.cons.inj G.2;have h4:=List.cons.inj N.2;have C:=h1.1;have D:=G.1;simp only [AV.int.injEq,aca] at C D;exact ⟨by omega,by omega,h4.1⟩
  obtain ⟨rfl,rfl,rfl⟩:=A;have C:((a:Int)==1)=(a==1):=cU a 1;have D:((b:Int)==1)=(b==1):=cU b 1;have E:aa (B8 B x ([.str out,.int .i64 (j:Int)],st)) (fun q=> ∃s',q= .inl ([.str (out++MB B t),.int .i64 ((j+1:Nat):Int)],s')/\s'.ro<=s'.h):=by
   simp only [B8,ad,af,ao,ae,iu hx hs,ak,if_pos q];refine aa.bind (R:=fun c=> ∃s',c= .inl ([.str (out++MB B t)],s')/\s'.ro<=s'.h) ?_ ?_
   .refine aa.step (e st _) ?_;refine aa.AA (Vw.start n) fun S _ w=>aa.step (hy.ab _) ?_;refine aa.mW [] w fun H _ _ w=> ?_;refine aa.bind (R:=fun c=> ∃s',c=([.bool (a==1&&b==1)],s')/\Vw s' [(st.h,ND,[.int .u8 (a:Int),.int .u8 (b:Int),.str s,y])]) ?_ ?_
    .refine aa.pI (aad) w rfl (aa.step (af _ _ _) ?_);rw [C];cases h1:a==1
     .exact aa.some ⟨H,rfl,w⟩
     .refine aa.step (aq _ _) (aa.pI (aad) w rfl (aa.step (af _ _ _) ?_));rw [D];exact aa.some ⟨H,rfl,w⟩
    .rintro c ⟨k,rfl,w⟩;simp only [ad,al,ae];have i:MB B t=if a=1/\b=1 then B else Db B t:=by rw [L];rfl
     by_cases d:a=1/\b=1
     .rw [if_pos d] at i;rw [i] at hl ⊢;have f:(a==1&&b==1)=true:=by simp [d.1,d.2]
      rw [f];refine aa.step (aq _ _) (aa.step (ib (ky (by omega)) _) (aa.step (az _ _) (aa.some ⟨k,rfl,w.ro⟩)))
     .rw [if_neg d] at i;rw [i] at hl ⊢;have f:(a==1&&b==1)=false:=by
       rw [Bool.eq_false_iff];intro h;simp only [aaf,aaM] at h;exact d h
      rw [f];refine aa.step (aj _ _) (aa.ju (aad) w rfl ?_);simp only [aw,ad,af,ao,ae,GY (u:= .str B) r rfl rfl rfl (F t p _ r (by omega)),ky (show out.length+(Db B t).length<=9223372036854775807 by omega),aQ,az];exact aa.some ⟨k,rfl,w.ro⟩
   .rintro c ⟨k,rfl,g⟩;simp only [bu,ad,ao,ae,az,br (show j+1<=9223372036854775807 by omega)];exact aa.some ⟨k,rfl,g⟩
  obtain ⟨U,O,k,rfl,g⟩:=E;rw [aJ O];refine (qG hx hs F m (j+1) _ k g I (by rw [aaa];omega)).mono ?_;rintro V ⟨P,rfl⟩;exact ⟨P,by rw [uV,aao]⟩
theorem En (B:LB): ∀(t:T) (v:AV),iF t v->(Db B t).length<=1000000000000->(aY vE).bare 8 [v,.str B]=some (.str (Db B t)):=by
 refine T.ind fun k tk tx l ih v b hl=> ?_;simp only [iF] at b;obtain ⟨x,es,rfl,hx,hs⟩:=b;simp only [Db,aaa] at hl ⊢;obtain ⟨q,a,s',rfl⟩:=qG hx hs ih l 0 [] S0 (aah _) rfl (by simp only [aae];omega);have a:aH (B8 B x) ([.str [],.int .i64 0],S0)= _:=a;have c:((k:Int)==1)=(k==1):=cU k 1;refine aM rfl ((V2 _ _).trans ?_);simp only [g8,aw,ad,af,ao,ae,hx.ab,hx.aB,a,ai,aaj,c];by_cases h:k=1
 .rw [if_pos h] at hl ⊢;simp only [aaM.2 h,aq,ky (show (HE B l).length+tx.length<=9223372036854775807 by omega),aQ,az,ai,ad,ao,ae]
 .rw [if_neg h];simp only [aai.2 h,aj,ai,ad,ao,ae,aaw]
end
end Go.Proofs.YtkpeicabocpbkaaGreatDoor.Vm
namespace Go.Proofs.YtkpeicabocpbkaaGreatDoor.Vm
open Go Go.VM Go.Proofs Go.Lex Go.Parse Go.Lay
theorem Q7 (s:LB) (w:Int): ∃a e,HB s w= .tup [.str a,.int .i64 e]:=by
 unfold HB;cases Format.xb s w with
 | ok t=>exact ⟨_,_,rfl⟩
 | error e=>exact ⟨_,_,rfl⟩
theorem Mf (n:Nat) {β:Type} (st:St) (K:AV->Ln->Oq β):dB 1 (.sl 1 [.str [32],.str [10],.str [9,32,13,10],.str [32,32,32,32]] .shut) (Int.tmod (n:Int) 4) st K=K (.ip [.str (mU (n % 4))]) []:=by
 rw [show Int.tmod (n:Int) 4=((n % 4:Nat):Int) from rfl];have h:n % 4 < 4:=Nat.mod_lt _ (by omega);generalize n % 4=m at h
 match m,h with
 | 0,_=>rfl
 | 1,_=>rfl
 | 2,_=>rfl
 | 3,_=>rfl
theorem Ga (s:LB) (n:Nat) (z:Int):(aY vE).bare 3 [.str s,.int .u8 (n:Int),.int .i64 z]=some (.bool true):=by
 obtain ⟨v,f,q⟩:=E2 s;refine aM rfl (aa.eq (aa.step (V3 _ _ _) ?_));unfold g3;refine aa.step (ao _ _) (aa.step (af _ _ _) (aa.step (af _ _ _) ?_));refine aa.bind (R:=fun c=> ∃b,c=([.bool b],S0)/\(b=false->s.length<=2000)) ?_ ?_
 .by_cases hl:(s.length:Int) > 2000
  .exact aa.step (cQ (c:=true) (abh hl) _ _) (aa.step (aq _ _) (aa.some ⟨_,rfl,fun h=>by cases h⟩))
  .exact aa.step (cQ (c:=false) (abe hl) _ _) (aa.step (aj _ _) (aa.step (uH _ _) (aa.step (al _ _) (aa.some ⟨_,rfl,fun _=>by omega⟩))))
 rintro c ⟨b,rfl,hlen⟩;simp only [ad,al,ae];cases b with
 | true=>exact aa.step (aq _ _) (aa.step (uH _ _) (aa.step (al _ _) (aa.some rfl)))
 | false=>
  have hlen:=hlen rfl;obtain ⟨wd,_,_,i⟩:=RB z;refine aa.step (aj _ _) (aa.step (q _ _) ?_);obtain ⟨k,tk,tx,G,y,es,H,rfl,hy,hs⟩:=gm f;simp only [bp,aT,aZ,aw,ad,af,ao,ae];refine aa.AA (Vw.start (aba _)) fun I _ r=>aa.step (hy.ab _) ?_;refine aa.mW [] r fun t _ _ j=> ?_;refine aa.bind (R:=fun c=>c=([.bool (decide (vj s≠0)|| !Parse.bZ (fc s))],t)) ?_ ?_
  .by_cases h0:vj s=0
   .rw [h0];refine aa.step (aj _ _) (aa.ju aad j rfl ?_);simp only [aw,ad,af,ao,ae];exact aa.step (sE f rfl (Om _ _ f) _ _) (aa.step (al _ _) (aa.some rfl))
   .refine aa.step (cQ (c:=true) (by simpa using h0) _ _) (aa.step (aq _ _) (aa.some ?_));rw [abh h0];rfl
  rintro c rfl;simp only [ad,al,ae];cases l:decide (vj s≠0)|| !Parse.bZ (fc s) with
  | true=>exact aa.step (aq _ _) (aa.some rfl)
  | false=>
   simp only [aaO,abp,ne_eq,Decidable.not_not,Bool.not_eq_false'] at l;obtain ⟨h0,o⟩:=l;obtain ⟨_,p⟩:=tU h0;have w:fc s=doc (tokens s):=by unfold fc;rw [if_pos h0]
   obtain ⟨x,A,B,J⟩:=Ca (n % 4);rw [w] at o f;obtain ⟨C,D⟩:=LH p x A B o;have E:=Hp s (n % 4);have d:HB (Db (mU (n % 4)) (doc (tokens s))) wd=HB s wd:=by
    unfold HB;rw [Format.Mv C p (by omega) (by omega) D]
   have F:=fun {γ:Type} (st:St) (K:Kv γ)=>GY (u:= .str (mU (n % 4))) f rfl rfl rfl (En _ _ _ f (by omega)) st K;generalize Db (mU (n % 4)) (doc (tokens s))=m at *;obtain ⟨a,e,g⟩:=Q7 s wd;refine aa.step (aj _ _) (aa.step (Mf n _ _) ?_);refine aa.step (bK _ _ _ _ _) (aa.step (ai _ _) (aa.step (ao _ _) ?_));rw [i];refine aa.step (r8 s wd _ _) ?_;rw [g];simp only [bp,aT,aZ,ao,af];refine aa.ju aad j rfl ?_;simp only [aw,ad,af,ao,ae];refine aa.step (F _ _) (aa.step (ao _ _) (aa.step (r8 m wd _ _) ?_));rw [d,g];simp only [bp,aT,aZ,ao,af,abm];refine aa.step (aaY (ax · _) (aq _ _)) ?_;simp only [ai,ad,al,ae];exact aa.some rfl
end Go.Proofs.YtkpeicabocpbkaaGreatDoor.Vm
namespace Go.Proofs.YtkpeicabocpbkaaGreatDoor.Vm
open Go Go.VM Go.Proofs
def DA:List Td:=[9,5,3]
theorem yi: ∀t,EV DA t=true->EE Tryz.prog DA t=true:=by
 intro t a;have:t∈DA:=by
  obtain ⟨u,b,e⟩:=List.any_eq_true.1 a;rw [<- aan e];exact b
 exact abd.1 (show (DA.all fun t=>EE Tryz.prog DA t)=true by kernel_rfl) t this
theorem Vj {n t:Nat} {cs:LA} (a:Tryz.prog.underlying t=some .string) (h:na Tryz.prog n t cs): ∃s,cs=[.str s]/\s.length<=maxLen:=by
 cases n with
 | zero=>cases h
 | succ n=>simp only [na,a] at h;exact h
theorem Wx {n t:Nat} {cs:LA} (a:Tryz.prog.underlying t=some (.int .u8)) (h:na Tryz.prog n t cs): ∃m:Nat,cs=[.int .u8 (m:Int)]:=by
 cases n with
 | zero=>cases h
 | succ n=>
  simp only [na,a] at h;obtain ⟨m,rfl,h1,b⟩:=h;have h1:(0:Int)<=m:=h1;exact ⟨m.toNat,by rw [Int.toNat_of_nonneg h1]⟩
theorem U4 {n t:Nat} {cs:LA} (a:Tryz.prog.underlying t=some (.int .i64)) (h:na Tryz.prog n t cs): ∃m:Int,cs=[.int .i64 m]:=by
 cases n with
 | zero=>cases h
 | succ n=>
  simp only [na,a] at h;obtain ⟨m,rfl,_⟩:=h;exact ⟨m,rfl⟩
end Go.Proofs.YtkpeicabocpbkaaGreatDoor.Vm
