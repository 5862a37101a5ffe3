/-
  A part of the proof.
-/
import Derived.Test.YtkpeicabocpbkaaGreatDoorVmCE
import Derived.Test.YtkpeicabocpbkaaGreatDoorVmBG
set_option maxRecDepth 1000000
set_option linter.all false
set_option maxHeartbeats 0
namespace Go.Proofs.YtkpeicabocpbkaaGreatDoor.Vm
open Go Go.VM Go.Proofs Go.Lex Go.Parse
section
variable {β:Type} {Q:β->Prop} {PT:Td} {st0 st s:St} {p:Nat} {L:List aW} {x:AV} {d d':Nat} {r r':List aW} {l l1 l2:List Vr} {os:List (AV×LA)} {t:T}
theorem Wd.made (w:Wd PT st0 st p L x d r l os) {es:LA} {n:Nat} (hn:n=es.length) (hl:n<=1000000000):Wd PT st0 (st.add (.tok n ND)) p L x d r l ((.sl 4 es (.own st.h),es)::os):=by
 subst hn;have w':=w.quiet (ba.add st (.tok es.length ND) _);refine ⟨w'.pz,w'.k,w'.v,w'.nd,fun q a=> ?_,abx.2 ⟨fun q a j b c=> ?_,w'.od⟩,w.p0,w.ro0⟩
 .rcases aam.1 a with rfl | a
  .refine ⟨⟨acn w.ro,by show es.length<=9223372036854775807;omega,.inr (.inr ⟨st.h,rfl,St.dY,w.ro⟩)⟩,fun j b=> ?_⟩;obtain ⟨_,_,e⟩:=b;cases e;exact w.h
  .exact w'.o q a
 .obtain ⟨_,_,e⟩:=b;cases e;have:=(I7 (w.o q a).1 c).1;omega
def Sv (PT:Td) (st0 s:St) (p:Nat) (L:List aW) (x:AV) (d:Nat) (r:List aW) (v:AV) (ts:List T):Prop:= ∃es,Wd PT st0 s p L x d r [] [(v,es)]/\bA ts es/\eZ ts<=1000000000000000
theorem Sv.app {v:AV} {ts:List T} (h:Sv PT st0 s p L x d r v ts) {F:FuncId} {args:LA} (a:NW PT F args s p L x d t r') (h1:vE.isLook F=false) (b:(bN (args.map strip)&& !vE.full F)=false) (hl:ts.length<=100000000) {K:AV->St->Oq β} (g: ∀v s,Sv PT st0 s p L x d r' v (ts++[t])->aa (K v s) Q):
  aa (aV (aY vE) F args s fun u s _=>xM u fun c e tx y=>ab y (ab y (aB y fun y=>ab y (aB y fun y=>cq 4 56 ND v [.agg [.int .u8 c,.int .u8 e,.str tx,y]] s fun v s _=>K v s)))) Q:=by
 obtain ⟨es,w,hs,hd⟩:=h;refine aa.node w a h1 b fun m f i y s hn j w'=> ?_;refine aa.two hn (aa.fit hn fun y' k h1 hf=>aa.one h1 (aa.step (hf _) (aa.app w' (by simp) (by rw [bA.len hs];simp;omega) fun v' s' n ho l=> ?_)));exact g v' s' ⟨_,l,bA.app hs (mI k),by rw [ck,bq];omega⟩
theorem Sv.pz {v:AV} {ts:List T} (h:Sv PT st0 s p L x d r v ts):Pz PT s p L x d r:=by
 obtain ⟨es,w,hs,hd⟩:=h;exact w.pz
theorem Sv.cJ {v:AV} {ts:List T} (pat:Bool) (h:Sv PP st0 s p L x d r v ts) {K:Bool->St->Fx->Oq β} (g: ∀s',Sv PP st0 s' p L x d r v ts->aa (K (cJ pat r) s' ⟨[],.all s s'⟩) Q):
  aa (aV (aY vE) 118 [.mp p 0,.int .u8 (sP pat:Int),.str (sF pat)] s fun v s a=>bG v fun b=>K b s a) Q:=by
 obtain ⟨es,w,hs,hd⟩:=h;exact aa.cJ pat w fun s' w'=>g s' ⟨es,w',hs,hd⟩
theorem Fo {n:Nat} (ih: ∀m,m < n->IH m) (hd:d<=64): ∀(m:Nat) (ts bs:List T) (r r':List aW) (v:AV) (s:St),m<=n->P m .params d r=some (bs,r')->Sv PP st0 s p L x d r v ts->ts.length+m<=100000000->
  aa (aH (wa (.mp p 0)) ([v],s)) (fun q=> ∃v' s',q=(0,[v'],s')/\Sv PP st0 s' p L x d r' v' (ts++bs)):=by
 intro m
 induction m with
 | zero=>intro ts bs r r' v s _ h;cases h
 | succ m f=>
  intro ts bs r r' v s hm h a hl;simp only [P] at h;split at h
  .rename_i g;obtain ⟨⟨z,i⟩,k,h⟩:=bind_some h;obtain ⟨u,rfl⟩:=cH _ _ _ _ _ _ k rfl;obtain ⟨⟨o,r2⟩,t,h⟩:=bind_some h;cases h;have b:aa (wa (.mp p 0) ([v],s)) (fun q=> ∃v' s',q= .inl ([v'],s')/\Sv PP st0 s' p L x d i v' (ts++[u])):=by
    simp only [wa,ad,ae];refine a.cJ true fun l a=> ?_;rw [g];refine aa.step (aq _ _) ?_;exact a.app ((ih m (by omega)).atom true _ p L x d r u i a.pz hd k) rfl rfl (by omega) fun v' s' a=>aa.some ⟨v',s',rfl,a⟩
   obtain ⟨q,e,v',s',rfl,c⟩:=b;rw [aJ e];refine (f _ o i _ v' s' (by omega) t c (by simp;omega)).mono ?_;rintro q ⟨w,y,rfl,j⟩;exact ⟨w,y,rfl,by simpa using j⟩
  .rename_i g;cases h;have b:aa (wa (.mp p 0) ([v],s)) (fun q=> ∃s',q= .inr (0,[v],s')/\Sv PP st0 s' p L x d r v ts):=by
    simp only [wa,ad,ae];refine a.cJ true fun l a=> ?_;rw [aaC g];exact aa.step (aj _ _) (aa.some ⟨l,rfl,a⟩)
   obtain ⟨q,e,s',rfl,c⟩:=b;exact ⟨_,aF e,v,s',rfl,by simpa using c⟩
theorem EW {n:Nat} (ih: ∀m,m<=n->IH m) (hn:n<=10000000):NK (n+1):=by
 intro st p L x d r ts r' J hd h;simp only [P] at h;refine aa.wide (aa.step (TV _ _) ?_);unfold Y3;refine aa.LD (Wd.begin J) fun s1 w=> ?_;have dk:=bX r;refine aa.bind (R:=fun c=> ∃v s,c=([v],s)/\Sv PP st s p L x d (if cf ey r then aO r else r) v (if cf ey r then [aK r] else [])) ?_ ?_
 .cases G:cf ey r with
  | true=>
   refine aa.step (cQ (c:=true) G _ _) (aa.step (aq _ _) ?_);refine aa.take w fun k tk tx y s hnd j w=> ?_;refine aa.two hnd (aa.fit hnd fun K f h1 hf=>aa.one h1 (aa.step (hf _) ?_));refine aa.some ⟨_,_,rfl,_,w.made rfl (by simp),mI f, ?_⟩;rw [if_pos rfl,bq];exact j
  | false=>
   refine aa.step (cQ (c:=false) G _ _) (aa.step (aj _ _) ?_);exact aa.some ⟨_,_,rfl,[],w.aD,bA.nil,by simp [aU]⟩
 generalize g:(if cf ey r then [aK r] else [])=rc at h;have M:rc.length<=1:=by rw [<- g];split <;> simp
 generalize (if cf ey r then aO r else r)=r0 at h;rintro c ⟨v,s,rfl,a⟩;simp only [ad,ae];obtain ⟨es,w,hs,A⟩:=a;refine aa.next w fun s2 N w=> ?_;refine aa.gQ (aad) w rfl (aa.step (af _ _ _) ?_);have w:=w.sub (abz _);have B: ∃xs b es r2,P n .expr d (bo wB b)=some ([es],r2)/\ts=rc++xs++[cP wB b]++[es]/\r'=r2/\xs.length<=n+1/\
   (if (nx r0).1=4 then ∃ps,P n .params d (aO r0)=some (ps,b)/\xs=aK r0::ps else P n (.atom true) d r0=some (xs,b)):=by
  split at h
  .rename_i h4;obtain ⟨⟨xs,b⟩,i,h⟩:=bind_some h;obtain ⟨⟨ps,O⟩,z,i⟩:=bind_some i;cases i;obtain ⟨⟨es,r2⟩,e,h⟩:=bind_some h;obtain ⟨u,rfl⟩:=cH _ _ _ _ _ _ e rfl;cases h;have:=mH _ _ _ _ _ z;exact ⟨aK r0::ps,O,u,_,e,rfl,rfl,by simpa using this,by rw [if_pos h4];exact ⟨ps,z,rfl⟩⟩
  .rename_i h4;obtain ⟨⟨xs,b⟩,i,h⟩:=bind_some h;obtain ⟨⟨es,r2⟩,e,h⟩:=bind_some h;obtain ⟨u,rfl⟩:=cH _ _ _ _ _ _ e rfl;cases h;have:=nu i rfl;exact ⟨xs,b,u,_,e,rfl,rfl,by omega,by rw [if_neg h4];exact i⟩
 clear h;obtain ⟨xs,b,u,r2,e,rfl,rfl,Q,hx⟩:=B;have a:Sv PP st N p L x d r0 v rc:=⟨es,w,g ▸ hs,g ▸ A⟩;refine aa.bind (R:=fun c=> ∃v s,c=([v],s)/\Sv PP st s p L x d b v (rc++xs)) ?_ ?_
 .by_cases h4:(nx r0).1=4
  .rw [if_pos h4] at hx;obtain ⟨ps,z,rfl⟩:=hx;refine aa.step (cQ (c:=true) (by rw [h4];rfl) _ _) (aa.step (aq _ _) ?_);refine a.app (jc a.pz) rfl rfl (by omega) fun v' s' a=> ?_;refine aa.bind (Fo (fun m hm=>ih m (by omega)) hd n _ ps _ b v' s' (aah _) z a (by simp;omega)) ?_;rintro q ⟨S,H,rfl,a⟩;simp only [ad,ae];exact aa.some ⟨S,H,rfl,by simpa using a⟩
  .rw [if_neg h4] at hx;obtain ⟨T,rfl⟩:=cH _ _ _ _ _ _ hx rfl;refine aa.step (cQ (c:=false) (aai.2 (by omega)) _ _) (aa.step (aj _ _) ?_);exact a.app ((ih n (aah _)).atom true _ p L x d r0 T b a.pz hd hx) rfl rfl (by omega) fun v' s' a=>aa.some ⟨v',s',rfl,a⟩
 .rintro c ⟨v',H,rfl,U,w,l,C⟩;simp only [ad,ae];have V:=en hn e rfl;refine aa.zq w fun k tk tx y s5 hnd j w=> ?_;refine aa.node w ((ih n (aah _)).expr _ p L x d _ u r' w.pz hd e) rfl rfl fun k2 W X y2 s6 t Y w=> ?_;refine aa.two hnd (aa.two t (aa.fit hnd fun K f h1 D=>aa.fit t fun z2 E Z F=>aa.one h1 (aa.step (D _) (aa.one Z (aa.step (F _) ?_)))));refine aa.app w (by simp) (by rw [bA.len l];simp;omega) fun v5 s7 fx ho w=> ?_;have I:=w.o _ aad;refine aa.some ⟨_,I.1,I.2, ?_, ?_,w.pz,w.k⟩
  .rw [aao (rc++xs)];exact bA.app l (CZ f E)
  .have:=fP wB b;simp only [ck,bq] at C ⊢;omega
end
section
variable {β:Type} {Q:β->Prop} {PT:Td} {st0 st s:St} {p:Nat} {L:List aW} {x:AV} {d d':Nat} {r r':List aW} {l l1 l2:List Vr} {os:List (AV×LA)} {t:T}
theorem PK {t:T} {e:AV} (h:iF t e) {β:Type} (K:AV->Oq β):Ly true e K=K e:=by
 cases t with
 | mk k tk tx l=>
  simp only [iF] at h;obtain ⟨x,es,rfl,hx,_⟩:=h;simp only [Ly,aw,A6,Mi,K8,hx.ab,Nh,F8,NN,hx.aB]
theorem Ll {t:T} {e:AV} (h:iF t e):e.cells.length=4:=by
 cases t with
 | mk k tk tx l=>
  simp only [iF] at h;obtain ⟨x,es,rfl,hx,_⟩:=h;rfl
theorem bA.mem: ∀{l:List T} {es:LA},bA l es-> ∀e∈es,∃t∈l,iF t e
 | [],_,h,e,b=>by simp only [bA] at h;subst h;cases b
 | t::l,_,h,e,b=>by
  simp only [bA] at h;obtain ⟨a,r,rfl,h1,c⟩:=h;rcases aam.1 b with rfl | b
  .exact ⟨t,aad,h1⟩
  .obtain ⟨u,d,hi⟩:=bA.mem c e b;exact ⟨u,aak _ d,hi⟩
theorem JN {l:List T} {es:LA} (h:bA l es) {β:Type} (K:LA->Oq β):mJ true es K=K es:=Ge (fun v a K=>by
 obtain ⟨t,_,hi⟩:=h.mem v a;exact PK hi K) K
theorem FG {l:List T} {es:LA} (h:bA l es):mg 4 es=true:=I4 fun v a=>by
 obtain ⟨t,_,hi⟩:=h.mem v a;exact Ll hi
theorem OI (u:AV) (a o:Nat) (F:FuncId):(bN ([u,AV.mp a o].map strip)&& !vE.full F)=false:=by
 show (bN [strip u,.mp a o]&& _)=false;simp only [bf];show (_&&(false&&true)&& _)=false;simp
theorem Sz (l1:List Vr) {a:Nat} {k tk:Int} {tx:LB} {v:AV} {es:LA} {ts us:List T} {u:AV} {fs:LA}
  (w:Wd PT st0 st p L x d r (l1++(a,ND,[.int .u8 k,.int .u8 tk,.str tx,v])::l2) ((v,es)::os)) (e:bA ts es) (i: ∀{γ:Type} (K:LA->Oq γ),nJ u K=K fs) (c:bA us fs) (f:us≠[]) (hl:ts.length+us.length<=100000000):
  aa ((aY vE).wide 171 [u,.mp a 0] st) (fun b=>b.1= .tup []/\ ∃v',Wd PT st0 b.2 p L x d r (l1++(a,ND,[.int .u8 k,.int .u8 tk,.str tx,v'])::l2) ((v',es++fs)::os)):=by
 have hm:(a,ND,[AV.int .u8 k,.int .u8 tk,.str tx,v])∈l1++(a,ND,[AV.int .u8 k,.int .u8 tk,.str tx,v])::l2:=List.mem_append_right _ aad;have g:=bA.len c;have j:=bA.len e;have h:fs≠[]:=by
  rintro rfl;cases us with
  | nil=>exact f rfl
  | cons _ _=>cases g
 refine aa.wide (aa.step (Rz _ _ _) ?_);unfold Xx;refine aa.step (bE _ _ _ _) ?_;refine aa.gQ hm w rfl ?_;refine aa.step (i _) (aa.step (JN c _) (aa.step (ib (FG c) _) ?_));refine aa.app w h (by omega) fun v' s n ho w=> ?_;refine aa.step (bE _ _ _ _) (aa.one ho (aa.one ho ?_));exact aa.kM l1 w (aaq rfl) fun o l m=>aa.some ⟨rfl,v',m⟩
theorem Gv.add {a b k:Nat} {ts us:List T} {u:AV} {fs:LA} (h:Gv PT st0 s p L x d r a b k ts) (f: ∀{γ:Type} (K:LA->Oq γ),nJ u K=K fs) (c:bA us fs) (e:us≠[]) (hd:eZ us<=1000000000000000) (hl:ts.length+us.length<=100000000) {K:Kv β} (g: ∀s i,Gv PT st0 s p L x d r a b k (ts++us)->aa (K (.tup []) s i) Q):
  aa (aV (aY vE) 171 [u,.mp a 0] s K) Q:=by
 obtain ⟨v,es,w,hs,j⟩:=h;refine aa.iR (Sz [] w hs f c e hl) rfl (OI u a 0 _) fun m l h=> ?_;obtain ⟨rfl,v',w'⟩:=h;exact g l _ ⟨v',_,w',bA.app hs c,by rw [ck];omega⟩
theorem Gv.addN {a b k:Nat} {ts:List T} (h:Gv PT st0 s p L x d r a b k ts) {F:FuncId} {args:LA} (f:NW PT F args s p L x d t r') (h1:vE.isLook F=false) (i:(bN (args.map strip)&& !vE.full F)=false) (hl:ts.length+1<=100000000) {K:St->Oq β} (g: ∀s,Gv PT st0 s p L x d r' a b k (ts++[t])->aa (K s) Q):
  aa (aV (aY vE) F args s fun u s _=>xM u fun j l tx y=>ab y (ab y (aB y fun y=>aV (aY vE) 171 [.sl 4 [.agg [.int .u8 j,.int .u8 l,.str tx,y]] .shut,.mp a 0] s fun _ s _=>K s))) Q:=by
 obtain ⟨v,es,w,hs,hd⟩:=h;refine aa.node w f h1 i fun q m n y s hn c w'=> ?_;refine aa.two hn (aa.fit hn fun y' o h1 hf=> ?_);have e:Gv PT st0 s p L x d r' a b k ts:=⟨v,es,w',hs,hd⟩;exact e.add (fun K=>rfl) (mI o) (by simp) (by rw [bq];exact c) hl fun s z e=>g s e
theorem Gv.cJ {a b k:Nat} {ts:List T} (pat:Bool) (h:Gv PP st0 s p L x d r a b k ts) {K:Bool->St->Fx->Oq β} (g: ∀s',Gv PP st0 s' p L x d r a b k ts->aa (K (cJ pat r) s' ⟨[],.all s s'⟩) Q):
  aa (aV (aY vE) 118 [.mp p 0,.int .u8 (sP pat:Int),.str (sF pat)] s fun v s c=>bG v fun b=>K b s c) Q:=by
 obtain ⟨v,es,w,hs,hd⟩:=h;exact aa.cJ pat w fun s' w'=>g s' ⟨v,es,w',hs,hd⟩
theorem Er {n:Nat} (ih: ∀m,m < n->IH m) {a b k:Nat} {c:St} (v:c.h=a) (hd:d<=64): ∀(m:Nat) (ts bs:List T) (r r':List aW) (s:St),m<=n->P m .params d r=some (bs,r')->Gv PP st0 s p L x d r a b k ts->ts.length+m<=100000000->
  aa (aH (rL (.mp p 0) c) ([],s)) (fun q=> ∃s',q=(0,[],s')/\Gv PP st0 s' p L x d r' a b k (ts++bs)):=by
 intro m
 induction m with
 | zero=>intro ts bs r r' s _ h;cases h
 | succ m j=>
  intro ts bs r r' s hm h f hl;simp only [P] at h;split at h
  .rename_i l;obtain ⟨⟨C,o⟩,w,h⟩:=bind_some h;obtain ⟨u,rfl⟩:=cH _ _ _ _ _ _ w rfl;obtain ⟨⟨z,r2⟩,A,h⟩:=bind_some h;cases h;have g:aa (rL (.mp p 0) c ([],s)) (fun q=> ∃s',q= .inl ([],s')/\Gv PP st0 s' p L x d o a b k (ts++[u])):=by
    simp only [rL,ae,v];refine f.cJ true fun y f=> ?_;rw [l];refine aa.step (aq _ _) ?_;exact f.addN ((ih m (by omega)).atom true _ p L x d r u o f.pz hd w) rfl rfl (by omega) fun s' f=>aa.some ⟨s',rfl,f⟩
   obtain ⟨q,e,s',rfl,i⟩:=g;rw [aJ e];refine (j _ z o _ s' (by omega) A i (by simp;omega)).mono ?_;rintro q ⟨B,rfl,t⟩;exact ⟨B,rfl,by simpa using t⟩
  .rename_i l;cases h;have g:aa (rL (.mp p 0) c ([],s)) (fun q=> ∃s',q= .inr (0,[],s')/\Gv PP st0 s' p L x d r a b k ts):=by
    simp only [rL,ae,v];refine f.cJ true fun y f=> ?_;rw [aaC l];exact aa.step (aj _ _) (aa.some ⟨y,rfl,f⟩)
   obtain ⟨q,e,s',rfl,i⟩:=g;exact ⟨_,aF e,s',rfl,by simpa using i⟩
theorem KL {n:Nat} (ih: ∀m,m < n->IH m) {a b k:Nat} {g:St} (w:g.h=a) (hd:d<=64): ∀(m:Nat) (ts bs:List T) (r r':List aW) (s:St),m<=n->P m .arms d r=some (bs,r')->Gv PP st0 s p L x d r a b k ts->ts.length+2 * m<=100000000->
  aa (aH (sa (.mp p 0) g) ([],s)) (fun q=> ∃s',q=(0,[],s')/\Gv PP st0 s' p L x d r' a b k (ts++bs)):=by
 intro m
 induction m with
 | zero=>intro ts bs r r' s _ h;cases h
 | succ m l=>
  intro ts bs r r' s hm h f hl;simp only [P] at h;split at h
  .rename_i o;obtain ⟨⟨D,t⟩,y,h⟩:=bind_some h;obtain ⟨u,rfl⟩:=cH _ _ _ _ _ _ y rfl;obtain ⟨⟨A,r2⟩,B,h⟩:=bind_some h;cases h;have i:aa (sa (.mp p 0) g ([],s)) (fun q=> ∃s',q= .inl ([],s')/\Gv PP st0 s' p L x d t a b k (ts++[aK r]++[u])):=by
    simp only [sa,ae,w];refine f.is fun z f=> ?_;refine aa.step (cQ (c:=true) o _ _) (aa.step (aq _ _) ?_);refine f.addN (jc f.pz) rfl rfl (by omega) fun s' f=> ?_;exact f.addN ((ih m (by omega)).arm _ p L x d _ u t f.pz hd y) rfl rfl (by simp;omega) fun s' f=>aa.some ⟨s',rfl,f⟩
   obtain ⟨q,e,s',rfl,j⟩:=i;rw [aJ e];refine (l _ A t _ s' (by omega) B j (by simp;omega)).mono ?_;rintro q ⟨C,rfl,v⟩;exact ⟨C,rfl,by simpa using v⟩
  .rename_i o;cases h;have i:aa (sa (.mp p 0) g ([],s)) (fun q=> ∃s',q= .inr (0,[],s')/\Gv PP st0 s' p L x d r a b k ts):=by
    simp only [sa,ae,w];refine f.is fun z f=> ?_;exact aa.step (cQ (c:=false) (aaC o) _ _) (aa.step (aj _ _) (aa.some ⟨z,rfl,f⟩))
   obtain ⟨q,e,s',rfl,j⟩:=i;exact ⟨_,aF e,s',rfl,by simpa using j⟩
def Y6 (n:Nat) (st s:St) (p:Nat) (L:List aW) (x:AV) (d a b:Nat) (t:T) (r':List aW):Prop:= ∃k ts e c,Gv PP st s p L x d c a b k ts/\P n .expr d c=some ([e],r')/\t=node k (ts++[e])/\ts.length<=50000000
def WR (M:St->Prop) (Q:AV×St->Prop):Sum bU (AV×St)->Prop
 | .inl q=> ∃s,q=([],s)/\M s
 | .inr b=>Q b
def Z5 (M:St->Prop) (Q:AV×St->Prop):Sum bU (Sum bU (AV×St))->Prop
 | .inl q=> ∃s,q=([],s)/\M s
 | .inr b=>WR M Q b
theorem Ig {n:Nat} (ih: ∀m,m<=n->IH m) (hn:n<=10000000):su 148 (fun _=>[]) .whole (n+1):=by
 intro st p L x d r t r' V hd h;have B:fg t<=200000000000000:=by
  have:=Jz (n+1) .whole d r [t] r' h;rw [show lB lJ.whole=[] from rfl,aU,bq] at this;have hq:(n+1) * (n+1)<=10000001 * 10000001:=acg (by omega) (by omega);omega
 simp only [P] at h;refine aa.wide (aa.step (Pq _ _) ?_);unfold WI;refine aa.alloc (Wd.begin V) fun s0 h0 w=> ?_;refine aa.alloc w fun s1 _ w=> ?_;refine aa.LD w fun s2 w=> ?_;have g:=ih n (aah _);have W:=bX r;refine aa.bind (R:=WR (fun s=>Y6 n st s p L x d s0.h st.h t r') (NQ PP st p L x d t r')) ?_ ?_
 .split at h
  .rename_i f;obtain ⟨⟨bs,r2⟩,l,h⟩:=bind_some h;obtain ⟨⟨es,F⟩,o,h⟩:=bind_some h;obtain ⟨e,rfl⟩:=cH _ _ _ _ _ _ o rfl;cases h;refine aa.step (cQ (c:=true) f _ _) (aa.step (aq _ _) ?_);refine aa.kM [] w (aaq rfl) fun T _ w=> ?_;have a:Gv PP st T p L x d r s0.h st.h 6 []:=⟨_,_,w.aD,bA.nil,by simp [aU]⟩;refine a.addN (jc a.pz) rfl rfl (by simp) fun j a=> ?_;refine aa.iR (g.binding j p L x d _ bs r2 a.pz hd l) rfl rfl fun v D X=> ?_;obtain ⟨es,ho,_,J,M,N,O⟩:=X;have C:=qL _ _ _ _ _ l;have a:Gv PP st D p L x d r2 s0.h st.h 6 ([]++[aK r]):=by
    obtain ⟨v,es,w,hs,hd⟩:=a;exact ⟨v,es,w.move O N,hs,hd⟩
   refine a.add (fun K=>(EJ.own ho).elems K) J C.2 M (by simp;omega) fun Q _ a=> ?_;refine a.addN (pQ a.pz _) rfl rfl (by simp;omega) fun E a=> ?_;exact aa.some ⟨E,rfl,6,_,e,_,a,o,by simp [aao];rfl,by simp;omega⟩
  rename_i f;refine aa.step (cQ (c:=false) (aaC f) _ _) (aa.step (aj _ _) ?_);refine aa.LD w fun T w=> ?_;refine aa.bind (R:=Z5 (fun s=>Y6 n st s p L x d s0.h st.h t r') (NQ PP st p L x d t r')) ?_ ?_
  .split at h
   .rename_i f;obtain ⟨⟨U,i⟩,l,h⟩:=bind_some h;obtain ⟨u,rfl⟩:=cH _ _ _ _ _ _ l rfl;obtain ⟨⟨ps,r2⟩,o,h⟩:=bind_some h;obtain ⟨⟨es,F⟩,A,h⟩:=bind_some h;obtain ⟨e,rfl⟩:=cH _ _ _ _ _ _ A rfl;cases h;have Y:=mH _ _ _ _ _ o;refine aa.step (cQ (c:=true) f _ _) (aa.step (aq _ _) ?_);refine aa.kM [] w (aaq rfl) fun j _ w=> ?_;have a:Gv PP st j p L x d r s0.h st.h 7 []:=⟨_,_,w.aD,bA.nil,by simp [aU]⟩;refine a.addN (jc a.pz) rfl rfl (by simp) fun j a=> ?_;refine a.addN (g.atom true _ p L x d _ u i a.pz hd l) rfl rfl (by simp) fun D a=> ?_;refine aa.bind (Er (fun m hm=>ih m (by omega)) rfl hd n _ ps _ r2 D (aah _) o a (by simp;omega)) ?_;rintro q ⟨Q,rfl,a⟩;refine aa.step (ae _) ?_;refine a.addN (pQ a.pz _) rfl rfl (by simp;omega) fun E a=> ?_;exact aa.some ⟨E,rfl,7,_,e,_,a,A,by simp [aao];rfl,by simp;omega⟩
   rename_i f;refine aa.step (cQ (c:=false) (aaC f) _ _) (aa.step (aj _ _) ?_);refine aa.LD w fun j w=> ?_;split at h
   .rename_i f;obtain ⟨⟨U,i⟩,l,h⟩:=bind_some h;obtain ⟨u,rfl⟩:=cH _ _ _ _ _ _ l rfl;obtain ⟨⟨Z,r2⟩,o,h⟩:=bind_some h;obtain ⟨v,rfl⟩:=cH _ _ _ _ _ _ o rfl;obtain ⟨⟨es,F⟩,A,h⟩:=bind_some h;obtain ⟨e,rfl⟩:=cH _ _ _ _ _ _ A rfl;cases h;refine aa.step (cQ (c:=true) f _ _) (aa.step (aq _ _) ?_);refine aa.kM [] w (aaq rfl) fun j _ w=> ?_;have a:Gv PP st j p L x d r s0.h st.h 8 []:=⟨_,_,w.aD,bA.nil,by simp [aU]⟩;refine a.addN (jc a.pz) rfl rfl (by simp) fun j a=> ?_;refine a.addN (g.expr _ p L x d _ u i a.pz hd l) rfl rfl (by simp) fun D a=> ?_;refine a.addN (pQ a.pz _) rfl rfl (by simp) fun Q a=> ?_;refine a.addN (g.expr _ p L x d _ v r2 a.pz hd o) rfl rfl (by simp) fun E a=> ?_;refine a.addN (pQ a.pz _) rfl rfl (by simp) fun I a=> ?_;exact aa.some ⟨I,rfl,8,_,e,_,a,A,rfl,by simp⟩
   rename_i f;refine aa.step (cQ (c:=false) (aaC f) _ _) (aa.step (aj _ _) ?_);refine aa.LD w fun D w=> ?_;split at h
   .rename_i f;obtain ⟨⟨U,i⟩,l,h⟩:=bind_some h;obtain ⟨u,rfl⟩:=cH _ _ _ _ _ _ l rfl;obtain ⟨⟨Z,F⟩,o,h⟩:=bind_some h;obtain ⟨v,rfl⟩:=cH _ _ _ _ _ _ o rfl;obtain ⟨⟨cs,r4⟩,A,h⟩:=bind_some h;cases h;have av:=G1 _ _ _ _ _ A;refine aa.step (cQ (c:=true) f _ _) (aa.step (aq _ _) ?_);refine aa.kM [] w (aaq rfl) fun j _ w=> ?_;have a:Gv PP st j p L x d r s0.h st.h 9 []:=⟨_,_,w.aD,bA.nil,by simp [aU]⟩;refine a.addN (jc a.pz) rfl rfl (by simp) fun j a=> ?_;refine a.addN (g.expr _ p L x d _ u i a.pz hd l) rfl rfl (by simp) fun D a=> ?_;refine a.addN (pQ a.pz _) rfl rfl (by simp) fun Q a=> ?_;refine a.is fun E a=> ?_;refine aa.bind (R:=fun c=> ∃s,c=([],s)/\Gv PP st s p L x d (if cf fZ (bo bR i)=true then aO (bo bR i) else bo bR i) s0.h st.h 9 ([aK r]++[u]++[cP bR i]++if cf fZ (bo bR i)=true then [aK (bo bR i)] else [])) ?_ ?_
    .cases G:cf fZ (bo bR i) with
     | true=>
      refine aa.step (cQ (c:=true) G _ _) (aa.step (aq _ _) ?_);exact a.addN (jc a.pz) rfl rfl (by simp) fun I a=>aa.some ⟨I,rfl,a⟩
     | false=>
      refine aa.step (cQ (c:=false) G _ _) (aa.step (aj _ _) ?_);exact aa.some ⟨E,rfl,by rw [if_neg (by simp),if_neg (by simp),aaw];exact a⟩
    .rintro c ⟨I,rfl,a⟩;have C:(if cf fZ (bo bR i)=true then [aK (bo bR i)] else []).length<=1:=by split <;> simp
     generalize (if cf fZ (bo bR i)=true then [aK (bo bR i)] else [])=bar at C a B ⊢;refine aa.step (ae _) ?_;refine a.addN (g.arm _ p L x d _ v F a.pz hd o) rfl rfl (by simp;omega) fun s9 a=> ?_;refine aa.bind (KL (fun m hm=>ih m (by omega)) rfl hd n _ cs _ _ s9 (aah _) A a (by simp;omega)) ?_;rintro q ⟨a6,rfl,a⟩;refine aa.step (ae _) ?_;refine a.nd.load fun k tk tx y w hnd=>aa.two hnd ?_;refine aa.store [_] w fun S _ w=> ?_;refine aa.bind (R:=fun c=> ∃b,c= .inr b/\NQ PP st p L x d _ _ b) (aa.bind (R:=NQ PP st p L x d (node 9 ([aK r]++[u]++[cP bR i]++bar++[v]++cs)) _) (aa.fG (aak _ aad) w (aa.some ⟨hnd.vn,aaL B (by omega),w.pz,w.k⟩)) fun b f=>aa.some ⟨b,rfl,f⟩) ?_;rintro c ⟨b,rfl,f⟩;exact aa.some f
   .rename_i f;refine aa.step (cQ (c:=false) (aaC f) _ _) (aa.step (aj _ _) ?_);refine aa.node w (g.level 0 (by omega) _ p L x d r t r' w.pz hd h) rfl rfl fun k tk tx y s hnd H w=>aa.two hnd ?_;refine aa.store [_] w fun S _ w=> ?_;refine aa.bind (R:=fun c=> ∃b,c= .inr b/\NQ PP st p L x d t r' b) (aa.bind (R:=NQ PP st p L x d t r') (aa.fG (aak _ aad) w (aa.some ⟨hnd.vn,H,w.pz,w.k⟩)) fun b f=>aa.some ⟨b,rfl,f⟩) ?_;rintro c ⟨b,rfl,f⟩;exact aa.some f
  .intro c z
   match c,z with
   | .inl q,z=>
    obtain ⟨s,rfl,hm⟩:=z;exact aa.some ⟨s,rfl,hm⟩
   | .inr b,z=>exact aa.some z
 .intro c z
  match c,z with
  | .inl q,z=>
   obtain ⟨s,rfl,k,ts,e,F,a,he,rfl,hl⟩:=z;refine aa.step (bu _ _) (aa.step (ae _) ?_);refine a.addN (g.expr _ p L x d _ e r' a.pz hd he) rfl rfl (by omega) fun j a=> ?_;exact a.nd.fin (aaL B (by omega))
  | .inr b,z=>exact aa.some z
theorem DY: ∀n,n<=10000000->IH n:=by
 intro n
 induction n using Nat.strongRecOn with
 | _ n ih=>
  intro hn;cases n with
  | zero=>
   refine ⟨?_, ?_,fun k _=> ?_, ?_,fun pat=> ?_,fun list pat=> ?_, ?_, ?_, ?_⟩
   all_goals
    intro st p L x d r t r' _ _ h;cases h
  | succ n=>
   have b: ∀m,m<=n->IH m:=fun m hm=>ih m (by omega) (by omega);have i:=b n (aah _);have a:n<=10000000:=by omega
   exact ⟨KC i,Ig b a,fun k c=>Ih b a k c,MZ b a,fun pat=>LL i pat,fun list pat=>FU b a list pat,Ep i a,Od i a,EW b a⟩
end
section
variable {β:Type} {Q:β->Prop} {PT:Td} {st0 st s:St} {p:Nat} {L:List aW} {x:AV} {d d':Nat} {r r':List aW} {l l1 l2:List Vr} {os:List (AV×LA)} {t:T}
abbrev TO:Td:=24
theorem _root_.Go.VM.aa.renew {tk:Nat} {a:Int} {b:LB} (w:Wd PP st0 st p L x d r l os) (hm:(tk,TO,[.int .u8 a,.str b])∈l) {K:St->Oq β} (g: ∀s',Wd PP st0 s' p L x d r ((st.h,TO,[.int .u8 ((nx r).1:Int),.str (nx r).2])::l) os->aa (K s') Q):
  aa (ar 2 true (.mp tk 0) st fun v _=>Bu v fun cs=>bg cs fun u cs=>bj .u8 u fun n=>bg cs fun u cs=>dN u fun tx=>bB cs (bk (St.add st (.cells TO [.int .u8 0,.str []])) fun c=>bm (aY vE) 2 (.mp (St.h st) 0) (.agg [.int .u8 n,.str tx]) [.int .u8 n,.str tx] c fun _ f _=>
   aV (aY vE) 78 [.mp p 0] f fun v s _=>gN v fun vs=>cr vs 0 fun u=>Bu u fun cs=>bg cs fun a cs=>bj .u8 a fun n=>bg cs fun b cs=>dN b fun tx=>bB cs (gN v fun vs=>cr vs 1 fun u=>bj .i64 u fun _=>bm (aY vE) 2 (.mp (St.h st) 0) (.agg [.int .u8 n,.str tx]) [.int .u8 n,.str tx] s fun _ s' _=>K s'))) Q:=by
 refine aa.G8 hm w ?_;simp only [aw,ad,af,ao,ae];refine aa.alloc w fun c _ m=>aa.store [] m fun f _ j=> ?_;obtain ⟨i,h,rfl⟩:=j.pz;obtain ⟨t,k,e⟩:=oI h;refine aa.step (e _) ?_;simp only [bp,aT,aZ,aw,ad,af,ao,ae];exact aa.store [] (j.quiet k) fun o _ q=>g o q
theorem qE {a b:Nat} (h:a≠b):((a:Int) != (b:Int))=true:=by
 rw [bne,aai.2 (show (a:Int)≠(b:Int) by omega)];rfl
theorem KZ {f:bU} {kc:Nat} (D:f.2.h=kc): ∀(m:Nat) (r:List aW) (tk:Nat) (ts:List T) (es:LA) (v:AV) (s:St) (os:List (AV×LA)),
  Wd PP st0 s p L x d r ([(tk,TO,[.int .u8 ((nx r).1:Int),.str (nx r).2])]++(kc,ND,[.int .u8 3,.int .u8 0,.str [],v])::l2) ((v,es)::os)->bA ts es->eZ ts<=2->ts.length+m<=100000000->r.length<=m->
  aa (aH (qA (.mp p 0) f) ([.mp tk 0],s)) (fun q=> ∃s' v' t,q=(0,[],s')/\Wd PP st0 s' p L x d (skip m r).2 ((kc,ND,[.int .u8 3,.int .u8 0,.str [],v'])::l2) ((v',t)::os)/\bA (ts++(skip m r).1) t/\eZ (ts++(skip m r).1)<=2):=by
 intro m
 induction m with
 | zero=>
  intro r tk ts es v s os w j l hl E;obtain rfl:r=[]:=aaZ (by omega);simp only [skip,aaw];have g:aa (qA (.mp p 0) f ([.mp tk 0],s)) (fun q=>q= .inr (0,[],s)):=by
   simp only [qA,ad,ae];refine aa.bind (R:=fun c=>c=([.bool false],s)) ?_ ?_
   .refine aa.step (bE _ _ _ _) ?_;refine aa.gQ (aad) w rfl (aa.step (af _ _ _) ?_);exact aa.some rfl
   .rintro c rfl;exact aa.some rfl
  obtain ⟨q,e,rfl⟩:=g;exact ⟨_,aF e,s,v,es,rfl,w.sub (List.Sublist.cons _ (abV _)),j,l⟩
 | succ m u=>
  intro r tk ts es v s os w j l hl E;by_cases a:(nx r).1≠0/\cf lI r=false
  .have g:aa (qA (.mp p 0) f ([.mp tk 0],s)) (fun q=> ∃k s' v' e,q= .inl ([.mp k 0],s')/\Wd PP st0 s' p L x d (aO r) ([(k,TO,[.int .u8 ((nx (aO r)).1:Int),.str (nx (aO r)).2])]++(kc,ND,[.int .u8 3,.int .u8 0,.str [],v'])::l2) ((v',es++[e])::os)/\bA (ts++[aK r]) (es++[e])):=by
    simp only [qA,ad,ae,D];refine aa.bind (R:=fun c=> ∃s',c=([.bool true],s')/\Wd PP st0 s' p L x d r ([(tk,TO,[.int .u8 ((nx r).1:Int),.str (nx r).2])]++(kc,ND,[.int .u8 3,.int .u8 0,.str [],v])::l2) ((v,es)::os)) ?_ ?_
    .refine aa.step (bE _ _ _ _) ?_;refine aa.gQ (aad) w rfl (aa.step (af _ _ _) ?_);refine aa.step (cQ (c:=true) (qE (b:=0) a.1) _ _) (aa.step (aq _ _) ?_);refine aa.LD w fun o w=> ?_;exact aa.some ⟨o,by rw [show cf [108,101,116] r=false from a.2];rfl,w⟩
    .rintro c ⟨o,rfl,w⟩;simp only [ad,ae,al,aq];refine aa.grow [_] w (jc w.pz) rfl rfl j (by omega) (by omega) fun v' e C i _ w=> ?_;refine aa.renew w (tk:=tk) aad fun F w=> ?_;refine aa.some ⟨_,F,v',e,rfl,w.sub ?_,i⟩;exact List.Sublist.cons_cons _ (List.Sublist.cons _ (abV _))
   obtain ⟨q,e,k,s',v',J,rfl,w',i⟩:=g;rw [aJ e];have G:=eB a.1;have n:skip (m+1) r=(aK r::(skip m (aO r)).1,(skip m (aO r)).2):=by
    simp only [skip];rw [if_pos a]
   rw [n];refine (u (aO r) k _ _ v' s' os w' i ?_ (by simp;omega) (by omega)).mono ?_
   .have:=bX r;rw [ck,bq];omega
   .rintro q ⟨C,H,y,rfl,I,z,A⟩;exact ⟨C,H,y,rfl,I,by simpa using z,by simpa using A⟩
  .have n:skip (m+1) r=([],r):=by
    simp only [skip];rw [if_neg a]
   rw [n,aaw];have g:aa (qA (.mp p 0) f ([.mp tk 0],s)) (fun q=> ∃s',q= .inr (0,[],s')/\Wd PP st0 s' p L x d r ([(tk,TO,[.int .u8 ((nx r).1:Int),.str (nx r).2])]++(kc,ND,[.int .u8 3,.int .u8 0,.str [],v])::l2) ((v,es)::os)):=by
    simp only [qA,ad,ae];refine aa.bind (R:=fun c=> ∃s',c=([.bool false],s')/\Wd PP st0 s' p L x d r ([(tk,TO,[.int .u8 ((nx r).1:Int),.str (nx r).2])]++(kc,ND,[.int .u8 3,.int .u8 0,.str [],v])::l2) ((v,es)::os)) ?_ ?_
    .refine aa.step (bE _ _ _ _) ?_;refine aa.gQ (aad) w rfl (aa.step (af _ _ _) ?_);by_cases h0:(nx r).1=0
     .rw [h0];exact aa.some ⟨s,rfl,by rw [h0] at w;exact w⟩
     .have B:cf lI r=true:=by
       cases B:cf lI r with
       | true=>rfl
       | false=>exact absurd ⟨h0,B⟩ a
      refine aa.step (cQ (c:=true) (qE (b:=0) h0) _ _) (aa.step (aq _ _) ?_);refine aa.LD w fun o w=> ?_;exact aa.some ⟨o,by rw [show cf [108,101,116] r=true from B];rfl,w⟩
    .rintro c ⟨o,rfl,w⟩;exact aa.some ⟨o,rfl,w⟩
   obtain ⟨q,e,s',rfl,w'⟩:=g;exact ⟨_,aF e,s',v,es,rfl,w'.sub (List.Sublist.cons _ (abV _)),j,l⟩
theorem GD (n:Nat) (r:List aW):eZ (skip n r).1<=2:=by
 induction n generalizing r with
 | zero=>simp [skip,aU]
 | succ n ih=>
  simp only [skip];split
  .have:=bX r;have:=ih (aO r);simp only [bC];omega
  .simp [aU]
theorem BJ {s0:St} {a b:Nat} (ha:s0.h=a): ∀(N:Nat) (r:List aW) (D:List T) (tk:Nat) (ts:List T) (es:LA) (v:AV) (s:St),N<=10000000->decls N r=some D->r.length<=1000000->
  Wd PP st0 s p L x 0 r ([(tk,TO,[.int .u8 ((nx r).1:Int),.str (nx r).2])]++(a,ND,[.int .u8 4,.int .u8 0,.str [],v])::[(b,ND,z4)]) [(v,es)]->bA ts es->eZ ts<=500000000000000->ts.length+N<=90000000->
  aa (aH (tF (.mp p 0) s0) ([.mp tk 0],s)) (fun q=> ∃s' J z,q=(0,[],s')/\D=z++[aK J]/\Gv PP st0 s' p L x 0 J a b 4 (ts++z)/\(ts++z).length<=90000000/\eZ (ts++z)<=500000000000000):=by
 intro N
 induction N with
 | zero=>intro r D tk ts es v s _ h;cases h
 | succ n M=>
  intro r D tk ts es v s K h bt w o O hl;simp only [decls] at h;split at h
  .rename_i h0;cases h;have P:aa (tF (.mp p 0) s0 ([.mp tk 0],s)) (fun q=>q= .inr (0,[],s)):=by
    simp only [tF,ad,ae];refine aa.step (bE _ _ _ _) ?_;refine aa.gQ (aad) w rfl (aa.step (af _ _ _) ?_);rw [h0];exact aa.some rfl
   obtain ⟨q,e,rfl⟩:=P;exact ⟨_,aF e,s,r,[],rfl,rfl,⟨v,es,w.sub (List.Sublist.cons _ (abV _)),by simpa using o,by rw [aaw];omega⟩,by simp;omega,by rw [aaw];exact O⟩
  .rename_i h0;have S: ∃(u:T) (d:List aW) (m:List T),decls n d=some m/\D=u::m/\fg u<=300000000000000/\d.length<=r.length/\
     aa (tF (.mp p 0) s0 ([.mp tk 0],s)) (fun q=> ∃g s' v' e,q= .inl ([.mp g 0],s')/\Wd PP st0 s' p L x 0 d ([(g,TO,[.int .u8 ((nx d).1:Int),.str (nx d).2])]++(a,ND,[.int .u8 4,.int .u8 0,.str [],v'])::[(b,ND,z4)]) [(v',es++[e])]/\iF u e):=by
    have back: ∀(kc:Nat) (k:Nat) (u:T) (d:List aW) (f:St) (l:AV),Nd u k 0 [] l->
      Wd PP st0 f p L x 0 d ((kc,ND,[.int .u8 (k:Int),.int .u8 0,.str [],l])::(tk,TO,[.int .u8 ((nx r).1:Int),.str (nx r).2])::(a,ND,[.int .u8 4,.int .u8 0,.str [],v])::[(b,ND,z4)]) [(v,es)]->
      aa (ar 1 false (.mp a 3) f fun C _=>ar 4 true (.mp kc 0) f fun v168 _=>xM v168 fun n1 n2 tx y=>ab y (ab y (aB y fun y=>ab y (aB y fun y=>cq 4 56 ND C [.agg [.int .u8 n1,.int .u8 n2,.str tx,y]] f fun i A _=>ab i (ab i (bm (aY vE) 1 (.mp a 3) i [i] A fun _ B _=>
       ar 2 true (.mp tk 0) B fun v _=>Bu v fun cs=>bg cs fun u cs=>bj .u8 u fun n=>bg cs fun u cs=>dN u fun tx=>bB cs (bk (St.add B (.cells TO [.int .u8 0,.str []])) fun U=>bm (aY vE) 2 (.mp (St.h B) 0) (.agg [.int .u8 n,.str tx]) [.int .u8 n,.str tx] U fun _ E _=>
        aV (aY vE) 78 [.mp p 0] E fun v s _=>gN v fun vs=>cr vs 0 fun u=>Bu u fun cs=>bg cs fun a cs=>bj .u8 a fun n=>bg cs fun b cs=>dN b fun tx=>bB cs (gN v fun vs=>cr vs 1 fun u=>bj .i64 u fun _=>bm (aY vE) 2 (.mp (St.h B) 0) (.agg [.int .u8 n,.str tx]) [.int .u8 n,.str tx] s fun _ s' _=>some (Sum.inl (β:=Nat×bU) ([AV.mp (St.h B) 0],s'))))))))))
       (fun q=> ∃g s' v' e,q= .inl ([.mp g 0],s')/\Wd PP st0 s' p L x 0 d ([(g,TO,[.int .u8 ((nx d).1:Int),.str (nx d).2])]++(a,ND,[.int .u8 4,.int .u8 0,.str [],v'])::[(b,ND,z4)]) [(v',es++[e])]/\iF u e):=by
     intro kc k u d f l hnd w;refine aa.gQ (a:=a) (aak _ (aak _ aad)) w rfl ?_;refine aa.fG (aad) w ?_;refine aa.two hnd (aa.fit hnd fun y' K h1 hf=>aa.one h1 (aa.step (hf _) (aa.app w (by simp) (by rw [bA.len o];simp;omega) fun v' A _ ho w=> ?_)));refine aa.one ho (aa.one ho (aa.kM [_,_] w (aaq rfl) fun B _ w=> ?_));refine aa.renew w (tk:=tk) (aak _ aad) fun s8 w=> ?_;refine aa.some ⟨_,s8,v',_,rfl,w.sub ?_,K⟩;exact List.Sublist.cons_cons _ (List.Sublist.cons _ (List.Sublist.cons _ (abV _)))
    split at h
    .rename_i V;obtain ⟨⟨bs,d⟩,F,h⟩:=bind_some h;obtain ⟨m,G,h⟩:=bind_some h;cases h;have b4:=Aj (by omega:n<=10000000) F rfl;have W:=qL _ _ _ _ _ F;have b5:=bX r;refine ⟨_,d,m,G,rfl,by simp only [bI,bC];omega, ?_, ?_⟩
     .have:=B6 (Q:=fun q=>q.length<=r.length) (fun q hq=>aaL (iT q) hq) _ _ _ _ _ _ F (iT r);exact this
     simp only [tF,ad,ae,ha];refine aa.step (bE _ _ _ _) ?_;refine aa.gQ (aad) w rfl (aa.step (af _ _ _) ?_);refine aa.step (cQ (c:=true) (qE (b:=0) h0) _ _) (aa.step (aq _ _) ?_);refine aa.alloc w fun U _ w=> ?_;refine aa.LD w fun E w=> ?_;refine aa.bind (R:=fun c=> ∃f l,c=([],f)/\Nd (node 5 (aK r::bs)) 5 0 [] l/\Wd PP st0 f p L x 0 d ((s.h,ND,[.int .u8 ((5:Nat):Int),.int .u8 0,.str [],l])::(tk,TO,[.int .u8 ((nx r).1:Int),.str (nx r).2])::(a,ND,[.int .u8 4,.int .u8 0,.str [],v])::[(b,ND,z4)]) [(v,es)]) ?_ ?_
     .refine aa.step (cQ (c:=true) V _ _) (aa.step (aq _ _) ?_);refine aa.take w fun k g tx y s3 hnd a7 w=> ?_;refine aa.two hnd (aa.fit hnd fun z1 X _ _=> ?_);refine aa.iR ((DY n (by omega)).binding s3 p L x 0 _ bs d w.pz (by omega) F) rfl rfl fun v4 s4 hv=> ?_;obtain ⟨b6,ho,_,j,a8,Y,Z⟩:=hv;have w4:=w.move Z Y;refine aa.step ((EJ.own ho).elems _) (aa.step (JN j _) (aa.step (ib (FG j) _) ?_));have t:=bA.len j;refine aa.app (w4.shut (es:=[_]) (by simp)) (by
       intro e;rw [e] at t;exact W.2 (aaZ t.symm)) (by rw [t];simp;omega) fun v5 f _ H w5=> ?_
      refine aa.one H (aa.one H ?_);refine aa.store [] w5 fun A _ I=> ?_;exact aa.some ⟨A,v5,rfl,⟨⟨_,_,rfl,I.Nt,bA.cons X j⟩⟩,I.drop⟩
     .rintro c ⟨f,l,rfl,hnd,w⟩;refine aa.step (ae _) ?_;exact back s.h 5 _ d f l hnd w
    .rename_i V;obtain ⟨m,G,h⟩:=bind_some h;cases h;refine ⟨_,_,m,G,rfl,by have:=GD r.length r;simp only [bI];omega,yC _ _, ?_⟩;simp only [tF,ad,ae,ha];refine aa.step (bE _ _ _ _) ?_;refine aa.gQ (aad) w rfl (aa.step (af _ _ _) ?_);refine aa.step (cQ (c:=true) (qE (b:=0) h0) _ _) (aa.step (aq _ _) ?_);refine aa.alloc w fun U _ w=> ?_;refine aa.LD w fun E w=> ?_;refine aa.bind (R:=fun c=> ∃f l,c=([],f)/\Nd (node 3 (skip r.length r).1) 3 0 [] l/\Wd PP st0 f p L x 0 (skip r.length r).2 ((s.h,ND,[.int .u8 ((3:Nat):Int),.int .u8 0,.str [],l])::(tk,TO,[.int .u8 ((nx r).1:Int),.str (nx r).2])::(a,ND,[.int .u8 4,.int .u8 0,.str [],v])::[(b,ND,z4)]) [(v,es)]) ?_ ?_
     .refine aa.step (cQ (c:=false) (aaC V) _ _) (aa.step (aj _ _) ?_);refine aa.kM [] w (aaq rfl) fun s3 _ w=> ?_;refine aa.next w fun s4 f w=> ?_;refine aa.bind (KZ (kc:=s.h) rfl r.length r _ [] [] .aD f _ w.aD bA.nil (by simp [aU]) (by simp;omega) (aah _)) ?_;rintro q ⟨A,v6,b7,rfl,I,av,b8⟩;refine aa.step (ae _) ?_;exact aa.some ⟨A,v6,rfl,⟨⟨_,_,rfl,I.Nt,by simpa using av⟩⟩,I.drop⟩
     .rintro c ⟨f,l,rfl,hnd,w⟩;refine aa.step (ae _) ?_;exact back s.h 3 _ _ f l hnd w
   obtain ⟨u,d,m,G,rfl,b9,bb,q,e,g,s',v',F,rfl,w',K⟩:=S;rw [aJ e];refine (M d m g (ts++[u]) _ v' s' (by omega) G (by omega) w' (bA.app o (mI K)) (by rw [ck,bq];omega) (by simp;omega)).mono ?_;rintro q ⟨E,J,z,rfl,rfl,hg,a1,a6⟩;exact ⟨E,J,u::z,rfl,rfl,by simpa using hg,by simpa using a1,by simpa using a6⟩
theorem Dl {r:List aW} (h:r.length<=70000):fuel r<=10000000:=by unfold fuel;omega
theorem GS {i:Nat} (h:PS st p L x i 0) (hi:i=0) (hL:L.length<=70000):aa ((aY vE).wide 45 [.mp p 0] st) (fun b=>VN (doc L) b.1/\fg (doc L)<=1000000000000000/\ba st b.2 (· =p)):=by
 subst hi;obtain ⟨D,g,a⟩:=lZ L;refine aa.wide (aa.step (TX _ _) ?_);unfold ZC;have w:=Wd.start h;rw [aar] at w;refine aa.alloc w fun s0 _ w=> ?_;refine aa.alloc w fun l _ w=> ?_;refine aa.store [] w fun m _ w=> ?_;refine aa.next w fun n j w=> ?_;have hf:=Dl hL;refine aa.bind (BJ rfl (fuel L) L D _ [] [] .aD j hf g (by omega) w.aD bA.nil (by rw [aU];omega) (by simp;omega)) ?_;rintro q ⟨o,f,k,rfl,rfl,c,hl,hd⟩;refine aa.step (ae _) ?_;rw [aaj] at c hl hd;refine c.grow (jc c.pz) rfl rfl (by omega) fun r c=> ?_;rw [a];have d:fg (node 4 (k++[aK f]))<=1000000000000000:=by
  have:=bX f;simp only [bI,ck,bq];omega
 refine (c.nd.fin d).mono fun b e=>⟨e.1,e.2.1,e.2.2.2⟩
end
end Go.Proofs.YtkpeicabocpbkaaGreatDoor.Vm
namespace Go.Proofs.YtkpeicabocpbkaaGreatDoor.Vm
open Go Go.VM Go.Proofs Go.Lex
theorem Hx (s:LB): ∃x,(aY vE).bare 44 [.str s]=some (.tup [x,.int .i64 (vj s)])/\bF 2 x (if vj s=0 then (tokens s).map tok else []):=by
 by_cases h1:65536 < s.length
 .have e:vj s=40:=by unfold vj;rw [if_pos h1]
  exact ⟨.aD,by rw [e];exact Ew h1,by rw [e];exact bF.aD⟩
 .cases a:bH s with
  | false=>
   have e:vj s=4:=by unfold vj;rw [if_neg h1,a];rfl
   exact ⟨.aD,by rw [e];exact FC (by omega) a,by rw [e];exact bF.aD⟩
  | true=>
   obtain ⟨x,hx,h⟩:=L7 (by omega) a;have e:vj s=0:=Tt (by omega) a;exact ⟨x,by rw [e];exact hx,by rw [e];exact h⟩
end Go.Proofs.YtkpeicabocpbkaaGreatDoor.Vm
namespace Go.Proofs.YtkpeicabocpbkaaGreatDoor.Vm
open Go Go.VM Go.Proofs Go.Lex Go.Parse
theorem Cl {t:T} {k tk:Nat} {tx:LB} {y:AV} (h:Nd t k tk tx y): ∃y',iF t (.agg [.int .u8 (k:Int),.int .u8 (tk:Int),.str tx,y'])/\ ∀(st:St) (n:Nat),VM.freeze st 0 (n+2) (.agg [.int .u8 (k:Int),.int .u8 (tk:Int),.str tx,y])= .ok (.agg [.int .u8 (k:Int),.int .u8 (tk:Int),.str tx,y']):=by
 obtain ⟨l,es,rfl,e,a⟩:=h.ex;rcases e with hx | ⟨hl,j,rfl⟩
 .refine ⟨y,by simp only [iF];exact ⟨y,es,rfl,hx,a⟩,fun st n=> ?_⟩;refine M4 (d:=1) (fun c b=> ?_) st 0 (n+2) (by omega);simp only [aam,aaD,or_false] at b;rcases b with rfl | rfl | rfl | rfl
  .exact ku _ _
  .exact ku _ _
  .exact Ec _
  .exact Kg hx
 .exact ⟨.sl 4 es .wide,by simp only [iF];exact ⟨_,es,rfl,bF.wide hl,a⟩,fun st n=>rfl⟩
theorem pf {t:T} {v:AV} (h:iF t v):VM.bare v=true/\VM.strip v=v:=by
 cases t with
 | mk k tk tx l=>
  simp only [iF] at h;obtain ⟨x,es,rfl,hx,_⟩:=h;refine ⟨?_,rfl⟩;rw [zX];simp only [bf,hx.bare];rfl
theorem Cw (s:LB):(vj s=0/\(65536 < s.length)=False/\bH s=true)\/(vj s=40/\65536 < s.length)\/(vj s=4/\¬ 65536 < s.length/\bH s=false):=by
 unfold vj;by_cases h:65536 < s.length
 .rw [if_pos h];exact .inr (.inl ⟨rfl,h⟩)
 .rw [if_neg h];cases a:bH s with
  | true=>exact .inl ⟨rfl,by simp [h],rfl⟩
  | false=>exact .inr (.inr ⟨rfl,h,rfl⟩)
def fc (s:LB):T:=if vj s=0 then doc (tokens s) else .mk 0 0 [] []
theorem qu {t:T} {k tk:Nat} {tx:LB} {y:AV} (h:Nd t k tk tx y) (n:Int): ∃v,iF t v/\ ∀{β:Type} (st:St) (K:AV->Oq β),eQ st 0 (.tup [.agg [.int .u8 (k:Int),.int .u8 (tk:Int),.str tx,y],.int .i64 n]) K=K (.tup [v,.int .i64 n]):=by
 obtain ⟨y',a,hf⟩:=Cl h;refine ⟨_,a,fun st K=>Jq (fT (hf st 97) (fT (by exact ku _ _ st 0 99 (by omega)) uk)) ?_ K⟩;simp only [bf,(pf a).1];rfl
theorem Ez:Nd (.mk 0 0 [] []) 0 0 [] .aD:=⟨⟨[],[],rfl,.inl bF.aD,bA.nil⟩⟩
theorem OK (s:LB): ∃v,iF (fc s) v/\fg (fc s)<=1000000000000000/\(aY vE).bare 19 [.str s]=some (.tup [v,.int .i64 (vj s)]):=by
 obtain ⟨x,e,hx⟩:=Hx s;have c: ∀{β:Type} (st:St) (K:Kv β),aV (aY vE) 44 [.str s] st K=K (.tup [x,.int .i64 (vj s)]) st q0:=fun st K=>aG st K rfl rfl rfl e;have key:aa (bz vE 19 [.str s]) (fun b=> ∃v,b= .tup [v,.int .i64 (vj s)]/\iF (fc s) v/\fg (fc s)<=1000000000000000):=by
  refine aa.step (TQ _) ?_;unfold g19;generalize a:St.mk 1 0 (Tr.node (some (VM.Obj.cells ND z4)) Tr.leaf Tr.leaf)=st;have n:st.get 0= .ok (.cells ND z4):=by rw [<- a];rfl
  have C:st.h=1:=by rw [<- a]
  have g:st.ro=0:=by rw [<- a]
  refine aa.step (ao _ _) (aa.step (c _ _) ?_);simp only [bp,aT,aZ,af];by_cases h0:vj s=0
  .rw [h0] at hx ⊢;rw [if_pos rfl] at hx;have i:fc s=doc (tokens s):=by unfold fc;rw [if_pos h0]
   rw [i];refine aa.step (aj _ _) (aa.step (jS hx.one _) (aa.step (jS hx.one _) ?_));rw [bQ];have hl:=(tU h0).1;have p:=rq s;generalize d:st.add (VM.Obj.cells PP [x,.int .i64 0,.int .i64 0])=st1;have k1:ba st st1 (fun _=>False):=by rw [<- d];exact ba.add _ _ _
   have q:st1.get st.h= .ok (.cells PP [x,.int .i64 ((0:Nat):Int),.int .i64 ((0:Nat):Int)]):=by rw [<- d];exact St.dY
   have r:PS st1 st.h (tokens s) x 0 0:=⟨q,hx,aba _,by omega,by rw [k1.ro,g];omega⟩;refine aa.iR (GS r rfl (by omega)) rfl rfl fun v t j=> ?_;obtain ⟨j,hd,o⟩:=j;have u:t.get 0= .ok (.cells ND z4):=o.Dc (by omega) (k1.old _ _ (fun f=>f) n);obtain ⟨k,tk,tx,y,rfl,hnd⟩:=j.cells;refine aa.step (kY ..) (aa.two hnd ?_);obtain ⟨z,g3,_,_,A,l⟩:=XS u rfl (k:Int) (tk:Int) tx y (by rw [o.ro,k1.ro,g];omega);refine aa.step (l _) (aa.step (bh g3 _ _ _ _) (aa.step (ai _ _) (aa.step (kY ..) ?_)));obtain ⟨w,m,hf⟩:=qu hnd 0;exact aa.step (hf _ _) (aa.some ⟨w,rfl,m,hd⟩)
  .have i:fc s= .mk 0 0 [] []:=by unfold fc;rw [if_neg h0]
   rw [i];refine aa.step (cQ (c:=true) (by simpa using h0) _ _) (aa.step (aq _ _) ?_);obtain ⟨z,g3,_,_,A,l⟩:=XS n rfl 0 0 [] .aD (by rw [g];omega);refine aa.step (l _) (aa.step (bh g3 _ _ _ _) (aa.step (ai _ _) (aa.step (kY ..) ?_)));obtain ⟨w,m,hf⟩:=qu Ez (vj s);exact aa.step (hf _ _) (aa.some ⟨w,rfl,m,by simp [fg,eZ]⟩)
 obtain ⟨b,e,v,rfl,h1,B⟩:=key;exact ⟨v,h1,B,aM rfl e⟩
section
variable {β:Type} {Q:β->Prop} {st:St} {t:T}
theorem IY (s:LB): ∃v,iF (fc s) v/\fg (fc s)<=1000000000000000/\ ∀{β:Type} (st:St) (K:Kv β),aV (aY vE) 19 [.str s] st K=K (.tup [v,.int .i64 (vj s)]) st q0:=by
 obtain ⟨v,h,hd,e⟩:=OK s;exact ⟨v,h,hd,fun st K=>aG st K rfl rfl rfl e⟩
theorem gm {t:T} {v:AV} (h:iF t v): ∃(k tk:Nat) (tx:LB) (l:List T) (x:AV) (es:LA),t= .mk k tk tx l/\v= .agg [.int .u8 (k:Int),.int .u8 (tk:Int),.str tx,x]/\bF 4 x es/\bA l es:=by
 cases t with
 | mk k tk tx l=>
  simp only [iF] at h;obtain ⟨x,es,rfl,hx,hs⟩:=h;exact ⟨k,tk,tx,l,x,es,rfl,rfl,hx,hs⟩
theorem bA.at: ∀{l:List T} {es:LA} {k:Nat} {t:T},bA l es->l[k]? =some t-> ∃e,es[k]? =some e/\iF t e
 | [],_,_,_,_,b=>by simp at b
 | t::l,_,0,_,h,b=>by
  simp only [bA] at h;obtain ⟨a,r,rfl,h1,c⟩:=h;obtain rfl:t= _:=by simpa using b
  exact ⟨a,rfl,h1⟩
 | t::l,_,k+1,t',h,b=>by
  simp only [bA] at h;obtain ⟨a,r,rfl,h1,c⟩:=h;obtain ⟨e,d,hi⟩:=bA.at (k:=k) (t:=t') c (by simpa using b);exact ⟨e,by simpa using d,hi⟩
theorem yO {l:List T} {x:AV} {es:LA} {k:Nat} (hx:bF 4 x es) (hs:bA l es) (d:l[k]? =some t): ∃(a b:Nat) (s:LB) (y:AV),iF t (.agg [.int .u8 (a:Int),.int .u8 (b:Int),.str s,y])/\ ∀{β:Type} (st:St) (K:Int->Int->LB->AV->Oq β),(dB 4 x (k:Int) st fun u _=>ar 4 true u st fun u _=>xM u K)=K (a:Int) (b:Int) s y:=by
 obtain ⟨e,f,c⟩:=hs.at d;obtain ⟨a,b,s,i,y,g,rfl,rfl,hy,h⟩:=gm c;refine ⟨a,b,s,y,c,fun st K=> ?_⟩;rw [hx.idx f,LF,bK,DX,ai,kY]
theorem T.ind {Pr:T->Prop} (h: ∀k tk tx l,(∀t∈l,Pr t)->Pr (.mk k tk tx l)): ∀t,Pr t:=by
 intro t;have key: ∀n (t:T),SizeOf.sizeOf t < n->Pr t:=by
  intro n
  induction n with
  | zero=>intro t a;omega
  | succ n ih=>
   intro t a;cases t with
   | mk k tk tx l=>
    refine h k tk tx l fun u b=>ih u ?_;have:=List.sizeOf_lt_of_mem b;simp only [T.mk.sizeOf_spec] at a;omega
 exact key _ t (abt _)
end
section
variable {β:Type} {Q:β->Prop}
abbrev S0:St:=St.mk 0 0 Tr.leaf
theorem sE {F:FuncId} {t:T} {v r:AV} (a:iF t v) (hf:vE.full F=false) (h:(aY vE).bare F [v]=some r) {β:Type} (st:St) (K:Kv β):aV (aY vE) F [v] st K=K r st q0:=
 aG st K hf (by simp only [aal,aaN,(pf a).2]) (by simp only [bf,(pf a).1];rfl) h
theorem vf (a b:Nat):((a:Int) != (b:Int))=(a != b):=by rw [bne,cU, <- bne]
theorem zb: ∀(l:List T),Parse.di l=l.all Parse.bZ
 | []=>rfl
 | t::l=>by simp only [Parse.di,abU,zb l]
theorem iu {l:List T} {x:AV} {es:LA} (hx:bF 4 x es) (hs:bA l es) {γ:Type} (K:Nat->Oq γ):fq x K=K l.length:=by rw [hx.len,hs.len]
theorem Ji {l:List T} {x:AV} {es:LA} (hx:bF 4 x es) (hs:bA l es):l.length<=9223372036854775807:=by rw [<- hs.len];exact hx.1
theorem CV {l:List T} {x:AV} {es:LA} (hx:bF 4 x es) (hs:bA l es) (r: ∀t∈l,∀v,iF t v->(aY vE).bare 20 [v]=some (.bool (Parse.bZ t))) (st:St): ∀(m:List T) (j:Nat),l.drop j=m->
  ∃(k:Nat) (i:Int),aH (mP x (.fn (.func 47) [] []) l.length) ([.int .i64 0,.int .i64 (j:Int)],st)=some (k,[.int .i64 i],st)/\((k=0/\m.all Parse.bZ=true)\/(k=1/\0<=i/\m.all Parse.bZ=false))
 | [],j,hd=>by
  have:=aaQ.1 hd;have q:¬ (j:Int) < (l.length:Int):=by omega
  refine ⟨0,0,aF ?_,.inl ⟨rfl,rfl⟩⟩;simp only [mP,ad,af,ae,ak,if_neg q]
 | t::m,j,hd=>by
  obtain ⟨d,u,w⟩:=drop_cons hd;have q:(j:Int) < (l.length:Int):=by omega
  have hlen:=Ji hx hs;obtain ⟨a,b,s,y,g,e⟩:=yO hx hs d;obtain ⟨a',b',s',E,y',z,f,o,hy,A⟩:=gm g;have c:=r t (aaJ d) _ g;have B:(aY vE).bare 47 [.agg [.int .u8 (a:Int),.int .u8 (b:Int),.str s,y]]=some (.bool (!Parse.bZ t)):=by
   refine aM rfl ((TM _).trans ?_);have p:y=y':=by injection o with o;simpa using (List.cons.inj (List.cons.inj (List.cons.inj (List.cons.inj o).2).2).2).1
   subst p;simp only [Y1,aw,ad,af,ao,ae,hy.ab,hy.aB,sE g rfl c,al]
  have C: ∀{γ:Type} (st:St) (K:Kv γ),jx (aY vE) (Sx.prim (sx vE 82)) (.fn (.func 47) [] []) [.agg [.int .u8 (a:Int),.int .u8 (b:Int),.str s,y]] st K=K (.bool (!Parse.bZ t)) st q0:=fun st K=>(show _=aV (aY vE) 47 [_] st K from rfl).trans (sE g rfl B st K);have n:mP x (.fn (.func 47) [] []) l.length ([.int .i64 0,.int .i64 (j:Int)],st)=aX (!Parse.bZ t) (some (.inr (1,[.int .i64 (j:Int)],st))) (some (.inl ([.int .i64 0,.int .i64 ((j+1:Nat):Int)],st))):=by
   simp only [mP,ad,af,ae,ak,if_pos q];refine (e st _).trans ?_;simp only [C,al,az,br (show j+1<=9223372036854775807 by omega)]
  cases f:Parse.bZ t with
  | false=>
   rw [f] at n;exact ⟨1,j,aF n,.inr ⟨rfl,by omega,by simp [f]⟩⟩
  | true=>
   rw [f] at n;obtain ⟨k,i,D,h⟩:=CV hx hs r st m (j+1) u;refine ⟨k,i,by rw [aJ n,D], ?_⟩;simpa [f] using h
theorem Rs: ∀(t:T) (v:AV),iF t v->(aY vE).bare 20 [v]=some (.bool (Parse.bZ t)):=by
 refine T.ind fun k tk tx l ih v a=> ?_;simp only [iF] at a;obtain ⟨x,es,rfl,hx,hs⟩:=a;have g:(aY vE).bare 46 [x,.fn (.func 47) [] []]=some (.bool (!l.all Parse.bZ)):=by
  have hi: ∃i:Int,(aY vE).bare 82 [x,.fn (.func 47) [] []]=some (.int .i64 i)/\decide (i>=0)= !l.all Parse.bZ:=by
   obtain ⟨k,i,e,h⟩:=CV hx hs ih S0 l 0 rfl;have e:aH (mP x (.fn (.func 47) [] []) l.length) ([.int .i64 0,.int .i64 0],S0)= _:=e;rcases h with ⟨rfl,h⟩ | ⟨rfl,h0,h⟩
   .refine ⟨-1,aM rfl ((DS _ _).trans ?_),by rw [h];rfl⟩;simp only [WB,iu hx hs,e,ai,ad,af,ae,eX]
   .refine ⟨i,aM rfl ((DS _ _).trans ?_),by rw [h];simpa using h0⟩;simp only [WB,iu hx hs,e,ai,ad,af,ae,iq]
  obtain ⟨i,h1,b⟩:=hi;refine aM rfl ((Nq _ _).trans ?_);have c:=fun {β:Type} (st:St) (K:Kv β)=>aG (f:=82) st K rfl (by simp only [aal,aaN,hx.strip];rfl) (by simp only [bf,hx.bare];rfl) h1;simp only [Yx,c,af,b]
 have d:=fun {β:Type} (st:St) (K:Kv β)=>aG (f:=46) st K rfl (by simp only [aal,aaN,hx.strip];rfl) (by simp only [bf,hx.bare];rfl) g;refine aM rfl ((TZ _).trans ?_);have j:((k:Int) != 2)=(k != 2):=vf k 2;have m:((k:Int) != 3)=(k != 3):=vf k 3;have n:((k:Int) != 1)=(k != 1):=vf k 1;have o:((tk:Int) != 9)=(tk != 9):=vf tk 9;simp only [g20,aw,ad,af,ao,ae,hx.ab,hx.aB,n,j,m,o,Parse.bZ,zb];cases b:k != 2 <;> simp only [aq,aj,ai,ad,al,ae,abw,abB]
 cases p:k != 3 <;> simp only [aq,aj,ai,ad,al,ae,abw,abB]
 cases h1:k != 1 <;> simp only [aq,aj,ai,ad,al,ae,aaV,abI,abB,d,Bool.not_not]
 cases q:tk != 9 <;> simp only [aq,aj,ai,ad,al,ae,abw,abB,d,Bool.not_not]
end
end Go.Proofs.YtkpeicabocpbkaaGreatDoor.Vm
namespace Go.Proofs.YtkpeicabocpbkaaGreatDoor.Vm
open Go Go.VM Go.Proofs Go.Scope
section
variable {p:MC} {ps:List MC} {e:Pc} {l:List Pc} {es:LA} {v:AV}
end
def Lp {σ β:Type} (I:σ->Prop) (Q:β->Prop):Sum σ β->Prop
 | .inl s=>I s
 | .inr b=>Q b
theorem aa.inl {σ β:Type} {I:σ->Prop} {Q:β->Prop} {s:σ} (h:I s):aa (some (Sum.inl s:Sum σ β)) (Lp I Q):=⟨_,rfl,h⟩
theorem aa.inr {σ β:Type} {I:σ->Prop} {Q:β->Prop} {b:β} (h:Q b):aa (some (Sum.inr b:Sum σ β)) (Lp I Q):=⟨_,rfl,h⟩
theorem aa.upto {σ β:Type} {Q:β->Prop} {F:σ->Oq (Sum σ β)} {n:Nat} {I:Nat->σ->Prop} (step: ∀i s,i < n->I i s->aa (F s) (Lp (I (i+1)) Q))
  (last: ∀s,I n s->aa (F s) (Lp (fun _=>False) Q)): ∀(k i:Nat) (s:σ),i+k=n->I i s->aa (aH F s) Q:=by
 intro k
 induction k with
 | zero=>
  intro i s hi h;obtain ⟨r,e,a⟩:=last s (by rw [<- show i=n by omega];exact h);cases r with
  | inl s'=>exact a.elim
  | inr b=>exact ⟨b,aF e,a⟩
 | succ k ih=>
  intro i s hi h;obtain ⟨r,e,a⟩:=step i s (by omega) h;cases r with
  | inl s'=>rw [aJ e];exact ih (i+1) s' (by omega) a
  | inr b=>exact ⟨b,aF e,a⟩
@[simp] theorem dU (i o:Nat):notNil (.mp i o)=true:=id rfl
section
variable {β:Type} {z:Nat} {x:AV} {es:LA}
end
section
variable {p q:Nat->Prop} {a b c:St}
end
structure To (st:St) (x:Fx):Prop where
 l0:apart ⟨[],.kept⟩ x=true
 r0:apart x ⟨[],.kept⟩=true
 l: ∀i t cs,st.get i= .ok (.cells t cs)->apart ⟨[i],.kept⟩ x=true
 r: ∀i t cs,st.get i= .ok (.cells t cs)->apart x ⟨[i],.kept⟩=true
end Go.Proofs.YtkpeicabocpbkaaGreatDoor.Vm
namespace Go.Proofs.YtkpeicabocpbkaaGreatDoor.Vm
open Go Go.VM Go.Proofs Go.Lex Go.Parse Go.Lay
abbrev pn:Td:=44
abbrev dX (k:Int) (s:LB) (m:Int) (x:AV):LA:=[.int .u8 k,.str s,.int .i64 m,x]
abbrev d4:LA:=[.int .u8 0,.str [],.int .i64 0,.aD]
theorem kK {d:Doc} {v:AV} (h:cW d v): ∃k s m kids x es,d= .mk k s m kids/\v= .agg (dX k s m x)/\bF 4 x es/\bO kids es:=by
 cases d with
 | mk k s m kids=>
  simp only [cW] at h;obtain ⟨x,es,rfl,_,_,_,hx,hs⟩:=h;exact ⟨k,s,m,kids,x,es,rfl,rfl,hx,hs⟩
theorem mV {k:Int} {s:LB} {m:Int} {kids:List Doc} {x:AV} {es:LA} (a:0<=k/\k<=255) (hs:s.length<=9223372036854775807) (hm:0<=m/\m<=1000) (hx:bF 4 x es) (h:bO kids es):cW (.mk k s m kids) (.agg (dX k s m x)):=by
 simp only [cW];exact ⟨x,es,rfl,a,hs,⟨by omega,by omega⟩,hx,h⟩
theorem gT:bO [] []:=by simp only [bO]
theorem gf {d:Doc} {l:List Doc} {v:AV} {es:LA} (h:cW d v) (hs:bO l es):bO (d::l) (v::es):=by
 simp only [bO];exact ⟨v,es,rfl,h,hs⟩
theorem dF: ∀{l m:List Doc} {es fs:LA},bO l es->bO m fs->bO (l++m) (es++fs)
 | [],_,_,_,h,k=>by simp only [bO] at h;subst h;exact k
 | d::l,_,_,_,h,k=>by
  simp only [bO] at h;obtain ⟨v,vs,rfl,h1,a⟩:=h;exact gf h1 (dF a k)
theorem dG {d:Doc} {v:AV} (h:cW d v):bO [d] [v]:=gf h gT
theorem fa {d e:Doc} {v w:AV} (h:cW d v) (a:cW e w):bO [d,e] [v,w]:=gf h (dG a)
theorem dc: ∀{l:List Doc} {es:LA},bO l es->es.length=l.length
 | [],_,h=>by simp only [bO] at h;subst h;rfl
 | d::l,_,h=>by
  simp only [bO] at h;obtain ⟨v,vs,rfl,_,a⟩:=h;simp [dc a]
theorem wM: ∀{l:List Doc} {es:LA} {i:Nat} {d:Doc},bO l es->l[i]? =some d-> ∃v,es[i]? =some v/\cW d v
 | [],_,_,_,_,h=>by simp at h
 | e::l,_,0,d,h,hi=>by
  simp only [bO] at h;obtain ⟨v,vs,rfl,h1,_⟩:=h;simp at hi;subst hi;exact ⟨v,rfl,h1⟩
 | e::l,_,i+1,d,h,hi=>by
  simp only [bO] at h;obtain ⟨v,vs,rfl,_,a⟩:=h;obtain ⟨u,b,h4⟩:=wM a (by simpa using hi);exact ⟨u,by simpa using b,h4⟩
theorem iJ {a b c d:AV}:jA 4 true [a,b,c,d]=some (.agg [a,b,c,d]):=rfl
theorem MN (s:LB):(aY vE).bare 24 [.str s]=some (.agg (dX 1 s 0 .aD)):=aM rfl ((UG _).trans (by simp only [g24,ao]))
theorem wU {γ:Type} (s:LB) (st:St) (K:Kv γ):aV (aY vE) 24 [.str s] st K=K (.agg (dX 1 s 0 .aD)) st q0:=aG st K rfl rfl rfl (MN s)
theorem gE {γ:Type} (st:St) (K:Kv γ):aV (aY vE) 50 [] st K=K (.agg (dX 2 [] 0 .aD)) st q0:=aG st K rfl rfl rfl (aM rfl UM)
theorem Ku:(caller vE 60).bare 93 []= .ok (.agg (dX 1 [32] 0 .aD)):=by kernel_rfl
theorem iz {γ:Type} (st:St) (K:Kv γ):aV (aY vE) 93 [] st K=K (.agg (dX 1 [32] 0 .aD)) st q0:=aG st K rfl rfl rfl (Bm Ku)
theorem DF {s:LB} (h:s.length<=9223372036854775807):cW (Format.tx s) (.agg (dX 1 s 0 .aD)):=mV (by omega) h (by omega) bF.aD gT
theorem jW:cW Format.je (.agg (dX 2 [] 0 .aD)):=mV (by omega) (by simp) (by omega) bF.aD gT
theorem JJ:cW Format.OQ (.agg (dX 4 [] 0 .aD)):=mV (by omega) (by simp) (by omega) bF.aD gT
theorem kV:cW Format.cw (.agg (dX 1 [32] 0 .aD)):=DF (by simp)
theorem UZ {st:St} {x x':AV} {es:LA} (hx:bF 4 x' es) (a: ∀n,VM.freeze st 0 (n+1) x= .ok x') (k:Int) (s:LB) (m:Int) {β:Type} (K:AV->Oq β):
  eQ st 0 (.agg (dX k s m x)) K=K (.agg (dX k s m x')):=by
 refine QB (fT (ku _ _ st 0 99 (by omega)) (fT (Ec _ st 0 99 (by omega)) (fT (ku _ _ st 0 99 (by omega)) (fT (a 98) uk)))) ?_ K;simp only [bf,hx.bare];rfl
theorem yk {st:St} {x:AV} {es:LA} (hx:bF 4 x es) (k:Int) (s:LB) (m:Int) {β:Type} (K:AV->Oq β):eQ st 0 (.agg (dX k s m x)) K=K (.agg (dX k s m x)):=
 UZ hx (fun n=>Kg hx _ 0 (n+1) (by omega)) k s m K
theorem wL {st:St} {z:Nat} {e:Td} {v:AV} {es:LA} (h:jg st z e v es): ∃x,bF z x es/\VM.strip v=x:=by
 rcases h with ⟨_,hl,⟨rfl | rfl,rfl⟩ | rfl | ⟨k,rfl,_,_⟩⟩
 .exact ⟨.aD,bF.aD,rfl⟩
 .exact ⟨.es,bF.emp,rfl⟩
 .exact ⟨.sl z es .shut,bF.shut hl,rfl⟩
 .exact ⟨.sl z es .wide,bF.wide hl,rfl⟩
theorem zm {β:Type} {E:Env} {f:FuncId} {args a:LA} {v:AV} (st:St) (K:Kv β) (hf:E.full f=false) (hs:args.map strip=a) (b:bN a=true) (h:(aY E).bare f a=some v):aV (aY E) f args st K=K v st q0:=by
 have h1:(bN (args.map strip)&& !(aY E).full f)=true:=by
  rw [hs,b];show (true&& !E.full f)=true;rw [hf];rfl
 unfold aV oj B1;rw [h1,hs,h];rfl
theorem Vi {x:AV} {es:LA} (hx:bF 4 x es):(aY vE).bare 85 [x]=some (.agg (dX 6 [] 0 x)):=by
 refine aM rfl ((SK _).trans ?_);simp only [ZL,hx.ab];exact yk hx 6 [] 0 _
theorem NR {x:AV} {es:LA} (hx:bF 4 x es):(aY vE).bare 25 [x]=some (.agg (dX 7 [] 0 x)):=by
 refine aM rfl ((TS _).trans ?_);simp only [Zp,hx.ab];exact yk hx 7 [] 0 _
theorem Qr (n:Int) {x:AV} {es:LA} (hx:bF 4 x es):(aY vE).bare 89 [.int .i64 n,x]=some (.agg (dX 5 [] n x)):=by
 refine aM rfl ((UJ _ _).trans ?_);simp only [Y2,af,hx.ab];exact yk hx 5 [] n _
section
variable {st:St} {e:Td} {v:AV} {ws:LA} {D:List Doc}
theorem lk (h:jg st 4 e v ws) (hd:bO D ws): ∃x,bF 4 x ws/\cW (Format.sV D) (.agg (dX 6 [] 0 x))/\ ∀{γ:Type} (s:St) (K:Kv γ),aV (aY vE) 85 [v] s K=K (.agg (dX 6 [] 0 x)) s q0:=by
 obtain ⟨x,hx,a⟩:=wL h;exact ⟨x,hx,mV (by omega) (by simp) (by omega) hx hd,fun s K=>zm s K rfl (by rw [aal,aaN,a]) (by simp only [bf,hx.bare];rfl) (Vi hx)⟩
theorem zy (h:jg st 4 e v ws) (hd:bO D ws): ∃x,bF 4 x ws/\cW (Format.row D) (.agg (dX 7 [] 0 x))/\ ∀{γ:Type} (s:St) (K:Kv γ),aV (aY vE) 25 [v] s K=K (.agg (dX 7 [] 0 x)) s q0:=by
 obtain ⟨x,hx,a⟩:=wL h;exact ⟨x,hx,mV (by omega) (by simp) (by omega) hx hd,fun s K=>zm s K rfl (by rw [aal,aaN,a]) (by simp only [bf,hx.bare];rfl) (NR hx)⟩
theorem sd (n:Int) (hn:0<=n/\n<=1000) (h:jg st 4 e v ws) (hd:bO D ws): ∃x,bF 4 x ws/\cW (Format.BN n D) (.agg (dX 5 [] n x))/\ ∀{γ:Type} (s:St) (K:Kv γ),aV (aY vE) 89 [.int .i64 n,v] s K=K (.agg (dX 5 [] n x)) s q0:=by
 obtain ⟨x,hx,a⟩:=wL h;exact ⟨x,hx,mV (by omega) (by simp) hn hx hd,fun s K=>zm s K rfl (by rw [aal,aal,aaN,a];rfl) (by simp only [bf,hx.bare];rfl) (Qr n hx)⟩
end
theorem pX {st:St} (w:Vw st [(0,pn,d4)]) {k:Int} {s:LB} {m:Int} {x:AV} {es:LA} {d:Doc} (hx:bF 4 x es) (hd:cW d (.agg (dX k s m x))):
  aa (ab x (bm (aY vE) 4 (.mp 0 0) (.agg (dX k s m x)) (dX k s m x) st fun _ s _=>ar 4 true (.mp 0 0) s fun v _=>Bu v fun l=>bg l fun v1 l=>bj .u8 v1 fun a=>bg l fun b l=>dN b fun c=>bg l fun e l=>bj .i64 e fun f=>bg l fun g l=>bB l (eQ s 0 (.agg [.int .u8 a,.str c,.int .i64 f,g]) fun v=>some v))) (cW d):=by
 refine aa.step (hx.ab _) (aa.mW [] w (fun h _ _ w=>aa.ju aad w rfl ?_));simp only [aw,ad,af,ao,ae];exact aa.step (yk hx k s m _) (aa.some hd)
abbrev S1:St:=St.mk 1 0 (Tr.node (some (VM.Obj.cells pn d4)) Tr.leaf Tr.leaf)
theorem L6:Vw S1 [(0,pn,d4)]:=⟨fun q a=>by
 rw [aaG.1 a];exact ⟨rfl,aba _⟩,by simp,aba _⟩
def lH (t:T):Prop:= ∀v,iF t v-> ∃a,(aY vE).bare 22 [v]=some a/\cW (Format.ay t) a
theorem GV {l:List T} {x:AV} {es:LA} {i:Nat} {t:T} (hx:bF 4 x es) (hs:bA l es) (hi:l[i]? =some t) (h:lH t):
  ∃(a b:Nat) (s:LB) (y:AV),iF t (.agg [.int .u8 (a:Int),.int .u8 (b:Int),.str s,y])/\(∀{γ:Type} (K:Oq γ),ab y K=K)/\(∀{γ:Type} (st:St) (K:Int->Int->LB->AV->Ln->Oq γ),(dB 4 x (i:Int) st fun u _=>ar 4 true u st fun u rd=>xM u fun a b s y=>K a b s y rd)=K (a:Int) (b:Int) s y [])/\
   ∃(k:Int) (s':LB) (m:Int) (z:AV) (zs:LA),cW (Format.ay t) (.agg (dX k s' m z))/\bF 4 z zs/\ ∀{γ:Type} (st:St) (K:Kv γ),aV (aY vE) 22 [.agg [.int .u8 (a:Int),.int .u8 (b:Int),.str s,y]] st K=K (.agg (dX k s' m z)) st q0:=by
 obtain ⟨v,d,c⟩:=bA.at hs hi;obtain ⟨n,e,hd⟩:=h v c;obtain ⟨a,b,s,o,y,f,rfl,rfl,hy,g⟩:=gm c;obtain ⟨k,s',m,kids,z,zs,p,rfl,j,_⟩:=kK hd;refine ⟨a,b,s,y,c,fun K=>hy.ab K,fun st K=> ?_,k,s',m,z,zs,hd,j,fun st K=>sE c rfl e st K⟩;rw [hx.idx d];simp only [AV.cells,bK,iJ,ai,kY]
theorem Af (ahead:List Doc): ∀(i:Nat) (l m:List Doc),Format.bW ahead i (l++m)=Format.bW ahead i l++Format.bW ahead (i+l.length) m
 | i,[],m=>by simp [Format.bW]
 | i,d::l,m=>by
  rw [aap,Format.bW,Format.bW,Af ahead (i+1) l m,aab,aao,aap,show i+1+l.length=i+(l.length+1) by omega]
theorem kJ (ahead:List Doc): ∀(i:Nat) (l:List Doc),(Format.bW ahead i l).length<=2 * l.length
 | i,[]=>by simp [Format.bW]
 | i,d::l=>by
  have:=kJ ahead (i+1) l;rw [Format.bW];split <;> simp only [aaa,aab,aae] <;> omega
theorem kG {ts:List T} {x y:AV} {es fs:LA} {ahead:List Doc} (hx:bF 4 x es) (hs:bA ts es) (hy:bF 4 y fs) (G:bO ahead fs) (A:ahead≠[]) (hn:ts.length<=100000000) (ih: ∀t∈ts,lH t) (st:St) (B:st.ro<=st.h):
  aa ((aY vE).wide 92 [x,y] st) fun r=> ∃ws,Wv st r.2 [] 4 pn r.1 ws/\bO (Format.bW ahead 0 (ts.map Format.ay)) ws:=by
 have C:=dc G;have L:=hy.1;have H:1<=ahead.length:=by cases ahead with
  | nil=>exact absurd rfl A
  | cons _ _=>simp
 refine aa.wide (aa.step (TW _ _ _) ?_);simp only [ZF,iu hx hs];refine aa.bind (R:=fun c=> ∃s v ws,c=(0,[v],s)/\Wv st s [] 4 pn v ws/\bO (Format.bW ahead 0 (ts.map Format.ay)) ws) ?_ ?_
 .refine aa.upto (n:=ts.length) (I:=fun i c=> ∃s v ws,c=([v,.int .i64 (i:Int)],s)/\Wv st s [] 4 pn v ws/\bO (Format.bW ahead 0 ((ts.take i).map Format.ay)) ws) ?_ ?_ ts.length 0 _ (by omega) ⟨st,.aD,[],rfl,Wv.start B _ _,gT⟩
  .rintro i c hi ⟨s,v,ws,rfl,w,d⟩;have M:=dc d;have f:=kJ ahead 0 ((ts.take i).map Format.ay);rw [aay,aat] at f;obtain ⟨a,b,tx,z,hN,D,g,k,s',m,q,qs,hd,J,N⟩:=GV hx hs (aax hi) (ih _ (abj hi));have e:Format.bW ahead 0 ((ts.take (i+1)).map Format.ay)=Format.bW ahead 0 ((ts.take i).map Format.ay)++((if i=0 then [] else [ahead.getD (min (i - 1) (ahead.length - 1)) Format.cw])++[Format.ay ts[i]]):=by
    rw [iM hi,aaK,Af,aal,aaN,Format.bW,Format.bW,aay,aat,abR (by omega),aau]
   rw [e];simp only [Ik,ad,af,ae,ak,if_pos (show (i:Int) < (ts.length:Int) by omega)];refine aa.step (g s _) ?_;refine aa.tM w fun s1 _ w=>aa.step (D _) ?_;refine aa.qp [] w fun O _ _ w=> ?_;refine aa.bind (R:=fun c=> ∃p v ws,c=([v],p)/\Wv st p [(s.h,27,[.int .u8 (a:Int),.int .u8 (b:Int),.str tx,z])] 4 pn v ws/\bO (Format.bW ahead 0 ((ts.take i).map Format.ay)++(if i=0 then [] else [ahead.getD (min (i - 1) (ahead.length - 1)) Format.cw])) ws) ?_ ?_
   .by_cases h0:i=0
    .subst h0;exact aa.step (if_neg (by omega)) (aa.some ⟨O,v,ws,rfl,w,by simpa using d⟩)
    .rw [if_neg h0];refine aa.step (if_pos (by omega)) ?_;have P:IntKind.wrap .i64 ((i:Int) - 1)=((i - 1:Nat):Int):=by rw [wrap_i64 (by omega) (by omega)];omega
     have Q:IntKind.wrap .i64 ((fs.length:Int) - 1)=((fs.length - 1:Nat):Int):=by rw [wrap_i64 (by omega) (by omega)];omega
     have S:(if ((fs.length - 1:Nat):Int) < ((i - 1:Nat):Int) then ((fs.length - 1:Nat):Int) else ((i - 1:Nat):Int))=((min (i - 1) (ahead.length - 1):Nat):Int):=by
      rw [C];split <;> omega
     have U:min (i - 1) (ahead.length - 1) < ahead.length:=by omega
     have V:ahead[min (i - 1) (ahead.length - 1)]? =some (ahead.getD (min (i - 1) (ahead.length - 1)) Format.cw):=by
      rw [aaz,aax U];rfl
     obtain ⟨u,W,K⟩:=wM G V;obtain ⟨k3,p,m3,X,x3,Y,Z,rfl,j,av⟩:=kK K;simp only [az,P,hy.len,Q,S,hy.idx W,AV.cells,bK,iJ,ai,aw,ad,af,ao,ae,j.ab,j.aB];refine aa.AM w (by omega) (by omega) (by omega) fun E F _ w=>aa.some ⟨F,E,_,rfl,w,dF d (dG K)⟩
   .rintro c ⟨p,v3,a1,rfl,w,l⟩;have o:=dc l;rw [aaa] at o;have a6:(if i=0 then ([]:List Doc) else [ahead.getD (min (i - 1) (ahead.length - 1)) Format.cw]).length<=1:=by split <;> simp
    simp only [ad,ae];refine aa.ju aad w.w rfl ?_;simp only [aw,ad,af,ao,ae];refine aa.step (N _ _) ?_;simp only [aw,ad,af,ao,ae,J.ab,J.aB];refine aa.AM w (by omega) (by omega) (by omega) fun E F _ w=> ?_;simp only [az,br (show i+1<=9223372036854775807 by omega)];refine aa.inl ⟨F,E,_,rfl,w.none, ?_⟩;rw [<- aao];exact dF l (dG hd)
  .rintro c ⟨s,v,ws,rfl,w,d⟩;simp only [Ik,ad,af,ae,ak,if_neg (show ¬ ((ts.length:Nat):Int) < (ts.length:Int) by omega)];rw [aaH] at d;exact aa.inr ⟨s,v,ws,rfl,w,d⟩
 .rintro c ⟨s,v,ws,rfl,w,d⟩;simp only [ad,ae,vN];exact aa.some ⟨ws,w,d⟩
theorem _root_.Go.VM.aa.JE {β:Type} {Q:β->Prop} {st0 st:St} {l:FW} {z:Nat} {e:Td} {v:AV} {ws:LA} (w:Wv st0 st l z e v ws) {b:Nat} {new:LA} (hn:new≠[]) (c:ws.length+new.length<=1000000000) (d:b<=1000) (f:1<=z) {K:Kv β} (g: ∀v' s a,Wv st0 s l z e v' (ws++new)->aa (K v' s a) Q):aa (cq z b e v new st K) Q:=by
 obtain ⟨v',s,a,i,m,k1,n⟩:=rZ (b:=b) (new:=new) w.o hn (rD (by simpa using c) d f);refine aa.step (nI i K) (g v' s a ⟨w.w.keeps k1 (fun q p h=>w.o.not (w.w.v q p).1 h),m,fun j r=> ?_,qk w.k k1 w.nw,w.ge⟩);rcases n j r with h | h
 .exact w.nw j h
 .exact aaL w.k.h h
theorem oS: ∀{l:List T} {es:LA} (n:Nat),bA l es->bA (l.take n) (es.take n)
 | [],_,n,h=>by simp only [bA] at h;subst h;simpa using bA.nil
 | t::l,_,0,h=>by simpa using bA.nil
 | t::l,_,n+1,h=>by
  simp only [bA] at h;obtain ⟨e,r,rfl,h1,a⟩:=h;exact bA.cons h1 (oS n a)
theorem J5: ∀{l:List T} {es:LA} (n:Nat),bA l es->bA (l.drop n) (es.drop n)
 | [],_,n,h=>by simp only [bA] at h;subst h;simpa using bA.nil
 | t::l,_,0,h=>h
 | t::l,_,n+1,h=>by
  simp only [bA] at h;obtain ⟨e,r,rfl,h1,a⟩:=h;exact J5 n a
theorem kD {st st':St}:apart ⟨[],.all st st'⟩ ⟨[],.kept⟩=true:=id rfl
theorem kL {st st':St}:apart ⟨[],.all st st'⟩ q0=true:=id rfl
theorem gK:apart q0 q0=true:=id rfl
theorem pP (l:LA):(bN (l.map strip)&& !vE.full 92)=false:=by rw [show vE.full 92=true from rfl];simp
theorem Jy (l:LA):(bN (l.map strip)&& !vE.full 86)=false:=by rw [show vE.full 86=true from rfl];simp
theorem il:bF 4 AV.aD []:=bF.aD
theorem ra {l:List T} {x:AV} {es:LA} {i:Nat} {t:T} (hx:bF 4 x es) (hs:bA l es) (hi:l[i]? =some t) (h:lH t) {j:Int} (d:j=(i:Int)):
  ∃(a b:Nat) (s:LB) (y:AV) (k:Int) (s':LB) (m:Int) (z:AV) (zs:LA),iF t (.agg [.int .u8 (a:Int),.int .u8 (b:Int),.str s,y])/\(∀{γ:Type} (K:Oq γ),ab y K=K)/\cW (Format.ay t) (.agg (dX k s' m z))/\bF 4 z zs/\(∀{γ:Type} (st:St) (K:AV->Ln->Oq γ),dB 4 x j st K=K (.ip [.int .u8 (a:Int),.int .u8 (b:Int),.str s,y]) [])/\
   ∀{γ:Type} (st:St) (K:Kv γ),aV (aY vE) 22 [.agg [.int .u8 (a:Int),.int .u8 (b:Int),.str s,y]] st K=K (.agg (dX k s' m z)) st q0:=by
 subst d;obtain ⟨v,e,c⟩:=bA.at hs hi;obtain ⟨p,f,hd⟩:=h v c;obtain ⟨a,b,s,q,y,g,rfl,rfl,hy,n⟩:=gm c;obtain ⟨k,s',m,kids,z,zs,r,rfl,o,_⟩:=kK hd;exact ⟨a,b,s,y,k,s',m,z,zs,c,fun K=>hy.ab K,hd,o,fun st K=>hx.idx e st K,fun st K=>sE c rfl f st K⟩
theorem DW (b:List LB) (s:LB):b.contains s=b.any fun t=>t==s:=by
 induction b with
 | nil=>rfl
 | cons a l ih=>
  rw [List.contains_cons,abr,ih];congr 1;rw [Bool.eq_iff_iff,aaM,aaM];exact eq_comm
theorem SN {t:T} {v:AV} (d:iF t v) (c:List LB) (hl:c.length<=1000):(aY vE).bare 88 [v,.sl 1 (c.map AV.str) .shut]=some (.bool (Format.kQ c t)):=by
 obtain ⟨a,b,s,g,y,e,rfl,rfl,hy,f⟩:=gm d;refine aM rfl ((Tn _ _).trans ?_);simp only [YU,aw,ad,af,ao,ae,hy.ab,hy.aB,Format.kQ,nU (ji c hl),DW];rw [show ((a:Int)==1)=(a==1) from cU a 1,show ((b:Int)==8)=(b==8) from cU b 8];cases a==1 <;> cases b==8 <;> simp [aq,aj,ai,ad,al,ae]
theorem Gw {t:T} {v:AV} (b:iF t v) (a:List LB) (hl:a.length<=1000) {γ:Type} (st:St) (K:Kv γ):aV (aY vE) 88 [v,.sl 1 (a.map AV.str) .shut] st K=K (.bool (Format.kQ a t)) st q0:=by
 obtain ⟨h1,d⟩:=pf b;have c:=ji a hl;exact aG st K rfl (by simp only [aal,aaN,d,c.strip]) (by simp only [bf,h1,c.bare];rfl) (SN b a hl)
def SU (F:FuncId) (k:Nat) (ks:List T):Prop:= ∀x es,bF 4 x es->bA ks es->aa ((aY vE).bare F [x]) (cW (Format.dE k ks (ks.map Format.ay)))
section
variable {ks:List T} {x:AV} {es:LA} (hx:bF 4 x es) (hs:bA ks es) (hn:ks.length<=1000000) (ih: ∀t∈ks,lH t)
include hx hs hn ih
theorem xA (h1:1<=ks.length) (st:St) (g:st.ro<=st.h):aa ((aY vE).wide 86 [x] st) fun r=> ∃ws,Wv st r.2 [] 4 pn r.1 ws/\bO (Format.lX (ks.map Format.ay)) ws:=by
 have hlen:=hs.len;have c:ks.length - 1 < ks.length:=by omega
 have d:ks[ks.length - 1]? =some ks[ks.length - 1]:=aax c;have u:IntKind.wrap .i64 ((ks.length:Int) - 1)=((ks.length - 1:Nat):Int):=by rw [wrap_i64 (by omega) (by omega)];omega
 obtain ⟨G,e,i⟩:=hx.cut (lo:=none) (hi:=some ((ks.length - 1:Nat):Int)) (l:=0) (m:=ks.length - 1) mE (jL (by omega));rw [aar] at e;obtain ⟨a,b,s0,y,k,s',m,z,zs,H,A,hd,p,B,C⟩:=ra hx hs d (ih _ (abj c)) (j:=((ks.length - 1:Nat):Int)) rfl;refine aa.wide (aa.step (UX _ _) ?_);simp only [Zc,iu hx hs,az,u,i,iz,aw,ad,af,ao,ae,dm,dq,gK,aaW,aQ,il.ab,il.aB];refine aa.iR (kG e (oS _ hs) (bF.shut (by simp)) (dG kV) (by simp) (by rw [aat];omega) (fun t D=>ih t (List.mem_of_mem_take D)) st g) rfl (pP _) ?_;rintro v s ⟨ws,w,q⟩;have E:=dc q;have n:=kJ [Format.cw] 0 ((ks.take (ks.length - 1)).map Format.ay);rw [aay,aat] at n;obtain ⟨I,f,o,F⟩:=sd 2 (by omega) (jg.shut w.w.ro pn (es:=[.agg (dX 2 [] 0 .aD),.agg (dX k s' m z)]) (by simp)) (fa jW hd);simp only [gE,aw,ad,af,ao,ae,dm,dq,gK,kD,kL,aaW,aQ,B,bK,iJ,ai,C,p.ab,p.aB,il.ab,il.aB];refine aa.step (F _ _) ?_;simp only [aw,ad,af,ao,ae,f.ab,f.aB];refine aa.AM w (by omega) (by omega) (by omega) fun J K _ w=> ?_;rw [vN];refine aa.some ⟨_,w, ?_⟩;rw [Format.lX,aay, <- List.map_take,Format.gJ _ _ _ d];exact dF q (dG o)
theorem WU (h1:1<=ks.length) {k:Nat} (c:k=5\/k=7):aa ((aY vE).bare 84 [x]) (cW (Format.dE k ks (ks.map Format.ay))):=by
 refine aa.bare rfl (aa.step (UD _) ?_);unfold Za;refine aa.iR (xA hx hs hn ih h1 S1 (aba _)) rfl (Jy _) ?_;rintro v s ⟨ws,w,d⟩;obtain ⟨g,a,b,e⟩:=lk w.o d;refine aa.step (e _ _) ?_;simp only [aw,ad,af,ao,ae];rw [Format.dE,if_pos c];exact pX (L6.keeps w.k (fun _ _ f=>f)) a b
theorem X3:aa ((aY vE).bare 91 [x]) (cW (Format.dE 8 ks (ks.map Format.ay))):=by
 refine aa.bare rfl (aa.step (Uq _) ?_);simp only [ZE,iz,gE,aw,ad,af,ao,ae,il.ab,il.aB];refine aa.iR (kG hx hs (bF.shut (by simp)) (gf kV (gf jW (gf kV (fa jW kV)))) (by simp) (by omega) ih S1 (aba _)) rfl (pP _) ?_;rintro v s ⟨ws,w,c⟩;obtain ⟨e,a,b,d⟩:=lk w.o c;refine aa.step (d _ _) ?_;simp only [aw,ad,af,ao,ae];exact pX (L6.keeps w.k (fun _ _ f=>f)) a b
theorem Ye:aa ((aY vE).bare 96 [x]) (cW (Format.dE 11 ks (ks.map Format.ay))):=by
 refine aa.bare rfl (aa.step (TY _) ?_);simp only [Zu,iz,gE,aw,ad,af,ao,ae,il.ab,il.aB];refine aa.iR (kG hx hs (bF.shut (by simp)) (fa jW kV) (by simp) (by omega) ih S1 (aba _)) rfl (pP _) ?_;rintro v s ⟨ws,w,c⟩;obtain ⟨e,a,b,d⟩:=lk w.o c;refine aa.step (d _ _) ?_;simp only [aw,ad,af,ao,ae];exact pX (L6.keeps w.k (fun _ _ f=>f)) a b
theorem Yj:aa ((aY vE).bare 97 [x]) (cW (Format.dE 12 ks (ks.map Format.ay))):=by
 refine aa.bare rfl (aa.step (S4 _) ?_);simp only [Zi,iz,gE,aw,ad,af,ao,ae,il.ab,il.aB];refine aa.iR (kG hx hs (bF.shut (by simp)) (dG kV) (by simp) (by omega) ih S1 (aba _)) rfl (pP _) ?_;rintro v s ⟨ws,w,c⟩;obtain ⟨e,a,b,d⟩:=zy w.o c;refine aa.step (d _ _) ?_;simp only [aw,ad,af,ao,ae];exact pX (L6.keeps w.k (fun _ _ f=>f)) a b
theorem XX:aa ((aY vE).bare 98 [x]) (cW (Format.dE 16 ks (ks.map Format.ay))):=by
 refine aa.bare rfl (aa.step (SW _) ?_);simp only [Zd,iz,gE,aw,ad,af,ao,ae,il.ab,il.aB];refine aa.iR (kG hx hs (bF.shut (by simp)) (dG kV) (by simp) (by omega) ih S1 (aba _)) rfl (pP _) ?_;rintro v s ⟨ws,w,c⟩;obtain ⟨e,a,b,d⟩:=zy w.o c;refine aa.step (d _ _) ?_;simp only [aw,ad,af,ao,ae];exact pX (L6.keeps w.k (fun _ _ f=>f)) a b
omit hn in
theorem VZ (h2:ks.length=2):aa ((aY vE).bare 99 [x]) (cW (Format.dE 13 ks (ks.map Format.ay))):=by
 have hg0:ks[0]? =some ks[0]:=aax (by omega);have hg1:ks[1]? =some ks[1]:=aax (by omega);obtain ⟨a0,b0,s0,y0,k0,t0,m0,z0,zs0,hN0,hy0,hd0,hz0,ei0,cn0⟩:=ra hx hs hg0 (ih _ (abj _)) (j:=0) rfl;obtain ⟨a1,b1,s1,y1,k1,t1,m1,z1,zs1,hN1,hy1,hd1,hz1,ei1,cn1⟩:=ra hx hs hg1 (ih _ (abj _)) (j:=1) rfl;refine aa.bare rfl (aa.step (Vf _) ?_);obtain ⟨x2,hx2,hd2,e2⟩:=sd 2 (by omega) (jg.shut (st:=S1) (aba _) pn (es:=[.agg (dX 2 [] 0 .aD),.agg (dX k1 t1 m1 z1)]) (by simp)) (fa jW hd1);obtain ⟨x3,hx3,hd3,e3⟩:=lk (jg.shut (st:=S1) (aba _) pn (es:=[.agg (dX k0 t0 m0 z0),.agg (dX 5 [] 2 x2)]) (by simp)) (fa hd0 hd2);simp only [ZO,ei0,ei1,cn0,cn1,bK,iJ,ai,gE,aw,ad,af,ao,ae,dm,dq,gK,kD,kL,aaW,aQ,hz0.ab,hz0.aB,hz1.ab,hz1.aB,il.ab,il.aB];refine aa.step (e2 _ _) ?_;simp only [aw,ad,af,ao,ae,hx2.ab,hx2.aB,hz0.ab,hz0.aB];refine aa.step (e3 _ _) ?_;simp only [aw,ad,af,ao,ae];have hk:Format.dE 13 ks (ks.map Format.ay)=Format.sV [Format.ay ks[0],Format.BN 2 [Format.je,Format.ay ks[1]]]:=by
  rw [Format.dE,if_neg (by decide),if_neg (by decide),if_neg (by decide),if_neg (by decide),if_neg (by decide),if_neg (by decide),if_neg (by decide),if_pos rfl,Format.gJ _ _ _ hg0,Format.gJ _ _ _ hg1]
 rw [hk];exact pX L6 hx3 hd3
omit hn in
theorem YF (h3:ks.length=3):aa ((aY vE).bare 95 [x]) (cW (Format.dE 10 ks (ks.map Format.ay))):=by
 have hlen:=hs.len;have hg2:ks[2]? =some ks[2]:=aax (by omega);obtain ⟨x2,hx2,hsl⟩:=hx.cut (lo:=none) (hi:=some 2) (l:=0) (m:=2) mE (jL (k:=2) (by omega));rw [aar] at hx2;obtain ⟨a,b,s0,y,k,s',m,z,zs,hN,hy1,hd,hz,ei,cn⟩:=ra hx hs hg2 (ih _ (abj _)) (j:=2) rfl;refine aa.bare rfl (aa.step (Vg _) ?_);simp only [Zk,hsl,iz,aw,ad,af,ao,ae,dm,dq,gK,aaW,aQ,il.ab,il.aB];refine aa.iR (kG hx2 (oS _ hs) (bF.shut (by simp)) (dG kV) (by simp) (by rw [aat];omega) (fun t ht=>ih t (List.mem_of_mem_take ht)) S1 (aba _)) rfl (pP _) ?_;rintro v s ⟨ws,w,hw⟩;have hwl:=dc hw;have hal:=kJ [Format.cw] 0 ((ks.take 2).map Format.ay);rw [aay,aat] at hal;obtain ⟨x3,hx3,hd3,e3⟩:=sd 4 (by omega) (jg.shut w.w.ro pn (es:=[.agg (dX 2 [] 0 .aD),.agg (dX k s' m z)]) (by simp)) (fa jW hd);simp only [gE,aw,ad,af,ao,ae,dm,dq,gK,kD,kL,aaW,aQ,ei,bK,iJ,ai,cn,hz.ab,hz.aB,il.ab,il.aB];refine aa.step (e3 _ _) ?_;simp only [aw,ad,af,ao,ae,hx3.ab,hx3.aB];refine aa.AM w (by omega) (by omega) (by omega) fun v4 s4 _ w=> ?_;obtain ⟨x5,hx5,hd5,e5⟩:=lk w.o (dF hw (dG hd3));refine aa.step (e5 _ _) ?_;simp only [aw,ad,af,ao,ae];have hk:Format.dE 10 ks (ks.map Format.ay)=Format.sV (Format.bW [Format.cw] 0 ((ks.take 2).map Format.ay)++[Format.BN 4 [Format.je,Format.ay ks[2]]]):=by
  rw [Format.dE,if_neg (by decide),if_neg (by decide),if_neg (by decide),if_neg (by decide),if_pos rfl,Format.gJ _ _ _ hg2,List.map_take]
 rw [hk];exact pX (L6.keeps w.k (fun _ _ f=>f)) hx5 hd5
theorem X0 (h4:4<=ks.length):aa ((aY vE).bare 90 [x]) (cW (Format.dE 6 ks (ks.map Format.ay))):=by
 have hlen:=hs.len;have a:ks[ks.length - 2]? =some ks[ks.length - 2]:=aax (by omega);have b:ks[ks.length - 1]? =some ks[ks.length - 1]:=aax (by omega);have A:IntKind.wrap .i64 ((ks.length:Int) - 2)=((ks.length - 2:Nat):Int):=by rw [wrap_i64 (by omega) (by omega)];omega
 have B:IntKind.wrap .i64 (((ks.length - 2:Nat):Int)+1)=((ks.length - 1:Nat):Int):=by rw [wrap_i64 (by omega) (by omega)];omega
 obtain ⟨N,c,g⟩:=hx.cut (lo:=none) (hi:=some ((ks.length - 2:Nat):Int)) (l:=0) (m:=ks.length - 2) mE (jL (by omega));rw [aar] at c;obtain ⟨O,P,s0,Q,R,S,T,U,C,D,E,h,d,i,n⟩:=ra hx hs a (ih _ (abj _)) (j:=((ks.length - 2:Nat):Int)) rfl;obtain ⟨V,W,X,Y,k1,Z,m1,z1,F,G,H,p,e,q,r⟩:=ra hx hs b (ih _ (abj _)) (j:=((ks.length - 1:Nat):Int)) rfl;refine aa.bare rfl (aa.step (Uh _) ?_);simp only [Zq,iu hx hs,az,A,g];refine aa.iR (xA c (oS _ hs) (by rw [aat];omega) (fun t I=>ih t (List.mem_of_mem_take I)) (by rw [aat];omega) S1 (aba _)) rfl (Jy _) ?_;rintro v s ⟨ws,w,z⟩;have J:=dc z;have K:(Format.lX ((ks.take (ks.length - 2)).map Format.ay)).length<=2 * ks.length+1:=by
  have:=kJ [Format.cw] 0 (((ks.take (ks.length - 2)).map Format.ay).take (((ks.take (ks.length - 2)).map Format.ay).length - 1));rw [Format.lX,aaa];simp only [aat,aay,abl] at this ⊢;omega
 simp only [gE,B,aw,ad,af,ao,ae,dm,dq,gK,kD,kL,aaW,aQ,i,q,n,r,bK,iJ,ai,az,d.ab,d.aB,e.ab,e.aB,il.ab,il.aB];refine aa.JE w (by simp) (by simp only [aab,aae];omega) (by omega) (by omega) fun v4 s4 _ w=> ?_;obtain ⟨x5,u,y,L⟩:=lk w.o (dF z (gf jW (gf h (fa jW p))));refine aa.step (L _ _) ?_;simp only [aw,ad,af,ao,ae];have M:Format.dE 6 ks (ks.map Format.ay)=Format.sV (Format.lX ((ks.take (ks.length - 2)).map Format.ay)++[Format.je,Format.ay ks[ks.length - 2],Format.je,Format.ay ks[ks.length - 1]]):=by
  rw [Format.dE,if_neg (by decide),if_pos rfl,aay,Format.gJ _ _ _ a,Format.gJ _ _ _ b,List.map_take]
 rw [M];exact pX (L6.keeps w.k (fun _ _ f=>f)) u y
end
theorem Fa: ∀(l:List T) (t:T),Format.lW (l++[t]) ((l++[t]).map Format.ay)=Format.lW l (l.map Format.ay)++Format.ay t::(if Format.kQ [km,oB] t then [Format.je] else [])
 | [],t=>by
  simp only [aaj,aal,aaN,Format.lW]
 | a::l,t=>by
  have ih:=Fa l t;simp only [aap,aal,Format.lW] at ih ⊢;rw [ih];split <;> rfl
theorem J0: ∀(l:List T) (D:List Doc),(Format.lW l D).length<=2 * l.length
 | [],D=>by simp [Format.lW]
 | _:: _,[]=>by simp [Format.lW]
 | a::l,d::D=>by
  have ih:=J0 l D;rw [Format.lW];split <;> simp only [aab] <;> omega
theorem As: ∀(l:List T) (p t:T),Format.fL p (l++[t]) ((l++[t]).map Format.ay)=Format.fL p l (l.map Format.ay)++[if Format.kQ [fZ] ((p::l).getD l.length default) then Format.cw else Format.je,Format.ay t]
 | [],p,t=>by
  simp only [aaj,aal,aaN,Format.fL,aae,List.getD_cons_zero]
 | a::l,p,t=>by
  have ih:=As l a t;simp only [aap,aal,Format.fL,aab,List.getD_cons_succ] at ih ⊢;rw [ih]
theorem CA: ∀(l:List T) (p:T) (D:List Doc),(Format.fL p l D).length<=2 * l.length
 | [],p,D=>by simp [Format.fL]
 | _:: _,p,[]=>by simp [Format.fL]
 | a::l,p,d::D=>by
  have ih:=CA l a D;rw [Format.fL];simp only [aab];omega
section
variable {ks:List T} {x:AV} {es:LA} (hx:bF 4 x es) (hs:bA ks es) (hn:ks.length<=1000000) (ih: ∀t∈ks,lH t)
include hx hs hn ih
theorem QR (h2:2<=ks.length) {k:Nat} (hk:k=14\/k=15\/k=17\/k=18):aa ((aY vE).bare 87 [x]) (cW (Format.dE k ks (ks.map Format.ay))):=by
 have hlen:=hs.len;have r:ks[0]? =some ks[0]:=aax (by omega);have u:ks[ks.length - 1]? =some ks[ks.length - 1]:=aax (by omega);have X:IntKind.wrap .i64 ((ks.length:Int) - 1)=((ks.length - 1:Nat):Int):=by rw [wrap_i64 (by omega) (by omega)];omega
 obtain ⟨x2,A,L⟩:=hx.cut (lo:=some 1) (hi:=some ((ks.length - 1:Nat):Int)) (l:=1) (m:=ks.length - 1) (jL (k:=1) (by omega)) (jL (by omega));have d:=J5 1 (oS (ks.length - 1) hs);have B:(ks.take (ks.length - 1)).drop 1=(ks.drop 1).take (ks.length - 2):=by rw [List.drop_take,show ks.length - 1 - 1=ks.length - 2 by omega]
 rw [B] at d;have C: ∀t∈(ks.drop 1).take (ks.length - 2),lH t:=fun t Z=>ih t (List.mem_of_mem_drop (List.mem_of_mem_take Z));have M:((ks.drop 1).take (ks.length - 2)).length=ks.length - 2:=by rw [aat,aas];omega
 have D:Format.dE k ks (ks.map Format.ay)=Format.sV [Format.ay ks[0],Format.BN 1 (Format.lW ((ks.drop 1).take (ks.length - 2)) (((ks.drop 1).take (ks.length - 2)).map Format.ay)),Format.ay ks[ks.length - 1]]:=by
  rw [Format.dE,if_neg (by omega),if_neg (by omega),if_neg (by omega),if_neg (by omega),if_neg (by omega),if_neg (by omega),if_neg (by omega),if_neg (by omega),Format.gJ _ _ _ r,aay,Format.gJ _ _ _ u,List.map_take,List.map_drop]
 generalize (ks.drop 1).take (ks.length - 2)=ms at d C M D;obtain ⟨a0,b0,s0,y0,k0,t0,m0,z0,av,a6,a7,N,E,O,P⟩:=ra hx hs r (ih _ (abj _)) (j:=0) rfl;obtain ⟨a1,b1,s1,y1,k1,t1,m1,z1,a8,bb,F,Q,G,H,J⟩:=ra hx hs u (ih _ (abj _)) (j:=((ks.length - 1:Nat):Int)) rfl;refine aa.bare rfl (aa.step (SL _) ?_);simp only [Y8,iu hx hs,az,X,L,iu A d];refine aa.bind (R:=fun c=> ∃s v ws,c=(0,[v],s)/\Wv S1 s [] 4 pn v ws/\bO (Format.lW ms (ms.map Format.ay)) ws) ?_ ?_
 .refine aa.upto (n:=ms.length) (I:=fun i c=> ∃s v ws,c=([v,.int .i64 (i:Int)],s)/\Wv S1 s [] 4 pn v ws/\bO (Format.lW (ms.take i) ((ms.take i).map Format.ay)) ws) ?_ ?_ ms.length 0 _ (by omega) ⟨S1,.aD,[],rfl,Wv.start (aba _) _ _,gT⟩
  .rintro i c hi ⟨s,v,ws,rfl,w,e⟩;have bt:=dc e;have S:=J0 (ms.take i) ((ms.take i).map Format.ay);rw [aat] at S;obtain ⟨a,b,tx,y,kk,s',m,z,zs,hN,F,hd,Y,ei,cn⟩:=ra A d (aax hi) (C _ (abj hi)) (j:=(i:Int)) rfl;rw [iM hi,Fa];simp only [Hn,ad,af,ae,ak,if_pos (show (i:Int) < (ms.length:Int) by omega),ei,bK,iJ,ai,aw,ao];refine aa.tM w fun s1 _ w=>aa.step (F _) ?_;refine aa.qp [] w fun s2 _ _ w=>aa.ju aad w.w rfl ?_;simp only [aw,ad,af,ao,ae];refine aa.step (cn _ _) ?_;simp only [aw,ad,af,ao,ae,Y.ab,Y.aB];refine aa.AM w (by omega) (by omega) (by omega) fun v3 s3 _ w=>aa.ju aad w.w rfl ?_;simp only [aw,ad,af,ao,ae];refine aa.step (Gw hN [km,oB] (by simp) _ _) (aa.step (al _ _) ?_);refine aa.bind (R:=fun c=> ∃p q g,c=([q],p)/\Wv S1 p [(s.h,27,[.int .u8 (a:Int),.int .u8 (b:Int),.str tx,y])] 4 pn q g/\bO (Format.lW (ms.take i) ((ms.take i).map Format.ay)++Format.ay ms[i]::(if Format.kQ [km,oB] ms[i] then [Format.je] else [])) g) ?_ ?_
   .cases hb:Format.kQ [km,oB] ms[i] with
    | false=>
     refine aa.step (aj _ _) (aa.some ⟨s3,v3,_,rfl,w, ?_⟩);rw [if_neg (by simp)];exact dF e (dG hd)
    | true=>
     refine aa.step (aq _ _) (aa.step (gE _ _) ?_);simp only [aw,ad,af,ao,ae,il.ab,il.aB];refine aa.AM w (by rw [aaa];simp only [abl];omega) (by omega) (by omega) fun q p _ w=>aa.some ⟨p,q,_,rfl,w, ?_⟩;rw [if_pos trivial,aao];exact dF e (fa hd jW)
   .rintro c ⟨p,q,g,rfl,w,T⟩;simp only [ad,ae,az,br (show i+1<=9223372036854775807 by omega)];exact aa.inl ⟨p,q,_,rfl,w.none,T⟩
  .rintro c ⟨s,v,ws,rfl,w,e⟩;simp only [Hn,ad,af,ae,ak,if_neg (show ¬ ((ms.length:Nat):Int) < (ms.length:Int) by omega)];rw [aaH] at e;exact aa.inr ⟨s,v,ws,rfl,w,e⟩
 .rintro c ⟨s,v,ws,rfl,w,e⟩;obtain ⟨x3,K,U,e3⟩:=sd 1 (by omega) w.o e;obtain ⟨x4,V,W,e4⟩:=lk (jg.shut w.w.ro pn (es:=[.agg (dX k0 t0 m0 z0),.agg (dX 5 [] 1 x3),.agg (dX k1 t1 m1 z1)]) (by simp)) (gf N (fa U Q));simp only [ad,ae,O,H,P,J,bK,iJ,ai,aw,af,ao,dm,dq,gK,kD,kL,aaW,aQ];refine aa.step (e3 _ _) ?_;simp only [iu hx hs,az,X,H,J,bK,iJ,ai,aw,ad,af,ao,ae,dm,dq,gK,kD,kL,aaW,aQ,E.ab,E.aB,G.ab,G.aB,K.ab,K.aB];refine aa.step (e4 _ _) ?_;simp only [aw,ad,af,ao,ae];rw [D];exact pX (L6.keeps w.k (fun _ _ f=>f)) V W
theorem Yo (h4:4<=ks.length):aa ((aY vE).bare 94 [x]) (cW (Format.dE 9 ks (ks.map Format.ay))):=by
 have hlen:=hs.len;obtain ⟨x2,g,B⟩:=hx.cut (lo:=none) (hi:=some 3) (l:=0) (m:=3) mE (jL (k:=3) (by omega));rw [aar] at g;have p: ∀j,j+3 < ks.length->((ks.getD 2 default)::(ks.drop 3).take j).getD ((ks.drop 3).take j).length default=ks.getD (j+2) default:=fun j hj=>by
  have hl:((ks.drop 3).take j).length=j:=by rw [aat,aas];omega
  rw [hl];cases j with
  | zero=>rfl
  | succ j=>
   rw [List.getD_cons_succ,aaz,aaz,List.getElem?_take,if_pos (by omega),abG,show 3+j=j+1+2 by omega]
 have V:Format.dE 9 ks (ks.map Format.ay)=Format.sV (Format.bW [Format.cw] 0 ((ks.take 3).map Format.ay)++Format.fL (ks.getD 2 default) (ks.drop 3) ((ks.drop 3).map Format.ay)):=by
  rw [Format.dE,if_neg (by decide),if_neg (by decide),if_neg (by decide),if_pos rfl,List.map_take,List.map_drop]
 refine aa.bare rfl (aa.step (Ur _) ?_);simp only [Zs,B,iz,aw,ad,af,ao,ae,dm,dq,gK,aaW,aQ,il.ab,il.aB];refine aa.iR (kG g (oS _ hs) (bF.shut (by simp)) (dG kV) (by simp) (by rw [aat];omega) (fun t W=>ih t (List.mem_of_mem_take W)) S1 (aba _)) rfl (pP _) ?_;rintro v0 s0 ⟨C,X,D⟩;refine aa.bind (R:=fun c=> ∃s v ws,c=(0,[v],s)/\Wv S1 s [] 4 pn v ws/\bO (Format.bW [Format.cw] 0 ((ks.take 3).map Format.ay)++Format.fL (ks.getD 2 default) (ks.drop 3) ((ks.drop 3).map Format.ay)) ws) ?_ ?_
 .refine aa.upto (n:=ks.length) (I:=fun i c=>3<=i/\ ∃s v ws,c=([v,.int .i64 (i:Int)],s)/\Wv S1 s [] 4 pn v ws/\bO (Format.bW [Format.cw] 0 ((ks.take 3).map Format.ay)++Format.fL (ks.getD 2 default) ((ks.drop 3).take (i - 3)) (((ks.drop 3).take (i - 3)).map Format.ay)) ws) ?_ ?_ (ks.length - 3) 3 _ (by omega) ⟨aah _,s0,v0,C,rfl,X,by rw [abZ,List.take_zero];simpa [Format.fL] using D⟩
  .rintro i c hi ⟨h3,s,v,ws,rfl,w,e⟩;have E:=dc e;have F:=CA ((ks.drop 3).take (i - 3)) (ks.getD 2 default) (((ks.drop 3).take (i - 3)).map Format.ay);have G:=kJ [Format.cw] 0 ((ks.take 3).map Format.ay);rw [aat,aas] at F;rw [aaa] at E;rw [aay,aat] at G;have q:ks[i - 1]? =some ks[i - 1]:=aax (by omega);have H:ks[i]? =some ks[i]:=aax hi;have Y:IntKind.wrap .i64 ((i:Int) - 1)=((i - 1:Nat):Int):=by rw [wrap_i64 (by omega) (by omega)];omega
   obtain ⟨Z,b0,t0,y0,k0,t1,m0,z0,av,J,a1,a6,a7,L,a8⟩:=ra hx hs q (ih _ (abj _)) (j:=((i - 1:Nat):Int)) rfl;obtain ⟨a,b,tx,y,kk,s',m,z,zs,hN,bb,hd,U,ei,cn⟩:=ra hx hs H (ih _ (abj hi)) (j:=(i:Int)) rfl;have M:(ks.drop 3).take (i+1 - 3)=(ks.drop 3).take (i - 3)++[ks[i]]:=by
    have N:i - 3 < (ks.drop 3).length:=by rw [aas];omega
    rw [show i+1 - 3=(i - 3)+1 by omega,iM N,List.getElem_drop];congr 3;omega
   have r:=p (i - 3) (by omega);have O:ks.getD (i - 1) default=ks[i - 1]:=by rw [aaz,q];rfl
   rw [show i - 3+2=i - 1 by omega,O] at r;rw [M,As,r];have d:=fun {γ:Type} (st:St) (K:Kv γ)=>Gw J [fZ] (by simp) st K;have d: ∀{γ:Type} (st:St) (K:Kv γ),aV (aY vE) 88 [.agg [.int .u8 (Z:Int),.int .u8 (b0:Int),.str t0,y0],.sl 1 [.str [124]] .shut] st K=K (.bool (Format.kQ [fZ] ks[i - 1])) st q0:=fun st K=>d st K;simp only [HT,ad,af,ae,iu hx hs,ak,if_pos (show (i:Int) < (ks.length:Int) by omega),gE,aw,ao];refine aa.tM w fun s1 _ w=>aa.step (il.ab _) ?_;refine aa.qp [] w fun s2 _ _ w=> ?_;simp only [az,Y,L,bK,iJ,ai,aw,ad,af,ao,ae,d,al];refine aa.bind (R:=fun c=> ∃u P Q,c=([],u)/\Wv S1 u [(s.h,pn,dX P Q 0 .aD)] 4 pn v ws/\cW (if Format.kQ [fZ] ks[i - 1] then Format.cw else Format.je) (.agg (dX P Q 0 .aD))) ?_ ?_
   .cases hb:Format.kQ [fZ] ks[i - 1] with
    | false=>exact aa.step (aj _ _) (aa.some ⟨s2,2,[],rfl,w,by rw [if_neg (by simp)];exact jW⟩)
    | true=>
     refine aa.step (aq _ _) (aa.step (iz _ _) ?_);simp only [aw,ad,af,ao,ae];refine aa.step (il.ab _) (aa.qp [] w fun u _ _ w=>aa.some ⟨u,1,[32],rfl,w, ?_⟩);rw [if_pos trivial];exact kV
   .rintro c ⟨u,P,Q,rfl,w,hq⟩;refine aa.step (ae _) (aa.ju aad w.w rfl ?_);simp only [aw,ad,af,ao,ae,ei,bK,iJ,ai];refine aa.step (cn _ _) ?_;simp only [aw,ad,af,ao,ae,dm,dq,gK,aaW,aQ,il.ab,il.aB,U.ab,U.aB];refine aa.JE w (by simp) (by simp only [aab,aae];omega) (by omega) (by omega) fun v5 s5 _ w=> ?_;simp only [az,br (show i+1<=9223372036854775807 by omega)];refine aa.inl ⟨by omega,s5,v5,_,rfl,w.none, ?_⟩;rw [<- aao];exact dF e (fa hq hd)
  .rintro c ⟨_,s,v,ws,rfl,w,e⟩;simp only [HT,ad,af,ae,iu hx hs,ak,if_neg (show ¬ ((ks.length:Nat):Int) < (ks.length:Int) by omega)];have A:(ks.drop 3).take (ks.length - 3)=ks.drop 3:=List.take_of_length_le (by rw [aas];exact aah _);rw [A] at e;exact aa.inr ⟨s,v,ws,rfl,w,e⟩
 .rintro c ⟨s,v,ws,rfl,w,e⟩;obtain ⟨x4,S,T,e4⟩:=lk w.o e;simp only [ad,ae];refine aa.step (e4 _ _) ?_;simp only [aw,ad,af,ao,ae];rw [V];exact pX (L6.keeps w.k (fun _ _ f=>f)) S T
end
theorem LS (l:List T) (t:T):Format.dW (l++[t])=Format.dW l++(match Format.jq t with | some s=>[s] | none=>[]):=by
 unfold Format.dW;rw [List.filterMap_append];congr 1;cases h:Format.jq t <;> simp [h]
theorem wP (l:List T):(Format.dW l).length<=l.length:=List.length_filterMap_le _ _
abbrev sT:Td:=9
theorem I6 {k tk:Nat} {s0:LB} {l:List T} {v:AV} (h:iF (.mk k tk s0 l) v) (hl:l.length<=100000000): ∃x,(aY vE).bare 23 [v]=some x/\bF 1 x ((Format.dW l).map AV.str):=by
 obtain ⟨E,F,t,G,x,es,u,rfl,hx,hs⟩:=gm h;cases u;have key:aa (bz vE 23 [.agg [.int .u8 (k:Int),.int .u8 (tk:Int),.str s0,x]]) (fun x=>bF 1 x ((Format.dW l).map AV.str)):=by
  refine aa.step (U8 _) ?_;simp only [g23,aw,ad,af,ao,ae,hx.ab,hx.aB,iu hx hs];refine aa.bind (R:=fun c=> ∃s v,c=(0,[v],s)/\Wv S0 s [] 1 sT v ((Format.dW l).map AV.str)) ?_ ?_
  .refine aa.upto (n:=l.length) (I:=fun i c=> ∃s v,c=([v,.int .i64 (i:Int)],s)/\Wv S0 s [] 1 sT v ((Format.dW (l.take i)).map AV.str)) ?_ ?_ l.length 0 _ (by omega) ⟨S0,.aD,rfl,Wv.start (aah _) _ _⟩
   .rintro i c hi ⟨s,v,rfl,w⟩;have j:=wP (l.take i);rw [aat] at j;obtain ⟨a,b,tx,y,z,e⟩:=yO hx hs (aax hi);obtain ⟨H,J,A,l2,K,B,m,g,p,C⟩:=gm z;simp only [AV.agg.injEq,abo,AV.int.injEq,aca,Int.natCast_inj,AV.str.injEq,abW] at g;obtain ⟨rfl,rfl,rfl,rfl⟩:=g;rw [iM hi,LS,m];simp only [H7,ad,af,ae,ak,if_pos (show (i:Int) < (l.length:Int) by omega)];refine aa.step (e s _) ?_;refine aa.tM w fun t _ w=>aa.step (p.ab _) ?_;refine aa.qp [] w fun D _ _ w=>aa.pI aad w.w (o:=1) rfl ?_;refine aa.step (af _ _ _) ?_;rw [show ((b:Int)==2)=(b==2) from cU b 2];refine aa.bind (R:=fun c=> ∃d f,c=([f],d)/\Wv S0 d [(s.h,27,[.int .u8 (a:Int),.int .u8 (b:Int),.str tx,y])] 1 sT f ((Format.dW (l.take i)++(match Format.jq (.mk a b tx l2) with | some s=>[s] | none=>[])).map AV.str)) ?_ ?_
    .by_cases q:b=2
     .subst q;refine aa.step (aq _ _) (aa.pI aad w.w (o:=2) rfl (aa.step (ao _ _) ?_));refine aa.AM w (by rw [aay];omega) (by omega) (by omega) fun f d _ w=>aa.some ⟨d,f,rfl, ?_⟩;rw [aaK];exact w
     .refine aa.step (cQ (c:=false) (aai.2 q) _ _) (aa.step (aj _ _) (aa.some ⟨D,v,rfl, ?_⟩));rw [show Format.jq (.mk a b tx l2)=none from if_neg q];simpa using w
    .rintro c ⟨d,f,rfl,w⟩;simp only [ad,ae,az,br (show i+1<=9223372036854775807 by omega)];exact aa.inl ⟨d,f,rfl,w.none⟩
   .rintro c ⟨s,v,rfl,w⟩;simp only [H7,ad,af,ae,ak,if_neg (show ¬ ((l.length:Nat):Int) < (l.length:Int) by omega)];rw [aaH] at w;exact aa.inr ⟨s,v,rfl,w⟩
  .rintro c ⟨s,v,rfl,w⟩;simp only [ad,ae,vN];exact aa.X5 w fun x hx=>aa.some hx
 obtain ⟨x',e,r⟩:=key;exact ⟨x',aM rfl e,r⟩
theorem uK {k tk:Nat} {s0:LB} {l:List T} {v:AV} (h:iF (.mk k tk s0 l) v) (hl:l.length<=100000000): ∃x,bF 1 x ((Format.dW l).map AV.str)/\ ∀{γ:Type} (st:St) (K:Kv γ),aV (aY vE) 23 [v] st K=K x st q0:=by
 obtain ⟨x,e,hx⟩:=I6 h hl;exact ⟨x,hx,fun st K=>sE h rfl e st K⟩
theorem MA {tk:Nat} {s0:LB} {l:List T} (hl:l.length<=100000000) (y: ∀r∈Format.dW l,r.length<=1000000000) (h0:s0.length<=1000000000):lH (.mk 1 tk s0 l):=by
 intro v h;obtain ⟨rx,g,z⟩:=uK h hl;obtain ⟨G,H,J,L,x,es,A,rfl,hx,hs⟩:=gm h;cases A;have B:=wP l;have hnd:Format.ay (.mk 1 tk s0 l)=Format.row ((Format.dW l).flatMap (fun r=>[Format.tx r,Format.je])++[Format.tx s0]):=by rw [Format.ay,if_pos rfl,Format.Cy]
 have j: ∀(m:List LB),(m.flatMap (fun r=>[Format.tx r,Format.je])).length=2 * m.length:=fun m=>by
  induction m with
  | nil=>rfl
  | cons a m ih=>rw [abA,aaa,ih,aab];simp only [aab,aae];omega
 have key:aa (bz vE 22 [.agg [.int .u8 ((1:Nat):Int),.int .u8 (tk:Int),.str s0,x]]) (cW (Format.ay (.mk 1 tk s0 l))):=by
  rw [hnd];refine aa.step (NG _) ?_;simp only [g22,aw,ad,af,ao,ae,hx.ab,hx.aB];rw [show (((1:Nat):Int) != 1)=false from rfl];refine aa.step (aj _ _) (aa.step (z _ _) ?_);simp only [g.len,aay];generalize Format.dW l=R at *;refine aa.bind (R:=fun c=> ∃s v ws,c=(0,[v],s)/\Wv S1 s [] 4 pn v ws/\bO (R.flatMap fun r=>[Format.tx r,Format.je]) ws) ?_ ?_
  .refine aa.upto (n:=R.length) (I:=fun i c=> ∃s v ws,c=([v,.int .i64 (i:Int)],s)/\Wv S1 s [] 4 pn v ws/\bO ((R.take i).flatMap fun r=>[Format.tx r,Format.je]) ws) ?_ ?_ R.length 0 _ (by omega) ⟨S1,.aD,[],rfl,Wv.start (aba _) _ _,gT⟩
   .rintro i c hi ⟨s,v,ws,rfl,w,b⟩;have d:=dc b;rw [j,aat] at d;have C:=fun {γ:Type} (st:St) (K:AV->Ln->Oq γ)=>g.idx (k:=i) (v:= .str R[i]) (by rw [abc,aax hi];rfl) st K;have D:=y R[i] (abj hi);rw [iM hi,List.flatMap_append];simp only [Hu,ad,af,ae,ak,if_pos (show (i:Int) < (R.length:Int) by omega),C,AV.cells,bK,aL,ai,ao,wU,gE,aw,il.ab,il.aB];refine aa.JE w (by simp) (by simp only [aab,aae];omega) (by omega) (by omega) fun t u _ w=> ?_;simp only [az,br (show i+1<=9223372036854775807 by omega)];exact aa.inl ⟨u,t,_,rfl,w,dF b (fa (DF (by omega)) jW)⟩
   .rintro c ⟨s,v,ws,rfl,w,b⟩;simp only [Hu,ad,af,ae,ak,if_neg (show ¬ ((R.length:Nat):Int) < (R.length:Int) by omega)];rw [aaH] at b;exact aa.inr ⟨s,v,ws,rfl,w,b⟩
  .rintro c ⟨s,v,ws,rfl,w,b⟩;have d:=dc b;rw [j] at d;simp only [ad,ae,wU,aw,af,ao,il.ab,il.aB];refine aa.AM w (by omega) (by omega) (by omega) fun t u _ w=> ?_;obtain ⟨M,p,q,E⟩:=zy w.o (dF b (dG (DF (s:=s0) (by omega))));refine aa.step (E _ _) ?_;simp only [aw,ad,af,ao,ae];exact pX (L6.keeps w.k (fun _ _ f=>f)) p q
 obtain ⟨F,e,hd⟩:=key;exact ⟨F,aM rfl e,hd⟩
noncomputable def I9:AV:=(Zv).getD .aD
theorem IL {γ:Type} (st:St) (K:Kv γ):aV (aY vE) 49 [] st K=K I9 st q0:=aG st K rfl rfl rfl (aM rfl TF)
def gl (k F:Nat):Prop:=jM (Env.T vE) 89 I9 (.int .u8 (k:Int)) false= .ok (.val (.fn (.func F) [] []))
theorem Z0:gl 5 84:=by unfold gl;kernel_rfl
theorem Z6:gl 7 84:=by unfold gl;kernel_rfl
theorem Z2:gl 6 90:=by unfold gl;kernel_rfl
theorem ZY:gl 8 91:=by unfold gl;kernel_rfl
theorem Z9:gl 9 94:=by unfold gl;kernel_rfl
theorem YE:gl 10 95:=by unfold gl;kernel_rfl
theorem Yk:gl 11 96:=by unfold gl;kernel_rfl
theorem YR:gl 12 97:=by unfold gl;kernel_rfl
theorem XZ:gl 16 98:=by unfold gl;kernel_rfl
theorem Yr:gl 13 99:=by unfold gl;kernel_rfl
theorem YH:gl 14 87:=by unfold gl;kernel_rfl
theorem Yc:gl 15 87:=by unfold gl;kernel_rfl
theorem YL:gl 17 87:=by unfold gl;kernel_rfl
theorem Yt:gl 18 87:=by unfold gl;kernel_rfl
theorem eV {k F:Nat} {ks:List T} (c:k≠1) (look:gl k F) (a:vE.full F=false)
  (b: ∀(y:AV) (st:St) (K:Kv AV),jx (aY vE) (Sx.prim (sx vE 22)) (.fn (.func F) [] []) [y] st K=aV (aY vE) F [y] st K) (ok:SU F k ks):lH (node k ks):=by
 intro v h;obtain ⟨m,n,o,p,x,es,d,rfl,hx,hs⟩:=gm h;cases d;obtain ⟨g,i,hd⟩:=ok x es hx hs;have j:=fun {γ:Type} (st:St) (K:Kv γ)=>aG (f:=F) st K a (by simp only [aal,aaN,hx.strip]) (by simp only [bf,hx.bare];rfl) i;have look:jM (Env.T vE) 89 I9 (.int .u8 (k:Int)) false= _:=look;have key:aa (bz vE 22 [.agg [.int .u8 (k:Int),.int .u8 ((0:Nat):Int),.str [],x]]) (cW (Format.ay (node k ks))):=by
  rw [Format.fD c];refine aa.step (NG _) ?_;simp only [g22,aw,ad,af,ao,ae,hx.ab,hx.aB];rw [show ((k:Int) != 1)=true by rw [show ((k:Int) != 1)=(k != 1) from vf k 1];simpa using c];refine aa.step (aq _ _) (aa.step (IL _ _) ?_);simp only [dm,dq,gK,aaW,aQ,look,Mc];refine aa.step (b _ _ _) (aa.step (j _ _) ?_);obtain ⟨q,r,s,kids,z,zs,d,rfl,l,_⟩:=kK hd;simp only [aw,ad,af,ao,ae];exact pX L6 l hd
 obtain ⟨g,e,hd⟩:=key;exact ⟨g,aM rfl e,hd⟩
def ph (t:T):Prop:=1<=(eK t).length/\((eK t).length<=1000000->lH t)
theorem I1 (t:T) (l:List T):cC (t::l)=eK t++cC l:=by simp [cC]
theorem qS: ∀{ks:List T},(∀t∈ks,1<=(eK t).length)->ks.length<=(cC ks).length
 | [],_=>aba _
 | t::l,h=>by
  have h1:=h t (by simp);have b:=qS (ks:=l) fun u a=>h u (aak _ a);rw [I1,aaa,aab];omega
theorem mo {t:T}: ∀{ks:List T},t∈ks->(eK t).length<=(cC ks).length
 | u::l,h=>by
  rw [I1,aaa];rcases aam.1 h with rfl | h
  .omega
  .have:=mo h;omega
def NE (t:aW):Prop:=t.2≠[]
theorem pD (x:aW):eK (bc x)=x.2:=by simp [bc,leaf,eK,cC]
theorem nV (k:Nat) (s:LB) (r:List aW) (_h0:k≠0) (_h1:k≠1) (_h2:k≠2) (b:NE (k,s)) (d: ∀x∈r,bl x=true/\NE x):ph (.mk 1 k s (r.map bc)):=by
 have hs:1<=s.length:=by
  cases s with
  | nil=>exact absurd rfl b
  | cons _ _=>simp
 have c:(eK (.mk 1 k s (r.map bc))).length=(cC (r.map bc)).length+s.length:=by simp [eK]
 have f:(r.map bc).length<=(cC (r.map bc)).length:=qS fun t c=>by
  obtain ⟨x,hx,rfl⟩:=abf.1 c;have:=(d x hx).2;rw [pD];exact acd.2 this
 refine ⟨by omega,fun hl=>MA (by omega) (fun q b=> ?_) (by omega)⟩;obtain ⟨t,a,e⟩:=List.mem_filterMap.1 b;obtain ⟨x,hx,rfl⟩:=abf.1 a;have hm:=mo a;rw [pD] at hm;have:q=x.2:=by
  have e:(if x.1=2 then some x.2 else none)=some q:=e;split at e
  .cases e;rfl
  .cases e
 rw [this];omega
theorem nW (k:Nat) (ks:List T) (a:Format.Kd k ks) (h: ∀t∈ks,ph t):ph (node k ks):=by
 have f:=qS fun t b=>(h t b).1;have b:eK (node k ks)=cC ks:=by simp [node,eK,a.k1]
 have d:=a.two;refine ⟨by rw [b];omega,fun hl=> ?_⟩;rw [b] at hl;have hn:ks.length<=1000000:=by omega
 have ih: ∀t∈ks,lH t:=fun t b=>(h t b).2 (by have:=mo b;omega);have e:=a.kind;have c:k=5\/k=6\/k=7\/k=8\/k=9\/k=10\/k=11\/k=12\/k=13\/k=14\/k=15\/k=16\/k=17\/k=18:=by omega
 rcases c with rfl | rfl | rfl | rfl | rfl | rfl | rfl | rfl | rfl | rfl | rfl | rfl | rfl | rfl
 .exact eV (by decide) Z0 rfl (fun _ _ _=>rfl) fun x es hx hs=>WU hx hs hn ih (by omega) (.inl rfl)
 .exact eV (by decide) Z2 rfl (fun _ _ _=>rfl) fun x es hx hs=>X0 hx hs hn ih (a.k6 rfl)
 .exact eV (by decide) Z6 rfl (fun _ _ _=>rfl) fun x es hx hs=>WU hx hs hn ih (by omega) (.inr rfl)
 .exact eV (by decide) ZY rfl (fun _ _ _=>rfl) fun x es hx hs=>X3 hx hs hn ih
 .exact eV (by decide) Z9 rfl (fun _ _ _=>rfl) fun x es hx hs=>Yo hx hs hn ih (a.k9 rfl)
 .exact eV (by decide) YE rfl (fun _ _ _=>rfl) fun x es hx hs=>YF hx hs ih (a.k10 rfl)
 .exact eV (by decide) Yk rfl (fun _ _ _=>rfl) fun x es hx hs=>Ye hx hs hn ih
 .exact eV (by decide) YR rfl (fun _ _ _=>rfl) fun x es hx hs=>Yj hx hs hn ih
 .exact eV (by decide) Yr rfl (fun _ _ _=>rfl) fun x es hx hs=>VZ hx hs ih (a.k13 rfl)
 .exact eV (by decide) YH rfl (fun _ _ _=>rfl) fun x es hx hs=>QR hx hs hn ih d (.inl rfl)
 .exact eV (by decide) Yc rfl (fun _ _ _=>rfl) fun x es hx hs=>QR hx hs hn ih d (.inr (.inl rfl))
 .exact eV (by decide) XZ rfl (fun _ _ _=>rfl) fun x es hx hs=>XX hx hs hn ih
 .exact eV (by decide) YL rfl (fun _ _ _=>rfl) fun x es hx hs=>QR hx hs hn ih d (.inr (.inr (.inl rfl)))
 .exact eV (by decide) Yt rfl (fun _ _ _=>rfl) fun x es hx hs=>QR hx hs hn ih d (.inr (.inr (.inr rfl)))
end Go.Proofs.YtkpeicabocpbkaaGreatDoor.Vm
namespace Go.Proofs.YtkpeicabocpbkaaGreatDoor.Vm
open Go Go.VM Go.Proofs Go.Lex Go.Parse
def Jf (s:LB):Bool:=s.any fun c=>c==10||c==13
theorem HX {s:LB} (h:s.length<=4000000000):nk [.str s,.str [10,13]]= .ok (.bool (Jf s)):=by
 have h1:(s.length.blt 4294967281&&([10,13]:LB).isEqv [10,13] (fun a b=>a.toNat.beq b.toNat))=true:=by
  rw [show ([10,13]:LB).isEqv [10,13] (fun a b=>a.toNat.beq b.toNat)=true from rfl,abv];exact cS.2 (by omega)
 simp only [nk,h1,Jf]
theorem Jn: ∀(l:List T),Format.fS l=l.any Format.dw
 | []=>rfl
 | t::l=>by simp only [Format.fS,abr,Jn l]
theorem Ck {l:List T} {x:AV} {es:LA} (hx:bF 4 x es) (hs:bA l es) (n: ∀t∈l,∀v,iF t v->(aY vE).bare 21 [v]=some (.bool (Format.dw t))) (st:St): ∀(m:List T) (j:Nat),l.drop j=m->
  ∃(k:Nat) (i:Int),aH (mP x (.fn (.func 21) [] []) l.length) ([.int .i64 0,.int .i64 (j:Int)],st)=some (k,[.int .i64 i],st)/\((k=0/\m.any Format.dw=false)\/(k=1/\0<=i/\m.any Format.dw=true))
 | [],j,hd=>by
  have:=aaQ.1 hd;have q:¬ (j:Int) < (l.length:Int):=by omega
  refine ⟨0,0,aF ?_,.inl ⟨rfl,rfl⟩⟩;simp only [mP,ad,af,ae,ak,if_neg q]
 | t::m,j,hd=>by
  obtain ⟨d,p,r⟩:=drop_cons hd;have q:(j:Int) < (l.length:Int):=by omega
  have hlen:=Ji hx hs;obtain ⟨a,b,s,y,o,e⟩:=yO hx hs d;have c:=n t (aaJ d) _ o;have u: ∀{γ:Type} (st:St) (K:Kv γ),jx (aY vE) (Sx.prim (sx vE 82)) (.fn (.func 21) [] []) [.agg [.int .u8 (a:Int),.int .u8 (b:Int),.str s,y]] st K=K (.bool (Format.dw t)) st q0:=fun st K=>(show _=aV (aY vE) 21 [_] st K from rfl).trans (sE o rfl c st K);have f:mP x (.fn (.func 21) [] []) l.length ([.int .i64 0,.int .i64 (j:Int)],st)=aX (Format.dw t) (some (.inr (1,[.int .i64 (j:Int)],st))) (some (.inl ([.int .i64 0,.int .i64 ((j+1:Nat):Int)],st))):=by
   simp only [mP,ad,af,ae,ak,if_pos q];refine (e st _).trans ?_;simp only [u,al,az,br (show j+1<=9223372036854775807 by omega)]
  cases g:Format.dw t with
  | true=>
   rw [g] at f;exact ⟨1,j,aF f,.inr ⟨rfl,by omega,by simp [g]⟩⟩
  | false=>
   rw [g] at f;obtain ⟨k,i,w,h⟩:=Ck hx hs n st m (j+1) p;refine ⟨k,i,by rw [aJ f,w], ?_⟩;simpa [g] using h
theorem rO {tk:Nat} {tx:LB} {l:List T}:eK (.mk 1 tk tx l)=cC l++tx:=by simp [eK]
theorem tg {k tk:Nat} {tx:LB} {l:List T} (h:k≠1):eK (.mk k tk tx l)=cC l:=by simp [eK,h]
theorem zg {t:T}: ∀{ks:List T},t∈ks->(eK t).length<=(cC ks).length
 | u::l,h=>by
  rw [cC,aaa];rcases aam.1 h with rfl | h
  .omega
  .have:=zg h;omega
theorem OV: ∀(t:T),(eK t).length<=1000000000-> ∀(v:AV),iF t v->(aY vE).bare 21 [v]=some (.bool (Format.dw t)):=by
 refine T.ind fun k tk tx l ih hlen v b=> ?_;simp only [iF] at b;obtain ⟨x,es,rfl,hx,hs⟩:=b;have m:(cC l).length<=1000000000:=by
  by_cases h:k=1
  .subst h;rw [rO,aaa] at hlen;omega
  .rw [tg h] at hlen;exact hlen
 have ih: ∀t∈l,∀v,iF t v->(aY vE).bare 21 [v]=some (.bool (Format.dw t)):=fun t d=>ih t d (by have:=zg d;omega);have n:(aY vE).bare 46 [x,.fn (.func 21) [] []]=some (.bool (Format.fS l)):=by
  rw [Jn];have hi: ∃i:Int,(aY vE).bare 82 [x,.fn (.func 21) [] []]=some (.int .i64 i)/\decide (i>=0)=l.any Format.dw:=by
   obtain ⟨k,i,e,h⟩:=Ck hx hs ih S0 l 0 rfl;have e:aH (mP x (.fn (.func 21) [] []) l.length) ([.int .i64 0,.int .i64 0],S0)= _:=e;rcases h with ⟨rfl,h⟩ | ⟨rfl,h0,h⟩
   .refine ⟨-1,aM rfl ((DS _ _).trans ?_),by rw [h];rfl⟩;simp only [WB,iu hx hs,e,ai,ad,af,ae,eX]
   .refine ⟨i,aM rfl ((DS _ _).trans ?_),by rw [h];simpa using h0⟩;simp only [WB,iu hx hs,e,ai,ad,af,ae,iq]
  obtain ⟨i,h1,g⟩:=hi;refine aM rfl ((Nq _ _).trans ?_);have c:=fun {β:Type} (st:St) (K:Kv β)=>aG (f:=82) st K rfl (by simp only [aal,aaN,hx.strip];rfl) (by simp only [bf,hx.bare];rfl) h1;simp only [Yx,c,af,g]
 have j:=fun {β:Type} (st:St) (K:Kv β)=>aG (f:=46) st K rfl (by simp only [aal,aaN,hx.strip];rfl) (by simp only [bf,hx.bare];rfl) n;refine aM rfl ((TU _).trans ?_);have o:((k:Int)==1)=(k==1):=cU k 1;have p:((tk:Int)==2)=(tk==2):=cU tk 2;have q:((tk:Int)==7)=(tk==7):=cU tk 7;have a:(tx.any fun c=>c==10||c==13)=Jf tx:=rfl;simp only [g21,aw,ad,af,ao,ae,hx.ab,hx.aB,o,p,q,Format.dw,a];cases h1:k==1 with
 | false=>simp only [aj,j,ai,ad,al,ae,abw,aaV]
 | true=>
  have r:k=1:=aaM.1 h1;subst r;have hl:=fun {β:Type} (st:St) (K:Kv β)=>fC (O:=aY vE) (HX (s:=tx) (by rw [rO,aaa] at hlen;omega)) st K;generalize Jf tx=A at *;simp only [aq,hl];cases g:tk==2 <;> cases u:tk==7 <;> cases A <;> simp only [aq,aj,hl,j,ai,ad,al,ae,abw,aaV,abB,abI,abv,acf,acj,Bool.or_true,aaW,Bool.or_self]
theorem HO {t:T} {v:AV} (a:iF t v) (h:(eK t).length<=1000000000) {γ:Type} (st:St) (K:Kv γ):aV (aY vE) 21 [v] st K=K (.bool (Format.dw t)) st q0:=sE a rfl (OV t h v a) st K
end Go.Proofs.YtkpeicabocpbkaaGreatDoor.Vm
namespace Go.Proofs.YtkpeicabocpbkaaGreatDoor.Vm
open Go Go.VM Go.Proofs Go.Lex Go.Parse Go.Lay
theorem CQ: ∀(i:Nat) (l m:List Doc),Format.df i (l++m)=Format.df i l++Format.df (i+l.length) m
 | i,[],m=>by simp [Format.df]
 | i,d::l,m=>by
  rw [aap,Format.df,Format.df,CQ (i+1) l m,aab,aao,show i+1+l.length=i+(l.length+1) by omega];rfl
theorem CM: ∀(i:Nat) (l:List Doc),(Format.df i l).length<=3 * l.length
 | i,[]=>by simp [Format.df]
 | i,d::l=>by
  have:=CM (i+1) l;rw [Format.df];split <;> simp only [aaa,aab,aae] <;> omega
theorem Dy {s:LB} {t:T} (h:Lf NE s t):ph t:=Format.dS nV h
theorem T8 {t:T} (h:ET NE t):ph t:=(Format.Ey nV nW _).1 _ (abt _) h
theorem Np {t:T} (h:PT NE t):ph t:=(Format.Ey nV nW _).2.1 _ (abt _) h
theorem PL {l:List T} (h:BT NE l): ∀x∈l,ph x:=by
 intro x hx;cases h with
 | mk a c b d e=>
  simp only [aam,aaA,aaG,aaD,or_false] at hx;rcases hx with ((hx | rfl | hx) | rfl) | rfl
  .rcases a with rfl | ⟨r,a,rfl⟩
   .cases hx
   .rw [aaG.1 hx];exact Dy a
  .exact Np c
  .exact Np (b x hx)
  .exact Dy d
  .exact T8 e
theorem Ml {a:T} {bs:List T} (c:Lf NE lI a) (b:BT NE bs):ph (node 5 (a::bs)):=by
 have:=Format.OE b;refine nW 5 _ (Format.wS (by simp only [aab];omega) (.inl rfl)) fun x hx=> ?_;rcases aam.1 hx with rfl | hx
 .exact Dy c
 .exact PL b x hx
theorem F5: ∀(l:List T),DT NE l-> ∃(ds:List T) (r:List aW),l=ds++[.mk 1 0 [] (r.map bc)]/\(∀t∈ds,ph t)/\ ∀x∈r,NE x
 | _,.last (ks:=ks) c=>by
  obtain ⟨r,rfl,d⟩:=c;exact ⟨[],r,rfl,(by simp),fun x hx=>(d x hx).2⟩
 | _,.cons (a:=a) (bs:=bs) (l:=l) e f hl=>by
  obtain ⟨ds,r,rfl,h1,g⟩:=F5 l hl;refine ⟨node 5 (a::bs)::ds,r,rfl,fun t b=> ?_,g⟩;rcases aam.1 b with rfl | b
  .exact Ml e f
  .exact h1 t b
theorem Kr (s:LB):qh NE (tokens s):=fun t a=>(Ast.H4 _ s t a).1
theorem Lm {s:LB} (f:bZ (doc (tokens s))=true): ∃(ds:List T) (r:List aW),doc (tokens s)=node 4 (ds++[.mk 1 0 [] (r.map bc)])/\(s.length<=65536->ds.length<=65536/\r.length<=65536/\ ∀t∈ds,lH t):=by
 obtain ⟨l,g,c⟩:=lZ (tokens s);have b:=f;rw [c] at b;have d:=qN (Q:=NE) _ _ _ g (iy s) (Kr s) (dV b);obtain ⟨ds,r,rfl,h1,h⟩:=F5 l d;refine ⟨ds,r,c,fun hs=> ?_⟩;have a:cC (ds++[.mk 1 0 [] (r.map bc)])=s:=by
  have:=Gt (tokens s) (iy s);rw [c,jB] at this;rw [<- this];exact (tg (by decide)).symm
 have hl:=aaY List.length a;rw [eU,aaa] at hl;have j:(cC [T.mk 1 0 [] (r.map bc)]).length=(cC (r.map bc)).length:=by
  rw [I1,rO];simp [cC]
 have i:=qS fun t a=>(h1 t a).1;have e:(r.map bc).length<=(cC (r.map bc)).length:=qS fun t a=>by
  obtain ⟨x,hx,rfl⟩:=abf.1 a;rw [pD];exact acd.2 (h x hx)
 rw [aay] at e;refine ⟨by omega,by omega,fun t a=>(h1 t a).2 ?_⟩;have:=mo a;omega
theorem Z3 {st:St} {x x':AV} (a: ∀n,VM.freeze st 0 (n+1) x= .ok x') (k:Int) (s:LB) (m:Int) (n:Nat):VM.freeze st 0 (n+2) (.agg (dX k s m x))= .ok (.agg (dX k s m x')):=by
 have h:kF (VM.freeze st 0 (n+1)) (dX k s m x)= .ok (dX k s m x'):=fT (ku _ _ st 0 (n+1) (by omega)) (fT (Ec _ st 0 (n+1) (by omega)) (fT (ku _ _ st 0 (n+1) (by omega)) (fT (a n) uk)));show (do pure (.agg (<- kF (VM.freeze st 0 (n+1)) (dX k s m x))):cY AV)= _;rw [h];rfl
theorem Kn {st:St} {x x':AV} {es:LA} (hx:bF 4 x' es) (a: ∀n,VM.freeze st 0 (n+1) x= .ok x') (k:Int) (s:LB) (m n:Int) {β:Type} (K:AV->Oq β):
  eQ st 0 (.tup [.agg (dX k s m x),.int .i64 n]) K=K (.tup [.agg (dX k s m x'),.int .i64 n]):=by
 refine Jq (fT (Z3 a k s m 97) (fT (ku _ _ st 0 99 (by omega)) uk)) ?_ K;simp only [bf,zX,hx.bare];rfl
theorem JU {st:St} (w:Vw st [(0,pn,d4)]) (n:Int):
  aa (bm (aY vE) 4 (.mp 0 0) (.agg d4) d4 st fun _ s _=>ar 4 true (.mp 0 0) s fun v _=>Bu v fun l=>bg l fun v1 l=>bj .u8 v1 fun a=>bg l fun b l=>dN b fun c=>bg l fun d l=>bj .i64 d fun e=>bg l fun f l=>bB l (eQ s 0 (.tup [.agg [.int .u8 a,.str c,.int .i64 e,f],.int .i64 n]) fun v=>some v)) (· = .tup [.agg d4,.int .i64 n]):=by
 refine aa.mW [] w (fun g _ _ w=>aa.ju aad w rfl ?_);simp only [aw,ad,af,ao,ae];exact aa.step (Kn bF.aD (fun n=>Kl g 0 (n+1) (by omega)) 0 [] 0 n _) (aa.some rfl)
def DM (s:LB) (b:AV):Prop:=match Format.tS s with
 | .ok d=> ∃a,b= .tup [a,.int .i64 0]/\cW d a
 | .error n=>b= .tup [.agg d4,.int .i64 (n:Int)]
theorem SS {ds:List T} {x:AV} {es:LA} (hx:bF 4 x es) (hs:bA ds es) (hn:ds.length<=100000) (ih: ∀t∈ds,lH t) {st0:St} (f:st0.ro<=st0.h):
  aa (aH (DD x es.length) ([.aD,.int .i64 0],st0)) fun c=> ∃s v ws,c=(0,[v],s)/\Wv st0 s [] 4 pn v ws/\bO (ds.map Format.ay) ws:=by
 have hlen:=hs.len;refine aa.upto (n:=ds.length) (I:=fun i c=> ∃s v ws,c=([v,.int .i64 (i:Int)],s)/\Wv st0 s [] 4 pn v ws/\bO ((ds.take i).map Format.ay) ws) ?_ ?_ ds.length 0 _ (by omega) ⟨st0,.aD,[],rfl,Wv.start f _ _,gT⟩
 .rintro i c hi ⟨s,v,ws,rfl,w,d⟩;have g:=dc d;rw [aay,aat] at g;obtain ⟨a,b,tx,z,u,j,e,k,s',m,q,y,hd,l,o⟩:=GV hx hs (aax hi) (ih _ (abj hi));rw [iM hi,aaK];simp only [DD,ad,af,ae,ak,if_pos (show (i:Int) < (es.length:Int) by omega)];refine aa.step (e s _) ?_;refine aa.tM w fun A _ w=>aa.step (j _) ?_;refine aa.qp [] w fun B _ _ w=> ?_;refine aa.ju aad w.w rfl ?_;simp only [aw,ad,af,ao,ae];refine aa.step (o _ _) ?_;simp only [aw,ad,af,ao,ae,l.ab,l.aB];refine aa.AM w (by omega) (by omega) (by omega) fun p r _ w=> ?_;simp only [az,br (show i+1<=9223372036854775807 by omega)];exact aa.inl ⟨r,p,_,rfl,w.none,dF d (dG hd)⟩
 .rintro c ⟨s,v,ws,rfl,w,d⟩;simp only [DD,ad,af,ae,ak,if_neg (show ¬ ((ds.length:Nat):Int) < (es.length:Int) by omega)];rw [aaH] at d;exact aa.inr ⟨s,v,ws,rfl,w,d⟩
theorem Ty {R:List LB} {x:AV} (hx:bF 1 x (R.map AV.str)) (hn:R.length<=100000) (g: ∀r∈R,r.length<=1000000000) {st0 st1:St} {v0:AV} {a:LA} {d:List Doc} (h:Wv st0 st1 [] 4 pn v0 a) (e:bO d a) (p:d.length<=100000):
  aa (aH (DK x R.length) ([v0,.int .i64 0],st1)) fun c=> ∃s v ws,c=(0,[v],s)/\Wv st0 s [] 4 pn v ws/\bO (d++R.map Format.tx) ws:=by
 refine aa.upto (n:=R.length) (I:=fun i c=> ∃s v ws,c=([v,.int .i64 (i:Int)],s)/\Wv st0 s [] 4 pn v ws/\bO (d++(R.take i).map Format.tx) ws) ?_ ?_ R.length 0 _ (by omega) ⟨st1,v0,a,rfl,h,by simpa using e⟩
 .rintro i c hi ⟨s,v,ws,rfl,w,b⟩;have f:=dc b;rw [aaa,aay,aat] at f;have j:=fun {γ:Type} (st:St) (K:AV->Ln->Oq γ)=>hx.idx (k:=i) (v:= .str R[i]) (by rw [abc,aax hi];rfl) st K;have l:=g R[i] (abj hi);rw [iM hi,aaK, <- aao];simp only [DK,ad,af,ae,ak,if_pos (show (i:Int) < (R.length:Int) by omega),j,AV.cells,bK,aL,ai,ao,wU,aw,il.ab,il.aB];refine aa.AM w (by omega) (by omega) (by omega) fun m o _ w=> ?_;simp only [az,br (show i+1<=9223372036854775807 by omega)];exact aa.inl ⟨o,m,_,rfl,w,dF b (dG (DF (by omega)))⟩
 .rintro c ⟨s,v,ws,rfl,w,b⟩;simp only [DK,ad,af,ae,ak,if_neg (show ¬ ((R.length:Nat):Int) < (R.length:Int) by omega)];rw [aaH] at b;exact aa.inr ⟨s,v,ws,rfl,w,b⟩
theorem Ve {D:List Doc} {x:AV} {ws:LA} {e:Td} {sx:St} (hx:jg sx 4 e x ws) (t:bO D ws) (hn:D.length<=200000) {st0 st1:St} (v:Wv st0 st1 [(st0.h,pn,dX 7 [] 0 .aD)] 4 pn .aD []):
  aa (aH (ES x st0 ws.length) ([.int .i64 0],st1)) fun c=> ∃s y us,c=(0,[],s)/\Wv st0 s [(st0.h,pn,dX 7 [] 0 y)] 4 pn y us/\bO (Format.df 0 D) us:=by
 have hlen:=dc t;refine aa.upto (n:=D.length) (I:=fun i c=> ∃s y us,c=([.int .i64 (i:Int)],s)/\Wv st0 s [(st0.h,pn,dX 7 [] 0 y)] 4 pn y us/\bO (Format.df 0 (D.take i)) us) ?_ ?_ D.length 0 _ (by omega) ⟨st1,.aD,[],rfl,v,gT⟩
 .rintro i c hi ⟨s,y,us,rfl,w,a⟩;have A:=dc a;have B:=CM 0 (D.take i);rw [aat] at B;obtain ⟨u,g,b⟩:=wM t (aax hi);obtain ⟨k,s',m,kids,z,zs,J,rfl,j,_⟩:=kK b;have l:Format.df 0 (D.take (i+1))=Format.df 0 (D.take i)++((if i=0 then [] else [Format.OQ])++[D[i],Format.OQ]):=by
   rw [iM hi,CQ,aat,abR (by omega),aau,Format.df,Format.df]
  rw [l];simp only [ES,ad,af,ae,ak,if_pos (show (i:Int) < (ws.length:Int) by omega)];refine aa.step (Ql hx g _ _) ?_;simp only [AV.cells,bK,iJ,ai,aw,ad,af,ao,ae];refine aa.tM w fun K _ w=>aa.step (j.ab _) ?_;refine aa.qp [] w fun C _ _ w=> ?_;refine aa.bind (R:=fun c=> ∃p y us,c=([],p)/\Wv st0 p [(s.h,pn,dX k s' m z),(st0.h,pn,dX 7 [] 0 y)] 4 pn y us/\bO (Format.df 0 (D.take i)++(if i=0 then [] else [Format.OQ])) us) ?_ ?_
  .by_cases h0:i=0
   .subst h0;exact aa.step (if_neg (by omega)) (aa.some ⟨C,y,us,rfl,w,by simpa using a⟩)
   .rw [if_neg h0];refine aa.step (if_pos (by omega)) ?_;refine aa.pI (aak _ aad) w.w (o:=3) rfl ?_;refine aa.AM w (by omega) (by omega) (by omega) fun q E _ w=> ?_;refine aa.one w.o.one (aa.one w.o.one ?_);exact aa.ZI [_] w (aaq rfl) fun r F _ w=>aa.some ⟨r,q,_,rfl,w,dF a (dG JJ)⟩
  .rintro c ⟨p,L,G,rfl,w,d⟩;have f:=dc d;rw [aaa] at f;have H:(if i=0 then ([]:List Doc) else [Format.OQ]).length<=1:=by split <;> simp
   simp only [ae];refine aa.pI (aak _ aad) w.w (o:=3) rfl ?_;refine aa.ju aad w.w rfl ?_;simp only [aw,ad,af,ao,ae,j.ab,j.aB];refine aa.JE w (by simp) (by simp only [aab,aae];omega) (by omega) (by omega) fun q E _ w=> ?_;refine aa.one w.o.one (aa.one w.o.one ?_);refine aa.ZI [_] w (aaq rfl) fun r F _ w=> ?_;simp only [az,br (show i+1<=9223372036854775807 by omega)];refine aa.inl ⟨r,q,_,rfl,w.sub (abQ _ _), ?_⟩;rw [<- aao];exact dF d (fa b JJ)
 .rintro c ⟨s,y,us,rfl,w,a⟩;simp only [ES,ad,af,ae,ak,if_neg (show ¬ ((D.length:Nat):Int) < (ws.length:Int) by omega)];rw [aaH] at a;exact aa.inr ⟨s,y,us,rfl,w,a⟩
theorem KY (s:LB): ∃b,(aY vE).bare 11 [.str s]=some b/\DM s b:=by
 obtain ⟨v,j,_,ep⟩:=IY s;have key:aa (bz vE 11 [.str s]) (DM s):=by
  obtain ⟨k,tk,tx,kids,x,es,n,rfl,hx,hs⟩:=gm j;refine aa.step (SJ _) ?_;unfold g11;refine aa.step (ao _ _) (aa.step (ep _ _) ?_);simp only [bp,aT,aZ,aw,ad,af,ao,ae];refine aa.AA L6 fun s1 _ w=>aa.step (hx.ab _) ?_;refine aa.mW [] w fun s2 _ _ w=> ?_;have C:=w.sub (abQ _ _);rcases Cw s with ⟨h0,h1,g⟩ | ⟨h0,h1⟩ | ⟨h0,h1,g⟩
  .rw [h0];have h:¬ 65536 < s.length:=by rw [h1];exact id
   have G:fc s=doc (tokens s):=by unfold fc;rw [if_pos h0]
   rw [G] at j n;have W:(eK (doc (tokens s))).length<=65536:=by rw [Gt _ (iy s),jB];omega
   refine aa.step (aj _ _) (aa.ju aad w rfl ?_);simp only [aw,ad,af,ao,ae];refine aa.step (sE j rfl (Rs _ _ j) _ _) (aa.step (al _ _) ?_);cases D:bZ (doc (tokens s)) with
   | false=>
    refine aa.step (aq _ _) ((JU C 50).mono fun b d=> ?_);unfold DM Format.tS;rw [if_neg h,if_pos g,if_neg (by rw [D];exact abb)];exact d
   | true=>
    refine aa.step (aj _ _) (aa.ju aad w rfl ?_);simp only [aw,ad,af,ao,ae];refine aa.step (HO j (by omega) _ _) (aa.step (al _ _) ?_);cases X:Format.dw (doc (tokens s)) with
    | true=>
     refine aa.step (aq _ _) ((JU C 4).mono fun b d=> ?_);unfold DM Format.tS;rw [if_neg h,if_pos g,if_pos D,if_pos X];exact d
    | false=>
     have hL:Format.tS s= .ok (Format.row (Format.df 0 (Format.fb (doc (tokens s)).kids))):=by
      unfold Format.tS;rw [if_neg h,if_pos g,if_pos D,if_neg (by rw [X];exact abb)]
     obtain ⟨ds,r,hd,H⟩:=Lm D;obtain ⟨av,a1,I⟩:=H (by omega);have hk:kids=ds++[.mk 1 0 [] (r.map bc)]:=by rw [hd] at n;injection n with _ _ _ e;exact e.symm
     have J:(doc (tokens s)).kids=ds++[.mk 1 0 [] (r.map bc)]:=by rw [hd];rfl
     rw [J] at hL;have K:Format.fb (ds++[.mk 1 0 [] (r.map bc)])=ds.map Format.ay++(Format.dW (r.map bc)).map Format.tx:=by
      unfold Format.fb;rw [aaa,abl,abY,abP,Format.pG,aaz,abg (aah _),abZ];rfl
     rw [K] at hL;subst hk;have a6:es.length=ds.length+1:=by rw [hs.len,aaa,abl]
     obtain ⟨x1,i,p⟩:=hx.cut (lo:=none) (hi:=some (ds.length:Int)) (l:=0) (m:=ds.length) rfl (by
      show (match ds.length.ble es.length with | true=>some ds.length | false=>none)= _;rw [aaI (by omega)])
     rw [aar] at i;have L:bA ds (es.take ds.length):=by
      have:=oS ds.length hs
      rwa [abP] at this
     have a7:(es.take ds.length).length=ds.length:=by rw [aat];omega
     refine aa.step (aj _ _) (aa.pI aad w (o:=3) rfl (aa.step (hx.len _) ?_));rw [show IntKind.wrap .i64 ((es.length:Int) - 1)=(ds.length:Int) by rw [wrap_i64 (by omega) (by omega)];omega];simp only [az];refine aa.pI aad w (o:=3) rfl (aa.step (p _) (aa.step (i.len _) ?_));refine aa.bind (SS i L (by omega) I w.ro) ?_;rintro c ⟨s3,v3,a8,rfl,Y,M⟩;have E:=w.keeps Y.k (fun _ _ f=>f);simp only [ad,ae];refine aa.pI aad E (o:=3) rfl ?_;obtain ⟨vl,N,u⟩:=bA.at (k:=ds.length) (t:= .mk 1 0 [] (r.map bc)) hs (by rw [abg (aah _),abZ];rfl);obtain ⟨a,b,sl,ll,yl,bb,bt,rfl,b4,_⟩:=gm u;refine aa.step (hx.idx N _ _) ?_;simp only [AV.cells,bK,iJ,ai,aw,ad,af,ao,ae];obtain ⟨xr,z,er⟩:=uK u (by rw [aay];omega);have O:=wP (r.map bc);rw [aay] at O;have P: ∀q∈Format.dW (r.map bc),q.length<=1000000000:=fun q n=>by
      obtain ⟨t,Z,e⟩:=List.mem_filterMap.1 n;obtain ⟨y,hy,rfl⟩:=abf.1 Z;have e:(if y.1=2 then some y.2 else none)=some q:=e;have d:(eK (bc y)).length<=(eK (doc (tokens s))).length:=by
       have h1:=mo Z;rw [hd];have g:(eK (T.mk 1 0 [] (r.map bc))).length<=(cC (ds++[.mk 1 0 [] (r.map bc)])).length:=mo (List.mem_append_right _ aad);rw [rO,aaa] at g;rw [show eK (node 4 (ds++[.mk 1 0 [] (r.map bc)]))=cC (ds++[.mk 1 0 [] (r.map bc)]) from tg (by decide)];omega
      rw [pD] at d;split at e
      .cases e;omega
      .cases e
     generalize Format.dW (r.map bc)=R at *;refine aa.step (er _ _) (aa.step (z.len _) ?_);rw [aay];refine aa.bind (Ty z (by omega) P Y M (by rw [aay];omega)) ?_;rintro c ⟨s4,v4,b5,rfl,Q,A⟩;have E:=w.keeps Q.k (fun _ _ f=>f);simp only [ad,ae];refine aa.step (aG _ _ rfl rfl rfl (NR bF.aD)) ?_;simp only [aw,ad,af,ao,ae];refine aa.tM (Wv.start E.ro 4 pn) fun s5 b6 w5=>aa.step (il.ab _) ?_;refine aa.qp [] w5 fun s6 _ _ w6=>aa.step (P6 Q.o _) ?_;have b7:=dc A;refine aa.bind (Ve Q.o A (by rw [aaa,aay,aay];omega) w6) ?_;rintro c ⟨s7,y7,b8,rfl,F,S⟩;have U:Vw s7 [(0,pn,d4)]:=(E.keeps F.k (fun _ _ f=>f)).sub (abQ _ _);simp only [ae];refine aa.ju aad F.w rfl ?_;simp only [aw,ad,af,ao,ae];refine aa.one F.o.one ?_;refine aa.Z7 [] ⟨U,F.o⟩ (aaq rfl) fun s8 o8 _ w8=> ?_;refine aa.ju aad w8.w rfl ?_;obtain ⟨xf,B,V⟩:=zY w8.o;show aa (Bu (.agg (dX 7 [] 0 y7)) _) _;simp only [aw,ad,af,ao,ae];refine aa.step (Kn B V 7 [] 0 0 _) (aa.some ?_);unfold DM;rw [hL];exact ⟨_,rfl,mV (by omega) (by simp) (by omega) B S⟩
  .rw [h0];refine aa.step (aq _ _) ((JU C 40).mono fun b d=> ?_);unfold DM Format.tS;rw [if_pos h1];exact d
  .rw [h0];refine aa.step (aq _ _) ((JU C 4).mono fun b d=> ?_);unfold DM Format.tS;rw [if_neg h1,if_neg (by rw [g];exact abb)];exact d
 obtain ⟨b,e,d⟩:=key;exact ⟨b,aM rfl e,d⟩
end Go.Proofs.YtkpeicabocpbkaaGreatDoor.Vm
namespace Go.Proofs.YtkpeicabocpbkaaGreatDoor.Vm
open Go Go.VM Go.Proofs Go.Lay
def jT {α:Type} (R:α->AV->Prop):List α->LA->Prop
 | [],ws=>ws=[]
 | a::l,ws=> ∃v vs,ws=v::vs/\R a v/\jT R l vs
theorem jT.len {α:Type} {R:α->AV->Prop}: ∀{l:List α} {ws:LA},jT R l ws->ws.length=l.length
 | [],_,h=>by rw [show _=[] from h];rfl
 | a::l,_,h=>by
  obtain ⟨v,vs,rfl,_,h⟩:=h;simp [jT.len h]
theorem jT.append {α:Type} {R:α->AV->Prop}: ∀{l m:List α} {ws us:LA},jT R l ws->jT R m us->jT R (l++m) (ws++us)
 | [],_,_,_,h,k=>by rw [show _=[] from h];exact k
 | a::l,_,_,_,h,k=>by
  obtain ⟨v,vs,rfl,h1,h⟩:=h;exact ⟨v,vs++ _,rfl,h1,jT.append h k⟩
theorem jT.at {α:Type} {R:α->AV->Prop}: ∀{l:List α} {ws:LA} {i:Nat} {a:α},jT R l ws->l[i]? =some a-> ∃v,ws[i]? =some v/\R a v
 | [],_,_,_,_,h=>by simp at h
 | b::l,_,0,a,h,hi=>by
  obtain ⟨v,vs,rfl,h1,_⟩:=h;simp at hi;subst hi;exact ⟨v,rfl,h1⟩
 | b::l,_,i+1,a,h,hi=>by
  obtain ⟨v,vs,rfl,_,h⟩:=h;obtain ⟨u,c,d⟩:=jT.at h (by simpa using hi);exact ⟨u,by simpa using c,d⟩
theorem bO.all: ∀{ds:List Doc} {es:LA},bO ds es->jT cW ds es
 | [],_,h=>h
 | _:: _,_,h=>by
  obtain ⟨v,vs,rfl,h1,h⟩:=h;exact ⟨v,vs,rfl,h1,h.all⟩
def iG (f:lx) (v:AV):Prop:= ∃a b c d,cW f.1 (.agg [a,b,c,d])/\v= .agg [a,b,c,d,.int .i64 f.2.1,.bool f.2.2]
theorem BV (ind:Int) (fl:Bool) {kids:List Doc} {x:AV} {es:LA} (hx:bF 4 x es) (q:bO kids es): ∀(m:Nat) (v:AV) (st:St) (ws:LA),m<=kids.length->jg st 6 71 v ws->ws.length+m<=1000000->
  ∃st' v' us,aH (DU ind fl x) ([v,.int .i64 ((m:Int) - 1)],st)=some (0,[v'],st')/\jT iG ((kids.take m).reverse.map fun d=>(d,ind,fl)) us/\jg st' 6 71 v' (ws++us)/\(v≠ .aD/\v≠ .es->v'≠ .aD/\v'≠ .es)
 | 0,v,st,ws,_,r,_=>by
  refine ⟨st,v,[], ?_,rfl,by simpa using r,id⟩;rw [oo];simp [DU]
 | m+1,v,st,ws,hm,r,H=>by
  have hlen:=q.all.len;have hd:kids[m]? =some kids[m]:=aax (by omega);obtain ⟨u,C,a⟩:=q.all.at hd;have t:(m:Int)>=0:=by omega
  have w:((m+1:Nat):Int) - 1=(m:Int):=by omega
  have D:IntKind.wrap .i64 ((m:Int) - 1)=(m:Int) - 1:=wrap_i64 (by omega) (by have:=hx.1;omega);have g:=fun (st:St) (K:AV->Ln->Oq (Sum bU (Nat×bU)))=>hx.idx C st K;have i:kids.take (m+1)=kids.take m++[kids[m]]:=List.take_succ_eq_append_getElem (by omega);generalize kids[m]=d at a i;obtain ⟨k,s,n,ks⟩:=d;have e:=a;obtain ⟨y,E,rfl,I,r2,J,hy,F⟩:=a;have f:fo (ws.length+[AV.agg [.int .u8 k,.str s,.int .i64 n,y,.int .i64 ind,.bool fl]].length) ⟨.other,6,72,[],false,false⟩=true:=by
   simp only [fo,abl,aaf];exact ⟨aaI (by omega),rfl,aaI (by omega)⟩
  obtain ⟨z,st2,L,l,c,_,_⟩:=rZ (b:=72) r (new:=[.agg [.int .u8 k,.str s,.int .i64 n,y,.int .i64 ind,.bool fl]]) (by simp) f;have A:z≠ .aD/\z≠ .es:=by
   rcases c.2.2 with ⟨_,h⟩ | rfl | ⟨j,rfl,_⟩
   .simp at h
   .exact ⟨(by intro h;cases h),(by intro h;cases h)⟩
   .exact ⟨(by intro h;cases h),(by intro h;cases h)⟩
  obtain ⟨st',v',us,hrun,B,o,p⟩:=BV ind fl hx q m z st2 _ (by omega) c (by rw [aaa];simp;omega);refine ⟨st',v',.agg [.int .u8 k,.str s,.int .i64 n,y,.int .i64 ind,.bool fl]::us, ?_, ?_,by simpa using o,fun _=>p A⟩
  .have G:jA 4 true [.int .u8 k,.str s,.int .i64 n,y]=some (.agg [.int .u8 k,.str s,.int .i64 n,y]):=rfl;rw [oo];simp only [DU,ad,af,ae,ak,w,if_pos t,g,AV.cells,bK,G,ai,aw,ao,hy.ab,hy.aB,nI l,az,D];exact hrun
  .rw [i];simp only [List.reverse_append,List.reverse_cons,List.reverse_nil,aaj,List.singleton_append,aal];exact ⟨_,_,rfl,⟨_,_,_,_,e,rfl⟩,B⟩
def oO (z:Nat) (x:AV) (es:LA):Prop:=es.length<=9223372036854775807/\(x= .sl z es .shut\/x= .sl z es .wide)
theorem oO.sl {z:Nat} {x:AV} {es:LA} (h:oO z x es):bF z x es:=⟨h.1,.inr h.2⟩
theorem HV {β:Type} {z:Nat} {x:AV} {es:LA} (h:oO z x es) (K:AV->Oq β):fw z x none (some (es.length:Int)) (some (es.length:Int)) K=K (.sl z es .shut):=by
 have a:z.beq z=true:=aby z;have h1:tG (some (es.length:Int)) es.length 0=some es.length:=jL (aah _);have b:tG (some (es.length:Int)) es.length es.length=some es.length:=jL (aah _);have c:es.length.beq es.length=true:=aby _;rcases h.2 with rfl | rfl <;> simp only [fw,lL,a,h1,b,mE,c,ai,aaH,aar]
theorem Ip {β:Type} {z n:Nat} {x:AV} {es:LA} (h:oO z x es) (hn:n<=es.length): ∃x',oO z x' (es.take n)/\ ∀K:AV->Oq β,fw z x none (some (n:Int)) none K=K x':=by
 have a:z.beq z=true:=aby z;have b:tG (some (n:Int)) es.length es.length=some n:=jL hn;have hl:(es.take n).length<=9223372036854775807:=by rw [aat];have:=h.1;omega
 rcases h.2 with rfl | rfl
 .simp only [fw,lL,a,b,mE];cases e:n.beq es.length with
  | true=>
   have:=aan e;subst this;exact ⟨.sl z es .shut,⟨hl,.inl (by simp)⟩,fun _=>rfl⟩
  | false=>exact ⟨.sl z (es.take n) .wide,⟨hl,.inr rfl⟩,fun _=>rfl⟩
 .simp only [fw,lL,a,b,mE];cases e:n.beq es.length with
  | true=>exact ⟨.sl z (es.take n) .wide,⟨hl,.inr rfl⟩,fun _=>rfl⟩
  | false=>exact ⟨.sl z (es.take n) .wide,⟨hl,.inr rfl⟩,fun _=>rfl⟩
theorem Qm {f:lx} {p x:AV} {ws:LA} (hx:oO 6 x ws) (hf:iG f p) (ind:Int) (fl:Bool) (kids:List Doc) (q: ∃k s n,f.1= .mk k s n kids) (r:ws.length+kids.length<=1000000):
  ∃x' us,(aY vE).bare 58 [x,p,.int .i64 ind,.bool fl]=some x'/\oO 6 x' (ws++us)/\jT iG (kids.reverse.map fun d=>(d,ind,fl)) us:=by
 obtain ⟨d,v,w⟩:=f;obtain ⟨k,s,n,hd⟩:=q;dsimp only at hd;subst hd;obtain ⟨z,A,B,C,b,rfl⟩:=hf;obtain ⟨y,c,t,D,r2,E,hy,e⟩:=b;cases t;have hlen:=e.all.len;have u:IntKind.wrap .i64 ((c.length:Int) - 1)=(c.length:Int) - 1:=wrap_i64 (by omega) (by have:=hy.1;omega);obtain ⟨st',v',us,hrun,g,i,a⟩:=BV ind fl hy e kids.length (.sl 6 ws .shut) (St.mk 0 0 Tr.leaf) ws (aah _) (jg.shut (aah _) 71 hx.1) r;rw [<- hlen] at hrun;rw [aaH] at g;have l: ∃x',oO 6 x' (ws++us)/\ ∀K:AV->Oq AV,eQ st' 0 v' K=K x':=by
  have a:=a ⟨(by intro h;cases h),(by intro h;cases h)⟩;rcases i with ⟨_,hl,⟨rfl | rfl,_⟩ | rfl | ⟨j,rfl,_⟩⟩
  .exact absurd rfl a.1
  .exact absurd rfl a.2
  .exact ⟨.sl 6 (ws++us) .shut,⟨hl,.inl rfl⟩,fun _=>rfl⟩
  .exact ⟨.sl 6 (ws++us) .wide,⟨hl,.inr rfl⟩,fun _=>rfl⟩
 obtain ⟨x',m,o⟩:=l;refine ⟨x',us,aM rfl ((Tg _ _ _ _).trans ?_),m,g⟩;simp only [ZM,aw,ad,af,ao,al,ae,hy.ab,hy.aB,hx.sl.len,HV hx,hy.len,az,u,hrun,ai,oneOf,o]
theorem iG.shape {f:lx} {w:AV} (h:iG f w): ∃k s n kids y es,f.1= .mk k s n kids/\w= .agg [.int .u8 k,.str s,.int .i64 n,y,.int .i64 f.2.1,.bool f.2.2]/\bF 4 y es/\bO kids es/\(0<=k/\k<=255)/\s.length<=9223372036854775807/\(-9223372036854775808<=n/\n<=9223372036854775807):=by
 obtain ⟨d,j,l⟩:=f;obtain ⟨m,o,p,q,a,rfl⟩:=h;obtain ⟨k,s,n,kids⟩:=d;obtain ⟨y,b,e,g,r2,i,hy,c⟩:=a;cases e;exact ⟨k,s,n,kids,_,b,rfl,rfl,hy,c,g,r2,i⟩
theorem Dw {f:lx} {w:AV} (h:iG f w):Fz 2 w/\VM.bare w=true/\strip w=w:=by
 obtain ⟨k,s,n,kids,y,es,_,rfl,hy,_⟩:=h.shape;refine ⟨M4 fun c a=> ?_, ?_,rfl⟩
 .simp only [aam,List.not_mem_nil,or_false] at a;rcases a with rfl | rfl | rfl | rfl | rfl | rfl
  .exact ku _ _
  .exact Ec _
  .exact ku _ _
  .exact Kg hy
  .exact ku _ _
  .exact PY _
 .simp only [zX,bf,hy.bare];rfl
theorem Up {f:lx} {w x:AV} {ws:LA} (hx:oO 6 x (ws++[w])) (hf:iG f w): ∃x',(aY vE).bare 57 [x]=some (.tup [w,x'])/\oO 6 x' ws:=by
 have d:=Dw hf;have hl:(ws++[w]).length=ws.length+1:=by simp
 have hmax:=hx.1;have l:IntKind.wrap .i64 (((ws.length+1:Nat):Int) - 1)=(ws.length:Int):=by rw [wrap_i64 (by omega) (by omega)];omega
 have hlen: ∀{β:Type} (K:Nat->Oq β),fq x K=K (ws.length+1):=fun K=>by rw [hx.sl.len,hl]
 have e:=fun (st:St) (K:AV->Ln->Oq AV)=>hx.sl.idx (k:=ws.length) (v:=w) (by simp) st K;obtain ⟨x',a,g⟩:=Ip (β:=AV) hx (n:=ws.length) (by omega);have b:(ws++[w]).take ws.length=ws:=by simp
 rw [b] at a;refine ⟨x',aM rfl ((UF _).trans ?_),a⟩;have m:VM.bare (.tup [w,x'])=true:=by simp only [Oi,bf,d.2.1,a.sl.bare];rfl
 have h:Fz 3 (.tup [w,x']):=Uf fun c j=>by
  simp only [aam,List.not_mem_nil,or_false] at j;rcases j with rfl | rfl
  .exact d.1
  .exact (Kg a.sl).mono (by omega)
 have i:=fun (st:St) (K:AV->Oq AV)=>T4 h (by omega) m st 0 K;obtain ⟨k,s,n,kids,y,es,_,rfl,hy,_⟩:=hf.shape;have o:jA 6 true [.int .u8 k,.str s,.int .i64 n,y,.int .i64 f.2.1,.bool f.2.2]=some (.agg [.int .u8 k,.str s,.int .i64 n,y,.int .i64 f.2.1,.bool f.2.2]):=rfl;simp only [ZQ,hlen,az,l,e,AV.cells,bK,o,ai,aw,ad,af,ao,al,ae,g,hy.ab,i]
theorem jT.snoc {α:Type} {R:α->AV->Prop} {l:List α} {a:α} {ws:LA} (h:jT R (l++[a]) ws): ∃vs v,ws=vs++[v]/\jT R l vs/\R a v:=by
 induction l generalizing ws with
 | nil=>
  obtain ⟨v,vs,rfl,h1,h⟩:=h;have h:vs=[]:=h;subst h;exact ⟨[],v,rfl,rfl,h1⟩
 | cons b l ih=>
  obtain ⟨v,vs,rfl,h1,h⟩:=h;obtain ⟨us,u,rfl,c,d⟩:=ih h;exact ⟨v::us,u,rfl,⟨v,us,rfl,h1,c⟩,d⟩
theorem qV (ks:List Doc) (i:Int) (f:Bool) (l:List lx):(eP ks i f++l).reverse=l.reverse++ks.reverse.map fun d=>(d,i,f):=by
 simp [eP,List.map_reverse]
theorem GZ {f:lx} {w x:AV} {ws:LA} (hx:oO 6 x (ws++[w])) (hf:iG f w): ∃x',oO 6 x' ws/\ ∀{β:Type} (st:St) (K:Kv β),aV (aY vE) 57 [x] st K=K (.tup [w,x']) st q0:=by
 obtain ⟨x',h1,a⟩:=Up hx hf;exact ⟨x',a,fun st K=>aG st K rfl (by simp only [aal,aaN,hx.sl.strip]) (by simp only [bf,hx.sl.bare];rfl) h1⟩
theorem oE {f:lx} {a x:AV} {ws:LA} (hx:oO 6 x ws) (hf:iG f a) (ind:Int) (fl:Bool) (kids:List Doc) (b: ∃k s n,f.1= .mk k s n kids) (c:ws.length+kids.length<=1000000):
  ∃x' us,oO 6 x' (ws++us)/\jT iG (kids.reverse.map fun d=>(d,ind,fl)) us/\ ∀{β:Type} (st:St) (K:Kv β),aV (aY vE) 58 [x,a,.int .i64 ind,.bool fl] st K=K x' st q0:=by
 obtain ⟨x',us,h1,e,g⟩:=Qm hx hf ind fl kids b c;exact ⟨x',us,e,g,fun st K=>aG st K rfl (by simp only [aal,aaN,hx.sl.strip,(Dw hf).2.2];rfl) (by simp only [bf,hx.sl.bare,(Dw hf).2.1];rfl) h1⟩
theorem rp (w:Int) (Y: -1000000000<=w/\w<=1000000000) {p:Nat} {a0 a1 a2:AV}: ∀(n:Nat) (l:List lx) (x:AV) (ws:LA) (c:Int) (b:Bool) (st:St),td l<=n->n<=1000000->oO 6 x ws->jT iG l.reverse ws->za l=true->0<=c->c+cL l+td l<=1000000000->st.ro<=st.h->
  st.get p= .ok (.cells 68 [a0,a1,a2,.int .i64 w])->
  ∃k I b' st',aH (lS (.mp p 0)) ([.bool b,.int .i64 c,x],st)=some (k,[.bool b',.int .i64 I],st')/\(match k with | 0=>decide (I<=w) | _+1=>b')=sr w n l c/\ba st st' (fun _=>False)
 | n,[],x,ws,c,b,st,hm,hn,hx,hl,hd,h0,Z,L,W=>by
  have hl:ws=[]:=hl;subst hl;refine ⟨0,c,b,st, ?_,by cases n <;> rfl,ba.refl _ _⟩;rw [aF];simp [lS,hx.sl.len]
 | 0,t::l,x,ws,c,b,st,hm,hn,hx,hl,hd,h0,Z,L,W=>by
  have:=yG t.1;simp only [td] at hm;omega
 | n+1,(d,i,f)::l,x,ws,c,b,st,hm,hn,hx,hl,hd,h0,Z,L,W=>by
  rw [List.reverse_cons] at hl;obtain ⟨vs,v,rfl,H,ht⟩:=hl.snoc;have hlen:vs.length=l.length:=by rw [H.len,List.length_reverse]
  obtain ⟨x',M,j⟩:=GZ hx ht;obtain ⟨k,s,m,kids,y,es,e,rfl,hy,hk,r1,r2,r3⟩:=ht.shape;dsimp only at e;subst e;have hpos:((vs.length+1:Nat):Int) > 0:=by omega
  have r: ∀{β:Type} (K:Nat->Oq β),fq x K=K (vs.length+1):=fun K=>by rw [hx.sl.len];simp
  simp only [za,ow,aaf] at hd;obtain ⟨⟨R,av⟩,N⟩:=hd;simp only [td,gW,cL,xT] at hm Z;have S:=fun {β:Type} (K:AV->Ln->Oq β)=>bh W 1 false 3 K;have u: ∀{β:Type} (K:AV->Ln->Oq β),ar 1 false (.mp p 3) st K=K (.int .i64 w) [p]:=fun K=>by rw [S];rfl
  by_cases E:c > w
  .refine ⟨0,c,b,st, ?_,by simp only [sr,if_pos E];exact abe (by omega),ba.refl _ _⟩;rw [aF];simp only [lS,ad,al,af,ae,r,ak,if_pos hpos,notNil,aQ,bE,aau,u,ai,if_neg (show ¬ c<=w from by omega)]
  have g:c<=w:=by omega
  have b4:decide (c<=w)=true:=abh g;obtain ⟨st2,hg,a,hh,fx,A⟩:=ry (O:=aY vE) (st:=st) (t:=71) (z:=6) (old:=[.int .u8 0,.str [],.int .i64 0,.aD,.int .i64 0,.bool false]) (cs:=[.int .u8 k,.str s,.int .i64 m,y,.int .i64 i,.bool f]) (.agg [.int .u8 k,.str s,.int .i64 m,y,.int .i64 i,.bool f]) rfl rfl L;have q:=fun {β:Type} (K:Kv β)=>A K;have F:st2.ro<=st2.h:=by rw [a.ro,hh];omega
  have P:=a.old p _ (fun h=>h) W;have T:jA 6 true [.int .u8 k,.str s,.int .i64 m,y,.int .i64 i,.bool f]=some (.agg [.int .u8 k,.str s,.int .i64 m,y,.int .i64 i,.bool f]):=rfl;have J:=fun {β:Type} (o:Nat) (K:AV->Ln->Oq β)=>bh hg 1 false o K;have U:=fun {β:Type} (K:AV->Ln->Oq β)=>bh hg 6 true 0 K;have a6:IntKind.wrap .i64 (c+1)=c+1:=wrap_i64 (by omega) (by omega);by_cases k1:k=1
  .have hval:bH s=true:=by
    subst k1;simp only [OJ,if_true,aaf] at R;exact R.1.1.2
   have a7: ∀{β:Type} (K:Kv β),cX (aY vE) (dy (Prim.lib iX) [.str s]) st2 K=K (.int .i64 (chars s:Int)) st2 q0:=fun K=>by
    rw [<- xQ hval];exact fC (xB (by omega)) st2 K
   have b5:=Bi s;have a8:IntKind.wrap .i64 (c+(chars s:Int))=c+chars s:=wrap_i64 (by omega) (by omega);obtain ⟨V,I,b',st',hrun,C,G⟩:=rp w Y n l x' vs (c+chars s) b st2 (by omega) (by omega) M H N (by omega) (by omega) F P;refine ⟨V,I,b',st', ?_,by rw [C];simp only [sr,if_neg E,if_pos k1],a.trans G⟩;rw [aJ (s':=([.bool b,.int .i64 (c+chars s),x'],st2))]
   .exact hrun
   .simp only [lS,ad,al,af,ae,r,ak,notNil,aQ,bE,aau,u,bQ,j,bp,aT,aZ,aw,ao,hy.ab,A,q,J,aar,aaE,aL,ai,bP,bu,cp,az,aq,aj,if_pos hpos,if_pos g,if_pos k1,a7,a8]
  by_cases Q:k=2\/k=3
  .by_cases hf:f=false
   .refine ⟨1,c,true,st2, ?_,by simp only [sr,if_neg E,if_neg k1,if_pos Q,if_pos hf],a⟩;rw [aF];subst hf;rcases Q with rfl | rfl
    .simp only [lS,ad,al,af,ae,r,ak,notNil,aQ,bE,aau,u,bQ,j,bp,aT,aZ,aw,ao,hy.ab,A,q,J,aar,aaE,aL,ai,bP,bu,cp,az,aq,aj,if_pos hpos,if_pos g,if_true,if_neg k1,aaR,abm]
    .simp only [lS,ad,al,af,ae,r,ak,notNil,aQ,bE,aau,u,bQ,j,bp,aT,aZ,aw,ao,hy.ab,A,q,J,aar,aaE,aL,ai,bP,bu,cp,az,aq,aj,if_pos hpos,if_pos g,if_true,if_neg k1,aaR,abm,show ¬ (3:Int)=2 from by omega,if_false]
   .have hf:f=true:=by simpa using hf
    subst hf;obtain ⟨V,I,b',st',hrun,C,G⟩:=rp w Y n l x' vs (if k=2 then c+1 else c) b st2 (by omega) (by omega) M H N (by split <;> omega) (by split <;> omega) F P;refine ⟨V,I,b',st', ?_,by rw [C];simp only [sr,if_neg E,if_neg k1,if_pos Q,if_neg hf],a.trans G⟩;rw [aJ (s':=([.bool b,.int .i64 (if k=2 then c+1 else c),x'],st2))]
    .exact hrun
    .rcases Q with rfl | rfl
     .simp only [lS,ad,al,af,ae,r,ak,notNil,aQ,bE,aau,u,bQ,j,bp,aT,aZ,aw,ao,hy.ab,A,q,J,aar,aaE,aL,ai,bP,bu,cp,az,aq,aj,if_pos hpos,if_pos g,if_true,if_neg k1,aaS,abm,a6,show ((2:Int)==4)=false from rfl]
     .simp only [lS,ad,al,af,ae,r,ak,notNil,aQ,bE,aau,u,bQ,j,bp,aT,aZ,aw,ao,hy.ab,A,q,J,aar,aaE,aL,ai,bP,bu,cp,az,aq,aj,if_pos hpos,if_pos g,if_true,if_neg k1,aaS,abm,show ¬ (3:Int)=2 from by omega,if_false,show ((3:Int)==4)=false from rfl]
  have D:¬ k=2/\¬ k=3:=by omega
  have e2:(k==2)=false:=beq_false_of_ne D.1;have e3:(k==3)=false:=beq_false_of_ne D.2;by_cases X:k=4
  .refine ⟨1,c,true,st2, ?_,by simp only [sr,if_neg E,if_neg k1,if_neg Q,if_pos X],a⟩;rw [aF];subst X;cases f <;> simp only [lS,ad,al,af,ae,r,ak,notNil,aQ,bE,aau,u,bQ,j,bp,aT,aZ,aw,ao,hy.ab,A,q,J,aar,aaE,aL,ai,bP,bu,cp,az,aq,aj,if_pos hpos,if_pos g,if_neg k1,if_neg D.1,if_neg D.2,if_true,aaS,aaR,abm]
  have e4:(k==4)=false:=beq_false_of_ne X;have b6:=DQ l;have b7:=Bc kids;obtain ⟨x2,us,bb,bt,B⟩:=oE M ht i (f||k==6) kids ⟨k,s,m,rfl⟩ (by omega);obtain ⟨V,I,b',st',hrun,C,G⟩:=rp w Y n (eP kids i (f||k==6)++l) x2 (vs++us) c b st2 (by rw [fI];omega) (by omega) bb (by rw [qV];exact jT.append H bt) (oA av N) h0 (by rw [iB,fI];omega) F P;refine ⟨V,I,b',st', ?_,by rw [C];simp only [sr,if_neg E,if_neg k1,if_neg Q,if_neg X],a.trans G⟩;rw [aJ (s':=([.bool b,.int .i64 c,x2],st2))]
  .exact hrun
  .cases f with
   | true=>
    rw [abI] at B;simp only [lS,ad,al,af,ae,r,ak,notNil,aQ,bE,aau,u,bQ,j,bp,aT,aZ,aw,ao,hy.ab,A,q,J,aar,aaE,aL,ai,bP,bu,cp,az,aq,aj,if_pos hpos,if_pos g,if_neg k1,if_neg D.1,if_neg D.2,e4,U,T,B]
   | false=>
    rw [aaV] at B;simp only [lS,ad,al,af,ae,r,ak,notNil,aQ,bE,aau,u,bQ,j,bp,aT,aZ,aw,ao,hy.ab,A,q,J,aar,aaE,aL,ai,bP,bu,cp,az,aq,aj,if_pos hpos,if_pos g,if_neg k1,if_neg D.1,if_neg D.2,e4,U,T,B]
theorem PZ {l:List lx} {x:AV} {ws:LA} {c w:Int} {p:Nat} {j m:AV} {st:St} (n: -1000000000<=w/\w<=1000000000) (hm:td l<=1000000) (hx:oO 6 x ws) (hl:jT iG l.reverse ws) (hd:za l=true) (h0:0<=c) (q:c+cL l+td l<=1000000000) (e:st.ro<=st.h)
  (f:st.get p= .ok (.cells 68 [j,m,.int .i64 c,.int .i64 w])):
  ∃st',ba st st' (fun _=>False)/\(aY vE).wide 60 [.mp p 0,x] st=some (.bool (sr w (td l) l c),st'):=by
 obtain ⟨k,r,b',st',hrun,a,b⟩:=rp w n (td l) l x ws c false st (aah _) hm hx hl hd h0 q e f;refine ⟨st',b,fW ((UE _ _ _).trans ?_)⟩;have g:=b.old p _ (fun h=>h) f;have i:=fun {β:Type} (o:Nat) (K:AV->Ln->Oq β)=>bh f 1 false o K;have d:=fun {β:Type} (o:Nat) (K:AV->Ln->Oq β)=>bh g 1 false o K;cases k with
 | zero=>simp only [Yl,notNil,aQ,bE,aau,i,aaE,aar,aL,ai,af,hrun,ad,al,ae,eX,d];rw [<- a]
 | succ k=>simp only [Yl,notNil,aQ,bE,aau,i,aaE,aar,aL,ai,af,hrun,ad,al,ae,Kx,d];rw [<- a]
def ic (st:St) (p:Nat) (c w:Int) (out:LB):Prop:=R6 st 68 5 p [] [.int .i64 c,.int .i64 w] out
theorem ic.cells {st:St} {p:Nat} {c w:Int} {out:LB} (h:ic st p c w out): ∃a b,st.get p= .ok (.cells 68 [a,b,.int .i64 c,.int .i64 w])/\st.ro<=p:=by
 obtain ⟨a,b,h1,_,_,h4⟩:=h;exact ⟨a,b,h1,h4⟩
theorem ic.set {st:St} {p:Nat} {c w:Int} {out:LB} (h:ic st p c w out) (a:Int):
  ∃st',ic st' p a w out/\iA st st' 5 p/\ ∃e,∀{β:Type} (K:Kv β),bm (aY vE) 1 (.mp p 2) (.int .i64 a) [.int .i64 a] st K=K VM.undef st' e:=by
 obtain ⟨b,d,h1,f,g,h4⟩:=h;refine ⟨st.put p (.cells 68 [b,d,.int .i64 a,.int .i64 w]),⟨b,d,St.bx (St.cZ.1 h1).1,f,g.put h1,h4⟩,iA.put,⟨[p],.wrote p (.cells 68 [b,d,.int .i64 a,.int .i64 w])⟩,fun K=> ?_⟩;exact (eI (O:=aY vE) (z:=1) (off:=2) (v:= .int .i64 a) (cs:=[.int .i64 a]) h1 rfl (by simp) h4 K).trans rfl
theorem wZ {st:St} {p:Nat} {c w:Int} {out s:LB} (h:ic st p c w out) (hlen:out.length+s.length<=70368744177664) (a:st.ro<=st.h):
  ∃st',ic st' p c w (out++s)/\iA st st' 5 p/\ ∃b,∀{β:Type} (K:Kv β),aV (aY vE) 103 [.mp p 0,.str s] st K=K (.tup [.int .i64 (s.length:Int),.nili]) st' b:=by
 obtain ⟨st',h1,d,e⟩:=L4 (O:=aY vE) (L:=[(65,2,0),(66,2,0),(67,4,0),(68,4,0)]) h rfl hlen a;exact ⟨st',d,e,_,fun K=>fh K rfl rfl (fW ((Qt _ _ _).trans h1))⟩
theorem AG {st:St} {p:Nat} {c w:Int} {out s:LB} (h:ic st p c w out) (i:bH s=true) (hlen:out.length+s.length<=70368744177664) (a:st.ro<=st.h) (h0:0<=c) (t:c<=1000000000000):
  ∃st',ic st' p (c+chars s) w (out++s)/\iA st st' 5 p/\ ∃f,∀{β:Type} (K:Kv β),aV (aY vE) 55 [.mp p 0,.str s] st K=K (.tup []) st' f:=by
 obtain ⟨st2,g,j,f,k⟩:=wZ h hlen a;obtain ⟨u,v,l,x⟩:=g.cells;obtain ⟨b,m,n,o,hs⟩:=g.set (c+chars s);have q:=Bi s;have r:=fun {β:Type} (K:AV->Ln->Oq β)=>bh l 1 false 2 K;have d: ∀{β:Type} (K:Kv β),cX (aY vE) (dy (Prim.lib iX) [.str s]) st2 K=K (.int .i64 (chars s:Int)) st2 q0:=fun K=>by
  rw [<- xQ i];exact fC (xB (by omega)) st2 K
 have e:IntKind.wrap .i64 (c+(chars s:Int))=c+chars s:=wrap_i64 (by omega) (by omega);refine ⟨b,m,j.trans n,_,fun K=>fh K rfl rfl (fW ((Ut _ _ _).trans ?_))⟩;simp only [Zy,ao,notNil,aQ,bE,aau,k,r,aaE,aar,aL,ai,af,d,dm,aaW,az,e,hs]
theorem UY {st:St} {p:Nat} {c w:Int} {out:LB} (h:ic st p c w out) (ind:Nat) (hi:ind<=10000000) (hlen:out.length+(1+ind)<=70368744177664) (b:st.ro<=st.h):
  ∃st',ic st' p (ind:Int) w (out++10::List.replicate ind 32)/\iA st st' 5 p/\ ∃e,∀{β:Type} (K:Kv β),aV (aY vE) 56 [.mp p 0,.int .i64 (ind:Int)] st K=K (.tup []) st' e:=by
 obtain ⟨st2,f,g,e,i⟩:=wZ (s:=10::List.replicate ind 32) h (by simp only [aab,ack];omega) b;obtain ⟨d,j,k,l,hs⟩:=f.set (ind:Int);have a: ∀{β:Type} (K:Kv β),cX (aY vE) (dy (Prim.lib kE) [.str [32],.int .i64 (ind:Int)]) st K=K (.str (List.replicate ind 32)) st q0:=fun K=>by
  rw [<- repeatL_one];exact fC (Eh (by simp only [abl];omega) (by omega)) st K
 have m:Nat.ble (1+(List.replicate ind (32:UInt8)).length) 9223372036854775807=true:=aaI (by rw [ack];omega);refine ⟨d,j,g.trans k,_,fun K=>fh K rfl rfl (fW ((T2 _ _ _).trans ?_))⟩;simp only [Y5,af,notNil,aQ,bE,aau,a,ao,dm,aaW,m,az,i,hs]
def R4 (st:St) (p:Nat) (c w:Int) (out:LB):Prop:=ic st p c w out/\out.length<=70000000000000
theorem jh (w:Int) (hw: -1000000000<=w/\w<=1000000000) {p:Nat}: ∀(n:Nat) (l:List lx) (x:AV) (ws:LA) (c I:Int) (out:LB) (st:St),td l<=n->n<=1000000->oO 6 x ws->jT iG l.reverse ws->za l=true->0<=c->c+cL l+td l<=1000000000->0<=I->XF I l->(I+Gi l<=10000000/\cL l<=500000000)->
  out.length+cL l+10000002 * td l<=70000000000000->st.ro<=st.h->ic st p c w out->
  ∃st' G,aH (ij (.mp p 0)) ([x],st)=some (0,[],st')/\R4 st' p G w (out++mf w n l c)
 | n,[],x,ws,c,I,out,st,hm,hn,hx,hl,hd,h0,hc,H,hI,bb,ho,bt,hp=>by
  have hl:ws=[]:=hl;subst hl;have e:mf w n [] c=[]:=by cases n <;> rfl
  refine ⟨st,c, ?_,by rw [e,aaw];exact ⟨hp,by omega⟩⟩;rw [aF];simp [ij,hx.sl.len]
 | 0,t::l,x,ws,c,I,out,st,hm,hn,hx,hl,hd,h0,hc,H,hI,bb,ho,bt,hp=>by
  have:=yG t.1;simp only [td] at hm;omega
 | n+1,(d,i,f)::l,x,ws,c,I,out,st,hm,hn,hx,hl,hd,h0,hc,H,hI,bb,ho,bt,hp=>by
  rw [List.reverse_cons] at hl;obtain ⟨vs,v,rfl,F,ht⟩:=hl.snoc;have hlen:vs.length=l.length:=by rw [F.len,List.length_reverse]
  obtain ⟨x',J,a⟩:=GZ hx ht;obtain ⟨k,s,m,kids,y,es,e,rfl,hy,hk,r1,r2,r3⟩:=ht.shape;dsimp only at e;subst e;have hpos:((vs.length+1:Nat):Int) > 0:=by omega
  have r: ∀{β:Type} (K:Nat->Oq β),fq x K=K (vs.length+1):=fun K=>by rw [hx.sl.len];simp
  simp only [za,ow,aaf] at hd;obtain ⟨⟨b4,a6⟩,L⟩:=hd;have cb:=P7 b4;simp only [Ux,aaP,aaf,aaM,aaT] at cb;have cc:=hI _ (aad);dsimp only at cc;have R:XF I l:=fun t ht=>hI t (aak _ ht);simp only [td,gW,cL,xT,Gi,G6] at hm hc bb ho;obtain ⟨st2,hg,Z,hh,fx,j⟩:=ry (O:=aY vE) (st:=st) (t:=71) (z:=6) (old:=[.int .u8 0,.str [],.int .i64 0,.aD,.int .i64 0,.bool false]) (cs:=[.int .u8 k,.str s,.int .i64 m,y,.int .i64 i,.bool f]) (.agg [.int .u8 k,.str s,.int .i64 m,y,.int .i64 i,.bool f]) rfl rfl bt;have b:=fun {β:Type} (K:Kv β)=>j K;have q:st2.ro<=st2.h:=by rw [Z.ro,hh];omega
  have E:ic st2 p c w out:=hp.G0 Z;obtain ⟨b0,b1,c6,_⟩:=E.cells;have U:jA 6 true [.int .u8 k,.str s,.int .i64 m,y,.int .i64 i,.bool f]=some (.agg [.int .u8 k,.str s,.int .i64 m,y,.int .i64 i,.bool f]):=rfl;have b5:jA 4 true [.int .u8 k,.str s,.int .i64 m,y,.int .i64 i,.bool f]=some (.agg [.int .u8 k,.str s,.int .i64 m,y]):=rfl;have V:=fun {β:Type} (o:Nat) (K:AV->Ln->Oq β)=>bh hg 1 false o K;have W:=fun {β:Type} (K:AV->Ln->Oq β)=>bh hg 6 true 0 K;have b6:=fun {β:Type} (K:AV->Ln->Oq β)=>bh hg 4 true 0 K;have dv:=DQ l;have dx:=Bc kids;by_cases k1:k=1
  .have hval:bH s=true:=by
    subst k1;simp only [OJ,if_true,aaf] at b4;exact b4.1.1.2
   have ea:=Bi s;obtain ⟨g,M,u,cd,S⟩:=AG (s:=s) E hval (by omega) q h0 (by omega);obtain ⟨st',G,hrun,hW⟩:=jh w hw n l x' vs (c+chars s) I (out++s) g (by omega) (by omega) J F L (by omega) (by omega) H R (by omega) (by rw [aaa];omega) (by have:=u.ro;have:=u.h;omega) M;refine ⟨st',G, ?_,by simp only [mf,if_pos k1];rw [<- aao];exact hW⟩;rw [aJ (s':=([x'],g))]
   .exact hrun
   .simp only [ij,ad,al,af,ae,r,ak,if_pos hpos,notNil,aQ,bE,aau,bQ,a,bp,aT,aZ,aw,ao,hy.ab,j,b,V,aar,aaE,aL,ai,bP,bu,cp,az,aq,aj,if_pos k1,S]
  by_cases k5:k=5
  .have eb:0<=m/\m<=200:=by omega
   obtain ⟨X,us,N,P,A⟩:=oE J ht (i+m) f kids ⟨k,s,m,rfl⟩ (by omega);have b7:IntKind.wrap .i64 (i+m)=i+m:=wrap_i64 (by omega) (by omega);obtain ⟨st',G,hrun,hW⟩:=jh w hw n (eP kids (i+m) f++l) X (vs++us) c (I+m) out st2 (by rw [fI];omega) (by omega) N (by rw [qV];exact jT.append F P) (oA a6 L) h0 (by simp only [iB,fI,jN];omega) (by omega) (yN R (by omega) (by omega) (by omega)) (by simp only [iB,fI,jN];omega) (by simp only [iB,fI,jN];omega) q E;refine ⟨st',G, ?_,by simp only [mf,if_neg k1,if_pos k5];exact hW⟩;rw [aJ (s':=([X],st2))]
   .exact hrun
   .subst k5;simp only [ij,ad,al,af,ae,r,ak,if_pos hpos,notNil,aQ,bE,aau,bQ,a,bp,aT,aZ,aw,ao,hy.ab,j,b,V,aar,aaE,aL,ai,bP,bu,cp,az,aq,aj,if_neg k1,show ¬ (5:Int)=2 from by omega,show ¬ (5:Int)=3 from by omega,show ¬ (5:Int)=6 from by omega,show ((5:Int)==4)=false from rfl,if_false,W,U,b7,A]
  by_cases k6:k=6
  .have a7:cW (.mk k s m kids) (.agg [.int .u8 k,.str s,.int .i64 m,y]):=⟨y,es,rfl,r1,r2,r3,hy,hk⟩;obtain ⟨x3,cl,b8,av,C⟩:=oE J ht i true kids ⟨k,s,m,rfl⟩ (by omega);have ed:=fI kids i true l;have ee:=iB kids i true l;obtain ⟨g,u,B⟩:=PZ (l:=eP kids i true++l) hw (by omega) b8 (by rw [qV];exact jT.append F av) (oA a6 L) h0 (by omega) q c6;have B: ∀{β:Type} (K:Kv β),aV (aY vE) 60 [.mp p 0,x3] st2 K=K (.bool (sr w (td (eP kids i true++l)) (eP kids i true++l) c)) g ⟨[],.all st2 g⟩:=fun K=>fh K rfl rfl B;have D: ∀{β:Type} (K:Kv β),aV (aY vE) 59 [.agg [.int .u8 k,.str s,.int .i64 m,y]] st2 K=K (.bool (qF (.mk k s m kids))) st2 q0:=fun K=>Jj st2 rfl a7.bare (CI _ _ a7) K;have cn:mf w (n+1) ((.mk k s m kids,i,f)::l) c=mf w n (eP kids i (f||(!qF (.mk k s m kids)&&sr w (td (eP kids i true++l)) (eP kids i true++l) c))++l) c:=by
    simp only [mf,if_neg k1,if_neg k5,if_pos k6]
   subst k6;have go: ∀(fl:Bool) (X:AV) (us:LA) (Y:St),oO 6 X (vs++us)->jT iG (kids.reverse.map fun d=>(d,i,fl)) us->Y.ro<=Y.h->ic Y p c w out->ij (.mp p 0) ([x],st)=some (.inl ([X],Y))->
     (f||(!qF (.mk 6 s m kids)&&sr w (td (eP kids i true++l)) (eP kids i true++l) c))=fl->
     ∃st' G,aH (ij (.mp p 0)) ([x],st)=some (0,[],st')/\R4 st' p G w (out++mf w (n+1) ((.mk 6 s m kids,i,f)::l) c):=by
    intro fl X us Y N P cv c7 b9 c8;obtain ⟨st',G,hrun,hW⟩:=jh w hw n (eP kids i fl++l) X (vs++us) c I out Y (by rw [fI];omega) (by omega) N (by rw [qV];exact jT.append F P) (oA a6 L) h0 (by simp only [iB,fI,jN];omega) H (yN R (by omega) (by omega) (by omega)) (by simp only [iB,fI,jN];omega) (by simp only [iB,fI,jN];omega) cv c7;refine ⟨st',G, ?_,by rw [cn,c8];exact hW⟩;rw [aJ b9];exact hrun
   cases hf:f with
   | true=>
    subst hf;refine go true x3 cl st2 b8 av q E ?_ (abI _);simp only [ij,ad,al,af,ae,r,ak,if_pos hpos,notNil,aQ,bE,aau,bQ,a,bp,aT,aZ,aw,ao,hy.ab,j,b,V,aar,aaE,aL,ai,bP,bu,cp,az,aq,aj,if_neg k1,show ¬ (6:Int)=2 from by omega,show ¬ (6:Int)=3 from by omega,show ((6:Int)==4)=false from rfl,if_false,if_true,W,U,C]
   | false=>
    subst hf;obtain ⟨X,us,N,P,A⟩:=oE J ht i false kids ⟨6,s,m,rfl⟩ (by omega);cases a1:qF (.mk 6 s m kids) with
    | true=>
     rw [a1] at D;refine go false X us st2 N P q E ?_ (by rw [a1];rfl);simp only [ij,ad,al,af,ae,r,ak,if_pos hpos,notNil,aQ,bE,aau,bQ,a,bp,aT,aZ,aw,ao,hy.ab,j,b,V,aar,aaE,aL,ai,bP,bu,cp,az,aq,aj,if_neg k1,show ¬ (6:Int)=2 from by omega,show ¬ (6:Int)=3 from by omega,show ((6:Int)==4)=false from rfl,if_false,if_true,W,U,b6,b5,C,D,aaS,A]
    | false=>
     rw [a1] at D;have a8:g.ro<=g.h:=by have:=u.ro;have:=u.h;omega
     have M:ic g p c w out:=E.G0 u;have cz:=u.old _ _ (fun h=>h) hg;have de:=fun {β:Type} (o:Nat) (K:AV->Ln->Oq β)=>bh cz 1 false o K;have cF:=fun {β:Type} (K:AV->Ln->Oq β)=>bh cz 6 true 0 K;cases Q:sr w (td (eP kids i true++l)) (eP kids i true++l) c with
     | true=>
      rw [Q] at B;refine go true x3 cl g b8 av a8 M ?_ (by rw [a1,Q];rfl);simp only [ij,ad,al,af,ae,r,ak,if_pos hpos,notNil,aQ,bE,aau,bQ,a,bp,aT,aZ,aw,ao,hy.ab,j,b,V,aar,aaE,aL,ai,bP,bu,cp,az,aq,aj,if_neg k1,show ¬ (6:Int)=2 from by omega,show ¬ (6:Int)=3 from by omega,show ((6:Int)==4)=false from rfl,if_false,if_true,W,U,b6,b5,C,D,aaR,B]
     | false=>
      rw [Q] at B;refine go false X us g N P a8 M ?_ (by rw [a1,Q];rfl);simp only [ij,ad,al,af,ae,r,ak,if_pos hpos,notNil,aQ,bE,aau,bQ,a,bp,aT,aZ,aw,ao,hy.ab,j,b,V,aar,aaE,aL,ai,bP,bu,cp,az,aq,aj,if_neg k1,show ¬ (6:Int)=2 from by omega,show ¬ (6:Int)=3 from by omega,show ((6:Int)==4)=false from rfl,if_false,if_true,W,U,b6,b5,C,D,aaR,B,cF,de,A]
  by_cases k7:k=7
  .have dk:m=0:=by omega
   obtain ⟨X,us,N,P,A⟩:=oE J ht i f kids ⟨k,s,m,rfl⟩ (by omega);have b7:IntKind.wrap .i64 (i+m)=i:=by rw [dk,Int.add_zero];exact wrap_i64 (by omega) (by omega)
   obtain ⟨st',G,hrun,hW⟩:=jh w hw n (eP kids i f++l) X (vs++us) c I out st2 (by rw [fI];omega) (by omega) N (by rw [qV];exact jT.append F P) (oA a6 L) h0 (by simp only [iB,fI,jN];omega) H (yN R (by omega) (by omega) (by omega)) (by simp only [iB,fI,jN];omega) (by simp only [iB,fI,jN];omega) q E;refine ⟨st',G, ?_,by simp only [mf,if_neg k1,if_neg k5,if_neg k6,if_pos k7];exact hW⟩;rw [aJ (s':=([X],st2))]
   .exact hrun
   .subst k7;simp only [ij,ad,al,af,ae,r,ak,if_pos hpos,notNil,aQ,bE,aau,bQ,a,bp,aT,aZ,aw,ao,hy.ab,j,b,V,aar,aaE,aL,ai,bP,bu,cp,az,aq,aj,if_neg k1,show ¬ (7:Int)=2 from by omega,show ¬ (7:Int)=3 from by omega,show ¬ (7:Int)=6 from by omega,show ((7:Int)==4)=false from rfl,if_false,W,U,b7,A]
  by_cases hf:f=true/\k≠4
  .obtain ⟨rfl,k4⟩:=hf;have e4:(k==4)=false:=beq_false_of_ne k4;by_cases k2:k=2
   .obtain ⟨g,M,u,cd,S⟩:=AG (s:=[32]) E rfl (by simp only [abl];omega) q h0 (by omega);obtain ⟨st',G,hrun,hW⟩:=jh w hw n l x' vs (c+1) I (out++[32]) g (by omega) (by omega) J F L (by omega) (by omega) H R (by omega) (by rw [aaa,abl];omega) (by have:=u.ro;have:=u.h;omega) M;refine ⟨st',G, ?_,by simp only [mf,if_neg k1,if_neg k5,if_neg k6,if_neg k7,if_pos k2,if_pos (show True/\k≠4 from ⟨trivial,k4⟩)];rw [aao] at hW;exact hW⟩;rw [aJ (s':=([x'],g))]
    .exact hrun
    .subst k2;simp only [ij,ad,al,af,ae,r,ak,if_pos hpos,notNil,aQ,bE,aau,bQ,a,bp,aT,aZ,aw,ao,hy.ab,j,b,V,aar,aaE,aL,ai,bP,bu,cp,az,aq,aj,if_neg k1,if_true,abm,aaS,show ((2:Int)==4)=false from rfl,S]
   .have k3:k=3:=by omega
    obtain ⟨st',G,hrun,hW⟩:=jh w hw n l x' vs c I out st2 (by omega) (by omega) J F L (by omega) (by omega) H R (by omega) (by omega) q E;refine ⟨st',G, ?_,by simp only [mf,if_neg k1,if_neg k5,if_neg k6,if_neg k7,if_neg k2,if_pos (show True/\k≠4 from ⟨trivial,k4⟩)];exact hW⟩;rw [aJ (s':=([x'],st2))]
    .exact hrun
    .subst k3;simp only [ij,ad,al,af,ae,r,ak,if_pos hpos,notNil,aQ,bE,aau,bQ,a,bp,aT,aZ,aw,ao,hy.ab,j,b,V,aar,aaE,aL,ai,bP,bu,cp,az,aq,aj,if_neg k1,if_true,abm,aaS,if_neg k2,if_false,show ((3:Int)==4)=false from rfl]
  .obtain ⟨ind,rfl⟩:=Int.eq_ofNat_of_zero_le cc.1;obtain ⟨g,M,u,cd,T⟩:=UY E ind (by omega) (by omega) q;obtain ⟨st',G,hrun,hW⟩:=jh w hw n l x' vs (ind:Int) I (out++10::List.replicate ind 32) g (by omega) (by omega) J F L (by omega) (by omega) H R (by omega) (by simp only [aaa,aab,ack];omega) (by have:=u.ro;have:=u.h;omega) M;refine ⟨st',G, ?_,by simp only [mf,if_neg k1,if_neg k5,if_neg k6,if_neg k7,if_neg hf];rw [aao] at hW;exact hW⟩;rw [aJ (s':=([x'],g))]
   .exact hrun
   .have kk:k=2\/k=3\/k=4:=by omega
    cases Q:f with
    | false=>
     subst Q;rcases kk with rfl | rfl | rfl
     .simp only [ij,ad,al,af,ae,r,ak,if_pos hpos,notNil,aQ,bE,aau,bQ,a,bp,aT,aZ,aw,ao,hy.ab,j,b,V,aar,aaE,aL,ai,bP,bu,cp,az,aq,aj,if_neg k1,if_true,abm,aaR,T]
     .simp only [ij,ad,al,af,ae,r,ak,if_pos hpos,notNil,aQ,bE,aau,bQ,a,bp,aT,aZ,aw,ao,hy.ab,j,b,V,aar,aaE,aL,ai,bP,bu,cp,az,aq,aj,if_neg k1,if_true,abm,aaR,show ¬ (3:Int)=2 from by omega,if_false,T]
     .simp only [ij,ad,al,af,ae,r,ak,if_pos hpos,notNil,aQ,bE,aau,bQ,a,bp,aT,aZ,aw,ao,hy.ab,j,b,V,aar,aaE,aL,ai,bP,bu,cp,az,aq,aj,if_neg k1,if_true,abm,aaR,show ¬ (4:Int)=2 from by omega,show ¬ (4:Int)=3 from by omega,if_false,T]
    | true=>
     have k4:k=4:=by
      rw [Q] at hf;simpa using hf
     subst Q k4;simp only [ij,ad,al,af,ae,r,ak,if_pos hpos,notNil,aQ,bE,aau,bQ,a,bp,aT,aZ,aw,ao,hy.ab,j,b,V,aar,aaE,aL,ai,bP,bu,cp,az,aq,aj,if_neg k1,if_true,abm,aaS,show ¬ (4:Int)=2 from by omega,show ¬ (4:Int)=3 from by omega,if_false,T]
theorem Rw {l:List lx} {x:AV} {ws:LA} {w I:Int} {p:Nat} {st:St} (e: -1000000000<=w/\w<=1000000000) (hm:td l<=1000000) (hx:oO 6 x ws) (hl:jT iG l.reverse ws) (hn:za l=true) (a:0<=I) (f:XF I l) (b:(I+Gi l<=10000000/\cL l<=500000000)) (c:st.ro<=st.h) (g:ic st p 0 w []):
  ∃st',(aY vE).wide 27 [.mp p 0,x] st=some (.str (mf w (td l) l 0),st'):=by
 obtain ⟨st',i,hrun,hW⟩:=jh w e (td l) l x ws 0 I [] st (aah _) (by omega) hx hl hn (by omega) (by omega) a f b (by simp only [aae];omega) c g;rw [aaj] at hW;obtain ⟨hW,hL⟩:=hW;have hlen:(mf w (td l) l 0).length < 4611686018427387904:=by omega
 obtain ⟨j,d⟩:=HD (O:=aY vE) (β:=AV×St) hW hlen (fun v st _=>dN v fun l=>some (.str l,st));refine ⟨st',fW ((TA _ _ _).trans ?_)⟩;simp only [Zn,hrun,ai,ae,notNil,aQ,bE,aau];exact d
theorem AD {kids:List Doc} {es:LA} (h:es.length=kids.length):es=[]↔kids.isEmpty=true:=by
 cases kids with
 | nil=>simp only [aae] at h;simp [aaZ h]
 | cons d l=>
  simp only [List.isEmpty_cons];constructor
  .rintro rfl;simp at h
  .intro h;cases h
theorem Jo: ∀(ds:List Doc),(!(ds.any fun d=> !ow d))=pU ds
 | []=>rfl
 | d::ds=>by
  simp only [abr,pU, <- Jo ds];cases ow d <;> simp
theorem J3 {d:Doc}: ∀{ds:List Doc},d∈ds->xT d<=ot ds
 | _:: _,h=>by
  rcases aam.1 h with rfl | h
  .simp only [ot];omega
  .have:=J3 h;simp only [ot];omega
theorem Gs (d:Doc) (v:AV) (i:cW d v) (G:xT d<=1000000000):(aY vE).bare 26 [v]=some (.bool (ow d)):=by
 match d with
 | .mk k s n kids=>
  obtain ⟨x,es,rfl,J,r2,L,hx,p⟩:=i;simp only [xT] at G;refine aM rfl ((Tk _).trans ?_);have H:=fun (st:St) (K:Kv bU)=>contains_of (f:=54) rfl rfl (fun d=> !ow d) hx p (fun d hd v i=>by
   have q:=Gs d v i (by have:=J3 hd;omega);have o:=fun K=>Jj (β:=AV) (f:=26) (St.mk 0 0 Tr.leaf) rfl i.bare q K;refine aM rfl ((U5 _).trans ?_);obtain ⟨M,s',n',w⟩:=d;obtain ⟨y,I,rfl,_,_,_,hy,_⟩:=i;simp only [Zz,aw,ad,af,ao,ae,hy.ab,hy.aB,o,al]) st K
  have hval: ∀{β:Type} (st:St) (K:Kv β),cX (aY vE) (dy (Prim.lib jU) [.str s]) st K=K (.bool (bH s)) st q0:=fun st K=>fC (xn (by omega)) st K;have g: ∀{β:Type} (c:UInt8) (st:St) (K:Kv β),cX (aY vE) (dy (Prim.lib fY) [.str s,.str [c]]) st K=K (.bool (s.any fun b=>b==c)) st q0:=fun c st K=>fC (Bo s c) st K;have hlen:=p.all.len;have r:=AD hlen;have a: ∀(b:Bool) (st:St) (K:bU->Oq AV),ax (aX b (aV (aY vE) 53 [x,AV.fn (Fn.func 54) [] []] st fun z t _x=>bG z fun A=>some ([AV.bool !A],t)) (some ([AV.bool false],st))) K=K ([.bool (b&&pU kids)],st):=fun b st K=>by
   cases b with
   | false=>rfl
   | true=>
    rw [aq,H,al,ai,Jo];rfl
  simp only [ow,OJ];by_cases k1:k=1
  .subst k1;by_cases m:n=0
   .subst m;by_cases j:es=[]
    .have e:kids.isEmpty=true:=r.1 j;cases i:bH s with
     | false=>simp [Is,aw,ad,af,ao,ae,hx.ab,hx.aB,hx.len,j,hval,g,a,e,i]
     | true=>
      cases u:s.any fun b=>b==10 with
      | false=>simp [Is,aw,ad,af,ao,ae,hx.ab,hx.aB,hx.len,j,hval,g,a,e,i,u]
      | true=>simp [Is,aw,ad,af,ao,ae,hx.ab,hx.aB,hx.len,j,hval,g,a,e,i,u]
    .have e:kids.isEmpty=false:=by cases h:kids.isEmpty <;> simp_all
     simp [Is,aw,ad,af,ao,ae,hx.ab,hx.aB,hx.len,j,hval,g,a,e]
   .simp [Is,aw,ad,af,ao,ae,hx.ab,hx.aB,hx.len,m,hval,g,a]
  by_cases B:k=2\/k=3\/k=4
  .by_cases m:n=0
   .subst m;by_cases j:es=[]
    .have e:kids.isEmpty=true:=r.1 j;rcases B with rfl | rfl | rfl <;> simp [Is,aw,ad,af,ao,ae,hx.ab,hx.aB,hx.len,j,a,e]
    .have e:kids.isEmpty=false:=by cases h:kids.isEmpty <;> simp_all
     rcases B with rfl | rfl | rfl <;> simp [Is,aw,ad,af,ao,ae,hx.ab,hx.aB,hx.len,j,a,e]
   .rcases B with rfl | rfl | rfl <;> simp [Is,aw,ad,af,ao,ae,hx.ab,hx.aB,hx.len,m,a]
  have C:¬ k=2/\¬ k=3/\¬ k=4:=by omega
  by_cases E:k=5
  .subst E;by_cases h0:n>=0
   .have l:0<=n:=h0;by_cases F:n<=200
    .simp [Is,aw,ad,af,ao,ae,hx.ab,hx.aB,hx.len,a,l,F]
    .simp [Is,aw,ad,af,ao,ae,hx.ab,hx.aB,hx.len,a,l,F]
   .have l:¬ 0<=n:=h0;simp [Is,aw,ad,af,ao,ae,hx.ab,hx.aB,hx.len,a,l]
  by_cases k6:k=6\/k=7
  .by_cases m:n=0
   .subst m;rcases k6 with rfl | rfl <;> simp [Is,aw,ad,af,ao,ae,hx.ab,hx.aB,hx.len,a]
   .rcases k6 with rfl | rfl <;> simp [Is,aw,ad,af,ao,ae,hx.ab,hx.aB,hx.len,a,m]
  have D:¬ k=6/\¬ k=7:=by omega
  simp [Is,aw,ad,af,ao,ae,hx.ab,hx.aB,hx.len,a,k1,C,E,D]
termination_by SizeOf.sizeOf d
decreasing_by
 have:=yV hd
 simp_wf
 omega
theorem Pk {d:Doc} {v:AV} (b:cW d v) (f:Bool): ∃k s n x,v= .agg [.int .u8 k,.str s,.int .i64 n,x]/\iG (d,0,f) (.agg [.int .u8 k,.str s,.int .i64 n,x,.int .i64 0,.bool f])/\one x=true/\(∀{β:Type} (K:AV->Oq β),aB x K=K x):=by
 obtain ⟨k,s,n,kids⟩:=d;have a:=b;obtain ⟨x,es,rfl,e,r2,g,hx,c⟩:=b;exact ⟨k,s,n,x,rfl,⟨_,_,_,_,a,rfl⟩,hx.one,fun K=>hx.aB K⟩
theorem KB {d:Doc} {v:AV} {f:Bool} (b:iG (d,0,f) v) (hn:ow d=true) (h1:gW d<=1000000) (g:xT d<=100000000) (i:G6 d<=10000000) {w:Int} (c: -1000000000<=w/\w<=1000000000) {st:St} (a:st.ro<=st.h):
  ∃st' e,∀{β:Type} (K:Kv β),aV (aY vE) 27 [.mp st.h 0,.sl 6 [v] .shut] (st.add (.cells 68 [.nilp,.aD,.int .i64 0,.int .i64 w])) K=K (.str (mf w (gW d) [(d,0,f)] 0)) st' e:=by
 have hm:td [(d,(0:Int),f)]=gW d:=by simp [td]
 have hW:ic (st.add (.cells 68 [.nilp,.aD,.int .i64 0,.int .i64 w])) st.h 0 w []:=⟨.nilp,.aD,St.dY,.inl rfl,.inl ⟨rfl,rfl⟩,a⟩;obtain ⟨st',hl⟩:=Rw (l:=[(d,0,f)]) (x:= .sl 6 [v] .shut) (ws:=[v]) (w:=w) (I:=0) (p:=st.h) c (by omega) ⟨by simp,.inl rfl⟩ ⟨v,[],rfl,b,rfl⟩ (by simp [za,hn]) (by omega) (by intro t h;simp at h;subst h;exact ⟨Int.le_refl _,Int.le_refl _⟩) (by simp [td,cL,Gi];omega)
  (by show st.ro<=st.h+1;omega) hW
 rw [hm] at hl;exact ⟨st',_,fun K=>fh K rfl rfl hl⟩
theorem Mp {d:Doc} {v:AV} (g:cW d v) (w:Int) (h1:gW d<=1000000) (h:xT d<=100000000) (i:G6 d<=10000000):(aY vE).bare 12 [v,.int .i64 w]=some (.tup [.str (GM d w).1,.int .i64 (GM d w).2]):=by
 refine aM rfl ((Ta _ _).trans ?_);obtain ⟨k,s,n,x,rfl,j,ho,hf⟩:=Pk g false;have a:=fun {β:Type} (st:St) (K:Kv β)=>Jj (f:=26) st rfl g.bare (Gs d _ g (by omega)) K;have hx:=fun {β:Type} (K:Oq β)=>jS ho K;unfold GM;by_cases b:w < 1
 .rw [if_pos (.inl b)];simp only [g12,aw,ad,af,ao,ae,hx,hf,ak,if_pos b,ai,al,aq]
 by_cases e:w > 200
 .rw [if_pos (.inr e)];simp only [g12,aw,ad,af,ao,ae,hx,hf,ak,if_neg b,ai,al,if_pos e]
 rw [if_neg (by omega)];cases hm:ow d with
 | false=>
  rw [hm] at a;simp only [g12,aw,ad,af,ao,ae,hx,hf,ak,if_neg b,ai,al,if_neg e,a,aaR,aq,if_true]
 | true=>
  rw [hm] at a;obtain ⟨st',l,c⟩:=KB j hm h1 h i (w:=w) (by omega) (st:=St.mk 0 0 Tr.leaf) (aah _);simp only [g12,aw,ad,af,ao,ae,hx,hf,ak,if_neg b,ai,al,if_neg e,a,aaS,aj,bQ,c,Bool.true_eq_false,if_false]
end Go.Proofs.YtkpeicabocpbkaaGreatDoor.Vm
namespace Go.Proofs.YtkpeicabocpbkaaGreatDoor.Vm
open Go Go.VM Go.Proofs
noncomputable def g4:Oq AV:=aR 7 [.str [108,101,116,32,32,32,120,61,49],.int .i64 80] sZ fun b d _=>gN b fun e=>cr e 0 fun f=>dN f fun g=>gN b fun h=>cr h 1 fun i=>bj .i64 i fun j=>aR 7 [.str [108,101,116,32,120,32,61,10,10,40,49,10,41,108,101,116,32,121,61,120],.int .i64 20] d fun c a _=>gN c fun k=>cr k 0 fun l=>dN l fun m=>gN c fun n=>cr n 1 fun o=>bj .i64 o fun p=>ax (aX (j==0) (aX (g==[108,101,116,32,120,32,61,32,49,10]) (aX (p==0) (some ([.bool (m==[108,101,116,32,120,32,61,32,40,49,41,10,10,108,101,116,32,121,32,61,32,120,10])],a)) (some ([.bool false],a))) (some ([.bool false],a))) (some ([.bool false],a))) fun q=>bg q.1 fun r s=>bG r fun t=>bB s (some (.bool t))
theorem W5:bz vE 4 []=g4:=by kernel_rfl
end Go.Proofs.YtkpeicabocpbkaaGreatDoor.Vm
namespace Go.Proofs.YtkpeicabocpbkaaGreatDoor.Vm
open Go Go.VM Go.Proofs Go.Lex Go.Parse Go.Lay
def HB (s:LB) (w:Int):AV:=match Format.xb s w with
 | .ok t=> .tup [.str t,.int .i64 0]
 | .error e=> .tup [.str [],.int .i64 (e:Int)]
theorem PE {s:LB} {e:Nat} (h:Format.tS s= .error e):e≠0:=by
 rw [Format.yA] at h
 repeat' split at h
 all_goals first | (cases h;done) | (cases h;decide)
theorem QP {β:Type} (b c:Bool) (K:LA×St->Oq β):ax (aX b (some ([AV.bool true],S0)) (some ([AV.bool c],S0))) K=K ([AV.bool (b||c)],S0):=by cases b <;> rfl
theorem Ms (s:LB) (w:Int):(aY vE).bare 7 [.str s,.int .i64 w]=some (HB s w):=by
 obtain ⟨b,t,a⟩:=KY s;have u:=fun {γ:Type} (st:St) (K:Kv γ)=>aG (f:=11) (args:=[.str s]) st K rfl rfl rfl t;refine aM rfl (aa.eq (aa.step (Wc _ _) ?_));unfold g7;refine aa.step (ao _ _) (aa.step (af _ _ _) (aa.step (QP _ _ _) ?_));simp only [ad,al,ae];by_cases j:w < 20\/200 < w
 .have h1:(decide (w < 20)||decide (w > 200))=true:=by
   rcases j with h | h
   .rw [abh h];rfl
   .rw [abh (show w > 200 from h),Bool.or_true]
  rw [h1];have i:HB s w= .tup [.str [],.int .i64 1]:=by unfold HB Format.xb;rw [if_pos j];rfl
  rw [i];exact aa.step (aq _ _) (aa.some rfl)
 .have h1:(decide (w < 20)||decide (w > 200))=false:=by
   rw [abe (show ¬ w < 20 by omega),abe (show ¬ w > 200 by omega)];rfl
  rw [h1];refine aa.step (aj _ _) (aa.step (u _ _) ?_);cases hL:Format.tS s with
  | error e=>
   have i:HB s w= .tup [.str [],.int .i64 (e:Int)]:=by unfold HB Format.xb;rw [if_neg j,hL]
   rw [i];unfold DM at a;rw [hL] at a;have a:b= .tup [.agg d4,.int .i64 (e:Int)]:=a;have l:((e:Int) != 0)=true:=by simpa using PE hL
   rw [a];simp only [bp,aT,aZ,aw,ad,af,ao,ae];refine aa.AA (Vw.start (aba _)) fun v _ n=>aa.step (il.ab _) ?_;refine aa.mW [] n fun x _ _ r=> ?_;rw [l];exact aa.step (aq _ _) (aa.some rfl)
  | ok d=>
   obtain ⟨rfl,y,A,B,hl⟩:=Format.U3 hL;unfold DM at a;rw [hL] at a;obtain ⟨o,rfl,hd⟩: ∃o,b= .tup [o,.int .i64 0]/\cW (Format.rh s) o:=a;obtain ⟨C,E,F,G⟩:=Format.Kq y A B;have p:GM (Format.rh s) w=(Format.tf (Format.rh s) w,0):=by
    unfold GM;rw [if_neg (by omega),if_neg (by rw [C];exact Bool.noConfusion)];rfl
   have i:HB s w=if 65536 < (Format.tf (Format.rh s) w).length then .tup [.str [],.int .i64 40] else .tup [.str (Format.tf (Format.rh s) w),.int .i64 0]:=by
    unfold HB Format.xb;rw [if_neg j,hL];dsimp only;by_cases g:65536 < (Format.tf (Format.rh s) w).length
    .rw [if_pos g,if_pos g];rfl
    .rw [if_neg g,if_neg g]
   rw [i];have sp:=Mp hd w (by omega) (by omega) (by omega);rw [p] at sp;generalize Format.tf (Format.rh s) w=X at *;have q:=hd.bare;obtain ⟨k,s',m,kids,z,zs,H,rfl,D,_⟩:=kK hd;have cs:=fun {γ:Type} (st:St) (K:Kv γ)=>aG (f:=12) (args:=[.agg (dX k s' m z),.int .i64 w]) st K rfl rfl (by simp only [bf,q];rfl) sp;simp only [bp,aT,aZ,aw,ad,af,ao,ae];refine aa.AA (Vw.start (aba _)) fun v _ n=>aa.step (D.ab _) ?_;refine aa.mW [] n fun x _ _ r=>aa.step (aj _ _) ?_;refine aa.ju aad r rfl ?_;simp only [aw,ad,af,ao,ae];refine aa.step (cs _ _) ?_;simp only [bp,aT,aZ,af,ao];refine aa.step (aj _ _) ?_;by_cases g:65536 < X.length
   .rw [if_pos g];exact aa.step (cQ (c:=true) (abh (show ((X.length:Nat):Int) > 65536 by omega)) _ _) (aa.step (aq _ _) (aa.some rfl))
   .rw [if_neg g];exact aa.step (cQ (c:=false) (abe (show ¬ ((X.length:Nat):Int) > 65536 by omega)) _ _) (aa.step (aj _ _) (aa.some rfl))
theorem r8 (s:LB) (w:Int) {γ:Type} (st:St) (K:Kv γ):aV (aY vE) 7 [.str s,.int .i64 w] st K=K (HB s w) st q0:=aG st K rfl rfl rfl (Ms s w)
def YP:LB:=[108,101,116,32,32,32,120,61,49]
def X1:LB:=[108,101,116,32,120,32,61,10,10,40,49,10,41,108,101,116,32,121,61,120]
def Ys:LB:=[108,101,116,32,120,32,61,32,49,10]
def Yq:LB:=[108,101,116,32,120,32,61,32,40,49,41,10,10,108,101,116,32,121,32,61,32,120,10]
theorem M1:HB YP 80= .tup [.str Ys,.int .i64 0]:=by kernel_rfl
theorem N7:HB X1 20= .tup [.str Yq,.int .i64 0]:=by kernel_rfl
theorem Rp:(aY vE).bare 4 []=some (.bool true):=by
 refine aM rfl (W5.trans ?_);have a:=fun {γ:Type} (st:St) (K:Kv γ)=>(r8 YP 80 st K).trans (by rw [M1]);have b:=fun {γ:Type} (st:St) (K:Kv γ)=>(r8 X1 20 st K).trans (by rw [N7]);simp only [YP,X1] at a b;simp only [g4,a,b,bp,aT,aZ,af,ao];rfl
theorem uH {γ:Type} (st:St) (K:Kv γ):aV (aY vE) 4 [] st K=K (.bool true) st q0:=aG st K rfl rfl rfl Rp
theorem RB (n:Int): ∃w:Int,20<=w/\w<=200/\IntKind.wrap .i64 (20+IntKind.wrap .i64 (Int.tmod (IntKind.wrap .u64 n) 181))=w:=by
 have h0:0<=IntKind.wrap .u64 n:=by
  show 0<=(n % (2 ^ 64:Int):Int);omega
 have h1:0<=Int.tmod (IntKind.wrap .u64 n) 181:=Int.tmod_nonneg _ h0;have a:Int.tmod (IntKind.wrap .u64 n) 181 < 181:=Int.tmod_lt_of_pos _ (by decide);generalize Int.tmod (IntKind.wrap .u64 n) 181=m at *;refine ⟨20+m,by omega,by omega, ?_⟩;rw [wrap_i64 (n:=m) (by omega) (by omega),wrap_i64 (by omega) (by omega)]
end Go.Proofs.YtkpeicabocpbkaaGreatDoor.Vm
namespace Go.Proofs.YtkpeicabocpbkaaGreatDoor.Vm
open Go Go.VM Go.Proofs
noncomputable def g3:AV->AV->AV->Oq AV:=fun n o p=>dN n fun c=>bj .u8 o fun q=>bj .i64 p fun f=>ax (aX (decide ((↑c.length:Int) > 2000)) (some ([.bool true],sZ)) (aR 4 [] sZ fun r s _=>bG r fun t=>some ([.bool !t],s))) fun d=>bg d.1 fun u v=>bG u fun w=>bB v (aX w (aR 4 [] d.2 fun y _ _=>bG y fun z=>some (.bool z)) (aR 5 [.str c] d.2 fun g a _=>gN g fun x=>cr x 0 fun A=>ag A fun B C D i=>(gN g fun E=>cr E 1 fun F=>bj .i64 F fun G=>bk (St.add a (.cells 27 (nC 0 0 [] .aD))) fun H=>ab i (da 4 (.mp a.h 0) (nC B C D i) H fun _ e _=>ax (aX (G != 0) (some ([.bool true],e)) (ar 4 true (.mp a.h 0) e fun I _=>ag I fun J K L M=>(aR 6 [nA J K L M] e fun N O _=>bG N fun P=>some ([.bool !P],O)))) fun b=>bg b.1 fun Q R=>bG Q fun S=>bB R (aX S (some (.bool true)) (dB 1 (.sl 1 [.str [32],.str [10],.str [9,32,13,10],.str [32,32,32,32]] .shut) (Int.tmod q 4) b.2 fun T _=>ar 1 false T b.2 fun U _=>dN U fun V=>aR 7 [.str c,.int .i64 (IntKind.wrap .i64 (20+(IntKind.wrap .i64 (Int.tmod (IntKind.wrap .u64 f) 181))))] b.2 fun j k _=>gN j fun W=>cr W 0 fun X=>dN X fun Y=>gN j fun Z=>cr Z 1 fun c7=>bj .i64 c7 fun c8=>ar 4 true (.mp a.h 0) k fun c9 _=>ag c9 fun d0 d1 d2 d3=>(aR 8 [nA d0 d1 d2 d3,.str V] k fun d4 d5 _=>dN d4 fun d6=>aR 7 [.str d6,.int .i64 (IntKind.wrap .i64 (20+(IntKind.wrap .i64 (Int.tmod (IntKind.wrap .u64 f) 181))))] d5 fun l m _=>gN l fun d7=>cr d7 0 fun d8=>dN d8 fun d9=>gN l fun e0=>cr e0 1 fun e1=>bj .i64 e1 fun e2=>ax (aX (Y==d9) (some ([.bool (c8==e2)],m)) (some ([.bool false],m))) fun e3=>bg e3.1 fun e4 e5=>bG e4 fun e6=>bB e5 (some (.bool e6)))))))))
theorem V3 (a b c:AV):bz vE 3 [a,b,c]=g3 a b c:=by kernel_rfl
noncomputable def g5:AV->Oq AV:=fun g=>dN g fun h=>aR 9 [.str h] (St.mk 1 0 (.node (some (.cells 27 (nC 0 0 [] .aD))) .leaf .leaf)) fun a b _=>gN a fun i=>cr i 0 fun j=>gN a fun k=>cr k 1 fun l=>bj .i64 l fun c=>aX (c != 0) (da 4 (.mp 0 0) (nC 0 0 [] .aD) b fun _ d _=>ar 4 true (.mp 0 0) d fun m _=>ag m fun n o p q=>(eQ d 0 (.tup [nA n o p q,.int .i64 c]) fun r=>some r)) (aR 10 [j] b fun s t _=>ag s fun u v w e=>(ab e (da 4 (.mp 0 0) (nC u v w e) t fun _ f _=>ar 4 true (.mp 0 0) f fun y _=>ag y fun z x A B=>(eQ f 0 (.tup [nA z x A B,.int .i64 0]) fun C=>some C))))
theorem Xd (a:AV):bz vE 5 [a]=g5 a:=by kernel_rfl
noncomputable def vK (d:St):bU->Oq (bU ⊕ Nat×bU):=fun e=>bB e.1 (ax (aR 15 [.mp 1 0] e.2 fun j f _=>dR j fun k _=>(aX (k != 0) (aR 16 [.mp 1 0,.str [108,101,116]] f fun l m _=>bG l fun n=>some ([.bool !n],m)) (some ([.bool false],f)))) fun a=>bg a.1 fun o p=>bG o fun q=>bB p (aX q (ar 1 false (.mp d.h 3) a.2 fun r s=>aR 17 [.mp 1 0] a.2 fun t u g=>ag t fun v w y b=>(cg (apart (Fx.mk s du.kept) g&&(apart (⟨[],.kept⟩) g&&true)) (ab b (ab b (aB b fun i=>ab i (aB i fun z=>cq 4 56 27 r [nA v w y z] u fun c x _=>ab c (ab c (lV (.mp d.h 3) c x fun _ A _=>some (Sum.inl ([],A)))))))))) (some (Sum.inr (0,[],a.2)))))
noncomputable def tb:bU->Oq (bU ⊕ Nat×bU):=fun k=>bB k.1 (aR 15 [.mp 1 0] k.2 fun q l _=>dR q fun r _=>(aX (r != 0) (ax (aR 16 [.mp 1 0,.str [108,101,116]] l fun s a _=>bG s fun t=>aX t (aR 17 [.mp 1 0] a fun u c _=>ag u fun v w y d=>(ab d (ab d (aB d fun z=>bk (St.add c (.cells 27 (nC 0 0 [] .aD))) fun x=>da 4 (.mp c.h 0) [.int .u8 5,.int .u8 0,.str [],.sl 4 [nA v w y z] .shut] x fun _ e _=>ar 1 false (.mp 2 3) e fun A B=>ar 4 true (.mp c.h 0) e fun C _=>ag C fun D E F G=>(aR 18 [.mp 1 0,nA D E F G] e fun H I m=>ag H fun J K L f=>(cg (apart (Fx.mk B du.kept) m&&(apart (⟨[],.kept⟩) m&&true)) (ab f (ab f (aB f fun n=>ab n (aB n fun M=>cq 4 56 27 A [nA J K L M] I fun g N _=>ab g (ab g (lV (.mp 2 3) g N fun _ O _=>some (Sum.inl ([],O)))))))))))))) (bk (St.add a (.cells 27 (nC 0 0 [] .aD))) fun P=>da 4 (.mp a.h 0) (nC 3 0 [] .aD) P fun _ Q _=>ax (aH (vK a) ([],Q)) fun b=>bB b.2.1 (ar 1 false (.mp 2 3) b.2.2 fun R _=>ar 4 true (.mp a.h 0) b.2.2 fun S _=>ag S fun T U V i=>(ab i (ab i (aB i fun o=>ab o (aB o fun W=>cq 4 56 27 R [nA T U V W] b.2.2 fun j X _=>ab j (ab j (lV (.mp 2 3) j X fun _ Y _=>some (Sum.inl ([],Y))))))))))) fun Z=>ke Z fun p=>bB p.1 (some (Sum.inl ([],p.2)))) (some (Sum.inr (0,[],l)))))
noncomputable def g10:AV->Oq AV:=fun a=>ab a (ab a (ax (aH tb ([],St.mk 3 0 (.node (some (.cells 27 (nC 0 0 [] .aD))) (.node (some (.cells 53 [a,.int .i64 0,.int .i64 0])) .leaf .leaf) (.node (some (.cells 27 (nC 4 0 [] .aD))) .leaf .leaf)))) fun b=>bB b.2.1 (ar 1 false (.mp 2 3) b.2.2 fun j k=>aR 17 [.mp 1 0] b.2.2 fun l m e=>ag l fun n o p c=>(cg (apart (Fx.mk k du.kept) e&&(apart (⟨[],.kept⟩) e&&true)) (ab c (ab c (aB c fun f=>ab f (aB f fun q=>cq 4 56 27 j [nA n o p q] m fun d r _=>ab d (ab d (lV (.mp 2 3) d r fun _ g _=>ar 4 true (.mp 2 0) g fun s _=>ag s fun t u v h=>(ab h (da 4 (.mp 0 0) (nC t u v h) g fun _ i _=>ar 4 true (.mp 0 0) i fun w _=>ag w fun y z x A=>(eQ i 0 (nA y z x A) fun B=>some B)))))))))))))
theorem Sr (a:AV):bz vE 10 [a]=g10 a:=by kernel_rfl
noncomputable def YQ:AV->St->Oq (AV×St):=fun b st=>bk (St.add st (.cells 24 [.int .u8 0,.str []])) fun f=>aR 39 [b] f fun g a _=>bj .i64 g fun c=>cg (notNil b) (cV 0 b fun i=>ar 1 false i a fun j _=>fq j fun k=>aX (decide (c < (↑k:Int))) (cg (notNil b) (cV 0 b fun l=>ar 1 false l a fun m _=>dB 2 m c a fun n _=>ar 2 true n a fun o _=>dR o fun p q=>(da 2 (.mp st.h 0) [.int .u8 p,.str q] a fun _ d _=>ar 2 true (.mp st.h 0) d fun r _=>dR r fun s t=>(some (.agg [.int .u8 s,.str t],d))))) (da 2 (.mp st.h 0) [.int .u8 0,.str []] a fun _ e _=>ar 2 true (.mp st.h 0) e fun u _=>dR u fun v w=>(some (.agg [.int .u8 v,.str w],e))))
theorem On (a:AV) (st:St):cT vE 15 [a] st=YQ a st:=by kernel_rfl
noncomputable def Y7:AV->AV->St->Oq (AV×St):=fun e f st=>dN f fun c=>aR 15 [e] st fun g b _=>dR g fun i j=>(bk (St.add b (.cells 24 [.int .u8 0,.str []])) fun k=>da 2 (.mp b.h 0) [.int .u8 i,.str j] k fun _ a _=>ax (ar 1 false (.mp b.h 0) a fun l _=>bj .u8 l fun m=>aX (m==3) (ar 1 false (.mp b.h 1) a fun n _=>dN n fun o=>some ([.bool (o==c)],a)) (ar 1 false (.mp b.h 0) a fun p _=>bj .u8 p fun q=>aX (q==8) (ar 1 false (.mp b.h 1) a fun r _=>dN r fun s=>some ([.bool (s==c)],a)) (some ([.bool false],a)))) fun d=>bg d.1 fun t u=>bG t fun v=>bB u (some (.bool v,d.2)))
theorem Tm (a b:AV) (st:St):cT vE 16 [a,b] st=Y7 a b st:=by kernel_rfl
noncomputable def Hl (a:AV) (d:St) (g:Int):bU->Oq (bU ⊕ Nat×bU):=fun b=>bB b.1 (cg (notNil a) (cV 1 a fun i=>ar 1 false i b.2 fun j _=>bj .i64 j fun k=>aX (decide (k < g)) (ar 1 false (.mp d.h 3) b.2 fun l _=>cg (notNil a) (cV 0 a fun m=>ar 1 false m b.2 fun n _=>cg (notNil a) (cV 1 a fun o=>ar 1 false o b.2 fun p _=>bj .i64 p fun q=>dB 2 n q b.2 fun r _=>ar 2 true r b.2 fun s _=>dR s fun t u=>(cq 4 56 27 l [nA 1 t u .aD] b.2 fun c v _=>ab c (ab c (lV (.mp d.h 3) c v fun _ e _=>cg (notNil a) (cV 1 a fun w=>ar 1 false w e fun y _=>bj .i64 y fun z=>aN (IntKind.wrap .i64 (z+1)) fun f=>cg (notNil a) (cV 1 a fun x=>bm (aY vE) 1 x (.int .i64 f) [.int .i64 f] e fun _ A _=>some (Sum.inl ([],A)))))))))) (some (Sum.inr (0,[],b.2)))))
noncomputable def ZV:AV->St->Oq (AV×St):=fun a st=>bk (St.add st (.cells 27 (nC 0 0 [] .aD))) fun i=>aR 15 [a] i fun j c _=>dR j fun k l=>(bk (St.add c (.cells 27 (nC 0 0 [] .aD))) fun m=>da 4 (.mp c.h 0) (nC 1 k l .aD) m fun _ n _=>aR 39 [a] n fun o p _=>bj .i64 o fun q=>ax (aH (Hl a c q) ([],p)) fun b=>bB b.2.1 (cg (notNil a) (cV 1 a fun r=>ar 1 false r b.2.2 fun s _=>bj .i64 s fun t=>cg (notNil a) (cV 0 a fun u=>ar 1 false u b.2.2 fun v _=>fq v fun w=>ax (aX (decide (t < (↑w:Int))) (cg (notNil a) (cV 1 a fun y=>ar 1 false y b.2.2 fun z _=>bj .i64 z fun x=>aN (IntKind.wrap .i64 (x+1)) fun e=>cg (notNil a) (cV 1 a fun A=>bm (aY vE) 1 A (.int .i64 e) [.int .i64 e] b.2.2 fun _ B _=>some ([],B)))) (some ([],Prod.snd b.2))) fun d=>bB d.1 (ar 4 true (.mp c.h 0) d.2 fun C _=>ag C fun D E F f=>(ab f (da 4 (.mp st.h 0) (nC D E F f) d.2 fun _ g _=>ar 4 true (.mp st.h 0) g fun G _=>ag G fun H I J K=>(some (nA H I J K,g)))))))))
theorem Sy (a:AV) (st:St):cT vE 17 [a] st=ZV a st:=by kernel_rfl
noncomputable def wo (d:AV) (st:St):bU->Oq (bU ⊕ Nat×bU):=fun e=>bB e.1 (aR 40 [d] e.2 fun i a _=>bG i fun j=>aX j (ar 1 false (.mp st.h 3) a fun k l=>aR 41 [d] a fun m n f=>ag m fun o p q b=>(cg (apart (Fx.mk l du.kept) f&&(apart (⟨[],.kept⟩) f&&true)) (ab b (ab b (aB b fun g=>ab g (aB g fun r=>cq 4 56 27 k [nA o p q r] n fun c s _=>ab c (ab c (lV (.mp st.h 3) c s fun _ t _=>some (Sum.inl ([],t)))))))))) (some (Sum.inr (0,[],a))))
noncomputable def Zl:AV->AV->St->Oq (AV×St):=fun a H st=>ag H fun I J K q=>(ab q (bk (St.add st (.cells 27 (nC I J K q))) fun c=>bk (St.add c (.cells 27 (nC 0 0 [] .aD))) fun L=>aR 16 [a,.str [114,101,99]] L fun M d _=>bG M fun N=>ax (aX N (ar 1 false (.mp st.h 3) d fun O P=>aR 17 [a] d fun Q R r=>ag Q fun S T U e=>(cg (apart (Fx.mk P du.kept) r&&(apart (⟨[],.kept⟩) r&&true)) (ab e (ab e (aB e fun s=>ab s (aB s fun V=>cq 4 56 27 O [nA S T U V] R fun f W _=>ab f (ab f (lV (.mp st.h 3) f W fun _ X _=>some ([],X))))))))) (some ([],d))) fun t=>bB t.1 (aR 15 [a] t.2 fun Y b _=>dR Y fun Z _=>(ax (aX (Z==4) (ar 1 false (.mp st.h 3) b fun c4 c5=>aR 17 [a] b fun c6 c7 u=>ag c6 fun c8 c9 d0 g=>(cg (apart (Fx.mk c5 du.kept) u&&(apart (⟨[],.kept⟩) u&&true)) (ab g (ab g (aB g fun v=>ab v (aB v fun d1=>cq 4 56 27 c4 [nA c8 c9 d0 d1] c7 fun i d2 _=>ab i (ab i (lV (.mp st.h 3) i d2 fun _ d3 _=>ax (aH (wo a st) ([],d3)) fun w=>bB w.2.1 (some ([],Prod.snd w.2)))))))))) (ar 1 false (.mp st.h 3) b fun d4 d5=>aR 41 [a] b fun d6 d7 y=>ag d6 fun d8 d9 e0 j=>(cg (apart (Fx.mk d5 du.kept) y&&(apart (⟨[],.kept⟩) y&&true)) (ab j (ab j (aB j fun z=>ab z (aB z fun e1=>cq 4 56 27 d4 [nA d8 d9 e0 e1] d7 fun k e2 _=>ab k (ab k (lV (.mp st.h 3) k e2 fun _ e3 _=>some ([],e3)))))))))) fun l=>bB l.1 (ar 1 false (.mp st.h 3) l.2 fun e4 e5=>aR 42 [a,.str [61]] l.2 fun e6 e7 x=>ag e6 fun e8 e9 f0 m=>(cg (apart (Fx.mk e5 du.kept) x&&(apart (⟨[],.kept⟩) x&&true)) (ab m (ab m (aB m fun A=>ab A (aB A fun f1=>cq 4 56 27 e4 [nA e8 e9 f0 f1] e7 fun n f2 _=>ab n (ab n (lV (.mp st.h 3) n f2 fun _ B _=>ar 1 false (.mp st.h 3) B fun f3 f4=>aR 43 [a] B fun f5 f6 C=>ag f5 fun f7 f8 f9 o=>(cg (apart (Fx.mk f4 du.kept) C&&(apart (⟨[],.kept⟩) C&&true)) (ab o (ab o (aB o fun D=>ab D (aB D fun h0=>cq 4 56 27 f3 [nA f7 f8 f9 h0] f6 fun p h1 _=>ab p (ab p (lV (.mp st.h 3) p h1 fun _ E _=>ar 4 true (.mp st.h 0) E fun h2 _=>ag h2 fun h3 h4 h5 F=>(ab F (da 4 (.mp c.h 0) (nC h3 h4 h5 F) E fun _ G _=>ar 4 true (.mp c.h 0) G fun h6 _=>ag h6 fun h7 h8 h9 i0=>(some (nA h7 h8 h9 i0,G)))))))))))))))))))))))
theorem T3 (a b:AV) (st:St):cT vE 18 [a,b] st=Zl a b st:=by kernel_rfl
noncomputable def AH (b:AV):bU->Oq (bU ⊕ Nat×bU):=fun a=>bg a.1 fun e f=>bj .i64 e fun c=>bB f (ax (cg (notNil b) (cV 0 b fun g=>ar 1 false g a.2 fun h _=>fq h fun i=>aX (decide (c < (↑i:Int))) (cg (notNil b) (cV 0 b fun j=>ar 1 false j a.2 fun k _=>dB 2 k c a.2 fun l _=>cV 0 l fun m=>ar 1 false m a.2 fun n _=>bj .u8 n fun o=>aX (o==1) (some ([.bool true],a.2)) (cg (notNil b) (cV 0 b fun p=>ar 1 false p a.2 fun q _=>dB 2 q c a.2 fun r _=>cV 0 r fun s=>ar 1 false s a.2 fun t _=>bj .u8 t fun u=>some ([.bool (u==2)],a.2))))) (some ([.bool false],a.2)))) fun d=>bg d.1 fun v w=>bG v fun y=>bB w (aX y (aN (IntKind.wrap .i64 (c+1)) fun z=>some (Sum.inl ([.int .i64 z],d.2))) (some (Sum.inr (0,[.int .i64 c],d.2)))))
noncomputable def Ze:AV->St->Oq (AV×St):=fun a st=>cg (notNil a) (cV 1 a fun c=>ar 1 false c st fun d _=>bj .i64 d fun e=>ax (aH (AH a) ([.int .i64 e],st)) fun b=>bg b.2.1 fun f g=>bj .i64 f fun h=>bB g (some (.int .i64 h,Prod.snd b.2)))
theorem TD (a:AV) (st:St):cT vE 39 [a] st=Ze a st:=by kernel_rfl
noncomputable def Zt:AV->St->Oq (AV×St):=fun c st=>aR 15 [c] st fun g a _=>dR g fun i j=>(bk (St.add a (.cells 24 [.int .u8 0,.str []])) fun k=>da 2 (.mp a.h 0) [.int .u8 i,.str j] k fun _ d _=>ax (ar 2 true (.mp a.h 0) d fun l _=>dR l fun m n=>(aR 64 [.agg [.int .u8 m,.str n]] d fun o b _=>bG o fun p=>aX p (some ([.bool true],b)) (ar 1 false (.mp a.h 0) b fun q _=>bj .u8 q fun r=>aX (r==9) (some ([.bool true],b)) (aR 16 [c,.str [95]] b fun s e _=>bG s fun t=>aX t (some ([.bool true],e)) (aR 65 [c] e fun u v _=>bG u fun w=>some ([.bool w],v)))))) fun f=>bg f.1 fun y z=>bG y fun x=>bB z (some (.bool x,f.2)))
theorem Vv (a:AV) (st:St):cT vE 40 [a] st=Zt a st:=by kernel_rfl
noncomputable def Zg:AV->St->Oq (AV×St):=fun a st=>bk (St.add st (.cells 27 (nC 0 0 [] .aD))) fun s=>aR 15 [a] s fun t c _=>dR t fun u v=>(bk (St.add c (.cells 24 [.int .u8 0,.str []])) fun w=>da 2 (.mp c.h 0) [.int .u8 u,.str v] w fun _ e _=>ax (ar 2 true (.mp c.h 0) e fun y _=>dR y fun z x=>(aR 64 [.agg [.int .u8 z,.str x]] e fun A f _=>bG A fun B=>aX B (some ([.bool true],f)) (aR 16 [a,.str [95]] f fun C D _=>bG C fun E=>some ([.bool E],D)))) fun b=>bg b.1 fun F G=>bG F fun H=>bB G (aX H (aR 17 [a] b.2 fun I J _=>ag I fun K L M g=>(ab g (da 4 (.mp st.h 0) (nC K L M g) J fun _ i _=>ar 4 true (.mp st.h 0) i fun N _=>ag N fun O P Q R=>(some (nA O P Q R,i))))) (ar 1 false (.mp c.h 0) b.2 fun S _=>bj .u8 S fun T=>aX (T==9) (aR 17 [a] b.2 fun U V _=>ag U fun W X Y d=>(ab d (ab d (aB d fun Z=>da 4 (.mp st.h 0) [.int .u8 3,.int .u8 0,.str [],.sl 4 [nA W X Y Z] .shut] V fun _ j _=>ar 4 true (.mp st.h 0) j fun c7 _=>ag c7 fun c8 c9 d0 d1=>(some (nA c8 c9 d0 d1,j)))))) (aR 16 [a,.str [40]] b.2 fun d2 k _=>bG d2 fun d3=>aX d3 (aR 66 [a,.int .u8 17,.str [44],.str [41],.bool true] k fun d4 d5 _=>ag d4 fun d6 d7 d8 l=>(ab l (da 4 (.mp st.h 0) (nC d6 d7 d8 l) d5 fun _ m _=>ar 4 true (.mp st.h 0) m fun d9 _=>ag d9 fun e0 e1 e2 e3=>(some (nA e0 e1 e2 e3,m))))) (aR 16 [a,.str [91]] k fun e4 n _=>bG e4 fun e5=>aX e5 (aR 66 [a,.int .u8 18,.str [59],.str [93],.bool true] n fun e6 e7 _=>ag e6 fun e8 e9 f0 o=>(ab o (da 4 (.mp st.h 0) (nC e8 e9 f0 o) e7 fun _ p _=>ar 4 true (.mp st.h 0) p fun f1 _=>ag f1 fun f2 f3 f4 f5=>(some (nA f2 f3 f4 f5,p))))) (aR 67 [.str [112,97,116,116,101,114,110]] n fun f6 f7 _=>ag f6 fun f8 f9 h0 q=>(ab q (da 4 (.mp st.h 0) (nC f8 f9 h0 q) f7 fun _ r _=>ar 4 true (.mp st.h 0) r fun h1 _=>ag h1 fun h2 h3 h4 h5=>(some (nA h2 h3 h4 h5,r))))))))))
theorem US (a:AV) (st:St):cT vE 41 [a] st=Zg a st:=by kernel_rfl
noncomputable def ZS:AV->AV->St->Oq (AV×St):=fun a i st=>dN i fun b=>bk (St.add st (.cells 27 (nC 0 0 [] .aD))) fun j=>aR 16 [a,.str b] j fun k c _=>bG k fun l=>aX l (aR 17 [a] c fun m n _=>ag m fun o p q d=>(ab d (da 4 (.mp st.h 0) (nC o p q d) n fun _ e _=>ar 4 true (.mp st.h 0) e fun r _=>ag r fun s t u v=>(some (nA s t u v,e))))) (aR 67 [.str b] c fun w y _=>ag w fun z x A f=>(ab f (da 4 (.mp st.h 0) (nC z x A f) y fun _ g _=>ar 4 true (.mp st.h 0) g fun B _=>ag B fun C D E F=>(some (nA C D E F,g)))))
theorem Tu (a b:AV) (st:St):cT vE 42 [a,b] st=ZS a b st:=by kernel_rfl
noncomputable def ZH:AV->St->Oq (AV×St):=fun a st=>bk (St.add st (.cells 27 (nC 0 0 [] .aD))) fun b=>cg (notNil a) (cV 2 a fun n=>ar 1 false n b fun o _=>bj .i64 o fun p=>aX (p==64) (aR 68 [a,.str [101,120,112,114]] b fun q r _=>ag q fun s t u d=>(ab d (da 4 (.mp st.h 0) (nC s t u d) r fun _ e _=>ar 4 true (.mp st.h 0) e fun v _=>ag v fun w y z x=>(some (nA w y z x,e))))) (cg (notNil a) (cV 2 a fun A=>ar 1 false A b fun B _=>bj .i64 B fun C=>aN (IntKind.wrap .i64 (C+1)) fun f=>cg (notNil a) (cV 2 a fun D=>bm (aY vE) 1 D (.int .i64 f) [.int .i64 f] b fun _ E _=>aR 69 [a] E fun F c _=>ag F fun G H I g=>(bk (St.add c (.cells 27 (nC 0 0 [] .aD))) fun J=>ab g (da 4 (.mp c.h 0) (nC G H I g) J fun _ i _=>cg (notNil a) (cV 2 a fun K=>ar 1 false K i fun L _=>bj .i64 L fun M=>aN (IntKind.wrap .i64 (M - 1)) fun j=>cg (notNil a) (cV 2 a fun N=>bm (aY vE) 1 N (.int .i64 j) [.int .i64 j] i fun _ k _=>ar 4 true (.mp c.h 0) k fun O _=>ag O fun P Q R l=>(ab l (da 4 (.mp st.h 0) (nC P Q R l) k fun _ m _=>ar 4 true (.mp st.h 0) m fun S _=>ag S fun T U V W=>(some (nA T U V W,m))))))))))))
theorem Tj (a:AV) (st:St):cT vE 43 [a] st=ZH a st:=by kernel_rfl
noncomputable def YX:AV->Oq AV:=fun c=>dR c fun a b=>(ax (aX (a==4) (some ([.bool true],sZ)) (aX (a==5) (some ([.bool true],sZ)) (aX (a==7) (some ([.bool true],sZ)) (aX (a==3) (aX (b==[116,114,117,101]) (some ([.bool true],sZ)) (some ([.bool (b==[102,97,108,115,101])],sZ))) (some ([.bool false],sZ)))))) fun d=>bg d.1 fun e f=>bG e fun g=>bB f (some (.bool g)))
theorem SX (a:AV):bz vE 64 [a]=YX a:=by kernel_rfl
noncomputable def ZA:AV->St->Oq (AV×St):=fun a st=>ax (aR 16 [a,.str [40]] st fun d b _=>bG d fun e=>aX e (some ([.bool true],b)) (aR 16 [a,.str [91]] b fun f g _=>bG f fun h=>some ([.bool h],g))) fun c=>bg c.1 fun i j=>bG i fun k=>bB j (some (.bool k,c.2))
theorem TG (a:AV) (st:St):cT vE 65 [a] st=ZA a st:=by kernel_rfl
noncomputable def wO (b:AV) (o:LB) (p:Bool) (a:St):bU->Oq (bU ⊕ Nat×bU):=fun i=>bB i.1 (aR 16 [b,.str o] i.2 fun q c _=>bG q fun r=>aX r (ar 1 false (.mp a.h 3) c fun s t=>aR 17 [b] c fun u v j=>ag u fun w y z d=>(cg (apart (Fx.mk t du.kept) j&&(apart (⟨[],.kept⟩) j&&true)) (ab d (ab d (aB d fun k=>ab k (aB k fun x=>cq 4 56 27 s [nA w y z x] v fun e A _=>ab e (ab e (lV (.mp a.h 3) e A fun _ l _=>ar 1 false (.mp a.h 3) l fun B C=>aR 106 [b,.bool p] l fun D E m=>ag D fun F G H f=>(cg (apart (Fx.mk C du.kept) m&&(apart (⟨[],.kept⟩) m&&true)) (ab f (ab f (aB f fun n=>ab n (aB n fun I=>cq 4 56 27 B [nA F G H I] E fun g J _=>ab g (ab g (lV (.mp a.h 3) g J fun _ K _=>some (Sum.inl ([],K))))))))))))))))) (some (Sum.inr (0,[],c))))
noncomputable def ZD:AV->AV->AV->AV->AV->St->Oq (AV×St):=fun b A B C D st=>bj .u8 A fun E=>dN B fun l1=>dN C fun m=>bG D fun n=>bk (St.add st (.cells 27 (nC 0 0 [] .aD))) fun F=>aR 17 [b] F fun G a _=>ag G fun H I J d=>(ab d (ab d (aB d fun K=>bk (St.add a (.cells 27 (nC 0 0 [] .aD))) fun L=>da 4 (.mp a.h 0) [.int .u8 E,.int .u8 0,.str [],.sl 4 [nA H I J K] .shut] L fun _ M _=>aR 16 [b,.str m] M fun N c _=>bG N fun O=>aX O (ar 1 false (.mp a.h 3) c fun P Q=>aR 17 [b] c fun R S o=>ag R fun T U V e=>(cg (apart (Fx.mk Q du.kept) o&&(apart (⟨[],.kept⟩) o&&true)) (ab e (ab e (aB e fun p=>ab p (aB p fun W=>cq 4 56 27 P [nA T U V W] S fun f X _=>ab f (ab f (lV (.mp a.h 3) f X fun _ q _=>ar 4 true (.mp a.h 0) q fun Y _=>ag Y fun Z c1 c2 r=>(ab r (da 4 (.mp st.h 0) (nC Z c1 c2 r) q fun _ s _=>ar 4 true (.mp st.h 0) s fun c3 _=>ag c3 fun c4 c5 c6 c7=>(some (nA c4 c5 c6 c7,s)))))))))))) (ar 1 false (.mp a.h 3) c fun c8 c9=>aR 106 [b,.bool n] c fun d0 d1 t=>ag d0 fun d2 d3 d4 g=>(cg (apart (Fx.mk c9 du.kept) t&&(apart (⟨[],.kept⟩) t&&true)) (ab g (ab g (aB g fun u=>ab u (aB u fun d5=>cq 4 56 27 c8 [nA d2 d3 d4 d5] d1 fun i d6 _=>ab i (ab i (lV (.mp a.h 3) i d6 fun _ d7 _=>ax (aH (wO b l1 n a) ([],d7)) fun j=>bB j.2.1 (ar 1 false (.mp a.h 3) j.2.2 fun d8 d9=>aR 42 [b,.str m] j.2.2 fun e0 e1 v=>ag e0 fun e2 e3 e4 k=>(cg (apart (Fx.mk d9 du.kept) v&&(apart (⟨[],.kept⟩) v&&true)) (ab k (ab k (aB k fun w=>ab w (aB w fun e5=>cq 4 56 27 d8 [nA e2 e3 e4 e5] e1 fun l e6 _=>ab l (ab l (lV (.mp a.h 3) l e6 fun _ y _=>ar 4 true (.mp a.h 0) y fun e7 _=>ag e7 fun e8 e9 f0 z=>(ab z (da 4 (.mp st.h 0) (nC e8 e9 f0 z) y fun _ x _=>ar 4 true (.mp st.h 0) x fun f1 _=>ag f1 fun f2 f3 f4 f5=>(some (nA f2 f3 f4 f5,x)))))))))))))))))))))))
theorem Te (a b c d e:AV) (st:St):cT vE 66 [a,b,c,d,e] st=ZD a b c d e st:=by kernel_rfl
noncomputable def YV:AV->Oq AV:=fun a=>dN a fun b=>some (nA 2 0 b .aD)
theorem Uo (a:AV):bz vE 67 [a]=YV a:=by kernel_rfl
noncomputable def ZT:AV->AV->St->Oq (AV×St):=fun b g st=>dN g fun i=>bk (St.add st (.cells 27 (nC 0 0 [] .aD))) fun j=>aR 15 [b] j fun k c _=>dR k fun l _=>(aX (l==0) (aR 67 [.str i] c fun m n _=>ag m fun o p q d=>(ab d (da 4 (.mp st.h 0) (nC o p q d) n fun _ e _=>ar 4 true (.mp st.h 0) e fun r _=>ag r fun s t u v=>(some (nA s t u v,e))))) (aR 17 [b] c fun w y _=>ag w fun z x A a=>(ab a (ab a (aB a fun B=>da 4 (.mp st.h 0) [.int .u8 3,.int .u8 0,.str [],.sl 4 [nA z x A B] .shut] y fun _ f _=>ar 4 true (.mp st.h 0) f fun C _=>ag C fun D E F G=>(some (nA D E F G,f)))))))
theorem UC (a b:AV) (st:St):cT vE 68 [a,b] st=ZT a b st:=by kernel_rfl
noncomputable def vU (d:AV) (e:St):bU->Oq (bU ⊕ Nat×bU):=fun f=>bB f.1 (aR 40 [d] f.2 fun j a _=>bG j fun k=>aX k (ar 1 false (.mp e.h 3) a fun l m=>aR 41 [d] a fun n o g=>ag n fun p q r b=>(cg (apart (Fx.mk m du.kept) g&&(apart (⟨[],.kept⟩) g&&true)) (ab b (ab b (aB b fun i=>ab i (aB i fun s=>cq 4 56 27 l [nA p q r s] o fun c t _=>ab c (ab c (lV (.mp e.h 3) c t fun _ u _=>some (Sum.inl ([],u)))))))))) (some (Sum.inr (0,[],a))))
noncomputable def vm (b:AV) (a:St):bU->Oq (bU ⊕ Nat×bU):=fun i=>bB i.1 (aR 16 [b,.str [124]] i.2 fun o c _=>bG o fun p=>aX p (ar 1 false (.mp a.h 3) c fun q r=>aR 17 [b] c fun s t j=>ag s fun u v w d=>(cg (apart (Fx.mk r du.kept) j&&(apart (⟨[],.kept⟩) j&&true)) (ab d (ab d (aB d fun k=>ab k (aB k fun y=>cq 4 56 27 q [nA u v w y] t fun e z _=>ab e (ab e (lV (.mp a.h 3) e z fun _ l _=>ar 1 false (.mp a.h 3) l fun x A=>aR 107 [b] l fun B C m=>ag B fun D E F f=>(cg (apart (Fx.mk A du.kept) m&&(apart (⟨[],.kept⟩) m&&true)) (ab f (ab f (aB f fun n=>ab n (aB n fun G=>cq 4 56 27 x [nA D E F G] C fun g H _=>ab g (ab g (lV (.mp a.h 3) g H fun _ I _=>some (Sum.inl ([],I))))))))))))))))) (some (Sum.inr (0,[],c))))
noncomputable def ZJ:AV->St->Oq (AV×St):=fun a st=>bk (St.add st (.cells 27 (nC 0 0 [] .aD))) fun i4=>aR 16 [a,.str [108,101,116]] i4 fun v1 b7 _=>bG v1 fun x=>aX x (aR 17 [a] b7 fun A i5 _=>ag A fun i6 i7 i8 f=>(ab f (ab f (aB f fun i9=>aR 18 [a,.agg [.int .u8 6,.int .u8 0,.str [],.sl 4 [nA i6 i7 i8 i9] .shut]] i5 fun j0 e _=>ag j0 fun j1 j2 j3 b8=>(bk (St.add e (.cells 27 (nC 0 0 [] .aD))) fun j4=>ab b8 (da 4 (.mp e.h 0) (nC j1 j2 j3 b8) j4 fun _ b9 _=>ar 1 false (.mp e.h 3) b9 fun j5 j6=>aR 42 [a,.str [105,110]] b9 fun j7 j8 c0=>ag j7 fun j9 k0 k1 g=>(cg (apart (Fx.mk j6 du.kept) c0&&(apart (⟨[],.kept⟩) c0&&true)) (ab g (ab g (aB g fun c1=>ab c1 (aB c1 fun k2=>cq 4 56 27 j5 [nA j9 k0 k1 k2] j8 fun i k3 _=>ab i (ab i (lV (.mp e.h 3) i k3 fun _ c2 _=>ar 1 false (.mp e.h 3) c2 fun k4 k5=>aR 43 [a] c2 fun k6 k7 c3=>ag k6 fun k8 k9 m0 j=>(cg (apart (Fx.mk k5 du.kept) c3&&(apart (⟨[],.kept⟩) c3&&true)) (ab j (ab j (aB j fun c4=>ab c4 (aB c4 fun m1=>cq 4 56 27 k4 [nA k8 k9 m0 m1] k7 fun k m2 _=>ab k (ab k (lV (.mp e.h 3) k m2 fun _ c5 _=>ar 4 true (.mp e.h 0) c5 fun m3 _=>ag m3 fun m4 m5 m6 c6=>(ab c6 (da 4 (.mp st.h 0) (nC m4 m5 m6 c6) c5 fun _ c7 _=>ar 4 true (.mp st.h 0) c7 fun m7 _=>ag m7 fun m8 m9 n0 n1=>(some (nA m8 m9 n0 n1,c7)))))))))))))))))))))))) (aR 16 [a,.str [102,117,110]] b7 fun n2 c8 _=>bG n2 fun n3=>aX n3 (aR 17 [a] c8 fun n4 d _=>ag n4 fun n5 n6 n7 l=>(ab l (ab l (aB l fun n8=>bk (St.add d (.cells 27 (nC 0 0 [] .aD))) fun n9=>da 4 (.mp d.h 0) [.int .u8 7,.int .u8 0,.str [],.sl 4 [nA n5 n6 n7 n8] .shut] n9 fun _ c9 _=>ar 1 false (.mp d.h 3) c9 fun o0 o1=>aR 41 [a] c9 fun o2 o3 d0=>ag o2 fun o4 o5 o6 m=>(cg (apart (Fx.mk o1 du.kept) d0&&(apart (⟨[],.kept⟩) d0&&true)) (ab m (ab m (aB m fun d1=>ab d1 (aB d1 fun o7=>cq 4 56 27 o0 [nA o4 o5 o6 o7] o3 fun n o8 _=>ab n (ab n (lV (.mp d.h 3) n o8 fun _ o9 _=>ax (aH (vU a d) ([],o9)) fun o=>bB o.2.1 (ar 1 false (.mp d.h 3) o.2.2 fun p0 p1=>aR 42 [a,.str [45,62]] o.2.2 fun p2 p3 d2=>ag p2 fun p4 p5 p6 p=>(cg (apart (Fx.mk p1 du.kept) d2&&(apart (⟨[],.kept⟩) d2&&true)) (ab p (ab p (aB p fun d3=>ab d3 (aB d3 fun p7=>cq 4 56 27 p0 [nA p4 p5 p6 p7] p3 fun q p8 _=>ab q (ab q (lV (.mp d.h 3) q p8 fun _ d4 _=>ar 1 false (.mp d.h 3) d4 fun p9 q0=>aR 43 [a] d4 fun q1 q2 d5=>ag q1 fun q3 q4 q5 r=>(cg (apart (Fx.mk q0 du.kept) d5&&(apart (⟨[],.kept⟩) d5&&true)) (ab r (ab r (aB r fun d6=>ab d6 (aB d6 fun q6=>cq 4 56 27 p9 [nA q3 q4 q5 q6] q2 fun s q7 _=>ab s (ab s (lV (.mp d.h 3) s q7 fun _ d7 _=>ar 4 true (.mp d.h 0) d7 fun q8 _=>ag q8 fun q9 s0 s1 d8=>(ab d8 (da 4 (.mp st.h 0) (nC q9 s0 s1 d8) d7 fun _ d9 _=>ar 4 true (.mp st.h 0) d9 fun s2 _=>ag s2 fun s3 s4 s5 s6=>(some (nA s3 s4 s5 s6,d9)))))))))))))))))))))))))))))) (aR 16 [a,.str [105,102]] c8 fun s7 e0 _=>bG s7 fun s8=>aX s8 (aR 17 [a] e0 fun s9 b _=>ag s9 fun t0 t1 t2 t=>(ab t (ab t (aB t fun t3=>bk (St.add b (.cells 27 (nC 0 0 [] .aD))) fun t4=>da 4 (.mp b.h 0) [.int .u8 8,.int .u8 0,.str [],.sl 4 [nA t0 t1 t2 t3] .shut] t4 fun _ e1 _=>ar 1 false (.mp b.h 3) e1 fun t5 t6=>aR 43 [a] e1 fun t7 t8 e2=>ag t7 fun t9 u0 u1 u=>(cg (apart (Fx.mk t6 du.kept) e2&&(apart (⟨[],.kept⟩) e2&&true)) (ab u (ab u (aB u fun e3=>ab e3 (aB e3 fun u2=>cq 4 56 27 t5 [nA t9 u0 u1 u2] t8 fun v u3 _=>ab v (ab v (lV (.mp b.h 3) v u3 fun _ e4 _=>ar 1 false (.mp b.h 3) e4 fun u4 u5=>aR 42 [a,.str [116,104,101,110]] e4 fun u6 u7 e5=>ag u6 fun u9 v0 v1 w=>(cg (apart (Fx.mk u5 du.kept) e5&&(apart (⟨[],.kept⟩) e5&&true)) (ab w (ab w (aB w fun e6=>ab e6 (aB e6 fun v2=>cq 4 56 27 u4 [nA u9 v0 v1 v2] u7 fun y v3 _=>ab y (ab y (lV (.mp b.h 3) y v3 fun _ e7 _=>ar 1 false (.mp b.h 3) e7 fun v4 A=>aR 43 [a] e7 fun v6 v7 e8=>ag v6 fun v8 v9 x0 z=>(cg (apart (Fx.mk A du.kept) e8&&(apart (⟨[],.kept⟩) e8&&true)) (ab z (ab z (aB z fun e9=>ab e9 (aB e9 fun x1=>cq 4 56 27 v4 [nA v8 v9 x0 x1] v7 fun B x2 _=>ab B (ab B (lV (.mp b.h 3) B x2 fun _ f0 _=>ar 1 false (.mp b.h 3) f0 fun x3 x4=>aR 42 [a,.str [101,108,115,101]] f0 fun x5 x6 f1=>ag x5 fun x7 x8 x9 C=>(cg (apart (Fx.mk x4 du.kept) f1&&(apart (⟨[],.kept⟩) f1&&true)) (ab C (ab C (aB C fun f2=>ab f2 (aB f2 fun y0=>cq 4 56 27 x3 [nA x7 x8 x9 y0] x6 fun D y1 _=>ab D (ab D (lV (.mp b.h 3) D y1 fun _ f3 _=>ar 1 false (.mp b.h 3) f3 fun y2 y3=>aR 43 [a] f3 fun y4 y5 f4=>ag y4 fun y6 y7 y8 E=>(cg (apart (Fx.mk y3 du.kept) f4&&(apart (⟨[],.kept⟩) f4&&true)) (ab E (ab E (aB E fun f5=>ab f5 (aB f5 fun y9=>cq 4 56 27 y2 [nA y6 y7 y8 y9] y5 fun F z0 _=>ab F (ab F (lV (.mp b.h 3) F z0 fun _ f6 _=>ar 4 true (.mp b.h 0) f6 fun z1 _=>ag z1 fun z2 z3 z4 f7=>(ab f7 (da 4 (.mp st.h 0) (nC z2 z3 z4 f7) f6 fun _ f8 _=>ar 4 true (.mp st.h 0) f8 fun z5 _=>ag z5 fun z6 z7 z8 z9=>(some (nA z6 z7 z8 z9,f8))))))))))))))))))))))))))))))))))))))))))) (aR 16 [a,.str [109,97,116,99,104]] e0 fun G f9 _=>bG G fun H=>aX H (aR 17 [a] f9 fun I c _=>ag I fun J K L M=>(ab M (ab M (aB M fun N=>bk (St.add c (.cells 27 (nC 0 0 [] .aD))) fun O=>da 4 (.mp c.h 0) [.int .u8 9,.int .u8 0,.str [],.sl 4 [nA J K L N] .shut] O fun _ h0 _=>ar 1 false (.mp c.h 3) h0 fun P Q=>aR 43 [a] h0 fun R S h1=>ag R fun T U V W=>(cg (apart (Fx.mk Q du.kept) h1&&(apart (⟨[],.kept⟩) h1&&true)) (ab W (ab W (aB W fun h2=>ab h2 (aB h2 fun X=>cq 4 56 27 P [nA T U V X] S fun Y Z _=>ab Y (ab Y (lV (.mp c.h 3) Y Z fun _ h3 _=>ar 1 false (.mp c.h 3) h3 fun av bb=>aR 42 [a,.str [119,105,116,104]] h3 fun bt cb h4=>ag bt fun cc cd cl a8=>(cg (apart (Fx.mk bb du.kept) h4&&(apart (⟨[],.kept⟩) h4&&true)) (ab a8 (ab a8 (aB a8 fun h5=>ab h5 (aB h5 fun cn=>cq 4 56 27 av [nA cc cd cl cn] cb fun a9 cv _=>ab a9 (ab a9 (lV (.mp c.h 3) a9 cv fun _ cz _=>aR 16 [a,.str [124]] cz fun cF b0 _=>bG cF fun de=>ax (aX de (ar 1 false (.mp c.h 3) b0 fun dk dv=>aR 17 [a] b0 fun dx ea h6=>ag dx fun eb ed ee b1=>(cg (apart (Fx.mk dv du.kept) h6&&(apart (⟨[],.kept⟩) h6&&true)) (ab b1 (ab b1 (aB b1 fun h7=>ab h7 (aB h7 fun ef=>cq 4 56 27 dk [nA eb ed ee ef] ea fun b2 eg _=>ab b2 (ab b2 (lV (.mp c.h 3) b2 eg fun _ ei _=>some ([],ei))))))))) (some ([],b0))) fun b3=>bB b3.1 (ar 1 false (.mp c.h 3) b3.2 fun ek eo=>aR 107 [a] b3.2 fun ep er h8=>ag ep fun et ez eF x=>(cg (apart (Fx.mk eo du.kept) h8&&(apart (⟨[],.kept⟩) h8&&true)) (ab x (ab x (aB x fun h9=>ab h9 (aB h9 fun eT=>cq 4 56 27 ek [nA et ez eF eT] er fun b5 fi _=>ab b5 (ab b5 (lV (.mp c.h 3) b5 fi fun _ ft _=>ax (aH (vm a c) ([],ft)) fun b6=>bB b6.2.1 (ar 4 true (.mp c.h 0) b6.2.2 fun fv _=>ag fv fun fx gg hh i0=>(ab i0 (da 4 (.mp st.h 0) (nC fx gg hh i0) b6.2.2 fun _ i1 _=>ar 4 true (.mp st.h 0) i1 fun hp _=>ag hp fun hq hB hC hD=>(some (nA hq hB hC hD,i1))))))))))))))))))))))))))))))) (aR 108 [a,.int .i64 0] f9 fun hF hG _=>ag hF fun hI hJ hM i2=>(ab i2 (da 4 (.mp st.h 0) (nC hI hJ hM i2) hG fun _ i3 _=>ar 4 true (.mp st.h 0) i3 fun hN _=>ag hN fun hO hP hQ hS=>(some (nA hO hP hQ hS,i3))))))))
theorem U9 (a:AV) (st:St):cT vE 69 [a] st=ZJ a st:=by kernel_rfl
noncomputable def Xk:AV->AV->St->Oq (AV×St):=fun a g st=>bG g fun i=>bk (St.add st (.cells 27 (nC 0 0 [] .aD))) fun b=>aX i (aR 131 [a] b fun j k _=>ag j fun l m n c=>(ab c (da 4 (.mp st.h 0) (nC l m n c) k fun _ d _=>ar 4 true (.mp st.h 0) d fun o _=>ag o fun p q r s=>(some (nA p q r s,d))))) (aR 43 [a] b fun t u _=>ag t fun v w y e=>(ab e (da 4 (.mp st.h 0) (nC v w y e) u fun _ f _=>ar 4 true (.mp st.h 0) f fun z _=>ag z fun x A B C=>(some (nA x A B C,f)))))
theorem QW (a b:AV) (st:St):cT vE 106 [a,b] st=Xk a b st:=by kernel_rfl
noncomputable def Wr:AV->St->Oq (AV×St):=fun b st=>bk (St.add st (.cells 27 (nC 0 0 [] .aD))) fun a=>bk (St.add a (.cells 27 (nC 0 0 [] .aD))) fun v=>da 4 (.mp a.h 0) (nC 10 0 [] .aD) v fun _ j _=>ar 1 false (.mp a.h 3) j fun w y=>aR 131 [b] j fun z x k=>ag z fun A B C c=>(cg (apart (Fx.mk y du.kept) k&&(apart (⟨[],.kept⟩) k&&true)) (ab c (ab c (aB c fun l=>ab l (aB l fun D=>cq 4 56 27 w [nA A B C D] x fun d E _=>ab d (ab d (lV (.mp a.h 3) d E fun _ m _=>ar 1 false (.mp a.h 3) m fun F G=>aR 42 [b,.str [45,62]] m fun H I n=>ag H fun J K L e=>(cg (apart (Fx.mk G du.kept) n&&(apart (⟨[],.kept⟩) n&&true)) (ab e (ab e (aB e fun o=>ab o (aB o fun M=>cq 4 56 27 F [nA J K L M] I fun f N _=>ab f (ab f (lV (.mp a.h 3) f N fun _ p _=>ar 1 false (.mp a.h 3) p fun O P=>aR 43 [b] p fun Q R q=>ag Q fun S T U g=>(cg (apart (Fx.mk P du.kept) q&&(apart (⟨[],.kept⟩) q&&true)) (ab g (ab g (aB g fun r=>ab r (aB r fun V=>cq 4 56 27 O [nA S T U V] R fun i W _=>ab i (ab i (lV (.mp a.h 3) i W fun _ s _=>ar 4 true (.mp a.h 0) s fun X _=>ag X fun Y Z c7 t=>(ab t (da 4 (.mp st.h 0) (nC Y Z c7 t) s fun _ u _=>ar 4 true (.mp st.h 0) u fun c8 _=>ag c8 fun c9 d0 d1 d2=>(some (nA c9 d0 d1 d2,u)))))))))))))))))))))))))
theorem PV (a:AV) (st:St):cT vE 107 [a] st=Wr a st:=by kernel_rfl
noncomputable def rU (a:AV) (g:Int) (i:St):bU->Oq (bU ⊕ Nat×bU):=fun j=>bB j.1 (aR 134 [.int .i64 g] j.2 fun n o _=>aR 133 [a,n] o fun p k _=>bG p fun q=>aX q (aR 17 [a] k fun r b _=>ag r fun s t u l=>(bk (St.add b (.cells 27 (nC 0 0 [] .aD))) fun v=>ab l (da 4 (.mp b.h 0) (nC s t u l) v fun _ c _=>ar 4 true (.mp i.h 0) c fun w y=>ag w fun z x A d=>(ar 4 true (.mp b.h 0) c fun B C=>ag B fun D E F e=>(aR 132 [a,.int .i64 g] c fun G H m=>ag G fun I J K f=>(cg (apart (Fx.mk C du.kept) m&&(apart (Fx.mk y du.kept) m&&true)) (ab d (ab e (ab f (ab d (aB d fun L=>ab e (aB e fun M=>ab f (aB f fun N=>da 4 (.mp i.h 0) [.int .u8 11,.int .u8 0,.str [],.sl 4 [nA z x A L,nA D E F M,nA I J K N] .shut] H fun _ O _=>some (Sum.inl ([],O))))))))))))))) (some (Sum.inr (0,[],k))))
noncomputable def V9:AV->AV->St->Oq (AV×St):=fun c v st=>bj .i64 v fun a=>bk (St.add st (.cells 27 (nC 0 0 [] .aD))) fun w=>aR 132 [c,.int .i64 a] w fun y b _=>ag y fun z x A m=>(bk (St.add b (.cells 27 (nC 0 0 [] .aD))) fun B=>ab m (da 4 (.mp b.h 0) (nC z x A m) B fun _ n _=>ax (aX (a==2) (some ([.bool true],n)) (some ([.bool (decide (a>=5))],n))) fun d=>bg d.1 fun C D=>bG C fun E=>bB D (aX E (ax (aH (rU c a b) ([],d.2)) fun e=>bB e.2.1 (ar 4 true (.mp b.h 0) e.2.2 fun F _=>ag F fun G H I o=>(ab o (da 4 (.mp st.h 0) (nC G H I o) e.2.2 fun _ p _=>ar 4 true (.mp st.h 0) p fun J _=>ag J fun K L M N=>(some (nA K L M N,p)))))) (aR 134 [.int .i64 a] d.2 fun O P _=>aR 133 [c,O] P fun Q f _=>bG Q fun R=>aX R (aR 17 [c] f fun S g _=>ag S fun T U V q=>(bk (St.add g (.cells 27 (nC 0 0 [] .aD))) fun W=>ab q (da 4 (.mp g.h 0) (nC T U V q) W fun _ i _=>ar 4 true (.mp b.h 0) i fun X Y=>ag X fun Z c7 c8 j=>(ar 4 true (.mp g.h 0) i fun c9 d0=>ag c9 fun d1 d2 d3 k=>(aR 108 [c,.int .i64 a] i fun d4 d5 r=>ag d4 fun d6 d7 d8 l=>(cg (apart (Fx.mk d0 du.kept) r&&(apart (Fx.mk Y du.kept) r&&true)) (ab j (ab k (ab l (ab j (aB j fun d9=>ab k (aB k fun e0=>ab l (aB l fun e1=>da 4 (.mp st.h 0) [.int .u8 11,.int .u8 0,.str [],.sl 4 [nA Z c7 c8 d9,nA d1 d2 d3 e0,nA d6 d7 d8 e1] .shut] d5 fun _ s _=>ar 4 true (.mp st.h 0) s fun e2 _=>ag e2 fun e3 e4 e5 e6=>(some (nA e3 e4 e5 e6,s))))))))))))))) (ar 4 true (.mp b.h 0) f fun e7 _=>ag e7 fun e8 e9 f0 t=>(ab t (da 4 (.mp st.h 0) (nC e8 e9 f0 t) f fun _ u _=>ar 4 true (.mp st.h 0) u fun f1 _=>ag f1 fun f2 f3 f4 f5=>(some (nA f2 f3 f4 f5,u)))))))))
theorem Q9 (a b:AV) (st:St):cT vE 108 [a,b] st=V9 a b st:=by kernel_rfl
noncomputable def W8:AV->St->Oq (AV×St):=fun a st=>bk (St.add st (.cells 27 (nC 0 0 [] .aD))) fun c=>cg (notNil a) (cV 2 a fun v=>ar 1 false v c fun w _=>bj .i64 w fun y=>aX (y==64) (aR 68 [a,.str [112,97,116,116,101,114,110]] c fun z x _=>ag z fun A B C k=>(ab k (da 4 (.mp st.h 0) (nC A B C k) x fun _ l _=>ar 4 true (.mp st.h 0) l fun D _=>ag D fun E F G H=>(some (nA E F G H,l))))) (cg (notNil a) (cV 2 a fun I=>ar 1 false I c fun J _=>bj .i64 J fun K=>aN (IntKind.wrap .i64 (K+1)) fun m=>cg (notNil a) (cV 2 a fun L=>bm (aY vE) 1 L (.int .i64 m) [.int .i64 m] c fun _ M _=>aR 41 [a] M fun N b _=>ag N fun O P Q n=>(bk (St.add b (.cells 27 (nC 0 0 [] .aD))) fun R=>ab n (da 4 (.mp b.h 0) (nC O P Q n) R fun _ S _=>aR 16 [a,.str [58,58]] S fun T o _=>bG T fun U=>ax (aX U (aR 17 [a] o fun V d _=>ag V fun W X Y p=>(bk (St.add d (.cells 27 (nC 0 0 [] .aD))) fun Z=>ab p (da 4 (.mp d.h 0) (nC W X Y p) Z fun _ e _=>ar 4 true (.mp b.h 0) e fun c7 c8=>ag c7 fun c9 d0 d1 f=>(ar 4 true (.mp d.h 0) e fun d2 d3=>ag d2 fun d4 d5 d6 g=>(aR 131 [a] e fun d7 d8 q=>ag d7 fun d9 e0 e1 i=>(cg (apart (Fx.mk d3 du.kept) q&&(apart (Fx.mk c8 du.kept) q&&true)) (ab f (ab g (ab i (ab f (aB f fun e2=>ab g (aB g fun e3=>ab i (aB i fun e4=>da 4 (.mp b.h 0) [.int .u8 16,.int .u8 0,.str [],.sl 4 [nA c9 d0 d1 e2,nA d4 d5 d6 e3,nA d9 e0 e1 e4] .shut] d8 fun _ e5 _=>some ([],e5)))))))))))))) (some ([],o))) fun j=>bB j.1 (cg (notNil a) (cV 2 a fun e6=>ar 1 false e6 j.2 fun e7 _=>bj .i64 e7 fun e8=>aN (IntKind.wrap .i64 (e8 - 1)) fun r=>cg (notNil a) (cV 2 a fun e9=>bm (aY vE) 1 e9 (.int .i64 r) [.int .i64 r] j.2 fun _ s _=>ar 4 true (.mp b.h 0) s fun f0 _=>ag f0 fun f1 f2 f3 t=>(ab t (da 4 (.mp st.h 0) (nC f1 f2 f3 t) s fun _ u _=>ar 4 true (.mp st.h 0) u fun f4 _=>ag f4 fun f5 f6 f7 f8=>(some (nA f5 f6 f7 f8,u)))))))))))))
theorem Qz (a:AV) (st:St):cT vE 131 [a] st=W8 a st:=by kernel_rfl
noncomputable def Wm:AV->AV->St->Oq (AV×St):=fun a i st=>bj .i64 i fun b=>bk (St.add st (.cells 27 (nC 0 0 [] .aD))) fun c=>aX (decide (b < 6)) (aN (IntKind.wrap .i64 (b+1)) fun j=>aR 108 [a,.int .i64 j] c fun k l _=>ag k fun m n o d=>(ab d (da 4 (.mp st.h 0) (nC m n o d) l fun _ e _=>ar 4 true (.mp st.h 0) e fun p _=>ag p fun q r s t=>(some (nA q r s t,e))))) (aR 157 [a] c fun u v _=>ag u fun w y z f=>(ab f (da 4 (.mp st.h 0) (nC w y z f) v fun _ g _=>ar 4 true (.mp st.h 0) g fun x _=>ag x fun A B C D=>(some (nA A B C D,g)))))
theorem Rc (a b:AV) (st:St):cT vE 132 [a,b] st=Wm a b st:=by kernel_rfl
noncomputable def ux (f:AV) (c:AV):bU->Oq (bU ⊕ Nat×bU):=fun a=>bg a.1 fun g h=>bG g fun d=>bg h fun i j=>bj .i64 i fun b=>bB j (fq c fun k=>aX (decide (b < (↑k:Int))) (dB 1 c b a.2 fun l _=>ar 1 false l a.2 fun m _=>dN m fun n=>aR 16 [f,.str n] a.2 fun o e _=>bG o fun p=>aX p (some (Sum.inr (1,[.bool true],e))) (aN (IntKind.wrap .i64 (b+1)) fun q=>some (Sum.inl ([.bool d,.int .i64 q],e)))) (some (Sum.inr (0,[.bool d],a.2))))
noncomputable def Wa:AV->AV->St->Oq (AV×St):=fun b c st=>ax (aH (ux b c) ([.bool false,.int .i64 0],st)) fun a=>bg a.2.1 fun d e=>bG d fun f=>bB e (mR a.1 (some (.bool false,Prod.snd a.2)) fun _=>some (.bool f,Prod.snd a.2))
theorem Qe (a b:AV) (st:St):cT vE 133 [a,b] st=Wa a b st:=by kernel_rfl
noncomputable def Yu:AV->Oq AV:=fun b=>bj .i64 b fun a=>aX (a==0) (some (.sl 1 [.str [124,124]] .shut)) (aX (a==1) (some (.sl 1 [.str [38,38]] .shut)) (aX (a==2) (some (.sl 1 [.str [61],.str [60,62],.str [60],.str [60,61],.str [62],.str [62,61]] .shut)) (aX (a==3) (some (.sl 1 [.str [64],.str [94]] .shut)) (aX (a==4) (some (.sl 1 [.str [58,58]] .shut)) (aX (a==5) (some (.sl 1 [.str [43],.str [45],.str [43,46],.str [45,46]] .shut)) (some (.sl 1 [.str [42],.str [47],.str [42,46],.str [47,46],.str [109,111,100]] .shut)))))))
theorem Qa (a:AV):bz vE 134 [a]=Yu a:=by kernel_rfl
noncomputable def WA:AV->St->Oq (AV×St):=fun a st=>bk (St.add st (.cells 27 (nC 0 0 [] .aD))) fun D=>ax (aR 16 [a,.str [45]] D fun v1 k _=>bG v1 fun x=>aX (!x) (aR 16 [a,.str [45,46]] k fun E F _=>bG E fun A=>some ([.bool !A],F)) (some ([.bool false],k))) fun d=>bg d.1 fun G H=>bG G fun I=>bB H (aX I (aR 176 [a] d.2 fun J K _=>ag J fun L M N l=>(ab l (da 4 (.mp st.h 0) (nC L M N l) K fun _ m _=>ar 4 true (.mp st.h 0) m fun O _=>ag O fun P x Q R=>(some (nA P x Q R,m))))) (aR 17 [a] d.2 fun S b _=>ag S fun A T U e=>(ab e (ab e (aB e fun V=>bk (St.add b (.cells 27 (nC 0 0 [] .aD))) fun W=>da 4 (.mp b.h 0) [.int .u8 12,.int .u8 0,.str [],.sl 4 [nA A T U V] .shut] W fun _ c _=>cg (notNil a) (cV 2 a fun X=>ar 1 false X c fun Y _=>bj .i64 Y fun Z=>aX (Z==64) (ar 1 false (.mp b.h 3) c fun c6 c7=>aR 68 [a,.str [101,120,112,114]] c fun c8 c9 n=>ag c8 fun d0 d1 d2 f=>(cg (apart (Fx.mk c7 du.kept) n&&(apart (⟨[],.kept⟩) n&&true)) (ab f (ab f (aB f fun o=>ab o (aB o fun d3=>cq 4 56 27 c6 [nA d0 d1 d2 d3] c9 fun g d4 _=>ab g (ab g (lV (.mp b.h 3) g d4 fun _ p _=>ar 4 true (.mp b.h 0) p fun d5 _=>ag d5 fun d6 d7 d8 q=>(ab q (da 4 (.mp st.h 0) (nC d6 d7 d8 q) p fun _ r _=>ar 4 true (.mp st.h 0) r fun d9 _=>ag d9 fun e0 e1 e2 e3=>(some (nA e0 e1 e2 e3,r)))))))))))) (cg (notNil a) (cV 2 a fun e4=>ar 1 false e4 c fun e5 _=>bj .i64 e5 fun e6=>aN (IntKind.wrap .i64 (e6+1)) fun s=>cg (notNil a) (cV 2 a fun e7=>bm (aY vE) 1 e7 (.int .i64 s) [.int .i64 s] c fun _ t _=>ar 1 false (.mp b.h 3) t fun e8 e9=>aR 157 [a] t fun f0 f1 u=>ag f0 fun f2 f3 f4 i=>(cg (apart (Fx.mk e9 du.kept) u&&(apart (⟨[],.kept⟩) u&&true)) (ab i (ab i (aB i fun v=>ab v (aB v fun f5=>cq 4 56 27 e8 [nA f2 f3 f4 f5] f1 fun j f6 _=>ab j (ab j (lV (.mp b.h 3) j f6 fun _ w _=>cg (notNil a) (cV 2 a fun f7=>ar 1 false f7 w fun f8 _=>bj .i64 f8 fun f9=>aN (IntKind.wrap .i64 (f9 - 1)) fun y=>cg (notNil a) (cV 2 a fun h0=>bm (aY vE) 1 h0 (.int .i64 y) [.int .i64 y] w fun _ z _=>ar 4 true (.mp b.h 0) z fun h1 _=>ag h1 fun h2 h3 h4 B=>(ab B (da 4 (.mp st.h 0) (nC h2 h3 h4 B) z fun _ C _=>ar 4 true (.mp st.h 0) C fun h5 _=>ag h5 fun h6 h7 h8 h9=>(some (nA h6 h7 h8 h9,C))))))))))))))))))))))
theorem QM (a:AV) (st:St):cT vE 157 [a] st=WA a st:=by kernel_rfl
noncomputable def rQ (d:AV) (e:St):bU->Oq (bU ⊕ Nat×bU):=fun f=>bB f.1 (aR 186 [d] f.2 fun g a _=>bG g fun i=>aX i (ar 4 true (.mp e.h 0) a fun j k=>ag j fun l m n b=>(aR 185 [d] a fun o p q=>ag o fun r s t c=>(cg (apart (Fx.mk k du.kept) q&&true) (ab b (ab c (ab b (aB b fun u=>ab c (aB c fun v=>da 4 (.mp e.h 0) [.int .u8 13,.int .u8 0,.str [],.sl 4 [nA l m n u,nA r s t v] .shut] p fun _ w _=>some (Sum.inl ([],w)))))))))) (some (Sum.inr (0,[],a))))
noncomputable def Ww:AV->St->Oq (AV×St):=fun c st=>bk (St.add st (.cells 27 (nC 0 0 [] .aD))) fun g=>aR 185 [c] g fun i a _=>ag i fun j k l d=>(bk (St.add a (.cells 27 (nC 0 0 [] .aD))) fun m=>ab d (da 4 (.mp a.h 0) (nC j k l d) m fun _ n _=>ax (aH (rQ c a) ([],n)) fun b=>bB b.2.1 (ar 4 true (.mp a.h 0) b.2.2 fun o _=>ag o fun p q r e=>(ab e (da 4 (.mp st.h 0) (nC p q r e) b.2.2 fun _ f _=>ar 4 true (.mp st.h 0) f fun s _=>ag s fun t u v w=>(some (nA t u v w,f)))))))
theorem QE (a:AV) (st:St):cT vE 176 [a] st=Ww a st:=by kernel_rfl
noncomputable def Xe:AV->St->Oq (AV×St):=fun a st=>bk (St.add st (.cells 27 (nC 0 0 [] .aD))) fun s=>aR 15 [a] s fun t b _=>dR t fun u v=>(bk (St.add b (.cells 24 [.int .u8 0,.str []])) fun w=>da 2 (.mp b.h 0) [.int .u8 u,.str v] w fun _ f _=>ax (ar 2 true (.mp b.h 0) f fun y _=>dR y fun z x=>(aR 64 [.agg [.int .u8 z,.str x]] f fun A d _=>bG A fun B=>aX B (some ([.bool true],d)) (ar 1 false (.mp b.h 0) d fun C _=>bj .u8 C fun D=>some ([.bool (D==6)],d)))) fun c=>bg c.1 fun E F=>bG E fun G=>bB F (aX G (aR 17 [a] c.2 fun H I _=>ag H fun J K L g=>(ab g (da 4 (.mp st.h 0) (nC J K L g) I fun _ i _=>ar 4 true (.mp st.h 0) i fun M _=>ag M fun N O P Q=>(some (nA N O P Q,i))))) (ar 1 false (.mp b.h 0) c.2 fun R _=>bj .u8 R fun S=>aX (S==9) (aR 17 [a] c.2 fun T U _=>ag T fun V W X e=>(ab e (ab e (aB e fun Y=>da 4 (.mp st.h 0) [.int .u8 3,.int .u8 0,.str [],.sl 4 [nA V W X Y] .shut] U fun _ j _=>ar 4 true (.mp st.h 0) j fun Z _=>ag Z fun c7 c8 c9 d0=>(some (nA c7 c8 c9 d0,j)))))) (aR 16 [a,.str [40]] c.2 fun d1 k _=>bG d1 fun d2=>aX d2 (aR 66 [a,.int .u8 14,.str [44],.str [41],.bool false] k fun d3 d4 _=>ag d3 fun d5 d6 d7 l=>(ab l (da 4 (.mp st.h 0) (nC d5 d6 d7 l) d4 fun _ m _=>ar 4 true (.mp st.h 0) m fun d8 _=>ag d8 fun d9 e0 e1 e2=>(some (nA d9 e0 e1 e2,m))))) (aR 16 [a,.str [91]] k fun e3 n _=>bG e3 fun e4=>aX e4 (aR 66 [a,.int .u8 15,.str [59],.str [93],.bool false] n fun e5 e6 _=>ag e5 fun e7 e8 e9 o=>(ab o (da 4 (.mp st.h 0) (nC e7 e8 e9 o) e6 fun _ p _=>ar 4 true (.mp st.h 0) p fun f0 _=>ag f0 fun f1 f2 f3 f4=>(some (nA f1 f2 f3 f4,p))))) (aR 67 [.str [101,120,112,114]] n fun f5 f6 _=>ag f5 fun f7 f8 f9 q=>(ab q (da 4 (.mp st.h 0) (nC f7 f8 f9 q) f6 fun _ r _=>ar 4 true (.mp st.h 0) r fun h0 _=>ag h0 fun h1 h2 h3 h4=>(some (nA h1 h2 h3 h4,r))))))))))
theorem QA (a:AV) (st:St):cT vE 185 [a] st=Xe a st:=by kernel_rfl
noncomputable def XC:AV->St->Oq (AV×St):=fun c st=>aR 15 [c] st fun f b _=>dR f fun g i=>(bk (St.add b (.cells 24 [.int .u8 0,.str []])) fun j=>da 2 (.mp b.h 0) [.int .u8 g,.str i] j fun _ d _=>ax (ar 2 true (.mp b.h 0) d fun k _=>dR k fun l m=>(aR 64 [.agg [.int .u8 l,.str m]] d fun n a _=>bG n fun o=>aX o (some ([.bool true],a)) (ar 1 false (.mp b.h 0) a fun p _=>bj .u8 p fun q=>aX (q==6) (some ([.bool true],a)) (ar 1 false (.mp b.h 0) a fun r _=>bj .u8 r fun s=>aX (s==9) (some ([.bool true],a)) (aR 65 [c] a fun t u _=>bG t fun v=>some ([.bool v],u)))))) fun e=>bg e.1 fun w y=>bG w fun z=>bB y (some (.bool z,e.2)))
theorem Qb (a:AV) (st:St):cT vE 186 [a] st=XC a st:=by kernel_rfl
end Go.Proofs.YtkpeicabocpbkaaGreatDoor.Vm
namespace Go.Proofs.YtkpeicabocpbkaaGreatDoor.Vm
open Go Go.VM Go.Proofs Go.Lex Go.Parse
abbrev PR:Td:=53
def M7 {β:Type} (v:AV) (K:Int->LB->Oq β):Oq β:=Bu v fun l=>bg l fun v1 l=>bj .u8 v1 fun a=>bg l fun b l=>dN b fun s=>bB l (K a s)
theorem N3 {β:Type} (a:Int) (s:LB) (K:Int->LB->Oq β):M7 (.agg [.int .u8 a,.str s]) K=K a s:=by
 simp only [M7,aw,ad,af,ao,ae]
section
variable {st st':St} {p:Nat} {L:List aW} {x:AV} {i d:Nat}
theorem Uv (t:aW):bl t=if (t.1:Int)=1 then true else ((t.1:Int)==2):=by
 unfold bl;have e:((t.1:Int)==2)=(t.1==2):=cU t.1 2;rw [e];by_cases h:t.1=1
 .rw [if_pos (by omega),h];rfl
 .rw [if_neg (by omega),aai.2 h];rfl
theorem Ba (h:Hi PR st p L x i d): ∀(l:List aW) (j:Nat),L.drop j=l->aH (AH (.mp p 0)) ([.int .i64 (j:Int)],st)=some (0,[.int .i64 ((j+wT l:Nat):Int)],st)
 | [],j,hd=>by
  have:=aaQ.1 hd;have q:¬ (j:Int) < ((L.map tok).length:Int):=by rw [aay];omega
  refine aF ?_;simp only [AH,ad,af,ae,dU,aQ,bE,abq,aau,bh h.get,aar,aL,ai,h.sl.len,ak,if_neg q,al,aj];rfl
 | t::l,j,hd=>by
  obtain ⟨a,c,f⟩:=drop_cons hd;have q:(j:Int) < ((L.map tok).length:Int):=by rw [aay];omega
  have hlen:=h.len;have e: ∀{β:Type} (K:bU->Oq β),ax (aX ((t.1:Int)==1) (some ([AV.bool true],st)) (some ([AV.bool ((t.1:Int)==2)],st))) K=K ([.bool (bl t)],st):=by
   intro β K;rw [Uv t];by_cases h1:(t.1:Int)=1
   .rw [h1];rfl
   .rw [aai.2 h1,if_neg h1];rfl
  rw [yg];cases b:bl t with
  | true=>
   rw [b] at e;rw [if_pos rfl,aJ (s':=([.int .i64 ((j+1:Nat):Int)],st)),Ba h l (j+1) c,show j+1+wT l=j+(wT l+1) by omega];simp only [AH,ad,af,ae,dU,aQ,bE,yf,AV.cells,tok,abq,aau,bh h.get,aar,aL,ai,h.sl.len,ak,if_pos q,mw h.sl a,bK,e,al,if_true,az,br (show j+1<=9223372036854775807 by omega)];rfl
  | false=>
   rw [b] at e;rw [if_neg abb];refine aF ?_;simp only [AH,ad,af,ae,dU,aQ,bE,yf,AV.cells,tok,abq,aau,bh h.get,aar,aL,ai,h.sl.len,ak,if_pos q,mw h.sl a,bK,e,al];rfl
theorem MV (h:Hi PR st p L x i d):(aY vE).wide 39 [.mp p 0] st=some (.int .i64 ((i+wT (L.drop i):Nat):Int),st):=by
 refine fW ((TD _ _).trans ?_);simp only [Ze,dU,aQ,bE,aau,bh h.get,oz,aL,ai,af,Ba h (L.drop i) i rfl,ad,ae]
theorem tj (h:Hi PR st p L x i d) {β:Type} (K:Kv β):aV (aY vE) 39 [.mp p 0] st K=K (.int .i64 ((i+wT (L.drop i):Nat):Int)) st ⟨[],.all st st⟩:=fh (E:=vE) K rfl rfl (MV h)
theorem Sm {r:List aW} {t:aW} {l:List aW} (h:r.dropWhile bl=t::l):r[wT r]? =some t:=by
 have:=aaY (fun q:List aW=>q[0]?) ((Dk r).trans h);simpa using this
theorem RQ {r:List aW} {t:aW} {l:List aW} (h:r.dropWhile bl=t::l):nx r=t:=by unfold nx;rw [h]
theorem Xv {r:List aW} {t:aW} {l:List aW} (h:r.dropWhile bl=t::l):wT r < r.length:=by
 have:=Sm h;exact (abN.1 this).1
theorem Ov (h:Hi PR st p L x i d):
  ∃st',(aY vE).wide 15 [.mp p 0] st=some (.agg [.int .u8 ((nx (L.drop i)).1:Int),.str (nx (L.drop i)).2],st')/\ba st st' (fun _=>False):=by
 have a:ba st (st.add (.cells 24 [.int .u8 0,.str []])) (fun _=>False):=ba.add _ _ _;have h0:=h.keeps a (fun f=>f);have c:(st.add (.cells 24 [.int .u8 0,.str []])).get st.h= .ok (.cells 24 [.int .u8 0,.str []]):=St.dY;have q:=h.le;have hlen:=h.len;generalize b:st.add (.cells 24 [.int .u8 0,.str []])=s0 at a h0 c;cases hd:(L.drop i).dropWhile bl with
 | nil=>
  obtain ⟨st2,o,e,g,r,j⟩:=zc (O:=aY vE) (.agg [.int .u8 0,.str []]) c (z:=2) (cs:=[.int .u8 0,.str []]) rfl rfl (by rw [a.ro];exact h.xU);have k:¬ ((i+wT (L.drop i):Nat):Int) < ((L.map tok).length:Int):=by
   rw [HU hd,aas,aay];omega
  refine ⟨st2,fW ((On _ _).trans ?_),a.fresh g (aah _)⟩;rw [Hs hd];simp only [YQ,bQ,b,tj h0,af,dU,aQ,bE,aau,bh h0.get,aar,aL,ai,h.sl.len,ak,if_neg k,j,bh e,po,aw,ad,ao,ae];rfl
 | cons t l=>
  obtain ⟨st2,o,e,g,r,j⟩:=zc (O:=aY vE) (.agg [.int .u8 (t.1:Int),.str t.2]) c (z:=2) (cs:=[.int .u8 (t.1:Int),.str t.2]) rfl rfl (by rw [a.ro];exact h.xU);have m:=Xv hd;rw [aas] at m;have k:((i+wT (L.drop i):Nat):Int) < ((L.map tok).length:Int):=by
   rw [aay];omega
  have n:L[i+wT (L.drop i)]? =some t:=by
   have:=Sm hd
   rwa [abG] at this
  refine ⟨st2,fW ((On _ _).trans ?_),a.fresh g (aah _)⟩;rw [RQ hd];simp only [YQ,bQ,b,tj h0,af,dU,aQ,bE,aau,bh h0.get,aar,aL,ai,h.sl.len,ak,if_pos k,mw h.sl n,bK,po,aw,ad,ao,ae,j,bh e]
end
section
variable {β:Type} {Q:β->Prop} {st0 st:St} {p:Nat} {L:List aW} {x:AV} {d d':Nat} {r r':List aW} {l l1 l2:List Vr} {os:List (AV×LA)} {t:T}
theorem _root_.Go.VM.aa.OO (w:Wd PR st0 st p L x d r l os) {K:Int->LB->St->Fx->Oq β} (g: ∀s,Wd PR st0 s p L x d r l os->aa (K ((nx r).1:Int) (nx r).2 s ⟨[],.all st s⟩) Q):
  aa (aV (aY vE) 15 [.mp p 0] st fun v s b=>M7 v fun a c=>K a c s b) Q:=by
 obtain ⟨i,h,rfl⟩:=w.pz;obtain ⟨s,e,k⟩:=Ov h;exact aa.step (fh (E:=vE) _ rfl rfl e) (aa.step (N3 ..) (g s (w.quiet k)))
theorem _root_.Go.VM.aa.XD (w:Wd PR st0 st p L x d r l os) {K:St->St->Oq β} (g: ∀s s',Wd PR st0 s' p L x d r ((s.h,24,[.int .u8 ((nx r).1:Int),.str (nx r).2])::l) os->aa (K s s') Q):
  aa (aV (aY vE) 15 [.mp p 0] st fun v s _=>M7 v fun n tx=>bk (St.add s (.cells 24 [.int .u8 0,.str []])) fun a=>bm (aY vE) 2 (.mp (St.h s) 0) (.agg [.int .u8 n,.str tx]) [.int .u8 n,.str tx] a fun _ s' _=>K s s') Q:=
 aa.OO w fun s w=>aa.alloc w fun a _ b=>aa.store [] b fun c f e=>g s c e
theorem _root_.Go.VM.aa.tO {s0:LB} (w:Wd PR st0 st p L x d r l os) {K:Bool->St->Fx->Oq β} (g: ∀s a,Wd PR st0 s p L x d r l os->aa (K (cf s0 r) s a) Q):
  aa (aV (aY vE) 16 [.mp p 0,.str s0] st fun v s a=>bG v fun b=>K b s a) Q:=by
 have key:aa ((aY vE).wide 16 [.mp p 0,.str s0] st) (fun b=>b.1= .bool (cf s0 r)/\Wd PR st b.2 p L x d r [] []):=by
  refine aa.wide (aa.step (Tm _ _ _) ?_);unfold Y7;refine aa.step (ao _ _) (aa.XD (Wd.begin w.pz) fun s s' w=> ?_);refine aa.bind (R:=fun c=>c=([.bool (cf s0 r)],s')) ?_ ?_
  .have e:(((nx r).1:Int)==3)=((nx r).1==3):=cU _ 3;have f:(((nx r).1:Int)==8)=((nx r).1==8):=cU _ 8;refine aa.gQ aad w rfl (aa.step (af _ _ _) ?_);rw [e];unfold cf;cases i:(nx r).1==3 with
   | true=>exact aa.step (aq _ _) (aa.gQ aad w (o:=1) rfl (aa.step (ao _ _) (aa.some (by simp))))
   | false=>
    refine aa.step (aj _ _) (aa.gQ aad w rfl (aa.step (af _ _ _) ?_));rw [f];cases j:(nx r).1==8 with
    | true=>exact aa.step (aq _ _) (aa.gQ aad w (o:=1) rfl (aa.step (ao _ _) (aa.some (by simp))))
    | false=>exact aa.step (aj _ _) (aa.some rfl)
  .rintro c rfl;simp only [ad,al,ae];exact aa.some ⟨rfl,w.sub (abz _)⟩
 refine aa.iR key rfl rfl fun v s h=> ?_;obtain ⟨rfl,w'⟩:=h;exact aa.step (al _ _) (g s _ (w.move w'.k w'.pz))
end
section
variable {β:Type} {Q:β->Prop} {st0 st:St} {p:Nat} {L:List aW} {x:AV} {i d d':Nat} {r r':List aW} {l l1 l2:List Vr} {os:List (AV×LA)} {t:T}
theorem _root_.Go.VM.aa.Hw {f:List LB} {y:AV} (hy:bF 1 y (f.map AV.str)) (w:Wd PR st0 st p L x d r l os) {K:Bool->St->Fx->Oq β} (g: ∀s t,Wd PR st0 s p L x d r l os->aa (K (isAny f r) s t) Q):
  aa (aV (aY vE) 133 [.mp p 0,y] st fun v s t=>bG v fun b=>K b s t) Q:=by
 have u:=hy.1;rw [aay] at u;have key:aa ((aY vE).wide 133 [.mp p 0,y] st) (fun b=>b.1= .bool (isAny f r)/\Wd PR st b.2 p L x d r [] []):=by
  refine aa.wide (aa.step (Qe _ _ _) ?_);unfold Wa;have loop: ∀(m:List LB) (j:Nat) (s:St),f.drop j=m->Wd PR st s p L x d r [] []->
    aa (aH (ux (.mp p 0) y) ([.bool false,.int .i64 (j:Int)],s)) (fun q=> ∃n b s',q=(n,[.bool b],s')/\Wd PR st s' p L x d r [] []/\((n=0/\m.any (fun a=>cf a r)=false)\/(n=1/\b=true/\m.any (fun a=>cf a r)=true))):=by
   intro m
   induction m with
   | nil=>
    intro j s hd w;have:=aaQ.1 hd;have q:¬ (j:Int) < ((f.map AV.str).length:Int):=by rw [aay];omega
    refine ⟨_,aF (r:=(0,[.bool false],s)) ?_,0,false,s,rfl,w,.inl ⟨rfl,rfl⟩⟩;simp only [ux,ad,af,al,ae,hy.len,ak,if_neg q]
   | cons a m ih=>
    intro j s hd w;obtain ⟨z,B,C⟩:=drop_cons hd;have q:(j:Int) < ((f.map AV.str).length:Int):=by rw [aay];omega
    have A:aa (ux (.mp p 0) y ([.bool false,.int .i64 (j:Int)],s)) (fun q=> ∃s',Wd PR st s' p L x d r [] []/\q=if cf a r=true then .inr (1,[.bool true],s') else .inl ([.bool false,.int .i64 ((j+1:Nat):Int)],s')):=by
     simp only [ux,ad,af,al,ae,hy.len,ak,if_pos q,Ef hy z,bK,aL,ai,ao];refine aa.tO w fun s' _ w=> ?_;cases i:cf a r with
     | true=>exact aa.step (aq _ _) (aa.some ⟨s',w,rfl⟩)
     | false=>
      rw [aj,az,br (show j+1<=9223372036854775807 by omega)];exact aa.some ⟨s',w,rfl⟩
    obtain ⟨E,e,s',w,rfl⟩:=A;cases i:cf a r with
    | true=>
     rw [i,if_pos rfl] at e;exact ⟨_,aF e,1,true,s',rfl,w,.inr ⟨rfl,rfl,by simp [i]⟩⟩
    | false=>
     rw [i,if_neg abb] at e;rw [aJ e];refine (ih (j+1) s' B w).mono ?_;rintro q ⟨n,b,D,rfl,w,h⟩;refine ⟨n,b,D,rfl,w, ?_⟩;simpa [i] using h
  have o:isAny f r=f.any (fun a=>cf a r):=by
   unfold isAny cf;cases ((nx r).1==3||(nx r).1==8) with
   | true=>simp only [abB];congr 1;funext a;rw [Bool.eq_iff_iff,aaM,aaM];exact eq_comm
   | false=>simp
  refine aa.bind (loop f 0 st rfl (Wd.begin w.pz)) ?_;rintro c ⟨n,b,s,rfl,w,h⟩;simp only [ad,al,ae];rw [o];rcases h with ⟨rfl,h⟩ | ⟨rfl,rfl,h⟩
  .exact aa.step (eX _ _) (aa.some ⟨by rw [h],w⟩)
  .exact aa.step (iq _ _) (aa.some ⟨by rw [h],w⟩)
 refine aa.iR key rfl (by simp only [aal,aaN,hy.strip,bf];rfl) fun v s h=> ?_;obtain ⟨rfl,w'⟩:=h;exact aa.step (al _ _) (g s _ (w.move w'.k w'.pz))
theorem _root_.Go.VM.aa.W7 (w:Wd PR st0 st p L x d r l os) (h:Hi PR st p L x i d) (hi:i < L.length) (a:L.drop i=r) {K:Kv β} (g: ∀s b,Wd PR st0 s p L x d (r.drop 1) l os->aa (K VM.undef s b) Q):aa (bm (aY vE) 1 (.mp p 1) (.int .i64 ((i+1:Nat):Int)) [.int .i64 ((i+1:Nat):Int)] st K) Q:=by
 refine aa.step (eI (cs:=[.int .i64 ((i+1:Nat):Int)]) (z:=1) (off:=1) h.get rfl (aaq rfl) h.ro K) (g _ _ ?_);have k:ba st (st.put p (.cells PR (dj [x,.int .i64 (i:Int),.int .i64 (d:Int)] 1 [.int .i64 ((i+1:Nat):Int)]))) (· =p):=ba.put rfl;exact w.move k ⟨i+1,⟨St.bx (St.cZ.1 h.get).1,h.sl,hi,h.len,by rw [k.ro];exact h.ro⟩,by rw [<- a,abD]⟩
theorem WQ {r:List aW} {j:Nat} (h:j < (r.takeWhile bl).length):r[j]? =(r.takeWhile bl)[j]? :=
 (aaY (fun q:List aW=>q[j]?) (abJ (p:=bl) (l:=r)).symm).trans (abi h)
theorem jP (E:Pz PR st p L x d r):NW PR 17 [.mp p 0] st p L x d (aK r) (aO r):=by
 refine aa.wide (aa.step (Sy _ _) ?_);unfold ZV;refine aa.alloc (Wd.begin E) fun T _ w=> ?_;refine aa.OO w fun z w=> ?_;refine aa.alloc w fun U _ w=> ?_;refine aa.store [] w fun F _ w=> ?_;obtain ⟨a,h0,f⟩:=w.pz;have C:=h0.le;have hlen:=h0.len;have G:r.length=L.length - a:=by rw [<- f,aas]
 have H:=Sa r;refine aa.step (tj h0 _) (aa.step (af _ _ _) ?_);rw [f];have J:((r.takeWhile bl)).length=wT r:=rfl;refine aa.bind (R:=fun c=> ∃s v,c=(0,[],s)/\Wd PR st s p L x d (r.drop (wT r)) [(z.h,ND,[.int .u8 1,.int .u8 ((nx r).1:Int),.str (nx r).2,v]),(st.h,ND,z4)] [(v,(r.takeWhile bl).map uE)]) ?_ ?_
 .refine aa.upto (n:=wT r) (I:=fun j c=> ∃s v,c=([],s)/\Wd PR st s p L x d (r.drop j) [(z.h,ND,[.int .u8 1,.int .u8 ((nx r).1:Int),.str (nx r).2,v]),(st.h,ND,z4)] [(v,((r.takeWhile bl).take j).map uE)]) ?_ ?_ (wT r) 0 _ (by omega) ⟨F,.aD,rfl,by simpa using w.aD⟩
  .rintro j c K ⟨s,v,rfl,w⟩;obtain ⟨i,h,k⟩:=w.pz;have l:=h.le;have b:i=a+j:=by
    have:=aaY List.length k;rw [aas,aas] at this;omega
   subst b;have g:j < (r.takeWhile bl).length:=K;have A:L[a+j]? =some (r.takeWhile bl)[j]:=by
    have h1:(L.drop a)[j]? =(r.takeWhile bl)[j]? :=by
     rw [f];exact WQ g
    rw [abG] at h1;rw [h1,aax g]
   rw [iM g,aaK];generalize (r.takeWhile bl)[j]=q at *;have M:((a+j:Nat):Int) < ((a+wT r:Nat):Int):=by omega
   simp only [Hl,ae,dU,aQ,bE,aau,bh h.get,oz,aar,aL,ai,af,ak,if_pos M];refine aa.gQ aad w (o:=3) rfl ?_;simp only [mw h.sl A,bK,po,ai,aw,ad,af,ao,ae];refine aa.app w (by simp) (by simp only [aay,aat,aab,aae];omega) fun N O _ ho w=>aa.one ho (aa.one ho (aa.kM [] w (aaq rfl) fun P _ w=> ?_));obtain ⟨Q,B,m⟩:=w.pz;have D:=B.le;have t:Q=a+j:=by
    have:=aaY List.length m;rw [aas,aas] at this;omega
   subst t;simp only [bh B.get,oz,aL,ai,af,az,br (show a+j+1<=9223372036854775807 by omega)];refine aa.W7 w B (by omega) m fun y _ w=> ?_;rw [abD] at w;exact aa.inl ⟨y,N,rfl,w⟩
  .rintro c ⟨s,v,rfl,w⟩;obtain ⟨i,h,k⟩:=w.pz;have l:=h.le;have b:i=a+wT r:=by
    have:=aaY List.length k;rw [aas,aas] at this;omega
   subst b;simp only [Hl,ae,dU,aQ,bE,aau,bh h.get,oz,aar,aL,ai,af,ak,if_neg (Int.lt_irrefl _)];rw [<- J,aaH] at w;exact aa.inr ⟨s,v,rfl,w⟩
 .rintro c ⟨s,v,rfl,w⟩;obtain ⟨i,h,k⟩:=w.pz;have l:=h.le;have b:i=a+wT r:=by
   have:=aaY List.length k;rw [aas,aas] at this;omega
  subst b;simp only [ae,dU,aQ,bE,aau,bh h.get,oz,aar,aL,ai,af,h.sl.len,aay];have u:aO r=(r.drop (wT r)).drop 1:=by unfold aO;rw [Dk]
  refine aa.bind (R:=fun c=> ∃s,c=([],s)/\Wd PR st s p L x d (aO r) [(z.h,ND,[.int .u8 1,.int .u8 ((nx r).1:Int),.str (nx r).2,v]),(st.h,ND,z4)] [(v,(r.takeWhile bl).map uE)]) ?_ ?_
  .by_cases S:a+wT r < L.length
   .rw [abh (show ((a+wT r:Nat):Int) < (L.length:Int) by omega)];refine aa.step (aq _ _) ?_;simp only [az,br (show a+wT r+1<=9223372036854775807 by omega)];refine aa.W7 w h S k fun y _ w=>aa.some ⟨y,rfl, ?_⟩;rw [u];exact w
   .rw [abe (show ¬ ((a+wT r:Nat):Int) < (L.length:Int) by omega)];refine aa.step (aj _ _) (aa.some ⟨s,rfl, ?_⟩);have e:r.drop (wT r)=[]:=aaQ.2 (by omega);rw [u,e];rw [e] at w;exact w
  .rintro c ⟨y,rfl,w⟩;have hnd:Nd (aK r) 1 (nx r).1 (nx r).2 v:=⟨⟨_,_,rfl,w.Nt,Bg _⟩⟩;simp only [ae];refine aa.fG aad w ?_;exact aa.res [_] (old:=z4) w rfl hnd (aaL (bX r) (by omega))
end
def Sg (L:List aW):Prop:= ∀t∈L,t.1=8->t.2.length<=2
theorem R5 {L r:List aW} {i:Nat} (hs:Sg L) (a:L.drop i=r):(nx r).1=8->(nx r).2.length<=2:=by
 intro h;cases hd:r.dropWhile bl with
 | nil=>rw [Hs hd] at h;cases h
 | cons t l=>
  rw [RQ hd] at h ⊢;refine hs t ?_ h;have h1:t∈r:=(abM bl).subset (by rw [hd];exact aad);rw [<- a] at h1;exact List.mem_of_mem_drop h1
def iE (t:aW):Bool:=t.1==4||t.1==5||t.1==7||(t.1==3&&(t.2==gM||t.2==eD))
theorem E4 {r:List aW} (hs:(nx r).1=8->(nx r).2.length<=2):cJ false r=(iE (nx r)||(nx r).1==6||(nx r).1==9||(cf dn r||cf cO r)):=by
 unfold cJ isAny cf iE;generalize nx r=t at *;obtain ⟨k,s⟩:=t;by_cases h4:k=4
 .subst h4;rfl
 by_cases l:k=5
 .subst l;rfl
 by_cases m:k=7
 .subst m;rfl
 by_cases n:k=9
 .subst n;rfl
 by_cases o:k=6
 .subst o;rfl
 by_cases p:k=3
 .subst p;by_cases a:s=gM
  .subst a;rfl
  by_cases b:s=eD
  .subst b;rfl
  by_cases c:s=dn
  .subst c;rfl
  by_cases d:s=cO
  .subst d;rfl
  have e:(s==gM)=false:=aai.2 a;have f:(s==eD)=false:=aai.2 b;have g:(s==dn)=false:=aai.2 c;have h:(s==cO)=false:=aai.2 d;have i:(gM==s)=false:=aai.2 (Ne.symm a);have j:(eD==s)=false:=aai.2 (Ne.symm b);have g3:(dn==s)=false:=aai.2 (Ne.symm c);have g4:(cO==s)=false:=aai.2 (Ne.symm d);simp only [abr,List.any_nil,aaB,if_false,e,f,g,h,i,j,g3,g4];rfl
 by_cases q:k=8
 .subst q;by_cases a:s=gM
  .subst a;exact absurd (hs rfl) (by decide)
  by_cases b:s=eD
  .subst b;exact absurd (hs rfl) (by decide)
  by_cases c:s=dn
  .subst c;rfl
  by_cases d:s=cO
  .subst d;rfl
  have e:(s==gM)=false:=aai.2 a;have f:(s==eD)=false:=aai.2 b;have g:(s==dn)=false:=aai.2 c;have h:(s==cO)=false:=aai.2 d;have i:(gM==s)=false:=aai.2 (Ne.symm a);have j:(eD==s)=false:=aai.2 (Ne.symm b);have g3:(dn==s)=false:=aai.2 (Ne.symm c);have g4:(cO==s)=false:=aai.2 (Ne.symm d);simp only [abr,List.any_nil,aaB,if_false,e,f,g,h,i,j,g3,g4];rfl
 simp only [aai.2 h4,aai.2 l,aai.2 m,aai.2 n,aai.2 o,aai.2 p,aai.2 q,aaB,if_false,abw,Bool.or_self]
theorem Fc {r:List aW} (hs:(nx r).1=8->(nx r).2.length<=2):cJ true r=(iE (nx r)||(nx r).1==9||cf nS r||(cf dn r||cf cO r)):=by
 unfold cJ isAny cf iE;generalize nx r=t at *;obtain ⟨k,s⟩:=t;by_cases h4:k=4
 .subst h4;rfl
 by_cases n:k=5
 .subst n;rfl
 by_cases o:k=7
 .subst o;rfl
 by_cases p:k=9
 .subst p;rfl
 by_cases q:k=3
 .subst q;by_cases a:s=gM
  .subst a;rfl
  by_cases b:s=eD
  .subst b;rfl
  by_cases c:s=dn
  .subst c;rfl
  by_cases d:s=cO
  .subst d;rfl
  by_cases e:s=nS
  .subst e;rfl
  have f:(s==gM)=false:=aai.2 a;have g:(s==eD)=false:=aai.2 b;have h:(s==dn)=false:=aai.2 c;have i:(s==cO)=false:=aai.2 d;have j:(s==nS)=false:=aai.2 e;have l:(gM==s)=false:=aai.2 (Ne.symm a);have m:(eD==s)=false:=aai.2 (Ne.symm b);have g3:(dn==s)=false:=aai.2 (Ne.symm c);have g4:(cO==s)=false:=aai.2 (Ne.symm d);have g5:(nS==s)=false:=aai.2 (Ne.symm e);simp only [abr,List.any_nil,if_true,f,g,h,i,j,l,m,g3,g4,g5];rfl
 by_cases u:k=8
 .subst u;by_cases a:s=gM
  .subst a;exact absurd (hs rfl) (by decide)
  by_cases b:s=eD
  .subst b;exact absurd (hs rfl) (by decide)
  by_cases c:s=dn
  .subst c;rfl
  by_cases d:s=cO
  .subst d;rfl
  by_cases e:s=nS
  .subst e;rfl
  have f:(s==gM)=false:=aai.2 a;have g:(s==eD)=false:=aai.2 b;have h:(s==dn)=false:=aai.2 c;have i:(s==cO)=false:=aai.2 d;have j:(s==nS)=false:=aai.2 e;have l:(gM==s)=false:=aai.2 (Ne.symm a);have m:(eD==s)=false:=aai.2 (Ne.symm b);have g3:(dn==s)=false:=aai.2 (Ne.symm c);have g4:(cO==s)=false:=aai.2 (Ne.symm d);have g5:(nS==s)=false:=aai.2 (Ne.symm e);simp only [abr,List.any_nil,if_true,f,g,h,i,j,l,m,g3,g4,g5];rfl
 simp only [aai.2 h4,aai.2 n,aai.2 o,aai.2 p,aai.2 q,aai.2 u,if_true,abw,Bool.or_self]
theorem Ny (t:aW):(aY vE).bare 64 [.agg [.int .u8 (t.1:Int),.str t.2]]=some (.bool (iE t)):=by
 refine aM rfl ((SX _).trans ?_);have a:((t.1:Int)==4)=(t.1==4):=cU _ 4;have b:((t.1:Int)==5)=(t.1==5):=cU _ 5;have c:((t.1:Int)==7)=(t.1==7):=cU _ 7;have d:((t.1:Int)==3)=(t.1==3):=cU _ 3;have e:(t.2==[116,114,117,101])=(t.2==gM):=rfl;have f:(t.2==[102,97,108,115,101])=(t.2==eD):=rfl;simp only [YX,aw,ad,af,ao,ae,a,b,c,d,e,f];unfold iE;cases t.1==4 <;> cases t.1==5 <;> cases t.1==7 <;> cases t.1==3 <;> cases t.2==gM <;> cases t.2==eD <;> rfl
theorem oW (t:aW) {γ:Type} (st:St) (K:Kv γ):aV (aY vE) 64 [.agg [.int .u8 (t.1:Int),.str t.2]] st K=K (.bool (iE t)) st q0:=aG st K rfl rfl rfl (Ny t)
def Y9 (pat:Bool):FuncId:=match pat with | true=>40 | false=>186
theorem pE (s:LB) {β:Type} (st:St) (K:Kv β):aV (aY vE) 67 [.str s] st K=K (.agg [.int .u8 2,.int .u8 0,.str s,.aD]) st q0:=
 aG st K rfl rfl rfl (aM rfl ((Uo _).trans (by simp only [YV,ao])))
section
variable {β:Type} {Q:β->Prop} {st0 st:St} {p:Nat} {L:List aW} {x:AV} {i d d':Nat} {r r':List aW} {l l1 l2:List Vr} {os:List (AV×LA)} {t:T}
theorem _root_.Go.VM.aa.ng (pat:Bool) (hs:Sg L) (w:Wd PR st0 st p L x d r l os) {K:Bool->St->Fx->Oq β} (g: ∀s e,Wd PR st0 s p L x d r l os->aa (K (cJ pat r) s e) Q):
  aa (aV (aY vE) (Y9 pat) [.mp p 0] st fun v s e=>bG v fun b=>K b s e) Q:=by
 have f:(nx r).1=8->(nx r).2.length<=2:=by
  obtain ⟨i,_,o⟩:=w.pz;exact R5 hs o
 have m: ∀(s:St),Wd PR s s p L x d r [] []->aa ((aY vE).wide 65 [.mp p 0] s) (fun b=>b.1= .bool (cf dn r||cf cO r)/\Wd PR s b.2 p L x d r [] []):=by
  intro st w;refine aa.wide (aa.step (TG _ _) ?_);unfold ZA;refine aa.bind (R:=fun c=> ∃s,c=([.bool (cf dn r||cf cO r)],s)/\Wd PR st s p L x d r [] []) ?_ ?_
  .refine aa.tO (s0:=dn) w fun q _ w=> ?_;cases cf dn r with
   | true=>exact aa.step (aq _ _) (aa.some ⟨q,rfl,w⟩)
   | false=>exact aa.step (aj _ _) (aa.tO (s0:=cO) w fun a _ w=>aa.some ⟨a,rfl,w⟩)
  .rintro c ⟨s,rfl,w⟩;simp only [ad,al,ae];exact aa.some ⟨rfl,w⟩
 have j: ∀{st1:St} (s:St) (l:List Vr) {γ:Type} {K:Kv γ} {Q:γ->Prop},Wd PR st1 s p L x d r l []->(∀s e,Wd PR st1 s p L x d r l []->aa (K (.bool (cf dn r||cf cO r)) s e) Q)->aa (aV (aY vE) 65 [.mp p 0] s K) Q:=by
  intro st1 s l γ K Q w g;refine aa.iR (R:=fun b=>b.1= .bool (cf dn r||cf cO r)/\Wd PR s b.2 p L x d r [] []) ?_ rfl rfl fun v a h=> ?_
  .exact m s (Wd.begin w.pz)
  .obtain ⟨rfl,w'⟩:=h;exact g a _ (w.move w'.k w'.pz)
 have n:(((nx r).1:Int)==9)=((nx r).1==9):=cU _ 9;have t:(((nx r).1:Int)==6)=((nx r).1==6):=cU _ 6;cases pat with
 | false=>
  have key:aa ((aY vE).wide 186 [.mp p 0] st) (fun b=>b.1= .bool (cJ false r)/\Wd PR st b.2 p L x d r [] []):=by
   refine aa.wide (aa.step (Qb _ _) ?_);unfold XC;refine aa.XD (Wd.begin w.pz) fun s s' w=> ?_;rw [E4 f];refine aa.bind (R:=fun c=> ∃a,c=([.bool (iE (nx r)||(nx r).1==6||(nx r).1==9||(cf dn r||cf cO r))],a)/\Wd PR st a p L x d r [] []) ?_ ?_
   .refine aa.G8 aad w ?_;simp only [aw,ad,af,ao,ae];refine aa.step (oW (nx r) _ _) (aa.step (al _ _) ?_);cases iE (nx r) with
    | true=>exact aa.step (aq _ _) (aa.some ⟨s',rfl,w.sub (abz _)⟩)
    | false=>
     refine aa.step (aj _ _) (aa.gQ aad w rfl (aa.step (af _ _ _) ?_));rw [t];cases (nx r).1==6 with
     | true=>exact aa.step (aq _ _) (aa.some ⟨s',rfl,w.sub (abz _)⟩)
     | false=>
      refine aa.step (aj _ _) (aa.gQ aad w rfl (aa.step (af _ _ _) ?_));rw [n];cases (nx r).1==9 with
      | true=>exact aa.step (aq _ _) (aa.some ⟨s',rfl,w.sub (abz _)⟩)
      | false=>exact aa.step (aj _ _) (j s' _ w fun a e w=>aa.step (al _ _) (aa.some ⟨a,by simp,w.sub (abz _)⟩))
   .rintro c ⟨a,rfl,w⟩;simp only [ad,al,ae];exact aa.some ⟨rfl,w⟩
  refine aa.iR key rfl rfl fun v s h=> ?_;obtain ⟨rfl,w'⟩:=h;exact aa.step (al _ _) (g s _ (w.move w'.k w'.pz))
 | true=>
  have key:aa ((aY vE).wide 40 [.mp p 0] st) (fun b=>b.1= .bool (cJ true r)/\Wd PR st b.2 p L x d r [] []):=by
   refine aa.wide (aa.step (Vv _ _) ?_);unfold Zt;refine aa.XD (Wd.begin w.pz) fun s s' w=> ?_;rw [Fc f];refine aa.bind (R:=fun c=> ∃a,c=([.bool (iE (nx r)||(nx r).1==9||cf nS r||(cf dn r||cf cO r))],a)/\Wd PR st a p L x d r [] []) ?_ ?_
   .refine aa.G8 aad w ?_;simp only [aw,ad,af,ao,ae];refine aa.step (oW (nx r) _ _) (aa.step (al _ _) ?_);cases iE (nx r) with
    | true=>exact aa.step (aq _ _) (aa.some ⟨s',rfl,w.sub (abz _)⟩)
    | false=>
     refine aa.step (aj _ _) (aa.gQ aad w rfl (aa.step (af _ _ _) ?_));rw [n];cases (nx r).1==9 with
     | true=>exact aa.step (aq _ _) (aa.some ⟨s',rfl,w.sub (abz _)⟩)
     | false=>
      refine aa.step (aj _ _) (aa.tO (s0:=nS) w fun a _ w=> ?_);cases cf nS r with
      | true=>exact aa.step (aq _ _) (aa.some ⟨a,rfl,w.sub (abz _)⟩)
      | false=>exact aa.step (aj _ _) (j a _ w fun a e w=>aa.step (al _ _) (aa.some ⟨a,by simp,w.sub (abz _)⟩))
   .rintro c ⟨a,rfl,w⟩;simp only [ad,al,ae];exact aa.some ⟨rfl,w⟩
  refine aa.iR key rfl rfl fun v s h=> ?_;obtain ⟨rfl,w'⟩:=h;exact aa.step (al _ _) (g s _ (w.move w'.k w'.pz))
theorem _root_.Go.VM.aa.pW (w:Wd PR st0 st p L x d r l os) {K:Int->Int->LB->AV->St->Fx->Oq β}
 (g: ∀(k tk:Nat) (tx:LB) (y:AV) (s:St),Nd (aK r) k tk tx y->fg (aK r)<=1000000000000000->Wd PR st0 s p L x d (aO r) l os->aa (K (k:Int) (tk:Int) tx y s ⟨[],.all st s⟩) Q):
 aa (aV (aY vE) 17 [.mp p 0] st fun v s e=>xM v fun a b c y=>K a b c y s e) Q:=aa.node w (jP w.pz) rfl rfl g
theorem lh (a:Pz PR st p L x d r) (s:LB):NW PR 42 [.mp p 0,.str s] st p L x d (cP s r) (bo s r):=by
 refine aa.wide (aa.step (Tu _ _ _) ?_);unfold ZS;refine aa.step (ao _ _) (aa.alloc (Wd.begin a) fun b _ w=> ?_);refine aa.tO w fun c _ w=> ?_;unfold cP bo;cases cf s r with
 | true=>
  refine aa.step (aq _ _) ?_;exact aa.pW w fun k tk tx y e hn hd w=>aa.res [] (old:=z4) w rfl hn hd
 | false=>
  refine aa.step (aj _ _) (aa.step (pE _ _ _) ?_);refine aa.res [] (old:=z4) w rfl (jf s) ?_;show fg (missing s)<= _;rw [fX];omega
theorem zI (a:Pz PR st p L x d r) (s:LB):NW PR 68 [.mp p 0,.str s] st p L x d (jI s r) (kg r):=by
 refine aa.wide (aa.step (UC _ _ _) ?_);unfold ZT;refine aa.step (ao _ _) (aa.alloc (Wd.begin a) fun c _ w=> ?_);refine aa.OO w fun e w=> ?_;unfold jI kg;by_cases h0:(nx r).1=0
 .rw [if_pos h0,if_pos h0,show (((nx r).1:Int)==0)=true by rw [h0];rfl];refine aa.step (aq _ _) (aa.step (pE _ _ _) ?_);refine aa.res [] (old:=z4) w rfl (jf s) ?_;rw [fX];omega
 .rw [if_neg h0,if_neg h0,show (((nx r).1:Int)==0)=false from aai.2 (by omega)];refine aa.step (aj _ _) (aa.pW w fun k tk tx y s hn hd w=> ?_);refine aa.two hn (aa.fit hn fun y' b _ _=> ?_);refine aa.GJ [] (old:=z4) w rfl (jE (mI b) (by simp)) ?_;rw [bI,bq];have:=bX r;omega
end
def jm (F:FuncId) (more:LA) (job:lJ) (n:Nat):Prop:= ∀(st:St) (p:Nat) (L:List aW) (x:AV) (d:Nat) (r:List aW) (t:T) (r':List aW),Sg L->Pz PR st p L x d r->d<=64->P n job d r=some ([t],r')->NW PR F (.mp p 0::more) st p L x d t r'
def Zf (pat:Bool):FuncId:=match pat with | true=>41 | false=>185
def ZZ (st:St) (p:Nat) (L:List aW) (x:AV) (d k:Nat) (ts:List T) (r':List aW):AV×St->Prop:=fun b=> ∃y es,b.1= .agg [.int .u8 (k:Int),.int .u8 0,.str [],y]/\jg b.2 4 ND y es/\(∀j,dQ y j->st.h<=j)/\bA ts es/\eZ ts<=900000000000000/\Pz PR b.2 p L x d r'/\ba st b.2 (· =p)
def Kb (n:Nat):Prop:= ∀(st:St) (p:Nat) (L:List aW) (x:AV) (d:Nat) (r:List aW) (k:Nat) (a:T) (e:AV) (ts:List T) (r':List aW),Sg L->Pz PR st p L x d r->d<=64->iF a e->fg a<=1000000->P n .binding d r=some (ts,r')->
 aa ((aY vE).wide 18 [.mp p 0,.agg [.int .u8 (k:Int),.int .u8 0,.str [],.sl 4 [e] .shut]] st) (ZZ st p L x d k (a::ts) r')
structure Dv (n:Nat):Prop where
 expr:jm 43 [] .expr n
 whole:jm 69 [] .whole n
 level: ∀k:Nat,k<=6->jm 108 [.int .i64 (k:Int)] (.level k) n
 oper: ∀k:Nat,k<=6->jm 132 [.int .i64 (k:Int)] (.level (k+1)) n
 neg:jm 157 [] .neg n
 atom: ∀pat,jm (Zf pat) [] (.atom pat) n
 closed: ∀list pat,jm 66 [.int .u8 (kindOf list pat:Int),.str (qg list),.str (ik list),.bool pat] (.closed list pat) n
 pattern:jm 131 [] .pattern n
 arm:jm 107 [] .arm n
 binding:Kb n
section
variable {β:Type} {Q:β->Prop} {st0 st:St} {p:Nat} {L:List aW} {x:AV} {d d':Nat} {r r':List aW} {l l1 l2:List Vr} {os:List (AV×LA)} {t:T}
theorem HH {n:Nat} (ih:Dv n):jm 43 [] .expr (n+1):=by
 intro st p L x d r t r' hs c hd h;simp only [P] at h;refine aa.wide (aa.step (Tj _ _) ?_);unfold ZH;refine aa.alloc (Wd.begin c) fun e _ w=> ?_;refine aa.BD (aa.oq w (aa.step (af _ _ _) ?_));split at h
 .rename_i hd;subst hd;cases h;refine aa.step (aq _ _) ?_;exact aa.node w (zI w.pz _) rfl rfl fun k tk tx y s hn hd w=>aa.res [] (old:=z4) w rfl hn hd
 .rw [show ((d:Int)==64)=false from aai.2 (by omega)];refine aa.step (aj _ _) (aa.BD (aa.oq w (aa.step (af _ _ _) ?_)));rw [az,br (by omega)];refine aa.BD (aa.deep (d+1) w fun f b w=> ?_);refine aa.node w (ih.whole _ p L x (d+1) r t r' hs w.pz (by omega) h) rfl rfl fun k tk tx y s hn a w=> ?_;refine aa.alloc w fun g _ w=>aa.two hn ?_;refine aa.store [] w fun i b w=> ?_;refine aa.BD (aa.oq w (aa.step (af _ _ _) ?_));rw [az,show ((d+1:Nat):Int) - 1=((d+1:Nat):Int) - ((1:Nat):Int) from rfl,xH (by omega) (by omega),abY];refine aa.BD (aa.deep d w fun j b w=> ?_);refine aa.fG (aad) w ?_;exact aa.res [_] (old:=z4) w rfl hn a
theorem BF {n:Nat} (ih:Dv n) (hn:n<=10000000):jm 131 [] .pattern (n+1):=by
 intro st p L x d r t r' hs K hd h;simp only [P] at h;refine aa.wide (aa.step (Qz _ _) ?_);unfold W8;refine aa.alloc (Wd.begin K) fun Y _ w=> ?_;refine aa.BD (aa.oq w (aa.step (af _ _ _) ?_));split at h
 .rename_i hd;subst hd;cases h;refine aa.step (aq _ _) ?_;exact aa.node w (zI w.pz _) rfl rfl fun k tk tx y s hn hd w=>aa.res [] (old:=z4) w rfl hn hd
 .rw [show ((d:Int)==64)=false from aai.2 (by omega)];refine aa.step (aj _ _) (aa.BD (aa.oq w (aa.step (af _ _ _) ?_)));rw [az,br (by omega)];refine aa.BD (aa.deep (d+1) w fun Z j w=> ?_);obtain ⟨⟨a,l⟩,z,h⟩:=bind_some h;obtain ⟨u,rfl⟩:=cH _ _ _ _ _ _ z rfl;have I:=en hn z rfl;refine aa.node w (ih.atom true _ p L x (d+1) r u l hs w.pz (by omega) z) rfl rfl fun k tk tx y s hnd g w=> ?_;refine aa.alloc w fun s3 _ w=>aa.two hnd ?_;refine aa.store [] w fun s4 j w=> ?_;refine aa.tO (s0:=zK) w fun s5 _ w=> ?_;have fin: ∀{f:St} {t:T},Nv PR st f p L x (d+1) r' s.h st.h t->fg t<=1000000000000000->aa (ax (some (([]:LA),f)) fun c=>bB (Prod.fst c) (cg (notNil (.mp p 0)) (cV 2 (.mp p 0) fun v=>ar 1 false v (Prod.snd c) fun v _=>bj .i64 v fun n=>aN (IntKind.wrap .i64 (n - 1)) fun n=>cg (notNil (.mp p 0)) (cV 2 (.mp p 0) fun v=>bm (aY vE) 1 v (.int .i64 n) [.int .i64 n] (Prod.snd c) fun _ m _=>
    ar 4 true (.mp s.h 0) m fun v _=>xM v fun o q tx y=>ab y (bm (aY vE) 4 (.mp st.h 0) (.agg [.int .u8 o,.int .u8 q,.str tx,y]) [.int .u8 o,.int .u8 q,.str tx,y] m fun _ s _=>ar 4 true (.mp st.h 0) s fun v _=>xM v fun o q tx y=>some (.agg [.int .u8 o,.int .u8 q,.str tx,y],s)))))) (NQ PR st p L x d t r'):=by
   rintro f t ⟨k,tk,tx,y,w,hnd⟩ A;refine aa.step (ai _ _) (aa.step (ae _) ?_);refine aa.BD (aa.oq w (aa.step (af _ _ _) ?_));rw [az,show ((d+1:Nat):Int) - 1=((d+1:Nat):Int) - ((1:Nat):Int) from rfl,xH (by omega) (by omega),abY];refine aa.BD (aa.deep d w fun m j w=> ?_);refine aa.fG (aad) w ?_;exact aa.res [_] (old:=z4) w rfl hnd A
  dsimp only at h;cases J:cf zK l with
  | true=>
   rw [J,if_pos rfl] at h;obtain ⟨⟨b,r2⟩,B,h⟩:=bind_some h;obtain ⟨v,rfl⟩:=cH _ _ _ _ _ _ B rfl;cases h;have M:=en hn B rfl;have N:=bX l;refine aa.bind (R:=fun c=> ∃f,c=([],f)/\Nv PR st f p L x (d+1) r2 s.h st.h (node 16 [u,aK l,v])) ?_ ?_
   .refine aa.step (aq _ _) ?_;refine aa.pW w fun k' O Q y' f e C w=> ?_;refine aa.alloc w fun m _ w=>aa.two e ?_;refine aa.store [] w fun s8 j w=> ?_;refine aa.fG (a:=s.h) (aak _ aad) w ?_;refine aa.fG (aad) w ?_;refine aa.node w (ih.pattern _ p L x (d+1) _ v r2 hs w.pz (by omega) B) rfl rfl fun k2 S U y2 s9 i V D=> ?_;have W:=w.lU D (aad) e C;have X:=w.lU D (a:=s.h) (aak _ aad) hnd g;refine aa.step (ib (by rw [W,X];rfl) _) ?_;refine aa.two hnd (aa.two e (aa.two i (aa.fit hnd fun z1 E _ _=>aa.fit e fun z2 F _ _=>aa.fit i fun z3 G _ _=> ?_)));refine aa.store [_] D fun H j w=> ?_;exact aa.some ⟨H,rfl,16,0,[],_,w.sub QH,jE (CC E F G) (by simp)⟩
   .rintro c ⟨f,rfl,h⟩;refine aa.step (ai _ _).symm (fin h ?_);rw [bI];simp only [ck,bC,aU];omega
  | false=>
   rw [J,if_neg abb] at h;cases h;exact aa.step (aaY (ax · _) (aj _ _)) (fin ⟨k,tk,tx,y,w,hnd⟩ g)
theorem My {n:Nat} (ih:Dv n) (hn:n<=10000000):jm 107 [] .arm (n+1):=by
 intro st p L x d r t r' hs i hd h;simp only [P] at h;obtain ⟨⟨a,g⟩,e,h⟩:=bind_some h;obtain ⟨u,rfl⟩:=cH _ _ _ _ _ _ e rfl;obtain ⟨⟨b,r2⟩,f,h⟩:=bind_some h;obtain ⟨v,rfl⟩:=cH _ _ _ _ _ _ f rfl;cases h;have j:=en hn e rfl;have k:=en hn f rfl;have l:=fP ig g;refine aa.wide (aa.step (PV _ _) ?_);unfold Wr;refine aa.alloc (Wd.begin i) fun m h1 w=> ?_;refine aa.alloc w fun q _ w=> ?_;refine aa.store [] w fun o s w=> ?_;have c:Gv PR st o p L x d r m.h st.h 10 []:=⟨_,_,w.aD,bA.nil,by simp [aU]⟩;refine c.grow (ih.pattern _ p L x d _ u g hs c.pz hd e) rfl rfl (by simp) fun y c=> ?_;refine c.grow (lh c.pz ig) rfl rfl (by simp) fun z c=> ?_;refine c.grow (ih.expr _ p L x d _ v r2 hs c.pz hd f) rfl rfl (by simp) fun A c=> ?_;refine c.nd.fin ?_;simp only [bI,ck,bC,aU];omega
theorem J8 {n:Nat} (ih:Dv n) (pat:Bool) (hs:Sg L) (a:Pz PR st p L x d r) (hd:d<=64) (h:P n (if pat then .pattern else .expr) d r=some ([t],r')):NW PR 106 [.mp p 0,.bool pat] st p L x d t r':=by
 refine aa.wide (aa.step (QW _ _ _) ?_);unfold Xk;refine aa.step (al _ _) (aa.alloc (Wd.begin a) fun b h1 w=> ?_);cases pat with
 | true=>
  refine aa.step (aq _ _) ?_;exact aa.node w (ih.pattern _ p L x d _ t r' hs w.pz hd h) rfl rfl fun k tk tx y s hn hd w=>aa.res [] (old:=z4) w rfl hn hd
 | false=>
  refine aa.step (aj _ _) ?_;exact aa.node w (ih.expr _ p L x d _ t r' hs w.pz hd h) rfl rfl fun k tk tx y s hn hd w=>aa.res [] (old:=z4) w rfl hn hd
theorem Gv.tO {s:St} {a b k:Nat} {ts:List T} (h:Gv PR st0 s p L x d r a b k ts) {s0:LB} {K:Bool->St->Fx->Oq β} (g: ∀s' c,Gv PR st0 s' p L x d r a b k ts->aa (K (cf s0 r) s' c) Q):
  aa (aV (aY vE) 16 [.mp p 0,.str s0] s fun v s c=>bG v fun b=>K b s c) Q:=by
 obtain ⟨v,es,w,hs,hd⟩:=h;exact aa.tO w fun s' c w'=>g s' c ⟨v,es,w',hs,hd⟩
theorem Gv.ng {s:St} {a b k:Nat} {ts:List T} (pat:Bool) (h:Gv PR st0 s p L x d r a b k ts) (e:Sg L) {K:Bool->St->Fx->Oq β} (g: ∀s' c,Gv PR st0 s' p L x d r a b k ts->aa (K (Parse.cJ pat r) s' c) Q):
  aa (aV (aY vE) (Y9 pat) [.mp p 0] s fun v s c=>bG v fun b=>K b s c) Q:=by
 obtain ⟨v,es,w,hs,hd⟩:=h;exact aa.ng pat e w fun s' c w'=>g s' c ⟨v,es,w',hs,hd⟩
theorem GU {n:Nat} (hn:n<=10000000) (ih: ∀m,m < n->Dv m) (list pat:Bool) (j:Sg L) {a b k:Nat} {f:St} (v:f.h=a) (hd:d<=64): ∀(m:Nat) (ts bs:List T) (r r':List aW) (s:St),m<=n->P m (.items list pat) d r=some (bs,r')->Gv PR st0 s p L x d r a b k ts->ts.length+2 * m<=100000000->
  aa (aH (wO (.mp p 0) (qg list) pat f) ([],s)) (fun q=> ∃s',q=(0,[],s')/\Gv PR st0 s' p L x d r' a b k (ts++bs)):=by
 intro m
 induction m with
 | zero=>intro ts bs r r' s _ h;cases h
 | succ m l=>
  intro ts bs r r' s hm h c hl;simp only [P] at h;split at h
  .rename_i o;obtain ⟨⟨E,w⟩,y,h⟩:=bind_some h;obtain ⟨u,rfl⟩:=cH _ _ _ _ _ _ y (yF pat);obtain ⟨⟨B,r2⟩,C,h⟩:=bind_some h;cases h;have g:aa (wO (.mp p 0) (qg list) pat f ([],s)) (fun q=> ∃s',q= .inl ([],s')/\Gv PR st0 s' p L x d w a b k (ts++[aK r]++[u])):=by
    simp only [wO,v,ae];refine c.tO fun z _ c=> ?_;rw [o];refine aa.step (aq _ _) ?_;refine c.grow (jP c.pz) rfl rfl (by omega) fun A c=> ?_;refine c.grow (J8 (ih m (by omega)) pat j c.pz hd y) rfl rfl (by simp;omega) fun D c=> ?_;exact aa.some ⟨D,rfl,c⟩
   obtain ⟨q,e,s',rfl,i⟩:=g;rw [aJ e];refine (l _ B w _ s' (by omega) C i (by simp;omega)).mono ?_;rintro q ⟨A,rfl,t⟩;refine ⟨A,rfl, ?_⟩;simpa using t
  .rename_i o;cases h;have g:aa (wO (.mp p 0) (qg list) pat f ([],s)) (fun q=> ∃s',q= .inr (0,[],s')/\Gv PR st0 s' p L x d r a b k ts):=by
    simp only [wO,v,ae];refine c.tO fun z _ c=> ?_;rw [aaC o];exact aa.step (aj _ _) (aa.some ⟨z,rfl,c⟩)
   obtain ⟨q,e,s',rfl,i⟩:=g;exact ⟨_,aF e,s',rfl,by simpa using i⟩
theorem DI {n:Nat} (ih: ∀m,m<=n->Dv m) (hn:n<=10000000) (list pat:Bool):jm 66 [.int .u8 (kindOf list pat:Int),.str (qg list),.str (ik list),.bool pat] (.closed list pat) (n+1):=by
 intro st p L x d r t r' hs o hd h;simp only [P] at h;refine aa.wide (aa.step (Te _ _ _ _ _ _) ?_);simp only [ZD,af,ao,al];refine aa.alloc (Wd.begin o) fun B _ w=> ?_;refine aa.pW w fun k tk tx y s hnd b w=> ?_;refine aa.two hnd (aa.fit hnd fun C e _ _=> ?_);refine aa.alloc w fun j _ w=> ?_;refine aa.store [] w fun v D w=> ?_;have a:Gv PR st v p L x d (aO r) s.h st.h (kindOf list pat) [aK r]:=⟨_,_,w.shut (by simp),mI e,by rw [bq];exact b⟩;refine a.tO fun E _ a=> ?_;split at h
 .rename_i f;cases h;rw [f];refine aa.step (aq _ _) ?_;refine a.grow (jP a.pz) rfl rfl (by simp) fun F a=> ?_;refine a.nd.fin ?_;have:=bX r;have:=bX (aO r);simp only [bI,ck,bC,aU];omega
 .rename_i f;rw [aaC f];obtain ⟨⟨G,H⟩,g,h⟩:=bind_some h;obtain ⟨u,rfl⟩:=cH _ _ _ _ _ _ g (yF pat);obtain ⟨⟨l,r2⟩,i,h⟩:=bind_some h;cases h;refine aa.step (aj _ _) ?_;refine a.grow (J8 (ih n (aah _)) pat hs a.pz hd g) rfl rfl (by simp) fun j a=> ?_;refine aa.bind (GU hn (fun m hm=>ih m (by omega)) list pat hs rfl hd n _ l _ _ j (aah _) i a (by simp;omega)) ?_;rintro q ⟨I,rfl,a⟩;refine aa.step (ae _) ?_;have z:=Aj hn i rfl;have A:=en hn g (sk pat);have hl:=CG _ _ _ _ _ _ _ i;refine a.grow (lh a.pz (ik list)) rfl rfl (by simp;omega) fun J a=> ?_;have c:=a.nd.fin (t:=node (kindOf list pat) ([aK r]++[u]++l++[cP (ik list) r2])) (by
   have:=bX r;have:=fP (ik list) r2;simp only [bI,ck,bC,aU];omega)
  exact c
end
theorem mr {s:LB} {r:List aW} (h:cf s r=true):((nx r).1=3\/(nx r).1=8)/\(nx r).2=s:=by
 unfold cf at h;simp only [aaf,aaP,aaM] at h;exact h
theorem E1 {r:List aW} (h:iE (nx r)=true):(nx r).1≠9/\cf dn r=false/\cf cO r=false:=by
 have key: ∀s:LB,s≠gM->s≠eD->cf s r=false:=fun s h1 a=>by
  cases b:cf s r with
  | false=>rfl
  | true=>
   obtain ⟨c,hs⟩:=mr b;unfold iE at h;simp only [aaP,aaf,aaM] at h;rw [hs] at h;rcases h with ((h | h) | h) | ⟨_,h | h⟩
   .omega
   .omega
   .omega
   .exact absurd h h1
   .exact absurd h a
 refine ⟨?_,key _ (by decide) (by decide),key _ (by decide) (by decide)⟩;unfold iE at h;simp only [aaP,aaf,aaM] at h;omega
theorem MO {s u:LB} {r:List aW} (h:cf s r=true) (hn:s≠u):cf u r=false:=by
 cases a:cf u r with
 | false=>rfl
 | true=>
  have h1:=(mr h).2;have b:=(mr a).2;exact absurd (h1.symm.trans b) hn
section
variable {β:Type} {Q:β->Prop} {st0 st:St} {p:Nat} {L:List aW} {x:AV} {d d':Nat} {r r':List aW} {l l1 l2:List Vr} {os:List (AV×LA)} {t:T}
theorem F3 (w:Wd PR st0 st p L x d r (l1++(st0.h,ND,z4)::l2) os):
  aa (aV (aY vE) 17 [.mp p 0] st fun v s _=>xM v fun a b tx y=>ab y (bm (aY vE) 4 (.mp st0.h 0) (.agg [.int .u8 a,.int .u8 b,.str tx,y]) [.int .u8 a,.int .u8 b,.str tx,y] s fun _ s _=>ar 4 true (.mp st0.h 0) s fun v _=>xM v fun a b tx y=>some (.agg [.int .u8 a,.int .u8 b,.str tx,y],s))) (NQ PR st0 p L x d (aK r) (aO r)):=
 aa.pW w fun k tk tx y s hn hd w=>aa.res l1 (old:=z4) w rfl hn hd
theorem F6 (w:Wd PR st0 st p L x d r (l1++(st0.h,ND,z4)::l2) os):
  aa (aV (aY vE) 17 [.mp p 0] st fun v s _=>xM v fun a b tx y=>ab y (ab y (aB y fun y=>bm (aY vE) 4 (.mp st0.h 0) (.agg [.int .u8 3,.int .u8 0,.str [],.sl 4 [.agg [.int .u8 a,.int .u8 b,.str tx,y]] .shut]) [.int .u8 3,.int .u8 0,.str [],.sl 4 [.agg [.int .u8 a,.int .u8 b,.str tx,y]] .shut] s fun _ s _=>ar 4 true (.mp st0.h 0) s fun v _=>xM v fun a b tx y=>some (.agg [.int .u8 a,.int .u8 b,.str tx,y],s)))) (NQ PR st0 p L x d (node 3 [aK r]) (aO r)):=by
 refine aa.pW w fun k tk tx y s hn hd w=> ?_;refine aa.two hn (aa.fit hn fun e c _ _=> ?_);refine aa.GJ l1 (old:=z4) w rfl (jE (mI c) (by simp)) ?_;have:=bX r;simp only [bI,bC,aU];omega
theorem Ic {n:Nat} (ih:Dv n) (pat:Bool):jm (Zf pat) [] (.atom pat) (n+1):=by
 intro st p L x d r t r' hs l hd h;have j:(nx r).1=8->(nx r).2.length<=2:=by
  obtain ⟨i,_,B⟩:=l;exact R5 hs B
 simp only [P] at h;have z:(((nx r).1:Int)==9)=((nx r).1==9):=cU _ 9;have C:(((nx r).1:Int)==6)=((nx r).1==6):=cU _ 6;cases pat with
 | false=>
  rw [E4 j] at h;refine aa.wide (aa.step (QA _ _) ?_);unfold Xe;refine aa.alloc (Wd.begin l) fun D _ w=> ?_;refine aa.XD w fun A m w=> ?_;refine aa.bind (R:=fun c=>c=([.bool (iE (nx r)||(nx r).1==6)],m)) ?_ ?_
  .refine aa.G8 aad w ?_;simp only [aw,ad,af,ao,ae];refine aa.step (oW (nx r) _ _) (aa.step (al _ _) ?_);cases iE (nx r) with
   | true=>exact aa.step (aq _ _) (aa.some rfl)
   | false=>
    refine aa.step (aj _ _) (aa.gQ aad w rfl (aa.step (af _ _ _) ?_));rw [C];exact aa.some rfl
  .rintro c rfl;simp only [ad,al,ae];cases f:(iE (nx r)||(nx r).1==6) with
   | true=>
    have a:(nx r).1≠9/\cf dn r=false/\cf cO r=false:=by
     cases hl:iE (nx r) with
     | true=>exact E1 hl
     | false=>
      rw [hl,aaV,aaM] at f;refine ⟨by omega, ?_, ?_⟩
      .cases o:cf dn r with
       | false=>rfl
       | true=>have:=(mr o).1;omega
      .cases o:cf cO r with
       | false=>rfl
       | true=>have:=(mr o).1;omega
    rw [f,abI,abI,if_pos rfl,if_neg a.1,a.2.1,a.2.2,if_neg abb,if_neg abb] at h;cases h;refine aa.step (aq _ _) ?_;exact F3 (l1:=[_]) w
   | false=>
    rw [f,aaV] at h;refine aa.step (aj _ _) (aa.gQ aad w rfl (aa.step (af _ _ _) ?_));rw [z];by_cases e:(nx r).1=9
    .rw [e] at h ⊢;rw [if_pos (by simp),if_pos rfl] at h;cases h;refine aa.step (aq _ _) ?_;exact F6 (l1:=[_]) (by rw [e] at w;exact w)
    .rw [aai.2 e] at h ⊢;rw [aaV] at h;refine aa.step (aj _ _) (aa.tO (s0:=dn) w fun g _ w=> ?_);cases ho:cf dn r with
     | true=>
      rw [ho,abI,if_pos rfl,if_neg e,if_pos rfl] at h;refine aa.step (aq _ _) ?_;exact aa.node w (ih.closed false false _ p L x d r t r' hs w.pz hd h) rfl rfl fun k tk tx y s hnd b w=>aa.res [_] (old:=z4) w rfl hnd b
     | false=>
      rw [ho,aaV] at h;refine aa.step (aj _ _) (aa.tO (s0:=cO) w fun E _ w=> ?_);cases hl:cf cO r with
      | true=>
       rw [hl,if_pos rfl,if_neg e,if_neg abb,if_pos rfl] at h;refine aa.step (aq _ _) ?_;exact aa.node w (ih.closed true false _ p L x d r t r' hs w.pz hd h) rfl rfl fun k tk tx y s hnd b w=>aa.res [_] (old:=z4) w rfl hnd b
      | false=>
       rw [hl,if_neg abb] at h;cases h;refine aa.step (aj _ _) (aa.step (pE _ _ _) ?_);refine aa.res [_] (old:=z4) w rfl (jf pY) ?_;show fg (missing pY)<= _;rw [fX];omega
 | true=>
  rw [Fc j] at h;refine aa.wide (aa.step (US _ _) ?_);unfold Zg;refine aa.alloc (Wd.begin l) fun D _ w=> ?_;refine aa.XD w fun A m w=> ?_;refine aa.bind (R:=fun c=> ∃g,c=([.bool (iE (nx r)||cf nS r)],g)/\Wd PR st g p L x d r [(A.h,24,[.int .u8 ((nx r).1:Int),.str (nx r).2]),(st.h,ND,z4)] []) ?_ ?_
  .refine aa.G8 aad w ?_;simp only [aw,ad,af,ao,ae];refine aa.step (oW (nx r) _ _) (aa.step (al _ _) ?_);cases iE (nx r) with
   | true=>exact aa.step (aq _ _) (aa.some ⟨m,rfl,w⟩)
   | false=>
    refine aa.step (aj _ _) (aa.tO (s0:=nS) w fun g _ w=> ?_);exact aa.some ⟨g,rfl,w⟩
  .rintro c ⟨g,rfl,w⟩;simp only [ad,al,ae];cases f:(iE (nx r)||cf nS r) with
   | true=>
    have a:(nx r).1≠9/\cf dn r=false/\cf cO r=false:=by
     cases hl:iE (nx r) with
     | true=>exact E1 hl
     | false=>
      rw [hl,aaV] at f;exact ⟨by have:=(mr f).1;omega,MO f (by decide),MO f (by decide)⟩
    have q:(iE (nx r)||(nx r).1==9||cf nS r||(cf dn r||cf cO r))=true:=by
     rcases (aaP _ _).mp f with h | h
     .rw [h];rfl
     .rw [h];simp
    rw [q,if_pos rfl,if_neg a.1,a.2.1,a.2.2,if_neg abb,if_neg abb] at h;cases h;refine aa.step (aq _ _) ?_;exact F3 (l1:=[_]) w
   | false=>
    obtain ⟨u,v⟩:=(aaO).1 f;rw [u,v,aaV,acj] at h;refine aa.step (aj _ _) (aa.gQ aad w rfl (aa.step (af _ _ _) ?_));rw [z];by_cases e:(nx r).1=9
    .rw [e] at h ⊢;rw [if_pos (by simp),if_pos rfl] at h;cases h;refine aa.step (aq _ _) ?_;exact F6 (l1:=[_]) (by rw [e] at w;exact w)
    .rw [aai.2 e] at h ⊢;rw [aaV] at h;refine aa.step (aj _ _) (aa.tO (s0:=dn) w fun g _ w=> ?_);cases ho:cf dn r with
     | true=>
      rw [ho,abI,if_pos rfl,if_neg e,if_pos rfl] at h;refine aa.step (aq _ _) ?_;exact aa.node w (ih.closed false true _ p L x d r t r' hs w.pz hd h) rfl rfl fun k tk tx y s hnd b w=>aa.res [_] (old:=z4) w rfl hnd b
     | false=>
      rw [ho,aaV] at h;refine aa.step (aj _ _) (aa.tO (s0:=cO) w fun E _ w=> ?_);cases hl:cf cO r with
      | true=>
       rw [hl,if_pos rfl,if_neg e,if_neg abb,if_pos rfl] at h;refine aa.step (aq _ _) ?_;exact aa.node w (ih.closed true true _ p L x d r t r' hs w.pz hd h) rfl rfl fun k tk tx y s hnd b w=>aa.res [_] (old:=z4) w rfl hnd b
      | false=>
       rw [hl,if_neg abb] at h;cases h;refine aa.step (aj _ _) (aa.step (pE _ _ _) ?_);refine aa.res [_] (old:=z4) w rfl (jf mL) ?_;show fg (missing mL)<= _;rw [fX];omega
end
theorem OP {k:Nat}: ∀(n:Nat) (acc:T) (d:Nat) (r:List aW) (l:List T) (r':List aW),P n (.ops k acc) d r=some (l,r')->isAny (opsOf k) r'=false
 | 0,_,_,_,_,_,h=>by cases h
 | n+1,acc,d,r,l,r',h=>by
  simp only [P] at h;split at h
  .obtain ⟨⟨b,a⟩,_,h⟩:=bind_some h;exact OP n _ d a l r' h
  .rename_i c;cases h;exact aaC c
theorem Nf {k:Nat} (c:k<=6) {n d:Nat} {r:List aW} {l:List T} {r':List aW} (h:P n (.level k) d r=some (l,r')):isAny (opsOf k) r'=false:=by
 cases n with
 | zero=>cases h
 | succ n=>
  simp only [P] at h;rw [if_neg (by omega)] at h;obtain ⟨⟨a,e⟩,b,h⟩:=bind_some h;obtain ⟨u,rfl⟩:=cH _ _ _ _ _ _ b rfl;exact OP _ _ _ _ _ _ h
section
variable {β:Type} {Q:β->Prop} {st0 st:St} {p:Nat} {L:List aW} {x:AV} {d d':Nat} {r r':List aW} {l l1 l2:List Vr} {os:List (AV×LA)} {t:T}
theorem Hz {n:Nat} (hn:n<=10000000) (ih: ∀m,m < n->Dv m) (hs:Sg L) {a b:Nat} {c:St} (C:c.h=a) (hd:d<=64): ∀(m:Nat) (acc t:T) (r r':List aW) (s:St),m<=n->P m (.args acc) d r=some ([t],r')->Nv PR st0 s p L x d r a b acc->fg acc+m<=900000000000000->
  aa (aH (rQ (.mp p 0) c) ([],s)) (fun q=> ∃s',q=(0,[],s')/\Nv PR st0 s' p L x d r' a b t/\fg t<=900000000000000):=by
 intro m
 induction m with
 | zero=>intro acc t r r' s _ h;cases h
 | succ m j=>
  intro acc t r r' s hm h G hl;simp only [P] at h;obtain ⟨k,tk,tx,y,w,hnd⟩:=G;split at h
  .rename_i l;obtain ⟨⟨D,o⟩,v,h⟩:=bind_some h;obtain ⟨u,rfl⟩:=cH _ _ _ _ _ _ v rfl;have H:=en (by omega:m<=10000000) v rfl;have f:aa (rQ (.mp p 0) c ([],s)) (fun q=> ∃s',q= .inl ([],s')/\Nv PR st0 s' p L x d o a b (node 13 [acc,u])):=by
    simp only [rQ,C,ae];refine aa.ng false hs w fun E _ w=> ?_;rw [l];refine aa.step (aq _ _) ?_;refine aa.fG (aad) w ?_;refine aa.node w ((ih m (by omega)).atom false _ p L x d r u o hs w.pz hd v) rfl rfl fun M I J N O i K F=> ?_;have D:=w.lU F (aad) hnd (by omega);refine aa.step (ib (by rw [D];rfl) _) ?_;refine aa.two hnd (aa.two i (aa.fit hnd fun Q z _ _=>aa.fit i fun R A _ _=> ?_));refine aa.store [] F fun B S w=> ?_;exact aa.some ⟨B,rfl,13,0,[],_,w,jE (CZ z A) (by simp)⟩
   obtain ⟨q,e,s',rfl,g⟩:=f;rw [aJ e];refine j _ t o _ s' (by omega) h g ?_;simp only [bI,bC,aU];omega
  .rename_i l;cases h;have f:aa (rQ (.mp p 0) c ([],s)) (fun q=> ∃s',q= .inr (0,[],s')/\Nv PR st0 s' p L x d r a b acc):=by
    simp only [rQ,C,ae];refine aa.ng false hs w fun E _ w=> ?_;rw [aaC l];exact aa.step (aj _ _) (aa.some ⟨E,rfl,k,tk,tx,y,w,hnd⟩)
   obtain ⟨q,e,s',rfl,g⟩:=f;exact ⟨_,aF e,s',rfl,g,by omega⟩
theorem Mj {n:Nat} (ih: ∀m,m<=n->Dv m) (hn:n<=10000000) (hs:Sg L) (e:Pz PR st p L x d r) (hd:d<=64) {u:T} {a:List aW} (c:P n (.atom false) d r=some ([u],a)) (h:P n (.args u) d a=some ([t],r')):NW PR 176 [.mp p 0] st p L x d t r':=by
 have f:=en hn c rfl;refine aa.wide (aa.step (QE _ _) ?_);unfold Ww;refine aa.alloc (Wd.begin e) fun j _ w=> ?_;refine aa.node w ((ih n (aah _)).atom false _ p L x d r u a hs w.pz hd c) rfl rfl fun k tk tx y s hnd b w=> ?_;refine aa.alloc w fun l _ w=>aa.two hnd ?_;refine aa.store [] w fun g o w=> ?_;refine aa.bind (Hz hn (fun m hm=>ih m (by omega)) hs rfl hd n u t a r' g (aah _) h ⟨k,tk,tx,y,w,hnd⟩ (by omega)) ?_;rintro q ⟨v,rfl,i,b⟩;exact aa.step (ae _) (i.fin (by omega))
theorem LC {n:Nat} (ih: ∀m,m<=n->Dv m) (hn:n<=10000000):jm 157 [] .neg (n+1):=by
 intro st p L x d r t r' hs C hd h;simp only [P] at h;have i:isAny [[45],[45,46]] r=(cf [45] r||cf [45,46] r):=by
  unfold isAny cf;cases ((nx r).1==3||(nx r).1==8) with
  | true=>
   simp only [abB,abr,List.any_nil,acj];congr 1 <;> (rw [Bool.eq_iff_iff,aaM,aaM];exact eq_comm)
  | false=>rfl
 refine aa.wide (aa.step (QM _ _) ?_);unfold WA;refine aa.alloc (Wd.begin C) fun H _ w=> ?_;refine aa.bind (R:=fun c=> ∃j,c=([.bool (!(isAny [[45],[45,46]] r))],j)/\Wd PR st j p L x d r [(st.h,ND,z4)] []) ?_ ?_
 .rw [i];refine aa.tO (s0:=[45]) w fun j _ w=> ?_;cases cf [45] r with
  | true=>exact aa.step (aj _ _) (aa.some ⟨j,rfl,w⟩)
  | false=>exact aa.step (aq _ _) (aa.tO (s0:=[45,46]) w fun z _ w=>aa.some ⟨z,rfl,w⟩)
 .rintro c ⟨j,rfl,w⟩;simp only [ad,al,ae];split at h
  .rename_i l;rw [l];refine aa.step (aj _ _) ?_;refine aa.pW w fun k tk tx y s hnd b w=> ?_;refine aa.two hnd (aa.fit hnd fun I o _ _=> ?_);refine aa.alloc w fun z _ w=> ?_;refine aa.store [] w fun D A w=> ?_;have J:=bX r;refine aa.BD (aa.oq w (aa.step (af _ _ _) ?_));have a:Gv PR st D p L x d (aO r) s.h st.h 12 [aK r]:=⟨_,_,w.shut (by simp),mI o,by rw [bq];exact b⟩;split at h
   .rename_i hd;subst hd;cases h;refine aa.step (aq _ _) ?_;refine a.grow (zI a.pz _) rfl rfl (by simp) fun B a=> ?_;refine a.nd.fin ?_;have:=rm pY (aO r);show fg (node 12 ([aK r]++[jI pY (aO r)]))<= _;simp only [bI,ck,bC,aU];omega
   .obtain ⟨⟨E,q⟩,g,h⟩:=bind_some h;obtain ⟨u,rfl⟩:=cH _ _ _ _ _ _ g rfl;cases h;have F:=en hn g rfl;rw [show ((d:Int)==64)=false from aai.2 (by omega)];refine aa.step (aj _ _) ?_;obtain ⟨v,es,w,e,f⟩:=a;refine aa.BD (aa.oq w (aa.step (af _ _ _) ?_));rw [az,br (by omega)];refine aa.BD (aa.deep (d+1) w fun B A w=> ?_);have a:Gv PR st B p L x (d+1) (aO r) s.h st.h 12 [aK r]:=⟨v,es,w,e,f⟩;refine a.grow ((ih n (aah _)).neg _ p L x (d+1) _ u q hs a.pz (by omega) g) rfl rfl (by simp) fun K a=> ?_;obtain ⟨v,es,w,e,f⟩:=a;refine aa.BD (aa.oq w (aa.step (af _ _ _) ?_));rw [az,show ((d+1:Nat):Int) - 1=((d+1:Nat):Int) - ((1:Nat):Int) from rfl,xH (by omega) (by omega),abY];refine aa.BD (aa.deep d w fun G A w=> ?_);have a:Gv PR st G p L x d q s.h st.h 12 ([aK r]++[u]):=⟨v,es,w,e,f⟩;refine a.nd.fin (t:=node 12 ([aK r]++[u])) ?_;simp only [bI,ck,bC,aU];omega
  .rename_i l;rw [aaC l];refine aa.step (aq _ _) ?_;obtain ⟨⟨E,q⟩,g,h⟩:=bind_some h;obtain ⟨u,rfl⟩:=cH _ _ _ _ _ _ g rfl;exact aa.node w (Mj ih hn hs w.pz hd g h) rfl rfl fun k tk tx y s hnd b w=>aa.res [] (old:=z4) w rfl hnd b
theorem Bb {k:Nat} (a:k<=6) {γ:Type} (st:St) (K:Kv γ):aV (aY vE) 134 [.int .i64 (k:Int)] st K=K (.sl 1 ((opsOf k).map AV.str) .shut) st q0:=by
 refine aG st K rfl rfl rfl (aM rfl ((Qa _).trans ?_))
 match k,a with
 | 0,_=>rfl
 | 1,_=>rfl
 | 2,_=>rfl
 | 3,_=>rfl
 | 4,_=>rfl
 | 5,_=>rfl
 | 6,_=>rfl
theorem DB {k:Nat} (a:k<=6):(opsOf k).length<=1000:=by
 match k,a with
 | 0,_=>simp [opsOf]
 | 1,_=>simp [opsOf]
 | 2,_=>simp [opsOf]
 | 3,_=>simp [opsOf]
 | 4,_=>simp [opsOf]
 | 5,_=>simp [opsOf]
 | 6,_=>simp [opsOf]
theorem Og {n:Nat} (b: ∀k:Nat,k<=6->jm 108 [.int .i64 (k:Int)] (.level k) n) (neg: ∀m,n=m+1->jm 157 [] .neg m) (k:Nat) (f:k<=6):jm 132 [.int .i64 (k:Int)] (.level (k+1)) n:=by
 intro st p L x d r t r' hs e hd h;refine aa.wide (aa.step (Rc _ _ _) ?_);unfold Wm;refine aa.step (af _ _ _) (aa.alloc (Wd.begin e) fun g _ w=> ?_);by_cases i:k < 6
 .refine aa.step (cQ (c:=true) (abh (show (k:Int) < 6 by omega)) _ _) (aa.step (aq _ _) ?_);rw [az,br (by omega)];exact aa.node w (b (k+1) (by omega) _ p L x d r t r' hs w.pz hd h) rfl rfl fun k1 tk tx y s hnd a w=>aa.res [] (old:=z4) w rfl hnd a
 .obtain rfl:k=6:=by omega
  refine aa.step (cQ (c:=false) (abe (by decide)) _ _) (aa.step (aj _ _) ?_);cases n with
  | zero=>cases h
  | succ m=>
   simp only [P,if_true] at h;exact aa.node w (neg m rfl _ p L x d r t r' hs w.pz hd h) rfl rfl fun k1 tk tx y s hnd a w=>aa.res [] (old:=z4) w rfl hnd a
theorem KK {n:Nat} (hn:n<=10000000) (ih: ∀m,m < n->Dv m) (hs:Sg L) {a b k:Nat} (j:k<=6) (o:Parse.leftOf k=true) {c:St} (I:c.h=a) (hd:d<=64): ∀(m:Nat) (acc t:T) (r r':List aW) (s:St),m<=n->P m (.ops k acc) d r=some ([t],r')->Nv PR st0 s p L x d r a b acc->fg acc+m<=900000000000000->
  aa (aH (rU (.mp p 0) (k:Int) c) ([],s)) (fun q=> ∃s',q=(0,[],s')/\Nv PR st0 s' p L x d r' a b t/\fg t<=900000000000000):=by
 intro m
 induction m with
 | zero=>intro acc t r r' s _ h;cases h
 | succ m v=>
  intro acc t r r' s hm h M hl;simp only [P] at h;obtain ⟨k1,tk,tx,y,w,hnd⟩:=M;split at h
  .rename_i z;obtain ⟨⟨J,A⟩,B,h⟩:=bind_some h;obtain ⟨u,rfl⟩:=cH _ _ _ _ _ _ B rfl;have N:=en (by omega:m<=10000000) B rfl;have O:=bX r;have g:aa (rU (.mp p 0) (k:Int) c ([],s)) (fun q=> ∃s',q= .inl ([],s')/\Nv PR st0 s' p L x d A a b (node 11 [acc,aK r,u])):=by
    simp only [rU,I,ae];refine aa.step (Bb j _ _) ?_;refine aa.Hw (ji (opsOf k) (DB j)) w fun K _ w=> ?_;rw [z];refine aa.step (aq _ _) ?_;refine aa.pW w fun Y Q R y' Z f C w=> ?_;refine aa.alloc w fun s7 _ w=>aa.two f ?_;refine aa.store [] w fun s8 S w=> ?_;refine aa.fG (a:=a) (aak _ aad) w ?_;refine aa.fG (aad) w ?_;refine aa.node w ((ih m (by omega)).oper k j _ p L x d _ u A hs w.pz hd B) rfl rfl fun k2 U V y2 s9 l W D=> ?_;have J:=w.lU D (aad) f C;have X:=w.lU D (a:=a) (aak _ aad) hnd (by omega);refine aa.step (ib (by rw [J,X];rfl) _) ?_;refine aa.two hnd (aa.two f (aa.two l (aa.fit hnd fun z1 E _ _=>aa.fit f fun z2 F _ _=>aa.fit l fun z3 G _ _=> ?_)));refine aa.store [_] D fun H S w=> ?_;exact aa.some ⟨H,rfl,11,0,[],_,w.sub QH,jE (CC E F G) (by simp)⟩
   obtain ⟨q,e,s',rfl,i⟩:=g;rw [aJ e];refine v _ t A _ s' (by omega) h i ?_;simp only [bI,bC,aU];omega
  .rename_i z;cases h;have g:aa (rU (.mp p 0) (k:Int) c ([],s)) (fun q=> ∃s',q= .inr (0,[],s')/\Nv PR st0 s' p L x d r a b acc):=by
    simp only [rU,I,ae];refine aa.step (Bb j _ _) ?_;refine aa.Hw (ji (opsOf k) (DB j)) w fun K _ w=> ?_;rw [aaC z];exact aa.step (aj _ _) (aa.some ⟨K,rfl,k1,tk,tx,y,w,hnd⟩)
   obtain ⟨q,e,s',rfl,i⟩:=g;exact ⟨_,aF e,s',rfl,i,by omega⟩
theorem G3 {n:Nat} (ih: ∀m,m<=n->Dv m) (hn:n<=10000000) (k:Nat) (f:k<=6):jm 108 [.int .i64 (k:Int)] (.level k) (n+1):=by
 intro st p L x d r t r' hs J hd h;simp only [P] at h;rw [if_neg (by omega)] at h;obtain ⟨⟨H,o⟩,z,h⟩:=bind_some h;obtain ⟨u,rfl⟩:=cH _ _ _ _ _ _ z rfl;have K:=en hn z rfl;refine aa.wide (aa.step (Q9 _ _ _) ?_);unfold V9;refine aa.step (af _ _ _) (aa.alloc (Wd.begin J) fun Z _ w=> ?_);refine aa.node w ((ih n (aah _)).oper k f _ p L x d r u o hs w.pz hd z) rfl rfl fun k1 tk tx y s hnd g w=> ?_;refine aa.alloc w fun s3 _ w=>aa.two hnd ?_;refine aa.store [] w fun I M w=> ?_;refine aa.bind (R:=fun c=>c=([.bool (Parse.leftOf k)],I)) ?_ ?_
 .match k,f with
  | 0,_=>exact aa.some rfl
  | 1,_=>exact aa.some rfl
  | 2,_=>exact aa.some rfl
  | 3,_=>exact aa.some rfl
  | 4,_=>exact aa.some rfl
  | 5,_=>exact aa.some rfl
  | 6,_=>exact aa.some rfl
 .rintro c rfl;simp only [ad,al,ae];cases b:Parse.leftOf k with
  | true=>
   refine aa.step (aq _ _) ?_;refine aa.bind (KK hn (fun m hm=>ih m (by omega)) hs f b rfl hd n u t o r' I (aah _) h ⟨k1,tk,tx,y,w,hnd⟩ (by omega)) ?_;rintro q ⟨N,rfl,O,g⟩;exact aa.step (ae _) (O.fin (by omega))
  | false=>
   refine aa.step (aj _ _) (aa.step (Bb f _ _) ?_);refine aa.Hw (ji (opsOf k) (DB f)) w fun s5 _ w=> ?_;cases n with
   | zero=>cases h
   | succ m=>
    simp only [P] at h;split at h
    .rename_i A;obtain ⟨⟨b1,r2⟩,i,h⟩:=bind_some h
     try rw [b,if_neg abb] at i
     obtain ⟨v,rfl⟩:=cH _ _ _ _ _ _ i rfl;have Q:=en (by omega:m<=10000000) i rfl;have B:=Nf f i;have j:t=node 11 [u,aK o,v]/\r'=r2:=by
      cases m with
      | zero=>cases h
      | succ m=>
       simp only [P] at h;rw [B,if_neg abb] at h;cases h;exact ⟨rfl,rfl⟩
     obtain ⟨rfl,rfl⟩:=j;have S:=bX o;rw [A];refine aa.step (aq _ _) ?_;refine aa.pW w fun k' T U y' N e C w=> ?_;refine aa.alloc w fun s7 _ w=>aa.two e ?_;refine aa.store [] w fun s8 M w=> ?_;refine aa.fG (a:=s.h) (aak _ aad) w ?_;refine aa.fG (aad) w ?_;refine aa.node w ((ih m (by omega)).level k f _ p L x d _ v r' hs w.pz hd i) rfl rfl fun k2 V W y2 s9 l X D=> ?_;have H:=w.lU D (aad) e C;have Y:=w.lU D (a:=s.h) (aak _ aad) hnd (by omega);refine aa.step (ib (by rw [H,Y];rfl) _) ?_;refine aa.two hnd (aa.two e (aa.two l (aa.fit hnd fun z1 E _ _=>aa.fit e fun z2 F _ _=>aa.fit l fun z3 G _ _=> ?_)));refine aa.GJ [_,_] (old:=z4) D rfl (jE (CC E F G) (by simp)) ?_;simp only [bI,bC,aU];omega
    .rename_i A;cases h;rw [aaC A];refine aa.step (aj _ _) ?_;refine aa.fG (aad) w ?_;exact aa.res [_] (old:=z4) w rfl hnd g
end
end Go.Proofs.YtkpeicabocpbkaaGreatDoor.Vm
