/-
  A part of the proof.
-/
import Derived.Test.YtkbkbndajpbcjaaGreatDoorVmCE
import Derived.Test.YtkbkbndajpbcjaaGreatDoorVmBG
set_option maxRecDepth 1000000
set_option linter.all false
set_option maxHeartbeats 0
namespace Go.Proofs.YtkbkbndajpbcjaaGreatDoor.Vm
open Go Go.VM Go.Proofs Go.Lex Go.Parse
section
variable {β:Type} {Q:β->Prop} {PT:Td} {st0 st s:St} {p:Nat} {L:List bc} {x:AV} {d d':Nat} {r r':List bc} {l l1 l2:List Vr} {os:List (AV×LA)} {t:T}
abbrev TO:Td:=30
theorem _root_.Go.VM.aa.renew {tk:Nat} {a:Int} {b:LB} (w:Wd PP st0 st p L x d r l os) (hm:(tk,TO,[.int .u8 a,.str b])∈l) {K:St->Oq β} (g: ∀s',Wd PP st0 s' p L x d r ((st.h,TO,[.int .u8 ((nx r).1:Int),.str (nx r).2])::l) os->aa (K s') Q):
  aa (ao 2 true (.mp tk 0) st fun v _=>uz v fun cs=>bo cs fun u cs=>bK .u8 u fun n=>bo cs fun u cs=>fG u fun tx=>bQ cs (bM (St.add st (.cells TO [.int .u8 0,.str []])) fun c=>aK (aQ vE) 2 (.mp (St.h st) 0) (.agg [.int .u8 n,.str tx]) [.int .u8 n,.str tx] c fun _ f _=>
   bf (aQ vE) 64 [.mp p 0] f fun v s _=>ig v fun vs=>cB vs 0 fun u=>uz u fun cs=>bo cs fun a cs=>bK .u8 a fun n=>bo cs fun b cs=>fG b fun tx=>bQ cs (ig v fun vs=>cB vs 1 fun u=>bK .i64 u fun _=>aK (aQ vE) 2 (.mp (St.h st) 0) (.agg [.int .u8 n,.str tx]) [.int .u8 n,.str tx] s fun _ s' _=>K s'))) Q:=by
 refine aa.Ym hm w ?_;simp only [al,ab,af,ah,ae];refine aa.alloc w fun c _ m=>aa.store [] m fun f _ j=> ?_;obtain ⟨i,h,rfl⟩:=j.pz;obtain ⟨t,k,e⟩:=pB h;refine aa.step (e _) ?_;simp only [br,aP,ba,al,ab,af,ah,ae];exact aa.store [] (j.quiet k) fun o _ q=>g o q
theorem E8 {a b:Nat} (h:a≠b):((a:Int) != (b:Int))=true:=by
 rw [bne,aaB.2 (show (a:Int)≠(b:Int) by omega)];rfl
theorem K9 {f:cJ} {kc:Nat} (C:f.2.h=kc): ∀(m:Nat) (r:List bc) (tk:Nat) (ts:List T) (es:LA) (v:AV) (s:St) (os:List (AV×LA)),
  Wd PP st0 s p L x d r ([(tk,TO,[.int .u8 ((nx r).1:Int),.str (nx r).2])]++(kc,ND,[.int .u8 3,.int .u8 0,.str [],v])::l2) ((v,es)::os)->bI ts es->gm ts<=2->ts.length+m<=100000000->r.length<=m->
  aa (bl (sk (.mp p 0) f) ([.mp tk 0],s)) (fun q=> ∃s' v' es',q=(0,[],s')/\Wd PP st0 s' p L x d (skip m r).2 ((kc,ND,[.int .u8 3,.int .u8 0,.str [],v'])::l2) ((v',es')::os)/\bI (ts++(skip m r).1) es'/\gm (ts++(skip m r).1)<=2):=by
 intro m
 induction m with
 | zero=>
  intro r tk ts es v s os w j l hl D;obtain rfl:r=[]:=aa6 (by omega);simp only [skip,aay];have g:aa (sk (.mp p 0) f ([.mp tk 0],s)) (fun q=>q= .inr (0,[],s)):=by
   simp only [sk,ab,ae];refine aa.bind (R:=fun c=>c=([.bool false],s)) ?_ ?_
   .refine aa.step (bw _ _ _ _) ?_;refine aa.pS (aag) w rfl (aa.step (af _ _ _) ?_);exact aa.some rfl
   .rintro c rfl;exact aa.some rfl
  obtain ⟨q,e,rfl⟩:=g;exact ⟨_,bE e,s,v,es,rfl,w.sub (List.Sublist.cons _ (abK _)),j,l⟩
 | succ m t=>
  intro r tk ts es v s os w j l hl D;by_cases a:(nx r).1≠0/\eH ub r=false
  .have g:aa (sk (.mp p 0) f ([.mp tk 0],s)) (fun q=> ∃k s' v' e,q= .inl ([.mp k 0],s')/\Wd PP st0 s' p L x d (aS r) ([(k,TO,[.int .u8 ((nx (aS r)).1:Int),.str (nx (aS r)).2])]++(kc,ND,[.int .u8 3,.int .u8 0,.str [],v'])::l2) ((v',es++[e])::os)/\bI (ts++[aV r]) (es++[e])):=by
    simp only [sk,ab,ae,C];refine aa.bind (R:=fun c=> ∃s',c=([.bool true],s')/\Wd PP st0 s' p L x d r ([(tk,TO,[.int .u8 ((nx r).1:Int),.str (nx r).2])]++(kc,ND,[.int .u8 3,.int .u8 0,.str [],v])::l2) ((v,es)::os)) ?_ ?_
    .refine aa.step (bw _ _ _ _) ?_;refine aa.pS (aag) w rfl (aa.step (af _ _ _) ?_);refine aa.step (fH (c:=true) (E8 (b:=0) a.1) _ _) (aa.step (ay _ _) ?_);refine aa.LI w fun o w=> ?_;exact aa.some ⟨o,by rw [show eH [108,101,116] r=false from a.2];rfl,w⟩
    .rintro c ⟨o,rfl,w⟩;simp only [ab,ae,au,ay];refine aa.grow [_] w (jL w.pz) rfl rfl j (by omega) (by omega) fun v' e B i _ w=> ?_;refine aa.renew w (tk:=tk) aag fun E w=> ?_;refine aa.some ⟨_,E,v',e,rfl,w.sub ?_,i⟩;exact List.Sublist.cons_cons _ (List.Sublist.cons _ (abK _))
   obtain ⟨q,e,k,s',v',I,rfl,w',i⟩:=g;rw [bA e];have F:=fg a.1;have n:skip (m+1) r=(aV r::(skip m (aS r)).1,(skip m (aS r)).2):=by
    simp only [skip];rw [if_pos a]
   rw [n];refine (t (aS r) k _ _ v' s' os w' i ?_ (by simp;omega) (by omega)).mono ?_
   .have:=dH r;rw [dr,bJ];omega
   .rintro q ⟨B,G,u,rfl,H,y,z⟩;exact ⟨B,G,u,rfl,H,by simpa using y,by simpa using z⟩
  .have n:skip (m+1) r=([],r):=by
    simp only [skip];rw [if_neg a]
   rw [n,aay];have g:aa (sk (.mp p 0) f ([.mp tk 0],s)) (fun q=> ∃s',q= .inr (0,[],s')/\Wd PP st0 s' p L x d r ([(tk,TO,[.int .u8 ((nx r).1:Int),.str (nx r).2])]++(kc,ND,[.int .u8 3,.int .u8 0,.str [],v])::l2) ((v,es)::os)):=by
    simp only [sk,ab,ae];refine aa.bind (R:=fun c=> ∃s',c=([.bool false],s')/\Wd PP st0 s' p L x d r ([(tk,TO,[.int .u8 ((nx r).1:Int),.str (nx r).2])]++(kc,ND,[.int .u8 3,.int .u8 0,.str [],v])::l2) ((v,es)::os)) ?_ ?_
    .refine aa.step (bw _ _ _ _) ?_;refine aa.pS (aag) w rfl (aa.step (af _ _ _) ?_);by_cases h0:(nx r).1=0
     .rw [h0];exact aa.some ⟨s,rfl,by rw [h0] at w;exact w⟩
     .have A:eH ub r=true:=by
       cases A:eH ub r with
       | true=>rfl
       | false=>exact absurd ⟨h0,A⟩ a
      refine aa.step (fH (c:=true) (E8 (b:=0) h0) _ _) (aa.step (ay _ _) ?_);refine aa.LI w fun o w=> ?_;exact aa.some ⟨o,by rw [show eH [108,101,116] r=true from A];rfl,w⟩
    .rintro c ⟨o,rfl,w⟩;exact aa.some ⟨o,rfl,w⟩
   obtain ⟨q,e,s',rfl,w'⟩:=g;exact ⟨_,bE e,s',v,es,rfl,w'.sub (List.Sublist.cons _ (abK _)),j,l⟩
theorem Oi (n:Nat) (r:List bc):gm (skip n r).1<=2:=by
 induction n generalizing r with
 | zero=>simp [skip,bm]
 | succ n ih=>
  simp only [skip];split
  .have:=dH r;have:=ih (aS r);simp only [cw];omega
  .simp [bm]
theorem Cp {J:St} {a b:Nat} (ha:J.h=a): ∀(N:Nat) (r:List bc) (D:List T) (tk:Nat) (ts:List T) (es:LA) (v:AV) (s:St),N<=10000000->decls N r=some D->r.length<=1000000->
  Wd PP st0 s p L x 0 r ([(tk,TO,[.int .u8 ((nx r).1:Int),.str (nx r).2])]++(a,ND,[.int .u8 4,.int .u8 0,.str [],v])::[(b,ND,z4)]) [(v,es)]->bI ts es->gm ts<=500000000000000->ts.length+N<=90000000->
  aa (bl (uZ (.mp p 0) J) ([.mp tk 0],s)) (fun q=> ∃s' K z,q=(0,[],s')/\D=z++[aV K]/\Gv PP st0 s' p L x 0 K a b 4 (ts++z)/\(ts++z).length<=90000000/\gm (ts++z)<=500000000000000):=by
 intro N
 induction N with
 | zero=>intro r D tk ts es v s _ h;cases h
 | succ n O=>
  intro r D tk ts es v s M h bb w o P hl;simp only [decls] at h;split at h
  .rename_i h0;cases h;have S:aa (uZ (.mp p 0) J ([.mp tk 0],s)) (fun q=>q= .inr (0,[],s)):=by
    simp only [uZ,ab,ae];refine aa.step (bw _ _ _ _) ?_;refine aa.pS (aag) w rfl (aa.step (af _ _ _) ?_);rw [h0];exact aa.some rfl
   obtain ⟨q,e,rfl⟩:=S;exact ⟨_,bE e,s,r,[],rfl,rfl,⟨v,es,w.sub (List.Sublist.cons _ (abK _)),by simpa using o,by rw [aay];omega⟩,by simp;omega,by rw [aay];exact P⟩
  .rename_i h0;have U: ∃(u:T) (d:List bc) (m:List T),decls n d=some m/\D=u::m/\iD u<=300000000000000/\d.length<=r.length/\
     aa (uZ (.mp p 0) J ([.mp tk 0],s)) (fun q=> ∃g s' v' e,q= .inl ([.mp g 0],s')/\Wd PP st0 s' p L x 0 d ([(g,TO,[.int .u8 ((nx d).1:Int),.str (nx d).2])]++(a,ND,[.int .u8 4,.int .u8 0,.str [],v'])::[(b,ND,z4)]) [(v',es++[e])]/\ky u e):=by
    have back: ∀(kc:Nat) (k:Nat) (u:T) (d:List bc) (f:St) (l:AV),Nd u k 0 [] l->
      Wd PP st0 f p L x 0 d ((kc,ND,[.int .u8 (k:Int),.int .u8 0,.str [],l])::(tk,TO,[.int .u8 ((nx r).1:Int),.str (nx r).2])::(a,ND,[.int .u8 4,.int .u8 0,.str [],v])::[(b,ND,z4)]) [(v,es)]->
      aa (ao 1 false (.mp a 3) f fun C _=>ao 4 true (.mp kc 0) f fun v168 _=>Fv v168 fun n1 n2 tx y=>ad y (ad y (aD y fun y=>ad y (aD y fun y=>eI 4 56 ND C [.agg [.int .u8 n1,.int .u8 n2,.str tx,y]] f fun i A _=>ad i (ad i (aK (aQ vE) 1 (.mp a 3) i [i] A fun _ B _=>
       ao 2 true (.mp tk 0) B fun v _=>uz v fun cs=>bo cs fun u cs=>bK .u8 u fun n=>bo cs fun u cs=>fG u fun tx=>bQ cs (bM (St.add B (.cells TO [.int .u8 0,.str []])) fun V=>aK (aQ vE) 2 (.mp (St.h B) 0) (.agg [.int .u8 n,.str tx]) [.int .u8 n,.str tx] V fun _ E _=>
        bf (aQ vE) 64 [.mp p 0] E fun v s _=>ig v fun vs=>cB vs 0 fun u=>uz u fun cs=>bo cs fun a cs=>bK .u8 a fun n=>bo cs fun b cs=>fG b fun tx=>bQ cs (ig v fun vs=>cB vs 1 fun u=>bK .i64 u fun _=>aK (aQ vE) 2 (.mp (St.h B) 0) (.agg [.int .u8 n,.str tx]) [.int .u8 n,.str tx] s fun _ s' _=>some (Sum.inl (β:=Nat×cJ) ([AV.mp (St.h B) 0],s'))))))))))
       (fun q=> ∃g s' v' e,q= .inl ([.mp g 0],s')/\Wd PP st0 s' p L x 0 d ([(g,TO,[.int .u8 ((nx d).1:Int),.str (nx d).2])]++(a,ND,[.int .u8 4,.int .u8 0,.str [],v'])::[(b,ND,z4)]) [(v',es++[e])]/\ky u e):=by
     intro kc k u d f l hnd w;refine aa.pS (a:=a) (aam _ (aam _ aag)) w rfl ?_;refine aa.og (aag) w ?_;refine aa.two hnd (aa.fit hnd fun y' M h1 hf=>aa.one h1 (aa.step (hf _) (aa.app w (by simp) (by rw [bI.len o];simp;omega) fun v' A _ ho w=> ?_)));refine aa.one ho (aa.one ho (aa.po [_,_] w (aah rfl) fun B _ w=> ?_));refine aa.renew w (tk:=tk) (aam _ aag) fun s8 w=> ?_;refine aa.some ⟨_,s8,v',_,rfl,w.sub ?_,M⟩;exact List.Sublist.cons_cons _ (List.Sublist.cons _ (List.Sublist.cons _ (abK _)))
    split at h
    .rename_i W;obtain ⟨⟨bs,d⟩,F,h⟩:=bind_some h;obtain ⟨m,G,h⟩:=bind_some h;cases h;have bt:=Jk (by omega:n<=10000000) F rfl;have X:=yX _ _ _ _ _ F;have b4:=dH r;refine ⟨_,d,m,G,rfl,by simp only [cM,cw];omega, ?_, ?_⟩
     .have:=F6 (Q:=fun q=>q.length<=r.length) (fun q hq=>aaR (mE q) hq) _ _ _ _ _ _ F (mE r);exact this
     simp only [uZ,ab,ae,ha];refine aa.step (bw _ _ _ _) ?_;refine aa.pS (aag) w rfl (aa.step (af _ _ _) ?_);refine aa.step (fH (c:=true) (E8 (b:=0) h0) _ _) (aa.step (ay _ _) ?_);refine aa.alloc w fun V _ w=> ?_;refine aa.LI w fun E w=> ?_;refine aa.bind (R:=fun c=> ∃f l,c=([],f)/\Nd (node 5 (aV r::bs)) 5 0 [] l/\Wd PP st0 f p L x 0 d ((s.h,ND,[.int .u8 ((5:Nat):Int),.int .u8 0,.str [],l])::(tk,TO,[.int .u8 ((nx r).1:Int),.str (nx r).2])::(a,ND,[.int .u8 4,.int .u8 0,.str [],v])::[(b,ND,z4)]) [(v,es)]) ?_ ?_
     .refine aa.step (fH (c:=true) W _ _) (aa.step (ay _ _) ?_);refine aa.take w fun k g tx y s3 hnd a6 w=> ?_;refine aa.two hnd (aa.fit hnd fun z1 Y _ _=> ?_);refine aa.gu ((Fb n (by omega)).binding s3 p L x 0 _ bs d w.pz (by omega) F) rfl rfl fun v4 s4 hv=> ?_;obtain ⟨b5,ho,_,j,a7,Z,ar⟩:=hv;have w4:=w.move ar Z;refine aa.step ((Ft.own ho).elems _) (aa.step (J1 j _) (aa.step (mR (FH j) _) ?_));have t:=bI.len j;refine aa.app (w4.shut (es:=[_]) (by simp)) (by
       intro e;rw [e] at t;exact X.2 (aa6 t.symm)) (by rw [t];simp;omega) fun v5 f _ H w5=> ?_
      refine aa.one H (aa.one H ?_);refine aa.store [] w5 fun A _ I=> ?_;exact aa.some ⟨A,v5,rfl,⟨⟨_,_,rfl,I.Xq,bI.cons Y j⟩⟩,I.drop⟩
     .rintro c ⟨f,l,rfl,hnd,w⟩;refine aa.step (ae _) ?_;exact back s.h 5 _ d f l hnd w
    .rename_i W;obtain ⟨m,G,h⟩:=bind_some h;cases h;refine ⟨_,_,m,G,rfl,by have:=Oi r.length r;simp only [cM];omega,D9 _ _, ?_⟩;simp only [uZ,ab,ae,ha];refine aa.step (bw _ _ _ _) ?_;refine aa.pS (aag) w rfl (aa.step (af _ _ _) ?_);refine aa.step (fH (c:=true) (E8 (b:=0) h0) _ _) (aa.step (ay _ _) ?_);refine aa.alloc w fun V _ w=> ?_;refine aa.LI w fun E w=> ?_;refine aa.bind (R:=fun c=> ∃f l,c=([],f)/\Nd (node 3 (skip r.length r).1) 3 0 [] l/\Wd PP st0 f p L x 0 (skip r.length r).2 ((s.h,ND,[.int .u8 ((3:Nat):Int),.int .u8 0,.str [],l])::(tk,TO,[.int .u8 ((nx r).1:Int),.str (nx r).2])::(a,ND,[.int .u8 4,.int .u8 0,.str [],v])::[(b,ND,z4)]) [(v,es)]) ?_ ?_
     .refine aa.step (fH (c:=false) (aa5 W) _ _) (aa.step (aq _ _) ?_);refine aa.po [] w (aah rfl) fun s3 _ w=> ?_;refine aa.next w fun s4 f w=> ?_;refine aa.bind (K9 (kc:=s.h) rfl r.length r _ [] [] .ax f _ w.ax bI.nil (by simp [bm]) (by simp;omega) (aal _)) ?_;rintro q ⟨A,v6,b6,rfl,I,av,b7⟩;refine aa.step (ae _) ?_;exact aa.some ⟨A,v6,rfl,⟨⟨_,_,rfl,I.Xq,by simpa using av⟩⟩,I.drop⟩
     .rintro c ⟨f,l,rfl,hnd,w⟩;refine aa.step (ae _) ?_;exact back s.h 3 _ _ f l hnd w
   obtain ⟨u,d,m,G,rfl,b8,a8,q,e,g,s',v',F,rfl,w',M⟩:=U;rw [bA e];refine (O d m g (ts++[u]) _ v' s' (by omega) G (by omega) w' (bI.app o (yW M)) (by rw [dr,bJ];omega) (by simp;omega)).mono ?_;rintro q ⟨E,K,z,rfl,rfl,hg,aw,a1⟩;exact ⟨E,K,u::z,rfl,rfl,by simpa using hg,by simpa using aw,by simpa using a1⟩
theorem Sr {r:List bc} (h:r.length<=70000):fuel r<=10000000:=by unfold fuel;omega
theorem Gy {i:Nat} (h:PS st p L x i 0) (hi:i=0) (hL:L.length<=70000):aa ((aQ vE).wide 34 [.mp p 0] st) (fun b=>VN (doc L) b.1/\iD (doc L)<=1000000000000000/\aZ st b.2 (· =p)):=by
 subst hi;obtain ⟨D,g,a⟩:=jK L;refine aa.wide (aa.step (V5 _ _) ?_);unfold w34;have w:=Wd.start h;rw [aaw] at w;refine aa.alloc w fun m _ w=> ?_;refine aa.alloc w fun n _ w=> ?_;refine aa.store [] w fun o _ w=> ?_;refine aa.next w fun r j w=> ?_;have hf:=Sr hL;refine aa.bind (Cp rfl (fuel L) L D _ [] [] .ax j hf g (by omega) w.ax bI.nil (by rw [bm];omega) (by simp;omega)) ?_;rintro q ⟨s,f,k,rfl,rfl,c,hl,l⟩;refine aa.step (ae _) ?_;rw [aaq] at c hl l;refine c.grow (jL c.pz) rfl rfl (by omega) fun t c=> ?_;rw [a];have d:iD (node 4 (k++[aV f]))<=1000000000000000:=by
  have:=dH f;simp only [cM,dr,bJ];omega
 refine (c.nd.fin d).mono fun b e=>⟨e.1,e.2.1,e.2.2.2⟩
end
end Go.Proofs.YtkbkbndajpbcjaaGreatDoor.Vm
namespace Go.Proofs.YtkbkbndajpbcjaaGreatDoor.Vm
open Go Go.VM Go.Proofs Go.Lex
theorem A9 (s:LB): ∃x,(aQ vE).bare 11 [.str s]=some (.tup [x,.int .i64 (wR s)])/\aO 2 x (if wR s=0 then (tokens s).map tok else []):=by
 by_cases h1:65536 < s.length
 .have e:wR s=40:=by unfold wR;rw [if_pos h1]
  exact ⟨.ax,by rw [e];exact EH h1,by rw [e];exact aO.ax⟩
 .cases a:cb s with
  | false=>
   have e:wR s=4:=by unfold wR;rw [if_neg h1,a];rfl
   exact ⟨.ax,by rw [e];exact FO (by omega) a,by rw [e];exact aO.ax⟩
  | true=>
   obtain ⟨x,hx,h⟩:=M5 (by omega) a;have e:wR s=0:=UF (by omega) a;exact ⟨x,by rw [e];exact hx,by rw [e];exact h⟩
end Go.Proofs.YtkbkbndajpbcjaaGreatDoor.Vm
namespace Go.Proofs.YtkbkbndajpbcjaaGreatDoor.Vm
open Go Go.VM Go.Proofs Go.Lex Go.Parse
theorem Ls {t:T} {k tk:Nat} {tx:LB} {y:AV} (h:Nd t k tk tx y): ∃y',ky t (.agg [.int .u8 (k:Int),.int .u8 (tk:Int),.str tx,y'])/\ ∀(st:St) (n:Nat),VM.freeze st 0 (n+2) (.agg [.int .u8 (k:Int),.int .u8 (tk:Int),.str tx,y])= .ok (.agg [.int .u8 (k:Int),.int .u8 (tk:Int),.str tx,y']):=by
 obtain ⟨l,es,rfl,e,a⟩:=h.ex;rcases e with hx | ⟨hl,j,rfl⟩
 .refine ⟨y,by simp only [ky];exact ⟨y,es,rfl,hx,a⟩,fun st n=> ?_⟩;refine Nz (d:=1) (fun c b=> ?_) st 0 (n+2) (by omega);simp only [aao,aaF,or_false] at b;rcases b with rfl | rfl | rfl | rfl
  .exact fC _ _
  .exact fC _ _
  .exact uO _
  .exact uc hx
 .exact ⟨.sl 4 es .wide,by simp only [ky];exact ⟨_,es,rfl,aO.wide hl,a⟩,fun st n=>rfl⟩
theorem zz {t:T} {v:AV} (h:ky t v):VM.bare v=true/\VM.strip v=v:=by
 cases t with
 | mk k tk tx l=>
  simp only [ky] at h;obtain ⟨x,es,rfl,hx,_⟩:=h;refine ⟨?_,rfl⟩;rw [mf];simp only [aJ,hx.bare];rfl
theorem DD (s:LB):(wR s=0/\(65536 < s.length)=False/\cb s=true)\/(wR s=40/\65536 < s.length)\/(wR s=4/\¬ 65536 < s.length/\cb s=false):=by
 unfold wR;by_cases h:65536 < s.length
 .rw [if_pos h];exact .inr (.inl ⟨rfl,h⟩)
 .rw [if_neg h];cases a:cb s with
  | true=>exact .inl ⟨rfl,by simp [h],rfl⟩
  | false=>exact .inr (.inr ⟨rfl,h,rfl⟩)
def la (s:LB):T:=if wR s=0 then doc (tokens s) else .mk 0 0 [] []
theorem GU {t:T} {k tk:Nat} {tx:LB} {y:AV} (h:Nd t k tk tx y) (n:Int): ∃v,ky t v/\ ∀{β:Type} (st:St) (K:AV->Oq β),eF st 0 (.tup [.agg [.int .u8 (k:Int),.int .u8 (tk:Int),.str tx,y],.int .i64 n]) K=K (.tup [v,.int .i64 n]):=by
 obtain ⟨y',a,hf⟩:=Ls h;refine ⟨_,a,fun st K=>Ka (bF (hf st 97) (bF (by exact fC _ _ st 0 99 (by omega)) nV)) ?_ K⟩;simp only [aJ,(zz a).1];rfl
theorem Qz:Nd (.mk 0 0 [] []) 0 0 [] .ax:=⟨⟨[],[],rfl,.inl aO.ax,bI.nil⟩⟩
theorem PO (s:LB): ∃v,ky (la s) v/\iD (la s)<=1000000000000000/\(aQ vE).bare 12 [.str s]=some (.tup [v,.int .i64 (wR s)]):=by
 obtain ⟨x,e,hx⟩:=A9 s;have c: ∀{β:Type} (st:St) (K:Kv β),bf (aQ vE) 11 [.str s] st K=K (.tup [x,.int .i64 (wR s)]) st q0:=fun st K=>aI st K rfl rfl rfl e;have key:aa (bB vE 12 [.str s]) (fun b=> ∃v,b= .tup [v,.int .i64 (wR s)]/\ky (la s) v/\iD (la s)<=1000000000000000):=by
  refine aa.step (UO _) ?_;unfold g12;generalize a:St.mk 1 0 (Tr.node (some (VM.Obj.cells ND z4)) Tr.leaf Tr.leaf)=st;have n:st.get 0= .ok (.cells ND z4):=by rw [<- a];rfl
  have C:st.h=1:=by rw [<- a]
  have g:st.ro=0:=by rw [<- a]
  refine aa.step (ah _ _) (aa.step (c _ _) ?_);simp only [br,aP,ba,af];by_cases h0:wR s=0
  .rw [h0] at hx ⊢;rw [if_pos rfl] at hx;have i:la s=doc (tokens s):=by unfold la;rw [if_pos h0]
   rw [i];refine aa.step (aq _ _) (aa.step (jH hx.one _) (aa.step (jH hx.one _) ?_));rw [bP];have hl:=(zV h0).1;have p:=tM s;generalize d:st.add (VM.Obj.cells PP [x,.int .i64 0,.int .i64 0])=st1;have k1:aZ st st1 (fun _=>False):=by rw [<- d];exact aZ.add _ _ _
   have q:st1.get st.h= .ok (.cells PP [x,.int .i64 ((0:Nat):Int),.int .i64 ((0:Nat):Int)]):=by rw [<- d];exact St.dZ
   have hp:PS st1 st.h (tokens s) x 0 0:=⟨q,hx,aaO _,by omega,by rw [k1.ro,g];omega⟩;refine aa.gu (Gy hp rfl (by omega)) rfl rfl fun v r j=> ?_;obtain ⟨j,t,o⟩:=j;have u:r.get 0= .ok (.cells ND z4):=o.Dw (by omega) (k1.old _ _ (fun f=>f) n);obtain ⟨k,tk,tx,y,rfl,hnd⟩:=j.cells;refine aa.step (qx ..) (aa.two hnd ?_);obtain ⟨z,g3,_,_,A,l⟩:=YE u rfl (k:Int) (tk:Int) tx y (by rw [o.ro,k1.ro,g];omega);refine aa.step (l _) (aa.step (bq g3 _ _ _ _) (aa.step (ai _ _) (aa.step (qx ..) ?_)));obtain ⟨w,m,hf⟩:=GU hnd 0;exact aa.step (hf _ _) (aa.some ⟨w,rfl,m,t⟩)
  .have i:la s= .mk 0 0 [] []:=by unfold la;rw [if_neg h0]
   rw [i];refine aa.step (fH (c:=true) (by simpa using h0) _ _) (aa.step (ay _ _) ?_);obtain ⟨z,g3,_,_,A,l⟩:=YE n rfl 0 0 [] .ax (by rw [g];omega);refine aa.step (l _) (aa.step (bq g3 _ _ _ _) (aa.step (ai _ _) (aa.step (qx ..) ?_)));obtain ⟨w,m,hf⟩:=GU Qz (wR s);exact aa.step (hf _ _) (aa.some ⟨w,rfl,m,by simp [iD,gm]⟩)
 obtain ⟨b,e,v,rfl,h1,B⟩:=key;exact ⟨v,h1,B,aU rfl e⟩
section
variable {β:Type} {Q:β->Prop} {st:St} {t:T}
theorem Cc (s:LB): ∃v,ky (la s) v/\iD (la s)<=1000000000000000/\ ∀{β:Type} (st:St) (K:Kv β),bf (aQ vE) 12 [.str s] st K=K (.tup [v,.int .i64 (wR s)]) st q0:=by
 obtain ⟨v,h,a,e⟩:=PO s;exact ⟨v,h,a,fun st K=>aI st K rfl rfl rfl e⟩
theorem iK {t:T} {v:AV} (h:ky t v): ∃(k tk:Nat) (tx:LB) (l:List T) (x:AV) (es:LA),t= .mk k tk tx l/\v= .agg [.int .u8 (k:Int),.int .u8 (tk:Int),.str tx,x]/\aO 4 x es/\bI l es:=by
 cases t with
 | mk k tk tx l=>
  simp only [ky] at h;obtain ⟨x,es,rfl,hx,hs⟩:=h;exact ⟨k,tk,tx,l,x,es,rfl,rfl,hx,hs⟩
theorem bI.at: ∀{l:List T} {es:LA} {k:Nat} {t:T},bI l es->l[k]? =some t-> ∃e,es[k]? =some e/\ky t e
 | [],_,_,_,_,b=>by simp at b
 | t::l,_,0,_,h,b=>by
  simp only [bI] at h;obtain ⟨a,r,rfl,h1,c⟩:=h;obtain rfl:t= _:=by simpa using b
  exact ⟨a,rfl,h1⟩
 | t::l,_,k+1,t',h,b=>by
  simp only [bI] at h;obtain ⟨a,r,rfl,h1,c⟩:=h;obtain ⟨e,he,hi⟩:=bI.at (k:=k) (t:=t') c (by simpa using b);exact ⟨e,by simpa using he,hi⟩
theorem xW {l:List T} {x:AV} {es:LA} {k:Nat} (hx:aO 4 x es) (hs:bI l es) (d:l[k]? =some t): ∃(a b:Nat) (s:LB) (y:AV),ky t (.agg [.int .u8 (a:Int),.int .u8 (b:Int),.str s,y])/\ ∀{β:Type} (st:St) (K:Int->Int->LB->AV->Oq β),(bL 4 x (k:Int) st fun u _=>ao 4 true u st fun u _=>Fv u K)=K (a:Int) (b:Int) s y:=by
 obtain ⟨e,he,c⟩:=hs.at d;obtain ⟨a,b,s,g,y,es',rfl,rfl,hy,f⟩:=iK c;refine ⟨a,b,s,y,c,fun st K=> ?_⟩;rw [hx.idx he,lu,bj,EF,ai,qx]
theorem T.ind {Pr:T->Prop} (h: ∀k tk tx l,(∀t∈l,Pr t)->Pr (.mk k tk tx l)): ∀t,Pr t:=by
 intro t;have key: ∀n (t:T),SizeOf.sizeOf t < n->Pr t:=by
  intro n
  induction n with
  | zero=>intro t a;omega
  | succ n ih=>
   intro t a;cases t with
   | mk k tk tx l=>
    refine h k tk tx l fun u b=>ih u ?_;have:=List.sizeOf_lt_of_mem b;simp only [T.mk.sizeOf_spec] at a;omega
 exact key _ t (aa3 _)
end
section
variable {β:Type} {Q:β->Prop}
abbrev S0:St:=St.mk 0 0 Tr.leaf
theorem sF {F:FuncId} {t:T} {v r:AV} (a:ky t v) (hf:vE.full F=false) (h:(aQ vE).bare F [v]=some r) {β:Type} (st:St) (K:Kv β):bf (aQ vE) F [v] st K=K r st q0:=
 aI st K hf (by simp only [aan,aaH,(zz a).2]) (by simp only [aJ,(zz a).1];rfl) h
theorem lW (a b:Nat):((a:Int) != (b:Int))=(a != b):=by rw [bne,cY, <- bne]
theorem HJ: ∀(l:List T),Parse.du l=l.all Parse.dS
 | []=>rfl
 | t::l=>by simp only [Parse.du,abI,HJ l]
theorem jz {l:List T} {x:AV} {es:LA} (hx:aO 4 x es) (hs:bI l es) {γ:Type} (K:Nat->Oq γ):dm x K=K l.length:=by rw [hx.len,hs.len]
theorem JE {l:List T} {x:AV} {es:LA} (hx:aO 4 x es) (hs:bI l es):l.length<=9223372036854775807:=by rw [<- hs.len];exact hx.1
theorem C3 {l:List T} {x:AV} {es:LA} (hx:aO 4 x es) (hs:bI l es) (u: ∀t∈l,∀v,ky t v->(aQ vE).bare 13 [v]=some (.bool (Parse.dS t))) (st:St): ∀(m:List T) (j:Nat),l.drop j=m->
  ∃(k:Nat) (i:Int),bl (oa x (.fn (.func 36) [] []) l.length) ([.int .i64 0,.int .i64 (j:Int)],st)=some (k,[.int .i64 i],st)/\((k=0/\m.all Parse.dS=true)\/(k=1/\0<=i/\m.all Parse.dS=false))
 | [],j,o=>by
  have:=abi.1 o;have q:¬ (j:Int) < (l.length:Int):=by omega
  refine ⟨0,0,bE ?_,.inl ⟨rfl,rfl⟩⟩;simp only [oa,ab,af,ae,ak,if_neg q]
 | t::m,j,o=>by
  obtain ⟨d,w,z⟩:=drop_cons o;have q:(j:Int) < (l.length:Int):=by omega
  have hlen:=JE hx hs;obtain ⟨a,b,s,y,g,e⟩:=xW hx hs d;obtain ⟨a',b',s',E,y',es',f,p,hy,A⟩:=iK g;have c:=u t (aaK d) _ g;have B:(aQ vE).bare 36 [.agg [.int .u8 (a:Int),.int .u8 (b:Int),.str s,y]]=some (.bool (!Parse.dS t)):=by
   refine aU rfl ((VE _).trans ?_);have r:y=y':=by injection p with p;simpa using (List.cons.inj (List.cons.inj (List.cons.inj (List.cons.inj p).2).2).2).1
   subst r;simp only [g36,al,ab,af,ah,ae,hy.ad,hy.aD,sF g rfl c,au]
  have C: ∀{γ:Type} (st:St) (K:Kv γ),iZ (aQ vE) (Sx.prim (sx vE 68)) (.fn (.func 36) [] []) [.agg [.int .u8 (a:Int),.int .u8 (b:Int),.str s,y]] st K=K (.bool (!Parse.dS t)) st q0:=fun st K=>(show _=bf (aQ vE) 36 [_] st K from rfl).trans (sF g rfl B st K);have n:oa x (.fn (.func 36) [] []) l.length ([.int .i64 0,.int .i64 (j:Int)],st)=bu (!Parse.dS t) (some (.inr (1,[.int .i64 (j:Int)],st))) (some (.inl ([.int .i64 0,.int .i64 ((j+1:Nat):Int)],st))):=by
   simp only [oa,ab,af,ae,ak,if_pos q];refine (e st _).trans ?_;simp only [C,au,aF,ck (show j+1<=9223372036854775807 by omega)]
  cases f:Parse.dS t with
  | false=>
   rw [f] at n;exact ⟨1,j,bE n,.inr ⟨rfl,by omega,by simp [f]⟩⟩
  | true=>
   rw [f] at n;obtain ⟨k,i,D,h⟩:=C3 hx hs u st m (j+1) w;refine ⟨k,i,by rw [bA n,D], ?_⟩;simpa [f] using h
theorem KH: ∀(t:T) (v:AV),ky t v->(aQ vE).bare 13 [v]=some (.bool (Parse.dS t)):=by
 refine T.ind fun k tk tx l ih v a=> ?_;simp only [ky] at a;obtain ⟨x,es,rfl,hx,hs⟩:=a;have g:(aQ vE).bare 35 [x,.fn (.func 36) [] []]=some (.bool (!l.all Parse.dS)):=by
  have hi: ∃i:Int,(aQ vE).bare 68 [x,.fn (.func 36) [] []]=some (.int .i64 i)/\decide (i>=0)= !l.all Parse.dS:=by
   obtain ⟨k,i,e,h⟩:=C3 hx hs ih S0 l 0 rfl;have e:bl (oa x (.fn (.func 36) [] []) l.length) ([.int .i64 0,.int .i64 0],S0)= _:=e;rcases h with ⟨rfl,h⟩ | ⟨rfl,h0,h⟩
   .refine ⟨-1,aU rfl ((E5 _ _).trans ?_),by rw [h];rfl⟩;simp only [XD,jz hx hs,e,ai,ab,af,ae,gU]
   .refine ⟨i,aU rfl ((E5 _ _).trans ?_),by rw [h];simpa using h0⟩;simp only [XD,jz hx hs,e,ai,ab,af,ae,pE]
  obtain ⟨i,h1,b⟩:=hi;refine aU rfl ((Od _ _).trans ?_);have c:=fun {β:Type} (st:St) (K:Kv β)=>aI (f:=68) st K rfl (by simp only [aan,aaH,hx.strip];rfl) (by simp only [aJ,hx.bare];rfl) h1;simp only [Zb,c,af,b]
 have d:=fun {β:Type} (st:St) (K:Kv β)=>aI (f:=35) st K rfl (by simp only [aan,aaH,hx.strip];rfl) (by simp only [aJ,hx.bare];rfl) g;refine aU rfl ((T4 _).trans ?_);have j:((k:Int) != 2)=(k != 2):=lW k 2;have m:((k:Int) != 3)=(k != 3):=lW k 3;have n:((k:Int) != 1)=(k != 1):=lW k 1;have o:((tk:Int) != 9)=(tk != 9):=lW tk 9;simp only [g13,al,ab,af,ah,ae,hx.ad,hx.aD,n,j,m,o,Parse.dS,HJ];cases b:k != 2 <;> simp only [ay,aq,ai,ab,au,ae,abF,abJ]
 cases p:k != 3 <;> simp only [ay,aq,ai,ab,au,ae,abF,abJ]
 cases h1:k != 1 <;> simp only [ay,aq,ai,ab,au,ae,abo,abY,abJ,d,Bool.not_not]
 cases q:tk != 9 <;> simp only [ay,aq,ai,ab,au,ae,abF,abJ,d,Bool.not_not]
end
end Go.Proofs.YtkbkbndajpbcjaaGreatDoor.Vm
namespace Go.Proofs.YtkbkbndajpbcjaaGreatDoor.Vm
open Go Go.VM Go.Proofs Go.Scope
mutual
def Ct:jQ->AV->Prop
 | .mk k lit sp nm ps,v=> ∃x es,v= .agg [.int .u8 (k:Int),.int .u8 (lit:Int),.int .i64 sp.1,.int .i64 sp.2,.str nm,x]/\aO 6 x es/\di ps es
def di:List jQ->LA->Prop
 | [],es=>es=[]
 | p::ps,es=> ∃v vs,es=v::vs/\Ct p v/\di ps vs
end
mutual
def yE:lg->AV->Prop
 | .mk k sp rc nm ps ls,v=> ∃x es y fs,v= .agg [.int .u8 (k:Int),.int .i64 sp.1,.int .i64 sp.2,.bool rc,.str nm,x,y]/\aO 6 x es/\di ps es/\aO 7 y fs/\fA ls fs/\ps.length<=100000000
def fA:List lg->LA->Prop
 | [],es=>es=[]
 | e::l,es=> ∃v vs,es=v::vs/\yE e v/\fA l vs
end
def Ug (d:Bd) (v:AV):Prop:= ∃x es be,v= .agg ([.int .i64 d.sp.1,.int .i64 d.sp.2,.bool d.rc,x]++be)/\aO 6 x es/\di d.ps es/\yE d.body (.agg be)
def jr:List Bd->LA->Prop
 | [],es=>es=[]
 | d::l,es=> ∃v vs,es=v::vs/\Ug d v/\jr l vs
section
variable {p:jQ} {ps:List jQ} {e:lg} {l:List lg} {es:LA} {v:AV}
theorem di.nil:di [] []:=by simp only [di]
theorem di.cons {vs:LA} (h:Ct p v) (k:di ps vs):di (p::ps) (v::vs):=by simp only [di];exact ⟨v,vs,rfl,h,k⟩
theorem fA.nil:fA [] []:=by simp only [fA]
theorem fA.cons {vs:LA} (h:yE e v) (k:fA l vs):fA (e::l) (v::vs):=by simp only [fA];exact ⟨v,vs,rfl,h,k⟩
theorem di.len: ∀{ps:List jQ} {es:LA},di ps es->es.length=ps.length
 | [],_,h=>by simp only [di] at h;rw [h];rfl
 | p::ps,_,h=>by
  simp only [di] at h;obtain ⟨v,vs,rfl,_,h⟩:=h;simp [di.len h]
theorem fA.len: ∀{l:List lg} {es:LA},fA l es->es.length=l.length
 | [],_,h=>by simp only [fA] at h;rw [h];rfl
 | e::l,_,h=>by
  simp only [fA] at h;obtain ⟨v,vs,rfl,_,h⟩:=h;simp [fA.len h]
theorem jr.len: ∀{l:List Bd} {es:LA},jr l es->es.length=l.length
 | [],_,h=>by simp only [jr] at h;rw [h];rfl
 | e::l,_,h=>by
  simp only [jr] at h;obtain ⟨v,vs,rfl,_,h⟩:=h;simp [jr.len h]
theorem di.drop: ∀{ps:List jQ} {es:LA} (i:Nat),di ps es->di (ps.drop i) (es.drop i)
 | ps,es,0,h=>by simpa using h
 | [],_,i+1,h=>by simp only [di] at h;subst h;simp [di]
 | p::ps,_,i+1,h=>by
  simp only [di] at h;obtain ⟨v,vs,rfl,_,h⟩:=h;simpa using di.drop i h
theorem fA.drop: ∀{l:List lg} {es:LA} (i:Nat),fA l es->fA (l.drop i) (es.drop i)
 | l,es,0,h=>by simpa using h
 | [],_,i+1,h=>by simp only [fA] at h;subst h;simp [fA]
 | e::l,_,i+1,h=>by
  simp only [fA] at h;obtain ⟨v,vs,rfl,_,h⟩:=h;simpa using fA.drop i h
theorem jr.drop: ∀{l:List Bd} {es:LA} (i:Nat),jr l es->jr (l.drop i) (es.drop i)
 | l,es,0,h=>by simpa using h
 | [],_,i+1,h=>by simp only [jr] at h;subst h;simp [jr]
 | e::l,_,i+1,h=>by
  simp only [jr] at h;obtain ⟨v,vs,rfl,_,h⟩:=h;simpa using jr.drop i h
theorem di.get {r:List jQ} {i:Nat} (h:di ps es) (a:ps.drop i=p::r): ∃v,es[i]? =some v/\Ct p v/\i < ps.length:=by
 have h1:=di.drop i h;rw [a] at h1;simp only [di] at h1;obtain ⟨v,vs,he,hp,_⟩:=h1;exact ⟨v,(drop_cons he).1,hp,(drop_cons a).2.2⟩
theorem fA.get {r:List lg} {i:Nat} (h:fA l es) (a:l.drop i=e::r): ∃v,es[i]? =some v/\yE e v/\i < l.length:=by
 have h1:=fA.drop i h;rw [a] at h1;simp only [fA] at h1;obtain ⟨v,vs,he,hp,_⟩:=h1;exact ⟨v,(drop_cons he).1,hp,(drop_cons a).2.2⟩
theorem jr.get {l r:List Bd} {d:Bd} {i:Nat} (h:jr l es) (a:l.drop i=d::r): ∃v,es[i]? =some v/\Ug d v/\i < l.length:=by
 have h1:=jr.drop i h;rw [a] at h1;simp only [jr] at h1;obtain ⟨v,vs,he,hp,_⟩:=h1;exact ⟨v,(drop_cons he).1,hp,(drop_cons a).2.2⟩
theorem Ct.Y9 {k lit:Nat} {sp:Sp} {nm:Tx} (h:Ct (.mk k lit sp nm ps) v): ∃x es,v= .agg [.int .u8 (k:Int),.int .u8 (lit:Int),.int .i64 sp.1,.int .i64 sp.2,.str nm,x]/\aO 6 x es/\di ps es:=by
 simpa only [Ct] using h
theorem yE.Y9 {k:Nat} {sp:Sp} {rc:Bool} {nm:Tx} {ls:List lg} (h:yE (.mk k sp rc nm ps ls) v): ∃x es y fs,v= .agg [.int .u8 (k:Int),.int .i64 sp.1,.int .i64 sp.2,.bool rc,.str nm,x,y]/\aO 6 x es/\di ps es/\aO 7 y fs/\fA ls fs:=by
 simp only [yE] at h;obtain ⟨x,es,y,fs,h0,h1,a,b,c,_⟩:=h;exact ⟨x,es,y,fs,h0,h1,a,b,c⟩
theorem yE.few {k:Nat} {sp:Sp} {rc:Bool} {nm:Tx} {ls:List lg} (h:yE (.mk k sp rc nm ps ls) v):ps.length<=100000000:=by
 simp only [yE] at h;obtain ⟨x,es,y,fs,_,_,_,_,_,a⟩:=h;exact a
end
def Lp {σ β:Type} (I:σ->Prop) (Q:β->Prop):Sum σ β->Prop
 | .inl s=>I s
 | .inr b=>Q b
theorem aa.inl {σ β:Type} {I:σ->Prop} {Q:β->Prop} {s:σ} (h:I s):aa (some (Sum.inl s:Sum σ β)) (Lp I Q):=⟨_,rfl,h⟩
theorem aa.inr {σ β:Type} {I:σ->Prop} {Q:β->Prop} {b:β} (h:Q b):aa (some (Sum.inr b:Sum σ β)) (Lp I Q):=⟨_,rfl,h⟩
theorem aa.upto {σ β:Type} {Q:β->Prop} {F:σ->Oq (Sum σ β)} {n:Nat} {I:Nat->σ->Prop} (step: ∀i s,i < n->I i s->aa (F s) (Lp (I (i+1)) Q))
  (last: ∀s,I n s->aa (F s) (Lp (fun _=>False) Q)): ∀(k i:Nat) (s:σ),i+k=n->I i s->aa (bl F s) Q:=by
 intro k
 induction k with
 | zero=>
  intro i s hi h;obtain ⟨r,e,a⟩:=last s (by rw [<- show i=n by omega];exact h);cases r with
  | inl s'=>exact a.elim
  | inr b=>exact ⟨b,bE e,a⟩
 | succ k ih=>
  intro i s hi h;obtain ⟨r,e,a⟩:=step i s (by omega) h;cases r with
  | inl s'=>rw [bA e];exact ih (i+1) s' (by omega) a
  | inr b=>exact ⟨b,bE e,a⟩
@[simp] theorem dP (i o:Nat):notNil (.mp i o)=true:=id rfl
def ZY (z:Nat) (x:AV) (es:LA):Prop:=aO z x es\/(es.length<=9223372036854775807/\ ∃k,x= .sl z es (.own k))
section
variable {β:Type} {z:Nat} {x:AV} {es:LA}
theorem ZY.len (h:ZY z x es) (K:Nat->Oq β):dm x K=K es.length:=by
 rcases h with h | ⟨_,k,rfl⟩
 .exact h.len K
 .rfl
end
section
variable {p q:Nat->Prop} {a b c:St}
end
structure Tu (st:St) (x:Fx):Prop where
 l0:apart ⟨[],.kept⟩ x=true
 r0:apart x ⟨[],.kept⟩=true
 l: ∀i t cs,st.get i= .ok (.cells t cs)->apart ⟨[i],.kept⟩ x=true
 r: ∀i t cs,st.get i= .ok (.cells t cs)->apart x ⟨[i],.kept⟩=true
end Go.Proofs.YtkbkbndajpbcjaaGreatDoor.Vm
namespace Go.Proofs.YtkbkbndajpbcjaaGreatDoor.Vm
open Go Go.VM Go.Proofs
noncomputable def KY (z:AV) (x:Nat):cJ->Oq (cJ ⊕ Nat×cJ):=fun a=>bo a.1 fun d A=>bo A fun B C=>bK .i64 B fun e=>bQ C (bu (decide (e < (↑x:Int))) (bL 5 z e a.2 fun D _=>ao 5 true D a.2 fun E _=>cK E fun k l m f n=>(bM (St.add a.2 (.cells 52 [.int .u8 0,.int .u8 0,.str [],.ax,.int .i64 0])) fun F=>ad f (aK (aQ vE) 5 (.mp (St.h a.2) 0) (.agg [.int .u8 k,.int .u8 l,.str m,f,.int .i64 n]) [.int .u8 k,.int .u8 l,.str m,f,.int .i64 n] F fun _ b _=>ao 1 false (.mp (St.h a.2) 0) b fun G _=>bK .u8 G fun H=>aC (bu (H==5) (ao 5 true (.mp (St.h a.2) 0) b fun I _=>cK I fun J K L M N=>(bk 14 [.agg [.int .u8 J,.int .u8 K,.str L,M,.int .i64 N]] b fun O P _=>bk 15 [O] P fun Q c _=>jl Q fun R S T o U V W X Y p q=>(bM (St.add c (.cells 61 [.int .i64 0,.int .i64 0,.bool false,.ax,.int .u8 0,.int .i64 0,.int .i64 0,.bool false,.str [],.ax,.ax])) fun Z=>ad o (ad p (ad q (gi 11 (.mp c.h 0) [.int .i64 R,.int .i64 S,.bool T,o,.int .u8 U,.int .i64 V,.int .i64 W,.bool X,.str Y,p,q] Z fun _ r _=>ao 5 true (.mp (St.h a.2) 0) r fun c7 _=>cK c7 fun c8 c9 d0 d1 d2=>(bk 16 [.agg [.int .u8 c8,.int .u8 c9,.str d0,d1,.int .i64 d2]] r fun s d3 _=>ig s fun d4=>cB d4 0 fun d5=>AF d5 fun d6 d7=>(ig s fun d8=>cB d8 1 fun d9=>ct d9 fun _=>gi 2 (.mp c.h 0) [.int .i64 d6,.int .i64 d7] d3 fun _ t _=>ao 11 true (.mp c.h 0) t fun e0 _=>jl e0 fun e1 e2 e3 g e4 e5 e6 e7 e8 i j=>(ad g (ad i (ad j (ad g (ad i (ad j (aD g fun u=>aD i fun v=>aD j fun w=>ad u (ad v (ad w (aD u fun e9=>aD v fun f0=>aD w fun f1=>eI 11 144 61 d [.agg [.int .i64 e1,.int .i64 e2,.bool e3,e9,.int .u8 e4,.int .i64 e5,.int .i64 e6,.bool e7,.str e8,f0,f1]] t fun f2 f3 _=>some ([f2],f3))))))))))))))))))) (some ([d],b))) fun y=>bo y.1 fun f4 f5=>bQ f5 (bx (IntKind.wrap .i64 (e+1)) fun f6=>some (Sum.inl ([f4,.int .i64 f6],y.2)))))) (some (Sum.inr (0,[d],a.2))))
noncomputable def g7:AV->Oq AV:=fun j=>fG j fun k=>bk 12 [.str k] sZ fun b a _=>ig b fun l=>cB l 0 fun m=>az m fun n o p c=>(ig b fun q=>cB q 1 fun r=>bK .i64 r fun d=>bM (St.add a (.cells 46 (nC 0 0 [] .ax))) fun s=>ad c (gi 4 (.mp a.h 0) (nC n o p c) s fun _ e _=>bu (d != 0) (some (.tup [.ax,.int .i64 d])) (ao 4 true (.mp a.h 0) e fun t _=>az t fun u v w y=>(bk 13 [nA u v w y] e fun z f _=>ct z fun x=>bu (!x) (some (.tup [.ax,.int .i64 50])) (ao 4 true (.mp a.h 0) f fun A _=>az A fun B C D E=>(bk 14 [.agg [.int .u8 B,.int .u8 C,.str D,E,.int .i64 0]] f fun g F _=>dm g fun G=>aC (bl (KY g G) ([.ax,.int .i64 0],F)) fun i=>bo i.2.1 fun H I=>bQ I (eF i.2.2 0 (.tup [H,.int .i64 0]) fun J=>some J)))))))
theorem X6 (a:AV):bB vE 7 [a]=g7 a:=by kernel_rfl
noncomputable def Pj (c:AV) (d:AV) (g:Bool):cJ->Oq (cJ ⊕ Nat×cJ):=fun a=>bo a.1 fun j k=>ct j fun i=>bo k fun l m=>bK .i64 l fun b=>bQ m (dm c fun n=>bu (decide (b < (↑n:Int))) (aC (bL 11 c b a.2 fun o _=>ch 2 o fun p=>ao 1 false p a.2 fun q _=>ct q fun r=>bL 11 d b a.2 fun s _=>ch 2 s fun t=>ao 1 false t a.2 fun u _=>ct u fun v=>bu (!r==v) (some ([.bool true],a.2)) (bu g (bL 11 c b a.2 fun w _=>ch 0 w fun y=>ao 2 true y a.2 fun z _=>AF z fun x A=>(bL 11 d b a.2 fun B _=>ch 0 B fun C=>ao 2 true C a.2 fun D _=>AF D fun E F=>(aC (MD (VM.binOp (Env.T vE) BinOp.neq 55 (.agg [.int .i64 x,.int .i64 A]) (.agg [.int .i64 E,.int .i64 F]))) fun G=>ct G fun H=>bu H (some ([.bool true],a.2)) (bL 11 c b a.2 fun I _=>ch 3 I fun J=>ao 1 false J a.2 fun K _=>bL 11 d b a.2 fun L _=>ch 3 L fun M=>ao 1 false M a.2 fun N _=>bk 17 [K,N,.bool g] a.2 fun O e _=>ct O fun P=>bu (!P) (some ([.bool true],e)) (bL 11 c b e fun Q _=>ch 4 Q fun R=>ao 7 true R e fun S _=>cW S fun U V W X Y Z c6=>(bL 11 d b e fun c7 _=>ch 4 c7 fun c8=>ao 7 true c8 e fun c9 _=>cW c9 fun d0 d1 d2 d3 d4 d5 d6=>(bk 18 [.agg [.int .u8 U,.int .i64 V,.int .i64 W,.bool X,.str Y,Z,c6],.agg [.int .u8 d0,.int .i64 d1,.int .i64 d2,.bool d3,.str d4,d5,d6],.bool g] e fun d7 d8 _=>ct d7 fun d9=>some ([.bool !d9],d8)))))))) (bL 11 c b a.2 fun e0 _=>ch 3 e0 fun e1=>ao 1 false e1 a.2 fun e2 _=>bL 11 d b a.2 fun e3 _=>ch 3 e3 fun e4=>ao 1 false e4 a.2 fun e5 _=>bk 17 [e2,e5,.bool g] a.2 fun e6 f _=>ct e6 fun e7=>bu (!e7) (some ([.bool true],f)) (bL 11 c b f fun e8 _=>ch 4 e8 fun e9=>ao 7 true e9 f fun f0 _=>cW f0 fun f1 f2 f3 f4 f5 f6 f7=>(bL 11 d b f fun f8 _=>ch 4 f8 fun f9=>ao 7 true f9 f fun h0 _=>cW h0 fun h1 h2 h3 h4 h5 h6 h7=>(bk 18 [.agg [.int .u8 f1,.int .i64 f2,.int .i64 f3,.bool f4,.str f5,f6,f7],.agg [.int .u8 h1,.int .i64 h2,.int .i64 h3,.bool h4,.str h5,h6,h7],.bool g] f fun h8 h9 _=>ct h8 fun i0=>some ([.bool !i0],h9))))))) fun h=>bo h.1 fun i1 i2=>ct i1 fun i3=>bQ i2 (bu i3 (some (Sum.inr (1,[.bool false],h.2))) (bx (IntKind.wrap .i64 (b+1)) fun i4=>some (Sum.inl ([.bool i,.int .i64 i4],h.2))))) (some (Sum.inr (0,[.bool i],a.2))))
noncomputable def g8:AV->AV->AV->Oq AV:=fun a b d=>ct d fun e=>dm a fun f=>dm b fun g=>bu ((↑f:Int) != (↑g:Int)) (some (.bool false)) (aC (bl (Pj a b e) ([.bool false,.int .i64 0],sZ)) fun c=>bo c.2.1 fun h i=>ct h fun j=>bQ i (rM c.1 (some (.bool true)) fun _=>some (.bool j)))
theorem Xt (a b c:AV):bB vE 8 [a,b,c]=g8 a b c:=by kernel_rfl
noncomputable def H0 (n:AV) (o:Nat):cJ->Oq (cJ ⊕ Nat×cJ):=fun a=>bo a.1 fun e p=>bo p fun q r=>bK .i64 q fun f=>bo r fun s t=>bK .i64 s fun b=>bQ t (bu (decide (b < (↑o:Int))) (bL 4 n b a.2 fun u _=>ao 4 true u a.2 fun v _=>az v fun g i j c=>(bM (St.add a.2 (.cells 46 (nC 0 0 [] .ax))) fun w=>ad c (aK (aQ vE) 4 (.mp (St.h a.2) 0) (nA g i j c) (nC g i j c) w fun _ k _=>ao 4 true (.mp (St.h a.2) 0) k fun y _=>az y fun z x A d=>(ad d (ad d (aD d fun l=>ad l (aD l fun B=>eI 5 64 52 e [.agg [.int .u8 z,.int .u8 x,.str A,B,.int .i64 f]] k fun C m _=>ao 4 true (.mp (St.h a.2) 0) m fun D _=>az D fun E F G H=>(bk 37 [nA E F G H] m fun I J _=>bK .i64 I fun K=>bx (IntKind.wrap .i64 (f+K)) fun L=>bx (IntKind.wrap .i64 (b+1)) fun M=>some (Sum.inl ([C,.int .i64 L,.int .i64 M],J)))))))))) (some (Sum.inr (0,[e],a.2))))
noncomputable def g14:AV->Oq AV:=fun d=>cK d fun _ _ _ a e=>(ad a (aD a fun b=>dm b fun f=>aC (bl (H0 b f) ([.ax,.int .i64 e,.int .i64 0],sZ)) fun c=>bo c.2.1 fun g h=>bQ h (eF c.2.2 0 (oneOf [g]) fun i=>some i)))
theorem Vf (a:AV):bB vE 14 [a]=g14 a:=by kernel_rfl
noncomputable def g15:AV->Oq AV:=fun r=>dL 5 r (some 1) none none fun c=>aC (bL 5 c 0 (St.mk 2 0 (.node (some (.cells 61 [.int .i64 0,.int .i64 0,.bool false,.ax,.int .u8 0,.int .i64 0,.int .i64 0,.bool false,.str [],.ax,.ax])) (.node (some (.cells 61 [.int .i64 0,.int .i64 0,.bool false,.ax,.int .u8 0,.int .i64 0,.int .i64 0,.bool false,.str [],.ax,.ax])) .leaf .leaf) .leaf)) fun s _=>ch 0 s fun t=>ch 1 t fun u=>ch 0 u fun v=>ao 1 false v (St.mk 2 0 (.node (some (.cells 61 [.int .i64 0,.int .i64 0,.bool false,.ax,.int .u8 0,.int .i64 0,.int .i64 0,.bool false,.str [],.ax,.ax])) (.node (some (.cells 61 [.int .i64 0,.int .i64 0,.bool false,.ax,.int .u8 0,.int .i64 0,.int .i64 0,.bool false,.str [],.ax,.ax])) .leaf .leaf) .leaf)) fun w _=>bK .u8 w fun y=>bu (y==3) (bL 5 c 0 (St.mk 2 0 (.node (some (.cells 61 [.int .i64 0,.int .i64 0,.bool false,.ax,.int .u8 0,.int .i64 0,.int .i64 0,.bool false,.str [],.ax,.ax])) (.node (some (.cells 61 [.int .i64 0,.int .i64 0,.bool false,.ax,.int .u8 0,.int .i64 0,.int .i64 0,.bool false,.str [],.ax,.ax])) .leaf .leaf) .leaf)) fun z _=>ch 0 z fun x=>ch 1 x fun A=>ch 1 A fun B=>ao 1 false B (St.mk 2 0 (.node (some (.cells 61 [.int .i64 0,.int .i64 0,.bool false,.ax,.int .u8 0,.int .i64 0,.int .i64 0,.bool false,.str [],.ax,.ax])) (.node (some (.cells 61 [.int .i64 0,.int .i64 0,.bool false,.ax,.int .u8 0,.int .i64 0,.int .i64 0,.bool false,.str [],.ax,.ax])) .leaf .leaf) .leaf)) fun C _=>fG C fun D=>some ([.bool (D==[114,101,99])],St.mk 2 0 (.node (some (.cells 61 [.int .i64 0,.int .i64 0,.bool false,.ax,.int .u8 0,.int .i64 0,.int .i64 0,.bool false,.str [],.ax,.ax])) (.node (some (.cells 61 [.int .i64 0,.int .i64 0,.bool false,.ax,.int .u8 0,.int .i64 0,.int .i64 0,.bool false,.str [],.ax,.ax])) .leaf .leaf) .leaf))) (some ([.bool false],St.mk 2 0 (.node (some (.cells 61 [.int .i64 0,.int .i64 0,.bool false,.ax,.int .u8 0,.int .i64 0,.int .i64 0,.bool false,.str [],.ax,.ax])) (.node (some (.cells 61 [.int .i64 0,.int .i64 0,.bool false,.ax,.int .u8 0,.int .i64 0,.int .i64 0,.bool false,.str [],.ax,.ax])) .leaf .leaf) .leaf)))) fun d=>bo d.1 fun E F=>ct E fun G=>bQ F (aC (bu G (aK (aQ vE) 1 (.mp 1 2) (.bool true) [.bool true] d.2 fun _ H _=>dL 5 c (some 1) none none fun I=>some ([I],H)) (some ([c],d.2))) fun i=>bo i.1 fun e J=>bQ J (dm e fun j=>bx (IntKind.wrap .i64 ((↑j:Int) - 2)) fun K=>dL 5 e none (some K) none fun L=>bk 38 [L] i.2 fun f g b=>cf (apart b (⟨[],.kept⟩)&&true) (cf (apart b (⟨[],.kept⟩)&&true) (bx (IntKind.wrap .i64 ((↑j:Int) - 1)) fun M=>cf (apart b (⟨[],.kept⟩)&&true) (bL 5 e M g fun N O=>cf (apart b (Fx.mk O eS.kept)&&true) (ao 5 true N g fun P Q=>cK P fun R S T U V=>(cf (apart b (Fx.mk Q eS.kept)&&true) (bk 39 [.agg [.int .u8 R,.int .u8 S,.str T,U,.int .i64 V]] g fun W X Y=>cW W fun Z c7 c8 c9 d0 k l=>(cf (apart Y (⟨[],.kept⟩)&&true) (ad f (ad f (wQ (.mp 1 3) f X fun _ d1 _=>ad k (ad l (gi 7 (.mp 1 4) [.int .u8 Z,.int .i64 c7,.int .i64 c8,.bool c9,.str d0,k,l] d1 fun _ a _=>aC (ao 1 false (.mp 1 2) a fun d2 _=>ct d2 fun d3=>bu d3 (ao 1 false (.mp 1 3) a fun d4 _=>bL 6 d4 0 a fun d5 _=>ch 0 d5 fun d6=>ao 1 false d6 a fun d7 _=>bK .u8 d7 fun m=>aK (aQ vE) 1 (.mp 1 2) (.bool (m==15)) [.bool (m==15)] a fun _ d8 _=>some ([],d8)) (aK (aQ vE) 1 (.mp 1 2) (.bool false) [.bool false] a fun _ d9 _=>some ([],d9))) fun h=>bQ h.1 (ao 11 true (.mp 1 0) h.2 fun e0 _=>jl e0 fun e1 e2 e3 n e4 e5 e6 e7 e8 o p=>(ad n (ad o (ad p (gi 11 (.mp 0 0) [.int .i64 e1,.int .i64 e2,.bool e3,n,.int .u8 e4,.int .i64 e5,.int .i64 e6,.bool e7,.str e8,o,p] h.2 fun _ q _=>ao 11 true (.mp 0 0) q fun e9 _=>jl e9 fun f0 f1 f2 f3 f4 f5 f6 f7 f8 f9 h0=>(eF q 0 (.agg [.int .i64 f0,.int .i64 f1,.bool f2,f3,.int .u8 f4,.int .i64 f5,.int .i64 f6,.bool f7,.str f8,f9,h0]) fun h1=>some h1))))))))))))))))))))
theorem TV (a:AV):bB vE 15 [a]=g15 a:=by kernel_rfl
noncomputable def g16:AV->Oq AV:=fun c=>cK c fun d e f b g=>(ad b (aD b fun h=>bk 40 [nA d e f h,.mp 4 0,.mp 2 0,.mp 3 0,.mp 1 0] (St.mk 5 0 (.node (some (.cells 55 [.int .i64 0,.int .i64 0])) (.node (some (.cells 55 [.int .i64 0,.int .i64 0])) (.node (some (.cells 3 [.int .i64 g])) .leaf .leaf) .leaf) (.node (some (.cells 4 [.bool false])) (.node (some (.cells 100 [.fn (Fn.func 40) [] [.mp 4 0,.mp 2 0,.mp 3 0,.mp 1 0]])) .leaf .leaf) .leaf))) fun _ a _=>ao 2 true (.mp 1 0) a fun i _=>AF i fun j k=>(ao 1 false (.mp 2 0) a fun l m=>ct l fun n=>gi 2 (.mp 0 0) [.int .i64 j,.int .i64 k] a fun _ o p=>cf (apart (Fx.mk m eS.kept) p&&true) (ao 2 true (.mp 0 0) o fun q _=>AF q fun r s=>(some (.tup [.agg [.int .i64 r,.int .i64 s],.bool n]))))))
theorem VB (a:AV):bB vE 16 [a]=g16 a:=by kernel_rfl
noncomputable def I1 (c:AV) (f:AV) (g:Bool):cJ->Oq (cJ ⊕ Nat×cJ):=fun a=>bo a.1 fun h i=>ct h fun d=>bo i fun j k=>bK .i64 j fun b=>bQ k (dm c fun l=>bu (decide (b < (↑l:Int))) (bL 6 c b a.2 fun m _=>ao 6 true m a.2 fun n _=>gq n fun o p q r s t=>(bL 6 f b a.2 fun u _=>ao 6 true u a.2 fun v _=>gq v fun w y z x A B=>(bk 42 [.agg [.int .u8 o,.int .u8 p,.int .i64 q,.int .i64 r,.str s,t],.agg [.int .u8 w,.int .u8 y,.int .i64 z,.int .i64 x,.str A,B],.bool g] a.2 fun C e _=>ct C fun D=>bu (!D) (some (Sum.inr (1,[.bool false],e))) (bx (IntKind.wrap .i64 (b+1)) fun E=>some (Sum.inl ([.bool d,.int .i64 E],e)))))) (some (Sum.inr (0,[.bool d],a.2))))
noncomputable def g17:AV->AV->AV->Oq AV:=fun a b d=>ct d fun e=>dm a fun f=>dm b fun g=>bu ((↑f:Int) != (↑g:Int)) (some (.bool false)) (aC (bl (I1 a b e) ([.bool false,.int .i64 0],sZ)) fun c=>bo c.2.1 fun h i=>ct h fun j=>bQ i (rM c.1 (some (.bool true)) fun _=>some (.bool j)))
theorem Us (a b c:AV):bB vE 17 [a,b,c]=g17 a b c:=by kernel_rfl
noncomputable def Jt (f:Bool) (c:AV) (g:AV):cJ->Oq (cJ ⊕ Nat×cJ):=fun a=>bo a.1 fun h i=>ct h fun d=>bo i fun j k=>bK .i64 j fun b=>bQ k (dm c fun l=>bu (decide (b < (↑l:Int))) (bL 7 c b a.2 fun m _=>ao 7 true m a.2 fun n _=>cW n fun o p q r s t u=>(bL 7 g b a.2 fun v _=>ao 7 true v a.2 fun w _=>cW w fun y z x A B C D=>(bk 18 [.agg [.int .u8 o,.int .i64 p,.int .i64 q,.bool r,.str s,t,u],.agg [.int .u8 y,.int .i64 z,.int .i64 x,.bool A,.str B,C,D],.bool f] a.2 fun E e _=>ct E fun F=>bu (!F) (some (Sum.inr (1,[.bool false],e))) (bx (IntKind.wrap .i64 (b+1)) fun G=>some (Sum.inl ([.bool d,.int .i64 G],e)))))) (some (Sum.inr (0,[.bool d],a.2))))
noncomputable def g18:AV->AV->AV->Oq AV:=fun l m n=>cW l fun o p q r s b c=>(cW m fun t u v w y d e=>(ct n fun a=>ad b (ad c (aD b fun f=>aD c fun g=>ad d (ad e (aD d fun h=>aD e fun i=>aC (bu (o != t) (some ([.bool true],sZ)) (bu (!r==w) (some ([.bool true],sZ)) (bu (!s==y) (some ([.bool true],sZ)) (dm g fun z=>dm i fun x=>bu ((↑z:Int) != (↑x:Int)) (some ([.bool true],sZ)) (bu a (aC (MD (VM.binOp (Env.T vE) BinOp.neq 55 (.agg [.int .i64 p,.int .i64 q]) (.agg [.int .i64 u,.int .i64 v]))) fun A=>ct A fun B=>bu B (some ([.bool true],sZ)) (bk 17 [f,h,.bool a] sZ fun C D _=>ct C fun E=>some ([.bool !E],D))) (bk 17 [f,h,.bool a] sZ fun F G _=>ct F fun H=>some ([.bool !H],G))))))) fun j=>bo j.1 fun I J=>ct I fun K=>bQ J (bu K (some (.bool false)) (aC (bl (Jt a g i) ([.bool false,.int .i64 0],j.2)) fun k=>bo k.2.1 fun L M=>ct L fun N=>bQ M (rM k.1 (some (.bool true)) fun _=>some (.bool N))))))))))
theorem Up (a b c:AV):bB vE 18 [a,b,c]=g18 a b c:=by kernel_rfl
noncomputable def D4 (j:AV) (k:Nat):cJ->Oq (cJ ⊕ Nat×cJ):=fun a=>bo a.1 fun l m=>bK .i64 l fun d=>bo m fun n o=>bK .i64 n fun b=>bQ o (bu (decide (b < (↑k:Int))) (bL 4 j b a.2 fun p _=>ao 4 true p a.2 fun q _=>az q fun e f g c=>(bM (St.add a.2 (.cells 46 (nC 0 0 [] .ax))) fun r=>ad c (aK (aQ vE) 4 (.mp (St.h a.2) 0) (nA e f g c) (nC e f g c) r fun _ i _=>ao 4 true (.mp (St.h a.2) 0) i fun s _=>az s fun t u v w=>(bk 37 [nA t u v w] i fun y z _=>bK .i64 y fun x=>bx (IntKind.wrap .i64 (d+x)) fun A=>bx (IntKind.wrap .i64 (b+1)) fun B=>some (Sum.inl ([.int .i64 A,.int .i64 B],z)))))) (some (Sum.inr (0,[.int .i64 d],a.2))))
noncomputable def g37:AV->Oq AV:=fun e=>az e fun f _ g b=>(ad b (aD b fun c=>dm c fun h=>aC (bl (D4 c h) ([.int .i64 0,.int .i64 0],sZ)) fun a=>bo a.2.1 fun i j=>bK .i64 i fun d=>bQ j (aC (bu (f==1) (bx (IntKind.wrap .i64 (d+(↑g.length:Int))) fun k=>some ([.int .i64 k],Prod.snd a.2)) (some ([.int .i64 d],Prod.snd a.2))) fun l=>bo l.1 fun m n=>bK .i64 m fun o=>bQ n (some (.int .i64 o)))))
theorem Uu (a:AV):bB vE 37 [a]=g37 a:=by kernel_rfl
noncomputable def Io (m:AV) (n:Nat):cJ->Oq (cJ ⊕ Nat×cJ):=fun a=>bo a.1 fun e o=>bo o fun p q=>bK .i64 p fun b=>bQ q (bu (decide (b < (↑n:Int))) (bL 5 m b a.2 fun r _=>ao 5 true r a.2 fun s _=>cK s fun f g i c j=>(bM (St.add a.2 (.cells 52 [.int .u8 0,.int .u8 0,.str [],.ax,.int .i64 0])) fun t=>ad c (aK (aQ vE) 5 (.mp (St.h a.2) 0) (.agg [.int .u8 f,.int .u8 g,.str i,c,.int .i64 j]) [.int .u8 f,.int .u8 g,.str i,c,.int .i64 j] t fun _ k _=>ao 5 true (.mp (St.h a.2) 0) k fun u _=>cK u fun v w y z x=>(bk 69 [.agg [.int .u8 v,.int .u8 w,.str y,z,.int .i64 x]] k fun A B _=>gq A fun C D E F G d=>(ad d (ad d (aD d fun l=>ad l (aD l fun H=>eI 6 64 99 e [.agg [.int .u8 C,.int .u8 D,.int .i64 E,.int .i64 F,.str G,H]] B fun I J _=>bx (IntKind.wrap .i64 (b+1)) fun K=>some (Sum.inl ([I,.int .i64 K],J)))))))))) (some (Sum.inr (0,[e],a.2))))
noncomputable def w38:AV->St->Oq (AV×St):=fun a st=>dm a fun c=>aC (bl (Io a c) ([.ax,.int .i64 0],st)) fun b=>bo b.2.1 fun d e=>bQ e (some (oneOf [d],Prod.snd b.2))
theorem UQ (a:AV) (st:St):dT vE 38 [a] st=w38 a st:=by kernel_rfl
noncomputable def Zd:AV->Oq AV:=fun A=>cK A fun b e f h i=>(ad h (aD h fun j=>bk 16 [.agg [.int .u8 b,.int .u8 e,.str f,j,.int .i64 i]] (St.mk 2 0 (.node (some (.cells 59 [.int .u8 0,.int .i64 0,.int .i64 0,.bool false,.str [],.ax,.ax])) (.node (some (.cells 59 [.int .u8 0,.int .i64 0,.int .i64 0,.bool false,.str [],.ax,.ax])) .leaf .leaf) .leaf)) fun k B _=>ig k fun C=>cB C 0 fun D=>AF D fun E F=>(ig k fun G=>cB G 1 fun H=>ct H fun _=>gi 2 (.mp 1 1) [.int .i64 E,.int .i64 F] B fun _ l _=>bu (b==1) (bk 70 [.agg [.int .u8 e,.str f]] l fun m I _=>ig m fun J=>cB J 0 fun K=>bK .u8 K fun n=>ig m fun L=>cB L 1 fun M=>fG M fun o=>aK (aQ vE) 1 (.mp 1 0) (.int .u8 n) [.int .u8 n] I fun _ N _=>aK (aQ vE) 1 (.mp 1 4) (.str o) [.str o] N fun _ p _=>ao 7 true (.mp 1 0) p fun O _=>cW O fun P Q R S U q r=>(ad q (ad r (gi 7 (.mp 0 0) [.int .u8 P,.int .i64 Q,.int .i64 R,.bool S,.str U,q,r] p fun _ s _=>ao 7 true (.mp 0 0) s fun V _=>cW V fun W X Y Z c5 c6 c7=>(eF s 0 (.agg [.int .u8 W,.int .i64 X,.int .i64 Y,.bool Z,.str c5,c6,c7]) fun c8=>some c8))))) (bk 71 [] l fun c9 d0 c=>cf (apart c (⟨[],.kept⟩)&&true) (cf (apart c (⟨[],.kept⟩)&&true) (cf (apart c (⟨[],.kept⟩)&&true) (cE (aQ vE) (iT (Env.T vE) 137 c9 (.int .u8 b) false) d0 fun d1 d2 t=>cf (apart t (⟨[],.kept⟩)&&(apart c (⟨[],.kept⟩)&&true)) (bk 14 [.agg [.int .u8 b,.int .u8 e,.str f,j,.int .i64 i]] d2 fun d3 d4 d=>cf (apart t d&&(apart (⟨[],.kept⟩) d&&(apart (⟨[],.kept⟩) d&&(apart (⟨[],.kept⟩) d&&true)))) (iZ (aQ vE) (Sx.prim (sx vE 39)) d1 [.mp 1 0,d3] d4 fun _ g _=>aC (bu (b==14) (ao 1 false (.mp 1 6) g fun d5 _=>dm d5 fun d6=>some ([.bool ((↑d6:Int)==1)],g)) (some ([.bool false],g))) fun a=>bo a.1 fun d7 d8=>ct d7 fun d9=>bQ d8 (bu d9 (ao 1 false (.mp 1 6) a.2 fun e0 _=>bL 7 e0 0 a.2 fun e1 _=>ao 7 true e1 a.2 fun e2 _=>cW e2 fun e3 e4 e5 e6 e7 u v=>(ad u (ad v (gi 7 (.mp 0 0) [.int .u8 e3,.int .i64 e4,.int .i64 e5,.bool e6,.str e7,u,v] a.2 fun _ w _=>ao 7 true (.mp 0 0) w fun e8 _=>cW e8 fun e9 f0 f1 f2 f3 f4 f5=>(eF w 0 (.agg [.int .u8 e9,.int .i64 f0,.int .i64 f1,.bool f2,.str f3,f4,f5]) fun f6=>some f6))))) (ao 7 true (.mp 1 0) a.2 fun f7 _=>cW f7 fun f8 f9 h0 h1 h2 y z=>(ad y (ad z (gi 7 (.mp 0 0) [.int .u8 f8,.int .i64 f9,.int .i64 h0,.bool h1,.str h2,y,z] a.2 fun _ x _=>ao 7 true (.mp 0 0) x fun h3 _=>cW h3 fun h4 h5 h6 h7 h8 h9 i0=>(eF x 0 (.agg [.int .u8 h4,.int .i64 h5,.int .i64 h6,.bool h7,.str h8,h9,i0]) fun i1=>some i1)))))))))))))))
theorem NS (a:AV):bB vE 39 [a]=Zd a:=by kernel_rfl
noncomputable def IC (i:AV) (j:AV) (k:Nat):cJ->Oq (cJ ⊕ Nat×cJ):=fun a=>bo a.1 fun l m=>bK .i64 l fun b=>bQ m (bu (decide (b < (↑k:Int))) (bL 4 j b a.2 fun n _=>ao 4 true n a.2 fun o _=>az o fun e f g c=>(bM (St.add a.2 (.cells 46 (nC 0 0 [] .ax))) fun p=>ad c (aK (aQ vE) 4 (.mp (St.h a.2) 0) (nA e f g c) (nC e f g c) p fun _ d _=>ao 1 false i d fun q _=>ao 4 true (.mp (St.h a.2) 0) d fun r _=>az r fun s t u v=>(iZ (aQ vE) (Sx.prim (sx vE 40)) q [nA s t u v] d fun _ w _=>bx (IntKind.wrap .i64 (b+1)) fun y=>some (Sum.inl ([.int .i64 y],w)))))) (some (Sum.inr (0,[],a.2))))
noncomputable def w40:AV->AV->AV->AV->AV->St->Oq (AV×St):=fun n o g b h st=>az n fun p q c i=>(ad i (aD i fun j=>dm j fun r=>aC (bl (IC o j r) ([.int .i64 0],st)) fun d=>bQ d.2.1 (bu (p != 1) (some (.tup [],Prod.snd d.2)) (bk 41 [.agg [.int .u8 q,.str c]] d.2.2 fun s a _=>ct s fun t=>aC (bu t (ao 1 false g a fun u _=>ct u fun v=>aC (bu (!v) (ao 1 false b a fun w _=>bK .i64 w fun k=>ch 0 h fun y=>aK (aQ vE) 1 y (.int .i64 k) [.int .i64 k] a fun _ z _=>aK (aQ vE) 1 g (.bool true) [.bool true] z fun _ x _=>some ([],x)) (some ([],a))) fun e=>bQ e.1 (ao 1 false b e.2 fun A _=>bK .i64 A fun B=>bx (IntKind.wrap .i64 (B+(↑c.length:Int))) fun l=>ch 1 h fun C=>aK (aQ vE) 1 C (.int .i64 l) [.int .i64 l] e.2 fun _ D _=>some ([],D))) (some ([],a))) fun f=>bQ f.1 (ao 1 false b f.2 fun E _=>bK .i64 E fun F=>bx (IntKind.wrap .i64 (F+(↑c.length:Int))) fun m=>aK (aQ vE) 1 b (.int .i64 m) [.int .i64 m] f.2 fun _ G _=>some (.tup [],G))))))
theorem V0 (a b c d e:AV) (st:St):dT vE 40 [a,b,c,d,e] st=w40 a b c d e st:=by kernel_rfl
noncomputable def ZS:AV->Oq AV:=fun b=>iH b fun a _=>(aC (bu (a != 0) (bu (a != 1) (some ([.bool (a != 2)],sZ)) (some ([.bool false],sZ))) (some ([.bool false],sZ))) fun c=>bo c.1 fun d e=>ct d fun f=>bQ e (some (.bool f)))
theorem T6 (a:AV):bB vE 41 [a]=ZS a:=by kernel_rfl
noncomputable def g42:AV->AV->AV->Oq AV:=fun e f g=>gq e fun h i j k l a=>(gq f fun m n o p q b=>(ct g fun c=>ad a (aD a fun r=>ad b (aD b fun s=>aC (bu (h != m) (some ([.bool true],sZ)) (bu (i != n) (some ([.bool true],sZ)) (bu (!l==q) (some ([.bool true],sZ)) (bu c (aC (MD (VM.binOp (Env.T vE) BinOp.neq 55 (.agg [.int .i64 j,.int .i64 k]) (.agg [.int .i64 o,.int .i64 p]))) fun t=>ct t fun u=>some ([.bool u],sZ)) (some ([.bool false],sZ)))))) fun d=>bo d.1 fun v w=>ct v fun y=>bQ w (bu y (some (.bool false)) (bk 17 [r,s,.bool c] d.2 fun z _ _=>ct z fun x=>some (.bool x)))))))
theorem Vb (a b c:AV):bB vE 42 [a,b,c]=g42 a b c:=by kernel_rfl
noncomputable def g69:AV->Oq AV:=fun P=>cK P fun c d h o p=>(ad o (aD o fun q=>bk 16 [.agg [.int .u8 c,.int .u8 d,.str h,q,.int .i64 p]] (St.mk 2 0 (.node (some (.cells 99 [.int .u8 0,.int .u8 0,.int .i64 0,.int .i64 0,.str [],.ax])) (.node (some (.cells 99 [.int .u8 0,.int .u8 0,.int .i64 0,.int .i64 0,.str [],.ax])) .leaf .leaf) .leaf)) fun r Q _=>ig r fun R=>cB R 0 fun S=>AF S fun T U=>(ig r fun V=>cB V 1 fun W=>ct W fun _=>gi 2 (.mp 1 2) [.int .i64 T,.int .i64 U] Q fun _ X _=>bk 14 [.agg [.int .u8 c,.int .u8 d,.str h,q,.int .i64 p]] X fun e a _=>aC (bu (c==16) (bL 5 e 0 a fun Y _=>ao 5 true Y a fun Z _=>cK Z fun c6 c7 c8 c9 d0=>(bk 69 [.agg [.int .u8 c6,.int .u8 c7,.str c8,c9,.int .i64 d0]] a fun d1 i f=>gq d1 fun s t u v w j=>(cf (apart f (⟨[],.kept⟩)&&true) (bL 5 e 2 i fun d2 d3=>cf (apart f (Fx.mk d3 eS.kept)&&true) (ao 5 true d2 i fun d4 d5=>cK d4 fun d6 d7 d8 d9 e0=>(cf (apart f (Fx.mk d5 eS.kept)&&true) (bk 69 [.agg [.int .u8 d6,.int .u8 d7,.str d8,d9,.int .i64 e0]] i fun e1 e2 e3=>gq e1 fun y z x A B k=>(ad j (ad k (ad j (aD j fun C=>ad k (aD k fun D=>cf (apart e3 (⟨[],.kept⟩)&&(apart f (⟨[],.kept⟩)&&true)) (aK (aQ vE) 1 (.mp 1 0) (.int .u8 20) [.int .u8 20] e2 fun _ e4 e5=>cf (apart (⟨[],.kept⟩) e5&&true) (aK (aQ vE) 1 (.mp 1 5) (.sl 6 [.agg [.int .u8 s,.int .u8 t,.int .i64 u,.int .i64 v,.str w,C],.agg [.int .u8 y,.int .u8 z,.int .i64 x,.int .i64 A,.str B,D]] .shut) [.sl 6 [.agg [.int .u8 s,.int .u8 t,.int .i64 u,.int .i64 v,.str w,C],.agg [.int .u8 y,.int .u8 z,.int .i64 x,.int .i64 A,.str B,D]] .shut] e4 fun _ e6 _=>some (Sum.inl ([],e6)))))))))))))))) (aC (bu (c==18) (bk 109 [e] a fun e7 e8 _=>bk 38 [e7] e8 fun l e9 _=>aK (aQ vE) 1 (.mp 1 0) (.int .u8 19) [.int .u8 19] e9 fun _ f0 _=>ad l (ad l (wQ (.mp 1 5) l f0 fun _ f1 _=>some (Sum.inl ([],f1))))) (aC (bu (c==17) (bk 109 [e] a fun f2 f3 _=>bk 38 [f2] f3 fun m f4 _=>aK (aQ vE) 1 (.mp 1 0) (.int .u8 18) [.int .u8 18] f4 fun _ f5 _=>ad m (ad m (wQ (.mp 1 5) m f5 fun _ b _=>ao 1 false (.mp 1 5) b fun f6 _=>dm f6 fun f7=>bu ((↑f7:Int)==1) (ao 1 false (.mp 1 5) b fun f8 _=>bL 6 f8 0 b fun f9 _=>ao 6 true f9 b fun h0 _=>gq h0 fun h1 h2 h3 h4 h5 E=>(ad E (gi 6 (.mp 0 0) [.int .u8 h1,.int .u8 h2,.int .i64 h3,.int .i64 h4,.str h5,E] b fun _ F _=>aC (aC (aC (ao 6 true (.mp 0 0) F fun h6 _=>gq h6 fun h7 h8 h9 i0 i1 i2=>(eF F 0 (.agg [.int .u8 h7,.int .u8 h8,.int .i64 h9,.int .i64 i0,.str i1,i2]) fun i3=>some i3)) fun i4=>some (Sum.inr i4)) fun i5=>some (Sum.inr i5)) fun i6=>some (Sum.inr i6)))) (some (Sum.inl ([],b)))))) (bk 70 [.agg [.int .u8 d,.str h]] a fun G i7 _=>ig G fun i8=>cB i8 0 fun i9=>bK .u8 i9 fun H=>ig G fun j0=>cB j0 1 fun j1=>fG j1 fun I=>aK (aQ vE) 1 (.mp 1 1) (.int .u8 H) [.int .u8 H] i7 fun _ j2 _=>aK (aQ vE) 1 (.mp 1 4) (.str I) [.str I] j2 fun _ g _=>ao 1 false (.mp 1 1) g fun j3 _=>bK .u8 j3 fun j4=>aC (bu (j4==1) (aK (aQ vE) 1 (.mp 1 0) (.int .u8 15) [.int .u8 15] g fun _ j5 _=>aK (aQ vE) 1 (.mp 1 1) (.int .u8 0) [.int .u8 0] j5 fun _ j6 _=>some ([],j6)) (aC (bu (d==8) (aK (aQ vE) 1 (.mp 1 0) (.int .u8 16) [.int .u8 16] g fun _ j7 _=>aK (aQ vE) 1 (.mp 1 1) (.int .u8 0) [.int .u8 0] j7 fun _ j8 _=>aK (aQ vE) 1 (.mp 1 4) (.str []) [.str []] j8 fun _ j9 _=>some ([],j9)) (aK (aQ vE) 1 (.mp 1 0) (.int .u8 17) [.int .u8 17] g fun _ k0 _=>some ([],k0))) fun J=>bQ J.1 (some ([],Prod.snd J)))) fun K=>bQ K.1 (some (Sum.inl ([],Prod.snd K))))) fun k1=>kZ k1 fun L=>bQ L.1 (some (Sum.inl ([],Prod.snd L))))) fun k2=>kZ k2 fun M=>bQ M.1 (some (Sum.inl ([],Prod.snd M))))) fun k3=>kZ k3 fun n=>bQ n.1 (ao 6 true (.mp 1 0) n.2 fun k4 _=>gq k4 fun k5 k6 k7 k8 k9 N=>(ad N (gi 6 (.mp 0 0) [.int .u8 k5,.int .u8 k6,.int .i64 k7,.int .i64 k8,.str k9,N] n.2 fun _ O _=>ao 6 true (.mp 0 0) O fun m0 _=>gq m0 fun m1 m2 m3 m4 m5 m6=>(eF O 0 (.agg [.int .u8 m1,.int .u8 m2,.int .i64 m3,.int .i64 m4,.str m5,m6]) fun m7=>some m7)))))))
theorem Uo (a:AV):bB vE 69 [a]=g69 a:=by kernel_rfl
noncomputable def ZX:AV->Oq AV:=fun c=>iH c fun b a=>(bu (b==4) (some (.tup [.int .u8 1,.str a])) (bu (b==5) (some (.tup [.int .u8 2,.str a])) (bu (b==6) (some (.tup [.int .u8 3,.str a])) (bu (b==7) (bk 110 [.str a] sZ fun d _ _=>fG d fun e=>some (.tup [.int .u8 4,.str e])) (some (.tup [.int .u8 5,.str a]))))))
theorem TH (a:AV):bB vE 70 [a]=ZX a:=by kernel_rfl
noncomputable def g71:Oq AV:=some (.im [(.int .u8 14,.fn (Fn.func 111) [] []),(.int .u8 15,.fn (Fn.func 113) [] []),(.int .u8 13,.fn (Fn.func 114) [] []),(.int .u8 11,.fn (Fn.func 115) [] []),(.int .u8 12,.fn (Fn.func 116) [] []),(.int .u8 8,.fn (Fn.func 117) [] []),(.int .u8 7,.fn (Fn.func 118) [] []),(.int .u8 6,.fn (Fn.func 119) [] []),(.int .u8 9,.fn (Fn.func 120) [] [])])
theorem TW:bB vE 71 []=g71:=by kernel_rfl
noncomputable def EE (d:AV):cJ->Oq (cJ ⊕ Nat×cJ):=fun a=>bo a.1 fun e g=>bo g fun h i=>bK .i64 h fun b=>bQ i (dm d fun j=>bx (IntKind.wrap .i64 ((↑j:Int) - 1)) fun k=>bu (decide (b < k)) (bL 5 d b a.2 fun l _=>ao 5 true l a.2 fun m _=>cK m fun n o p c q=>(ad c (ad c (aD c fun f=>ad f (aD f fun r=>eI 5 64 52 e [.agg [.int .u8 n,.int .u8 o,.str p,r,.int .i64 q]] a.2 fun s t _=>bx (IntKind.wrap .i64 (b+2)) fun u=>some (Sum.inl ([s,.int .i64 u],t))))))) (some (Sum.inr (0,[e],a.2))))
noncomputable def X5:AV->Oq AV:=fun b=>aC (bl (EE b) ([.ax,.int .i64 1],sZ)) fun a=>bo a.2.1 fun c d=>bQ d (eF a.2.2 0 (oneOf [c]) fun e=>some e)
theorem R3 (a:AV):bB vE 109 [a]=X5 a:=by kernel_rfl
noncomputable def mb (b:LB):cJ->Oq (cJ ⊕ Nat×cJ):=fun a=>bo a.1 fun i j=>bK .i64 i fun c=>bQ j (bu (decide (c < (↑b.length:Int))) (aC (kF b c fun k=>bu ((↑(UInt8.toNat k):Int) != 92) (kF b c fun l=>bk 148 [.mp 0 0,.int .u8 (↑(UInt8.toNat l):Int)] a.2 fun _ m _=>some (Sum.inl ([.int .i64 c],m))) (bx (IntKind.wrap .i64 (c+1)) fun d=>kF b d fun e=>aC (bu ((↑(UInt8.toNat e):Int)==110) (bk 148 [.mp 0 0,.int .u8 10] a.2 fun _ n _=>some ([],n)) (aC (bu ((↑(UInt8.toNat e):Int)==116) (bk 148 [.mp 0 0,.int .u8 9] a.2 fun _ o _=>some ([],o)) (kF b d fun p=>bk 148 [.mp 0 0,.int .u8 (↑(UInt8.toNat p):Int)] a.2 fun _ q _=>some ([],q))) fun f=>bQ f.1 (some ([],f.2)))) fun g=>bQ g.1 (some (Sum.inl ([.int .i64 d],g.2))))) fun r=>kZ r fun h=>bo h.1 fun s t=>bK .i64 s fun u=>bQ t (bx (IntKind.wrap .i64 (u+1)) fun v=>some (Sum.inl ([.int .i64 v],h.2)))) (some (Sum.inr (0,[],a.2))))
noncomputable def Yu:AV->Oq AV:=fun d=>fG d fun a=>bx (IntKind.wrap .i64 ((↑a.length:Int) - 1)) fun e=>gM e a.length fun b=>cf (Nat.ble 1 b) (bx (List.drop 1 (List.take b a)) fun f=>aC (bl (mb f) ([.int .i64 0],St.mk 1 0 (.node (some (.cells 77 [.nilp,.ax])) .leaf .leaf))) fun c=>bQ c.2.1 (cE (aQ vE) (dK (Prim.builderString 5) [.mp 0 0]) c.2.2 fun g _ _=>fG g fun h=>some (.str h)))
theorem Q0 (a:AV):bB vE 110 [a]=Yu a:=by kernel_rfl
noncomputable def ZH:AV->AV->St->Oq (AV×St):=fun a c st=>bk 109 [c] st fun d e _=>bk 112 [d] e fun b f _=>cf (notNil a) (ch 0 a fun g=>aK (aQ vE) 1 g (.int .u8 6) [.int .u8 6] f fun _ h _=>cf (notNil a) (ch 6 a fun i=>ad b (ad b (wQ i b h fun _ j _=>some (.tup [],j)))))
theorem Sf (a b:AV) (st:St):dT vE 111 [a,b] st=ZH a b st:=by kernel_rfl
noncomputable def Ek (o:AV) (p:Nat):cJ->Oq (cJ ⊕ Nat×cJ):=fun a=>bo a.1 fun f q=>bo q fun r s=>bK .i64 r fun b=>bQ s (bu (decide (b < (↑p:Int))) (bL 5 o b a.2 fun t _=>ao 5 true t a.2 fun u _=>cK u fun g i j c k=>(bM (St.add a.2 (.cells 52 [.int .u8 0,.int .u8 0,.str [],.ax,.int .i64 0])) fun v=>ad c (aK (aQ vE) 5 (.mp (St.h a.2) 0) (.agg [.int .u8 g,.int .u8 i,.str j,c,.int .i64 k]) [.int .u8 g,.int .u8 i,.str j,c,.int .i64 k] v fun _ l _=>ao 5 true (.mp (St.h a.2) 0) l fun w _=>cK w fun y z x A B=>(bk 39 [.agg [.int .u8 y,.int .u8 z,.str x,A,.int .i64 B]] l fun C D _=>cW C fun E F G H I d e=>(ad d (ad e (ad d (ad e (aD d fun m=>aD e fun n=>ad m (ad n (aD m fun J=>aD n fun K=>eI 7 96 59 f [.agg [.int .u8 E,.int .i64 F,.int .i64 G,.bool H,.str I,J,K]] D fun L M _=>bx (IntKind.wrap .i64 (b+1)) fun N=>some (Sum.inl ([L,.int .i64 N],M))))))))))))) (some (Sum.inr (0,[f],a.2))))
noncomputable def WZ:AV->St->Oq (AV×St):=fun a st=>dm a fun c=>aC (bl (Ek a c) ([.ax,.int .i64 0],st)) fun b=>bo b.2.1 fun d e=>bQ e (some (oneOf [d],Prod.snd b.2))
theorem QJ (a:AV) (st:St):dT vE 112 [a] st=WZ a st:=by kernel_rfl
noncomputable def Zc:AV->AV->St->Oq (AV×St):=fun a c st=>bk 109 [c] st fun d e _=>bk 112 [d] e fun b f _=>cf (notNil a) (ch 0 a fun g=>aK (aQ vE) 1 g (.int .u8 7) [.int .u8 7] f fun _ h _=>cf (notNil a) (ch 6 a fun i=>ad b (ad b (wQ i b h fun _ j _=>some (.tup [],j)))))
theorem QI (a b:AV) (st:St):dT vE 113 [a,b] st=Zc a b st:=by kernel_rfl
noncomputable def Y7:AV->AV->St->Oq (AV×St):=fun a c st=>bk 112 [c] st fun b d _=>cf (notNil a) (ch 0 a fun e=>aK (aQ vE) 1 e (.int .u8 8) [.int .u8 8] d fun _ f _=>cf (notNil a) (ch 6 a fun g=>ad b (ad b (wQ g b f fun _ h _=>some (.tup [],h)))))
theorem SD (a b:AV) (st:St):dT vE 114 [a,b] st=Y7 a b st:=by kernel_rfl
noncomputable def X9:AV->AV->St->Oq (AV×St):=fun b c st=>bL 5 c 1 st fun i j=>ch 0 i fun k=>ch 1 k fun l=>ch 1 l fun m=>ao 1 false m st fun n o=>fG n fun g=>bL 5 c 0 st fun p _=>ao 5 true p st fun q _=>cK q fun r s t d u=>(bL 5 c 2 st fun v _=>ao 5 true v st fun w _=>cK w fun y z x e A=>(ad d (ad e (ad d (aD d fun B=>ad e (aD e fun C=>bk 112 [.sl 5 [.agg [.int .u8 r,.int .u8 s,.str t,B,.int .i64 u],.agg [.int .u8 y,.int .u8 z,.str x,C,.int .i64 A]] .shut] st fun f D a=>cf (apart (Fx.mk o eS.kept) a&&(apart (⟨[],.kept⟩) a&&(apart (⟨[],.kept⟩) a&&(apart (⟨[],.kept⟩) a&&(apart (Fx.mk j eS.kept) a&&(apart (⟨[],.kept⟩) a&&(apart (⟨[],.kept⟩) a&&(apart (⟨[],.kept⟩) a&&(apart (⟨[],.kept⟩) a&&true))))))))) (cf (notNil b) (ch 0 b fun E=>aK (aQ vE) 1 E (.int .u8 9) [.int .u8 9] D fun _ F h=>cf (apart (⟨[],.kept⟩) h&&(apart (⟨[],.kept⟩) h&&true)) (cf (notNil b) (ch 4 b fun G=>aK (aQ vE) 1 G (.str g) [.str g] F fun _ H I=>cf (apart (⟨[],.kept⟩) I&&true) (cf (notNil b) (ch 6 b fun J=>ad f (ad f (wQ J f H fun _ K _=>some (.tup [],K)))))))))))))))
theorem Ru (a b:AV) (st:St):dT vE 115 [a,b] st=X9 a b st:=by kernel_rfl
noncomputable def X8:AV->AV->St->Oq (AV×St):=fun b e st=>bL 5 e 0 st fun h i=>ch 0 h fun j=>ch 1 j fun k=>ch 1 k fun l=>ao 1 false l st fun m n=>fG m fun f=>bL 5 e 1 st fun o _=>ao 5 true o st fun p _=>cK p fun q r s c t=>(ad c (ad c (aD c fun u=>bk 112 [.sl 5 [.agg [.int .u8 q,.int .u8 r,.str s,u,.int .i64 t]] .shut] st fun d v a=>cf (apart (Fx.mk n eS.kept) a&&(apart (⟨[],.kept⟩) a&&(apart (⟨[],.kept⟩) a&&(apart (⟨[],.kept⟩) a&&(apart (Fx.mk i eS.kept) a&&(apart (⟨[],.kept⟩) a&&(apart (⟨[],.kept⟩) a&&(apart (⟨[],.kept⟩) a&&(apart (⟨[],.kept⟩) a&&true))))))))) (cf (notNil b) (ch 0 b fun w=>aK (aQ vE) 1 w (.int .u8 10) [.int .u8 10] v fun _ y g=>cf (apart (⟨[],.kept⟩) g&&(apart (⟨[],.kept⟩) g&&true)) (cf (notNil b) (ch 4 b fun z=>aK (aQ vE) 1 z (.str f) [.str f] y fun _ x A=>cf (apart (⟨[],.kept⟩) A&&true) (cf (notNil b) (ch 6 b fun B=>ad d (ad d (wQ B d x fun _ C _=>some (.tup [],C))))))))))))
theorem R8 (a b:AV) (st:St):dT vE 116 [a,b] st=X8 a b st:=by kernel_rfl
noncomputable def Yc:AV->AV->St->Oq (AV×St):=fun a b st=>bL 5 b 1 st fun h _=>ao 5 true h st fun i _=>cK i fun j k l c m=>(bL 5 b 3 st fun n _=>ao 5 true n st fun o _=>cK o fun p q r d s=>(bL 5 b 5 st fun t _=>ao 5 true t st fun u _=>cK u fun v w y e z=>(ad c (ad d (ad e (ad c (aD c fun x=>ad d (aD d fun A=>ad e (aD e fun B=>bk 112 [.sl 5 [.agg [.int .u8 j,.int .u8 k,.str l,x,.int .i64 m],.agg [.int .u8 p,.int .u8 q,.str r,A,.int .i64 s],.agg [.int .u8 v,.int .u8 w,.str y,B,.int .i64 z]] .shut] st fun f C g=>cf (apart (⟨[],.kept⟩) g&&(apart (⟨[],.kept⟩) g&&true)) (cf (notNil a) (ch 0 a fun D=>aK (aQ vE) 1 D (.int .u8 12) [.int .u8 12] C fun _ E F=>cf (apart (⟨[],.kept⟩) F&&true) (cf (notNil a) (ch 6 a fun G=>ad f (ad f (wQ G f E fun _ H _=>some (.tup [],H))))))))))))))))
theorem QP (a b:AV) (st:St):dT vE 117 [a,b] st=Yc a b st:=by kernel_rfl
noncomputable def XK:AV->AV->St->Oq (AV×St):=fun b c st=>dm c fun i=>bx (IntKind.wrap .i64 ((↑i:Int) - 2)) fun k=>dL 5 c (some 1) (some k) none fun l=>bk 38 [l] st fun d e a=>cf (apart (⟨[],.kept⟩) a&&(apart (⟨[],.kept⟩) a&&(apart (⟨[],.kept⟩) a&&true))) (cf (apart a (⟨[],.kept⟩)&&true) (cf (apart a (⟨[],.kept⟩)&&true) (bx (IntKind.wrap .i64 ((↑i:Int) - 1)) fun m=>cf (apart a (⟨[],.kept⟩)&&true) (bL 5 c m e fun n o=>cf (apart a (Fx.mk o eS.kept)&&true) (ao 5 true n e fun p q=>cK p fun r s t f u=>(cf (apart a (Fx.mk q eS.kept)&&true) (ad f (ad f (aD f fun v=>cf (apart a (⟨[],.kept⟩)&&true) (bk 112 [.sl 5 [.agg [.int .u8 r,.int .u8 s,.str t,v,.int .i64 u]] .shut] e fun g w h=>cf (apart (⟨[],.kept⟩) h&&(apart (⟨[],.kept⟩) h&&(apart (⟨[],.kept⟩) h&&true))) (cf (notNil b) (ch 0 b fun y=>aK (aQ vE) 1 y (.int .u8 11) [.int .u8 11] w fun _ z j=>cf (apart (⟨[],.kept⟩) j&&(apart (⟨[],.kept⟩) j&&true)) (cf (notNil b) (ch 5 b fun x=>ad d (ad d (wQ x d z fun _ A B=>cf (apart (⟨[],.kept⟩) B&&true) (cf (notNil b) (ch 6 b fun C=>ad g (ad g (wQ C g A fun _ D _=>some (.tup [],D)))))))))))))))))))))
theorem QU (a b:AV) (st:St):dT vE 118 [a,b] st=XK a b st:=by kernel_rfl
noncomputable def Xa:AV->AV->St->Oq (AV×St):=fun b j st=>dm j fun q=>bx (IntKind.wrap .i64 ((↑q:Int) - 2)) fun L=>dL 5 j none (some L) none fun M=>bk 15 [M] st fun N e _=>jl N fun O P Q r R S T U V s t=>(bM (St.add e (.cells 61 [.int .i64 0,.int .i64 0,.bool false,.ax,.int .u8 0,.int .i64 0,.int .i64 0,.bool false,.str [],.ax,.ax])) fun W=>ad r (ad s (ad t (gi 11 (.mp e.h 0) [.int .i64 O,.int .i64 P,.bool Q,r,.int .u8 R,.int .i64 S,.int .i64 T,.bool U,.str V,s,t] W fun _ d _=>ao 1 false (.mp e.h 2) d fun X k=>ct X fun u=>ao 1 false (.mp e.h 3) d fun l g=>ao 7 true (.mp e.h 4) d fun Y Z=>cW Y fun v w y z x m n=>(ad m (ad n (ad m (ad n (aD m fun A=>aD n fun B=>bx (IntKind.wrap .i64 ((↑q:Int) - 1)) fun c4=>bL 5 j c4 d fun c5 _=>ao 5 true c5 d fun c6 _=>cK c6 fun c7 c8 c9 d0 d1=>(bk 39 [.agg [.int .u8 c7,.int .u8 c8,.str c9,d0,.int .i64 d1]] d fun d2 f a=>cW d2 fun C D E F G o p=>(cf (apart (⟨[],.kept⟩) a&&(apart (Fx.mk Z eS.kept) a&&(apart (⟨[],.kept⟩) a&&(apart (Fx.mk g eS.kept) a&&(apart (⟨[],.kept⟩) a&&(apart (Fx.mk k eS.kept) a&&(apart (⟨[],.kept⟩) a&&(apart (⟨[],.kept⟩) a&&(apart (⟨[],.kept⟩) a&&(apart (⟨[],.kept⟩) a&&(apart (⟨[],.kept⟩) a&&true))))))))))) (ad o (ad p (ad o (ad p (aD o fun H=>aD p fun I=>ad H (ad I (aD H fun J=>aD I fun K=>bM (St.add f (Obj.tok 2 59)) fun d3=>cf (apart (Fx.mk g eS.kept) (Fx.mk [] (eS.made f.h (Obj.tok 2 59)))&&(apart (Fx.mk k eS.kept) (Fx.mk [] (eS.made f.h (Obj.tok 2 59)))&&true)) (cf (notNil b) (ch 0 b fun d4=>aK (aQ vE) 1 d4 (.int .u8 14) [.int .u8 14] d3 fun _ d5 c=>cf (apart (Fx.mk g eS.kept) c&&(apart (⟨[],.kept⟩) c&&(apart (Fx.mk k eS.kept) c&&(apart (⟨[],.kept⟩) c&&(apart (⟨[],.kept⟩) c&&(apart (⟨[],.kept⟩) c&&(apart (⟨[],.kept⟩) c&&true))))))) (cf (notNil b) (ch 3 b fun d6=>aK (aQ vE) 1 d6 (.bool u) [.bool u] d5 fun _ d7 i=>cf (apart (Fx.mk g eS.kept) i&&(apart (⟨[],.kept⟩) i&&(apart (⟨[],.kept⟩) i&&(apart (⟨[],.kept⟩) i&&true)))) (cf (notNil b) (ch 5 b fun d8=>ad l (ad l (wQ d8 l d7 fun _ d9 e0=>cf (apart (⟨[],.kept⟩) e0&&true) (cf (notNil b) (ch 6 b fun e1=>aK (aQ vE) 1 e1 (.sl 7 [.agg [.int .u8 v,.int .i64 w,.int .i64 y,.bool z,.str x,A,B],.agg [.int .u8 C,.int .i64 D,.int .i64 E,.bool F,.str G,J,K]] (Perm.own f.h)) [.sl 7 [.agg [.int .u8 v,.int .i64 w,.int .i64 y,.bool z,.str x,A,B],.agg [.int .u8 C,.int .i64 D,.int .i64 E,.bool F,.str G,J,K]] (Perm.own f.h)] d9 fun _ e2 _=>some (.tup [],e2)))))))))))))))))))))))))))))
theorem SI (a b:AV) (st:St):dT vE 119 [a,b] st=Xa a b st:=by kernel_rfl
noncomputable def Er (a:AV) (D:AV) (E:Nat):cJ->Oq (cJ ⊕ Nat×cJ):=fun b=>bo b.1 fun F G=>bK .i64 F fun k=>bQ G (bu (decide (k < (↑E:Int))) (bL 5 D k b.2 fun H _=>ao 5 true H b.2 fun I _=>cK I fun o p q l r=>(bM (St.add b.2 (.cells 52 [.int .u8 0,.int .u8 0,.str [],.ax,.int .i64 0])) fun J=>ad l (aK (aQ vE) 5 (.mp (St.h b.2) 0) (.agg [.int .u8 o,.int .u8 p,.str q,l,.int .i64 r]) [.int .u8 o,.int .u8 p,.str q,l,.int .i64 r] J fun _ e _=>ao 1 false (.mp (St.h b.2) 0) e fun K _=>bK .u8 K fun L=>aC (bu (L==10) (ao 5 true (.mp (St.h b.2) 0) e fun M _=>cK M fun N O P Q R=>(bk 14 [.agg [.int .u8 N,.int .u8 O,.str P,Q,.int .i64 R]] e fun s f _=>cf (notNil a) (ch 5 a fun S=>ao 1 false S f fun t T=>bL 5 s 0 f fun V _=>ao 5 true V f fun W _=>cK W fun X Y Z c5 c6=>(bk 69 [.agg [.int .u8 X,.int .u8 Y,.str Z,c5,.int .i64 c6]] f fun c7 c8 c=>gq c7 fun c9 d0 d1 d2 d3 u=>(cf (apart (Fx.mk T eS.kept) c&&(apart (⟨[],.kept⟩) c&&(apart (⟨[],.kept⟩) c&&(apart (⟨[],.kept⟩) c&&true)))) (dm t fun d4=>cf (apart c (⟨[],.kept⟩)&&true) (cf (apart c (⟨[],.kept⟩)&&true) (cE (aQ vE) (jn (TI.mk (U.struct [(0,5),(1,5),(2,55),(4,9),(5,56)]) 6 64 [.int .u8 0,.int .u8 0,.int .i64 0,.int .i64 0,.str [],.ax] true true) 99 t [.agg [.int .u8 0,.int .u8 0,.int .i64 0,.int .i64 0,.str [],.ax]]) c8 fun g v _=>bL 6 g (↑d4:Int) v fun d5 d6=>ad u (gi 6 d5 [.int .u8 c9,.int .u8 d0,.int .i64 d1,.int .i64 d2,.str d3,u] v fun _ d7 m=>cf (notNil a) (cf (apart m (⟨[],.kept⟩)&&true) (ch 5 a fun d8=>cf (apart m (⟨[],.kept⟩)&&true) (ad g (ad g (wQ d8 g d7 fun _ i w=>cf (apart m w&&(apart (Fx.mk d6 eS.kept) w&&true)) (cf (notNil a) (ch 6 a fun d9=>ao 1 false d9 i fun y e0=>bL 5 s 2 i fun e1 _=>ao 5 true e1 i fun e2 _=>cK e2 fun e3 e4 e5 e6 e7=>(bk 39 [.agg [.int .u8 e3,.int .u8 e4,.str e5,e6,.int .i64 e7]] i fun e8 e9 d=>cW e8 fun f0 f1 f2 f3 f4 z x=>(cf (apart (Fx.mk e0 eS.kept) d&&(apart (⟨[],.kept⟩) d&&(apart (⟨[],.kept⟩) d&&(apart (⟨[],.kept⟩) d&&true)))) (dm y fun f5=>cf (apart d (⟨[],.kept⟩)&&true) (cf (apart d (⟨[],.kept⟩)&&true) (cE (aQ vE) (jn (TI.mk (U.struct [(0,5),(1,55),(3,4),(4,9),(5,56),(6,57)]) 7 96 [.int .u8 0,.int .i64 0,.int .i64 0,.bool false,.str [],.ax,.ax] true true) 59 y [.agg [.int .u8 0,.int .i64 0,.int .i64 0,.bool false,.str [],.ax,.ax]]) e9 fun j A _=>bL 7 j (↑f5:Int) A fun f6 f7=>ad z (ad x (gi 7 f6 [.int .u8 f0,.int .i64 f1,.int .i64 f2,.bool f3,.str f4,z,x] A fun _ f8 n=>cf (notNil a) (cf (apart n (⟨[],.kept⟩)&&true) (ch 6 a fun f9=>cf (apart n (⟨[],.kept⟩)&&true) (ad j (ad j (wQ f9 j f8 fun _ h0 B=>cf (apart n B&&(apart (Fx.mk f7 eS.kept) B&&true)) (some ([],h0)))))))))))))))))))))))))))))) (some ([],e))) fun C=>bQ C.1 (bx (IntKind.wrap .i64 (k+1)) fun h1=>some (Sum.inl ([.int .i64 h1],Prod.snd C)))))) (some (Sum.inr (0,[],b.2))))
noncomputable def X1:AV->AV->St->Oq (AV×St):=fun a b st=>bL 5 b 1 st fun f _=>ao 5 true f st fun g _=>cK g fun h i j c k=>(ad c (ad c (aD c fun l=>bk 112 [.sl 5 [.agg [.int .u8 h,.int .u8 i,.str j,l,.int .i64 k]] .shut] st fun d m _=>cf (notNil a) (ch 0 a fun n=>aK (aQ vE) 1 n (.int .u8 13) [.int .u8 13] m fun _ o _=>cf (notNil a) (ch 6 a fun p=>ad d (ad d (wQ p d o fun _ q _=>dm b fun r=>aC (bl (Er a b r) ([.int .i64 0],q)) fun e=>bQ e.2.1 (some (.tup [],Prod.snd e.2)))))))))
theorem SJ (a b:AV) (st:St):dT vE 120 [a,b] st=X1 a b st:=by kernel_rfl
end Go.Proofs.YtkbkbndajpbcjaaGreatDoor.Vm
namespace Go.Proofs.YtkbkbndajpbcjaaGreatDoor.Vm
open Go Go.VM Go.Proofs Go.Lex Go.Parse Go.Scope Go.Ast
structure ij {α:Type} (R:α->AV->Prop) (l:List α) (es:LA):Prop where
 len:es.length=l.length
 at': ∀(i:Nat) (a:α),l[i]? =some a-> ∃v,es[i]? =some v/\R a v
section
variable {α:Type} {R:α->AV->Prop} {l:List α} {es:LA}
theorem ij.nil:ij R [] []:=⟨rfl,fun i a h=>by simp at h⟩
theorem ij.snoc {a:α} {v:AV} (h:ij R l es) (e:R a v):ij R (l++[a]) (es++[v]):=by
 refine ⟨by simp [h.len],fun i b c=> ?_⟩;by_cases hi:i < l.length
 .rw [aaP hi] at c;obtain ⟨w,f,g⟩:=h.at' i b c;exact ⟨w,by rw [aaP (by rw [h.len];exact hi)];exact f,g⟩
 .rw [aaM (by omega)] at c;have d:i - l.length=0:=by
   by_cases h0:i - l.length=0
   .exact h0
   .rw [aaS (by simp;omega)] at c;cases c
  rw [d] at c;obtain rfl:a=b:=by simpa using c
  exact ⟨v,by rw [aaM (by rw [h.len];omega),h.len,d];rfl,e⟩
theorem ij.drop (h:ij R l es) (m:Nat):ij R (l.drop m) (es.drop m):=
 ⟨by simp [h.len],fun i a hi=>by
  rw [abl] at hi ⊢;exact h.at' _ a hi⟩
theorem ij.take (h:ij R l es) (m:Nat):ij R (l.take m) (es.take m):=
 ⟨by simp [h.len],fun i a hi=>by
  rw [List.getElem?_take] at hi ⊢;split at hi
  .rename_i h1;rw [if_pos h1];exact h.at' _ a hi
  .cases hi⟩
end
theorem na {t:T} {a b:Nat} {s:LB} {y:AV} (h:ky t (.agg [.int .u8 (a:Int),.int .u8 (b:Int),.str s,y])): ∃l es,t= .mk a b s l/\aO 4 y es/\bI l es:=by
 cases t with
 | mk k tk tx l=>
  simp only [ky] at h;obtain ⟨x,es,c,hx,hs⟩:=h;injection c with c
  have d:=List.cons.inj c;have e:=List.cons.inj d.2;have f:=List.cons.inj e.2;have i:=List.cons.inj f.2;have j:=d.1;have m:=e.1;have g:=f.1;have n:=i.1;simp only [AV.int.injEq,abM] at j m;simp only [AV.str.injEq] at g;obtain rfl:a=k:=by omega
  obtain rfl:b=tk:=by omega
  subst g n;exact ⟨l,es,rfl,hx,hs⟩
def nt (p:Nat×T) (v:AV):Prop:= ∃(a b:Nat) (s:LB) (y:AV),v= .agg [.int .u8 (a:Int),.int .u8 (b:Int),.str s,y,.int .i64 (p.1:Int)]/\ky p.2 (.agg [.int .u8 (a:Int),.int .u8 (b:Int),.str s,y])
def bY (a:Nat):List T->List (Nat×T)
 | []=>[]
 | t::l=>(a,t)::bY (a+(bG t).length) l
theorem dJ: ∀(l:List T) (a:Nat),(bY a l).length=l.length
 | [],_=>rfl
 | t::l,a=>by simp [bY,dJ l]
theorem nI: ∀(l:List T) (t:T) (a:Nat),bY a (l++[t])=bY a l++[(a+(bg l).length,t)]
 | [],t,a=>by simp [bY,bg]
 | u::l,t,a=>by
  rw [aat,bY,nI l t,bY,show bg (u::l)=bG u++bg l by simp [bg],aad,abH];rfl
theorem Ph: ∀(t:T) (v:AV),ky t v->(bG t).length<=1000000000000->(aQ vE).bare 37 [v]=some (.int .i64 ((bG t).length:Int)):=by
 refine T.ind fun k tk tx l ih v j hl=> ?_;simp only [ky] at j;obtain ⟨x,es,rfl,hx,hs⟩:=j;have hlen:=JE hx hs;have p:(bg l).length<=1000000000000:=by
  simp only [bG,aad] at hl;omega
 have key:aa (bl (D4 x l.length) ([.int .i64 0,.int .i64 0],S0)) fun c=> ∃s,c=(0,[.int .i64 ((bg l).length:Int)],s):=by
  refine aa.upto (n:=l.length) (I:=fun i c=> ∃s:St,c=([.int .i64 ((bg (l.take i)).length:Int),.int .i64 (i:Int)],s)/\s.ro<=s.h) ?_ ?_ l.length 0 _ (by omega) ⟨S0,rfl,aal _⟩
  .rintro i c hi ⟨s,rfl,d⟩;have o:l[i]? =some l[i]:=aav hi;obtain ⟨a,b,q,y,f,e⟩:=xW hx hs o;obtain ⟨u,es',_,hy,_⟩:=na f;have g:l.take (i+1)=l.take i++[l[i]]:=by rw [List.take_add_one,o];rfl
   have z:(bg (l.take (i+1))).length<=(bg l).length:=by
    have:=aaU (fun m=>(bg m).length) (abb (i+1) l);simp only [dE,aad] at this;omega
   have he:(bg (l.take (i+1))).length=(bg (l.take i)).length+(bG l[i]).length:=by rw [g,dE,bS,aad]
   simp only [D4,ab,af,ae,ak,if_pos (show (i:Int) < (l.length:Int) by omega)];refine aa.step (e s _) ?_;refine aa.Au (Vw.start d) fun A _ w=>aa.step (hy.ad _) ?_;refine aa.qC [] w fun r _ _ w=>aa.fo aag w rfl ?_;have c:=fun {γ:Type} (st:St) (K:Kv γ)=>sF f rfl (ih _ (aaV hi) _ f (by omega)) st K;simp only [al,ab,af,ah,ae,c,aF,rA (show (bg (l.take i)).length+(bG l[i]).length<=9223372036854775807 by omega),ck (show i+1<=9223372036854775807 by omega)];exact aa.inl ⟨r,by rw [he],w.ro⟩
  .rintro c ⟨s,rfl,d⟩;simp only [D4,ab,af,ae,ak,if_neg (show ¬ ((l.length:Nat):Int) < (l.length:Int) by omega),aaJ];exact aa.inr ⟨s,rfl⟩
 obtain ⟨c,e,s,rfl⟩:=key;refine aU rfl ((Uu _).trans ?_);simp only [g37,al,ab,af,ah,ae,hx.ad,hx.aD,jz hx hs,e,ai,cY];simp only [bG] at hl ⊢;by_cases h:k=1
 .rw [if_pos h] at hl ⊢;rw [aad] at hl;simp only [cY k 1,show ((k:Int)==1)=(k==1) from cY k 1,aaX.2 h,ay,aF,rA (show (bg l).length+tx.length<=9223372036854775807 by omega),ai,ab,af,ae,aad]
 .rw [if_neg h] at hl ⊢;simp only [show ((k:Int)==1)=(k==1) from cY k 1,aaB.2 h,aq,ai,ab,af,ae,aay]
theorem ui (l:List T) (i:Nat):(bg (l.take i)).length<=(bg l).length:=by
 have:=aaU (fun m=>(bg m).length) (abb i l);simp only [dE,aad] at this;omega
theorem eU {α:Type} {l:List α} {i:Nat} (hi:i < l.length):l.take (i+1)=l.take i++[l[i]]:=by rw [List.take_add_one,aav hi];rfl
theorem sP {a k tk:Nat} {tx:LB} {l:List T} {v:AV} (h:nt (a,.mk k tk tx l) v) (C:a+(bg l).length<=1000000000000) (hn:l.length < 1000000000): ∃x es,(aQ vE).bare 14 [v]=some x/\aO 5 x es/\ij nt (bY a l) es:=by
 obtain ⟨D,E,o,x,rfl,p⟩:=h;obtain ⟨F,es,q,hx,hs⟩:=na p;cases q;have key:aa (bB vE 14 [.agg [.int .u8 (k:Int),.int .u8 (tk:Int),.str tx,x,.int .i64 (a:Int)]]) fun b=> ∃fs,aO 5 b fs/\ij nt (bY a l) fs:=by
  refine aa.step (Vf _) ?_;simp only [g14,al,ab,af,ah,ae,hx.ad,hx.aD,jz hx hs];refine aa.bind (R:=fun c=> ∃s v ws,c=(0,[v],s)/\Wv S0 s [] 5 52 v ws/\ij nt (bY a l) ws) ?_ ?_
  .refine aa.upto (n:=l.length) (I:=fun i c=> ∃s v ws,c=([v,.int .i64 ((a+(bg (l.take i)).length:Nat):Int),.int .i64 (i:Int)],s)/\Wv S0 s [] 5 52 v ws/\ij nt (bY a (l.take i)) ws) ?_ ?_ l.length 0 _ (by omega) ⟨S0,.ax,[],rfl,Wv.start (aal _) _ _,ij.nil⟩
   .rintro i c hi ⟨s,v,ws,rfl,w,f⟩;have g:=eU hi;have G:=ui l (i+1);have he:(bg (l.take (i+1))).length=(bg (l.take i)).length+(bG l[i]).length:=by rw [g,dE,bS,aad]
    have j:=f.len;rw [dJ,aau] at j;obtain ⟨r,t,m,y,d,e⟩:=xW hx hs (aav hi);obtain ⟨l2,u,_,hy,_⟩:=na d;simp only [H0,ab,af,ae,ak,if_pos (show (i:Int) < (l.length:Int) by omega)];refine aa.step (e s _) ?_;refine aa.lx w fun o _ w=>aa.step (hy.ad _) ?_;refine aa.kR [] w fun H _ _ w=>aa.fo aag w.w rfl ?_;simp only [al,ab,af,ah,ae,hy.ad,hy.aD];refine aa.sj w (by omega) (by omega) (by omega) fun z A _ w=>aa.fo aag w.w rfl ?_;have c:=fun {γ:Type} (st:St) (K:Kv γ)=>sF d rfl (Ph _ _ d (by omega)) st K;simp only [al,ab,af,ah,ae,c,aF,rA (show (a+(bg (l.take i)).length)+(bG l[i]).length<=9223372036854775807 by omega),ck (show i+1<=9223372036854775807 by omega)];refine aa.inl ⟨A,z,_,by rw [he,abH],w.none, ?_⟩;rw [g,nI];exact f.snoc ⟨r,t,m,y,rfl,d⟩
   .rintro c ⟨s,v,ws,rfl,w,f⟩;simp only [H0,ab,af,ae,ak,if_neg (show ¬ ((l.length:Nat):Int) < (l.length:Int) by omega)];rw [aaJ] at f;exact aa.inr ⟨s,v,ws,rfl,w,f⟩
  .rintro c ⟨s,v,ws,rfl,w,f⟩;simp only [ab,ae,kg];exact aa.Q8 w fun x hx=>aa.some ⟨ws,hx,f⟩
 obtain ⟨x,e,fs,hx,B⟩:=key;exact ⟨x,fs,aU rfl e,hx,B⟩
theorem qH {ps:List (Nat×T)} {x:AV} {es:LA} {p:Nat×T} {i:Nat} (hx:aO 5 x es) (hs:ij nt ps es) (hp:ps[i]? =some p): ∃(a b:Nat) (s:LB) (y:AV),ky p.2 (.agg [.int .u8 (a:Int),.int .u8 (b:Int),.str s,y])/\(∀{β:Type} (st:St) (K:AV->Ln->Oq β),bL 5 x (i:Int) st K=K (.ip [.int .u8 (a:Int),.int .u8 (b:Int),.str s,y,.int .i64 (p.1:Int)]) []):=by
 obtain ⟨v,c,a,b,s,y,rfl,d⟩:=hs.at' i p hp;exact ⟨a,b,s,y,d,fun st K=>hx.idx c st K⟩
theorem iy {a b c d e:AV}:jx 5 true [a,b,c,d,e]=some (.agg [a,b,c,d,e]):=rfl
theorem AG {α:Type} [Inhabited α]: ∀(l:List α),eX l=(List.range ((l.length - 1) / 2)).map fun q=>l.getD (2 * q+1) default
 | []=>by simp [eX]
 | [_]=>by simp [eX]
 | [_,_]=>by simp [eX]
 | z::x::y::l=>by
  have ih:=AG (y::l);simp only [eX,ih];have e:((z::x::y::l:List α).length - 1) / 2=(((y::l).length - 1) / 2)+1:=by simp only [aae];omega
  rw [e,List.range_succ_eq_map,aan,List.map_map];refine congr (aaU List.cons (by rfl)) ?_;refine List.map_congr_left fun q _=> ?_;show (y::l).getD (2 * q+1) default=(z::x::y::l).getD (2 * (q+1)+1) default;rw [show 2 * (q+1)+1=(2 * q)+1+1+1 by omega];simp only [List.getD_cons_succ]
theorem Fi {ps:List (Nat×T)} {x:AV} {es:LA} (hx:aO 5 x es) (hs:ij nt ps es) (hn:ps.length < 1000000000): ∃y fs,(aQ vE).bare 109 [x]=some y/\aO 5 y fs/\ij nt (eX ps) fs:=by
 have hlen:=hs.len;have key:aa (bB vE 109 [x]) fun b=> ∃fs,aO 5 b fs/\ij nt (eX ps) fs:=by
  refine aa.step (R3 _) ?_;unfold X5;refine aa.bind (R:=fun c=> ∃s v ws,c=(0,[v],s)/\Wv S0 s [] 5 52 v ws/\ij nt (eX ps) ws) ?_ ?_
  .rw [AG ps];refine aa.upto (n:=(ps.length - 1) / 2) (I:=fun i c=> ∃s v ws,c=([v,.int .i64 ((2 * i+1:Nat):Int)],s)/\Wv S0 s [] 5 52 v ws/\ij nt ((List.range i).map fun q=>ps.getD (2 * q+1) default) ws) ?_ ?_ ((ps.length - 1) / 2) 0 _ (by omega) ⟨S0,.ax,[],rfl,Wv.start (aal _) _ _,ij.nil⟩
   .rintro i c hi ⟨s,v,ws,rfl,w,a⟩;have d:2 * i+1 < ps.length:=by omega
    have g:=a.len;rw [aaA,List.length_range] at g;obtain ⟨l,o,h,y,f,e⟩:=qH hx hs (aav d);obtain ⟨l2,p,_,hy,_⟩:=na f;have j:IntKind.wrap .i64 ((es.length:Int) - 1)=((es.length - 1:Nat):Int):=HO (m:=1) (by omega) hx.1;simp only [EE,ab,af,ae,hx.len,aF,j,ak,if_pos (show ((2 * i+1:Nat):Int) < ((es.length - 1:Nat):Int) by omega),e,bj,iy,ai,al,ah,hy.ad,hy.aD];refine aa.sj w (by omega) (by omega) (by omega) fun r t _ w=> ?_;simp only [aF,A7 (show (2 * i+1)+2<=9223372036854775807 by omega)];refine aa.inl ⟨t,r,_,by rw [show 2 * (i+1)+1=2 * i+1+2 by omega],w, ?_⟩;rw [List.range_succ,aaG];have u:ps.getD (2 * i+1) default=ps[2 * i+1]:=by rw [aaE,aav d];rfl
    refine a.snoc ?_;show nt (ps.getD (2 * i+1) default) _;rw [u];exact ⟨l,o,h,y,rfl,f⟩
   .rintro c ⟨s,v,ws,rfl,w,a⟩;have k:¬ ((2 * ((ps.length - 1) / 2)+1:Nat):Int) < IntKind.wrap .i64 ((es.length:Int) - 1):=by
     have h1:=hx.1;rw [wrap_i64 (by omega) (by omega)];omega
    simp only [EE,ab,af,ae,hx.len,aF,ak,if_neg k];exact aa.inr ⟨s,v,ws,rfl,w,a⟩
  .rintro c ⟨s,v,ws,rfl,w,a⟩;simp only [ab,ae,kg];exact aa.Q8 w fun x hx=>aa.some ⟨ws,hx,a⟩
 obtain ⟨x,e,fs,hx,z⟩:=key;exact ⟨x,fs,aU rfl e,hx,z⟩
end Go.Proofs.YtkbkbndajpbcjaaGreatDoor.Vm
namespace Go.Proofs.YtkbkbndajpbcjaaGreatDoor.Vm
open Go Go.VM Go.Proofs Go.Lex Go.Parse Go.Lay
abbrev ql:Td:=38
abbrev eL (k:Int) (s:LB) (m:Int) (x:AV):LA:=[.int .u8 k,.str s,.int .i64 m,x]
abbrev d4:LA:=[.int .u8 0,.str [],.int .i64 0,.ax]
theorem lM {d:Doc} {v:AV} (h:dc d v): ∃k s m kids x es,d= .mk k s m kids/\v= .agg (eL k s m x)/\aO 4 x es/\bO kids es:=by
 cases d with
 | mk k s m kids=>
  simp only [dc] at h;obtain ⟨x,es,rfl,_,_,_,hx,hs⟩:=h;exact ⟨k,s,m,kids,x,es,rfl,rfl,hx,hs⟩
theorem oo {k:Int} {s:LB} {m:Int} {kids:List Doc} {x:AV} {es:LA} (a:0<=k/\k<=255) (hs:s.length<=9223372036854775807) (hm:0<=m/\m<=1000) (hx:aO 4 x es) (h:bO kids es):dc (.mk k s m kids) (.agg (eL k s m x)):=by
 simp only [dc];exact ⟨x,es,rfl,a,hs,⟨by omega,by omega⟩,hx,h⟩
theorem iz:bO [] []:=by simp only [bO]
theorem gy {d:Doc} {l:List Doc} {v:AV} {es:LA} (h:dc d v) (hs:bO l es):bO (d::l) (v::es):=by
 simp only [bO];exact ⟨v,es,rfl,h,hs⟩
theorem dV: ∀{l m:List Doc} {es fs:LA},bO l es->bO m fs->bO (l++m) (es++fs)
 | [],_,_,_,h,k=>by simp only [bO] at h;subst h;exact k
 | d::l,_,_,_,h,k=>by
  simp only [bO] at h;obtain ⟨v,vs,rfl,h1,a⟩:=h;exact gy h1 (dV a k)
theorem dX {d:Doc} {v:AV} (h:dc d v):bO [d] [v]:=gy h iz
theorem fE {d e:Doc} {v w:AV} (h:dc d v) (a:dc e w):bO [d,e] [v,w]:=gy h (dX a)
theorem dq: ∀{l:List Doc} {es:LA},bO l es->es.length=l.length
 | [],_,h=>by simp only [bO] at h;subst h;rfl
 | d::l,_,h=>by
  simp only [bO] at h;obtain ⟨v,vs,rfl,_,a⟩:=h;simp [dq a]
theorem xc: ∀{l:List Doc} {es:LA} {i:Nat} {d:Doc},bO l es->l[i]? =some d-> ∃v,es[i]? =some v/\dc d v
 | [],_,_,_,_,h=>by simp at h
 | e::l,_,0,d,h,hi=>by
  simp only [bO] at h;obtain ⟨v,vs,rfl,h1,_⟩:=h;simp at hi;subst hi;exact ⟨v,rfl,h1⟩
 | e::l,_,i+1,d,h,hi=>by
  simp only [bO] at h;obtain ⟨v,vs,rfl,_,a⟩:=h;obtain ⟨u,b,c⟩:=xc a (by simpa using hi);exact ⟨u,by simpa using b,c⟩
theorem jm {a b c d:AV}:jx 4 true [a,b,c,d]=some (.agg [a,b,c,d]):=rfl
theorem Ny (s:LB):(aQ vE).bare 22 [.str s]=some (.agg (eL 1 s 0 .ax)):=aU rfl ((UP _).trans (by simp only [g22,ah]))
theorem wX {γ:Type} (s:LB) (st:St) (K:Kv γ):bf (aQ vE) 22 [.str s] st K=K (.agg (eL 1 s 0 .ax)) st q0:=aI st K rfl rfl rfl (Ny s)
theorem gT {γ:Type} (st:St) (K:Kv γ):bf (aQ vE) 45 [] st K=K (.agg (eL 2 [] 0 .ax)) st q0:=aI st K rfl rfl rfl (aU rfl Vd)
theorem MH:(caller vE 60).bare 82 []= .ok (.agg (eL 1 [32] 0 .ax)):=by kernel_rfl
theorem iY {γ:Type} (st:St) (K:Kv γ):bf (aQ vE) 82 [] st K=K (.agg (eL 1 [32] 0 .ax)) st q0:=aI st K rfl rfl rfl (Ac MH)
theorem Ez {s:LB} (h:s.length<=9223372036854775807):dc (Format.tx s) (.agg (eL 1 s 0 .ax)):=oo (by omega) h (by omega) aO.ax iz
theorem kV:dc Format.jT (.agg (eL 2 [] 0 .ax)):=oo (by omega) (by simp) (by omega) aO.ax iz
theorem JP:dc Format.Oh (.agg (eL 4 [] 0 .ax)):=oo (by omega) (by simp) (by omega) aO.ax iz
theorem lV:dc Format.cG (.agg (eL 1 [32] 0 .ax)):=Ez (by simp)
theorem V1 {st:St} {x x':AV} {es:LA} (hx:aO 4 x' es) (a: ∀n,VM.freeze st 0 (n+1) x= .ok x') (k:Int) (s:LB) (m:Int) {β:Type} (K:AV->Oq β):
  eF st 0 (.agg (eL k s m x)) K=K (.agg (eL k s m x')):=by
 refine zB (bF (fC _ _ st 0 99 (by omega)) (bF (uO _ st 0 99 (by omega)) (bF (fC _ _ st 0 99 (by omega)) (bF (a 98) nV)))) ?_ K;simp only [aJ,hx.bare];rfl
theorem zu {st:St} {x:AV} {es:LA} (hx:aO 4 x es) (k:Int) (s:LB) (m:Int) {β:Type} (K:AV->Oq β):eF st 0 (.agg (eL k s m x)) K=K (.agg (eL k s m x)):=
 V1 hx (fun n=>uc hx _ 0 (n+1) (by omega)) k s m K
theorem xO {st:St} {z:Nat} {e:Td} {v:AV} {es:LA} (h:iX st z e v es): ∃x,aO z x es/\VM.strip v=x:=by
 rcases h with ⟨_,hl,⟨rfl | rfl,rfl⟩ | rfl | ⟨k,rfl,_,_⟩⟩
 .exact ⟨.ax,aO.ax,rfl⟩
 .exact ⟨.es,aO.emp,rfl⟩
 .exact ⟨.sl z es .shut,aO.shut hl,rfl⟩
 .exact ⟨.sl z es .wide,aO.wide hl,rfl⟩
theorem Br {β:Type} {E:Env} {f:FuncId} {args a:LA} {v:AV} (st:St) (K:Kv β) (hf:E.full f=false) (hs:args.map strip=a) (b:bH a=true) (h:(aQ E).bare f a=some v):bf (aQ E) f args st K=K v st q0:=by
 have h1:(bH (args.map strip)&& !(aQ E).full f)=true:=by
  rw [hs,b];show (true&& !E.full f)=true;rw [hf];rfl
 unfold bf oq De;rw [h1,hs,h];rfl
theorem UE {x:AV} {es:LA} (hx:aO 4 x es):(aQ vE).bare 74 [x]=some (.agg (eL 6 [] 0 x)):=by
 refine aU rfl ((TB _).trans ?_);simp only [g74,hx.ad];exact zu hx 6 [] 0 _
theorem N1 {x:AV} {es:LA} (hx:aO 4 x es):(aQ vE).bare 23 [x]=some (.agg (eL 7 [] 0 x)):=by
 refine aU rfl ((VA _).trans ?_);simp only [g23,hx.ad];exact zu hx 7 [] 0 _
theorem Sm (n:Int) {x:AV} {es:LA} (hx:aO 4 x es):(aQ vE).bare 78 [.int .i64 n,x]=some (.agg (eL 5 [] n x)):=by
 refine aU rfl ((TM _ _).trans ?_);simp only [g78,af,hx.ad];exact zu hx 5 [] n _
section
variable {st:St} {e:Td} {v:AV} {ws:LA} {D:List Doc}
theorem mj (h:iX st 4 e v ws) (a:bO D ws): ∃x,aO 4 x ws/\dc (Format.uR D) (.agg (eL 6 [] 0 x))/\ ∀{γ:Type} (s:St) (K:Kv γ),bf (aQ vE) 74 [v] s K=K (.agg (eL 6 [] 0 x)) s q0:=by
 obtain ⟨x,hx,b⟩:=xO h;exact ⟨x,hx,oo (by omega) (by simp) (by omega) hx a,fun s K=>Br s K rfl (by rw [aan,aaH,b]) (by simp only [aJ,hx.bare];rfl) (UE hx)⟩
theorem zW (h:iX st 4 e v ws) (a:bO D ws): ∃x,aO 4 x ws/\dc (Format.row D) (.agg (eL 7 [] 0 x))/\ ∀{γ:Type} (s:St) (K:Kv γ),bf (aQ vE) 23 [v] s K=K (.agg (eL 7 [] 0 x)) s q0:=by
 obtain ⟨x,hx,b⟩:=xO h;exact ⟨x,hx,oo (by omega) (by simp) (by omega) hx a,fun s K=>Br s K rfl (by rw [aan,aaH,b]) (by simp only [aJ,hx.bare];rfl) (N1 hx)⟩
theorem tj (n:Int) (hn:0<=n/\n<=1000) (h:iX st 4 e v ws) (a:bO D ws): ∃x,aO 4 x ws/\dc (Format.Cy n D) (.agg (eL 5 [] n x))/\ ∀{γ:Type} (s:St) (K:Kv γ),bf (aQ vE) 78 [.int .i64 n,v] s K=K (.agg (eL 5 [] n x)) s q0:=by
 obtain ⟨x,hx,b⟩:=xO h;exact ⟨x,hx,oo (by omega) (by simp) hn hx a,fun s K=>Br s K rfl (by rw [aan,aan,aaH,b];rfl) (by simp only [aJ,hx.bare];rfl) (Sm n hx)⟩
end
theorem ry {st:St} (w:Vw st [(0,ql,d4)]) {k:Int} {s:LB} {m:Int} {x:AV} {es:LA} {d:Doc} (hx:aO 4 x es) (a:dc d (.agg (eL k s m x))):
  aa (ad x (aK (aQ vE) 4 (.mp 0 0) (.agg (eL k s m x)) (eL k s m x) st fun _ s _=>ao 4 true (.mp 0 0) s fun v _=>uz v fun l=>bo l fun v1 l=>bK .u8 v1 fun b=>bo l fun c l=>fG c fun e=>bo l fun f l=>bK .i64 f fun g=>bo l fun h l=>bQ l (eF s 0 (.agg [.int .u8 b,.str e,.int .i64 g,h]) fun v=>some v))) (dc d):=by
 refine aa.step (hx.ad _) (aa.qC [] w (fun i _ _ w=>aa.fo aag w rfl ?_));simp only [al,ab,af,ah,ae];exact aa.step (zu hx k s m _) (aa.some a)
abbrev S1:St:=St.mk 1 0 (Tr.node (some (VM.Obj.cells ql d4)) Tr.leaf Tr.leaf)
theorem Lc:Vw S1 [(0,ql,d4)]:=⟨fun q a=>by
 rw [aaQ.1 a];exact ⟨rfl,aaO _⟩,by simp,aaO _⟩
def mJ (t:T):Prop:= ∀v,ky t v-> ∃a,(aQ vE).bare 20 [v]=some a/\dc (Format.aB t) a
theorem Hw {l:List T} {x:AV} {es:LA} {i:Nat} {t:T} (hx:aO 4 x es) (hs:bI l es) (hi:l[i]? =some t) (h:mJ t):
  ∃(a b:Nat) (s:LB) (y:AV),ky t (.agg [.int .u8 (a:Int),.int .u8 (b:Int),.str s,y])/\(∀{γ:Type} (K:Oq γ),ad y K=K)/\(∀{γ:Type} (st:St) (K:Int->Int->LB->AV->Ln->Oq γ),(bL 4 x (i:Int) st fun u _=>ao 4 true u st fun u rd=>Fv u fun a b s y=>K a b s y rd)=K (a:Int) (b:Int) s y [])/\
   ∃(k:Int) (s':LB) (m:Int) (z:AV) (zs:LA),dc (Format.aB t) (.agg (eL k s' m z))/\aO 4 z zs/\ ∀{γ:Type} (st:St) (K:Kv γ),bf (aQ vE) 20 [.agg [.int .u8 (a:Int),.int .u8 (b:Int),.str s,y]] st K=K (.agg (eL k s' m z)) st q0:=by
 obtain ⟨v,e,c⟩:=bI.at hs hi;obtain ⟨n,f,d⟩:=h v c;obtain ⟨a,b,s,o,y,es',rfl,rfl,hy,g⟩:=iK c;obtain ⟨k,s',m,kids,z,zs,p,rfl,j,_⟩:=lM d;refine ⟨a,b,s,y,c,fun K=>hy.ad K,fun st K=> ?_,k,s',m,z,zs,d,j,fun st K=>sF c rfl f st K⟩;rw [hx.idx e];simp only [AV.cells,bj,jm,ai,qx]
theorem zR (ahead:List Doc): ∀(i:Nat) (l m:List Doc),Format.bU ahead i (l++m)=Format.bU ahead i l++Format.bU ahead (i+l.length) m
 | i,[],m=>by simp [Format.bU]
 | i,d::l,m=>by
  rw [aat,Format.bU,Format.bU,zR ahead (i+1) l m,aae,aar,aat,show i+1+l.length=i+(l.length+1) by omega]
theorem lz (ahead:List Doc): ∀(i:Nat) (l:List Doc),(Format.bU ahead i l).length<=2 * l.length
 | i,[]=>by simp [Format.bU]
 | i,d::l=>by
  have:=lz ahead (i+1) l;rw [Format.bU];split <;> simp only [aad,aae,aai] <;> omega
theorem lO {ts:List T} {x y:AV} {es fs:LA} {ahead:List Doc} (hx:aO 4 x es) (hs:bI ts es) (hy:aO 4 y fs) (G:bO ahead fs) (A:ahead≠[]) (hn:ts.length<=100000000) (ih: ∀t∈ts,mJ t) (st:St) (B:st.ro<=st.h):
  aa ((aQ vE).wide 81 [x,y] st) fun r=> ∃ws,Wv st r.2 [] 4 ql r.1 ws/\bO (Format.bU ahead 0 (ts.map Format.aB)) ws:=by
 have C:=dq G;have L:=hy.1;have H:1<=ahead.length:=by cases ahead with
  | nil=>exact absurd rfl A
  | cons _ _=>simp
 refine aa.wide (aa.step (Ul _ _ _) ?_);simp only [ZT,jz hx hs];refine aa.bind (R:=fun c=> ∃s v ws,c=(0,[v],s)/\Wv st s [] 4 ql v ws/\bO (Format.bU ahead 0 (ts.map Format.aB)) ws) ?_ ?_
 .refine aa.upto (n:=ts.length) (I:=fun i c=> ∃s v ws,c=([v,.int .i64 (i:Int)],s)/\Wv st s [] 4 ql v ws/\bO (Format.bU ahead 0 ((ts.take i).map Format.aB)) ws) ?_ ?_ ts.length 0 _ (by omega) ⟨st,.ax,[],rfl,Wv.start B _ _,iz⟩
  .rintro i c hi ⟨s,v,ws,rfl,w,d⟩;have M:=dq d;have f:=lz ahead 0 ((ts.take i).map Format.aB);rw [aaA,aau] at f;obtain ⟨a,b,tx,z,hN,D,g,k,s',m,q,qs,N,J,O⟩:=Hw hx hs (aav hi) (ih _ (aaV hi));have e:Format.bU ahead 0 ((ts.take (i+1)).map Format.aB)=Format.bU ahead 0 ((ts.take i).map Format.aB)++((if i=0 then [] else [ahead.getD (min (i - 1) (ahead.length - 1)) Format.cG])++[Format.aB ts[i]]):=by
    rw [eU hi,aaG,zR,aan,aaH,Format.bU,Format.bU,aaA,aau,abG (by omega),aax]
   rw [e];simp only [HY,ab,af,ae,ak,if_pos (show (i:Int) < (ts.length:Int) by omega)];refine aa.step (g s _) ?_;refine aa.lx w fun s1 _ w=>aa.step (D _) ?_;refine aa.kR [] w fun P _ _ w=> ?_;refine aa.bind (R:=fun c=> ∃p v ws,c=([v],p)/\Wv st p [(s.h,46,[.int .u8 (a:Int),.int .u8 (b:Int),.str tx,z])] 4 ql v ws/\bO (Format.bU ahead 0 ((ts.take i).map Format.aB)++(if i=0 then [] else [ahead.getD (min (i - 1) (ahead.length - 1)) Format.cG])) ws) ?_ ?_
   .by_cases h0:i=0
    .subst h0;exact aa.step (if_neg (by omega)) (aa.some ⟨P,v,ws,rfl,w,by simpa using d⟩)
    .rw [if_neg h0];refine aa.step (if_pos (by omega)) ?_;have Q:IntKind.wrap .i64 ((i:Int) - 1)=((i - 1:Nat):Int):=by rw [wrap_i64 (by omega) (by omega)];omega
     have S:IntKind.wrap .i64 ((fs.length:Int) - 1)=((fs.length - 1:Nat):Int):=by rw [wrap_i64 (by omega) (by omega)];omega
     have U:(if ((fs.length - 1:Nat):Int) < ((i - 1:Nat):Int) then ((fs.length - 1:Nat):Int) else ((i - 1:Nat):Int))=((min (i - 1) (ahead.length - 1):Nat):Int):=by
      rw [C];split <;> omega
     have V:min (i - 1) (ahead.length - 1) < ahead.length:=by omega
     have W:ahead[min (i - 1) (ahead.length - 1)]? =some (ahead.getD (min (i - 1) (ahead.length - 1)) Format.cG):=by
      rw [aaE,aav V];rfl
     obtain ⟨u,X,K⟩:=xc G W;obtain ⟨k3,p,m3,Y,x3,Z,ar,rfl,j,av⟩:=lM K;simp only [aF,Q,hy.len,S,U,hy.idx X,AV.cells,bj,jm,ai,al,ab,af,ah,ae,j.ad,j.aD];refine aa.sj w (by omega) (by omega) (by omega) fun E F _ w=>aa.some ⟨F,E,_,rfl,w,dV d (dX K)⟩
   .rintro c ⟨p,v3,aw,rfl,w,l⟩;have o:=dq l;rw [aad] at o;have a1:(if i=0 then ([]:List Doc) else [ahead.getD (min (i - 1) (ahead.length - 1)) Format.cG]).length<=1:=by split <;> simp
    simp only [ab,ae];refine aa.fo aag w.w rfl ?_;simp only [al,ab,af,ah,ae];refine aa.step (O _ _) ?_;simp only [al,ab,af,ah,ae,J.ad,J.aD];refine aa.sj w (by omega) (by omega) (by omega) fun E F _ w=> ?_;simp only [aF,ck (show i+1<=9223372036854775807 by omega)];refine aa.inl ⟨F,E,_,rfl,w.none, ?_⟩;rw [<- aar];exact dV l (dX N)
  .rintro c ⟨s,v,ws,rfl,w,d⟩;simp only [HY,ab,af,ae,ak,if_neg (show ¬ ((ts.length:Nat):Int) < (ts.length:Int) by omega)];rw [aaJ] at d;exact aa.inr ⟨s,v,ws,rfl,w,d⟩
 .rintro c ⟨s,v,ws,rfl,w,d⟩;simp only [ab,ae,kg];exact aa.some ⟨ws,w,d⟩
theorem _root_.Go.VM.aa.KB {β:Type} {Q:β->Prop} {st0 st:St} {l:wS} {z:Nat} {e:Td} {v:AV} {ws:LA} (w:Wv st0 st l z e v ws) {b:Nat} {new:LA} (hn:new≠[]) (c:ws.length+new.length<=1000000000) (d:b<=1000) (f:1<=z) {K:Kv β} (g: ∀v' s a,Wv st0 s l z e v' (ws++new)->aa (K v' s a) Q):aa (eI z b e v new st K) Q:=by
 obtain ⟨v',s,a,i,o1,k1,m⟩:=sX (b:=b) (new:=new) w.o hn (vN (by simpa using c) d f);refine aa.step (oU i K) (g v' s a ⟨w.w.keeps k1 (fun q n h=>w.o.not (w.w.v q n).1 h),o1,fun j p=> ?_,sI w.k k1 w.nw,w.ge⟩);rcases m j p with h | h
 .exact w.nw j h
 .exact aaR w.k.h h
theorem rq: ∀{l:List T} {es:LA} (n:Nat),bI l es->bI (l.take n) (es.take n)
 | [],_,n,h=>by simp only [bI] at h;subst h;simpa using bI.nil
 | t::l,_,0,h=>by simpa using bI.nil
 | t::l,_,n+1,h=>by
  simp only [bI] at h;obtain ⟨e,r,rfl,h1,a⟩:=h;exact bI.cons h1 (rq n a)
theorem Ki: ∀{l:List T} {es:LA} (n:Nat),bI l es->bI (l.drop n) (es.drop n)
 | [],_,n,h=>by simp only [bI] at h;subst h;simpa using bI.nil
 | t::l,_,0,h=>h
 | t::l,_,n+1,h=>by
  simp only [bI] at h;obtain ⟨e,r,rfl,h1,a⟩:=h;exact Ki n a
theorem lL {st st':St}:apart ⟨[],.all st st'⟩ ⟨[],.kept⟩=true:=id rfl
theorem lK {st st':St}:apart ⟨[],.all st st'⟩ q0=true:=id rfl
theorem ic:apart q0 q0=true:=id rfl
theorem re (l:LA):(bH (l.map strip)&& !vE.full 81)=false:=by rw [show vE.full 81=true from rfl];simp
theorem JV (l:LA):(bH (l.map strip)&& !vE.full 75)=false:=by rw [show vE.full 75=true from rfl];simp
theorem iV:aO 4 AV.ax []:=aO.ax
theorem rZ {l:List T} {x:AV} {es:LA} {i:Nat} {t:T} (hx:aO 4 x es) (hs:bI l es) (hi:l[i]? =some t) (h:mJ t) {j:Int} (e:j=(i:Int)):
  ∃(a b:Nat) (s:LB) (y:AV) (k:Int) (s':LB) (m:Int) (z:AV) (zs:LA),ky t (.agg [.int .u8 (a:Int),.int .u8 (b:Int),.str s,y])/\(∀{γ:Type} (K:Oq γ),ad y K=K)/\dc (Format.aB t) (.agg (eL k s' m z))/\aO 4 z zs/\(∀{γ:Type} (st:St) (K:AV->Ln->Oq γ),bL 4 x j st K=K (.ip [.int .u8 (a:Int),.int .u8 (b:Int),.str s,y]) [])/\
   ∀{γ:Type} (st:St) (K:Kv γ),bf (aQ vE) 20 [.agg [.int .u8 (a:Int),.int .u8 (b:Int),.str s,y]] st K=K (.agg (eL k s' m z)) st q0:=by
 subst e;obtain ⟨v,f,c⟩:=bI.at hs hi;obtain ⟨p,g,d⟩:=h v c;obtain ⟨a,b,s,q,y,es',rfl,rfl,hy,n⟩:=iK c;obtain ⟨k,s',m,kids,z,zs,r,rfl,o,_⟩:=lM d;exact ⟨a,b,s,y,k,s',m,z,zs,c,fun K=>hy.ad K,d,o,fun st K=>hx.idx f st K,fun st K=>sF c rfl g st K⟩
theorem Ea (b:List LB) (s:LB):b.contains s=b.any fun t=>t==s:=by
 induction b with
 | nil=>rfl
 | cons a l ih=>
  rw [List.contains_cons,aby,ih];congr 1;rw [Bool.eq_iff_iff,aaX,aaX];exact eq_comm
theorem Vv {t:T} {v:AV} (d:ky t v) (c:List LB) (hl:c.length<=1000):(aQ vE).bare 77 [v,.sl 1 (c.map AV.str) .shut]=some (.bool (Format.mH c t)):=by
 obtain ⟨a,b,s,f,y,es',rfl,rfl,hy,e⟩:=iK d;refine aU rfl ((UL _ _).trans ?_);simp only [ZQ,al,ab,af,ah,ae,hy.ad,hy.aD,Format.mH,pn (pF c hl),Ea];rw [show ((a:Int)==1)=(a==1) from cY a 1,show ((b:Int)==8)=(b==8) from cY b 8];cases a==1 <;> cases b==8 <;> simp [ay,aq,ai,ab,au,ae]
theorem Gk {t:T} {v:AV} (b:ky t v) (a:List LB) (hl:a.length<=1000) {γ:Type} (st:St) (K:Kv γ):bf (aQ vE) 77 [v,.sl 1 (a.map AV.str) .shut] st K=K (.bool (Format.mH a t)) st q0:=by
 obtain ⟨h1,d⟩:=zz b;have c:=pF a hl;exact aI st K rfl (by simp only [aan,aaH,d,c.strip]) (by simp only [aJ,h1,c.bare];rfl) (Vv b a hl)
def VY (F:FuncId) (k:Nat) (ks:List T):Prop:= ∀x es,aO 4 x es->bI ks es->aa ((aQ vE).bare F [x]) (dc (Format.eJ k ks (ks.map Format.aB)))
section
variable {ks:List T} {x:AV} {es:LA} (hx:aO 4 x es) (hs:bI ks es) (hn:ks.length<=1000000) (ih: ∀t∈ks,mJ t)
include hx hs hn ih
theorem yC (h1:1<=ks.length) (st:St) (g:st.ro<=st.h):aa ((aQ vE).wide 75 [x] st) fun r=> ∃ws,Wv st r.2 [] 4 ql r.1 ws/\bO (Format.mW (ks.map Format.aB)) ws:=by
 have hlen:=hs.len;have c:ks.length - 1 < ks.length:=by omega
 have d:ks[ks.length - 1]? =some ks[ks.length - 1]:=aav c;have u:IntKind.wrap .i64 ((ks.length:Int) - 1)=((ks.length - 1:Nat):Int):=by rw [wrap_i64 (by omega) (by omega)];omega
 obtain ⟨H,e,i⟩:=hx.cut (lo:=none) (hi:=some ((ks.length - 1:Nat):Int)) (l:=0) (m:=ks.length - 1) kL (iu (by omega));rw [aaw] at e;obtain ⟨a,b,I,y,k,s',m,z,zs,J,A,B,p,C,D⟩:=rZ hx hs d (ih _ (aaV c)) (j:=((ks.length - 1:Nat):Int)) rfl;refine aa.wide (aa.step (UY _ _) ?_);simp only [w75,jz hx hs,aF,u,i,iY,al,ab,af,ah,ae,cI,cA,ic,aaI,aG,iV.ad,iV.aD];refine aa.gu (lO e (rq _ hs) (aO.shut (by simp)) (dX lV) (by simp) (by rw [aau];omega) (fun t E=>ih t (List.mem_of_mem_take E)) st g) rfl (re _) ?_;rintro v s ⟨ws,w,q⟩;have F:=dq q;have n:=lz [Format.cG] 0 ((ks.take (ks.length - 1)).map Format.aB);rw [aaA,aau] at n;obtain ⟨K,f,o,G⟩:=tj 2 (by omega) (iX.shut w.w.ro ql (es:=[.agg (eL 2 [] 0 .ax),.agg (eL k s' m z)]) (by simp)) (fE kV B);simp only [gT,al,ab,af,ah,ae,cI,cA,ic,lL,lK,aaI,aG,C,bj,jm,ai,D,p.ad,p.aD,iV.ad,iV.aD];refine aa.step (G _ _) ?_;simp only [al,ab,af,ah,ae,f.ad,f.aD];refine aa.sj w (by omega) (by omega) (by omega) fun L M _ w=> ?_;rw [kg];refine aa.some ⟨_,w, ?_⟩;rw [Format.mW,aaA, <- List.map_take,Format.ia _ _ _ d];exact dV q (dX o)
theorem XH (h1:1<=ks.length) {k:Nat} (c:k=5\/k=7):aa ((aQ vE).bare 73 [x]) (dc (Format.eJ k ks (ks.map Format.aB))):=by
 refine aa.bare rfl (aa.step (Ui _) ?_);unfold g73;refine aa.gu (yC hx hs hn ih h1 S1 (aaO _)) rfl (JV _) ?_;rintro v s ⟨ws,w,d⟩;obtain ⟨g,a,b,e⟩:=mj w.o d;refine aa.step (e _ _) ?_;simp only [al,ab,af,ah,ae];rw [Format.eJ,if_pos c];exact ry (Lc.keeps w.k (fun _ _ f=>f)) a b
theorem ZC:aa ((aQ vE).bare 80 [x]) (dc (Format.eJ 8 ks (ks.map Format.aB))):=by
 refine aa.bare rfl (aa.step (V3 _) ?_);simp only [g80,iY,gT,al,ab,af,ah,ae,iV.ad,iV.aD];refine aa.gu (lO hx hs (aO.shut (by simp)) (gy lV (gy kV (gy lV (fE kV lV)))) (by simp) (by omega) ih S1 (aaO _)) rfl (re _) ?_;rintro v s ⟨ws,w,c⟩;obtain ⟨e,a,b,d⟩:=mj w.o c;refine aa.step (d _ _) ?_;simp only [al,ab,af,ah,ae];exact ry (Lc.keeps w.k (fun _ _ f=>f)) a b
theorem Zw:aa ((aQ vE).bare 85 [x]) (dc (Format.eJ 11 ks (ks.map Format.aB))):=by
 refine aa.bare rfl (aa.step (Vt _) ?_);simp only [g85,iY,gT,al,ab,af,ah,ae,iV.ad,iV.aD];refine aa.gu (lO hx hs (aO.shut (by simp)) (fE kV lV) (by simp) (by omega) ih S1 (aaO _)) rfl (re _) ?_;rintro v s ⟨ws,w,c⟩;obtain ⟨e,a,b,d⟩:=mj w.o c;refine aa.step (d _ _) ?_;simp only [al,ab,af,ah,ae];exact ry (Lc.keeps w.k (fun _ _ f=>f)) a b
theorem YW:aa ((aQ vE).bare 86 [x]) (dc (Format.eJ 12 ks (ks.map Format.aB))):=by
 refine aa.bare rfl (aa.step (Vn _) ?_);simp only [Z6,iY,gT,al,ab,af,ah,ae,iV.ad,iV.aD];refine aa.gu (lO hx hs (aO.shut (by simp)) (dX lV) (by simp) (by omega) ih S1 (aaO _)) rfl (re _) ?_;rintro v s ⟨ws,w,c⟩;obtain ⟨e,a,b,d⟩:=zW w.o c;refine aa.step (d _ _) ?_;simp only [al,ab,af,ah,ae];exact ry (Lc.keeps w.k (fun _ _ f=>f)) a b
theorem ZD:aa ((aQ vE).bare 87 [x]) (dc (Format.eJ 16 ks (ks.map Format.aB))):=by
 refine aa.bare rfl (aa.step (UW _) ?_);simp only [g87,iY,gT,al,ab,af,ah,ae,iV.ad,iV.aD];refine aa.gu (lO hx hs (aO.shut (by simp)) (dX lV) (by simp) (by omega) ih S1 (aaO _)) rfl (re _) ?_;rintro v s ⟨ws,w,c⟩;obtain ⟨e,a,b,d⟩:=zW w.o c;refine aa.step (d _ _) ?_;simp only [al,ab,af,ah,ae];exact ry (Lc.keeps w.k (fun _ _ f=>f)) a b
omit hn in
theorem WW (h2:ks.length=2):aa ((aQ vE).bare 88 [x]) (dc (Format.eJ 13 ks (ks.map Format.aB))):=by
 have hg0:ks[0]? =some ks[0]:=aav (by omega);have hg1:ks[1]? =some ks[1]:=aav (by omega);obtain ⟨a0,b0,s0,y0,k0,t0,m0,z0,zs0,hN0,hy0,hd0,hz0,ei0,cn0⟩:=rZ hx hs hg0 (ih _ (aaV _)) (j:=0) rfl;obtain ⟨a1,b1,s1,y1,k1,t1,m1,z1,zs1,hN1,hy1,hd1,hz1,ei1,cn1⟩:=rZ hx hs hg1 (ih _ (aaV _)) (j:=1) rfl;refine aa.bare rfl (aa.step (Vl _) ?_);obtain ⟨x2,hx2,hd2,e2⟩:=tj 2 (by omega) (iX.shut (st:=S1) (aaO _) ql (es:=[.agg (eL 2 [] 0 .ax),.agg (eL k1 t1 m1 z1)]) (by simp)) (fE kV hd1);obtain ⟨x3,hx3,hd3,e3⟩:=mj (iX.shut (st:=S1) (aaO _) ql (es:=[.agg (eL k0 t0 m0 z0),.agg (eL 5 [] 2 x2)]) (by simp)) (fE hd0 hd2);simp only [g88,ei0,ei1,cn0,cn1,bj,jm,ai,gT,al,ab,af,ah,ae,cI,cA,ic,lL,lK,aaI,aG,hz0.ad,hz0.aD,hz1.ad,hz1.aD,iV.ad,iV.aD];refine aa.step (e2 _ _) ?_;simp only [al,ab,af,ah,ae,hx2.ad,hx2.aD,hz0.ad,hz0.aD];refine aa.step (e3 _ _) ?_;simp only [al,ab,af,ah,ae];have hk:Format.eJ 13 ks (ks.map Format.aB)=Format.uR [Format.aB ks[0],Format.Cy 2 [Format.jT,Format.aB ks[1]]]:=by
  rw [Format.eJ,if_neg (by decide),if_neg (by decide),if_neg (by decide),if_neg (by decide),if_neg (by decide),if_neg (by decide),if_neg (by decide),if_pos rfl,Format.ia _ _ _ hg0,Format.ia _ _ _ hg1]
 rw [hk];exact ry Lc hx3 hd3
omit hn in
theorem Y1 (h3:ks.length=3):aa ((aQ vE).bare 84 [x]) (dc (Format.eJ 10 ks (ks.map Format.aB))):=by
 have hlen:=hs.len;have hg2:ks[2]? =some ks[2]:=aav (by omega);obtain ⟨x2,hx2,hsl⟩:=hx.cut (lo:=none) (hi:=some 2) (l:=0) (m:=2) kL (iu (k:=2) (by omega));rw [aaw] at hx2;obtain ⟨a,b,s0,y,k,s',m,z,zs,hN,hy1,hd,hz,ei,cn⟩:=rZ hx hs hg2 (ih _ (aaV _)) (j:=2) rfl;refine aa.bare rfl (aa.step (U6 _) ?_);simp only [ZR,hsl,iY,al,ab,af,ah,ae,cI,cA,ic,aaI,aG,iV.ad,iV.aD];refine aa.gu (lO hx2 (rq _ hs) (aO.shut (by simp)) (dX lV) (by simp) (by rw [aau];omega) (fun t ht=>ih t (List.mem_of_mem_take ht)) S1 (aaO _)) rfl (re _) ?_;rintro v s ⟨ws,w,hw⟩;have hwl:=dq hw;have hal:=lz [Format.cG] 0 ((ks.take 2).map Format.aB);rw [aaA,aau] at hal;obtain ⟨x3,hx3,hd3,e3⟩:=tj 4 (by omega) (iX.shut w.w.ro ql (es:=[.agg (eL 2 [] 0 .ax),.agg (eL k s' m z)]) (by simp)) (fE kV hd);simp only [gT,al,ab,af,ah,ae,cI,cA,ic,lL,lK,aaI,aG,ei,bj,jm,ai,cn,hz.ad,hz.aD,iV.ad,iV.aD];refine aa.step (e3 _ _) ?_;simp only [al,ab,af,ah,ae,hx3.ad,hx3.aD];refine aa.sj w (by omega) (by omega) (by omega) fun v4 s4 _ w=> ?_;obtain ⟨x5,hx5,hd5,e5⟩:=mj w.o (dV hw (dX hd3));refine aa.step (e5 _ _) ?_;simp only [al,ab,af,ah,ae];have hk:Format.eJ 10 ks (ks.map Format.aB)=Format.uR (Format.bU [Format.cG] 0 ((ks.take 2).map Format.aB)++[Format.Cy 4 [Format.jT,Format.aB ks[2]]]):=by
  rw [Format.eJ,if_neg (by decide),if_neg (by decide),if_neg (by decide),if_neg (by decide),if_pos rfl,Format.ia _ _ _ hg2,List.map_take]
 rw [hk];exact ry (Lc.keeps w.k (fun _ _ f=>f)) hx5 hd5
theorem ZO (N:4<=ks.length):aa ((aQ vE).bare 79 [x]) (dc (Format.eJ 6 ks (ks.map Format.aB))):=by
 have hlen:=hs.len;have a:ks[ks.length - 2]? =some ks[ks.length - 2]:=aav (by omega);have b:ks[ks.length - 1]? =some ks[ks.length - 1]:=aav (by omega);have A:IntKind.wrap .i64 ((ks.length:Int) - 2)=((ks.length - 2:Nat):Int):=by rw [wrap_i64 (by omega) (by omega)];omega
 have B:IntKind.wrap .i64 (((ks.length - 2:Nat):Int)+1)=((ks.length - 1:Nat):Int):=by rw [wrap_i64 (by omega) (by omega)];omega
 obtain ⟨O,c,g⟩:=hx.cut (lo:=none) (hi:=some ((ks.length - 2:Nat):Int)) (l:=0) (m:=ks.length - 2) kL (iu (by omega));rw [aaw] at c;obtain ⟨P,Q,R,S,T,U,V,W,C,D,E,h,d,i,n⟩:=rZ hx hs a (ih _ (aaV _)) (j:=((ks.length - 2:Nat):Int)) rfl;obtain ⟨X,Y,Z,y1,k1,t1,m1,z1,F,G,H,p,e,q,r⟩:=rZ hx hs b (ih _ (aaV _)) (j:=((ks.length - 1:Nat):Int)) rfl;refine aa.bare rfl (aa.step (Ut _) ?_);simp only [ZV,jz hx hs,aF,A,g];refine aa.gu (yC c (rq _ hs) (by rw [aau];omega) (fun t I=>ih t (List.mem_of_mem_take I)) (by rw [aau];omega) S1 (aaO _)) rfl (JV _) ?_;rintro v s ⟨ws,w,z⟩;have J:=dq z;have K:(Format.mW ((ks.take (ks.length - 2)).map Format.aB)).length<=2 * ks.length+1:=by
  have:=lz [Format.cG] 0 (((ks.take (ks.length - 2)).map Format.aB).take (((ks.take (ks.length - 2)).map Format.aB).length - 1));rw [Format.mW,aad];simp only [aau,aaA,abd] at this ⊢;omega
 simp only [gT,B,al,ab,af,ah,ae,cI,cA,ic,lL,lK,aaI,aG,i,q,n,r,bj,jm,ai,aF,d.ad,d.aD,e.ad,e.aD,iV.ad,iV.aD];refine aa.KB w (by simp) (by simp only [aae,aai];omega) (by omega) (by omega) fun v4 s4 _ w=> ?_;obtain ⟨x5,u,y,L⟩:=mj w.o (dV z (gy kV (gy h (fE kV p))));refine aa.step (L _ _) ?_;simp only [al,ab,af,ah,ae];have M:Format.eJ 6 ks (ks.map Format.aB)=Format.uR (Format.mW ((ks.take (ks.length - 2)).map Format.aB)++[Format.jT,Format.aB ks[ks.length - 2],Format.jT,Format.aB ks[ks.length - 1]]):=by
  rw [Format.eJ,if_neg (by decide),if_pos rfl,aaA,Format.ia _ _ _ a,Format.ia _ _ _ b,List.map_take]
 rw [M];exact ry (Lc.keeps w.k (fun _ _ f=>f)) u y
end
theorem G1: ∀(l:List T) (t:T),Format.oc (l++[t]) ((l++[t]).map Format.aB)=Format.oc l (l.map Format.aB)++Format.aB t::(if Format.mH [lI,pK] t then [Format.jT] else [])
 | [],t=>by
  simp only [aaq,aan,aaH,Format.oc]
 | a::l,t=>by
  have ih:=G1 l t;simp only [aat,aan,Format.oc] at ih ⊢;rw [ih];split <;> rfl
theorem J0: ∀(l:List T) (D:List Doc),(Format.oc l D).length<=2 * l.length
 | [],D=>by simp [Format.oc]
 | _:: _,[]=>by simp [Format.oc]
 | a::l,d::D=>by
  have ih:=J0 l D;rw [Format.oc];split <;> simp only [aae] <;> omega
theorem Aq: ∀(l:List T) (p t:T),Format.gN p (l++[t]) ((l++[t]).map Format.aB)=Format.gN p l (l.map Format.aB)++[if Format.mH [iF] ((p::l).getD l.length default) then Format.cG else Format.jT,Format.aB t]
 | [],p,t=>by
  simp only [aaq,aan,aaH,Format.gN,aai,List.getD_cons_zero]
 | a::l,p,t=>by
  have ih:=Aq l a t;simp only [aat,aan,Format.gN,aae,List.getD_cons_succ] at ih ⊢;rw [ih]
theorem C6: ∀(l:List T) (p:T) (D:List Doc),(Format.gN p l D).length<=2 * l.length
 | [],p,D=>by simp [Format.gN]
 | _:: _,p,[]=>by simp [Format.gN]
 | a::l,p,d::D=>by
  have ih:=C6 l a D;rw [Format.gN];simp only [aae];omega
section
variable {ks:List T} {x:AV} {es:LA} (hx:aO 4 x es) (hs:bI ks es) (hn:ks.length<=1000000) (ih: ∀t∈ks,mJ t)
include hx hs hn ih
theorem Ss (h2:2<=ks.length) {k:Nat} (hk:k=14\/k=15\/k=17\/k=18):aa ((aQ vE).bare 76 [x]) (dc (Format.eJ k ks (ks.map Format.aB))):=by
 have hlen:=hs.len;have r:ks[0]? =some ks[0]:=aav (by omega);have u:ks[ks.length - 1]? =some ks[ks.length - 1]:=aav (by omega);have X:IntKind.wrap .i64 ((ks.length:Int) - 1)=((ks.length - 1:Nat):Int):=by rw [wrap_i64 (by omega) (by omega)];omega
 obtain ⟨x2,A,L⟩:=hx.cut (lo:=some 1) (hi:=some ((ks.length - 1:Nat):Int)) (l:=1) (m:=ks.length - 1) (iu (k:=1) (by omega)) (iu (by omega));have d:=Ki 1 (rq (ks.length - 1) hs);have B:(ks.take (ks.length - 1)).drop 1=(ks.drop 1).take (ks.length - 2):=by rw [List.drop_take,show ks.length - 1 - 1=ks.length - 2 by omega]
 rw [B] at d;have C: ∀t∈(ks.drop 1).take (ks.length - 2),mJ t:=fun t ht=>ih t (List.mem_of_mem_drop (List.mem_of_mem_take ht));have M:((ks.drop 1).take (ks.length - 2)).length=ks.length - 2:=by rw [aau,aaz];omega
 have D:Format.eJ k ks (ks.map Format.aB)=Format.uR [Format.aB ks[0],Format.Cy 1 (Format.oc ((ks.drop 1).take (ks.length - 2)) (((ks.drop 1).take (ks.length - 2)).map Format.aB)),Format.aB ks[ks.length - 1]]:=by
  rw [Format.eJ,if_neg (by omega),if_neg (by omega),if_neg (by omega),if_neg (by omega),if_neg (by omega),if_neg (by omega),if_neg (by omega),if_neg (by omega),Format.ia _ _ _ r,aaA,Format.ia _ _ _ u,List.map_take,List.map_drop]
 generalize (ks.drop 1).take (ks.length - 2)=ms at d C M D;obtain ⟨a0,b0,s0,y0,k0,t0,m0,z0,ar,av,aw,N,E,O,P⟩:=rZ hx hs r (ih _ (aaV _)) (j:=0) rfl;obtain ⟨a1,b1,s1,y1,k1,t1,m1,z1,a6,a7,F,Q,G,H,J⟩:=rZ hx hs u (ih _ (aaV _)) (j:=((ks.length - 1:Nat):Int)) rfl;refine aa.bare rfl (aa.step (VG _) ?_);simp only [g76,jz hx hs,aF,X,L,jz A d];refine aa.bind (R:=fun c=> ∃s v ws,c=(0,[v],s)/\Wv S1 s [] 4 ql v ws/\bO (Format.oc ms (ms.map Format.aB)) ws) ?_ ?_
 .refine aa.upto (n:=ms.length) (I:=fun i c=> ∃s v ws,c=([v,.int .i64 (i:Int)],s)/\Wv S1 s [] 4 ql v ws/\bO (Format.oc (ms.take i) ((ms.take i).map Format.aB)) ws) ?_ ?_ ms.length 0 _ (by omega) ⟨S1,.ax,[],rfl,Wv.start (aaO _) _ _,iz⟩
  .rintro i c hi ⟨s,v,ws,rfl,w,e⟩;have a8:=dq e;have S:=J0 (ms.take i) ((ms.take i).map Format.aB);rw [aau] at S;obtain ⟨a,b,tx,y,kk,s',m,z,zs,hN,F,Y,Z,ei,cn⟩:=rZ A d (aav hi) (C _ (aaV hi)) (j:=(i:Int)) rfl;rw [eU hi,G1];simp only [IM,ab,af,ae,ak,if_pos (show (i:Int) < (ms.length:Int) by omega),ei,bj,jm,ai,al,ah];refine aa.lx w fun s1 _ w=>aa.step (F _) ?_;refine aa.kR [] w fun s2 _ _ w=>aa.fo aag w.w rfl ?_;simp only [al,ab,af,ah,ae];refine aa.step (cn _ _) ?_;simp only [al,ab,af,ah,ae,Z.ad,Z.aD];refine aa.sj w (by omega) (by omega) (by omega) fun v3 s3 _ w=>aa.fo aag w.w rfl ?_;simp only [al,ab,af,ah,ae];refine aa.step (Gk hN [lI,pK] (by simp) _ _) (aa.step (au _ _) ?_);refine aa.bind (R:=fun c=> ∃p q g,c=([q],p)/\Wv S1 p [(s.h,46,[.int .u8 (a:Int),.int .u8 (b:Int),.str tx,y])] 4 ql q g/\bO (Format.oc (ms.take i) ((ms.take i).map Format.aB)++Format.aB ms[i]::(if Format.mH [lI,pK] ms[i] then [Format.jT] else [])) g) ?_ ?_
   .cases hb:Format.mH [lI,pK] ms[i] with
    | false=>
     refine aa.step (aq _ _) (aa.some ⟨s3,v3,_,rfl,w, ?_⟩);rw [if_neg (by simp)];exact dV e (dX Y)
    | true=>
     refine aa.step (ay _ _) (aa.step (gT _ _) ?_);simp only [al,ab,af,ah,ae,iV.ad,iV.aD];refine aa.sj w (by rw [aad];simp only [abd];omega) (by omega) (by omega) fun q p _ w=>aa.some ⟨p,q,_,rfl,w, ?_⟩;rw [if_pos trivial,aar];exact dV e (fE Y kV)
   .rintro c ⟨p,q,g,rfl,w,T⟩;simp only [ab,ae,aF,ck (show i+1<=9223372036854775807 by omega)];exact aa.inl ⟨p,q,_,rfl,w.none,T⟩
  .rintro c ⟨s,v,ws,rfl,w,e⟩;simp only [IM,ab,af,ae,ak,if_neg (show ¬ ((ms.length:Nat):Int) < (ms.length:Int) by omega)];rw [aaJ] at e;exact aa.inr ⟨s,v,ws,rfl,w,e⟩
 .rintro c ⟨s,v,ws,rfl,w,e⟩;obtain ⟨x3,K,U,e3⟩:=tj 1 (by omega) w.o e;obtain ⟨x4,V,W,e4⟩:=mj (iX.shut w.w.ro ql (es:=[.agg (eL k0 t0 m0 z0),.agg (eL 5 [] 1 x3),.agg (eL k1 t1 m1 z1)]) (by simp)) (gy N (fE U Q));simp only [ab,ae,O,H,P,J,bj,jm,ai,al,af,ah,cI,cA,ic,lL,lK,aaI,aG];refine aa.step (e3 _ _) ?_;simp only [jz hx hs,aF,X,H,J,bj,jm,ai,al,ab,af,ah,ae,cI,cA,ic,lL,lK,aaI,aG,E.ad,E.aD,G.ad,G.aD,K.ad,K.aD];refine aa.step (e4 _ _) ?_;simp only [al,ab,af,ah,ae];rw [D];exact ry (Lc.keeps w.k (fun _ _ f=>f)) V W
theorem ZF (h4:4<=ks.length):aa ((aQ vE).bare 83 [x]) (dc (Format.eJ 9 ks (ks.map Format.aB))):=by
 have hlen:=hs.len;obtain ⟨x2,g,B⟩:=hx.cut (lo:=none) (hi:=some 3) (l:=0) (m:=3) kL (iu (k:=3) (by omega));rw [aaw] at g;have p: ∀j,j+3 < ks.length->((ks.getD 2 default)::(ks.drop 3).take j).getD ((ks.drop 3).take j).length default=ks.getD (j+2) default:=fun j hj=>by
  have hl:((ks.drop 3).take j).length=j:=by rw [aau,aaz];omega
  rw [hl];cases j with
  | zero=>rfl
  | succ j=>
   rw [List.getD_cons_succ,aaE,aaE,List.getElem?_take,if_pos (by omega),abl,show 3+j=j+1+2 by omega]
 have V:Format.eJ 9 ks (ks.map Format.aB)=Format.uR (Format.bU [Format.cG] 0 ((ks.take 3).map Format.aB)++Format.gN (ks.getD 2 default) (ks.drop 3) ((ks.drop 3).map Format.aB)):=by
  rw [Format.eJ,if_neg (by decide),if_neg (by decide),if_neg (by decide),if_pos rfl,List.map_take,List.map_drop]
 refine aa.bare rfl (aa.step (Tz _) ?_);simp only [g83,B,iY,al,ab,af,ah,ae,cI,cA,ic,aaI,aG,iV.ad,iV.aD];refine aa.gu (lO g (rq _ hs) (aO.shut (by simp)) (dX lV) (by simp) (by rw [aau];omega) (fun t W=>ih t (List.mem_of_mem_take W)) S1 (aaO _)) rfl (re _) ?_;rintro v0 X ⟨C,w0,D⟩;refine aa.bind (R:=fun c=> ∃s v ws,c=(0,[v],s)/\Wv S1 s [] 4 ql v ws/\bO (Format.bU [Format.cG] 0 ((ks.take 3).map Format.aB)++Format.gN (ks.getD 2 default) (ks.drop 3) ((ks.drop 3).map Format.aB)) ws) ?_ ?_
 .refine aa.upto (n:=ks.length) (I:=fun i c=>3<=i/\ ∃s v ws,c=([v,.int .i64 (i:Int)],s)/\Wv S1 s [] 4 ql v ws/\bO (Format.bU [Format.cG] 0 ((ks.take 3).map Format.aB)++Format.gN (ks.getD 2 default) ((ks.drop 3).take (i - 3)) (((ks.drop 3).take (i - 3)).map Format.aB)) ws) ?_ ?_ (ks.length - 3) 3 _ (by omega) ⟨aal _,X,v0,C,rfl,w0,by rw [abS,List.take_zero];simpa [Format.gN] using D⟩
  .rintro i c hi ⟨h3,s,v,ws,rfl,w,e⟩;have E:=dq e;have F:=C6 ((ks.drop 3).take (i - 3)) (ks.getD 2 default) (((ks.drop 3).take (i - 3)).map Format.aB);have G:=lz [Format.cG] 0 ((ks.take 3).map Format.aB);rw [aau,aaz] at F;rw [aad] at E;rw [aaA,aau] at G;have q:ks[i - 1]? =some ks[i - 1]:=aav (by omega);have H:ks[i]? =some ks[i]:=aav hi;have Y:IntKind.wrap .i64 ((i:Int) - 1)=((i - 1:Nat):Int):=by rw [wrap_i64 (by omega) (by omega)];omega
   obtain ⟨Z,b0,t0,y0,k0,t1,m0,z0,ar,J,av,aw,a1,L,a6⟩:=rZ hx hs q (ih _ (aaV _)) (j:=((i - 1:Nat):Int)) rfl;obtain ⟨a,b,tx,y,kk,s',m,z,zs,hN,a7,hd,U,ei,cn⟩:=rZ hx hs H (ih _ (aaV hi)) (j:=(i:Int)) rfl;have M:(ks.drop 3).take (i+1 - 3)=(ks.drop 3).take (i - 3)++[ks[i]]:=by
    have N:i - 3 < (ks.drop 3).length:=by rw [aaz];omega
    rw [show i+1 - 3=(i - 3)+1 by omega,eU N,List.getElem_drop];congr 3;omega
   have r:=p (i - 3) (by omega);have O:ks.getD (i - 1) default=ks[i - 1]:=by rw [aaE,q];rfl
   rw [show i - 3+2=i - 1 by omega,O] at r;rw [M,Aq,r];have d:=fun {γ:Type} (st:St) (K:Kv γ)=>Gk J [iF] (by simp) st K;have d: ∀{γ:Type} (st:St) (K:Kv γ),bf (aQ vE) 77 [.agg [.int .u8 (Z:Int),.int .u8 (b0:Int),.str t0,y0],.sl 1 [.str [124]] .shut] st K=K (.bool (Format.mH [iF] ks[i - 1])) st q0:=fun st K=>d st K;simp only [IV,ab,af,ae,jz hx hs,ak,if_pos (show (i:Int) < (ks.length:Int) by omega),gT,al,ah];refine aa.lx w fun s1 _ w=>aa.step (iV.ad _) ?_;refine aa.kR [] w fun s2 _ _ w=> ?_;simp only [aF,Y,L,bj,jm,ai,al,ab,af,ah,ae,d,au];refine aa.bind (R:=fun c=> ∃u P Q,c=([],u)/\Wv S1 u [(s.h,ql,eL P Q 0 .ax)] 4 ql v ws/\dc (if Format.mH [iF] ks[i - 1] then Format.cG else Format.jT) (.agg (eL P Q 0 .ax))) ?_ ?_
   .cases hb:Format.mH [iF] ks[i - 1] with
    | false=>exact aa.step (aq _ _) (aa.some ⟨s2,2,[],rfl,w,by rw [if_neg (by simp)];exact kV⟩)
    | true=>
     refine aa.step (ay _ _) (aa.step (iY _ _) ?_);simp only [al,ab,af,ah,ae];refine aa.step (iV.ad _) (aa.kR [] w fun u _ _ w=>aa.some ⟨u,1,[32],rfl,w, ?_⟩);rw [if_pos trivial];exact lV
   .rintro c ⟨u,P,Q,rfl,w,hq⟩;refine aa.step (ae _) (aa.fo aag w.w rfl ?_);simp only [al,ab,af,ah,ae,ei,bj,jm,ai];refine aa.step (cn _ _) ?_;simp only [al,ab,af,ah,ae,cI,cA,ic,aaI,aG,iV.ad,iV.aD,U.ad,U.aD];refine aa.KB w (by simp) (by simp only [aae,aai];omega) (by omega) (by omega) fun v5 s5 _ w=> ?_;simp only [aF,ck (show i+1<=9223372036854775807 by omega)];refine aa.inl ⟨by omega,s5,v5,_,rfl,w.none, ?_⟩;rw [<- aar];exact dV e (fE hq hd)
  .rintro c ⟨_,s,v,ws,rfl,w,e⟩;simp only [IV,ab,af,ae,jz hx hs,ak,if_neg (show ¬ ((ks.length:Nat):Int) < (ks.length:Int) by omega)];have A:(ks.drop 3).take (ks.length - 3)=ks.drop 3:=List.take_of_length_le (by rw [aaz];exact aal _);rw [A] at e;exact aa.inr ⟨s,v,ws,rfl,w,e⟩
 .rintro c ⟨s,v,ws,rfl,w,e⟩;obtain ⟨x4,S,T,e4⟩:=mj w.o e;simp only [ab,ae];refine aa.step (e4 _ _) ?_;simp only [al,ab,af,ah,ae];rw [V];exact ry (Lc.keeps w.k (fun _ _ f=>f)) S T
end
theorem MJ (l:List T) (t:T):Format.fP (l++[t])=Format.fP l++(match Format.mV t with | some s=>[s] | none=>[]):=by
 unfold Format.fP;rw [List.filterMap_append];congr 1;cases h:Format.mV t <;> simp [h]
theorem xA (l:List T):(Format.fP l).length<=l.length:=List.length_filterMap_le _ _
abbrev sT:Td:=9
theorem Ie {k tk:Nat} {t:LB} {l:List T} {v:AV} (h:ky (.mk k tk t l) v) (hl:l.length<=100000000): ∃x,(aQ vE).bare 21 [v]=some x/\aO 1 x ((Format.fP l).map AV.str):=by
 obtain ⟨F,G,u,H,x,es,z,rfl,hx,hs⟩:=iK h;cases z;have key:aa (bB vE 21 [.agg [.int .u8 (k:Int),.int .u8 (tk:Int),.str t,x]]) (fun x=>aO 1 x ((Format.fP l).map AV.str)):=by
  refine aa.step (T8 _) ?_;simp only [g21,al,ab,af,ah,ae,hx.ad,hx.aD,jz hx hs];refine aa.bind (R:=fun c=> ∃s v,c=(0,[v],s)/\Wv S0 s [] 1 sT v ((Format.fP l).map AV.str)) ?_ ?_
  .refine aa.upto (n:=l.length) (I:=fun i c=> ∃s v,c=([v,.int .i64 (i:Int)],s)/\Wv S0 s [] 1 sT v ((Format.fP (l.take i)).map AV.str)) ?_ ?_ l.length 0 _ (by omega) ⟨S0,.ax,rfl,Wv.start (aal _) _ _⟩
   .rintro i c hi ⟨s,v,rfl,w⟩;have j:=xA (l.take i);rw [aau] at j;obtain ⟨a,b,tx,y,A,e⟩:=xW hx hs (aav hi);obtain ⟨J,K,B,l2,L,C,m,g,p,D⟩:=iK A;simp only [AV.agg.injEq,abx,AV.int.injEq,abM,Int.natCast_inj,AV.str.injEq,abZ] at g;obtain ⟨rfl,rfl,rfl,rfl⟩:=g;rw [eU hi,MJ,m];simp only [Iv,ab,af,ae,ak,if_pos (show (i:Int) < (l.length:Int) by omega)];refine aa.step (e s _) ?_;refine aa.lx w fun u _ w=>aa.step (p.ad _) ?_;refine aa.kR [] w fun E _ _ w=>aa.ff aag w.w (o:=1) rfl ?_;refine aa.step (af _ _ _) ?_;rw [show ((b:Int)==2)=(b==2) from cY b 2];refine aa.bind (R:=fun c=> ∃d f,c=([f],d)/\Wv S0 d [(s.h,46,[.int .u8 (a:Int),.int .u8 (b:Int),.str tx,y])] 1 sT f ((Format.fP (l.take i)++(match Format.mV (.mk a b tx l2) with | some s=>[s] | none=>[])).map AV.str)) ?_ ?_
    .by_cases q:b=2
     .subst q;refine aa.step (ay _ _) (aa.ff aag w.w (o:=2) rfl (aa.step (ah _ _) ?_));refine aa.sj w (by rw [aaA];omega) (by omega) (by omega) fun f d _ w=>aa.some ⟨d,f,rfl, ?_⟩;rw [aaG];exact w
     .refine aa.step (fH (c:=false) (aaB.2 q) _ _) (aa.step (aq _ _) (aa.some ⟨E,v,rfl, ?_⟩));rw [show Format.mV (.mk a b tx l2)=none from if_neg q];simpa using w
    .rintro c ⟨d,f,rfl,w⟩;simp only [ab,ae,aF,ck (show i+1<=9223372036854775807 by omega)];exact aa.inl ⟨d,f,rfl,w.none⟩
   .rintro c ⟨s,v,rfl,w⟩;simp only [Iv,ab,af,ae,ak,if_neg (show ¬ ((l.length:Nat):Int) < (l.length:Int) by omega)];rw [aaJ] at w;exact aa.inr ⟨s,v,rfl,w⟩
  .rintro c ⟨s,v,rfl,w⟩;simp only [ab,ae,kg];exact aa.Q8 w fun x hx=>aa.some hx
 obtain ⟨x',e,r⟩:=key;exact ⟨x',aU rfl e,r⟩
theorem wb {k tk:Nat} {a:LB} {l:List T} {v:AV} (h:ky (.mk k tk a l) v) (hl:l.length<=100000000): ∃x,aO 1 x ((Format.fP l).map AV.str)/\ ∀{γ:Type} (st:St) (K:Kv γ),bf (aQ vE) 21 [v] st K=K x st q0:=by
 obtain ⟨x,e,hx⟩:=Ie h hl;exact ⟨x,hx,fun st K=>sF h rfl e st K⟩
theorem LN {tk:Nat} {d:LB} {l:List T} (hl:l.length<=100000000) (z: ∀r∈Format.fP l,r.length<=1000000000) (h0:d.length<=1000000000):mJ (.mk 1 tk d l):=by
 intro v h;obtain ⟨rx,j,A⟩:=wb h hl;obtain ⟨J,L,M,N,x,es,B,rfl,hx,hs⟩:=iK h;cases B;have C:=xA l;have hnd:Format.aB (.mk 1 tk d l)=Format.row ((Format.fP l).flatMap (fun r=>[Format.tx r,Format.jT])++[Format.tx d]):=by rw [Format.aB,if_pos rfl,Format.Kw]
 have p: ∀(m:List LB),(m.flatMap (fun r=>[Format.tx r,Format.jT])).length=2 * m.length:=fun m=>by
  induction m with
  | nil=>rfl
  | cons a m ih=>rw [aa4,aad,ih,aae];simp only [aae,aai];omega
 have key:aa (bB vE 20 [.agg [.int .u8 ((1:Nat):Int),.int .u8 (tk:Int),.str d,x]]) (dc (Format.aB (.mk 1 tk d l))):=by
  rw [hnd];refine aa.step (OM _) ?_;simp only [g20,al,ab,af,ah,ae,hx.ad,hx.aD];rw [show (((1:Nat):Int) != 1)=false from rfl];refine aa.step (aq _ _) (aa.step (A _ _) ?_);simp only [j.len,aaA];generalize Format.fP l=R at *;refine aa.bind (R:=fun c=> ∃s v ws,c=(0,[v],s)/\Wv S1 s [] 4 ql v ws/\bO (R.flatMap fun r=>[Format.tx r,Format.jT]) ws) ?_ ?_
  .refine aa.upto (n:=R.length) (I:=fun i c=> ∃s v ws,c=([v,.int .i64 (i:Int)],s)/\Wv S1 s [] 4 ql v ws/\bO ((R.take i).flatMap fun r=>[Format.tx r,Format.jT]) ws) ?_ ?_ R.length 0 _ (by omega) ⟨S1,.ax,[],rfl,Wv.start (aaO _) _ _,iz⟩
   .rintro i c hi ⟨s,v,ws,rfl,w,b⟩;have g:=dq b;rw [p,aau] at g;have D:=fun {γ:Type} (st:St) (K:AV->Ln->Oq γ)=>j.idx (k:=i) (v:= .str R[i]) (by rw [aaW,aav hi];rfl) st K;have E:=z R[i] (aaV hi);rw [eU hi,List.flatMap_append];simp only [Jg,ab,af,ae,ak,if_pos (show (i:Int) < (R.length:Int) by omega),D,AV.cells,bj,aR,ai,ah,wX,gT,al,iV.ad,iV.aD];refine aa.KB w (by simp) (by simp only [aae,aai];omega) (by omega) (by omega) fun u y _ w=> ?_;simp only [aF,ck (show i+1<=9223372036854775807 by omega)];exact aa.inl ⟨y,u,_,rfl,w,dV b (fE (Ez (by omega)) kV)⟩
   .rintro c ⟨s,v,ws,rfl,w,b⟩;simp only [Jg,ab,af,ae,ak,if_neg (show ¬ ((R.length:Nat):Int) < (R.length:Int) by omega)];rw [aaJ] at b;exact aa.inr ⟨s,v,ws,rfl,w,b⟩
  .rintro c ⟨s,v,ws,rfl,w,b⟩;have g:=dq b;rw [p] at g;simp only [ab,ae,wX,al,af,ah,iV.ad,iV.aD];refine aa.sj w (by omega) (by omega) (by omega) fun u y _ w=> ?_;obtain ⟨O,q,t,F⟩:=zW w.o (dV b (dX (Ez (s:=d) (by omega))));refine aa.step (F _ _) ?_;simp only [al,ab,af,ah,ae];exact ry (Lc.keeps w.k (fun _ _ f=>f)) q t
 obtain ⟨G,e,H⟩:=key;exact ⟨G,aU rfl e,H⟩
noncomputable def Js:AV:=(ZU).getD .ax
theorem H8 {γ:Type} (st:St) (K:Kv γ):bf (aQ vE) 44 [] st K=K Js st q0:=aI st K rfl rfl rfl (aU rfl TG)
def gA (k F:Nat):Prop:=iT (Env.T vE) 105 Js (.int .u8 (k:Int)) false= .ok (.val (.fn (.func F) [] []))
theorem lk5:gA 5 73:=by unfold gA;kernel_rfl
theorem lk7:gA 7 73:=by unfold gA;kernel_rfl
theorem lk6:gA 6 79:=by unfold gA;kernel_rfl
theorem lk8:gA 8 80:=by unfold gA;kernel_rfl
theorem lk9:gA 9 83:=by unfold gA;kernel_rfl
theorem Zz:gA 10 84:=by unfold gA;kernel_rfl
theorem YT:gA 11 85:=by unfold gA;kernel_rfl
theorem Zm:gA 12 86:=by unfold gA;kernel_rfl
theorem Ze:gA 16 87:=by unfold gA;kernel_rfl
theorem Y4:gA 13 88:=by unfold gA;kernel_rfl
theorem YS:gA 14 76:=by unfold gA;kernel_rfl
theorem YX:gA 15 76:=by unfold gA;kernel_rfl
theorem Y2:gA 17 76:=by unfold gA;kernel_rfl
theorem ZL:gA 18 76:=by unfold gA;kernel_rfl
theorem fj {k F:Nat} {ks:List T} (d:k≠1) (look:gA k F) (a:vE.full F=false)
  (b: ∀(y:AV) (st:St) (K:Kv AV),iZ (aQ vE) (Sx.prim (sx vE 20)) (.fn (.func F) [] []) [y] st K=bf (aQ vE) F [y] st K) (ok:VY F k ks):mJ (node k ks):=by
 intro v h;obtain ⟨n,o,p,q,x,es,g,rfl,hx,hs⟩:=iK h;cases g;obtain ⟨i,j,c⟩:=ok x es hx hs;have l:=fun {γ:Type} (st:St) (K:Kv γ)=>aI (f:=F) st K a (by simp only [aan,aaH,hx.strip]) (by simp only [aJ,hx.bare];rfl) j;have look:iT (Env.T vE) 105 Js (.int .u8 (k:Int)) false= _:=look;have key:aa (bB vE 20 [.agg [.int .u8 (k:Int),.int .u8 ((0:Nat):Int),.str [],x]]) (dc (Format.aB (node k ks))):=by
  rw [Format.fR d];refine aa.step (OM _) ?_;simp only [g20,al,ab,af,ah,ae,hx.ad,hx.aD];rw [show ((k:Int) != 1)=true by rw [show ((k:Int) != 1)=(k != 1) from lW k 1];simpa using d];refine aa.step (ay _ _) (aa.step (H8 _ _) ?_);simp only [cI,cA,ic,aaI,aG,look,Db];refine aa.step (b _ _ _) (aa.step (l _ _) ?_);obtain ⟨k2,r,s,kids,z,zs,g,rfl,m,_⟩:=lM c;simp only [al,ab,af,ah,ae];exact ry Lc m c
 obtain ⟨i,e,c⟩:=key;exact ⟨i,aU rfl e,c⟩
def qB (t:T):Prop:=1<=(bG t).length/\((bG t).length<=1000000->mJ t)
theorem H4 (t:T) (l:List T):bg (t::l)=bG t++bg l:=by simp [bg]
theorem rU: ∀{ks:List T},(∀t∈ks,1<=(bG t).length)->ks.length<=(bg ks).length
 | [],_=>aaO _
 | t::l,h=>by
  have h1:=h t (by simp);have b:=rU (ks:=l) fun u a=>h u (aam _ a);rw [H4,aad,aae];omega
theorem nL {t:T}: ∀{ks:List T},t∈ks->(bG t).length<=(bg ks).length
 | u::l,h=>by
  rw [H4,aad];rcases aao.1 h with rfl | h
  .omega
  .have:=nL h;omega
def NE (t:bc):Prop:=t.2≠[]
theorem qD (x:bc):bG (aY x)=x.2:=by simp [aY,leaf,bG,bg]
theorem pb (k:Nat) (s:LB) (r:List bc) (_h0:k≠0) (_h1:k≠1) (_h2:k≠2) (b:NE (k,s)) (d: ∀x∈r,bC x=true/\NE x):qB (.mk 1 k s (r.map aY)):=by
 have hs:1<=s.length:=by
  cases s with
  | nil=>exact absurd rfl b
  | cons _ _=>simp
 have c:(bG (.mk 1 k s (r.map aY))).length=(bg (r.map aY)).length+s.length:=by simp [bG]
 have f:(r.map aY).length<=(bg (r.map aY)).length:=rU fun t c=>by
  obtain ⟨x,hx,rfl⟩:=aa8.1 c;have:=(d x hx).2;rw [qD];exact abN.2 this
 refine ⟨by omega,fun hl=>LN (by omega) (fun q b=> ?_) (by omega)⟩;obtain ⟨t,a,e⟩:=List.mem_filterMap.1 b;obtain ⟨x,hx,rfl⟩:=aa8.1 a;have hm:=nL a;rw [qD] at hm;have:q=x.2:=by
  have e:(if x.1=2 then some x.2 else none)=some q:=e;split at e
  .cases e;rfl
  .cases e
 rw [this];omega
theorem pk (k:Nat) (ks:List T) (a:Format.Kd k ks) (h: ∀t∈ks,qB t):qB (node k ks):=by
 have f:=rU fun t b=>(h t b).1;have b:bG (node k ks)=bg ks:=by simp [node,bG,a.k1]
 have d:=a.two;refine ⟨by rw [b];omega,fun hl=> ?_⟩;rw [b] at hl;have hn:ks.length<=1000000:=by omega
 have ih: ∀t∈ks,mJ t:=fun t b=>(h t b).2 (by have:=nL b;omega);have e:=a.kind;have c:k=5\/k=6\/k=7\/k=8\/k=9\/k=10\/k=11\/k=12\/k=13\/k=14\/k=15\/k=16\/k=17\/k=18:=by omega
 rcases c with rfl | rfl | rfl | rfl | rfl | rfl | rfl | rfl | rfl | rfl | rfl | rfl | rfl | rfl
 .exact fj (by decide) lk5 rfl (fun _ _ _=>rfl) fun x es hx hs=>XH hx hs hn ih (by omega) (.inl rfl)
 .exact fj (by decide) lk6 rfl (fun _ _ _=>rfl) fun x es hx hs=>ZO hx hs hn ih (a.k6 rfl)
 .exact fj (by decide) lk7 rfl (fun _ _ _=>rfl) fun x es hx hs=>XH hx hs hn ih (by omega) (.inr rfl)
 .exact fj (by decide) lk8 rfl (fun _ _ _=>rfl) fun x es hx hs=>ZC hx hs hn ih
 .exact fj (by decide) lk9 rfl (fun _ _ _=>rfl) fun x es hx hs=>ZF hx hs hn ih (a.k9 rfl)
 .exact fj (by decide) Zz rfl (fun _ _ _=>rfl) fun x es hx hs=>Y1 hx hs ih (a.k10 rfl)
 .exact fj (by decide) YT rfl (fun _ _ _=>rfl) fun x es hx hs=>Zw hx hs hn ih
 .exact fj (by decide) Zm rfl (fun _ _ _=>rfl) fun x es hx hs=>YW hx hs hn ih
 .exact fj (by decide) Y4 rfl (fun _ _ _=>rfl) fun x es hx hs=>WW hx hs ih (a.k13 rfl)
 .exact fj (by decide) YS rfl (fun _ _ _=>rfl) fun x es hx hs=>Ss hx hs hn ih d (.inl rfl)
 .exact fj (by decide) YX rfl (fun _ _ _=>rfl) fun x es hx hs=>Ss hx hs hn ih d (.inr (.inl rfl))
 .exact fj (by decide) Ze rfl (fun _ _ _=>rfl) fun x es hx hs=>ZD hx hs hn ih
 .exact fj (by decide) Y2 rfl (fun _ _ _=>rfl) fun x es hx hs=>Ss hx hs hn ih d (.inr (.inr (.inl rfl)))
 .exact fj (by decide) ZL rfl (fun _ _ _=>rfl) fun x es hx hs=>Ss hx hs hn ih d (.inr (.inr (.inr rfl)))
end Go.Proofs.YtkbkbndajpbcjaaGreatDoor.Vm
namespace Go.Proofs.YtkbkbndajpbcjaaGreatDoor.Vm
open Go Go.VM Go.Proofs Go.Lex Go.Parse
def JS (s:LB):Bool:=s.any fun c=>c==10||c==13
theorem H7 {s:LB} (h:s.length<=4000000000):oG [.str s,.str [10,13]]= .ok (.bool (JS s)):=by
 have h1:(s.length.blt 4294967281&&([10,13]:LB).isEqv [10,13] (fun a b=>a.toNat.beq b.toNat))=true:=by
  rw [show ([10,13]:LB).isEqv [10,13] (fun a b=>a.toNat.beq b.toNat)=true from rfl,abh];exact cZ.2 (by omega)
 simp only [oG,h1,JS]
theorem JD: ∀(l:List T),Format.jU l=l.any Format.fB
 | []=>rfl
 | t::l=>by simp only [Format.jU,aby,JD l]
theorem CF {l:List T} {x:AV} {es:LA} (hx:aO 4 x es) (hs:bI l es) (o: ∀t∈l,∀v,ky t v->(aQ vE).bare 19 [v]=some (.bool (Format.fB t))) (st:St): ∀(m:List T) (j:Nat),l.drop j=m->
  ∃(k:Nat) (i:Int),bl (oa x (.fn (.func 19) [] []) l.length) ([.int .i64 0,.int .i64 (j:Int)],st)=some (k,[.int .i64 i],st)/\((k=0/\m.any Format.fB=false)\/(k=1/\0<=i/\m.any Format.fB=true))
 | [],j,n=>by
  have:=abi.1 n;have q:¬ (j:Int) < (l.length:Int):=by omega
  refine ⟨0,0,bE ?_,.inl ⟨rfl,rfl⟩⟩;simp only [oa,ab,af,ae,ak,if_neg q]
 | t::m,j,n=>by
  obtain ⟨d,r,u⟩:=drop_cons n;have q:(j:Int) < (l.length:Int):=by omega
  have hlen:=JE hx hs;obtain ⟨a,b,s,y,p,e⟩:=xW hx hs d;have c:=o t (aaK d) _ p;have w: ∀{γ:Type} (st:St) (K:Kv γ),iZ (aQ vE) (Sx.prim (sx vE 68)) (.fn (.func 19) [] []) [.agg [.int .u8 (a:Int),.int .u8 (b:Int),.str s,y]] st K=K (.bool (Format.fB t)) st q0:=fun st K=>(show _=bf (aQ vE) 19 [_] st K from rfl).trans (sF p rfl c st K);have f:oa x (.fn (.func 19) [] []) l.length ([.int .i64 0,.int .i64 (j:Int)],st)=bu (Format.fB t) (some (.inr (1,[.int .i64 (j:Int)],st))) (some (.inl ([.int .i64 0,.int .i64 ((j+1:Nat):Int)],st))):=by
   simp only [oa,ab,af,ae,ak,if_pos q];refine (e st _).trans ?_;simp only [w,au,aF,ck (show j+1<=9223372036854775807 by omega)]
  cases g:Format.fB t with
  | true=>
   rw [g] at f;exact ⟨1,j,bE f,.inr ⟨rfl,by omega,by simp [g]⟩⟩
  | false=>
   rw [g] at f;obtain ⟨k,i,z,h⟩:=CF hx hs o st m (j+1) r;refine ⟨k,i,by rw [bA f,z], ?_⟩;simpa [g] using h
theorem tu {tk:Nat} {tx:LB} {l:List T}:bG (.mk 1 tk tx l)=bg l++tx:=by simp [bG]
theorem u6 {k tk:Nat} {tx:LB} {l:List T} (h:k≠1):bG (.mk k tk tx l)=bg l:=by simp [bG,h]
theorem An {t:T}: ∀{ks:List T},t∈ks->(bG t).length<=(bg ks).length
 | u::l,h=>by
  rw [bg,aad];rcases aao.1 h with rfl | h
  .omega
  .have:=An h;omega
theorem OS: ∀(t:T),(bG t).length<=1000000000-> ∀(v:AV),ky t v->(aQ vE).bare 19 [v]=some (.bool (Format.fB t)):=by
 refine T.ind fun k tk tx l ih hlen v b=> ?_;simp only [ky] at b;obtain ⟨x,es,rfl,hx,hs⟩:=b;have m:(bg l).length<=1000000000:=by
  by_cases h:k=1
  .subst h;rw [tu,aad] at hlen;omega
  .rw [u6 h] at hlen;exact hlen
 have ih: ∀t∈l,∀v,ky t v->(aQ vE).bare 19 [v]=some (.bool (Format.fB t)):=fun t d=>ih t d (by have:=An d;omega);have n:(aQ vE).bare 35 [x,.fn (.func 19) [] []]=some (.bool (Format.jU l)):=by
  rw [JD];have hi: ∃i:Int,(aQ vE).bare 68 [x,.fn (.func 19) [] []]=some (.int .i64 i)/\decide (i>=0)=l.any Format.fB:=by
   obtain ⟨k,i,e,h⟩:=CF hx hs ih S0 l 0 rfl;have e:bl (oa x (.fn (.func 19) [] []) l.length) ([.int .i64 0,.int .i64 0],S0)= _:=e;rcases h with ⟨rfl,h⟩ | ⟨rfl,h0,h⟩
   .refine ⟨-1,aU rfl ((E5 _ _).trans ?_),by rw [h];rfl⟩;simp only [XD,jz hx hs,e,ai,ab,af,ae,gU]
   .refine ⟨i,aU rfl ((E5 _ _).trans ?_),by rw [h];simpa using h0⟩;simp only [XD,jz hx hs,e,ai,ab,af,ae,pE]
  obtain ⟨i,h1,g⟩:=hi;refine aU rfl ((Od _ _).trans ?_);have c:=fun {β:Type} (st:St) (K:Kv β)=>aI (f:=68) st K rfl (by simp only [aan,aaH,hx.strip];rfl) (by simp only [aJ,hx.bare];rfl) h1;simp only [Zb,c,af,g]
 have j:=fun {β:Type} (st:St) (K:Kv β)=>aI (f:=35) st K rfl (by simp only [aan,aaH,hx.strip];rfl) (by simp only [aJ,hx.bare];rfl) n;refine aU rfl ((Wh _).trans ?_);have o:((k:Int)==1)=(k==1):=cY k 1;have p:((tk:Int)==2)=(tk==2):=cY tk 2;have q:((tk:Int)==7)=(tk==7):=cY tk 7;have a:(tx.any fun c=>c==10||c==13)=JS tx:=rfl;simp only [g19,al,ab,af,ah,ae,hx.ad,hx.aD,o,p,q,Format.fB,a];cases h1:k==1 with
 | false=>simp only [aq,j,ai,ab,au,ae,abF,abo]
 | true=>
  have r:k=1:=aaX.1 h1;subst r;have hl:=fun {β:Type} (st:St) (K:Kv β)=>fO (O:=aQ vE) (H7 (s:=tx) (by rw [tu,aad] at hlen;omega)) st K;generalize JS tx=A at *;simp only [ay,hl];cases g:tk==2 <;> cases u:tk==7 <;> cases A <;> simp only [ay,aq,hl,j,ai,ab,au,ae,abF,abo,abJ,abY,abh,abR,ab7,Bool.or_true,aaI,Bool.or_self]
theorem Jc {t:T} {v:AV} (a:ky t v) (h:(bG t).length<=1000000000) {γ:Type} (st:St) (K:Kv γ):bf (aQ vE) 19 [v] st K=K (.bool (Format.fB t)) st q0:=sF a rfl (OS t h v a) st K
end Go.Proofs.YtkbkbndajpbcjaaGreatDoor.Vm
namespace Go.Proofs.YtkbkbndajpbcjaaGreatDoor.Vm
open Go Go.VM Go.Proofs Go.Lex Go.Parse Go.Lay
theorem Dg: ∀(i:Nat) (l m:List Doc),Format.cT i (l++m)=Format.cT i l++Format.cT (i+l.length) m
 | i,[],m=>by simp [Format.cT]
 | i,d::l,m=>by
  rw [aat,Format.cT,Format.cT,Dg (i+1) l m,aae,aar,show i+1+l.length=i+(l.length+1) by omega];rfl
theorem CZ: ∀(i:Nat) (l:List Doc),(Format.cT i l).length<=3 * l.length
 | i,[]=>by simp [Format.cT]
 | i,d::l=>by
  have:=CZ (i+1) l;rw [Format.cT];split <;> simp only [aad,aae,aai] <;> omega
theorem Ev {s:LB} {t:T} (h:Lf NE s t):qB t:=Format.dU pb h
theorem U3 {t:T} (h:ET NE t):qB t:=(Format.E2 pb pk _).1 _ (aa3 _) h
theorem Pf {t:T} (h:PT NE t):qB t:=(Format.E2 pb pk _).2.1 _ (aa3 _) h
theorem QW {l:List T} (h:BT NE l): ∀x∈l,qB x:=by
 intro x hx;cases h with
 | mk a hp b c he=>
  simp only [aao,aaC,aaQ,aaF,or_false] at hx;rcases hx with ((hx | rfl | hx) | rfl) | rfl
  .rcases a with rfl | ⟨r,a,rfl⟩
   .cases hx
   .rw [aaQ.1 hx];exact Ev a
  .exact Pf hp
  .exact Pf (b x hx)
  .exact Ev c
  .exact U3 he
theorem Lj {a:T} {bs:List T} (c:Lf NE ub a) (b:BT NE bs):qB (node 5 (a::bs)):=by
 have:=Format.OQ b;refine pk 5 _ (Format.xD (by simp only [aae];omega) (.inl rfl)) fun x hx=> ?_;rcases aao.1 hx with rfl | hx
 .exact Ev c
 .exact QW b x hx
theorem FT: ∀(l:List T),DT NE l-> ∃(ds:List T) (r:List bc),l=ds++[.mk 1 0 [] (r.map aY)]/\(∀t∈ds,qB t)/\ ∀x∈r,NE x
 | _,.last (ks:=ks) c=>by
  obtain ⟨r,rfl,d⟩:=c;exact ⟨[],r,rfl,(by simp),fun x hx=>(d x hx).2⟩
 | _,.cons (a:=a) (bs:=bs) (l:=l) e f hl=>by
  obtain ⟨ds,r,rfl,h1,g⟩:=FT l hl;refine ⟨node 5 (a::bs)::ds,r,rfl,fun t b=> ?_,g⟩;rcases aao.1 b with rfl | b
  .exact Lj e f
  .exact h1 t b
theorem L8 (s:LB):rJ NE (tokens s):=fun t a=>(Ast.Jm _ s t a).1
theorem Mg {s:LB} (f:dS (doc (tokens s))=true): ∃(ds:List T) (r:List bc),doc (tokens s)=node 4 (ds++[.mk 1 0 [] (r.map aY)])/\(s.length<=65536->ds.length<=65536/\r.length<=65536/\ ∀t∈ds,mJ t):=by
 obtain ⟨l,g,c⟩:=jK (tokens s);have b:=f;rw [c] at b;have d:=mu (Q:=NE) _ _ _ g (gL s) (L8 s) (eh b);obtain ⟨ds,r,rfl,h1,h⟩:=FT l d;refine ⟨ds,r,c,fun hs=> ?_⟩;have a:bg (ds++[.mk 1 0 [] (r.map aY)])=s:=by
  have:=BN (tokens s) (gL s);rw [c,nq] at this;rw [<- this];exact (u6 (by decide)).symm
 have hl:=aaU List.length a;rw [dE,aad] at hl;have j:(bg [T.mk 1 0 [] (r.map aY)]).length=(bg (r.map aY)).length:=by
  rw [H4,tu];simp [bg]
 have i:=rU fun t a=>(h1 t a).1;have e:(r.map aY).length<=(bg (r.map aY)).length:=rU fun t a=>by
  obtain ⟨x,hx,rfl⟩:=aa8.1 a;rw [qD];exact abN.2 (h x hx)
 rw [aaA] at e;refine ⟨by omega,by omega,fun t a=>(h1 t a).2 ?_⟩;have:=nL a;omega
theorem fzD {st:St} {x x':AV} (a: ∀n,VM.freeze st 0 (n+1) x= .ok x') (k:Int) (s:LB) (m:Int) (n:Nat):VM.freeze st 0 (n+2) (.agg (eL k s m x))= .ok (.agg (eL k s m x')):=by
 have h:lB (VM.freeze st 0 (n+1)) (eL k s m x)= .ok (eL k s m x'):=bF (fC _ _ st 0 (n+1) (by omega)) (bF (uO _ st 0 (n+1) (by omega)) (bF (fC _ _ st 0 (n+1) (by omega)) (bF (a n) nV)));show (do pure (.agg (<- lB (VM.freeze st 0 (n+1)) (eL k s m x))):df AV)= _;rw [h];rfl
theorem KW {st:St} {x x':AV} {es:LA} (hx:aO 4 x' es) (a: ∀n,VM.freeze st 0 (n+1) x= .ok x') (k:Int) (s:LB) (m n:Int) {β:Type} (K:AV->Oq β):
  eF st 0 (.tup [.agg (eL k s m x),.int .i64 n]) K=K (.tup [.agg (eL k s m x'),.int .i64 n]):=by
 refine Ka (bF (fzD a k s m 97) (bF (fC _ _ st 0 99 (by omega)) nV)) ?_ K;simp only [aJ,mf,hx.bare];rfl
theorem Kk {st:St} (w:Vw st [(0,ql,d4)]) (n:Int):
  aa (aK (aQ vE) 4 (.mp 0 0) (.agg d4) d4 st fun _ s _=>ao 4 true (.mp 0 0) s fun v _=>uz v fun l=>bo l fun v1 l=>bK .u8 v1 fun a=>bo l fun b l=>fG b fun c=>bo l fun d l=>bK .i64 d fun e=>bo l fun f l=>bQ l (eF s 0 (.tup [.agg [.int .u8 a,.str c,.int .i64 e,f],.int .i64 n]) fun v=>some v)) (· = .tup [.agg d4,.int .i64 n]):=by
 refine aa.qC [] w (fun g _ _ w=>aa.fo aag w rfl ?_);simp only [al,ab,af,ah,ae];exact aa.step (KW aO.ax (fun n=>KS g 0 (n+1) (by omega)) 0 [] 0 n _) (aa.some rfl)
def Eg (s:LB) (b:AV):Prop:=match Format.xq s with
 | .ok d=> ∃a,b= .tup [a,.int .i64 0]/\dc d a
 | .error n=>b= .tup [.agg d4,.int .i64 (n:Int)]
theorem VL {ds:List T} {x:AV} {es:LA} (hx:aO 4 x es) (hs:bI ds es) (hn:ds.length<=100000) (ih: ∀t∈ds,mJ t) {st0:St} (f:st0.ro<=st0.h):
  aa (bl (Kc x es.length) ([.ax,.int .i64 0],st0)) fun c=> ∃s v ws,c=(0,[v],s)/\Wv st0 s [] 4 ql v ws/\bO (ds.map Format.aB) ws:=by
 have hlen:=hs.len;refine aa.upto (n:=ds.length) (I:=fun i c=> ∃s v ws,c=([v,.int .i64 (i:Int)],s)/\Wv st0 s [] 4 ql v ws/\bO ((ds.take i).map Format.aB) ws) ?_ ?_ ds.length 0 _ (by omega) ⟨st0,.ax,[],rfl,Wv.start f _ _,iz⟩
 .rintro i c hi ⟨s,v,ws,rfl,w,d⟩;have g:=dq d;rw [aaA,aau] at g;obtain ⟨a,b,tx,z,y,j,e,k,s',m,q,A,o,l,p⟩:=Hw hx hs (aav hi) (ih _ (aaV hi));rw [eU hi,aaG];simp only [Kc,ab,af,ae,ak,if_pos (show (i:Int) < (es.length:Int) by omega)];refine aa.step (e s _) ?_;refine aa.lx w fun B _ w=>aa.step (j _) ?_;refine aa.kR [] w fun C _ _ w=> ?_;refine aa.fo aag w.w rfl ?_;simp only [al,ab,af,ah,ae];refine aa.step (p _ _) ?_;simp only [al,ab,af,ah,ae,l.ad,l.aD];refine aa.sj w (by omega) (by omega) (by omega) fun r u _ w=> ?_;simp only [aF,ck (show i+1<=9223372036854775807 by omega)];exact aa.inl ⟨u,r,_,rfl,w.none,dV d (dX o)⟩
 .rintro c ⟨s,v,ws,rfl,w,d⟩;simp only [Kc,ab,af,ae,ak,if_neg (show ¬ ((ds.length:Nat):Int) < (es.length:Int) by omega)];rw [aaJ] at d;exact aa.inr ⟨s,v,ws,rfl,w,d⟩
theorem U4 {R:List LB} {x:AV} (hx:aO 1 x (R.map AV.str)) (hn:R.length<=100000) (g: ∀r∈R,r.length<=1000000000) {st0 st1:St} {v0:AV} {a:LA} {d:List Doc} (w0:Wv st0 st1 [] 4 ql v0 a) (e:bO d a) (o:d.length<=100000):
  aa (bl (K6 x R.length) ([v0,.int .i64 0],st1)) fun c=> ∃s v ws,c=(0,[v],s)/\Wv st0 s [] 4 ql v ws/\bO (d++R.map Format.tx) ws:=by
 refine aa.upto (n:=R.length) (I:=fun i c=> ∃s v ws,c=([v,.int .i64 (i:Int)],s)/\Wv st0 s [] 4 ql v ws/\bO (d++(R.take i).map Format.tx) ws) ?_ ?_ R.length 0 _ (by omega) ⟨st1,v0,a,rfl,w0,by simpa using e⟩
 .rintro i c hi ⟨s,v,ws,rfl,w,b⟩;have f:=dq b;rw [aad,aaA,aau] at f;have h:=fun {γ:Type} (st:St) (K:AV->Ln->Oq γ)=>hx.idx (k:=i) (v:= .str R[i]) (by rw [aaW,aav hi];rfl) st K;have j:=g R[i] (aaV hi);rw [eU hi,aaG, <- aar];simp only [K6,ab,af,ae,ak,if_pos (show (i:Int) < (R.length:Int) by omega),h,AV.cells,bj,aR,ai,ah,wX,al,iV.ad,iV.aD];refine aa.sj w (by omega) (by omega) (by omega) fun l m _ w=> ?_;simp only [aF,ck (show i+1<=9223372036854775807 by omega)];exact aa.inl ⟨m,l,_,rfl,w,dV b (dX (Ez (by omega)))⟩
 .rintro c ⟨s,v,ws,rfl,w,b⟩;simp only [K6,ab,af,ae,ak,if_neg (show ¬ ((R.length:Nat):Int) < (R.length:Int) by omega)];rw [aaJ] at b;exact aa.inr ⟨s,v,ws,rfl,w,b⟩
theorem VT {D:List Doc} {x:AV} {ws:LA} {e:Td} {sx:St} (hx:iX sx 4 e x ws) (t:bO D ws) (hn:D.length<=200000) {st0 st1:St} (w0:Wv st0 st1 [(st0.h,ql,eL 7 [] 0 .ax)] 4 ql .ax []):
  aa (bl (KL x st0 ws.length) ([.int .i64 0],st1)) fun c=> ∃s y us,c=(0,[],s)/\Wv st0 s [(st0.h,ql,eL 7 [] 0 y)] 4 ql y us/\bO (Format.cT 0 D) us:=by
 have hlen:=dq t;refine aa.upto (n:=D.length) (I:=fun i c=> ∃s y us,c=([.int .i64 (i:Int)],s)/\Wv st0 s [(st0.h,ql,eL 7 [] 0 y)] 4 ql y us/\bO (Format.cT 0 (D.take i)) us) ?_ ?_ D.length 0 _ (by omega) ⟨st1,.ax,[],rfl,w0,iz⟩
 .rintro i c hi ⟨s,y,us,rfl,w,a⟩;have v:=dq a;have A:=CZ 0 (D.take i);rw [aau] at A;obtain ⟨u,g,b⟩:=xc t (aav hi);obtain ⟨k,s',m,kids,z,zs,H,rfl,j,_⟩:=lM b;have l:Format.cT 0 (D.take (i+1))=Format.cT 0 (D.take i)++((if i=0 then [] else [Format.Oh])++[D[i],Format.Oh]):=by
   rw [eU hi,Dg,aau,abG (by omega),aax,Format.cT,Format.cT]
  rw [l];simp only [KL,ab,af,ae,ak,if_pos (show (i:Int) < (ws.length:Int) by omega)];refine aa.step (zv hx g _ _) ?_;simp only [AV.cells,bj,jm,ai,al,ab,af,ah,ae];refine aa.lx w fun J _ w=>aa.step (j.ad _) ?_;refine aa.kR [] w fun B _ _ w=> ?_;refine aa.bind (R:=fun c=> ∃p y us,c=([],p)/\Wv st0 p [(s.h,ql,eL k s' m z),(st0.h,ql,eL 7 [] 0 y)] 4 ql y us/\bO (Format.cT 0 (D.take i)++(if i=0 then [] else [Format.Oh])) us) ?_ ?_
  .by_cases h0:i=0
   .subst h0;exact aa.step (if_neg (by omega)) (aa.some ⟨B,y,us,rfl,w,by simpa using a⟩)
   .rw [if_neg h0];refine aa.step (if_pos (by omega)) ?_;refine aa.ff (aam _ aag) w.w (o:=3) rfl ?_;refine aa.sj w (by omega) (by omega) (by omega) fun q C _ w=> ?_;refine aa.one w.o.one (aa.one w.o.one ?_);exact aa.Zo [_] w (aah rfl) fun r E _ w=>aa.some ⟨r,q,_,rfl,w,dV a (dX JP)⟩
  .rintro c ⟨p,K,F,rfl,w,d⟩;have f:=dq d;rw [aad] at f;have G:(if i=0 then ([]:List Doc) else [Format.Oh]).length<=1:=by split <;> simp
   simp only [ae];refine aa.ff (aam _ aag) w.w (o:=3) rfl ?_;refine aa.fo aag w.w rfl ?_;simp only [al,ab,af,ah,ae,j.ad,j.aD];refine aa.KB w (by simp) (by simp only [aae,aai];omega) (by omega) (by omega) fun q C _ w=> ?_;refine aa.one w.o.one (aa.one w.o.one ?_);refine aa.Zo [_] w (aah rfl) fun r E _ w=> ?_;simp only [aF,ck (show i+1<=9223372036854775807 by omega)];refine aa.inl ⟨r,q,_,rfl,w.sub (abr _ _), ?_⟩;rw [<- aar];exact dV d (fE b JP)
 .rintro c ⟨s,y,us,rfl,w,a⟩;simp only [KL,ab,af,ae,ak,if_neg (show ¬ ((D.length:Nat):Int) < (ws.length:Int) by omega)];rw [aaJ] at a;exact aa.inr ⟨s,y,us,rfl,w,a⟩
theorem Mm (s:LB): ∃b,(aQ vE).bare 9 [.str s]=some b/\Eg s b:=by
 obtain ⟨v,j,_,ep⟩:=Cc s;have key:aa (bB vE 9 [.str s]) (Eg s):=by
  obtain ⟨k,tk,tx,kids,x,es,n,rfl,hx,hs⟩:=iK j;refine aa.step (X4 _) ?_;unfold g9;refine aa.step (ah _ _) (aa.step (ep _ _) ?_);simp only [br,aP,ba,al,ab,af,ah,ae];refine aa.Au Lc fun s1 _ w=>aa.step (hx.ad _) ?_;refine aa.qC [] w fun s2 _ _ w=> ?_;have w0:=w.sub (abr _ _);rcases DD s with ⟨h0,h1,g⟩ | ⟨h0,h1⟩ | ⟨h0,h1,g⟩
  .rw [h0];have h:¬ 65536 < s.length:=by rw [h1];exact id
   have F:la s=doc (tokens s):=by unfold la;rw [if_pos h0]
   rw [F] at j n;have W:(bG (doc (tokens s))).length<=65536:=by rw [BN _ (gL s),nq];omega
   refine aa.step (aq _ _) (aa.fo aag w rfl ?_);simp only [al,ab,af,ah,ae];refine aa.step (sF j rfl (KH _ _ j) _ _) (aa.step (au _ _) ?_);cases C:dS (doc (tokens s)) with
   | false=>
    refine aa.step (ay _ _) ((Kk w0 50).mono fun b d=> ?_);unfold Eg Format.xq;rw [if_neg h,if_pos g,if_neg (by rw [C];exact abP)];exact d
   | true=>
    refine aa.step (aq _ _) (aa.fo aag w rfl ?_);simp only [al,ab,af,ah,ae];refine aa.step (Jc j (by omega) _ _) (aa.step (au _ _) ?_);cases he:Format.fB (doc (tokens s)) with
    | true=>
     refine aa.step (ay _ _) ((Kk w0 4).mono fun b d=> ?_);unfold Eg Format.xq;rw [if_neg h,if_pos g,if_pos C,if_pos he];exact d
    | false=>
     have hL:Format.xq s= .ok (Format.row (Format.cT 0 (Format.eP (doc (tokens s)).kids))):=by
      unfold Format.xq;rw [if_neg h,if_pos g,if_pos C,if_neg (by rw [he];exact abP)]
     obtain ⟨ds,r,G,H⟩:=Mg C;obtain ⟨ar,av,I⟩:=H (by omega);have hk:kids=ds++[.mk 1 0 [] (r.map aY)]:=by rw [G] at n;injection n with _ _ _ e;exact e.symm
     have J:(doc (tokens s)).kids=ds++[.mk 1 0 [] (r.map aY)]:=by rw [G];rfl
     rw [J] at hL;have K:Format.eP (ds++[.mk 1 0 [] (r.map aY)])=ds.map Format.aB++(Format.fP (r.map aY)).map Format.tx:=by
      unfold Format.eP;rw [aad,abd,Nat.add_sub_cancel,abL,Format.qX,aaE,aaM (aal _),abS];rfl
     rw [K] at hL;subst hk;have aw:es.length=ds.length+1:=by rw [hs.len,aad,abd]
     obtain ⟨x1,i,p⟩:=hx.cut (lo:=none) (hi:=some (ds.length:Int)) (l:=0) (m:=ds.length) rfl (by
      show (match ds.length.ble es.length with | true=>some ds.length | false=>none)= _;rw [aaL (by omega)])
     rw [aaw] at i;have L:bI ds (es.take ds.length):=by
      have:=rq ds.length hs
      rwa [abL] at this
     have a1:(es.take ds.length).length=ds.length:=by rw [aau];omega
     refine aa.step (aq _ _) (aa.ff aag w (o:=3) rfl (aa.step (hx.len _) ?_));rw [show IntKind.wrap .i64 ((es.length:Int) - 1)=(ds.length:Int) by rw [wrap_i64 (by omega) (by omega)];omega];simp only [aF];refine aa.ff aag w (o:=3) rfl (aa.step (p _) (aa.step (i.len _) ?_));refine aa.bind (VL i L (by omega) I w.ro) ?_;rintro c ⟨s3,v3,a6,rfl,X,M⟩;have D:=w.keeps X.k (fun _ _ f=>f);simp only [ab,ae];refine aa.ff aag D (o:=3) rfl ?_;obtain ⟨vl,N,u⟩:=bI.at (k:=ds.length) (t:= .mk 1 0 [] (r.map aY)) hs (by rw [aaM (aal _),abS];rfl);obtain ⟨a,b,sl,ll,yl,a7,a8,rfl,bb,_⟩:=iK u;refine aa.step (hx.idx N _ _) ?_;simp only [AV.cells,bj,jm,ai,al,ab,af,ah,ae];obtain ⟨xr,z,er⟩:=wb u (by rw [aaA];omega);have O:=xA (r.map aY);rw [aaA] at O;have P: ∀q∈Format.fP (r.map aY),q.length<=1000000000:=fun q n=>by
      obtain ⟨t,Y,e⟩:=List.mem_filterMap.1 n;obtain ⟨y,hy,rfl⟩:=aa8.1 Y;have e:(if y.1=2 then some y.2 else none)=some q:=e;have d:(bG (aY y)).length<=(bG (doc (tokens s))).length:=by
       have h1:=nL Y;rw [G];have g:(bG (T.mk 1 0 [] (r.map aY))).length<=(bg (ds++[.mk 1 0 [] (r.map aY)])).length:=nL (List.mem_append_right _ aag);rw [tu,aad] at g;rw [show bG (node 4 (ds++[.mk 1 0 [] (r.map aY)]))=bg (ds++[.mk 1 0 [] (r.map aY)]) from u6 (by decide)];omega
      rw [qD] at d;split at e
      .cases e;omega
      .cases e
     generalize Format.fP (r.map aY)=R at *;refine aa.step (er _ _) (aa.step (z.len _) ?_);rw [aaA];refine aa.bind (U4 z (by omega) P X M (by rw [aaA];omega)) ?_;rintro c ⟨s4,v4,bt,rfl,Q,A⟩;have D:=w.keeps Q.k (fun _ _ f=>f);simp only [ab,ae];refine aa.step (aI _ _ rfl rfl rfl (N1 aO.ax)) ?_;simp only [al,ab,af,ah,ae];refine aa.lx (Wv.start D.ro 4 ql) fun s5 b4 w5=>aa.step (iV.ad _) ?_;refine aa.kR [] w5 fun s6 _ _ w6=>aa.step (EW Q.o _) ?_;have b5:=dq A;refine aa.bind (VT Q.o A (by rw [aad,aaA,aaA];omega) w6) ?_;rintro c ⟨s7,y7,b6,rfl,E,S⟩;have U:Vw s7 [(0,ql,d4)]:=(D.keeps E.k (fun _ _ f=>f)).sub (abr _ _);simp only [ae];refine aa.fo aag E.w rfl ?_;simp only [al,ab,af,ah,ae];refine aa.one E.o.one ?_;refine aa.nM [] ⟨U,E.o⟩ (aah rfl) fun s8 o8 _ Z=> ?_;refine aa.fo aag Z.w rfl ?_;obtain ⟨xf,B,V⟩:=ri Z.o;show aa (uz (.agg (eL 7 [] 0 y7)) _) _;simp only [al,ab,af,ah,ae];refine aa.step (KW B V 7 [] 0 0 _) (aa.some ?_);unfold Eg;rw [hL];exact ⟨_,rfl,oo (by omega) (by simp) (by omega) B S⟩
  .rw [h0];refine aa.step (ay _ _) ((Kk w0 40).mono fun b d=> ?_);unfold Eg Format.xq;rw [if_pos h1];exact d
  .rw [h0];refine aa.step (ay _ _) ((Kk w0 4).mono fun b d=> ?_);unfold Eg Format.xq;rw [if_neg h1,if_neg (by rw [g];exact abP)];exact d
 obtain ⟨b,e,d⟩:=key;exact ⟨b,aU rfl e,d⟩
end Go.Proofs.YtkbkbndajpbcjaaGreatDoor.Vm
namespace Go.Proofs.YtkbkbndajpbcjaaGreatDoor.Vm
open Go Go.VM Go.Proofs Go.Lay
def kQ {α:Type} (R:α->AV->Prop):List α->LA->Prop
 | [],ws=>ws=[]
 | a::l,ws=> ∃v vs,ws=v::vs/\R a v/\kQ R l vs
theorem kQ.len {α:Type} {R:α->AV->Prop}: ∀{l:List α} {ws:LA},kQ R l ws->ws.length=l.length
 | [],_,h=>by rw [show _=[] from h];rfl
 | a::l,_,h=>by
  obtain ⟨v,vs,rfl,_,h⟩:=h;simp [kQ.len h]
theorem kQ.append {α:Type} {R:α->AV->Prop}: ∀{l m:List α} {ws us:LA},kQ R l ws->kQ R m us->kQ R (l++m) (ws++us)
 | [],_,_,_,h,k=>by rw [show _=[] from h];exact k
 | a::l,_,_,_,h,k=>by
  obtain ⟨v,vs,rfl,h1,h⟩:=h;exact ⟨v,vs++ _,rfl,h1,kQ.append h k⟩
theorem kQ.at {α:Type} {R:α->AV->Prop}: ∀{l:List α} {ws:LA} {i:Nat} {a:α},kQ R l ws->l[i]? =some a-> ∃v,ws[i]? =some v/\R a v
 | [],_,_,_,_,h=>by simp at h
 | b::l,_,0,a,h,hi=>by
  obtain ⟨v,vs,rfl,h1,_⟩:=h;simp at hi;subst hi;exact ⟨v,rfl,h1⟩
 | b::l,_,i+1,a,h,hi=>by
  obtain ⟨v,vs,rfl,_,h⟩:=h;obtain ⟨u,c,d⟩:=kQ.at h (by simpa using hi);exact ⟨u,by simpa using c,d⟩
theorem bO.all: ∀{ds:List Doc} {es:LA},bO ds es->kQ dc ds es
 | [],_,h=>h
 | _:: _,_,h=>by
  obtain ⟨v,vs,rfl,h1,h⟩:=h;exact ⟨v,vs,rfl,h1,h.all⟩
def je (f:jV) (v:AV):Prop:= ∃a b c d,dc f.1 (.agg [a,b,c,d])/\v= .agg [a,b,c,d,.int .i64 f.2.1,.bool f.2.2]
theorem DO (ind:Int) (fl:Bool) {kids:List Doc} {x:AV} {es:LA} (hx:aO 4 x es) (q:bO kids es): ∀(m:Nat) (v:AV) (st:St) (ws:LA),m<=kids.length->iX st 6 82 v ws->ws.length+m<=1000000->
  ∃st' v' us,bl (Ed ind fl x) ([v,.int .i64 ((m:Int) - 1)],st)=some (0,[v'],st')/\kQ je ((kids.take m).reverse.map fun d=>(d,ind,fl)) us/\iX st' 6 82 v' (ws++us)/\(v≠ .ax/\v≠ .es->v'≠ .ax/\v'≠ .es)
 | 0,v,st,ws,_,r,_=>by
  refine ⟨st,v,[], ?_,rfl,by simpa using r,id⟩;rw [pX];simp [Ed]
 | m+1,v,st,ws,hm,r,I=>by
  have hlen:=q.all.len;have D:kids[m]? =some kids[m]:=aav (by omega);obtain ⟨u,E,a⟩:=q.all.at D;have t:(m:Int)>=0:=by omega
  have w:((m+1:Nat):Int) - 1=(m:Int):=by omega
  have F:IntKind.wrap .i64 ((m:Int) - 1)=(m:Int) - 1:=wrap_i64 (by omega) (by have:=hx.1;omega);have g:=fun (st:St) (K:AV->Ln->Oq (Sum cJ (Nat×cJ)))=>hx.idx E st K;have i:kids.take (m+1)=kids.take m++[kids[m]]:=List.take_succ_eq_append_getElem (by omega);generalize kids[m]=d at a i;obtain ⟨k,s,n,ks⟩:=d;have e:=a;obtain ⟨y,es',rfl,J,r2,L,hy,G⟩:=a;have f:dn (ws.length+[AV.agg [.int .u8 k,.str s,.int .i64 n,y,.int .i64 ind,.bool fl]].length) ⟨.other,6,72,[],false,false⟩=true:=by
   simp only [dn,abd,aak];exact ⟨aaL (by omega),rfl,aaL (by omega)⟩
  obtain ⟨z,A,M,l,c,_,_⟩:=sX (b:=72) r (new:=[.agg [.int .u8 k,.str s,.int .i64 n,y,.int .i64 ind,.bool fl]]) (by simp) f;have B:z≠ .ax/\z≠ .es:=by
   rcases c.2.2 with ⟨_,h⟩ | rfl | ⟨j,rfl,_⟩
   .simp at h
   .exact ⟨(by intro h;cases h),(by intro h;cases h)⟩
   .exact ⟨(by intro h;cases h),(by intro h;cases h)⟩
  obtain ⟨st',v',us,hrun,C,o,p⟩:=DO ind fl hx q m z A _ (by omega) c (by rw [aad];simp;omega);refine ⟨st',v',.agg [.int .u8 k,.str s,.int .i64 n,y,.int .i64 ind,.bool fl]::us, ?_, ?_,by simpa using o,fun _=>p B⟩
  .have H:jx 4 true [.int .u8 k,.str s,.int .i64 n,y]=some (.agg [.int .u8 k,.str s,.int .i64 n,y]):=rfl;rw [pX];simp only [Ed,ab,af,ae,ak,w,if_pos t,g,AV.cells,bj,H,ai,al,ah,hy.ad,hy.aD,oU l,aF,F];exact hrun
  .rw [i];simp only [List.reverse_append,List.reverse_cons,List.reverse_nil,aaq,List.singleton_append,aan];exact ⟨_,_,rfl,⟨_,_,_,_,e,rfl⟩,C⟩
def qt (z:Nat) (x:AV) (es:LA):Prop:=es.length<=9223372036854775807/\(x= .sl z es .shut\/x= .sl z es .wide)
theorem qt.sl {z:Nat} {x:AV} {es:LA} (h:qt z x es):aO z x es:=⟨h.1,.inr h.2⟩
theorem I2 {β:Type} {z:Nat} {x:AV} {es:LA} (h:qt z x es) (K:AV->Oq β):dL z x none (some (es.length:Int)) (some (es.length:Int)) K=K (.sl z es .shut):=by
 have a:z.beq z=true:=aa9 z;have h1:uU (some (es.length:Int)) es.length 0=some es.length:=iu (aal _);have b:uU (some (es.length:Int)) es.length es.length=some es.length:=iu (aal _);have c:es.length.beq es.length=true:=aa9 _;rcases h.2 with rfl | rfl <;> simp only [dL,mU,a,h1,b,kL,c,ai,aaJ,aaw]
theorem Ig {β:Type} {z n:Nat} {x:AV} {es:LA} (h:qt z x es) (hn:n<=es.length): ∃x',qt z x' (es.take n)/\ ∀K:AV->Oq β,dL z x none (some (n:Int)) none K=K x':=by
 have a:z.beq z=true:=aa9 z;have b:uU (some (n:Int)) es.length es.length=some n:=iu hn;have hl:(es.take n).length<=9223372036854775807:=by rw [aau];have:=h.1;omega
 rcases h.2 with rfl | rfl
 .simp only [dL,mU,a,b,kL];cases e:n.beq es.length with
  | true=>
   have:=aap e;subst this;exact ⟨.sl z es .shut,⟨hl,.inl (by simp)⟩,fun _=>rfl⟩
  | false=>exact ⟨.sl z (es.take n) .wide,⟨hl,.inr rfl⟩,fun _=>rfl⟩
 .simp only [dL,mU,a,b,kL];cases e:n.beq es.length with
  | true=>exact ⟨.sl z (es.take n) .wide,⟨hl,.inr rfl⟩,fun _=>rfl⟩
  | false=>exact ⟨.sl z (es.take n) .wide,⟨hl,.inr rfl⟩,fun _=>rfl⟩
theorem Qh {f:jV} {o x:AV} {ws:LA} (hx:qt 6 x ws) (hf:je f o) (ind:Int) (fl:Bool) (kids:List Doc) (q: ∃k s n,f.1= .mk k s n kids) (r:ws.length+kids.length<=1000000):
  ∃x' us,(aQ vE).bare 53 [x,o,.int .i64 ind,.bool fl]=some x'/\qt 6 x' (ws++us)/\kQ je (kids.reverse.map fun d=>(d,ind,fl)) us:=by
 obtain ⟨d,u,v⟩:=f;obtain ⟨k,s,n,p⟩:=q;dsimp only at p;subst p;obtain ⟨w,z,A,B,b,rfl⟩:=hf;obtain ⟨y,es',he,C,r2,D,hy,c⟩:=b;cases he;have hlen:=c.all.len;have t:IntKind.wrap .i64 ((es'.length:Int) - 1)=(es'.length:Int) - 1:=wrap_i64 (by omega) (by have:=hy.1;omega);obtain ⟨st',v',us,hrun,e,g,a⟩:=DO ind fl hy c kids.length (.sl 6 ws .shut) (St.mk 0 0 Tr.leaf) ws (aal _) (iX.shut (aal _) 82 hx.1) r;rw [<- hlen] at hrun;rw [aaJ] at e;have i: ∃x',qt 6 x' (ws++us)/\ ∀K:AV->Oq AV,eF st' 0 v' K=K x':=by
  have a:=a ⟨(by intro h;cases h),(by intro h;cases h)⟩;rcases g with ⟨_,hl,⟨rfl | rfl,_⟩ | rfl | ⟨j,rfl,_⟩⟩
  .exact absurd rfl a.1
  .exact absurd rfl a.2
  .exact ⟨.sl 6 (ws++us) .shut,⟨hl,.inl rfl⟩,fun _=>rfl⟩
  .exact ⟨.sl 6 (ws++us) .wide,⟨hl,.inr rfl⟩,fun _=>rfl⟩
 obtain ⟨x',l,m⟩:=i;refine ⟨x',us,aU rfl ((Vj _ _ _ _).trans ?_),l,e⟩;simp only [g53,al,ab,af,ah,au,ae,hy.ad,hy.aD,hx.sl.len,I2 hx,hy.len,aF,t,hrun,ai,oneOf,m]
theorem je.shape {f:jV} {w:AV} (h:je f w): ∃k s n kids y es,f.1= .mk k s n kids/\w= .agg [.int .u8 k,.str s,.int .i64 n,y,.int .i64 f.2.1,.bool f.2.2]/\aO 4 y es/\bO kids es/\(0<=k/\k<=255)/\s.length<=9223372036854775807/\(-9223372036854775808<=n/\n<=9223372036854775807):=by
 obtain ⟨d,g,i⟩:=f;obtain ⟨j,l,m,o,a,rfl⟩:=h;obtain ⟨k,s,n,kids⟩:=d;obtain ⟨y,es',he,c,r2,e,hy,b⟩:=a;cases he;exact ⟨k,s,n,kids,_,es',rfl,rfl,hy,b,c,r2,e⟩
theorem D6 {f:jV} {w:AV} (h:je f w):Fz 2 w/\VM.bare w=true/\strip w=w:=by
 obtain ⟨k,s,n,kids,y,es,_,rfl,hy,_⟩:=h.shape;refine ⟨Nz fun c a=> ?_, ?_,rfl⟩
 .simp only [aao,List.not_mem_nil,or_false] at a;rcases a with rfl | rfl | rfl | rfl | rfl | rfl
  .exact fC _ _
  .exact uO _
  .exact fC _ _
  .exact uc hy
  .exact fC _ _
  .exact zy _
 .simp only [mf,aJ,hy.bare];rfl
theorem VC {f:jV} {w x:AV} {ws:LA} (hx:qt 6 x (ws++[w])) (hf:je f w): ∃x',(aQ vE).bare 52 [x]=some (.tup [w,x'])/\qt 6 x' ws:=by
 have d:=D6 hf;have hl:(ws++[w]).length=ws.length+1:=by simp
 have hmax:=hx.1;have l:IntKind.wrap .i64 (((ws.length+1:Nat):Int) - 1)=(ws.length:Int):=by rw [wrap_i64 (by omega) (by omega)];omega
 have hlen: ∀{β:Type} (K:Nat->Oq β),dm x K=K (ws.length+1):=fun K=>by rw [hx.sl.len,hl]
 have e:=fun (st:St) (K:AV->Ln->Oq AV)=>hx.sl.idx (k:=ws.length) (v:=w) (by simp) st K;obtain ⟨x',a,g⟩:=Ig (β:=AV) hx (n:=ws.length) (by omega);have b:(ws++[w]).take ws.length=ws:=by simp
 rw [b] at a;refine ⟨x',aU rfl ((Wl _).trans ?_),a⟩;have m:VM.bare (.tup [w,x'])=true:=by simp only [NR,aJ,d.2.1,a.sl.bare];rfl
 have h:Fz 3 (.tup [w,x']):=Vc fun c j=>by
  simp only [aao,List.not_mem_nil,or_false] at j;rcases j with rfl | rfl
  .exact d.1
  .exact (uc a.sl).mono (by omega)
 have i:=fun (st:St) (K:AV->Oq AV)=>Wk h (by omega) m st 0 K;obtain ⟨k,s,n,kids,y,es,_,rfl,hy,_⟩:=hf.shape;have o:jx 6 true [.int .u8 k,.str s,.int .i64 n,y,.int .i64 f.2.1,.bool f.2.2]=some (.agg [.int .u8 k,.str s,.int .i64 n,y,.int .i64 f.2.1,.bool f.2.2]):=rfl;simp only [g52,hlen,aF,l,e,AV.cells,bj,o,ai,al,ab,af,ah,au,ae,g,hy.ad,i]
theorem kQ.snoc {α:Type} {R:α->AV->Prop} {l:List α} {a:α} {ws:LA} (h:kQ R (l++[a]) ws): ∃vs v,ws=vs++[v]/\kQ R l vs/\R a v:=by
 induction l generalizing ws with
 | nil=>
  obtain ⟨v,vs,rfl,h1,h⟩:=h;have h:vs=[]:=h;subst h;exact ⟨[],v,rfl,rfl,h1⟩
 | cons b l ih=>
  obtain ⟨v,vs,rfl,h1,h⟩:=h;obtain ⟨us,u,rfl,c,d⟩:=ih h;exact ⟨v::us,u,rfl,⟨v,us,rfl,h1,c⟩,d⟩
theorem r9 (ks:List Doc) (i:Int) (f:Bool) (l:List jV):(ej ks i f++l).reverse=l.reverse++ks.reverse.map fun d=>(d,i,f):=by
 simp [ej,List.map_reverse]
theorem Gb {f:jV} {w x:AV} {ws:LA} (hx:qt 6 x (ws++[w])) (hf:je f w): ∃x',qt 6 x' ws/\ ∀{β:Type} (st:St) (K:Kv β),bf (aQ vE) 52 [x] st K=K (.tup [w,x']) st q0:=by
 obtain ⟨x',h1,a⟩:=VC hx hf;exact ⟨x',a,fun st K=>aI st K rfl (by simp only [aan,aaH,hx.sl.strip]) (by simp only [aJ,hx.sl.bare];rfl) h1⟩
theorem pV {f:jV} {a x:AV} {ws:LA} (hx:qt 6 x ws) (hf:je f a) (ind:Int) (fl:Bool) (kids:List Doc) (b: ∃k s n,f.1= .mk k s n kids) (c:ws.length+kids.length<=1000000):
  ∃x' us,qt 6 x' (ws++us)/\kQ je (kids.reverse.map fun d=>(d,ind,fl)) us/\ ∀{β:Type} (st:St) (K:Kv β),bf (aQ vE) 53 [x,a,.int .i64 ind,.bool fl] st K=K x' st q0:=by
 obtain ⟨x',us,h1,e,g⟩:=Qh hx hf ind fl kids b c;exact ⟨x',us,e,g,fun st K=>aI st K rfl (by simp only [aan,aaH,hx.sl.strip,(D6 hf).2.2];rfl) (by simp only [aJ,hx.sl.bare,(D6 hf).2.1];rfl) h1⟩
theorem tO (w:Int) (Y: -1000000000<=w/\w<=1000000000) {p:Nat} {a0 a1 a2:AV}: ∀(n:Nat) (l:List jV) (x:AV) (ws:LA) (c:Int) (b:Bool) (st:St),rO l<=n->n<=1000000->qt 6 x ws->kQ je l.reverse ws->Aw l=true->0<=c->c+dD l+rO l<=1000000000->st.ro<=st.h->
  st.get p= .ok (.cells 79 [a0,a1,a2,.int .i64 w])->
  ∃k J b' st',bl (mO (.mp p 0)) ([.bool b,.int .i64 c,x],st)=some (k,[.bool b',.int .i64 J],st')/\(match k with | 0=>decide (J<=w) | _+1=>b')=ua w n l c/\aZ st st' (fun _=>False)
 | n,[],x,ws,c,b,st,hm,hn,hx,hl,W,h0,Z,M,hp=>by
  have hl:ws=[]:=hl;subst hl;refine ⟨0,c,b,st, ?_,by cases n <;> rfl,aZ.refl _ _⟩;rw [bE];simp [mO,hx.sl.len]
 | 0,t::l,x,ws,c,b,st,hm,hn,hx,hl,W,h0,Z,M,hp=>by
  have:=wk t.1;simp only [rO] at hm;omega
 | n+1,(d,i,f)::l,x,ws,c,b,st,hm,hn,hx,hl,W,h0,Z,M,hp=>by
  rw [List.reverse_cons] at hl;obtain ⟨vs,v,rfl,I,ht⟩:=hl.snoc;have hlen:vs.length=l.length:=by rw [I.len,List.length_reverse]
  obtain ⟨x',N,q⟩:=Gb hx ht;obtain ⟨k,s,m,kids,y,es,e,rfl,hy,hk,r1,r2,r3⟩:=ht.shape;dsimp only at e;subst e;have hpos:((vs.length+1:Nat):Int) > 0:=by omega
  have u: ∀{β:Type} (K:Nat->Oq β),dm x K=K (vs.length+1):=fun K=>by rw [hx.sl.len];simp
  simp only [Aw,pO,aak] at W;obtain ⟨⟨R,ar⟩,P⟩:=W;simp only [rO,gO,dD,zg] at hm Z;have S:=fun {β:Type} (K:AV->Ln->Oq β)=>bq hp 1 false 3 K;have A: ∀{β:Type} (K:AV->Ln->Oq β),ao 1 false (.mp p 3) st K=K (.int .i64 w) [p]:=fun K=>by rw [S];rfl
  by_cases F:c > w
  .refine ⟨0,c,b,st, ?_,by simp only [ua,if_pos F];exact abu (by omega),aZ.refl _ _⟩;rw [bE];simp only [mO,ab,au,af,ae,u,ak,if_pos hpos,notNil,aG,bw,aax,A,ai,if_neg (show ¬ c<=w from by omega)]
  have g:c<=w:=by omega
  have bb:decide (c<=w)=true:=abz g;obtain ⟨j,hg,a,hh,fx,B⟩:=tR (O:=aQ vE) (st:=st) (t:=82) (z:=6) (old:=[.int .u8 0,.str [],.int .i64 0,.ax,.int .i64 0,.bool false]) (cs:=[.int .u8 k,.str s,.int .i64 m,y,.int .i64 i,.bool f]) (.agg [.int .u8 k,.str s,.int .i64 m,y,.int .i64 i,.bool f]) rfl rfl M;have r:=fun {β:Type} (K:Kv β)=>B K;have G:j.ro<=j.h:=by rw [a.ro,hh];omega
  have Q:=a.old p _ (fun h=>h) hp;have T:jx 6 true [.int .u8 k,.str s,.int .i64 m,y,.int .i64 i,.bool f]=some (.agg [.int .u8 k,.str s,.int .i64 m,y,.int .i64 i,.bool f]):=rfl;have L:=fun {β:Type} (o:Nat) (K:AV->Ln->Oq β)=>bq hg 1 false o K;have U:=fun {β:Type} (K:AV->Ln->Oq β)=>bq hg 6 true 0 K;have av:IntKind.wrap .i64 (c+1)=c+1:=wrap_i64 (by omega) (by omega);by_cases k1:k=1
  .have hval:cb s=true:=by
    subst k1;simp only [Nj,if_true,aak] at R;exact R.1.1.2
   have aw: ∀{β:Type} (K:Kv β),cE (aQ vE) (dK (Prim.lib jB) [.str s]) j K=K (.int .i64 (chars s:Int)) j q0:=fun K=>by
    rw [<- yG hval];exact fO (yV (by omega)) j K
   have bt:=BL s;have a6:IntKind.wrap .i64 (c+(chars s:Int))=c+chars s:=wrap_i64 (by omega) (by omega);obtain ⟨V,J,b',st',hrun,D,H⟩:=tO w Y n l x' vs (c+chars s) b j (by omega) (by omega) N I P (by omega) (by omega) G Q;refine ⟨V,J,b',st', ?_,by rw [D];simp only [ua,if_neg F,if_pos k1],a.trans H⟩;rw [bA (s':=([.bool b,.int .i64 (c+chars s),x'],j))]
   .exact hrun
   .simp only [mO,ab,au,af,ae,u,ak,notNil,aG,bw,aax,A,bP,q,br,aP,ba,al,ah,hy.ad,B,r,L,aaw,aaD,aR,ai,bZ,bz,cu,aF,ay,aq,if_pos hpos,if_pos g,if_pos k1,aw,a6]
  by_cases k2:k=2\/k=3
  .by_cases hf:f=false
   .refine ⟨1,c,true,j, ?_,by simp only [ua,if_neg F,if_neg k1,if_pos k2,if_pos hf],a⟩;rw [bE];subst hf;rcases k2 with rfl | rfl
    .simp only [mO,ab,au,af,ae,u,ak,notNil,aG,bw,aax,A,bP,q,br,aP,ba,al,ah,hy.ad,B,r,L,aaw,aaD,aR,ai,bZ,bz,cu,aF,ay,aq,if_pos hpos,if_pos g,if_true,if_neg k1,abe,aba]
    .simp only [mO,ab,au,af,ae,u,ak,notNil,aG,bw,aax,A,bP,q,br,aP,ba,al,ah,hy.ad,B,r,L,aaw,aaD,aR,ai,bZ,bz,cu,aF,ay,aq,if_pos hpos,if_pos g,if_true,if_neg k1,abe,aba,show ¬ (3:Int)=2 from by omega,if_false]
   .have hf:f=true:=by simpa using hf
    subst hf;obtain ⟨V,J,b',st',hrun,D,H⟩:=tO w Y n l x' vs (if k=2 then c+1 else c) b j (by omega) (by omega) N I P (by split <;> omega) (by split <;> omega) G Q;refine ⟨V,J,b',st', ?_,by rw [D];simp only [ua,if_neg F,if_neg k1,if_pos k2,if_neg hf],a.trans H⟩;rw [bA (s':=([.bool b,.int .i64 (if k=2 then c+1 else c),x'],j))]
    .exact hrun
    .rcases k2 with rfl | rfl
     .simp only [mO,ab,au,af,ae,u,ak,notNil,aG,bw,aax,A,bP,q,br,aP,ba,al,ah,hy.ad,B,r,L,aaw,aaD,aR,ai,bZ,bz,cu,aF,ay,aq,if_pos hpos,if_pos g,if_true,if_neg k1,aa2,aba,av,show ((2:Int)==4)=false from rfl]
     .simp only [mO,ab,au,af,ae,u,ak,notNil,aG,bw,aax,A,bP,q,br,aP,ba,al,ah,hy.ad,B,r,L,aaw,aaD,aR,ai,bZ,bz,cu,aF,ay,aq,if_pos hpos,if_pos g,if_true,if_neg k1,aa2,aba,show ¬ (3:Int)=2 from by omega,if_false,show ((3:Int)==4)=false from rfl]
  have E:¬ k=2/\¬ k=3:=by omega
  have e2:(k==2)=false:=beq_false_of_ne E.1;have e3:(k==3)=false:=beq_false_of_ne E.2;by_cases X:k=4
  .refine ⟨1,c,true,j, ?_,by simp only [ua,if_neg F,if_neg k1,if_neg k2,if_pos X],a⟩;rw [bE];subst X;cases f <;> simp only [mO,ab,au,af,ae,u,ak,notNil,aG,bw,aax,A,bP,q,br,aP,ba,al,ah,hy.ad,B,r,L,aaw,aaD,aR,ai,bZ,bz,cu,aF,ay,aq,if_pos hpos,if_pos g,if_neg k1,if_neg E.1,if_neg E.2,if_true,aa2,abe,aba]
  have e4:(k==4)=false:=beq_false_of_ne X;have b4:=Ew l;have b5:=BA kids;obtain ⟨x2,us,a7,a8,C⟩:=pV N ht i (f||k==6) kids ⟨k,s,m,rfl⟩ (by omega);obtain ⟨V,J,b',st',hrun,D,H⟩:=tO w Y n (ej kids i (f||k==6)++l) x2 (vs++us) c b j (by rw [fJ];omega) (by omega) a7 (by rw [r9];exact kQ.append I a8) (pP ar P) h0 (by rw [jb,fJ];omega) G Q;refine ⟨V,J,b',st', ?_,by rw [D];simp only [ua,if_neg F,if_neg k1,if_neg k2,if_neg X],a.trans H⟩;rw [bA (s':=([.bool b,.int .i64 c,x2],j))]
  .exact hrun
  .cases f with
   | true=>
    rw [abY] at C;simp only [mO,ab,au,af,ae,u,ak,notNil,aG,bw,aax,A,bP,q,br,aP,ba,al,ah,hy.ad,B,r,L,aaw,aaD,aR,ai,bZ,bz,cu,aF,ay,aq,if_pos hpos,if_pos g,if_neg k1,if_neg E.1,if_neg E.2,e4,U,T,C]
   | false=>
    rw [abo] at C;simp only [mO,ab,au,af,ae,u,ak,notNil,aG,bw,aax,A,bP,q,br,aP,ba,al,ah,hy.ad,B,r,L,aaw,aaD,aR,ai,bZ,bz,cu,aF,ay,aq,if_pos hpos,if_pos g,if_neg k1,if_neg E.1,if_neg E.2,e4,U,T,C]
theorem Qp {l:List jV} {x:AV} {ws:LA} {c w:Int} {p:Nat} {i j:AV} {st:St} (m: -1000000000<=w/\w<=1000000000) (hm:rO l<=1000000) (hx:qt 6 x ws) (hl:kQ je l.reverse ws) (n:Aw l=true) (h0:0<=c) (q:c+dD l+rO l<=1000000000) (e:st.ro<=st.h)
  (hp:st.get p= .ok (.cells 79 [i,j,.int .i64 c,.int .i64 w])):
  ∃st',aZ st st' (fun _=>False)/\(aQ vE).wide 55 [.mp p 0,x] st=some (.bool (ua w (rO l) l c),st'):=by
 obtain ⟨k,r,b',st',hrun,a,b⟩:=tO w m (rO l) l x ws c false st (aal _) hm hx hl n h0 q e hp;refine ⟨st',b,iB ((UT _ _ _).trans ?_)⟩;have f:=b.old p _ (fun h=>h) hp;have g:=fun {β:Type} (o:Nat) (K:AV->Ln->Oq β)=>bq hp 1 false o K;have d:=fun {β:Type} (o:Nat) (K:AV->Ln->Oq β)=>bq f 1 false o K;cases k with
 | zero=>simp only [Y5,notNil,aG,bw,aax,g,aaD,aaw,aR,ai,af,hrun,ab,au,ae,gU,d];rw [<- a]
 | succ k=>simp only [Y5,notNil,aG,bw,aax,g,aaD,aaw,aR,ai,af,hrun,ab,au,ae,Ly,d];rw [<- a]
def iR (st:St) (p:Nat) (c w:Int) (out:LB):Prop:=Qx st 79 5 p [] [.int .i64 c,.int .i64 w] out
theorem iR.cells {st:St} {p:Nat} {c w:Int} {out:LB} (h:iR st p c w out): ∃a b,st.get p= .ok (.cells 79 [a,b,.int .i64 c,.int .i64 w])/\st.ro<=p:=by
 obtain ⟨a,b,h1,_,_,d⟩:=h;exact ⟨a,b,h1,d⟩
theorem iR.set {st:St} {p:Nat} {c w:Int} {out:LB} (h:iR st p c w out) (a:Int):
  ∃st',iR st' p a w out/\ja st st' 5 p/\ ∃f,∀{β:Type} (K:Kv β),aK (aQ vE) 1 (.mp p 2) (.int .i64 a) [.int .i64 a] st K=K VM.undef st' f:=by
 obtain ⟨b,d,h1,g,i,e⟩:=h;refine ⟨st.put p (.cells 79 [b,d,.int .i64 a,.int .i64 w]),⟨b,d,St.aN (St.ca.1 h1).1,g,i.put h1,e⟩,ja.put,⟨[p],.wrote p (.cells 79 [b,d,.int .i64 a,.int .i64 w])⟩,fun K=> ?_⟩;exact (dp (O:=aQ vE) (z:=1) (off:=2) (v:= .int .i64 a) (cs:=[.int .i64 a]) h1 rfl (by simp) e K).trans rfl
theorem ym {st:St} {p:Nat} {c w:Int} {out s:LB} (h:iR st p c w out) (hlen:out.length+s.length<=70368744177664) (a:st.ro<=st.h):
  ∃st',iR st' p c w (out++s)/\ja st st' 5 p/\ ∃b,∀{β:Type} (K:Kv β),bf (aQ vE) 92 [.mp p 0,.str s] st K=K (.tup [.int .i64 (s.length:Int),.nili]) st' b:=by
 obtain ⟨st',h1,d,e⟩:=Mi (O:=aQ vE) (L:=[(76,2,0),(77,2,0),(78,4,0),(79,4,0)]) h rfl hlen a;exact ⟨st',d,e,_,fun K=>fX K rfl rfl (iB ((Uc _ _ _).trans h1))⟩
theorem AK {st:St} {p:Nat} {c w:Int} {out s:LB} (h:iR st p c w out) (j:cb s=true) (hlen:out.length+s.length<=70368744177664) (b:st.ro<=st.h) (h0:0<=c) (t:c<=1000000000000):
  ∃st',iR st' p (c+chars s) w (out++s)/\ja st st' 5 p/\ ∃g,∀{β:Type} (K:Kv β),bf (aQ vE) 50 [.mp p 0,.str s] st K=K (.tup []) st' g:=by
 obtain ⟨a,i,k2,g,k⟩:=ym h hlen b;obtain ⟨u,v,l,x⟩:=i.cells;obtain ⟨d,m,n,o,hs⟩:=i.set (c+chars s);have q:=BL s;have r:=fun {β:Type} (K:AV->Ln->Oq β)=>bq l 1 false 2 K;have e: ∀{β:Type} (K:Kv β),cE (aQ vE) (dK (Prim.lib jB) [.str s]) a K=K (.int .i64 (chars s:Int)) a q0:=fun K=>by
  rw [<- yG j];exact fO (yV (by omega)) a K
 have f:IntKind.wrap .i64 (c+(chars s:Int))=c+chars s:=wrap_i64 (by omega) (by omega);refine ⟨d,m,k2.trans n,_,fun K=>fX K rfl rfl (iB ((V2 _ _ _).trans ?_))⟩;simp only [w50,ah,notNil,aG,bw,aax,k,r,aaD,aaw,aR,ai,af,e,cI,aaI,aF,f,hs]
theorem V8 {st:St} {p:Nat} {c w:Int} {out:LB} (h:iR st p c w out) (ind:Nat) (hi:ind<=10000000) (hlen:out.length+(1+ind)<=70368744177664) (b:st.ro<=st.h):
  ∃st',iR st' p (ind:Int) w (out++10::List.replicate ind 32)/\ja st st' 5 p/\ ∃e,∀{β:Type} (K:Kv β),bf (aQ vE) 51 [.mp p 0,.int .i64 (ind:Int)] st K=K (.tup []) st' e:=by
 obtain ⟨f,g,k2,e,i⟩:=ym (s:=10::List.replicate ind 32) h (by simp only [aae,abX];omega) b;obtain ⟨d,j,k,l,hs⟩:=g.set (ind:Int);have a: ∀{β:Type} (K:Kv β),cE (aQ vE) (dK (Prim.lib lS) [.str [32],.int .i64 (ind:Int)]) st K=K (.str (List.replicate ind 32)) st q0:=fun K=>by
  rw [<- repeatL_one];exact fO (Fg (by simp only [abd];omega) (by omega)) st K
 have m:Nat.ble (1+(List.replicate ind (32:UInt8)).length) 9223372036854775807=true:=aaL (by rw [abX];omega);refine ⟨d,j,k2.trans k,_,fun K=>fX K rfl rfl (iB ((Wj _ _ _).trans ?_))⟩;simp only [ZW,af,notNil,aG,bw,aax,a,ah,cI,aaI,m,aF,i,hs]
def SY (st:St) (p:Nat) (c w:Int) (out:LB):Prop:=iR st p c w out/\out.length<=70000000000000
theorem km (w:Int) (hw: -1000000000<=w/\w<=1000000000) {p:Nat}: ∀(n:Nat) (l:List jV) (x:AV) (ws:LA) (c I:Int) (out:LB) (st:St),rO l<=n->n<=1000000->qt 6 x ws->kQ je l.reverse ws->Aw l=true->0<=c->c+dD l+rO l<=1000000000->0<=I->XY I l->(I+Hj l<=10000000/\dD l<=500000000)->
  out.length+dD l+10000002 * rO l<=70000000000000->st.ro<=st.h->iR st p c w out->
  ∃st' H,bl (iQ (.mp p 0)) ([x],st)=some (0,[],st')/\SY st' p H w (out++kW w n l c)
 | n,[],x,ws,c,I,out,st,hm,hn,hx,hl,hd,h0,hc,J,hI,a8,ho,bb,hp=>by
  have hl:ws=[]:=hl;subst hl;have e:kW w n [] c=[]:=by cases n <;> rfl
  refine ⟨st,c, ?_,by rw [e,aay];exact ⟨hp,by omega⟩⟩;rw [bE];simp [iQ,hx.sl.len]
 | 0,t::l,x,ws,c,I,out,st,hm,hn,hx,hl,hd,h0,hc,J,hI,a8,ho,bb,hp=>by
  have:=wk t.1;simp only [rO] at hm;omega
 | n+1,(d,i,f)::l,x,ws,c,I,out,st,hm,hn,hx,hl,hd,h0,hc,J,hI,a8,ho,bb,hp=>by
  rw [List.reverse_cons] at hl;obtain ⟨vs,v,rfl,G,ht⟩:=hl.snoc;have hlen:vs.length=l.length:=by rw [G.len,List.length_reverse]
  obtain ⟨x',L,a⟩:=Gb hx ht;obtain ⟨k,s,m,kids,y,es,e,rfl,hy,hk,r1,r2,r3⟩:=ht.shape;dsimp only at e;subst e;have hpos:((vs.length+1:Nat):Int) > 0:=by omega
  have u: ∀{β:Type} (K:Nat->Oq β),dm x K=K (vs.length+1):=fun K=>by rw [hx.sl.len];simp
  simp only [Aw,pO,aak] at hd;obtain ⟨⟨bt,a1⟩,M⟩:=hd;have b9:=RF bt;simp only [VV,aa0,aak,aaX,aaZ] at b9;have cc:=hI _ (aag);dsimp only at cc;have S:XY I l:=fun t ht=>hI t (aam _ ht);simp only [rO,gO,dD,zg,Hj,GC] at hm hc a8 ho;obtain ⟨g,hg,ar,hh,fx,q⟩:=tR (O:=aQ vE) (st:=st) (t:=82) (z:=6) (old:=[.int .u8 0,.str [],.int .i64 0,.ax,.int .i64 0,.bool false]) (cs:=[.int .u8 k,.str s,.int .i64 m,y,.int .i64 i,.bool f]) (.agg [.int .u8 k,.str s,.int .i64 m,y,.int .i64 i,.bool f]) rfl rfl bb;have b:=fun {β:Type} (K:Kv β)=>q K;have r:g.ro<=g.h:=by rw [ar.ro,hh];omega
  have F:iR g p c w out:=hp.BI ar;obtain ⟨b0,b1,cy,_⟩:=F.cells;have V:jx 6 true [.int .u8 k,.str s,.int .i64 m,y,.int .i64 i,.bool f]=some (.agg [.int .u8 k,.str s,.int .i64 m,y,.int .i64 i,.bool f]):=rfl;have b4:jx 4 true [.int .u8 k,.str s,.int .i64 m,y,.int .i64 i,.bool f]=some (.agg [.int .u8 k,.str s,.int .i64 m,y]):=rfl;have W:=fun {β:Type} (o:Nat) (K:AV->Ln->Oq β)=>bq hg 1 false o K;have X:=fun {β:Type} (K:AV->Ln->Oq β)=>bq hg 6 true 0 K;have b5:=fun {β:Type} (K:AV->Ln->Oq β)=>bq hg 4 true 0 K;have c8:=Ew l;have de:=BA kids;by_cases k1:k=1
  .have hval:cb s=true:=by
    subst k1;simp only [Nj,if_true,aak] at bt;exact bt.1.1.2
   have dk:=BL s;obtain ⟨j,N,A,cd,T⟩:=AK (s:=s) F hval (by omega) r h0 (by omega);obtain ⟨st',H,hrun,hW⟩:=km w hw n l x' vs (c+chars s) I (out++s) j (by omega) (by omega) L G M (by omega) (by omega) J S (by omega) (by rw [aad];omega) (by have:=A.ro;have:=A.h;omega) N;refine ⟨st',H, ?_,by simp only [kW,if_pos k1];rw [<- aar];exact hW⟩;rw [bA (s':=([x'],j))]
   .exact hrun
   .simp only [iQ,ab,au,af,ae,u,ak,if_pos hpos,notNil,aG,bw,aax,bP,a,br,aP,ba,al,ah,hy.ad,q,b,W,aaw,aaD,aR,ai,bZ,bz,cu,aF,ay,aq,if_pos k1,T]
  by_cases k5:k=5
  .have dv:0<=m/\m<=200:=by omega
   obtain ⟨Y,us,P,Q,B⟩:=pV L ht (i+m) f kids ⟨k,s,m,rfl⟩ (by omega);have b6:IntKind.wrap .i64 (i+m)=i+m:=wrap_i64 (by omega) (by omega);obtain ⟨st',H,hrun,hW⟩:=km w hw n (ej kids (i+m) f++l) Y (vs++us) c (I+m) out g (by rw [fJ];omega) (by omega) P (by rw [r9];exact kQ.append G Q) (pP a1 M) h0 (by simp only [jb,fJ,kI];omega) (by omega) (Aa S (by omega) (by omega) (by omega)) (by simp only [jb,fJ,kI];omega) (by simp only [jb,fJ,kI];omega) r F;refine ⟨st',H, ?_,by simp only [kW,if_neg k1,if_pos k5];exact hW⟩;rw [bA (s':=([Y],g))]
   .exact hrun
   .subst k5;simp only [iQ,ab,au,af,ae,u,ak,if_pos hpos,notNil,aG,bw,aax,bP,a,br,aP,ba,al,ah,hy.ad,q,b,W,aaw,aaD,aR,ai,bZ,bz,cu,aF,ay,aq,if_neg k1,show ¬ (5:Int)=2 from by omega,show ¬ (5:Int)=3 from by omega,show ¬ (5:Int)=6 from by omega,show ((5:Int)==4)=false from rfl,if_false,X,V,b6,B]
  by_cases k6:k=6
  .have a6:dc (.mk k s m kids) (.agg [.int .u8 k,.str s,.int .i64 m,y]):=⟨y,es,rfl,r1,r2,r3,hy,hk⟩;obtain ⟨x3,cg,b7,av,D⟩:=pV L ht i true kids ⟨k,s,m,rfl⟩ (by omega);have dx:=fJ kids i true l;have ea:=jb kids i true l;obtain ⟨j,A,C⟩:=Qp (l:=ej kids i true++l) hw (by omega) b7 (by rw [r9];exact kQ.append G av) (pP a1 M) h0 (by omega) r cy;have C: ∀{β:Type} (K:Kv β),bf (aQ vE) 55 [.mp p 0,x3] g K=K (.bool (ua w (rO (ej kids i true++l)) (ej kids i true++l) c)) j ⟨[],.all g j⟩:=fun K=>fX K rfl rfl C;have E: ∀{β:Type} (K:Kv β),bf (aQ vE) 54 [.agg [.int .u8 k,.str s,.int .i64 m,y]] g K=K (.bool (sK (.mk k s m kids))) g q0:=fun K=>Kz g rfl a6.bare (Dp _ _ a6) K;have cl:kW w (n+1) ((.mk k s m kids,i,f)::l) c=kW w n (ej kids i (f||(!sK (.mk k s m kids)&&ua w (rO (ej kids i true++l)) (ej kids i true++l) c))++l) c:=by
    simp only [kW,if_neg k1,if_neg k5,if_pos k6]
   subst k6;have go: ∀(fl:Bool) (Y:AV) (us:LA) (Z:St),qt 6 Y (vs++us)->kQ je (kids.reverse.map fun d=>(d,i,fl)) us->Z.ro<=Z.h->iR Z p c w out->iQ (.mp p 0) ([x],st)=some (.inl ([Y],Z))->
     (f||(!sK (.mk 6 s m kids)&&ua w (rO (ej kids i true++l)) (ej kids i true++l) c))=fl->
     ∃st' H,bl (iQ (.mp p 0)) ([x],st)=some (0,[],st')/\SY st' p H w (out++kW w (n+1) ((.mk 6 s m kids,i,f)::l) c):=by
    intro fl Y us Z P Q cn cz b8 cF;obtain ⟨st',H,hrun,hW⟩:=km w hw n (ej kids i fl++l) Y (vs++us) c I out Z (by rw [fJ];omega) (by omega) P (by rw [r9];exact kQ.append G Q) (pP a1 M) h0 (by simp only [jb,fJ,kI];omega) J (Aa S (by omega) (by omega) (by omega)) (by simp only [jb,fJ,kI];omega) (by simp only [jb,fJ,kI];omega) cn cz;refine ⟨st',H, ?_,by rw [cl,cF];exact hW⟩;rw [bA b8];exact hrun
   cases hf:f with
   | true=>
    subst hf;refine go true x3 cg g b7 av r F ?_ (abY _);simp only [iQ,ab,au,af,ae,u,ak,if_pos hpos,notNil,aG,bw,aax,bP,a,br,aP,ba,al,ah,hy.ad,q,b,W,aaw,aaD,aR,ai,bZ,bz,cu,aF,ay,aq,if_neg k1,show ¬ (6:Int)=2 from by omega,show ¬ (6:Int)=3 from by omega,show ((6:Int)==4)=false from rfl,if_false,if_true,X,V,D]
   | false=>
    subst hf;obtain ⟨Y,us,P,Q,B⟩:=pV L ht i false kids ⟨6,s,m,rfl⟩ (by omega);cases aw:sK (.mk 6 s m kids) with
    | true=>
     rw [aw] at E;refine go false Y us g P Q r F ?_ (by rw [aw];rfl);simp only [iQ,ab,au,af,ae,u,ak,if_pos hpos,notNil,aG,bw,aax,bP,a,br,aP,ba,al,ah,hy.ad,q,b,W,aaw,aaD,aR,ai,bZ,bz,cu,aF,ay,aq,if_neg k1,show ¬ (6:Int)=2 from by omega,show ¬ (6:Int)=3 from by omega,show ((6:Int)==4)=false from rfl,if_false,if_true,X,V,b5,b4,D,E,aa2,B]
    | false=>
     rw [aw] at E;have a7:j.ro<=j.h:=by have:=A.ro;have:=A.h;omega
     have N:iR j p c w out:=F.BI A;have cp:=A.old _ _ (fun h=>h) hg;have c6:=fun {β:Type} (o:Nat) (K:AV->Ln->Oq β)=>bq cp 1 false o K;have cv:=fun {β:Type} (K:AV->Ln->Oq β)=>bq cp 6 true 0 K;cases R:ua w (rO (ej kids i true++l)) (ej kids i true++l) c with
     | true=>
      rw [R] at C;refine go true x3 cg j b7 av a7 N ?_ (by rw [aw,R];rfl);simp only [iQ,ab,au,af,ae,u,ak,if_pos hpos,notNil,aG,bw,aax,bP,a,br,aP,ba,al,ah,hy.ad,q,b,W,aaw,aaD,aR,ai,bZ,bz,cu,aF,ay,aq,if_neg k1,show ¬ (6:Int)=2 from by omega,show ¬ (6:Int)=3 from by omega,show ((6:Int)==4)=false from rfl,if_false,if_true,X,V,b5,b4,D,E,abe,C]
     | false=>
      rw [R] at C;refine go false Y us j P Q a7 N ?_ (by rw [aw,R];rfl);simp only [iQ,ab,au,af,ae,u,ak,if_pos hpos,notNil,aG,bw,aax,bP,a,br,aP,ba,al,ah,hy.ad,q,b,W,aaw,aaD,aR,ai,bZ,bz,cu,aF,ay,aq,if_neg k1,show ¬ (6:Int)=2 from by omega,show ¬ (6:Int)=3 from by omega,show ((6:Int)==4)=false from rfl,if_false,if_true,X,V,b5,b4,D,E,abe,C,cv,c6,B]
  by_cases k7:k=7
  .have c7:m=0:=by omega
   obtain ⟨Y,us,P,Q,B⟩:=pV L ht i f kids ⟨k,s,m,rfl⟩ (by omega);have b6:IntKind.wrap .i64 (i+m)=i:=by rw [c7,Int.add_zero];exact wrap_i64 (by omega) (by omega)
   obtain ⟨st',H,hrun,hW⟩:=km w hw n (ej kids i f++l) Y (vs++us) c I out g (by rw [fJ];omega) (by omega) P (by rw [r9];exact kQ.append G Q) (pP a1 M) h0 (by simp only [jb,fJ,kI];omega) J (Aa S (by omega) (by omega) (by omega)) (by simp only [jb,fJ,kI];omega) (by simp only [jb,fJ,kI];omega) r F;refine ⟨st',H, ?_,by simp only [kW,if_neg k1,if_neg k5,if_neg k6,if_pos k7];exact hW⟩;rw [bA (s':=([Y],g))]
   .exact hrun
   .subst k7;simp only [iQ,ab,au,af,ae,u,ak,if_pos hpos,notNil,aG,bw,aax,bP,a,br,aP,ba,al,ah,hy.ad,q,b,W,aaw,aaD,aR,ai,bZ,bz,cu,aF,ay,aq,if_neg k1,show ¬ (7:Int)=2 from by omega,show ¬ (7:Int)=3 from by omega,show ¬ (7:Int)=6 from by omega,show ((7:Int)==4)=false from rfl,if_false,X,V,b6,B]
  by_cases hf:f=true/\k≠4
  .obtain ⟨rfl,k4⟩:=hf;have e4:(k==4)=false:=beq_false_of_ne k4;by_cases k2:k=2
   .obtain ⟨j,N,A,cd,T⟩:=AK (s:=[32]) F rfl (by simp only [abd];omega) r h0 (by omega);obtain ⟨st',H,hrun,hW⟩:=km w hw n l x' vs (c+1) I (out++[32]) j (by omega) (by omega) L G M (by omega) (by omega) J S (by omega) (by rw [aad,abd];omega) (by have:=A.ro;have:=A.h;omega) N;refine ⟨st',H, ?_,by simp only [kW,if_neg k1,if_neg k5,if_neg k6,if_neg k7,if_pos k2,if_pos (show True/\k≠4 from ⟨trivial,k4⟩)];rw [aar] at hW;exact hW⟩;rw [bA (s':=([x'],j))]
    .exact hrun
    .subst k2;simp only [iQ,ab,au,af,ae,u,ak,if_pos hpos,notNil,aG,bw,aax,bP,a,br,aP,ba,al,ah,hy.ad,q,b,W,aaw,aaD,aR,ai,bZ,bz,cu,aF,ay,aq,if_neg k1,if_true,aba,aa2,show ((2:Int)==4)=false from rfl,T]
   .have k3:k=3:=by omega
    obtain ⟨st',H,hrun,hW⟩:=km w hw n l x' vs c I out g (by omega) (by omega) L G M (by omega) (by omega) J S (by omega) (by omega) r F;refine ⟨st',H, ?_,by simp only [kW,if_neg k1,if_neg k5,if_neg k6,if_neg k7,if_neg k2,if_pos (show True/\k≠4 from ⟨trivial,k4⟩)];exact hW⟩;rw [bA (s':=([x'],g))]
    .exact hrun
    .subst k3;simp only [iQ,ab,au,af,ae,u,ak,if_pos hpos,notNil,aG,bw,aax,bP,a,br,aP,ba,al,ah,hy.ad,q,b,W,aaw,aaD,aR,ai,bZ,bz,cu,aF,ay,aq,if_neg k1,if_true,aba,aa2,if_neg k2,if_false,show ((3:Int)==4)=false from rfl]
  .obtain ⟨ind,rfl⟩:=Int.eq_ofNat_of_zero_le cc.1;obtain ⟨j,N,A,cd,U⟩:=V8 F ind (by omega) (by omega) r;obtain ⟨st',H,hrun,hW⟩:=km w hw n l x' vs (ind:Int) I (out++10::List.replicate ind 32) j (by omega) (by omega) L G M (by omega) (by omega) J S (by omega) (by simp only [aad,aae,abX];omega) (by have:=A.ro;have:=A.h;omega) N;refine ⟨st',H, ?_,by simp only [kW,if_neg k1,if_neg k5,if_neg k6,if_neg k7,if_neg hf];rw [aar] at hW;exact hW⟩;rw [bA (s':=([x'],j))]
   .exact hrun
   .have kk:k=2\/k=3\/k=4:=by omega
    cases R:f with
    | false=>
     subst R;rcases kk with rfl | rfl | rfl
     .simp only [iQ,ab,au,af,ae,u,ak,if_pos hpos,notNil,aG,bw,aax,bP,a,br,aP,ba,al,ah,hy.ad,q,b,W,aaw,aaD,aR,ai,bZ,bz,cu,aF,ay,aq,if_neg k1,if_true,aba,abe,U]
     .simp only [iQ,ab,au,af,ae,u,ak,if_pos hpos,notNil,aG,bw,aax,bP,a,br,aP,ba,al,ah,hy.ad,q,b,W,aaw,aaD,aR,ai,bZ,bz,cu,aF,ay,aq,if_neg k1,if_true,aba,abe,show ¬ (3:Int)=2 from by omega,if_false,U]
     .simp only [iQ,ab,au,af,ae,u,ak,if_pos hpos,notNil,aG,bw,aax,bP,a,br,aP,ba,al,ah,hy.ad,q,b,W,aaw,aaD,aR,ai,bZ,bz,cu,aF,ay,aq,if_neg k1,if_true,aba,abe,show ¬ (4:Int)=2 from by omega,show ¬ (4:Int)=3 from by omega,if_false,U]
    | true=>
     have k4:k=4:=by
      rw [R] at hf;simpa using hf
     subst R k4;simp only [iQ,ab,au,af,ae,u,ak,if_pos hpos,notNil,aG,bw,aax,bP,a,br,aP,ba,al,ah,hy.ad,q,b,W,aaw,aaD,aR,ai,bZ,bz,cu,aF,ay,aq,if_neg k1,if_true,aba,aa2,show ¬ (4:Int)=2 from by omega,show ¬ (4:Int)=3 from by omega,if_false,U]
theorem SC {l:List jV} {x:AV} {ws:LA} {w I:Int} {p:Nat} {st:St} (e: -1000000000<=w/\w<=1000000000) (hm:rO l<=1000000) (hx:qt 6 x ws) (hl:kQ je l.reverse ws) (hn:Aw l=true) (a:0<=I) (f:XY I l) (b:(I+Hj l<=10000000/\dD l<=500000000)) (c:st.ro<=st.h) (hp:iR st p 0 w []):
  ∃st',(aQ vE).wide 25 [.mp p 0,x] st=some (.str (kW w (rO l) l 0),st'):=by
 obtain ⟨st',g,hrun,hW⟩:=km w e (rO l) l x ws 0 I [] st (aal _) (by omega) hx hl hn (by omega) (by omega) a f b (by simp only [aai];omega) c hp;rw [aaq] at hW;obtain ⟨hW,hL⟩:=hW;have hlen:(kW w (rO l) l 0).length < 4611686018427387904:=by omega
 obtain ⟨i,d⟩:=Bv (O:=aQ vE) (β:=AV×St) hW hlen (fun v st _=>fG v fun l=>some (.str l,st));refine ⟨st',iB ((Ua _ _ _).trans ?_)⟩;simp only [Z2,hrun,ai,ae,notNil,aG,bw,aax];exact d
theorem zT {kids:List Doc} {es:LA} (h:es.length=kids.length):es=[]↔kids.isEmpty=true:=by
 cases kids with
 | nil=>simp only [aai] at h;simp [aa6 h]
 | cons d l=>
  simp only [List.isEmpty_cons];constructor
  .rintro rfl;simp at h
  .intro h;cases h
theorem JG: ∀(ds:List Doc),(!(ds.any fun d=> !pO d))=rG ds
 | []=>rfl
 | d::ds=>by
  simp only [aby,rG, <- JG ds];cases pO d <;> simp
theorem JN {d:Doc}: ∀{ds:List Doc},d∈ds->zg d<=pZ ds
 | _:: _,h=>by
  rcases aao.1 h with rfl | h
  .simp only [pZ];omega
  .have:=JN h;simp only [pZ];omega
theorem FP (d:Doc) (v:AV) (i:dc d v) (F:zg d<=1000000000):(aQ vE).bare 24 [v]=some (.bool (pO d)):=by
 match d with
 | .mk k s n kids=>
  obtain ⟨x,es,rfl,H,r2,I,hx,o⟩:=i;simp only [zg] at F;refine aU rfl ((TC _).trans ?_);have G:=fun (st:St) (K:Kv cJ)=>contains_of (f:=49) rfl rfl (fun d=> !pO d) hx o (fun d C v i=>by
   have p:=FP d v i (by have:=JN C;omega);have m:=fun K=>Kz (β:=AV) (f:=24) (St.mk 0 0 Tr.leaf) rfl i.bare p K;refine aU rfl ((TJ _).trans ?_);obtain ⟨J,s',n',u⟩:=d;obtain ⟨y,es',rfl,_,_,_,hy,_⟩:=i;simp only [Z0,al,ab,af,ah,ae,hy.ad,hy.aD,m,au]) st K
  have hval: ∀{β:Type} (st:St) (K:Kv β),cE (aQ vE) (dK (Prim.lib kK) [.str s]) st K=K (.bool (cb s)) st q0:=fun st K=>fO (yN (by omega)) st K;have g: ∀{β:Type} (c:UInt8) (st:St) (K:Kv β),cE (aQ vE) (dK (Prim.lib gE) [.str s,.str [c]]) st K=K (.bool (s.any fun b=>b==c)) st q0:=fun c st K=>fO (BV s c) st K;have hlen:=o.all.len;have q:=zT hlen;have a: ∀(b:Bool) (st:St) (K:cJ->Oq AV),aC (bu b (bf (aQ vE) 48 [x,AV.fn (Fn.func 49) [] []] st fun w r _x=>ct w fun z=>some ([AV.bool !z],r)) (some ([AV.bool false],st))) K=K ([.bool (b&&rG kids)],st):=fun b st K=>by
   cases b with
   | false=>rfl
   | true=>
    rw [ay,G,au,ai,JG];rfl
  simp only [pO,Nj];by_cases k1:k=1
  .subst k1;by_cases l:n=0
   .subst l;by_cases he:es=[]
    .have e:kids.isEmpty=true:=q.1 he;cases i:cb s with
     | false=>simp [g24,al,ab,af,ah,ae,hx.ad,hx.aD,hx.len,he,hval,g,a,e,i]
     | true=>
      cases t:s.any fun b=>b==10 with
      | false=>simp [g24,al,ab,af,ah,ae,hx.ad,hx.aD,hx.len,he,hval,g,a,e,i,t]
      | true=>simp [g24,al,ab,af,ah,ae,hx.ad,hx.aD,hx.len,he,hval,g,a,e,i,t]
    .have e:kids.isEmpty=false:=by cases h:kids.isEmpty <;> simp_all
     simp [g24,al,ab,af,ah,ae,hx.ad,hx.aD,hx.len,he,hval,g,a,e]
   .simp [g24,al,ab,af,ah,ae,hx.ad,hx.aD,hx.len,l,hval,g,a]
  by_cases k2:k=2\/k=3\/k=4
  .by_cases l:n=0
   .subst l;by_cases he:es=[]
    .have e:kids.isEmpty=true:=q.1 he;rcases k2 with rfl | rfl | rfl <;> simp [g24,al,ab,af,ah,ae,hx.ad,hx.aD,hx.len,he,a,e]
    .have e:kids.isEmpty=false:=by cases h:kids.isEmpty <;> simp_all
     rcases k2 with rfl | rfl | rfl <;> simp [g24,al,ab,af,ah,ae,hx.ad,hx.aD,hx.len,he,a,e]
   .rcases k2 with rfl | rfl | rfl <;> simp [g24,al,ab,af,ah,ae,hx.ad,hx.aD,hx.len,l,a]
  have A:¬ k=2/\¬ k=3/\¬ k=4:=by omega
  by_cases D:k=5
  .subst D;by_cases h0:n>=0
   .have j:0<=n:=h0;by_cases E:n<=200
    .simp [g24,al,ab,af,ah,ae,hx.ad,hx.aD,hx.len,a,j,E]
    .simp [g24,al,ab,af,ah,ae,hx.ad,hx.aD,hx.len,a,j,E]
   .have j:¬ 0<=n:=h0;simp [g24,al,ab,af,ah,ae,hx.ad,hx.aD,hx.len,a,j]
  by_cases k6:k=6\/k=7
  .by_cases l:n=0
   .subst l;rcases k6 with rfl | rfl <;> simp [g24,al,ab,af,ah,ae,hx.ad,hx.aD,hx.len,a]
   .rcases k6 with rfl | rfl <;> simp [g24,al,ab,af,ah,ae,hx.ad,hx.aD,hx.len,a,l]
  have B:¬ k=6/\¬ k=7:=by omega
  simp [g24,al,ab,af,ah,ae,hx.ad,hx.aD,hx.len,a,k1,A,D,B]
termination_by SizeOf.sizeOf d
decreasing_by
 have:=BB C
 simp_wf
 omega
theorem QY {d:Doc} {v:AV} (b:dc d v) (f:Bool): ∃k s n x,v= .agg [.int .u8 k,.str s,.int .i64 n,x]/\je (d,0,f) (.agg [.int .u8 k,.str s,.int .i64 n,x,.int .i64 0,.bool f])/\one x=true/\(∀{β:Type} (K:AV->Oq β),aD x K=K x):=by
 obtain ⟨k,s,n,kids⟩:=d;have a:=b;obtain ⟨x,es,rfl,e,r2,g,hx,c⟩:=b;exact ⟨k,s,n,x,rfl,⟨_,_,_,_,a,rfl⟩,hx.one,fun K=>hx.aD K⟩
theorem MW {d:Doc} {v:AV} {f:Bool} (b:je (d,0,f) v) (hn:pO d=true) (h1:gO d<=1000000) (g:zg d<=100000000) (i:GC d<=10000000) {w:Int} (c: -1000000000<=w/\w<=1000000000) {st:St} (a:st.ro<=st.h):
  ∃st' e,∀{β:Type} (K:Kv β),bf (aQ vE) 25 [.mp st.h 0,.sl 6 [v] .shut] (st.add (.cells 79 [.nilp,.ax,.int .i64 0,.int .i64 w])) K=K (.str (kW w (gO d) [(d,0,f)] 0)) st' e:=by
 have hm:rO [(d,(0:Int),f)]=gO d:=by simp [rO]
 have hW:iR (st.add (.cells 79 [.nilp,.ax,.int .i64 0,.int .i64 w])) st.h 0 w []:=⟨.nilp,.ax,St.dZ,.inl rfl,.inl ⟨rfl,rfl⟩,a⟩;obtain ⟨st',hl⟩:=SC (l:=[(d,0,f)]) (x:= .sl 6 [v] .shut) (ws:=[v]) (w:=w) (I:=0) (p:=st.h) c (by omega) ⟨by simp,.inl rfl⟩ ⟨v,[],rfl,b,rfl⟩ (by simp [Aw,hn]) (by omega) (by intro t h;simp at h;subst h;exact ⟨Int.le_refl _,Int.le_refl _⟩) (by simp [rO,dD,Hj];omega)
  (by show st.ro<=st.h+1;omega) hW
 rw [hm] at hl;exact ⟨st',_,fun K=>fX K rfl rfl hl⟩
theorem MR {d:Doc} {v:AV} (g:dc d v) (w:Int) (h1:gO d<=1000000) (h:zg d<=100000000) (i:GC d<=10000000):(aQ vE).bare 10 [v,.int .i64 w]=some (.tup [.str (Gc d w).1,.int .i64 (Gc d w).2]):=by
 refine aU rfl ((TQ _ _).trans ?_);obtain ⟨k,s,n,x,rfl,j,ho,hf⟩:=QY g false;have a:=fun {β:Type} (st:St) (K:Kv β)=>Kz (f:=24) st rfl g.bare (FP d _ g (by omega)) K;have hx:=fun {β:Type} (K:Oq β)=>jH ho K;unfold Gc;by_cases b:w < 1
 .rw [if_pos (.inl b)];simp only [g10,al,ab,af,ah,ae,hx,hf,ak,if_pos b,ai,au,ay]
 by_cases e:w > 200
 .rw [if_pos (.inr e)];simp only [g10,al,ab,af,ah,ae,hx,hf,ak,if_neg b,ai,au,if_pos e]
 rw [if_neg (by omega)];cases hm:pO d with
 | false=>
  rw [hm] at a;simp only [g10,al,ab,af,ah,ae,hx,hf,ak,if_neg b,ai,au,if_neg e,a,abe,ay,if_true]
 | true=>
  rw [hm] at a;obtain ⟨st',l,c⟩:=MW j hm h1 h i (w:=w) (by omega) (st:=St.mk 0 0 Tr.leaf) (aal _);simp only [g10,al,ab,af,ah,ae,hx,hf,ak,if_neg b,ai,au,if_neg e,a,aa2,aq,bP,c,Bool.true_eq_false,if_false]
end Go.Proofs.YtkbkbndajpbcjaaGreatDoor.Vm
namespace Go.Proofs.YtkbkbndajpbcjaaGreatDoor.Vm
open Go Go.VM Go.Proofs
noncomputable def g4:Oq AV:=bk 5 [.str [108,101,116,32,32,32,120,61,49],.int .i64 80] sZ fun b d _=>ig b fun e=>cB e 0 fun f=>fG f fun g=>ig b fun h=>cB h 1 fun i=>bK .i64 i fun j=>bk 5 [.str [108,101,116,32,120,32,61,10,10,40,49,10,41,108,101,116,32,121,61,120],.int .i64 20] d fun c a _=>ig c fun k=>cB k 0 fun l=>fG l fun m=>ig c fun n=>cB n 1 fun o=>bK .i64 o fun p=>aC (bu (j==0) (bu (g==[108,101,116,32,120,32,61,32,49,10]) (bu (p==0) (some ([.bool (m==[108,101,116,32,120,32,61,32,40,49,41,10,10,108,101,116,32,121,32,61,32,120,10])],a)) (some ([.bool false],a))) (some ([.bool false],a))) (some ([.bool false],a))) fun q=>bo q.1 fun r s=>ct r fun t=>bQ s (some (.bool t))
theorem W2:bB vE 4 []=g4:=by kernel_rfl
end Go.Proofs.YtkbkbndajpbcjaaGreatDoor.Vm
namespace Go.Proofs.YtkbkbndajpbcjaaGreatDoor.Vm
open Go Go.VM Go.Proofs Go.Lex Go.Parse Go.Lay
def JK (s:LB) (w:Int):AV:=match Format.ur s w with
 | .ok t=> .tup [.str t,.int .i64 0]
 | .error e=> .tup [.str [],.int .i64 (e:Int)]
theorem KK {s:LB} {e:Nat} (h:Format.xq s= .error e):e≠0:=by
 rw [Format.JF] at h
 repeat' split at h
 all_goals first | (cases h;done) | (cases h;decide)
theorem PX {s:LB} {w:Int} {e:Nat} (h:Format.ur s w= .error e):e≠0:=by
 unfold Format.ur at h;split at h
 .cases h;decide
 .split at h
  .rename_i a he;cases h;exact KK he
  .split at h
   .cases h;decide
   .cases h
theorem Rv {β:Type} (b c:Bool) (K:LA×St->Oq β):aC (bu b (some ([AV.bool true],S0)) (some ([AV.bool c],S0))) K=K ([AV.bool (b||c)],S0):=by cases b <;> rfl
theorem Mu (s:LB) (w:Int):(aQ vE).bare 5 [.str s,.int .i64 w]=some (JK s w):=by
 obtain ⟨b,u,a⟩:=Mm s;have v:=fun {γ:Type} (st:St) (K:Kv γ)=>aI (f:=9) (args:=[.str s]) st K rfl rfl rfl u;refine aU rfl (aa.eq (aa.step (W9 _ _) ?_));unfold g5;refine aa.step (ah _ _) (aa.step (af _ _ _) (aa.step (Rv _ _ _) ?_));simp only [ab,au,ae];by_cases j:w < 20\/200 < w
 .have h1:(decide (w < 20)||decide (w > 200))=true:=by
   rcases j with h | h
   .rw [abz h];rfl
   .rw [abz (show w > 200 from h),Bool.or_true]
  rw [h1];have i:JK s w= .tup [.str [],.int .i64 1]:=by unfold JK Format.ur;rw [if_pos j];rfl
  rw [i];exact aa.step (ay _ _) (aa.some rfl)
 .have h1:(decide (w < 20)||decide (w > 200))=false:=by
   rw [abu (show ¬ w < 20 by omega),abu (show ¬ w > 200 by omega)];rfl
  rw [h1];refine aa.step (aq _ _) (aa.step (v _ _) ?_);cases hL:Format.xq s with
  | error e=>
   have i:JK s w= .tup [.str [],.int .i64 (e:Int)]:=by unfold JK Format.ur;rw [if_neg j,hL]
   rw [i];unfold Eg at a;rw [hL] at a;have a:b= .tup [.agg d4,.int .i64 (e:Int)]:=a;have l:((e:Int) != 0)=true:=by simpa using KK hL
   rw [a];simp only [br,aP,ba,al,ab,af,ah,ae];refine aa.Au (Vw.start (aaO _)) fun x _ n=>aa.step (iV.ad _) ?_;refine aa.qC [] n fun y _ _ t=> ?_;rw [l];exact aa.step (ay _ _) (aa.some rfl)
  | ok d=>
   obtain ⟨rfl,A,B,he,hl⟩:=Format.El hL;unfold Eg at a;rw [hL] at a;obtain ⟨o,rfl,p⟩: ∃o,b= .tup [o,.int .i64 0]/\dc (Format.tY s) o:=a;obtain ⟨C,E,F,G⟩:=Format.Ma A B he;have q:Gc (Format.tY s) w=(Format.sc (Format.tY s) w,0):=by
    unfold Gc;rw [if_neg (by omega),if_neg (by rw [C];exact Bool.noConfusion)];rfl
   have i:JK s w=if 65536 < (Format.sc (Format.tY s) w).length then .tup [.str [],.int .i64 40] else .tup [.str (Format.sc (Format.tY s) w),.int .i64 0]:=by
    unfold JK Format.ur;rw [if_neg j,hL];dsimp only;by_cases g:65536 < (Format.sc (Format.tY s) w).length
    .rw [if_pos g,if_pos g];rfl
    .rw [if_neg g,if_neg g]
   rw [i];have sp:=MR p w (by omega) (by omega) (by omega);rw [q] at sp;generalize Format.sc (Format.tY s) w=X at *;have r:=p.bare;obtain ⟨k,s',m,kids,z,zs,H,rfl,D,_⟩:=lM p;have cs:=fun {γ:Type} (st:St) (K:Kv γ)=>aI (f:=10) (args:=[.agg (eL k s' m z),.int .i64 w]) st K rfl rfl (by simp only [aJ,r];rfl) sp;simp only [br,aP,ba,al,ab,af,ah,ae];refine aa.Au (Vw.start (aaO _)) fun x _ n=>aa.step (D.ad _) ?_;refine aa.qC [] n fun y _ _ t=>aa.step (aq _ _) ?_;refine aa.fo aag t rfl ?_;simp only [al,ab,af,ah,ae];refine aa.step (cs _ _) ?_;simp only [br,aP,ba,af,ah];refine aa.step (aq _ _) ?_;by_cases g:65536 < X.length
   .rw [if_pos g];exact aa.step (fH (c:=true) (abz (show ((X.length:Nat):Int) > 65536 by omega)) _ _) (aa.step (ay _ _) (aa.some rfl))
   .rw [if_neg g];exact aa.step (fH (c:=false) (abu (show ¬ ((X.length:Nat):Int) > 65536 by omega)) _ _) (aa.step (aq _ _) (aa.some rfl))
theorem xu (s:LB) (w:Int) {γ:Type} (st:St) (K:Kv γ):bf (aQ vE) 5 [.str s,.int .i64 w] st K=K (JK s w) st q0:=aI st K rfl rfl rfl (Mu s w)
def ZK:LB:=[108,101,116,32,32,32,120,61,49]
def Za:LB:=[108,101,116,32,120,32,61,10,10,40,49,10,41,108,101,116,32,121,61,120]
def YR:LB:=[108,101,116,32,120,32,61,32,49,10]
def YV:LB:=[108,101,116,32,120,32,61,32,40,49,41,10,10,108,101,116,32,121,32,61,32,120,10]
theorem Ov:JK ZK 80= .tup [.str YR,.int .i64 0]:=by kernel_rfl
theorem N8:JK Za 20= .tup [.str YV,.int .i64 0]:=by kernel_rfl
theorem R7:(aQ vE).bare 4 []=some (.bool true):=by
 refine aU rfl (W2.trans ?_);have a:=fun {γ:Type} (st:St) (K:Kv γ)=>(xu ZK 80 st K).trans (by rw [Ov]);have b:=fun {γ:Type} (st:St) (K:Kv γ)=>(xu Za 20 st K).trans (by rw [N8]);simp only [ZK,Za] at a b;simp only [g4,a,b,br,aP,ba,af,ah];rfl
theorem vo {γ:Type} (st:St) (K:Kv γ):bf (aQ vE) 4 [] st K=K (.bool true) st q0:=aI st K rfl rfl rfl R7
theorem Q7 (n:Int): ∃w:Int,20<=w/\w<=200/\IntKind.wrap .i64 (20+IntKind.wrap .i64 (Int.tmod (IntKind.wrap .u64 n) 181))=w:=by
 have h0:0<=IntKind.wrap .u64 n:=by
  show 0<=(n % (2 ^ 64:Int):Int);omega
 have h1:0<=Int.tmod (IntKind.wrap .u64 n) 181:=Int.tmod_nonneg _ h0;have a:Int.tmod (IntKind.wrap .u64 n) 181 < 181:=Int.tmod_lt_of_pos _ (by decide);generalize Int.tmod (IntKind.wrap .u64 n) 181=m at *;refine ⟨20+m,by omega,by omega, ?_⟩;rw [wrap_i64 (n:=m) (by omega) (by omega),wrap_i64 (by omega) (by omega)]
end Go.Proofs.YtkbkbndajpbcjaaGreatDoor.Vm
namespace Go.Proofs.YtkbkbndajpbcjaaGreatDoor.Vm
open Go Go.VM Go.Proofs
noncomputable def Ko (c:AV) (e:AV):cJ->Oq (cJ ⊕ Nat×cJ):=fun a=>bo a.1 fun f g=>ct f fun d=>bo g fun h i=>bK .i64 h fun b=>bQ i (dm c fun j=>bu (decide (b < (↑j:Int))) (bL 2 c b a.2 fun k _=>ao 2 true k a.2 fun l _=>iH l fun m n=>(bL 2 e b a.2 fun o _=>ao 2 true o a.2 fun p _=>iH p fun q r=>(aC (MD (VM.binOp (Env.T vE) BinOp.neq 30 (.agg [.int .u8 m,.str n]) (.agg [.int .u8 q,.str r]))) fun s=>ct s fun t=>bu t (some (Sum.inr (1,[.bool false],a.2))) (bx (IntKind.wrap .i64 (b+1)) fun u=>some (Sum.inl ([.bool d,.int .i64 u],a.2)))))) (some (Sum.inr (0,[.bool d],a.2))))
noncomputable def g3:AV->AV->Oq AV:=fun k l=>fG k fun a=>bK .i64 l fun m=>aC (bu (decide ((↑a.length:Int) > 2000)) (some ([.bool true],sZ)) (bk 4 [] sZ fun n o _=>ct n fun p=>some ([.bool !p],o))) fun b=>bo b.1 fun q r=>ct q fun s=>bQ r (bu s (bk 4 [] b.2 fun t _ _=>ct t fun u=>some (.bool u)) (bx (IntKind.wrap .u64 m) fun v=>bx (Int.tmod v 181) fun w=>bx (IntKind.wrap .i64 w) fun y=>bx (IntKind.wrap .i64 (20+y)) fun z=>bk 5 [.str a,.int .i64 z] b.2 fun f x _=>ig f fun A=>cB A 0 fun B=>fG B fun c=>ig f fun C=>cB C 1 fun D=>bK .i64 D fun E=>bu (E != 0) (some (.bool (c==[]))) (bk 6 [.str a] x fun g F _=>bk 6 [.str c] F fun h G _=>dm g fun H=>dm h fun I=>bu ((↑H:Int) != (↑I:Int)) (some (.bool false)) (aC (bl (Ko g h) ([.bool false,.int .i64 0],G)) fun d=>bo d.2.1 fun J K=>ct J fun L=>bQ K (rM d.1 (bk 7 [.str a] d.2.2 fun i M _=>ig i fun N=>cB N 0 fun O=>ig i fun P=>cB P 1 fun Q=>bK .i64 Q fun R=>bk 7 [.str c] M fun j e _=>ig j fun S=>cB S 0 fun T=>ig j fun U=>cB U 1 fun V=>bK .i64 V fun W=>aC (bu (R==0) (bu (W==0) (bk 8 [O,T,.bool false] e fun X Y _=>ct X fun Z=>some ([.bool Z],Y)) (some ([.bool false],e))) (some ([.bool false],e))) fun c7=>bo c7.1 fun c8 c9=>ct c8 fun d0=>bQ c9 (some (.bool d0))) fun _=>some (.bool L))))))
theorem Xy (a b:AV):bB vE 3 [a,b]=g3 a b:=by kernel_rfl
noncomputable def OG (c:AV):cJ->Oq (cJ ⊕ Nat×cJ):=fun a=>bo a.1 fun d f=>bo f fun g h=>bK .i64 g fun b=>bQ h (dm c fun i=>bu (decide (b < (↑i:Int))) (bL 2 c b a.2 fun j _=>ch 0 j fun k=>ao 1 false k a.2 fun l _=>bK .u8 l fun m=>aC (bu (m != 1) (bL 2 c b a.2 fun n _=>ao 2 true n a.2 fun o _=>iH o fun p q=>(eI 2 24 30 d [.agg [.int .u8 p,.str q]] a.2 fun r s _=>some ([r],s))) (some ([d],a.2))) fun e=>bo e.1 fun t u=>bQ u (bx (IntKind.wrap .i64 (b+1)) fun v=>some (Sum.inl ([t,.int .i64 v],e.2)))) (some (Sum.inr (0,[d],a.2))))
noncomputable def g6:AV->Oq AV:=fun c=>fG c fun d=>bk 11 [.str d] sZ fun a e _=>ig a fun f=>cB f 0 fun g=>ig a fun h=>cB h 1 fun i=>bK .i64 i fun _=>aC (bl (OG g) ([.ax,.int .i64 0],e)) fun b=>bo b.2.1 fun j k=>bQ k (eF b.2.2 0 (oneOf [j]) fun l=>some l)
theorem Yq (a:AV):bB vE 6 [a]=g6 a:=by kernel_rfl
end Go.Proofs.YtkbkbndajpbcjaaGreatDoor.Vm
namespace Go.Proofs.YtkbkbndajpbcjaaGreatDoor.Vm
open Go Go.VM Go.Proofs Go.Lex Go.Parse Go.Scope Go.Ast
abbrev Wr (st:St) (out:LB):Prop:=Qx st 77 5 0 [] [] out/\st.ro<=st.h
theorem NN {st:St} {out:LB} (h:Wr st out) (hl:out.length<=1000000000) (b:UInt8): ∃st',Wr st' (out++[b])/\ ∃v o,∀{β:Type} (K:Kv β),bf (aQ vE) 148 [.mp 0 0,.int .u8 (b.toNat:Int)] st K=K v st' o:=by
 obtain ⟨q,g⟩:=h;obtain ⟨r,C,h1,t,p,j,u,o,k⟩:=vm (O:=aQ vE) (L:=[(76,2,0),(77,2,0),(78,4,0),(79,4,0)]) q rfl;obtain ⟨v,a,w,x,l,y,A,B,i⟩:=JY (s:=[b]) t (by simp;omega) (by rw [j.ro,u];exact g);have f:=A 0 _ (by intro n;simp) h1;have m:=fun (K:Kv (AV×St))=>dp (O:=aQ vE) (z:=1) (v:=v) (cs:=[v]) (off:=1) f rfl (by simp) (by rw [l];exact p) K;refine ⟨a.put 0 (.cells 77 [.mp 0 0,v]),⟨⟨_,v,St.aN (St.ca.1 f).1,.inr rfl,w.put f,by show a.ro<=0;rw [l];exact p⟩, ?_⟩, ?_⟩
 .show a.ro<=a.h;rw [l,j.ro];exact aaR g (aaR j.h y)
 .have e:dT vE 148 [.mp 0 0,.int .u8 (b.toNat:Int)] st=some (.nili,a.put 0 (.cells 77 [.mp 0 0,v])):=by
   refine (Sw _ _ _).trans ?_;have c:=fun {γ:Type} (K:Kv γ)=>i K;have d:=fun {γ:Type} (K:Kv γ)=>k K;simp only [aai,ofBytes,aan,aaH] at c d;simp only [XB,af,d,dP,aG,bw,aax,bq h1,aaq,vA,aR,ai,c,jH x,m];rfl
  exact ⟨_,_,fun K=>fX K rfl rfl (iB e)⟩
theorem kA {β:Type} {s:LB} {i:Nat} {c:UInt8} (h:s[i]? =some c) (K:UInt8->Oq β):kF s (i:Int) K=K c:=by
 have hl:=(abB.1 h).1;rw [gd hl,qO hl h]
theorem sW (s:LB) (hs:s.length<=1000000): ∀(m:LB) (i:Nat) (out:LB) (st:St),s.drop i=m->xd m=true->out.length<=i->Wr st out->aa (bl (mb s) ([.int .i64 (i:Int)],st)) fun c=> ∃st',c=(0,[],st')/\Wr st' (out++mY m)
 | [],i,out,st,u,he,ho,r=>by
  have:=abi.1 u;refine ⟨(0,[],st),bE ?_,st,rfl,by simpa [mY] using r⟩;simp only [mb,ab,af,ae,ak,if_neg (show ¬ (i:Int) < (s.length:Int) by omega)]
 | [c],i,out,st,u,he,ho,r=>by
  obtain ⟨e,x,z⟩:=drop_cons u;have t:c≠92:=by simpa [xd] using he
  have a:(((c.toNat:Nat):Int) != 92)=true:=by
   have:=nr t;simpa using this
  obtain ⟨st1,hB1,v,D,j⟩:=NN r (by omega) c;obtain ⟨q,w,f,rfl,g⟩:=sW s hs [] (i+1) (out++[c]) st1 x rfl (by simp;omega) hB1;refine ⟨_, ?_,f,rfl,by simpa [mY] using g⟩;rw [bA (s':=([.int .i64 ((i+1:Nat):Int)],st1)),w];simp only [mb,ab,af,ae,ak,if_pos (show (i:Int) < (s.length:Int) by omega),kA e,a,ay,j,ai,bz,aF,ck (show i+1<=9223372036854775807 by omega)]
 | c::d::l,i,out,st,u,he,ho,r=>by
  obtain ⟨e,x,z⟩:=drop_cons u;obtain ⟨h,A,E⟩:=drop_cons x;by_cases t:c=92
  .subst t;have a:(((92:UInt8).toNat:Int) != 92)=false:=by decide
   have n:=ck (show i+1<=9223372036854775807 by omega);have o:=ck (show i+1+1<=9223372036854775807 by omega);simp only [xd,if_true] at he;have key: ∀b:UInt8,b=(if d=110 then 10 else if d=116 then 9 else d)->aa (bl (mb s) ([.int .i64 (i:Int)],st)) fun c=> ∃st',c=(0,[],st')/\Wr st' (out++mY (92::d::l)):=fun b k=>by
    obtain ⟨st1,hB1,v,D,j⟩:=NN r (by omega) b;obtain ⟨q,w,f,rfl,g⟩:=sW s hs l (i+1+1) (out++[b]) st1 A he (by simp;omega) hB1;refine ⟨_, ?_,f,rfl,by rw [mY,if_pos rfl, <- k];simpa using g⟩;rw [bA (s':=([.int .i64 ((i+1+1:Nat):Int)],st1)),w];by_cases h1:d=110
    .subst h1;rw [if_pos rfl] at k;subst k;have j:=fun {γ:Type} (K:Kv γ)=>j K;have y:(((110:UInt8).toNat:Int)==110)=true:=by decide
     have p:=fun {γ:Type} (K:Kv γ)=>(show bf (aQ vE) 148 [.mp 0 0,.int .u8 10] st K= _ from j K);simp only [mb,ab,af,ae,ak,if_pos (show (i:Int) < (s.length:Int) by omega),kA e,kA h,a,aq,aF,n,y,ay,p,ai,bz,o]
    .rw [if_neg h1] at k;have y:(((d.toNat:Nat):Int)==110)=false:=by
      have:=nr h1;simpa using this
     by_cases B:d=116
     .subst B;rw [if_pos rfl] at k;subst k;have C:(((116:UInt8).toNat:Int)==116)=true:=by decide
      have p:=fun {γ:Type} (K:Kv γ)=>(show bf (aQ vE) 148 [.mp 0 0,.int .u8 9] st K= _ from j K);simp only [mb,ab,af,ae,ak,if_pos (show (i:Int) < (s.length:Int) by omega),kA e,kA h,a,aq,aF,n,y,C,ay,p,ai,bz,o]
     .rw [if_neg B] at k;subst k;have C:(((b.toNat:Nat):Int)==116)=false:=by
       have:=nr B;simpa using this
      simp only [mb,ab,af,ae,ak,if_pos (show (i:Int) < (s.length:Int) by omega),kA e,kA h,a,aq,aF,n,y,C,j,ai,bz,o]
   exact key _ rfl
  .have a:(((c.toNat:Nat):Int) != 92)=true:=by
    have:=nr t;simpa using this
   rw [xd,if_neg t] at he;obtain ⟨st1,hB1,v,D,j⟩:=NN r (by omega) c;obtain ⟨q,w,f,rfl,g⟩:=sW s hs (d::l) (i+1) (out++[c]) st1 x he (by simp;omega) hB1;refine ⟨_, ?_,f,rfl,by rw [mY,if_neg t];simpa using g⟩;rw [bA (s':=([.int .i64 ((i+1:Nat):Int)],st1)),w];simp only [mb,ab,af,ae,ak,if_pos (show (i:Int) < (s.length:Int) by omega),kA e,a,ay,j,ai,bz,aF,ck (show i+1<=9223372036854775807 by omega)]
theorem QG {s u:LB} (hs:s=34::u++[34]) (he:xd u=true) (hl:s.length<=1000000):(aQ vE).bare 110 [.str s]=some (.str (told s)):=by
 have hlen:s.length=u.length+2:=by rw [hs];simp
 have i:(s.take (s.length - 1)).drop 1=u:=by rw [hlen,hs];simp
 have j:told s=mY u:=by unfold told;rw [hs];simp
 have k:Wr (St.mk 1 0 (Tr.node (some (VM.Obj.cells 77 [AV.nilp,AV.ax])) Tr.leaf Tr.leaf)) []:=⟨⟨.nilp,.ax,rfl,.inl rfl,.inl ⟨rfl,rfl⟩,aal _⟩,aaO _⟩;obtain ⟨q,a,o,rfl,b⟩:=sW u (by omega) u 0 [] _ rfl he (aaO _) k;have a:bl (mb u) ([.int .i64 0],_)= _:=a;have e:(mY u).length<=1000000:=by
  have: ∀(n:Nat) (l:LB),l.length<=n->(mY l).length<=l.length:=by
   intro n
   induction n with
   | zero=>intro l h;obtain rfl:=List.length_eq_zero_iff.1 (Nat.le_zero.1 h);simp [mY]
   | succ n ih=>
    intro l h
    match l with
    | []=>simp [mY]
    | [c]=>simp [mY]
    | c::d::l=>
     rw [mY];split
     .have:=ih l (by simp at h;omega);simp;omega
     .have:=ih (d::l) (by simp at h ⊢;omega);simp at this ⊢;omega
  have:=this _ u (aal _);omega
 obtain ⟨t,p⟩:=Bv (O:=aQ vE) b.1 (by rw [aaq];omega) (fun f _ _=>fG f fun g=>some (AV.str g));refine aU rfl ((Q0 _).trans ?_);have r:IntKind.wrap .i64 ((s.length:Int) - 1)=((s.length - 1:Nat):Int):=HO (m:=1) (by omega) (by omega);simp only [Yu,ah,aF,r,db (show s.length - 1<=s.length by omega),jX (show 1<=s.length - 1 by omega),aG,i,a,ai,ae];refine p.trans ?_;rw [aaq,ah,j]
theorem tG {tk:Nat} {s:LB} (g:jE (tk,s)) (hl:s.length<=1000000):(aQ vE).bare 70 [.agg [.int .u8 (tk:Int),.str s]]=some (.tup [.int .u8 ((gX tk s).1:Int),.str (gX tk s).2]):=by
 refine aU rfl ((TH _).trans ?_);have h:((tk:Int)==4)=(tk==4):=cY tk 4;have i:((tk:Int)==5)=(tk==5):=cY tk 5;have j:((tk:Int)==6)=(tk==6):=cY tk 6;have k:((tk:Int)==7)=(tk==7):=cY tk 7;simp only [ZX,al,ab,af,ah,ae,h,i,j,k];unfold gX;by_cases a:tk=4
 .simp [a,ay]
 by_cases b:tk=5
 .simp [b,ay,aq]
 by_cases d:tk=6
 .simp [d,ay,aq]
 by_cases e:tk=7
 .obtain ⟨u,l,he⟩:=g.2.1 e;have c:=fun {γ:Type} (st:St) (K:Kv γ)=>aI (f:=110) st K rfl rfl rfl (QG l he hl);rw [aaB.2 a,aaB.2 b,aaB.2 d,aaX.2 e,if_neg a,if_neg b,if_neg d,if_pos e];simp only [ay,aq,c,ah];rfl
 .rw [aaB.2 a,aaB.2 b,aaB.2 d,aaB.2 e,if_neg a,if_neg b,if_neg d,if_neg e];rfl
theorem Nw (tk:Nat) (s:LB):(aQ vE).bare 41 [.agg [.int .u8 (tk:Int),.str s]]=some (.bool (tk != 0&&(tk != 1&&tk != 2))):=by
 refine aU rfl ((T6 _).trans ?_);have a:((tk:Int) != 0)=(tk != 0):=lW tk 0;have b:((tk:Int) != 1)=(tk != 1):=lW tk 1;have c:((tk:Int) != 2)=(tk != 2):=lW tk 2;simp only [ZS,al,ab,af,ah,ae,a,b,c];cases tk != 0 <;> cases tk != 1 <;> rfl
abbrev Z4:AV:= .fn (.func 40) [] [.mp 4 0,.mp 2 0,.mp 3 0,.mp 1 0]
abbrev Vx (fnd:Bool) (a f t:Int):wS:=[(4,100,[Z4]),(2,4,[.bool fnd]),(3,3,[.int .i64 a]),(1,55,[.int .i64 f,.int .i64 t]),(0,55,[.int .i64 0,.int .i64 0])]
abbrev Vs (L:List (Nat×Nat)) (a:Nat):wS:=Vx (!L.isEmpty) (a:Int) (mC L).1 (mC L).2
theorem nbM (v:AV) (i o:Nat) (l:LA) (x:Bool):(bH ((v:: .mp i o::l).map strip)&&x)=false:=by
  simp only [aan,aJ,show strip (.mp i o)= .mp i o from rfl,show VM.bare (.mp i o)=false from rfl,abF,abR]
theorem Gd: ∀(l:List T) (t:T) (a:Nat),M8 a (l++[t])=M8 a l++P8 (a+(bg l).length) t
  | [],t,a=>by simp [M8,bg]
  | u::l,t,a=>by
    rw [aat,M8,Gd l t,M8,show bg (u::l)=bG u++bg l by simp [bg],aad,abH,aar]
theorem Iw (L:List (Nat×Nat)) (p q:Nat):(mC (L++[(p,q)])).2=(q:Int)/\(mC (L++[(p,q)])).1=if L.isEmpty=true then (p:Int) else (mC L).1:=by
  unfold mC;refine ⟨by simp, ?_⟩;cases L with
  | nil=>simp
  | cons a l=>simp
theorem RA: ∀(t:T) (v:AV) (st:St) (L:List (Nat×Nat)) (a:Nat),ky t v->Vw st (Vs L a)->a+(bG t).length<=1000000000000->
    aa ((aQ vE).wide 40 [v,.mp 4 0,.mp 2 0,.mp 3 0,.mp 1 0] st) fun r=>r.1= .tup []/\Vw r.2 (Vs (L++P8 a t) (a+(bG t).length)):=by
  refine T.ind fun k tk tx l ih v st L a q A j=> ?_;simp only [ky] at q;obtain ⟨x,es,rfl,hx,hs⟩:=q;have hlen:=JE hx hs;have B:a+(bg l).length<=1000000000000:=by
    simp only [bG,aad] at j;omega
  refine aa.wide (aa.step (V0 _ _ _ _ _ _) ?_);simp only [w40,al,ab,af,ah,ae,hx.ad,hx.aD,jz hx hs];refine aa.bind (R:=fun c=> ∃s,c=(0,[],s)/\Vw s (Vs (L++M8 a l) (a+(bg l).length))) ?_ ?_
  · refine aa.upto (n:=l.length) (I:=fun i c=> ∃s,c=([.int .i64 (i:Int)],s)/\Vw s (Vs (L++M8 a (l.take i)) (a+(bg (l.take i)).length))) ?_ ?_ l.length 0 _ (by omega) ⟨st,rfl,by simpa [M8,bg] using A⟩
    · rintro i c hi ⟨s,rfl,w⟩
      have d:=eU hi;have C:=ui l (i+1);have he:(bg (l.take (i+1))).length=(bg (l.take i)).length+(bG l[i]).length:=by rw [d,dE,bS,aad]
      obtain ⟨N,O,D,y,g,e⟩:=xW hx hs (aav hi);obtain ⟨l2,E,_,hy,_⟩:=na g;simp only [IC,ab,af,ae,ak,if_pos (show (i:Int) < (l.length:Int) by omega)];refine aa.step (e s _) ?_;refine aa.Au w fun Q _ w=>aa.step (hy.ad _) ?_;refine aa.qC [] w fun b _ _ w=> ?_;refine aa.ff (aam _ aag) w rfl (aa.fo aag w rfl ?_);simp only [al,ab,af,ah,ae];refine aa.step (show iZ _ _ _ _ _ _=bf (aQ vE) 40 [_,.mp 4 0,.mp 2 0,.mp 3 0,.mp 1 0] b _ from rfl) ?_;refine aa.gu (ih _ (aaV hi) _ b (L++M8 a (l.take i)) (a+(bg (l.take i)).length) g (w.sub (abr _ _)) (by omega)) rfl (nbM _ _ _ _ _) ?_;rintro u m ⟨_,F⟩;simp only [aF,ck (show i+1<=9223372036854775807 by omega)];refine aa.inl ⟨m,rfl, ?_⟩;rw [d,Gd, <- aar, <- d,he, <- abH];exact F
    · rintro c ⟨s,rfl,w⟩
      rw [aaJ] at w;simp only [IC,ab,af,ae,ak,if_neg (show ¬ ((l.length:Nat):Int) < (l.length:Int) by omega)];exact aa.inr ⟨s,rfl,w⟩
  rintro c ⟨s,rfl,w⟩;simp only [ae,show ((k:Int) != 1)=(k != 1) from lW k 1];simp only [P8,bG] at j ⊢;by_cases h:k=1
  · subst h
    rw [if_pos rfl,aad] at j;rw [if_pos rfl,aad, <- abH, <- aar];generalize S:a+(bg l).length=P at *;generalize L++M8 a l=M at *;have G:=fun {γ:Type} (st:St) (K:Kv γ)=>aI (f:=41) st K rfl rfl rfl (Nw tk tx);simp only [show ((1:Nat) != 1)=false from rfl,aq,G,au];refine aa.bind (R:=fun c=> ∃s,c=([],s)/\Vw s (Vx (!(M++if sB 1 tk=true then [(P,P+tx.length)] else []).isEmpty) (P:Int) (mC (M++if sB 1 tk=true then [(P,P+tx.length)] else [])).1 (mC (M++if sB 1 tk=true then [(P,P+tx.length)] else [])).2)) ?_ ?_
    · have o:sB 1 tk=(tk != 0&&(tk != 1&&tk != 2)):=rfl
      rw [<- o];cases C:sB 1 tk with
      | false=>
        refine aa.step (aq _ _) (aa.some ⟨s,rfl, ?_⟩);simpa using w
      | true=>
        obtain ⟨H,J⟩:=Iw M P (P+tx.length);simp only [if_true,J,H];refine aa.step (ay _ _) (aa.ff (aam _ aag) w rfl (aa.step (au _ _) ?_));have p:(!(M++[(P,P+tx.length)]).isEmpty)=true:=by simp
        rw [p];have w:Vw s (Vx (!M.isEmpty) (P:Int) (mC M).1 (mC M).2):=w;refine aa.bind (R:=fun c=> ∃s,c=([],s)/\Vw s (Vx true (P:Int) (if M.isEmpty=true then (P:Int) else (mC M).1) (mC M).2)) ?_ ?_
        · cases z:M.isEmpty with
          | false=>
            rw [z] at w;refine aa.step (aq _ _) (aa.some ⟨s,rfl, ?_⟩);simpa using w
          | true=>
            rw [z] at w;refine aa.step (ay _ _) (aa.ff (aam _ (aam _ aag)) w rfl (aa.step (af _ _ _) ?_));simp only [bw,abf];refine aa.EG [_,_,_] w (aah rfl) fun b _ _ w=>aa.qC [_] w fun m _ _ w=>aa.some ⟨m,rfl,w⟩
        · rintro c ⟨b,rfl,w⟩
          refine aa.step (ae _) (aa.ff (aam _ (aam _ aag)) w rfl (aa.step (af _ _ _) ?_));simp only [aF,bw,aax,rA (show P+tx.length<=9223372036854775807 by omega)];exact aa.EG [_,_,_] w (aah rfl) fun b _ _ w=>aa.some ⟨b,rfl,w⟩
    · rintro c ⟨b,rfl,w⟩
      refine aa.step (ae _) (aa.ff (aam _ (aam _ aag)) w rfl (aa.step (af _ _ _) ?_));simp only [aF,rA (show P+tx.length<=9223372036854775807 by omega)];exact aa.qC [_,_] w fun b _ _ w=>aa.some ⟨rfl,w⟩
  · have hp:sB k tk=false:=by simp [sB,h]
    rw [hp,if_neg (by simp),if_neg h,aay,aay];rw [show (k != 1)=true by simpa using h];exact aa.step (ay _ _) (aa.some ⟨rfl,w⟩)
theorem zk {p:Nat×T} {v:AV} (h:nt p v) (d:p.1+(bG p.2).length<=1000000000000):(aQ vE).bare 16 [v]=some (.tup [.agg [.int .i64 (oz p.1 p.2).1,.int .i64 (oz p.1 p.2).2],.bool (!(P8 p.1 p.2).isEmpty)]):=by
  obtain ⟨i,j,k,y,rfl,b⟩:=h;obtain ⟨l,es,f,hy,hs⟩:=na b;obtain ⟨p1,a⟩:=p;simp only at b d f ⊢;refine aU rfl ((VB _).trans (aa.eq ?_));simp only [g16,al,ab,af,ah,ae,hy.ad,hy.aD];have w0:Vw (St.mk 5 0 (Tr.node (some (VM.Obj.cells 55 [AV.int .i64 0,AV.int .i64 0])) (Tr.node (some (VM.Obj.cells 55 [AV.int .i64 0,AV.int .i64 0])) (Tr.node (some (VM.Obj.cells 3 [AV.int .i64 (p1:Int)])) Tr.leaf Tr.leaf) Tr.leaf) (Tr.node (some
 (VM.Obj.cells 4 [AV.bool false])) (Tr.node (some (VM.Obj.cells 100 [Z4])) Tr.leaf Tr.leaf) Tr.leaf))) (Vs [] p1):=by
    refine ⟨fun q e=> ?_,by show ([4,2,3,1,0]:Ln).Nodup;decide,aaO _⟩;simp only [Vs,Vx,aao,aaF,or_false] at e;rcases e with rfl | rfl | rfl | rfl | rfl <;> (refine ⟨?_,Nat.zero_le _⟩;dsimp only;rfl)
  refine aa.gu (RA _ _ _ [] p1 b w0 d) rfl (nbM _ _ _ _ _) ?_;rintro u s ⟨_,w⟩;refine aa.fo (aam _ (aam _ (aam _ aag))) w rfl ?_;simp only [al,ab,af,ae];refine aa.ff (aam _ aag) w rfl (aa.step (au _ _) ?_);have hm:=w.v _ (aam _ (aam _ (aam _ (aam _ aag))));have g:=fun {γ:Type} (K:Kv γ)=>dp (O:=aQ vE) (z:=2) (v:= .agg [.int .i64 (mC ([]++P8 p1 a)).1,.int .i64 (mC ([]++P8 p1 a)).2]) (cs:=[.int .i64 (mC ([]++P8 p1 a)).1,.int .i64 (mC ([]++P8 p1 a)).2]) (off:=0) hm.1 rfl (aah rfl) hm.2 K;refine aa.step (g _) ?_;have c: ∀o,apart ⟨[2],.kept⟩ ⟨[0],.wrote 0 o⟩=true:=fun o=>rN (by decide);rw [c,abh];refine aa.step (aG _) (aa.step (bq (St.aN (St.ca.1 hm.1).1) _ _ _ _) ?_);exact aa.some rfl
structure Fit (p:Nat×T):Prop where
 t:p.1+(bG p.2).length<=1000000
 s:(jS p.2).length<=100000000
theorem pR: ∀(l:List T) (a:Nat),(bY a l).map (·.2)=l
 | [],_=>rfl
 | t::l,a=>by rw [bY,aan,pR l]
theorem KZ: ∀(l:List T) (a:Nat),a+(bg l).length<=1000000->(sO l).length<=100000000-> ∀p∈bY a l,Fit p
 | [],_,_,_,p,h=>by cases h
 | t::l,a,h1,b,p,h=>by
  simp only [bg,sO,aad,aae] at h1 b;rcases aao.1 h with rfl | h
  .exact ⟨by simp only;omega,by simp only;omega⟩
  .exact KZ l (a+(bG t).length) (by omega) (by omega) p h
theorem zZ: ∀(l:List T),l.length<=(sO l).length
 | []=>aal _
 | t::l=>by
  have:=zZ l;simp only [sO,aad,aae];omega
theorem Fit.kids {a k:Nat} {l:List T} (h:Fit (a,node k l)) (h1:k≠1) (c:k≠2):a+(bg l).length<=1000000/\l.length < 100000000/\ ∀p∈bY a l,Fit p:=by
 have b:=h.t;have hs:=h.s;simp only [node,bG,if_neg h1,aay,jS,if_neg c,aae,aad,aai] at b hs;have:=zZ l;exact ⟨b,by omega,KZ l a b (by omega)⟩
theorem HS {ks:List T} (h:Tv jE ks):ks.length<=(bg ks).length:=by
 obtain ⟨r,rfl,a⟩:=h
 induction r with
 | nil=>exact aal _
 | cons t r ih=>
  have h1:=ih fun x hx=>a x (aam _ hx);have b:=(a t aag).2.1;have c:0 < t.2.length:=abN.2 b;simp only [aan,aae,bg,aad];have d:(bG (aY t)).length=t.2.length:=by simp [aY,leaf,bG,bg]
  omega
theorem xn: ∀{l:List jQ} {es:LA} {p:jQ} {v:AV},di l es->Ct p v->di (l++[p]) (es++[v])
 | [],_,_,_,h,k=>by simp only [di] at h;subst h;exact di.cons k di.nil
 | p::l,_,_,_,h,k=>by
  simp only [di] at h;obtain ⟨w,ws,rfl,h1,a⟩:=h;exact di.cons h1 (xn a k)
abbrev ve:Td:=99
abbrev z6:LA:=[.int .u8 0,.int .u8 0,.int .i64 0,.int .i64 0,.str [],.ax]
abbrev tZ (k lit:Nat) (sp:Sp) (nm:LB) (x:AV):LA:=[.int .u8 (k:Int),.int .u8 (lit:Int),.int .i64 sp.1,.int .i64 sp.2,.str nm,x]
def pG (p:Nat×T):Prop:= ∀v,nt p v->aa ((aQ vE).bare 69 [v]) fun x=>Ct (jv p.1 p.2) x
theorem ji {p:jQ} {v:AV} (h:Ct p v): ∃k lit sp nm ps x es,p= .mk k lit sp nm ps/\v= .agg (tZ k lit sp nm x)/\aO 6 x es/\di ps es:=by
 cases p with
 | mk k lit sp nm ps=>
  obtain ⟨x,es,e,h1,a⟩:=h.Y9;exact ⟨k,lit,sp,nm,ps,x,es,rfl,e,h1,a⟩
theorem Hl {p:Nat×T} {v:AV} (h:nt p v):VM.bare v=true/\VM.strip v=v:=by
 obtain ⟨a,b,s,y,rfl,c⟩:=h;obtain ⟨l,es,_,hy,_⟩:=na c;refine ⟨?_,rfl⟩;rw [mf];simp only [aJ,hy.bare];rfl
theorem tL {a b c d e f g:AV}:jx 7 true [a,b,c,d,e,f,g]=some (.agg [a,b,c,d,e,f,g]):=rfl
theorem jw {F:FuncId} {p:Nat×T} {v r:AV} (a:nt p v) (hf:vE.full F=false) (h:(aQ vE).bare F [v]=some r) {β:Type} (st:St) (K:Kv β):bf (aQ vE) F [v] st K=K r st q0:=
 aI st K hf (by simp only [aan,aaH,(Hl a).2]) (by simp only [aJ,(Hl a).1];rfl) h
theorem zp {ps:List (Nat×T)} {x:AV} {es:LA} (hx:aO 5 x es) (hs:ij nt ps es) (hn:ps.length < 1000000000) (ih: ∀p∈ps,pG p) (st:St) (j:st.ro<=st.h):
  aa ((aQ vE).wide 38 [x] st) fun r=> ∃ws,Wv st r.2 [] 6 ve r.1 ws/\di (ps.map fun p=>jv p.1 p.2) ws:=by
 have hlen:=hs.len;refine aa.wide (aa.step (UQ _ _) ?_);simp only [w38,hx.len];refine aa.bind (R:=fun c=> ∃s v ws,c=(0,[v],s)/\Wv st s [] 6 ve v ws/\di (ps.map fun p=>jv p.1 p.2) ws) ?_ ?_
 .refine aa.upto (n:=es.length) (I:=fun i c=> ∃s v ws,c=([v,.int .i64 (i:Int)],s)/\Wv st s [] 6 ve v ws/\di ((ps.take i).map fun p=>jv p.1 p.2) ws) ?_ ?_ es.length 0 _ (by omega) ⟨st,.ax,[],rfl,Wv.start j _ _,by simpa using di.nil⟩
  .rintro i c hi ⟨s,v,ws,rfl,w,a⟩;have b:i < ps.length:=by omega
   have l:=a.len;rw [aaA,aau] at l;obtain ⟨m,o,d,y,f,e⟩:=qH hx hs (aav b);obtain ⟨l2,z,_,hy,_⟩:=na f;have q:nt ps[i] (.agg [.int .u8 (m:Int),.int .u8 (o:Int),.str d,y,.int .i64 (ps[i].1:Int)]):=⟨m,o,d,y,rfl,f⟩;obtain ⟨u,A,t⟩:=ih _ (aaV b) _ q;obtain ⟨k,lit,sp,nm,F,G,fs,H,rfl,g,B⟩:=ji t;simp only [Io,ab,af,ae,ak,if_pos (show (i:Int) < (es.length:Int) by omega),e,bj,iy,ai,al,ah];refine aa.lx w fun J _ w=>aa.step (hy.ad _) ?_;refine aa.kR [] w fun C _ _ w=>aa.fo aag w.w rfl ?_;simp only [al,ab,af,ah,ae];refine aa.step (jw q rfl A C _) ?_;simp only [al,ab,af,ah,ae,g.ad,g.aD];refine aa.sj w (by omega) (by omega) (by omega) fun D E _ w=> ?_;simp only [aF,ck (show i+1<=9223372036854775807 by omega)];refine aa.inl ⟨E,D,_,rfl,w.none, ?_⟩;rw [eU b,aaG];exact xn a t
  .rintro c ⟨s,v,ws,rfl,w,a⟩;simp only [Io,ab,af,ae,ak,if_neg (show ¬ ((es.length:Nat):Int) < (es.length:Int) by omega)];rw [hlen,aaJ] at a;exact aa.inr ⟨s,v,ws,rfl,w,a⟩
 .rintro c ⟨s,v,ws,rfl,w,a⟩;simp only [ab,ae,kg];exact aa.some ⟨ws,w,a⟩
theorem NV {st:St} {x x':AV} {ws:LA} (hx:aO 6 x' ws) (hf: ∀n,VM.freeze st 0 (n+1) x= .ok x') (k lit:Int) (a b:Int) (nm:LB) {β:Type} (K:AV->Oq β):
  eF st 0 (.agg [.int .u8 k,.int .u8 lit,.int .i64 a,.int .i64 b,.str nm,x]) K=K (.agg [.int .u8 k,.int .u8 lit,.int .i64 a,.int .i64 b,.str nm,x']):=by
 refine zB (bF (fC _ _ st 0 99 (by omega)) (bF (fC _ _ st 0 99 (by omega)) (bF (fC _ _ st 0 99 (by omega)) (bF (fC _ _ st 0 99 (by omega)) (bF (uO _ st 0 99 (by omega)) (bF (hf 98) nV)))))) ?_ K;simp only [aJ,hx.bare];rfl
theorem Np {k lit:Nat} {sp:Sp} {nm:LB} {ps:List jQ} {x:AV} {es:LA} (hx:aO 6 x es) (hp:di ps es):Ct (.mk k lit sp nm ps) (.agg (tZ k lit sp nm x)):=by
 simp only [Ct];exact ⟨x,es,rfl,hx,hp⟩
theorem QN {l:List T} {a:Nat}:(eX (bY a l)).map (·.2)=eX l:=by rw [<- l4,pR]
theorem zJ {α:Type}: ∀{l:List α} {x:α},x∈eX l->x∈l
 | [],_,h=>by simp [eX] at h
 | [_],_,h=>by simp [eX] at h
 | [_,_],_,h=>by simp [eX] at h
 | _::x::y::l,u,h=>by
  simp only [eX,aao] at h;rcases h with rfl | h
  .simp
  .have:=zJ (l:=y::l) h;simp only [aao] at this ⊢;exact .inr (.inr this)
theorem rP {α:Type}: ∀(l:List α),(eX l).length<=l.length
 | []=>aal _
 | [_]=>by simp [eX]
 | [_,_]=>by simp [eX]
 | _::x::y::l=>by
  have:=rP (y::l);simp only [eX,aae] at this ⊢;omega
theorem nX: ∀(l:List T) (a:Nat),rI a l=(bY a l).map fun p=>jv p.1 p.2
 | [],_=>rfl
 | t::l,a=>by rw [rI,bY,aan,nX l]
abbrev Tf (k lit:Nat) (sp:Sp) (nm:LB) (x:AV):wS:=[(1,ve,tZ k lit sp nm x),(0,ve,z6)]
def XS (p:Nat×T) (S:Sp) {X:Type} (f:AV->X) (c:Sum cJ X):Prop:=(∃s k2 lit nm z ws ps,c= .inl ([],s)/\Vo s (Tf k2 lit S nm z) 6 ve z ws/\di ps ws/\jv p.1 p.2= .mk k2 lit S nm ps)\/ ∃r,c= .inr (f r)/\Ct (jv p.1 p.2) r
theorem SZ {p:Nat×T} {S:Sp} {X:Type} (f:AV->X) (c:Sum cJ (Sum cJ X)) (h:XS p S (fun r=>Sum.inr (f r)) c):aa (kZ c fun c=>bQ c.1 (some (Sum.inl ([],c.2)))) (XS p S f):=by
 rcases h with ⟨s,k2,lit,nm,z,ws,ps,rfl,h⟩ | ⟨r,rfl,a⟩
 .exact aa.some (.inl ⟨s,k2,lit,nm,z,ws,ps,rfl,h⟩)
 .exact aa.some (.inr ⟨r,rfl,a⟩)
theorem ta (l:LA):(bH (l.map strip)&& !vE.full 38)=false:=by rw [show vE.full 38=true from rfl];simp
theorem Ky {a b c d e f:AV}:jx 6 true [a,b,c,d,e,f]=some (.agg [a,b,c,d,e,f]):=rfl
theorem Qa: ∀{l:List jQ} (_:l.length≠1) (S:Sp),Gq S l= .mk 18 0 S [] l
 | [],_,_=>rfl
 | [_],h,_=>absurd rfl h
 | _:: _:: _,_,_=>rfl
theorem Bp {p:Nat×T} {k tk:Nat} {tx:LB} {l:List T} (hp:p.2= .mk k tk tx l) (hf:Fit p) (hl:l.length < 1000000000) (ht:p.1+(bg l).length<=1000000)
  (e:k≠16->k≠17->k≠18->jE (tk,tx)/\tx.length<=1000000) (I:k=16-> ∀i p',(i=0\/i=2)->(bY p.1 l)[i]? =some p'->pG p') (j:k=16->l.length=3) (J: ∀p'∈eX (bY p.1 l),(k=17\/k=18)->pG p'):pG p:=by
 rintro v hv;have a6:=zk hv (by have:=hf.t;omega);have L:nt (p.1,.mk k tk tx l) v:=by rw [<- hp];exact hv
 obtain ⟨x,es,a7,hx,hs⟩:=sP L (by omega) hl;have a8:=fun {γ:Type} (st:St) (K:Kv γ)=>jw hv rfl a6 st K;have bb:=fun {γ:Type} (st:St) (K:Kv γ)=>jw hv rfl a7 st K;have h:jv p.1 p.2=ux k tk tx (oz p.1 p.2) ((bY p.1 l).map fun q=>jv q.1 q.2):=by rw [hp,jv,nX]
 obtain ⟨a1,b1,s1,y,rfl,hN⟩:=L;obtain ⟨l',es',bt,hy,cz⟩:=na hN;cases bt;generalize hS:oz p.1 p.2=S at *;refine aa.bare rfl (aa.step (Uo _) ?_);simp only [g69,al,ab,af,ah,ae,hy.ad,hy.aD];refine aa.step (a8 _ _) ?_;simp only [br,aP,ba,al,ab,af,ae,au];have w0:Vo (St.mk 2 0 (Tr.node (some (VM.Obj.cells ve z6)) (Tr.node (some (VM.Obj.cells ve z6)) Tr.leaf Tr.leaf) Tr.leaf)) [(1,ve,z6),(0,ve,z6)] 6 ve .ax []:=by
  refine ⟨⟨fun q e=> ?_,by show ([1,0]:Ln).Nodup;decide,aaO _⟩,iX.ax (aaO _) _ _⟩;simp only [aao,aaF,or_false] at e;rcases e with rfl | rfl <;> (refine ⟨?_,Nat.zero_le _⟩;dsimp only;rfl)
 refine aa.nM [] w0 (aah rfl) fun s1 o1 _ w=>aa.step (bb _ _) ?_;have w:Vo s1 (Tf 0 0 S [] .ax) 6 ve .ax []:=w;have b4:((k:Int)==16)=(k==16):=cY k 16;have b5:((k:Int)==17)=(k==17):=cY k 17;have b6:((k:Int)==18)=(k==18):=cY k 18;simp only [b4,b5,b6];refine aa.bind (R:=XS p S id) ?_ ?_
 .by_cases h1:k=16
  .obtain ⟨p0,m⟩: ∃p0,(bY p.1 l)[0]? =some p0:=⟨_,aav (by rw [dJ,j h1];omega)⟩;obtain ⟨A,B⟩: ∃A,(bY p.1 l)[2]? =some A:=⟨_,aav (by rw [dJ,j h1];omega)⟩;obtain ⟨a0,b0,s0,y0,b7,e0⟩:=qH hx hs m;obtain ⟨a2,b2,s2,y2,b8,e2⟩:=qH hx hs B;have M:nt p0 (.agg [.int .u8 (a0:Int),.int .u8 (b0:Int),.str s0,y0,.int .i64 (p0.1:Int)]):=⟨a0,b0,s0,y0,rfl,b7⟩;have N:nt A (.agg [.int .u8 (a2:Int),.int .u8 (b2:Int),.str s2,y2,.int .i64 (A.1:Int)]):=⟨a2,b2,s2,y2,rfl,b8⟩;obtain ⟨u0,b9,O⟩:=I h1 0 p0 (.inl rfl) m _ M;obtain ⟨u2,cc,P⟩:=I h1 2 A (.inr rfl) B _ N;obtain ⟨k3,g,C,D,Q,y3,cd,U,rfl,d,V⟩:=ji O;obtain ⟨k4,W,cg,cn,cF,y4,c6,c7,rfl,Y,c8⟩:=ji P;have e0: ∀{β:Type} (st:St) (K:AV->Ln->Oq β),bL 5 x 0 st K= _:=e0;have e2: ∀{β:Type} (st:St) (K:AV->Ln->Oq β),bL 5 x 2 st K= _:=e2;have c0:=fun {γ:Type} (st:St) (K:Kv γ)=>jw M rfl b9 st K;have c2:=fun {γ:Type} (st:St) (K:Kv γ)=>jw N rfl cc st K;rw [aaX.2 h1];refine aa.step (ay _ _) ?_;simp only [e0,e2,c0,c2,bj,iy,ai,al,ab,af,ah,ae,cI,cA,aaI,aG,d.ad,d.aD,Y.ad,Y.aD];refine aa.nM [] w (aah rfl) fun s5 o5 _ w=>aa.step (aG _) (aa.nM [] w (aah rfl) fun Z o6 _ w=>aa.some (.inl ⟨Z,20,0,[],.sl 6 [.agg (tZ k3 g C D y3),.agg (tZ k4 W cg cn y4)] .shut,_,[jv p0.1 p0.2,jv A.1 A.2],rfl,Vo.new w (.inr rfl) (aah rfl),di.cons O (di.cons P di.nil), ?_⟩))
   .rw [h,ux,if_pos h1];simp only [aaE,aaW,m,B,Option.map_some,Option.getD_some]
  .rw [aaB.2 h1];refine aa.step (aq _ _) (aa.bind (R:=XS (X:=Sum cJ AV) p S fun r=>Sum.inr (id r)) ?_ (SZ id));by_cases E:k=18
   .obtain ⟨z,gs,eo,hz,hg⟩:=Fi hx hs (by rw [dJ];exact hl);have co:=fun {γ:Type} (st:St) (K:Kv γ)=>aI (f:=109) st K rfl (by simp only [aan,aaH,hx.strip]) (by simp only [aJ,hx.bare];rfl) eo;rw [aaX.2 E];refine aa.step (ay _ _) (aa.step (co _ _) ?_);refine aa.gu (zp hz hg (by have:=rP (bY p.1 l);rw [dJ] at this;omega) (fun q e=>J q e (.inr E)) s1 w.w.ro) rfl (ta _) ?_;rintro v5 s5 ⟨ws,w5,a⟩;have w:=w.call w5;refine aa.nM [] w (aah rfl) fun Z o6 _ w=>aa.one w.o.one (aa.one w.o.one (aa.nM [] w (aah rfl) fun F o7 _ w=>aa.some (.inl ⟨F,19,0,[],_,_,_,rfl,w,a, ?_⟩)));rw [h,ux,if_neg h1,if_pos E,l4]
   .rw [aaB.2 E];refine aa.step (aq _ _) (aa.bind (R:=XS (X:=Sum cJ (Sum cJ AV)) p S fun r=>Sum.inr (Sum.inr r)) ?_ (SZ (X:=Sum cJ AV) fun r=>Sum.inr r));by_cases H:k=17
    .obtain ⟨z,gs,eo,hz,hg⟩:=Fi hx hs (by rw [dJ];exact hl);have co:=fun {γ:Type} (st:St) (K:Kv γ)=>aI (f:=109) st K rfl (by simp only [aan,aaH,hx.strip]) (by simp only [aJ,hx.bare];rfl) eo;rw [aaX.2 H];refine aa.step (ay _ _) (aa.step (co _ _) ?_);refine aa.gu (zp hz hg (by have:=rP (bY p.1 l);rw [dJ] at this;omega) (fun q e=>J q e (.inl H)) s1 w.w.ro) rfl (ta _) ?_;rintro v5 s5 ⟨ws,w5,a⟩;have w:=w.call w5;have b:jv p.1 p.2=Gq S ((eX (bY p.1 l)).map fun q=>jv q.1 q.2):=by rw [h,ux,if_neg h1,if_neg E,if_pos H,l4]
     refine aa.nM [] w (aah rfl) fun Z o6 _ w=>aa.one w.o.one (aa.one w.o.one (aa.nM [] w (aah rfl) fun F o7 _ w=> ?_));refine aa.ff aag w.w rfl (aa.step (EW w.o _) ?_);by_cases ar:ws.length=1
     .obtain ⟨q,e⟩: ∃q,(eX (bY p.1 l)).map (fun q=>jv q.1 q.2)=[q]:=by
       have:=a.len;exact List.length_eq_one_iff.1 (by omega)
      rw [e] at a;simp only [di] at a;obtain ⟨u,us,rfl,hu,rfl⟩:=a;obtain ⟨k3,g,C,D,Q,y3,cd,U,rfl,d,V⟩:=ji hu;refine aa.step (ay _ _) (aa.ff aag w.w rfl (aa.step (zv w.o (k:=0) rfl _ _) ?_));simp only [lu,bj,Ky,ai,al,ab,af,ah,ae,d.ad];refine aa.nM [_] w (aah rfl) fun s8 o8 _ w=> ?_;have av:jv p.1 p.2= .mk k3 g C D Q:=by rw [b,e];exact U
      refine aa.bind (R:=fun c=> ∃r,c=Sum.inr (Sum.inr r)/\Ct (jv p.1 p.2) r) (aa.bind (R:=fun c=> ∃r,c=Sum.inr r/\Ct (jv p.1 p.2) r) (aa.bind (R:=fun r=>Ct (jv p.1 p.2) r) (aa.fo (aam _ aag) w.w rfl ?_) fun r G=>aa.some ⟨r,rfl,G⟩) ?_) ?_
      .show aa (uz (.agg [_,_,_,_,_,_]) _) _;simp only [al,ab,af,ah,ae];refine aa.step (NV d (fun n=>uc d _ 0 (n+1) (by omega)) _ _ _ _ _ _) (aa.some ?_);rw [av];exact Np d V
      .rintro c ⟨r,rfl,G⟩;exact aa.some ⟨r,rfl,G⟩
      .rintro c ⟨r,rfl,G⟩;exact aa.some (.inr ⟨r,rfl,G⟩)
     .rw [show ((ws.length:Int)==1)=false by rw [aaB];omega];refine aa.step (aq _ _) (aa.some (.inl ⟨F,18,0,[],_,_,_,rfl,w,a, ?_⟩));rw [b];exact Qa (by rw [<- a.len];exact ar) S
    .obtain ⟨e,cp⟩:=e h1 H E;have cl:=fun {γ:Type} (st:St) (K:Kv γ)=>aI (f:=70) st K rfl rfl rfl (tG e cp);rw [aaB.2 H];refine aa.step (aq _ _) (aa.step (cl _ _) ?_);simp only [br,aP,ba,af,ah];refine aa.nM [] w (aah rfl) fun s5 o5 _ w=>aa.nM [] w (aah rfl) fun Z o6 _ w=> ?_;have w:Vo Z (Tf 0 (gX tk tx).1 S (gX tk tx).2 .ax) 6 ve .ax []:=w;have b:jv p.1 p.2=if (gX tk tx).1=1 then .mk 15 0 S (gX tk tx).2 [] else if tk=8 then .mk 16 0 S [] [] else .mk 17 (gX tk tx).1 S (gX tk tx).2 []:=by rw [h,ux,if_neg h1,if_neg E,if_neg H]
     refine aa.ff aag w.w rfl (aa.step (af _ _ _) ?_);have e1:(((gX tk tx).1:Int)==1)=((gX tk tx).1==1):=cY _ 1;have e8:((tk:Int)==8)=(tk==8):=cY tk 8;rw [e1,e8];by_cases g1:(gX tk tx).1=1
     .rw [aaX.2 g1];rw [if_pos g1] at b;refine aa.bind (R:=fun c=> ∃s,c=([],s)/\Vo s (Tf 15 0 S (gX tk tx).2 .ax) 6 ve .ax []) (aa.step (ay _ _) (aa.nM [] w (aah rfl) fun F o7 _ w=>aa.nM [] w (aah rfl) fun s8 o8 _ w=>aa.some ⟨s8,rfl,w⟩)) ?_;rintro c ⟨s,rfl,w⟩;exact aa.some (.inl ⟨s,15,0,_,_,_,_,rfl,w,di.nil,b⟩)
     .rw [aaB.2 g1];rw [if_neg g1] at b;by_cases g8:tk=8
      .rw [aaX.2 g8];rw [if_pos g8] at b;refine aa.bind (R:=fun c=> ∃s,c=([],s)/\Vo s (Tf 16 0 S [] .ax) 6 ve .ax []) (aa.step (aq _ _) (aa.bind (R:=fun c=> ∃s,c=([],s)/\Vo s (Tf 16 0 S [] .ax) 6 ve .ax []) (aa.step (ay _ _) (aa.nM [] w (aah rfl) fun F o7 _ w=>aa.nM [] w (aah rfl) fun s8 o8 _ w=>aa.nM [] w (aah rfl) fun s9 o9 _ w=>aa.some ⟨s9,rfl,w⟩)) ?_)) ?_
       .rintro c ⟨s,rfl,w⟩;exact aa.some ⟨s,rfl,w⟩
       .rintro c ⟨s,rfl,w⟩;exact aa.some (.inl ⟨s,16,0,_,_,_,_,rfl,w,di.nil,b⟩)
      .rw [aaB.2 g8];rw [if_neg g8] at b;refine aa.bind (R:=fun c=> ∃s,c=([],s)/\Vo s (Tf 17 (gX tk tx).1 S (gX tk tx).2 .ax) 6 ve .ax []) (aa.step (aq _ _) (aa.bind (R:=fun c=> ∃s,c=([],s)/\Vo s (Tf 17 (gX tk tx).1 S (gX tk tx).2 .ax) 6 ve .ax []) (aa.step (aq _ _) (aa.nM [] w (aah rfl) fun F o7 _ w=>aa.some ⟨F,rfl,w⟩)) ?_)) ?_
       .rintro c ⟨s,rfl,w⟩;exact aa.some ⟨s,rfl,w⟩
       .rintro c ⟨s,rfl,w⟩;exact aa.some (.inl ⟨s,17,_,_,_,_,_,rfl,w,di.nil,b⟩)
 .rintro c (⟨s,k2,lit,nm,z,ws,ps,rfl,w,a,cv⟩ | ⟨r,rfl,G⟩)
  .simp only [bz,ae];refine aa.fo aag w.w rfl ?_;simp only [al,ab,af,ah,ae];refine aa.one w.o.one (aa.nM [_] w (aah rfl) fun s2 o2 _ w=> ?_);refine aa.fo (aam _ aag) w.w rfl ?_;obtain ⟨x',aw,cy⟩:=ri w.o;show aa (uz (.agg [_,_,_,_,_,_]) _) _;simp only [al,ab,af,ah,ae];refine aa.step (NV aw cy _ _ _ _ _ _) (aa.some ?_);rw [cv];exact Np aw a
  .exact aa.some G
theorem KN {b:Bool}: ∀(n:Nat) (l:List T),l.length<=n->SN jE b l-> ∀o a c,PT jE a-> ∀t∈eX (o::a::(l++[c])),PT jE t
 | n,[],_,_,o,a,c,e,t,d=>by
  simp only [aaq,eX,aao,aaF,or_false] at d;rw [d];exact e
 | 0,_:: _,h,_,_,_,_,_,_,_=>by simp at h
 | n+1,s::l,h,hl,o,a,c,e,t,d=>by
  cases hl with
  | cons g hx hl=>
   rename_i x f;simp only [aat,eX,aao] at d;rcases d with rfl | d
   .exact e
   .exact KN n f (by simp at h;omega) hl s x c hx t d
theorem En {b:Bool}: ∀(n:Nat) (l:List T),l.length<=n->S7 jE b l-> ∀o a c,ET jE a-> ∀t∈eX (o::a::(l++[c])),ET jE t
 | n,[],_,_,o,a,c,e,t,d=>by
  simp only [aaq,eX,aao,aaF,or_false] at d;rw [d];exact e
 | 0,_:: _,h,_,_,_,_,_,_,_=>by simp at h
 | n+1,s::l,h,hl,o,a,c,e,t,d=>by
  cases hl with
  | cons g hx hl=>
   rename_i x f;simp only [aat,eX,aao] at d;rcases d with rfl | d
   .exact e
   .exact En n f (by simp at h;omega) hl s x c hx t d
theorem td {l:List T} {a:Nat} {p:Nat×T} (h:p∈bY a l):p.2∈l:=by
 have:=List.mem_map_of_mem (f:=fun q:Nat×T=>q.2) h;rw [pR] at this;exact this
theorem DW {l:List T} {a:Nat} {p:Nat×T} (h:p∈eX (bY a l)):p.2∈eX l:=by
 have:=List.mem_map_of_mem (f:=fun q:Nat×T=>q.2) h;rw [QN] at this;exact this
theorem Bs {k:Nat} {l:List T} {t:T} (h:t∈l):SizeOf.sizeOf t < SizeOf.sizeOf (node k l):=by
 have:=List.sizeOf_lt_of_mem h;simp only [node,T.mk.sizeOf_spec];omega
theorem FI {a k:Nat} {tx:LB} {ks:List T} (h:Fit (a,.mk 1 k tx ks)) (b:Tv jE ks):ks.length < 1000000000/\a+(bg ks).length<=1000000/\tx.length<=1000000:=by
 have h1:=h.t;have c:=HS b;simp only [bG,if_true,aad] at h1;exact ⟨by omega,by omega,by omega⟩
theorem B1 {a k:Nat} {l:List T} (hf:Fit (a,node k l)) (h1:k≠1) (f:k≠2) (h:k=16\/k=17\/k=18) (d:k=16-> ∀i c,(i=0\/i=2)->(bY a l)[i]? =some c->pG c) (b:k=16->l.length=3) (e: ∀c∈eX (bY a l),(k=17\/k=18)->pG c):pG (a,node k l):=by
 obtain ⟨g,j,g3⟩:=hf.kids h1 f;exact Bp rfl hf (by omega) g (fun m n o=>by omega) d b e
theorem Ik: ∀(n:Nat) (t:T) (a:Nat),SizeOf.sizeOf t < n->PT jE t->Fit (a,t)->pG (a,t):=by
 intro n
 induction n with
 | zero=>intro t a h;omega
 | succ n ih=>
  intro t a hn r hf;cases r with
  | leaf s g u=>
   obtain ⟨j,m,g3⟩:=FI hf u;exact Bp rfl hf j m (fun _ _ _=>⟨s,g3⟩) (fun e=>by cases e) (fun e=>by cases e) (fun p _ e=>by rcases e with e | e <;> cases e)
  | cons q ho v=>
   rename_i x op y;obtain ⟨j,m,g3⟩:=hf.kids (by decide) (by decide);refine B1 hf (by decide) (by decide) (.inl rfl) (fun _ i f hi hp=> ?_) (fun _=>rfl) (fun p _ e=>by rcases e with e | e <;> cases e);have hm:=aaK hp;have hs:=Bs (k:=16) (td hm);have d:PT jE f.2:=by
    rcases hi with rfl | rfl
    .obtain rfl: _=f:=by simpa [bY] using hp
     exact q
    .obtain rfl: _=f:=by simpa [bY] using hp
     exact v
   exact ih f.2 f.1 (by omega) d (g3 f hm)
  | none ho w=>
   rename_i list o c;have g:kindOf list true=17\/kindOf list true=18:=by cases list <;> decide
   have b:kindOf list true≠1/\kindOf list true≠2/\kindOf list true≠16:=by cases list <;> decide
   refine B1 hf b.1 b.2.1 (.inr g) (fun e=>absurd e b.2.2) (fun e=>absurd e b.2.2) (fun p hp _=> ?_);simp [bY,eX] at hp
  | some ho q hl w=>
   rename_i list o c x l;have g:kindOf list true=17\/kindOf list true=18:=by cases list <;> decide
   have b:kindOf list true≠1/\kindOf list true≠2/\kindOf list true≠16:=by cases list <;> decide
   obtain ⟨j,m,g3⟩:=hf.kids b.1 b.2.1;refine B1 hf b.1 b.2.1 (.inr g) (fun e=>absurd e b.2.2) (fun e=>absurd e b.2.2) (fun p hp _=> ?_);have hm:=zJ hp;have hs:=Bs (k:=kindOf list true) (td hm);have d:=KN _ l (aal _) hl o x c q p.2 (DW hp);exact ih p.2 p.1 (by omega) d (g3 p hm)
abbrev uM:Td:=59
abbrev z7:LA:=[.int .u8 0,.int .i64 0,.int .i64 0,.bool false,.str [],.ax,.ax]
abbrev fw (k:Nat) (sp:Sp) (rc:Bool) (nm:LB) (x y:AV):LA:=[.int .u8 (k:Int),.int .i64 sp.1,.int .i64 sp.2,.bool rc,.str nm,x,y]
def gl (p:Nat×T):Prop:= ∀v,nt p v->aa ((aQ vE).bare 39 [v]) fun x=>yE (cQ p.1 p.2) x
theorem iG {e:lg} {v:AV} (h:yE e v): ∃k sp rc nm ps ls x es y fs,e= .mk k sp rc nm ps ls/\v= .agg (fw k sp rc nm x y)/\aO 6 x es/\di ps es/\aO 7 y fs/\fA ls fs/\ps.length<=100000000:=by
 cases e with
 | mk k sp rc nm ps ls=>
  have hf:=h.few;obtain ⟨x,es,y,fs,e,h1,a,b,c⟩:=h.Y9;exact ⟨k,sp,rc,nm,ps,ls,x,es,y,fs,rfl,e,h1,a,b,c,hf⟩
theorem x9 {k:Nat} {sp:Sp} {rc:Bool} {nm:LB} {ps:List jQ} {ls:List lg} {x y:AV} {es fs:LA} (hx:aO 6 x es) (hp:di ps es) (hy:aO 7 y fs) (hl:fA ls fs) (hn:ps.length<=100000000):yE (.mk k sp rc nm ps ls) (.agg (fw k sp rc nm x y)):=by
 simp only [yE];exact ⟨x,es,y,fs,rfl,hx,hp,hy,hl,hn⟩
theorem xL: ∀{l:List lg} {es:LA} {p:lg} {v:AV},fA l es->yE p v->fA (l++[p]) (es++[v])
 | [],_,_,_,h,k=>by simp only [fA] at h;subst h;exact fA.cons k fA.nil
 | p::l,_,_,_,h,k=>by
  simp only [fA] at h;obtain ⟨w,ws,rfl,h1,a⟩:=h;exact fA.cons h1 (xL a k)
theorem ib: ∀(l:List T) (a:Nat),il a l=(bY a l).map fun p=>cQ p.1 p.2
 | [],_=>rfl
 | t::l,a=>by rw [il,bY,aan,ib l]
theorem mB {ps:List (Nat×T)} {x:AV} {es:LA} (hx:aO 5 x es) (hs:ij nt ps es) (hn:ps.length < 1000000000) (ih: ∀p∈ps,gl p) (st:St) (l:st.ro<=st.h):
  aa ((aQ vE).wide 112 [x] st) fun r=> ∃ws,Wv st r.2 [] 7 uM r.1 ws/\fA (ps.map fun p=>cQ p.1 p.2) ws:=by
 have hlen:=hs.len;refine aa.wide (aa.step (QJ _ _) ?_);simp only [WZ,hx.len];refine aa.bind (R:=fun c=> ∃s v ws,c=(0,[v],s)/\Wv st s [] 7 uM v ws/\fA (ps.map fun p=>cQ p.1 p.2) ws) ?_ ?_
 .refine aa.upto (n:=es.length) (I:=fun i c=> ∃s v ws,c=([v,.int .i64 (i:Int)],s)/\Wv st s [] 7 uM v ws/\fA ((ps.take i).map fun p=>cQ p.1 p.2) ws) ?_ ?_ es.length 0 _ (by omega) ⟨st,.ax,[],rfl,Wv.start l _ _,by simpa using fA.nil⟩
  .rintro i c hi ⟨s,v,ws,rfl,w,a⟩;have b:i < ps.length:=by omega
   have m:=a.len;rw [aaA,aau] at m;obtain ⟨o,q,d,y,f,e⟩:=qH hx hs (aav b);obtain ⟨l2,A,_,hy,_⟩:=na f;have t:nt ps[i] (.agg [.int .u8 (o:Int),.int .u8 (q:Int),.str d,y,.int .i64 (ps[i].1:Int)]):=⟨o,q,d,y,rfl,f⟩;obtain ⟨u,B,z⟩:=ih _ (aaV b) _ t;obtain ⟨k,sp,rc,nm,H,ls,J,gs,K,fs,L,rfl,g,C,j,D,_⟩:=iG z;simp only [Ek,ab,af,ae,ak,if_pos (show (i:Int) < (es.length:Int) by omega),e,bj,iy,ai,al,ah];refine aa.lx w fun M _ w=>aa.step (hy.ad _) ?_;refine aa.kR [] w fun E _ _ w=>aa.fo aag w.w rfl ?_;simp only [al,ab,af,ah,ae];refine aa.step (jw t rfl B E _) ?_;simp only [al,ab,af,au,ah,ae,g.ad,g.aD,j.ad,j.aD];refine aa.sj w (by omega) (by omega) (by omega) fun F G _ w=> ?_;simp only [aF,ck (show i+1<=9223372036854775807 by omega)];refine aa.inl ⟨G,F,_,rfl,w.none, ?_⟩;rw [eU b,aaG];exact xL a z
  .rintro c ⟨s,v,ws,rfl,w,a⟩;simp only [Ek,ab,af,ae,ak,if_neg (show ¬ ((es.length:Nat):Int) < (es.length:Int) by omega)];rw [hlen,aaJ] at a;exact aa.inr ⟨s,v,ws,rfl,w,a⟩
 .rintro c ⟨s,v,ws,rfl,w,a⟩;simp only [ab,ae,kg];exact aa.some ⟨ws,w,a⟩
structure SQ (st:St) (z:Nat) (x:AV) (ws:LA):Prop where
 one:VM.one x=true
 fr: ∀st':St,(∀j o,2<=j->st.get j= .ok o->st'.get j= .ok o)-> ∃x',aO z x' ws/\ ∀n,VM.freeze st' 0 (n+1) x= .ok x'
theorem gP {st a:St} {z:Nat} {e:Td} {x:AV} {ws:LA} (h:iX st z e x ws):SQ a z x ws:=by
 refine ⟨h.one,fun st' _=> ?_⟩;rcases h with ⟨_,hl,⟨rfl | rfl,rfl⟩ | rfl | ⟨k,rfl,_,_⟩⟩
 .exact ⟨.ax,aO.ax,fun _=>rfl⟩
 .exact ⟨.es,aO.emp,fun _=>rfl⟩
 .exact ⟨.sl z ws .shut,aO.shut hl,fun _=>rfl⟩
 .exact ⟨.sl z ws .wide,aO.wide hl,fun _=>rfl⟩
abbrev wm (k:Nat) (sp:Sp) (rc:Bool) (nm:LB) (x y:AV):wS:=[(1,uM,fw k sp rc nm x y),(0,uM,z7)]
def Cg (S:Sp) (k:Nat) (rc:Bool) (nm:LB) (ps:List jQ) (es:List lg) (r:AV×St):Prop:=
 r.1= .tup []/\ ∃x ws y fs,Vw r.2 (wm k S rc nm x y)/\SQ r.2 6 x ws/\SQ r.2 7 y fs/\di ps ws/\fA es fs/\(k=6->iX r.2 7 uM y fs)
theorem jc (l:LA):(bH (l.map strip)&& !vE.full 112)=false:=by rw [show vE.full 112=true from rfl];simp
section
variable {st:St} {S:Sp} {x:AV} {es:LA} {ps:List (Nat×T)} (w0:Vw st (wm 0 S false [] .ax .ax)) (hx:aO 5 x es) (hs:ij nt ps es) (hn:ps.length < 100000000)
include w0 hx hs hn
theorem XR (ih: ∀p∈eX ps,gl p):aa ((aQ vE).wide 111 [.mp 1 0,x] st) (Cg S 6 false [] [] ((eX ps).map fun p=>cQ p.1 p.2)):=by
 obtain ⟨z,gs,a,b,c⟩:=Fi hx hs (by omega);have co:=fun {γ:Type} (st:St) (K:Kv γ)=>aI (f:=109) st K rfl (by simp only [aan,aaH,hx.strip]) (by simp only [aJ,hx.bare];rfl) a;refine aa.wide (aa.step (Sf _ _ _) (aa.step (co _ _) ?_));refine aa.gu (mB b c (by have:=rP ps;omega) ih st w0.ro) rfl (jc _) ?_;rintro v s ⟨ws,w,d⟩;have w:Vo s (wm 0 S false [] .ax .ax) 7 uM v ws:=⟨w0.keeps w.k fun _ _ f=>f,w.o⟩;simp only [dP,aG,bw,aax];refine aa.nM [] w (aah rfl) fun e g _ w=>aa.one w.o.one (aa.one w.o.one (aa.nM [] w (aah rfl) fun h i _ w=>aa.some ⟨rfl,.ax,[],_,_,w.w,gP (iX.ax w.w.ro _ ve),gP w.o,di.nil,d,fun _=>w.o⟩))
theorem Xm (ih: ∀p∈eX ps,gl p):aa ((aQ vE).wide 113 [.mp 1 0,x] st) (Cg S 7 false [] [] ((eX ps).map fun p=>cQ p.1 p.2)):=by
 obtain ⟨z,gs,a,b,c⟩:=Fi hx hs (by omega);have co:=fun {γ:Type} (st:St) (K:Kv γ)=>aI (f:=109) st K rfl (by simp only [aan,aaH,hx.strip]) (by simp only [aJ,hx.bare];rfl) a;refine aa.wide (aa.step (QI _ _ _) (aa.step (co _ _) ?_));refine aa.gu (mB b c (by have:=rP ps;omega) ih st w0.ro) rfl (jc _) ?_;rintro v s ⟨ws,w,d⟩;have w:Vo s (wm 0 S false [] .ax .ax) 7 uM v ws:=⟨w0.keeps w.k fun _ _ f=>f,w.o⟩;simp only [dP,aG,bw,aax];refine aa.nM [] w (aah rfl) fun e g _ w=>aa.one w.o.one (aa.one w.o.one (aa.nM [] w (aah rfl) fun h i _ w=>aa.some ⟨rfl,.ax,[],_,_,w.w,gP (iX.ax w.w.ro _ ve),gP w.o,di.nil,d,fun _=>w.o⟩))
theorem Zn (ih: ∀p∈ps,gl p):aa ((aQ vE).wide 114 [.mp 1 0,x] st) (Cg S 8 false [] [] (ps.map fun p=>cQ p.1 p.2)):=by
 refine aa.wide (aa.step (SD _ _ _) ?_);refine aa.gu (mB hx hs (by omega) ih st w0.ro) rfl (jc _) ?_;rintro v s ⟨ws,w,a⟩;have w:Vo s (wm 0 S false [] .ax .ax) 7 uM v ws:=⟨w0.keeps w.k fun _ _ f=>f,w.o⟩;simp only [dP,aG,bw,aax];refine aa.nM [] w (aah rfl) fun b c _ w=>aa.one w.o.one (aa.one w.o.one (aa.nM [] w (aah rfl) fun d e _ w=>aa.some ⟨rfl,.ax,[],_,_,w.w,gP (iX.ax w.w.ro _ ve),gP w.o,di.nil,a,fun _=>w.o⟩))
end
theorem KT {p:Nat×T} {v:AV} (h:nt p v):ij nt [p] [v]:=ij.nil.snoc h
theorem Tj {p q:Nat×T} {v w:AV} (h:nt p v) (k:nt q w):ij nt [p,q] [v,w]:=(KT h).snoc k
theorem Yy {p q r:Nat×T} {v w u:AV} (h:nt p v) (k:nt q w) (m:nt r u):ij nt [p,q,r] [v,w,u]:=(Tj h k).snoc m
theorem gR {ps:List (Nat×T)} {x:AV} {es:LA} {p:Nat×T} {i:Nat} (hx:aO 5 x es) (hs:ij nt ps es) (hp:ps[i]? =some p): ∃(a b:Nat) (s:LB) (y:AV),nt p (.agg [.int .u8 (a:Int),.int .u8 (b:Int),.str s,y,.int .i64 (p.1:Int)])/\wA p.2=s/\(∃gs,aO 4 y gs)/\(∀{β:Type} (st:St) (K:AV->Ln->Oq β),bL 5 x (i:Int) st K=K (.ip [.int .u8 (a:Int),.int .u8 (b:Int),.str s,y,.int .i64 (p.1:Int)]) []):=by
 obtain ⟨a,b,s,y,c,e⟩:=qH hx hs hp;obtain ⟨l,gs,d,hy,_⟩:=na c;exact ⟨a,b,s,y,⟨a,b,s,y,rfl,c⟩,by rw [d];rfl,⟨gs,hy⟩,e⟩
section
variable {st:St} {S:Sp} {x:AV} {es:LA} (w0:Vw st (wm 0 S false [] .ax .ax)) (hx:aO 5 x es)
include w0 hx
theorem Zf {p0 p1 c:Nat×T} (hs:ij nt [p0,p1,c] es) (h0:gl p0) (m:gl c):aa ((aQ vE).wide 115 [.mp 1 0,x] st) (Cg S 9 false (wA p1.2) [] [cQ p0.1 p0.2,cQ c.1 c.2]):=by
 obtain ⟨r,t,u,y,d,_,⟨z,a⟩,e⟩:=gR hx hs (i:=0) rfl;obtain ⟨A,B,C,D,n,g,_,h⟩:=gR hx hs (i:=1) rfl;obtain ⟨E,F,G,H,j,_,⟨I,b⟩,l⟩:=gR hx hs (i:=2) rfl;have e: ∀{β:Type} (st:St) (K:AV->Ln->Oq β),bL 5 x 0 st K= _:=e;have h: ∀{β:Type} (st:St) (K:AV->Ln->Oq β),bL 5 x 1 st K= _:=h;have l: ∀{β:Type} (st:St) (K:AV->Ln->Oq β),bL 5 x 2 st K= _:=l;refine aa.wide (aa.step (Ru _ _ _) ?_);simp only [X9,e,h,l,nc,aaD,aaw,bj,aR,iy,ai,al,ab,af,ah,ae,a.ad,a.aD,b.ad,b.aD];refine aa.gu (mB (aO.shut (aah rfl)) (Tj d j) (aah rfl) (fun p hp=>by
  rcases aao.1 hp with rfl | hp
  .exact h0
  .rcases aao.1 hp with rfl | hp
   .exact m
   .cases hp) st w0.ro) rfl (jc _) ?_
 rintro v s ⟨ws,w,q⟩;have w:Vo s (wm 0 S false [] .ax .ax) 7 uM v ws:=⟨w0.keeps w.k fun _ _ f=>f,w.o⟩;simp only [nP,aaI,aG,dP,bw,aax];refine aa.nM [] w (aah rfl) fun J L _ w=>aa.step (aG _) (aa.nM [] w (aah rfl) fun M N _ w=>aa.step (aG _) (aa.one w.o.one (aa.one w.o.one (aa.nM [] w (aah rfl) fun O P _ w=>aa.some ⟨rfl,.ax,[],_,_, ?_,gP (iX.ax w.w.ro _ ve),gP w.o,di.nil,q,fun _=>w.o⟩))));rw [g];exact w.w
theorem Zj {p0 p1:Nat×T} (hs:ij nt [p0,p1] es) (h1:gl p1):aa ((aQ vE).wide 116 [.mp 1 0,x] st) (Cg S 10 false (wA p0.2) [] [cQ p1.1 p1.2]):=by
 obtain ⟨j,l,m,n,g,b,_,c⟩:=gR hx hs (i:=0) rfl;obtain ⟨q,r,t,u,d,_,⟨y,a⟩,e⟩:=gR hx hs (i:=1) rfl;have c: ∀{β:Type} (st:St) (K:AV->Ln->Oq β),bL 5 x 0 st K= _:=c;have e: ∀{β:Type} (st:St) (K:AV->Ln->Oq β),bL 5 x 1 st K= _:=e;refine aa.wide (aa.step (R8 _ _ _) ?_);simp only [X8,c,e,nc,aaD,aaw,bj,aR,iy,ai,al,ab,af,ah,ae,a.ad,a.aD];refine aa.gu (mB (aO.shut (aah rfl)) (KT d) (aah rfl) (fun p hp=>by
  rcases aao.1 hp with rfl | hp
  .exact h1
  .cases hp) st w0.ro) rfl (jc _) ?_
 rintro v s ⟨ws,w,h⟩;have w:Vo s (wm 0 S false [] .ax .ax) 7 uM v ws:=⟨w0.keeps w.k fun _ _ f=>f,w.o⟩;simp only [nP,aaI,aG,dP,bw,aax];refine aa.nM [] w (aah rfl) fun z A _ w=>aa.step (aG _) (aa.nM [] w (aah rfl) fun B C _ w=>aa.step (aG _) (aa.one w.o.one (aa.one w.o.one (aa.nM [] w (aah rfl) fun D E _ w=>aa.some ⟨rfl,.ax,[],_,_, ?_,gP (iX.ax w.w.ro _ ve),gP w.o,di.nil,h,fun _=>w.o⟩))));rw [b];exact w.w
theorem ZE {p0 p1 q d r e:Nat×T} (hs:ij nt [p0,p1,q,d,r,e] es) (h1:gl p1) (t:gl d) (u:gl e):aa ((aQ vE).wide 117 [.mp 1 0,x] st) (Cg S 12 false [] [] [cQ p1.1 p1.2,cQ d.1 d.2,cQ e.1 e.2]):=by
 obtain ⟨A,B,C,D,g,_,⟨E,a⟩,h⟩:=gR hx hs (i:=1) rfl;obtain ⟨F,G,H,I,j,_,⟨g3,b⟩,l⟩:=gR hx hs (i:=3) rfl;obtain ⟨J,L,M,N,m,_,⟨y,c⟩,n⟩:=gR hx hs (i:=5) rfl;have h: ∀{β:Type} (st:St) (K:AV->Ln->Oq β),bL 5 x 1 st K= _:=h;have l: ∀{β:Type} (st:St) (K:AV->Ln->Oq β),bL 5 x 3 st K= _:=l;have n: ∀{β:Type} (st:St) (K:AV->Ln->Oq β),bL 5 x 5 st K= _:=n;refine aa.wide (aa.step (QP _ _ _) ?_);simp only [Yc,h,l,n,nc,aaD,aaw,bj,aR,iy,ai,al,ab,af,ah,ae,a.ad,a.aD,b.ad,b.aD,c.ad,c.aD];refine aa.gu (mB (aO.shut (aah rfl)) (Yy g j m) (aah rfl) (fun p hp=>by
  rcases aao.1 hp with rfl | hp
  .exact h1
  .rcases aao.1 hp with rfl | hp
   .exact t
   .rcases aao.1 hp with rfl | hp
    .exact u
    .cases hp) st w0.ro) rfl (jc _) ?_
 rintro v s ⟨ws,w,z⟩;have w:Vo s (wm 0 S false [] .ax .ax) 7 uM v ws:=⟨w0.keeps w.k fun _ _ f=>f,w.o⟩;simp only [nP,aaI,aG,dP,bw,aax];exact aa.nM [] w (aah rfl) fun O P _ w=>aa.step (aG _) (aa.one w.o.one (aa.one w.o.one (aa.nM [] w (aah rfl) fun Q R _ w=>aa.some ⟨rfl,.ax,[],_,_,w.w,gP (iX.ax w.w.ro _ ve),gP w.o,di.nil,z,fun _=>w.o⟩)))
theorem Zl {p0 pa pe:Nat×T} {pp:List (Nat×T)} (hs:ij nt (p0::pp++[pa]++[pe]) es) (hn:pp.length < 100000000) (hp: ∀p∈pp,pG p) (he:gl pe):aa ((aQ vE).wide 118 [.mp 1 0,x] st) (Cg S 11 false [] (pp.map fun p=>jv p.1 p.2) [cQ pe.1 pe.2]):=by
 have hlen:es.length=pp.length+3:=by have:=hs.len;simpa using this
 have y:=hx.1;have hl:(p0::pp++[pa]++[pe])[pp.length+2]? =some pe:=by
  rw [aaM (by simp)];simp
 obtain ⟨E,F,G,H,g,_,⟨I,a⟩,z⟩:=gR hx hs (i:=pp.length+2) hl;have h:IntKind.wrap .i64 ((es.length:Int) - 2)=((pp.length+1:Nat):Int):=by rw [wrap_i64 (by omega) (by omega)];omega
 have j:IntKind.wrap .i64 ((es.length:Int) - 1)=((pp.length+2:Nat):Int):=by rw [wrap_i64 (by omega) (by omega)];omega
 obtain ⟨x',n,A⟩:=hx.cut (lo:=some 1) (hi:=some ((pp.length+1:Nat):Int)) (l:=1) (m:=pp.length+1) (iu (k:=1) (by omega)) (iu (by omega));have b:=(hs.take (pp.length+1)).drop 1;have c:((p0::pp++[pa]++[pe]).take (pp.length+1)).drop 1=pp:=by simp [aar]
 rw [c] at b;refine aa.wide (aa.step (QU _ _ _) ?_);simp only [XK,hx.len,aF,h,j,A];refine aa.gu (zp n b (by omega) hp st w0.ro) rfl (ta _) ?_;rintro v s ⟨ws,w,B⟩;have t:Vw s (wm 0 S false [] .ax .ax):=w0.keeps w.k fun _ _ f=>f;have q:apart ⟨[],.all st s⟩ ⟨[],.kept⟩=true:=rfl;simp only [nP,q,aaI,aG,z,bj,iy,ai,al,ab,af,ah,ae,a.ad,a.aD];refine aa.gu (mB (aO.shut (aah rfl)) (KT g) (aah rfl) (fun p hp=>by
  rcases aao.1 hp with rfl | hp
  .exact he
  .cases hp) s t.ro) rfl (jc _) ?_
 rintro C D ⟨r,u,d⟩;have w':Vo D (wm 0 S false [] .ax .ax) 7 uM C r:=⟨t.keeps u.k fun _ _ f=>f,u.o⟩;simp only [nP,aaI,aG,dP,bw,aax];refine aa.nM [] w' (aah rfl) fun J K _ w'=>aa.step (aG _) (aa.one w.o.one (aa.one w.o.one (aa.nM [] w' (aah rfl) fun L M _ w'=>aa.step (aG _) (aa.one w'.o.one (aa.one w'.o.one (aa.nM [] w' (aah rfl) fun N O _ w'=>aa.some ⟨rfl,v,ws,_,_,w'.w,gP w.o,gP w'.o,B,d,fun e=>by cases e⟩))))))
end
abbrev M9:Td:=61
abbrev YH:LA:=[.int .i64 0,.int .i64 0,.bool false,.ax,.int .u8 0,.int .i64 0,.int .i64 0,.bool false,.str [],.ax,.ax]
abbrev sE (s:Sp) (rc:Bool) (z:AV) (k:Nat) (sp:Sp) (rc2:Bool) (nm:LB) (x y:AV):LA:=[.int .i64 s.1,.int .i64 s.2,.bool rc,z,.int .u8 (k:Int),.int .i64 sp.1,.int .i64 sp.2,.bool rc2,.str nm,x,y]
theorem Hy {z k:Nat} {x:AV} {es:LA} (h:aO z x es) (a:k<=es.length): ∃x',aO z x' (es.drop k)/\ ∀{β:Type} (K:AV->Oq β),dL z x (some (k:Int)) none none K=K x':=by
 obtain ⟨x',hx,e⟩:=h.cut (lo:=some (k:Int)) (hi:=none) (l:=k) (m:=es.length) (iu a) kL;rw [aaJ] at hx;exact ⟨x',hx,e⟩
theorem Nn {z k:Nat} {x:AV} {es:LA} (h:aO z x es) (a:k<=es.length): ∃x',aO z x' (es.take k)/\ ∀{β:Type} (K:AV->Oq β),dL z x none (some (k:Int)) none K=K x':=by
 obtain ⟨x',hx,e⟩:=h.cut (lo:=none) (hi:=some (k:Int)) (l:=0) (m:=k) kL (iu a);rw [aaw] at hx;exact ⟨x',hx,e⟩
theorem Rb {st:St} {z x y z' x' y':AV} {a b c:LA} (e:aO 6 z' a) (hx:aO 6 x' b) (hy:aO 7 y' c) (fz: ∀n,VM.freeze st 0 (n+1) z= .ok z') (f: ∀n,VM.freeze st 0 (n+1) x= .ok x') (g: ∀n,VM.freeze st 0 (n+1) y= .ok y') (s:Sp) (rc:Bool) (k:Nat) (sp:Sp) (d:Bool) (nm:LB) {β:Type} (K:AV->Oq β):
  eF st 0 (.agg (sE s rc z k sp d nm x y)) K=K (.agg (sE s rc z' k sp d nm x' y')):=by
 refine zB (bF (fC _ _ st 0 99 (by omega)) (bF (fC _ _ st 0 99 (by omega)) (bF (zy _ st 0 99 (by omega)) (bF (fz 98) (bF (fC _ _ st 0 99 (by omega)) (bF (fC _ _ st 0 99 (by omega)) (bF (fC _ _ st 0 99 (by omega)) (bF (zy _ st 0 99 (by omega)) (bF (uO _ st 0 99 (by omega)) (bF (f 98) (bF (g 98) nV))))))))))) ?_ K;simp only [aJ,e.bare,hx.bare,hy.bare];rfl
abbrev YA (rc:Bool) (z:AV) (k:Nat) (sp:Sp) (rc2:Bool) (nm:LB) (x y:AV):wS:=[(1,M9,sE (0,0) rc z k sp rc2 nm x y),(0,M9,YH)]
def zH (m:Nat) (ps:List (Nat×T)):List jQ:=((ps.drop m).take (ps.length - m - 2)).map fun p=>jv p.1 p.2
def zP (l:List jQ):Bool:=match l.getD 0 default with | .mk k _ _ _ _=>k==15
theorem AH {x:AV} {es:LA} {ps:List (Nat×T)} {p1 pe:Nat×T} {m:Nat} (hx:aO 5 x es) (hs:ij nt ps es) (hn:ps.length < 100000000) (h1:ps[1]? =some p1) (hm:m=if isRec p1.2=true then 2 else 1) (hl:m+3<=ps.length)
  (hp: ∀p∈(ps.drop m).take (ps.length - m - 2),pG p) (he:ps[ps.length - 1]? =some pe) (hE:gl pe):
  aa ((aQ vE).bare 15 [x]) fun v=>Ug ⟨(0,0),isRec p1.2&&zP (zH m ps),zH m ps,cQ pe.1 pe.2⟩ v:=by
 have hlen:=hs.len;have cc:=hx.1;have cd:1<=m/\m<=2:=by rw [hm];split <;> omega
 obtain ⟨E,t,z⟩:=Hy (k:=1) hx (by omega);have z: ∀{β:Type} (K:AV->Oq β),dL 5 x (some 1) none none K=K E:=z;have V:=hs.drop 1;obtain ⟨a1,B,s1,y1,W,cg,_,O⟩:=gR t V (i:=0) (p:=p1) (by rw [abl];exact h1);have O: ∀{β:Type} (st:St) (K:AV->Ln->Oq β),bL 5 E 0 st K= _:=O;have r:isRec p1.2=(B==3&&s1==eO):=by
  obtain ⟨a,b,s,y,e,hN⟩:=W;obtain ⟨l,gs,ht,_,_⟩:=na hN;injection e with e
  have q2:=(List.cons.inj e).2;have q3:=(List.cons.inj q2).1;have q4:=(List.cons.inj (List.cons.inj q2).2).1;simp only [AV.int.injEq,abM,AV.str.injEq] at q3 q4;rw [ht];show (b==3&&s==eO)= _;rw [q4,show B=b by omega]
 obtain ⟨xm,A,h⟩: ∃xm,aO 5 xm (es.drop m)/\(isRec p1.2=true-> ∀{β:Type} (K:AV->Oq β),dL 5 E (some 1) none none K=K xm)/\(isRec p1.2=false->xm=E):=by
  cases j:isRec p1.2 with
  | true=>
   obtain ⟨x2,F,X⟩:=Hy (k:=1) t (by rw [aaz];omega);rw [abw] at F;rw [j,if_pos rfl] at hm;subst hm;exact ⟨x2,F,⟨fun _=>X,fun e=>absurd e.symm abP⟩⟩
  | false=>
   rw [j] at hm;obtain rfl:m=1:=by simpa using hm
   exact ⟨E,t,⟨fun e=>absurd e abP,fun _=>rfl⟩⟩
 have G:=hs.drop m;have cl:(es.drop m).length=ps.length - m:=by rw [aaz,hlen]
 have Y:IntKind.wrap .i64 (((es.drop m).length:Int) - 2)=((ps.length - m - 2:Nat):Int):=by rw [wrap_i64 (by omega) (by omega)];omega
 have Z:IntKind.wrap .i64 (((es.drop m).length:Int) - 1)=((ps.length - m - 1:Nat):Int):=by rw [wrap_i64 (by omega) (by omega)];omega
 obtain ⟨xp,ar,av⟩:=Nn (k:=ps.length - m - 2) A (by omega);have aw:=G.take (ps.length - m - 2);obtain ⟨a2,b2,s2,y2,H,_,⟨g2,cn⟩,e2⟩:=gR A G (i:=ps.length - m - 1) (p:=pe) (by rw [abl,show m+(ps.length - m - 1)=ps.length - 1 by omega];exact he);obtain ⟨u,eu,hu⟩:=hE _ H;obtain ⟨k,sp,rc,nm,qs,ls,P,gs,Q,fs,C,rfl,d,a6,g,a7,I⟩:=iG hu;refine aa.bare rfl (aa.step (TV _) ?_);unfold g15;refine aa.step (z _) ?_;generalize a8:(St.mk 2 0 _:St)=st0;have w0:Vw st0 (YA false .ax 0 (0,0) false [] .ax .ax):=by
  rw [<- a8];refine ⟨fun q C=> ?_,by show ([1,0]:Ln).Nodup;decide,aaO _⟩;simp only [aao,aaF,or_false] at C;rcases C with rfl | rfl <;> (refine ⟨?_,Nat.zero_le _⟩;dsimp only;rfl)
 refine aa.bind (R:=fun c=>c=([.bool (isRec p1.2)],st0)) ?_ ?_
 .refine aa.step (O _ _) ?_;simp only [nc,aaD,aaw,bj,aR,ai,af,show ((B:Int)==3)=(B==3) from cY B 3];cases j:B==3 with
  | false=>
   refine aa.step (aq _ _) (aa.some ?_);rw [r,j];rfl
  | true=>
   refine aa.step (ay _ _) (aa.step (O _ _) ?_);simp only [nc,aaD,aaw,bj,aR,ai,ah];refine aa.some ?_;rw [r,j];rfl
 rintro c rfl;simp only [ab,au,ae];refine aa.bind (R:=fun c=> ∃s,c=([xm],s)/\Vw s (YA (isRec p1.2) .ax 0 (0,0) false [] .ax .ax)) ?_ ?_
 .cases j:isRec p1.2 with
  | false=>
   rw [j] at h;refine aa.step (aq _ _) (aa.some ⟨st0,by rw [h.2 rfl],w0⟩)
  | true=>
   rw [j] at h;refine aa.step (ay _ _) (aa.EG [] w0 (aah rfl) fun s _ _ w=>aa.step (h.1 rfl _) (aa.some ⟨s,rfl,w⟩))
 rintro c ⟨s,rfl,w0⟩;simp only [ab,ae,A.len,aF,Y,Z,av];refine aa.gu (zp ar aw (by rw [aau,aaz];omega) hp s w0.ro) rfl (ta _) ?_;rintro v s2 ⟨ws,w,D⟩;have w:Vo s2 (YA (isRec p1.2) .ax 0 (0,0) false [] .ax .ax) 6 ve v ws:=⟨w0.keeps w.k fun _ _ f=>f,w.o⟩;have bb:apart ⟨[],.all s s2⟩ ⟨[],.kept⟩=true:=rfl;simp only [bb,aaI,aG,e2,bj,iy,ai,al,ab,af,ah,ae,jw H rfl eu,au,cI,cA,d.ad,g.ad];refine aa.one w.o.one (aa.one w.o.one (aa.nM [] w (aah rfl) fun s3 o3 _ w=>aa.nM [] w (aah rfl) fun s4 o4 _ w=> ?_));have w:Vo s4 (YA (isRec p1.2) v k sp rc nm P Q) 6 ve v ws:=w;have bt:=D.len;rw [aaA,aau,aaz] at bt;have b4: ∃q J,zH m ps=q::J:=by
  have h1:(zH m ps).length≠0:=by unfold zH;rw [aaA,aau,aaz];omega
  cases C:zH m ps with
  | nil=>rw [C] at h1;exact absurd rfl h1
  | cons q l=>exact ⟨q,l,rfl⟩
 obtain ⟨q0,J,L⟩:=b4;have D:di (zH m ps) ws:=D;refine aa.bind (R:=fun c=> ∃s,c=([],s)/\Vo s (YA (isRec p1.2&&zP (zH m ps)) v k sp rc nm P Q) 6 ve v ws) ?_ ?_
 .refine aa.ff aag w.w rfl (aa.step (au _ _) ?_);cases j:isRec p1.2 with
  | false=>
   refine aa.step (aq _ _) (aa.nM [] w (aah rfl) fun S o5 _ w=>aa.some ⟨S,rfl,w⟩)
  | true=>
   refine aa.step (ay _ _) (aa.ff aag w.w rfl ?_);rw [L] at D;have M:=D;simp only [di] at M;obtain ⟨u0,us,rfl,b5,_⟩:=M;obtain ⟨U,b9,cp,cv,cy,y5,cz,b6,rfl,cF,c6⟩:=ji b5;refine aa.step (zv w.o (k:=0) rfl _ _) ?_;simp only [lu,nc,aaw,bj,aR,ai,af,show ((U:Int)==15)=(U==15) from cY U 15];have b7:zP (zH m ps)=(U==15):=by rw [L,b6];rfl
   rw [<- b7];exact aa.nM [] w (aah rfl) fun S o5 _ w=>aa.some ⟨S,rfl,w⟩
 rintro c ⟨S,rfl,w⟩;refine aa.step (ae _) (aa.fo aag w.w rfl ?_);simp only [al,ab,af,au,ah,ae,d.ad,g.ad];refine aa.one w.o.one (aa.nM [_] w (aah rfl) fun s6 o6 _ w=>aa.fo (aam _ aag) w.w rfl ?_);show aa (uz (.agg (sE (0,0) (isRec p1.2&&zP (zH m ps)) v k sp rc nm P Q)) _) _;simp only [al,ab,af,au,ah,ae];obtain ⟨v',N,b8⟩:=ri w.o;refine aa.step (Rb N d g b8 (fun n=>uc d _ 0 (n+1) (by omega)) (fun n=>uc g _ 0 (n+1) (by omega)) (0,0) _ k sp rc nm _) (aa.some ?_);exact ⟨v',ws,fw k sp rc nm P Q,rfl,N,D,by rw [show cQ pe.1 pe.2= _ from C];exact x9 d a6 g a7 I⟩
theorem Hs {d:Bd} {v:AV} (h:Ug d v) (hs:d.sp=(0,0)): ∃z a k sp rc nm ps ls x es y fs,v= .agg (sE (0,0) d.rc z k sp rc nm x y)/\aO 6 z a/\di d.ps a/\d.body= .mk k sp rc nm ps ls/\aO 6 x es/\di ps es/\aO 7 y fs/\fA ls fs/\ps.length<=100000000:=by
 obtain ⟨z,a,be,rfl,b,c,f⟩:=h;obtain ⟨k,sp,rc,nm,ps,ls,x,es,y,fs,g,e,hx,hp,hy,hl,hn⟩:=iG f;injection e with e
 subst e;rw [hs];exact ⟨z,a,k,sp,rc,nm,ps,ls,x,es,y,fs,rfl,b,c,g,hx,hp,hy,hl,hn⟩
theorem TU {st:St} {z:Nat} {x:AV} {ws:LA} (h:aO z x ws):SQ st z x ws:=⟨h.one,fun _ _=>⟨x,h,fun n=>uc h _ 0 (n+1) (by omega)⟩⟩
theorem OV {st:St} {z k:Nat} {ws:LA} (h:ws.length<=9223372036854775807):SQ st z (.sl z ws (.own k)) ws:=⟨rfl,fun _ _=>⟨.sl z ws .wide,aO.wide h,fun _=>rfl⟩⟩
theorem Pl {F:FuncId} {z:Nat} {x:AV} {es:LA} (hx:aO z x es) {v:AV} (h:(aQ vE).bare F [x]=some v) (hf:vE.full F=false) {γ:Type} (st:St) (K:Kv γ):bf (aQ vE) F [x] st K=K v st q0:=
 aI st K hf (by simp only [aan,aaH,hx.strip]) (by simp only [aJ,hx.bare];rfl) h
theorem Om {a b:Nat} (h:a≠b) (o:VM.Obj):apart ⟨[a],.kept⟩ ⟨[],.made b o⟩=true:=by
 show (![a].contains b)=true;simp [h.symm]
section
variable {st:St} {S:Sp} {x:AV} {es:LA} (w0:Vw st (wm 0 S false [] .ax .ax)) (hx:aO 5 x es)
include w0 hx
theorem Y0 {bs:List (Nat×T)} {pi d p1 pe:Nat×T} {m:Nat} (hs:ij nt (bs++[pi]++[d]) es) (hn:bs.length < 100000000) (h1:bs[1]? =some p1) (hm:m=if isRec p1.2=true then 2 else 1) (hl:m+3<=bs.length)
  (hp: ∀p∈(bs.drop m).take (bs.length - m - 2),pG p) (he:bs[bs.length - 1]? =some pe) (hE:gl pe) (V:gl d):aa ((aQ vE).wide 119 [.mp 1 0,x] st) (Cg S 14 (isRec p1.2&&zP (zH m bs)) [] (zH m bs) [cQ pe.1 pe.2,cQ d.1 d.2]):=by
 have hlen:es.length=bs.length+2:=by have:=hs.len;simpa using this
 have W:=hx.1;have A:(bs++[pi]++[d])[bs.length+1]? =some d:=by
  rw [aaM (by simp)];simp
 obtain ⟨a1,b1,s1,y1,r,_,⟨g1,X⟩,Y⟩:=gR hx hs (i:=bs.length+1) A;have B:IntKind.wrap .i64 ((es.length:Int) - 2)=((bs.length:Nat):Int):=by rw [wrap_i64 (by omega) (by omega)];omega
 have C:IntKind.wrap .i64 ((es.length:Int) - 1)=((bs.length+1:Nat):Int):=by rw [wrap_i64 (by omega) (by omega)];omega
 obtain ⟨x',s,Z⟩:=Nn (k:=bs.length) hx (by omega);have t:=hs.take bs.length;have y:(bs++[pi]++[d]).take bs.length=bs:=by rw [aar,List.take_left'];rfl
 rw [y] at t;obtain ⟨v,eb,hv⟩:=AH s t (by omega) h1 hm hl hp he hE;obtain ⟨z,a,k,sp,rc,nm,ps,ls,D,ar,E,av,rfl,F,ha,g,b,G,c,H,I⟩:=Hs hv rfl;obtain ⟨u,eu,hu⟩:=V _ r;obtain ⟨k4,J,K,L,a6,a7,x4,a8,y4,bb,M,rfl,j,N,l,O,P⟩:=iG hu;refine aa.wide (aa.step (SI _ _ _) ?_);simp only [Xa,hx.len,aF,B,C,Z];refine aa.step (Pl s eb rfl _ _) ?_;simp only [al,ab,af,au,ah,ae];have hh:2<=st.h:=by
  have:=(St.ca.1 (w0.get (aag))).1;omega
 have w0:Vo st (wm 0 S false [] .ax .ax) 7 uM .ax []:=⟨w0,iX.ax w0.ro _ _⟩;show aa (bM (st.add (.cells M9 YH)) _) _;have w1:Vo (st.add (.cells M9 YH)) ((st.h,M9,YH)::wm 0 S false [] .ax .ax) 7 uM .ax []:=⟨w0.w.alloc _ _,iX.ax (abQ w0.w.ro) _ _⟩;refine aa.step (bP _ _) (aa.one F.one (aa.one b.one (aa.one c.one (aa.nM [] w1 (aah rfl) fun n o2 Q q=> ?_))));have q:Vo n ((st.h,M9,sE (0,0) (isRec p1.2&&zP (zH m bs)) z k sp rc nm D E)::wm 0 S false [] .ax .ax) 7 uM .ax []:=q;refine aa.ff aag q.w rfl (aa.step (au _ _) (aa.ff aag q.w rfl ?_));refine aa.step (bq (q.w.get aag) _ _ _ _) ?_;simp only [sE,aaD,aaw,tL,ai,al,ab,af,au,ah,ae,b.ad,b.aD,c.ad,c.aD,Y,bj,iy,jw r rfl eu,cI,cA,aaI,aG,j.ad,j.aD,l.ad,l.aD];have bt:st.h < n.h:=by
  rw [Q];exact aa3 _
 have w3:Vo (n.add (VM.Obj.tok 2 uM)) ((st.h,M9,sE (0,0) (isRec p1.2&&zP (zH m bs)) z k sp rc nm D E)::wm 0 S false [] .ax .ax) 7 uM .ax []:=⟨q.w.keeps (aZ.add _ _ (fun _=>False)) (fun _ _ f=>f),iX.ax (abQ q.w.ro) _ _⟩;have R:st.h≠1:=by omega
 have am:=fun o=>Om (show st.h≠n.h by omega) o;have U: ∀o,apart ⟨[st.h],.kept⟩ ⟨[1],.wrote 1 o⟩=true:=fun o=>rN R;refine aa.step (bP _ _) ?_;show aa (cf (apart ⟨[st.h],.kept⟩ ⟨[],.made n.h (VM.Obj.tok 2 uM)⟩&&(apart ⟨[st.h],.kept⟩ ⟨[],.made n.h (VM.Obj.tok 2 uM)⟩&&true)) _) _;simp only [am,aaI,aG,dP,bw,aax];refine aa.nM [_] w3 (aah rfl) fun s5 o5 _ w=> ?_;simp only [U,qq,aaI,aG];refine aa.nM [_] w (aah rfl) fun s6 o6 _ w=> ?_;simp only [U,qq,aaI,aG,F.ad];refine aa.nM [_] w (aah rfl) fun s7 o7 _ w=> ?_;simp only [qq,aaI,aG];refine aa.nM [_] w (aah rfl) fun s8 o8 _ w=>aa.some ⟨rfl,z,a,.sl 7 [.agg (fw k sp rc nm D E),.agg (fw k4 J K L x4 y4)] (.own n.h),_,w.w.sub (abr _ _),TU F,OV (aah rfl),ha, ?_,fun e=>by cases e⟩;rw [show cQ pe.1 pe.2= _ from g,M];exact fA.cons (x9 b G c H I) (fA.cons (x9 j N l O P) fA.nil)
end
end Go.Proofs.YtkbkbndajpbcjaaGreatDoor.Vm
