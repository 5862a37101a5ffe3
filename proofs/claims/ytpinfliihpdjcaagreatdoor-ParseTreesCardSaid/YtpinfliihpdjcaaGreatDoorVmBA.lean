/-
  A part of the proof.
-/
import Derived.Test.YtpinfliihpdjcaaGreatDoorVmAJ
import Derived.LoopN
import Derived.Scope
import Derived.RangeFuncLeaves
import Derived.RangeFuncRecord
set_option linter.all false
namespace Go.VM
def Ex.to:Ex->Exit
 | .normal=> .normal
 | .exit id=> .exit id
 | .ret=> .ret
section
variable {P:Program}
theorem Kp.sub {A A':Nat->Prop} {g g':Gh} {w w':World} (h:Kp A' g w g' w') (hs: ∀b,A' b->A b):Kp A g w g' w':=
 ⟨h.size,fun b a=>h.heap b fun k=>a (hs b k),fun b a=>h.F b fun k=>a (hs b k),fun b a=>h.M b fun k=>a (hs b k),h.le,h.rest⟩
structure Nx (A:Nat->Prop) (g:Gh) (a:Act) (w:World) (A':Nat->Prop) (g':Gh) (a':Act) (w':World):Prop where
 sub: ∀b,A' b->A b
 kp:Kp A g w g' w'
 defs: ∀d∈a'.defers,d∈a.defers\/ ∃D,d=mark D/\A D
 out: ∀b,A b->¬ A' b-> ∀o,g'.F b o=none
theorem Nx.refl (A:Nat->Prop) (g:Gh) (a:Act) (w:World):Nx A g a w A g a w:=⟨fun _ h=>h,Kp.refl _ _ _,fun _ h=> .inl h,fun _ h k=>absurd h k⟩
theorem Nx.trans {A c e:Nat->Prop} {g f i:Gh} {a j l:Act} {w w1 m:World} (h:Nx A g a w c f j w1) (k:Nx c f j w1 e i l m):Nx A g a w e i l m:=
 ⟨fun b n=>h.sub b (k.sub b n),h.kp.trans (k.kp.sub h.sub),fun d hd=>by
  rcases k.defs d hd with hd | ⟨D,rfl,p⟩
  .exact h.defs d hd
  .exact .inr ⟨D,rfl,h.sub D p⟩,fun b q r o=>by
  by_cases h1:c b
  .exact k.out b h1 r o
  .rw [k.kp.F b h1 o];exact h.out b q h1 o⟩
theorem sS {X:Cx} {ro:Option Nat} {sb:Bool} {c:Code} {body:Fr->St->cl (Ex×Fr×St)}
  (r: ∀A fr st ex fr' st' g a w (Q:Exit->Act->World->Prop),body fr st= .ok (ex,fr',st')->Rel X A sb g fr st a w->(∀A' g' a' w',Rel X A' sb g' fr' st' a' w'->Nx A g a w A' g' a' w'->Q ex.to a' w')->c.wpIn (fe ro) 0 P Q a w):
  ∀(n:Nat) {A:Nat->Prop} {fr fr':Fr} {st st':St} {ex:Ex} {g:Gh} {a:Act} {w:World} {Q:Exit->Act->World->Prop},iter body n fr st= .ok (ex,fr',st')->Rel X A sb g fr st a w->(∀A' g' a' w',Rel X A' sb g' fr' st' a' w'->Nx A g a w A' g' a' w'->Q ex.to a' w')->Code.roundsIn (fe ro) 0 P c Q n a w
 | 0,_,_,_,_,_,_,_,_,_,_,h,_,_=>by simp [iter] at h
 | n+1,A,fr,fr',st,st',ex,g,a,w,Q,h,s,i=>by
  simp only [iter,ad] at h;obtain ⟨⟨d,j,st1⟩,h1,e⟩:=h;rw [roundsIn_succ];refine r A fr st d j st1 g a w _ h1 s fun A' g' a' w' b k=> ?_;cases d with
  | normal=>exact sS r n e b fun l m o p f q=>i l m o p f (k.trans q)
  | exit id=>
   simp only [aj,NU] at e;obtain ⟨rfl,rfl,rfl⟩:=e;exact i A' g' a' w' b k
  | ret=>
   simp only [aj,NU] at e;obtain ⟨rfl,rfl,rfl⟩:=e;exact i A' g' a' w' b k
theorem Hz {T:TT} {A:Nat->Prop} {g:Gh} {st:St} {w:World} (h:Inv T A g st w) {l:Nat} {o:Go.Obj} (hl:w.heap[l]? =some o) (ho: ∀vs ty fz,o≠ .cells vs ty fz) (k:Nat):g.F l k=none:=by
 cases hf:g.F l k with
 | none=>rfl
 | some v=>
  obtain ⟨vs,ty,fz,h1,_⟩:=cQ (h.F l k v hf);rw [hl] at h1;exact absurd (OS h1) (ho vs ty fz)
theorem I7 {T:TT} {A:Nat->Prop} {g:Gh} {st:St} {w:World} (h:Inv T A g st w) {l:Nat} {o:Go.Obj} (hl:w.heap[l]? =some o) (ho: ∀es clk,o≠ .map es clk):g.M l=none:=by
 cases a:g.M l with
 | none=>rfl
 | some v=>
  have h1:=h.M l v.1 v.2 a;rw [hl] at h1;exact absurd (OS h1) (ho _ _)
theorem Inv.turn {T:TT} {A:Nat->Prop} {g:Gh} {st:St} {w:World} (h:Inv T A g st w) {k l:Nat} {imm:TypeId->Bool} {ps:List Tmp} {x c:Code} {fr:Fr} {s:Nat} {p:Ex} (f:st.get k= .ok (.loop imm ps x c fr s p)) (i:g.E k=some (.blk l)) {r:Loop} (hl:w.heap[l]? =some (.loop r)) (hA:A l)
  (r':Loop) (o':Obj) (b: ∀b',At g k o' b'->b'=l) (ho:Holds T g (w.putObj l (.loop r')) k o'):Inv T A g (st.put k o') (w.putObj l (.loop r'))/\Kp A g w g (w.putObj l (.loop r')):=by
 have a: ∀b',b'≠l->(w.putObj l (.loop r')).heap[b']? =w.heap[b']? :=fun b' m=>World.putObj_heap_other m;exact ⟨h.write f (show g.E k=some (.blk l) from i) o' World.putObj_size a (fun j v d=>by rw [Hz h hl (fun _ _ _ e=>by cases e) j] at d;cases d) (I7 h hl fun _ _ e=>by cases e) b ho,
  Kp.write hA World.putObj_size a⟩
theorem kJ {k s0 b:Nat} {p:Ex} {st st':St} (h:mu k s0 b p st= .ok st'): ∃imm ps x c fr p0,st.get k= .ok (.loop imm ps x c fr s0 p0)/\st'=st.put k (.loop imm ps x c fr b p):=by
 simp only [mu,ad] at h;obtain ⟨o,h1,a⟩:=h;split at a
 .rename_i imm ps x c fr s p0;split at a
  .rename_i hs;have hs:=NZ hs;subst hs;cases a;exact ⟨imm,ps,x,c,fr,p0,h1,rfl⟩
  .cases a
 .cases a
theorem oJ (fr:Fr): ∀(us:List Nat) (t:Tr AV) (i:Nat),(lF us (gG fr us) t).get i=t.get i\/(lF us (gG fr us) t).get i=some (fr.get i)
 | [],t,i=> .inl rfl
 | u::us,t,i=>by
  simp only [gG,lF];rcases oJ fr us (t.put u (fr.get u)) i with h | h
  .rw [h,Tr.gI];by_cases a:u=i
   .rw [if_pos a,a];exact .inr rfl
   .rw [if_neg a];exact .inl rfl
  .exact .inr h
theorem zz {g:Gh} {fr:Fr} {tmps:Array Value} (h:ra g fr tmps) (hs:fr.strict=false) (us:List Nat):ra g (CD fr.n us (gG fr us)) tmps:=by
 refine ⟨h.size,fun t=> ?_⟩;simp only [CD,Fr.get];rcases oJ fr us .leaf t with h1 | h1
 .rw [h1,Tr.lG];exact .inl ⟨trivial,rfl⟩
 .rw [h1];exact .inr (h.at hs t)
theorem vZ {X:Cx} (hX:Good P X) {n:Nat} {x:Operand} {ps:Array Tmp} {y c:Code} (hc:codeOk y=true/\codeOk c=true) {A:Nat->Prop} {ro:Option Nat} {sb:Bool} (hsb:ro.isSome=true->sb=true) {fr fr':Fr} {st st':St} {ex:Ex} {g:Gh} {a:Act} {w:World} {Q:Exit->Act->World->Prop}
  (h:exec X n (.rangeFunc x ps y c) fr st= .ok (ex,fr',st')) (k:Rel X A sb g fr st a w) (hQ: ∀A' g' a' w',Rel X A' sb g' fr' st' a' w'->Nx A g a w A' g' a' w'->Q ex.to a' w'):(Code.rangeFunc x ps y c).wpIn (fe ro) 0 P Q a w:=by
 simp only [exec] at h;split at h
 .cases h
 rename_i hs;have a8:ro=none:=by
  have:=k.mode;rw [hs] at this;cases ro with
  | none=>rfl
  | some l=>rw [hsb rfl] at this;cases this
 subst a8;simp only [ad] at h;obtain ⟨fv,h1,h⟩:=h;split at h
 .rename_i f cap;simp only [ad] at h;obtain ⟨⟨v,st1⟩,h2,o,h3,h4⟩:=h;dsimp only at h3 h4;split at h4
  .rename_i cd cn x1 c1 cv s p;split at h4
   .rename_i V;simp only [aj,NU] at h4;obtain ⟨rfl,rfl,rfl⟩:=h4;have W:=aH k.G k.fr h1;simp only [R,RL] at W;obtain ⟨a',Y,bb,N,b4⟩:=W;have N:a'= #[]:=by simpa using N
    subst N;refine wpIn_rangeFunc ?_;intro fn cz;obtain ⟨rec,j⟩: ∃rec:Loop,rec={state:= .ready,pending:=none,fn,tmps:=a.tmps,params:=ps,assign:=y,body:=c,defers:=w.heap.size}:=⟨_,rfl⟩;obtain ⟨W0,m⟩: ∃W0,w.alloc (.deferred (some []))=W0:=⟨_,rfl⟩;obtain ⟨W1,q⟩: ∃W1,W0.alloc (.loop rec)=W1:=⟨_,rfl⟩;have b5:W0.heap.size=w.heap.size+1:=by rw [<- m];simp
    have c6:W1.heap.size=w.heap.size+1+1:=by rw [<- q, <- m];simp
    obtain ⟨A',B⟩: ∃A':Nat->Prop,A'=fun b=>A b/\b≠w.heap.size:=⟨_,rfl⟩;have u: ∀b,A' b->A b:=fun b O=>by rw [B] at O;exact O.1
    have J:Inv X.T A g st W0:=by rw [<- m];exact k.inv.alloc _
    have J:Inv X.T A' g st W0:=by
     refine ⟨J.F,J.M,J.E,J.H,J.D,fun id o b q1 Z q3=> ?_,fun b O=> ?_,fun c=>⟨fun b o v ha=>(J.C c).1 b o v (u b ha),(J.C c).2⟩⟩
     .rw [B];have:=th (k.inv.H id o q1) Z;exact ⟨J.own id o b q1 Z q3,by omega⟩
     .rw [B];exact ⟨k.inv.up b (by omega),by omega⟩
    have k0:Kp A g w g W0:=by rw [<- m];exact Kp.alloc _ k.inv
    have av:W1.heap[w.heap.size+1]? =some (.loop rec):=by
     have:=World.heap_alloc_new (w:=W0) (o:= .loop rec);rw [q,b5] at this;exact this
    have b6:W1.heap[w.heap.size]? =some (.deferred (some [])):=by
     rw [<- q,World.fC (by omega), <- m];exact World.heap_alloc_new
    have a1:g.E st.h=none:=k.inv.E _ (NX _);have K:Le g (g.cg st.h (.blk (w.heap.size+1))):=Le.cg a1;have a6:A' (w.heap.size+1):=by rw [B];exact ⟨k.inv.up _ (by omega),by omega⟩
    have i1:Inv X.T A' (g.cg st.h (.blk (w.heap.size+1))) (st.new (.loop X.imm ps.toList y c (CD fr.n (lK ps.toList y c) (gG fr (lK ps.toList y c))) 0 .normal)).2 W1:=by
     have:=J.alloc (.loop rec);rw [q] at this;refine this.name (hU:=fun _=>mQ.other fun vs ty fz e=>by rw [av] at e;cases e) _ (.blk (w.heap.size+1)) (w.heap.size+1) (fun id o' b7=>J.eQ (by omega) id o' b7) a6 (fun b' I=> ?_) ⟨w.heap.size+1,rec,Gh.aF _ _ _,av, ?_, ?_, ?_, ?_,⟨hc.1,hc.2,rfl⟩, ?_⟩
     .have I:(g.cg st.h (.blk (w.heap.size+1))).E st.h=some (.blk b'):=I;rw [Gh.aF] at I;simpa using I.symm
     .rw [j];exact (zz k.fr hs _).mono K
     .rw [j]
     .rw [j]
     .rw [j]
     .rw [j];exact .inl ⟨rfl,rfl,rfl,rfl⟩
    have k1:Kp A' g W0 (g.cg st.h (.blk (w.heap.size+1))) W1:=by
     rw [<- q];exact (Kp.alloc _ J).trans (Kp.cg a1)
    have S:RL (g.cg st.h (.blk (w.heap.size+1))) (.yld st.h::cap) (.func (.yield (w.heap.size+1)) #[] #[]::Y.toList):=
     bJ (by simp only [R];exact ⟨_,Gh.aF _ _ _,rfl⟩) (cT K _ _ b4)
    obtain ⟨e1,t⟩:=hX.C.wide _ _ _ _ _ h2 A' _ W1 _ (k.G.mono K) S i1;refine ⟨w.heap.size+1,[mark w.heap.size],W1,{target:= .fn (.func f) Y,args:= #[.func (.yield (w.heap.size+1)) #[] #[]]},W1,f,(.func (.yield (w.heap.size+1)) #[] #[]::Y.toList).toArray,W1, ?_, ?_, ?_, ?_,fun e=>by simp [fe,Fence.wide] at e, ?_⟩
    .rw [<- q,j, <- m];exact run_enterLoop_outer _ _ _ _ _
    .simp only [resolve,bb];simp [go_sem]
    .intro _ _;trivial
    .have:(#[.func (.yield (w.heap.size+1)) #[] #[]]++Y:Array Value)=(.func (.yield (w.heap.size+1)) #[] #[]::Y.toList).toArray:=by
      apply Array.ext';simp
     rw [<- this] at e1 ⊢;simpa [invoke,go_sem] using e1
    .have t:CallsIn (fe none) 0 P f _ W1 _:=callsIn_wide.2 t;refine CallsIn.mono t ?_;rintro e W3 ⟨z,rfl,g',_,i3,U⟩;have a7:g'.E st.h=some (.blk (w.heap.size+1)):=U.le.blk _ _ (Gh.aF _ _ _);obtain ⟨b,r,q1,Z,q3,q4,q5,q6,q7,q8⟩:=i3.H _ _ h3;have O:b=w.heap.size+1:=by have:=q1.symm.trans a7;simpa using this
     subst O;have b8:r.state≠ .busy:=by
      rcases q8 with ⟨_,e,_⟩ | ⟨e,_⟩ | ⟨_,e,_⟩
      .rw [e];simp
      .subst e;cases V
      .rw [e];simp
     obtain ⟨i4,k4⟩:=i3.turn h3 a7 Z a6 {r with state:= .exhausted} .dead (fun _ I=>I.elim) trivial;have rel:Rel X A' sb g' fr (st1.put st.h .dead) {a with defers:=[mark w.heap.size]++a.defers} (W3.putObj (w.heap.size+1) (.loop {r with state:= .exhausted})):=by
      refine ⟨k.mode,k.fr.mono (K.trans U.le),i4,k.G.mono (K.trans U.le), ?_⟩;have m1:Marks A' ([mark w.heap.size]++a.defers) W1:=by
       obtain ⟨Ds,m1,m2,m3⟩:=k.marks;refine ⟨w.heap.size::Ds,by rw [m1];rfl,Ps.2 ⟨fun hm=> ?_,m2⟩,fun D hD=> ?_⟩
       .have:=lt_of_heap (m3 _ hm).2;omega
       .rcases Oc.1 hD with rfl | hD
        .exact ⟨fun hh=>by rw [B] at hh;exact hh.2 rfl,b6⟩
        .have b9:=lt_of_heap (m3 D hD).2;refine ⟨fun hh=>(m3 D hD).1 (u D hh), ?_⟩;rw [<- q,World.fC (by omega), <- m,World.fC b9];exact (m3 D hD).2
      exact (m1.tZ U).tZ k4
     have nx:Nx A g a w A' g' {a with defers:=[mark w.heap.size]++a.defers} (W3.putObj (w.heap.size+1) (.loop {r with state:= .exhausted})):=by
      refine ⟨u,k0.trans (((k1.trans U).trans k4).sub u),fun d hd=> ?_,fun b ha hn o=> ?_⟩
      rotate_left
      .have O:b=w.heap.size:=Classical.byContradiction fun e=>hn (by rw [B];exact ⟨ha,e⟩);rw [((k1.trans U).trans k4).F b hn o,O];exact k.inv.fy (NX _) o
      rcases N9.1 hd with hd | hd
      .exact .inr ⟨w.heap.size,by simpa using hd,k.inv.up _ (NX _)⟩
      .exact .inl hd
     have hq:=hQ _ _ _ _ rel nx;have L:=run_endLoop (P:=P) Z b8;obtain ⟨W4,cc⟩: ∃W4,W3.putObj (w.heap.size+1) (.loop {r with state:= .exhausted})=W4:=⟨_,rfl⟩;rw [cc] at hq L;refine ⟨r.pending,W4,L, ?_⟩;rcases q8 with ⟨_,_,e,rfl⟩ | ⟨e,_⟩ | ⟨_,_,⟨rfl,e⟩ | ⟨i,rfl,e⟩⟩
     .rw [e];exact hq
     .subst e;cases V
     .rw [e];exact wpIn_ret hq
     .rw [e];exact wpIn_exit hq
   .cases h4
  .cases h4
 .cases h
theorem eA {X:Cx} {ro:Option Nat} {sb:Bool} (v:Good P X) (z:P.follows .mixedOrders=true) (hsb:ro.isSome=true->sb=true) (n:Nat): ∀(c:Code),codeOk c=true->(sb=true->bQ c=true)-> ∀(A:Nat->Prop) (fr:Fr) (st:St) (ex:Ex) (fr':Fr) (st':St) (g:Gh) (a:Act) (w:World) (Q:Exit->Act->World->Prop),
  exec X n c fr st= .ok (ex,fr',st')->Rel X A sb g fr st a w->(∀A' g' a' w',Rel X A' sb g' fr' st' a' w'->Nx A g a w A' g' a' w'->Q ex.to a' w')->c.wpIn (fe ro) 0 P Q a w
 | .skip,_,_,A,fr,st,ex,fr',st',g,a,w,Q,h,f,j=>by
  simp only [exec,NT,NU] at h;obtain ⟨rfl,rfl,rfl⟩:=h;exact wpIn_skip (j A g a w f (Nx.refl _ _ _ _))
 | .label _,_,_,A,fr,st,ex,fr',st',g,a,w,Q,h,f,j=>by
  simp only [exec,NT,NU] at h;obtain ⟨rfl,rfl,rfl⟩:=h;exact wpIn_label (j A g a w f (Nx.refl _ _ _ _))
 | .exit id,_,_,A,fr,st,ex,fr',st',g,a,w,Q,h,f,j=>by
  simp only [exec,NT,NU] at h;obtain ⟨rfl,rfl,rfl⟩:=h;exact wpIn_exit (j A g a w f (Nx.refl _ _ _ _))
 | .ret,_,_,A,fr,st,ex,fr',st',g,a,w,Q,h,f,j=>by
  simp only [exec,NT,NU] at h;obtain ⟨rfl,rfl,rfl⟩:=h;exact wpIn_ret (j A g a w f (Nx.refl _ _ _ _))
 | .region id ops draw,p,o,A,fr,st,ex,fr',st',g,a,w,Q,h,f,j=>by
  have B:sb=true->fE ops.toList=true:=o;have nx: ∀{g':Gh} {a':Act} {w':World},a'.defers=a.defers->Kp A g w g' w'->Nx A g a w A g' a' w':=fun hd r=>⟨fun _ L=>L,r,fun d h=> .inl (hd ▸ h),fun _ h k=>absurd h k⟩;simp only [exec] at h;split at h
  .simp only [ad,aj,NU] at h;obtain ⟨⟨s,st1⟩,h1,rfl,rfl,rfl⟩:=h;refine wO v z B (fun hd=> ?_) h1 f fun a' g' w' m hd r=>j A g' a' w' m (nx hd r);simp only [codeOk,hd,Ou,Ov] at p;exact p
  .rename_i hd;simp only [N0] at hd;obtain ⟨rfl,_⟩:=hd;simp only [ad,aj,NU] at h;obtain ⟨⟨s,st1⟩,h1,rfl,rfl,rfl⟩:=h;exact tU v z B (by simpa [codeOk] using p) h1 ⟨f.mode,f.fr,f.inv.lay,f.G,f.marks⟩ fun a' g' w' m hd r=>j A g' a' w' m (nx hd r)
 | .seq x y,p,o,A,fr,st,ex,fr',st',g,a,w,Q,h,f,j=>by
  simp only [codeOk,N0] at p;have t:sb=true->bQ x=true/\bQ y=true:=fun e=>by have:=o e;simpa [bQ] using this
  simp only [exec,ad] at h;obtain ⟨⟨u,s,st1⟩,h1,q⟩:=h;refine wpIn_seq (eA v z hsb n x p.1 (fun e=>(t e).1) A fr st u s st1 g a w _ h1 f fun A' g' a' w' m r=> ?_);cases u with
  | normal=>exact eA v z hsb n y p.2 (fun e=>(t e).2) A' s st1 ex fr' st' g' a' w' Q q m fun E F H I C J=>j E F H I C (r.trans J)
  | exit id=>
   simp only [aj,NU] at q;obtain ⟨rfl,rfl,rfl⟩:=q;exact j A' g' a' w' m r
  | ret=>
   simp only [aj,NU] at q;obtain ⟨rfl,rfl,rfl⟩:=q;exact j A' g' a' w' m r
 | .cond c x y,p,o,A,fr,st,ex,fr',st',g,a,w,Q,h,f,j=>by
  simp only [codeOk,N0] at p;have t:sb=true->bQ x=true/\bQ y=true:=fun e=>by have:=o e;simpa [bQ] using this
  simp only [exec,ad] at h;obtain ⟨M,h1,b,q,K⟩:=h;have D:=aH f.G f.fr h1;cases M <;> simp only [VM.asBool,NT] at q <;> (try (cases q;done))
  subst q;simp only [R] at D;rename_i b;refine wpIn_cond D ?_;cases b with
  | true=>exact eA v z hsb n x p.1 (fun e=>(t e).1) A fr st ex fr' st' g a w Q K f j
  | false=>exact eA v z hsb n y p.2 (fun e=>(t e).2) A fr st ex fr' st' g a w Q K f j
 | .block id c,p,o,A,fr,st,ex,fr',st',g,a,w,Q,h,f,j=>by
  simp only [codeOk] at p;simp only [exec,ad] at h;obtain ⟨⟨u,s,st1⟩,h1,q⟩:=h;refine wpIn_block (eA v z hsb n c p o A fr st u s st1 g a w _ h1 f fun A' g' a' w' m r=> ?_);cases u with
  | normal=>
   simp only [aj,NU] at q;obtain ⟨rfl,rfl,rfl⟩:=q;exact j A' g' a' w' m r
  | exit i=>
   simp only at q;simp only [Ex.to,Exit.inBlock];split at q
   .rename_i hi;have hi:=NZ hi;simp only [aj,NU] at q;obtain ⟨rfl,rfl,rfl⟩:=q;rw [if_pos hi];exact j A' g' a' w' m r
   .rename_i hi;have hi:i≠id:=fun e=>by subst e;simp at hi
    simp only [aj,NU] at q;obtain ⟨rfl,rfl,rfl⟩:=q;rw [if_neg hi];exact j A' g' a' w' m r
  | ret=>
   simp only [aj,NU] at q;obtain ⟨rfl,rfl,rfl⟩:=q;exact j A' g' a' w' m r
 | .loop c,p,o,A,fr,st,ex,fr',st',g,a,w,Q,h,f,j=>by
  simp only [codeOk] at p;simp only [exec] at h;refine wpIn_loop_rounds n (sS (fun A fr st ex fr' st' g a w Q h f j=>eA v z hsb n c p o A fr st ex fr' st' g a w Q h f j) n h f j)
 | .rangeFunc x ps y c,p,_,A,fr,st,ex,fr',st',g,a,w,Q,h,f,j=>by
  simp only [codeOk,N0] at p;exact vZ v (hsb:=hsb) p h f j
 | .scope c,p,o,A,fr,st,ex,fr',st',g,a,w,Q,h,f,j=>by
  cases ro with
  | some l=>exact absurd (o (hsb rfl)) (by simp [bQ])
  | none=>
   simp only [codeOk] at p;simp only [exec] at h;refine wpIn_wide.2 (wp_scope_straight (wpIn_wide.1 (eA (ro:=none) v z hsb n c p (fun e=>absurd (o e) (by simp [bQ])) A fr st ex fr' st' g a w _ h f fun A' g' a' w' m r=> ?_)));cases ex <;> exact j A' g' a' w' m r
 | .goto _,_,_,_,_,_,_,_,_,_,_,_,_,h,_,_=>by simp [exec] at h
 | .refuse _,_,_,_,_,_,_,_,_,_,_,_,_,h,_,_=>by simp [exec] at h
end
section
variable {P:Program} {T:TT} {A:Nat->Prop} {g:Gh} {st:St} {w:World}
theorem tq: ∀(l:List AV) (i:Nat) (t:Tr AV) (k:Nat),(pT i l t).get k=if i<=k/\k < i+l.length then l[k - i]? else t.get k
 | [],i,t,k=>by
  simp only [pT,OO,Ow];rw [if_neg (by omega)]
 | v::l,i,t,k=>by
  simp only [pT,tq l (i+1),Tr.gI,Om];by_cases h:i=k
  .subst h;rw [if_neg (by omega),if_pos rfl,if_pos (by omega)];simp
  .rw [if_neg h];by_cases a:i+1<=k/\k < i+1+l.length
   .rw [if_pos a,if_pos (by omega),show k - i=(k - (i+1))+1 by omega];simp
   .rw [if_neg a,if_neg (by omega)]
theorem uf {n:Nat} {args:List AV} {xs:List Value} (h:RL g args xs) (d:args.length<=n):ra g (nW n args) (xs.toArray++Array.replicate (n - xs.toArray.size) Go.undef):=by
 have hl:=cD h;refine ⟨by simp [nW];omega,fun t=> .inr ?_⟩;simp only [nW,Fr.get,tq,N5,O4,true_and,Nat.sub_zero,Tr.lG];by_cases a:t < args.length
 .rw [if_pos a,Oj a];obtain ⟨x,h1,c⟩:=qy h (Oj a);have b:(xs.toArray++Array.replicate (n - xs.toArray.size) Go.undef).getD t Go.undef=x:=by
   rw [Array.getD_eq_getD_getElem?,Array.getElem?_append_left (by simp;omega)];simp [h1]
  rw [b];exact c
 .rw [if_neg a];have b:(xs.toArray++Array.replicate (n - xs.toArray.size) Go.undef).getD t Go.undef=Go.undef:=by
   rw [Array.getD_eq_getD_getElem?,Array.getElem?_append_right (by simp;omega)];rw [Array.getElem?_replicate];split <;> rfl
  rw [b];exact wi
def Bg (tmps:Array Value) (r:ResultVar):Sem Value:=
 match r with
 | .tmp t=>pure (tmps.getD t Go.undef)
 | .cell a t=>do loadVar t (<- asAddr (tmps.getD a Go.undef))
theorem zD (fn:Func) (tmps:Array Value):results fn tmps=(do
  let vs <- fn.results.mapM (Bg tmps)
  pure (if h:vs.size=1 then vs[0] else .tuple vs)):=by
 unfold results;congr 2
theorem lg (hT:qW P T) {fr:Fr} {tmps:Array Value} (hf:ra g fr tmps) (hs:fr.strict=false) (h:Inv T A g st w): ∀{rs:List ResultVar} {vs:List AV},fo T fr st rs= .ok vs->
  ∃xs,(rs.mapM (Bg tmps)).run P w= .ok xs w/\RL g vs xs
 | [],vs,l=>by
  simp only [fo,NT] at l;subst l;exact ⟨[],rfl,dF⟩
 | r::rs,vs,l=>by
  simp only [fo,ad,aj] at l;obtain ⟨v,h1,vs',S,rfl⟩:=l;obtain ⟨xs,U,V⟩:=lg hT hf hs h S;have key: ∃x,(Bg tmps r).run P w= .ok x w/\R g v x:=by
   cases r with
   | tmp t=>
    simp only [gR,NT] at h1;subst h1;exact ⟨_,rfl,hf.at hs t⟩
   | cell a t=>
    simp only [gR,ad] at h1;obtain ⟨i,D,p,c,j⟩:=h1;have hi:=hT t i (bO.1 D);have d:=hf.at hs a;show ∃x,(do loadVar t (<- Go.asAddr (tmps.getD a Go.undef)):Sem Value).run P w= .ok x w/\R g v x;generalize tmps.getD a Go.undef=x at d ⊢;cases E:fr.get a <;> rw [E] at c d <;> simp only [iT] at c <;> (try (cases c;done))
    .rename_i cells;simp only [ad,aj] at c;obtain ⟨u,q,rfl⟩:=c;simp only [aj] at j;subst j;simp only [R] at d;obtain ⟨_,b,o,rfl,W⟩:=d;obtain ⟨ys,G,I⟩:=fZ W;obtain ⟨y,s,z2⟩:=dy (w:=w) hi q G fun k z B=>h.F _ _ _ (I k z B).1;exact ⟨y,by simp [asAddr,s],z2⟩
    .rename_i id off;simp only [NT] at c;subst c;simp only [fD,ad,aj] at j;obtain ⟨o,q,⟨v',o'⟩,⟨J,⟨cs,f,X⟩,C⟩,K⟩:=j;rw [nO] at f;obtain ⟨ty,rfl⟩:=f;simp only [NU] at C;obtain ⟨rfl,rfl⟩:=C;subst K;simp only [R] at d;obtain ⟨b,L,rfl⟩:=d;obtain ⟨b',ys,rest,Y,G,I,Z,y4,y5,y6⟩:=h.cells q;have hb:b'=b:=by have:=G.symm.trans L;simpa using this
     subst hb;obtain ⟨y,s,z2⟩:=dy (w:=w) (b:=b') (o:=off) hi X (fK off Z) fun k z B=>gO I (by simpa using B);exact ⟨y,by simp [asAddr,s],z2⟩
    .rename_i k n off;simp only [NT] at c;subst c;simp only [fD,ad,aj] at j;obtain ⟨o,q,⟨v',o'⟩,⟨J,f,C⟩,K⟩:=j;simp only [NU] at C;obtain ⟨rfl,rfl⟩:=C;subst K;simp only [R] at d;obtain ⟨loc,b,cap,L,hl,rfl⟩:=d;split at f
     .rename_i m e z cs;split at f
      .rename_i M;have M:=NZ M;subst M;obtain ⟨O,b2,Q,i2,pre,rest,p1,p2,p3,p4,p5,p6,p7,p8,p9,av,N,a1,a6⟩:=h.H k _ q;have D:=p1.symm.trans L;simp only [N1,jo.tok.injEq] at D;subst D;have c:=p2.symm.trans hl;simp only [N1,NU] at c;obtain ⟨rfl,rfl⟩:=c;obtain ⟨y,s,z2⟩:=dy (w:=w) (b:=b2) (o:=off) hi f (fK off N) fun k z B=>gO p7 (by simpa using B);exact ⟨y,by simp [asAddr,s],z2⟩
      .cases f
     .cases f
  obtain ⟨x,x1,x2⟩:=key;refine ⟨x::xs, ?_,bJ x2 V⟩;rw [List.mapM_cons];simp only [Sem.run_bind,x1,Result.andThen_ok,U,Sem.run_pure]
theorem Ee {id b:Nat} {o:Obj} (h:Holds T g w id o) (j:At g id o b): ∃x,w.heap[b]? =some x/\ ∀d,x≠ .deferred d:=by
 have blk: ∀{b':Nat} {x:Go.Obj},g.E id=some (.blk b')->g.E id=some (.blk b)->w.heap[b']? =some x->(∀d,x≠ .deferred d)-> ∃x,w.heap[b]? =some x/\ ∀d,x≠ .deferred d:=fun h1 f k h4=>by
  have:=h1.symm.trans f;simp only [N1,jo.blk.injEq] at this;subst this;exact ⟨_,k,h4⟩
 have tok: ∀{n:Nat} {loc:Nat->Option (Nat×Nat)} {b' cap:Nat} {x:Go.Obj},g.E id=some (.tok loc)->loc n=some (b',cap)->(∃loc cap,g.E id=some (.tok loc)/\loc n=some (b,cap))->w.heap[b']? =some x->(∀d,x≠ .deferred d)->
   ∃x,w.heap[b]? =some x/\ ∀d,x≠ .deferred d:=fun h1 f k h4 m=>by
  obtain ⟨loc',cap',y,A⟩:=k;have q:=h1.symm.trans y;simp only [N1,jo.tok.injEq] at q;subst q;have t:=f.symm.trans A;simp only [N1,NU] at t;obtain ⟨rfl,rfl⟩:=t;exact ⟨_,h4,m⟩
 cases o with
 | cells ty cs=>obtain ⟨b',vs,rest,B,h1,f,k⟩:=h;exact blk h1 j f fun _ e=>by cases e
 | tok n e=>obtain ⟨loc,b',cap,i,vs,fz,h1,f,k,h4,m,u,l,v⟩:=h;exact tok h1 f j l fun _ e=>by cases e
 | map es=>obtain ⟨b',ents,clk,h1,f,k⟩:=h;exact blk h1 j f fun _ e=>by cases e
 | sit s pos=>obtain ⟨b',h1,f⟩:=h;exact blk h1 j f fun _ e=>by cases e
 | dead=>exact j.elim
 | grow n e z es=>obtain ⟨loc,b',cap,i,vs,fz,h1,f,k,h4,m,u,l,v⟩:=h;exact tok h1 f j l fun _ e=>by cases e
 | tG=>exact j.elim
 | row n e z cs=>obtain ⟨loc,b',cap,i,pre,rest,h1,f,k,h4,m,u,l,v⟩:=h;exact tok h1 f j l fun _ e=>by cases e
 | loop imm ps a c fr s p=>obtain ⟨b',r,h1,f,k⟩:=h;exact blk h1 j f fun _ e=>by cases e
theorem Inv.take (h:Inv T A g st w) {D:Nat} {x:Option (List Deferred)} (i:w.heap[D]? =some (.deferred x)):Inv T A g st (w.putObj D (.deferred none)):=by
 have a: ∀b,b≠D->(w.putObj D (.deferred none)).heap[b]? =w.heap[b]? :=fun b f=>World.putObj_heap_other f;refine ⟨fun b o v j=> ?_,fun b ents clk k=> ?_,h.E,fun id o ho=> ?_,h.D,h.own,fun b f=>h.up b (by simpa using f),fun c=>⟨fun b o v l j=> ?_,fun id o b ho f=> ?_⟩⟩
 .have h1:=h.F b o v j;obtain ⟨vs,ty,fz,d,_⟩:=cQ h1;rw [ct (a b fun e=>by subst e;rw [i] at d;cases d)];exact h1
 .have h1:=h.M b ents clk k;rw [a b fun e=>by subst e;rw [i] at h1;cases h1];exact h1
 .refine je (h.H id o ho) fun b f=>a b fun e=> ?_;subst e;obtain ⟨y,h1,d⟩:=Ee (h.H id o ho) f;rw [i] at h1;cases h1;exact d _ rfl
 .have h1:=h.F b o v j;obtain ⟨vs,ty,fz,d,_⟩:=cQ h1;rw [fR (a b fun e=>by subst e;rw [i] at d;cases d)];exact (h.C c).1 b o v l j
 .refine ((h.C c).2 id o b ho f).congr (a b fun e=> ?_);subst e;obtain ⟨y,h1,d⟩:=Ee (h.H id o ho) f;rw [i] at h1;cases h1;exact d _ rfl
theorem uM {T:TT} {A':Nat->Prop} {g':Gh} {st1:St} {fn:Func} {tmps:Array Value} {R:Ending->World->Prop} {w:World} {g:Gh}
  (i: ∀w',Inv T A' g' st1 w'->Kp A g w g' w'->LeavesIn Fence.wide 0 P fn tmps R [] .returning w'): ∀(c:List Nat) (w':World),c.Nodup->(∀D∈c,A D/\w'.heap[D]? =some (.deferred (some [])))->Inv T A' g' st1 w'->Kp A g w g' w'->
   LeavesInM Fence.wide 0 P fn tmps R (c.map mark) .returning w'
 | [],w',_,_,hi,d=>i w' hi d
 | D::c,w',f,h,hi,d=>by
  obtain ⟨hA,j⟩:=h D (by simp);rw [Ps] at f;refine ⟨by simp,.inl ⟨D,_,rfl,run_takeDeferred j,uM i c _ f.2 (fun k a=>⟨(h k (by simp [a])).1, ?_⟩) (hi.take j) (d.trans (Kp.write hA World.putObj_size fun b l=>World.putObj_heap_other l))⟩⟩;rw [World.putObj_heap_other (fun e=>by subst e;exact f.1 a)];exact (h k (by simp [a])).2
theorem nu {X:Cx} (z:Good P X) (K:P.follows .mixedOrders=true) {n:Nat} {f:FuncId} {fn:Func} {args:List AV} {v:AV} {st':St} {xs:List Value} (r:P.funcs[f]? =some fn)
  (L: ∀c,fn.body=some c->codeOk c=true) (h:body X n fn args st= .ok (v,st')) (N:RL g args xs) (hG:GR g X.G) (hi:Inv X.T A g st w):
  Calls P f xs.toArray w fun e w'=> ∃x,e= .returned x/\ik X.T A g st' w v x w':=by
 unfold body at h;split at h
 .cases h
 .rename_i c d;split at h
  .cases h
  .rename_i j;have j:=N4 j;simp only [ad] at h;obtain ⟨⟨ex,fr',st1⟩,h1,k⟩:=h;refine (callsIn_wide (n:=0)).1 (callsIn_of_wp_marks r d trivial ?_);refine eA (ro:=none) (sb:=false) z K (fun e=>by cases e) n c (L c d) (fun e=>by cases e) A _ _ _ _ _ g _ w _ h1 ⟨rfl,uf N j,hi,hG,⟨[],rfl,List.nodup_nil,fun _ h=>by cases h⟩⟩ fun A' g' a' w1 i q=> ?_;have fin:(do pure (oneOf (<- fo X.T fr' st1 fn.results.toList),st1):cl (AV×St))= .ok (v,st')->LeavesInM Fence.wide 0 P fn a'.tmps (fun e w'=> ∃x,e= .returned x/\ik X.T A g st' w v x w') a'.defers .returning w1:=fun B=>by
    simp only [ad,aj,NU] at B;obtain ⟨vs,O,rfl,rfl⟩:=B;obtain ⟨Q,I,S,U⟩:=i.marks;rw [I];refine uM (T:=X.T) (A':=A') (g':=g') (st1:=st1) (A:=A) (g:=g) (w:=w) (fun w' a p=> ?_) Q w1 S (fun D J=>⟨?_,(U D J).2⟩) i.inv q.kp
    rotate_left
    .rcases q.defs (mark D) (by rw [I];exact List.mem_map_of_mem J) with hd | ⟨V,e,s⟩
     .cases hd
     .have:D=V:=by
       simp only [mark,Deferred.mk.injEq,Target.collected.injEq,Px] at e;exact e
      rw [this];exact s
    obtain ⟨ys,W,m⟩:=lg z.T i.fr (by rw [i.mode]) a O;have t:(fn.results.mapM (Bg a'.tmps)).run P w'= .ok ys.toArray w':=by
     rw [Array.mapM_eq_mapM_toList];simp only [Sem.run_map,W,Result.andThen_ok]
    have u:Inv X.T A g' st1 w':=⟨a.F,a.M,a.E,a.H,a.D,fun id o b Y Z q3=>q.sub b (a.own id o b Y Z q3),fun b hb=>hi.up b (Oe p.size hb),fun c=>⟨fun b o v ha y=>(Classical.em (A' b)).elim (fun k=>(a.C c).1 b o v k y) (fun k=>by rw [q.out b ha k o] at y;cases y),(a.C c).2⟩⟩;refine ⟨if h:ys.toArray.size=1 then ys.toArray[0] else .tuple ys.toArray, ?_,_,rfl,g', ?_,u,p⟩
    .rw [zD];simp only [Sem.run_bind,t,Result.andThen_ok,Sem.run_pure]
    .cases vs with
     | nil=>
      simp only [RL] at m;subst m;simp only [oneOf,R];exact ⟨_,rfl,dF⟩
     | cons v1 vs=>
      cases vs with
      | nil=>
       simp only [RL] at m;obtain ⟨x,l,rfl,r1,rfl⟩:=m;exact r1
      | cons v2 vs=>
       have hl:=cD m;rw [dif_neg (by simp at hl ⊢;omega)];simp only [oneOf,R];exact ⟨_,rfl,m⟩
   cases ex with
   | normal=>exact fin k
   | ret=>exact fin k
   | exit id=>cases k
end
end Go.VM
namespace Go.VM
open Classical in
noncomputable def Gh.rI (g:Gh) (s:St) (w:World) (base:Nat) (E0:Nat->Option jo):Gh where
 F b o:=if ∃id ty cs,base<=id/\s.get id= .ok (.cells ty cs)/\g.E id=some (.blk b) then w.cell? ⟨b,o,none⟩ else g.F b o
 M b:=if ∃id es,base<=id/\s.get id= .ok (.map es)/\g.E id=some (.blk b) then (match w.heap[b]? with | some (.map ents clk)=>some (ents.toList,clk) | _=>none) else g.M b
 E:=E0
 C:=g.C
section
variable {P:Program} {T:TT} {A:Nat->Prop} {g:Gh} {s:St} {w:World} {base:Nat}
theorem Hn (h:Inv T A g s w) (E0:Nat->Option jo):wW g (g.rI s w base E0):=by
 refine ⟨fun b o v c=> ?_,fun b e a=> ?_⟩
 .simp only [Gh.rI];split
  .exact h.F b o v c
  .exact c
 .simp only [Gh.rI];split
  .rename_i d;obtain ⟨id,es,_,f,i⟩:=d;obtain ⟨b',ents,clk,j,l,m,k⟩:=h.H id _ f;have:b'=b:=by have:=j.symm.trans i;simpa using this
   subst this;rw [k] at a;cases a
  .exact a
theorem we (h:Inv T A g s w):Le g (g.rI s w base g.E):=⟨(Hn h g.E).F,(Hn h g.E).M,fun _ _ x=>x,fun _ loc x=>⟨loc,x,fun _ _ y=>y⟩,Iff.rfl⟩
theorem uW (_h:Inv T A g s w) {id b:Nat} {ty:TypeId} {cs:List AV} (E0:Nat->Option jo) (a:base<=id) (c:s.get id= .ok (.cells ty cs)) (d:g.E id=some (.blk b)) (o:Nat):(g.rI s w base E0).F b o=w.cell? ⟨b,o,none⟩:=by
 simp only [Gh.rI];rw [if_pos ⟨id,ty,cs,a,c,d⟩]
theorem ia (h:Inv T A g s w): ∀(f:Nat) (v v':AV) (x:Value),freeze s base f v= .ok v'->R g v x->R (g.rI s w base g.E) v' x
 | 0,v,v',x,hf,_=>by simp [freeze] at hf
 | f+1,v,v',x,hf,t=>by
  have all: ∀(l L:List AV) (xs:List Value),iZ (freeze s base f) l= .ok L->RL g l xs->RL (g.rI s w base g.E) L xs:=by
   intro l
   induction l with
   | nil=>
    intro L xs h1 D;simp only [iZ,NT] at h1;subst h1;simp only [RL] at D ⊢;exact D
   | cons v l ih=>
    intro L xs h1 D;simp only [iZ,ad,aj] at h1;obtain ⟨u,B,l1,d,rfl⟩:=h1;simp only [RL] at D;obtain ⟨y,ys,rfl,M,N⟩:=D;exact bJ (ia h f v u y B M) (ih l1 ys d N)
  have same:v'=v->R (g.rI s w base g.E) v' x:=fun e=>by subst e;exact jF (we h) _ _ t
  unfold freeze at hf;split at hf
  ·-- a pointer
   rename_i id off;split at hf
   .simp only [NT] at hf;exact same hf.symm
   .rename_i C;rw [cB] at C;simp only [ad] at hf;obtain ⟨o,B,d⟩:=hf;split at d
    .rename_i ty cs;simp only [ad,aj] at d;obtain ⟨c1,F,c2,G,rfl⟩:=d;simp only [R] at t;obtain ⟨b,O,rfl⟩:=t;obtain ⟨b',vs,rest,a6,W,k2,k3,k4,k5,k6⟩:=h.cells B;have X:b'=b:=by have:=W.symm.trans O;simpa using this
     subst X;have M:=all _ _ _ F (fK off k3);obtain ⟨N,r3⟩:=xa M G;simp only [R];refine ⟨r3,b',off,rfl,cF N fun i y hy=>⟨?_,k4 y (List.mem_of_mem_drop (Ob hy))⟩⟩;rw [uW h g.E C B W];exact gO k2 (by simpa using hy)
    .cases d
  .rename_i id;split at hf
   .simp only [NT] at hf;exact same hf.symm
   .rename_i C;rw [cB] at C;simp only [ad] at hf;obtain ⟨o,B,d⟩:=hf;split at d
    .rename_i es;simp only [ad] at d;obtain ⟨b9,F,G⟩:=d;split at G
     .simp only [aj] at G;subst G;simp only [R] at t;obtain ⟨b,O,rfl⟩:=t;obtain ⟨b',ents,clk,V,Y,q3,q4⟩:=h.H id _ B;have X:b'=b:=by have:=V.symm.trans O;simpa using this
      subst X;have I: ∀(l L:List (AV×AV)) (m:List MapEntry),lP (freeze s base f) l= .ok L->mi g l m->mi (g.rI s w base g.E) L m:=by
       intro l
       induction l with
       | nil=>
        intro L xs h1 D;simp only [lP,NT] at h1;subst h1;simp only [mi] at D ⊢;exact D
       | cons p l ih=>
        intro L xs h1 D;obtain ⟨k,v⟩:=p;simp only [lP,ad,aj] at h1;obtain ⟨u,B,l1,d,rfl⟩:=h1;simp only [mi] at D ⊢;obtain ⟨e,ys,rfl,M,N,r3⟩:=D;exact ⟨e,ys,rfl,jF (we h) _ _ M,qZ (ia h f v u _ B N),ih l1 ys d r3⟩
      simp only [R];refine ⟨b',ents.toList,clk, ?_,rfl,I _ _ _ F q3⟩;simp only [Gh.rI];rw [if_pos ⟨id,es,C,B,V⟩,Y]
     .cases G
    .cases d
  .rename_i z e k;split at hf
   .simp only [NT] at hf;exact same hf.symm
   .simp only [NT] at hf;subst hf;exact qZ (v:= .sl z e (.own k)) (jF (we h) _ _ t)
  .simp only [ad,aj] at hf;obtain ⟨c1,F,rfl⟩:=hf;simp only [R] at t ⊢;obtain ⟨ys,rfl,r⟩:=t;exact ⟨ys,rfl,all _ _ _ F r⟩
  .simp only [ad,aj] at hf;obtain ⟨c1,F,rfl⟩:=hf;simp only [R] at t ⊢;obtain ⟨ys,rfl,r⟩:=t;exact ⟨ys,rfl,all _ _ _ F r⟩
  .simp only [ad,aj] at hf;obtain ⟨c1,F,rfl⟩:=hf;simp only [R] at t ⊢;obtain ⟨y,rfl,r⟩:=t;exact ⟨y,rfl,ia h f _ c1 y F r⟩
  .simp only [ad,aj] at hf;obtain ⟨c1,F,c2,G,rfl⟩:=hf;simp only [R] at t ⊢;obtain ⟨y,y',rfl,r,r'⟩:=t;exact ⟨y,y',rfl,all _ _ _ F r,all _ _ _ G r'⟩
  ·-- an array
   rename_i id off z len cap;split at hf
   .simp only [NT] at hf;exact same hf.symm
   .rename_i C;rw [cB] at C;simp only [ad] at hf;obtain ⟨o,B,d⟩:=hf;split at d
    .rename_i ty cs;simp only [ad] at d;obtain ⟨c1,F,G⟩:=d;split at G
     .rename_i P;simp only [ad] at G;obtain ⟨els,e5,J,e6,K⟩:=G;have key: ∃p,v'= .sl z J p/\(len≠0\/cap≠0)/\(p= .shut->cap=len/\cap≠0)/\(p= .shut\/p= .wide):=by
       split at K
       .split at K
        .cases K
        .rename_i hl;simp only [aj] at K;exact ⟨.wide,K.symm,.inl (fun e=>by subst e;simp at hl),(fun e=>by cases e),.inr rfl⟩
       .rename_i hcap;simp only [aj] at K;have h0:cap≠0:=fun e=>by subst e;simp at hcap
        cases Q:cap.beq len with
        | true=>rw [Q] at K;exact ⟨.shut,K.symm,.inr h0,fun _=>⟨NZ Q,h0⟩,.inl rfl⟩
        | false=>rw [Q] at K;exact ⟨.wide,K.symm,.inr h0,(fun e=>by cases e),.inr rfl⟩
      clear K;obtain ⟨p,rfl,a7,S,a8⟩:=key
      .simp only [R] at t;obtain ⟨b,o',O,c,rfl,hc,U,ho,Z⟩:=t;have bb:c≠0:=by
        rcases a7 with q | q
        .omega
        .rcases Z with rfl | e
         .exact q
         .exact absurd e q
       have b4:o'=off:=ho bb;subst b4;obtain ⟨b',vs,rest,a6,W,k2,k3,k4,k5,k6⟩:=h.cells B;have X:b'=b:=by have:=W.symm.trans O;simpa using this
       subst X;have M:=all _ _ _ F (jw (len * z) (fK o' k3));obtain ⟨f1,f2,f3⟩:=nw (fun e=>by
        have:¬ 2<=z:=fun k=>by rw [Oz k] at e;cases e
        omega) P e5
       have N:RL (g.rI s w base g.E) (flat els) (((vs.toList.drop o').take (len * z)).take (len * z)):=by rw [f1];exact jw _ M
       obtain ⟨V,Y,q3,q4⟩:=jU e6 N;simp only [R];have hl:J.length=len:=by rw [q3,f3]
       refine ⟨Y,b',o',c,by rw [hl],by rw [hl];exact hc,U, ?_, ?_⟩
       .rw [da];refine ⟨fun u hu=>by
         have:u.cells.length∈J.map (·.cells.length):=OQ.2 ⟨u,hu,rfl⟩;rw [q4] at this;obtain ⟨u',b5,e⟩:=OQ.1 this;rw [<- e];exact f2 u' b5,cF V fun i y hy=> ?_⟩
        have av:vs[o'+i]? =some y/\y∈vs.toList:=by
         have h1:y∈vs.toList:=List.mem_of_mem_drop (List.mem_of_mem_take (List.mem_of_mem_take (Ob hy)));refine ⟨?_,h1⟩;rw [List.take_take,Nat.min_self,List.getElem?_take] at hy;by_cases hi:i < len * z
         .rw [if_pos hi] at hy;simpa using hy
         .rw [if_neg hi] at hy;cases hy
        refine ⟨?_,k4 y av.2⟩;rw [uW h g.E C B W];exact gO k2 av.1
       .rcases a8 with rfl | rfl
        .obtain ⟨h1,D⟩:=S rfl;simp only [oH];rw [hl];rcases Z with e | e
         .omega
         .exact absurd e D
        .simp only [oH]
     .cases G
    .cases d
  ·-- a slice that an object holds
   rename_i k z n;split at hf
   .simp only [NT] at hf;exact same hf.symm
   .simp only [ad] at hf;obtain ⟨o,B,d⟩:=hf;split at d
    .rename_i m e z' es;split at d
     .rename_i j;simp only [N0] at j;have c1:=NZ j.1.1;have c2:=NZ j.1.2;have c3:=NZ j.2;subst c1 c2 c3;cases d;simp only [R] at t;obtain ⟨loc,b,cap,O,hl,rfl,hcap,U⟩:=t;obtain ⟨b8,b2,a1,i2,vs,fz,V,Y,q3,q4,q5,q6,q7,q8,q9,cc,cd,cn,b6,b7⟩:=h.H k _ B;have B:=V.symm.trans O;simp only [N1,jo.tok.injEq] at B;subst B;have d:=Y.symm.trans hl;simp only [N1,NU] at d;obtain ⟨rfl,rfl⟩:=d;simp only [R];exact ⟨b6,b2,0,a1,rfl,hcap,U,eG (we h) _ _ _ _ b7,trivial⟩
     .cases d
    .cases d
  .simp only [NT] at hf;exact same hf.symm
theorem se {A':Nat->Prop} {gb g':Gh} {st:St} {w':World} {v v':AV} {x:Value} (f:Inv T A g st w) (J:gb.F=g.F) (K:gb.M=g.M) (hC:gb.C↔g.C) (hA: ∀b,A' b↔w.heap.size<=b)
  (hi:Inv T A' g' s w') (j:Kp A' gb w g' w') (L:s.ro<=base) (N:R g' v x) (hf:freeze s base 100 v= .ok v') (a:bare v'=true):ik T A g st w v' x w':=by
 have hold: ∀b,b < w.heap.size->¬ A' b:=fun b a B=>by have:=(hA b).1 B;omega
 have i: ∀b,b < w.heap.size-> ∀o,(g'.rI s w' base g.E).F b o=g.F b o:=fun b a o=>by
  simp only [Gh.rI];rw [if_neg ?_]
  .rw [j.F b (hold b a) o,J]
  .rintro ⟨id,ty,cs,h1,p,r⟩;exact hold b a (hi.own id _ b p r (by omega))
 have l: ∀b,b < w.heap.size->(g'.rI s w' base g.E).M b=g.M b:=fun b a=>by
  simp only [Gh.rI];rw [if_neg ?_]
  .rw [j.M b (hold b a),K]
  .rintro ⟨id,es,h1,p,r⟩;exact hold b a (hi.own id _ b p r (by omega))
 have d: ∀b,b < w.heap.size->w'.heap[b]? =w.heap[b]? :=fun b a=>j.heap b (hold b a);have t:Le g (g'.rI s w' base g.E):=by
  refine ⟨fun b o u m=> ?_,fun b e I=> ?_,fun _ _ x=>x,fun _ loc x=>⟨loc,x,fun _ _ y=>y⟩,j.le.C.trans hC⟩
  .obtain ⟨vs,ty,fz,q,_⟩:=cQ (f.F b o u m);rw [i b (lt_of_heap q) o];exact m
  .have:=f.M b e.1 e.2 I;rw [l b (lt_of_heap this)];exact I
 refine ⟨g'.rI s w' base g.E,jB (g:=g'.rI s w' base g'.E) (g':=g'.rI s w' base g.E) ⟨fun _ _ _ x=>x,fun _ _ x=>x⟩ v' x a (ia hi 100 v v' x hf N),⟨?_, ?_,f.E, ?_,f.D,f.own,fun b a=>f.up b (Oe j.size a),fun c=> ?_⟩,⟨j.size, ?_, ?_, ?_,t,j.rest⟩⟩
 .intro b o u m;simp only [Gh.rI] at m;split at m
  .exact m
  .exact hi.F b o u m
 .intro b ents clk n;simp only [Gh.rI] at n;split at n
  .split at n
   .rename_i e c O;simp only [N1,NU] at n;obtain ⟨rfl,rfl⟩:=n;simpa using O
   .cases n
  .exact hi.M b ents clk n
 .intro id o ho;have:=f.H id o ho;refine gA (je this fun b a=>d b (th this a)) t rfl fun b a=> ?_;have h:=th this a;exact ⟨fun o=>i b h o,l b h⟩
 .have c0:g.C:=hC.1 (j.le.C.1 c);refine ⟨fun b o v B z=> ?_,fun id o b ho a=>((f.C c0).2 id o b ho a).congr (d b (th (f.H id o ho) a))⟩;by_cases h:b < w.heap.size
  .rw [i b h o] at z;rw [fR (d b h)];exact (f.C c0).1 b o v B z
  .have G:A' b:=(hA b).2 (by omega);simp only [Gh.rI] at z;split at z
   .rename_i P;obtain ⟨id,ty,cs,_,p,r⟩:=P;exact ((hi.C c).2 id _ b p r).KY o
   .exact (hi.C c).1 b o v G z
 .intro b a;exact d b (Nat.lt_of_not_le fun k=>a (f.up b k))
 .intro b a o;exact i b (Nat.lt_of_not_le fun k=>a (f.up b k)) o
 .intro b a;exact l b (Nat.lt_of_not_le fun k=>a (f.up b k))
end
end Go.VM
namespace Go.VM
structure xC (C:cp):Prop where
 wide: ∀f args st v s,C.wide f args st= .ok (v,s)->s.ro=st.ro
 round: ∀k args st v s,C.round k args st= .ok (v,s)->s.ro=st.ro
theorem sE {C:cp} (hC:xC C) {st:St} {p:cV} {v:AV} {x:Fx} (h:az C st p= .ok (v,x)):(x.did.app st).ro=st.ro:=by
 cases p with
 | val u=>
  simp only [az,NT,NU] at h;obtain ⟨_,rfl⟩:=h;rfl
 | obj id f=>
  simp only [az,ad,aj] at h;obtain ⟨e,a,⟨v',o'⟩,h4,d,b,c⟩:=h;simp only [NU] at c;obtain ⟨_,rfl⟩:=c;cases o' with
  | none=>simp only [dv,NT] at b;subst b;rfl
  | some o'=>
   simp only [dv] at b;split at b
   .cases b
   .simp only [NT] at b;subst b;rfl
 | both id k f=>
  simp only [az,ad] at h;obtain ⟨e,_,r,_,a⟩:=h;cases r with
  | none=>
   simp only [ad,aj,NU] at a;obtain ⟨_,_,_,rfl⟩:=a;rfl
  | some j=>
   dsimp only at a;split at a
   .simp only [ad,aj,NU] at a;obtain ⟨_,_,_,_,_,rfl⟩:=a;rfl
   .cases a
 | new o f=>
  simp only [az,NT,NU] at h;obtain ⟨_,rfl⟩:=h;rfl
 | call f args=>
  simp only [az] at h;split at h
  .simp only [ad,aj] at h;obtain ⟨_,_,h⟩:=h;simp only [NU] at h;obtain ⟨_,rfl⟩:=h;rfl
  .split at h
   .simp only [ad,aj] at h;obtain ⟨_,_,h⟩:=h;simp only [NU] at h;obtain ⟨_,rfl⟩:=h;rfl
   .simp only [ad,aj] at h;obtain ⟨⟨v',s⟩,h1,h⟩:=h;simp only [NU] at h;obtain ⟨_,rfl⟩:=h;exact hC.wide _ _ _ _ _ h1
 | yield k args=>
  simp only [az,ad,aj] at h;obtain ⟨⟨v',s⟩,h1,h⟩:=h;simp only [NU] at h;obtain ⟨_,rfl⟩:=h;exact hC.round _ _ _ _ _ h1
theorem nK {X:Cx} (hC:xC X.C) {all:List Oper} {draw:Bool}: ∀{l:List Oper} {j:Nat} {seen:List (Nat×Fx)} {fr fr':Fr} {st st':St},cS X all draw j seen l fr st= .ok (fr',st')->st'.ro=st.ro
 | [],_,_,_,_,_,_,h=>by
  simp only [cS,NT,NU] at h;rw [h.2]
 | o::l,j,seen,fr,fr',st,st',h=>by
  simp only [cS,ad] at h;obtain ⟨⟨v,x⟩,h1,a⟩:=h;have b:(x.did.app st).ro=st.ro:=by
   unfold oper at h1;split at h1
   .simp only [ad] at h1;obtain ⟨p,_,h1⟩:=h1;exact sE hC h1
   .simp only [NT,NU] at h1;obtain ⟨_,rfl⟩:=h1;rfl
  split at a
  .exact (nK hC a).trans b
  .split at a
   .exact (nK hC a).trans b
   .cases a
theorem EG: ∀{l:List Nat} {st:St},(st.lay l).ro=st.ro
 | [],_=>rfl
 | _::l,st=>EG (l:=l) (st:=(st.new .tG).2)
theorem ma {X:Cx} (hC:xC X.C) {e:Nat->Option Nat} {all:List Oper}: ∀{l:List Oper} {j:Nat} {seen:List (Nat×Fx)} {fr fr':Fr} {st st':St},cw X e all j seen l fr st= .ok (fr',st')->st'.ro=st.ro
 | [],_,_,_,_,_,_,h=>by
  simp only [cw,NT,NU] at h;rw [h.2]
 | o::l,j,seen,fr,fr',st,st',h=>by
  simp only [cw,ad] at h;obtain ⟨⟨v,x⟩,h1,a⟩:=h;have b:(x.did.app st).ro=st.ro:=by
   unfold dZ at h1;split at h1
   .split at h1
    .obtain ⟨_,_,_,_,_,rfl⟩:=l8 h1;rfl
    .simp only [ad] at h1;obtain ⟨p,_,h1⟩:=h1;exact sE hC h1
   .simp only [NT,NU] at h1;obtain ⟨_,rfl⟩:=h1;rfl
  split at a
  .exact (ma hC a).trans b
  .split at a
   .exact (ma hC a).trans b
   .cases a
theorem Bp {body:Fr->St->cl (Ex×Fr×St)} (c: ∀fr st ex fr' st',body fr st= .ok (ex,fr',st')->st'.ro=st.ro): ∀(n:Nat) {fr fr':Fr} {st st':St} {ex:Ex},iter body n fr st= .ok (ex,fr',st')->st'.ro=st.ro
 | 0,_,_,_,_,_,h=>by simp [iter] at h
 | n+1,fr,fr',st,st',ex,h=>by
  simp only [iter,ad] at h;obtain ⟨⟨b,d,st1⟩,h1,a⟩:=h;have:=c _ _ _ _ _ h1;cases b <;> simp only [aj,NU] at a
  .exact (Bp c n a).trans this
  .rw [<- a.2.2];exact this
  .rw [<- a.2.2];exact this
theorem fM {X:Cx} (hC:xC X.C) (n:Nat): ∀(c:Code) (fr:Fr) (st:St) (ex:Ex) (fr':Fr) (st':St),exec X n c fr st= .ok (ex,fr',st')->st'.ro=st.ro
 | .skip,_,_,_,_,_,h | .label _,_,_,_,_,_,h | .exit _,_,_,_,_,_,h | .ret,_,_,_,_,_,h=>by
  simp only [exec,NT,NU] at h;rw [h.2.2]
 | .region _ _ _,_,_,_,_,_,h=>by
  simp only [exec] at h;split at h
  .simp only [ad,aj,NU] at h;obtain ⟨⟨d,st1⟩,h1,rfl,rfl,rfl⟩:=h;exact nK hC h1
  .simp only [ad,aj,NU] at h;obtain ⟨⟨d,st1⟩,h1,rfl,rfl,rfl⟩:=h;exact (ma hC h1).trans EG
 | .seq x y,_,_,_,_,_,h=>by
  simp only [exec,ad] at h;obtain ⟨⟨f,d,st1⟩,h1,a⟩:=h;have:=fM hC n x _ _ _ _ _ h1;cases f <;> simp only [aj,NU] at a
  .exact (fM hC n y _ _ _ _ _ a).trans this
  .rw [<- a.2.2];exact this
  .rw [<- a.2.2];exact this
 | .cond c x y,_,_,_,_,_,h=>by
  simp only [exec,ad] at h;obtain ⟨i,h1,b,a,g⟩:=h;cases b
  .exact fM hC n y _ _ _ _ _ g
  .exact fM hC n x _ _ _ _ _ g
 | .block id c,_,_,_,_,_,h=>by
  simp only [exec,ad] at h;obtain ⟨⟨f,d,st1⟩,h1,a⟩:=h;have:=fM hC n c _ _ _ _ _ h1;cases f
  .simp only [aj,NU] at a;rw [<- a.2.2];exact this
  .simp only at a;split at a <;> simp only [aj,NU] at a <;> rw [<- a.2.2] <;> exact this
  .simp only [aj,NU] at a;rw [<- a.2.2];exact this
 | .loop c,_,_,_,_,_,h=>by
  simp only [exec] at h;exact Bp (fun fr st ex fr' st' h=>fM hC n c fr st ex fr' st' h) n h
 | .rangeFunc x ps y c,_,_,_,_,_,h=>by
  simp only [exec] at h;split at h
  .cases h
  .simp only [ad] at h;obtain ⟨j,h1,h⟩:=h;split at h
   .simp only [ad] at h;obtain ⟨⟨v,st1⟩,a,o,g,h4⟩:=h;dsimp only at g h4;split at h4
    .split at h4
     .simp only [aj,NU] at h4;rw [<- h4.2.2];have e:=hC.wide _ _ _ _ _ a;exact e
     .cases h4
    .cases h4
   .cases h
 | .scope c,_,_,_,_,_,h=>by
  simp only [exec] at h;exact fM hC n c _ _ _ _ _ h
 | .goto _,_,_,_,_,_,h=>by simp [exec] at h
 | .refuse _,_,_,_,_,_,h=>by simp [exec] at h
theorem vH {X:Cx} (hC:xC X.C) {n:Nat} {fn:Func} {args:List AV} {st st':St} {v:AV} (h:body X n fn args st= .ok (v,st')):st'.ro=st.ro:=by
 unfold body at h;split at h
 .cases h
 .split at h
  .cases h
  .simp only [ad] at h;obtain ⟨⟨ex,fr',st1⟩,h1,a⟩:=h;have:=fM hC n _ _ _ _ _ _ h1;cases ex
   .simp only [ad,aj,NU] at a;obtain ⟨_,_,_,rfl⟩:=a;exact this
   .cases a
   .simp only [ad,aj,NU] at a;obtain ⟨_,_,_,rfl⟩:=a;exact this
theorem Ce {X:Cx} (hC:xC X.C) {n k:Nat} {x c:Code} {fr:Fr} {st st':St} {v:AV} (h:lL X n k x c fr st= .ok (v,st')):st'.ro=st.ro:=by
 simp only [lL,ad] at h;obtain ⟨⟨a,b,st1⟩,h1,h⟩:=h;have d:=fM hC n _ _ _ _ _ _ h1;cases a with
 | normal=>
  simp only [ad] at h;obtain ⟨e,f,⟨ex,g,i⟩,j,h4⟩:=h;obtain ⟨_,_,_,_,_,_,_,rfl⟩:=kJ f;have l:=fM hC n _ _ _ _ _ _ j;cases ex <;> simp only [ad,aj,NU] at h4 <;> obtain ⟨m,h4,_,rfl⟩:=h4 <;> obtain ⟨_,_,_,_,_,_,_,rfl⟩:=kJ h4 <;> exact l.trans d
 | exit id=>cases h
 | ret=>cases h
theorem mU {g:Gh}: ∀{ps:List Nat} {args:List AV} {xs:List Value} {fr:Fr} {tmps:Array Value},ra g fr tmps->RL g args xs->ps.length=args.length->
  ra g (kI ps args fr) ((ps.zip xs).foldl (fun t (p,v)=>t.setIfInBounds p v) tmps)/\(kI ps args fr).strict=fr.strict
 | [],_,_,fr,tmps,h,_,_=>by simp only [kI,List.zip_nil_left,List.foldl_nil];exact ⟨h,trivial⟩
 | p::ps,[],_,_,_,_,_,hl=>by cases hl
 | p::ps,v::vs,xs,fr,tmps,h,a,hl=>by
  simp only [RL] at a;obtain ⟨y,ys,rfl,b,c⟩:=a;have h1:=h.put b (some p);obtain ⟨d,e⟩:=mU h1 c (by simpa using hl);simp only [kI,List.zip_cons_cons,PL];exact ⟨d,e.trans (fg _ _ _)⟩
theorem xb {P:Program} {X:Cx} (hX:Good P X) (hC:xC X.C) (hm:P.follows .mixedOrders=true) {n k:Nat} {imm:TypeId->Bool} {ps:List Tmp} {x c:Code} {fr:Fr} {p:Ex} {args:List AV} {st st':St} {v:AV} (h:lL X n k x c (kI ps args fr) st= .ok (v,st'))
  (O:bQ x=true/\bQ c=true) (hlen:args.length=ps.length) (hk:st.get k= .ok (.loop imm ps x c fr 0 p)) (Q:st.ro<=k) {A:Nat->Prop} {g:Gh} {w:World} {xs:List Value} {l:Nat} (hG:GR g X.G) (f:RL g args xs) (hi:Inv X.T A g st w) (hE:g.E k=some (.blk l)):
  wm P l xs.toArray w (ik X.T A g st' w v):=by
 obtain ⟨b,r,q1,q2,q3,q4,q5,q6,⟨q7,q8,q9⟩,b8⟩:=hi.H k _ hk;have B:b=l:=by have:=q1.symm.trans hE;simpa using this
 subst B;have b9:=cD f;have cc:r.params.size=ps.length:=by rw [<- q4];simp
 refine ⟨r.fn,_,r.assign,r.body,run_yield q2 (by simp;omega),roundIn_of_wpIn trivial ?_⟩;rw [q5,q6];have I:(r.params.zip xs.toArray).foldl (fun tmps (t,a)=>tmps.setIfInBounds t a) r.tmps=(ps.zip xs).foldl (fun t (p,v)=>t.setIfInBounds p v) r.tmps:=by
  rw [<- Array.foldl_toList,Array.toList_zip,q4]
 rw [I];obtain ⟨f1,f2⟩:=mU q3 f hlen.symm;simp only [lL,ad] at h;obtain ⟨⟨a6,cd,st1⟩,h1,h⟩:=h;have e1:=fM hC n _ _ _ _ _ _ h1;cases a6 with
 | exit id=>cases h
 | ret=>cases h
 | normal=>
 simp only [ad] at h;obtain ⟨cn,S,⟨ex,cv,a7⟩,h3,h4⟩:=h;obtain ⟨U,a8,x1,c1,V,p1,J,rfl⟩:=kJ S;have e3:=fM hC n _ _ _ _ _ _ h3;refine eA (ro:=some b) (sb:=true) hX hm (fun _=>rfl) n x q7 (fun _=>O.1) A _ _ _ _ _ g _ w _ h1 ⟨by rw [f2,q9],f1,hi,hG,⟨[],rfl,List.nodup_nil,fun _ h=>by cases h⟩⟩ fun A1 g1 a1 w1 K n1=> ?_;have j:g1.E k=some (.blk b):=n1.kp.le.blk _ _ hE;obtain ⟨b1,rr,s1,s2,s3,s4,s5,s6,s7,s8⟩:=K.inv.H k _ J;have B:b1=b:=by have:=s1.symm.trans j;simpa using this
 subst B;have bb:A1 b1:=K.inv.own k _ b1 J s1 (by rw [e1];exact Q);have m:rr.state= .ready:=by
  rcases s8 with ⟨_,e,_⟩ | ⟨e,_⟩ | ⟨e,_⟩
  .exact e
  .cases e
  .cases e
 have b4:b1 < w1.heap.size:=lt_of_heap s2;obtain ⟨i2,k2⟩:=K.inv.turn J j s2 bb {rr with state:= .busy} (.loop U a8 x1 c1 V 1 .normal) (fun b' d=>by
  have d:g1.E k=some (.blk b'):=d;rw [j] at d;simpa using d.symm) ⟨b1,_,j,World.putObj_heap_same b4,s3,s4,s5,s6,s7,.inr (.inl ⟨rfl,rfl⟩)⟩
 refine ⟨_,run_beginRound s2 m, ?_⟩;refine eA (ro:=some b1) (sb:=true) hX hm (fun _=>rfl) n c q8 (fun _=>O.2) A1 _ _ _ _ _ g1 _ _ _ h3 ⟨K.mode,K.fr,i2,K.G,K.marks.tZ k2⟩ fun A2 g2 a3 w3 r3 n3=> ?_;have N:Nx A g {tmps:=(ps.zip xs).foldl (fun t (p,v)=>t.setIfInBounds p v) r.tmps,defers:=[]} w A2 g2 a3 w3:=n1.trans (Nx.trans ⟨fun _ h=>h,k2,fun _ h=> .inl h,fun _ h k=>absurd h k⟩ n3);have u:g2.E k=some (.blk b1):=N.kp.le.blk _ _ hE;have fin: ∀(s:Nat) (e:Ex) (jump:Option Code),mu k 1 s e a7= .ok st'->(∀q:Loop,DI s e {q with state:=if jump.isNone then .ready else .done,pending:=jump})->v= .bool jump.isNone->
   ∃y w',(Instr.endRound b1 jump).run P w3= .ok y w'/\ ∃x,Ending.returned y= .returned x/\ik X.T A g st' w v x w':=fun s e jump W b5 Y=>by
  obtain ⟨Z,b6,x3,c3,b7,p3,L,rfl⟩:=kJ W;obtain ⟨b3,r4,t1,t2,t3,t4,t5,t6,t7,t8⟩:=r3.inv.H k _ L;have B:b3=b1:=by have:=t1.symm.trans u;simpa using this
  subst B;have hA2:A2 b3:=r3.inv.own k _ b3 L t1 (by rw [e3];show st1.ro<=k;rw [e1];exact Q);obtain ⟨z,k4⟩:=r3.inv.turn L u t2 hA2 {r4 with state:=if jump.isNone then .ready else .done,pending:=jump} (.loop Z b6 x3 c3 b7 s e) (fun b' d=>by
   have d:g2.E k=some (.blk b'):=d;rw [u] at d;simpa using d.symm) ⟨b3,_,u,World.putObj_heap_same (lt_of_heap t2),t3,t4,t5,t6,t7,b5 r4⟩
  refine ⟨_,_,run_endRound jump t2,_,rfl,g2,by rw [Y];simp only [R], ?_,N.kp.trans (k4.sub N.sub)⟩;exact ⟨z.F,z.M,z.E,z.H,z.D,fun id o b q1 q2 q3=>N.sub b (z.own id o b q1 q2 q3),fun b B=>hi.up b (Oe N.kp.size (by simpa using B)),fun c=>⟨fun b o v ha Y=>(Classical.em (A2 b)).elim (fun S=>(z.C c).1 b o v S Y) (fun S=>by rw [N.out b ha S o] at Y;cases Y),(z.C c).2⟩⟩
 cases ex with
 | normal=>
  simp only [ad,aj,NU] at h4;obtain ⟨av,h4,rfl,rfl⟩:=h4;exact fin 0 .normal none h4 (fun _=> .inl ⟨rfl,rfl,rfl,rfl⟩) rfl
 | ret=>
  simp only [ad,aj,NU] at h4;obtain ⟨av,h4,rfl,rfl⟩:=h4;exact fin 2 .ret (some .ret) h4 (fun _=> .inr (.inr ⟨rfl,rfl,.inl ⟨rfl,rfl⟩⟩)) rfl
 | exit i=>
  simp only [ad,aj,NU] at h4;obtain ⟨av,h4,rfl,rfl⟩:=h4;exact fin 2 (.exit i) (some (.exit i)) h4 (fun _=> .inr (.inr ⟨rfl,rfl,.inr ⟨i,rfl,rfl⟩⟩)) rfl
def Ae (P:Program) (T:TT) (G:Nat->Option (List AV)) (f:FuncId) (args:List AV) (v:AV):Prop:=
 ∀A g st w xs,GR g G->bx args=true->RL g args xs->Inv T A g st w->pN P f xs.toArray w (ik T A g st w v)
theorem og {args:List AV} {v:AV}: ∀{l:List (List AV×AV)},nQ args l=some v->(args,v)∈l
 | [],h=>by cases h
 | (a,u)::l,h=>by
  simp only [nQ] at h;split at h
  .rename_i e;cases h;rw [gy (iz 1000) e];exact NV
  .exact N2 _ (og h)
structure uF (P:Program) (E:Env):Prop where
 T:qW P E.T
 F: ∀f fn,E.F f=some fn->P.funcs[f]? =some fn/\(∀args w,(callFunc f args).run P w= .ok (.enter f args) w)/\ ∀c,fn.body=some c->codeOk c=true
 prim:wQ P E.T E.G E.prim
 mixed:P.follows .mixedOrders=true
 memo: ∀f e,e∈E.memo f->Ae P E.T E.G f e.1 e.2
 rule: ∀f r args v,E.rule f=some r->r args=some v->Ae P E.T E.G f args v:=by intro _ _ _ _ h;cases h
 wrule: ∀f r args st v s,E.wrule f=some r->r args st= .ok (v,s)->s.ro=st.ro/\ ∀A g w xs,GR g E.G->RL g args xs->Inv E.T A g st w->
  (callFunc f xs.toArray).run P w= .ok (.enter f xs.toArray) w/\Calls P f xs.toArray w fun e w'=> ∃x,e= .returned x/\ik E.T A g s w v x w':=by intro _ _ _ _ _ _ h;cases h
theorem Ez {P:Program} {E:Env} (a:uF P E) {f:FuncId} {args:List AV} {v:AV} (h:E.known f args=some v):Ae P E.T E.G f args v:=by
 unfold Env.known at h;split at h
 .rename_i r b;exact a.rule f r args v b h
 .exact a.memo f _ (og h)
theorem St.eE {i:Nat} {o:Obj}:St.empty.get i≠ .ok o:=by
 intro h;have:=(St.cA.1 h).1;simp [St.empty] at this
theorem pA {P:Program} {E:Env} (d:uF P E): ∀n,tb P E.T E.G (caller E n)/\xC (caller E n)
 | 0=>⟨⟨fun _ _ _ h=>by simp [caller] at h,fun _ _ _ _ _ h=>by simp [caller] at h,fun _ _ _ _ h=>by simp [caller] at h,fun _ _ _ _ _ h=>by simp [caller] at h⟩,⟨fun _ _ _ _ _ h=>by simp [caller] at h,fun _ _ _ _ _ h=>by simp [caller] at h⟩⟩
 | n+1=>by
  obtain ⟨ih,m⟩:=pA d n;have N: ∀f,Good P ⟨E.T,E.prim,E.imm f,E.G,caller E n⟩:=fun f=>⟨d.T,ih,d.prim⟩;refine ⟨⟨?_, ?_, ?_, ?_⟩,⟨?_, ?_⟩⟩
  .intro f args v h A g st w xs hG z t hi;simp only [caller] at h;split at h
   .rename_i u hu;cases h;exact Ez d hu A g st w xs hG z t hi
   split at h
   .cases h
   .rename_i fn q;obtain ⟨B,I,J⟩:=d.F f fn q;simp only [ad] at h;obtain ⟨⟨v0,s⟩,h1,v1,a,y⟩:=h;split at y
    .rename_i j;simp only [aj] at y;subst y;have K:wW g ⟨g.F,g.M,fun _=>none,g.C⟩:=⟨fun _ _ _ x=>x,fun _ _ x=>x⟩;have hinv:Inv E.T (fun b=>w.heap.size<=b) ⟨g.F,g.M,fun _=>none,g.C⟩ St.empty w:=
      ⟨hi.F,hi.M,fun _ _=>rfl,fun _ _ ho=>(St.eE ho).elim,fun _ _ _ _ _ ho=>(St.eE ho).elim,fun _ _ _ ho=>(St.eE ho).elim,fun _ z=>z,fun _=>⟨fun b o v O Q=>absurd Q (by rw [hi.fy O o];exact fun e=>by cases e),fun _ _ _ ho=>(St.eE ho).elim⟩⟩
     refine .inr ⟨I _ _,(nu (N f) d.mixed B J h1 (mI K _ _ z t) (fun k cs L=>⟨(hG k cs L).1,oK K _ _ _ (hG k cs L).1 (hG k cs L).2.1,(hG k cs L).2.2⟩) hinv).mono ?_⟩;rintro e w' ⟨x,rfl,g',R,S,U⟩;refine ⟨x,rfl,se (gb:=⟨g.F,g.M,fun _=>none,g.C⟩) hi rfl rfl Iff.rfl (fun _=>Iff.rfl) S U (base:=0) ?_ R a j⟩;rw [vH m h1];exact NX _
    .cases y
  .intro f args st v st' h A g w xs hG t hi;simp only [caller] at h;split at h
   .split at h
    .rename_i r V;exact (d.wrule f r args st v st' V h).2 A g w xs hG t hi
    .cases h
   .rename_i fn q;obtain ⟨B,I,J⟩:=d.F f fn q;simp only [ad,aj] at h;obtain ⟨⟨v0,s⟩,h1,a⟩:=h;simp only [NU] at a;obtain ⟨rfl,rfl⟩:=a;exact ⟨I _ _,nu (N f) d.mixed B J h1 t hG hi⟩
  .intro f args st v h A g w xs hG t hi;simp only [caller] at h;split at h
   .cases h
   .rename_i fn q;obtain ⟨B,I,J⟩:=d.F f fn q;simp only [ad] at h;obtain ⟨⟨v0,s⟩,h1,v1,a,y⟩:=h;split at y
    .rename_i j;simp only [aj] at y;subst y;have Y: ∀i,(⟨st.h,st.h,st.objs⟩:St).get i=st.get i:=fun _=>rfl;have hinv:Inv E.T (fun b=>w.heap.size<=b) g ⟨st.h,st.h,st.objs⟩ w:=
      ⟨hi.F,hi.M,hi.E,hi.H,hi.D,fun id o b ho _ W=>by
       have:=(St.cA.1 ho).1;have Z:st.h<=id:=W;have:id < st.h:=this;omega,fun _ z=>z,fun c=>⟨fun b o v O Q=>absurd Q (by rw [hi.fy O o];exact fun e=>by cases e),(hi.C c).2⟩⟩
     refine .inr ⟨I _ _,(nu (N f) d.mixed B J h1 t hG hinv).mono ?_⟩;rintro e w' ⟨x,rfl,g',R,S,U⟩;refine ⟨x,rfl,se hi rfl rfl Iff.rfl (fun _=>Iff.rfl) S U (base:=st.h) ?_ R a j⟩;rw [vH m h1];exact NX _
    .cases y
  .intro k args st v st' h A g w xs l hG t hi hl;simp only [caller,ad] at h;obtain ⟨o,h1,a⟩:=h;split at a
   .rename_i imm ps x c fr s p;split at a
    .rename_i hc;simp only [N0] at hc;obtain ⟨⟨c1,c2⟩,c3,c4,c5⟩:=hc;have c1:=NZ c1;subst c1;exact xb (X:=⟨E.T,E.prim,imm,E.G,caller E n⟩) ⟨d.T,ih,d.prim⟩ m d.mixed a ⟨c4,c5⟩ (NZ c3) h1 (N4 c2) hG t hi hl
    .cases a
   .cases a
  .intro f args st v s h;simp only [caller] at h;split at h
   .split at h
    .rename_i r V;exact (d.wrule f r args st v s V h).1
    .cases h
   .simp only [ad,aj] at h;obtain ⟨⟨v0,s0⟩,h1,a⟩:=h;simp only [NU] at a;obtain ⟨rfl,rfl⟩:=a;exact vH m h1
  .intro k args st v s h;simp only [caller,ad] at h;obtain ⟨o,h1,a⟩:=h;split at a
   .split at a
    .exact Ce (X:=⟨E.T,E.prim,_,E.G,caller E n⟩) m a
    .cases a
   .cases a
namespace Tr
variable {α:Type}
def of:Nat->(Nat->Option α)->Tr α
 | 0,_=> .leaf
 | d+1,f=> .node (f 0) (of d fun k=>f (2 * k+1)) (of d fun k=>f (2 * k+2))
theorem xQ {v:Option α} {l r:Tr α} (n:Nat):(Tr.node v l r).get n=if n=0 then v else if n % 2=1 then l.get (n / 2) else r.get (n / 2 - 1):=by
 rw [get];cases h0:n.beq 0 with
 | true=>rw [if_pos (NZ h0)]
 | false=>
  have:n≠0:=fun e=>by subst e;cases h0
  rw [if_neg this];cases h1:(n % 2).beq 1 with
  | true=>rw [if_pos (NZ h1)]
  | false=>rw [if_neg (fun e=>by rw [e] at h1;cases h1)]
theorem vS: ∀(d:Nat) (f:Nat->Option α) (n:Nat) (x:α),(of d f).get n=some x->f n=some x
 | 0,_,n,x,h=>by rw [of,lG] at h;cases h
 | d+1,f,n,x,h=>by
  rw [of,xQ] at h;split at h
  .rename_i e;subst e;exact h
  .split at h
   .have:=vS d _ _ _ h
    rwa [show 2 * (n / 2)+1=n by omega] at this
   .have:=vS d _ _ _ h
    rwa [show 2 * (n / 2 - 1)+2=n by omega] at this
def qb (p:Nat->α->Prop):Tr α->Prop
 | .leaf=>True
 | .node v l r=>(∀x,v=some x->p 0 x)/\qb (fun k=>p (2 * k+1)) l/\qb (fun k=>p (2 * k+2)) r
theorem mj: ∀(t:Tr α) (p:Nat->α->Prop),qb p t-> ∀n x,t.get n=some x->p n x
 | .leaf,p,_,n,x,h=>by rw [lG] at h;cases h
 | .node v l r,p,a,n,x,h=>by
  rw [xQ] at h;obtain ⟨h1,b,c⟩:=a;split at h
  .rename_i e;subst e;exact h1 x h
  .split at h
   .have:=mj l _ b _ _ h
    rwa [show 2 * (n / 2)+1=n by omega] at this
   .have:=mj r _ c _ _ h
    rwa [show 2 * (n / 2 - 1)+2=n by omega] at this
end Tr
def Mz:TypeDesc->U
 | .bool=> .bool | .int k=> .int k | .string=> .str | .float k=> .flt k
 | .pointer e=> .ptr e | .slice e=> .slice e | .array n e=> .arr n e | .map k e=> .map k e
 | .struct fs=> .struct (fs.toList.map fun f=>(f.offset,f.type))
 | .func .. => .func | .interface ms=> .iface ms.isEmpty | .unsafePointer=> .uptr
 | _=> .other
theorem JE: ∀d,rZ d (Mz d):=by
 intro d;cases d <;> simp [Mz,rZ]
def isAgg:TypeDesc->Bool
 | .struct _ | .array .. =>true
 | _=>false
def KL (l:List Value):Bool:=l.all fun v=>v.oneCell'
def zeroOf (z:Value) (agg:Bool):Option (List AV):=
 match agg with
 | true=>match z with
  | .agg cs=>match KL cs.toList with
   | true=>match ofConst.ofAll cs.toList with
    | .ok l=>some l
    | .error _=>none
   | false=>none
  | _=>none
 | false=>match z.oneCell' with
  | true=>match ofConst z with
   | .ok v=>some [v]
   | .error _=>none
  | false=>none
theorem BM {z:Value} {agg:Bool} {l:List AV} (h:zeroOf z agg=some l):
  (agg=false->z.oneCell'=true)/\(∀v∈z.cells,v.oneCell'=true)/\(agg=true-> ∃cs,z= .agg cs)/\ ∀g,RL g l z.cells.toList:=by
 unfold zeroOf at h;split at h
 .split at h
  .rename_i cs;split at h
   .rename_i h1;split at h
    .rename_i f a;simp only [N1] at h;subst h;refine ⟨(fun e=>by cases e),fun v d=> ?_,fun _=>⟨cs,rfl⟩,fun g=>jg g _ _ a⟩;have:v∈cs:=d;exact Ox.1 h1 v (by simpa using this)
    .cases h
   .cases h
  .cases h
 .split at h
  .rename_i h1;split at h
   .rename_i v a;simp only [N1] at h;subst h;have c:z.cells= #[z]:=by cases z <;> first | rfl | simp [Value.oneCell'] at h1
    refine ⟨fun _=>h1,fun u b=> ?_,(fun e=>by simp at e),fun g=> ?_⟩
    .rw [c] at b;simp only [List.mem_toArray,Oc,List.not_mem_nil,or_false] at b;rw [b];exact h1
    .rw [c];exact bJ (jy g z v a) dF
   .cases h
  .cases h
def Ht (P:Program) (t:TypeId):TypeDesc->Bool
 | .struct fs=> !P.eqGuardType P.depth t&& !P.stoodInHeld t&&fs.toList.all (fun f=>f.name != "_")
 | _=>false
def Gy (P:Program) (t:TypeId):Option TI:=
 match P.underlying t with
 | none=>none
 | some d=>match P.info? t with
  | none=>none
  | some f=>match f.zero with
   | none=>none
   | some z=>match zeroOf z (isAgg d) with
    | none=>none
    | some l=>match z.cells.size.beq f.size with
     | false=>none
     | true=>some ⟨Mz d,f.size,f.bytes,l,isAgg d,Ht P t d⟩
theorem Gf {P:Program} {t:TypeId} {i:TI} (h:Gy P t=some i):gf P t i:=by
 unfold Gy at h;split at h
 .cases h
 rename_i d hd;split at h
 .cases h
 rename_i f hf;split at h
 .cases h
 rename_i z c;split at h
 .cases h
 rename_i l hl;split at h
 .cases h
 rename_i hs;simp only [N1] at h;subst h;obtain ⟨g,z2,j,z4⟩:=BM hl;refine ⟨⟨d,hd,JE d, ?_⟩,fun a=> ?_,⟨f,hf,rfl,rfl,z,c,NZ hs,g,z2,j,z4⟩⟩
 .cases d <;> rfl
 .dsimp only at a;unfold Ht at a;split at a
  .rename_i fs;simp only [N0,Bool.not_eq_true',Ox,bne_iff_ne,ne_eq] at a;refine ⟨a.1.1,a.1.2,fun fields k fl b=> ?_⟩;have e:=hd.symm.trans k;simp only [N1,TypeDesc.struct.injEq] at e;subst e;exact a.2 fl b
  .cases a
theorem Kj {P:Program} {T:TT} {d:Nat} (h:T=Tr.of d (Gy P)):qW P T:=fun _ _ a=>Gf (Tr.vS d _ _ _ (h ▸ a))
def Lx (P:Program) (f:FuncId) (fn:Func):Prop:=P.funcs[f]? =some fn/\(∀args w,(callFunc f args).run P w= .ok (.enter f args) w)/\ ∀c,fn.body=some c->codeOk c=true
theorem Tr.dD {α:Type} {p:Nat->α->Prop}:Tr.qb p .leaf:=trivial
theorem Tr.dO {α:Type} {p:Nat->α->Prop} {v:Option α} {l r:Tr α} (h1: ∀x,v=some x->p 0 x) (a:Tr.qb (fun k=>p (2 * k+1)) l) (b:Tr.qb (fun k=>p (2 * k+2)) r):Tr.qb p (.node v l r):=⟨h1,a,b⟩
end Go.VM
namespace Go.VM
structure Gk (C C':cp):Prop where
 full:C'.full=C.full
 isLook:C'.isLook=C.isLook
 bare: ∀f args v,C.bare f args= .ok v->C'.bare f args= .ok v
 wide: ∀f args st r,C.wide f args st= .ok r->C'.wide f args st= .ok r
 look: ∀f args st v,C.look f args st= .ok v->C'.look f args st= .ok v
 round: ∀k args st r,C.round k args st= .ok r->C'.round k args st= .ok r
theorem oj {C C':cp} (h:Gk C C') {st:St} {p:cV} {r:AV×Fx} (a:az C st p= .ok r):az C' st p= .ok r:=by
 cases p with
 | val v=>exact a
 | obj id f=>exact a
 | both id k f=>exact a
 | new o f=>exact a
 | yield k args=>
  simp only [az,ad,aj] at a ⊢;obtain ⟨v,h1,rfl⟩:=a;exact ⟨v,h.round _ _ _ _ h1,rfl⟩
 | call f args=>
  simp only [az] at a ⊢;rw [h.full,h.isLook];cases e:(bx (args.map strip)&& !C.full f) with
  | true=>
   rw [e] at a;simp only [ad,aj] at a;obtain ⟨v,h1,rfl⟩:=a;simp only [h.bare _ _ _ h1];rfl
  | false=>
   rw [e] at a;dsimp only at a ⊢;cases b:C.isLook f with
   | true=>
    rw [b] at a;simp only [ad,aj] at a;obtain ⟨v,h1,rfl⟩:=a;simp only [h.look _ _ _ _ h1];rfl
   | false=>
    rw [b] at a;simp only [ad,aj] at a;obtain ⟨v,h1,rfl⟩:=a;simp only [h.wide _ _ _ _ h1];rfl
def Cx.with (X:Cx) (C:cp):Cx:=⟨X.T,X.prim,X.imm,X.G,C⟩
theorem BH {X:Cx} {C:cp} (h:Gk X.C C) {all:List Oper} {fr:Fr} {st:St} {o:Oper} {r:AV×Fx} (a:oper X all fr st o= .ok r):oper (X.with C) all fr st o= .ok r:=by
 unfold oper at a ⊢;split at a
 .obtain ⟨p,h1,b⟩:=ad.1 a;exact ad.2 ⟨p,h1,oj h b⟩
 .exact a
theorem kV {X:Cx} {C:cp} (h:Gk X.C C) {all:List Oper} {draw:Bool}: ∀{l:List Oper} {j:Nat} {seen:List (Nat×Fx)} {fr:Fr} {st:St} {r:Fr×St},cS X all draw j seen l fr st= .ok r->cS (X.with C) all draw j seen l fr st= .ok r
 | [],_,_,_,_,_,b=>b
 | o::l,j,seen,fr,st,r,b=>by
  simp only [cS,ad] at b ⊢;obtain ⟨⟨v,x⟩,h1,a⟩:=b;refine ⟨(v,x),BH h h1, ?_⟩;dsimp only at a ⊢;split at a
  .exact kV h a
  .split at a
   .exact kV h a
   .cases a
theorem Ay {X:Cx} {C:cp} (h:Gk X.C C) {e:Nat->Option Nat} {all:List Oper} {fr:Fr} {st:St} {o:Oper} {r:AV×Fx} (a:dZ X e all fr st o= .ok r):dZ (X.with C) e all fr st o= .ok r:=by
 unfold dZ at a ⊢;split at a
 .split at a
  .exact a
  .obtain ⟨p,h1,b⟩:=ad.1 a;exact ad.2 ⟨p,h1,oj h b⟩
 .exact a
theorem jH {X:Cx} {C:cp} (h:Gk X.C C) {e:Nat->Option Nat} {all:List Oper}: ∀{l:List Oper} {j:Nat} {seen:List (Nat×Fx)} {fr:Fr} {st:St} {r:Fr×St},cw X e all j seen l fr st= .ok r->cw (X.with C) e all j seen l fr st= .ok r
 | [],_,_,_,_,_,b=>b
 | o::l,j,seen,fr,st,r,b=>by
  simp only [cw,ad] at b ⊢;obtain ⟨⟨v,x⟩,h1,a⟩:=b;refine ⟨(v,x),Ay h h1, ?_⟩;dsimp only at a ⊢;split at a
  .exact jH h a
  .split at a
   .exact jH h a
   .cases a
theorem pg {b b':Fr->St->cl (Ex×Fr×St)} (c: ∀fr st r,b fr st= .ok r->b' fr st= .ok r): ∀{n n':Nat} {fr:Fr} {st:St} {r:Ex×Fr×St},n<=n'->iter b n fr st= .ok r->iter b' n' fr st= .ok r
 | 0,_,_,_,_,_,h=>by simp [iter] at h
 | n+1,0,_,_,_,d,_=>by omega
 | n+1,n'+1,fr,st,r,d,h=>by
  simp only [iter,ad] at h ⊢;obtain ⟨⟨ex,e,st1⟩,h1,a⟩:=h;refine ⟨_,c _ _ _ h1, ?_⟩;cases ex
  .exact pg c (by omega) a
  .exact a
  .exact a
theorem eU {X:Cx} {C:cp} (h:Gk X.C C) {n n':Nat} (f:n<=n'): ∀(c:Code) (fr:Fr) (st:St) (r:Ex×Fr×St),exec X n c fr st= .ok r->exec (X.with C) n' c fr st= .ok r
 | .skip,_,_,_,d | .label _,_,_,_,d | .exit _,_,_,_,d | .ret,_,_,_,d=>d
 | .goto _,_,_,_,d | .refuse _,_,_,_,d=>by simp [exec] at d
 | .rangeFunc x ps y c,fr,st,r,d=>by
  simp only [exec] at d ⊢;cases hs:fr.strict with
  | true=>rw [hs] at d;cases d
  | false=>
   rw [hs] at d;dsimp only at d ⊢;obtain ⟨i,h1,e⟩:=ad.1 d;refine ad.2 ⟨i,h1, ?_⟩;split at e
   .obtain ⟨q,g,h4⟩:=ad.1 e;exact ad.2 ⟨q,h.wide _ _ _ _ g,h4⟩
   .cases e
 | .scope c,fr,st,r,d=>eU h f c fr st r d
 | .region _ _ _,fr,st,r,d=>by
  simp only [exec] at d ⊢;split at d
  .rename_i hd;have hd:(_&&(X.with C).imm 4000000)=false:=hd;rw [hd];simp only [ad] at d ⊢;obtain ⟨a,h1,e⟩:=d;exact ⟨a,kV h h1,e⟩
  .rename_i hd;have hd:(_&&(X.with C).imm 4000000)=true:=hd;rw [hd];simp only [ad] at d ⊢;obtain ⟨a,h1,e⟩:=d;exact ⟨a,jH h h1,e⟩
 | .seq a b,fr,st,r,d=>by
  simp only [exec,ad] at d ⊢;obtain ⟨⟨ex,j,st1⟩,h1,e⟩:=d;refine ⟨_,eU h f a _ _ _ h1, ?_⟩;cases ex
  .exact eU h f b _ _ _ e
  .exact e
  .exact e
 | .cond c a b,fr,st,r,d=>by
  simp only [exec,ad] at d ⊢;obtain ⟨k,h1,v,e,g⟩:=d;refine ⟨k,h1,v,e, ?_⟩;cases v
  .exact eU h f b _ _ _ g
  .exact eU h f a _ _ _ g
 | .block id c,fr,st,r,d=>by
  simp only [exec,ad] at d ⊢;obtain ⟨a,h1,e⟩:=d;exact ⟨a,eU h f c _ _ _ h1,e⟩
 | .loop c,fr,st,r,d=>by
  simp only [exec] at d ⊢;exact pg (fun fr st r l=>eU h f c fr st r l) f d
theorem CA {X:Cx} {C:cp} (h:Gk X.C C) {n n':Nat} (c:n<=n') {fn:Func} {args:List AV} {st:St} {r:AV×St} (b:body X n fn args st= .ok r):body (X.with C) n' fn args st= .ok r:=by
 unfold body at b ⊢;split at b
 .cases b
 .split at b
  .cases b
  .obtain ⟨a,h1,d⟩:=ad.1 b;exact ad.2 ⟨a,eU h c _ _ _ _ h1,d⟩
theorem xE {X:Cx} {C:cp} (h:Gk X.C C) {n n':Nat} (d:n<=n') {k:Nat} {x c:Code} {fr:Fr} {st:St} {r:AV×St} (e:lL X n k x c fr st= .ok r):lL (X.with C) n' k x c fr st= .ok r:=by
 simp only [lL,ad] at e ⊢;obtain ⟨⟨ex,f,st1⟩,h1,a⟩:=e;refine ⟨_,eU h d _ _ _ _ h1, ?_⟩;cases ex
 .simp only [ad] at a ⊢;obtain ⟨b,g,q,h4,i⟩:=a;exact ⟨b,g,q,eU h d _ _ _ _ h4,i⟩
 .exact a
 .exact a
theorem dY (E:Env): ∀{n n':Nat},n<=n'->Gk (caller E n) (caller E n')
 | 0,0,_=>⟨rfl,rfl,fun _ _ _ h=>h,fun _ _ _ _ h=>h,fun _ _ _ _ h=>h,fun _ _ _ _ h=>h⟩
 | 0,_+1,_=>⟨rfl,rfl,fun _ _ _ h=>(by simp [caller] at h),fun _ _ _ _ h=>(by simp [caller] at h),fun _ _ _ _ h=>(by simp [caller] at h),fun _ _ _ _ h=>(by simp [caller] at h)⟩
 | n+1,0,h=>by omega
 | n+1,n'+1,e=>by
  have ih:=dY E (show n<=n' by omega);have d: ∀f fn args st r,body ⟨E.T,E.prim,E.imm f,E.G,caller E n⟩ n fn args st= .ok r->body ⟨E.T,E.prim,E.imm f,E.G,caller E n'⟩ n' fn args st= .ok r:=fun f fn args st r h=>
   CA (X:=⟨E.T,E.prim,E.imm f,E.G,caller E n⟩) ih (by omega) h
  refine ⟨rfl,rfl,fun f args v h=> ?_,fun f args st r h=> ?_,fun f args st v h=> ?_,fun k args st r h=> ?_⟩
  .simp only [caller] at h ⊢;split at h
   .exact h
   .split at h
    .cases h
    .obtain ⟨a,h1,b⟩:=ad.1 h;exact ad.2 ⟨a,d _ _ _ _ _ h1,b⟩
  .simp only [caller] at h ⊢;split at h
   .exact h
   .obtain ⟨a,h1,b⟩:=ad.1 h;exact ad.2 ⟨a,d _ _ _ _ _ h1,b⟩
  .simp only [caller] at h ⊢;split at h
   .cases h
   .obtain ⟨a,h1,b⟩:=ad.1 h;exact ad.2 ⟨a,d _ _ _ _ _ h1,b⟩
  .simp only [caller,ad] at h ⊢;obtain ⟨o,h1,b⟩:=h;refine ⟨o,h1, ?_⟩;cases o with
   | loop imm ps x c fr s p=>
    dsimp only at b ⊢;split at b
    .exact xE (X:=⟨E.T,E.prim,imm,E.G,caller E n⟩) ih (by omega) b
    .cases b
   | _=>cases b
theorem ay {α β:Type} (a:α) (f:α->cl β):((Except.ok a:cl α) >>= f)=f a:=rfl
theorem aE {α:Type} (a:α):(pure a:cl α)= .ok a:=rfl
theorem Fr.DS (fr:Fr) (d:Option Nat) (v:AV):(fr.put d v).n=fr.n:=by
 cases d with
 | none=>rfl
 | some d=>simp only [Fr.put];split <;> rfl
def Fc {α:Type}:cl α->Option α
 | .ok a=>some a
 | .error _=>none
structure qL where
 full:FuncId->Bool
 isLook:FuncId->Bool
 bare:FuncId->List AV->Option AV
 wide:FuncId->List AV->St->Option (AV×St)
 look:FuncId->List AV->St->Option AV
 round:Nat->List AV->St->Option (AV×St)
structure Sx where
 T:TT
 prim:FuncId->Option Prim
 imm:TypeId->Bool
 G:Nat->Option (List AV)
 O:qL
section
variable {β:Type}
def aN {α:Type} (a:α) (K:α->Option β):Option β:=K a
abbrev ba (a:St) (K:St->Option β):Option β:=K a
def bg (k:IntKind) (v:AV) (K:Int->Option β):Option β:=
 match v with
 | .int j n=>match decide (j=k) with
  | true=>K n
  | false=>none
 | _=>none
def bG (v:AV) (K:Bool->Option β):Option β:=
 match v with
 | .bool b=>K b
 | _=>none
def dV (v:AV) (K:List UInt8->Option β):Option β:=
 match v with
 | .str s=>K s
 | _=>none
def anyI (v:AV) (K:Int->Option β):Option β:=
 match v with
 | .int _ n=>K n
 | _=>none
def yF (v:AV) (K:List AV->Option β):Option β:=
 match v with
 | .agg cs=>K cs
 | _=>none
def fU (v:AV) (K:List AV->Option β):Option β:=
 match v with
 | .tup cs=>K cs
 | _=>none
def br (l:List AV) (K:AV->List AV->Option β):Option β:=
 match l with
 | v::l=>K v l
 | []=>none
def bE (l:List AV) (K:Option β):Option β:=
 match l with
 | []=>K
 | _:: _=>none
def cu (b:Bool) (K:Option β):Option β:=
 match b with
 | true=>K
 | false=>none
def aW (b:Bool) (x y:Option β):Option β:=
 match b with
 | true=>x
 | false=>y
def ab (v:AV) (K:Option β):Option β:=cu (one v) K
def sO:List AV->Option β->Option β
 | [],K=>K
 | v::l,K=>ab v (sO l K)
def cC (cs:List AV) (off:Nat) (K:AV->Option β):Option β:=
 match cs[off]? with
 | some v=>K v
 | none=>none
def Fv (b:Bool) (z v:AV) (K:AV->Option β):Option β:=
 match z with
 | .int k _=>bg k v fun n=>match b with
  | true=>aN n fun n=>K (.int k n)
  | false=>K (.int k n)
 | .bool _=>bG v fun b=>K (.bool b)
 | .str _=>dV v fun s=>match b with
  | true=>aN s fun s=>K (.str s)
  | false=>K (.str s)
 | _=>K v
def Fo:List AV->List AV->(List AV->Option β)->Option β
 | [],cs,K=>bE cs (K [])
 | z::zs,cs,K=>br cs fun v l=>Fv false z v fun v'=>Fo zs l fun a=>K (v'::a)
def yd (b:Bool) (T:TT) (t:TypeId) (v:AV) (K:AV->Option β):Option β:=
 match T.get t with
 | some i=>match i.agg with
  | true=>match i.zero.length.ble 24 with
   | true=>yF v fun cs=>Fo i.zero cs fun cs'=>K (.agg cs')
   | false=>K v
  | false=>match i.zero with
   | [z]=>Fv b z v K
   | _=>K v
 | none=>K v
def vL:Op->Bool
 | .binOp op _ _ _ _=>match op with
  | .eql=>false
  | .neq=>false
  | .lss=>false
  | .leq=>false
  | .gtr=>false
  | .geq=>false
  | _=>true
 | .unOp .. =>true
 | .convert .. =>true
 | .slice .. =>true
 | .call c=>match c.callee with
  | .builtin .min=>true
  | .builtin .max=>true
  | _=>false
 | _=>false
def nT (T:TT) (t:TypeId) (K:TI->Option β):Option β:=
 match T.get t with
 | some i=>K i
 | none=>none
def wN (agg:Bool) (v:AV) (K:List AV->Option β):Option β:=
 match agg with
 | true=>yF v K
 | false=>ab v (K [v])
def aJ (v:AV) (K:AV->Option β):Option β:=
 match fit v with
 | .ok v'=>K v'
 | .error _=>none
def DG:List AV->(List AV->Option β)->Option β
 | [],K=>K []
 | v::l,K=>aJ v fun v'=>DG l fun a=>K (v'::a)
def Cr (agg:Bool) (v:AV) (K:AV->Option β):Option β:=
 match agg with
 | true=>yF v fun cs=>sO cs (DG cs fun cs'=>K (.agg cs'))
 | false=>aJ v K
def lE (agg:Bool):List AV->(List AV->Option β)->Option β
 | [],K=>K []
 | v::l,K=>Cr agg v fun v'=>lE agg l fun a=>K (v'::a)
def nS (z:Nat) (l:List AV):Bool:=l.all fun v=>v.cells.length.beq z
def JL (cs:List AV) (off:Nat) (new:List AV):List AV:=cJ cs off new
def St.add (st:St) (o:Obj):St:=(st.new o).2
def q0:Fx:=⟨[],.kept⟩
abbrev Kv (β:Type):=AV->St->Fx->Option β
def aB {α:Type} (x:Option α) (K:α->Option β):Option β:=
 match x with
 | some a=>K a
 | none=>none
def iP {α:Type} (r:Sum α β) (f:α->Option β):Option β:=
 match r with
 | .inl a=>f a
 | .inr r=>some r
def zl (size:Nat) (agg:Bool) (a:AV) (st:St):Option (AV×List Nat):=
 match a with
 | .ip cells=>match bX size agg cells with
  | .ok v=>some (v,[])
  | .error _=>none
 | .mp id off=>match st.get id with
  | .ok (.cells _ cs)=>match bX size agg (cs.drop off) with
   | .ok v=>some (v,[id])
   | .error _=>none
  | _=>none
 | .gp k n off=>match st.get k with
  | .ok (.row m _ _ cs)=>match n.beq m with
   | true=>match bX size agg (cs.drop off) with
    | .ok v=>some (v,[k])
    | .error _=>none
   | false=>none
  | _=>none
 | _=>none
def ax (size:Nat) (agg:Bool) (a:AV) (st:St) (K:AV->List Nat->Option β):Option β:=aB (zl size agg a st) fun p=>K p.1 p.2
abbrev Out:=AV×St×Fx
def kW (st:St) (id:Nat) (o:Obj) (v:AV) (rd:List Nat):Option Out:=
 match st.ro.ble id with
 | true=>some (v,st.put id o,⟨rd,.wrote id o⟩)
 | false=>none
def qd (st:St) (o:Obj) (f:Nat->AV):Option Out:=some (f st.h,st.add o,⟨[],.made st.h o⟩)
def zd (O:qL) (f:FuncId) (args:List AV) (st:St):Option Out:=
 match bx (args.map strip)&& !O.full f with
 | true=>match O.bare f (args.map strip) with
  | some v=>some (v,st,q0)
  | none=>none
 | false=>match O.isLook f with
  | true=>match O.look f (args.map strip) st with
   | some v=>some (v,st,⟨[],.looked⟩)
   | none=>none
  | false=>match O.wide f args st with
   | some p=>some (p.1,p.2,⟨[],.all st p.2⟩)
   | none=>none
def ED (O:qL) (k:Nat) (args:List AV) (st:St):Option Out:=
 match O.round k args st with
 | some p=>some (p.1,p.2,⟨[],.all st p.2⟩)
 | none=>none
def sG (O:qL) (p:cl cV) (st:St):Option Out:=
 match p with
 | .ok (.val v)=>some (v,st,q0)
 | .ok (.obj id f)=>match st.get id with
  | .ok o=>match f o with
   | .ok (v,none)=>some (v,st,⟨[id],.kept⟩)
   | .ok (v,some o')=>kW st id o' v [id]
   | .error _=>none
  | .error _=>none
 | .ok (.both id k f)=>match st.get id with
  | .ok o=>match k o with
   | .ok none=>match f o none with
    | .ok v=>some (v,st,⟨[],.looked⟩)
    | .error _=>none
   | .ok (some j)=>match st.ro.ble j with
    | true=>match st.get j with
     | .ok o'=>match f o (some o') with
      | .ok v=>some (v,st,⟨[],.looked⟩)
      | .error _=>none
     | .error _=>none
    | false=>none
   | .error _=>none
  | .error _=>none
 | .ok (.new o f)=>qd st o f
 | .ok (.call f args)=>zd O f args st
 | .ok (.yield k args)=>ED O k args st
 | .error _=>none
def nJ (x:Option Out) (K:Kv β):Option β:=aB x fun r=>K r.1 r.2.1 r.2.2
def made (st:St) (o:Obj) (f:Nat->AV) (K:Kv β):Option β:=nJ (qd st o f) K
def eJ (O:qL) (p:cl cV) (st:St) (K:Kv β):Option β:=nJ (sG O p st) K
def aX (O:qL) (f:FuncId) (args:List AV) (st:St) (K:Kv β):Option β:=nJ (zd O f args st) K
def AB (O:qL) (size:Nat) (a v:AV) (cs:List AV) (st:St):Option Out:=
 match a with
 | .mp id off=>match cs.length.beq size with
  | true=>match st.get id with
   | .ok (.cells t old)=>match (off+cs.length).ble old.length with
    | true=>kW st id (.cells t (JL old off cs)) undef [id]
    | false=>none
   | _=>none
  | false=>none
 | .gp k m off=>sG O (lZ ⟨.other,size,0,[],false,false⟩ k m off v) st
 | _=>none
def DN (t:TypeId) (z:List AV) (nm:Nat) (st:St):Option Out:=
 match st.get nm with
 | .ok .tG=>kW st nm (.cells t z) (.mp nm 0) [nm]
 | _=>none
def zJ (t:TypeId) (z:List AV) (nm:Nat) (st:St) (K:Kv β):Option β:=nJ (DN t z nm st) K
def bn (O:qL) (size:Nat) (a v:AV) (cs:List AV) (st:St) (K:Kv β):Option β:=nJ (AB O size a v cs st) K
def Kr (off:Nat) (a:AV):Option AV:=
 match a with
 | .ip cells=>some (.ip (cells.drop off))
 | .mp id o=>some (.mp id (o+off))
 | .gp k n o=>some (.gp k n (o+off))
 | _=>none
def cI (off:Nat) (a:AV) (K:AV->Option β):Option β:=aB (Kr off a) K
def ic (i:Int) (n:Nat) (K:Nat->Option β):Option β:=
 match i with
 | .ofNat k=>cu (k.blt n) (K k)
 | .negSucc _=>none
def dq (i:Int) (n:Nat) (K:Nat->Option β):Option β:=
 match i with
 | .ofNat k=>cu (k.ble n) (K k)
 | .negSucc _=>none
def za:List AV->Nat->Option AV
 | [],_=>none
 | v:: _,0=>some v
 | _::l,n+1=>za l n
def mJ (i:Int) (n:Nat):Option Nat:=
 match i with
 | .ofNat k=>match k.blt n with
  | true=>some k
  | false=>none
 | .negSucc _=>none
def Gx (z:Nat) (x:AV) (i:Int) (st:St):Option (AV×List Nat):=
 match x with
 | .sl sz es _=>match sz.beq z with
  | true=>match mJ i es.length with
   | some k=>match za es k with
    | some v=>some (.ip v.cells,[])
    | none=>none
   | none=>none
  | false=>none
 | .ms id off sz len _=>match sz.beq z with
  | true=>match mJ i len with
   | some k=>some (.mp id (off+k * sz),[])
   | none=>none
  | false=>none
 | .gs k sz n=>match sz.beq z with
  | true=>match mJ i n with
   | some j=>match st.get k with
    | .ok (.grow m _ z' es)=>match n.beq m&&z'.beq sz with
     | true=>match j.blt es.length with
      | true=>match za es j with
       | some v=>some (.ip v.cells,[k])
       | none=>none
      | false=>some (.gp k n (j * sz),[k])
     | false=>none
    | .ok (.row m _ z' _)=>match n.beq m&&z'.beq sz with
     | true=>some (.gp k n (j * sz),[k])
     | false=>none
    | _=>none
   | none=>none
  | false=>none
 | _=>none
def fc (z:Nat) (x:AV) (i:Int) (st:St) (K:AV->List Nat->Option β):Option β:=aB (Gx z x i st) fun p=>K p.1 p.2
def K0 (z len:Nat) (x:AV) (i:Int) (K:AV->Option β):Option β:=
 ic i len fun k=>cI (k * z) x K
def ey (s:List UInt8) (i:Int) (K:UInt8->Option β):Option β:=
 ic i s.length fun k=>match s[k]? with
  | some b=>K b
  | none=>none
def Nf (lo:Option Int) (h:Nat) (K:Nat->Option β):Option β:=
 match lo with
 | some l=>dq l h K
 | none=>K 0
def M4 (hi:Option Int) (m d:Nat) (K:Nat->Option β):Option β:=
 match hi with
 | some h=>dq h m K
 | none=>K d
def ph (hi:Option Int) (m d:Nat):Option Nat:=
 match hi with
 | some h=>match h with
  | .ofNat k=>match k.ble m with
   | true=>some k
   | false=>none
  | .negSucc _=>none
 | none=>some d
def kM (z:Nat) (x:AV) (lo hi mx:Option Int):Option AV:=
 match x,mx with
 | .aG,mx=>match ph mx 0 0 with
  | some m=>match ph hi m 0 with
   | some h=>match ph lo h 0 with
    | some _=>some .aG
    | none=>none
   | none=>none
  | none=>none
 | .es,mx=>match ph mx 0 0 with
  | some m=>match ph hi m 0 with
   | some h=>match ph lo h 0 with
    | some _=>some .es
    | none=>none
   | none=>none
  | none=>none
 | .ms id off sz len cap,mx=>match sz.beq z with
  | true=>match ph mx cap cap with
   | some m=>match ph hi m len with
    | some h=>match ph lo h 0 with
     | some l=>match h.ble m with
      | true=>some (.ms id (off+l * sz) sz (h - l) (m - l))
      | false=>none
     | none=>none
    | none=>none
   | none=>none
  | false=>none
 | .sl sz es p,none=>match sz.beq z with
  | true=>match ph hi es.length es.length with
   | some h=>match ph lo h 0 with
    | some l=>match h.beq es.length,p with
     | true,.shut=>some (.sl sz (es.drop l) .shut)
     | true,.own k=>match l.beq 0 with
      | true=>some (.sl sz es (.own k))
      | false=>some (.sl sz (es.drop l) .wide)
     | _,_=>some (.sl sz ((es.take h).drop l) .wide)
    | none=>none
   | none=>none
  | false=>none
 | .sl sz es _,some m=>match sz.beq z with
  | true=>match ph (some m) es.length 0 with
   | some m=>match ph hi m m with
    | some h=>match ph lo h 0 with
     | some l=>some (.sl sz ((es.take h).drop l) (match m.beq h with | true=> .shut | false=> .wide))
     | none=>none
    | none=>none
   | none=>none
  | false=>none
 | _,_=>none
def iL (z:Nat) (x:AV) (lo hi mx:Option Int) (K:AV->Option β):Option β:=aB (kM z x lo hi mx) K
def Ll (x:AV):Option Nat:=
 match x with
 | .aG=>some 0
 | .sl _ e _=>some e.length
 | .ms _ _ _ len _=>some len
 | .gs _ _ n=>some n
 | .es=>some 0
 | _=>none
def iQ (x:AV) (K:Nat->Option β):Option β:=aB (Ll x) K
def jJ (x:AV) (K:List AV->Option β):Option β:=
 match kH x with
 | some l=>K l
 | none=>none
def rj (z b:Nat) (e:TypeId) (s:AV) (new:List AV) (st:St):Option Out:=
 match new with
 | []=>match s with
  | .aG=>some (.aG,st,q0)
  | .sl z es p=>some (.sl z es p,st,q0)
  | .es=>some (.es,st,q0)
  | _=>none
 | _:: _=>match s with
  | .aG=>match cU new.length ⟨.other,z,b,[],false,false⟩ with
   | true=>qd st (.tok new.length e) fun k=> .sl z new (.own k)
   | false=>none
  | .sl y es p=>match cU (es.length+new.length) ⟨.other,z,b,[],false,false⟩&&y.beq z with
   | true=>match p with
    | .shut=>qd st (.tok (es.length+new.length) e) fun k=> .sl y (es++new) (.own k)
    | .own k=>match st.get k with
     | .ok (.tok n a)=>match n.beq es.length&&a.beq e with
      | true=>kW st k (.tok (es.length+new.length) e) (.sl y (es++new) (.own k)) [k]
      | false=>none
     | _=>none
    | .wide=>none
   | false=>none
  | .es=>match cU new.length ⟨.other,z,b,[],false,false⟩ with
   | true=>qd st (.tok new.length e) fun k=> .sl z new (.own k)
   | false=>none
  | _=>none
def cq (z b:Nat) (e:TypeId) (s:AV) (new:List AV) (st:St) (K:Kv β):Option β:=nJ (rj z b e s new st) K
def Ld (u:U) (x y:AV):Option Bool:=
 match u,x,y with
 | .ptr _,.nilp,.nilp=>some true
 | .ptr _,.nilp,.ip _=>some false
 | .ptr _,.ip _,.nilp=>some false
 | .ptr _,.nilp,.mp .. =>some false
 | .ptr _,.mp ..,.nilp=>some false
 | .slice _,.aG,.aG=>some true
 | .slice _,.aG,.sl .. =>some false
 | .slice _,.sl ..,.aG=>some false
 | .slice _,.aG,.ms .. =>some false
 | .slice _,.ms ..,.aG=>some false
 | .slice _,.aG,.es=>some false
 | .slice _,.es,.aG=>some false
 | .map ..,.nilm,.nilm=>some true
 | .map ..,.nilm,.mm _=>some false
 | .map ..,.mm _,.nilm=>some false
 | .func,.nilfn,.nilfn=>some true
 | .func,.nilfn,.fn .. =>some false
 | .func,.fn ..,.nilfn=>some false
 | _,_,_=>none
def Em (u:U) (x y:AV) (K:Bool->Option β):Option β:=aB (Ld u x y) K
def notNil:AV->Bool
 | .ip _=>true
 | .mp .. =>true
 | .gp .. =>true
 | .fn (.func _) _ _=>true
 | _=>false
def D2 (x:AV) (K:Option β):Option β:=cu (notNil x) K
def El (prim:FuncId->Option Prim) (f:AV) (args:List AV):cl cV:=
 match f with
 | .fn (.func g) first cap=>match prim g with
  | some q=>gT q (first++args++cap)
  | none=> .ok (.call g (first++args++cap))
 | .yld k=> .ok (.yield k args)
 | _=> .error "call: what?"
def jX (O:qL) (prim:FuncId->Option Prim) (f:AV) (args:List AV) (st:St) (K:Kv β):Option β:=nJ (sG O (El prim f args) st) K
def uC (place:Nat->Option (Nat×Nat)) (cells:List AV):List (Nat×List AV)->(List AV->Option β)->Option β
 | [],K=>K cells
 | (i,cs)::l,K=>
  match place i with
  | none=>none
  | some (off,size)=>cu (cs.length.beq size&&(off+size).ble cells.length) (uC place (cJ cells off cs) l K)
abbrev PF:=List (Nat×AV)
def PF.get:PF->Nat->Option AV
 | [],_=>none
 | (i,v)::l,j=>match i.beq j with
  | true=>some v
  | false=>PF.get l j
def ev (G:Nat->Option (List AV)) (p:PF) (x:Operand) (K:AV->Option β):Option β:=
 match x with
 | .tmp t=>match PF.get p t with
  | some v=>K v
  | none=>none
 | .const v=>match ofConst v with
  | .ok v=>K v
  | .error _=>none
 | .global g=>match G g with
  | some cs=>K (.ip cs)
  | none=>none
 | .func g=>K (.fn (.func g) [] [])
def Lo (G:Nat->Option (List AV)) (p:PF):List Operand->(List AV->Option β)->Option β
 | [],K=>K []
 | x::l,K=>ev G p x fun v=>Lo G p l fun vs=>K (v::vs)
def LX (G:Nat->Option (List AV)) (p:PF) (x:Option Operand) (K:Option Int->Option β):Option β:=
 match x with
 | none=>K none
 | some x=>ev G p x fun v=>anyI v fun n=>K (some n)
def J3 (T:TT) (G:Nat->Option (List AV)) (p:PF) (ty:Nat->Option TypeId):List (Nat×Operand)->(List (Nat×List AV)->Option β)->Option β
 | [],K=>K []
 | (i,x)::l,K=>match ty i with
  | none=>none
  | some t=>nT T t fun ti=>ev G p x fun v=>wN ti.agg v fun cs=>J3 T G p ty l fun r=>K ((i,cs)::r)
def zB (T:TT):List (Nat×TypeId)->(List (Nat×Nat)->Option β)->Option β
 | [],K=>K []
 | (o,t)::l,K=>nT T t fun i=>zB T l fun r=>K ((o,i.size)::r)
def iw:U->Bool
 | .ptr _=>true
 | .slice _=>true
 | .map .. =>true
 | .func=>true
 | _=>false
def Cy (op:BinOp) (a:AV):Option AV:=GI op a
def Lg (T:TT) (op:BinOp) (t:TypeId) (x y:AV) (K:AV->Option β):Option β:=
 nT T t fun i=>match iw i.und,op with
  | true,.eql=>Em i.und x y fun b=>K (.bool b)
  | true,.neq=>Em i.und x y fun b=>K (.bool !b)
  | _,_=>match op,i.und with
   | .add,.str=>dV x fun a=>dV y fun b=>cu ((a.length+b.length).ble 9223372036854775807) (K (.str (a++b)))
   | .quo,.int k=>bg k x fun a=>bg k y fun b=>cu (!(decide (b=0))) (K (.int k (k.wrap (a.tdiv b))))
   | .rem,.int k=>bg k x fun a=>bg k y fun b=>cu (!(decide (b=0))) (K (.int k (a.tmod b)))
   | .shl,.int k=>bg k x fun a=>anyI y fun b=>cu (!(decide (b < 0))) (K (.int k (k.wrap (a * 2 ^ (min b.toNat k.bits)))))
   | .shr,.int k=>bg k x fun a=>anyI y fun b=>cu (!(decide (b < 0))) (K (.int k (a.fdiv (2 ^ (min b.toNat k.bits)))))
   | _,_=>aB (Fc (binOp T op t x y)) K
def FK (S:Sx) (o:Op) (p:PF) (st:St) (K:Kv β):Option β:=
 match o with
 | .move x | .assign x=>ev S.G p x fun v=>K v st q0
 | .pick c a b=>ev S.G p c fun c=>bG c fun c=>aW c (ev S.G p a fun v=>K v st q0) (ev S.G p b fun v=>K v st q0)
 | .alloc t=>nT S.T t fun i=>made st (.cells t i.zero) (fun k=> .mp k 0) K
 | .box t x=>nT S.T t fun i=>ev S.G p x fun v=>wN i.agg v fun cs=>cu (cs.length.beq i.size) (sO cs (match S.imm t with
  | true=>DG cs fun cs'=>K (.ip cs') st q0
  | false=>made st (.cells t cs) (fun k=> .mp k 0) K))
 | .build t parts=>nT S.T t fun i=>match i.und with
  | .struct fs=>J3 S.T S.G p (fun k=>(fs[k]?).map (·.2)) parts.toList fun ps=>zB S.T fs fun sz=>uC (fun k=>sz[k]?) i.zero ps fun cs=>K (.agg cs) st q0
  | .arr _ e=>J3 S.T S.G p (fun _=>some e) parts.toList fun ps=>nT S.T e fun g=>uC (fun k=>some (k * g.size,g.size)) i.zero ps fun cs=>K (.agg cs) st q0
  | _=>none
 | .buildSlice t len parts=>nT S.T t fun i=>match i.und with
  | .slice e=>nT S.T e fun g=>J3 S.T S.G p (fun _=>some e) parts.toList fun ps=>cu ((len * g.size).ble 16777216&&Nat.ble 1 g.size) (uC (fun k=>some (k * g.size,g.size)) (zeros g.zero len) ps fun cs=>sO cs (match group g.size g.agg len cs with
   | .ok vs=>lE g.agg vs fun vs'=>K (.sl g.size vs' .shut) st q0
   | .error _=>none))
  | _=>none
 | .makeSlice t l c=>ev S.G p l fun l=>ev S.G p c fun c=>eJ S.O (kL S.T t l c) st K
 | .load t a=>nT S.T t fun i=>ev S.G p a fun a=>ax i.size i.agg a st fun v rd=>K v st ⟨rd,.kept⟩
 | .store t a x=>nT S.T t fun i=>ev S.G p a fun a=>ev S.G p x fun v=>wN i.agg v fun cs=>sO cs (bn S.O i.size a v cs st K)
 | .nilCheck x=>ev S.G p x fun v=>D2 v (K v st q0)
 | .binOp op t x y _=>ev S.G p x fun a=>ev S.G p y fun b=>match Iz y b&&DR S.T t with
  | true=>aB (Cy op a) fun v=>K v st q0
  | false=>Lg S.T op t a b fun v=>K v st q0
 | .unOp op _ x=>ev S.G p x fun x=>aB (Fc (unOp op x)) fun v=>K v st q0
 | .convert s d x=>ev S.G p x fun x=>eJ S.O (oC S.T s d x) st K
 | .makeInterface t x=>nT S.T t fun i=>match i.und with
  | .iface _ | .other=>none
  | _=>ev S.G p x fun v=>K (.iface t v) st q0
 | .makeFunc f first cap=>Lo S.G p first.toList fun a=>Lo S.G p cap.toList fun c=>K (.fn f a c) st q0
 | .makeMap _ none=>made st (.map []) (fun k=> .mm k) K
 | .slice t x lo hi mx=>match mx,hi with
  | some _,none=>none
  | _,_=>nT S.T t fun i=>ev S.G p x fun x=>LX S.G p lo fun lo=>LX S.G p hi fun hi=>LX S.G p mx fun mx=>match i.und with
   | .str=>dV x fun s=>match mx with
    | none=>M4 hi s.length s.length fun h=>Nf lo h fun l=>K (.str ((s.take h).drop l)) st q0
    | some _=>none
   | .slice e=>nT S.T e fun g=>iL g.size x lo hi mx fun v=>K v st q0
   | _=>none
 | .fieldAddr t x f=>nT S.T t fun i=>match i.und with
  | .struct fs=>match fs[f]? with
   | some (off,q)=>nT S.T q fun r=>match r.size with
    | 0=>none
    | _+1=>ev S.G p x fun a=>cI off a fun a'=>K a' st q0
   | none=>none
  | _=>none
 | .field t x f=>ev S.G p x fun x=>aB (Fc (field S.T t x f)) fun v=>K v st q0
 | .indexAddr t x i=>nT S.T t fun ti=>ev S.G p x fun x=>ev S.G p i fun i=>anyI i fun i=>match ti.und with
  | .slice e=>nT S.T e fun g=>fc g.size x i st fun a rd=>K a st ⟨rd,.kept⟩
  | .arr len e=>nT S.T e fun g=>K0 g.size len x i fun a=>K a st q0
  | _=>none
 | .index t x i=>nT S.T t fun ti=>ev S.G p x fun x=>ev S.G p i fun i=>match ti.und with
  | .str=>dV x fun s=>anyI i fun i=>ey s i fun b=>K (.int .u8 b.toNat) st q0
  | _=>aB (Fc (rJ S.T t x i)) fun v=>K v st q0
 | .lookup t x k ok=>ev S.G p x fun x=>ev S.G p k fun k=>eJ S.O (jk S.T t x k ok) st K
 | .mapUpdate t m k v | .insert t m k v=>ev S.G p m fun m=>ev S.G p k fun k=>ev S.G p v fun v=>eJ S.O (kK S.T t m k v) st K
 | .range t x=>ev S.G p x fun x=>nT S.T t fun i=>match i.und with
  | .str=>dV x fun s=>made st (.sit s 0) (fun k=> .mp k 0) K
  | _=>none
 | .next x true=>ev S.G p x fun x=>eJ S.O (vy x) st K
 | .extract x i=>ev S.G p x fun x=>fU x fun vs=>cC vs i fun v=>K v st q0
 | .call c=>Lo S.G p c.args.toList fun args=>match c.callee with
  | .builtin b=>match b,c.argTypes.toList,args with
   | .len,t:: _,[x]=>nT S.T t fun i=>match i.und with
    | .str=>dV x fun s=>K (.int .i64 s.length) st q0
    | .slice _=>iQ x fun n=>K (.int .i64 n) st q0
    | _=>eJ S.O (tT S.T t x) st K
   | .append,[t,xt],[s,x]=>nT S.T t fun i=>nT S.T xt fun u=>match i.und,AE u.und with
    | .slice e,true=>nT S.T e fun g=>jJ x fun new=>match S.imm (1000000+t) with
     | true=>eJ S.O (mH g e s new) st K
     | false=>match S.imm (2000000+t) with
     | true=>eJ S.O (mg g e s new) st K
     | false=>match S.imm (3000000+t) with
     | true=>eJ S.O (kj g e s new) st K
     | false=>lE g.agg new fun j=>cu (nS g.size j) (cq g.size g.bytes e s j st K)
    | _,_=>none
   | b,ts,args=>eJ S.O (dS S.T S.imm b ts args) st K
  | .value f=>ev S.G p f fun f=>jX S.O S.prim f args st K
  | .invoke .. =>none
 | _=>none
def xd (all:List Oper) (p:PF) (g:Option (Nat×Bool)) (yes no:PF->Option β):Option β:=
 match g with
 | none=>yes p
 | some (j,want)=>match (all[j]?).bind (·.dst) with
  | some d=>match PF.get p d with
   | some v=>match v with
    | .bool b=>match want with
     | true=>aW b (yes ((d,.bool true)::p)) (no ((d,.bool false)::p))
     | false=>aW b (no ((d,.bool true)::p)) (yes ((d,.bool false)::p))
    | _=>no p
   | none=>none
  | none=>none
def r9 (N:Nat) (d:Option Tmp) (v:AV) (p:PF) (K:PF->Option β):Option β:=
 match d with
 | none=>K p
 | some d=>match d.blt N with
  | true=>K ((d,v)::p)
  | false=>none
def km (ops:List Oper) (j:Nat) (x:Fx):List (Nat×Fx)->Bool
 | []=>true
 | (i,y)::l=>(behind ops (j+1) j i||apart y x)&&km ops j x l
def vW (S:Sx) (N:Nat) (all:List Oper) (draw:Bool):(j:Nat)->(seen:List (Nat×Fx))->List Oper->PF->St->(PF->St->Option β)->Option β
 | _,_,[],p,st,K=>K p st
 | j,seen,o::l,p,st,K=>xd all p o.guard
  (fun p=>FK S o.op p st fun v st' x=>yd (vL o.op) S.T o.type v fun v=>match draw with
   | false=>r9 N o.dst v p fun p=>vW S N all draw (j+1) seen l p st' K
   | true=>cu (km all j x seen) (r9 N o.dst v p fun p=>vW S N all draw (j+1) ((j,x)::seen) l p st' K))
  (fun p=>r9 N o.dst undef p fun p=>vW S N all draw (j+1) seen l p st K)
def Lq (S:Sx) (e:Nat->Option Nat) (o:Oper) (p:PF) (st:St) (K:Kv β):Option β:=
 match mG e o with
 | some (t,nm)=>nT S.T t fun i=>zJ t i.zero nm st K
 | none=>FK S o.op p st K
def mO (S:Sx) (N:Nat) (e:Nat->Option Nat) (all:List Oper):(j:Nat)->(seen:List (Nat×Fx))->List Oper->PF->St->(PF->St->Option β)->Option β
 | _,_,[],p,st,K=>K p st
 | j,seen,o::l,p,st,K=>xd all p o.guard
  (fun p=>Lq S e o p st fun v st' x=>yd (vL o.op) S.T o.type v fun v=>
   cu (km all j x seen) (r9 N o.dst v p fun p=>mO S N e all (j+1) ((j,x)::seen) l p st' K))
  (fun p=>r9 N o.dst undef p fun p=>mO S N e all (j+1) seen l p st K)
def H0 (st:St):List Nat->(St->Option β)->Option β
 | [],K=>K st
 | _::l,K=>ba (st.add .tG) fun st=>H0 st l K
end
def jh {σ β:Type} (F:σ->Option (Sum σ β)):Nat->σ->Option β
 | 0,_=>none
 | n+1,s=>match F s with
  | some (.inl s')=>jh F n s'
  | some (.inr r)=>some r
  | none=>none
open Classical in
noncomputable def aI {σ β:Type} (F:σ->Option (Sum σ β)) (s:σ):Option β:=
 if h: ∃r n,jh F n s=some r then some h.choose else none
structure Lv where
 falls:Bool
 outs:List Nat
 rets:Bool
def leaves:Code->Lv
 | .skip=>⟨true,[],false⟩
 | .label _=>⟨true,[],false⟩
 | .region .. =>⟨true,[],false⟩
 | .seq a b=>let x:=leaves a;let y:=leaves b
  match x.falls with
  | true=>⟨y.falls,x.outs++y.outs,x.rets||y.rets⟩
  | false=>x
 | .cond _ a b=>let x:=leaves a;let y:=leaves b;⟨x.falls||y.falls,x.outs++y.outs,x.rets||y.rets⟩
 | .block id c=>let x:=leaves c;⟨x.falls||pb id x.outs,x.outs.filter fun i=> !i.beq id,x.rets⟩
 | .loop c=>let x:=leaves c;⟨false,x.outs.eraseDups,x.rets⟩
 | .scope c=>leaves c
 | .rangeFunc _ _ _ c=>let x:=leaves c;⟨true,x.outs.eraseDups,x.rets⟩
 | .exit i=>⟨false,[i],false⟩
 | .ret=>⟨false,[],true⟩
 | _=>⟨false,[],false⟩
def Ap (n:Nat):List Nat->Nat
 | []=>0
 | m::l=>match n.beq m with
  | true=>Ap n l+1
  | false=>Ap n l
section
variable {β:Type}
def ga (p:PF):List Nat->List Nat
 | []=>[]
 | i::l=>match PF.get p i with
  | some _=>i::ga p l
  | none=>ga p l
def mZ (live:List Nat):List Nat->List Nat
 | []=>[]
 | i::l=>match pb i live with
  | true=>i::mZ live l
  | false=>mZ live l
def getAll (p:PF):List Nat->(List AV->Option β)->Option β
 | [],K=>K []
 | i::l,K=>match PF.get p i with
  | some v=>getAll p l fun vs=>K (v::vs)
  | none=>none
def erase (ws:List Nat):PF->PF
 | []=>[]
 | (i,v)::l=>match pb i ws with
  | true=>erase ws l
  | false=>(i,v)::erase ws l
def DT:List (Nat×TypeId)->Nat->Option TypeId
 | [],_=>none
 | (i,t)::l,j=>match i.beq j with
  | true=>some t
  | false=>DT l j
def A3 (T:TT) (tys:List (Nat×TypeId)) (i:Nat) (v:AV) (K:AV->Option β):Option β:=
 match DT tys i with
 | some t=>yd false T t v K
 | none=>K v
def fh (T:TT) (tys:List (Nat×TypeId)):List Nat->List AV->PF->(PF->Option β)->Option β
 | [],vs,p,K=>bE vs (K p)
 | i::l,vs,p,K=>br vs fun v vs=>A3 T tys i v fun v=>fh T tys l vs p fun p=>K ((i,v)::p)
def vj:Ex->List Ex->Nat->Option Nat
 | _,[],_=>none
 | x,y::l,n=>match decide (x=y) with
  | true=>some n
  | false=>vj x l (n+1)
def ja (n:Nat) (a:Option β) (b:Nat->Option β):Option β:=
 match n with
 | 0=>a
 | n+1=>b n
def HQ (K:Ex->Option β):List Ex->Nat->Option β
 | [],_=>none
 | x::l,n=>match l with
  | []=>K x
  | _:: _=>ja n (K x) fun n=>HQ K l n
def oR:List Oper->Bool
 | []=>false
 | o::l=>match o.guard with
  | some _=>true
  | none=>oR l
end
def E5 {β:Type} (j x:Ex) (A B:Option β):Option β:=aW (decide (j=x)) A B
def wR {β:Type} (j:Ex) (K:Ex->Option β):List Ex->Option β
 | []=>none
 | x::l=>E5 j x (K x) (wR j K l)
def Lt {β:Type} (k:Nat) (st:St) (K:Ex->St->Option β):Option β:=
 match st.get k with
 | .ok (.loop _ _ _ _ _ s p)=>cu (s.beq 0||s.beq 2) (K p (st.put k .dead))
 | _=>none
def Dx {β:Type} (O:qL) (f:AV) (a:Obj) (st:St) (K:Ex->St->Option β):Option β:=
 match f with
 | .fn (.func g) [] cap=>aB (O.wide g (.yld st.h::cap) (st.add a)) fun r=>Lt st.h r.2 K
 | _=>none
abbrev bR:=List AV×St
noncomputable def ij (S:Sx) (N:Nat) (tys:List (Nat×TypeId)):Code->(live:List Nat)->{β:Type}->PF->St->(Ex->PF->St->Option β)->Option β
 | .skip,_,_,p,st,K=>K .normal p st
 | .label _,_,_,p,st,K=>K .normal p st
 | .exit i,_,_,p,st,K=>K (.exit i) p st
 | .ret,_,_,p,st,K=>K .ret p st
 | .scope c,live,_,p,st,K=>ij S N tys c live p st K
 | .region _ ops draw,live,_,p,st,K=>
  match draw&&S.imm 4000000 with
  | false=>
   match oR ops.toList with
   | false=>vW S N ops.toList draw 0 [] ops.toList p st fun p st=>K .normal p st
   | true=>let ws:=dedup (mZ live (bZ ops.toList))
    aB (vW (β:=bR) S N ops.toList draw 0 [] ops.toList p st fun p st=>getAll p ws fun vs=>some (vs,st)) fun c=>
     fh S.T tys ws c.1 (erase (bZ ops.toList) p) fun p=>K .normal p c.2
  | true=>H0 st (kU ops.toList) fun st'=>
   match oR ops.toList with
   | false=>mO S N (vo st.h (kU ops.toList)) ops.toList 0 [] ops.toList p st' fun p st=>K .normal p st
   | true=>let ws:=dedup (mZ live (bZ ops.toList))
    aB (mO (β:=bR) S N (vo st.h (kU ops.toList)) ops.toList 0 [] ops.toList p st' fun p st=>getAll p ws fun vs=>some (vs,st)) fun c=>
     fh S.T tys ws c.1 (erase (bZ ops.toList) p) fun p=>K .normal p c.2
 | .seq a b,live,_,p,st,K=>ij S N tys a (qF b++live) p st fun ex p st=>match ex with
  | .normal=>ij S N tys b live p st K
  | ex=>K ex p st
 | .cond c a b,live,_,p,st,K=>ev S.G p c fun c=>bG c fun c=>
  let x:=leaves a;let y:=leaves b
  match x.falls&&y.falls with
  | false=>aW c (ij S N tys a live p st K) (ij S N tys b live p st K)
  | true=>
   let W:=writes a++writes b
   let ws:=dedup (ga p (mZ live W))
   match (x.outs.isEmpty&&y.outs.isEmpty)&& !(x.rets||y.rets) with
   | true=>
    let J:Ex->PF->St->Option bR:=fun ex p st=>match ex with
     | .normal=>getAll p ws fun vs=>some (vs,st)
     | _=>none
    aB (aW c (ij S N tys a live p st J) (ij S N tys b live p st J)) fun c=>
     fh S.T tys ws c.1 (erase W p) fun p=>K .normal p c.2
   | false=>
    let J:Ex->PF->St->Option (Sum bR _):=fun ex p st=>match ex with
     | .normal=>getAll p ws fun vs=>some (.inl (vs,st))
     | ex=>aB (K ex p st) fun r=>some (.inr r)
    aB (aW c (ij S N tys a live p st J) (ij S N tys b live p st J)) fun r=>iP r fun c=>fh S.T tys ws c.1 (erase W p) fun p=>K .normal p c.2
 | .block id c,live,_,p,st,K=>
  let x:=leaves c
  match ((match x.falls with | true=>1 | false=>0)+Ap id x.outs).ble 1 with
  | true=>ij S N tys c live p st fun ex p st=>match ex with
   | .exit i=>match i.beq id with
    | true=>K .normal p st
    | false=>K (.exit i) p st
   | ex=>K ex p st
  | false=>
   let W:=writes c
   let ws:=dedup (ga p (mZ live W))
   let J:Ex->PF->St->Option (Sum bR _):=fun ex p st=>match ex with
    | .normal=>getAll p ws fun vs=>some (.inl (vs,st))
    | .exit i=>match i.beq id with
     | true=>getAll p ws fun vs=>some (.inl (vs,st))
     | false=>aB (K (.exit i) p st) fun r=>some (.inr r)
    | .ret=>aB (K .ret p st) fun r=>some (.inr r)
   aB (ij S N tys c live p st J) fun r=>iP r fun c=>fh S.T tys ws c.1 (erase W p) fun p=>K .normal p c.2
 | .loop c,live,_,p,st,K=>
  let W:=writes c
  let ws:=dedup (ga p W)
  let us:=mZ live ws
  let x:=leaves c
  let es:List Ex:=x.outs.eraseDups.map .exit++(match x.rets with | true=>[.ret] | false=>[])
  getAll p ws fun vs=>aB (aI (fun s:bR=>fh S.T tys ws s.1 (erase W p) fun p=>ij (β:=Sum bR (Nat×bR)) S N tys c (ws++live) p s.2 fun ex p st=>match ex with
    | .normal=>getAll p ws fun vs=>some (.inl (vs,st))
    | ex=>aB (vj ex es 0) fun k=>getAll p us fun vs=>some (.inr (k,vs,st))) (vs,st)) fun r=>
   fh S.T tys us r.2.1 (erase W p) fun p=>HQ (fun ex=>K ex p r.2.2) es r.1
 | .rangeFunc g ps a c,_,_,p,st,K=>
  let us:=lK ps.toList a c
  let x:=leaves c
  let es:List Ex:= .normal::(x.outs.eraseDups.map .exit++(match x.rets with | true=>[.ret] | false=>[]))
  ev S.G p g fun f=>getAll p us fun vs=>Dx S.O f (.loop S.imm ps.toList a c (CD N us vs) 0 .normal) st fun j st'=>wR j (fun ex=>K ex p st') es
 | _,_,_,_,_,_=>none
section
variable {β:Type}
def Fp (S:Sx) (p:PF) (st:St) (r:ResultVar) (K:AV->Option β):Option β:=
 match r with
 | .tmp t=>match PF.get p t with
  | some v=>K v
  | none=>none
 | .cell a t=>nT S.T t fun i=>match PF.get p a with
  | some a=>ax i.size i.agg a st fun v _=>yd false S.T t v K
  | none=>none
def Bj (S:Sx) (p:PF) (st:St):List ResultVar->(List AV->Option β)->Option β
 | [],K=>K []
 | r::l,K=>Fp S p st r fun v=>Bj S p st l fun vs=>K (v::vs)
def wX:List ResultVar->List Nat
 | []=>[]
 | .tmp t::l=>t::wX l
 | .cell a _::l=>a::wX l
def gH:Code->List (Nat×TypeId)
 | .region _ ops _=>go ops.toList
 | .seq a b=>gH a++gH b
 | .cond _ a b=>gH a++gH b
 | .block _ c=>gH c
 | .loop c=>gH c
 | .scope c=>gH c
 | .rangeFunc _ _ a c=>gH a++gH c
 | _=>[]
 where
 go:List Oper->List (Nat×TypeId)
  | []=>[]
  | o::l=>match o.dst with
   | some d=>(d,o.type)::go l
   | none=>go l
def yM:Nat->List TypeId->List (Nat×TypeId)
 | _,[]=>[]
 | i,t::l=>(i,t)::yM (i+1) l
def zn (T:TT):Nat->List TypeId->List AV->PF->(PF->Option β)->Option β
 | _,_,[],p,K=>K p
 | i,ts,v::vs,p,K=>match ts with
  | []=>zn T (i+1) [] vs ((i,v)::p) K
  | t::ts=>yd false T t v fun v=>zn T (i+1) ts vs ((i,v)::p) K
noncomputable def AU (S:Sx) (fn:Func) (args:List AV) (st:St) (K:AV->St->Option β):Option β:=
 match fn.body with
 | none=>none
 | some c=>match args.length.ble fn.ntmps with
  | false=>none
  | true=>zn S.T 0 fn.params.toList args [] fun p=>ij S fn.ntmps (yM 0 fn.params.toList++gH c) c (wX fn.results.toList) p st fun ex p st=>match ex with
   | .exit _=>none
   | _=>Bj S p st fn.results.toList fun vs=>K (oneOf vs) st
def kQ (st:St) (base:Nat) (v:AV) (K:AV->Option β):Option β:=
 match freeze st base 100 v with
 | .ok v=>cu (bare v) (K v)
 | .error _=>none
end
def gD (P:Nat->Prop):Prop:= ∃m,∀n,m<=n->P n
theorem gD.always {P:Nat->Prop} (h: ∀n,P n):gD P:=⟨0,fun n _=>h n⟩
theorem gD.lift {P Q:Nat->Prop} (h:gD P) (k: ∀n,P n->Q n):gD Q:=by
 obtain ⟨m,h⟩:=h;exact ⟨m,fun n a=>k n (h n a)⟩
theorem gD.both {P Q:Nat->Prop} (h:gD P) (k:gD Q):gD fun n=>P n/\Q n:=by
 obtain ⟨m,h⟩:=h;obtain ⟨a,k⟩:=k;exact ⟨max m a,fun n b=>⟨h n (by omega),k n (by omega)⟩⟩
section
variable {β:Type} {r:β}
theorem oV {α:Type} {x:cl α} {a:α} (h:Fc x=some a):x= .ok a:=by
 cases x <;> simp_all [Fc]
theorem bu {α:Type} {x:Option α} {K:α->Option β} (h:aB x K=some r): ∃a,x=some a/\K a=some r:=by
 cases x with
 | none=>simp [aB] at h
 | some a=>exact ⟨a,rfl,h⟩
theorem iN {k:IntKind} {v:AV} {K:Int->Option β} (h:bg k v K=some r): ∃n,v= .int k n/\K n=some r:=by
 unfold bg at h;split at h
 .rename_i j n;split at h
  .rename_i e;have e:=PG e;subst e;exact ⟨n,rfl,h⟩
  .cases h
 .cases h
theorem rV {v:AV} {K:Bool->Option β} (h:bG v K=some r): ∃b,v= .bool b/\K b=some r:=by
 unfold bG at h;split at h
 .exact ⟨_,rfl,h⟩
 .cases h
theorem iE {v:AV} {K:List UInt8->Option β} (h:dV v K=some r): ∃b,v= .str b/\K b=some r:=by
 unfold dV at h;split at h
 .exact ⟨_,rfl,h⟩
 .cases h
theorem jN {v:AV} {K:Int->Option β} (h:anyI v K=some r): ∃k n,v= .int k n/\K n=some r:=by
 unfold anyI at h;split at h
 .exact ⟨_,_,rfl,h⟩
 .cases h
theorem tv {v:AV} {K:List AV->Option β} (h:yF v K=some r): ∃cs,v= .agg cs/\K cs=some r:=by
 unfold yF at h;split at h
 .exact ⟨_,rfl,h⟩
 .cases h
theorem Dm {v:AV} {K:List AV->Option β} (h:fU v K=some r): ∃cs,v= .tup cs/\K cs=some r:=by
 unfold fU at h;split at h
 .exact ⟨_,rfl,h⟩
 .cases h
theorem yj {l:List AV} {K:AV->List AV->Option β} (h:br l K=some r): ∃v vs,l=v::vs/\K v vs=some r:=by
 unfold br at h;split at h
 .exact ⟨_,_,rfl,h⟩
 .cases h
theorem zv {l:List AV} {K:Option β} (h:bE l K=some r):l=[]/\K=some r:=by
 unfold bE at h;split at h
 .exact ⟨rfl,h⟩
 .cases h
theorem dp {b:Bool} {K:Option β} (h:cu b K=some r):b=true/\K=some r:=by
 cases b
 .cases h
 .exact ⟨rfl,h⟩
theorem CE {cs:List AV} {off:Nat} {K:AV->Option β} (h:cC cs off K=some r): ∃v,cs[off]? =some v/\K v=some r:=by
 unfold cC at h;split at h
 .exact ⟨_,by assumption,h⟩
 .cases h
theorem yP: ∀{cs:List AV} {off:Nat} {v:AV},cs[off]? =some v->fa cs off= .ok v
 | [],_,_,h=>by simp at h
 | _:: _,0,_,h=>by simp at h;simp [fa,h]
 | _::l,n+1,_,h=>by simp at h;simp only [fa];exact yP h
theorem vD {b:Bool} {z v:AV} {K:AV->Option β} (h:Fv b z v K=some r):K v=some r:=by
 unfold Fv at h;split at h
 .obtain ⟨n,rfl,a⟩:=iN h;cases b <;> exact a
 .obtain ⟨n,rfl,a⟩:=rV h;exact a
 .obtain ⟨n,rfl,a⟩:=iE h;cases b <;> exact a
 .exact h
theorem um: ∀{zs cs:List AV} {K:List AV->Option β},Fo zs cs K=some r->K cs=some r
 | [],cs,K,h=>by
  obtain ⟨rfl,h⟩:=zv h;exact h
 | z::zs,cs,K,h=>by
  obtain ⟨v,l,rfl,hd⟩:=yj h;exact um (K:=fun a=>K (v::a)) (vD (K:=fun v'=>Fo zs l fun a=>K (v'::a)) hd)
theorem gv {b:Bool} {T:TT} {t:TypeId} {v:AV} {K:AV->Option β} (h:yd b T t v K=some r):K v=some r:=by
 unfold yd at h;split at h
 .split at h
  .split at h
   .obtain ⟨cs,rfl,h⟩:=tv h;exact um (K:=fun cs'=>K (.agg cs')) h
   .exact h
  .split at h
   .exact vD h
   .exact h
 .exact h
theorem bS {T:TT} {t:TypeId} {K:TI->Option β} (h:nT T t K=some r): ∃i,ti T t= .ok i/\K i=some r:=by
 unfold nT at h;split at h
 .rename_i i e;exact ⟨i,bO.2 e,h⟩
 .cases h
theorem Di {v:AV} (h:one v=true):v.cells=[v]:=by
 cases v <;> first | rfl | (cases h;done)
theorem l5 {agg:Bool} {v:AV} {K:List AV->Option β} (h:wN agg v K=some r):K v.cells=some r/\(agg=true-> ∃cs,v= .agg cs)/\(agg=false->one v=true):=by
 cases agg with
 | true=>obtain ⟨cs,rfl,h⟩:=tv h;exact ⟨h,fun _=>⟨cs,rfl⟩,(by intro h;cases h)⟩
 | false=>
  obtain ⟨h1,h⟩:=dp h;rw [Di h1];exact ⟨h,(by intro h;cases h),fun _=>h1⟩
theorem iO: ∀{cs:List AV} {K:Option β},sO cs K=some r->eI cs=true/\K=some r
 | [],_,h=>⟨rfl,h⟩
 | v::l,K,h=>by
  obtain ⟨h1,h⟩:=dp h;obtain ⟨a,h⟩:=iO h;exact ⟨by simp [eI,h1,a],h⟩
theorem vr {v:AV} {K:AV->Option β} (h:aJ v K=some r): ∃v',fit v= .ok v'/\K v'=some r:=by
 unfold aJ at h;split at h
 .exact ⟨_,by assumption,h⟩
 .cases h
theorem pY: ∀{cs:List AV} {K:List AV->Option β},DG cs K=some r-> ∃cs',fits cs= .ok cs'/\K cs'=some r
 | [],_,h=>⟨[],rfl,h⟩
 | v::l,K,h=>by
  obtain ⟨v',e,h⟩:=vr h;obtain ⟨a,b,h⟩:=pY h;exact ⟨v'::a,by simp [fits,e,b];rfl,h⟩
theorem Gg {v v':AV} (h:one v=true) (e:fit v= .ok v'):v'=strip v/\bare (strip v)=true:=by
 have:fit v=(match bare (strip v) with | true=> .ok (strip v) | false=> .error "a name within what never changes"):=by
  cases v <;> first | rfl | (cases h;done)
 rw [this] at e;split at e
 .rename_i a;cases e;exact ⟨rfl,a⟩
 .cases e
theorem rv: ∀{cs cs':List AV},eI cs=true->fits cs= .ok cs'->cs'=cs.map strip/\bx (cs.map strip)=true
 | [],cs',_,e=>by cases e;exact ⟨rfl,rfl⟩
 | v::l,cs',h,e=>by
  simp only [eI,N0] at h;simp only [fits,ad,aj] at e;obtain ⟨v',a,d,b,rfl⟩:=e;obtain ⟨rfl,h1⟩:=Gg h.1 a;obtain ⟨rfl,c⟩:=rv h.2 b;exact ⟨rfl,by simp [bw,h1,c]⟩
theorem GN {cs cs':List AV} (h:eI cs=true) (e:fits cs= .ok cs'):fit (.agg cs)= .ok (.agg cs'):=by
 obtain ⟨rfl,a⟩:=rv h e;simp only [fit];have:bare (.agg (cs.map strip))=true:=a;rw [this]
theorem Dh {agg:Bool} {v:AV} {K:AV->Option β} (h:Cr agg v K=some r): ∃v',fit v= .ok v'/\K v'=some r:=by
 cases agg with
 | true=>
  obtain ⟨cs,rfl,h⟩:=tv h;obtain ⟨h1,h⟩:=iO h;obtain ⟨cs',e,h⟩:=pY h;exact ⟨_,GN h1 e,h⟩
 | false=>exact vr h
theorem nE {agg:Bool}: ∀{vs:List AV} {K:List AV->Option β},lE agg vs K=some r-> ∃vs',fits vs= .ok vs'/\K vs'=some r
 | [],_,h=>⟨[],rfl,h⟩
 | v::l,K,h=>by
  obtain ⟨v',e,h⟩:=Dh h;obtain ⟨a,b,h⟩:=nE h;exact ⟨v'::a,by simp [fits,e,b];rfl,h⟩
end
section
variable {E:Env} {O:qL}
structure Gb (E:Env) (O:qL):Prop where
 full:O.full=E.full
 isLook:O.isLook=E.isLook
 bare: ∀f a v,O.bare f a=some v->gD fun n=>(caller E n).bare f a= .ok v
 wide: ∀f a st v,O.wide f a st=some v->gD fun n=>(caller E n).wide f a st= .ok v
 look: ∀f a st v,O.look f a st=some v->gD fun n=>(caller E n).look f a st= .ok v
 round: ∀k a st v,O.round k a st=some v->gD fun n=>(caller E n).round k a st= .ok v
theorem lz (E:Env): ∀n,(caller E n).full=E.full
 | 0=>rfl
 | _+1=>rfl
theorem na (E:Env): ∀n,(caller E n).isLook=E.isLook
 | 0=>rfl
 | _+1=>rfl
def di (E:Env) (st:St) (p:cl cV) (v:AV) (x:Fx):Prop:=gD fun n=>(p >>= az (caller E n) st)= .ok (v,x)
variable {β:Type} {r:β} {K:Kv β} {st:St}
theorem jZ {q:Option Out} (h:nJ q K=some r): ∃v st' x,q=some (v,st',x)/\K v st' x=some r:=by
 obtain ⟨⟨v,st',x⟩,e,h⟩:=bu h;exact ⟨v,st',x,e,h⟩
theorem lC {id:Nat} {o:Obj} {v u:AV} {rd:List Nat} {st':St} {x:Fx} (h:kW st id o v rd=some (u,st',x)):dv st id (some o)= .ok (.wrote id o)/\u=v/\x=⟨rd,.wrote id o⟩/\st'=x.did.app st:=by
 unfold kW at h;split at h
 .rename_i h1;simp only [N1,NU] at h;obtain ⟨rfl,rfl,rfl⟩:=h;have:id.blt st.ro=false:=cB.2 (N4 h1);exact ⟨by simp only [dv,this],rfl,rfl,rfl⟩
 .cases h
theorem iW {o:Obj} {f:Nat->AV} {v:AV} {st':St} {x:Fx} (h:qd st o f=some (v,st',x)):di E st (.ok (.new o f)) v x/\st'=x.did.app st:=by
 simp only [qd,N1,NU] at h;obtain ⟨rfl,rfl,rfl⟩:=h;exact ⟨gD.always fun _=>rfl,rfl⟩
theorem Ch {o:Obj} {f:Nat->AV} (h:made st o f K=some r): ∃v x,di E st (.ok (.new o f)) v x/\K v (x.did.app st) x=some r:=by
 obtain ⟨v,st',x,e,h⟩:=jZ h;obtain ⟨a,rfl⟩:=iW (E:=E) e;exact ⟨v,x,a,h⟩
theorem nB (a:Gb E O) {p:cl cV} {v:AV} {st':St} {x:Fx} (h:sG O p st=some (v,st',x)):di E st p v x/\st'=x.did.app st:=by
 unfold sG at h;split at h
 .cases h;exact ⟨gD.always fun _=>rfl,rfl⟩
 .rename_i id f;split at h
  .rename_i o ho;split at h
   .rename_i v e;cases h;exact ⟨gD.always fun _=>by simp only [ay,az,ho,e,dv];rfl,rfl⟩
   .rename_i v o' e;obtain ⟨h1,rfl,rfl,rfl⟩:=lC h;exact ⟨gD.always fun _=>by simp only [ay,az,ho,e,h1];rfl,rfl⟩
   .cases h
  .cases h
 .rename_i id k f;split at h
  .rename_i o ho;split at h
   .rename_i e;split at h
    .rename_i v d;cases h;exact ⟨gD.always fun _=>by simp only [ay,az,ho,e,d];rfl,rfl⟩
    .cases h
   .rename_i j e;split at h
    .rename_i h1;split at h
     .rename_i o' g;split at h
      .rename_i v d;cases h;exact ⟨gD.always fun _=>by simp only [ay,az,ho,e,h1,g,d];rfl,rfl⟩
      .cases h
     .cases h
    .cases h
   .cases h
  .cases h
 .exact iW h
 .rename_i f args;unfold zd at h;split at h
  .rename_i b;split at h
   .rename_i v e;cases h;refine ⟨(a.bare _ _ _ e).lift fun n c=> ?_,rfl⟩;rw [a.full] at b;simp only [ay,az,lz,b,c];rfl
   .cases h
  .rename_i b;split at h
   .rename_i hl;split at h
    .rename_i v e;cases h;refine ⟨(a.look _ _ _ _ e).lift fun n c=> ?_,rfl⟩;rw [a.full] at b;rw [a.isLook] at hl;simp only [ay,az,lz,na,b,hl,c];rfl
    .cases h
   .rename_i hl;split at h
    .rename_i p e;cases h;refine ⟨(a.wide _ _ _ _ e).lift fun n c=> ?_,rfl⟩;rw [a.full] at b;rw [a.isLook] at hl;simp only [ay,az,lz,na,b,hl,c];rfl
    .cases h
 .rename_i k args;unfold ED at h;split at h
  .rename_i p e;cases h;refine ⟨(a.round _ _ _ _ e).lift fun n c=> ?_,rfl⟩;simp only [ay,az,c];rfl
  .cases h
 .cases h
theorem zI (a:Gb E O) {p:cl cV} (h:eJ O p st K=some r): ∃v x,di E st p v x/\K v (x.did.app st) x=some r:=by
 obtain ⟨v,st',x,e,h⟩:=jZ h;obtain ⟨b,rfl⟩:=nB a e;exact ⟨v,x,b,h⟩
theorem di.of {p q:cl cV} {v:AV} {x:Fx} (e:p=q) (h:di E st p v x):di E st q v x:=e ▸ h
end
section
variable {β:Type} {r:β}
theorem nX {i:Int} {n:Nat} {K:Nat->Option β} (h:ic i n K=some r): ∃k,inside i n= .ok k/\K k=some r:=by
 unfold ic at h;split at h
 .rename_i k;obtain ⟨h1,h⟩:=dp h;exact ⟨k,by simp only [inside,h1],h⟩
 .cases h
theorem rQ {i:Int} {n:Nat} {K:Nat->Option β} (h:dq i n K=some r): ∃k,upto i n= .ok k/\K k=some r:=by
 unfold dq at h;split at h
 .rename_i k;obtain ⟨h1,h⟩:=dp h;exact ⟨k,by simp only [upto,h1],h⟩
 .cases h
theorem E9 {lo:Option Int} {m:Nat} {K:Nat->Option β} (h:Nf lo m K=some r): ∃k,mM lo m= .ok k/\K k=some r:=by
 cases lo with
 | none=>exact ⟨0,rfl,h⟩
 | some l=>exact rQ h
theorem D6 {hi:Option Int} {m d:Nat} {K:Nat->Option β} (h:M4 hi m d K=some r): ∃k,gW hi m d= .ok k/\K k=some r:=by
 cases hi with
 | none=>exact ⟨d,rfl,h⟩
 | some l=>exact rQ h
end
def Fr.look (fr:Fr) (i:Nat):Option AV:=match fr.strict with
 | true=>fr.t.get i
 | false=>some (fr.get i)
theorem ow {fr:Fr} {i:Nat} {v:AV} (h:fr.look i=some v):fr.get i=v:=by
 unfold Fr.look at h;split at h
 .unfold Fr.get;rw [h];rfl
 .exact OS h
theorem Ck {G:Nat->Option (List AV)} {fr:Fr} {i:Nat} {v:AV} (h:fr.look i=some v):bD G fr (.tmp i)= .ok v:=by
 unfold Fr.look at h;simp only [bD];split at h
 .rename_i e;rw [e];dsimp only;rw [h]
 .rename_i e;rw [e];dsimp only;rw [Option.some.inj h]
theorem yE {fr:Fr} {d i:Nat} {v:AV} (hd:d < fr.n):(fr.put (some d) v).look i=if d=i then some v else fr.look i:=by
 have a:d.blt fr.n=true:=dM.2 hd;have e:fr.put (some d) v=⟨fr.n,fr.t.put d v,fr.strict⟩:=by simp only [Fr.put,a]
 rw [e];unfold Fr.look Fr.get;dsimp only;rw [Tr.gI];by_cases h:d=i
 .rw [if_pos h,if_pos h];cases fr.strict <;> rfl
 .rw [if_neg h,if_neg h]
def Sub (N:Nat) (p:PF) (fr:Fr):Prop:=fr.n=N/\ ∀i v,PF.get p i=some v->fr.look i=some v
theorem PF.iB {i j:Nat} {v:AV} {l:PF}:PF.get ((i,v)::l) j=if i=j then some v else PF.get l j:=by
 simp only [PF.get];by_cases h:i=j
 .simp [h]
 .have:i.beq j=false:=by
   cases e:i.beq j
   .rfl
   .exact absurd (NZ e) h
  simp [this,h]
section
variable {β:Type} {r:β} {N:Nat} {p:PF} {fr:Fr} {G:Nat->Option (List AV)} {T:TT} {E:Env} {O:qL} {st:St}
theorem bB {x:Operand} {K:AV->Option β} (h:ev G p x K=some r) (hs:Sub N p fr): ∃v,bD G fr x= .ok v/\K v=some r:=by
 unfold ev at h;split at h
 .split at h
  .rename_i v e;exact ⟨v,Ck (hs.2 _ _ e),h⟩
  .cases h
 .split at h
  .rename_i v e;exact ⟨v,by simp only [bD,e],h⟩
  .cases h
 .split at h
  .rename_i cs e;exact ⟨_,by simp only [bD,e],h⟩
  .cases h
 .exact ⟨_,rfl,h⟩
theorem oZ: ∀{l:List Operand} {K:List AV->Option β},Lo G p l K=some r->Sub N p fr-> ∃vs,jt G fr l= .ok vs/\K vs=some r
 | [],_,h,_=>⟨[],rfl,h⟩
 | x::l,K,h,hs=>by
  obtain ⟨v,e,h⟩:=bB h hs;obtain ⟨vs,a,h⟩:=oZ h hs;exact ⟨v::vs,by simp only [jt,e,a,ay,aE],h⟩
theorem sD {x:Option Operand} {K:Option Int->Option β} (h:LX G p x K=some r) (hs:Sub N p fr): ∃o a,dj G fr x= .ok o/\gX o= .ok a/\K a=some r:=by
 cases x with
 | none=>exact ⟨none,none,rfl,rfl,h⟩
 | some x=>
  obtain ⟨v,e,h⟩:=bB h hs;obtain ⟨k,n,rfl,h⟩:=jN h;exact ⟨some (.int k n),some n,by simp only [dj,e,ay,aE],rfl,h⟩
theorem oS {ty:Nat->Option TypeId}: ∀{l:List (Nat×Operand)} {K:List (Nat×List AV)->Option β},J3 T G p ty l K=some r->Sub N p fr->
  ∃vs:List (Nat×AV),eD G fr l= .ok vs/\K (vs.map fun q=>(q.1,q.2.cells))=some r
 | [],_,h,_=>⟨[],rfl,h⟩
 | (i,x)::l,K,h,hs=>by
  unfold J3 at h;split at h
  .cases h
  .obtain ⟨ti,_,h⟩:=bS h;obtain ⟨v,e,h⟩:=bB h hs;obtain ⟨h,_,_⟩:=l5 h;obtain ⟨vs,a,h⟩:=oS h hs;exact ⟨(i,v)::vs,by simp only [eD,e,a,ay,aE],h⟩
theorem kN {place:Nat->Option (Nat×Nat)}: ∀{vs:List (Nat×AV)} {cells:List AV} {K:List AV->Option β},uC place cells (vs.map fun q=>(q.1,q.2.cells)) K=some r-> ∃cs,gY place cells vs= .ok cs/\K cs=some r
 | [],cells,_,h=>⟨cells,rfl,h⟩
 | (i,v)::vs,cells,K,h=>by
  simp only [Od,uC] at h;split at h
  .cases h
  .rename_i off size e;obtain ⟨h1,h⟩:=dp h;obtain ⟨cs,a,h⟩:=kN h;exact ⟨cs,by simp only [gY,e,h1,a],h⟩
theorem qu: ∀{l:List (Nat×TypeId)} {K:List (Nat×Nat)->Option β},zB T l K=some r-> ∃ps,kC T l= .ok ps/\K ps=some r
 | [],_,h=>⟨[],rfl,h⟩
 | (o,t)::l,K,h=>by
  obtain ⟨i,e,h⟩:=bS h;obtain ⟨ps,a,h⟩:=qu h;exact ⟨_,by simp only [kC,e,a,ay,aE],h⟩
theorem pB: ∀{l:List AV} {n:Nat} {v:AV},za l n=some v->fa l n= .ok v
 | [],_,_,h=>by cases h
 | _:: _,0,_,h=>by cases h;rfl
 | _::l,n+1,_,h=>pB (l:=l) (n:=n) h
theorem gi {i:Int} {n k:Nat} (h:mJ i n=some k):inside i n= .ok k:=by
 unfold mJ at h;split at h
 .split at h
  .rename_i h1;cases h;simp only [inside,h1]
  .cases h
 .cases h
theorem Am {i:TI} {a:AV} {K:Kv β} (h:(ax i.size i.agg a st fun v rd=>K v st ⟨rd,.kept⟩)=some r): ∃v x,di E st (iT i a) v x/\K v (x.did.app st) x=some r:=by
 obtain ⟨⟨v,rd⟩,e,h⟩:=bu h;unfold zl at e;split at e
 .split at e
  .rename_i b;cases e;exact ⟨v,q0,gD.always fun _=>by simp only [iT,b,ay,aE,az];rfl,h⟩
  .cases e
 .rename_i id off;split at e
  .rename_i t cs b;split at e
   .rename_i c;cases e;exact ⟨v,⟨[id],.kept⟩,gD.always fun _=>by simp only [iT,fD,b,c,ay,aE,az,cellsOf,dv],h⟩
   .cases e
  .cases e
 .rename_i k n off;split at e
  .rename_i m f z cs b;split at e
   .rename_i d;split at e
    .rename_i c;cases e;exact ⟨v,⟨[k],.kept⟩,gD.always fun _=>by simp only [iT,fD,b,c,d,ay,aE,az,dv],h⟩
    .cases e
   .cases e
  .cases e
 .cases e
theorem yQ (b:Gb E O) {i:TI} {a v:AV} {K:Kv β} (c:eI v.cells=true) (h:bn O i.size a v v.cells st K=some r): ∃u x,di E st (match a with | .gp k m off=>lZ i k m off v | a=>pk i a v) u x/\K u (x.did.app st) x=some r:=by
 obtain ⟨u,st',x,e,h⟩:=jZ h;unfold AB at e;split at e
 .rename_i id off;split at e
  .rename_i h1;split at e
   .rename_i t cs d;split at e
    .rename_i f;obtain ⟨h4,rfl,rfl,rfl⟩:=lC e;refine ⟨undef,_,gD.always fun _=> ?_,h⟩;simp only [pk,h1,c,OZ,ay,az,d,ox,f,aE];rw [show cJ cs off v.cells=JL cs off v.cells from rfl,h4];rfl
    .cases e
   .cases e
  .cases e
 .obtain ⟨h1,rfl⟩:=nB b e;exact ⟨u,x,h1,h⟩
 .cases e
theorem Dc {t e:TypeId} {i q:TI} {x:AV} {j:Int} {k:IntKind} {K:Kv β} (hi:ti T t= .ok i) (f:i.und= .slice e) (g:ti T e= .ok q) (h:(fc q.size x j st fun a rd=>K a st ⟨rd,.kept⟩)=some r):
  ∃v o,di E st (match x with | .gs a z n=>gQ T t a z n (.int k j) | x=>(do pure (.val (<- indexAddr T t x (.int k j))))) v o/\K v (o.did.app st) o=some r:=by
 obtain ⟨⟨v,rd⟩,b,h⟩:=bu h;unfold Gx at b;split at b
 .split at b
  .rename_i h1;split at b
   .rename_i n c;split at b
    .rename_i u d;cases b;refine ⟨_,q0,gD.always fun _=> ?_,h⟩;simp only [indexAddr,VM.asInt,ay,hi,f,gi c,g,h1,pB d,aE,az];rfl
    .cases b
   .cases b
  .cases b
 .split at b
  .rename_i h1;split at b
   .rename_i n c;cases b;refine ⟨_,q0,gD.always fun _=> ?_,h⟩;simp only [indexAddr,VM.asInt,ay,hi,f,gi c,g,h1,aE,az];rfl
   .cases b
  .cases b
 .rename_i a sz n;split at b
  .rename_i h1;split at b
   .rename_i m c;split at b
    .rename_i mm s z' es l;split at b
     .rename_i d;split at b
      .rename_i p;split at b
       .rename_i u h4;cases b;refine ⟨_,⟨[a],.kept⟩,gD.always fun _=> ?_,h⟩;simp only [gQ,VM.asInt,ay,hi,f,gi c,g,h1,fD,az,l,d,p,pB h4,aE,dv]
       .cases b
      .rename_i p;cases b;refine ⟨_,⟨[a],.kept⟩,gD.always fun _=> ?_,h⟩;simp only [gQ,VM.asInt,ay,hi,f,gi c,g,h1,fD,az,l,d,p,aE,dv]
     .cases b
    .rename_i mm s z' cs l;split at b
     .rename_i d;cases b;refine ⟨_,⟨[a],.kept⟩,gD.always fun _=> ?_,h⟩;simp only [gQ,VM.asInt,ay,hi,f,gi c,g,h1,fD,az,l,d,aE,dv]
     .cases b
    .cases b
   .cases b
  .cases b
 .cases b
theorem uB {off:Nat} {a:AV} {K:AV->Option β} (h:cI off a K=some r):(∃cs,a= .ip cs/\K (.ip (cs.drop off))=some r)\/(∃id o,a= .mp id o/\K (.mp id (o+off))=some r)\/(∃id n o,a= .gp id n o/\K (.gp id n (o+off))=some r):=by
 obtain ⟨v,e,h⟩:=bu h;unfold Kr at e;split at e
 .cases e;exact .inl ⟨_,rfl,h⟩
 .cases e;exact .inr (.inl ⟨_,_,rfl,h⟩)
 .cases e;exact .inr (.inr ⟨_,_,_,rfl,h⟩)
 .cases e
theorem CY {t e:TypeId} {i g:TI} {x:AV} {j:Int} {k:IntKind} {len:Nat} {K:Kv β} (hi:ti T t= .ok i) (b:i.und= .arr len e) (c:ti T e= .ok g) (h:(K0 g.size len x j fun a=>K a st q0)=some r):
  ∃v d,di E st (match x with | .gs a z n=>gQ T t a z n (.int k j) | x=>(do pure (.val (<- indexAddr T t x (.int k j))))) v d/\K v (d.did.app st) d=some r:=by
 obtain ⟨n,f,h⟩:=nX h;rcases uB h with ⟨cs,rfl,h⟩ | ⟨id,o,rfl,h⟩ | ⟨id,m,o,rfl,h⟩
 .refine ⟨_,q0,gD.always fun _=> ?_,h⟩;simp only [indexAddr,VM.asInt,ay,hi,b,f,c,aE,az];rfl
 .refine ⟨_,q0,gD.always fun _=> ?_,h⟩;simp only [indexAddr,VM.asInt,ay,hi,b,f,c,aE,az];rfl
 .refine ⟨_,q0,gD.always fun _=> ?_,h⟩;simp only [indexAddr,VM.asInt,ay,hi,b,f,c,aE,az];rfl
theorem kq {hi:Option Int} {m d a:Nat} (h:ph hi m d=some a):gW hi m d= .ok a:=by
 unfold ph at h;split at h
 .split at h
  .split at h
   .rename_i h1;cases h;simp only [gW,upto,h1]
   .cases h
  .cases h
 .cases h;rfl
theorem tI {lo:Option Int} {m a:Nat} (h:ph lo m 0=some a):mM lo m= .ok a:=by
 unfold ph at h;split at h
 .split at h
  .split at h
   .rename_i h1;cases h;simp only [mM,upto,h1]
   .cases h
  .cases h
 .cases h;rfl
theorem yX {t e:TypeId} {i u:TI} {x:AV} {lo hi mx:Option Int} {g j l:Option AV} {K:AV->Option β} (n:ti T t= .ok i) (o:i.und= .slice e) (p:ti T e= .ok u)
  (hl:gX g= .ok lo) (q:gX j= .ok hi) (s:gX l= .ok mx) (h:iL u.size x lo hi mx K=some r): ∃v,iV T t x g j l= .ok v/\K v=some r:=by
 obtain ⟨v,c,h⟩:=bu h;refine ⟨v, ?_,h⟩;clear h;unfold kM at c;split at c
 .split at c
  .rename_i m d;split at c
   .rename_i a h1;split at c
    .rename_i b f;cases c;simp only [iV,hl,q,s,ay,n,o,p,kq d,kq h1,tI f,aE]
    .cases c
   .cases c
  .cases c
 .split at c
  .rename_i m d;split at c
   .rename_i a h1;split at c
    .rename_i b f;cases c;simp only [iV,hl,q,s,ay,n,o,p,kq d,kq h1,tI f,aE]
    .cases c
   .cases c
  .cases c
 .split at c
  .rename_i h0;split at c
   .rename_i m d;split at c
    .rename_i a h1;split at c
     .rename_i b f;split at c
      .rename_i h4;cases c;simp only [iV,hl,q,s,ay,n,o,p,h0,kq h1,tI f,kq d,h4,aE]
      .cases c
     .cases c
    .cases c
   .cases c
  .cases c
 .rename_i sz es pm;split at c
  .rename_i h0;split at c
   .rename_i a h1;split at c
    .rename_i b f;have key:(match a.beq es.length,pm with
      | true,.shut=>(pure (.sl sz (es.drop b) .shut):cl AV)
      | true,.own k=>match b.beq 0 with
       | true=>pure (.sl sz es (.own k))
       | false=>pure (.sl sz (es.drop b) .wide)
      | _,_=>pure (.sl sz ((es.take a).drop b) .wide))= .ok v:=by
      revert c;cases a.beq es.length <;> cases pm <;> cases b.beq 0 <;> intro c <;> cases c <;> rfl
     simp only [iV,hl,q,s,ay,n,o,p,h0,kq h1,tI f];exact key
    .cases c
   .cases c
  .cases c
 .split at c
  .rename_i h0;split at c
   .rename_i m d;split at c
    .rename_i a h1;split at c
     .rename_i b f;cases c;have d:gW (some _) _ 0= .ok m:=kq d;simp only [gW] at d;simp only [iV,hl,q,s,ay,n,o,p,h0,kq h1,tI f,d];rfl
     .cases c
    .cases c
   .cases c
  .cases c
 .cases c
theorem vz {t:TypeId} {i:TI} {x y:AV} {K:Bool->Option β} (hi:ti T t= .ok i) (h:Em i.und x y K=some r): ∃b,xg T 20 t x y= .ok b/\K b=some r:=by
 obtain ⟨b,e,h⟩:=bu h;refine ⟨b, ?_,h⟩;clear h;unfold Ld at e;split at e <;> first | (cases e;done) | skip
 all_goals
  rename_i a;cases e;show (do let i <- ti T t;_)= _;rw [hi,ay];simp only [a]
theorem A8 {t:TypeId} {i:TI} {x y:AV} {b:Bool} (hi:ti T t= .ok i) (e:xg T 20 t x y= .ok b) (c:iw i.und=true):(∀k n,x≠ .int k n)/\(∀s,x≠ .str s):=by
 have e:(do let i <- ti T t;_)= _:=e;rw [hi,ay] at e;constructor
 .rintro k n rfl;cases a:i.und <;> simp [a,iw] at c e
 .rintro s rfl;cases a:i.und <;> simp [a,iw] at c e
theorem FA {t:TypeId} {i:TI} {x y:AV} {b:Bool} (hi:ti T t= .ok i) (e:xg T 20 t x y= .ok b) (a:iw i.und=true):VM.binOp T .eql t x y= .ok (.bool b):=by
 obtain ⟨h1,c⟩:=A8 hi e a;cases x <;> first | (exact absurd rfl (h1 _ _)) | (exact absurd rfl (c _)) | (simp only [VM.binOp,e,ay,aE])
theorem Fg {t:TypeId} {i:TI} {x y:AV} {b:Bool} (hi:ti T t= .ok i) (e:xg T 20 t x y= .ok b) (a:iw i.und=true):VM.binOp T .neq t x y= .ok (.bool !b):=by
 obtain ⟨h1,c⟩:=A8 hi e a;cases x <;> first | (exact absurd rfl (h1 _ _)) | (exact absurd rfl (c _)) | (simp only [VM.binOp,e,ay,aE])
theorem C6 {op:BinOp} {t:TypeId} {x y:AV} {K:AV->Option β} (h:Lg T op t x y K=some r): ∃v,VM.binOp T op t x y= .ok v/\K v=some r:=by
 obtain ⟨i,hi,h⟩:=bS h;split at h
 .obtain ⟨b,e,h⟩:=vz hi h;refine ⟨_, ?_,h⟩;rw [FA hi e ‹_›]
 .obtain ⟨b,e,h⟩:=vz hi h;refine ⟨_, ?_,h⟩;rw [Fg hi e ‹_›]
 .split at h
  .obtain ⟨a,c,h⟩:=iE h;obtain ⟨b,hy,h⟩:=iE h;obtain ⟨h1,h⟩:=dp h;exact ⟨_,by simp only [c,hy,VM.binOp,AY,h1],h⟩
  .obtain ⟨a,c,h⟩:=iN h;obtain ⟨b,hy,h⟩:=iN h;obtain ⟨h1,h⟩:=dp h;have h1:¬ b=0:=by simpa using h1
   exact ⟨_,by simp only [c,hy,VM.binOp,xI,if_true,if_neg h1],h⟩
  .obtain ⟨a,c,h⟩:=iN h;obtain ⟨b,hy,h⟩:=iN h;obtain ⟨h1,h⟩:=dp h;have h1:¬ b=0:=by simpa using h1
   exact ⟨_,by simp only [c,hy,VM.binOp,xI,if_true,if_neg h1],h⟩
  .obtain ⟨a,c,h⟩:=iN h;obtain ⟨d,b,hy,h⟩:=jN h;obtain ⟨h1,h⟩:=dp h;have h1:¬ b < 0:=by simpa using h1
   exact ⟨_,by simp only [c,hy,VM.binOp,if_neg h1],h⟩
  .obtain ⟨a,c,h⟩:=iN h;obtain ⟨d,b,hy,h⟩:=jN h;obtain ⟨h1,h⟩:=dp h;have h1:¬ b < 0:=by simpa using h1
   exact ⟨_,by simp only [c,hy,VM.binOp,if_neg h1],h⟩
  .obtain ⟨v,e,h⟩:=bu h;exact ⟨v,oV e,h⟩
end
section
variable {β:Type} {r:β} {N:Nat} {p:PF} {fr:Fr} {E:Env} {st:St}
theorem Cp {i:TI} {e:TypeId} {s:AV} {new b:List AV} {K:Kv β} (hf:fits new= .ok b) (f:(b.all fun v=>v.cells.length.beq i.size)=true) (h:cq i.size i.bytes e s b st K=some r):
  ∃v x,di E st (fG i e s new) v x/\K v (x.did.app st) x=some r:=by
 obtain ⟨u,st',x,a,h⟩:=jZ h;cases new with
 | nil=>
  cases hf;simp only [rj] at a;split at a
  .cases a;exact ⟨_,q0,gD.always fun _=>by simp only [fG,aE,ay,az];rfl,h⟩
  .cases a;exact ⟨_,q0,gD.always fun _=>by simp only [fG,aE,ay,az];rfl,h⟩
  .cases a;exact ⟨_,q0,gD.always fun _=>by simp only [fG,aE,ay,az];rfl,h⟩
  .cases a
 | cons v l=>
  have c:=hf;simp only [fits,ad,aj] at c;obtain ⟨v',_,g,_,rfl⟩:=c;simp only [rj] at a;split at a
  .split at a
   .rename_i h1;have h1:cU (v'::g).length i=true:=h1;obtain ⟨d,rfl⟩:=iW (E:=E) a;refine ⟨u,x,di.of ?_ d,h⟩;simp only [fG,hf,ay,f,h1,aE]
   .cases a
  .rename_i y es pm;split at a
   .rename_i h1;have h1:(cU (es.length+(v'::g).length) i&&y.beq i.size)=true:=h1;cases pm with
    | shut=>
     obtain ⟨d,rfl⟩:=iW (E:=E) a;refine ⟨u,x,di.of ?_ d,h⟩;simp only [fG,hf,ay,f,h1,aE]
    | own k=>
     dsimp only at a;split at a
     .rename_i n p j;split at a
      .rename_i m;obtain ⟨o,rfl,rfl,rfl⟩:=lC a;refine ⟨_,⟨[k],.wrote k _⟩,gD.always fun _=> ?_,h⟩;simp only [fG,hf,ay,f,h1,aE,az,j,m,o]
      .cases a
     .cases a
    | wide=>cases a
   .cases a
  .split at a
   .rename_i h1;have h1:cU (v'::g).length i=true:=h1;obtain ⟨d,rfl⟩:=iW (E:=E) a;refine ⟨u,x,di.of ?_ d,h⟩;simp only [fG,hf,ay,f,h1,aE]
   .cases a
  .cases a
def gV (S:Sx) (fr:Fr) (o:Op):cl cV:=dG S.T S.prim S.imm S.G fr o
theorem BC {S:Sx} (hO:Gb E S.O) {o:Op} {K:Kv β} (h:FK S o p st K=some r) (hs:Sub N p fr): ∃v x,di E st (gV S fr o) v x/\K v (x.did.app st) x=some r:=by
 have val: ∀{w:AV},gV S fr o= .ok (.val w)->K w st q0=some r-> ∃v x,di E st (gV S fr o) v x/\K v (x.did.app st) x=some r:=fun {w} e h=>⟨w,q0,di.of e.symm (gD.always fun _=>rfl),h⟩;have A: ∀{q:cl cV},gV S fr o=q->eJ S.O q st K=some r-> ∃v x,di E st (gV S fr o) v x/\K v (x.did.app st) x=some r:=fun {q} e h=>by
  obtain ⟨v,x,D,h⟩:=zI hO h;exact ⟨v,x,di.of e.symm D,h⟩
 have H: ∀{ob:Obj} {f:Nat->AV},gV S fr o= .ok (.new ob f)->made st ob f K=some r-> ∃v x,di E st (gV S fr o) v x/\K v (x.did.app st) x=some r:=fun {ob f} e h=>by
  obtain ⟨v,x,D,h⟩:=Ch (E:=E) h;exact ⟨v,x,di.of e.symm D,h⟩
 unfold FK at h;split at h
 .obtain ⟨v,e,h⟩:=bB h hs;exact val (by simp only [gV,dG,e,ay,aE]) h
 .obtain ⟨v,e,h⟩:=bB h hs;exact val (by simp only [gV,dG,e,ay,aE]) h
 .obtain ⟨c,e,h⟩:=bB h hs;obtain ⟨b,rfl,h⟩:=rV h;cases b with
  | true=>
   obtain ⟨v,F,h⟩:=bB h hs;exact val (by simp only [gV,dG,e,F,ay,aE,VM.asBool]) h
  | false=>
   obtain ⟨v,F,h⟩:=bB h hs;exact val (by simp only [gV,dG,e,F,ay,aE,VM.asBool]) h
 .obtain ⟨i,e,h⟩:=bS h;exact H (by simp only [gV,dG,e,ay,aE]) h
 ·-- box
  obtain ⟨i,e,h⟩:=bS h;obtain ⟨v,F,h⟩:=bB h hs;obtain ⟨h,_,_⟩:=l5 h;obtain ⟨h1,h⟩:=dp h;obtain ⟨B,h⟩:=iO h;split at h
  .rename_i hi;obtain ⟨cs,U,h⟩:=pY h;exact val (by simp only [gV,dG,e,F,ay,aE,EU,h1,B,OZ,hi,U]) h
  .rename_i hi;exact H (by simp only [gV,dG,e,F,ay,EU,h1,B,OZ,hi]) h
 ·-- build
  obtain ⟨i,e,h⟩:=bS h;split at h
  .rename_i fs z;obtain ⟨vs,h1,h⟩:=oS h hs;obtain ⟨sz,B,h⟩:=qu h;obtain ⟨cs,U,h⟩:=kN h;exact val (by simp only [gV,dG,build,e,z,h1,B,U,ay,aE]) h
  .rename_i X z;obtain ⟨vs,h1,h⟩:=oS h hs;obtain ⟨Y,B,h⟩:=bS h;obtain ⟨cs,U,h⟩:=kN h;exact val (by simp only [gV,dG,build,e,z,h1,B,U,ay,aE]) h
  .cases h
 ·-- buildSlice
  obtain ⟨i,e,h⟩:=bS h;split at h
  .rename_i X z;obtain ⟨Y,B,h⟩:=bS h;obtain ⟨vs,h1,h⟩:=oS h hs;obtain ⟨h4,h⟩:=dp h;obtain ⟨cs,U,h⟩:=kN h;obtain ⟨h5,h⟩:=iO h;split at h
   .rename_i gs h6;obtain ⟨b4,h7,h⟩:=nE h;exact val (by simp only [gV,dG,buildSlice,e,z,h1,B,U,h4,h5,h6,h7,ay,aE]) h
   .cases h
  .cases h
 ·-- makeSlice
  obtain ⟨l,e,h⟩:=bB h hs;obtain ⟨c,F,h⟩:=bB h hs;exact A (by simp only [gV,dG,e,F,ay]) h
 ·-- load
  obtain ⟨i,e,h⟩:=bS h;obtain ⟨a,F,h⟩:=bB h hs;obtain ⟨v,x,D,h⟩:=Am (E:=E) h;exact ⟨v,x,di.of (by simp only [gV,dG,e,F,ay]) D,h⟩
 ·-- store
  obtain ⟨i,e,h⟩:=bS h;obtain ⟨a,d,h⟩:=bB h hs;obtain ⟨v,y,h⟩:=bB h hs;obtain ⟨h,_,_⟩:=l5 h;obtain ⟨B,h⟩:=iO h;obtain ⟨u,x,D,h⟩:=yQ hO B h;refine ⟨u,x,di.of ?_ D,h⟩;simp only [gV,dG,e,d,y,ay];cases a <;> rfl
 ·-- nilCheck
  obtain ⟨a,d,h⟩:=bB h hs;obtain ⟨R,h⟩:=dp h;refine val ?_ h;unfold notNil at R;split at R
  .simp only [gV,dG,d,ay,aE]
  .simp only [gV,dG,d,ay,aE]
  .simp only [gV,dG,d,ay,aE]
  .simp only [gV,dG,d,ay,aE]
  .cases R
 ·-- binOp
  obtain ⟨a,d,h⟩:=bB h hs;obtain ⟨b,y,h⟩:=bB h hs;split at h
  .rename_i V;obtain ⟨v,I,h⟩:=bu h;have I:GI _ a=some v:=I;exact val (by simp only [gV,dG,tC,V,d,y,I,ay,aE]) h
  .rename_i V;obtain ⟨v,I,h⟩:=C6 h;exact val (by simp only [gV,dG,tC,V,d,y,I,ay,aE]) h
 ·-- unOp
  obtain ⟨a,d,h⟩:=bB h hs;obtain ⟨v,y,h⟩:=bu h;exact val (by simp only [gV,dG,d,oV y,ay,aE]) h
 ·-- convert
  obtain ⟨a,d,h⟩:=bB h hs;exact A (by simp only [gV,dG,d,ay]) h
 ·-- makeInterface
  obtain ⟨i,e,h⟩:=bS h;split at h
  .cases h
  .cases h
  .rename_i h1 B;obtain ⟨a,d,h⟩:=bB h hs;refine val ?_ h;simp only [gV,dG,e,d,ay,aE]
 ·-- makeFunc
  obtain ⟨a,d,h⟩:=oZ h hs;obtain ⟨c,y,h⟩:=oZ h hs;exact val (by simp only [gV,dG,d,y,ay,aE]) h
 ·-- makeMap
  exact H (by simp only [gV,dG]) h
 ·-- slice
  rename_i t x lo hi mx;split at h
  .cases h
  .obtain ⟨i,e,h⟩:=bS h;obtain ⟨W,d,h⟩:=bB h hs;obtain ⟨b5,a6,y,Z,h⟩:=sD h hs;obtain ⟨b6,a7,I,av,h⟩:=sD h hs;obtain ⟨b7,a8,e4,a1,h⟩:=sD h hs;split at h
   .rename_i z;obtain ⟨s,rfl,h⟩:=iE h;split at h
    .obtain ⟨a,h1,h⟩:=D6 h;obtain ⟨b,B,h⟩:=E9 h;refine val ?_ h;simp only [gV,dG,d,y,I,e4,ay,iV,Z,av,a1,e,z,h1,B,aE]
    .cases h
   .rename_i X z;obtain ⟨Y,P,h⟩:=bS h;obtain ⟨v,h1,h⟩:=yX e z P Z av a1 h;refine val ?_ h;simp only [gV,dG,d,y,I,e4,ay,h1,aE]
   .cases h
 ·-- fieldAddr
  obtain ⟨i,e,h⟩:=bS h;split at h
  .rename_i fs z;split at h
   .rename_i off ft hf;obtain ⟨fi,d,h⟩:=bS h;split at h
    .cases h
    .rename_i hz;obtain ⟨a,y,h⟩:=bB h hs;rcases uB h with ⟨cs,rfl,h⟩ | ⟨id,o,rfl,h⟩ | ⟨id,m,o,rfl,h⟩
     .exact val (by simp only [gV,dG,fieldAddr,e,y,z,hf,d,hz,ay,aE]) h
     .exact val (by simp only [gV,dG,fieldAddr,e,y,z,hf,d,hz,ay,aE]) h
     .exact val (by simp only [gV,dG,fieldAddr,e,y,z,hf,d,hz,ay,aE]) h
   .cases h
  .cases h
 ·-- field
  obtain ⟨a,d,h⟩:=bB h hs;obtain ⟨v,y,h⟩:=bu h;exact val (by simp only [gV,dG,d,oV y,ay,aE]) h
 ·-- indexAddr
  obtain ⟨i,e,h⟩:=bS h;obtain ⟨x,d,h⟩:=bB h hs;obtain ⟨j,y,h⟩:=bB h hs;obtain ⟨k,n,rfl,h⟩:=jN h;split at h
  .rename_i X z;obtain ⟨Y,P,h⟩:=bS h;obtain ⟨v,W,D,h⟩:=Dc (E:=E) (k:=k) e z P h;refine ⟨v,W,di.of ?_ D,h⟩;simp only [gV,dG,d,y,ay];cases x <;> rfl
  .rename_i len X z;obtain ⟨Y,P,h⟩:=bS h;obtain ⟨v,W,D,h⟩:=CY (E:=E) (k:=k) e z P h;refine ⟨v,W,di.of ?_ D,h⟩;simp only [gV,dG,d,y,ay];cases x <;> rfl
  .cases h
 ·-- index
  obtain ⟨i,e,h⟩:=bS h;obtain ⟨x,d,h⟩:=bB h hs;obtain ⟨j,y,h⟩:=bB h hs;split at h
  .rename_i z;obtain ⟨s,rfl,h⟩:=iE h;obtain ⟨k,n,rfl,h⟩:=jN h;obtain ⟨m,h1,h⟩:=nX h;split at h
   .rename_i b B;exact val (by simp only [gV,dG,d,y,ay,rJ,VM.asInt,e,z,h1,B,aE]) h
   .cases h
  .obtain ⟨v,I,h⟩:=bu h;exact val (by simp only [gV,dG,d,y,oV I,ay,aE]) h
 ·-- lookup
  obtain ⟨x,d,h⟩:=bB h hs;obtain ⟨j,y,h⟩:=bB h hs;exact A (by simp only [gV,dG,d,y,ay]) h
 .obtain ⟨x,d,h⟩:=bB h hs;obtain ⟨j,y,h⟩:=bB h hs;obtain ⟨v,I,h⟩:=bB h hs;exact A (by simp only [gV,dG,d,y,I,ay]) h
 .obtain ⟨x,d,h⟩:=bB h hs;obtain ⟨j,y,h⟩:=bB h hs;obtain ⟨v,I,h⟩:=bB h hs;exact A (by simp only [gV,dG,d,y,I,ay]) h
 ·-- range
  obtain ⟨x,d,h⟩:=bB h hs;obtain ⟨i,e,h⟩:=bS h;split at h
  .rename_i z;obtain ⟨s,hx,h'⟩:=iE h;exact H (by simp only [gV,dG,e,d,ay,z,hx,aE]) h'
  .cases h
 ·-- next
  obtain ⟨x,d,h⟩:=bB h hs;exact A (by simp only [gV,dG,d,ay]) h
 ·-- extract
  obtain ⟨x,d,h⟩:=bB h hs;obtain ⟨vs,rfl,h⟩:=Dm h;obtain ⟨v,y,h⟩:=CE h;exact val (by simp only [gV,dG,d,ay,yP y,aE]) h
 ·-- call
  rename_i c;obtain ⟨args,d,h⟩:=oZ h hs;split at h
  .rename_i b V;have y:gV S fr (.call c)=dS S.T S.imm b c.argTypes.toList args:=by simp only [gV,dG,d,ay,V]
   split at h
   .rename_i x t ts W ea L;obtain ⟨i,e,h⟩:=bS h;split at h
    .rename_i z;obtain ⟨s,rfl,h⟩:=iE h;exact val (by simp only [y,L,dS,tT,e,ay,z,aE]) h
    .rename_i X z;obtain ⟨n,Q,h⟩:=bu h;refine val ?_ h;unfold Ll at Q;split at Q
     .cases Q;simp only [y,L,dS,tT,e,ay,z,aE];rfl
     .cases Q;simp only [y,L,dS,tT,e,ay,z,aE]
     .cases Q;simp only [y,L,dS,tT,e,ay,z,aE]
     .cases Q;simp only [y,L,dS,tT,e,ay,z,aE]
     .cases Q;simp only [y,L,dS,tT,e,ay,z,aE];rfl
     .cases Q
    .exact A (by simp only [y,L,dS]) h
   .rename_i t xt s x L;obtain ⟨i,e,h⟩:=bS h;obtain ⟨xi,F,h⟩:=bS h;split at h
    .rename_i X z R;obtain ⟨Y,P,h⟩:=bS h;unfold jJ at h;split at h
     .rename_i new J;split at h
      .rename_i G;exact A (by simp only [y,L,dS,e,F,ay,z,R,P,J,G]) h
      split at h
      .rename_i G _ C;exact A (by simp only [y,L,dS,e,F,ay,z,R,P,J,G,C]) h
      split at h
      .rename_i G _ C _ M;exact A (by simp only [y,L,dS,e,F,ay,z,R,P,J,G,C,M]) h
      .rename_i G _ C _ M;obtain ⟨bb,h1,h⟩:=nE h;obtain ⟨B,h⟩:=dp h;obtain ⟨v,W,D,h⟩:=Cp (E:=E) h1 B h;refine ⟨v,W,di.of ?_ D,h⟩;simp only [y,L,dS,e,F,ay,z,R,P,J,G,C,M]
     .cases h
    .cases h
   .exact A y h
  .rename_i f V;obtain ⟨g,y,h⟩:=bB h hs;obtain ⟨v,st',x,Q,h⟩:=jZ h;obtain ⟨D,rfl⟩:=nB hO Q;refine ⟨v,x,di.of ?_ D,h⟩;simp only [gV,dG,d,y,ay,V,El,aE];cases g <;> first | rfl | (rename_i f _ _;cases f <;> rfl)
  .cases h
 .cases h
end
section frame
variable {X:Cx}
theorem uJ {fr:Fr} {d:Option Nat} {v:AV} {i:Nat} (h:d≠some i):(fr.put d v).look i=fr.look i:=by
 cases d with
 | none=>rfl
 | some d=>
  by_cases hd:d < fr.n
  .rw [yE hd,if_neg fun e=>h (by rw [e])]
  .have a:d.blt fr.n=false:=cB.2 (by omega);have e:fr.put (some d) v=fr:=by simp only [Fr.put,a]
   rw [e]
theorem pI {n:Nat}: ∀{l:List Nat},pb n l=true↔n∈l
 | []=>by simp [pb]
 | m::l=>by simp [pb,pI (l:=l)]
theorem gK {all:List Oper} {draw:Bool}: ∀{l:List Oper} {j:Nat} {seen:List (Nat×Fx)} {fr fr':Fr} {st st':St},cS X all draw j seen l fr st= .ok (fr',st')->
  fr'.n=fr.n/\ ∀i,i∉bZ l->fr'.look i=fr.look i
 | [],_,_,_,_,_,_,h=>by simp only [cS,NT,NU] at h;obtain ⟨rfl,rfl⟩:=h;exact ⟨rfl,fun _ _=>rfl⟩
 | o::l,j,seen,fr,fr',st,st',h=>by
  simp only [cS,ad] at h;obtain ⟨⟨v,x⟩,_,h⟩:=h;have key:fr'.n=(fr.put o.dst v).n/\ ∀i,i∉bZ l->fr'.look i=(fr.put o.dst v).look i:=by
   dsimp only at h;split at h
   .exact gK h
   .split at h
    .exact gK h
    .cases h
  refine ⟨key.1.trans (Fr.DS _ _ _),fun i hi=> ?_⟩;have h1:i∉bZ l/\o.dst≠some i:=by
   cases hd:o.dst with
   | none=>simp [bZ,hd] at hi;exact ⟨hi,by simp⟩
   | some d=>
    simp [bZ,hd] at hi;exact ⟨hi.2,fun e=>hi.1 (by cases e;rfl)⟩
  rw [key.2 i h1.1,uJ h1.2]
theorem fW {e:Nat->Option Nat} {all:List Oper}: ∀{l:List Oper} {j:Nat} {seen:List (Nat×Fx)} {fr fr':Fr} {st st':St},cw X e all j seen l fr st= .ok (fr',st')->
  fr'.n=fr.n/\ ∀i,i∉bZ l->fr'.look i=fr.look i
 | [],_,_,_,_,_,_,h=>by simp only [cw,NT,NU] at h;obtain ⟨rfl,rfl⟩:=h;exact ⟨rfl,fun _ _=>rfl⟩
 | o::l,j,seen,fr,fr',st,st',h=>by
  simp only [cw,ad] at h;obtain ⟨⟨v,x⟩,_,h⟩:=h;have key:fr'.n=(fr.put o.dst v).n/\ ∀i,i∉bZ l->fr'.look i=(fr.put o.dst v).look i:=by
   dsimp only at h;split at h
   .exact fW h
   .split at h
    .exact fW h
    .cases h
  refine ⟨key.1.trans (Fr.DS _ _ _),fun i hi=> ?_⟩;have h1:i∉bZ l/\o.dst≠some i:=by
   cases hd:o.dst with
   | none=>simp [bZ,hd] at hi;exact ⟨hi,by simp⟩
   | some d=>
    simp [bZ,hd] at hi;exact ⟨hi.2,fun e=>hi.1 (by cases e;rfl)⟩
  rw [key.2 i h1.1,uJ h1.2]
theorem sn {body:Fr->St->cl (Ex×Fr×St)} {W:List Nat} (d: ∀fr st ex fr' st',body fr st= .ok (ex,fr',st')->fr'.n=fr.n/\ ∀i,i∉W->fr'.look i=fr.look i):
  ∀(n:Nat) {fr fr':Fr} {st st':St} {ex:Ex},iter body n fr st= .ok (ex,fr',st')->fr'.n=fr.n/\ ∀i,i∉W->fr'.look i=fr.look i
 | 0,_,_,_,_,_,h=>by simp [iter] at h
 | n+1,fr,fr',st,st',ex,h=>by
  simp only [iter,ad] at h;obtain ⟨⟨c,f,st1⟩,h1,a⟩:=h;have b:=d _ _ _ _ _ h1;cases c with
  | normal=>
   have e:=sn d n a;exact ⟨e.1.trans b.1,fun i hi=>(e.2 i hi).trans (b.2 i hi)⟩
  | exit id=>
   simp only [aj,NU] at a;obtain ⟨_,rfl,_⟩:=a;exact b
  | ret=>
   simp only [aj,NU] at a;obtain ⟨_,rfl,_⟩:=a;exact b
theorem oa {n:Nat} {x:Operand} {ps:Array Tmp} {y c:Code} {fr fr':Fr} {st st':St} {ex:Ex} (h:exec X n (.rangeFunc x ps y c) fr st= .ok (ex,fr',st')):fr'=fr:=by
 simp only [exec] at h;split at h
 .cases h
 .simp only [ad] at h;obtain ⟨a,h1,h⟩:=h;split at h
  .simp only [ad] at h;obtain ⟨q,b,o,d,h4⟩:=h;split at h4
   .split at h4
    .simp only [aj,NU] at h4;exact h4.2.1.symm
    .cases h4
   .cases h4
  .cases h
theorem iS {all:List Oper} {draw:Bool}: ∀{l:List Oper} {j:Nat} {seen:List (Nat×Fx)} {fr fr':Fr} {st st':St},cS X all draw j seen l fr st= .ok (fr',st')->fr'.strict=fr.strict
 | [],_,_,_,_,_,_,h=>by simp only [cS,NT,NU] at h;rw [h.1]
 | o::l,j,seen,fr,fr',st,st',h=>by
  simp only [cS,ad] at h;obtain ⟨⟨v,x⟩,_,h⟩:=h;have key:fr'.strict=(fr.put o.dst v).strict:=by
   dsimp only at h;split at h
   .exact iS h
   .split at h
    .exact iS h
    .cases h
  exact key.trans (fg _ _ _)
theorem gU {e:Nat->Option Nat} {all:List Oper}: ∀{l:List Oper} {j:Nat} {seen:List (Nat×Fx)} {fr fr':Fr} {st st':St},cw X e all j seen l fr st= .ok (fr',st')->fr'.strict=fr.strict
 | [],_,_,_,_,_,_,h=>by simp only [cw,NT,NU] at h;rw [h.1]
 | o::l,j,seen,fr,fr',st,st',h=>by
  simp only [cw,ad] at h;obtain ⟨⟨v,x⟩,_,h⟩:=h;have key:fr'.strict=(fr.put o.dst v).strict:=by
   dsimp only at h;split at h
   .exact gU h
   .split at h
    .exact gU h
    .cases h
  exact key.trans (fg _ _ _)
theorem qx {body:Fr->St->cl (Ex×Fr×St)} (d: ∀fr st ex fr' st',body fr st= .ok (ex,fr',st')->fr'.strict=fr.strict): ∀(n:Nat) {fr fr':Fr} {st st':St} {ex:Ex},iter body n fr st= .ok (ex,fr',st')->fr'.strict=fr.strict
 | 0,_,_,_,_,_,h=>by simp [iter] at h
 | n+1,fr,fr',st,st',ex,h=>by
  simp only [iter,ad] at h;obtain ⟨⟨b,e,st1⟩,h1,a⟩:=h;have c:=d _ _ _ _ _ h1;cases b with
  | normal=>exact (qx d n a).trans c
  | exit id=>
   simp only [aj,NU] at a;rw [<- a.2.1];exact c
  | ret=>
   simp only [aj,NU] at a;rw [<- a.2.1];exact c
theorem ec {n:Nat}: ∀(c:Code) {fr fr':Fr} {st st':St} {ex:Ex},exec X n c fr st= .ok (ex,fr',st')->fr'.strict=fr.strict
 | .skip,_,_,_,_,_,h | .label _,_,_,_,_,_,h | .exit _,_,_,_,_,_,h | .ret,_,_,_,_,_,h=>by
  simp only [exec,NT,NU] at h;rw [h.2.1]
 | .goto _,_,_,_,_,_,h | .refuse _,_,_,_,_,_,h=>by simp [exec] at h
 | .rangeFunc ..,_,_,_,_,_,h=>by rw [oa h]
 | .scope c,_,_,_,_,_,h=>ec c h
 | .region _ _ _,_,_,_,_,_,h=>by
  simp only [exec] at h;split at h <;> simp only [ad,aj] at h <;> obtain ⟨⟨g,st1⟩,h1,d⟩:=h <;> simp only [NU] at d <;> obtain ⟨_,rfl,_⟩:=d
  .exact iS h1
  .exact gU h1
 | .seq a b,_,_,_,_,_,h=>by
  simp only [exec,ad] at h;obtain ⟨⟨e,g,st1⟩,h1,d⟩:=h;have f:=ec a h1;cases e with
  | normal=>exact (ec b d).trans f
  | exit id=>simp only [aj,NU] at d;rw [<- d.2.1];exact f
  | ret=>simp only [aj,NU] at d;rw [<- d.2.1];exact f
 | .cond c a b,_,_,_,_,_,h=>by
  simp only [exec,ad] at h;obtain ⟨k,_,v,_,j⟩:=h;cases v
  .exact ec b j
  .exact ec a j
 | .block id c,_,_,_,_,_,h=>by
  simp only [exec,ad] at h;obtain ⟨⟨e,g,st1⟩,h1,d⟩:=h;have f:=ec c h1;cases e with
  | normal=>simp only [aj,NU] at d;rw [<- d.2.1];exact f
  | ret=>simp only [aj,NU] at d;rw [<- d.2.1];exact f
  | exit i=>
   dsimp only at d;split at d <;> (simp only [aj,NU] at d;rw [<- d.2.1];exact f)
 | .loop c,_,_,_,_,_,h=>by
  simp only [exec] at h;exact qx (fun _ _ _ _ _ h=>ec c h) n h
theorem dP {n:Nat}: ∀(c:Code) {fr fr':Fr} {st st':St} {ex:Ex},exec X n c fr st= .ok (ex,fr',st')->fr'.n=fr.n/\ ∀i,i∉writes c->fr'.look i=fr.look i
 | .skip,_,_,_,_,_,h | .label _,_,_,_,_,_,h | .exit _,_,_,_,_,_,h | .ret,_,_,_,_,_,h=>by
  simp only [exec,NT,NU] at h;obtain ⟨_,rfl,_⟩:=h;exact ⟨rfl,fun _ _=>rfl⟩
 | .goto _,_,_,_,_,_,h | .refuse _,_,_,_,_,_,h=>by simp [exec] at h
 | .rangeFunc ..,_,_,_,_,_,h=>by
  obtain rfl:=oa h;exact ⟨rfl,fun _ _=>rfl⟩
 | .scope c,_,_,_,_,_,h=>dP c h
 | .region _ _ _,_,_,_,_,_,h=>by
  simp only [exec] at h;split at h
  .simp only [ad,aj] at h;obtain ⟨⟨f,st1⟩,h1,d⟩:=h;simp only [NU] at d;obtain ⟨_,rfl,_⟩:=d;exact gK h1
  .simp only [ad,aj] at h;obtain ⟨⟨f,st1⟩,h1,d⟩:=h;simp only [NU] at d;obtain ⟨_,rfl,_⟩:=d;exact fW h1
 | .seq a b,_,_,_,_,_,h=>by
  simp only [exec,ad] at h;obtain ⟨⟨g,f,st1⟩,h1,d⟩:=h;have e:=dP a h1;cases g with
  | normal=>
   have l:=dP b d;exact ⟨l.1.trans e.1,fun i hi=>by
    simp only [writes,N9,not_or] at hi;exact (l.2 i hi.2).trans (e.2 i hi.1)⟩
  | exit id=>
   simp only [aj,NU] at d;obtain ⟨_,rfl,_⟩:=d;exact ⟨e.1,fun i hi=>e.2 i fun j=>hi (N9.2 (.inl j))⟩
  | ret=>
   simp only [aj,NU] at d;obtain ⟨_,rfl,_⟩:=d;exact ⟨e.1,fun i hi=>e.2 i fun j=>hi (N9.2 (.inl j))⟩
 | .cond c a b,_,_,_,_,_,h=>by
  simp only [exec,ad] at h;obtain ⟨o,_,v,_,m⟩:=h;cases v
  .have k:=dP b m;exact ⟨k.1,fun i hi=>k.2 i fun j=>hi (N9.2 (.inr j))⟩
  .have k:=dP a m;exact ⟨k.1,fun i hi=>k.2 i fun j=>hi (N9.2 (.inl j))⟩
 | .block id c,_,_,_,_,_,h=>by
  simp only [exec,ad] at h;obtain ⟨⟨g,f,st1⟩,h1,d⟩:=h;have e:=dP c h1;cases g with
  | normal=>simp only [aj,NU] at d;obtain ⟨_,rfl,_⟩:=d;exact e
  | ret=>simp only [aj,NU] at d;obtain ⟨_,rfl,_⟩:=d;exact e
  | exit i=>
   dsimp only at d;split at d <;> (simp only [aj,NU] at d;obtain ⟨_,rfl,_⟩:=d;exact e)
 | .loop c,_,_,_,_,_,h=>by
  simp only [exec] at h;exact sn (fun _ _ _ _ _ h=>dP c h) n h
end frame
section
variable {β:Type} {r:β} {N:Nat} {E:Env}
theorem Sub.put {p:PF} {fr:Fr} {d:Nat} {v:AV} (hs:Sub N p fr) (hd:d < N):Sub N ((d,v)::p) (fr.put (some d) v):=by
 refine ⟨(Fr.DS _ _ _).trans hs.1,fun i u a=> ?_⟩;rw [PF.iB] at a;rw [yE (by rw [hs.1];exact hd)];split at a
 .rename_i e;rw [if_pos e];cases a;rfl
 .rename_i e;rw [if_neg e];exact hs.2 i u a
theorem Sub.Dz {p:PF} {fr:Fr} {d:Nat} {v:AV} (hs:Sub N p fr) (hd:fr.look d=some v):Sub N ((d,v)::p) fr:=by
 refine ⟨hs.1,fun i u a=> ?_⟩;rw [PF.iB] at a;split at a
 .rename_i e;cases a;rw [<- e];exact hd
 .exact hs.2 i u a
theorem jV {d:Option Tmp} {v:AV} {p:PF} {fr:Fr} {K:PF->Option β} (h:r9 N d v p K=some r) (hs:Sub N p fr): ∃a,Sub N a (fr.put d v)/\K a=some r:=by
 cases d with
 | none=>exact ⟨p,hs,h⟩
 | some d=>
  simp only [r9] at h;split at h
  .rename_i b;exact ⟨_,hs.put (dM.1 b),h⟩
  .cases h
theorem qe {all:List Oper} {p:PF} {fr:Fr} {g:Option (Nat×Bool)} {yes no:PF->Option β} (h:xd all p g yes no=some r) (hs:Sub N p fr):
  (wanted all fr g=true/\ ∃a,Sub N a fr/\yes a=some r)\/(wanted all fr g=false/\ ∃a,Sub N a fr/\no a=some r):=by
 unfold xd at h;split at h
 .exact .inl ⟨rfl,p,hs,h⟩
 .rename_i j want;split at h
  .rename_i d hd;split at h
   .rename_i v i;have c:=hs.2 _ _ i;have f:=ow c;split at h
    .rename_i b;have e:wanted all fr (some (j,want))=(b==want):=by simp only [wanted,hd,f]
     cases want <;> cases b
     .exact .inl ⟨by rw [e];rfl,_,hs.Dz c,h⟩
     .exact .inr ⟨by rw [e];rfl,_,hs.Dz c,h⟩
     .exact .inr ⟨by rw [e];rfl,_,hs.Dz c,h⟩
     .exact .inl ⟨by rw [e];rfl,_,hs.Dz c,h⟩
    .rename_i k;refine .inr ⟨?_,p,hs,h⟩;simp only [wanted,hd,f]
   .cases h
  .cases h
theorem lV {ops:List Oper} {j:Nat} {x:Fx}: ∀{seen:List (Nat×Fx)},km ops j x seen=true-> ∀seen':List (Nat×Fx),(∀y∈seen',y∈seen)->la ops j x seen'=true
 | seen,h,[],_=>rfl
 | seen,h,(i,y)::l,b=>by
  have h1: ∀(s:List (Nat×Fx)),km ops j x s=true->(i,y)∈s->(behind ops (j+1) j i||apart y x)=true:=by
   intro s hs c
   induction s with
   | nil=>cases c
   | cons a s ih=>
    obtain ⟨d,y'⟩:=a;simp only [km,N0] at hs;rcases Oc.1 c with e | c
    .cases e;exact hs.1
    .exact ih hs.2 c
  simp only [la,N0];refine ⟨?_,lV h l fun y hy=>b y (N2 _ hy)⟩;rw [Bool.or_comm];exact h1 seen h (b _ (NV ..))
def cx (S:Sx) (E:Env) (n:Nat):Cx:=⟨S.T,S.prim,S.imm,S.G,caller E n⟩
theorem me {S:Sx} (m:Gb E S.O) {all:List Oper} {draw:Bool}: ∀{l:List Oper} {j:Nat} {seen seen':List (Nat×Fx)} {p:PF} {fr:Fr} {st:St} {K:PF->St->Option β},
  vW S N all draw j seen l p st K=some r->Sub N p fr->(∀y∈seen',y∈seen)-> ∃fr' st' g,(gD fun n=>cS (cx S E n) all draw j seen' l fr st= .ok (fr',st'))/\Sub N g fr'/\K g st'=some r
 | [],_,_,_,p,fr,st,_,h,hs,_=>⟨fr,st,p,gD.always fun _=>rfl,hs,h⟩
 | o::l,j,seen,seen',p,fr,st,K,h,hs,a=>by
  simp only [vW] at h;rcases qe h hs with ⟨q,s,f,h⟩ | ⟨q,s,f,h⟩
  .obtain ⟨v,x,t,h⟩:=BC m h f;have h:=gv (K:=fun v=>match draw with
    | false=>r9 N o.dst v s fun p=>vW S N all draw (j+1) seen l p (x.did.app st) K
    | true=>cu (km all j x seen) (r9 N o.dst v s fun p=>vW S N all draw (j+1) ((j,x)::seen) l p (x.did.app st) K)) h
   have k: ∀n,(gV S fr o.op >>= az (caller E n) st)= .ok (v,x)->oper (cx S E n) all fr st o= .ok (v,x):=fun n e=>by
    simp only [oper,q];exact e
   cases draw with
   | false=>
    obtain ⟨u,d,h⟩:=jV h f;obtain ⟨fr',st',g,b,c,hK⟩:=me m (seen':=seen') h d a;refine ⟨fr',st',g,(t.both b).lift fun n i=> ?_,c,hK⟩;simp only [cS,k n i.1,ay,O0];exact i.2
   | true=>
    obtain ⟨ho,h⟩:=dp h;obtain ⟨u,d,h⟩:=jV h f;cases w:quiet x with
    | true=>
     obtain ⟨fr',st',g,b,c,hK⟩:=me m (seen':=seen') h d fun y hy=>N2 _ (a y hy);refine ⟨fr',st',g,(t.both b).lift fun n i=> ?_,c,hK⟩;simp only [cS,k n i.1,ay,w,Ou,Bool.and_false];exact i.2
    | false=>
     obtain ⟨fr',st',g,b,c,hK⟩:=me m (seen':=(j,x)::seen') h d fun y hy=>by
      rcases Oc.1 hy with e | hy
      .rw [e];exact NV ..
      .exact N2 _ (a y hy)
     refine ⟨fr',st',g,(t.both b).lift fun n i=> ?_,c,hK⟩;simp only [cS,k n i.1,ay,w,OG,OZ,lV ho seen' a];exact i.2
  .obtain ⟨u,d,h⟩:=jV h f;obtain ⟨fr',st',g,b,c,hK⟩:=me m (seen':=seen') h d a;refine ⟨fr',st',g,b.lift fun n i=> ?_,c,hK⟩;have:oper (cx S E n) all fr st o= .ok (undef,⟨[],.kept⟩):=by simp only [oper,q]
   simp only [cS,this,ay,quiet,List.isEmpty_nil,Ou,Bool.and_false];exact i
theorem yr {T:TT} {t:TypeId} {i:TI} {nm:Nat} {st:St} {K:Kv β} (hi:ti T t= .ok i) (h:zJ t i.zero nm st K=some r): ∃v x,qo T t nm st= .ok (v,x)/\K v (x.did.app st) x=some r:=by
 unfold zJ nJ at h;obtain ⟨⟨v,st',x⟩,h1,b⟩:=bu h;unfold DN at h1;split at h1
 .rename_i c;unfold kW at h1;split at h1
  .rename_i a;cases h1;exact ⟨_,_,xB (bO.1 hi) c (N4 a),b⟩
  .cases h1
 .cases h1
theorem lM {S:Sx} (q:Gb E S.O) {e:Nat->Option Nat} {all:List Oper}: ∀{l:List Oper} {j:Nat} {seen seen':List (Nat×Fx)} {p:PF} {fr:Fr} {st:St} {K:PF->St->Option β},
  mO S N e all j seen l p st K=some r->Sub N p fr->(∀y∈seen',y∈seen)-> ∃fr' st' g,(gD fun n=>cw (cx S E n) e all j seen' l fr st= .ok (fr',st'))/\Sub N g fr'/\K g st'=some r
 | [],_,_,_,p,fr,st,_,h,hs,_=>⟨fr,st,p,gD.always fun _=>rfl,hs,h⟩
 | o::l,j,seen,seen',p,fr,st,K,h,hs,a=>by
  simp only [mO] at h;rcases qe h hs with ⟨s,u,d,h⟩ | ⟨s,u,d,h⟩
  .have key: ∃v x,(gD fun n=>dZ (cx S E n) e all fr st o= .ok (v,x))/\yd (vL o.op) S.T o.type v (fun v=>cu (km all j x seen) (r9 N o.dst v u fun p=>mO S N e all (j+1) ((j,x)::seen) l p (x.did.app st) K))=some r:=by
    unfold Lq at h;split at h
    .rename_i t nm w;obtain ⟨i,hi,h⟩:=bS h;obtain ⟨v,x,h1,A⟩:=yr hi h;refine ⟨v,x,gD.always fun n=> ?_,A⟩;simp only [dZ,s,w];exact h1
    .rename_i w;obtain ⟨v,x,B,h⟩:=BC q h d;refine ⟨v,x,gD.lift B fun n C=> ?_,h⟩;simp only [dZ,s,w];exact C
   obtain ⟨v,x,m,h⟩:=key;have h:=gv (K:=fun v=>cu (km all j x seen) (r9 N o.dst v u fun p=>mO S N e all (j+1) ((j,x)::seen) l p (x.did.app st) K)) h;obtain ⟨ho,h⟩:=dp h;obtain ⟨D,f,h⟩:=jV h d;cases z:quiet x with
   | true=>
    obtain ⟨fr',st',g,b,c,hK⟩:=lM q (seen':=seen') h f fun y hy=>N2 _ (a y hy);refine ⟨fr',st',g,(m.both b).lift fun n k=> ?_,c,hK⟩;simp only [cw,k.1,ay,z,Ou];exact k.2
   | false=>
    obtain ⟨fr',st',g,b,c,hK⟩:=lM q (seen':=(j,x)::seen') h f fun y hy=>by
     rcases Oc.1 hy with e | hy
     .rw [e];exact NV ..
     .exact N2 _ (a y hy)
    refine ⟨fr',st',g,(m.both b).lift fun n k=> ?_,c,hK⟩;simp only [cw,k.1,ay,z,OG,lV ho seen' a];exact k.2
  .obtain ⟨D,f,h⟩:=jV h d;obtain ⟨fr',st',g,b,c,hK⟩:=lM q (seen':=seen') h f a;refine ⟨fr',st',g,b.lift fun n k=> ?_,c,hK⟩;have:dZ (cx S E n) e all fr st o= .ok (undef,⟨[],.kept⟩):=by simp only [dZ,s]
   simp only [cw,this,ay,quiet,List.isEmpty_nil,Ou];exact k
theorem uG {K:St->Option β}: ∀{l:List Nat} {st:St},H0 st l K=some r->K (st.lay l)=some r
 | [],_,h=>h
 | _::l,st,h=>uG (l:=l) (st:=(st.new .tG).2) h
def FD (fr:Fr):List Nat->List AV->Prop
 | [],vs=>vs=[]
 | i::l,vs=> ∃v vs',vs=v::vs'/\fr.look i=some v/\FD fr l vs'
theorem cG: ∀{l:List Nat} {p:PF} {fr:Fr} {K:List AV->Option β},getAll p l K=some r->Sub N p fr-> ∃vs,FD fr l vs/\K vs=some r
 | [],_,_,_,h,_=>⟨[],rfl,h⟩
 | i::l,p,fr,K,h,hs=>by
  simp only [getAll] at h;split at h
  .rename_i v b;obtain ⟨vs,a,h⟩:=cG h hs;exact ⟨v::vs,⟨v,vs,rfl,hs.2 _ _ b,a⟩,h⟩
  .cases h
theorem dr {T:TT} {tys:List (Nat×TypeId)}: ∀{l:List Nat} {vs:List AV} {p:PF} {fr:Fr} {K:PF->Option β},fh T tys l vs p K=some r->FD fr l vs->Sub N p fr-> ∃a,Sub N a fr/\K a=some r
 | [],vs,p,fr,K,h,_,hs=>by
  obtain ⟨_,h⟩:=zv h;exact ⟨p,hs,h⟩
 | i::l,vs,p,fr,K,h,f,hs=>by
  obtain ⟨v,vs',rfl,hd⟩:=yj h;obtain ⟨v',d,e,g,b⟩:=f;cases e;have h:(fh T tys l vs' p fun p=>K ((i,v)::p))=some r:=by
   unfold A3 at hd;split at hd
   .exact gv (K:=fun v=>fh T tys l vs' p fun p=>K ((i,v)::p)) hd
   .exact hd
  obtain ⟨a,c,h⟩:=dr h b hs;exact ⟨_,c.Dz g,h⟩
theorem mD {W:List Nat} {i:Nat} {v:AV}: ∀{p:PF},PF.get (erase W p) i=some v->PF.get p i=some v/\i∉W
 | [],h=>by cases h
 | (k,u)::p,h=>by
  simp only [erase] at h;split at h
  .rename_i a;have ih:=mD h;refine ⟨?_,ih.2⟩;rw [PF.iB,if_neg]
   .exact ih.1
   .rintro rfl;exact ih.2 (pI.1 a)
  .rename_i a;rw [PF.iB] at h;split at h
   .rename_i e;refine ⟨by rw [PF.iB,if_pos e];exact h,fun b=> ?_⟩;rw [<- e] at b;rw [pI.2 b] at a;cases a
   .rename_i e;have ih:=mD h;exact ⟨by rw [PF.iB,if_neg e];exact ih.1,ih.2⟩
theorem Sub.erased {W:List Nat} {p:PF} {fr fr':Fr} (hs:Sub N p fr) (b:fr'.n=fr.n) (hf: ∀i,i∉W->fr'.look i=fr.look i):Sub N (erase W p) fr':=
 ⟨b.trans hs.1,fun i v a=>(hf i (mD a).2).trans (hs.2 i v (mD a).1)⟩
end
section
variable {β:Type} {r:β}
theorem kB {σ:Type} {F:σ->Option (Sum σ β)} {s:σ} (h:aI F s=some r): ∃n,jh F n s=some r:=by
 unfold aI at h;split at h
 .rename_i a;cases h;exact a.choose_spec
 .cases h
theorem nt {σ:Type} {F:σ->Option (Sum σ β)}: ∀{n m:Nat} {s:σ},n<=m->jh F n s=some r->jh F m s=some r
 | 0,_,_,_,h=>by cases h
 | n+1,0,_,a,_=>by omega
 | n+1,m+1,s,a,h=>by
  simp only [jh] at h ⊢;split at h
  .exact nt (by omega) h
  .exact h
  .cases h
theorem rL {σ:Type} {F:σ->Option (Sum σ β)} {s:σ} {n:Nat} (h:jh F n s=some r):aI F s=some r:=by
 have a: ∃r n,jh F n s=some r:=⟨r,n,h⟩;unfold aI;rw [dif_pos a];obtain ⟨m,c⟩:=a.choose_spec;have h1:=nt (Nat.le_max_left m n) c;have b:=nt (Nat.le_max_right m n) h;rw [h1] at b;exact b
theorem xM {σ:Type} (F:σ->Option (Sum σ β)) (s:σ):aI F s=match F s with
  | some (.inl s')=>aI F s'
  | some (.inr r)=>some r
  | none=>none:=by
 cases e:F s with
 | none=>
  cases h:aI F s with
  | none=>rfl
  | some r=>
   obtain ⟨n,a⟩:=kB h;cases n with
   | zero=>cases a
   | succ n=>simp [jh,e] at a
 | some x=>
  cases x with
  | inr r=>exact rL (n:=1) (by simp [jh,e])
  | inl s'=>
   dsimp only;cases h:aI F s' with
   | some r=>
    obtain ⟨n,a⟩:=kB h;exact rL (n:=n+1) (by simp only [jh,e];exact a)
   | none=>
    cases b:aI F s with
    | none=>rfl
    | some r=>
     obtain ⟨n,a⟩:=kB b;cases n with
     | zero=>cases a
     | succ n=>
      simp only [jh,e] at a;rw [rL a] at h;cases h
theorem vm {K:Ex->Option β} {x:Ex}: ∀{l:List Ex} {n k:Nat},vj x l n=some k->n<=k/\HQ K l (k - n)=K x
 | [],_,_,h=>by cases h
 | y::l,n,k,h=>by
  simp only [vj] at h;split at h
  .rename_i e;have e:=PG e;cases h;refine ⟨NX _, ?_⟩;rw [Nat.sub_self, <- e];cases l <;> rfl
  .obtain ⟨h1,a⟩:=vm (K:=K) h;refine ⟨by omega, ?_⟩;cases l with
   | nil=>cases h
   | cons z l=>
    have:k - n=(k - (n+1))+1:=by omega
    rw [this];exact a
end
section
variable {N:Nat} {E:Env}
theorem gJ {S:Sx} (M:Gb E S.O) {tys:List (Nat×TypeId)}: ∀(c:Code) {live:List Nat} {β:Type} {r:β} {p:PF} {fr:Fr} {st:St} {K:Ex->PF->St->Option β},
  ij S N tys c live p st K=some r->Sub N p fr->(fr.strict=true->bQ c=true)-> ∃ex fr' st' B,(gD fun n=>exec (cx S E n) n c fr st= .ok (ex,fr',st'))/\Sub N B fr'/\K ex B st'=some r
 | .skip,_,_,_,p,fr,st,_,h,hs,_=>⟨.normal,fr,st,p,gD.always fun _=>rfl,hs,h⟩
 | .label _,_,_,_,p,fr,st,_,h,hs,_=>⟨.normal,fr,st,p,gD.always fun _=>rfl,hs,h⟩
 | .exit i,_,_,_,p,fr,st,_,h,hs,_=>⟨.exit i,fr,st,p,gD.always fun _=>rfl,hs,h⟩
 | .ret,_,_,_,p,fr,st,_,h,hs,_=>⟨.ret,fr,st,p,gD.always fun _=>rfl,hs,h⟩
 | .goto _,_,_,_,_,_,_,_,h,_,_ | .refuse _,_,_,_,_,_,_,_,h,_,_=>by simp [ij] at h
 | .rangeFunc g ps a c,live,β,r,p,fr,st,K,h,hs,y=>by
  have hf:fr.strict=false:=by
   cases e:fr.strict with
   | false=>rfl
   | true=>exact absurd (y e) (by simp [bQ])
  simp only [ij] at h;obtain ⟨fv,Y,h⟩:=bB h hs;obtain ⟨vs,z,h⟩:=cG h hs;have z:vs=gG fr (lK ps.toList a c):=by
   clear h;generalize lK ps.toList a c=us at z
   induction us generalizing vs with
   | nil=>exact z
   | cons u us ih=>
    obtain ⟨v,vs',rfl,h1,L⟩:=z;rw [ih vs' L,gG,ow h1]
  subst z;unfold Dx at h;split at h
  .rename_i f cap _;obtain ⟨⟨v,st1⟩,h1,h⟩:=bu h;unfold Lt at h;dsimp only at h;split at h
   .rename_i cd cn a1 c1 t s P hg;obtain ⟨bb,h⟩:=dp h;have hJ: ∀l:List Ex,wR P (fun ex=>K ex p (st1.put st.h .dead)) l=some r->K P p (st1.put st.h .dead)=some r:=by
     intro l
     induction l with
     | nil=>intro h;cases h
     | cons x l ih=>
      intro h;simp only [wR,E5] at h;cases hd:decide (P=x) with
      | true=>rw [hd] at h;rw [PG hd] at h ⊢;exact h
      | false=>rw [hd] at h;exact ih h
    refine ⟨P,fr,st1.put st.h .dead,p,(M.wide _ _ _ _ h1).lift fun n j=> ?_,hs,hJ _ h⟩;have Y:bD (cx S E n).G fr g= .ok (.fn (.func f) [] cap):=Y;have j:(cx S E n).C.wide f (.yld st.h::cap) (st.new (.loop (cx S E n).imm ps.toList a c (CD fr.n (lK ps.toList a c) (gG fr (lK ps.toList a c))) 0 .normal)).2= .ok (v,st1):=by
     rw [hs.1];exact j
    simp only [exec,hf,Y,ay,j,hg,bb,aE]
   .cases h
  .cases h
 | .scope c,live,β,r,p,fr,st,K,h,hs,y=>gJ M c (live:=live) h hs fun e=>absurd (y e) (by simp [bQ])
 | .region id ops draw,live,β,r,p,fr,st,K,h,hs,_=>by
  simp only [ij] at h;split at h
  .rename_i hd;have hd: ∀n,(draw&&(cx S E n).imm 4000000)=false:=fun n=>hd;split at h
   .obtain ⟨fr',st',B,d,w,hK⟩:=me M (seen':=[]) h hs (fun _ hy=>by cases hy);exact ⟨.normal,fr',st',B,d.lift fun n j=>by simp only [exec,hd n,j,ay,aE],w,hK⟩
   .obtain ⟨c,h1,L⟩:=bu h;obtain ⟨fr',st',B,d,w,hK⟩:=me M (seen':=[]) h1 hs (fun _ hy=>by cases hy);obtain ⟨vs,z,e⟩:=cG hK w;cases e;obtain ⟨m,H⟩:=d;have hf:=gK (H m (NX _));obtain ⟨I,o,A⟩:=dr L z (hs.erased hf.1 hf.2);exact ⟨.normal,fr',st',I,⟨m,fun n j=>by simp only [exec,hd n,H n j,ay,aE]⟩,o,A⟩
  .rename_i hd;have hd: ∀n,(draw&&(cx S E n).imm 4000000)=true:=fun n=>hd;have h:=uG (K:=fun st'=>match oR ops.toList with
    | false=>mO S N (vo st.h (kU ops.toList)) ops.toList 0 [] ops.toList p st' fun p st=>K .normal p st
    | true=>let ws:=dedup (mZ live (bZ ops.toList))
     aB (mO (β:=bR) S N (vo st.h (kU ops.toList)) ops.toList 0 [] ops.toList p st' fun p st=>getAll p ws fun vs=>some (vs,st)) fun c=>
      fh S.T tys ws c.1 (erase (bZ ops.toList) p) fun p=>K .normal p c.2) h
   dsimp only at h;split at h
   .obtain ⟨fr',st',B,d,w,hK⟩:=lM M (seen':=[]) h hs (fun _ hy=>by cases hy);exact ⟨.normal,fr',st',B,d.lift fun n j=>by simp only [exec,hd n,j,ay,aE],w,hK⟩
   .obtain ⟨c,h1,L⟩:=bu h;obtain ⟨fr',st',B,d,w,hK⟩:=lM M (seen':=[]) h1 hs (fun _ hy=>by cases hy);obtain ⟨vs,z,e⟩:=cG hK w;cases e;obtain ⟨m,H⟩:=d;have hf:=fW (H m (NX _));obtain ⟨I,o,A⟩:=dr L z (hs.erased hf.1 hf.2);exact ⟨.normal,fr',st',I,⟨m,fun n j=>by simp only [exec,hd n,H n j,ay,aE]⟩,o,A⟩
 | .seq a b,live,β,r,p,fr,st,K,h,hs,y=>by
  have y:fr.strict=true->bQ a=true/\bQ b=true:=fun e=>by have:=y e;simpa [bQ] using this
  simp only [ij] at h;obtain ⟨ex,t,st1,P,d,F,hK⟩:=gJ M a h hs fun e=>(y e).1;have b4:t.strict=fr.strict:=by
   obtain ⟨m,H⟩:=d;exact ec _ (H m (NX _))
  cases ex with
  | normal=>
   obtain ⟨ex,D,Q,I,a6,o,A⟩:=gJ M b hK F fun e=>(y (b4 ▸ e)).2;exact ⟨ex,D,Q,I,(d.both a6).lift fun n j=>by simp only [exec,j.1,ay,j.2],o,A⟩
  | exit i=>exact ⟨.exit i,t,st1,P,d.lift fun n j=>by simp only [exec,j,ay,aE],F,hK⟩
  | ret=>exact ⟨.ret,t,st1,P,d.lift fun n j=>by simp only [exec,j,ay,aE],F,hK⟩
 | .cond c a b,live,β,r,p,fr,st,K,h,hs,y=>by
  have y:fr.strict=true->bQ a=true/\bQ b=true:=fun e=>by have:=y e;simpa [bQ] using this
  simp only [ij] at h;obtain ⟨cv,Y,h⟩:=bB h hs;obtain ⟨bv,rfl,h⟩:=rV h;have fin: ∀{ex fr' st'},(gD fun n=>exec (cx S E n) n (bif bv then a else b) fr st= .ok (ex,fr',st'))->gD fun n=>exec (cx S E n) n (.cond c a b) fr st= .ok (ex,fr',st'):=fun h=>h.lift fun n j=>by
   have Y:bD (cx S E n).G fr c= .ok (.bool bv):=Y;cases bv <;> (simp only [exec,Y,ay,VM.asBool];exact j)
  have two: ∀{γ:Type} {q:γ} {J:Ex->PF->St->Option γ},(aW bv (ij S N tys a live p st J) (ij S N tys b live p st J))=some q->
    ∃ex fr' st' B,(gD fun n=>exec (cx S E n) n (bif bv then a else b) fr st= .ok (ex,fr',st'))/\Sub N B fr'/\J ex B st'=some q:=by
   intro γ q J h;cases bv
   .exact gJ M b h hs fun e=>(y e).2
   .exact gJ M a h hs fun e=>(y e).1
  have outs: ∀{ex fr' st'},(gD fun n=>exec (cx S E n) n (bif bv then a else b) fr st= .ok (ex,fr',st'))->fr'.n=fr.n/\ ∀i,i∉writes a++writes b->fr'.look i=fr.look i:=by
   rintro ex fr' st' ⟨m,H⟩;have:=dP _ (H m (NX _));refine ⟨this.1,fun i hi=>this.2 i fun H=>hi ?_⟩;cases bv
   .exact N9.2 (.inr H)
   .exact N9.2 (.inl H)
  split at h
  .obtain ⟨ex,fr',st',B,d,w,hK⟩:=two h;exact ⟨ex,fr',st',B,fin d,w,hK⟩
  .split at h
   .obtain ⟨q,h1,L⟩:=bu h;obtain ⟨ex,fr',st',B,d,w,hK⟩:=two h1;have hf:=outs d;cases ex with
    | normal=>
     obtain ⟨vs,z,e⟩:=cG hK w;cases e;obtain ⟨I,o,A⟩:=dr L z (hs.erased hf.1 hf.2);exact ⟨.normal,fr',st',I,fin d,o,A⟩
    | exit i=>cases hK
    | ret=>cases hK
   .obtain ⟨q,h1,L⟩:=bu h;obtain ⟨ex,fr',st',B,d,w,hK⟩:=two h1;have hf:=outs d;cases ex with
    | normal=>
     obtain ⟨vs,z,e⟩:=cG hK w;cases e;obtain ⟨I,o,A⟩:=dr L z (hs.erased hf.1 hf.2);exact ⟨.normal,fr',st',I,fin d,o,A⟩
    | exit i=>
     obtain ⟨q',R,e⟩:=bu hK;cases e;cases L;exact ⟨_,fr',st',B,fin d,w,R⟩
    | ret=>
     obtain ⟨q',R,e⟩:=bu hK;cases e;cases L;exact ⟨_,fr',st',B,fin d,w,R⟩
 | .block id c,live,β,r,p,fr,st,K,h,hs,y=>by
  simp only [ij] at h;split at h
  .obtain ⟨ex,t,st1,P,d,F,hK⟩:=gJ M c h hs y;cases ex with
   | normal=>exact ⟨.normal,t,st1,P,d.lift fun n j=>by simp only [exec,j,ay,aE],F,hK⟩
   | ret=>exact ⟨.ret,t,st1,P,d.lift fun n j=>by simp only [exec,j,ay,aE],F,hK⟩
   | exit i=>
    dsimp only at hK;split at hK
    .rename_i hi;exact ⟨.normal,t,st1,P,d.lift fun n j=>by simp only [exec,j,ay,aE,hi],F,hK⟩
    .rename_i hi;exact ⟨.exit i,t,st1,P,d.lift fun n j=>by simp only [exec,j,ay,aE,hi],F,hK⟩
  .obtain ⟨q,h1,L⟩:=bu h;obtain ⟨ex,fr',st',B,d,w,hK⟩:=gJ M c h1 hs y;have hf:fr'.n=fr.n/\ ∀i,i∉writes c->fr'.look i=fr.look i:=by
    obtain ⟨m,H⟩:=d;exact dP _ (H m (NX _))
   cases ex with
   | normal=>
    obtain ⟨vs,z,e⟩:=cG hK w;cases e;obtain ⟨I,o,A⟩:=dr L z (hs.erased hf.1 hf.2);exact ⟨.normal,fr',st',I,d.lift fun n j=>by simp only [exec,j,ay,aE],o,A⟩
   | exit i=>
    dsimp only at hK;split at hK
    .rename_i hi;obtain ⟨vs,z,e⟩:=cG hK w;cases e;obtain ⟨I,o,A⟩:=dr L z (hs.erased hf.1 hf.2);exact ⟨.normal,fr',st',I,d.lift fun n j=>by simp only [exec,j,ay,aE,hi],o,A⟩
    .rename_i hi;obtain ⟨q',R,e⟩:=bu hK;cases e;cases L;exact ⟨.exit i,fr',st',B,d.lift fun n j=>by simp only [exec,j,ay,aE,hi],w,R⟩
   | ret=>
    obtain ⟨q',R,e⟩:=bu hK;cases e;cases L;exact ⟨.ret,fr',st',B,d.lift fun n j=>by simp only [exec,j,ay,aE],w,R⟩
 | .loop c,live,β,r,p,fr,st,K,h,hs,y=>by
  simp only [ij] at h;obtain ⟨vs,z,h⟩:=cG h hs;obtain ⟨q,h1,L⟩:=bu h;obtain ⟨m,H⟩:=kB h1;have key: ∀(m:Nat) (vs:List AV) (st:St) (t:Fr),FD t (dedup (ga p (writes c))) vs->t.strict=fr.strict->t.n=fr.n->(∀i,i∉writes c->t.look i=fr.look i)->
    jh (fun s:bR=>fh S.T tys (dedup (ga p (writes c))) s.1 (erase (writes c) p) fun B=>ij S N tys c (dedup (ga p (writes c))++live) B s.2 fun ex B st=>match ex with
     | .normal=>getAll B (dedup (ga p (writes c))) fun vs=>some ((.inl (vs,st):Sum bR (Nat×bR)))
     | ex=>aB (vj ex ((leaves c).outs.eraseDups.map .exit++(match (leaves c).rets with | true=>[.ret] | false=>[])) 0) fun k=>getAll B (mZ live (dedup (ga p (writes c)))) fun vs=>some (.inr (k,vs,st))) m (vs,st)=some q-> ∃ex fr' st' B,(gD fun n=> ∃k,k<=m/\iter (exec (cx S E n) n c) k t st= .ok (ex,fr',st'))/\ex≠ .normal/\Sub N B fr'/\(fr'.n=fr.n/\ ∀i,i∉writes c->fr'.look i=fr.look i)/\
     (aB (vj ex ((leaves c).outs.eraseDups.map .exit++(match (leaves c).rets with | true=>[.ret] | false=>[])) 0) fun k=>getAll B (mZ live (dedup (ga p (writes c)))) fun vs=>some ((.inr (k,vs,st'):Sum bR (Nat×bR))))=some (.inr q):=by
   intro m
   induction m with
   | zero=>intro vs st t _ _ _ _ h;cases h
   | succ m ih=>
    intro vs st t hv Z j hf h;simp only [jh] at h;split at h
    .rename_i s' e;obtain ⟨P,F,R⟩:=dr e hv (hs.erased j hf);obtain ⟨ex,D,Q,I,d,o,hK⟩:=gJ M c R F fun e=>y (Z ▸ e);have U:D.n=t.n/\ ∀i,i∉writes c->D.look i=t.look i:=by
      obtain ⟨m,H⟩:=d;exact dP _ (H m (NX _))
     have a7:D.strict=t.strict:=by
      obtain ⟨m,H⟩:=d;exact ec _ (H m (NX _))
     cases ex with
     | normal=>
      obtain ⟨V,av,W⟩:=cG hK o;cases W;obtain ⟨ex,b5,b6,p3,a8,hx,b7,b8,b9⟩:=ih V Q D av (a7.trans Z) (U.1.trans j) (fun i hi=>(U.2 i hi).trans (hf i hi)) h;refine ⟨ex,b5,b6,p3,(d.both a8).lift fun n j=> ?_,hx,b7,b8,b9⟩;obtain ⟨h4,k,hk,h5⟩:=j;exact ⟨k+1,by omega,by simp only [iter,h4,ay];exact h5⟩
     | exit i=>
      obtain ⟨k,_,hK⟩:=bu hK;obtain ⟨V,_,W⟩:=cG hK o;cases W
     | ret=>
      obtain ⟨k,_,hK⟩:=bu hK;obtain ⟨V,_,W⟩:=cG hK o;cases W
    .rename_i q' e;cases h;obtain ⟨P,F,R⟩:=dr e hv (hs.erased j hf);obtain ⟨ex,D,Q,I,d,o,hK⟩:=gJ M c R F fun e=>y (Z ▸ e);have U:D.n=t.n/\ ∀i,i∉writes c->D.look i=t.look i:=by
      obtain ⟨m,H⟩:=d;exact dP _ (H m (NX _))
     have X:D.n=fr.n/\ ∀i,i∉writes c->D.look i=fr.look i:=⟨U.1.trans j,fun i hi=>(U.2 i hi).trans (hf i hi)⟩;cases ex with
     | normal=>
      obtain ⟨V,_,W⟩:=cG hK o;cases W
     | exit i=>exact ⟨_,D,Q,I,d.lift fun n j=>⟨1,by omega,by simp only [iter,j,ay];rfl⟩,(by intro h;cases h),o,X,hK⟩
     | ret=>exact ⟨_,D,Q,I,d.lift fun n j=>⟨1,by omega,by simp only [iter,j,ay];rfl⟩,(by intro h;cases h),o,X,hK⟩
    .cases h
  obtain ⟨ex,fr',st',B,d,_,w,hf,hK⟩:=key m vs st fr z rfl rfl (fun _ _=>rfl) H;obtain ⟨k,R,hK⟩:=bu hK;obtain ⟨V,av,W⟩:=cG hK w;cases W;obtain ⟨I,o,A⟩:=dr L av (hs.erased hf.1 hf.2);have A:K ex I st'=some r:=(vm (K:=fun ex=>K ex I st') R).2.symm.trans A;refine ⟨ex,fr',st',I, ?_,o,A⟩;obtain ⟨m',cc⟩:=d;refine ⟨max m' m,fun n j=> ?_⟩;obtain ⟨k,hk,h5⟩:=cc n (by omega);simp only [exec];exact pg (fun _ _ _ h=>h) (by omega) h5
end
section
variable {β:Type} {r:β} {N:Nat} {E:Env} {S:Sx}
theorem nH {T:TT}: ∀{vs:List AV} {ts:List TypeId} {i:Nat} {p:PF} {t:Tr AV} {K:PF->Option β},zn T i ts vs p K=some r->Sub N p ⟨N,t,false⟩-> ∃c,Sub N c ⟨N,pT i vs t,false⟩/\K c=some r
 | [],_,_,p,_,_,h,hs=>⟨p,hs,h⟩
 | v::vs,ts,i,p,t,K,h,hs=>by
  have a:Sub N ((i,v)::p) ⟨N,t.put i v,false⟩:=by
   refine ⟨rfl,fun j u b=> ?_⟩;rw [PF.iB] at b;have d: ∀t:Tr AV,(⟨N,t,false⟩:Fr).look j=some ((t.get j).getD undef):=fun _=>rfl;rw [d,Tr.gI];split at b
   .rename_i e;rw [if_pos e];cases b;rfl
   .rename_i e;rw [if_neg e, <- d];exact hs.2 j u b
  cases ts with
  | nil=>exact nH (vs:=vs) (ts:=[]) (i:=i+1) (p:=(i,v)::p) h a
  | cons ty ts=>exact nH (vs:=vs) (ts:=ts) (i:=i+1) (p:=(i,v)::p) (gv (K:=fun v=>zn T (i+1) ts vs ((i,v)::p) K) h) a
theorem Cc {p:PF} {fr:Fr} {st:St} {x:ResultVar} {K:AV->Option β} (h:Fp S p st x K=some r) (hs:Sub N p fr): ∃v,gR S.T fr st x= .ok v/\K v=some r:=by
 cases x with
 | tmp t=>
  simp only [Fp] at h;split at h
  .rename_i v d;exact ⟨v,by simp only [gR,ow (hs.2 _ _ d)],h⟩
  .cases h
 | cell a t=>
  simp only [Fp] at h;obtain ⟨i,e,h⟩:=bS h;split at h
  .rename_i k d;have f:=ow (hs.2 _ _ d);obtain ⟨⟨v,rd⟩,b,h⟩:=bu h;unfold zl at b;split at b
   .split at b
    .rename_i c;cases b;exact ⟨v,by simp only [gR,e,f,ay,iT,c,aE],gv h⟩
    .cases b
   .split at b
    .rename_i c;split at b
     .rename_i g;cases b;exact ⟨v,by simp only [gR,e,f,ay,iT,fD,c,g,cellsOf,aE],gv h⟩
     .cases b
    .cases b
   .split at b
    .rename_i c;split at b
     .rename_i j;split at b
      .rename_i g;cases b;exact ⟨v,by simp only [gR,e,f,ay,iT,fD,c,g,j,aE],gv h⟩
      .cases b
     .cases b
    .cases b
   .cases b
  .cases h
theorem sk {p:PF} {fr:Fr} {st:St}: ∀{l:List ResultVar} {K:List AV->Option β},Bj S p st l K=some r->Sub N p fr-> ∃vs,fo S.T fr st l= .ok vs/\K vs=some r
 | [],_,h,_=>⟨[],rfl,h⟩
 | x::l,K,h,hs=>by
  obtain ⟨v,e,h⟩:=Cc h hs;obtain ⟨vs,a,h⟩:=sk h hs;exact ⟨v::vs,by simp only [fo,e,a,ay,aE],h⟩
theorem yR (g:Gb E S.O) {fn:Func} {args:List AV} {st:St} {K:AV->St->Option β} (h:AU S fn args st K=some r):
  ∃v st',(gD fun n=>body (cx S E n) n fn args st= .ok (v,st'))/\K v st'=some r:=by
 unfold AU at h;split at h
 .cases h
 .rename_i c j;split at h
  .cases h
  .rename_i hl;obtain ⟨p,hs,h⟩:=nH (N:=fn.ntmps) (t:= .leaf) h ⟨rfl,fun _ _ k=>by cases k⟩;obtain ⟨ex,fr',st',l,a,b,hK⟩:=gJ g c h hs (fun e=>by cases e);have f:(Bj S l st' fn.results.toList fun vs=>K (oneOf vs) st')=some r/\(∀i,ex≠ .exit i):=by
    cases ex with
    | exit i=>cases hK
    | normal=>exact ⟨hK,by intro i h;cases h⟩
    | ret=>exact ⟨hK,by intro i h;cases h⟩
   obtain ⟨vs,e,hK⟩:=sk f.1 b;refine ⟨oneOf vs,st',a.lift fun n d=> ?_,hK⟩;have e:fo (cx S E n).T fr' st' fn.results.toList= .ok vs:=e;have d:exec (cx S E n) n c (nW fn.ntmps args) st= .ok (ex,fr',st'):=d;unfold body;rw [j];dsimp only;rw [hl];dsimp only;rw [d,ay];cases ex with
   | exit i=>exact absurd rfl (f.2 i)
   | normal=>simp only [e,ay,aE]
   | ret=>simp only [e,ay,aE]
end
section
variable {E:Env}
open Classical in
noncomputable def bc (E:Env):qL where
 full:=E.full
 isLook:=E.isLook
 bare f a:=if h: ∃v n,(caller E n).bare f a= .ok v then some h.choose else none
 wide f a st:=if h: ∃v n,(caller E n).wide f a st= .ok v then some h.choose else none
 look f a st:=if h: ∃v n,(caller E n).look f a st= .ok v then some h.choose else none
 round k a st:=if h: ∃v n,(caller E n).round k a st= .ok v then some h.choose else none
theorem tm (E:Env):Gb E (bc E) where
 full:=rfl
 isLook:=rfl
 bare f a v h:=by
  simp only [bc] at h;split at h
  .rename_i b;cases h;obtain ⟨m,c⟩:=b.choose_spec;exact ⟨m,fun n d=>(dY E d).bare _ _ _ c⟩
  .cases h
 wide f a st v h:=by
  simp only [bc] at h;split at h
  .rename_i b;cases h;obtain ⟨m,c⟩:=b.choose_spec;exact ⟨m,fun n d=>(dY E d).wide _ _ _ _ c⟩
  .cases h
 look f a st v h:=by
  simp only [bc] at h;split at h
  .rename_i b;cases h;obtain ⟨m,c⟩:=b.choose_spec;exact ⟨m,fun n d=>(dY E d).look _ _ _ _ c⟩
  .cases h
 round k a st v h:=by
  simp only [bc] at h;split at h
  .rename_i b;cases h;obtain ⟨m,c⟩:=b.choose_spec;exact ⟨m,fun n d=>(dY E d).round _ _ _ _ c⟩
  .cases h
theorem tJ {f:FuncId} {a:List AV} {v:AV} {n:Nat} (h:(caller E n).bare f a= .ok v):(bc E).bare f a=some v:=by
 have b: ∃v n,(caller E n).bare f a= .ok v:=⟨v,n,h⟩;simp only [bc,dif_pos b];obtain ⟨m,d⟩:=b.choose_spec;have h1:=(dY E (Nat.le_max_left m n)).bare _ _ _ d;have c:=(dY E (Nat.le_max_right m n)).bare _ _ _ h;rw [h1] at c;simpa using c
theorem EN {f:FuncId} {a:List AV} {st:St} {v:AV×St} {n:Nat} (h:(caller E n).wide f a st= .ok v):(bc E).wide f a st=some v:=by
 have b: ∃v n,(caller E n).wide f a st= .ok v:=⟨v,n,h⟩;simp only [bc,dif_pos b];obtain ⟨m,d⟩:=b.choose_spec;have h1:=(dY E (Nat.le_max_left m n)).wide _ _ _ _ d;have c:=(dY E (Nat.le_max_right m n)).wide _ _ _ _ h;rw [h1] at c;simpa using c
noncomputable def sx (E:Env) (f:FuncId):Sx:=⟨E.T,E.prim,E.imm f,E.G,bc E⟩
noncomputable def bT (E:Env) (f:FuncId) (args:List AV):Option AV:=
 match E.F f with
 | none=>none
 | some fn=>AU (sx E f) fn args St.empty fun v s=>kQ s 0 v some
noncomputable def cE (E:Env) (f:FuncId) (args:List AV) (st:St):Option (AV×St):=
 match E.F f with
 | none=>none
 | some fn=>AU (sx E f) fn args st fun v s=>some (v,s)
theorem Cw {β:Type} {r:β} {st:St} {b:Nat} {v:AV} {K:AV->Option β} (h:kQ st b v K=some r): ∃v',freeze st b 100 v= .ok v'/\bare v'=true/\K v'=some r:=by
 unfold kQ at h;split at h
 .obtain ⟨h1,h⟩:=dp h;exact ⟨_,by assumption,h1,h⟩
 .cases h
theorem aY {f:FuncId} {args:List AV} {v:AV} (c:(E.memo f,(E.rule f).isSome)=([],false)) (h:bT E f args=some v):(bc E).bare f args=some v:=by
 unfold bT at h;split at h
 .cases h
 .rename_i fn d;obtain ⟨u,s,⟨m,a⟩,h⟩:=yR (tm E) h;obtain ⟨v',h1,b,h⟩:=Cw h;cases h;refine tJ (n:=m+1) ?_;have a:body ⟨E.T,E.prim,E.imm f,E.G,caller E m⟩ m fn args St.empty= .ok (u,s):=a m (NX _);have e:E.known f args=none:=by
   unfold Env.known;have h1:=OC Prod.fst c;have b:=OC Prod.snd c;dsimp only at h1 b;cases g:E.rule f with
   | some r=>rw [g] at b;cases b
   | none=>dsimp only;rw [h1];rfl
  simp only [caller,e,d,a,ay,h1,b,aE]
theorem fJ {f:FuncId} {args:List AV} {st:St} {v:AV×St} (h:cE E f args st=some v):(bc E).wide f args st=some v:=by
 unfold cE at h;split at h
 .cases h
 .rename_i fn b;obtain ⟨u,s,⟨m,a⟩,h⟩:=yR (tm E) h;cases h;refine EN (n:=m+1) ?_;have a:body ⟨E.T,E.prim,E.imm f,E.G,caller E m⟩ m fn args st= .ok (u,s):=a m (NX _);simp only [caller,b,a,ay,aE]
end
structure Lp where
 n:Nat
 ps:List Nat
 a:Code
 c:Code
 tys:List (Nat×TypeId)
section
variable {E:Env} {r:AV×St}
end
abbrev ag {β:Type} (v:AV) (K:Int->Int->List UInt8->AV->Option β):Option β:=yF v fun l=>br l fun v0 l=>bg .u8 v0 fun a0=>br l fun v1 l=>bg .u8 v1 fun a1=>br l fun v2 l=>dV v2 fun a2=>br l fun v3 l=>bE l (K a0 a1 a2 v3)
abbrev cW {β:Type} (v:AV) (K:Int->List UInt8->Option β):Option β:=yF v fun l=>br l fun v0 l=>bg .u8 v0 fun a0=>br l fun v1 l=>dV v1 fun a1=>bE l (K a0 a1)
section
variable {β:Type}
@[simp] theorem aD {α:Type} (a:α) (K:α->Option β):aN a K=K a:=id rfl
@[simp] theorem ah (k:IntKind) (n:Int) (K:Int->Option β):bg k (.int k n) K=K n:=by simp [bg]
@[simp] theorem ar (b:Bool) (K:Bool->Option β):bG (.bool b) K=K b:=id rfl
@[simp] theorem aA (s:List UInt8) (K:List UInt8->Option β):dV (.str s) K=K s:=id rfl
@[simp] theorem KD (k:IntKind) (n:Int) (K:Int->Option β):anyI (.int k n) K=K n:=id rfl
@[simp] theorem bF (cs:List AV) (K:List AV->Option β):yF (.agg cs) K=K cs:=id rfl
@[simp] theorem ch (cs:List AV) (K:List AV->Option β):fU (.tup cs) K=K cs:=id rfl
@[simp] theorem af (v:AV) (l:List AV) (K:AV->List AV->Option β):br (v::l) K=K v l:=id rfl
@[simp] theorem ae (K:Option β):bE [] K=K:=id rfl
@[simp] theorem bV (K:Option β):cu true K=K:=id rfl
theorem ff {b:Bool} (h:b=true) (K:Option β):cu b K=K:=by rw [h];rfl
@[simp] theorem au (x y:Option β):aW true x y=x:=id rfl
@[simp] theorem ai (x y:Option β):aW false x y=y:=id rfl
@[simp] theorem aw (p:Prop) [Decidable p] (x y:Option β):aW (decide p) x y=if p then x else y:=by
 by_cases h:p <;> simp [h]
@[simp] theorem cX (a b:Int) (x y:Option β):aW (a==b) x y=if a=b then x else y:=by
 by_cases h:a=b
 .simp [h]
 .rw [beq_false_of_ne h];simp [h]
@[simp] theorem LW (a b:Int) (x y:Option β):aW (a != b) x y=if a=b then y else x:=by
 by_cases h:a=b
 .simp [h]
 .rw [bne,beq_false_of_ne h];simp [h]
@[simp] theorem LR (b:Bool) (x y:Option β):aW (!b) x y=aW b y x:=by cases b <;> rfl
@[simp] theorem ak {α:Type} (a:α) (K:α->Option β):aB (some a) K=K a:=id rfl
@[simp] theorem cN {α:Type} (a:α) (K:α->Option β):iP (.inl a) K=K a:=id rfl
@[simp] theorem jT {α:Type} (b:β) (K:α->Option β):iP (.inr b) K=some b:=id rfl
@[simp] theorem dX (a:Option β) (b:Nat->Option β):ja 0 a b=a:=id rfl
@[simp] theorem JS (n:Nat) (a:Option β) (b:Nat->Option β):ja (n+1) a b=b n:=id rfl
@[simp] theorem fB (a:Option β) (b:Nat->Option β):ja 1 a b=b 0:=id rfl
theorem iX {v:AV} (h:one v=true) (K:Option β):ab v K=K:=ff h K
@[simp] theorem Je (b:Bool) (K:Option β):ab (.bool b) K=K:=id rfl
@[simp] theorem B0 (k:IntKind) (n:Int) (K:Option β):ab (.int k n) K=K:=id rfl
@[simp] theorem BS (s:List UInt8) (K:Option β):ab (.str s) K=K:=id rfl
@[simp] theorem Az (K:Option β):ab .aG K=K:=id rfl
@[simp] theorem K6 (z:Nat) (e:List AV) (p:Perm) (K:Option β):ab (.sl z e p) K=K:=id rfl
@[simp] theorem La (i o:Nat) (K:Option β):ab (.mp i o) K=K:=id rfl
@[simp] theorem Lh (cs:List AV) (K:Option β):ab (.ip cs) K=K:=id rfl
@[simp] theorem IL (K:Option β):ab .nilp K=K:=id rfl
@[simp] theorem LJ (i:Nat) (K:Option β):ab (.mm i) K=K:=id rfl
@[simp] theorem Ig (K:Option β):ab .nilm K=K:=id rfl
@[simp] theorem LF (f:Fn) (a b:List AV) (K:Option β):ab (.fn f a b) K=K:=id rfl
@[simp] theorem bA (v:AV) (l:List AV) (K:AV->Option β):cC (v::l) 0 K=K v:=id rfl
@[simp] theorem J1 (v:AV) (l:List AV) (n:Nat) (K:AV->Option β):cC (v::l) (n+1) K=cC l n K:=id rfl
@[simp] theorem bM (u v:AV) (l:List AV) (K:AV->Option β):cC (u::v::l) 1 K=K v:=id rfl
@[simp] theorem Ki (u v w:AV) (l:List AV) (K:AV->Option β):cC (u::v::w::l) 2 K=K w:=id rfl
@[simp] theorem HO (u v w x:AV) (l:List AV) (K:AV->Option β):cC (u::v::w::x::l) 3 K=K x:=id rfl
@[simp] theorem J7 (u v w x y:AV) (l:List AV) (K:AV->Option β):cC (u::v::w::x::y::l) 4 K=K y:=id rfl
@[simp] theorem JT (u v w x y z:AV) (l:List AV) (K:AV->Option β):cC (u::v::w::x::y::z::l) 5 K=K z:=id rfl
@[simp] theorem qM (off:Nat) (cs:List AV) (K:AV->Option β):cI off (.ip cs) K=K (.ip (cs.drop off)):=id rfl
@[simp] theorem LS (off i n o:Nat) (K:AV->Option β):cI off (.gp i n o) K=K (.gp i n (o+off)):=id rfl
@[simp] theorem cY (off i o:Nat) (K:AV->Option β):cI off (.mp i o) K=K (.mp i (o+off)):=id rfl
def lf (size:Nat) (agg:Bool) (cs:List AV):Option AV:=Fc (bX size agg cs)
@[simp] theorem bl (z:Nat) (v:AV) (l:List AV):lf z false (v::l)=some v:=id rfl
theorem Co {z:Nat} {cs:List AV} (h:z<=cs.length):lf z true cs=some (.agg (cs.take z)):=by
 simp only [lf,bX,Oz h,Fc]
theorem Cd {cs:List AV} {z:Nat} (h:cs.length=z):lf z true cs=some (.agg cs):=by
 subst h;rw [Co (NX _),Ot]
@[simp] theorem cO (z:Nat) (g:Bool) (cs:List AV) (st:St) (K:AV->List Nat->Option β):ax z g (.ip cs) st K=aB (lf z g cs) fun v=>K v []:=by
 unfold ax zl lf;dsimp only;cases bX z g cs <;> rfl
theorem bh {st:St} {i:Nat} {t:TypeId} {cs:List AV} (h:st.get i= .ok (.cells t cs)) (z:Nat) (g:Bool) (o:Nat) (K:AV->List Nat->Option β):ax z g (.mp i o) st K=aB (lf z g (cs.drop o)) fun v=>K v [i]:=by
 unfold ax zl lf;dsimp only;rw [h];dsimp only;cases bX z g (cs.drop o) <;> rfl
@[simp] theorem LV (i o:Nat) (K:Option β):D2 (.mp i o) K=K:=id rfl
@[simp] theorem LQ (cs:List AV) (K:Option β):D2 (.ip cs) K=K:=id rfl
@[simp] theorem Ls (K:Option β):ab .es K=K:=id rfl
@[simp] theorem LN (K:AV->Option β):aJ .es K=K .es:=id rfl
@[simp] theorem J6 (K:Nat->Option β):iQ .aG K=K 0:=id rfl
@[simp] theorem Fm (z:Nat) (e:List AV) (p:Perm) (K:Nat->Option β):iQ (.sl z e p) K=K e.length:=id rfl
@[simp] theorem J2 (b:Bool) (K:AV->Option β):aJ (.bool b) K=K (.bool b):=id rfl
@[simp] theorem EC (k:IntKind) (n:Int) (K:AV->Option β):aJ (.int k n) K=K (.int k n):=id rfl
@[simp] theorem E7 (s:List UInt8) (K:AV->Option β):aJ (.str s) K=K (.str s):=id rfl
@[simp] theorem Kd (K:AV->Option β):aJ .aG K=K .aG:=id rfl
@[simp] theorem J0 (z:Nat) (e:List AV) (K:AV->Option β):aJ (.sl z e .wide) K=K (.sl z e .wide):=id rfl
@[simp] theorem JU (z:Nat) (e:List AV) (K:AV->Option β):aJ (.sl z e .shut) K=K (.sl z e .shut):=id rfl
@[simp] theorem K1 (z k:Nat) (e:List AV) (K:AV->Option β):aJ (.sl z e (.own k)) K=K (.sl z e .wide):=id rfl
theorem Aq {i:Int} {n:Nat} (h0:0<=i) (h1:i < n) (K:Nat->Option β):ic i n K=K i.toNat:=by
 obtain ⟨k,rfl⟩:=Int.eq_ofNat_of_zero_le h0;have:k.blt n=true:=dM.2 (by omega);simp only [ic];show cu (k.blt n) (K k)= _;rw [ff this];rfl
theorem DB {i:Int} {n:Nat} (h0:0<=i) (h1:i<=n) (K:Nat->Option β):dq i n K=K i.toNat:=by
 obtain ⟨k,rfl⟩:=Int.eq_ofNat_of_zero_le h0;have:k.ble n=true:=Oz (by omega);show cu (k.ble n) (K k)= _;rw [ff this];rfl
theorem yb {k n:Nat} (h:k < n) (K:Nat->Option β):ic (k:Int) n K=K k:=Aq (by omega) (by omega) K
theorem bC {k n:Nat} (h:k<=n) (K:Nat->Option β):dq (k:Int) n K=K k:=DB (by omega) (by omega) K
theorem bt {s:List UInt8} {k:Nat} (h:k < s.length) (K:UInt8->Option β):ey s (k:Int) K=K s[k]:=by
 unfold ey;rw [yb h];simp [h]
end
theorem AX: ∀{l:List AV} {n:Nat} {v:AV},l[n]? =some v->za l n=some v
 | [],_,_,h=>by simp at h
 | _:: _,0,_,h=>by simpa [za] using h
 | _::l,n+1,_,h=>by simp only [za];exact AX (by simpa using h)
def cb (z:Nat) (x:AV) (es:List AV):Prop:=es.length<=9223372036854775807/\(((x= .aG\/x= .es)/\es=[])\/x= .sl z es .shut\/x= .sl z es .wide)
namespace cb
variable {β:Type} {z:Nat} {x:AV} {es:List AV}
theorem aG:cb z .aG []:=⟨by simp,.inl ⟨.inl rfl,rfl⟩⟩
theorem emp:cb z .es []:=⟨by simp,.inl ⟨.inr rfl,rfl⟩⟩
theorem wide (h:es.length<=9223372036854775807):cb z (.sl z es .wide) es:=⟨h,.inr (.inr rfl)⟩
theorem shut (h:es.length<=9223372036854775807):cb z (.sl z es .shut) es:=⟨h,.inr (.inl rfl)⟩
theorem one (h:cb z x es):VM.one x=true:=by rcases h.2 with ⟨rfl | rfl,rfl⟩ | rfl | rfl <;> rfl
theorem bare (h:cb z x es):VM.bare x=true:=by rcases h.2 with ⟨rfl | rfl,rfl⟩ | rfl | rfl <;> rfl
theorem strip (h:cb z x es):VM.strip x=x:=by rcases h.2 with ⟨rfl | rfl,rfl⟩ | rfl | rfl <;> rfl
theorem ab (h:cb z x es) (K:Option β):ab x K=K:=iX h.one K
theorem aJ (h:cb z x es) (K:AV->Option β):aJ x K=K x:=by rcases h.2 with ⟨rfl | rfl,rfl⟩ | rfl | rfl <;> rfl
theorem len (h:cb z x es) (K:Nat->Option β):iQ x K=K es.length:=by rcases h.2 with ⟨rfl | rfl,rfl⟩ | rfl | rfl <;> rfl
theorem elems (h:cb z x es) (K:List AV->Option β):jJ x K=K es:=by rcases h.2 with ⟨rfl | rfl,rfl⟩ | rfl | rfl <;> rfl
theorem idx (h:cb z x es) {k:Nat} {v:AV} (b:es[k]? =some v) (st:St) (K:AV->List Nat->Option β):fc z x (k:Int) st K=K (.ip v.cells) []:=by
 have a:k < es.length:=(Ph.1 b).1;have c:z.beq z=true:=Py z;have hi:mJ (k:Int) es.length=some k:=by
  show (match k.blt es.length with | true=>some k | false=>none)= _;rw [dM.2 a]
 have d:za es k=some v:=AX b;have hlen:=h.1;rcases h.2 with ⟨rfl | rfl,rfl⟩ | rfl | rfl
 .simp at a
 .simp at a
 .simp only [fc,Gx,c,hi,d,ak]
 .simp only [fc,Gx,c,hi,d,ak]
theorem slice (h:cb z x es) {lo hi:Option Int} {l m:Nat} (hl:ph lo m 0=some l) (a:ph hi es.length es.length=some m) (K:AV->Option β):
  ∃b,cb z b ((es.take m).drop l)/\iL z x lo hi none K=K b:=by
 have c:z.beq z=true:=Py z;have hlen:=h.1;rcases h.2 with ⟨rfl | rfl,rfl⟩ | rfl | rfl
 .have a:ph hi 0 0=some m:=a;refine ⟨.aG,⟨by simp,.inl ⟨.inl rfl,by simp⟩⟩, ?_⟩;simp only [iL,kM,show ph none 0 0=some 0 from rfl,a,hl,ak]
 .have a:ph hi 0 0=some m:=a;refine ⟨.es,⟨by simp,.inl ⟨.inr rfl,by simp⟩⟩, ?_⟩;simp only [iL,kM,show ph none 0 0=some 0 from rfl,a,hl,ak]
 .simp only [iL,kM,c,a,hl];cases e:m.beq es.length with
  | true=>
   have:=NZ e;subst this;exact ⟨.sl z (es.drop l) .shut,by simpa using cb.shut (z:=z) (es:=es.drop l) (by rw [N3];omega),rfl⟩
  | false=>exact ⟨_,cb.wide (by rw [N3,Oa];omega),rfl⟩
 .simp only [iL,kM,c,a,hl];cases e:m.beq es.length with
  | true=>exact ⟨_,cb.wide (by rw [N3,Oa];omega),rfl⟩
  | false=>exact ⟨_,cb.wide (by rw [N3,Oa];omega),rfl⟩
end cb
theorem Bs {k n d:Nat} (h:k<=n):ph (some (k:Int)) n d=some k:=by
 show (match k.ble n with | true=>some k | false=>none)= _;rw [Oz h]
def jE (st:St) (z:Nat) (e:TypeId) (v:AV) (es:List AV):Prop:=
 st.ro<=st.h/\es.length<=9223372036854775807/\(((v= .aG\/v= .es)/\es=[])\/v= .sl z es .shut\/ ∃k,v= .sl z es (.own k)/\st.get k= .ok (.tok es.length e)/\st.ro<=k)
theorem jE.aG {st:St} (h:st.ro<=st.h) (z:Nat) (e:TypeId):jE st z e .aG []:=⟨h,by simp,.inl ⟨.inl rfl,rfl⟩⟩
theorem jE.emp {st:St} (h:st.ro<=st.h) (z:Nat) (e:TypeId):jE st z e .es []:=⟨h,by simp,.inl ⟨.inr rfl,rfl⟩⟩
theorem jE.shut {st:St} (h:st.ro<=st.h) {z:Nat} (e:TypeId) {es:List AV} (hl:es.length<=9223372036854775807):jE st z e (.sl z es .shut) es:=⟨h,hl,.inr (.inl rfl)⟩
theorem jE.one {st:St} {z:Nat} {e:TypeId} {v:AV} {es:List AV} (h:jE st z e v es):VM.one v=true:=by
 rcases h with ⟨_,_,⟨rfl | rfl,_⟩ | rfl | ⟨k,rfl,_⟩⟩ <;> rfl
theorem St.en {st:St} {o:Obj}:(st.add o).get st.h= .ok o:=St.dE.2 (.inl ⟨rfl,rfl⟩)
theorem St.qq {st:St} {o:Obj} {j:Nat} {x:Obj} (h:st.get j= .ok x):(st.add o).get j= .ok x:=St.dE.2 (.inr ⟨(St.cA.1 h).1,h⟩)
structure aV (st st':St) (but:Nat->Prop):Prop where
 ro:st'.ro=st.ro
 h:st.h<=st'.h
 old: ∀j o,¬ but j->st.get j= .ok o->st'.get j= .ok o
theorem aV.refl (st:St) (but:Nat->Prop):aV st st but:=⟨rfl,NX _,fun _ _ _ h=>h⟩
theorem aV.trans {a b c:St} {p:Nat->Prop} (h:aV a b p) (k:aV b c p):aV a c p:=
 ⟨k.ro.trans h.ro,Oe h.h k.h,fun j o d e=>k.old j o d (h.old j o d e)⟩
theorem aV.add (st:St) (o:Obj) (but:Nat->Prop):aV st (st.add o) but:=⟨rfl,Nat.le_succ _,fun _ _ _ h=>St.qq h⟩
theorem aV.put {st:St} {i:Nat} {o:Obj} {but:Nat->Prop} (a:but i):aV st (st.put i o) but:=
 ⟨rfl,NX _,fun j x b h=>by
  have:i≠j:=by rintro rfl;exact b a
  rw [St.aQ this];exact h⟩
def dm (v:AV) (j:Nat):Prop:= ∃z es,v= .sl z es (.own j)
theorem xe {β:Type} {z b:Nat} {e:TypeId} {s:AV} {new:List AV} {st:St} {v:AV} {st':St} {x:Fx} (h:rj z b e s new st=some (v,st',x)) (K:Kv β):cq z b e s new st K=K v st' x:=by
 simp only [cq,nJ,h,ak]
theorem jE.not {st:St} {z:Nat} {e:TypeId} {v:AV} {ws:List AV} {j:Nat} {t:TypeId} {cs:List AV} (h:jE st z e v ws) (b:st.get j= .ok (.cells t cs)):¬ dm v j:=by
 rintro ⟨z,es,rfl⟩;rcases h with ⟨_,_,⟨h | h,_⟩ | h | ⟨k,h,a,_⟩⟩
 .cases h
 .cases h
 .cases h
 .cases h;rw [b] at a;cases a
theorem jE.put {st:St} {z:Nat} {e:TypeId} {v:AV} {ws:List AV} {j:Nat} {t t':TypeId} {cs cs':List AV} (h:jE st z e v ws) (b:st.get j= .ok (.cells t cs)):jE (st.put j (.cells t' cs')) z e v ws:=by
 refine ⟨h.1,h.2.1, ?_⟩;rcases h.2.2 with h | h | ⟨k,c,a,d⟩
 .exact .inl h
 .exact .inr (.inl h)
 .refine .inr (.inr ⟨k,c, ?_,d⟩);have:j≠k:=by rintro rfl;rw [b] at a;cases a
  rw [St.aQ this];exact a
theorem wA {st:St} {z b:Nat} {e:TypeId} {v:AV} {es new:List AV} (h:jE st z e v es) (f:new≠[]) (c:cU (es.length+new.length) ⟨.other,z,b,[],false,false⟩=true):
  ∃v' st' x,rj z b e v new st=some (v',st',x)/\jE st' z e v' (es++new)/\aV st st' (dm v)/\(∀j,dm v' j->dm v j\/st.h<=j):=by
 have hlen:(es++new).length<=9223372036854775807:=by
  simp only [cU,N0] at c;rw [N8];exact Oe (N4 c.2.2) (by omega)
 have i:z.beq z=true:=Py z;cases new with
 | nil=>exact absurd rfl f
 | cons a l=>
  have fresh: ∀n,n=(es++a::l).length->rj z b e v (a::l) st=qd st (.tok n e) (fun k=> .sl z (es++a::l) (.own k))-> ∃v' st' x,rj z b e v (a::l) st=some (v',st',x)/\jE st' z e v' (es++a::l)/\aV st st' (dm v)/\(∀j,dm v' j->dm v j\/st.h<=j):=by
   intro n f o;refine ⟨.sl z (es++a::l) (.own st.h),st.add (.tok n e),⟨[],.made st.h (.tok n e)⟩,o,⟨Nat.le_succ_of_le h.1,hlen,.inr (.inr ⟨st.h,rfl, ?_,h.1⟩)⟩,aV.add _ _ _, ?_⟩
   .rw [<- f];exact St.en
   .rintro j ⟨z',g,e⟩;cases e;exact .inr (NX _)
  rcases h.2.2 with ⟨rfl | rfl,rfl⟩ | rfl | ⟨k,rfl,m,d⟩
  .simp only [OO,N5] at c;exact fresh (a::l).length rfl (by simp only [rj,c,O3])
  .simp only [OO,N5] at c;exact fresh (a::l).length rfl (by simp only [rj,c,O3])
  .exact fresh (es.length+(a::l).length) (by rw [N8]) (by simp only [rj,c,i,OZ])
  .have h1:(es.length.beq es.length&&Nat.beq e e)=true:=by simp
   have p:(st.ro.ble k)=true:=Oz d;refine ⟨.sl z (es++a::l) (.own k),st.put k (.tok (es.length+(a::l).length) e),⟨[k],.wrote k (.tok (es.length+(a::l).length) e)⟩, ?_,⟨h.1,hlen,.inr (.inr ⟨k,rfl, ?_,d⟩)⟩,aV.put ⟨z,es,rfl⟩, ?_⟩
   .simp only [rj,c,i,OZ,m,h1,kW,p]
   .rw [St.aP (St.cA.1 m).1,N8]
   .rintro j ⟨z',g,e⟩;cases e;exact .inl ⟨_,_,rfl⟩
theorem aM {β:Type} {E:Env} {f:FuncId} {args:List AV} {v:AV} (st:St) (K:Kv β) (hf:E.full f=false) (hs:args.map strip=args) (a:bx args=true) (h:(bc E).bare f args=some v):
  aX (bc E) f args st K=K v st q0:=by
 have h1:(bx (args.map strip)&& !(bc E).full f)=true:=by
  rw [hs,a];show (true&& !E.full f)=true;rw [hf];rfl
 unfold aX nJ zd;rw [h1,hs,h];rfl
theorem fO {β:Type} {E:Env} {f:FuncId} {args:List AV} {v:AV} {st st':St} (K:Kv β) (hl:E.isLook f=false) (a:(bx (args.map strip)&& !E.full f)=false) (h:(bc E).wide f args st=some (v,st')):
  aX (bc E) f args st K=K v st' ⟨[],.all st st'⟩:=by
 have h1:(bx (args.map strip)&& !(bc E).full f)=false:=a;have b:(bc E).isLook f=false:=hl;unfold aX nJ zd;rw [h1,b,h];rfl
theorem wrap_i64 {n:Int} (h1: -9223372036854775808<=n) (a:n<=9223372036854775807):IntKind.wrap .i64 n=n:=by
 have e:IntKind.wrap .i64 n=if n % 18446744073709551616>=9223372036854775808 then n % 18446744073709551616 - 18446744073709551616 else n % 18446744073709551616:=by
  show (if (true&&decide (n % (2 ^ 64:Int)>=(2 ^ 63:Int)))=true then n % (2 ^ 64:Int) - (2 ^ 64:Int) else n % (2 ^ 64:Int))= _;simp
 rw [e];split <;> omega
theorem drop_cons {α:Type} {l m:List α} {i:Nat} {v:α} (h:l.drop i=v::m):l[i]? =some v/\l.drop (i+1)=m/\i < l.length:=by
 have h1:(l.drop i)[0]? =some v:=by rw [h];rfl
 rw [Po] at h1;refine ⟨by simpa using h1, ?_, ?_⟩
 .rw [<- O8,h];rfl
 .exact (Ph.1 (by simpa using h1)).1
end Go.VM
namespace Go.VM
open Go
section
variable {β α:Type}
@[congr] theorem I8 {a a':α} {K:α->Option β} (h:a=a'):aN a K=aN a' K:=by rw [h]
@[congr] theorem JR {k:IntKind} {v v':AV} {K:Int->Option β} (h:v=v'):bg k v K=bg k v' K:=by rw [h]
@[congr] theorem JW {v v':AV} {K:Bool->Option β} (h:v=v'):bG v K=bG v' K:=by rw [h]
@[congr] theorem J9 {v v':AV} {K:List UInt8->Option β} (h:v=v'):dV v K=dV v' K:=by rw [h]
@[congr] theorem Il {v v':AV} {K:Int->Option β} (h:v=v'):anyI v K=anyI v' K:=by rw [h]
@[congr] theorem Kc {v v':AV} {K:List AV->Option β} (h:v=v'):yF v K=yF v' K:=by rw [h]
@[congr] theorem JZ {v v':AV} {K:List AV->Option β} (h:v=v'):fU v K=fU v' K:=by rw [h]
@[congr] theorem JX {v v':List AV} {K:AV->List AV->Option β} (h:v=v'):br v K=br v' K:=by rw [h]
@[congr] theorem Ka {v v':List AV} {K:Option β} (h:v=v'):bE v K=bE v' K:=by rw [h]
@[congr] theorem J4 {v v':Bool} {K:Option β} (h:v=v'):cu v K=cu v' K:=by rw [h]
@[congr] theorem JV {v v':Bool} {x y:Option β} (h:v=v'):aW v x y=aW v' x y:=by rw [h]
@[congr] theorem Hq {v v':Option α} {K:α->Option β} (h:v=v'):aB v K=aB v' K:=by rw [h]
@[congr] theorem G9 {v v':Sum α β} {K:α->Option β} (h:v=v'):iP v K=iP v' K:=by rw [h]
@[congr] theorem Ik {n n':Nat} {a:Option β} {b:Nat->Option β} (h:n=n'):ja n a b=ja n' a b:=by rw [h]
@[congr] theorem Hf {v v':AV} {K:Option β} (h:v=v'):ab v K=ab v' K:=by rw [h]
@[congr] theorem Jh {l l':List AV} {n:Nat} {K:AV->Option β} (h:l=l'):cC l n K=cC l' n K:=by rw [h]
@[congr] theorem I5 {o:Nat} {v v':AV} {K:AV->Option β} (h:v=v'):cI o v K=cI o v' K:=by rw [h]
@[congr] theorem Hu {z:Nat} {g:Bool} {v v':AV} {st st':St} {K:AV->List Nat->Option β} (h:v=v') (h':st=st'):ax z g v st K=ax z g v' st' K:=by rw [h,h']
@[congr] theorem HN {v v':AV} {K:AV->Option β} (h:v=v'):aJ v K=aJ v' K:=by rw [h]
@[congr] theorem Jz {v v':AV} {K:Option β} (h:v=v'):D2 v K=D2 v' K:=by rw [h]
@[congr] theorem Jm {v v':AV} {K:Nat->Option β} (h:v=v'):iQ v K=iQ v' K:=by rw [h]
@[congr] theorem Gs {v v':AV} {K:List AV->Option β} (h:v=v'):jJ v K=jJ v' K:=by rw [h]
@[congr] theorem IZ {z:Nat} {v v':AV} {i i':Int} {st st':St} {K:AV->List Nat->Option β} (h:v=v') (h1:i=i') (h2:st=st'):fc z v i st K=fc z v' i' st' K:=by rw [h,h1,h2]
@[congr] theorem FP {v v':List UInt8} {i i':Int} {K:UInt8->Option β} (h:v=v') (h1:i=i'):ey v i K=ey v' i' K:=by rw [h,h1]
@[congr] theorem Fb {i i':Int} {n n':Nat} {K:Nat->Option β} (h:i=i') (h1:n=n'):ic i n K=ic i' n' K:=by rw [h,h1]
@[congr] theorem Ho {i i':Int} {n n':Nat} {K:Nat->Option β} (h:i=i') (h1:n=n'):dq i n K=dq i' n' K:=by rw [h,h1]
@[congr] theorem Gz {z:Nat} {v v':AV} {a a' b b' c c':Option Int} {K:AV->Option β} (h:v=v') (h1:a=a') (h2:b=b') (h3:c=c'):iL z v a b c K=iL z v' a' b' c' K:=by rw [h,h1,h2,h3]
@[congr] theorem JP {z b:Nat} {e:TypeId} {v v':AV} {n n':List AV} {st st':St} {K:Kv β} (h:v=v') (h1:n=n') (h2:st=st'):cq z b e v n st K=cq z b e v' n' st' K:=by rw [h,h1,h2]
@[congr] theorem Hm {g:Bool} {l l':List AV} {K:List AV->Option β} (h:l=l'):lE g l K=lE g l' K:=by rw [h]
@[congr] theorem G2 {O:qL} {f:FuncId} {l l':List AV} {st st':St} {K:Kv β} (h:l=l') (h1:st=st'):aX O f l st K=aX O f l' st' K:=by rw [h,h1]
@[congr] theorem Hb {O:qL} {p p':cl cV} {st st':St} {K:Kv β} (h:p=p') (h1:st=st'):eJ O p st K=eJ O p' st' K:=by rw [h,h1]
@[congr] theorem G0 {O:qL} {pr:FuncId->Option Prim} {f f':AV} {l l':List AV} {st st':St} {K:Kv β} (h0:f=f') (h:l=l') (h1:st=st'):jX O pr f l st K=jX O pr f' l' st' K:=by rw [h0,h,h1]
@[congr] theorem FY {O:qL} {z:Nat} {a a' v v':AV} {l l':List AV} {st st':St} {K:Kv β} (h0:a=a') (h2:v=v') (h:l=l') (h1:st=st'):bn O z a v l st K=bn O z a' v' l' st' K:=by rw [h0,h2,h,h1]
@[congr] theorem I9 {st st':St} {b:Nat} {v v':AV} {K:AV->Option β} (h1:st=st') (h:v=v'):kQ st b v K=kQ st' b v' K:=by rw [h1,h]
@[congr] theorem HP {st st':St} {o o':Obj} {f:Nat->AV} {K:Kv β} (h1:st=st') (h:o=o'):made st o f K=made st' o' f K:=by rw [h1,h]
@[congr] theorem Ie {u:U} {v v' w w':AV} {K:Bool->Option β} (h:v=v') (h1:w=w'):Em u v w K=Em u v' w' K:=by rw [h,h1]
@[congr] theorem G3 {a a':St} {K:St->Option β} (h:a=a'):ba a K=ba a' K:=by rw [h]
@[simp] theorem ef (a:St) (K:St->Option β):ba a K=K a:=id rfl
end
theorem aL {σ β:Type} {F:σ->Option (Sum σ β)} {s s':σ} (h:F s=some (.inl s')):aI F s=aI F s':=by rw [xM,h]
theorem aC {σ β:Type} {F:σ->Option (Sum σ β)} {s:σ} {r:β} (h:F s=some (.inr r)):aI F s=some r:=by rw [xM,h]
def Fz (d:Nat) (v:AV):Prop:= ∀st base n,d<=n->freeze st base n v= .ok v
theorem tg (k:IntKind) (m:Int):Fz 1 (.int k m):=fun _ _ n a=>by cases n with | zero=>omega | succ n=>rfl
theorem IM (s:List UInt8):Fz 1 (.str s):=fun _ _ n a=>by cases n with | zero=>omega | succ n=>rfl
theorem GA:Fz 1 .aG:=fun _ _ n a=>by cases n with | zero=>omega | succ n=>rfl
theorem KP:Fz 1 .es:=fun _ _ n a=>by cases n with | zero=>omega | succ n=>rfl
theorem FG (z:Nat) (es:List AV):Fz 1 (.sl z es .wide):=fun _ _ n a=>by cases n with | zero=>omega | succ n=>rfl
theorem FN (z:Nat) (es:List AV):Fz 1 (.sl z es .shut):=fun _ _ n a=>by cases n with | zero=>omega | succ n=>rfl
theorem K9 {z:Nat} {x:AV} {es:List AV} (h:cb z x es):Fz 1 x:=by
 rcases h.2 with ⟨rfl | rfl,rfl⟩ | rfl | rfl
 .exact GA
 .exact KP
 .exact FN _ _
 .exact FG _ _
theorem Bl {st:St} {base n d:Nat} (a:d<=n): ∀{cs:List AV},(∀c∈cs,Fz d c)->iZ (freeze st base n) cs= .ok cs
 | [],_=>rfl
 | c::cs,h=>by
  have h1:=h c (by simp) st base n a;have b:=Bl (st:=st) (base:=base) a fun c e=>h c (N2 _ e);simp only [iZ,h1,b,ay,aE]
theorem Jx {d:Nat} {cs:List AV} (h: ∀c∈cs,Fz d c):Fz (d+1) (.agg cs):=fun st base n a=>by
 cases n with
 | zero=>omega
 | succ n=>
  show (do pure (.agg (<- iZ (freeze st base n) cs)):cl AV)= _;rw [Bl (by omega) h];rfl
theorem eS {β:Type} {O:qL} {st:St} {id off:Nat} {t:TypeId} {old:List AV} {z:Nat} {v:AV} {cs:List AV} (b:st.get id= .ok (.cells t old)) (c:cs.length=z) (hl:off+cs.length<=old.length) (a:st.ro<=id) (K:Kv β):
  bn O z (.mp id off) v cs st K=K undef (st.put id (.cells t (cJ old off cs))) ⟨[id],.wrote id (.cells t (cJ old off cs))⟩:=by
 have h1:cs.length.beq z=true:=by rw [c];exact Py z
 simp only [bn,nJ,AB,h1,b,Oz hl,kW,Oz a,ak,JL]
theorem iJ {old cs:List AV} (h:cs.length=old.length):cJ old 0 cs=cs:=by
 simp only [cJ,List.take_zero,O3,N5];rw [h,List.drop_length,ON]
theorem vl {O:qL} {st:St} {t:TypeId} {z:Nat} {old cs:List AV} (v:AV) (hl:old.length=z) (c:cs.length=z) (a:st.ro<=st.h):
  ∃st',st'.get st.h= .ok (.cells t cs)/\aV st st' (fun _=>False)/\st'.h=st.h+1/\ ∃d,∀{β:Type} (K:Kv β),bn O z (.mp st.h 0) v cs (st.add (.cells t old)) K=K undef st' d:=by
 have e:(st.add (.cells t old)).get st.h= .ok (.cells t old):=St.en;refine ⟨(st.add (.cells t old)).put st.h (.cells t cs),St.aP (Pj _),⟨rfl,Nat.le_succ _,fun j o _ b=> ?_⟩,rfl,⟨[st.h],.wrote st.h (.cells t (cJ old 0 cs))⟩,fun K=> ?_⟩
 .have f:=(St.cA.1 b).1;rw [St.aQ (by omega)];exact St.qq b
 .rw [eS e c (by omega) a];rw [iJ (by omega)]
theorem cb.cut {z:Nat} {x:AV} {es:List AV} (h:cb z x es) {lo hi:Option Int} {l m:Nat} (hl:ph lo m 0=some l) (b:ph hi es.length es.length=some m):
  ∃a,cb z a ((es.take m).drop l)/\ ∀{β:Type} (K:AV->Option β),iL z x lo hi none K=K a:=by
 obtain ⟨a,c,e⟩:=h.slice hl b (some:AV->Option AV);refine ⟨a,c,fun K=> ?_⟩;have e:aB (kM z x lo hi none) some=some a:=e;show aB (kM z x lo hi none) K= _;cases hs:kM z x lo hi none with
 | none=>rw [hs] at e;cases e
 | some u=>rw [hs] at e;cases e;rfl
@[simp] theorem nN (r:List Nat):apart ⟨r,.kept⟩ q0=true:=id rfl
@[simp] theorem lU (r:List Nat):apart q0 ⟨r,.kept⟩=true:=id rfl
theorem EO {cs:List AV}:bare (.agg cs)=bx cs:=rfl
section
variable {β:Type} {O:qL}
end
end Go.VM
