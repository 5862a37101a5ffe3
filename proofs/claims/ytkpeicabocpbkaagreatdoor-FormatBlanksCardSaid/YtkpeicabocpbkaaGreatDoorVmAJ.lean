/-
  A part of the proof.
-/
import Derived.Test.YtkpeicabocpbkaaGreatDoorVmAI
import Derived.LoopN
import Derived.Scope
import Derived.RangeFuncLeaves
import Derived.RangeFuncRecord
set_option linter.all false
namespace Go.VM
def Ex.to:Ex->Exit
 | .normal=> .normal
 | .exit id=> .exit id
 | .ret=> .ret
section
variable {P:Program}
theorem Kp.sub {A A':Nat->Prop} {g g':Gh} {w w':World} (h:Kp A' g w g' w') (hs: ∀b,A' b->A b):Kp A g w g' w':=
 ⟨h.size,fun b a=>h.heap b fun k=>a (hs b k),fun b a=>h.F b fun k=>a (hs b k),fun b a=>h.M b fun k=>a (hs b k),h.le,h.rest⟩
structure Nx (A:Nat->Prop) (g:Gh) (a:Act) (w:World) (A':Nat->Prop) (g':Gh) (a':Act) (w':World):Prop where
 sub: ∀b,A' b->A b
 kp:Kp A g w g' w'
 defs: ∀d∈a'.defers,d∈a.defers\/ ∃D,d=mark D/\A D
theorem Nx.refl (A:Nat->Prop) (g:Gh) (a:Act) (w:World):Nx A g a w A g a w:=⟨fun _ h=>h,Kp.refl _ _ _,fun _ h=> .inl h⟩
theorem Nx.trans {A c e:Nat->Prop} {g f i:Gh} {a j l:Act} {w m n:World} (h:Nx A g a w c f j m) (k:Nx c f j m e i l n):Nx A g a w e i l n:=
 ⟨fun b o=>h.sub b (k.sub b o),h.kp.trans (k.kp.sub h.sub),fun d hd=>by
  rcases k.defs d hd with hd | ⟨D,rfl,p⟩
  .exact h.defs d hd
  .exact .inr ⟨D,rfl,h.sub D p⟩⟩
theorem Bn {X:Cx} {ro:Oq Nat} {c:Code} {body:Fr->St->cY (Ex×Fr×St)}
  (r: ∀A fr st ex fr' st' g a w (Q:Exit->Act->World->Prop),body fr st= .ok (ex,fr',st')->Rel X A ro g fr st a w->(∀A' g' a' w',Rel X A' ro g' fr' st' a' w'->Nx A g a w A' g' a' w'->Q ex.to a' w')->c.wpIn (fe ro) 0 P Q a w):
  ∀(n:Nat) {A:Nat->Prop} {fr fr':Fr} {st st':St} {ex:Ex} {g:Gh} {a:Act} {w:World} {Q:Exit->Act->World->Prop},iter body n fr st= .ok (ex,fr',st')->Rel X A ro g fr st a w->(∀A' g' a' w',Rel X A' ro g' fr' st' a' w'->Nx A g a w A' g' a' w'->Q ex.to a' w')->Code.roundsIn (fe ro) 0 P c Q n a w
 | 0,_,_,_,_,_,_,_,_,_,_,h,_,_=>by simp [iter] at h
 | n+1,A,fr,fr',st,st',ex,g,a,w,Q,h,s,i=>by
  simp only [iter,ah] at h;obtain ⟨⟨d,j,st1⟩,h1,e⟩:=h;rw [roundsIn_succ];refine r A fr st d j st1 g a w _ h1 s fun A' g' a' w' b k=> ?_;cases d with
  | normal=>exact Bn r n e b fun l m o p f q=>i l m o p f (k.trans q)
  | exit id=>
   simp only [au,aag] at e;obtain ⟨rfl,rfl,rfl⟩:=e;exact i A' g' a' w' b k
  | ret=>
   simp only [au,aag] at e;obtain ⟨rfl,rfl,rfl⟩:=e;exact i A' g' a' w' b k
theorem SG {T:TT} {A:Nat->Prop} {g:Gh} {st:St} {w:World} (h:Inv T A g st w) {l:Nat} {o:Go.Obj} (hl:w.heap[l]? =some o) (ho: ∀vs ty fz,o≠ .cells vs ty fz) (k:Nat):g.F l k=none:=by
 cases hf:g.F l k with
 | none=>rfl
 | some v=>
  obtain ⟨vs,ty,fz,h1,_⟩:=og (h.F l k v hf);rw [hl] at h1;exact absurd (abF h1) (ho vs ty fz)
theorem UN {T:TT} {A:Nat->Prop} {g:Gh} {st:St} {w:World} (h:Inv T A g st w) {l:Nat} {o:Go.Obj} (hl:w.heap[l]? =some o) (ho: ∀es clk,o≠ .map es clk):g.M l=none:=by
 cases hm:g.M l with
 | none=>rfl
 | some v=>
  have h1:=h.M l v.1 v.2 hm;rw [hl] at h1;exact absurd (abF h1) (ho _ _)
theorem Inv.turn {T:TT} {A:Nat->Prop} {g:Gh} {st:St} {w:World} (h:Inv T A g st w) {k l:Nat} {imm:Td->Bool} {ps:List Tmp} {x c:Code} {fr:Fr} {s:Nat} {p:Ex} (f:st.get k= .ok (.loop imm ps x c fr s p)) (hE:g.E k=some (.cw l)) {r:Loop} (hl:w.heap[l]? =some (.loop r)) (hA:A l)
  (r':Loop) (o':Obj) (b: ∀b',At g k o' b'->b'=l) (ho:Holds T g (w.putObj l (.loop r')) k o'):Inv T A g (st.put k o') (w.putObj l (.loop r'))/\Kp A g w g (w.putObj l (.loop r')):=by
 have a: ∀b',b'≠l->(w.putObj l (.loop r')).heap[b']? =w.heap[b']? :=fun b' i=>World.putObj_heap_other i;exact ⟨h.write f (show g.E k=some (.cw l) from hE) o' World.putObj_size a (fun j v d=>by rw [SG h hl (fun _ _ _ e=>by cases e) j] at d;cases d) (UN h hl fun _ _ e=>by cases e) b ho,
  Kp.write hA World.putObj_size a⟩
theorem oZ {k s0 b:Nat} {p:Ex} {st st':St} (h:rR k s0 b p st= .ok st'): ∃imm ps x c fr p0,st.get k= .ok (.loop imm ps x c fr s0 p0)/\st'=st.put k (.loop imm ps x c fr b p):=by
 simp only [rR,ah] at h;obtain ⟨o,h1,a⟩:=h;split at a
 .rename_i imm ps x c fr s p0;split at a
  .rename_i hs;have hs:=aan hs;subst hs;cases a;exact ⟨imm,ps,x,c,fr,p0,h1,rfl⟩
  .cases a
 .cases a
theorem uQ (fr:Fr): ∀(us:Ln) (t:Tr AV) (i:Nat),(qC us (kZ fr us) t).get i=t.get i\/(qC us (kZ fr us) t).get i=some (fr.get i)
 | [],t,i=> .inl rfl
 | u::us,t,i=>by
  simp only [kZ,qC];rcases uQ fr us (t.put u (fr.get u)) i with h | h
  .rw [h,Tr.la];by_cases a:u=i
   .rw [if_pos a,a];exact .inr rfl
   .rw [if_neg a];exact .inl rfl
  .exact .inr h
theorem H3 {g:Gh} {fr:Fr} {tmps:Array Value} (h:yx g fr tmps) (hs:fr.strict=false) (us:Ln):yx g (Mx fr.n us (kZ fr us)) tmps:=by
 refine ⟨h.size,fun t=> ?_⟩;simp only [Mx,Fr.get];rcases uQ fr us .leaf t with h1 | h1
 .rw [h1,Tr.tX];exact .inl ⟨trivial,rfl⟩
 .rw [h1];exact .inr (h.at hs t)
theorem Dn {X:Cx} (hX:Good P X) {n:Nat} {x:Operand} {ps:Array Tmp} {y c:Code} (hc:codeOk y=true/\codeOk c=true) {A:Nat->Prop} {ro:Oq Nat} {fr fr':Fr} {st st':St} {ex:Ex} {g:Gh} {a:Act} {w:World} {Q:Exit->Act->World->Prop}
  (h:exec X n (.rangeFunc x ps y c) fr st= .ok (ex,fr',st')) (k:Rel X A ro g fr st a w) (hQ: ∀A' g' a' w',Rel X A' ro g' fr' st' a' w'->Nx A g a w A' g' a' w'->Q ex.to a' w'):(Code.rangeFunc x ps y c).wpIn (fe ro) 0 P Q a w:=by
 simp only [exec] at h;split at h
 .cases h
 rename_i hs;have a7:ro=none:=by
  have:=k.mode;rw [hs] at this;cases ro with
  | none=>rfl
  | some l=>cases this
 subst a7;simp only [ah] at h;obtain ⟨fv,h1,h⟩:=h;split at h
 .rename_i f cap;simp only [ah] at h;obtain ⟨⟨v,st1⟩,h2,o,h3,h4⟩:=h;dsimp only at h3 h4;split at h4
  .rename_i cb cc x1 c1 cd s p;split at h4
   .rename_i V;simp only [au,aag] at h4;obtain ⟨rfl,rfl,rfl⟩:=h4;have W:=aS k.G k.fr h1;simp only [R,RL] at W;obtain ⟨a',Y,a8,S,bb⟩:=W;have S:a'= #[]:=by simpa using S
    subst S;refine wpIn_rangeFunc ?_;intro fn cl;obtain ⟨rec,j⟩: ∃rec:Loop,rec={state:= .ready,pending:=none,fn,tmps:=a.tmps,params:=ps,assign:=y,body:=c,defers:=w.heap.size}:=⟨_,rfl⟩;obtain ⟨N,m⟩: ∃N,w.alloc (.deferred (some []))=N:=⟨_,rfl⟩;obtain ⟨u,q⟩: ∃u,N.alloc (.loop rec)=u:=⟨_,rfl⟩;have bt:N.heap.size=w.heap.size+1:=by rw [<- m];simp
    have cn:u.heap.size=w.heap.size+1+1:=by rw [<- q, <- m];simp
    obtain ⟨A',I⟩: ∃A':Nat->Prop,A'=fun b=>A b/\b≠w.heap.size:=⟨_,rfl⟩;have J: ∀b,A' b->A b:=fun b Z=>by rw [I] at Z;exact Z.1
    have L:Inv X.T A g st N:=by rw [<- m];exact k.inv.alloc _
    have L:Inv X.T A' g st N:=by
     refine ⟨L.F,L.M,L.E,L.H,L.D,fun id o b q1 q2 q3=> ?_,fun b Z=> ?_⟩
     .rw [I];have:=GX (k.inv.H id o q1) q2;exact ⟨L.own id o b q1 q2 q3,by omega⟩
     .rw [I];exact ⟨k.inv.up b (by omega),by omega⟩
    have k0:Kp A g w g N:=by rw [<- m];exact Kp.alloc _ k.inv
    have b4:u.heap[w.heap.size+1]? =some (.loop rec):=by
     have:=World.heap_alloc_new (w:=N) (o:= .loop rec);rw [q,bt] at this;exact this
    have b5:u.heap[w.heap.size]? =some (.deferred (some [])):=by
     rw [<- q,World.iS (by omega), <- m];exact World.heap_alloc_new
    have av:g.E st.h=none:=k.inv.E _ (aah _);have K:Le g (g.dP st.h (.cw (w.heap.size+1))):=Le.dP av;have a1:A' (w.heap.size+1):=by rw [I];exact ⟨k.inv.up _ (by omega),by omega⟩
    have i1:Inv X.T A' (g.dP st.h (.cw (w.heap.size+1))) (st.new (.loop X.imm ps.toList y c (Mx fr.n (qq ps.toList y c) (kZ fr (qq ps.toList y c))) 0 .normal)).2 u:=by
     have:=L.alloc (.loop rec);rw [q] at this;refine this.name _ (.cw (w.heap.size+1)) (w.heap.size+1) (fun id o' b6=>L.kU (by omega) id o' b6) a1 (fun b' B=> ?_) ⟨w.heap.size+1,rec,Gh.bJ _ _ _,b4, ?_, ?_, ?_, ?_,⟨hc.1,hc.2,rfl⟩, ?_⟩
     .have B:(g.dP st.h (.cw (w.heap.size+1))).E st.h=some (.cw b'):=B;rw [Gh.bJ] at B;simpa using B.symm
     .rw [j];exact (H3 k.fr hs _).mono K
     .rw [j]
     .rw [j]
     .rw [j]
     .rw [j];exact .inl ⟨rfl,rfl,rfl,rfl⟩
    have k1:Kp A' g N (g.dP st.h (.cw (w.heap.size+1))) u:=by
     rw [<- q];exact (Kp.alloc _ L).trans (Kp.dP av)
    have U:RL (g.dP st.h (.cw (w.heap.size+1))) (.yld st.h::cap) (.func (.yield (w.heap.size+1)) #[] #[]::Y.toList):=
     cA (by simp only [R];exact ⟨_,Gh.bJ _ _ _,rfl⟩) (gj K _ _ bb)
    obtain ⟨e1,t⟩:=hX.C.wide _ _ _ _ _ h2 A' _ u _ (k.G.mono K) U i1;refine ⟨w.heap.size+1,[mark w.heap.size],u,{target:= .fn (.func f) Y,args:= #[.func (.yield (w.heap.size+1)) #[] #[]]},u,f,(.func (.yield (w.heap.size+1)) #[] #[]::Y.toList).toArray,u, ?_, ?_, ?_, ?_,fun e=>by simp [fe,Fence.wide] at e, ?_⟩
    .rw [<- q,j, <- m];exact run_enterLoop_outer _ _ _ _ _
    .simp only [resolve,a8];simp [go_sem]
    .intro _ _;trivial
    .have:(#[.func (.yield (w.heap.size+1)) #[] #[]]++Y:Array Value)=(.func (.yield (w.heap.size+1)) #[] #[]::Y.toList).toArray:=by
      apply Array.ext';simp
     rw [<- this] at e1 ⊢;simpa [invoke,go_sem] using e1
    .have t:CallsIn (fe none) 0 P f _ u _:=callsIn_wide.2 t;refine CallsIn.mono t ?_;rintro e W3 ⟨z,rfl,g',_,i3,k3⟩;have a6:g'.E st.h=some (.cw (w.heap.size+1)):=k3.le.cw _ _ (Gh.bJ _ _ _);obtain ⟨b,r,q1,q2,q3,q4,q5,q6,q7,q8⟩:=i3.H _ _ h3;have Z:b=w.heap.size+1:=by have:=q1.symm.trans a6;simpa using this
     subst Z;have b7:r.state≠ .busy:=by
      rcases q8 with ⟨_,e,_⟩ | ⟨e,_⟩ | ⟨_,e,_⟩
      .rw [e];simp
      .subst e;cases V
      .rw [e];simp
     obtain ⟨i4,k4⟩:=i3.turn h3 a6 q2 a1 {r with state:= .exhausted} .dead (fun _ B=>B.elim) trivial;have rel:Rel X A' none g' fr (st1.put st.h .dead) {a with defers:=[mark w.heap.size]++a.defers} (W3.putObj (w.heap.size+1) (.loop {r with state:= .exhausted})):=by
      refine ⟨k.mode,k.fr.mono (K.trans k3.le),i4,k.G.mono (K.trans k3.le), ?_⟩;have m1:Marks A' ([mark w.heap.size]++a.defers) u:=by
       obtain ⟨Ds,m1,m2,m3⟩:=k.marks;refine ⟨w.heap.size::Ds,by rw [m1];rfl,abT.2 ⟨fun hm=> ?_,m2⟩,fun D hD=> ?_⟩
       .have:=lt_of_heap (m3 _ hm).2;omega
       .rcases aam.1 hD with rfl | hD
        .exact ⟨fun hh=>by rw [I] at hh;exact hh.2 rfl,b5⟩
        .have b8:=lt_of_heap (m3 D hD).2;refine ⟨fun hh=>(m3 D hD).1 (J D hh), ?_⟩;rw [<- q,World.iS (by omega), <- m,World.iS b8];exact (m3 D hD).2
      exact (m1.G0 k3).G0 k4
     have nx:Nx A g a w A' g' {a with defers:=[mark w.heap.size]++a.defers} (W3.putObj (w.heap.size+1) (.loop {r with state:= .exhausted})):=by
      refine ⟨J,k0.trans (((k1.trans k3).trans k4).sub J),fun d hd=> ?_⟩;rcases aaA.1 hd with hd | hd
      .exact .inr ⟨w.heap.size,by simpa using hd,k.inv.up _ (aah _)⟩
      .exact .inl hd
     have hq:=hQ _ _ _ _ rel nx;have O:=run_endLoop (P:=P) q2 b7;obtain ⟨W4,b9⟩: ∃W4,W3.putObj (w.heap.size+1) (.loop {r with state:= .exhausted})=W4:=⟨_,rfl⟩;rw [b9] at hq O;refine ⟨r.pending,W4,O, ?_⟩;rcases q8 with ⟨_,_,e,rfl⟩ | ⟨e,_⟩ | ⟨_,_,⟨rfl,e⟩ | ⟨i,rfl,e⟩⟩
     .rw [e];exact hq
     .subst e;cases V
     .rw [e];exact wpIn_ret hq
     .rw [e];exact wpIn_exit hq
   .cases h4
  .cases h4
 .cases h
theorem gA {X:Cx} {ro:Oq Nat} (u:Good P X) (hm:P.follows .mixedOrders=true) (n:Nat): ∀(c:Code),codeOk c=true->(ro.isSome=true->cE c=true)-> ∀(A:Nat->Prop) (fr:Fr) (st:St) (ex:Ex) (fr':Fr) (st':St) (g:Gh) (a:Act) (w:World) (Q:Exit->Act->World->Prop),
  exec X n c fr st= .ok (ex,fr',st')->Rel X A ro g fr st a w->(∀A' g' a' w',Rel X A' ro g' fr' st' a' w'->Nx A g a w A' g' a' w'->Q ex.to a' w')->c.wpIn (fe ro) 0 P Q a w
 | .skip,_,_,A,fr,st,ex,fr',st',g,a,w,Q,h,f,j=>by
  simp only [exec,aac,aag] at h;obtain ⟨rfl,rfl,rfl⟩:=h;exact wpIn_skip (j A g a w f (Nx.refl _ _ _ _))
 | .label _,_,_,A,fr,st,ex,fr',st',g,a,w,Q,h,f,j=>by
  simp only [exec,aac,aag] at h;obtain ⟨rfl,rfl,rfl⟩:=h;exact wpIn_label (j A g a w f (Nx.refl _ _ _ _))
 | .exit id,_,_,A,fr,st,ex,fr',st',g,a,w,Q,h,f,j=>by
  simp only [exec,aac,aag] at h;obtain ⟨rfl,rfl,rfl⟩:=h;exact wpIn_exit (j A g a w f (Nx.refl _ _ _ _))
 | .ret,_,_,A,fr,st,ex,fr',st',g,a,w,Q,h,f,j=>by
  simp only [exec,aac,aag] at h;obtain ⟨rfl,rfl,rfl⟩:=h;exact wpIn_ret (j A g a w f (Nx.refl _ _ _ _))
 | .region id ops draw,m,o,A,fr,st,ex,fr',st',g,a,w,Q,h,f,j=>by
  have v:ro.isSome=true->iU ops.toList=true:=o;have nx: ∀{g':Gh} {a':Act} {w':World},a'.defers=a.defers->Kp A g w g' w'->Nx A g a w A g' a' w':=fun hd q=>⟨fun _ J=>J,q,fun d h=> .inl (hd ▸ h)⟩;simp only [exec] at h;split at h
  .simp only [ah,au,aag] at h;obtain ⟨⟨r,st1⟩,h1,rfl,rfl,rfl⟩:=h;refine D5 u hm v (fun hd=> ?_) h1 f fun a' g' w' k hd q=>j A g' a' w' k (nx hd q);simp only [codeOk,hd,aaS,aaV] at m;exact m
  .rename_i hd;simp only [aaf] at hd;obtain ⟨rfl,_⟩:=hd;simp only [ah,au,aag] at h;obtain ⟨⟨r,st1⟩,h1,rfl,rfl,rfl⟩:=h;exact BR u hm v (by simpa [codeOk] using m) h1 ⟨f.mode,f.fr,f.inv.lay,f.G,f.marks⟩ fun a' g' w' k hd q=>j A g' a' w' k (nx hd q)
 | .seq x y,m,o,A,fr,st,ex,fr',st',g,a,w,Q,h,f,j=>by
  simp only [codeOk,aaf] at m;have s:ro.isSome=true->cE x=true/\cE y=true:=fun e=>by have:=o e;simpa [cE] using this
  simp only [exec,ah] at h;obtain ⟨⟨t,r,st1⟩,h1,p⟩:=h;refine wpIn_seq (gA u hm n x m.1 (fun e=>(s e).1) A fr st t r st1 g a w _ h1 f fun A' g' a' w' k q=> ?_);cases t with
  | normal=>exact gA u hm n y m.2 (fun e=>(s e).2) A' r st1 ex fr' st' g' a' w' Q p k fun C D E F z H=>j C D E F z (q.trans H)
  | exit id=>
   simp only [au,aag] at p;obtain ⟨rfl,rfl,rfl⟩:=p;exact j A' g' a' w' k q
  | ret=>
   simp only [au,aag] at p;obtain ⟨rfl,rfl,rfl⟩:=p;exact j A' g' a' w' k q
 | .cond c x y,m,o,A,fr,st,ex,fr',st',g,a,w,Q,h,f,j=>by
  simp only [codeOk,aaf] at m;have s:ro.isSome=true->cE x=true/\cE y=true:=fun e=>by have:=o e;simpa [cE] using this
  simp only [exec,ah] at h;obtain ⟨K,h1,b,p,I⟩:=h;have B:=aS f.G f.fr h1;cases K <;> simp only [VM.asBool,aac] at p <;> (try (cases p;done))
  subst p;simp only [R] at B;rename_i b;refine wpIn_cond B ?_;cases b with
  | true=>exact gA u hm n x m.1 (fun e=>(s e).1) A fr st ex fr' st' g a w Q I f j
  | false=>exact gA u hm n y m.2 (fun e=>(s e).2) A fr st ex fr' st' g a w Q I f j
 | .block id c,m,o,A,fr,st,ex,fr',st',g,a,w,Q,h,f,j=>by
  simp only [codeOk] at m;simp only [exec,ah] at h;obtain ⟨⟨t,r,st1⟩,h1,p⟩:=h;refine wpIn_block (gA u hm n c m o A fr st t r st1 g a w _ h1 f fun A' g' a' w' k q=> ?_);cases t with
  | normal=>
   simp only [au,aag] at p;obtain ⟨rfl,rfl,rfl⟩:=p;exact j A' g' a' w' k q
  | exit i=>
   simp only at p;simp only [Ex.to,Exit.inBlock];split at p
   .rename_i hi;have hi:=aan hi;simp only [au,aag] at p;obtain ⟨rfl,rfl,rfl⟩:=p;rw [if_pos hi];exact j A' g' a' w' k q
   .rename_i hi;have hi:i≠id:=fun e=>by subst e;simp at hi
    simp only [au,aag] at p;obtain ⟨rfl,rfl,rfl⟩:=p;rw [if_neg hi];exact j A' g' a' w' k q
  | ret=>
   simp only [au,aag] at p;obtain ⟨rfl,rfl,rfl⟩:=p;exact j A' g' a' w' k q
 | .loop c,m,o,A,fr,st,ex,fr',st',g,a,w,Q,h,f,j=>by
  simp only [codeOk] at m;simp only [exec] at h;refine wpIn_loop_rounds n (Bn (fun A fr st ex fr' st' g a w Q h f j=>gA u hm n c m o A fr st ex fr' st' g a w Q h f j) n h f j)
 | .rangeFunc x ps y c,m,_,A,fr,st,ex,fr',st',g,a,w,Q,h,f,j=>by
  simp only [codeOk,aaf] at m;exact Dn u m h f j
 | .scope c,m,o,A,fr,st,ex,fr',st',g,a,w,Q,h,f,j=>by
  cases ro with
  | some l=>exact absurd (o rfl) (by simp [cE])
  | none=>
   simp only [codeOk] at m;simp only [exec] at h;refine wpIn_wide.2 (wp_scope_straight (wpIn_wide.1 (gA (ro:=none) u hm n c m (fun e=>by cases e) A fr st ex fr' st' g a w _ h f fun A' g' a' w' k q=> ?_)));cases ex <;> exact j A' g' a' w' k q
 | .goto _,_,_,_,_,_,_,_,_,_,_,_,_,h,_,_=>by simp [exec] at h
 | .refuse _,_,_,_,_,_,_,_,_,_,_,_,_,h,_,_=>by simp [exec] at h
end
section
variable {P:Program} {T:TT} {A:Nat->Prop} {g:Gh} {st:St} {w:World}
theorem An: ∀(l:LA) (i:Nat) (t:Tr AV) (k:Nat),(wH i l t).get k=if i<=k/\k < i+l.length then l[k - i]? else t.get k
 | [],i,t,k=>by
  simp only [wH,aae,abq];rw [if_neg (by omega)]
 | v::l,i,t,k=>by
  simp only [wH,An l (i+1),Tr.la,aab];by_cases h:i=k
  .subst h;rw [if_neg (by omega),if_pos rfl,if_pos (by omega)];simp
  .rw [if_neg h];by_cases a:i+1<=k/\k < i+1+l.length
   .rw [if_pos a,if_pos (by omega),show k - i=(k - (i+1))+1 by omega];simp
   .rw [if_neg a,if_neg (by omega)]
theorem BP {n:Nat} {args:LA} {xs:List Value} (h:RL g args xs) (hn:args.length<=n):yx g (tW n args) (xs.toArray++Array.replicate (n - xs.toArray.size) Go.undef):=by
 have hl:=fp h;refine ⟨by simp [tW];omega,fun t=> .inr ?_⟩;simp only [tW,Fr.get,An,aau,aba,aca,Nat.sub_zero,Tr.tX];by_cases a:t < args.length
 .rw [if_pos a,aax a];obtain ⟨x,h1,b⟩:=xq h (aax a);have hx:(xs.toArray++Array.replicate (n - xs.toArray.size) Go.undef).getD t Go.undef=x:=by
   rw [Array.getD_eq_getD_getElem?,Array.getElem?_append_left (by simp;omega)];simp [h1]
  rw [hx];exact b
 .rw [if_neg a];have hx:(xs.toArray++Array.replicate (n - xs.toArray.size) Go.undef).getD t Go.undef=Go.undef:=by
   rw [Array.getD_eq_getD_getElem?,Array.getElem?_append_right (by simp;omega)];rw [Array.getElem?_replicate];split <;> rfl
  rw [hx];exact DH
def J1 (tmps:Array Value) (r:ResultVar):Sem Value:=
 match r with
 | .tmp t=>pure (tmps.getD t Go.undef)
 | .cell a t=>do loadVar t (<- asAddr (tmps.getD a Go.undef))
theorem HI (fn:Func) (tmps:Array Value):results fn tmps=(do
  let vs <- fn.results.mapM (J1 tmps)
  pure (if h:vs.size=1 then vs[0] else .tuple vs)):=by
 unfold results;congr 2
theorem qb (hT:yp P T) {fr:Fr} {tmps:Array Value} (hf:yx g fr tmps) (hs:fr.strict=false) (h:Inv T A g st w): ∀{rs:List ResultVar} {vs:LA},iL T fr st rs= .ok vs->
  ∃xs,(rs.mapM (J1 tmps)).run P w= .ok xs w/\RL g vs xs
 | [],vs,l=>by
  simp only [iL,aac] at l;subst l;exact ⟨[],rfl,gF⟩
 | r::rs,vs,l=>by
  simp only [iL,ah,au] at l;obtain ⟨v,h1,vs',Q,rfl⟩:=l;obtain ⟨xs,k1,S⟩:=qb hT hf hs h Q;have key: ∃x,(J1 tmps r).run P w= .ok x w/\R g v x:=by
   cases r with
   | tmp t=>
    simp only [lu,aac] at h1;subst h1;exact ⟨_,rfl,hf.at hs t⟩
   | cell a t=>
    simp only [lu,ah] at h1;obtain ⟨i,E,p,c,j⟩:=h1;have hi:=hT t i (cy.1 E);have d:=hf.at hs a;show ∃x,(do loadVar t (<- Go.asAddr (tmps.getD a Go.undef)):Sem Value).run P w= .ok x w/\R g v x;generalize tmps.getD a Go.undef=x at d ⊢;cases G:fr.get a <;> rw [G] at c d <;> simp only [mA] at c <;> (try (cases c;done))
    .rename_i cells;simp only [ah,au] at c;obtain ⟨u,q,rfl⟩:=c;simp only [au] at j;subst j;simp only [R] at d;obtain ⟨_,b,o,rfl,U⟩:=d;obtain ⟨ys,I,J⟩:=lq U;obtain ⟨y,s,B⟩:=eS (w:=w) hi q I fun k z C=>h.F _ _ _ (J k z C).1;exact ⟨y,by simp [asAddr,s],B⟩
    .rename_i id off;simp only [aac] at c;subst c;simp only [iV,ah,au] at j;obtain ⟨o,q,⟨v',o'⟩,⟨K,⟨cs,f,V⟩,D⟩,L⟩:=j;rw [pM] at f;obtain ⟨ty,rfl⟩:=f;simp only [aag] at D;obtain ⟨rfl,rfl⟩:=D;subst L;simp only [R] at d;obtain ⟨b,hE,rfl⟩:=d;obtain ⟨b',ys,rest,W,I,J,X,y4,y5,y6⟩:=h.cells q;have Y:b'=b:=by have:=I.symm.trans hE;simpa using this
     subst Y;obtain ⟨y,s,B⟩:=eS (w:=w) (b:=b') (o:=off) hi V (jJ off X) fun k z C=>lb J (by simpa using C);exact ⟨y,by simp [asAddr,s],B⟩
    .rename_i k n off;simp only [aac] at c;subst c;simp only [iV,ah,au] at j;obtain ⟨o,q,⟨v',o'⟩,⟨K,f,D⟩,L⟩:=j;simp only [aag] at D;obtain ⟨rfl,rfl⟩:=D;subst L;simp only [R] at d;obtain ⟨loc,b,cap,hE,hl,rfl⟩:=d;split at f
     .rename_i m e z cs;split at f
      .rename_i hm;have hm:=aan hm;subst hm;obtain ⟨N,Z,O,i2,pre,rest,p1,p2,p3,p4,p5,p6,p7,p8,p9,av,M,a1,a6⟩:=h.H k _ q;have E:=p1.symm.trans hE;simp only [aav,tz.tok.injEq] at E;subst E;have c:=p2.symm.trans hl;simp only [aav,aag] at c;obtain ⟨rfl,rfl⟩:=c;obtain ⟨y,s,B⟩:=eS (w:=w) (b:=Z) (o:=off) hi f (jJ off M) fun k z C=>lb p7 (by simpa using C);exact ⟨y,by simp [asAddr,s],B⟩
      .cases f
     .cases f
  obtain ⟨x,x1,x2⟩:=key;refine ⟨x::xs, ?_,cA x2 S⟩;rw [List.mapM_cons];simp only [Sem.run_bind,x1,Result.andThen_ok,k1,Sem.run_pure]
theorem Vn {id b:Nat} {o:Obj} (h:Holds T g w id o) (j:At g id o b): ∃x,w.heap[b]? =some x/\ ∀d,x≠ .deferred d:=by
 have cw: ∀{b':Nat} {x:Go.Obj},g.E id=some (.cw b')->g.E id=some (.cw b)->w.heap[b']? =some x->(∀d,x≠ .deferred d)-> ∃x,w.heap[b]? =some x/\ ∀d,x≠ .deferred d:=fun h1 f k h4=>by
  have:=h1.symm.trans f;simp only [aav,tz.cw.injEq] at this;subst this;exact ⟨_,k,h4⟩
 have tok: ∀{n:Nat} {loc:Nat->Oq (Nat×Nat)} {b' cap:Nat} {x:Go.Obj},g.E id=some (.tok loc)->loc n=some (b',cap)->(∃loc cap,g.E id=some (.tok loc)/\loc n=some (b,cap))->w.heap[b']? =some x->(∀d,x≠ .deferred d)->
   ∃x,w.heap[b]? =some x/\ ∀d,x≠ .deferred d:=fun h1 f k h4 m=>by
  obtain ⟨loc',q,k1,A⟩:=k;have t:=h1.symm.trans k1;simp only [aav,tz.tok.injEq] at t;subst t;have u:=f.symm.trans A;simp only [aav,aag] at u;obtain ⟨rfl,rfl⟩:=u;exact ⟨_,h4,m⟩
 cases o with
 | cells ty cs=>obtain ⟨b',vs,rest,B,h1,f,k⟩:=h;exact cw h1 j f fun _ e=>by cases e
 | tok n e=>obtain ⟨loc,b',cap,i,vs,fz,h1,f,k,h4,m,v,l,y⟩:=h;exact tok h1 f j l fun _ e=>by cases e
 | map es=>obtain ⟨b',ents,clk,h1,f,k⟩:=h;exact cw h1 j f fun _ e=>by cases e
 | sit s pos=>obtain ⟨b',h1,f⟩:=h;exact cw h1 j f fun _ e=>by cases e
 | dead=>exact j.elim
 | grow n e z es=>obtain ⟨loc,b',cap,i,vs,fz,h1,f,k,h4,m,v,l,y⟩:=h;exact tok h1 f j l fun _ e=>by cases e
 | AF=>exact j.elim
 | row n e z cs=>obtain ⟨loc,b',cap,i,pre,rest,h1,f,k,h4,m,v,l,y⟩:=h;exact tok h1 f j l fun _ e=>by cases e
 | loop imm ps a c fr s p=>obtain ⟨b',r,h1,f,k⟩:=h;exact cw h1 j f fun _ e=>by cases e
theorem Inv.take (h:Inv T A g st w) {D:Nat} {x:Oq (List Deferred)} (f:w.heap[D]? =some (.deferred x)):Inv T A g st (w.putObj D (.deferred none)):=by
 have a: ∀b,b≠D->(w.putObj D (.deferred none)).heap[b]? =w.heap[b]? :=fun b c=>World.putObj_heap_other c;refine ⟨fun b o v i=> ?_,fun b ents clk hm=> ?_,h.E,fun id o ho=> ?_,h.D,h.own,fun b c=>h.up b (by simpa using c)⟩
 .have h1:=h.F b o v i;obtain ⟨vs,ty,fz,d,_⟩:=og h1;rw [tv (a b fun e=>by subst e;rw [f] at d;cases d)];exact h1
 .have h1:=h.M b ents clk hm;rw [a b fun e=>by subst e;rw [f] at h1;cases h1];exact h1
 .refine np (h.H id o ho) fun b c=>a b fun e=> ?_;subst e;obtain ⟨y,h1,d⟩:=Vn (h.H id o ho) c;rw [f] at h1;cases h1;exact d _ rfl
theorem C9 {T:TT} {A':Nat->Prop} {g':Gh} {st1:St} {fn:Func} {tmps:Array Value} {R:Ending->World->Prop} {w:World} {g:Gh}
  (f: ∀w',Inv T A' g' st1 w'->Kp A g w g' w'->LeavesIn Fence.wide 0 P fn tmps R [] .returning w'): ∀(c:Ln) (w':World),c.Nodup->(∀D∈c,A D/\w'.heap[D]? =some (.deferred (some [])))->Inv T A' g' st1 w'->Kp A g w g' w'->
   LeavesInM Fence.wide 0 P fn tmps R (c.map mark) .returning w'
 | [],w',_,_,hi,d=>f w' hi d
 | D::c,w',hn,hm,hi,d=>by
  obtain ⟨hA,h⟩:=hm D (by simp);rw [abT] at hn;refine ⟨by simp,.inl ⟨D,_,rfl,run_takeDeferred h,C9 f c _ hn.2 (fun i a=>⟨(hm i (by simp [a])).1, ?_⟩) (hi.take h) (d.trans (Kp.write hA World.putObj_size fun b j=>World.putObj_heap_other j))⟩⟩;rw [World.putObj_heap_other (fun e=>by subst e;exact hn.1 a)];exact (hm i (by simp [a])).2
theorem tq {X:Cx} (y:Good P X) (hm:P.follows .mixedOrders=true) {n:Nat} {f:FuncId} {fn:Func} {args:LA} {v:AV} {st':St} {xs:List Value} (p:P.funcs[f]? =some fn)
  (J: ∀c,fn.body=some c->codeOk c=true) (h:body X n fn args st= .ok (v,st')) (K:RL g args xs) (L:GR g X.G) (hi:Inv X.T A g st w):
  Calls P f xs.toArray w fun e w'=> ∃x,e= .returned x/\lM X.T A g st' w v x w':=by
 unfold body at h;split at h
 .cases h
 .rename_i c d;split at h
  .cases h
  .rename_i j;have j:=aaq j;simp only [ah] at h;obtain ⟨⟨ex,fr',st1⟩,h1,q⟩:=h;refine (callsIn_wide (n:=0)).1 (callsIn_of_wp_marks p d trivial ?_);refine gA (ro:=none) y hm n c (J c d) (fun e=>by cases e) A _ _ _ _ _ g _ w _ h1 ⟨rfl,BP K j,hi,L,⟨[],rfl,List.nodup_nil,fun _ h=>by cases h⟩⟩ fun A' g' a' z i r=> ?_;have fin:(do pure (oneOf (<- iL X.T fr' st1 fn.results.toList),st1):cY (AV×St))= .ok (v,st')->LeavesInM Fence.wide 0 P fn a'.tmps (fun e w'=> ∃x,e= .returned x/\lM X.T A g st' w v x w') a'.defers .returning z:=fun B=>by
    simp only [ah,au,aag] at B;obtain ⟨vs,N,rfl,rfl⟩:=B;obtain ⟨O,C,Q,S⟩:=i.marks;rw [C];refine C9 (T:=X.T) (A':=A') (g':=g') (st1:=st1) (A:=A) (g:=g) (w:=w) (fun w' a m=> ?_) O z Q (fun D I=>⟨?_,(S D I).2⟩) i.inv r.kp
    rotate_left
    .rcases r.defs (mark D) (by rw [C];exact List.mem_map_of_mem I) with hd | ⟨U,e,s⟩
     .cases hd
     .have:D=U:=by
       simp only [mark,Deferred.mk.injEq,Target.collected.injEq,abW] at e;exact e
      rw [this];exact s
    obtain ⟨ys,V,k⟩:=qb y.T i.fr (by rw [i.mode];rfl) a N;have t:(fn.results.mapM (J1 a'.tmps)).run P w'= .ok ys.toArray w':=by
     rw [Array.mapM_eq_mapM_toList];simp only [Sem.run_map,V,Result.andThen_ok]
    have u:Inv X.T A g' st1 w':=⟨a.F,a.M,a.E,a.H,a.D,fun id o b W Y Z=>r.sub b (a.own id o b W Y Z),fun b hb=>hi.up b (aaL m.size hb)⟩;refine ⟨if h:ys.toArray.size=1 then ys.toArray[0] else .tuple ys.toArray, ?_,_,rfl,g', ?_,u,m⟩
    .rw [HI];simp only [Sem.run_bind,t,Result.andThen_ok,Sem.run_pure]
    .cases vs with
     | nil=>
      simp only [RL] at k;subst k;simp only [oneOf,R];exact ⟨_,rfl,gF⟩
     | cons v1 vs=>
      cases vs with
      | nil=>
       simp only [RL] at k;obtain ⟨x,l,rfl,r1,rfl⟩:=k;exact r1
      | cons v2 vs=>
       have hl:=fp k;rw [dif_neg (by simp at hl ⊢;omega)];simp only [oneOf,R];exact ⟨_,rfl,k⟩
   cases ex with
   | normal=>exact fin q
   | ret=>exact fin q
   | exit id=>cases q
end
end Go.VM
namespace Go.VM
open Classical in
noncomputable def Gh.Bv (g:Gh) (s:St) (w:World) (base:Nat) (E0:Nat->Oq tz):Gh where
 F b o:=if ∃id ty cs,base<=id/\s.get id= .ok (.cells ty cs)/\g.E id=some (.cw b) then w.cell? ⟨b,o,none⟩ else g.F b o
 M b:=if ∃id es,base<=id/\s.get id= .ok (.map es)/\g.E id=some (.cw b) then (match w.heap[b]? with | some (.map ents clk)=>some (ents.toList,clk) | _=>none) else g.M b
 E:=E0
section
variable {P:Program} {T:TT} {A:Nat->Prop} {g:Gh} {s:St} {w:World} {base:Nat}
theorem RS (h:Inv T A g s w) (E0:Nat->Oq tz):Th g (g.Bv s w base E0):=by
 refine ⟨fun b o v c=> ?_,fun b e a=> ?_⟩
 .simp only [Gh.Bv];split
  .exact h.F b o v c
  .exact c
 .simp only [Gh.Bv];split
  .rename_i d;obtain ⟨id,es,_,f,i⟩:=d;obtain ⟨b',ents,clk,j,l,m,k⟩:=h.H id _ f;have:b'=b:=by have:=j.symm.trans i;simpa using this
   subst this;rw [k] at a;cases a
  .exact a
theorem Dp (h:Inv T A g s w):Le g (g.Bv s w base g.E):=⟨(RS h g.E).F,(RS h g.E).M,fun _ _ x=>x,fun _ loc x=>⟨loc,x,fun _ _ y=>y⟩⟩
theorem Cp (_h:Inv T A g s w) {id b:Nat} {ty:Td} {cs:LA} (E0:Nat->Oq tz) (a:base<=id) (c:s.get id= .ok (.cells ty cs)) (hE:g.E id=some (.cw b)) (o:Nat):(g.Bv s w base E0).F b o=w.cell? ⟨b,o,none⟩:=by
 simp only [Gh.Bv];rw [if_pos ⟨id,ty,cs,a,c,hE⟩]
theorem ma (h:Inv T A g s w): ∀(f:Nat) (v v':AV) (x:Value),freeze s base f v= .ok v'->R g v x->R (g.Bv s w base g.E) v' x
 | 0,v,v',x,hf,_=>by simp [freeze] at hf
 | f+1,v,v',x,hf,t=>by
  have all: ∀(l M:LA) (xs:List Value),kF (freeze s base f) l= .ok M->RL g l xs->RL (g.Bv s w base g.E) M xs:=by
   intro l
   induction l with
   | nil=>
    intro M xs h1 D;simp only [kF,aac] at h1;subst h1;simp only [RL] at D ⊢;exact D
   | cons v l ih=>
    intro M xs h1 D;simp only [kF,ah,au] at h1;obtain ⟨u,B,l1,d,rfl⟩:=h1;simp only [RL] at D;obtain ⟨y,ys,rfl,O,r2⟩:=D;exact cA (ma h f v u y B O) (ih l1 ys d r2)
  have same:v'=v->R (g.Bv s w base g.E) v' x:=fun e=>by subst e;exact nK (Dp h) _ _ t
  unfold freeze at hf;split at hf
  ·-- a pointer
   rename_i id off;split at hf
   .simp only [aac] at hf;exact same hf.symm
   .rename_i C;rw [eG] at C;simp only [ah] at hf;obtain ⟨o,B,d⟩:=hf;split at d
    .rename_i ty cs;simp only [ah,au] at d;obtain ⟨N,F,c2,G,rfl⟩:=d;simp only [R] at t;obtain ⟨b,hE,rfl⟩:=t;obtain ⟨b',vs,rest,a1,k1,k2,k3,k4,k5,k6⟩:=h.cells B;have W:b'=b:=by have:=k1.symm.trans hE;simpa using this
     subst W;have O:=all _ _ _ F (jJ off k3);obtain ⟨r2,r3⟩:=Eu O G;simp only [R];refine ⟨r3,b',off,rfl,fB r2 fun i y hy=>⟨?_,k4 y (List.mem_of_mem_drop (aaJ hy))⟩⟩;rw [Cp h g.E C B k1];exact lb k2 (by simpa using hy)
    .cases d
  .rename_i id;split at hf
   .simp only [aac] at hf;exact same hf.symm
   .rename_i C;rw [eG] at C;simp only [ah] at hf;obtain ⟨o,B,d⟩:=hf;split at d
    .rename_i es;simp only [ah] at d;obtain ⟨b7,F,G⟩:=d;split at G
     .simp only [au] at G;subst G;simp only [R] at t;obtain ⟨b,hE,rfl⟩:=t;obtain ⟨b',ents,clk,V,X,q3,q4⟩:=h.H id _ B;have W:b'=b:=by have:=V.symm.trans hE;simpa using this
      subst W;have I: ∀(l M:List (AV×AV)) (m:List MapEntry),qK (freeze s base f) l= .ok M->rG g l m->rG (g.Bv s w base g.E) M m:=by
       intro l
       induction l with
       | nil=>
        intro M xs h1 D;simp only [qK,aac] at h1;subst h1;simp only [rG] at D ⊢;exact D
       | cons p l ih=>
        intro M xs h1 D;obtain ⟨k,v⟩:=p;simp only [qK,ah,au] at h1;obtain ⟨u,B,l1,d,rfl⟩:=h1;simp only [rG] at D ⊢;obtain ⟨e,ys,rfl,O,r2,r3⟩:=D;exact ⟨e,ys,rfl,nK (Dp h) _ _ O,yn (ma h f v u _ B r2),ih l1 ys d r3⟩
      simp only [R];refine ⟨b',ents.toList,clk, ?_,rfl,I _ _ _ F q3⟩;simp only [Gh.Bv];rw [if_pos ⟨id,es,C,B,V⟩,X]
     .cases G
    .cases d
  .rename_i z e k;split at hf
   .simp only [aac] at hf;exact same hf.symm
   .simp only [aac] at hf;subst hf;exact yn (v:= .sl z e (.own k)) (nK (Dp h) _ _ t)
  .simp only [ah,au] at hf;obtain ⟨N,F,rfl⟩:=hf;simp only [R] at t ⊢;obtain ⟨ys,rfl,r⟩:=t;exact ⟨ys,rfl,all _ _ _ F r⟩
  .simp only [ah,au] at hf;obtain ⟨N,F,rfl⟩:=hf;simp only [R] at t ⊢;obtain ⟨ys,rfl,r⟩:=t;exact ⟨ys,rfl,all _ _ _ F r⟩
  .simp only [ah,au] at hf;obtain ⟨N,F,rfl⟩:=hf;simp only [R] at t ⊢;obtain ⟨y,rfl,r⟩:=t;exact ⟨y,rfl,ma h f _ N y F r⟩
  .simp only [ah,au] at hf;obtain ⟨N,F,c2,G,rfl⟩:=hf;simp only [R] at t ⊢;obtain ⟨y,y',rfl,r,r'⟩:=t;exact ⟨y,y',rfl,all _ _ _ F r,all _ _ _ G r'⟩
  ·-- an array
   rename_i id off z len cap;split at hf
   .simp only [aac] at hf;exact same hf.symm
   .rename_i C;rw [eG] at C;simp only [ah] at hf;obtain ⟨o,B,d⟩:=hf;split at d
    .rename_i ty cs;simp only [ah] at d;obtain ⟨N,F,G⟩:=d;split at G
     .rename_i P;simp only [ah] at G;obtain ⟨els,e5,J,e6,K⟩:=G;have key: ∃p,v'= .sl z J p/\(len≠0\/cap≠0)/\(p= .shut->cap=len/\cap≠0)/\(p= .shut\/p= .wide):=by
       split at K
       .split at K
        .cases K
        .rename_i hl;simp only [au] at K;exact ⟨.wide,K.symm,.inl (fun e=>by subst e;simp at hl),(fun e=>by cases e),.inr rfl⟩
       .rename_i L;simp only [au] at K;have h0:cap≠0:=fun e=>by subst e;simp at L
        cases Q:cap.beq len with
        | true=>rw [Q] at K;exact ⟨.shut,K.symm,.inr h0,fun _=>⟨aan Q,h0⟩,.inl rfl⟩
        | false=>rw [Q] at K;exact ⟨.wide,K.symm,.inr h0,(fun e=>by cases e),.inr rfl⟩
      clear K;obtain ⟨p,rfl,a6,S,a7⟩:=key
      .simp only [R] at t;obtain ⟨b,o',hE,c,rfl,hc,U,ho,Y⟩:=t;have a8:c≠0:=by
        rcases a6 with q | q
        .omega
        .rcases Y with rfl | e
         .exact q
         .exact absurd e q
       have bb:o'=off:=ho a8;subst bb;obtain ⟨b',vs,rest,a1,k1,k2,k3,k4,k5,k6⟩:=h.cells B;have W:b'=b:=by have:=k1.symm.trans hE;simpa using this
       subst W;have O:=all _ _ _ F (px (len * z) (jJ o' k3));obtain ⟨f1,f2,f3⟩:=ta (fun e=>by
        have:¬ 2<=z:=fun k=>by rw [aaI k] at e;cases e
        omega) P e5
       have r2:RL (g.Bv s w base g.E) (flat els) (((vs.toList.drop o').take (len * z)).take (len * z)):=by rw [f1];exact px _ O
       obtain ⟨V,X,q3,q4⟩:=ox e6 r2;simp only [R];have hl:J.length=len:=by rw [q3,f3]
       refine ⟨X,b',o',c,by rw [hl],by rw [hl];exact hc,U, ?_, ?_⟩
       .rw [gi];refine ⟨fun u hu=>by
         have:u.cells.length∈J.map (·.cells.length):=abf.2 ⟨u,hu,rfl⟩;rw [q4] at this;obtain ⟨u',bt,e⟩:=abf.1 this;rw [<- e];exact f2 u' bt,fB V fun i y hy=> ?_⟩
        have Z:vs[o'+i]? =some y/\y∈vs.toList:=by
         have h1:y∈vs.toList:=List.mem_of_mem_drop (List.mem_of_mem_take (List.mem_of_mem_take (aaJ hy)));refine ⟨?_,h1⟩;rw [List.take_take,Nat.min_self,List.getElem?_take] at hy;by_cases hi:i < len * z
         .rw [if_pos hi] at hy;simpa using hy
         .rw [if_neg hi] at hy;cases hy
        refine ⟨?_,k4 y Z.2⟩;rw [Cp h g.E C B k1];exact lb k2 Z.1
       .rcases a7 with rfl | rfl
        .obtain ⟨h1,D⟩:=S rfl;simp only [uF];rw [hl];rcases Y with e | e
         .omega
         .exact absurd e D
        .simp only [uF]
     .cases G
    .cases d
  ·-- a slice that an object holds
   rename_i k z n;split at hf
   .simp only [aac] at hf;exact same hf.symm
   .simp only [ah] at hf;obtain ⟨o,B,d⟩:=hf;split at d
    .rename_i m e z' es;split at d
     .rename_i j;simp only [aaf] at j;have N:=aan j.1.1;have c2:=aan j.1.2;have c3:=aan j.2;subst N c2 c3;cases d;simp only [R] at t;obtain ⟨loc,b,cap,hE,hl,rfl,L,U⟩:=t;obtain ⟨b6,b2,av,i2,vs,fz,V,X,q3,q4,q5,q6,q7,q8,q9,b8,b9,cb,b4,b5⟩:=h.H k _ B;have B:=V.symm.trans hE;simp only [aav,tz.tok.injEq] at B;subst B;have d:=X.symm.trans hl;simp only [aav,aag] at d;obtain ⟨rfl,rfl⟩:=d;simp only [R];exact ⟨b4,b2,0,av,rfl,L,U,js (Dp h) _ _ _ _ b5,trivial⟩
     .cases d
    .cases d
  .simp only [aac] at hf;exact same hf.symm
theorem zR {A':Nat->Prop} {gb g':Gh} {st:St} {w':World} {v v':AV} {x:Value} (f:Inv T A g st w) (z:gb.F=g.F) (B:gb.M=g.M) (hA: ∀b,A' b↔w.heap.size<=b)
  (hi:Inv T A' g' s w') (l:Kp A' gb w g' w') (C:s.ro<=base) (G:R g' v x) (hf:freeze s base 100 v= .ok v') (a:bare v'=true):lM T A g st w v' x w':=by
 have hold: ∀b,b < w.heap.size->¬ A' b:=fun b a I=>by have:=(hA b).1 I;omega
 have h: ∀b,b < w.heap.size-> ∀o,(g'.Bv s w' base g.E).F b o=g.F b o:=fun b a o=>by
  simp only [Gh.Bv];rw [if_neg ?_]
  .rw [l.F b (hold b a) o,z]
  .rintro ⟨id,ty,cs,h1,p,r⟩;exact hold b a (hi.own id _ b p r (by omega))
 have i: ∀b,b < w.heap.size->(g'.Bv s w' base g.E).M b=g.M b:=fun b a=>by
  simp only [Gh.Bv];rw [if_neg ?_]
  .rw [l.M b (hold b a),B]
  .rintro ⟨id,es,h1,p,r⟩;exact hold b a (hi.own id _ b p r (by omega))
 have d: ∀b,b < w.heap.size->w'.heap[b]? =w.heap[b]? :=fun b a=>l.heap b (hold b a);have m:Le g (g'.Bv s w' base g.E):=by
  refine ⟨fun b o u j=> ?_,fun b e t=> ?_,fun _ _ x=>x,fun _ loc x=>⟨loc,x,fun _ _ y=>y⟩⟩
  .obtain ⟨vs,ty,fz,q,_⟩:=og (f.F b o u j);rw [h b (lt_of_heap q) o];exact j
  .have:=f.M b e.1 e.2 t;rw [i b (lt_of_heap this)];exact t
 refine ⟨g'.Bv s w' base g.E,tc (g:=g'.Bv s w' base g'.E) (g':=g'.Bv s w' base g.E) ⟨fun _ _ _ x=>x,fun _ _ x=>x⟩ v' x a (ma hi 100 v v' x hf G),⟨?_, ?_,f.E, ?_,f.D,f.own,fun b a=>f.up b (aaL l.size a)⟩,⟨l.size, ?_, ?_, ?_,m,l.rest⟩⟩
 .intro b o u j;simp only [Gh.Bv] at j;split at j
  .exact j
  .exact hi.F b o u j
 .intro b ents clk hm;simp only [Gh.Bv] at hm;split at hm
  .split at hm
   .rename_i e c J;simp only [aav,aag] at hm;obtain ⟨rfl,rfl⟩:=hm;simpa using J
   .cases hm
  .exact hi.M b ents clk hm
 .intro id o ho;have:=f.H id o ho;refine mz (np this fun b a=>d b (GX this a)) m rfl fun b a=> ?_;have n:=GX this a;exact ⟨fun o=>h b n o,i b n⟩
 .intro b a;exact d b (Nat.lt_of_not_le fun k=>a (f.up b k))
 .intro b a o;exact h b (Nat.lt_of_not_le fun k=>a (f.up b k)) o
 .intro b a;exact i b (Nat.lt_of_not_le fun k=>a (f.up b k))
end
end Go.VM
namespace Go.VM
structure Gy (C:dh):Prop where
 wide: ∀f args st v s,C.wide f args st= .ok (v,s)->s.ro=st.ro
 round: ∀k args st v s,C.round k args st= .ok (v,s)->s.ro=st.ro
theorem Av {C:dh} (c:Gy C) {st:St} {p:dI} {v:AV} {x:Fx} (h:aE C st p= .ok (v,x)):(x.did.app st).ro=st.ro:=by
 cases p with
 | val u=>
  simp only [aE,aac,aag] at h;obtain ⟨_,rfl⟩:=h;rfl
 | obj id f=>
  simp only [aE,ah,au] at h;obtain ⟨g,a,⟨v',o'⟩,h4,d,b,e⟩:=h;simp only [aag] at e;obtain ⟨_,rfl⟩:=e;cases o' with
  | none=>simp only [fK,aac] at b;subst b;rfl
  | some o'=>
   simp only [fK] at b;split at b
   .cases b
   .simp only [aac] at b;subst b;rfl
 | both id k f=>
  simp only [aE,ah] at h;obtain ⟨g,_,r,_,a⟩:=h;cases r with
  | none=>
   simp only [ah,au,aag] at a;obtain ⟨_,_,_,rfl⟩:=a;rfl
  | some j=>
   dsimp only at a;split at a
   .simp only [ah,au,aag] at a;obtain ⟨_,_,_,_,_,rfl⟩:=a;rfl
   .cases a
 | new o f=>
  simp only [aE,aac,aag] at h;obtain ⟨_,rfl⟩:=h;rfl
 | call f args=>
  simp only [aE] at h;split at h
  .simp only [ah,au] at h;obtain ⟨_,_,h⟩:=h;simp only [aag] at h;obtain ⟨_,rfl⟩:=h;rfl
  .split at h
   .simp only [ah,au] at h;obtain ⟨_,_,h⟩:=h;simp only [aag] at h;obtain ⟨_,rfl⟩:=h;rfl
   .simp only [ah,au] at h;obtain ⟨⟨v',s⟩,h1,h⟩:=h;simp only [aag] at h;obtain ⟨_,rfl⟩:=h;exact c.wide _ _ _ _ _ h1
 | yield k args=>
  simp only [aE,ah,au] at h;obtain ⟨⟨v',s⟩,h1,h⟩:=h;simp only [aag] at h;obtain ⟨_,rfl⟩:=h;exact c.round _ _ _ _ _ h1
theorem sS {X:Cx} (b:Gy X.C) {all:List Oper} {draw:Bool}: ∀{l:List Oper} {j:Nat} {seen:List (Nat×Fx)} {fr fr':Fr} {st st':St},dO X all draw j seen l fr st= .ok (fr',st')->st'.ro=st.ro
 | [],_,_,_,_,_,_,h=>by
  simp only [dO,aac,aag] at h;rw [h.2]
 | o::l,j,seen,fr,fr',st,st',h=>by
  simp only [dO,ah] at h;obtain ⟨⟨v,x⟩,h1,a⟩:=h;have hx:(x.did.app st).ro=st.ro:=by
   unfold oper at h1;split at h1
   .simp only [ah] at h1;obtain ⟨p,_,h1⟩:=h1;exact Av b h1
   .simp only [aac,aag] at h1;obtain ⟨_,rfl⟩:=h1;rfl
  split at a
  .exact (sS b a).trans hx
  .split at a
   .exact (sS b a).trans hx
   .cases a
theorem MR: ∀{l:Ln} {st:St},(st.lay l).ro=st.ro
 | [],_=>rfl
 | _::l,st=>MR (l:=l) (st:=(st.new .AF).2)
theorem qx {X:Cx} (b:Gy X.C) {e:Nat->Oq Nat} {all:List Oper}: ∀{l:List Oper} {j:Nat} {seen:List (Nat×Fx)} {fr fr':Fr} {st st':St},db X e all j seen l fr st= .ok (fr',st')->st'.ro=st.ro
 | [],_,_,_,_,_,_,h=>by
  simp only [db,aac,aag] at h;rw [h.2]
 | o::l,j,seen,fr,fr',st,st',h=>by
  simp only [db,ah] at h;obtain ⟨⟨v,x⟩,h1,a⟩:=h;have hx:(x.did.app st).ro=st.ro:=by
   unfold gn at h1;split at h1
   .split at h1
    .obtain ⟨_,_,_,_,_,rfl⟩:=qZ h1;rfl
    .simp only [ah] at h1;obtain ⟨p,_,h1⟩:=h1;exact Av b h1
   .simp only [aac,aag] at h1;obtain ⟨_,rfl⟩:=h1;rfl
  split at a
  .exact (qx b a).trans hx
  .split at a
   .exact (qx b a).trans hx
   .cases a
theorem Jt {body:Fr->St->cY (Ex×Fr×St)} (c: ∀fr st ex fr' st',body fr st= .ok (ex,fr',st')->st'.ro=st.ro): ∀(n:Nat) {fr fr':Fr} {st st':St} {ex:Ex},iter body n fr st= .ok (ex,fr',st')->st'.ro=st.ro
 | 0,_,_,_,_,_,h=>by simp [iter] at h
 | n+1,fr,fr',st,st',ex,h=>by
  simp only [iter,ah] at h;obtain ⟨⟨b,d,st1⟩,h1,a⟩:=h;have:=c _ _ _ _ _ h1;cases b <;> simp only [au,aag] at a
  .exact (Jt c n a).trans this
  .rw [<- a.2.2];exact this
  .rw [<- a.2.2];exact this
theorem ja {X:Cx} (d:Gy X.C) (n:Nat): ∀(c:Code) (fr:Fr) (st:St) (ex:Ex) (fr':Fr) (st':St),exec X n c fr st= .ok (ex,fr',st')->st'.ro=st.ro
 | .skip,_,_,_,_,_,h | .label _,_,_,_,_,_,h | .exit _,_,_,_,_,_,h | .ret,_,_,_,_,_,h=>by
  simp only [exec,aac,aag] at h;rw [h.2.2]
 | .region _ _ _,_,_,_,_,_,h=>by
  simp only [exec] at h;split at h
  .simp only [ah,au,aag] at h;obtain ⟨⟨f,st1⟩,h1,rfl,rfl,rfl⟩:=h;exact sS d h1
  .simp only [ah,au,aag] at h;obtain ⟨⟨f,st1⟩,h1,rfl,rfl,rfl⟩:=h;exact (qx d h1).trans MR
 | .seq x y,_,_,_,_,_,h=>by
  simp only [exec,ah] at h;obtain ⟨⟨g,f,st1⟩,h1,a⟩:=h;have:=ja d n x _ _ _ _ _ h1;cases g <;> simp only [au,aag] at a
  .exact (ja d n y _ _ _ _ _ a).trans this
  .rw [<- a.2.2];exact this
  .rw [<- a.2.2];exact this
 | .cond c x y,_,_,_,_,_,h=>by
  simp only [exec,ah] at h;obtain ⟨j,h1,b,a,i⟩:=h;cases b
  .exact ja d n y _ _ _ _ _ i
  .exact ja d n x _ _ _ _ _ i
 | .block id c,_,_,_,_,_,h=>by
  simp only [exec,ah] at h;obtain ⟨⟨g,f,st1⟩,h1,a⟩:=h;have:=ja d n c _ _ _ _ _ h1;cases g
  .simp only [au,aag] at a;rw [<- a.2.2];exact this
  .simp only at a;split at a <;> simp only [au,aag] at a <;> rw [<- a.2.2] <;> exact this
  .simp only [au,aag] at a;rw [<- a.2.2];exact this
 | .loop c,_,_,_,_,_,h=>by
  simp only [exec] at h;exact Jt (fun fr st ex fr' st' h=>ja d n c fr st ex fr' st' h) n h
 | .rangeFunc x ps y c,_,_,_,_,_,h=>by
  simp only [exec] at h;split at h
  .cases h
  .simp only [ah] at h;obtain ⟨k,h1,h⟩:=h;split at h
   .simp only [ah] at h;obtain ⟨⟨v,st1⟩,a,o,i,h4⟩:=h;dsimp only at i h4;split at h4
    .split at h4
     .simp only [au,aag] at h4;rw [<- h4.2.2];have e:=d.wide _ _ _ _ _ a;exact e
     .cases h4
    .cases h4
   .cases h
 | .scope c,_,_,_,_,_,h=>by
  simp only [exec] at h;exact ja d n c _ _ _ _ _ h
 | .goto _,_,_,_,_,_,h=>by simp [exec] at h
 | .refuse _,_,_,_,_,_,h=>by simp [exec] at h
theorem Et {X:Cx} (b:Gy X.C) {n:Nat} {fn:Func} {args:LA} {st st':St} {v:AV} (h:body X n fn args st= .ok (v,st')):st'.ro=st.ro:=by
 unfold body at h;split at h
 .cases h
 .split at h
  .cases h
  .simp only [ah] at h;obtain ⟨⟨ex,fr',st1⟩,h1,a⟩:=h;have:=ja b n _ _ _ _ _ _ h1;cases ex
   .simp only [ah,au,aag] at a;obtain ⟨_,_,_,rfl⟩:=a;exact this
   .cases a
   .simp only [ah,au,aag] at a;obtain ⟨_,_,_,rfl⟩:=a;exact this
theorem Lt {X:Cx} (b:Gy X.C) {n k:Nat} {x c:Code} {fr:Fr} {st st':St} {v:AV} (h:qD X n k x c fr st= .ok (v,st')):st'.ro=st.ro:=by
 simp only [qD,ah] at h;obtain ⟨⟨a,d,st1⟩,h1,h⟩:=h;have e:=ja b n _ _ _ _ _ _ h1;cases a with
 | normal=>
  simp only [ah] at h;obtain ⟨st2,f,⟨ex,g,i⟩,j,h4⟩:=h;obtain ⟨_,_,_,_,_,_,_,rfl⟩:=oZ f;have l:=ja b n _ _ _ _ _ _ j;cases ex <;> simp only [ah,au,aag] at h4 <;> obtain ⟨m,h4,_,rfl⟩:=h4 <;> obtain ⟨_,_,_,_,_,_,_,rfl⟩:=oZ h4 <;> exact l.trans e
 | exit id=>cases h
 | ret=>cases h
theorem sO {g:Gh}: ∀{ps:Ln} {args:LA} {xs:List Value} {fr:Fr} {tmps:Array Value},yx g fr tmps->RL g args xs->ps.length=args.length->
  yx g (pq ps args fr) ((ps.zip xs).foldl (fun t (p,v)=>t.setIfInBounds p v) tmps)/\(pq ps args fr).strict=fr.strict
 | [],_,_,fr,tmps,h,_,_=>by simp only [pq,List.zip_nil_left,List.foldl_nil];exact ⟨h,trivial⟩
 | p::ps,[],_,_,_,_,_,hl=>by cases hl
 | p::ps,v::vs,xs,fr,tmps,h,a,hl=>by
  simp only [RL] at a;obtain ⟨y,ys,rfl,b,r2⟩:=a;have h1:=h.put b (some p);obtain ⟨k1,c⟩:=sO h1 r2 (by simpa using hl);simp only [pq,List.zip_cons_cons,acp];exact ⟨k1,c.trans (iH _ _ _)⟩
theorem DR {P:Program} {X:Cx} (hX:Good P X) (hC:Gy X.C) (hm:P.follows .mixedOrders=true) {n k:Nat} {imm:Td->Bool} {ps:List Tmp} {x c:Code} {fr:Fr} {p:Ex} {args:LA} {st st':St} {v:AV} (h:qD X n k x c (pq ps args fr) st= .ok (v,st'))
  (O:cE x=true/\cE c=true) (hlen:args.length=ps.length) (hk:st.get k= .ok (.loop imm ps x c fr 0 p)) (Q:st.ro<=k) {A:Nat->Prop} {g:Gh} {w:World} {xs:List Value} {l:Nat} (hG:GR g X.G) (f:RL g args xs) (hi:Inv X.T A g st w) (hE:g.E k=some (.cw l)):
  DZ P l xs.toArray w (lM X.T A g st' w v):=by
 obtain ⟨b,r,q1,q2,q3,q4,q5,q6,⟨q7,q8,q9⟩,b5⟩:=hi.H k _ hk;have B:b=l:=by have:=q1.symm.trans hE;simpa using this
 subst B;have b6:=fp f;have b7:r.params.size=ps.length:=by rw [<- q4];simp
 refine ⟨r.fn,_,r.assign,r.body,run_yield q2 (by simp;omega),roundIn_of_wpIn trivial ?_⟩;rw [q5,q6];have I:(r.params.zip xs.toArray).foldl (fun tmps (t,a)=>tmps.setIfInBounds t a) r.tmps=(ps.zip xs).foldl (fun t (p,v)=>t.setIfInBounds p v) r.tmps:=by
  rw [<- Array.foldl_toList,Array.toList_zip,q4]
 rw [I];obtain ⟨f1,f2⟩:=sO q3 f hlen.symm;simp only [qD,ah] at h;obtain ⟨⟨av,b8,st1⟩,h1,h⟩:=h;have e1:=ja hC n _ _ _ _ _ _ h1;cases av with
 | exit id=>cases h
 | ret=>cases h
 | normal=>
 simp only [ah] at h;obtain ⟨st2,h2,⟨ex,b9,a6⟩,h3,h4⟩:=h;obtain ⟨S,a7,x1,c1,U,p1,J,rfl⟩:=oZ h2;have e3:=ja hC n _ _ _ _ _ _ h3;refine gA (ro:=some b) hX hm n x q7 (fun _=>O.1) A _ _ _ _ _ g _ w _ h1 ⟨by rw [f2,q9];rfl,f1,hi,hG,⟨[],rfl,List.nodup_nil,fun _ h=>by cases h⟩⟩ fun A1 g1 a1 w1 K n1=> ?_;have j:g1.E k=some (.cw b):=n1.kp.le.cw _ _ hE;obtain ⟨m,rr,s1,s2,s3,s4,s5,s6,s7,s8⟩:=K.inv.H k _ J;have B:m=b:=by have:=s1.symm.trans j;simpa using this
 subst B;have hA1:A1 m:=K.inv.own k _ m J s1 (by rw [e1];exact Q);have u:rr.state= .ready:=by
  rcases s8 with ⟨_,e,_⟩ | ⟨e,_⟩ | ⟨e,_⟩
  .exact e
  .cases e
  .cases e
 have a8:m < w1.heap.size:=lt_of_heap s2;obtain ⟨i2,k2⟩:=K.inv.turn J j s2 hA1 {rr with state:= .busy} (.loop S a7 x1 c1 U 1 .normal) (fun b' d=>by
  have d:g1.E k=some (.cw b'):=d;rw [j] at d;simpa using d.symm) ⟨m,_,j,World.putObj_heap_same a8,s3,s4,s5,s6,s7,.inr (.inl ⟨rfl,rfl⟩)⟩
 refine ⟨_,run_beginRound s2 u, ?_⟩;refine gA (ro:=some m) hX hm n c q8 (fun _=>O.2) A1 _ _ _ _ _ g1 _ _ _ h3 ⟨K.mode,K.fr,i2,K.G,K.marks.G0 k2⟩ fun A2 g2 a3 w3 r3 n3=> ?_;have V:Nx A g {tmps:=(ps.zip xs).foldl (fun t (p,v)=>t.setIfInBounds p v) r.tmps,defers:=[]} w A2 g2 a3 w3:=n1.trans (Nx.trans ⟨fun _ h=>h,k2,fun _ h=> .inl h⟩ n3);have z:g2.E k=some (.cw m):=V.kp.le.cw _ _ hE;have fin: ∀(s:Nat) (e:Ex) (jump:Oq Code),rR k 1 s e a6= .ok st'->(∀q:Loop,MM s e {q with state:=if jump.isNone then .ready else .done,pending:=jump})->v= .bool jump.isNone->
   ∃y w',(Instr.endRound m jump).run P w3= .ok y w'/\ ∃x,Ending.returned y= .returned x/\lM X.T A g st' w v x w':=fun s e jump W bb hv=>by
  obtain ⟨Y,bt,x3,c3,b4,p3,L,rfl⟩:=oZ W;obtain ⟨b3,r4,t1,t2,t3,t4,t5,t6,t7,t8⟩:=r3.inv.H k _ L;have B:b3=m:=by have:=t1.symm.trans z;simpa using this
  subst B;have hA2:A2 b3:=r3.inv.own k _ b3 L t1 (by rw [e3];show st1.ro<=k;rw [e1];exact Q);obtain ⟨N,k4⟩:=r3.inv.turn L z t2 hA2 {r4 with state:=if jump.isNone then .ready else .done,pending:=jump} (.loop Y bt x3 c3 b4 s e) (fun b' d=>by
   have d:g2.E k=some (.cw b'):=d;rw [z] at d;simpa using d.symm) ⟨b3,_,z,World.putObj_heap_same (lt_of_heap t2),t3,t4,t5,t6,t7,bb r4⟩
  refine ⟨_,_,run_endRound jump t2,_,rfl,g2,by rw [hv];simp only [R], ?_,V.kp.trans (k4.sub V.sub)⟩;exact ⟨N.F,N.M,N.E,N.H,N.D,fun id o b q1 q2 q3=>V.sub b (N.own id o b q1 q2 q3),fun b B=>hi.up b (aaL V.kp.size (by simpa using B))⟩
 cases ex with
 | normal=>
  simp only [ah,au,aag] at h4;obtain ⟨Z,h4,rfl,rfl⟩:=h4;exact fin 0 .normal none h4 (fun _=> .inl ⟨rfl,rfl,rfl,rfl⟩) rfl
 | ret=>
  simp only [ah,au,aag] at h4;obtain ⟨Z,h4,rfl,rfl⟩:=h4;exact fin 2 .ret (some .ret) h4 (fun _=> .inr (.inr ⟨rfl,rfl,.inl ⟨rfl,rfl⟩⟩)) rfl
 | exit i=>
  simp only [ah,au,aag] at h4;obtain ⟨Z,h4,rfl,rfl⟩:=h4;exact fin 2 (.exit i) (some (.exit i)) h4 (fun _=> .inr (.inr ⟨rfl,rfl,.inr ⟨i,rfl,rfl⟩⟩)) rfl
def H5 (P:Program) (T:TT) (G:Nat->Oq LA) (f:FuncId) (args:LA) (v:AV):Prop:=
 ∀A g st w xs,GR g G->bN args=true->RL g args xs->Inv T A g st w->wR P f xs.toArray w (lM T A g st w v)
theorem tV {args:LA} {v:AV}: ∀{l:List (LA×AV)},vh args l=some v->(args,v)∈l
 | [],h=>by cases h
 | (a,u)::l,h=>by
  simp only [vh] at h;split at h
  .rename_i e;cases h;rw [kA (mj 1000) e];exact aad
  .exact aak _ (tV h)
structure Hh (P:Program) (E:Env):Prop where
 T:yp P E.T
 F: ∀f fn,E.F f=some fn->P.funcs[f]? =some fn/\(∀args w,(callFunc f args).run P w= .ok (.enter f args) w)/\ ∀c,fn.body=some c->codeOk c=true
 prim:EL P E.T E.G E.prim
 mixed:P.follows .mixedOrders=true
 memo: ∀f e,e∈E.memo f->H5 P E.T E.G f e.1 e.2
 rule: ∀f r args v,E.rule f=some r->r args=some v->H5 P E.T E.G f args v:=by intro _ _ _ _ h;cases h
 wrule: ∀f r args st v s,E.wrule f=some r->r args st= .ok (v,s)->s.ro=st.ro/\ ∀A g w xs,GR g E.G->RL g args xs->Inv E.T A g st w->
  (callFunc f xs.toArray).run P w= .ok (.enter f xs.toArray) w/\Calls P f xs.toArray w fun e w'=> ∃x,e= .returned x/\lM E.T A g s w v x w':=by intro _ _ _ _ _ _ h;cases h
theorem OD {P:Program} {E:Env} (hE:Hh P E) {f:FuncId} {args:LA} {v:AV} (h:E.known f args=some v):H5 P E.T E.G f args v:=by
 unfold Env.known at h;split at h
 .rename_i r a;exact hE.rule f r args v a h
 .exact hE.memo f _ (tV h)
theorem St.mq {i:Nat} {o:Obj}:St.empty.get i≠ .ok o:=by
 intro h;have:=(St.cZ.1 h).1;simp [St.empty] at this
theorem Cr {P:Program} {E:Env} (hE:Hh P E): ∀n,Ao P E.T E.G (caller E n)/\Gy (caller E n)
 | 0=>⟨⟨fun _ _ _ h=>by simp [caller] at h,fun _ _ _ _ _ h=>by simp [caller] at h,fun _ _ _ _ h=>by simp [caller] at h,fun _ _ _ _ _ h=>by simp [caller] at h⟩,⟨fun _ _ _ _ _ h=>by simp [caller] at h,fun _ _ _ _ _ h=>by simp [caller] at h⟩⟩
 | n+1=>by
  obtain ⟨ih,j⟩:=Cr hE n;have K: ∀f,Good P ⟨E.T,E.prim,E.imm f,E.G,caller E n⟩:=fun f=>⟨hE.T,ih,hE.prim⟩;refine ⟨⟨?_, ?_, ?_, ?_⟩,⟨?_, ?_⟩⟩
  .intro f args v h A g st w xs m z t hi;simp only [caller] at h;split at h
   .rename_i u Y;cases h;exact OD hE Y A g st w xs m z t hi
   split at h
   .cases h
   .rename_i fn q;obtain ⟨B,C,I⟩:=hE.F f fn q;simp only [ah] at h;obtain ⟨⟨v0,s⟩,h1,v1,a,y⟩:=h;split at y
    .rename_i d;simp only [au] at y;subst y;have J:Th g ⟨g.F,g.M,fun _=>none⟩:=⟨fun _ _ _ x=>x,fun _ _ x=>x⟩;have hinv:Inv E.T (fun b=>w.heap.size<=b) ⟨g.F,g.M,fun _=>none⟩ St.empty w:=
      ⟨hi.F,hi.M,fun _ _=>rfl,fun _ _ ho=>(St.mq ho).elim,fun _ _ _ _ _ ho=>(St.mq ho).elim,fun _ _ _ ho=>(St.mq ho).elim,fun _ z=>z⟩
     refine .inr ⟨C _ _,(tq (K f) hE.mixed B I h1 (sc J _ _ z t) (fun k cs L=>⟨(m k cs L).1,ub J _ _ _ (m k cs L).1 (m k cs L).2⟩) hinv).mono ?_⟩;rintro e w' ⟨x,rfl,g',N,r2,O⟩;refine ⟨x,rfl,zR (gb:=⟨g.F,g.M,fun _=>none⟩) hi rfl rfl (fun _=>Iff.rfl) r2 O (base:=0) ?_ N a d⟩;rw [Et j h1];exact aah _
    .cases y
  .intro f args st v st' h A g w xs m t hi;simp only [caller] at h;split at h
   .split at h
    .rename_i r Q;exact (hE.wrule f r args st v st' Q h).2 A g w xs m t hi
    .cases h
   .rename_i fn q;obtain ⟨B,C,I⟩:=hE.F f fn q;simp only [ah,au] at h;obtain ⟨⟨v0,s⟩,h1,a⟩:=h;simp only [aag] at a;obtain ⟨rfl,rfl⟩:=a;exact ⟨C _ _,tq (K f) hE.mixed B I h1 t m hi⟩
  .intro f args st v h A g w xs m t hi;simp only [caller] at h;split at h
   .cases h
   .rename_i fn q;obtain ⟨B,C,I⟩:=hE.F f fn q;simp only [ah] at h;obtain ⟨⟨v0,s⟩,h1,v1,a,y⟩:=h;split at y
    .rename_i d;simp only [au] at y;subst y;have U: ∀i,(⟨st.h,st.h,st.objs⟩:St).get i=st.get i:=fun _=>rfl;have hinv:Inv E.T (fun b=>w.heap.size<=b) g ⟨st.h,st.h,st.objs⟩ w:=
      ⟨hi.F,hi.M,hi.E,hi.H,hi.D,fun id o b ho _ R=>by
       have:=(St.cZ.1 ho).1;have V:st.h<=id:=R;have:id < st.h:=this;omega,fun _ z=>z⟩
     refine .inr ⟨C _ _,(tq (K f) hE.mixed B I h1 t m hinv).mono ?_⟩;rintro e w' ⟨x,rfl,g',N,r2,O⟩;refine ⟨x,rfl,zR hi rfl rfl (fun _=>Iff.rfl) r2 O (base:=st.h) ?_ N a d⟩;rw [Et j h1];exact aah _
    .cases y
  .intro k args st v st' h A g w xs l m t hi hl;simp only [caller,ah] at h;obtain ⟨o,h1,a⟩:=h;split at a
   .rename_i imm ps x c fr s p;split at a
    .rename_i W;simp only [aaf] at W;obtain ⟨⟨S,Z⟩,c3,c4,c5⟩:=W;have S:=aan S;subst S;exact DR (X:=⟨E.T,E.prim,imm,E.G,caller E n⟩) ⟨hE.T,ih,hE.prim⟩ j hE.mixed a ⟨c4,c5⟩ (aan c3) h1 (aaq Z) m t hi hl
    .cases a
   .cases a
  .intro f args st v s h;simp only [caller] at h;split at h
   .split at h
    .rename_i r Q;exact (hE.wrule f r args st v s Q h).1
    .cases h
   .simp only [ah,au] at h;obtain ⟨⟨v0,s0⟩,h1,a⟩:=h;simp only [aag] at a;obtain ⟨rfl,rfl⟩:=a;exact Et j h1
  .intro k args st v s h;simp only [caller,ah] at h;obtain ⟨o,h1,a⟩:=h;split at a
   .split at a
    .exact Lt (X:=⟨E.T,E.prim,_,E.G,caller E n⟩) j a
    .cases a
   .cases a
namespace Tr
variable {α:Type}
def of:Nat->(Nat->Oq α)->Tr α
 | 0,_=> .leaf
 | d+1,f=> .node (f 0) (of d fun k=>f (2 * k+1)) (of d fun k=>f (2 * k+2))
theorem Gj {v:Oq α} {l r:Tr α} (n:Nat):(Tr.node v l r).get n=if n=0 then v else if n % 2=1 then l.get (n / 2) else r.get (n / 2 - 1):=by
 rw [get];cases h0:n.beq 0 with
 | true=>rw [if_pos (aan h0)]
 | false=>
  have:n≠0:=fun e=>by subst e;cases h0
  rw [if_neg this];cases h1:(n % 2).beq 1 with
  | true=>rw [if_pos (aan h1)]
  | false=>rw [if_neg (fun e=>by rw [e] at h1;cases h1)]
theorem Dj: ∀(d:Nat) (f:Nat->Oq α) (n:Nat) (x:α),(of d f).get n=some x->f n=some x
 | 0,_,n,x,h=>by rw [of,tX] at h;cases h
 | d+1,f,n,x,h=>by
  rw [of,Gj] at h;split at h
  .rename_i e;subst e;exact h
  .split at h
   .have:=Dj d _ _ _ h
    rwa [show 2 * (n / 2)+1=n by omega] at this
   .have:=Dj d _ _ _ h
    rwa [show 2 * (n / 2 - 1)+2=n by omega] at this
def xN (p:Nat->α->Prop):Tr α->Prop
 | .leaf=>True
 | .node v l r=>(∀x,v=some x->p 0 x)/\xN (fun k=>p (2 * k+1)) l/\xN (fun k=>p (2 * k+2)) r
theorem se: ∀(t:Tr α) (p:Nat->α->Prop),xN p t-> ∀n x,t.get n=some x->p n x
 | .leaf,p,_,n,x,h=>by rw [tX] at h;cases h
 | .node v l r,p,a,n,x,h=>by
  rw [Gj] at h;obtain ⟨h1,b,c⟩:=a;split at h
  .rename_i e;subst e;exact h1 x h
  .split at h
   .have:=se l _ b _ _ h
    rwa [show 2 * (n / 2)+1=n by omega] at this
   .have:=se r _ c _ _ h
    rwa [show 2 * (n / 2 - 1)+2=n by omega] at this
end Tr
def X8:TypeDesc->U
 | .bool=> .bool | .int k=> .int k | .string=> .str | .float k=> .flt k
 | .pointer e=> .ptr e | .slice e=> .slice e | .array n e=> .arr n e | .map k e=> .map k e
 | .struct fs=> .struct (fs.toList.map fun f=>(f.offset,f.type))
 | .func .. => .func | .interface ms=> .iface ms.isEmpty | .unsafePointer=> .uptr
 | _=> .other
theorem SV: ∀d,Ae d (X8 d):=by
 intro d;cases d <;> simp [X8,Ae]
def isAgg:TypeDesc->Bool
 | .struct _ | .array .. =>true
 | _=>false
def Wg (l:List Value):Bool:=l.all fun v=>v.oneCell'
def zeroOf (z:Value) (agg:Bool):Oq LA:=
 match agg with
 | true=>match z with
  | .agg cs=>match Wg cs.toList with
   | true=>match ofConst.ofAll cs.toList with
    | .ok l=>some l
    | .error _=>none
   | false=>none
  | _=>none
 | false=>match z.oneCell' with
  | true=>match ofConst z with
   | .ok v=>some [v]
   | .error _=>none
  | false=>none
theorem Lq {z:Value} {agg:Bool} {l:LA} (h:zeroOf z agg=some l):
  (agg=false->z.oneCell'=true)/\(∀v∈z.cells,v.oneCell'=true)/\(agg=true-> ∃cs,z= .agg cs)/\ ∀g,RL g l z.cells.toList:=by
 unfold zeroOf at h;split at h
 .split at h
  .rename_i cs;split at h
   .rename_i h1;split at h
    .rename_i f a;simp only [aav] at h;subst h;refine ⟨(fun e=>by cases e),fun v d=> ?_,fun _=>⟨cs,rfl⟩,fun g=>nf g _ _ a⟩;have:v∈cs:=d;exact abd.1 h1 v (by simpa using this)
    .cases h
   .cases h
  .cases h
 .split at h
  .rename_i h1;split at h
   .rename_i v a;simp only [aav] at h;subst h;have c:z.cells= #[z]:=by cases z <;> first | rfl | simp [Value.oneCell'] at h1
    refine ⟨fun _=>h1,fun u b=> ?_,(fun e=>by simp at e),fun g=> ?_⟩
    .rw [c] at b;simp only [List.mem_toArray,aam,List.not_mem_nil,or_false] at b;rw [b];exact h1
    .rw [c];exact cA (nM g z v a) gF
   .cases h
  .cases h
def Se (P:Program) (t:Td):TypeDesc->Bool
 | .struct fs=> !P.eqGuardType P.depth t&& !P.stoodInHeld t&&fs.toList.all (fun f=>f.name != "_")
 | _=>false
def P0 (P:Program) (t:Td):Oq TI:=
 match P.underlying t with
 | none=>none
 | some d=>match P.info? t with
  | none=>none
  | some f=>match f.zero with
   | none=>none
   | some z=>match zeroOf z (isAgg d) with
    | none=>none
    | some l=>match z.cells.size.beq f.size with
     | false=>none
     | true=>some ⟨X8 d,f.size,f.bytes,l,isAgg d,Se P t d⟩
theorem Rh {P:Program} {t:Td} {i:TI} (h:P0 P t=some i):jX P t i:=by
 unfold P0 at h;split at h
 .cases h
 rename_i d hd;split at h
 .cases h
 rename_i f hf;split at h
 .cases h
 rename_i z c;split at h
 .cases h
 rename_i l hl;split at h
 .cases h
 rename_i hs;simp only [aav] at h;subst h;obtain ⟨g,j,k,z4⟩:=Lq hl;refine ⟨⟨d,hd,SV d, ?_⟩,fun a=> ?_,⟨f,hf,rfl,rfl,z,c,aan hs,g,j,k,z4⟩⟩
 .cases d <;> rfl
 .dsimp only at a;unfold Se at a;split at a
  .rename_i fs;simp only [aaf,Bool.not_eq_true',abd,bne_iff_ne,ne_eq] at a;refine ⟨a.1.1,a.1.2,fun fields m fl b=> ?_⟩;have e:=hd.symm.trans m;simp only [aav,TypeDesc.struct.injEq] at e;subst e;exact a.2 fl b
  .cases a
theorem WX {P:Program} {T:TT} {d:Nat} (h:T=Tr.of d (P0 P)):yp P T:=fun _ _ a=>Rh (Tr.Dj d _ _ _ (h ▸ a))
def W6 (P:Program) (f:FuncId) (fn:Func):Prop:=P.funcs[f]? =some fn/\(∀args w,(callFunc f args).run P w= .ok (.enter f args) w)/\ ∀c,fn.body=some c->codeOk c=true
theorem Tr.fj {α:Type} {p:Nat->α->Prop}:Tr.xN p .leaf:=trivial
theorem Tr.fF {α:Type} {p:Nat->α->Prop} {v:Oq α} {l r:Tr α} (h1: ∀x,v=some x->p 0 x) (a:Tr.xN (fun k=>p (2 * k+1)) l) (b:Tr.xN (fun k=>p (2 * k+2)) r):Tr.xN p (.node v l r):=⟨h1,a,b⟩
end Go.VM
namespace Go.VM
structure QX (C C':dh):Prop where
 full:C'.full=C.full
 isLook:C'.isLook=C.isLook
 bare: ∀f args v,C.bare f args= .ok v->C'.bare f args= .ok v
 wide: ∀f args st r,C.wide f args st= .ok r->C'.wide f args st= .ok r
 look: ∀f args st v,C.look f args st= .ok v->C'.look f args st= .ok v
 round: ∀k args st r,C.round k args st= .ok r->C'.round k args st= .ok r
theorem uA {C C':dh} (h:QX C C') {st:St} {p:dI} {r:AV×Fx} (a:aE C st p= .ok r):aE C' st p= .ok r:=by
 cases p with
 | val v=>exact a
 | obj id f=>exact a
 | both id k f=>exact a
 | new o f=>exact a
 | yield k args=>
  simp only [aE,ah,au] at a ⊢;obtain ⟨v,h1,rfl⟩:=a;exact ⟨v,h.round _ _ _ _ h1,rfl⟩
 | call f args=>
  simp only [aE] at a ⊢;rw [h.full,h.isLook];cases e:(bN (args.map strip)&& !C.full f) with
  | true=>
   rw [e] at a;simp only [ah,au] at a;obtain ⟨v,h1,rfl⟩:=a;simp only [h.bare _ _ _ h1];rfl
  | false=>
   rw [e] at a;dsimp only at a ⊢;cases b:C.isLook f with
   | true=>
    rw [b] at a;simp only [ah,au] at a;obtain ⟨v,h1,rfl⟩:=a;simp only [h.look _ _ _ _ h1];rfl
   | false=>
    rw [b] at a;simp only [ah,au] at a;obtain ⟨v,h1,rfl⟩:=a;simp only [h.wide _ _ _ _ h1];rfl
def Cx.with (X:Cx) (C:dh):Cx:=⟨X.T,X.prim,X.imm,X.G,C⟩
theorem Lg {X:Cx} {C:dh} (h:QX X.C C) {all:List Oper} {fr:Fr} {st:St} {o:Oper} {r:AV×Fx} (a:oper X all fr st o= .ok r):oper (X.with C) all fr st o= .ok r:=by
 unfold oper at a ⊢;split at a
 .obtain ⟨p,h1,b⟩:=ah.1 a;exact ah.2 ⟨p,h1,uA h b⟩
 .exact a
theorem pF {X:Cx} {C:dh} (h:QX X.C C) {all:List Oper} {draw:Bool}: ∀{l:List Oper} {j:Nat} {seen:List (Nat×Fx)} {fr:Fr} {st:St} {r:Fr×St},dO X all draw j seen l fr st= .ok r->dO (X.with C) all draw j seen l fr st= .ok r
 | [],_,_,_,_,_,b=>b
 | o::l,j,seen,fr,st,r,b=>by
  simp only [dO,ah] at b ⊢;obtain ⟨⟨v,x⟩,h1,a⟩:=b;refine ⟨(v,x),Lg h h1, ?_⟩;dsimp only at a ⊢;split at a
  .exact pF h a
  .split at a
   .exact pF h a
   .cases a
theorem I8 {X:Cx} {C:dh} (h:QX X.C C) {e:Nat->Oq Nat} {all:List Oper} {fr:Fr} {st:St} {o:Oper} {r:AV×Fx} (a:gn X e all fr st o= .ok r):gn (X.with C) e all fr st o= .ok r:=by
 unfold gn at a ⊢;split at a
 .split at a
  .exact a
  .obtain ⟨p,h1,b⟩:=ah.1 a;exact ah.2 ⟨p,h1,uA h b⟩
 .exact a
theorem nP {X:Cx} {C:dh} (h:QX X.C C) {e:Nat->Oq Nat} {all:List Oper}: ∀{l:List Oper} {j:Nat} {seen:List (Nat×Fx)} {fr:Fr} {st:St} {r:Fr×St},db X e all j seen l fr st= .ok r->db (X.with C) e all j seen l fr st= .ok r
 | [],_,_,_,_,_,b=>b
 | o::l,j,seen,fr,st,r,b=>by
  simp only [db,ah] at b ⊢;obtain ⟨⟨v,x⟩,h1,a⟩:=b;refine ⟨(v,x),I8 h h1, ?_⟩;dsimp only at a ⊢;split at a
  .exact nP h a
  .split at a
   .exact nP h a
   .cases a
theorem vt {b b':Fr->St->cY (Ex×Fr×St)} (c: ∀fr st r,b fr st= .ok r->b' fr st= .ok r): ∀{n n':Nat} {fr:Fr} {st:St} {r:Ex×Fr×St},n<=n'->iter b n fr st= .ok r->iter b' n' fr st= .ok r
 | 0,_,_,_,_,_,h=>by simp [iter] at h
 | n+1,0,_,_,_,hn,_=>by omega
 | n+1,n'+1,fr,st,r,hn,h=>by
  simp only [iter,ah] at h ⊢;obtain ⟨⟨ex,d,st1⟩,h1,a⟩:=h;refine ⟨_,c _ _ _ h1, ?_⟩;cases ex
  .exact vt c (by omega) a
  .exact a
  .exact a
theorem gX {X:Cx} {C:dh} (h:QX X.C C) {n n':Nat} (hn:n<=n'): ∀(c:Code) (fr:Fr) (st:St) (r:Ex×Fr×St),exec X n c fr st= .ok r->exec (X.with C) n' c fr st= .ok r
 | .skip,_,_,_,d | .label _,_,_,_,d | .exit _,_,_,_,d | .ret,_,_,_,d=>d
 | .goto _,_,_,_,d | .refuse _,_,_,_,d=>by simp [exec] at d
 | .rangeFunc x ps y c,fr,st,r,d=>by
  simp only [exec] at d ⊢;cases hs:fr.strict with
  | true=>rw [hs] at d;cases d
  | false=>
   rw [hs] at d;dsimp only at d ⊢;obtain ⟨g,h1,e⟩:=ah.1 d;refine ah.2 ⟨g,h1, ?_⟩;split at e
   .obtain ⟨q,f,h4⟩:=ah.1 e;exact ah.2 ⟨q,h.wide _ _ _ _ f,h4⟩
   .cases e
 | .scope c,fr,st,r,d=>gX h hn c fr st r d
 | .region _ _ _,fr,st,r,d=>by
  simp only [exec] at d ⊢;split at d
  .rename_i hd;have hd:(_&&(X.with C).imm 4000000)=false:=hd;rw [hd];simp only [ah] at d ⊢;obtain ⟨a,h1,e⟩:=d;exact ⟨a,pF h h1,e⟩
  .rename_i hd;have hd:(_&&(X.with C).imm 4000000)=true:=hd;rw [hd];simp only [ah] at d ⊢;obtain ⟨a,h1,e⟩:=d;exact ⟨a,nP h h1,e⟩
 | .seq a b,fr,st,r,d=>by
  simp only [exec,ah] at d ⊢;obtain ⟨⟨ex,i,st1⟩,h1,e⟩:=d;refine ⟨_,gX h hn a _ _ _ h1, ?_⟩;cases ex
  .exact gX h hn b _ _ _ e
  .exact e
  .exact e
 | .cond c a b,fr,st,r,d=>by
  simp only [exec,ah] at d ⊢;obtain ⟨j,h1,v,e,f⟩:=d;refine ⟨j,h1,v,e, ?_⟩;cases v
  .exact gX h hn b _ _ _ f
  .exact gX h hn a _ _ _ f
 | .block id c,fr,st,r,d=>by
  simp only [exec,ah] at d ⊢;obtain ⟨a,h1,e⟩:=d;exact ⟨a,gX h hn c _ _ _ h1,e⟩
 | .loop c,fr,st,r,d=>by
  simp only [exec] at d ⊢;exact vt (fun fr st r k=>gX h hn c fr st r k) hn d
theorem LJ {X:Cx} {C:dh} (h:QX X.C C) {n n':Nat} (hn:n<=n') {fn:Func} {args:LA} {st:St} {r:AV×St} (b:body X n fn args st= .ok r):body (X.with C) n' fn args st= .ok r:=by
 unfold body at b ⊢;split at b
 .cases b
 .split at b
  .cases b
  .obtain ⟨a,h1,c⟩:=ah.1 b;exact ah.2 ⟨a,gX h hn _ _ _ _ h1,c⟩
theorem Gc {X:Cx} {C:dh} (h:QX X.C C) {n n':Nat} (hn:n<=n') {k:Nat} {x c:Code} {fr:Fr} {st:St} {r:AV×St} (b:qD X n k x c fr st= .ok r):qD (X.with C) n' k x c fr st= .ok r:=by
 simp only [qD,ah] at b ⊢;obtain ⟨⟨ex,d,st1⟩,h1,a⟩:=b;refine ⟨_,gX h hn _ _ _ _ h1, ?_⟩;cases ex
 .simp only [ah] at a ⊢;obtain ⟨st2,e,q,h4,f⟩:=a;exact ⟨st2,e,q,gX h hn _ _ _ _ h4,f⟩
 .exact a
 .exact a
theorem gr (E:Env): ∀{n n':Nat},n<=n'->QX (caller E n) (caller E n')
 | 0,0,_=>⟨rfl,rfl,fun _ _ _ h=>h,fun _ _ _ _ h=>h,fun _ _ _ _ h=>h,fun _ _ _ _ h=>h⟩
 | 0,_+1,_=>⟨rfl,rfl,fun _ _ _ h=>(by simp [caller] at h),fun _ _ _ _ h=>(by simp [caller] at h),fun _ _ _ _ h=>(by simp [caller] at h),fun _ _ _ _ h=>(by simp [caller] at h)⟩
 | n+1,0,h=>by omega
 | n+1,n'+1,hn=>by
  have ih:=gr E (show n<=n' by omega);have d: ∀f fn args st r,body ⟨E.T,E.prim,E.imm f,E.G,caller E n⟩ n fn args st= .ok r->body ⟨E.T,E.prim,E.imm f,E.G,caller E n'⟩ n' fn args st= .ok r:=fun f fn args st r h=>
   LJ (X:=⟨E.T,E.prim,E.imm f,E.G,caller E n⟩) ih (by omega) h
  refine ⟨rfl,rfl,fun f args v h=> ?_,fun f args st r h=> ?_,fun f args st v h=> ?_,fun k args st r h=> ?_⟩
  .simp only [caller] at h ⊢;split at h
   .exact h
   .split at h
    .cases h
    .obtain ⟨a,h1,b⟩:=ah.1 h;exact ah.2 ⟨a,d _ _ _ _ _ h1,b⟩
  .simp only [caller] at h ⊢;split at h
   .exact h
   .obtain ⟨a,h1,b⟩:=ah.1 h;exact ah.2 ⟨a,d _ _ _ _ _ h1,b⟩
  .simp only [caller] at h ⊢;split at h
   .cases h
   .obtain ⟨a,h1,b⟩:=ah.1 h;exact ah.2 ⟨a,d _ _ _ _ _ h1,b⟩
  .simp only [caller,ah] at h ⊢;obtain ⟨o,h1,b⟩:=h;refine ⟨o,h1, ?_⟩;cases o with
   | loop imm ps x c fr s p=>
    dsimp only at b ⊢;split at b
    .exact Gc (X:=⟨E.T,E.prim,imm,E.G,caller E n⟩) ih (by omega) b
    .cases b
   | _=>cases b
theorem aA {α β:Type} (a:α) (f:α->cY β):((Except.ok a:cY α) >>= f)=f a:=rfl
theorem aI {α:Type} (a:α):(pure a:cY α)= .ok a:=rfl
theorem Fr.NX (fr:Fr) (d:Oq Nat) (v:AV):(fr.put d v).n=fr.n:=by
 cases d with
 | none=>rfl
 | some d=>simp only [Fr.put];split <;> rfl
def RU {α:Type}:cY α->Oq α
 | .ok a=>some a
 | .error _=>none
structure tN where
 full:FuncId->Bool
 isLook:FuncId->Bool
 bare:FuncId->LA->Oq AV
 wide:FuncId->LA->St->Oq (AV×St)
 look:FuncId->LA->St->Oq AV
 round:Nat->LA->St->Oq (AV×St)
structure Sx where
 T:TT
 prim:FuncId->Oq Prim
 imm:Td->Bool
 G:Nat->Oq LA
 O:tN
section
variable {β:Type}
def aN {α:Type} (a:α) (K:α->Oq β):Oq β:=K a
abbrev bk (a:St) (K:St->Oq β):Oq β:=K a
def bj (k:IntKind) (v:AV) (K:Int->Oq β):Oq β:=
 match v with
 | .int j n=>match decide (j=k) with
  | true=>K n
  | false=>none
 | _=>none
def bG (v:AV) (K:Bool->Oq β):Oq β:=
 match v with
 | .bool b=>K b
 | _=>none
def dN (v:AV) (K:LB->Oq β):Oq β:=
 match v with
 | .str s=>K s
 | _=>none
def anyI (v:AV) (K:Int->Oq β):Oq β:=
 match v with
 | .int _ n=>K n
 | _=>none
def Bu (v:AV) (K:LA->Oq β):Oq β:=
 match v with
 | .agg cs=>K cs
 | _=>none
def gN (v:AV) (K:LA->Oq β):Oq β:=
 match v with
 | .tup cs=>K cs
 | _=>none
def bg (l:LA) (K:AV->LA->Oq β):Oq β:=
 match l with
 | v::l=>K v l
 | []=>none
def bB (l:LA) (K:Oq β):Oq β:=
 match l with
 | []=>K
 | _:: _=>none
def cg (b:Bool) (K:Oq β):Oq β:=
 match b with
 | true=>K
 | false=>none
def aX (b:Bool) (x y:Oq β):Oq β:=
 match b with
 | true=>x
 | false=>y
def ab (v:AV) (K:Oq β):Oq β:=cg (one v) K
def A6:LA->Oq β->Oq β
 | [],K=>K
 | v::l,K=>ab v (A6 l K)
def cr (cs:LA) (off:Nat) (K:AV->Oq β):Oq β:=
 match cs[off]? with
 | some v=>K v
 | none=>none
def PD (b:Bool) (z v:AV) (K:AV->Oq β):Oq β:=
 match z with
 | .int k _=>bj k v fun n=>match b with
  | true=>aN n fun n=>K (.int k n)
  | false=>K (.int k n)
 | .bool _=>bG v fun b=>K (.bool b)
 | .str _=>dN v fun s=>match b with
  | true=>aN s fun s=>K (.str s)
  | false=>K (.str s)
 | _=>K v
def Qu:LA->LA->(LA->Oq β)->Oq β
 | [],cs,K=>bB cs (K [])
 | z::zs,cs,K=>bg cs fun v l=>PD false z v fun v'=>Qu zs l fun a=>K (v'::a)
def Fl (b:Bool) (T:TT) (t:Td) (v:AV) (K:AV->Oq β):Oq β:=
 match T.get t with
 | some i=>match i.agg with
  | true=>match i.zero.length.ble 24 with
   | true=>Bu v fun cs=>Qu i.zero cs fun cs'=>K (.agg cs')
   | false=>K v
  | false=>match i.zero with
   | [z]=>PD b z v K
   | _=>K v
 | none=>K v
def Em:Op->Bool
 | .binOp op _ _ _ _=>match op with
  | .eql=>false
  | .neq=>false
  | .lss=>false
  | .leq=>false
  | .gtr=>false
  | .geq=>false
  | _=>true
 | .unOp .. =>true
 | .convert .. =>true
 | .slice .. =>true
 | .call c=>match c.callee with
  | .builtin .min=>true
  | .builtin .max=>true
  | _=>false
 | _=>false
def uG (T:TT) (t:Td) (K:TI->Oq β):Oq β:=
 match T.get t with
 | some i=>K i
 | none=>none
def D6 (agg:Bool) (v:AV) (K:LA->Oq β):Oq β:=
 match agg with
 | true=>Bu v K
 | false=>ab v (K [v])
def aB (v:AV) (K:AV->Oq β):Oq β:=
 match fit v with
 | .ok v'=>K v'
 | .error _=>none
def Nh:LA->(LA->Oq β)->Oq β
 | [],K=>K []
 | v::l,K=>aB v fun v'=>Nh l fun a=>K (v'::a)
def Ly (agg:Bool) (v:AV) (K:AV->Oq β):Oq β:=
 match agg with
 | true=>Bu v fun cs=>A6 cs (Nh cs fun cs'=>K (.agg cs'))
 | false=>aB v K
def mJ (agg:Bool):LA->(LA->Oq β)->Oq β
 | [],K=>K []
 | v::l,K=>Ly agg v fun v'=>mJ agg l fun a=>K (v'::a)
def mg (z:Nat) (l:LA):Bool:=l.all fun v=>v.cells.length.beq z
def SO (cs:LA) (off:Nat) (new:LA):LA:=dj cs off new
def St.add (st:St) (o:Obj):St:=(st.new o).2
def q0:Fx:=⟨[],.kept⟩
abbrev Kv (β:Type):=AV->St->Fx->Oq β
def ax {α:Type} (x:Oq α) (K:α->Oq β):Oq β:=
 match x with
 | some a=>K a
 | none=>none
def ke {α:Type} (r:Sum α β) (f:α->Oq β):Oq β:=
 match r with
 | .inl a=>f a
 | .inr r=>some r
def Fj (size:Nat) (agg:Bool) (a:AV) (st:St):Oq (AV×Ln):=
 match a with
 | .ip cells=>match cM size agg cells with
  | .ok v=>some (v,[])
  | .error _=>none
 | .mp id off=>match st.get id with
  | .ok (.cells _ cs)=>match cM size agg (cs.drop off) with
   | .ok v=>some (v,[id])
   | .error _=>none
  | _=>none
 | .gp k n off=>match st.get k with
  | .ok (.row m _ _ cs)=>match n.beq m with
   | true=>match cM size agg (cs.drop off) with
    | .ok v=>some (v,[k])
    | .error _=>none
   | false=>none
  | _=>none
 | _=>none
def ar (size:Nat) (agg:Bool) (a:AV) (st:St) (K:AV->Ln->Oq β):Oq β:=ax (Fj size agg a st) fun p=>K p.1 p.2
abbrev Out:=AV×St×Fx
def mC (st:St) (id:Nat) (o:Obj) (v:AV) (rd:Ln):Oq Out:=
 match st.ro.ble id with
 | true=>some (v,st.put id o,⟨rd,.wrote id o⟩)
 | false=>none
def xR (st:St) (o:Obj) (f:Nat->AV):Oq Out:=some (f st.h,st.add o,⟨[],.made st.h o⟩)
def B1 (O:tN) (f:FuncId) (args:LA) (st:St):Oq Out:=
 match bN (args.map strip)&& !O.full f with
 | true=>match O.bare f (args.map strip) with
  | some v=>some (v,st,q0)
  | none=>none
 | false=>match O.isLook f with
  | true=>match O.look f (args.map strip) st with
   | some v=>some (v,st,⟨[],.looked⟩)
   | none=>none
  | false=>match O.wide f args st with
   | some p=>some (p.1,p.2,⟨[],.all st p.2⟩)
   | none=>none
def MD (O:tN) (k:Nat) (args:LA) (st:St):Oq Out:=
 match O.round k args st with
 | some p=>some (p.1,p.2,⟨[],.all st p.2⟩)
 | none=>none
def qU (O:tN) (p:cY dI) (st:St):Oq Out:=
 match p with
 | .ok (.val v)=>some (v,st,q0)
 | .ok (.obj id f)=>match st.get id with
  | .ok o=>match f o with
   | .ok (v,none)=>some (v,st,⟨[id],.kept⟩)
   | .ok (v,some o')=>mC st id o' v [id]
   | .error _=>none
  | .error _=>none
 | .ok (.both id k f)=>match st.get id with
  | .ok o=>match k o with
   | .ok none=>match f o none with
    | .ok v=>some (v,st,⟨[],.looked⟩)
    | .error _=>none
   | .ok (some j)=>match st.ro.ble j with
    | true=>match st.get j with
     | .ok o'=>match f o (some o') with
      | .ok v=>some (v,st,⟨[],.looked⟩)
      | .error _=>none
     | .error _=>none
    | false=>none
   | .error _=>none
  | .error _=>none
 | .ok (.new o f)=>xR st o f
 | .ok (.call f args)=>B1 O f args st
 | .ok (.yield k args)=>MD O k args st
 | .error _=>none
def oj (x:Oq Out) (K:Kv β):Oq β:=ax x fun r=>K r.1 r.2.1 r.2.2
def made (st:St) (o:Obj) (f:Nat->AV) (K:Kv β):Oq β:=oj (xR st o f) K
def cX (O:tN) (p:cY dI) (st:St) (K:Kv β):Oq β:=oj (qU O p st) K
def aV (O:tN) (f:FuncId) (args:LA) (st:St) (K:Kv β):Oq β:=oj (B1 O f args st) K
def HC (O:tN) (size:Nat) (a v:AV) (cs:LA) (st:St):Oq Out:=
 match a with
 | .mp id off=>match cs.length.beq size with
  | true=>match st.get id with
   | .ok (.cells t old)=>match (off+cs.length).ble old.length with
    | true=>mC st id (.cells t (SO old off cs)) undef [id]
    | false=>none
   | _=>none
  | false=>none
 | .gp k m off=>qU O (vb ⟨.other,size,0,[],false,false⟩ k m off v) st
 | _=>none
def Ox (t:Td) (z:LA) (nm:Nat) (st:St):Oq Out:=
 match st.get nm with
 | .ok .AF=>mC st nm (.cells t z) (.mp nm 0) [nm]
 | _=>none
def ID (t:Td) (z:LA) (nm:Nat) (st:St) (K:Kv β):Oq β:=oj (Ox t z nm st) K
def bm (O:tN) (size:Nat) (a v:AV) (cs:LA) (st:St) (K:Kv β):Oq β:=oj (HC O size a v cs st) K
def Wh (off:Nat) (a:AV):Oq AV:=
 match a with
 | .ip cells=>some (.ip (cells.drop off))
 | .mp id o=>some (.mp id (o+off))
 | .gp k n o=>some (.gp k n (o+off))
 | _=>none
def cV (off:Nat) (a:AV) (K:AV->Oq β):Oq β:=ax (Wh off a) K
def mc (i:Int) (n:Nat) (K:Nat->Oq β):Oq β:=
 match i with
 | .ofNat k=>cg (k.blt n) (K k)
 | .negSucc _=>none
def eJ (i:Int) (n:Nat) (K:Nat->Oq β):Oq β:=
 match i with
 | .ofNat k=>cg (k.ble n) (K k)
 | .negSucc _=>none
def ER:LA->Nat->Oq AV
 | [],_=>none
 | v:: _,0=>some v
 | _::l,n+1=>ER l n
def oR (i:Int) (n:Nat):Oq Nat:=
 match i with
 | .ofNat k=>match k.blt n with
  | true=>some k
  | false=>none
 | .negSucc _=>none
def LR (z:Nat) (x:AV) (i:Int) (st:St):Oq (AV×Ln):=
 match x with
 | .sl sz es _=>match sz.beq z with
  | true=>match oR i es.length with
   | some k=>match ER es k with
    | some v=>some (.ip v.cells,[])
    | none=>none
   | none=>none
  | false=>none
 | .ms id off sz len _=>match sz.beq z with
  | true=>match oR i len with
   | some k=>some (.mp id (off+k * sz),[])
   | none=>none
  | false=>none
 | .gs k sz n=>match sz.beq z with
  | true=>match oR i n with
   | some j=>match st.get k with
    | .ok (.grow m _ a es)=>match n.beq m&&a.beq sz with
     | true=>match j.blt es.length with
      | true=>match ER es j with
       | some v=>some (.ip v.cells,[k])
       | none=>none
      | false=>some (.gp k n (j * sz),[k])
     | false=>none
    | .ok (.row m _ a _)=>match n.beq m&&a.beq sz with
     | true=>some (.gp k n (j * sz),[k])
     | false=>none
    | _=>none
   | none=>none
  | false=>none
 | _=>none
def dB (z:Nat) (x:AV) (i:Int) (st:St) (K:AV->Ln->Oq β):Oq β:=ax (LR z x i st) fun p=>K p.1 p.2
def Xr (z len:Nat) (x:AV) (i:Int) (K:AV->Oq β):Oq β:=
 mc i len fun k=>cV (k * z) x K
def gv (s:LB) (i:Int) (K:UInt8->Oq β):Oq β:=
 mc i s.length fun k=>match s[k]? with
  | some b=>K b
  | none=>none
def YZ (lo:Oq Int) (h:Nat) (K:Nat->Oq β):Oq β:=
 match lo with
 | some l=>eJ l h K
 | none=>K 0
def YS (hi:Oq Int) (m d:Nat) (K:Nat->Oq β):Oq β:=
 match hi with
 | some h=>eJ h m K
 | none=>K d
def tG (hi:Oq Int) (m d:Nat):Oq Nat:=
 match hi with
 | some h=>match h with
  | .ofNat k=>match k.ble m with
   | true=>some k
   | false=>none
  | .negSucc _=>none
 | none=>some d
def lL (z:Nat) (x:AV) (lo hi mx:Oq Int):Oq AV:=
 match x,mx with
 | .aD,mx=>match tG mx 0 0 with
  | some m=>match tG hi m 0 with
   | some h=>match tG lo h 0 with
    | some _=>some .aD
    | none=>none
   | none=>none
  | none=>none
 | .es,mx=>match tG mx 0 0 with
  | some m=>match tG hi m 0 with
   | some h=>match tG lo h 0 with
    | some _=>some .es
    | none=>none
   | none=>none
  | none=>none
 | .ms id off sz len cap,mx=>match sz.beq z with
  | true=>match tG mx cap cap with
   | some m=>match tG hi m len with
    | some h=>match tG lo h 0 with
     | some l=>match h.ble m with
      | true=>some (.ms id (off+l * sz) sz (h - l) (m - l))
      | false=>none
     | none=>none
    | none=>none
   | none=>none
  | false=>none
 | .sl sz es p,none=>match sz.beq z with
  | true=>match tG hi es.length es.length with
   | some h=>match tG lo h 0 with
    | some l=>match h.beq es.length,p with
     | true,.shut=>some (.sl sz (es.drop l) .shut)
     | true,.own k=>match l.beq 0 with
      | true=>some (.sl sz es (.own k))
      | false=>some (.sl sz (es.drop l) .wide)
     | _,_=>some (.sl sz ((es.take h).drop l) .wide)
    | none=>none
   | none=>none
  | false=>none
 | .sl sz es _,some m=>match sz.beq z with
  | true=>match tG (some m) es.length 0 with
   | some m=>match tG hi m m with
    | some h=>match tG lo h 0 with
     | some l=>some (.sl sz ((es.take h).drop l) (match m.beq h with | true=> .shut | false=> .wide))
     | none=>none
    | none=>none
   | none=>none
  | false=>none
 | _,_=>none
def fw (z:Nat) (x:AV) (lo hi mx:Oq Int) (K:AV->Oq β):Oq β:=ax (lL z x lo hi mx) K
def XI (x:AV):Oq Nat:=
 match x with
 | .aD=>some 0
 | .sl _ e _=>some e.length
 | .ms _ _ _ len _=>some len
 | .gs _ _ n=>some n
 | .es=>some 0
 | _=>none
def fq (x:AV) (K:Nat->Oq β):Oq β:=ax (XI x) K
def nJ (x:AV) (K:LA->Oq β):Oq β:=
 match oT x with
 | some l=>K l
 | none=>none
def vR (z b:Nat) (e:Td) (s:AV) (new:LA) (st:St):Oq Out:=
 match new with
 | []=>match s with
  | .aD=>some (.aD,st,q0)
  | .sl z es p=>some (.sl z es p,st,q0)
  | .es=>some (.es,st,q0)
  | _=>none
 | _:: _=>match s with
  | .aD=>match fo new.length ⟨.other,z,b,[],false,false⟩ with
   | true=>xR st (.tok new.length e) fun k=> .sl z new (.own k)
   | false=>none
  | .sl y es p=>match fo (es.length+new.length) ⟨.other,z,b,[],false,false⟩&&y.beq z with
   | true=>match p with
    | .shut=>xR st (.tok (es.length+new.length) e) fun k=> .sl y (es++new) (.own k)
    | .own k=>match st.get k with
     | .ok (.tok n a)=>match n.beq es.length&&a.beq e with
      | true=>mC st k (.tok (es.length+new.length) e) (.sl y (es++new) (.own k)) [k]
      | false=>none
     | _=>none
    | .wide=>none
   | false=>none
  | .es=>match fo new.length ⟨.other,z,b,[],false,false⟩ with
   | true=>xR st (.tok new.length e) fun k=> .sl z new (.own k)
   | false=>none
  | _=>none
def cq (z b:Nat) (e:Td) (s:AV) (new:LA) (st:St) (K:Kv β):Oq β:=oj (vR z b e s new st) K
def Wf (u:U) (x y:AV):Oq Bool:=
 match u,x,y with
 | .ptr _,.nilp,.nilp=>some true
 | .ptr _,.nilp,.ip _=>some false
 | .ptr _,.ip _,.nilp=>some false
 | .ptr _,.nilp,.mp .. =>some false
 | .ptr _,.mp ..,.nilp=>some false
 | .slice _,.aD,.aD=>some true
 | .slice _,.aD,.sl .. =>some false
 | .slice _,.sl ..,.aD=>some false
 | .slice _,.aD,.ms .. =>some false
 | .slice _,.ms ..,.aD=>some false
 | .slice _,.aD,.es=>some false
 | .slice _,.es,.aD=>some false
 | .map ..,.nilm,.nilm=>some true
 | .map ..,.nilm,.mm _=>some false
 | .map ..,.mm _,.nilm=>some false
 | .func,.nilfn,.nilfn=>some true
 | .func,.nilfn,.fn .. =>some false
 | .func,.fn ..,.nilfn=>some false
 | _,_,_=>none
def NM (u:U) (x y:AV) (K:Bool->Oq β):Oq β:=ax (Wf u x y) K
def notNil:AV->Bool
 | .ip _=>true
 | .mp .. =>true
 | .gp .. =>true
 | .fn (.func _) _ _=>true
 | _=>false
def NF (x:AV) (K:Oq β):Oq β:=cg (notNil x) K
def J6 (prim:FuncId->Oq Prim) (f:AV) (args:LA):cY dI:=
 match f with
 | .fn (.func g) first cap=>match prim g with
  | some q=>dy q (first++args++cap)
  | none=> .ok (.call g (first++args++cap))
 | .yld k=> .ok (.yield k args)
 | _=> .error "call: what?"
def jx (O:tN) (prim:FuncId->Oq Prim) (f:AV) (args:LA) (st:St) (K:Kv β):Oq β:=oj (qU O (J6 prim f args) st) K
def Cj (place:Nat->Oq (Nat×Nat)) (cells:LA):List (Nat×LA)->(LA->Oq β)->Oq β
 | [],K=>K cells
 | (i,cs)::l,K=>
  match place i with
  | none=>none
  | some (off,size)=>cg (cs.length.beq size&&(off+size).ble cells.length) (Cj place (dj cells off cs) l K)
abbrev PF:=List (Nat×AV)
def PF.get:PF->Nat->Oq AV
 | [],_=>none
 | (i,v)::l,j=>match i.beq j with
  | true=>some v
  | false=>PF.get l j
def ev (G:Nat->Oq LA) (p:PF) (x:Operand) (K:AV->Oq β):Oq β:=
 match x with
 | .tmp t=>match PF.get p t with
  | some v=>K v
  | none=>none
 | .const v=>match ofConst v with
  | .ok v=>K v
  | .error _=>none
 | .global g=>match G g with
  | some cs=>K (.ip cs)
  | none=>none
 | .func g=>K (.fn (.func g) [] [])
def Xh (G:Nat->Oq LA) (p:PF):List Operand->(LA->Oq β)->Oq β
 | [],K=>K []
 | x::l,K=>ev G p x fun v=>Xh G p l fun vs=>K (v::vs)
def XT (G:Nat->Oq LA) (p:PF) (x:Oq Operand) (K:Oq Int->Oq β):Oq β:=
 match x with
 | none=>K none
 | some x=>ev G p x fun v=>anyI v fun n=>K (some n)
def VV (T:TT) (G:Nat->Oq LA) (p:PF) (ty:Nat->Oq Td):List (Nat×Operand)->(List (Nat×LA)->Oq β)->Oq β
 | [],K=>K []
 | (i,x)::l,K=>match ty i with
  | none=>none
  | some t=>uG T t fun ti=>ev G p x fun v=>D6 ti.agg v fun cs=>VV T G p ty l fun r=>K ((i,cs)::r)
def I0 (T:TT):List (Nat×Td)->(List (Nat×Nat)->Oq β)->Oq β
 | [],K=>K []
 | (o,t)::l,K=>uG T t fun i=>I0 T l fun r=>K ((o,i.size)::r)
def mn:U->Bool
 | .ptr _=>true
 | .slice _=>true
 | .map .. =>true
 | .func=>true
 | _=>false
def Md (op:BinOp) (a:AV):Oq AV:=Rb op a
def Xb (T:TT) (op:BinOp) (t:Td) (x y:AV) (K:AV->Oq β):Oq β:=
 uG T t fun i=>match mn i.und,op with
  | true,.eql=>NM i.und x y fun b=>K (.bool b)
  | true,.neq=>NM i.und x y fun b=>K (.bool !b)
  | _,_=>match op,i.und with
   | .add,.str=>dN x fun a=>dN y fun b=>cg ((a.length+b.length).ble 9223372036854775807) (K (.str (a++b)))
   | .quo,.int k=>bj k x fun a=>bj k y fun b=>cg (!(decide (b=0))) (K (.int k (k.wrap (a.tdiv b))))
   | .rem,.int k=>bj k x fun a=>bj k y fun b=>cg (!(decide (b=0))) (K (.int k (a.tmod b)))
   | .shl,.int k=>bj k x fun a=>anyI y fun b=>cg (!(decide (b < 0))) (K (.int k (k.wrap (a * 2 ^ (min b.toNat k.bits)))))
   | .shr,.int k=>bj k x fun a=>anyI y fun b=>cg (!(decide (b < 0))) (K (.int k (a.fdiv (2 ^ (min b.toNat k.bits)))))
   | _,_=>ax (RU (binOp T op t x y)) K
def Ru (S:Sx) (o:Op) (p:PF) (st:St) (K:Kv β):Oq β:=
 match o with
 | .move x | .assign x=>ev S.G p x fun v=>K v st q0
 | .pick c a b=>ev S.G p c fun c=>bG c fun c=>aX c (ev S.G p a fun v=>K v st q0) (ev S.G p b fun v=>K v st q0)
 | .alloc t=>uG S.T t fun i=>made st (.cells t i.zero) (fun k=> .mp k 0) K
 | .box t x=>uG S.T t fun i=>ev S.G p x fun v=>D6 i.agg v fun cs=>cg (cs.length.beq i.size) (A6 cs (match S.imm t with
  | true=>Nh cs fun cs'=>K (.ip cs') st q0
  | false=>made st (.cells t cs) (fun k=> .mp k 0) K))
 | .build t parts=>uG S.T t fun i=>match i.und with
  | .struct fs=>VV S.T S.G p (fun k=>(fs[k]?).map (·.2)) parts.toList fun ps=>I0 S.T fs fun sz=>Cj (fun k=>sz[k]?) i.zero ps fun cs=>K (.agg cs) st q0
  | .arr _ e=>VV S.T S.G p (fun _=>some e) parts.toList fun ps=>uG S.T e fun g=>Cj (fun k=>some (k * g.size,g.size)) i.zero ps fun cs=>K (.agg cs) st q0
  | _=>none
 | .buildSlice t len parts=>uG S.T t fun i=>match i.und with
  | .slice e=>uG S.T e fun g=>VV S.T S.G p (fun _=>some e) parts.toList fun ps=>cg ((len * g.size).ble 16777216&&Nat.ble 1 g.size) (Cj (fun k=>some (k * g.size,g.size)) (zeros g.zero len) ps fun cs=>A6 cs (match group g.size g.agg len cs with
   | .ok vs=>mJ g.agg vs fun vs'=>K (.sl g.size vs' .shut) st q0
   | .error _=>none))
  | _=>none
 | .makeSlice t l c=>ev S.G p l fun l=>ev S.G p c fun c=>cX S.O (pJ S.T t l c) st K
 | .load t a=>uG S.T t fun i=>ev S.G p a fun a=>ar i.size i.agg a st fun v rd=>K v st ⟨rd,.kept⟩
 | .store t a x=>uG S.T t fun i=>ev S.G p a fun a=>ev S.G p x fun v=>D6 i.agg v fun cs=>A6 cs (bm S.O i.size a v cs st K)
 | .nilCheck x=>ev S.G p x fun v=>NF v (K v st q0)
 | .binOp op t x y _=>ev S.G p x fun a=>ev S.G p y fun b=>match UH y b&&Na S.T t with
  | true=>ax (Md op a) fun v=>K v st q0
  | false=>Xb S.T op t a b fun v=>K v st q0
 | .unOp op _ x=>ev S.G p x fun x=>ax (RU (unOp op x)) fun v=>K v st q0
 | .convert s d x=>ev S.G p x fun x=>cX S.O (tP S.T s d x) st K
 | .makeInterface t x=>uG S.T t fun i=>match i.und with
  | .iface _ | .other=>none
  | _=>ev S.G p x fun v=>K (.iface t v) st q0
 | .makeFunc f first cap=>Xh S.G p first.toList fun a=>Xh S.G p cap.toList fun c=>K (.fn f a c) st q0
 | .makeMap _ none=>made st (.map []) (fun k=> .mm k) K
 | .slice t x lo hi mx=>match mx,hi with
  | some _,none=>none
  | _,_=>uG S.T t fun i=>ev S.G p x fun x=>XT S.G p lo fun lo=>XT S.G p hi fun hi=>XT S.G p mx fun mx=>match i.und with
   | .str=>dN x fun s=>match mx with
    | none=>YS hi s.length s.length fun h=>YZ lo h fun l=>K (.str ((s.take h).drop l)) st q0
    | some _=>none
   | .slice e=>uG S.T e fun g=>fw g.size x lo hi mx fun v=>K v st q0
   | _=>none
 | .fieldAddr t x f=>uG S.T t fun i=>match i.und with
  | .struct fs=>match fs[f]? with
   | some (off,q)=>uG S.T q fun r=>match r.size with
    | 0=>none
    | _+1=>ev S.G p x fun a=>cV off a fun a'=>K a' st q0
   | none=>none
  | _=>none
 | .field t x f=>ev S.G p x fun x=>ax (RU (field S.T t x f)) fun v=>K v st q0
 | .indexAddr t x i=>uG S.T t fun ti=>ev S.G p x fun x=>ev S.G p i fun i=>anyI i fun i=>match ti.und with
  | .slice e=>uG S.T e fun g=>dB g.size x i st fun a rd=>K a st ⟨rd,.kept⟩
  | .arr len e=>uG S.T e fun g=>Xr g.size len x i fun a=>K a st q0
  | _=>none
 | .index t x i=>uG S.T t fun ti=>ev S.G p x fun x=>ev S.G p i fun i=>match ti.und with
  | .str=>dN x fun s=>anyI i fun i=>gv s i fun b=>K (.int .u8 b.toNat) st q0
  | _=>ax (RU (zf S.T t x i)) fun v=>K v st q0
 | .lookup t x k ok=>ev S.G p x fun x=>ev S.G p k fun k=>cX S.O (jM S.T t x k ok) st K
 | .mapUpdate t m k v | .insert t m k v=>ev S.G p m fun m=>ev S.G p k fun k=>ev S.G p v fun v=>cX S.O (pc S.T t m k v) st K
 | .range t x=>ev S.G p x fun x=>uG S.T t fun i=>match i.und with
  | .str=>dN x fun s=>made st (.sit s 0) (fun k=> .mp k 0) K
  | _=>none
 | .next x true=>ev S.G p x fun x=>cX S.O (B5 x) st K
 | .extract x i=>ev S.G p x fun x=>gN x fun vs=>cr vs i fun v=>K v st q0
 | .call c=>Xh S.G p c.args.toList fun args=>match c.callee with
  | .builtin b=>match b,c.argTypes.toList,args with
   | .len,t:: _,[x]=>uG S.T t fun i=>match i.und with
    | .str=>dN x fun s=>K (.int .i64 s.length) st q0
    | .slice _=>fq x fun n=>K (.int .i64 n) st q0
    | _=>cX S.O (BU S.T t x) st K
   | .append,[t,xt],[s,x]=>uG S.T t fun i=>uG S.T xt fun u=>match i.und,I2 u.und with
    | .slice e,true=>uG S.T e fun g=>nJ x fun new=>match S.imm (1000000+t) with
     | true=>cX S.O (si g e s new) st K
     | false=>match S.imm (2000000+t) with
     | true=>cX S.O (sf g e s new) st K
     | false=>match S.imm (3000000+t) with
     | true=>cX S.O (tJ g e s new) st K
     | false=>mJ g.agg new fun j=>cg (mg g.size j) (cq g.size g.bytes e s j st K)
    | _,_=>none
   | b,ts,args=>cX S.O (fO S.T S.imm b ts args) st K
  | .value f=>ev S.G p f fun f=>jx S.O S.prim f args st K
  | .invoke .. =>none
 | _=>none
def EN (all:List Oper) (p:PF) (g:Oq (Nat×Bool)) (yes no:PF->Oq β):Oq β:=
 match g with
 | none=>yes p
 | some (j,want)=>match (all[j]?).bind (·.dst) with
  | some d=>match PF.get p d with
   | some v=>match v with
    | .bool b=>match want with
     | true=>aX b (yes ((d,.bool true)::p)) (no ((d,.bool false)::p))
     | false=>aX b (no ((d,.bool true)::p)) (yes ((d,.bool false)::p))
    | _=>no p
   | none=>none
  | none=>none
def zn (N:Nat) (d:Oq Tmp) (v:AV) (p:PF) (K:PF->Oq β):Oq β:=
 match d with
 | none=>K p
 | some d=>match d.blt N with
  | true=>K ((d,v)::p)
  | false=>none
def pA (ops:List Oper) (j:Nat) (x:Fx):List (Nat×Fx)->Bool
 | []=>true
 | (i,y)::l=>(behind ops (j+1) j i||apart y x)&&pA ops j x l
def D4 (S:Sx) (N:Nat) (all:List Oper) (draw:Bool):(j:Nat)->(seen:List (Nat×Fx))->List Oper->PF->St->(PF->St->Oq β)->Oq β
 | _,_,[],p,st,K=>K p st
 | j,seen,o::l,p,st,K=>EN all p o.guard
  (fun p=>Ru S o.op p st fun v st' x=>Fl (Em o.op) S.T o.type v fun v=>match draw with
   | false=>zn N o.dst v p fun p=>D4 S N all draw (j+1) seen l p st' K
   | true=>cg (pA all j x seen) (zn N o.dst v p fun p=>D4 S N all draw (j+1) ((j,x)::seen) l p st' K))
  (fun p=>zn N o.dst undef p fun p=>D4 S N all draw (j+1) seen l p st K)
def VY (S:Sx) (e:Nat->Oq Nat) (o:Oper) (p:PF) (st:St) (K:Kv β):Oq β:=
 match sn e o with
 | some (t,nm)=>uG S.T t fun i=>ID t i.zero nm st K
 | none=>Ru S o.op p st K
def sQ (S:Sx) (N:Nat) (e:Nat->Oq Nat) (all:List Oper):(j:Nat)->(seen:List (Nat×Fx))->List Oper->PF->St->(PF->St->Oq β)->Oq β
 | _,_,[],p,st,K=>K p st
 | j,seen,o::l,p,st,K=>EN all p o.guard
  (fun p=>VY S e o p st fun v st' x=>Fl (Em o.op) S.T o.type v fun v=>
   cg (pA all j x seen) (zn N o.dst v p fun p=>sQ S N e all (j+1) ((j,x)::seen) l p st' K))
  (fun p=>zn N o.dst undef p fun p=>sQ S N e all (j+1) seen l p st K)
def Vd (st:St):Ln->(St->Oq β)->Oq β
 | [],K=>K st
 | _::l,K=>bk (st.add .AF) fun st=>Vd st l K
end
def nG {σ β:Type} (F:σ->Oq (Sum σ β)):Nat->σ->Oq β
 | 0,_=>none
 | n+1,s=>match F s with
  | some (.inl s')=>nG F n s'
  | some (.inr r)=>some r
  | none=>none
open Classical in
noncomputable def aH {σ β:Type} (F:σ->Oq (Sum σ β)) (s:σ):Oq β:=
 if h: ∃r n,nG F n s=some r then some h.choose else none
structure Lv where
 falls:Bool
 outs:Ln
 rets:Bool
def leaves:Code->Lv
 | .skip=>⟨true,[],false⟩
 | .label _=>⟨true,[],false⟩
 | .region .. =>⟨true,[],false⟩
 | .seq a b=>let x:=leaves a;let y:=leaves b
  match x.falls with
  | true=>⟨y.falls,x.outs++y.outs,x.rets||y.rets⟩
  | false=>x
 | .cond _ a b=>let x:=leaves a;let y:=leaves b;⟨x.falls||y.falls,x.outs++y.outs,x.rets||y.rets⟩
 | .block id c=>let x:=leaves c;⟨x.falls||uW id x.outs,x.outs.filter fun i=> !i.beq id,x.rets⟩
 | .loop c=>let x:=leaves c;⟨false,x.outs.eraseDups,x.rets⟩
 | .scope c=>leaves c
 | .rangeFunc _ _ _ c=>let x:=leaves c;⟨true,x.outs.eraseDups,x.rets⟩
 | .exit i=>⟨false,[i],false⟩
 | .ret=>⟨false,[],true⟩
 | _=>⟨false,[],false⟩
def HQ (n:Nat):Ln->Nat
 | []=>0
 | m::l=>match n.beq m with
  | true=>HQ n l+1
  | false=>HQ n l
section
variable {β:Type}
def jH (p:PF):Ln->Ln
 | []=>[]
 | i::l=>match PF.get p i with
  | some _=>i::jH p l
  | none=>jH p l
def sy (live:Ln):Ln->Ln
 | []=>[]
 | i::l=>match uW i live with
  | true=>i::sy live l
  | false=>sy live l
def getAll (p:PF):Ln->(LA->Oq β)->Oq β
 | [],K=>K []
 | i::l,K=>match PF.get p i with
  | some v=>getAll p l fun vs=>K (v::vs)
  | none=>none
def erase (ws:Ln):PF->PF
 | []=>[]
 | (i,v)::l=>match uW i ws with
  | true=>erase ws l
  | false=>(i,v)::erase ws l
def N2:List (Nat×Td)->Nat->Oq Td
 | [],_=>none
 | (i,t)::l,j=>match i.beq j with
  | true=>some t
  | false=>N2 l j
def JF (T:TT) (tys:List (Nat×Td)) (i:Nat) (v:AV) (K:AV->Oq β):Oq β:=
 match N2 tys i with
 | some t=>Fl false T t v K
 | none=>K v
def iN (T:TT) (tys:List (Nat×Td)):Ln->LA->PF->(PF->Oq β)->Oq β
 | [],vs,p,K=>bB vs (K p)
 | i::l,vs,p,K=>bg vs fun v vs=>JF T tys i v fun v=>iN T tys l vs p fun p=>K ((i,v)::p)
def CD:Ex->List Ex->Nat->Oq Nat
 | _,[],_=>none
 | x,y::l,n=>match decide (x=y) with
  | true=>some n
  | false=>CD x l (n+1)
def mR (n:Nat) (a:Oq β) (b:Nat->Oq β):Oq β:=
 match n with
 | 0=>a
 | n+1=>b n
def U1 (K:Ex->Oq β):List Ex->Nat->Oq β
 | [],_=>none
 | x::l,n=>match l with
  | []=>K x
  | _:: _=>mR n (K x) fun n=>U1 K l n
def uh:List Oper->Bool
 | []=>false
 | o::l=>match o.guard with
  | some _=>true
  | none=>uh l
end
def MI {β:Type} (j x:Ex) (A B:Oq β):Oq β:=aX (decide (j=x)) A B
def D3 {β:Type} (j:Ex) (K:Ex->Oq β):List Ex->Oq β
 | []=>none
 | x::l=>MI j x (K x) (D3 j K l)
def XK {β:Type} (k:Nat) (st:St) (K:Ex->St->Oq β):Oq β:=
 match st.get k with
 | .ok (.loop _ _ _ _ _ s p)=>cg (s.beq 0||s.beq 2) (K p (st.put k .dead))
 | _=>none
def MH {β:Type} (O:tN) (f:AV) (a:Obj) (st:St) (K:Ex->St->Oq β):Oq β:=
 match f with
 | .fn (.func g) [] cap=>ax (O.wide g (.yld st.h::cap) (st.add a)) fun r=>XK st.h r.2 K
 | _=>none
abbrev bU:=LA×St
noncomputable def l5 (S:Sx) (N:Nat) (tys:List (Nat×Td)):Code->(live:Ln)->{β:Type}->PF->St->(Ex->PF->St->Oq β)->Oq β
 | .skip,_,_,p,st,K=>K .normal p st
 | .label _,_,_,p,st,K=>K .normal p st
 | .exit i,_,_,p,st,K=>K (.exit i) p st
 | .ret,_,_,p,st,K=>K .ret p st
 | .scope c,live,_,p,st,K=>l5 S N tys c live p st K
 | .region _ ops draw,live,_,p,st,K=>
  match draw&&S.imm 4000000 with
  | false=>
   match uh ops.toList with
   | false=>D4 S N ops.toList draw 0 [] ops.toList p st fun p st=>K .normal p st
   | true=>let ws:=dedup (sy live (cN ops.toList))
    ax (D4 (β:=bU) S N ops.toList draw 0 [] ops.toList p st fun p st=>getAll p ws fun vs=>some (vs,st)) fun c=>
     iN S.T tys ws c.1 (erase (cN ops.toList) p) fun p=>K .normal p c.2
  | true=>Vd st (pd ops.toList) fun st'=>
   match uh ops.toList with
   | false=>sQ S N (CS st.h (pd ops.toList)) ops.toList 0 [] ops.toList p st' fun p st=>K .normal p st
   | true=>let ws:=dedup (sy live (cN ops.toList))
    ax (sQ (β:=bU) S N (CS st.h (pd ops.toList)) ops.toList 0 [] ops.toList p st' fun p st=>getAll p ws fun vs=>some (vs,st)) fun c=>
     iN S.T tys ws c.1 (erase (cN ops.toList) p) fun p=>K .normal p c.2
 | .seq a b,live,_,p,st,K=>l5 S N tys a (xZ b++live) p st fun ex p st=>match ex with
  | .normal=>l5 S N tys b live p st K
  | ex=>K ex p st
 | .cond c a b,live,_,p,st,K=>ev S.G p c fun c=>bG c fun c=>
  let x:=leaves a;let y:=leaves b
  match x.falls&&y.falls with
  | false=>aX c (l5 S N tys a live p st K) (l5 S N tys b live p st K)
  | true=>
   let W:=writes a++writes b
   let ws:=dedup (jH p (sy live W))
   match (x.outs.isEmpty&&y.outs.isEmpty)&& !(x.rets||y.rets) with
   | true=>
    let J:Ex->PF->St->Oq bU:=fun ex p st=>match ex with
     | .normal=>getAll p ws fun vs=>some (vs,st)
     | _=>none
    ax (aX c (l5 S N tys a live p st J) (l5 S N tys b live p st J)) fun c=>
     iN S.T tys ws c.1 (erase W p) fun p=>K .normal p c.2
   | false=>
    let J:Ex->PF->St->Oq (Sum bU _):=fun ex p st=>match ex with
     | .normal=>getAll p ws fun vs=>some (.inl (vs,st))
     | ex=>ax (K ex p st) fun r=>some (.inr r)
    ax (aX c (l5 S N tys a live p st J) (l5 S N tys b live p st J)) fun r=>ke r fun c=>iN S.T tys ws c.1 (erase W p) fun p=>K .normal p c.2
 | .block id c,live,_,p,st,K=>
  let x:=leaves c
  match ((match x.falls with | true=>1 | false=>0)+HQ id x.outs).ble 1 with
  | true=>l5 S N tys c live p st fun ex p st=>match ex with
   | .exit i=>match i.beq id with
    | true=>K .normal p st
    | false=>K (.exit i) p st
   | ex=>K ex p st
  | false=>
   let W:=writes c
   let ws:=dedup (jH p (sy live W))
   let J:Ex->PF->St->Oq (Sum bU _):=fun ex p st=>match ex with
    | .normal=>getAll p ws fun vs=>some (.inl (vs,st))
    | .exit i=>match i.beq id with
     | true=>getAll p ws fun vs=>some (.inl (vs,st))
     | false=>ax (K (.exit i) p st) fun r=>some (.inr r)
    | .ret=>ax (K .ret p st) fun r=>some (.inr r)
   ax (l5 S N tys c live p st J) fun r=>ke r fun c=>iN S.T tys ws c.1 (erase W p) fun p=>K .normal p c.2
 | .loop c,live,_,p,st,K=>
  let W:=writes c
  let ws:=dedup (jH p W)
  let us:=sy live ws
  let x:=leaves c
  let es:List Ex:=x.outs.eraseDups.map .exit++(match x.rets with | true=>[.ret] | false=>[])
  getAll p ws fun vs=>ax (aH (fun s:bU=>iN S.T tys ws s.1 (erase W p) fun p=>l5 (β:=Sum bU (Nat×bU)) S N tys c (ws++live) p s.2 fun ex p st=>match ex with
    | .normal=>getAll p ws fun vs=>some (.inl (vs,st))
    | ex=>ax (CD ex es 0) fun k=>getAll p us fun vs=>some (.inr (k,vs,st))) (vs,st)) fun r=>
   iN S.T tys us r.2.1 (erase W p) fun p=>U1 (fun ex=>K ex p r.2.2) es r.1
 | .rangeFunc g ps a c,_,_,p,st,K=>
  let us:=qq ps.toList a c
  let x:=leaves c
  let es:List Ex:= .normal::(x.outs.eraseDups.map .exit++(match x.rets with | true=>[.ret] | false=>[]))
  ev S.G p g fun f=>getAll p us fun vs=>MH S.O f (.loop S.imm ps.toList a c (Mx N us vs) 0 .normal) st fun j st'=>D3 j (fun ex=>K ex p st') es
 | _,_,_,_,_,_=>none
section
variable {β:Type}
def Qf (S:Sx) (p:PF) (st:St) (r:ResultVar) (K:AV->Oq β):Oq β:=
 match r with
 | .tmp t=>match PF.get p t with
  | some v=>K v
  | none=>none
 | .cell a t=>uG S.T t fun i=>match PF.get p a with
  | some a=>ar i.size i.agg a st fun v _=>Fl false S.T t v K
  | none=>none
def JL (S:Sx) (p:PF) (st:St):List ResultVar->(LA->Oq β)->Oq β
 | [],K=>K []
 | r::l,K=>Qf S p st r fun v=>JL S p st l fun vs=>K (v::vs)
def DN:List ResultVar->Ln
 | []=>[]
 | .tmp t::l=>t::DN l
 | .cell a _::l=>a::DN l
def kW:Code->List (Nat×Td)
 | .region _ ops _=>go ops.toList
 | .seq a b=>kW a++kW b
 | .cond _ a b=>kW a++kW b
 | .block _ c=>kW c
 | .loop c=>kW c
 | .scope c=>kW c
 | .rangeFunc _ _ a c=>kW a++kW c
 | _=>[]
 where
 go:List Oper->List (Nat×Td)
  | []=>[]
  | o::l=>match o.dst with
   | some d=>(d,o.type)::go l
   | none=>go l
def Gb:Nat->List Td->List (Nat×Td)
 | _,[]=>[]
 | i,t::l=>(i,t)::Gb (i+1) l
def GH (T:TT):Nat->List Td->LA->PF->(PF->Oq β)->Oq β
 | _,_,[],p,K=>K p
 | i,ts,v::vs,p,K=>match ts with
  | []=>GH T (i+1) [] vs ((i,v)::p) K
  | t::ts=>Fl false T t v fun v=>GH T (i+1) ts vs ((i,v)::p) K
noncomputable def J4 (S:Sx) (fn:Func) (args:LA) (st:St) (K:AV->St->Oq β):Oq β:=
 match fn.body with
 | none=>none
 | some c=>match args.length.ble fn.ntmps with
  | false=>none
  | true=>GH S.T 0 fn.params.toList args [] fun p=>l5 S fn.ntmps (Gb 0 fn.params.toList++kW c) c (DN fn.results.toList) p st fun ex p st=>match ex with
   | .exit _=>none
   | _=>JL S p st fn.results.toList fun vs=>K (oneOf vs) st
def eQ (st:St) (base:Nat) (v:AV) (K:AV->Oq β):Oq β:=
 match freeze st base 100 v with
 | .ok v=>cg (bare v) (K v)
 | .error _=>none
end
def kH (P:Nat->Prop):Prop:= ∃m,∀n,m<=n->P n
theorem kH.always {P:Nat->Prop} (h: ∀n,P n):kH P:=⟨0,fun n _=>h n⟩
theorem kH.lift {P Q:Nat->Prop} (h:kH P) (k: ∀n,P n->Q n):kH Q:=by
 obtain ⟨m,h⟩:=h;exact ⟨m,fun n hn=>k n (h n hn)⟩
theorem kH.both {P Q:Nat->Prop} (h:kH P) (k:kH Q):kH fun n=>P n/\Q n:=by
 obtain ⟨m,h⟩:=h;obtain ⟨a,k⟩:=k;exact ⟨max m a,fun n hn=>⟨h n (by omega),k n (by omega)⟩⟩
section
variable {β:Type} {r:β}
theorem tT {α:Type} {x:cY α} {a:α} (h:RU x=some a):x= .ok a:=by
 cases x <;> simp_all [RU]
theorem bL {α:Type} {x:Oq α} {K:α->Oq β} (h:ax x K=some r): ∃a,x=some a/\K a=some r:=by
 cases x with
 | none=>simp [ax] at h
 | some a=>exact ⟨a,rfl,h⟩
theorem mX {k:IntKind} {v:AV} {K:Int->Oq β} (h:bj k v K=some r): ∃n,v= .int k n/\K n=some r:=by
 unfold bj at h;split at h
 .rename_i j n;split at h
  .rename_i e;have e:=aci e;subst e;exact ⟨n,rfl,h⟩
  .cases h
 .cases h
theorem zD {v:AV} {K:Bool->Oq β} (h:bG v K=some r): ∃b,v= .bool b/\K b=some r:=by
 unfold bG at h;split at h
 .exact ⟨_,rfl,h⟩
 .cases h
theorem mO {v:AV} {K:LB->Oq β} (h:dN v K=some r): ∃b,v= .str b/\K b=some r:=by
 unfold dN at h;split at h
 .exact ⟨_,rfl,h⟩
 .cases h
theorem oy {v:AV} {K:Int->Oq β} (h:anyI v K=some r): ∃k n,v= .int k n/\K n=some r:=by
 unfold anyI at h;split at h
 .exact ⟨_,_,rfl,h⟩
 .cases h
theorem yK {v:AV} {K:LA->Oq β} (h:Bu v K=some r): ∃cs,v= .agg cs/\K cs=some r:=by
 unfold Bu at h;split at h
 .exact ⟨_,rfl,h⟩
 .cases h
theorem Nu {v:AV} {K:LA->Oq β} (h:gN v K=some r): ∃cs,v= .tup cs/\K cs=some r:=by
 unfold gN at h;split at h
 .exact ⟨_,rfl,h⟩
 .cases h
theorem E8 {l:LA} {K:AV->LA->Oq β} (h:bg l K=some r): ∃v vs,l=v::vs/\K v vs=some r:=by
 unfold bg at h;split at h
 .exact ⟨_,_,rfl,h⟩
 .cases h
theorem Fp {l:LA} {K:Oq β} (h:bB l K=some r):l=[]/\K=some r:=by
 unfold bB at h;split at h
 .exact ⟨rfl,h⟩
 .cases h
theorem ew {b:Bool} {K:Oq β} (h:cg b K=some r):b=true/\K=some r:=by
 cases b
 .cases h
 .exact ⟨rfl,h⟩
theorem KT {cs:LA} {off:Nat} {K:AV->Oq β} (h:cr cs off K=some r): ∃v,cs[off]? =some v/\K v=some r:=by
 unfold cr at h;split at h
 .exact ⟨_,by assumption,h⟩
 .cases h
theorem FO: ∀{cs:LA} {off:Nat} {v:AV},cs[off]? =some v->fy cs off= .ok v
 | [],_,_,h=>by simp at h
 | _:: _,0,_,h=>by simp at h;simp [fy,h]
 | _::l,n+1,_,h=>by simp at h;simp only [fy];exact FO h
theorem B2 {b:Bool} {z v:AV} {K:AV->Oq β} (h:PD b z v K=some r):K v=some r:=by
 unfold PD at h;split at h
 .obtain ⟨n,rfl,a⟩:=mX h;cases b <;> exact a
 .obtain ⟨n,rfl,a⟩:=zD h;exact a
 .obtain ⟨n,rfl,a⟩:=mO h;cases b <;> exact a
 .exact h
theorem CP: ∀{zs cs:LA} {K:LA->Oq β},Qu zs cs K=some r->K cs=some r
 | [],cs,K,h=>by
  obtain ⟨rfl,h⟩:=Fp h;exact h
 | z::zs,cs,K,h=>by
  obtain ⟨v,l,rfl,hd⟩:=E8 h;exact CP (K:=fun a=>K (v::a)) (B2 (K:=fun v'=>Qu zs l fun a=>K (v'::a)) hd)
theorem kN {b:Bool} {T:TT} {t:Td} {v:AV} {K:AV->Oq β} (h:Fl b T t v K=some r):K v=some r:=by
 unfold Fl at h;split at h
 .split at h
  .split at h
   .obtain ⟨cs,rfl,h⟩:=yK h;exact CP (K:=fun cs'=>K (.agg cs')) h
   .exact h
  .split at h
   .exact B2 h
   .exact h
 .exact h
theorem cD {T:TT} {t:Td} {K:TI->Oq β} (h:uG T t K=some r): ∃i,ti T t= .ok i/\K i=some r:=by
 unfold uG at h;split at h
 .rename_i i e;exact ⟨i,cy.2 e,h⟩
 .cases h
theorem LG {v:AV} (h:one v=true):v.cells=[v]:=by
 cases v <;> first | rfl | (cases h;done)
theorem rk {agg:Bool} {v:AV} {K:LA->Oq β} (h:D6 agg v K=some r):K v.cells=some r/\(agg=true-> ∃cs,v= .agg cs)/\(agg=false->one v=true):=by
 cases agg with
 | true=>obtain ⟨cs,rfl,h⟩:=yK h;exact ⟨h,fun _=>⟨cs,rfl⟩,(by intro h;cases h)⟩
 | false=>
  obtain ⟨h1,h⟩:=ew h;rw [LG h1];exact ⟨h,(by intro h;cases h),fun _=>h1⟩
theorem mN: ∀{cs:LA} {K:Oq β},A6 cs K=some r->iw cs=true/\K=some r
 | [],_,h=>⟨rfl,h⟩
 | v::l,K,h=>by
  obtain ⟨h1,h⟩:=ew h;obtain ⟨a,h⟩:=mN h;exact ⟨by simp [iw,h1,a],h⟩
theorem Di {v:AV} {K:AV->Oq β} (h:aB v K=some r): ∃v',fit v= .ok v'/\K v'=some r:=by
 unfold aB at h;split at h
 .exact ⟨_,by assumption,h⟩
 .cases h
theorem vL: ∀{cs:LA} {K:LA->Oq β},Nh cs K=some r-> ∃cs',fits cs= .ok cs'/\K cs'=some r
 | [],_,h=>⟨[],rfl,h⟩
 | v::l,K,h=>by
  obtain ⟨v',e,h⟩:=Di h;obtain ⟨a,b,h⟩:=vL h;exact ⟨v'::a,by simp [fits,e,b];rfl,h⟩
theorem Qv {v v':AV} (h:one v=true) (e:fit v= .ok v'):v'=strip v/\bare (strip v)=true:=by
 have:fit v=(match bare (strip v) with | true=> .ok (strip v) | false=> .error "a name within what never changes"):=by
  cases v <;> first | rfl | (cases h;done)
 rw [this] at e;split at e
 .rename_i a;cases e;exact ⟨rfl,a⟩
 .cases e
theorem Ak: ∀{cs cs':LA},iw cs=true->fits cs= .ok cs'->cs'=cs.map strip/\bN (cs.map strip)=true
 | [],cs',_,e=>by cases e;exact ⟨rfl,rfl⟩
 | v::l,cs',h,e=>by
  simp only [iw,aaf] at h;simp only [fits,ah,au] at e;obtain ⟨v',a,d,b,rfl⟩:=e;obtain ⟨rfl,h1⟩:=Qv h.1 a;obtain ⟨rfl,c⟩:=Ak h.2 b;exact ⟨rfl,by simp [bf,h1,c]⟩
theorem Qn {cs cs':LA} (h:iw cs=true) (e:fits cs= .ok cs'):fit (.agg cs)= .ok (.agg cs'):=by
 obtain ⟨rfl,a⟩:=Ak h e;simp only [fit];have:bare (.agg (cs.map strip))=true:=a;rw [this]
theorem KS {agg:Bool} {v:AV} {K:AV->Oq β} (h:Ly agg v K=some r): ∃v',fit v= .ok v'/\K v'=some r:=by
 cases agg with
 | true=>
  obtain ⟨cs,rfl,h⟩:=yK h;obtain ⟨h1,h⟩:=mN h;obtain ⟨cs',e,h⟩:=vL h;exact ⟨_,Qn h1 e,h⟩
 | false=>exact Di h
theorem tn {agg:Bool}: ∀{vs:LA} {K:LA->Oq β},mJ agg vs K=some r-> ∃vs',fits vs= .ok vs'/\K vs'=some r
 | [],_,h=>⟨[],rfl,h⟩
 | v::l,K,h=>by
  obtain ⟨v',e,h⟩:=KS h;obtain ⟨a,b,h⟩:=tn h;exact ⟨v'::a,by simp [fits,e,b];rfl,h⟩
end
section
variable {E:Env} {O:tN}
structure RN (E:Env) (O:tN):Prop where
 full:O.full=E.full
 isLook:O.isLook=E.isLook
 bare: ∀f a v,O.bare f a=some v->kH fun n=>(caller E n).bare f a= .ok v
 wide: ∀f a st v,O.wide f a st=some v->kH fun n=>(caller E n).wide f a st= .ok v
 look: ∀f a st v,O.look f a st=some v->kH fun n=>(caller E n).look f a st= .ok v
 round: ∀k a st v,O.round k a st=some v->kH fun n=>(caller E n).round k a st= .ok v
theorem qX (E:Env): ∀n,(caller E n).full=E.full
 | 0=>rfl
 | _+1=>rfl
theorem sJ (E:Env): ∀n,(caller E n).isLook=E.isLook
 | 0=>rfl
 | _+1=>rfl
def ec (E:Env) (st:St) (p:cY dI) (v:AV) (x:Fx):Prop:=kH fun n=>(p >>= aE (caller E n) st)= .ok (v,x)
variable {β:Type} {r:β} {K:Kv β} {st:St}
theorem oe {q:Oq Out} (h:oj q K=some r): ∃v st' x,q=some (v,st',x)/\K v st' x=some r:=by
 obtain ⟨⟨v,st',x⟩,e,h⟩:=bL h;exact ⟨v,st',x,e,h⟩
theorem qw {id:Nat} {o:Obj} {v u:AV} {rd:Ln} {st':St} {x:Fx} (h:mC st id o v rd=some (u,st',x)):fK st id (some o)= .ok (.wrote id o)/\u=v/\x=⟨rd,.wrote id o⟩/\st'=x.did.app st:=by
 unfold mC at h;split at h
 .rename_i h1;simp only [aav,aag] at h;obtain ⟨rfl,rfl,rfl⟩:=h;have:id.blt st.ro=false:=eG.2 (aaq h1);exact ⟨by simp only [fK,this],rfl,rfl,rfl⟩
 .cases h
theorem mY {o:Obj} {f:Nat->AV} {v:AV} {st':St} {x:Fx} (h:xR st o f=some (v,st',x)):ec E st (.ok (.new o f)) v x/\st'=x.did.app st:=by
 simp only [xR,aav,aag] at h;obtain ⟨rfl,rfl,rfl⟩:=h;exact ⟨kH.always fun _=>rfl,rfl⟩
theorem K9 {o:Obj} {f:Nat->AV} (h:made st o f K=some r): ∃v x,ec E st (.ok (.new o f)) v x/\K v (x.did.app st) x=some r:=by
 obtain ⟨v,st',x,e,h⟩:=oe h;obtain ⟨a,rfl⟩:=mY (E:=E) e;exact ⟨v,x,a,h⟩
theorem tI (a:RN E O) {p:cY dI} {v:AV} {st':St} {x:Fx} (h:qU O p st=some (v,st',x)):ec E st p v x/\st'=x.did.app st:=by
 unfold qU at h;split at h
 .cases h;exact ⟨kH.always fun _=>rfl,rfl⟩
 .rename_i id f;split at h
  .rename_i o ho;split at h
   .rename_i v e;cases h;exact ⟨kH.always fun _=>by simp only [aA,aE,ho,e,fK];rfl,rfl⟩
   .rename_i v o' e;obtain ⟨h1,rfl,rfl,rfl⟩:=qw h;exact ⟨kH.always fun _=>by simp only [aA,aE,ho,e,h1];rfl,rfl⟩
   .cases h
  .cases h
 .rename_i id k f;split at h
  .rename_i o ho;split at h
   .rename_i e;split at h
    .rename_i v c;cases h;exact ⟨kH.always fun _=>by simp only [aA,aE,ho,e,c];rfl,rfl⟩
    .cases h
   .rename_i j e;split at h
    .rename_i h1;split at h
     .rename_i o' d;split at h
      .rename_i v c;cases h;exact ⟨kH.always fun _=>by simp only [aA,aE,ho,e,h1,d,c];rfl,rfl⟩
      .cases h
     .cases h
    .cases h
   .cases h
  .cases h
 .exact mY h
 .rename_i f args;unfold B1 at h;split at h
  .rename_i b;split at h
   .rename_i v e;cases h;refine ⟨(a.bare _ _ _ e).lift fun n hn=> ?_,rfl⟩;rw [a.full] at b;simp only [aA,aE,qX,b,hn];rfl
   .cases h
  .rename_i b;split at h
   .rename_i hl;split at h
    .rename_i v e;cases h;refine ⟨(a.look _ _ _ _ e).lift fun n hn=> ?_,rfl⟩;rw [a.full] at b;rw [a.isLook] at hl;simp only [aA,aE,qX,sJ,b,hl,hn];rfl
    .cases h
   .rename_i hl;split at h
    .rename_i p e;cases h;refine ⟨(a.wide _ _ _ _ e).lift fun n hn=> ?_,rfl⟩;rw [a.full] at b;rw [a.isLook] at hl;simp only [aA,aE,qX,sJ,b,hl,hn];rfl
    .cases h
 .rename_i k args;unfold MD at h;split at h
  .rename_i p e;cases h;refine ⟨(a.round _ _ _ _ e).lift fun n hn=> ?_,rfl⟩;simp only [aA,aE,hn];rfl
  .cases h
 .cases h
theorem H2 (a:RN E O) {p:cY dI} (h:cX O p st K=some r): ∃v x,ec E st p v x/\K v (x.did.app st) x=some r:=by
 obtain ⟨v,st',x,e,h⟩:=oe h;obtain ⟨b,rfl⟩:=tI a e;exact ⟨v,x,b,h⟩
theorem ec.of {p q:cY dI} {v:AV} {x:Fx} (e:p=q) (h:ec E st p v x):ec E st q v x:=e ▸ h
end
section
variable {β:Type} {r:β}
theorem uZ {i:Int} {n:Nat} {K:Nat->Oq β} (h:mc i n K=some r): ∃k,inside i n= .ok k/\K k=some r:=by
 unfold mc at h;split at h
 .rename_i k;obtain ⟨h1,h⟩:=ew h;exact ⟨k,by simp only [inside,h1],h⟩
 .cases h
theorem A4 {i:Int} {n:Nat} {K:Nat->Oq β} (h:eJ i n K=some r): ∃k,upto i n= .ok k/\K k=some r:=by
 unfold eJ at h;split at h
 .rename_i k;obtain ⟨h1,h⟩:=ew h;exact ⟨k,by simp only [upto,h1],h⟩
 .cases h
theorem M6 {lo:Oq Int} {m:Nat} {K:Nat->Oq β} (h:YZ lo m K=some r): ∃k,sw lo m= .ok k/\K k=some r:=by
 cases lo with
 | none=>exact ⟨0,rfl,h⟩
 | some l=>exact A4 h
theorem NU {hi:Oq Int} {m d:Nat} {K:Nat->Oq β} (h:YS hi m d K=some r): ∃k,lK hi m d= .ok k/\K k=some r:=by
 cases hi with
 | none=>exact ⟨d,rfl,h⟩
 | some l=>exact A4 h
end
def Fr.look (fr:Fr) (i:Nat):Oq AV:=match fr.strict with
 | true=>fr.t.get i
 | false=>some (fr.get i)
theorem uU {fr:Fr} {i:Nat} {v:AV} (h:fr.look i=some v):fr.get i=v:=by
 unfold Fr.look at h;split at h
 .unfold Fr.get;rw [h];rfl
 .exact abF h
theorem Mh {G:Nat->Oq LA} {fr:Fr} {i:Nat} {v:AV} (h:fr.look i=some v):ch G fr (.tmp i)= .ok v:=by
 unfold Fr.look at h;simp only [ch];split at h
 .rename_i e;rw [e];dsimp only;rw [h]
 .rename_i e;rw [e];dsimp only;rw [Option.some.inj h]
theorem E6 {fr:Fr} {d i:Nat} {v:AV} (hd:d < fr.n):(fr.put (some d) v).look i=if d=i then some v else fr.look i:=by
 have a:d.blt fr.n=true:=cS.2 hd;have e:fr.put (some d) v=⟨fr.n,fr.t.put d v,fr.strict⟩:=by simp only [Fr.put,a]
 rw [e];unfold Fr.look Fr.get;dsimp only;rw [Tr.la];by_cases h:d=i
 .rw [if_pos h,if_pos h];cases fr.strict <;> rfl
 .rw [if_neg h,if_neg h]
def Sub (N:Nat) (p:PF) (fr:Fr):Prop:=fr.n=N/\ ∀i v,PF.get p i=some v->fr.look i=some v
theorem PF.mu {i j:Nat} {v:AV} {l:PF}:PF.get ((i,v)::l) j=if i=j then some v else PF.get l j:=by
 simp only [PF.get];by_cases h:i=j
 .simp [h]
 .have:i.beq j=false:=by
   cases e:i.beq j
   .rfl
   .exact absurd (aan e) h
  simp [this,h]
section
variable {β:Type} {r:β} {N:Nat} {p:PF} {fr:Fr} {G:Nat->Oq LA} {T:TT} {E:Env} {O:tN} {st:St}
theorem bY {x:Operand} {K:AV->Oq β} (h:ev G p x K=some r) (hs:Sub N p fr): ∃v,ch G fr x= .ok v/\K v=some r:=by
 unfold ev at h;split at h
 .split at h
  .rename_i v e;exact ⟨v,Mh (hs.2 _ _ e),h⟩
  .cases h
 .split at h
  .rename_i v e;exact ⟨v,by simp only [ch,e],h⟩
  .cases h
 .split at h
  .rename_i cs e;exact ⟨_,by simp only [ch,e],h⟩
  .cases h
 .exact ⟨_,rfl,h⟩
theorem uI: ∀{l:List Operand} {K:LA->Oq β},Xh G p l K=some r->Sub N p fr-> ∃vs,nv G fr l= .ok vs/\K vs=some r
 | [],_,h,_=>⟨[],rfl,h⟩
 | x::l,K,h,hs=>by
  obtain ⟨v,e,h⟩:=bY h hs;obtain ⟨vs,a,h⟩:=uI h hs;exact ⟨v::vs,by simp only [nv,e,a,aA,aI],h⟩
theorem yT {x:Oq Operand} {K:Oq Int->Oq β} (h:XT G p x K=some r) (hs:Sub N p fr): ∃o a,ej G fr x= .ok o/\lP o= .ok a/\K a=some r:=by
 cases x with
 | none=>exact ⟨none,none,rfl,rfl,h⟩
 | some x=>
  obtain ⟨v,e,h⟩:=bY h hs;obtain ⟨k,n,rfl,h⟩:=oy h;exact ⟨some (.int k n),some n,by simp only [ej,e,aA,aI],rfl,h⟩
theorem tQ {ty:Nat->Oq Td}: ∀{l:List (Nat×Operand)} {K:List (Nat×LA)->Oq β},VV T G p ty l K=some r->Sub N p fr->
  ∃vs:List (Nat×AV),gL G fr l= .ok vs/\K (vs.map fun q=>(q.1,q.2.cells))=some r
 | [],_,h,_=>⟨[],rfl,h⟩
 | (i,x)::l,K,h,hs=>by
  unfold VV at h;split at h
  .cases h
  .obtain ⟨ti,_,h⟩:=cD h;obtain ⟨v,e,h⟩:=bY h hs;obtain ⟨h,_,_⟩:=rk h;obtain ⟨vs,a,h⟩:=tQ h hs;exact ⟨(i,v)::vs,by simp only [gL,e,a,aA,aI],h⟩
theorem oU {place:Nat->Oq (Nat×Nat)}: ∀{vs:List (Nat×AV)} {cells:LA} {K:LA->Oq β},Cj place cells (vs.map fun q=>(q.1,q.2.cells)) K=some r-> ∃cs,lF place cells vs= .ok cs/\K cs=some r
 | [],cells,_,h=>⟨cells,rfl,h⟩
 | (i,v)::vs,cells,K,h=>by
  simp only [aal,Cj] at h;split at h
  .cases h
  .rename_i off size e;obtain ⟨h1,h⟩:=ew h;obtain ⟨cs,a,h⟩:=oU h;exact ⟨cs,by simp only [lF,e,h1,a],h⟩
theorem wY: ∀{l:List (Nat×Td)} {K:List (Nat×Nat)->Oq β},I0 T l K=some r-> ∃ps,pj T l= .ok ps/\K ps=some r
 | [],_,h=>⟨[],rfl,h⟩
 | (o,t)::l,K,h=>by
  obtain ⟨i,e,h⟩:=cD h;obtain ⟨ps,a,h⟩:=wY h;exact ⟨_,by simp only [pj,e,a,aA,aI],h⟩
theorem vp: ∀{l:LA} {n:Nat} {v:AV},ER l n=some v->fy l n= .ok v
 | [],_,_,h=>by cases h
 | _:: _,0,_,h=>by cases h;rfl
 | _::l,n+1,_,h=>vp (l:=l) (n:=n) h
theorem jQ {i:Int} {n k:Nat} (h:oR i n=some k):inside i n= .ok k:=by
 unfold oR at h;split at h
 .split at h
  .rename_i h1;cases h;simp only [inside,h1]
  .cases h
 .cases h
theorem Hm {i:TI} {a:AV} {K:Kv β} (h:(ar i.size i.agg a st fun v rd=>K v st ⟨rd,.kept⟩)=some r): ∃v x,ec E st (mA i a) v x/\K v (x.did.app st) x=some r:=by
 obtain ⟨⟨v,rd⟩,e,h⟩:=bL h;unfold Fj at e;split at e
 .split at e
  .rename_i b;cases e;exact ⟨v,q0,kH.always fun _=>by simp only [mA,b,aA,aI,aE];rfl,h⟩
  .cases e
 .rename_i id off;split at e
  .rename_i t cs b;split at e
   .rename_i c;cases e;exact ⟨v,⟨[id],.kept⟩,kH.always fun _=>by simp only [mA,iV,b,c,aA,aI,aE,cellsOf,fK],h⟩
   .cases e
  .cases e
 .rename_i k n off;split at e
  .rename_i m d z cs b;split at e
   .rename_i hm;split at e
    .rename_i c;cases e;exact ⟨v,⟨[k],.kept⟩,kH.always fun _=>by simp only [mA,iV,b,c,hm,aA,aI,aE,fK],h⟩
    .cases e
   .cases e
  .cases e
 .cases e
theorem F7 (b:RN E O) {i:TI} {a v:AV} {K:Kv β} (c:iw v.cells=true) (h:bm O i.size a v v.cells st K=some r): ∃u x,ec E st (match a with | .gp k m off=>vb i k m off v | a=>vW i a v) u x/\K u (x.did.app st) x=some r:=by
 obtain ⟨u,st',x,e,h⟩:=oe h;unfold HC at e;split at e
 .rename_i id off;split at e
  .rename_i h1;split at e
   .rename_i t cs d;split at e
    .rename_i f;obtain ⟨h4,rfl,rfl,rfl⟩:=qw e;refine ⟨undef,_,kH.always fun _=> ?_,h⟩;simp only [vW,h1,c,aaW,aA,aE,d,nc,f,aI];rw [show dj cs off v.cells=SO cs off v.cells from rfl,h4];rfl
    .cases e
   .cases e
  .cases e
 .obtain ⟨h1,rfl⟩:=tI b e;exact ⟨u,x,h1,h⟩
 .cases e
theorem L8 {t e:Td} {i p:TI} {x:AV} {j:Int} {k:IntKind} {K:Kv β} (hi:ti T t= .ok i) (f:i.und= .slice e) (g:ti T e= .ok p) (h:(dB p.size x j st fun a rd=>K a st ⟨rd,.kept⟩)=some r):
  ∃v x',ec E st (match x with | .gs a z n=>lC T t a z n (.int k j) | x=>(do pure (.val (<- indexAddr T t x (.int k j))))) v x'/\K v (x'.did.app st) x'=some r:=by
 obtain ⟨⟨v,rd⟩,b,h⟩:=bL h;unfold LR at b;split at b
 .split at b
  .rename_i h1;split at b
   .rename_i n c;split at b
    .rename_i u d;cases b;refine ⟨_,q0,kH.always fun _=> ?_,h⟩;simp only [indexAddr,VM.asInt,aA,hi,f,jQ c,g,h1,vp d,aI,aE];rfl
    .cases b
   .cases b
  .cases b
 .split at b
  .rename_i h1;split at b
   .rename_i n c;cases b;refine ⟨_,q0,kH.always fun _=> ?_,h⟩;simp only [indexAddr,VM.asInt,aA,hi,f,jQ c,g,h1,aI,aE];rfl
   .cases b
  .cases b
 .rename_i a sz n;split at b
  .rename_i h1;split at b
   .rename_i m c;split at b
    .rename_i mm q s es l;split at b
     .rename_i d;split at b
      .rename_i o;split at b
       .rename_i u h4;cases b;refine ⟨_,⟨[a],.kept⟩,kH.always fun _=> ?_,h⟩;simp only [lC,VM.asInt,aA,hi,f,jQ c,g,h1,iV,aE,l,d,o,vp h4,aI,fK]
       .cases b
      .rename_i o;cases b;refine ⟨_,⟨[a],.kept⟩,kH.always fun _=> ?_,h⟩;simp only [lC,VM.asInt,aA,hi,f,jQ c,g,h1,iV,aE,l,d,o,aI,fK]
     .cases b
    .rename_i mm q s cs l;split at b
     .rename_i d;cases b;refine ⟨_,⟨[a],.kept⟩,kH.always fun _=> ?_,h⟩;simp only [lC,VM.asInt,aA,hi,f,jQ c,g,h1,iV,aE,l,d,aI,fK]
     .cases b
    .cases b
   .cases b
  .cases b
 .cases b
theorem B0 {off:Nat} {a:AV} {K:AV->Oq β} (h:cV off a K=some r):(∃cs,a= .ip cs/\K (.ip (cs.drop off))=some r)\/(∃id o,a= .mp id o/\K (.mp id (o+off))=some r)\/(∃id n o,a= .gp id n o/\K (.gp id n (o+off))=some r):=by
 obtain ⟨v,e,h⟩:=bL h;unfold Wh at e;split at e
 .cases e;exact .inl ⟨_,rfl,h⟩
 .cases e;exact .inr (.inl ⟨_,_,rfl,h⟩)
 .cases e;exact .inr (.inr ⟨_,_,_,rfl,h⟩)
 .cases e
theorem KQ {t e:Td} {i f:TI} {x:AV} {j:Int} {k:IntKind} {len:Nat} {K:Kv β} (hi:ti T t= .ok i) (b:i.und= .arr len e) (c:ti T e= .ok f) (h:(Xr f.size len x j fun a=>K a st q0)=some r):
  ∃v x',ec E st (match x with | .gs a z n=>lC T t a z n (.int k j) | x=>(do pure (.val (<- indexAddr T t x (.int k j))))) v x'/\K v (x'.did.app st) x'=some r:=by
 obtain ⟨n,d,h⟩:=uZ h;rcases B0 h with ⟨cs,rfl,h⟩ | ⟨id,o,rfl,h⟩ | ⟨id,m,o,rfl,h⟩
 .refine ⟨_,q0,kH.always fun _=> ?_,h⟩;simp only [indexAddr,VM.asInt,aA,hi,b,d,c,aI,aE];rfl
 .refine ⟨_,q0,kH.always fun _=> ?_,h⟩;simp only [indexAddr,VM.asInt,aA,hi,b,d,c,aI,aE];rfl
 .refine ⟨_,q0,kH.always fun _=> ?_,h⟩;simp only [indexAddr,VM.asInt,aA,hi,b,d,c,aI,aE];rfl
theorem pK {hi:Oq Int} {m d a:Nat} (h:tG hi m d=some a):lK hi m d= .ok a:=by
 unfold tG at h;split at h
 .split at h
  .split at h
   .rename_i h1;cases h;simp only [lK,upto,h1]
   .cases h
  .cases h
 .cases h;rfl
theorem zM {lo:Oq Int} {m a:Nat} (h:tG lo m 0=some a):sw lo m= .ok a:=by
 unfold tG at h;split at h
 .split at h
  .split at h
   .rename_i h1;cases h;simp only [sw,upto,h1]
   .cases h
  .cases h
 .cases h;rfl
theorem GG {t e:Td} {i s:TI} {x:AV} {lo hi mx:Oq Int} {g j l:Oq AV} {K:AV->Oq β} (n:ti T t= .ok i) (o:i.und= .slice e) (p:ti T e= .ok s)
  (hl:lP g= .ok lo) (q:lP j= .ok hi) (hm:lP l= .ok mx) (h:fw s.size x lo hi mx K=some r): ∃v,mS T t x g j l= .ok v/\K v=some r:=by
 obtain ⟨v,c,h⟩:=bL h;refine ⟨v, ?_,h⟩;clear h;unfold lL at c;split at c
 .split at c
  .rename_i m d;split at c
   .rename_i a h1;split at c
    .rename_i b f;cases c;simp only [mS,hl,q,hm,aA,n,o,p,pK d,pK h1,zM f,aI]
    .cases c
   .cases c
  .cases c
 .split at c
  .rename_i m d;split at c
   .rename_i a h1;split at c
    .rename_i b f;cases c;simp only [mS,hl,q,hm,aA,n,o,p,pK d,pK h1,zM f,aI]
    .cases c
   .cases c
  .cases c
 .split at c
  .rename_i h0;split at c
   .rename_i m d;split at c
    .rename_i a h1;split at c
     .rename_i b f;split at c
      .rename_i h4;cases c;simp only [mS,hl,q,hm,aA,n,o,p,h0,pK h1,zM f,pK d,h4,aI]
      .cases c
     .cases c
    .cases c
   .cases c
  .cases c
 .rename_i sz es pm;split at c
  .rename_i h0;split at c
   .rename_i a h1;split at c
    .rename_i b f;have key:(match a.beq es.length,pm with
      | true,.shut=>(pure (.sl sz (es.drop b) .shut):cY AV)
      | true,.own k=>match b.beq 0 with
       | true=>pure (.sl sz es (.own k))
       | false=>pure (.sl sz (es.drop b) .wide)
      | _,_=>pure (.sl sz ((es.take a).drop b) .wide))= .ok v:=by
      revert c;cases a.beq es.length <;> cases pm <;> cases b.beq 0 <;> intro c <;> cases c <;> rfl
     simp only [mS,hl,q,hm,aA,n,o,p,h0,pK h1,zM f];exact key
    .cases c
   .cases c
  .cases c
 .split at c
  .rename_i h0;split at c
   .rename_i m d;split at c
    .rename_i a h1;split at c
     .rename_i b f;cases c;have d:lK (some _) _ 0= .ok m:=pK d;simp only [lK] at d;simp only [mS,hl,q,hm,aA,n,o,p,h0,pK h1,zM f,d];rfl
     .cases c
    .cases c
   .cases c
  .cases c
 .cases c
theorem B7 {t:Td} {i:TI} {x y:AV} {K:Bool->Oq β} (hi:ti T t= .ok i) (h:NM i.und x y K=some r): ∃b,Hk T 20 t x y= .ok b/\K b=some r:=by
 obtain ⟨b,e,h⟩:=bL h;refine ⟨b, ?_,h⟩;clear h;unfold Wf at e;split at e <;> first | (cases e;done) | skip
 all_goals
  rename_i a;cases e;show (do let i <- ti T t;_)= _;rw [hi,aA];simp only [a]
theorem JI {t:Td} {i:TI} {x y:AV} {b:Bool} (hi:ti T t= .ok i) (e:Hk T 20 t x y= .ok b) (c:mn i.und=true):(∀k n,x≠ .int k n)/\(∀s,x≠ .str s):=by
 have e:(do let i <- ti T t;_)= _:=e;rw [hi,aA] at e;constructor
 .rintro k n rfl;cases a:i.und <;> simp [a,mn] at c e
 .rintro s rfl;cases a:i.und <;> simp [a,mn] at c e
theorem Qw {t:Td} {i:TI} {x y:AV} {b:Bool} (hi:ti T t= .ok i) (e:Hk T 20 t x y= .ok b) (a:mn i.und=true):VM.binOp T .eql t x y= .ok (.bool b):=by
 obtain ⟨h1,c⟩:=JI hi e a;cases x <;> first | (exact absurd rfl (h1 _ _)) | (exact absurd rfl (c _)) | (simp only [VM.binOp,e,aA,aI])
theorem Q5 {t:Td} {i:TI} {x y:AV} {b:Bool} (hi:ti T t= .ok i) (e:Hk T 20 t x y= .ok b) (a:mn i.und=true):VM.binOp T .neq t x y= .ok (.bool !b):=by
 obtain ⟨h1,c⟩:=JI hi e a;cases x <;> first | (exact absurd rfl (h1 _ _)) | (exact absurd rfl (c _)) | (simp only [VM.binOp,e,aA,aI])
theorem Mt {op:BinOp} {t:Td} {x y:AV} {K:AV->Oq β} (h:Xb T op t x y K=some r): ∃v,VM.binOp T op t x y= .ok v/\K v=some r:=by
 obtain ⟨i,hi,h⟩:=cD h;split at h
 .obtain ⟨b,e,h⟩:=B7 hi h;refine ⟨_, ?_,h⟩;rw [Qw hi e ‹_›]
 .obtain ⟨b,e,h⟩:=B7 hi h;refine ⟨_, ?_,h⟩;rw [Q5 hi e ‹_›]
 .split at h
  .obtain ⟨a,hx,h⟩:=mO h;obtain ⟨b,hy,h⟩:=mO h;obtain ⟨h1,h⟩:=ew h;exact ⟨_,by simp only [hx,hy,VM.binOp,Km,h1],h⟩
  .obtain ⟨a,hx,h⟩:=mX h;obtain ⟨b,hy,h⟩:=mX h;obtain ⟨h1,h⟩:=ew h;have h1:¬ b=0:=by simpa using h1
   exact ⟨_,by simp only [hx,hy,VM.binOp,Gz,if_true,if_neg h1],h⟩
  .obtain ⟨a,hx,h⟩:=mX h;obtain ⟨b,hy,h⟩:=mX h;obtain ⟨h1,h⟩:=ew h;have h1:¬ b=0:=by simpa using h1
   exact ⟨_,by simp only [hx,hy,VM.binOp,Gz,if_true,if_neg h1],h⟩
  .obtain ⟨a,hx,h⟩:=mX h;obtain ⟨c,b,hy,h⟩:=oy h;obtain ⟨h1,h⟩:=ew h;have h1:¬ b < 0:=by simpa using h1
   exact ⟨_,by simp only [hx,hy,VM.binOp,if_neg h1],h⟩
  .obtain ⟨a,hx,h⟩:=mX h;obtain ⟨c,b,hy,h⟩:=oy h;obtain ⟨h1,h⟩:=ew h;have h1:¬ b < 0:=by simpa using h1
   exact ⟨_,by simp only [hx,hy,VM.binOp,if_neg h1],h⟩
  .obtain ⟨v,e,h⟩:=bL h;exact ⟨v,tT e,h⟩
end
section
variable {β:Type} {r:β} {N:Nat} {p:PF} {fr:Fr} {E:Env} {st:St}
theorem KD {i:TI} {e:Td} {s:AV} {new b:LA} {K:Kv β} (hf:fits new= .ok b) (f:(b.all fun v=>v.cells.length.beq i.size)=true) (h:cq i.size i.bytes e s b st K=some r):
  ∃v x,ec E st (iZ i e s new) v x/\K v (x.did.app st) x=some r:=by
 obtain ⟨u,st',x,a,h⟩:=oe h;cases new with
 | nil=>
  cases hf;simp only [vR] at a;split at a
  .cases a;exact ⟨_,q0,kH.always fun _=>by simp only [iZ,aI,aA,aE];rfl,h⟩
  .cases a;exact ⟨_,q0,kH.always fun _=>by simp only [iZ,aI,aA,aE];rfl,h⟩
  .cases a;exact ⟨_,q0,kH.always fun _=>by simp only [iZ,aI,aA,aE];rfl,h⟩
  .cases a
 | cons v l=>
  have c:=hf;simp only [fits,ah,au] at c;obtain ⟨v',_,g,_,rfl⟩:=c;simp only [vR] at a;split at a
  .split at a
   .rename_i h1;have h1:fo (v'::g).length i=true:=h1;obtain ⟨d,rfl⟩:=mY (E:=E) a;refine ⟨u,x,ec.of ?_ d,h⟩;simp only [iZ,hf,aA,f,h1,aI]
   .cases a
  .rename_i y es pm;split at a
   .rename_i h1;have h1:(fo (es.length+(v'::g).length) i&&y.beq i.size)=true:=h1;cases pm with
    | shut=>
     obtain ⟨d,rfl⟩:=mY (E:=E) a;refine ⟨u,x,ec.of ?_ d,h⟩;simp only [iZ,hf,aA,f,h1,aI]
    | own k=>
     dsimp only at a;split at a
     .rename_i n p j;split at a
      .rename_i m;obtain ⟨o,rfl,rfl,rfl⟩:=qw a;refine ⟨_,⟨[k],.wrote k _⟩,kH.always fun _=> ?_,h⟩;simp only [iZ,hf,aA,f,h1,aI,aE,j,m,o]
      .cases a
     .cases a
    | wide=>cases a
   .cases a
  .split at a
   .rename_i h1;have h1:fo (v'::g).length i=true:=h1;obtain ⟨d,rfl⟩:=mY (E:=E) a;refine ⟨u,x,ec.of ?_ d,h⟩;simp only [iZ,hf,aA,f,h1,aI]
   .cases a
  .cases a
def lT (S:Sx) (fr:Fr) (o:Op):cY dI:=eY S.T S.prim S.imm S.G fr o
theorem JC {S:Sx} (hO:RN E S.O) {o:Op} {K:Kv β} (h:Ru S o p st K=some r) (hs:Sub N p fr): ∃v x,ec E st (lT S fr o) v x/\K v (x.did.app st) x=some r:=by
 have val: ∀{w:AV},lT S fr o= .ok (.val w)->K w st q0=some r-> ∃v x,ec E st (lT S fr o) v x/\K v (x.did.app st) x=some r:=fun {w} e h=>⟨w,q0,ec.of e.symm (kH.always fun _=>rfl),h⟩;have A: ∀{q:cY dI},lT S fr o=q->cX S.O q st K=some r-> ∃v x,ec E st (lT S fr o) v x/\K v (x.did.app st) x=some r:=fun {q} e h=>by
  obtain ⟨v,x,D,h⟩:=H2 hO h;exact ⟨v,x,ec.of e.symm D,h⟩
 have H: ∀{ob:Obj} {f:Nat->AV},lT S fr o= .ok (.new ob f)->made st ob f K=some r-> ∃v x,ec E st (lT S fr o) v x/\K v (x.did.app st) x=some r:=fun {ob f} e h=>by
  obtain ⟨v,x,D,h⟩:=K9 (E:=E) h;exact ⟨v,x,ec.of e.symm D,h⟩
 unfold Ru at h;split at h
 .obtain ⟨v,e,h⟩:=bY h hs;exact val (by simp only [lT,eY,e,aA,aI]) h
 .obtain ⟨v,e,h⟩:=bY h hs;exact val (by simp only [lT,eY,e,aA,aI]) h
 .obtain ⟨c,e,h⟩:=bY h hs;obtain ⟨b,rfl,h⟩:=zD h;cases b with
  | true=>
   obtain ⟨v,F,h⟩:=bY h hs;exact val (by simp only [lT,eY,e,F,aA,aI,VM.asBool]) h
  | false=>
   obtain ⟨v,F,h⟩:=bY h hs;exact val (by simp only [lT,eY,e,F,aA,aI,VM.asBool]) h
 .obtain ⟨i,e,h⟩:=cD h;exact H (by simp only [lT,eY,e,aA,aI]) h
 ·-- box
  obtain ⟨i,e,h⟩:=cD h;obtain ⟨v,F,h⟩:=bY h hs;obtain ⟨h,_,_⟩:=rk h;obtain ⟨h1,h⟩:=ew h;obtain ⟨B,h⟩:=mN h;split at h
  .rename_i hi;obtain ⟨cs,R,h⟩:=vL h;exact val (by simp only [lT,eY,e,F,aA,aI,NL,h1,B,aaW,hi,R]) h
  .rename_i hi;exact H (by simp only [lT,eY,e,F,aA,NL,h1,B,aaW,hi]) h
 ·-- build
  obtain ⟨i,e,h⟩:=cD h;split at h
  .rename_i fs z;obtain ⟨vs,h1,h⟩:=tQ h hs;obtain ⟨sz,B,h⟩:=wY h;obtain ⟨cs,R,h⟩:=oU h;exact val (by simp only [lT,eY,build,e,z,h1,B,R,aA,aI]) h
  .rename_i V z;obtain ⟨vs,h1,h⟩:=tQ h hs;obtain ⟨W,B,h⟩:=cD h;obtain ⟨cs,R,h⟩:=oU h;exact val (by simp only [lT,eY,build,e,z,h1,B,R,aA,aI]) h
  .cases h
 ·-- buildSlice
  obtain ⟨i,e,h⟩:=cD h;split at h
  .rename_i V z;obtain ⟨W,B,h⟩:=cD h;obtain ⟨vs,h1,h⟩:=tQ h hs;obtain ⟨h4,h⟩:=ew h;obtain ⟨cs,R,h⟩:=oU h;obtain ⟨h5,h⟩:=mN h;split at h
   .rename_i gs h6;obtain ⟨a8,h7,h⟩:=tn h;exact val (by simp only [lT,eY,buildSlice,e,z,h1,B,R,h4,h5,h6,h7,aA,aI]) h
   .cases h
  .cases h
 ·-- makeSlice
  obtain ⟨l,e,h⟩:=bY h hs;obtain ⟨c,F,h⟩:=bY h hs;exact A (by simp only [lT,eY,e,F,aA]) h
 ·-- load
  obtain ⟨i,e,h⟩:=cD h;obtain ⟨a,F,h⟩:=bY h hs;obtain ⟨v,x,D,h⟩:=Hm (E:=E) h;exact ⟨v,x,ec.of (by simp only [lT,eY,e,F,aA]) D,h⟩
 ·-- store
  obtain ⟨i,e,h⟩:=cD h;obtain ⟨a,d,h⟩:=bY h hs;obtain ⟨v,y,h⟩:=bY h hs;obtain ⟨h,_,_⟩:=rk h;obtain ⟨B,h⟩:=mN h;obtain ⟨u,x,D,h⟩:=F7 hO B h;refine ⟨u,x,ec.of ?_ D,h⟩;simp only [lT,eY,e,d,y,aA];cases a <;> rfl
 ·-- nilCheck
  obtain ⟨a,d,h⟩:=bY h hs;obtain ⟨hn,h⟩:=ew h;refine val ?_ h;unfold notNil at hn;split at hn
  .simp only [lT,eY,d,aA,aI]
  .simp only [lT,eY,d,aA,aI]
  .simp only [lT,eY,d,aA,aI]
  .simp only [lT,eY,d,aA,aI]
  .cases hn
 ·-- binOp
  obtain ⟨a,d,h⟩:=bY h hs;obtain ⟨b,y,h⟩:=bY h hs;split at h
  .rename_i U;obtain ⟨v,I,h⟩:=bL h;have I:Rb _ a=some v:=I;exact val (by simp only [lT,eY,zB,U,d,y,I,aA,aI]) h
  .rename_i U;obtain ⟨v,I,h⟩:=Mt h;exact val (by simp only [lT,eY,zB,U,d,y,I,aA,aI]) h
 ·-- unOp
  obtain ⟨a,d,h⟩:=bY h hs;obtain ⟨v,y,h⟩:=bL h;exact val (by simp only [lT,eY,d,tT y,aA,aI]) h
 ·-- convert
  obtain ⟨a,d,h⟩:=bY h hs;exact A (by simp only [lT,eY,d,aA]) h
 ·-- makeInterface
  obtain ⟨i,e,h⟩:=cD h;split at h
  .cases h
  .cases h
  .rename_i h1 B;obtain ⟨a,d,h⟩:=bY h hs;refine val ?_ h;simp only [lT,eY,e,d,aA,aI]
 ·-- makeFunc
  obtain ⟨a,d,h⟩:=uI h hs;obtain ⟨c,y,h⟩:=uI h hs;exact val (by simp only [lT,eY,d,y,aA,aI]) h
 ·-- makeMap
  exact H (by simp only [lT,eY]) h
 ·-- slice
  rename_i t x lo hi mx;split at h
  .cases h
  .obtain ⟨i,e,h⟩:=cD h;obtain ⟨x',d,h⟩:=bY h hs;obtain ⟨bb,av,y,X,h⟩:=yT h hs;obtain ⟨bt,a1,I,Y,h⟩:=yT h hs;obtain ⟨b4,a6,e4,Z,h⟩:=yT h hs;split at h
   .rename_i z;obtain ⟨s,rfl,h⟩:=mO h;split at h
    .obtain ⟨a,h1,h⟩:=NU h;obtain ⟨b,B,h⟩:=M6 h;refine val ?_ h;simp only [lT,eY,d,y,I,e4,aA,mS,X,Y,Z,e,z,h1,B,aI]
    .cases h
   .rename_i V z;obtain ⟨W,P,h⟩:=cD h;obtain ⟨v,h1,h⟩:=GG e z P X Y Z h;refine val ?_ h;simp only [lT,eY,d,y,I,e4,aA,h1,aI]
   .cases h
 ·-- fieldAddr
  obtain ⟨i,e,h⟩:=cD h;split at h
  .rename_i fs z;split at h
   .rename_i off ft hf;obtain ⟨fi,d,h⟩:=cD h;split at h
    .cases h
    .rename_i hz;obtain ⟨a,y,h⟩:=bY h hs;rcases B0 h with ⟨cs,rfl,h⟩ | ⟨id,o,rfl,h⟩ | ⟨id,m,o,rfl,h⟩
     .exact val (by simp only [lT,eY,fieldAddr,e,y,z,hf,d,hz,aA,aI]) h
     .exact val (by simp only [lT,eY,fieldAddr,e,y,z,hf,d,hz,aA,aI]) h
     .exact val (by simp only [lT,eY,fieldAddr,e,y,z,hf,d,hz,aA,aI]) h
   .cases h
  .cases h
 ·-- field
  obtain ⟨a,d,h⟩:=bY h hs;obtain ⟨v,y,h⟩:=bL h;exact val (by simp only [lT,eY,d,tT y,aA,aI]) h
 ·-- indexAddr
  obtain ⟨i,e,h⟩:=cD h;obtain ⟨x,d,h⟩:=bY h hs;obtain ⟨j,y,h⟩:=bY h hs;obtain ⟨k,n,rfl,h⟩:=oy h;split at h
  .rename_i V z;obtain ⟨W,P,h⟩:=cD h;obtain ⟨v,x',D,h⟩:=L8 (E:=E) (k:=k) e z P h;refine ⟨v,x',ec.of ?_ D,h⟩;simp only [lT,eY,d,y,aA];cases x <;> rfl
  .rename_i len V z;obtain ⟨W,P,h⟩:=cD h;obtain ⟨v,x',D,h⟩:=KQ (E:=E) (k:=k) e z P h;refine ⟨v,x',ec.of ?_ D,h⟩;simp only [lT,eY,d,y,aA];cases x <;> rfl
  .cases h
 ·-- index
  obtain ⟨i,e,h⟩:=cD h;obtain ⟨x,d,h⟩:=bY h hs;obtain ⟨j,y,h⟩:=bY h hs;split at h
  .rename_i z;obtain ⟨s,rfl,h⟩:=mO h;obtain ⟨k,n,rfl,h⟩:=oy h;obtain ⟨m,h1,h⟩:=uZ h;split at h
   .rename_i b B;exact val (by simp only [lT,eY,d,y,aA,zf,VM.asInt,e,z,h1,B,aI]) h
   .cases h
  .obtain ⟨v,I,h⟩:=bL h;exact val (by simp only [lT,eY,d,y,tT I,aA,aI]) h
 ·-- lookup
  obtain ⟨x,d,h⟩:=bY h hs;obtain ⟨j,y,h⟩:=bY h hs;exact A (by simp only [lT,eY,d,y,aA]) h
 .obtain ⟨x,d,h⟩:=bY h hs;obtain ⟨j,y,h⟩:=bY h hs;obtain ⟨v,I,h⟩:=bY h hs;exact A (by simp only [lT,eY,d,y,I,aA]) h
 .obtain ⟨x,d,h⟩:=bY h hs;obtain ⟨j,y,h⟩:=bY h hs;obtain ⟨v,I,h⟩:=bY h hs;exact A (by simp only [lT,eY,d,y,I,aA]) h
 ·-- range
  obtain ⟨x,d,h⟩:=bY h hs;obtain ⟨i,e,h⟩:=cD h;split at h
  .rename_i z;obtain ⟨s,hx,h'⟩:=mO h;exact H (by simp only [lT,eY,e,d,aA,z,hx,aI]) h'
  .cases h
 ·-- next
  obtain ⟨x,d,h⟩:=bY h hs;exact A (by simp only [lT,eY,d,aA]) h
 ·-- extract
  obtain ⟨x,d,h⟩:=bY h hs;obtain ⟨vs,rfl,h⟩:=Nu h;obtain ⟨v,y,h⟩:=KT h;exact val (by simp only [lT,eY,d,aA,FO y,aI]) h
 ·-- call
  rename_i c;obtain ⟨args,d,h⟩:=uI h hs;split at h
  .rename_i b U;have y:lT S fr (.call c)=fO S.T S.imm b c.argTypes.toList args:=by simp only [lT,eY,d,aA,U]
   split at h
   .rename_i x t ts x' ea L;obtain ⟨i,e,h⟩:=cD h;split at h
    .rename_i z;obtain ⟨s,rfl,h⟩:=mO h;exact val (by simp only [y,L,fO,BU,e,aA,z,aI]) h
    .rename_i V z;obtain ⟨n,Q,h⟩:=bL h;refine val ?_ h;unfold XI at Q;split at Q
     .cases Q;simp only [y,L,fO,BU,e,aA,z,aI];rfl
     .cases Q;simp only [y,L,fO,BU,e,aA,z,aI]
     .cases Q;simp only [y,L,fO,BU,e,aA,z,aI]
     .cases Q;simp only [y,L,fO,BU,e,aA,z,aI]
     .cases Q;simp only [y,L,fO,BU,e,aA,z,aI];rfl
     .cases Q
    .exact A (by simp only [y,L,fO]) h
   .rename_i t xt s x L;obtain ⟨i,e,h⟩:=cD h;obtain ⟨xi,F,h⟩:=cD h;split at h
    .rename_i V z hn;obtain ⟨W,P,h⟩:=cD h;unfold nJ at h;split at h
     .rename_i new J;split at h
      .rename_i G;exact A (by simp only [y,L,fO,e,F,aA,z,hn,P,J,G]) h
      split at h
      .rename_i G _ C;exact A (by simp only [y,L,fO,e,F,aA,z,hn,P,J,G,C]) h
      split at h
      .rename_i G _ C _ M;exact A (by simp only [y,L,fO,e,F,aA,z,hn,P,J,G,C,M]) h
      .rename_i G _ C _ M;obtain ⟨a7,h1,h⟩:=tn h;obtain ⟨B,h⟩:=ew h;obtain ⟨v,x',D,h⟩:=KD (E:=E) h1 B h;refine ⟨v,x',ec.of ?_ D,h⟩;simp only [y,L,fO,e,F,aA,z,hn,P,J,G,C,M]
     .cases h
    .cases h
   .exact A y h
  .rename_i f U;obtain ⟨g,y,h⟩:=bY h hs;obtain ⟨v,st',x,Q,h⟩:=oe h;obtain ⟨D,rfl⟩:=tI hO Q;refine ⟨v,x,ec.of ?_ D,h⟩;simp only [lT,eY,d,y,aA,U,J6,aI];cases g <;> first | rfl | (rename_i f _ _;cases f <;> rfl)
  .cases h
 .cases h
end
section frame
variable {X:Cx}
theorem B4 {fr:Fr} {d:Oq Nat} {v:AV} {i:Nat} (h:d≠some i):(fr.put d v).look i=fr.look i:=by
 cases d with
 | none=>rfl
 | some d=>
  by_cases hd:d < fr.n
  .rw [E6 hd,if_neg fun e=>h (by rw [e])]
  .have a:d.blt fr.n=false:=eG.2 (by omega);have e:fr.put (some d) v=fr:=by simp only [Fr.put,a]
   rw [e]
theorem wk {n:Nat}: ∀{l:Ln},uW n l=true↔n∈l
 | []=>by simp [uW]
 | m::l=>by simp [uW,wk (l:=l)]
theorem kX {all:List Oper} {draw:Bool}: ∀{l:List Oper} {j:Nat} {seen:List (Nat×Fx)} {fr fr':Fr} {st st':St},dO X all draw j seen l fr st= .ok (fr',st')->
  fr'.n=fr.n/\ ∀i,i∉cN l->fr'.look i=fr.look i
 | [],_,_,_,_,_,_,h=>by simp only [dO,aac,aag] at h;obtain ⟨rfl,rfl⟩:=h;exact ⟨rfl,fun _ _=>rfl⟩
 | o::l,j,seen,fr,fr',st,st',h=>by
  simp only [dO,ah] at h;obtain ⟨⟨v,x⟩,_,h⟩:=h;have key:fr'.n=(fr.put o.dst v).n/\ ∀i,i∉cN l->fr'.look i=(fr.put o.dst v).look i:=by
   dsimp only at h;split at h
   .exact kX h
   .split at h
    .exact kX h
    .cases h
  refine ⟨key.1.trans (Fr.NX _ _ _),fun i hi=> ?_⟩;have h1:i∉cN l/\o.dst≠some i:=by
   cases hd:o.dst with
   | none=>simp [cN,hd] at hi;exact ⟨hi,by simp⟩
   | some d=>
    simp [cN,hd] at hi;exact ⟨hi.2,fun e=>hi.1 (by cases e;rfl)⟩
  rw [key.2 i h1.1,B4 h1.2]
theorem jO {e:Nat->Oq Nat} {all:List Oper}: ∀{l:List Oper} {j:Nat} {seen:List (Nat×Fx)} {fr fr':Fr} {st st':St},db X e all j seen l fr st= .ok (fr',st')->
  fr'.n=fr.n/\ ∀i,i∉cN l->fr'.look i=fr.look i
 | [],_,_,_,_,_,_,h=>by simp only [db,aac,aag] at h;obtain ⟨rfl,rfl⟩:=h;exact ⟨rfl,fun _ _=>rfl⟩
 | o::l,j,seen,fr,fr',st,st',h=>by
  simp only [db,ah] at h;obtain ⟨⟨v,x⟩,_,h⟩:=h;have key:fr'.n=(fr.put o.dst v).n/\ ∀i,i∉cN l->fr'.look i=(fr.put o.dst v).look i:=by
   dsimp only at h;split at h
   .exact jO h
   .split at h
    .exact jO h
    .cases h
  refine ⟨key.1.trans (Fr.NX _ _ _),fun i hi=> ?_⟩;have h1:i∉cN l/\o.dst≠some i:=by
   cases hd:o.dst with
   | none=>simp [cN,hd] at hi;exact ⟨hi,by simp⟩
   | some d=>
    simp [cN,hd] at hi;exact ⟨hi.2,fun e=>hi.1 (by cases e;rfl)⟩
  rw [key.2 i h1.1,B4 h1.2]
theorem Aw {body:Fr->St->cY (Ex×Fr×St)} {W:Ln} (c: ∀fr st ex fr' st',body fr st= .ok (ex,fr',st')->fr'.n=fr.n/\ ∀i,i∉W->fr'.look i=fr.look i):
  ∀(n:Nat) {fr fr':Fr} {st st':St} {ex:Ex},iter body n fr st= .ok (ex,fr',st')->fr'.n=fr.n/\ ∀i,i∉W->fr'.look i=fr.look i
 | 0,_,_,_,_,_,h=>by simp [iter] at h
 | n+1,fr,fr',st,st',ex,h=>by
  simp only [iter,ah] at h;obtain ⟨⟨b,e,st1⟩,h1,a⟩:=h;have k1:=c _ _ _ _ _ h1;cases b with
  | normal=>
   have d:=Aw c n a;exact ⟨d.1.trans k1.1,fun i hi=>(d.2 i hi).trans (k1.2 i hi)⟩
  | exit id=>
   simp only [au,aag] at a;obtain ⟨_,rfl,_⟩:=a;exact k1
  | ret=>
   simp only [au,aag] at a;obtain ⟨_,rfl,_⟩:=a;exact k1
theorem vd {n:Nat} {x:Operand} {ps:Array Tmp} {y c:Code} {fr fr':Fr} {st st':St} {ex:Ex} (h:exec X n (.rangeFunc x ps y c) fr st= .ok (ex,fr',st')):fr'=fr:=by
 simp only [exec] at h;split at h
 .cases h
 .simp only [ah] at h;obtain ⟨a,h1,h⟩:=h;split at h
  .simp only [ah] at h;obtain ⟨q,b,o,d,h4⟩:=h;split at h4
   .split at h4
    .simp only [au,aag] at h4;exact h4.2.1.symm
    .cases h4
   .cases h4
  .cases h
theorem mQ {all:List Oper} {draw:Bool}: ∀{l:List Oper} {j:Nat} {seen:List (Nat×Fx)} {fr fr':Fr} {st st':St},dO X all draw j seen l fr st= .ok (fr',st')->fr'.strict=fr.strict
 | [],_,_,_,_,_,_,h=>by simp only [dO,aac,aag] at h;rw [h.1]
 | o::l,j,seen,fr,fr',st,st',h=>by
  simp only [dO,ah] at h;obtain ⟨⟨v,x⟩,_,h⟩:=h;have key:fr'.strict=(fr.put o.dst v).strict:=by
   dsimp only at h;split at h
   .exact mQ h
   .split at h
    .exact mQ h
    .cases h
  exact key.trans (iH _ _ _)
theorem lQ {e:Nat->Oq Nat} {all:List Oper}: ∀{l:List Oper} {j:Nat} {seen:List (Nat×Fx)} {fr fr':Fr} {st st':St},db X e all j seen l fr st= .ok (fr',st')->fr'.strict=fr.strict
 | [],_,_,_,_,_,_,h=>by simp only [db,aac,aag] at h;rw [h.1]
 | o::l,j,seen,fr,fr',st,st',h=>by
  simp only [db,ah] at h;obtain ⟨⟨v,x⟩,_,h⟩:=h;have key:fr'.strict=(fr.put o.dst v).strict:=by
   dsimp only at h;split at h
   .exact lQ h
   .split at h
    .exact lQ h
    .cases h
  exact key.trans (iH _ _ _)
theorem wV {body:Fr->St->cY (Ex×Fr×St)} (c: ∀fr st ex fr' st',body fr st= .ok (ex,fr',st')->fr'.strict=fr.strict): ∀(n:Nat) {fr fr':Fr} {st st':St} {ex:Ex},iter body n fr st= .ok (ex,fr',st')->fr'.strict=fr.strict
 | 0,_,_,_,_,_,h=>by simp [iter] at h
 | n+1,fr,fr',st,st',ex,h=>by
  simp only [iter,ah] at h;obtain ⟨⟨b,d,st1⟩,h1,a⟩:=h;have k1:=c _ _ _ _ _ h1;cases b with
  | normal=>exact (wV c n a).trans k1
  | exit id=>
   simp only [au,aag] at a;rw [<- a.2.1];exact k1
  | ret=>
   simp only [au,aag] at a;rw [<- a.2.1];exact k1
theorem gh {n:Nat}: ∀(c:Code) {fr fr':Fr} {st st':St} {ex:Ex},exec X n c fr st= .ok (ex,fr',st')->fr'.strict=fr.strict
 | .skip,_,_,_,_,_,h | .label _,_,_,_,_,_,h | .exit _,_,_,_,_,_,h | .ret,_,_,_,_,_,h=>by
  simp only [exec,aac,aag] at h;rw [h.2.1]
 | .goto _,_,_,_,_,_,h | .refuse _,_,_,_,_,_,h=>by simp [exec] at h
 | .rangeFunc ..,_,_,_,_,_,h=>by rw [vd h]
 | .scope c,_,_,_,_,_,h=>gh c h
 | .region _ _ _,_,_,_,_,_,h=>by
  simp only [exec] at h;split at h <;> simp only [ah,au] at h <;> obtain ⟨⟨f,st1⟩,h1,d⟩:=h <;> simp only [aag] at d <;> obtain ⟨_,rfl,_⟩:=d
  .exact mQ h1
  .exact lQ h1
 | .seq a b,_,_,_,_,_,h=>by
  simp only [exec,ah] at h;obtain ⟨⟨e,f,st1⟩,h1,d⟩:=h;have k1:=gh a h1;cases e with
  | normal=>exact (gh b d).trans k1
  | exit id=>simp only [au,aag] at d;rw [<- d.2.1];exact k1
  | ret=>simp only [au,aag] at d;rw [<- d.2.1];exact k1
 | .cond c a b,_,_,_,_,_,h=>by
  simp only [exec,ah] at h;obtain ⟨j,_,v,_,g⟩:=h;cases v
  .exact gh b g
  .exact gh a g
 | .block id c,_,_,_,_,_,h=>by
  simp only [exec,ah] at h;obtain ⟨⟨e,f,st1⟩,h1,d⟩:=h;have k1:=gh c h1;cases e with
  | normal=>simp only [au,aag] at d;rw [<- d.2.1];exact k1
  | ret=>simp only [au,aag] at d;rw [<- d.2.1];exact k1
  | exit i=>
   dsimp only at d;split at d <;> (simp only [au,aag] at d;rw [<- d.2.1];exact k1)
 | .loop c,_,_,_,_,_,h=>by
  simp only [exec] at h;exact wV (fun _ _ _ _ _ h=>gh c h) n h
theorem fQ {n:Nat}: ∀(c:Code) {fr fr':Fr} {st st':St} {ex:Ex},exec X n c fr st= .ok (ex,fr',st')->fr'.n=fr.n/\ ∀i,i∉writes c->fr'.look i=fr.look i
 | .skip,_,_,_,_,_,h | .label _,_,_,_,_,_,h | .exit _,_,_,_,_,_,h | .ret,_,_,_,_,_,h=>by
  simp only [exec,aac,aag] at h;obtain ⟨_,rfl,_⟩:=h;exact ⟨rfl,fun _ _=>rfl⟩
 | .goto _,_,_,_,_,_,h | .refuse _,_,_,_,_,_,h=>by simp [exec] at h
 | .rangeFunc ..,_,_,_,_,_,h=>by
  obtain rfl:=vd h;exact ⟨rfl,fun _ _=>rfl⟩
 | .scope c,_,_,_,_,_,h=>fQ c h
 | .region _ _ _,_,_,_,_,_,h=>by
  simp only [exec] at h;split at h
  .simp only [ah,au] at h;obtain ⟨⟨e,st1⟩,h1,d⟩:=h;simp only [aag] at d;obtain ⟨_,rfl,_⟩:=d;exact kX h1
  .simp only [ah,au] at h;obtain ⟨⟨e,st1⟩,h1,d⟩:=h;simp only [aag] at d;obtain ⟨_,rfl,_⟩:=d;exact jO h1
 | .seq a b,_,_,_,_,_,h=>by
  simp only [exec,ah] at h;obtain ⟨⟨f,e,st1⟩,h1,d⟩:=h;have k1:=fQ a h1;cases f with
  | normal=>
   have g:=fQ b d;exact ⟨g.1.trans k1.1,fun i hi=>by
    simp only [writes,aaA,not_or] at hi;exact (g.2 i hi.2).trans (k1.2 i hi.1)⟩
  | exit id=>
   simp only [au,aag] at d;obtain ⟨_,rfl,_⟩:=d;exact ⟨k1.1,fun i hi=>k1.2 i fun hm=>hi (aaA.2 (.inl hm))⟩
  | ret=>
   simp only [au,aag] at d;obtain ⟨_,rfl,_⟩:=d;exact ⟨k1.1,fun i hi=>k1.2 i fun hm=>hi (aaA.2 (.inl hm))⟩
 | .cond c a b,_,_,_,_,_,h=>by
  simp only [exec,ah] at h;obtain ⟨l,_,v,_,j⟩:=h;cases v
  .have k:=fQ b j;exact ⟨k.1,fun i hi=>k.2 i fun hm=>hi (aaA.2 (.inr hm))⟩
  .have k:=fQ a j;exact ⟨k.1,fun i hi=>k.2 i fun hm=>hi (aaA.2 (.inl hm))⟩
 | .block id c,_,_,_,_,_,h=>by
  simp only [exec,ah] at h;obtain ⟨⟨f,e,st1⟩,h1,d⟩:=h;have k1:=fQ c h1;cases f with
  | normal=>simp only [au,aag] at d;obtain ⟨_,rfl,_⟩:=d;exact k1
  | ret=>simp only [au,aag] at d;obtain ⟨_,rfl,_⟩:=d;exact k1
  | exit i=>
   dsimp only at d;split at d <;> (simp only [au,aag] at d;obtain ⟨_,rfl,_⟩:=d;exact k1)
 | .loop c,_,_,_,_,_,h=>by
  simp only [exec] at h;exact Aw (fun _ _ _ _ _ h=>fQ c h) n h
end frame
section
variable {β:Type} {r:β} {N:Nat} {E:Env}
theorem Sub.put {p:PF} {fr:Fr} {d:Nat} {v:AV} (hs:Sub N p fr) (hd:d < N):Sub N ((d,v)::p) (fr.put (some d) v):=by
 refine ⟨(Fr.NX _ _ _).trans hs.1,fun i u a=> ?_⟩;rw [PF.mu] at a;rw [E6 (by rw [hs.1];exact hd)];split at a
 .rename_i e;rw [if_pos e];cases a;rfl
 .rename_i e;rw [if_neg e];exact hs.2 i u a
theorem Sub.MT {p:PF} {fr:Fr} {d:Nat} {v:AV} (hs:Sub N p fr) (hd:fr.look d=some v):Sub N ((d,v)::p) fr:=by
 refine ⟨hs.1,fun i u a=> ?_⟩;rw [PF.mu] at a;split at a
 .rename_i e;cases a;rw [<- e];exact hd
 .exact hs.2 i u a
theorem oa {d:Oq Tmp} {v:AV} {p:PF} {fr:Fr} {K:PF->Oq β} (h:zn N d v p K=some r) (hs:Sub N p fr): ∃a,Sub N a (fr.put d v)/\K a=some r:=by
 cases d with
 | none=>exact ⟨p,hs,h⟩
 | some d=>
  simp only [zn] at h;split at h
  .rename_i b;exact ⟨_,hs.put (cS.1 b),h⟩
  .cases h
theorem xw {all:List Oper} {p:PF} {fr:Fr} {g:Oq (Nat×Bool)} {yes no:PF->Oq β} (h:EN all p g yes no=some r) (hs:Sub N p fr):
  (wanted all fr g=true/\ ∃a,Sub N a fr/\yes a=some r)\/(wanted all fr g=false/\ ∃a,Sub N a fr/\no a=some r):=by
 unfold EN at h;split at h
 .exact .inl ⟨rfl,p,hs,h⟩
 .rename_i j want;split at h
  .rename_i d hd;split at h
   .rename_i v i;have c:=hs.2 _ _ i;have f:=uU c;split at h
    .rename_i b;have e:wanted all fr (some (j,want))=(b==want):=by simp only [wanted,hd,f]
     cases want <;> cases b
     .exact .inl ⟨by rw [e];rfl,_,hs.MT c,h⟩
     .exact .inr ⟨by rw [e];rfl,_,hs.MT c,h⟩
     .exact .inr ⟨by rw [e];rfl,_,hs.MT c,h⟩
     .exact .inl ⟨by rw [e];rfl,_,hs.MT c,h⟩
    .rename_i k;refine .inr ⟨?_,p,hs,h⟩;simp only [wanted,hd,f]
   .cases h
  .cases h
theorem qm {ops:List Oper} {j:Nat} {x:Fx}: ∀{seen:List (Nat×Fx)},pA ops j x seen=true-> ∀seen':List (Nat×Fx),(∀y∈seen',y∈seen)->py ops j x seen'=true
 | seen,h,[],_=>rfl
 | seen,h,(i,y)::l,b=>by
  have h1: ∀(s:List (Nat×Fx)),pA ops j x s=true->(i,y)∈s->(behind ops (j+1) j i||apart y x)=true:=by
   intro s hs hm
   induction s with
   | nil=>cases hm
   | cons a s ih=>
    obtain ⟨c,y'⟩:=a;simp only [pA,aaf] at hs;rcases aam.1 hm with e | hm
    .cases e;exact hs.1
    .exact ih hs.2 hm
  simp only [py,aaf];refine ⟨?_,qm h l fun y hy=>b y (aak _ hy)⟩;rw [Bool.or_comm];exact h1 seen h (b _ (aad ..))
def cx (S:Sx) (E:Env) (n:Nat):Cx:=⟨S.T,S.prim,S.imm,S.G,caller E n⟩
theorem rF {S:Sx} (k:RN E S.O) {all:List Oper} {draw:Bool}: ∀{l:List Oper} {j:Nat} {seen seen':List (Nat×Fx)} {p:PF} {fr:Fr} {st:St} {K:PF->St->Oq β},
  D4 S N all draw j seen l p st K=some r->Sub N p fr->(∀y∈seen',y∈seen)-> ∃fr' st' g,(kH fun n=>dO (cx S E n) all draw j seen' l fr st= .ok (fr',st'))/\Sub N g fr'/\K g st'=some r
 | [],_,_,_,p,fr,st,_,h,hs,_=>⟨fr,st,p,kH.always fun _=>rfl,hs,h⟩
 | o::l,j,seen,seen',p,fr,st,K,h,hs,a=>by
  simp only [D4] at h;rcases xw h hs with ⟨m,q,f,h⟩ | ⟨m,q,f,h⟩
  .obtain ⟨v,x,s,h⟩:=JC k h f;have h:=kN (K:=fun v=>match draw with
    | false=>zn N o.dst v q fun p=>D4 S N all draw (j+1) seen l p (x.did.app st) K
    | true=>cg (pA all j x seen) (zn N o.dst v q fun p=>D4 S N all draw (j+1) ((j,x)::seen) l p (x.did.app st) K)) h
   have i: ∀n,(lT S fr o.op >>= aE (caller E n) st)= .ok (v,x)->oper (cx S E n) all fr st o= .ok (v,x):=fun n e=>by
    simp only [oper,m];exact e
   cases draw with
   | false=>
    obtain ⟨t,d,h⟩:=oa h f;obtain ⟨fr',st',g,b,c,hK⟩:=rF k (seen':=seen') h d a;refine ⟨fr',st',g,(s.both b).lift fun n hn=> ?_,c,hK⟩;simp only [dO,i n hn.1,aA,abw];exact hn.2
   | true=>
    obtain ⟨ho,h⟩:=ew h;obtain ⟨t,d,h⟩:=oa h f;cases u:quiet x with
    | true=>
     obtain ⟨fr',st',g,b,c,hK⟩:=rF k (seen':=seen') h d fun y hy=>aak _ (a y hy);refine ⟨fr',st',g,(s.both b).lift fun n hn=> ?_,c,hK⟩;simp only [dO,i n hn.1,aA,u,aaS,acf];exact hn.2
    | false=>
     obtain ⟨fr',st',g,b,c,hK⟩:=rF k (seen':=(j,x)::seen') h d fun y hy=>by
      rcases aam.1 hy with e | hy
      .rw [e];exact aad ..
      .exact aak _ (a y hy)
     refine ⟨fr',st',g,(s.both b).lift fun n hn=> ?_,c,hK⟩;simp only [dO,i n hn.1,aA,u,aaR,aaW,qm ho seen' a];exact hn.2
  .obtain ⟨t,d,h⟩:=oa h f;obtain ⟨fr',st',g,b,c,hK⟩:=rF k (seen':=seen') h d a;refine ⟨fr',st',g,b.lift fun n hn=> ?_,c,hK⟩;have:oper (cx S E n) all fr st o= .ok (undef,⟨[],.kept⟩):=by simp only [oper,m]
   simp only [dO,this,aA,quiet,List.isEmpty_nil,aaS,acf];exact hn
theorem GO {T:TT} {t:Td} {i:TI} {nm:Nat} {st:St} {K:Kv β} (hi:ti T t= .ok i) (h:ID t i.zero nm st K=some r): ∃v x,xI T t nm st= .ok (v,x)/\K v (x.did.app st) x=some r:=by
 unfold ID oj at h;obtain ⟨⟨v,st',x⟩,h1,b⟩:=bL h;unfold Ox at h1;split at h1
 .rename_i c;unfold mC at h1;split at h1
  .rename_i a;cases h1;exact ⟨_,_,Fu (cy.1 hi) c (aaq a),b⟩
  .cases h1
 .cases h1
theorem ql {S:Sx} (m:RN E S.O) {e:Nat->Oq Nat} {all:List Oper}: ∀{l:List Oper} {j:Nat} {seen seen':List (Nat×Fx)} {p:PF} {fr:Fr} {st:St} {K:PF->St->Oq β},
  sQ S N e all j seen l p st K=some r->Sub N p fr->(∀y∈seen',y∈seen)-> ∃fr' st' g,(kH fun n=>db (cx S E n) e all j seen' l fr st= .ok (fr',st'))/\Sub N g fr'/\K g st'=some r
 | [],_,_,_,p,fr,st,_,h,hs,_=>⟨fr,st,p,kH.always fun _=>rfl,hs,h⟩
 | o::l,j,seen,seen',p,fr,st,K,h,hs,a=>by
  simp only [sQ] at h;rcases xw h hs with ⟨q,s,d,h⟩ | ⟨q,s,d,h⟩
  .have key: ∃v x,(kH fun n=>gn (cx S E n) e all fr st o= .ok (v,x))/\Fl (Em o.op) S.T o.type v (fun v=>cg (pA all j x seen) (zn N o.dst v s fun p=>sQ S N e all (j+1) ((j,x)::seen) l p (x.did.app st) K))=some r:=by
    unfold VY at h;split at h
    .rename_i t nm u;obtain ⟨i,hi,h⟩:=cD h;obtain ⟨v,x,h1,z⟩:=GO hi h;refine ⟨v,x,kH.always fun n=> ?_,z⟩;simp only [gn,q,u];exact h1
    .rename_i u;obtain ⟨v,x,A,h⟩:=JC m h d;refine ⟨v,x,kH.lift A fun n B=> ?_,h⟩;simp only [gn,q,u];exact B
   obtain ⟨v,x,k,h⟩:=key;have h:=kN (K:=fun v=>cg (pA all j x seen) (zn N o.dst v s fun p=>sQ S N e all (j+1) ((j,x)::seen) l p (x.did.app st) K)) h;obtain ⟨ho,h⟩:=ew h;obtain ⟨C,f,h⟩:=oa h d;cases w:quiet x with
   | true=>
    obtain ⟨fr',st',g,b,c,hK⟩:=ql m (seen':=seen') h f fun y hy=>aak _ (a y hy);refine ⟨fr',st',g,(k.both b).lift fun n hn=> ?_,c,hK⟩;simp only [db,hn.1,aA,w,aaS];exact hn.2
   | false=>
    obtain ⟨fr',st',g,b,c,hK⟩:=ql m (seen':=(j,x)::seen') h f fun y hy=>by
     rcases aam.1 hy with e | hy
     .rw [e];exact aad ..
     .exact aak _ (a y hy)
    refine ⟨fr',st',g,(k.both b).lift fun n hn=> ?_,c,hK⟩;simp only [db,hn.1,aA,w,aaR,qm ho seen' a];exact hn.2
  .obtain ⟨C,f,h⟩:=oa h d;obtain ⟨fr',st',g,b,c,hK⟩:=ql m (seen':=seen') h f a;refine ⟨fr',st',g,b.lift fun n hn=> ?_,c,hK⟩;have:gn (cx S E n) e all fr st o= .ok (undef,⟨[],.kept⟩):=by simp only [gn,q]
   simp only [db,this,aA,quiet,List.isEmpty_nil,aaS];exact hn
theorem Ci {K:St->Oq β}: ∀{l:Ln} {st:St},Vd st l K=some r->K (st.lay l)=some r
 | [],_,h=>h
 | _::l,st,h=>Ci (l:=l) (st:=(st.new .AF).2) h
def PJ (fr:Fr):Ln->LA->Prop
 | [],vs=>vs=[]
 | i::l,vs=> ∃v vs',vs=v::vs'/\fr.look i=some v/\PJ fr l vs'
theorem dp: ∀{l:Ln} {p:PF} {fr:Fr} {K:LA->Oq β},getAll p l K=some r->Sub N p fr-> ∃vs,PJ fr l vs/\K vs=some r
 | [],_,_,_,h,_=>⟨[],rfl,h⟩
 | i::l,p,fr,K,h,hs=>by
  simp only [getAll] at h;split at h
  .rename_i v b;obtain ⟨vs,a,h⟩:=dp h hs;exact ⟨v::vs,⟨v,vs,rfl,hs.2 _ _ b,a⟩,h⟩
  .cases h
theorem eL {T:TT} {tys:List (Nat×Td)}: ∀{l:Ln} {vs:LA} {p:PF} {fr:Fr} {K:PF->Oq β},iN T tys l vs p K=some r->PJ fr l vs->Sub N p fr-> ∃a,Sub N a fr/\K a=some r
 | [],vs,p,fr,K,h,_,hs=>by
  obtain ⟨_,h⟩:=Fp h;exact ⟨p,hs,h⟩
 | i::l,vs,p,fr,K,h,f,hs=>by
  obtain ⟨v,vs',rfl,hd⟩:=E8 h;obtain ⟨v',d,e,g,b⟩:=f;cases e;have h:(iN T tys l vs' p fun p=>K ((i,v)::p))=some r:=by
   unfold JF at hd;split at hd
   .exact kN (K:=fun v=>iN T tys l vs' p fun p=>K ((i,v)::p)) hd
   .exact hd
  obtain ⟨a,c,h⟩:=eL h b hs;exact ⟨_,c.MT g,h⟩
theorem rN {W:Ln} {i:Nat} {v:AV}: ∀{p:PF},PF.get (erase W p) i=some v->PF.get p i=some v/\i∉W
 | [],h=>by cases h
 | (k,u)::p,h=>by
  simp only [erase] at h;split at h
  .rename_i a;have ih:=rN h;refine ⟨?_,ih.2⟩;rw [PF.mu,if_neg]
   .exact ih.1
   .rintro rfl;exact ih.2 (wk.1 a)
  .rename_i a;rw [PF.mu] at h;split at h
   .rename_i e;refine ⟨by rw [PF.mu,if_pos e];exact h,fun hm=> ?_⟩;rw [<- e] at hm;rw [wk.2 hm] at a;cases a
   .rename_i e;have ih:=rN h;exact ⟨by rw [PF.mu,if_neg e];exact ih.1,ih.2⟩
theorem Sub.erased {W:Ln} {p:PF} {fr fr':Fr} (hs:Sub N p fr) (hn:fr'.n=fr.n) (hf: ∀i,i∉W->fr'.look i=fr.look i):Sub N (erase W p) fr':=
 ⟨hn.trans hs.1,fun i v a=>(hf i (rN a).2).trans (hs.2 i v (rN a).1)⟩
end
section
variable {β:Type} {r:β}
theorem pt {σ:Type} {F:σ->Oq (Sum σ β)} {s:σ} (h:aH F s=some r): ∃n,nG F n s=some r:=by
 unfold aH at h;split at h
 .rename_i hx;cases h;exact hx.choose_spec
 .cases h
theorem tC {σ:Type} {F:σ->Oq (Sum σ β)}: ∀{n m:Nat} {s:σ},n<=m->nG F n s=some r->nG F m s=some r
 | 0,_,_,_,h=>by cases h
 | n+1,0,_,hn,_=>by omega
 | n+1,m+1,s,hn,h=>by
  simp only [nG] at h ⊢;split at h
  .exact tC (by omega) h
  .exact h
  .cases h
theorem zU {σ:Type} {F:σ->Oq (Sum σ β)} {s:σ} {n:Nat} (h:nG F n s=some r):aH F s=some r:=by
 have hx: ∃r n,nG F n s=some r:=⟨r,n,h⟩;unfold aH;rw [dif_pos hx];obtain ⟨m,hm⟩:=hx.choose_spec;have h1:=tC (Nat.le_max_left m n) hm;have a:=tC (Nat.le_max_right m n) h;rw [h1] at a;exact a
theorem oo {σ:Type} (F:σ->Oq (Sum σ β)) (s:σ):aH F s=match F s with
  | some (.inl s')=>aH F s'
  | some (.inr r)=>some r
  | none=>none:=by
 cases e:F s with
 | none=>
  cases h:aH F s with
  | none=>rfl
  | some r=>
   obtain ⟨n,hn⟩:=pt h;cases n with
   | zero=>cases hn
   | succ n=>simp [nG,e] at hn
 | some x=>
  cases x with
  | inr r=>exact zU (n:=1) (by simp [nG,e])
  | inl s'=>
   dsimp only;cases h:aH F s' with
   | some r=>
    obtain ⟨n,hn⟩:=pt h;exact zU (n:=n+1) (by simp only [nG,e];exact hn)
   | none=>
    cases a:aH F s with
    | none=>rfl
    | some r=>
     obtain ⟨n,hn⟩:=pt a;cases n with
     | zero=>cases hn
     | succ n=>
      simp only [nG,e] at hn;rw [zU hn] at h;cases h
theorem CF {K:Ex->Oq β} {x:Ex}: ∀{l:List Ex} {n k:Nat},CD x l n=some k->n<=k/\U1 K l (k - n)=K x
 | [],_,_,h=>by cases h
 | y::l,n,k,h=>by
  simp only [CD] at h;split at h
  .rename_i e;have e:=aci e;cases h;refine ⟨aah _, ?_⟩;rw [abZ, <- e];cases l <;> rfl
  .obtain ⟨h1,a⟩:=CF (K:=K) h;refine ⟨by omega, ?_⟩;cases l with
   | nil=>cases h
   | cons z l=>
    have:k - n=(k - (n+1))+1:=by omega
    rw [this];exact a
end
section
variable {N:Nat} {E:Env}
theorem kS {S:Sx} (I:RN E S.O) {tys:List (Nat×Td)}: ∀(c:Code) {live:Ln} {β:Type} {r:β} {p:PF} {fr:Fr} {st:St} {K:Ex->PF->St->Oq β},
  l5 S N tys c live p st K=some r->Sub N p fr->(fr.strict=true->cE c=true)-> ∃ex fr' st' A,(kH fun n=>exec (cx S E n) n c fr st= .ok (ex,fr',st'))/\Sub N A fr'/\K ex A st'=some r
 | .skip,_,_,_,p,fr,st,_,h,hs,_=>⟨.normal,fr,st,p,kH.always fun _=>rfl,hs,h⟩
 | .label _,_,_,_,p,fr,st,_,h,hs,_=>⟨.normal,fr,st,p,kH.always fun _=>rfl,hs,h⟩
 | .exit i,_,_,_,p,fr,st,_,h,hs,_=>⟨.exit i,fr,st,p,kH.always fun _=>rfl,hs,h⟩
 | .ret,_,_,_,p,fr,st,_,h,hs,_=>⟨.ret,fr,st,p,kH.always fun _=>rfl,hs,h⟩
 | .goto _,_,_,_,_,_,_,_,h,_,_ | .refuse _,_,_,_,_,_,_,_,h,_,_=>by simp [l5] at h
 | .rangeFunc g ps a c,live,β,r,p,fr,st,K,h,hs,w=>by
  have hf:fr.strict=false:=by
   cases e:fr.strict with
   | false=>rfl
   | true=>exact absurd (w e) (by simp [cE])
  simp only [l5] at h;obtain ⟨fv,U,h⟩:=bY h hs;obtain ⟨vs,y,h⟩:=dp h hs;have y:vs=kZ fr (qq ps.toList a c):=by
   clear h;generalize qq ps.toList a c=us at y
   induction us generalizing vs with
   | nil=>exact y
   | cons u us ih=>
    obtain ⟨v,vs',rfl,h1,H⟩:=y;rw [ih vs' H,kZ,uU h1]
  subst y;unfold MH at h;split at h
  .rename_i f cap _;obtain ⟨⟨v,st1⟩,h1,h⟩:=bL h;unfold XK at h;dsimp only at h;split at h
   .rename_i b6 b7 a1 c1 o s L hg;obtain ⟨av,h⟩:=ew h;have hJ: ∀l:List Ex,D3 L (fun ex=>K ex p (st1.put st.h .dead)) l=some r->K L p (st1.put st.h .dead)=some r:=by
     intro l
     induction l with
     | nil=>intro h;cases h
     | cons x l ih=>
      intro h;simp only [D3,MI] at h;cases hd:decide (L=x) with
      | true=>rw [hd] at h;rw [aci hd] at h ⊢;exact h
      | false=>rw [hd] at h;exact ih h
    refine ⟨L,fr,st1.put st.h .dead,p,(I.wide _ _ _ _ h1).lift fun n hn=> ?_,hs,hJ _ h⟩;have U:ch (cx S E n).G fr g= .ok (.fn (.func f) [] cap):=U;have hn:(cx S E n).C.wide f (.yld st.h::cap) (st.new (.loop (cx S E n).imm ps.toList a c (Mx fr.n (qq ps.toList a c) (kZ fr (qq ps.toList a c))) 0 .normal)).2= .ok (v,st1):=by
     rw [hs.1];exact hn
    simp only [exec,hf,U,aA,hn,hg,av,aI]
   .cases h
  .cases h
 | .scope c,live,β,r,p,fr,st,K,h,hs,w=>kS I c (live:=live) h hs fun e=>absurd (w e) (by simp [cE])
 | .region id ops draw,live,β,r,p,fr,st,K,h,hs,_=>by
  simp only [l5] at h;split at h
  .rename_i hd;have hd: ∀n,(draw&&(cx S E n).imm 4000000)=false:=fun n=>hd;split at h
   .obtain ⟨fr',st',A,d,t,hK⟩:=rF I (seen':=[]) h hs (fun _ hy=>by cases hy);exact ⟨.normal,fr',st',A,d.lift fun n hn=>by simp only [exec,hd n,hn,aA,aI],t,hK⟩
   .obtain ⟨c,h1,H⟩:=bL h;obtain ⟨fr',st',A,d,t,hK⟩:=rF I (seen':=[]) h1 hs (fun _ hy=>by cases hy);obtain ⟨vs,y,e⟩:=dp hK t;cases e;obtain ⟨m,hm⟩:=d;have hf:=kX (hm m (aah _));obtain ⟨F,j,z⟩:=eL H y (hs.erased hf.1 hf.2);exact ⟨.normal,fr',st',F,⟨m,fun n hn=>by simp only [exec,hd n,hm n hn,aA,aI]⟩,j,z⟩
  .rename_i hd;have hd: ∀n,(draw&&(cx S E n).imm 4000000)=true:=fun n=>hd;have h:=Ci (K:=fun st'=>match uh ops.toList with
    | false=>sQ S N (CS st.h (pd ops.toList)) ops.toList 0 [] ops.toList p st' fun p st=>K .normal p st
    | true=>let ws:=dedup (sy live (cN ops.toList))
     ax (sQ (β:=bU) S N (CS st.h (pd ops.toList)) ops.toList 0 [] ops.toList p st' fun p st=>getAll p ws fun vs=>some (vs,st)) fun c=>
      iN S.T tys ws c.1 (erase (cN ops.toList) p) fun p=>K .normal p c.2) h
   dsimp only at h;split at h
   .obtain ⟨fr',st',A,d,t,hK⟩:=ql I (seen':=[]) h hs (fun _ hy=>by cases hy);exact ⟨.normal,fr',st',A,d.lift fun n hn=>by simp only [exec,hd n,hn,aA,aI],t,hK⟩
   .obtain ⟨c,h1,H⟩:=bL h;obtain ⟨fr',st',A,d,t,hK⟩:=ql I (seen':=[]) h1 hs (fun _ hy=>by cases hy);obtain ⟨vs,y,e⟩:=dp hK t;cases e;obtain ⟨m,hm⟩:=d;have hf:=jO (hm m (aah _));obtain ⟨F,j,z⟩:=eL H y (hs.erased hf.1 hf.2);exact ⟨.normal,fr',st',F,⟨m,fun n hn=>by simp only [exec,hd n,hm n hn,aA,aI]⟩,j,z⟩
 | .seq a b,live,β,r,p,fr,st,K,h,hs,w=>by
  have w:fr.strict=true->cE a=true/\cE b=true:=fun e=>by have:=w e;simpa [cE] using this
  simp only [l5] at h;obtain ⟨ex,o,st1,L,d,D,hK⟩:=kS I a h hs fun e=>(w e).1;have a6:o.strict=fr.strict:=by
   obtain ⟨m,hm⟩:=d;exact gh _ (hm m (aah _))
  cases ex with
  | normal=>
   obtain ⟨ex,B,st2,F,X,j,z⟩:=kS I b hK D fun e=>(w (a6 ▸ e)).2;exact ⟨ex,B,st2,F,(d.both X).lift fun n hn=>by simp only [exec,hn.1,aA,hn.2],j,z⟩
  | exit i=>exact ⟨.exit i,o,st1,L,d.lift fun n hn=>by simp only [exec,hn,aA,aI],D,hK⟩
  | ret=>exact ⟨.ret,o,st1,L,d.lift fun n hn=>by simp only [exec,hn,aA,aI],D,hK⟩
 | .cond c a b,live,β,r,p,fr,st,K,h,hs,w=>by
  have w:fr.strict=true->cE a=true/\cE b=true:=fun e=>by have:=w e;simpa [cE] using this
  simp only [l5] at h;obtain ⟨cv,U,h⟩:=bY h hs;obtain ⟨bv,rfl,h⟩:=zD h;have fin: ∀{ex fr' st'},(kH fun n=>exec (cx S E n) n (bif bv then a else b) fr st= .ok (ex,fr',st'))->kH fun n=>exec (cx S E n) n (.cond c a b) fr st= .ok (ex,fr',st'):=fun h=>h.lift fun n hn=>by
   have U:ch (cx S E n).G fr c= .ok (.bool bv):=U;cases bv <;> (simp only [exec,U,aA,VM.asBool];exact hn)
  have two: ∀{γ:Type} {q:γ} {J:Ex->PF->St->Oq γ},(aX bv (l5 S N tys a live p st J) (l5 S N tys b live p st J))=some q->
    ∃ex fr' st' A,(kH fun n=>exec (cx S E n) n (bif bv then a else b) fr st= .ok (ex,fr',st'))/\Sub N A fr'/\J ex A st'=some q:=by
   intro γ q J h;cases bv
   .exact kS I b h hs fun e=>(w e).2
   .exact kS I a h hs fun e=>(w e).1
  have outs: ∀{ex fr' st'},(kH fun n=>exec (cx S E n) n (bif bv then a else b) fr st= .ok (ex,fr',st'))->fr'.n=fr.n/\ ∀i,i∉writes a++writes b->fr'.look i=fr.look i:=by
   rintro ex fr' st' ⟨m,hm⟩;have:=fQ _ (hm m (aah _));refine ⟨this.1,fun i hi=>this.2 i fun hm=>hi ?_⟩;cases bv
   .exact aaA.2 (.inr hm)
   .exact aaA.2 (.inl hm)
  split at h
  .obtain ⟨ex,fr',st',A,d,t,hK⟩:=two h;exact ⟨ex,fr',st',A,fin d,t,hK⟩
  .split at h
   .obtain ⟨q,h1,H⟩:=bL h;obtain ⟨ex,fr',st',A,d,t,hK⟩:=two h1;have hf:=outs d;cases ex with
    | normal=>
     obtain ⟨vs,y,e⟩:=dp hK t;cases e;obtain ⟨F,j,z⟩:=eL H y (hs.erased hf.1 hf.2);exact ⟨.normal,fr',st',F,fin d,j,z⟩
    | exit i=>cases hK
    | ret=>cases hK
   .obtain ⟨q,h1,H⟩:=bL h;obtain ⟨ex,fr',st',A,d,t,hK⟩:=two h1;have hf:=outs d;cases ex with
    | normal=>
     obtain ⟨vs,y,e⟩:=dp hK t;cases e;obtain ⟨F,j,z⟩:=eL H y (hs.erased hf.1 hf.2);exact ⟨.normal,fr',st',F,fin d,j,z⟩
    | exit i=>
     obtain ⟨q',M,e⟩:=bL hK;cases e;cases H;exact ⟨_,fr',st',A,fin d,t,M⟩
    | ret=>
     obtain ⟨q',M,e⟩:=bL hK;cases e;cases H;exact ⟨_,fr',st',A,fin d,t,M⟩
 | .block id c,live,β,r,p,fr,st,K,h,hs,w=>by
  simp only [l5] at h;split at h
  .obtain ⟨ex,o,st1,L,d,D,hK⟩:=kS I c h hs w;cases ex with
   | normal=>exact ⟨.normal,o,st1,L,d.lift fun n hn=>by simp only [exec,hn,aA,aI],D,hK⟩
   | ret=>exact ⟨.ret,o,st1,L,d.lift fun n hn=>by simp only [exec,hn,aA,aI],D,hK⟩
   | exit i=>
    dsimp only at hK;split at hK
    .rename_i hi;exact ⟨.normal,o,st1,L,d.lift fun n hn=>by simp only [exec,hn,aA,aI,hi],D,hK⟩
    .rename_i hi;exact ⟨.exit i,o,st1,L,d.lift fun n hn=>by simp only [exec,hn,aA,aI,hi],D,hK⟩
  .obtain ⟨q,h1,H⟩:=bL h;obtain ⟨ex,fr',st',A,d,t,hK⟩:=kS I c h1 hs w;have hf:fr'.n=fr.n/\ ∀i,i∉writes c->fr'.look i=fr.look i:=by
    obtain ⟨m,hm⟩:=d;exact fQ _ (hm m (aah _))
   cases ex with
   | normal=>
    obtain ⟨vs,y,e⟩:=dp hK t;cases e;obtain ⟨F,j,z⟩:=eL H y (hs.erased hf.1 hf.2);exact ⟨.normal,fr',st',F,d.lift fun n hn=>by simp only [exec,hn,aA,aI],j,z⟩
   | exit i=>
    dsimp only at hK;split at hK
    .rename_i hi;obtain ⟨vs,y,e⟩:=dp hK t;cases e;obtain ⟨F,j,z⟩:=eL H y (hs.erased hf.1 hf.2);exact ⟨.normal,fr',st',F,d.lift fun n hn=>by simp only [exec,hn,aA,aI,hi],j,z⟩
    .rename_i hi;obtain ⟨q',M,e⟩:=bL hK;cases e;cases H;exact ⟨.exit i,fr',st',A,d.lift fun n hn=>by simp only [exec,hn,aA,aI,hi],t,M⟩
   | ret=>
    obtain ⟨q',M,e⟩:=bL hK;cases e;cases H;exact ⟨.ret,fr',st',A,d.lift fun n hn=>by simp only [exec,hn,aA,aI],t,M⟩
 | .loop c,live,β,r,p,fr,st,K,h,hs,w=>by
  simp only [l5] at h;obtain ⟨vs,y,h⟩:=dp h hs;obtain ⟨q,h1,H⟩:=bL h;obtain ⟨m,hm⟩:=pt h1;have key: ∀(m:Nat) (vs:LA) (st:St) (o:Fr),PJ o (dedup (jH p (writes c))) vs->o.strict=fr.strict->o.n=fr.n->(∀i,i∉writes c->o.look i=fr.look i)->
    nG (fun s:bU=>iN S.T tys (dedup (jH p (writes c))) s.1 (erase (writes c) p) fun A=>l5 S N tys c (dedup (jH p (writes c))++live) A s.2 fun ex A st=>match ex with
     | .normal=>getAll A (dedup (jH p (writes c))) fun vs=>some ((.inl (vs,st):Sum bU (Nat×bU)))
     | ex=>ax (CD ex ((leaves c).outs.eraseDups.map .exit++(match (leaves c).rets with | true=>[.ret] | false=>[])) 0) fun k=>getAll A (sy live (dedup (jH p (writes c)))) fun vs=>some (.inr (k,vs,st))) m (vs,st)=some q-> ∃ex fr' st' A,(kH fun n=> ∃k,k<=m/\iter (exec (cx S E n) n c) k o st= .ok (ex,fr',st'))/\ex≠ .normal/\Sub N A fr'/\(fr'.n=fr.n/\ ∀i,i∉writes c->fr'.look i=fr.look i)/\
     (ax (CD ex ((leaves c).outs.eraseDups.map .exit++(match (leaves c).rets with | true=>[.ret] | false=>[])) 0) fun k=>getAll A (sy live (dedup (jH p (writes c)))) fun vs=>some ((.inr (k,vs,st'):Sum bU (Nat×bU))))=some (.inr q):=by
   intro m
   induction m with
   | zero=>intro vs st o _ _ _ _ h;cases h
   | succ m ih=>
    intro vs st o hv V hn hf h;simp only [nG] at h;split at h
    .rename_i s' e;obtain ⟨L,D,M⟩:=eL e hv (hs.erased hn hf);obtain ⟨ex,B,st2,F,d,j,hK⟩:=kS I c M D fun e=>w (V ▸ e);have P:B.n=o.n/\ ∀i,i∉writes c->B.look i=o.look i:=by
      obtain ⟨m,hm⟩:=d;exact fQ _ (hm m (aah _))
     have Y:B.strict=o.strict:=by
      obtain ⟨m,hm⟩:=d;exact gh _ (hm m (aah _))
     cases ex with
     | normal=>
      obtain ⟨vs2,W,Q⟩:=dp hK j;cases Q;obtain ⟨ex,a7,a8,p3,Z,hx,bb,bt,b4⟩:=ih vs2 st2 B W (Y.trans V) (P.1.trans hn) (fun i hi=>(P.2 i hi).trans (hf i hi)) h;refine ⟨ex,a7,a8,p3,(d.both Z).lift fun n hn=> ?_,hx,bb,bt,b4⟩;obtain ⟨h4,k,hk,h5⟩:=hn;exact ⟨k+1,by omega,by simp only [iter,h4,aA];exact h5⟩
     | exit i=>
      obtain ⟨k,_,hK⟩:=bL hK;obtain ⟨vs2,_,Q⟩:=dp hK j;cases Q
     | ret=>
      obtain ⟨k,_,hK⟩:=bL hK;obtain ⟨vs2,_,Q⟩:=dp hK j;cases Q
    .rename_i q' e;cases h;obtain ⟨L,D,M⟩:=eL e hv (hs.erased hn hf);obtain ⟨ex,B,st2,F,d,j,hK⟩:=kS I c M D fun e=>w (V ▸ e);have P:B.n=o.n/\ ∀i,i∉writes c->B.look i=o.look i:=by
      obtain ⟨m,hm⟩:=d;exact fQ _ (hm m (aah _))
     have R:B.n=fr.n/\ ∀i,i∉writes c->B.look i=fr.look i:=⟨P.1.trans hn,fun i hi=>(P.2 i hi).trans (hf i hi)⟩;cases ex with
     | normal=>
      obtain ⟨vs2,_,Q⟩:=dp hK j;cases Q
     | exit i=>exact ⟨_,B,st2,F,d.lift fun n hn=>⟨1,by omega,by simp only [iter,hn,aA];rfl⟩,(by intro h;cases h),j,R,hK⟩
     | ret=>exact ⟨_,B,st2,F,d.lift fun n hn=>⟨1,by omega,by simp only [iter,hn,aA];rfl⟩,(by intro h;cases h),j,R,hK⟩
    .cases h
  obtain ⟨ex,fr',st',A,d,_,t,hf,hK⟩:=key m vs st fr y rfl rfl (fun _ _=>rfl) hm;obtain ⟨k,M,hK⟩:=bL hK;obtain ⟨vs2,W,Q⟩:=dp hK t;cases Q;obtain ⟨F,j,z⟩:=eL H W (hs.erased hf.1 hf.2);have z:K ex F st'=some r:=(CF (K:=fun ex=>K ex F st') M).2.symm.trans z;refine ⟨ex,fr',st',F, ?_,j,z⟩;obtain ⟨m',b5⟩:=d;refine ⟨max m' m,fun n hn=> ?_⟩;obtain ⟨k,hk,h5⟩:=b5 n (by omega);simp only [exec];exact vt (fun _ _ _ h=>h) (by omega) h5
end
section
variable {β:Type} {r:β} {N:Nat} {E:Env} {S:Sx}
theorem tH {T:TT}: ∀{vs:LA} {ts:List Td} {i:Nat} {p:PF} {t:Tr AV} {K:PF->Oq β},GH T i ts vs p K=some r->Sub N p ⟨N,t,false⟩-> ∃c,Sub N c ⟨N,wH i vs t,false⟩/\K c=some r
 | [],_,_,p,_,_,h,hs=>⟨p,hs,h⟩
 | v::vs,ts,i,p,t,K,h,hs=>by
  have a:Sub N ((i,v)::p) ⟨N,t.put i v,false⟩:=by
   refine ⟨rfl,fun j u b=> ?_⟩;rw [PF.mu] at b;have d: ∀t:Tr AV,(⟨N,t,false⟩:Fr).look j=some ((t.get j).getD undef):=fun _=>rfl;rw [d,Tr.la];split at b
   .rename_i e;rw [if_pos e];cases b;rfl
   .rename_i e;rw [if_neg e, <- d];exact hs.2 j u b
  cases ts with
  | nil=>exact tH (vs:=vs) (ts:=[]) (i:=i+1) (p:=(i,v)::p) h a
  | cons ty ts=>exact tH (vs:=vs) (ts:=ts) (i:=i+1) (p:=(i,v)::p) (kN (K:=fun v=>GH T (i+1) ts vs ((i,v)::p) K) h) a
theorem KN {p:PF} {fr:Fr} {st:St} {x:ResultVar} {K:AV->Oq β} (h:Qf S p st x K=some r) (hs:Sub N p fr): ∃v,lu S.T fr st x= .ok v/\K v=some r:=by
 cases x with
 | tmp t=>
  simp only [Qf] at h;split at h
  .rename_i v d;exact ⟨v,by simp only [lu,uU (hs.2 _ _ d)],h⟩
  .cases h
 | cell a t=>
  simp only [Qf] at h;obtain ⟨i,e,h⟩:=cD h;split at h
  .rename_i j d;have f:=uU (hs.2 _ _ d);obtain ⟨⟨v,rd⟩,b,h⟩:=bL h;unfold Fj at b;split at b
   .split at b
    .rename_i c;cases b;exact ⟨v,by simp only [lu,e,f,aA,mA,c,aI],kN h⟩
    .cases b
   .split at b
    .rename_i c;split at b
     .rename_i g;cases b;exact ⟨v,by simp only [lu,e,f,aA,mA,iV,c,g,cellsOf,aI],kN h⟩
     .cases b
    .cases b
   .split at b
    .rename_i c;split at b
     .rename_i hm;split at b
      .rename_i g;cases b;exact ⟨v,by simp only [lu,e,f,aA,mA,iV,c,g,hm,aI],kN h⟩
      .cases b
     .cases b
    .cases b
   .cases b
  .cases h
theorem A5 {p:PF} {fr:Fr} {st:St}: ∀{l:List ResultVar} {K:LA->Oq β},JL S p st l K=some r->Sub N p fr-> ∃vs,iL S.T fr st l= .ok vs/\K vs=some r
 | [],_,h,_=>⟨[],rfl,h⟩
 | x::l,K,h,hs=>by
  obtain ⟨v,e,h⟩:=KN h hs;obtain ⟨vs,a,h⟩:=A5 h hs;exact ⟨v::vs,by simp only [iL,e,a,aA,aI],h⟩
theorem FD (d:RN E S.O) {fn:Func} {args:LA} {st:St} {K:AV->St->Oq β} (h:J4 S fn args st K=some r):
  ∃v st',(kH fun n=>body (cx S E n) n fn args st= .ok (v,st'))/\K v st'=some r:=by
 unfold J4 at h;split at h
 .cases h
 .rename_i c f;split at h
  .cases h
  .rename_i hl;obtain ⟨p,hs,h⟩:=tH (N:=fn.ntmps) (t:= .leaf) h ⟨rfl,fun _ _ g=>by cases g⟩;obtain ⟨ex,fr',st',j,a,b,hK⟩:=kS d c h hs (fun e=>by cases e);have hx:(JL S j st' fn.results.toList fun vs=>K (oneOf vs) st')=some r/\(∀i,ex≠ .exit i):=by
    cases ex with
    | exit i=>cases hK
    | normal=>exact ⟨hK,by intro i h;cases h⟩
    | ret=>exact ⟨hK,by intro i h;cases h⟩
   obtain ⟨vs,e,hK⟩:=A5 hx.1 b;refine ⟨oneOf vs,st',a.lift fun n hn=> ?_,hK⟩;have e:iL (cx S E n).T fr' st' fn.results.toList= .ok vs:=e;have hn:exec (cx S E n) n c (tW fn.ntmps args) st= .ok (ex,fr',st'):=hn;unfold body;rw [f];dsimp only;rw [hl];dsimp only;rw [hn,aA];cases ex with
   | exit i=>exact absurd rfl (hx.2 i)
   | normal=>simp only [e,aA,aI]
   | ret=>simp only [e,aA,aI]
end
section
variable {E:Env}
open Classical in
noncomputable def aY (E:Env):tN where
 full:=E.full
 isLook:=E.isLook
 bare f a:=if h: ∃v n,(caller E n).bare f a= .ok v then some h.choose else none
 wide f a st:=if h: ∃v n,(caller E n).wide f a st= .ok v then some h.choose else none
 look f a st:=if h: ∃v n,(caller E n).look f a st= .ok v then some h.choose else none
 round k a st:=if h: ∃v n,(caller E n).round k a st= .ok v then some h.choose else none
theorem Ja (E:Env):RN E (aY E) where
 full:=rfl
 isLook:=rfl
 bare f a v h:=by
  simp only [aY] at h;split at h
  .rename_i hx;cases h;obtain ⟨m,hm⟩:=hx.choose_spec;exact ⟨m,fun n hn=>(gr E hn).bare _ _ _ hm⟩
  .cases h
 wide f a st v h:=by
  simp only [aY] at h;split at h
  .rename_i hx;cases h;obtain ⟨m,hm⟩:=hx.choose_spec;exact ⟨m,fun n hn=>(gr E hn).wide _ _ _ _ hm⟩
  .cases h
 look f a st v h:=by
  simp only [aY] at h;split at h
  .rename_i hx;cases h;obtain ⟨m,hm⟩:=hx.choose_spec;exact ⟨m,fun n hn=>(gr E hn).look _ _ _ _ hm⟩
  .cases h
 round k a st v h:=by
  simp only [aY] at h;split at h
  .rename_i hx;cases h;obtain ⟨m,hm⟩:=hx.choose_spec;exact ⟨m,fun n hn=>(gr E hn).round _ _ _ _ hm⟩
  .cases h
theorem Bm {f:FuncId} {a:LA} {v:AV} {n:Nat} (h:(caller E n).bare f a= .ok v):(aY E).bare f a=some v:=by
 have hx: ∃v n,(caller E n).bare f a= .ok v:=⟨v,n,h⟩;simp only [aY,dif_pos hx];obtain ⟨m,hm⟩:=hx.choose_spec;have h1:=(gr E (Nat.le_max_left m n)).bare _ _ _ hm;have b:=(gr E (Nat.le_max_right m n)).bare _ _ _ h;rw [h1] at b;simpa using b
theorem N6 {f:FuncId} {a:LA} {st:St} {v:AV×St} {n:Nat} (h:(caller E n).wide f a st= .ok v):(aY E).wide f a st=some v:=by
 have hx: ∃v n,(caller E n).wide f a st= .ok v:=⟨v,n,h⟩;simp only [aY,dif_pos hx];obtain ⟨m,hm⟩:=hx.choose_spec;have h1:=(gr E (Nat.le_max_left m n)).wide _ _ _ _ hm;have b:=(gr E (Nat.le_max_right m n)).wide _ _ _ _ h;rw [h1] at b;simpa using b
noncomputable def sx (E:Env) (f:FuncId):Sx:=⟨E.T,E.prim,E.imm f,E.G,aY E⟩
noncomputable def bz (E:Env) (f:FuncId) (args:LA):Oq AV:=
 match E.F f with
 | none=>none
 | some fn=>J4 (sx E f) fn args St.empty fun v s=>eQ s 0 v some
noncomputable def cT (E:Env) (f:FuncId) (args:LA) (st:St):Oq (AV×St):=
 match E.F f with
 | none=>none
 | some fn=>J4 (sx E f) fn args st fun v s=>some (v,s)
theorem Mz {β:Type} {r:β} {st:St} {b:Nat} {v:AV} {K:AV->Oq β} (h:eQ st b v K=some r): ∃v',freeze st b 100 v= .ok v'/\bare v'=true/\K v'=some r:=by
 unfold eQ at h;split at h
 .obtain ⟨h1,h⟩:=ew h;exact ⟨_,by assumption,h1,h⟩
 .cases h
theorem aM {f:FuncId} {args:LA} {v:AV} (hm:(E.memo f,(E.rule f).isSome)=([],false)) (h:bz E f args=some v):(aY E).bare f args=some v:=by
 unfold bz at h;split at h
 .cases h
 .rename_i fn c;obtain ⟨u,s,⟨m,a⟩,h⟩:=FD (Ja E) h;obtain ⟨v',h1,b,h⟩:=Mz h;cases h;refine Bm (n:=m+1) ?_;have a:body ⟨E.T,E.prim,E.imm f,E.G,caller E m⟩ m fn args St.empty= .ok (u,s):=a m (aah _);have d:E.known f args=none:=by
   unfold Env.known;have h1:=aaY Prod.fst hm;have b:=aaY Prod.snd hm;dsimp only at h1 b;cases e:E.rule f with
   | some r=>rw [e] at b;cases b
   | none=>dsimp only;rw [h1];rfl
  simp only [caller,d,c,a,aA,h1,b,aI]
theorem fW {f:FuncId} {args:LA} {st:St} {v:AV×St} (h:cT E f args st=some v):(aY E).wide f args st=some v:=by
 unfold cT at h;split at h
 .cases h
 .rename_i fn b;obtain ⟨u,s,⟨m,a⟩,h⟩:=FD (Ja E) h;cases h;refine N6 (n:=m+1) ?_;have a:body ⟨E.T,E.prim,E.imm f,E.G,caller E m⟩ m fn args st= .ok (u,s):=a m (aah _);simp only [caller,b,a,aA,aI]
end
structure Lp where
 n:Nat
 ps:Ln
 a:Code
 c:Code
 tys:List (Nat×Td)
section
variable {E:Env} {r:AV×St}
end
abbrev ag {β:Type} (v:AV) (K:Int->Int->LB->AV->Oq β):Oq β:=Bu v fun l=>bg l fun v0 l=>bj .u8 v0 fun a0=>bg l fun v1 l=>bj .u8 v1 fun a1=>bg l fun v2 l=>dN v2 fun a2=>bg l fun v3 l=>bB l (K a0 a1 a2 v3)
abbrev dR {β:Type} (v:AV) (K:Int->LB->Oq β):Oq β:=Bu v fun l=>bg l fun v0 l=>bj .u8 v0 fun a0=>bg l fun v1 l=>dN v1 fun a1=>bB l (K a0 a1)
abbrev aP {β:Type} (v:AV) (K:Int->LB->Int->AV->Oq β):Oq β:=Bu v fun l=>bg l fun v0 l=>bj .u8 v0 fun a0=>bg l fun v1 l=>dN v1 fun a1=>bg l fun v2 l=>bj .i64 v2 fun a2=>bg l fun v3 l=>bB l (K a0 a1 a2 v3)
abbrev jk {β:Type} (v:AV) (K:Int->LB->Int->AV->Int->Bool->Oq β):Oq β:=Bu v fun l=>bg l fun v0 l=>bj .u8 v0 fun a0=>bg l fun v1 l=>dN v1 fun a1=>bg l fun v2 l=>bj .i64 v2 fun a2=>bg l fun v3 l=>bg l fun v4 l=>bj .i64 v4 fun a4=>bg l fun v5 l=>bG v5 fun a5=>bB l (K a0 a1 a2 v3 a4 a5)
section
variable {β:Type}
@[simp] theorem az {α:Type} (a:α) (K:α->Oq β):aN a K=K a:=id rfl
@[simp] theorem af (k:IntKind) (n:Int) (K:Int->Oq β):bj k (.int k n) K=K n:=by simp [bj]
@[simp] theorem al (b:Bool) (K:Bool->Oq β):bG (.bool b) K=K b:=id rfl
@[simp] theorem ao (s:LB) (K:LB->Oq β):dN (.str s) K=K s:=id rfl
@[simp] theorem Xl (k:IntKind) (n:Int) (K:Int->Oq β):anyI (.int k n) K=K n:=id rfl
@[simp] theorem aw (cs:LA) (K:LA->Oq β):Bu (.agg cs) K=K cs:=id rfl
@[simp] theorem bp (cs:LA) (K:LA->Oq β):gN (.tup cs) K=K cs:=id rfl
@[simp] theorem ad (v:AV) (l:LA) (K:AV->LA->Oq β):bg (v::l) K=K v l:=id rfl
@[simp] theorem ae (K:Oq β):bB [] K=K:=id rfl
@[simp] theorem aQ (K:Oq β):cg true K=K:=id rfl
theorem ib {b:Bool} (h:b=true) (K:Oq β):cg b K=K:=by rw [h];rfl
@[simp] theorem aq (x y:Oq β):aX true x y=x:=id rfl
@[simp] theorem aj (x y:Oq β):aX false x y=y:=id rfl
@[simp] theorem ak (p:Prop) [Decidable p] (x y:Oq β):aX (decide p) x y=if p then x else y:=by
 by_cases h:p <;> simp [h]
@[simp] theorem bP (a b:Int) (x y:Oq β):aX (a==b) x y=if a=b then x else y:=by
 by_cases h:a=b
 .simp [h]
 .rw [beq_false_of_ne h];simp [h]
@[simp] theorem XV (a b:Int) (x y:Oq β):aX (a != b) x y=if a=b then y else x:=by
 by_cases h:a=b
 .simp [h]
 .rw [bne,beq_false_of_ne h];simp [h]
@[simp] theorem XM (b:Bool) (x y:Oq β):aX (!b) x y=aX b y x:=by cases b <;> rfl
@[simp] theorem ai {α:Type} (a:α) (K:α->Oq β):ax (some a) K=K a:=id rfl
@[simp] theorem bu {α:Type} (a:α) (K:α->Oq β):ke (.inl a) K=K a:=id rfl
@[simp] theorem cp {α:Type} (b:β) (K:α->Oq β):ke (.inr b) K=some b:=id rfl
@[simp] theorem eX (a:Oq β) (b:Nat->Oq β):mR 0 a b=a:=id rfl
@[simp] theorem Kx (n:Nat) (a:Oq β) (b:Nat->Oq β):mR (n+1) a b=b n:=id rfl
@[simp] theorem iq (a:Oq β) (b:Nat->Oq β):mR 1 a b=b 0:=id rfl
theorem jS {v:AV} (h:one v=true) (K:Oq β):ab v K=K:=ib h K
@[simp] theorem U6 (b:Bool) (K:Oq β):ab (.bool b) K=K:=id rfl
@[simp] theorem Mi (k:IntKind) (n:Int) (K:Oq β):ab (.int k n) K=K:=id rfl
@[simp] theorem K8 (s:LB) (K:Oq β):ab (.str s) K=K:=id rfl
@[simp] theorem Im (K:Oq β):ab .aD K=K:=id rfl
@[simp] theorem Wy (z:Nat) (e:LA) (p:Perm) (K:Oq β):ab (.sl z e p) K=K:=id rfl
@[simp] theorem WK (i o:Nat) (K:Oq β):ab (.mp i o) K=K:=id rfl
@[simp] theorem We (cs:LA) (K:Oq β):ab (.ip cs) K=K:=id rfl
@[simp] theorem UR (K:Oq β):ab .nilp K=K:=id rfl
@[simp] theorem Wn (i:Nat) (K:Oq β):ab (.mm i) K=K:=id rfl
@[simp] theorem Tw (K:Oq β):ab .nilm K=K:=id rfl
@[simp] theorem WG (f:Fn) (a b:LA) (K:Oq β):ab (.fn f a b) K=K:=id rfl
@[simp] theorem aT (v:AV) (l:LA) (K:AV->Oq β):cr (v::l) 0 K=K v:=id rfl
@[simp] theorem VO (v:AV) (l:LA) (n:Nat) (K:AV->Oq β):cr (v::l) (n+1) K=cr l n K:=id rfl
@[simp] theorem aZ (u v:AV) (l:LA) (K:AV->Oq β):cr (u::v::l) 1 K=K v:=id rfl
@[simp] theorem Wu (u v w:AV) (l:LA) (K:AV->Oq β):cr (u::v::w::l) 2 K=K w:=id rfl
@[simp] theorem Uu (u v w x:AV) (l:LA) (K:AV->Oq β):cr (u::v::w::x::l) 3 K=K x:=id rfl
@[simp] theorem VR (u v w x y:AV) (l:LA) (K:AV->Oq β):cr (u::v::w::x::y::l) 4 K=K y:=id rfl
@[simp] theorem VH (u v w x y z:AV) (l:LA) (K:AV->Oq β):cr (u::v::w::x::y::z::l) 5 K=K z:=id rfl
@[simp] theorem yf (off:Nat) (cs:LA) (K:AV->Oq β):cV off (.ip cs) K=K (.ip (cs.drop off)):=id rfl
@[simp] theorem XP (off i n o:Nat) (K:AV->Oq β):cV off (.gp i n o) K=K (.gp i n (o+off)):=id rfl
@[simp] theorem bE (off i o:Nat) (K:AV->Oq β):cV off (.mp i o) K=K (.mp i (o+off)):=id rfl
def jA (size:Nat) (agg:Bool) (cs:LA):Oq AV:=RU (cM size agg cs)
@[simp] theorem aL (z:Nat) (v:AV) (l:LA):jA z false (v::l)=some v:=id rfl
theorem KI {z:Nat} {cs:LA} (h:z<=cs.length):jA z true cs=some (.agg (cs.take z)):=by
 simp only [jA,cM,aaI h,RU]
theorem KV {cs:LA} {z:Nat} (h:cs.length=z):jA z true cs=some (.agg cs):=by
 subst h;rw [KI (aah _),aaH]
@[simp] theorem bK (z:Nat) (g:Bool) (cs:LA) (st:St) (K:AV->Ln->Oq β):ar z g (.ip cs) st K=ax (jA z g cs) fun v=>K v []:=by
 unfold ar Fj jA;dsimp only;cases cM z g cs <;> rfl
theorem bh {st:St} {i:Nat} {t:Td} {cs:LA} (h:st.get i= .ok (.cells t cs)) (z:Nat) (g:Bool) (o:Nat) (K:AV->Ln->Oq β):ar z g (.mp i o) st K=ax (jA z g (cs.drop o)) fun v=>K v [i]:=by
 unfold ar Fj jA;dsimp only;rw [h];dsimp only;cases cM z g (cs.drop o) <;> rfl
@[simp] theorem XR (i o:Nat) (K:Oq β):NF (.mp i o) K=K:=id rfl
@[simp] theorem XU (cs:LA) (K:Oq β):NF (.ip cs) K=K:=id rfl
@[simp] theorem Wk (K:Oq β):ab .es K=K:=id rfl
@[simp] theorem XN (K:AV->Oq β):aB .es K=K .es:=id rfl
@[simp] theorem VW (K:Nat->Oq β):fq .aD K=K 0:=id rfl
@[simp] theorem RH (z:Nat) (e:LA) (p:Perm) (K:Nat->Oq β):fq (.sl z e p) K=K e.length:=id rfl
@[simp] theorem VK (b:Bool) (K:AV->Oq β):aB (.bool b) K=K (.bool b):=id rfl
@[simp] theorem F8 (k:IntKind) (n:Int) (K:AV->Oq β):aB (.int k n) K=K (.int k n):=id rfl
@[simp] theorem NN (s:LB) (K:AV->Oq β):aB (.str s) K=K (.str s):=id rfl
@[simp] theorem VC (K:AV->Oq β):aB .aD K=K .aD:=id rfl
@[simp] theorem VF (z:Nat) (e:LA) (K:AV->Oq β):aB (.sl z e .wide) K=K (.sl z e .wide):=id rfl
@[simp] theorem Vy (z:Nat) (e:LA) (K:AV->Oq β):aB (.sl z e .shut) K=K (.sl z e .shut):=id rfl
@[simp] theorem V4 (z k:Nat) (e:LA) (K:AV->Oq β):aB (.sl z e (.own k)) K=K (.sl z e .wide):=id rfl
theorem IE {i:Int} {n:Nat} (h0:0<=i) (h1:i < n) (K:Nat->Oq β):mc i n K=K i.toNat:=by
 obtain ⟨k,rfl⟩:=Int.eq_ofNat_of_zero_le h0;have:k.blt n=true:=cS.2 (by omega);simp only [mc];show cg (k.blt n) (K k)= _;rw [ib this];rfl
theorem OW {i:Int} {n:Nat} (h0:0<=i) (h1:i<=n) (K:Nat->Oq β):eJ i n K=K i.toNat:=by
 obtain ⟨k,rfl⟩:=Int.eq_ofNat_of_zero_le h0;have:k.ble n=true:=aaI (by omega);show cg (k.ble n) (K k)= _;rw [ib this];rfl
theorem Fb {k n:Nat} (h:k < n) (K:Nat->Oq β):mc (k:Int) n K=K k:=IE (by omega) (by omega) K
theorem ca {k n:Nat} (h:k<=n) (K:Nat->Oq β):eJ (k:Int) n K=K k:=OW (by omega) (by omega) K
theorem bM {s:LB} {k:Nat} (h:k < s.length) (K:UInt8->Oq β):gv s (k:Int) K=K s[k]:=by
 unfold gv;rw [Fb h];simp [h]
end
theorem DL: ∀{l:LA} {n:Nat} {v:AV},l[n]? =some v->ER l n=some v
 | [],_,_,h=>by simp at h
 | _:: _,0,_,h=>by simpa [ER] using h
 | _::l,n+1,_,h=>by simp only [ER];exact DL (by simpa using h)
def bF (z:Nat) (x:AV) (es:LA):Prop:=es.length<=9223372036854775807/\(((x= .aD\/x= .es)/\es=[])\/x= .sl z es .shut\/x= .sl z es .wide)
namespace bF
variable {β:Type} {z:Nat} {x:AV} {es:LA}
theorem aD:bF z .aD []:=⟨by simp,.inl ⟨.inl rfl,rfl⟩⟩
theorem emp:bF z .es []:=⟨by simp,.inl ⟨.inr rfl,rfl⟩⟩
theorem wide (h:es.length<=9223372036854775807):bF z (.sl z es .wide) es:=⟨h,.inr (.inr rfl)⟩
theorem shut (h:es.length<=9223372036854775807):bF z (.sl z es .shut) es:=⟨h,.inr (.inl rfl)⟩
theorem one (h:bF z x es):VM.one x=true:=by rcases h.2 with ⟨rfl | rfl,rfl⟩ | rfl | rfl <;> rfl
theorem bare (h:bF z x es):VM.bare x=true:=by rcases h.2 with ⟨rfl | rfl,rfl⟩ | rfl | rfl <;> rfl
theorem strip (h:bF z x es):VM.strip x=x:=by rcases h.2 with ⟨rfl | rfl,rfl⟩ | rfl | rfl <;> rfl
theorem ab (h:bF z x es) (K:Oq β):ab x K=K:=jS h.one K
theorem aB (h:bF z x es) (K:AV->Oq β):aB x K=K x:=by rcases h.2 with ⟨rfl | rfl,rfl⟩ | rfl | rfl <;> rfl
theorem len (h:bF z x es) (K:Nat->Oq β):fq x K=K es.length:=by rcases h.2 with ⟨rfl | rfl,rfl⟩ | rfl | rfl <;> rfl
theorem elems (h:bF z x es) (K:LA->Oq β):nJ x K=K es:=by rcases h.2 with ⟨rfl | rfl,rfl⟩ | rfl | rfl <;> rfl
theorem idx (h:bF z x es) {k:Nat} {v:AV} (b:es[k]? =some v) (st:St) (K:AV->Ln->Oq β):dB z x (k:Int) st K=K (.ip v.cells) []:=by
 have a:k < es.length:=(abN.1 b).1;have c:z.beq z=true:=aby z;have hi:oR (k:Int) es.length=some k:=by
  show (match k.blt es.length with | true=>some k | false=>none)= _;rw [cS.2 a]
 have hn:ER es k=some v:=DL b;have hlen:=h.1;rcases h.2 with ⟨rfl | rfl,rfl⟩ | rfl | rfl
 .simp at a
 .simp at a
 .simp only [dB,LR,c,hi,hn,ai]
 .simp only [dB,LR,c,hi,hn,ai]
theorem slice (h:bF z x es) {lo hi:Oq Int} {l m:Nat} (hl:tG lo m 0=some l) (a:tG hi es.length es.length=some m) (K:AV->Oq β):
  ∃x',bF z x' ((es.take m).drop l)/\fw z x lo hi none K=K x':=by
 have b:z.beq z=true:=aby z;have hlen:=h.1;rcases h.2 with ⟨rfl | rfl,rfl⟩ | rfl | rfl
 .have a:tG hi 0 0=some m:=a;refine ⟨.aD,⟨by simp,.inl ⟨.inl rfl,by simp⟩⟩, ?_⟩;simp only [fw,lL,show tG none 0 0=some 0 from rfl,a,hl,ai]
 .have a:tG hi 0 0=some m:=a;refine ⟨.es,⟨by simp,.inl ⟨.inr rfl,by simp⟩⟩, ?_⟩;simp only [fw,lL,show tG none 0 0=some 0 from rfl,a,hl,ai]
 .simp only [fw,lL,b,a,hl];cases e:m.beq es.length with
  | true=>
   have:=aan e;subst this;exact ⟨.sl z (es.drop l) .shut,by simpa using bF.shut (z:=z) (es:=es.drop l) (by rw [aas];omega),rfl⟩
  | false=>exact ⟨_,bF.wide (by rw [aas,aat];omega),rfl⟩
 .simp only [fw,lL,b,a,hl];cases e:m.beq es.length with
  | true=>exact ⟨_,bF.wide (by rw [aas,aat];omega),rfl⟩
  | false=>exact ⟨_,bF.wide (by rw [aas,aat];omega),rfl⟩
end bF
theorem jL {k n d:Nat} (h:k<=n):tG (some (k:Int)) n d=some k:=by
 show (match k.ble n with | true=>some k | false=>none)= _;rw [aaI h]
theorem mE {n d:Nat}:tG none n d=some d:=rfl
def jg (st:St) (z:Nat) (e:Td) (v:AV) (es:LA):Prop:=
 st.ro<=st.h/\es.length<=9223372036854775807/\(((v= .aD\/v= .es)/\es=[])\/v= .sl z es .shut\/ ∃k,v= .sl z es (.own k)/\st.get k= .ok (.tok es.length e)/\st.ro<=k)
theorem jg.aD {st:St} (h:st.ro<=st.h) (z:Nat) (e:Td):jg st z e .aD []:=⟨h,by simp,.inl ⟨.inl rfl,rfl⟩⟩
theorem jg.emp {st:St} (h:st.ro<=st.h) (z:Nat) (e:Td):jg st z e .es []:=⟨h,by simp,.inl ⟨.inr rfl,rfl⟩⟩
theorem jg.shut {st:St} (h:st.ro<=st.h) {z:Nat} (e:Td) {es:LA} (hl:es.length<=9223372036854775807):jg st z e (.sl z es .shut) es:=⟨h,hl,.inr (.inl rfl)⟩
theorem jg.one {st:St} {z:Nat} {e:Td} {v:AV} {es:LA} (h:jg st z e v es):VM.one v=true:=by
 rcases h with ⟨_,_,⟨rfl | rfl,_⟩ | rfl | ⟨k,rfl,_⟩⟩ <;> rfl
theorem St.dY {st:St} {o:Obj}:(st.add o).get st.h= .ok o:=St.gz.2 (.inl ⟨rfl,rfl⟩)
theorem St.nF {st:St} {o:Obj} {j:Nat} {x:Obj} (h:st.get j= .ok x):(st.add o).get j= .ok x:=St.gz.2 (.inr ⟨(St.cZ.1 h).1,h⟩)
structure ba (st st':St) (but:Nat->Prop):Prop where
 ro:st'.ro=st.ro
 h:st.h<=st'.h
 old: ∀j o,¬ but j->st.get j= .ok o->st'.get j= .ok o
theorem ba.refl (st:St) (but:Nat->Prop):ba st st but:=⟨rfl,aah _,fun _ _ _ h=>h⟩
theorem ba.trans {a b c:St} {p:Nat->Prop} (h:ba a b p) (k:ba b c p):ba a c p:=
 ⟨k.ro.trans h.ro,aaL h.h k.h,fun j o d e=>k.old j o d (h.old j o d e)⟩
theorem ba.add (st:St) (o:Obj) (but:Nat->Prop):ba st (st.add o) but:=⟨rfl,Nat.le_succ _,fun _ _ _ h=>St.nF h⟩
theorem ba.put {st:St} {i:Nat} {o:Obj} {but:Nat->Prop} (a:but i):ba st (st.put i o) but:=
 ⟨rfl,aah _,fun j x b h=>by
  have:i≠j:=by rintro rfl;exact b a
  rw [St.bD this];exact h⟩
def dQ (v:AV) (j:Nat):Prop:= ∃z es,v= .sl z es (.own j)
theorem nI {β:Type} {z b:Nat} {e:Td} {s:AV} {new:LA} {st:St} {v:AV} {st':St} {x:Fx} (h:vR z b e s new st=some (v,st',x)) (K:Kv β):cq z b e s new st K=K v st' x:=by
 simp only [cq,oj,h,ai]
theorem jg.not {st:St} {z:Nat} {e:Td} {v:AV} {ws:LA} {j:Nat} {t:Td} {cs:LA} (h:jg st z e v ws) (b:st.get j= .ok (.cells t cs)):¬ dQ v j:=by
 rintro ⟨z,es,rfl⟩;rcases h with ⟨_,_,⟨h | h,_⟩ | h | ⟨k,h,a,_⟩⟩
 .cases h
 .cases h
 .cases h
 .cases h;rw [b] at a;cases a
theorem jg.put {st:St} {z:Nat} {e:Td} {v:AV} {ws:LA} {j:Nat} {t t':Td} {cs cs':LA} (h:jg st z e v ws) (b:st.get j= .ok (.cells t cs)):jg (st.put j (.cells t' cs')) z e v ws:=by
 refine ⟨h.1,h.2.1, ?_⟩;rcases h.2.2 with h | h | ⟨k,c,a,d⟩
 .exact .inl h
 .exact .inr (.inl h)
 .refine .inr (.inr ⟨k,c, ?_,d⟩);have:j≠k:=by rintro rfl;rw [b] at a;cases a
  rw [St.bD this];exact a
theorem rZ {st:St} {z b:Nat} {e:Td} {v:AV} {es new:LA} (h:jg st z e v es) (hn:new≠[]) (c:fo (es.length+new.length) ⟨.other,z,b,[],false,false⟩=true):
  ∃v' st' x,vR z b e v new st=some (v',st',x)/\jg st' z e v' (es++new)/\ba st st' (dQ v)/\(∀j,dQ v' j->dQ v j\/st.h<=j):=by
 have hlen:(es++new).length<=9223372036854775807:=by
  simp only [fo,aaf] at c;rw [aaa];exact aaL (aaq c.2.2) (by omega)
 have g:z.beq z=true:=aby z;cases new with
 | nil=>exact absurd rfl hn
 | cons a l=>
  have fresh: ∀n,n=(es++a::l).length->vR z b e v (a::l) st=xR st (.tok n e) (fun k=> .sl z (es++a::l) (.own k))-> ∃v' st' x,vR z b e v (a::l) st=some (v',st',x)/\jg st' z e v' (es++a::l)/\ba st st' (dQ v)/\(∀j,dQ v' j->dQ v j\/st.h<=j):=by
   intro n hn m;refine ⟨.sl z (es++a::l) (.own st.h),st.add (.tok n e),⟨[],.made st.h (.tok n e)⟩,m,⟨acn h.1,hlen,.inr (.inr ⟨st.h,rfl, ?_,h.1⟩)⟩,ba.add _ _ _, ?_⟩
   .rw [<- hn];exact St.dY
   .rintro j ⟨o,f,e⟩;cases e;exact .inr (aah _)
  rcases h.2.2 with ⟨rfl | rfl,rfl⟩ | rfl | ⟨k,rfl,i,d⟩
  .simp only [aae,aau] at c;exact fresh (a::l).length rfl (by simp only [vR,c,aaj])
  .simp only [aae,aau] at c;exact fresh (a::l).length rfl (by simp only [vR,c,aaj])
  .exact fresh (es.length+(a::l).length) (by rw [aaa]) (by simp only [vR,c,g,aaW])
  .have h1:(es.length.beq es.length&&Nat.beq e e)=true:=by simp
   have p:(st.ro.ble k)=true:=aaI d;refine ⟨.sl z (es++a::l) (.own k),st.put k (.tok (es.length+(a::l).length) e),⟨[k],.wrote k (.tok (es.length+(a::l).length) e)⟩, ?_,⟨h.1,hlen,.inr (.inr ⟨k,rfl, ?_,d⟩)⟩,ba.put ⟨z,es,rfl⟩, ?_⟩
   .simp only [vR,c,g,aaW,i,h1,mC,p]
   .rw [St.bx (St.cZ.1 i).1,aaa]
   .rintro j ⟨o,f,e⟩;cases e;exact .inl ⟨_,_,rfl⟩
theorem P2 {β:Type} {st:St} {z:Nat} {e:Td} {v:AV} {es:LA} (h:jg st z e v es): ∃x,bF z x es/\ ∀(K:AV->Oq β),eQ st 0 v K=K x:=by
 rcases h with ⟨_,hl,⟨rfl | rfl,rfl⟩ | rfl | ⟨k,rfl,_,_⟩⟩
 .exact ⟨.aD,bF.aD,fun _=>rfl⟩
 .exact ⟨.es,bF.emp,fun _=>rfl⟩
 .exact ⟨.sl z es .shut,bF.shut hl,fun _=>rfl⟩
 .exact ⟨.sl z es .wide,bF.wide hl,fun _=>rfl⟩
theorem aG {β:Type} {E:Env} {f:FuncId} {args:LA} {v:AV} (st:St) (K:Kv β) (hf:E.full f=false) (hs:args.map strip=args) (a:bN args=true) (h:(aY E).bare f args=some v):
  aV (aY E) f args st K=K v st q0:=by
 have h1:(bN (args.map strip)&& !(aY E).full f)=true:=by
  rw [hs,a];show (true&& !E.full f)=true;rw [hf];rfl
 unfold aV oj B1;rw [h1,hs,h];rfl
theorem fh {β:Type} {E:Env} {f:FuncId} {args:LA} {v:AV} {st st':St} (K:Kv β) (hl:E.isLook f=false) (a:(bN (args.map strip)&& !E.full f)=false) (h:(aY E).wide f args st=some (v,st')):
  aV (aY E) f args st K=K v st' ⟨[],.all st st'⟩:=by
 have h1:(bN (args.map strip)&& !(aY E).full f)=false:=a;have b:(aY E).isLook f=false:=hl;unfold aV oj B1;rw [h1,b,h];rfl
theorem wrap_i64 {n:Int} (h1: -9223372036854775808<=n) (a:n<=9223372036854775807):IntKind.wrap .i64 n=n:=by
 have e:IntKind.wrap .i64 n=if n % 18446744073709551616>=9223372036854775808 then n % 18446744073709551616 - 18446744073709551616 else n % 18446744073709551616:=by
  show (if (true&&decide (n % (2 ^ 64:Int)>=(2 ^ 63:Int)))=true then n % (2 ^ 64:Int) - (2 ^ 64:Int) else n % (2 ^ 64:Int))= _;simp
 rw [e];split <;> omega
theorem drop_cons {α:Type} {l m:List α} {i:Nat} {v:α} (h:l.drop i=v::m):l[i]? =some v/\l.drop (i+1)=m/\i < l.length:=by
 have h1:(l.drop i)[0]? =some v:=by rw [h];rfl
 rw [abG] at h1;refine ⟨by simpa using h1, ?_, ?_⟩
 .rw [<- abD,h];rfl
 .exact (abN.1 (by simpa using h1)).1
end Go.VM
namespace Go.VM
open Go
section
variable {β α:Type}
@[congr] theorem UQ {a a':α} {K:α->Oq β} (h:a=a'):aN a K=aN a' K:=by rw [h]
@[congr] theorem VA {k:IntKind} {v v':AV} {K:Int->Oq β} (h:v=v'):bj k v K=bj k v' K:=by rw [h]
@[congr] theorem VL {v v':AV} {K:Bool->Oq β} (h:v=v'):bG v K=bG v' K:=by rw [h]
@[congr] theorem VT {v v':AV} {K:LB->Oq β} (h:v=v'):dN v K=dN v' K:=by rw [h]
@[congr] theorem Tz {v v':AV} {K:Int->Oq β} (h:v=v'):anyI v K=anyI v' K:=by rw [h]
@[congr] theorem VS {v v':AV} {K:LA->Oq β} (h:v=v'):Bu v K=Bu v' K:=by rw [h]
@[congr] theorem VG {v v':AV} {K:LA->Oq β} (h:v=v'):gN v K=gN v' K:=by rw [h]
@[congr] theorem Vz {v v':LA} {K:AV->LA->Oq β} (h:v=v'):bg v K=bg v' K:=by rw [h]
@[congr] theorem VU {v v':LA} {K:Oq β} (h:v=v'):bB v K=bB v' K:=by rw [h]
@[congr] theorem VP {v v':Bool} {K:Oq β} (h:v=v'):cg v K=cg v' K:=by rw [h]
@[congr] theorem VD {v v':Bool} {x y:Oq β} (h:v=v'):aX v x y=aX v' x y:=by rw [h]
@[congr] theorem R3 {v v':Oq α} {K:α->Oq β} (h:v=v'):ax v K=ax v' K:=by rw [h]
@[congr] theorem Sf {v v':Sum α β} {K:α->Oq β} (h:v=v'):ke v K=ke v' K:=by rw [h]
@[congr] theorem Ul {n n':Nat} {a:Oq β} {b:Nat->Oq β} (h:n=n'):mR n a b=mR n' a b:=by rw [h]
@[congr] theorem RP {v v':AV} {K:Oq β} (h:v=v'):ab v K=ab v' K:=by rw [h]
@[congr] theorem TP {l l':LA} {n:Nat} {K:AV->Oq β} (h:l=l'):cr l n K=cr l' n K:=by rw [h]
@[congr] theorem Uj {o:Nat} {v v':AV} {K:AV->Oq β} (h:v=v'):cV o v K=cV o v' K:=by rw [h]
@[congr] theorem R2 {z:Nat} {g:Bool} {v v':AV} {st st':St} {K:AV->Ln->Oq β} (h:v=v') (h':st=st'):ar z g v st K=ar z g v' st' K:=by rw [h,h']
@[congr] theorem Vc {v v':AV} {K:AV->Oq β} (h:v=v'):aB v K=aB v' K:=by rw [h]
@[congr] theorem Su {v v':AV} {K:Oq β} (h:v=v'):NF v K=NF v' K:=by rw [h]
@[congr] theorem SR {v v':AV} {K:Nat->Oq β} (h:v=v'):fq v K=fq v' K:=by rw [h]
@[congr] theorem Pw {v v':AV} {K:LA->Oq β} (h:v=v'):nJ v K=nJ v' K:=by rw [h]
@[congr] theorem SD {z:Nat} {v v':AV} {i i':Int} {st st':St} {K:AV->Ln->Oq β} (h:v=v') (h1:i=i') (h2:st=st'):dB z v i st K=dB z v' i' st' K:=by rw [h,h1,h2]
@[congr] theorem RO {v v':LB} {i i':Int} {K:UInt8->Oq β} (h:v=v') (h1:i=i'):gv v i K=gv v' i' K:=by rw [h,h1]
@[congr] theorem Pa {i i':Int} {n n':Nat} {K:Nat->Oq β} (h:i=i') (h1:n=n'):mc i n K=mc i' n' K:=by rw [h,h1]
@[congr] theorem Sb {i i':Int} {n n':Nat} {K:Nat->Oq β} (h:i=i') (h1:n=n'):eJ i n K=eJ i' n' K:=by rw [h,h1]
@[congr] theorem RJ {z:Nat} {v v':AV} {a a' b b' c c':Oq Int} {K:AV->Oq β} (h:v=v') (h1:a=a') (h2:b=b') (h3:c=c'):fw z v a b c K=fw z v' a' b' c' K:=by rw [h,h1,h2,h3]
@[congr] theorem TK {z b:Nat} {e:Td} {v v':AV} {n n':LA} {st st':St} {K:Kv β} (h:v=v') (h1:n=n') (h2:st=st'):cq z b e v n st K=cq z b e v' n' st' K:=by rw [h,h1,h2]
@[congr] theorem RT {g:Bool} {l l':LA} {K:LA->Oq β} (h:l=l'):mJ g l K=mJ g l' K:=by rw [h]
@[congr] theorem Si {O:tN} {f:FuncId} {l l':LA} {st st':St} {K:Kv β} (h:l=l') (h1:st=st'):aV O f l st K=aV O f l' st' K:=by rw [h,h1]
@[congr] theorem Sq {O:tN} {p p':cY dI} {st st':St} {K:Kv β} (h:p=p') (h1:st=st'):cX O p st K=cX O p' st' K:=by rw [h,h1]
@[congr] theorem Sn {O:tN} {pr:FuncId->Oq Prim} {f f':AV} {l l':LA} {st st':St} {K:Kv β} (h0:f=f') (h:l=l') (h1:st=st'):jx O pr f l st K=jx O pr f' l' st' K:=by rw [h0,h,h1]
@[congr] theorem RI {O:tN} {z:Nat} {a a' v v':AV} {l l':LA} {st st':St} {K:Kv β} (h0:a=a') (h2:v=v') (h:l=l') (h1:st=st'):bm O z a v l st K=bm O z a' v' l' st' K:=by rw [h0,h2,h,h1]
@[congr] theorem Vh {st st':St} {b:Nat} {v v':AV} {K:AV->Oq β} (h1:st=st') (h:v=v'):eQ st b v K=eQ st' b v' K:=by rw [h1,h]
@[congr] theorem S7 {st st':St} {o o':Obj} {f:Nat->AV} {K:Kv β} (h1:st=st') (h:o=o'):made st o f K=made st' o' f K:=by rw [h1,h]
@[congr] theorem T5 {u:U} {v v' w w':AV} {K:Bool->Oq β} (h:v=v') (h1:w=w'):NM u v w K=NM u v' w' K:=by rw [h,h1]
@[congr] theorem Sj {a a':St} {K:St->Oq β} (h:a=a'):bk a K=bk a' K:=by rw [h]
@[simp] theorem bQ (a:St) (K:St->Oq β):bk a K=K a:=id rfl
end
theorem aJ {σ β:Type} {F:σ->Oq (Sum σ β)} {s s':σ} (h:F s=some (.inl s')):aH F s=aH F s':=by rw [oo,h]
theorem aF {σ β:Type} {F:σ->Oq (Sum σ β)} {s:σ} {r:β} (h:F s=some (.inr r)):aH F s=some r:=by rw [oo,h]
def Fz (d:Nat) (v:AV):Prop:= ∀st base n,d<=n->freeze st base n v= .ok v
theorem Fz.mono {d e:Nat} {v:AV} (h:Fz d v) (hd:d<=e):Fz e v:=fun st base n hn=>h st base n (aaL hd hn)
theorem PY (b:Bool):Fz 1 (.bool b):=fun _ _ n hn=>by cases n with | zero=>omega | succ n=>rfl
theorem ku (k:IntKind) (m:Int):Fz 1 (.int k m):=fun _ _ n hn=>by cases n with | zero=>omega | succ n=>rfl
theorem Ec (s:LB):Fz 1 (.str s):=fun _ _ n hn=>by cases n with | zero=>omega | succ n=>rfl
theorem Kl:Fz 1 .aD:=fun _ _ n hn=>by cases n with | zero=>omega | succ n=>rfl
theorem WL:Fz 1 .es:=fun _ _ n hn=>by cases n with | zero=>omega | succ n=>rfl
theorem Rk (z:Nat) (es:LA):Fz 1 (.sl z es .wide):=fun _ _ n hn=>by cases n with | zero=>omega | succ n=>rfl
theorem Qo (z:Nat) (es:LA):Fz 1 (.sl z es .shut):=fun _ _ n hn=>by cases n with | zero=>omega | succ n=>rfl
theorem Kg {z:Nat} {x:AV} {es:LA} (h:bF z x es):Fz 1 x:=by
 rcases h.2 with ⟨rfl | rfl,rfl⟩ | rfl | rfl
 .exact Kl
 .exact WL
 .exact Qo _ _
 .exact Rk _ _
theorem DE {st:St} {base n d:Nat} (hn:d<=n): ∀{cs:LA},(∀c∈cs,Fz d c)->kF (freeze st base n) cs= .ok cs
 | [],_=>rfl
 | c::cs,h=>by
  have h1:=h c (by simp) st base n hn;have a:=DE (st:=st) (base:=base) hn fun c b=>h c (aak _ b);simp only [kF,h1,a,aA,aI]
theorem M4 {d:Nat} {cs:LA} (h: ∀c∈cs,Fz d c):Fz (d+1) (.agg cs):=fun st base n hn=>by
 cases n with
 | zero=>omega
 | succ n=>
  show (do pure (.agg (<- kF (freeze st base n) cs)):cY AV)= _;rw [DE (by omega) h];rfl
theorem Uf {d:Nat} {cs:LA} (h: ∀c∈cs,Fz d c):Fz (d+1) (.tup cs):=fun st base n hn=>by
 cases n with
 | zero=>omega
 | succ n=>
  show (do pure (.tup (<- kF (freeze st base n) cs)):cY AV)= _;rw [DE (by omega) h];rfl
theorem T4 {β:Type} {d:Nat} {v:AV} (h:Fz d v) (hd:d<=100) (a:bare v=true) (st:St) (base:Nat) (K:AV->Oq β):eQ st base v K=K v:=by
 simp only [eQ,h st base 100 hd,a,aQ]
theorem eI {β:Type} {O:tN} {st:St} {id off:Nat} {t:Td} {old:LA} {z:Nat} {v:AV} {cs:LA} (b:st.get id= .ok (.cells t old)) (c:cs.length=z) (hl:off+cs.length<=old.length) (a:st.ro<=id) (K:Kv β):
  bm O z (.mp id off) v cs st K=K undef (st.put id (.cells t (dj old off cs))) ⟨[id],.wrote id (.cells t (dj old off cs))⟩:=by
 have h1:cs.length.beq z=true:=by rw [c];exact aby z
 simp only [bm,oj,HC,h1,b,aaI hl,mC,aaI a,ai,SO]
theorem kP {old cs:LA} (h:cs.length=old.length):dj old 0 cs=cs:=by
 simp only [dj,List.take_zero,aaj,aau];rw [h,List.drop_length,aaw]
theorem ry {O:tN} {st:St} {t:Td} {z:Nat} {old cs:LA} (v:AV) (hl:old.length=z) (c:cs.length=z) (a:st.ro<=st.h):
  ∃st',st'.get st.h= .ok (.cells t cs)/\ba st st' (fun _=>False)/\st'.h=st.h+1/\ ∃d,∀{β:Type} (K:Kv β),bm O z (.mp st.h 0) v cs (st.add (.cells t old)) K=K undef st' d:=by
 have e:(st.add (.cells t old)).get st.h= .ok (.cells t old):=St.dY;refine ⟨(st.add (.cells t old)).put st.h (.cells t cs),St.bx (abt _),⟨rfl,Nat.le_succ _,fun j o _ b=> ?_⟩,rfl,⟨[st.h],.wrote st.h (.cells t (dj old 0 cs))⟩,fun K=> ?_⟩
 .have f:=(St.cZ.1 b).1;rw [St.bD (by omega)];exact St.nF b
 .rw [eI e c (by omega) a];rw [kP (by omega)]
theorem bF.cut {z:Nat} {x:AV} {es:LA} (h:bF z x es) {lo hi:Oq Int} {l m:Nat} (hl:tG lo m 0=some l) (a:tG hi es.length es.length=some m):
  ∃x',bF z x' ((es.take m).drop l)/\ ∀{β:Type} (K:AV->Oq β),fw z x lo hi none K=K x':=by
 obtain ⟨x',hx,e⟩:=h.slice hl a (some:AV->Oq AV);refine ⟨x',hx,fun K=> ?_⟩;have e:ax (lL z x lo hi none) some=some x':=e;show ax (lL z x lo hi none) K= _;cases hs:lL z x lo hi none with
 | none=>rw [hs] at e;cases e
 | some u=>rw [hs] at e;cases e;rfl
@[simp] theorem dm (r:Ln):apart ⟨r,.kept⟩ q0=true:=id rfl
@[simp] theorem dq (r:Ln):apart q0 ⟨r,.kept⟩=true:=id rfl
theorem zX {cs:LA}:bare (.agg cs)=bN cs:=rfl
theorem Oi {cs:LA}:bare (.tup cs)=bN cs:=rfl
def zd (st:St) (u8:Td) (a:AV) (out:LB):Prop:=(a= .aD/\out=[])\/ ∃k,a= .sl 1 (ofBytes out) (.own k)/\st.get k= .ok (.tok out.length u8)/\st.ro<=k/\out≠[]
def R6 (st:St) (T u8:Td) (p:Nat) (pre post:LA) (out:LB):Prop:=
 ∃a b,st.get p= .ok (.cells T (pre++a::b::post))/\(a= .nilp\/a= .mp p pre.length)/\zd st u8 b out/\st.ro<=p
structure iA (st st':St) (u8:Td) (p:Nat):Prop where
 ro:st'.ro=st.ro
 h:st.h<=st'.h
 old: ∀j o,j≠p->(∀n,o≠ .tok n u8)->st.get j= .ok o->st'.get j= .ok o
theorem iA.refl (st:St) (u8:Td) (p:Nat):iA st st u8 p:=⟨rfl,aah _,fun _ _ _ _ h=>h⟩
theorem iA.trans {a b c:St} {u8:Td} {p:Nat} (h:iA a b u8 p) (k:iA b c u8 p):iA a c u8 p:=
 ⟨k.ro.trans h.ro,aaL h.h k.h,fun j o d ho e=>k.old j o d ho (h.old j o d ho e)⟩
theorem iA.put {st:St} {u8:Td} {p:Nat} {o:Obj}:iA st (st.put p o) u8 p:=⟨rfl,aah _,fun j x a _ b=>by rw [St.bD (fun e=>a e.symm)];exact b⟩
theorem R6.G0 {st st':St} {T u8:Td} {p:Nat} {pre post:LA} {out:LB} (h:R6 st T u8 p pre post out) (k:ba st st' fun _=>False):R6 st' T u8 p pre post out:=by
 obtain ⟨b,c,h1,d,a,h4⟩:=h;refine ⟨b,c,k.old _ _ (fun h=>h) h1,d, ?_,by rw [k.ro];exact h4⟩;rcases a with a | ⟨j,e,f,g,hn⟩
 .exact .inl a
 .exact .inr ⟨j,e,k.old _ _ (fun h=>h) f,by rw [k.ro];exact g,hn⟩
theorem zd.put {st:St} {u8:Td} {a:AV} {out:LB} {p:Nat} {T:Td} {cs cs':LA} (h:zd st u8 a out) (c:st.get p= .ok (.cells T cs)):zd (st.put p (.cells T cs')) u8 a out:=by
 rcases h with h | ⟨k,h1,b,d,h4⟩
 .exact .inl h
 .refine .inr ⟨k,h1, ?_,d,h4⟩;have:p≠k:=by rintro rfl;rw [c] at b;cases b
  rw [St.bD this];exact b
theorem zi (a b:LB):ofBytes (a++b)=ofBytes a++ofBytes b:=aaK
theorem eN (a:LB):(ofBytes a).length=a.length:=aay _
theorem qO: ∀(s:LB),fA (ofBytes s)= .ok s
 | []=>rfl
 | b::l=>by
  have ih:=qO l;show (match b.toNat.blt 256 with | true=>(do pure (UInt8.ofNat b.toNat::(<- fA (ofBytes l))):cY LB) | false=> .error "no byte")= _;rw [cS.2 (UInt8.toNat_lt b),ih];show Except.ok (UInt8.ofNat b.toNat::l)= _;simp
section
variable {β:Type} {O:tN}
theorem xk: ∀(s:LB) (K:LA->Oq β),mJ false (ofBytes s) K=K (ofBytes s)
 | [],_=>rfl
 | b::l,K=>by
  show aB (.int .u8 b.toNat) (fun v'=>mJ false (ofBytes l) fun a=>K (v'::a))= _;rw [F8,xk l];rfl
theorem xO: ∀(s:LB),mg 1 (ofBytes s)=true
 | []=>rfl
 | b::l=>by
  have:=xO l;simp only [mg,ofBytes,aal,abU] at this ⊢;rw [this];rfl
theorem CX (pre post:LA) (a:AV):fy (pre++a::post) pre.length= .ok a:=by
 induction pre with
 | nil=>rfl
 | cons v l ih=>exact ih
theorem yR (pre post:LA) (a b:AV):fy (pre++a::b::post) (pre.length+1)= .ok b:=by
 induction pre with
 | nil=>rfl
 | cons v l ih=>exact ih
theorem L0 (pre post:LA) (a b:AV):(pre++a::b::post).drop (pre.length+1)=b::post:=by
 induction pre with
 | nil=>rfl
 | cons v l ih=>exact ih
theorem Bs (pre post:LA) (a x:AV):dj (pre++a::post) pre.length [x]=pre++x::post:=by
 simp [dj,List.drop_append]
theorem FV (pre post:LA) (a b x:AV):dj (pre++a::b::post) (pre.length+1) [x]=pre++a::x::post:=by
 have:=Bs (pre++[a]) post b x;simpa using this
theorem Ek {st:St} {L:List (Td×Nat×Nat)} {T u8:Td} {p:Nat} {pre post:LA} {out:LB} (h:R6 st T u8 p pre post out) (hl:El L T (pre++ .nilp:: .aD::post).length pre.length=true):
  ∃st' a,st'.get p= .ok (.cells T (pre++ .mp p pre.length::a::post))/\zd st' u8 a out/\st'.ro<=p/\iA st st' u8 p/\st'.h=st.h/\ ∃d,∀{β:Type} (K:Kv β),cX O (dy (.copyCheck L) [.mp p pre.length]) st K=K (.tup []) st' d:=by
 obtain ⟨e,a,h1,f,c,h4⟩:=h;have b:El L T (pre++e::a::post).length pre.length=true:=by simpa using hl
 rcases f with rfl | rfl
 .refine ⟨st.put p (.cells T (pre++ .mp p pre.length::a::post)),a,St.bx (St.cZ.1 h1).1,c.put h1,h4,iA.put,rfl,⟨[p],.wrote p (.cells T (pre++ .mp p pre.length::a::post))⟩,fun K=> ?_⟩;simp only [cX,oj,dy,qU,h1,nc,aA,b,CX,aI,Bs,mC,aaI h4,ai]
 .refine ⟨st,a,h1,c,h4,iA.refl _ _ _,rfl,⟨[p],.kept⟩,fun K=> ?_⟩;simp only [cX,oj,dy,qU,h1,nc,aA,b,CX,aI,aby,aaW,ai]
theorem HD {st:St} {T u8:Td} {p:Nat} {pre post:LA} {out:LB} (h:R6 st T u8 p pre post out) (ho:out.length < 4611686018427387904) (K:Kv β):
  ∃a,cX O (dy (.builderString u8) [.mp p pre.length]) st K=K (.str out) st a:=by
 obtain ⟨i,j,h1,m,c,h4⟩:=h;rcases c with ⟨rfl,rfl⟩ | ⟨k,rfl,d,e,hn⟩
 .refine ⟨⟨[],.looked⟩, ?_⟩;simp only [cX,oj,dy,qU,h1,cellsOf,aA,yR,aI,ai]
 .refine ⟨⟨[],.looked⟩, ?_⟩;have f:(ofBytes out).isEmpty=false:=by
   cases out with
   | nil=>exact absurd rfl hn
   | cons b l=>rfl
  have g:(Nat.beq u8 u8&&Nat.beq out.length (ofBytes out).length&& !(ofBytes out).isEmpty&&Nat.blt out.length 4611686018427387904)=true:=by
   rw [eN,f,cS.2 ho,aby,aby];rfl
  simp only [cX,oj,dy,qU,h1,cellsOf,aA,yR,aI,ai,aaI e,d,g,qO]
noncomputable def M5 (O:tN) (L:List (Td×Nat×Nat)) (u8:Td):AV->AV->St->Oq (AV×St):=fun a g st=>dN g fun l0=>cX O (dy (Prim.copyCheck L) [a]) st fun _x st2 _x_1=>cg (notNil a) (cV 1 a fun h=>
 ar 1 false h st2 fun i _x=>mJ false (ofBytes l0) fun f=>cg (mg 1 f) (cq 1 1 u8 i f st2 fun c d _x=>cg (notNil a) (cV 1 a fun e=>ab c (ab c (bm
 O 1 e c [c] d fun _x b _x_2=>some (AV.tup [AV.int .i64 (↑(List.length l0):Int),AV.nili],b))))))
theorem QZ {st:St} {u8:Td} {a:AV} {out s:LB} (h:zd st u8 a out) (hl:out.length+s.length<=70368744177664) (g:st.ro<=st.h):
  ∃v st',zd st' u8 v (out++s)/\one v=true/\st'.ro=st.ro/\st.h<=st'.h/\(∀j o,(∀n,o≠ .tok n u8)->st.get j= .ok o->st'.get j= .ok o)/\ ∃l,∀{β:Type} (K:Kv β),cq 1 1 u8 a (ofBytes s) st K=K v st' l:=by
 have room: ∀n,n<=70368744177664->fo n ⟨.other,1,1,[],false,false⟩=true:=fun n hn=>by
  simp only [fo,Nat.mul_one,aaI hn];rfl
 cases s with
 | nil=>
  refine ⟨a,st,by simpa using h, ?_,rfl,aah _,fun _ _ _ h=>h,q0,fun K=> ?_⟩
  .rcases h with ⟨rfl,_⟩ | ⟨k,rfl,_⟩ <;> rfl
  .rcases h with ⟨rfl,rfl⟩ | ⟨k,rfl,f,c,hn⟩ <;> rfl
 | cons b s=>
  rcases h with ⟨rfl,rfl⟩ | ⟨k,rfl,f,c,hn⟩
  .have c:=room (ofBytes (b::s)).length (by rw [eN];simpa using hl);refine ⟨.sl 1 (ofBytes (b::s)) (.own st.h),st.add (.tok (ofBytes (b::s)).length u8),.inr ⟨st.h,rfl, ?_,g,by simp⟩,rfl,rfl,Nat.le_succ _,fun j o _ d=>St.nF d,⟨[],.made st.h (.tok (ofBytes (b::s)).length u8)⟩,fun K=> ?_⟩
   .rw [eN];exact St.dY
   .exact nI (by simp only [ofBytes,aal] at c ⊢;simp only [vR,c];rfl) K
  .have e:=room ((ofBytes out).length+(ofBytes (b::s)).length) (by rw [eN,eN];exact hl);refine ⟨.sl 1 (ofBytes (out++b::s)) (.own k),st.put k (.tok ((ofBytes out).length+(ofBytes (b::s)).length) u8),.inr ⟨k,rfl, ?_,c,by simp⟩,rfl,rfl,aah _,fun j o ho d=> ?_,⟨[k],.wrote k (.tok ((ofBytes out).length+(ofBytes (b::s)).length) u8)⟩,fun K=> ?_⟩
   .rw [St.bx (St.cZ.1 f).1,eN,eN,aaa]
   .have:k≠j:=by rintro rfl;rw [f] at d;cases d;exact ho _ rfl
    rw [St.bD this];exact d
   .have i:(Nat.beq out.length (ofBytes out).length&&Nat.beq u8 u8)=true:=by rw [eN,aby,aby];rfl
    have m:Nat.beq 1 1=true:=rfl;refine nI ?_ K;rw [zi];simp only [ofBytes,aal] at e i ⊢;simp only [vR,e,m,aaW,f,i,mC,aaI c]
theorem L4 {st:St} {L:List (Td×Nat×Nat)} {T u8:Td} {p:Nat} {pre post:LA} {out s:LB} (h:R6 st T u8 p pre post out) (hl:El L T (pre++ .nilp:: .aD::post).length pre.length=true)
  (hlen:out.length+s.length<=70368744177664) (d:st.ro<=st.h):
  ∃st',M5 O L u8 (.mp p pre.length) (.str s) st=some (.tup [.int .i64 (s.length:Int),.nili],st')/\R6 st' T u8 p pre post (out++s)/\iA st st' u8 p:=by
 obtain ⟨st2,A,h1,m,k,h4,q,B,f⟩:=Ek (O:=O) h hl;obtain ⟨v,b,r,t,g,u,l,w,c⟩:=QZ (s:=s) m hlen (by rw [h4.ro,q];exact d);have a:=l p _ (by intro n;simp) h1;have i:=fun (K:Kv (AV×St))=>eI (O:=O) (z:=1) (v:=v) (cs:=[v]) (off:=pre.length+1) a rfl (by simp;omega) (by rw [g];exact k) K;refine ⟨b.put p (.cells T (pre++ .mp p pre.length::v::post)), ?_,⟨_,v,St.bx (St.cZ.1 a).1,.inr rfl,r.put a,by show b.ro<=p;rw [g];exact k⟩, ?_⟩
 .simp only [M5,ao,f,notNil,aQ,bE,bh h1,L0,aL,ai,xk,xO,c,jS t,i,FV]
 .exact h4.trans ⟨g,u,fun j o x ho y=>by
   rw [St.bD (fun e=>x e.symm)];exact l j o ho y⟩
end
end Go.VM
