/-
  (A part of the proof: Exec, Body, Call, Caller, Table, Mono, Sh, ShOk, ShOk2, ShOk3, ShOk4, ShOk5, Rnd, Kit, Kit2, KitB.)
-/
import Derived.Test.YtgecmbapkplklaaGreatDoorVmAA
import Derived.Test.YtgecmbapkplklaaGreatDoorVmAI
import Derived.LoopN
import Derived.Scope
import Derived.RangeFuncLeaves
import Derived.RangeFuncRecord
set_option linter.unusedSimpArgs false
namespace Go.VM
def Ex.to:Ex->Exit
 | .normal=> .normal
 | .exit id=> .exit id
 | .ret=> .ret
section
variable {P:Program}
theorem Kp.sub {A A':Nat->Prop} {g g':Gh} {w w':World} (h:Kp A' g w g' w') (hs: ∀b,A' b->A b):Kp A g w g' w':=
 ⟨h.size,fun b hb=>h.heap b fun k=>hb (hs b k),fun b hb=>h.F b fun k=>hb (hs b k),fun b hb=>h.M b fun k=>hb (hs b k),h.le,h.rest⟩
structure Nx (A:Nat->Prop) (g:Gh) (a:Act) (w:World) (A':Nat->Prop) (g':Gh) (a':Act) (w':World):Prop where
 sub: ∀b,A' b->A b
 kp:Kp A g w g' w'
 defs: ∀d∈a'.defers,d∈a.defers\/ ∃D,d=mark D/\A D
theorem Nx.refl (A:Nat->Prop) (g:Gh) (a:Act) (w:World):Nx A g a w A g a w:=⟨fun _ h=>h,Kp.refl _ _ _,fun _ h=> .inl h⟩
theorem Nx.trans {A c e:Nat->Prop} {g g1 g2:Gh} {a f a2:Act} {w i j:World} (h:Nx A g a w c g1 f i) (k:Nx c g1 f i e g2 a2 j):Nx A g a w e g2 a2 j:=
 ⟨fun b hb=>h.sub b (k.sub b hb),h.kp.trans (k.kp.sub h.sub),fun d hd=>by
  rcases k.defs d hd with hd | ⟨D,rfl,l⟩
  .exact h.defs d hd
  .exact .inr ⟨D,rfl,h.sub D l⟩⟩
theorem xY {X:Cx} {ro:Option Nat} {c:Code} {body:Fr->St->db (Ex×Fr×St)}
  (hb: ∀A fr st ex fr' st' g a w (Q:Exit->Act->World->Prop),body fr st= .ok (ex,fr',st')->Rel X A ro g fr st a w->(∀A' g' a' w',Rel X A' ro g' fr' st' a' w'->Nx A g a w A' g' a' w'->Q ex.to a' w')->c.wpIn (fe ro) 0 P Q a w):
  ∀(n:Nat) {A:Nat->Prop} {fr fr':Fr} {st st':St} {ex:Ex} {g:Gh} {a:Act} {w:World} {Q:Exit->Act->World->Prop},iter body n fr st= .ok (ex,fr',st')->Rel X A ro g fr st a w->(∀A' g' a' w',Rel X A' ro g' fr' st' a' w'->Nx A g a w A' g' a' w'->Q ex.to a' w')->Code.roundsIn (fe ro) 0 P c Q n a w
 | 0,_,_,_,_,_,_,_,_,_,_,h,_,_=>by simp [iter] at h
 | n+1,A,fr,fr',st,st',ex,g,a,w,Q,h,hr,f=>by
  simp only [iter,ag] at h;obtain ⟨⟨d,i,st1⟩,h1,h2⟩:=h;rw [roundsIn_succ];refine hb A fr st d i st1 g a w _ h1 hr fun A' g' a' w' b hk=> ?_;cases d with
  | normal=>exact xY hb n h2 b fun j k l m e o=>f j k l m e (hk.trans o)
  | exit id=>
   simp only [au,WV] at h2;obtain ⟨rfl,rfl,rfl⟩:=h2;exact f A' g' a' w' b hk
  | ret=>
   simp only [au,WV] at h2;obtain ⟨rfl,rfl,rfl⟩:=h2;exact f A' g' a' w' b hk
theorem Rx {T:TT} {A:Nat->Prop} {g:Gh} {st:St} {w:World} (h:Inv T A g st w) {l:Nat} {o:Go.Obj} (hl:w.heap[l]? =some o) (ho: ∀vs ty fz,o≠ .cells vs ty fz) (k:Nat):g.F l k=none:=by
 cases hf:g.F l k with
 | none=>rfl
 | some v=>
  obtain ⟨vs,ty,fz,h1,_⟩:=nQ (h.F l k v hf);rw [hl] at h1;exact absurd (X4 h1) (ho vs ty fz)
theorem Qg {T:TT} {A:Nat->Prop} {g:Gh} {st:St} {w:World} (h:Inv T A g st w) {l:Nat} {o:Go.Obj} (hl:w.heap[l]? =some o) (ho: ∀es clk,o≠ .map es clk):g.M l=none:=by
 cases hm:g.M l with
 | none=>rfl
 | some v=>
  have h1:=h.M l v.1 v.2 hm;rw [hl] at h1;exact absurd (X4 h1) (ho _ _)
theorem Inv.turn {T:TT} {A:Nat->Prop} {g:Gh} {st:St} {w:World} (h:Inv T A g st w) {k l:Nat} {imm:TypeId->Bool} {ps:List Tmp} {x c:Code} {fr:Fr} {s:Nat} {p:Ex} (hk:st.get k= .ok (.loop imm ps x c fr s p)) (hE:g.E k=some (.gf l)) {r:Loop} (hl:w.heap[l]? =some (.loop r)) (hA:A l)
  (r':Loop) (o':Obj) (a: ∀b',At g k o' b'->b'=l) (ho:Holds T g (w.putObj l (.loop r')) k o'):Inv T A g (st.put k o') (w.putObj l (.loop r'))/\Kp A g w g (w.putObj l (.loop r')):=by
 have hne: ∀b',b'≠l->(w.putObj l (.loop r')).heap[b']? =w.heap[b']? :=fun b' hb=>World.putObj_heap_other hb;exact ⟨h.write hk (show g.E k=some (.gf l) from hE) o' World.putObj_size hne (fun j v hv=>by rw [Rx h hl (fun _ _ _ e=>by cases e) j] at hv;cases hv) (Qg h hl fun _ _ e=>by cases e) a ho,
  Kp.write hA World.putObj_size hne⟩
theorem ow {k s0 s1:Nat} {p:Ex} {st st':St} (h:qy k s0 s1 p st= .ok st'): ∃imm ps x c fr p0,st.get k= .ok (.loop imm ps x c fr s0 p0)/\st'=st.put k (.loop imm ps x c fr s1 p):=by
 simp only [qy,ag] at h;obtain ⟨o,h1,h2⟩:=h;split at h2
 .rename_i imm ps x c fr s p0;split at h2
  .rename_i hs;have hs:=W2 hs;subst hs;cases h2;exact ⟨imm,ps,x,c,fr,p0,h1,rfl⟩
  .cases h2
 .cases h2
theorem tR (fr:Fr): ∀(us:List Nat) (t:Tr AV) (i:Nat),(pM us (km fr us) t).get i=t.get i\/(pM us (km fr us) t).get i=some (fr.get i)
 | [],t,i=> .inl rfl
 | u::us,t,i=>by
  simp only [km,pM];rcases tR fr us (t.put u (fr.get u)) i with h | h
  .rw [h,Tr.ko];by_cases hu:u=i
   .rw [if_pos hu,hu];exact .inr rfl
   .rw [if_neg hu];exact .inl rfl
  .exact .inr h
theorem Ff {g:Gh} {fr:Fr} {tmps:Array Value} (h:wP g fr tmps) (hs:fr.strict=false) (us:List Nat):wP g (Jw fr.n us (km fr us)) tmps:=by
 refine ⟨h.size,fun t=> ?_⟩;simp only [Jw,Fr.get];rcases tR fr us .leaf t with h1 | h1
 .rw [h1,Tr.tb];exact .inl ⟨trivial,rfl⟩
 .rw [h1];exact .inr (h.at hs t)
theorem CS {X:Cx} (hX:Good P X) {n:Nat} {x:Operand} {ps:Array Tmp} {y c:Code} (hc:codeOk y=true/\codeOk c=true) {A:Nat->Prop} {ro:Option Nat} {fr fr':Fr} {st st':St} {ex:Ex} {g:Gh} {a:Act} {w:World} {Q:Exit->Act->World->Prop}
  (h:exec X n (.rangeFunc x ps y c) fr st= .ok (ex,fr',st')) (hr:Rel X A ro g fr st a w) (hQ: ∀A' g' a' w',Rel X A' ro g' fr' st' a' w'->Nx A g a w A' g' a' w'->Q ex.to a' w'):(Code.rangeFunc x ps y c).wpIn (fe ro) 0 P Q a w:=by
 simp only [exec] at h;split at h
 .cases h
 rename_i hs;have ar:ro=none:=by
  have:=hr.mode;rw [hs] at this;cases ro with
  | none=>rfl
  | some l=>cases this
 subst ar;simp only [ag] at h;obtain ⟨fv,h1,h⟩:=h;split at h
 .rename_i f cap;simp only [ag] at h;obtain ⟨⟨v,st1⟩,h2,o,h3,h4⟩:=h;dsimp only at h3 h4;split at h4
  .rename_i b5 b6 x1 c1 b7 s p;split at h4
   .rename_i hsp;simp only [au,WV] at h4;obtain ⟨rfl,rfl,rfl⟩:=h4;have S:=aO hr.G hr.fr h1;simp only [R,RL] at S;obtain ⟨a',U,av,N,aw⟩:=S;have N:a'= #[]:=by simpa using N
    subst N;refine wpIn_rangeFunc ?_;intro fn hfn;obtain ⟨rec,j⟩: ∃rec:Loop,rec={state:= .ready,pending:=none,fn,tmps:=a.tmps,params:=ps,assign:=y,body:=c,defers:=w.heap.size}:=⟨_,rfl⟩;obtain ⟨K,k⟩: ∃K,w.alloc (.deferred (some []))=K:=⟨_,rfl⟩;obtain ⟨t,m⟩: ∃t,K.alloc (.loop rec)=t:=⟨_,rfl⟩;have a1:K.heap.size=w.heap.size+1:=by rw [<- k];simp
    have b8:t.heap.size=w.heap.size+1+1:=by rw [<- m, <- k];simp
    obtain ⟨A',B⟩: ∃A':Nat->Prop,A'=fun b=>A b/\b≠w.heap.size:=⟨_,rfl⟩;have I: ∀b,A' b->A b:=fun b hb=>by rw [B] at hb;exact hb.1
    have i0:Inv X.T A g st K:=by rw [<- k];exact hr.inv.alloc _
    have i0:Inv X.T A' g st K:=by
     refine ⟨i0.F,i0.M,i0.E,i0.H,i0.D,fun id o b q1 q2 q3=> ?_,fun b hb=> ?_⟩
     .rw [B];have:=D3 (hr.inv.H id o q1) q2;exact ⟨i0.own id o b q1 q2 q3,by omega⟩
     .rw [B];exact ⟨hr.inv.up b (by omega),by omega⟩
    have k0:Kp A g w g K:=by rw [<- k];exact Kp.alloc _ hr.inv
    have a6:t.heap[w.heap.size+1]? =some (.loop rec):=by
     have:=World.heap_alloc_new (w:=K) (o:= .loop rec);rw [m,a1] at this;exact this
    have a7:t.heap[w.heap.size]? =some (.deferred (some [])):=by
     rw [<- m,World.iL (by omega), <- k];exact World.heap_alloc_new
    have V:g.E st.h=none:=hr.inv.E _ (WW _);have J:Le g (g.dm st.h (.gf (w.heap.size+1))):=Le.dm V;have W:A' (w.heap.size+1):=by rw [B];exact ⟨hr.inv.up _ (by omega),by omega⟩
    have i1:Inv X.T A' (g.dm st.h (.gf (w.heap.size+1))) (st.new (.loop X.imm ps.toList y c (Jw fr.n (pH ps.toList y c) (km fr (pH ps.toList y c))) 0 .normal)).2 t:=by
     have:=i0.alloc (.loop rec);rw [m] at this;refine this.name _ (.gf (w.heap.size+1)) (w.heap.size+1) (fun id o' a8=>i0.ib (by omega) id o' a8) W (fun b' u=> ?_) ⟨w.heap.size+1,rec,Gh.aZ _ _ _,a6, ?_, ?_, ?_, ?_,⟨hc.1,hc.2,rfl⟩, ?_⟩
     .have u:(g.dm st.h (.gf (w.heap.size+1))).E st.h=some (.gf b'):=u;rw [Gh.aZ] at u;simpa using u.symm
     .rw [j];exact (Ff hr.fr hs _).mono J
     .rw [j]
     .rw [j]
     .rw [j]
     .rw [j];exact .inl ⟨rfl,rfl,rfl,rfl⟩
    have k1:Kp A' g K (g.dm st.h (.gf (w.heap.size+1))) t:=by
     rw [<- m];exact (Kp.alloc _ i0).trans (Kp.dm V)
    have O:RL (g.dm st.h (.gf (w.heap.size+1))) (.yld st.h::cap) (.func (.yield (w.heap.size+1)) #[] #[]::U.toList):=
     cH (by simp only [R];exact ⟨_,Gh.aZ _ _ _,rfl⟩) (eA J _ _ aw)
    obtain ⟨e1,q⟩:=hX.C.wide _ _ _ _ _ h2 A' _ t _ (hr.G.mono J) O i1;refine ⟨w.heap.size+1,[mark w.heap.size],t,{target:= .fn (.func f) U,args:= #[.func (.yield (w.heap.size+1)) #[] #[]]},t,f,(.func (.yield (w.heap.size+1)) #[] #[]::U.toList).toArray,t, ?_, ?_, ?_, ?_,fun e=>by simp [fe,Fence.wide] at e, ?_⟩
    .rw [<- m,j, <- k];exact run_enterLoop_outer _ _ _ _ _
    .simp only [resolve,av];simp [go_sem]
    .intro _ _;trivial
    .have:(#[.func (.yield (w.heap.size+1)) #[] #[]]++U:Array Value)=(.func (.yield (w.heap.size+1)) #[] #[]::U.toList).toArray:=by
      apply Array.ext';simp
     rw [<- this] at e1 ⊢;simpa [invoke,go_sem] using e1
    .have q:CallsIn (fe none) 0 P f _ t _:=callsIn_wide.2 q;refine CallsIn.mono q ?_;rintro e W3 ⟨z,rfl,g',_,i3,Y⟩;have Z:g'.E st.h=some (.gf (w.heap.size+1)):=Y.le.gf _ _ (Gh.aZ _ _ _);obtain ⟨b,r,q1,q2,q3,q4,q5,q6,q7,q8⟩:=i3.H _ _ h3;have hb:b=w.heap.size+1:=by have:=q1.symm.trans Z;simpa using this
     subst hb;have bb:r.state≠ .busy:=by
      rcases q8 with ⟨_,e,_⟩ | ⟨e,_⟩ | ⟨_,e,_⟩
      .rw [e];simp
      .subst e;cases hsp
      .rw [e];simp
     obtain ⟨i4,k4⟩:=i3.turn h3 Z q2 W {r with state:= .exhausted} .dead (fun _ u=>u.elim) trivial;have rel:Rel X A' none g' fr (st1.put st.h .dead) {a with defers:=[mark w.heap.size]++a.defers} (W3.putObj (w.heap.size+1) (.loop {r with state:= .exhausted})):=by
      refine ⟨hr.mode,hr.fr.mono (J.trans Y.le),i4,hr.G.mono (J.trans Y.le), ?_⟩;have m1:Marks A' ([mark w.heap.size]++a.defers) t:=by
       obtain ⟨Ds,m1,m2,m3⟩:=hr.marks;refine ⟨w.heap.size::Ds,by rw [m1];rfl,Yk.2 ⟨fun hm=> ?_,m2⟩,fun D hD=> ?_⟩
       .have:=lt_of_heap (m3 _ hm).2;omega
       .rcases Xb.1 hD with rfl | hD
        .exact ⟨fun hh=>by rw [B] at hh;exact hh.2 rfl,a7⟩
        .have bt:=lt_of_heap (m3 D hD).2;refine ⟨fun hh=>(m3 D hD).1 (I D hh), ?_⟩;rw [<- m,World.iL (by omega), <- k,World.iL bt];exact (m3 D hD).2
      exact (m1.CZ Y).CZ k4
     have nx:Nx A g a w A' g' {a with defers:=[mark w.heap.size]++a.defers} (W3.putObj (w.heap.size+1) (.loop {r with state:= .exhausted})):=by
      refine ⟨I,k0.trans (((k1.trans Y).trans k4).sub I),fun d hd=> ?_⟩;rcases Xj.1 hd with hd | hd
      .exact .inr ⟨w.heap.size,by simpa using hd,hr.inv.up _ (WW _)⟩
      .exact .inl hd
     have hq:=hQ _ _ _ _ rel nx;have L:=run_endLoop (P:=P) q2 bb;obtain ⟨W4,b4⟩: ∃W4,W3.putObj (w.heap.size+1) (.loop {r with state:= .exhausted})=W4:=⟨_,rfl⟩;rw [b4] at hq L;refine ⟨r.pending,W4,L, ?_⟩;rcases q8 with ⟨_,_,e,rfl⟩ | ⟨e,_⟩ | ⟨_,_,⟨rfl,e⟩ | ⟨i,rfl,e⟩⟩
     .rw [e];exact hq
     .subst e;cases hsp
     .rw [e];exact wpIn_ret hq
     .rw [e];exact wpIn_exit hq
   .cases h4
  .cases h4
 .cases h
theorem fW {X:Cx} {ro:Option Nat} (q:Good P X) (hm:P.follows .mixedOrders=true) (n:Nat): ∀(c:Code),codeOk c=true->(ro.isSome=true->cL c=true)-> ∀(A:Nat->Prop) (fr:Fr) (st:St) (ex:Ex) (fr':Fr) (st':St) (g:Gh) (a:Act) (w:World) (Q:Exit->Act->World->Prop),
  exec X n c fr st= .ok (ex,fr',st')->Rel X A ro g fr st a w->(∀A' g' a' w',Rel X A' ro g' fr' st' a' w'->Nx A g a w A' g' a' w'->Q ex.to a' w')->c.wpIn (fe ro) 0 P Q a w
 | .skip,_,_,A,fr,st,ex,fr',st',g,a,w,Q,h,hr,f=>by
  simp only [exec,WT,WV] at h;obtain ⟨rfl,rfl,rfl⟩:=h;exact wpIn_skip (f A g a w hr (Nx.refl _ _ _ _))
 | .label _,_,_,A,fr,st,ex,fr',st',g,a,w,Q,h,hr,f=>by
  simp only [exec,WT,WV] at h;obtain ⟨rfl,rfl,rfl⟩:=h;exact wpIn_label (f A g a w hr (Nx.refl _ _ _ _))
 | .exit id,_,_,A,fr,st,ex,fr',st',g,a,w,Q,h,hr,f=>by
  simp only [exec,WT,WV] at h;obtain ⟨rfl,rfl,rfl⟩:=h;exact wpIn_exit (f A g a w hr (Nx.refl _ _ _ _))
 | .ret,_,_,A,fr,st,ex,fr',st',g,a,w,Q,h,hr,f=>by
  simp only [exec,WT,WV] at h;obtain ⟨rfl,rfl,rfl⟩:=h;exact wpIn_ret (f A g a w hr (Nx.refl _ _ _ _))
 | .region id ops draw,hc,k,A,fr,st,ex,fr',st',g,a,w,Q,h,hr,f=>by
  have r:ro.isSome=true->iJ ops.toList=true:=k;have nx: ∀{g':Gh} {a':Act} {w':World},a'.defers=a.defers->Kp A g w g' w'->Nx A g a w A g' a' w':=fun hd hk=>⟨fun _ hb=>hb,hk,fun d h=> .inl (hd ▸ h)⟩;simp only [exec] at h;split at h
  .simp only [ag,au,WV] at h;obtain ⟨⟨m,st1⟩,h1,rfl,rfl,rfl⟩:=h;refine BK q hm r (fun hd=> ?_) h1 hr fun a' g' w' j hd hk=>f A g' a' w' j (nx hd hk);simp only [codeOk,hd,XE,XK] at hc;exact hc
  .rename_i hd;simp only [WY] at hd;obtain ⟨rfl,_⟩:=hd;simp only [ag,au,WV] at h;obtain ⟨⟨m,st1⟩,h1,rfl,rfl,rfl⟩:=h;exact zP q hm r (by simpa [codeOk] using hc) h1 ⟨hr.mode,hr.fr,hr.inv.lay,hr.G,hr.marks⟩ fun a' g' w' j hd hk=>f A g' a' w' j (nx hd hk)
 | .seq x y,hc,k,A,fr,st,ex,fr',st',g,a,w,Q,h,hr,f=>by
  simp only [codeOk,WY] at hc;have o:ro.isSome=true->cL x=true/\cL y=true:=fun e=>by have:=k e;simpa [cL] using this
  simp only [exec,ag] at h;obtain ⟨⟨p,m,st1⟩,h1,h2⟩:=h;refine wpIn_seq (fW q hm n x hc.1 (fun e=>(o e).1) A fr st p m st1 g a w _ h1 hr fun A' g' a' w' j hk=> ?_);cases p with
  | normal=>exact fW q hm n y hc.2 (fun e=>(o e).2) A' m st1 ex fr' st' g' a' w' Q h2 j fun u v z B s C=>f u v z B s (hk.trans C)
  | exit id=>
   simp only [au,WV] at h2;obtain ⟨rfl,rfl,rfl⟩:=h2;exact f A' g' a' w' j hk
  | ret=>
   simp only [au,WV] at h2;obtain ⟨rfl,rfl,rfl⟩:=h2;exact f A' g' a' w' j hk
 | .cond c x y,hc,k,A,fr,st,ex,fr',st',g,a,w,Q,h,hr,f=>by
  simp only [codeOk,WY] at hc;have o:ro.isSome=true->cL x=true/\cL y=true:=fun e=>by have:=k e;simpa [cL] using this
  simp only [exec,ag] at h;obtain ⟨D,h1,b,h2,h3⟩:=h;have t:=aO hr.G hr.fr h1;cases D <;> simp only [VM.asBool,WT] at h2 <;> (try (cases h2;done))
  subst h2;simp only [R] at t;rename_i b;refine wpIn_cond t ?_;cases b with
  | true=>exact fW q hm n x hc.1 (fun e=>(o e).1) A fr st ex fr' st' g a w Q h3 hr f
  | false=>exact fW q hm n y hc.2 (fun e=>(o e).2) A fr st ex fr' st' g a w Q h3 hr f
 | .block id c,hc,k,A,fr,st,ex,fr',st',g,a,w,Q,h,hr,f=>by
  simp only [codeOk] at hc;simp only [exec,ag] at h;obtain ⟨⟨p,m,st1⟩,h1,h2⟩:=h;refine wpIn_block (fW q hm n c hc k A fr st p m st1 g a w _ h1 hr fun A' g' a' w' j hk=> ?_);cases p with
  | normal=>
   simp only [au,WV] at h2;obtain ⟨rfl,rfl,rfl⟩:=h2;exact f A' g' a' w' j hk
  | exit i=>
   simp only at h2;simp only [Ex.to,Exit.inBlock];split at h2
   .rename_i hi;have hi:=W2 hi;simp only [au,WV] at h2;obtain ⟨rfl,rfl,rfl⟩:=h2;rw [if_pos hi];exact f A' g' a' w' j hk
   .rename_i hi;have hi:i≠id:=fun e=>by subst e;simp at hi
    simp only [au,WV] at h2;obtain ⟨rfl,rfl,rfl⟩:=h2;rw [if_neg hi];exact f A' g' a' w' j hk
  | ret=>
   simp only [au,WV] at h2;obtain ⟨rfl,rfl,rfl⟩:=h2;exact f A' g' a' w' j hk
 | .loop c,hc,k,A,fr,st,ex,fr',st',g,a,w,Q,h,hr,f=>by
  simp only [codeOk] at hc;simp only [exec] at h;refine wpIn_loop_rounds n (xY (fun A fr st ex fr' st' g a w Q h hr f=>fW q hm n c hc k A fr st ex fr' st' g a w Q h hr f) n h hr f)
 | .rangeFunc x ps y c,hc,_,A,fr,st,ex,fr',st',g,a,w,Q,h,hr,f=>by
  simp only [codeOk,WY] at hc;exact CS q hc h hr f
 | .scope c,hc,k,A,fr,st,ex,fr',st',g,a,w,Q,h,hr,f=>by
  cases ro with
  | some l=>exact absurd (k rfl) (by simp [cL])
  | none=>
   simp only [codeOk] at hc;simp only [exec] at h;refine wpIn_wide.2 (wp_scope_straight (wpIn_wide.1 (fW (ro:=none) q hm n c hc (fun e=>by cases e) A fr st ex fr' st' g a w _ h hr fun A' g' a' w' j hk=> ?_)));cases ex <;> exact f A' g' a' w' j hk
 | .goto _,_,_,_,_,_,_,_,_,_,_,_,_,h,_,_=>by simp [exec] at h
 | .refuse _,_,_,_,_,_,_,_,_,_,_,_,_,h,_,_=>by simp [exec] at h
end
section
variable {P:Program} {T:TT} {A:Nat->Prop} {g:Gh} {st:St} {w:World}
theorem yc: ∀(l:List AV) (i:Nat) (t:Tr AV) (k:Nat),(uT i l t).get k=if i<=k/\k < i+l.length then l[k - i]? else t.get k
 | [],i,t,k=>by
  simp only [uT,XI,XO];rw [if_neg (by omega)]
 | v::l,i,t,k=>by
  simp only [uT,yc l (i+1),Tr.ko,Xk];by_cases h:i=k
  .subst h;rw [if_neg (by omega),if_pos rfl,if_pos (by omega)];simp
  .rw [if_neg h];by_cases h2:i+1<=k/\k < i+1+l.length
   .rw [if_pos h2,if_pos (by omega),show k - i=(k - (i+1))+1 by omega];simp
   .rw [if_neg h2,if_neg (by omega)]
theorem zG {n:Nat} {args:List AV} {xs:List Value} (h:RL g args xs) (hn:args.length<=n):wP g (tJ n args) (xs.toArray++Array.replicate (n - xs.toArray.size) Go.undef):=by
 have hl:=dB h;refine ⟨by simp [tJ];omega,fun t=> .inr ?_⟩;simp only [tJ,Fr.get,yc,Xd,XC,Yo,Nat.sub_zero,Tr.tb];by_cases ht:t < args.length
 .rw [if_pos ht,Xl ht];obtain ⟨x,h1,h2⟩:=vQ h (Xl ht);have hx:(xs.toArray++Array.replicate (n - xs.toArray.size) Go.undef).getD t Go.undef=x:=by
   rw [Array.getD_eq_getD_getElem?,Array.getElem?_append_left (by simp;omega)];simp [h1]
  rw [hx];exact h2
 .rw [if_neg ht];have hx:(xs.toArray++Array.replicate (n - xs.toArray.size) Go.undef).getD t Go.undef=Go.undef:=by
   rw [Array.getD_eq_getD_getElem?,Array.getElem?_append_right (by simp;omega)];rw [Array.getElem?_replicate];split <;> rfl
  rw [hx];exact B6
def G7 (tmps:Array Value) (r:ResultVar):Sem Value:=
 match r with
 | .tmp t=>pure (tmps.getD t Go.undef)
 | .cell a t=>do loadVar t (<- asAddr (tmps.getD a Go.undef))
theorem GF (fn:Func) (tmps:Array Value):results fn tmps=(do
  let vs <- fn.results.mapM (G7 tmps)
  pure (if h:vs.size=1 then vs[0] else .tuple vs)):=by
 unfold results;congr 2
theorem pj (hT:wW P T) {fr:Fr} {tmps:Array Value} (hf:wP g fr tmps) (hs:fr.strict=false) (h:Inv T A g st w): ∀{rs:List ResultVar} {vs:List AV},ij T fr st rs= .ok vs->
  ∃xs,(rs.mapM (G7 tmps)).run P w= .ok xs w/\RL g vs xs
 | [],vs,hr=>by
  simp only [ij,WT] at hr;subst hr;exact ⟨[],rfl,fQ⟩
 | r::rs,vs,hr=>by
  simp only [ij,ag,au] at hr;obtain ⟨v,h1,vs',h2,rfl⟩:=hr;obtain ⟨xs,k1,k2⟩:=pj hT hf hs h h2;have key: ∃x,(G7 tmps r).run P w= .ok x w/\R g v x:=by
   cases r with
   | tmp t=>
    simp only [kA,WT] at h1;subst h1;exact ⟨_,rfl,hf.at hs t⟩
   | cell a t=>
    simp only [kA,ag] at h1;obtain ⟨i,l,p,c,d⟩:=h1;have hi:=hT t i (cB.1 l);have ha:=hf.at hs a;show ∃x,(do loadVar t (<- Go.asAddr (tmps.getD a Go.undef)):Sem Value).run P w= .ok x w/\R g v x;generalize tmps.getD a Go.undef=x at ha ⊢;cases q:fr.get a <;> rw [q] at c ha <;> simp only [ma] at c <;> (try (cases c;done))
    .rename_i cells;simp only [ag,au] at c;obtain ⟨u,q1,rfl⟩:=c;simp only [au] at d;subst d;simp only [R] at ha;obtain ⟨_,b,o,rfl,h3⟩:=ha;obtain ⟨ys,y1,s⟩:=iF h3;obtain ⟨y,f,z2⟩:=eL (w:=w) hi q1 y1 fun k z hz=>h.F _ _ _ (s k z hz).1;exact ⟨y,by simp [asAddr,f],z2⟩
    .rename_i id off;simp only [WT] at c;subst c;simp only [iN,ag,au] at d;obtain ⟨o,q1,⟨v',o'⟩,⟨B,⟨cs,q2,q3⟩,j⟩,C⟩:=d;rw [oH] at q2;obtain ⟨ty,rfl⟩:=q2;simp only [WV] at j;obtain ⟨rfl,rfl⟩:=j;subst C;simp only [R] at ha;obtain ⟨b,hE,rfl⟩:=ha;obtain ⟨b',ys,rest,I,y1,s,y3,y4,O,y6⟩:=h.cells q1;have hb:b'=b:=by have:=y1.symm.trans hE;simpa using this
     subst hb;obtain ⟨y,f,z2⟩:=eL (w:=w) (b:=b') (o:=off) hi q3 (iP off y3) fun k z hz=>kB s (by simpa using hz);exact ⟨y,by simp [asAddr,f],z2⟩
    .rename_i k n off;simp only [WT] at c;subst c;simp only [iN,ag,au] at d;obtain ⟨o,q1,⟨v',o'⟩,⟨B,q2,j⟩,C⟩:=d;simp only [WV] at j;obtain ⟨rfl,rfl⟩:=j;subst C;simp only [R] at ha;obtain ⟨loc,b,cap,hE,hl,rfl⟩:=ha;split at q2
     .rename_i m e z cs;split at q2
      .rename_i hm;have hm:=W2 hm;subst hm;obtain ⟨E,b2,G,i2,pre,rest,p1,p2,p3,p4,p5,Q,J,S,U,K,D,L,M⟩:=h.H k _ q1;have l:=p1.symm.trans hE;simp only [W7,nt.tok.injEq] at l;subst l;have c:=p2.symm.trans hl;simp only [W7,WV] at c;obtain ⟨rfl,rfl⟩:=c;obtain ⟨y,f,z2⟩:=eL (w:=w) (b:=b2) (o:=off) hi q2 (iP off D) fun k z hz=>kB J (by simpa using hz);exact ⟨y,by simp [asAddr,f],z2⟩
      .cases q2
     .cases q2
  obtain ⟨x,x1,N⟩:=key;refine ⟨x::xs, ?_,cH N k2⟩;rw [List.mapM_cons];simp only [Sem.run_bind,x1,Result.andThen_ok,k1,Sem.run_pure]
theorem Rv {id b:Nat} {o:Obj} (h:Holds T g w id o) (ha:At g id o b): ∃x,w.heap[b]? =some x/\ ∀d,x≠ .deferred d:=by
 have gf: ∀{b':Nat} {x:Go.Obj},g.E id=some (.gf b')->g.E id=some (.gf b)->w.heap[b']? =some x->(∀d,x≠ .deferred d)-> ∃x,w.heap[b]? =some x/\ ∀d,x≠ .deferred d:=fun h1 h2 h3 h4=>by
  have:=h1.symm.trans h2;simp only [W7,nt.gf.injEq] at this;subst this;exact ⟨_,h3,h4⟩
 have tok: ∀{n:Nat} {loc:Nat->Option (Nat×Nat)} {b' cap:Nat} {x:Go.Obj},g.E id=some (.tok loc)->loc n=some (b',cap)->(∃loc cap,g.E id=some (.tok loc)/\loc n=some (b,cap))->w.heap[b']? =some x->(∀d,x≠ .deferred d)->
   ∃x,w.heap[b]? =some x/\ ∀d,x≠ .deferred d:=fun h1 h2 h3 h4 j=>by
  obtain ⟨loc',k,k1,k2⟩:=h3;have l:=h1.symm.trans k1;simp only [W7,nt.tok.injEq] at l;subst l;have m:=h2.symm.trans k2;simp only [W7,WV] at m;obtain ⟨rfl,rfl⟩:=m;exact ⟨_,h4,j⟩
 cases o with
 | cells ty cs=>obtain ⟨b',vs,rest,u,h1,h2,h3⟩:=h;exact gf h1 ha h2 fun _ e=>by cases e
 | tok n e=>obtain ⟨loc,b',cap,i,vs,fz,h1,h2,h3,h4,j,q,f,t⟩:=h;exact tok h1 h2 ha f fun _ e=>by cases e
 | map es=>obtain ⟨b',ents,clk,h1,h2,h3⟩:=h;exact gf h1 ha h2 fun _ e=>by cases e
 | sit s pos=>obtain ⟨b',h1,h2⟩:=h;exact gf h1 ha h2 fun _ e=>by cases e
 | dead=>exact ha.elim
 | grow n e z es=>obtain ⟨loc,b',cap,i,vs,fz,h1,h2,h3,h4,j,q,f,t⟩:=h;exact tok h1 h2 ha f fun _ e=>by cases e
 | yZ=>exact ha.elim
 | row n e z cs=>obtain ⟨loc,b',cap,i,pre,rest,h1,h2,h3,h4,j,q,f,t⟩:=h;exact tok h1 h2 ha f fun _ e=>by cases e
 | loop imm ps a c fr s p=>obtain ⟨b',r,h1,h2,h3⟩:=h;exact gf h1 ha h2 fun _ e=>by cases e
theorem Inv.take (h:Inv T A g st w) {D:Nat} {x:Option (List Deferred)} (a:w.heap[D]? =some (.deferred x)):Inv T A g st (w.putObj D (.deferred none)):=by
 have hne: ∀b,b≠D->(w.putObj D (.deferred none)).heap[b]? =w.heap[b]? :=fun b hb=>World.putObj_heap_other hb;refine ⟨fun b o v hv=> ?_,fun b ents clk hm=> ?_,h.E,fun id o ho=> ?_,h.D,h.own,fun b hb=>h.up b (by simpa using hb)⟩
 .have h1:=h.F b o v hv;obtain ⟨vs,ty,fz,h2,_⟩:=nQ h1;rw [sC (hne b fun e=>by subst e;rw [a] at h2;cases h2)];exact h1
 .have h1:=h.M b ents clk hm;rw [hne b fun e=>by subst e;rw [a] at h1;cases h1];exact h1
 .refine mq (h.H id o ho) fun b hb=>hne b fun e=> ?_;subst e;obtain ⟨y,h1,h2⟩:=Rv (h.H id o ho) hb;rw [a] at h1;cases h1;exact h2 _ rfl
theorem AE {T:TT} {A':Nat->Prop} {g':Gh} {st1:St} {fn:Func} {tmps:Array Value} {R:Ending->World->Prop} {w:World} {g:Gh}
  (d: ∀w',Inv T A' g' st1 w'->Kp A g w g' w'->LeavesIn Fence.wide 0 P fn tmps R [] .returning w'): ∀(c:List Nat) (w':World),c.Nodup->(∀D∈c,A D/\w'.heap[D]? =some (.deferred (some [])))->Inv T A' g' st1 w'->Kp A g w g' w'->
   LeavesInM Fence.wide 0 P fn tmps R (c.map mark) .returning w'
 | [],w',_,_,hi,hk=>d w' hi hk
 | D::c,w',hn,hm,hi,hk=>by
  obtain ⟨hA,f⟩:=hm D (by simp);rw [Yk] at hn;refine ⟨by simp,.inl ⟨D,_,rfl,run_takeDeferred f,AE d c _ hn.2 (fun h a=>⟨(hm h (by simp [a])).1, ?_⟩) (hi.take f) (hk.trans (Kp.write hA World.putObj_size fun b hb=>World.putObj_heap_other hb))⟩⟩;rw [World.putObj_heap_other (fun e=>by subst e;exact hn.1 a)];exact (hm h (by simp [a])).2
theorem sq {X:Cx} (r:Good P X) (hm:P.follows .mixedOrders=true) {n:Nat} {f:FuncId} {fn:Func} {args:List AV} {v:AV} {st':St} {xs:List Value} (hfn:P.funcs[f]? =some fn)
  (hc: ∀c,fn.body=some c->codeOk c=true) (h:body X n fn args st= .ok (v,st')) (hr:RL g args xs) (u:GR g X.G) (hi:Inv X.T A g st w):
  Calls P f xs.toArray w fun e w'=> ∃x,e= .returned x/\la X.T A g st' w v x w':=by
 unfold body at h;split at h
 .cases h
 .rename_i c d;split at h
  .cases h
  .rename_i hle;have hle:=WU hle;simp only [ag] at h;obtain ⟨⟨ex,fr',st1⟩,h1,h2⟩:=h;refine (callsIn_wide (n:=0)).1 (callsIn_of_wp_marks hfn d trivial ?_);refine fW (ro:=none) r hm n c (hc c d) (fun e=>by cases e) A _ _ _ _ _ g _ w _ h1 ⟨rfl,zG hr hle,hi,u,⟨[],rfl,List.nodup_nil,fun _ h=>by cases h⟩⟩ fun A' g' a' s i hk=> ?_;have fin:(do pure (oneOf (<- ij X.T fr' st1 fn.results.toList),st1):db (AV×St))= .ok (v,st')->LeavesInM Fence.wide 0 P fn a'.tmps (fun e w'=> ∃x,e= .returned x/\la X.T A g st' w v x w') a'.defers .returning s:=fun he=>by
    simp only [ag,au,WV] at he;obtain ⟨vs,y,rfl,rfl⟩:=he;obtain ⟨z,m1,m2,m3⟩:=i.marks;rw [m1];refine AE (T:=X.T) (A':=A') (g':=g') (st1:=st1) (A:=A) (g:=g) (w:=w) (fun w' a k=> ?_) z s m2 (fun D t=>⟨?_,(m3 D t).2⟩) i.inv hk.kp
    rotate_left
    .rcases hk.defs (mark D) (by rw [m1];exact List.mem_map_of_mem t) with hd | ⟨B,e,m⟩
     .cases hd
     .have:D=B:=by
       simp only [mark,Deferred.mk.injEq,Target.collected.injEq,Ys] at e;exact e
      rw [this];exact m
    obtain ⟨ys,y1,j⟩:=pj r.T i.fr (by rw [i.mode];rfl) a y;have p:(fn.results.mapM (G7 a'.tmps)).run P w'= .ok ys.toArray w':=by
     rw [Array.mapM_eq_mapM_toList];simp only [Sem.run_map,y1,Result.andThen_ok]
    have q:Inv X.T A g' st1 w':=⟨a.F,a.M,a.E,a.H,a.D,fun id o b q1 q2 q3=>hk.sub b (a.own id o b q1 q2 q3),fun b hb=>hi.up b (Xs k.size hb)⟩;refine ⟨if h:ys.toArray.size=1 then ys.toArray[0] else .tuple ys.toArray, ?_,_,rfl,g', ?_,q,k⟩
    .rw [GF];simp only [Sem.run_bind,p,Result.andThen_ok,Sem.run_pure]
    .cases vs with
     | nil=>
      simp only [RL] at j;subst j;simp only [oneOf,R];exact ⟨_,rfl,fQ⟩
     | cons v1 vs=>
      cases vs with
      | nil=>
       simp only [RL] at j;obtain ⟨x,l,rfl,C,rfl⟩:=j;exact C
      | cons v2 vs=>
       have hl:=dB j;rw [dif_neg (by simp at hl ⊢;omega)];simp only [oneOf,R];exact ⟨_,rfl,j⟩
   cases ex with
   | normal=>exact fin h2
   | ret=>exact fin h2
   | exit id=>cases h2
end
end Go.VM
namespace Go.VM
open Classical in
noncomputable def Gh.zF (g:Gh) (s:St) (w:World) (base:Nat) (E0:Nat->Option nt):Gh where
 F b o:=if ∃id ty cs,base<=id/\s.get id= .ok (.cells ty cs)/\g.E id=some (.gf b) then w.cell? ⟨b,o,none⟩ else g.F b o
 M b:=if ∃id es,base<=id/\s.get id= .ok (.map es)/\g.E id=some (.gf b) then (match w.heap[b]? with | some (.map ents clk)=>some (ents.toList,clk) | _=>none) else g.M b
 E:=E0
section
variable {P:Program} {T:TT} {A:Nat->Prop} {g:Gh} {s:St} {w:World} {base:Nat}
theorem O2 (h:Inv T A g s w) (E0:Nat->Option nt):Qw g (g.zF s w base E0):=by
 refine ⟨fun b o v hv=> ?_,fun b e he=> ?_⟩
 .simp only [Gh.zF];split
  .exact h.F b o v hv
  .exact hv
 .simp only [Gh.zF];split
  .rename_i hc;obtain ⟨id,es,_,h2,h3⟩:=hc;obtain ⟨b',ents,clk,q1,q2,q3,a⟩:=h.H id _ h2;have:b'=b:=by have:=q1.symm.trans h3;simpa using this
   subst this;rw [a] at he;cases he
  .exact he
theorem B7 (h:Inv T A g s w):Le g (g.zF s w base g.E):=⟨(O2 h g.E).F,(O2 h g.E).M,fun _ _ x=>x,fun _ loc x=>⟨loc,x,fun _ _ y=>y⟩⟩
theorem AU (_h:Inv T A g s w) {id b:Nat} {ty:TypeId} {cs:List AV} (E0:Nat->Option nt) (hb:base<=id) (hg:s.get id= .ok (.cells ty cs)) (hE:g.E id=some (.gf b)) (o:Nat):(g.zF s w base E0).F b o=w.cell? ⟨b,o,none⟩:=by
 simp only [Gh.zF];rw [if_pos ⟨id,ty,cs,hb,hg,hE⟩]
theorem lD (h:Inv T A g s w): ∀(f:Nat) (v v':AV) (x:Value),freeze s base f v= .ok v'->R g v x->R (g.zF s w base g.E) v' x
 | 0,v,v',x,hf,_=>by simp [freeze] at hf
 | f+1,v,v',x,hf,hr=>by
  have all: ∀(l J:List AV) (xs:List Value),lF (freeze s base f) l= .ok J->RL g l xs->RL (g.zF s w base g.E) J xs:=by
   intro l
   induction l with
   | nil=>
    intro J xs h1 h2;simp only [lF,WT] at h1;subst h1;simp only [RL] at h2 ⊢;exact h2
   | cons v l ih=>
    intro J xs h1 h2;simp only [lF,ag,au] at h1;obtain ⟨u,t,l1,d,rfl⟩:=h1;simp only [RL] at h2;obtain ⟨y,ys,rfl,K,r2⟩:=h2;exact cH (lD h f v u y t K) (ih l1 ys d r2)
  have same:v'=v->R (g.zF s w base g.E) v' x:=fun e=>by subst e;exact mT (B7 h) _ _ hr
  unfold freeze at hf;split at hf
  ·-- a pointer
   rename_i id off;split at hf
   .simp only [WT] at hf;exact same hf.symm
   .rename_i hid;rw [cW] at hid;simp only [ag] at hf;obtain ⟨o,t,d⟩:=hf;split at d
    .rename_i ty cs;simp only [ag,au] at d;obtain ⟨c1,B,c2,C,rfl⟩:=d;simp only [R] at hr;obtain ⟨b,hE,rfl⟩:=hr;obtain ⟨b',vs,rest,U,k1,k2,V,W,k5,k6⟩:=h.cells t;have hb:b'=b:=by have:=k1.symm.trans hE;simpa using this
     subst hb;have K:=all _ _ _ B (iP off V);obtain ⟨r2,X⟩:=CQ K C;simp only [R];refine ⟨X,b',off,rfl,dv r2 fun i y hy=>⟨?_,W y (List.mem_of_mem_drop (Xo hy))⟩⟩;rw [AU h g.E hid t k1];exact kB k2 (by simpa using hy)
    .cases d
  .rename_i id;split at hf
   .simp only [WT] at hf;exact same hf.symm
   .rename_i hid;rw [cW] at hid;simp only [ag] at hf;obtain ⟨o,t,d⟩:=hf;split at d
    .rename_i es;simp only [ag] at d;obtain ⟨a8,B,C⟩:=d;split at C
     .simp only [au] at C;subst C;simp only [R] at hr;obtain ⟨b,hE,rfl⟩:=hr;obtain ⟨b',ents,clk,q1,q2,q3,Y⟩:=h.H id _ t;have hb:b'=b:=by have:=q1.symm.trans hE;simpa using this
      subst hb;have D: ∀(l J:List (AV×AV)) (m:List MapEntry),pN (freeze s base f) l= .ok J->rb g l m->rb (g.zF s w base g.E) J m:=by
       intro l
       induction l with
       | nil=>
        intro J xs h1 h2;simp only [pN,WT] at h1;subst h1;simp only [rb] at h2 ⊢;exact h2
       | cons p l ih=>
        intro J xs h1 h2;obtain ⟨k,v⟩:=p;simp only [pN,ag,au] at h1;obtain ⟨u,t,l1,d,rfl⟩:=h1;simp only [rb] at h2 ⊢;obtain ⟨e,ys,rfl,K,r2,X⟩:=h2;exact ⟨e,ys,rfl,mT (B7 h) _ _ K,wN (lD h f v u _ t r2),ih l1 ys d X⟩
      simp only [R];refine ⟨b',ents.toList,clk, ?_,rfl,D _ _ _ B q3⟩;simp only [Gh.zF];rw [if_pos ⟨id,es,hid,t,q1⟩,q2]
     .cases C
    .cases d
  .rename_i z e k;split at hf
   .simp only [WT] at hf;exact same hf.symm
   .simp only [WT] at hf;subst hf;exact wN (v:= .sl z e (.own k)) (mT (B7 h) _ _ hr)
  .simp only [ag,au] at hf;obtain ⟨c1,B,rfl⟩:=hf;simp only [R] at hr ⊢;obtain ⟨ys,rfl,r⟩:=hr;exact ⟨ys,rfl,all _ _ _ B r⟩
  .simp only [ag,au] at hf;obtain ⟨c1,B,rfl⟩:=hf;simp only [R] at hr ⊢;obtain ⟨ys,rfl,r⟩:=hr;exact ⟨ys,rfl,all _ _ _ B r⟩
  .simp only [ag,au] at hf;obtain ⟨c1,B,rfl⟩:=hf;simp only [R] at hr ⊢;obtain ⟨y,rfl,r⟩:=hr;exact ⟨y,rfl,lD h f _ c1 y B r⟩
  .simp only [ag,au] at hf;obtain ⟨c1,B,c2,C,rfl⟩:=hf;simp only [R] at hr ⊢;obtain ⟨y,y',rfl,r,r'⟩:=hr;exact ⟨y,y',rfl,all _ _ _ B r,all _ _ _ C r'⟩
  ·-- an array
   rename_i id off z len cap;split at hf
   .simp only [WT] at hf;exact same hf.symm
   .rename_i hid;rw [cW] at hid;simp only [ag] at hf;obtain ⟨o,t,d⟩:=hf;split at d
    .rename_i ty cs;simp only [ag] at d;obtain ⟨c1,B,C⟩:=d;split at C
     .rename_i L;simp only [ag] at C;obtain ⟨els,e5,F,e6,G⟩:=C;have key: ∃p,v'= .sl z F p/\(len≠0\/cap≠0)/\(p= .shut->cap=len/\cap≠0)/\(p= .shut\/p= .wide):=by
       split at G
       .split at G
        .cases G
        .rename_i hl;simp only [au] at G;exact ⟨.wide,G.symm,.inl (fun e=>by subst e;simp at hl),(fun e=>by cases e),.inr rfl⟩
       .rename_i I;simp only [au] at G;have h0:cap≠0:=fun e=>by subst e;simp at I
        cases M:cap.beq len with
        | true=>rw [M] at G;exact ⟨.shut,G.symm,.inr h0,fun _=>⟨W2 M,h0⟩,.inl rfl⟩
        | false=>rw [M] at G;exact ⟨.wide,G.symm,.inr h0,(fun e=>by cases e),.inr rfl⟩
      clear G;obtain ⟨p,rfl,hne,N,Z⟩:=key
      .simp only [R] at hr;obtain ⟨b,o',hE,c,rfl,hc,O,ho,P⟩:=hr;have ar:c≠0:=by
        rcases hne with q | q
        .omega
        .rcases P with rfl | e
         .exact q
         .exact absurd e q
       have av:o'=off:=ho ar;subst av;obtain ⟨b',vs,rest,U,k1,k2,V,W,k5,k6⟩:=h.cells t;have hb:b'=b:=by have:=k1.symm.trans hE;simpa using this
       subst hb;have K:=all _ _ _ B (mR (len * z) (iP o' V));obtain ⟨f1,f2,f3⟩:=sM (fun e=>by
        have:¬ 2<=z:=fun k=>by rw [Xx k] at e;cases e
        omega) L e5
       have r2:RL (g.zF s w base g.E) (flat els) (((vs.toList.drop o').take (len * z)).take (len * z)):=by rw [f1];exact mR _ K
       obtain ⟨q1,q2,q3,Y⟩:=nT e6 r2;simp only [R];have hl:F.length=len:=by rw [q3,f3]
       refine ⟨q2,b',o',c,by rw [hl],by rw [hl];exact hc,O, ?_, ?_⟩
       .rw [dL];refine ⟨fun u hu=>by
         have:u.cells.length∈F.map (·.cells.length):=XY.2 ⟨u,hu,rfl⟩;rw [Y] at this;obtain ⟨u',aw,e⟩:=XY.1 this;rw [<- e];exact f2 u' aw,dv q1 fun i y hy=> ?_⟩
        have Q:vs[o'+i]? =some y/\y∈vs.toList:=by
         have h1:y∈vs.toList:=List.mem_of_mem_drop (List.mem_of_mem_take (List.mem_of_mem_take (Xo hy)));refine ⟨?_,h1⟩;rw [List.take_take,Nat.min_self,List.getElem?_take] at hy;by_cases hi:i < len * z
         .rw [if_pos hi] at hy;simpa using hy
         .rw [if_neg hi] at hy;cases hy
        refine ⟨?_,W y Q.2⟩;rw [AU h g.E hid t k1];exact kB k2 Q.1
       .rcases Z with rfl | rfl
        .obtain ⟨h1,h2⟩:=N rfl;simp only [tY];rw [hl];rcases P with e | e
         .omega
         .exact absurd e h2
        .simp only [tY]
     .cases C
    .cases d
  ·-- a slice that an object holds
   rename_i k z n;split at hf
   .simp only [WT] at hf;exact same hf.symm
   .simp only [ag] at hf;obtain ⟨o,t,d⟩:=hf;split at d
    .rename_i m e z' es;split at d
     .rename_i j;simp only [WY] at j;have c1:=W2 j.1.1;have c2:=W2 j.1.2;have c3:=W2 j.2;subst c1 c2 c3;cases d;simp only [R] at hr;obtain ⟨loc,b,cap,hE,hl,rfl,I,O⟩:=hr;obtain ⟨a7,b2,S,i2,vs,fz,q1,q2,q3,Y,q5,q6,q7,q8,q9,bb,bt,b4,a1,a6⟩:=h.H k _ t;have t:=q1.symm.trans hE;simp only [W7,nt.tok.injEq] at t;subst t;have d:=q2.symm.trans hl;simp only [W7,WV] at d;obtain ⟨rfl,rfl⟩:=d;simp only [R];exact ⟨a1,b2,0,S,rfl,I,O,gq (B7 h) _ _ _ _ a6,trivial⟩
     .cases d
    .cases d
  .simp only [WT] at hf;exact same hf.symm
theorem ze {A':Nat->Prop} {gb g':Gh} {st:St} {w':World} {v v':AV} {x:Value} (hc:Inv T A g st w) (i:gb.F=g.F) (j:gb.M=g.M) (hA: ∀b,A' b↔w.heap.size<=b)
  (hi:Inv T A' g' s w') (hk:Kp A' gb w g' w') (l:s.ro<=base) (hr:R g' v x) (hf:freeze s base 100 v= .ok v') (hb:bare v'=true):la T A g st w v' x w':=by
 have hold: ∀b,b < w.heap.size->¬ A' b:=fun b hb ha=>by have:=(hA b).1 ha;omega
 have d: ∀b,b < w.heap.size-> ∀o,(g'.zF s w' base g.E).F b o=g.F b o:=fun b hb o=>by
  simp only [Gh.zF];rw [if_neg ?_]
  .rw [hk.F b (hold b hb) o,i]
  .rintro ⟨id,ty,cs,h1,h2,h3⟩;exact hold b hb (hi.own id _ b h2 h3 (by omega))
 have f: ∀b,b < w.heap.size->(g'.zF s w' base g.E).M b=g.M b:=fun b hb=>by
  simp only [Gh.zF];rw [if_neg ?_]
  .rw [hk.M b (hold b hb),j]
  .rintro ⟨id,es,h1,h2,h3⟩;exact hold b hb (hi.own id _ b h2 h3 (by omega))
 have a: ∀b,b < w.heap.size->w'.heap[b]? =w.heap[b]? :=fun b hb=>hk.heap b (hold b hb);have hle:Le g (g'.zF s w' base g.E):=by
  refine ⟨fun b o u hu=> ?_,fun b e he=> ?_,fun _ _ x=>x,fun _ loc x=>⟨loc,x,fun _ _ y=>y⟩⟩
  .obtain ⟨vs,ty,fz,q,_⟩:=nQ (hc.F b o u hu);rw [d b (lt_of_heap q) o];exact hu
  .have:=hc.M b e.1 e.2 he;rw [f b (lt_of_heap this)];exact he
 refine ⟨g'.zF s w' base g.E,sd (g:=g'.zF s w' base g'.E) (g':=g'.zF s w' base g.E) ⟨fun _ _ _ x=>x,fun _ _ x=>x⟩ v' x hb (lD hi 100 v v' x hf hr),⟨?_, ?_,hc.E, ?_,hc.D,hc.own,fun b hb=>hc.up b (Xs hk.size hb)⟩,⟨hk.size, ?_, ?_, ?_,hle,hk.rest⟩⟩
 .intro b o u hu;simp only [Gh.zF] at hu;split at hu
  .exact hu
  .exact hi.F b o u hu
 .intro b ents clk hm;simp only [Gh.zF] at hm;split at hm
  .split at hm
   .rename_i e c m;simp only [W7,WV] at hm;obtain ⟨rfl,rfl⟩:=hm;simpa using m
   .cases hm
  .exact hi.M b ents clk hm
 .intro id o ho;have:=hc.H id o ho;refine jQ (mq this fun b hb=>a b (D3 this hb)) hle rfl fun b hb=> ?_;have h:=D3 this hb;exact ⟨fun o=>d b h o,f b h⟩
 .intro b hb;exact a b (Nat.lt_of_not_le fun k=>hb (hc.up b k))
 .intro b hb o;exact d b (Nat.lt_of_not_le fun k=>hb (hc.up b k)) o
 .intro b hb;exact f b (Nat.lt_of_not_le fun k=>hb (hc.up b k))
end
end Go.VM
namespace Go.VM
structure C5 (C:df):Prop where
 wide: ∀f args st v s,C.wide f args st= .ok (v,s)->s.ro=st.ro
 round: ∀k args st v s,C.round k args st= .ok (v,s)->s.ro=st.ro
theorem zm {C:df} (b:C5 C) {st:St} {p:dG} {v:AV} {x:Fx} (h:aC C st p= .ok (v,x)):(x.did.app st).ro=st.ro:=by
 cases p with
 | val u=>
  simp only [aC,WT,WV] at h;obtain ⟨_,rfl⟩:=h;rfl
 | obj id f=>
  simp only [aC,ag,au] at h;obtain ⟨e,h3,⟨v',o'⟩,h4,d,a,c⟩:=h;simp only [WV] at c;obtain ⟨_,rfl⟩:=c;cases o' with
  | none=>simp only [eG,WT] at a;subst a;rfl
  | some o'=>
   simp only [eG] at a;split at a
   .cases a
   .simp only [WT] at a;subst a;rfl
 | both id k f=>
  simp only [aC,ag] at h;obtain ⟨e,_,r,_,h3⟩:=h;cases r with
  | none=>
   simp only [ag,au,WV] at h3;obtain ⟨_,_,_,rfl⟩:=h3;rfl
  | some j=>
   dsimp only at h3;split at h3
   .simp only [ag,au,WV] at h3;obtain ⟨_,_,_,_,_,rfl⟩:=h3;rfl
   .cases h3
 | new o f=>
  simp only [aC,WT,WV] at h;obtain ⟨_,rfl⟩:=h;rfl
 | call f args=>
  simp only [aC] at h;split at h
  .simp only [ag,au] at h;obtain ⟨_,_,h⟩:=h;simp only [WV] at h;obtain ⟨_,rfl⟩:=h;rfl
  .split at h
   .simp only [ag,au] at h;obtain ⟨_,_,h⟩:=h;simp only [WV] at h;obtain ⟨_,rfl⟩:=h;rfl
   .simp only [ag,au] at h;obtain ⟨⟨v',s⟩,h1,h⟩:=h;simp only [WV] at h;obtain ⟨_,rfl⟩:=h;exact b.wide _ _ _ _ _ h1
 | yield k args=>
  simp only [aC,ag,au] at h;obtain ⟨⟨v',s⟩,h1,h⟩:=h;simp only [WV] at h;obtain ⟨_,rfl⟩:=h;exact b.round _ _ _ _ _ h1
theorem sF {X:Cx} (a:C5 X.C) {all:List Oper} {draw:Bool}: ∀{l:List Oper} {j:Nat} {seen:List (Nat×Fx)} {fr fr':Fr} {st st':St},dM X all draw j seen l fr st= .ok (fr',st')->st'.ro=st.ro
 | [],_,_,_,_,_,_,h=>by
  simp only [dM,WT,WV] at h;rw [h.2]
 | o::l,j,seen,fr,fr',st,st',h=>by
  simp only [dM,ag] at h;obtain ⟨⟨v,x⟩,h1,h2⟩:=h;have hx:(x.did.app st).ro=st.ro:=by
   unfold oper at h1;split at h1
   .simp only [ag] at h1;obtain ⟨p,_,h1⟩:=h1;exact zm a h1
   .simp only [WT,WV] at h1;obtain ⟨_,rfl⟩:=h1;rfl
  split at h2
  .exact (sF a h2).trans hx
  .split at h2
   .exact (sF a h2).trans hx
   .cases h2
theorem LI: ∀{l:List Nat} {st:St},(st.lay l).ro=st.ro
 | [],_=>rfl
 | _::l,st=>LI (l:=l) (st:=(st.new .yZ).2)
theorem qw {X:Cx} (a:C5 X.C) {e:Nat->Option Nat} {all:List Oper}: ∀{l:List Oper} {j:Nat} {seen:List (Nat×Fx)} {fr fr':Fr} {st st':St},di X e all j seen l fr st= .ok (fr',st')->st'.ro=st.ro
 | [],_,_,_,_,_,_,h=>by
  simp only [di,WT,WV] at h;rw [h.2]
 | o::l,j,seen,fr,fr',st,st',h=>by
  simp only [di,ag] at h;obtain ⟨⟨v,x⟩,h1,h2⟩:=h;have hx:(x.did.app st).ro=st.ro:=by
   unfold fE at h1;split at h1
   .split at h1
    .obtain ⟨_,_,_,_,_,rfl⟩:=qk h1;rfl
    .simp only [ag] at h1;obtain ⟨p,_,h1⟩:=h1;exact zm a h1
   .simp only [WT,WV] at h1;obtain ⟨_,rfl⟩:=h1;rfl
  split at h2
  .exact (qw a h2).trans hx
  .split at h2
   .exact (qw a h2).trans hx
   .cases h2
theorem HQ {body:Fr->St->db (Ex×Fr×St)} (hb: ∀fr st ex fr' st',body fr st= .ok (ex,fr',st')->st'.ro=st.ro): ∀(n:Nat) {fr fr':Fr} {st st':St} {ex:Ex},iter body n fr st= .ok (ex,fr',st')->st'.ro=st.ro
 | 0,_,_,_,_,_,h=>by simp [iter] at h
 | n+1,fr,fr',st,st',ex,h=>by
  simp only [iter,ag] at h;obtain ⟨⟨a,b,st1⟩,h1,h2⟩:=h;have:=hb _ _ _ _ _ h1;cases a <;> simp only [au,WV] at h2
  .exact (HQ hb n h2).trans this
  .rw [<- h2.2.2];exact this
  .rw [<- h2.2.2];exact this
theorem iR {X:Cx} (a:C5 X.C) (n:Nat): ∀(c:Code) (fr:Fr) (st:St) (ex:Ex) (fr':Fr) (st':St),exec X n c fr st= .ok (ex,fr',st')->st'.ro=st.ro
 | .skip,_,_,_,_,_,h | .label _,_,_,_,_,_,h | .exit _,_,_,_,_,_,h | .ret,_,_,_,_,_,h=>by
  simp only [exec,WT,WV] at h;rw [h.2.2]
 | .region _ _ _,_,_,_,_,_,h=>by
  simp only [exec] at h;split at h
  .simp only [ag,au,WV] at h;obtain ⟨⟨d,st1⟩,h1,rfl,rfl,rfl⟩:=h;exact sF a h1
  .simp only [ag,au,WV] at h;obtain ⟨⟨d,st1⟩,h1,rfl,rfl,rfl⟩:=h;exact (qw a h1).trans LI
 | .seq x y,_,_,_,_,_,h=>by
  simp only [exec,ag] at h;obtain ⟨⟨f,d,st1⟩,h1,h2⟩:=h;have:=iR a n x _ _ _ _ _ h1;cases f <;> simp only [au,WV] at h2
  .exact (iR a n y _ _ _ _ _ h2).trans this
  .rw [<- h2.2.2];exact this
  .rw [<- h2.2.2];exact this
 | .cond c x y,_,_,_,_,_,h=>by
  simp only [exec,ag] at h;obtain ⟨g,h1,b,h2,h3⟩:=h;cases b
  .exact iR a n y _ _ _ _ _ h3
  .exact iR a n x _ _ _ _ _ h3
 | .block id c,_,_,_,_,_,h=>by
  simp only [exec,ag] at h;obtain ⟨⟨f,d,st1⟩,h1,h2⟩:=h;have:=iR a n c _ _ _ _ _ h1;cases f
  .simp only [au,WV] at h2;rw [<- h2.2.2];exact this
  .simp only at h2;split at h2 <;> simp only [au,WV] at h2 <;> rw [<- h2.2.2] <;> exact this
  .simp only [au,WV] at h2;rw [<- h2.2.2];exact this
 | .loop c,_,_,_,_,_,h=>by
  simp only [exec] at h;exact HQ (fun fr st ex fr' st' h=>iR a n c fr st ex fr' st' h) n h
 | .rangeFunc x ps y c,_,_,_,_,_,h=>by
  simp only [exec] at h;split at h
  .cases h
  .simp only [ag] at h;obtain ⟨i,h1,h⟩:=h;split at h
   .simp only [ag] at h;obtain ⟨⟨v,st1⟩,h2,o,h3,h4⟩:=h;dsimp only at h3 h4;split at h4
    .split at h4
     .simp only [au,WV] at h4;rw [<- h4.2.2];have e:=a.wide _ _ _ _ _ h2;exact e
     .cases h4
    .cases h4
   .cases h
 | .scope c,_,_,_,_,_,h=>by
  simp only [exec] at h;exact iR a n c _ _ _ _ _ h
 | .goto _,_,_,_,_,_,h=>by simp [exec] at h
 | .refuse _,_,_,_,_,_,h=>by simp [exec] at h
theorem CP {X:Cx} (a:C5 X.C) {n:Nat} {fn:Func} {args:List AV} {st st':St} {v:AV} (h:body X n fn args st= .ok (v,st')):st'.ro=st.ro:=by
 unfold body at h;split at h
 .cases h
 .split at h
  .cases h
  .simp only [ag] at h;obtain ⟨⟨ex,fr',st1⟩,h1,h2⟩:=h;have:=iR a n _ _ _ _ _ _ h1;cases ex
   .simp only [ag,au,WV] at h2;obtain ⟨_,_,_,rfl⟩:=h2;exact this
   .cases h2
   .simp only [ag,au,WV] at h2;obtain ⟨_,_,_,rfl⟩:=h2;exact this
theorem IV {X:Cx} (b:C5 X.C) {n k:Nat} {x c:Code} {fr:Fr} {st st':St} {v:AV} (h:qn X n k x c fr st= .ok (v,st')):st'.ro=st.ro:=by
 simp only [qn,ag] at h;obtain ⟨⟨a,d,st1⟩,h1,h⟩:=h;have e:=iR b n _ _ _ _ _ _ h1;cases a with
 | normal=>
  simp only [ag] at h;obtain ⟨f,h2,⟨ex,g,i⟩,h3,h4⟩:=h;obtain ⟨_,_,_,_,_,_,_,rfl⟩:=ow h2;have j:=iR b n _ _ _ _ _ _ h3;cases ex <;> simp only [ag,au,WV] at h4 <;> obtain ⟨l,h4,_,rfl⟩:=h4 <;> obtain ⟨_,_,_,_,_,_,_,rfl⟩:=ow h4 <;> exact j.trans e
 | exit id=>cases h
 | ret=>cases h
theorem rV {g:Gh}: ∀{ps:List Nat} {args:List AV} {xs:List Value} {fr:Fr} {tmps:Array Value},wP g fr tmps->RL g args xs->ps.length=args.length->
  wP g (pd ps args fr) ((ps.zip xs).foldl (fun t (p,v)=>t.setIfInBounds p v) tmps)/\(pd ps args fr).strict=fr.strict
 | [],_,_,fr,tmps,h,_,_=>by simp only [pd,List.zip_nil_left,List.foldl_nil];exact ⟨h,trivial⟩
 | p::ps,[],_,_,_,_,_,hl=>by cases hl
 | p::ps,v::vs,xs,fr,tmps,h,hr,hl=>by
  simp only [RL] at hr;obtain ⟨y,ys,rfl,a,r2⟩:=hr;have h1:=h.put a (some p);obtain ⟨k1,k2⟩:=rV h1 r2 (by simpa using hl);simp only [pd,List.zip_cons_cons,YJ];exact ⟨k1,k2.trans (gW _ _ _)⟩
theorem BJ {P:Program} {X:Cx} (hX:Good P X) (hC:C5 X.C) (hm:P.follows .mixedOrders=true) {n k:Nat} {imm:TypeId->Bool} {ps:List Tmp} {x c:Code} {fr:Fr} {p:Ex} {args:List AV} {st st':St} {v:AV} (h:qn X n k x c (pd ps args fr) st= .ok (v,st'))
  (K:cL x=true/\cL c=true) (hlen:args.length=ps.length) (hk:st.get k= .ok (.loop imm ps x c fr 0 p)) (L:st.ro<=k) {A:Nat->Prop} {g:Gh} {w:World} {xs:List Value} {l:Nat} (hG:GR g X.G) (f:RL g args xs) (hi:Inv X.T A g st w) (hE:g.E k=some (.gf l)):
  CM P l xs.toArray w (la X.T A g st' w v):=by
 obtain ⟨b,r,q1,q2,q3,q4,q5,q6,⟨q7,q8,q9⟩,a7⟩:=hi.H k _ hk;have hb:b=l:=by have:=q1.symm.trans hE;simpa using this
 subst hb;have a8:=dB f;have hps:r.params.size=ps.length:=by rw [<- q4];simp
 refine ⟨r.fn,_,r.assign,r.body,run_yield q2 (by simp;omega),roundIn_of_wpIn trivial ?_⟩;rw [q5,q6];have z:(r.params.zip xs.toArray).foldl (fun tmps (t,a)=>tmps.setIfInBounds t a) r.tmps=(ps.zip xs).foldl (fun t (p,v)=>t.setIfInBounds p v) r.tmps:=by
  rw [<- Array.foldl_toList,Array.toList_zip,q4]
 rw [z];obtain ⟨f1,f2⟩:=rV q3 f hlen.symm;simp only [qn,ag] at h;obtain ⟨⟨W,bb,st1⟩,h1,h⟩:=h;have e1:=iR hC n _ _ _ _ _ _ h1;cases W with
 | exit id=>cases h
 | ret=>cases h
 | normal=>
 simp only [ag] at h;obtain ⟨bt,h2,⟨ex,b4,Y⟩,h3,h4⟩:=h;obtain ⟨N,Z,x1,c1,O,p1,B,rfl⟩:=ow h2;have e3:=iR hC n _ _ _ _ _ _ h3;refine fW (ro:=some b) hX hm n x q7 (fun _=>K.1) A _ _ _ _ _ g _ w _ h1 ⟨by rw [f2,q9];rfl,f1,hi,hG,⟨[],rfl,List.nodup_nil,fun _ h=>by cases h⟩⟩ fun A1 g1 a1 w1 I n1=> ?_;have j:g1.E k=some (.gf b):=n1.kp.le.gf _ _ hE;obtain ⟨b1,rr,s1,s2,s3,s4,s5,s6,s7,s8⟩:=I.inv.H k _ B;have hb:b1=b:=by have:=s1.symm.trans j;simpa using this
 subst hb;have hA1:A1 b1:=I.inv.own k _ b1 B s1 (by rw [e1];exact L);have m:rr.state= .ready:=by
  rcases s8 with ⟨_,e,_⟩ | ⟨e,_⟩ | ⟨e,_⟩
  .exact e
  .cases e
  .cases e
 have ar:b1 < w1.heap.size:=lt_of_heap s2;obtain ⟨i2,k2⟩:=I.inv.turn B j s2 hA1 {rr with state:= .busy} (.loop N Z x1 c1 O 1 .normal) (fun b' d=>by
  have d:g1.E k=some (.gf b'):=d;rw [j] at d;simpa using d.symm) ⟨b1,_,j,World.putObj_heap_same ar,s3,s4,s5,s6,s7,.inr (.inl ⟨rfl,rfl⟩)⟩
 refine ⟨_,run_beginRound s2 m, ?_⟩;refine fW (ro:=some b1) hX hm n c q8 (fun _=>K.2) A1 _ _ _ _ _ g1 _ _ _ h3 ⟨I.mode,I.fr,i2,I.G,I.marks.CZ k2⟩ fun A2 g2 a3 w3 r3 n3=> ?_;have Q:Nx A g {tmps:=(ps.zip xs).foldl (fun t (p,v)=>t.setIfInBounds p v) r.tmps,defers:=[]} w A2 g2 a3 w3:=n1.trans (Nx.trans ⟨fun _ h=>h,k2,fun _ h=> .inl h⟩ n3);have u:g2.E k=some (.gf b1):=Q.kp.le.gf _ _ hE;have fin: ∀(s:Nat) (e:Ex) (jump:Option Code),qy k 1 s e Y= .ok st'->(∀q:Loop,Ln s e {q with state:=if jump.isNone then .ready else .done,pending:=jump})->v= .bool jump.isNone->
   ∃y w',(Instr.endRound b1 jump).run P w3= .ok y w'/\ ∃x,Ending.returned y= .returned x/\la X.T A g st' w v x w':=fun s e jump S av hv=>by
  obtain ⟨U,aw,x3,c3,a6,p3,J,rfl⟩:=ow S;obtain ⟨b3,r4,t1,t2,t3,t4,t5,t6,t7,t8⟩:=r3.inv.H k _ J;have hb:b3=b1:=by have:=t1.symm.trans u;simpa using this
  subst hb;have hA2:A2 b3:=r3.inv.own k _ b3 J t1 (by rw [e3];show st1.ro<=k;rw [e1];exact L);obtain ⟨i4,k4⟩:=r3.inv.turn J u t2 hA2 {r4 with state:=if jump.isNone then .ready else .done,pending:=jump} (.loop U aw x3 c3 a6 s e) (fun b' d=>by
   have d:g2.E k=some (.gf b'):=d;rw [u] at d;simpa using d.symm) ⟨b3,_,u,World.putObj_heap_same (lt_of_heap t2),t3,t4,t5,t6,t7,av r4⟩
  refine ⟨_,_,run_endRound jump t2,_,rfl,g2,by rw [hv];simp only [R], ?_,Q.kp.trans (k4.sub Q.sub)⟩;exact ⟨i4.F,i4.M,i4.E,i4.H,i4.D,fun id o b q1 q2 q3=>Q.sub b (i4.own id o b q1 q2 q3),fun b hb=>hi.up b (Xs Q.kp.size (by simpa using hb))⟩
 cases ex with
 | normal=>
  simp only [ag,au,WV] at h4;obtain ⟨V,h4,rfl,rfl⟩:=h4;exact fin 0 .normal none h4 (fun _=> .inl ⟨rfl,rfl,rfl,rfl⟩) rfl
 | ret=>
  simp only [ag,au,WV] at h4;obtain ⟨V,h4,rfl,rfl⟩:=h4;exact fin 2 .ret (some .ret) h4 (fun _=> .inr (.inr ⟨rfl,rfl,.inl ⟨rfl,rfl⟩⟩)) rfl
 | exit i=>
  simp only [ag,au,WV] at h4;obtain ⟨V,h4,rfl,rfl⟩:=h4;exact fin 2 (.exit i) (some (.exit i)) h4 (fun _=> .inr (.inr ⟨rfl,rfl,.inr ⟨i,rfl,rfl⟩⟩)) rfl
def Gl (P:Program) (T:TT) (G:Nat->Option (List AV)) (f:FuncId) (args:List AV) (v:AV):Prop:=
 ∀A g st w xs,GR g G->bL args=true->RL g args xs->Inv T A g st w->uA P f xs.toArray w (la T A g st w v)
theorem sV {args:List AV} {v:AV}: ∀{l:List (List AV×AV)},tM args l=some v->(args,v)∈l
 | [],h=>by cases h
 | (a,u)::l,h=>by
  simp only [tM] at h;split at h
  .rename_i e;cases h;rw [jN (lS 1000) e];exact WS
  .exact WZ _ (sV h)
structure El (P:Program) (E:Env):Prop where
 T:wW P E.T
 F: ∀f fn,E.F f=some fn->P.funcs[f]? =some fn/\(∀args w,(callFunc f args).run P w= .ok (.enter f args) w)/\ ∀c,fn.body=some c->codeOk c=true
 prim:CJ P E.T E.G E.prim
 mixed:P.follows .mixedOrders=true
 memo: ∀f e,e∈E.memo f->Gl P E.T E.G f e.1 e.2
 rule: ∀f r args v,E.rule f=some r->r args=some v->Gl P E.T E.G f args v:=by intro _ _ _ _ h;cases h
 wrule: ∀f r args st v s,E.wrule f=some r->r args st= .ok (v,s)->s.ro=st.ro/\ ∀A g w xs,GR g E.G->RL g args xs->Inv E.T A g st w->
  (callFunc f xs.toArray).run P w= .ok (.enter f xs.toArray) w/\Calls P f xs.toArray w fun e w'=> ∃x,e= .returned x/\la E.T A g s w v x w':=by intro _ _ _ _ _ _ h;cases h
theorem KN {P:Program} {E:Env} (hE:El P E) {f:FuncId} {args:List AV} {v:AV} (h:E.known f args=some v):Gl P E.T E.G f args v:=by
 unfold Env.known at h;split at h
 .rename_i r hr;exact hE.rule f r args v hr h
 .exact hE.memo f _ (sV h)
theorem St.lL {i:Nat} {o:Obj}:St.empty.get i≠ .ok o:=by
 intro h;have:=(St.ch.1 h).1;simp [St.empty] at this
theorem AB {P:Program} {E:Env} (hE:El P E): ∀n,yj P E.T E.G (caller E n)/\C5 (caller E n)
 | 0=>⟨⟨fun _ _ _ h=>by simp [caller] at h,fun _ _ _ _ _ h=>by simp [caller] at h,fun _ _ _ _ h=>by simp [caller] at h,fun _ _ _ _ _ h=>by simp [caller] at h⟩,⟨fun _ _ _ _ _ h=>by simp [caller] at h,fun _ _ _ _ _ h=>by simp [caller] at h⟩⟩
 | n+1=>by
  obtain ⟨ih,d⟩:=AB hE n;have m: ∀f,Good P ⟨E.T,E.prim,E.imm f,E.G,caller E n⟩:=fun f=>⟨hE.T,ih,hE.prim⟩;refine ⟨⟨?_, ?_, ?_, ?_⟩,⟨?_, ?_⟩⟩
  .intro f args v h A g st w xs j hb hr hi;simp only [caller] at h;split at h
   .rename_i u hu;cases h;exact KN hE hu A g st w xs j hb hr hi
   split at h
   .cases h
   .rename_i fn hfn;obtain ⟨f1,f2,f3⟩:=hE.F f fn hfn;simp only [ag] at h;obtain ⟨⟨v0,s⟩,h1,v1,h2,h3⟩:=h;split at h3
    .rename_i a;simp only [au] at h3;subst h3;have hle:Qw g ⟨g.F,g.M,fun _=>none⟩:=⟨fun _ _ _ x=>x,fun _ _ x=>x⟩;have hinv:Inv E.T (fun b=>w.heap.size<=b) ⟨g.F,g.M,fun _=>none⟩ St.empty w:=
      ⟨hi.F,hi.M,fun _ _=>rfl,fun _ _ ho=>(St.lL ho).elim,fun _ _ _ _ _ ho=>(St.lL ho).elim,fun _ _ _ ho=>(St.lL ho).elim,fun _ hb=>hb⟩
     refine .inr ⟨f2 _ _,(sq (m f) hE.mixed f1 f3 h1 (qS hle _ _ hb hr) (fun k cs hk=>⟨(j k cs hk).1,tA hle _ _ _ (j k cs hk).1 (j k cs hk).2⟩) hinv).mono ?_⟩;rintro e w' ⟨x,rfl,g',q,r2,t⟩;refine ⟨x,rfl,ze (gb:=⟨g.F,g.M,fun _=>none⟩) hi rfl rfl (fun _=>Iff.rfl) r2 t (base:=0) ?_ q h2 a⟩;rw [CP d h1];exact WW _
    .cases h3
  .intro f args st v st' h A g w xs j hr hi;simp only [caller] at h;split at h
   .split at h
    .rename_i r hw;exact (hE.wrule f r args st v st' hw h).2 A g w xs j hr hi
    .cases h
   .rename_i fn hfn;obtain ⟨f1,f2,f3⟩:=hE.F f fn hfn;simp only [ag,au] at h;obtain ⟨⟨v0,s⟩,h1,h2⟩:=h;simp only [WV] at h2;obtain ⟨rfl,rfl⟩:=h2;exact ⟨f2 _ _,sq (m f) hE.mixed f1 f3 h1 hr j hi⟩
  .intro f args st v h A g w xs j hr hi;simp only [caller] at h;split at h
   .cases h
   .rename_i fn hfn;obtain ⟨f1,f2,f3⟩:=hE.F f fn hfn;simp only [ag] at h;obtain ⟨⟨v0,s⟩,h1,v1,h2,h3⟩:=h;split at h3
    .rename_i a;simp only [au] at h3;subst h3;have z: ∀i,(⟨st.h,st.h,st.objs⟩:St).get i=st.get i:=fun _=>rfl;have hinv:Inv E.T (fun b=>w.heap.size<=b) g ⟨st.h,st.h,st.objs⟩ w:=
      ⟨hi.F,hi.M,hi.E,hi.H,hi.D,fun id o b ho _ y=>by
       have:=(St.ch.1 ho).1;have B:st.h<=id:=y;have:id < st.h:=this;omega,fun _ hb=>hb⟩
     refine .inr ⟨f2 _ _,(sq (m f) hE.mixed f1 f3 h1 hr j hinv).mono ?_⟩;rintro e w' ⟨x,rfl,g',q,r2,t⟩;refine ⟨x,rfl,ze hi rfl rfl (fun _=>Iff.rfl) r2 t (base:=st.h) ?_ q h2 a⟩;rw [CP d h1];exact WW _
    .cases h3
  .intro k args st v st' h A g w xs l j hr hi hl;simp only [caller,ag] at h;obtain ⟨o,h1,h2⟩:=h;split at h2
   .rename_i imm ps x c fr s p;split at h2
    .rename_i hc;simp only [WY] at hc;obtain ⟨⟨c1,c2⟩,c3,c4,c5⟩:=hc;have c1:=W2 c1;subst c1;exact BJ (X:=⟨E.T,E.prim,imm,E.G,caller E n⟩) ⟨hE.T,ih,hE.prim⟩ d hE.mixed h2 ⟨c4,c5⟩ (W2 c3) h1 (WU c2) j hr hi hl
    .cases h2
   .cases h2
  .intro f args st v s h;simp only [caller] at h;split at h
   .split at h
    .rename_i r hw;exact (hE.wrule f r args st v s hw h).1
    .cases h
   .simp only [ag,au] at h;obtain ⟨⟨v0,s0⟩,h1,h2⟩:=h;simp only [WV] at h2;obtain ⟨rfl,rfl⟩:=h2;exact CP d h1
  .intro k args st v s h;simp only [caller,ag] at h;obtain ⟨o,h1,h2⟩:=h;split at h2
   .split at h2
    .exact IV (X:=⟨E.T,E.prim,_,E.G,caller E n⟩) d h2
    .cases h2
   .cases h2
namespace Tr
variable {α:Type}
def of:Nat->(Nat->Option α)->Tr α
 | 0,_=> .leaf
 | d+1,f=> .node (f 0) (of d fun k=>f (2 * k+1)) (of d fun k=>f (2 * k+2))
theorem Ef {v:Option α} {l r:Tr α} (n:Nat):(Tr.node v l r).get n=if n=0 then v else if n % 2=1 then l.get (n / 2) else r.get (n / 2 - 1):=by
 rw [get];cases h0:n.beq 0 with
 | true=>rw [if_pos (W2 h0)]
 | false=>
  have:n≠0:=fun e=>by subst e;cases h0
  rw [if_neg this];cases h1:(n % 2).beq 1 with
  | true=>rw [if_pos (W2 h1)]
  | false=>rw [if_neg (fun e=>by rw [e] at h1;cases h1)]
theorem Cn: ∀(d:Nat) (f:Nat->Option α) (n:Nat) (x:α),(of d f).get n=some x->f n=some x
 | 0,_,n,x,h=>by rw [of,tb] at h;cases h
 | d+1,f,n,x,h=>by
  rw [of,Ef] at h;split at h
  .rename_i e;subst e;exact h
  .split at h
   .have:=Cn d _ _ _ h
    rwa [show 2 * (n / 2)+1=n by omega] at this
   .have:=Cn d _ _ _ h
    rwa [show 2 * (n / 2 - 1)+2=n by omega] at this
def vR (p:Nat->α->Prop):Tr α->Prop
 | .leaf=>True
 | .node v l r=>(∀x,v=some x->p 0 x)/\vR (fun k=>p (2 * k+1)) l/\vR (fun k=>p (2 * k+2)) r
theorem qV: ∀(t:Tr α) (p:Nat->α->Prop),vR p t-> ∀n x,t.get n=some x->p n x
 | .leaf,p,_,n,x,h=>by rw [tb] at h;cases h
 | .node v l r,p,hp,n,x,h=>by
  rw [Ef] at h;obtain ⟨h1,h2,h3⟩:=hp;split at h
  .rename_i e;subst e;exact h1 x h
  .split at h
   .have:=qV l _ h2 _ _ h
    rwa [show 2 * (n / 2)+1=n by omega] at this
   .have:=qV r _ h3 _ _ h
    rwa [show 2 * (n / 2 - 1)+2=n by omega] at this
end Tr
def UX:TypeDesc->U
 | .bool=> .bool | .int k=> .int k | .string=> .str | .float k=> .flt k
 | .pointer e=> .ptr e | .slice e=> .slice e | .array n e=> .arr n e | .map k e=> .map k e
 | .struct fs=> .struct (fs.toList.map fun f=>(f.offset,f.type))
 | .func .. => .func | .interface ms=> .iface ms.isEmpty | .unsafePointer=> .uptr
 | _=> .other
theorem Pq: ∀d,xR d (UX d):=by
 intro d;cases d <;> simp [UX,xR]
def isAgg:TypeDesc->Bool
 | .struct _ | .array .. =>true
 | _=>false
def Ta (l:List Value):Bool:=l.all fun v=>v.oneCell'
def zeroOf (z:Value) (agg:Bool):Option (List AV):=
 match agg with
 | true=>match z with
  | .agg cs=>match Ta cs.toList with
   | true=>match ofConst.ofAll cs.toList with
    | .ok l=>some l
    | .error _=>none
   | false=>none
  | _=>none
 | false=>match z.oneCell' with
  | true=>match ofConst z with
   | .ok v=>some [v]
   | .error _=>none
  | false=>none
theorem Jt {z:Value} {agg:Bool} {l:List AV} (h:zeroOf z agg=some l):
  (agg=false->z.oneCell'=true)/\(∀v∈z.cells,v.oneCell'=true)/\(agg=true-> ∃cs,z= .agg cs)/\ ∀g,RL g l z.cells.toList:=by
 unfold zeroOf at h;split at h
 .split at h
  .rename_i cs;split at h
   .rename_i h1;split at h
    .rename_i a h2;simp only [W7] at h;subst h;refine ⟨(fun e=>by cases e),fun v hv=> ?_,fun _=>⟨cs,rfl⟩,fun g=>mw g _ _ h2⟩;have:v∈cs:=hv;exact XH.1 h1 v (by simpa using this)
    .cases h
   .cases h
  .cases h
 .split at h
  .rename_i h1;split at h
   .rename_i v h2;simp only [W7] at h;subst h;have hc:z.cells= #[z]:=by cases z <;> first | rfl | simp [Value.oneCell'] at h1
    refine ⟨fun _=>h1,fun u hu=> ?_,(fun e=>by simp at e),fun g=> ?_⟩
    .rw [hc] at hu;simp only [List.mem_toArray,Xb,List.not_mem_nil,or_false] at hu;rw [hu];exact h1
    .rw [hc];exact cH (nq g z v h2) fQ
   .cases h
  .cases h
def OT (P:Program) (t:TypeId):TypeDesc->Bool
 | .struct fs=> !P.eqGuardType P.depth t&& !P.stoodInHeld t&&fs.toList.all (fun f=>f.name != "_")
 | _=>false
def MZ (P:Program) (t:TypeId):Option TI:=
 match P.underlying t with
 | none=>none
 | some d=>match P.info? t with
  | none=>none
  | some f=>match f.zero with
   | none=>none
   | some z=>match zeroOf z (isAgg d) with
    | none=>none
    | some l=>match z.cells.size.beq f.size with
     | false=>none
     | true=>some ⟨UX d,f.size,f.bytes,l,isAgg d,OT P t d⟩
theorem Oe {P:Program} {t:TypeId} {i:TI} (h:MZ P t=some i):jD P t i:=by
 unfold MZ at h;split at h
 .cases h
 rename_i d hd;split at h
 .cases h
 rename_i f hf;split at h
 .cases h
 rename_i z hz;split at h
 .cases h
 rename_i l hl;split at h
 .cases h
 rename_i hs;simp only [W7] at h;subst h;obtain ⟨b,z2,z3,z4⟩:=Jt hl;refine ⟨⟨d,hd,Pq d, ?_⟩,fun hc=> ?_,⟨f,hf,rfl,rfl,z,hz,W2 hs,b,z2,z3,z4⟩⟩
 .cases d <;> rfl
 .dsimp only at hc;unfold OT at hc;split at hc
  .rename_i fs;simp only [WY,Bool.not_eq_true',XH,bne_iff_ne,ne_eq] at hc;refine ⟨hc.1.1,hc.1.2,fun fields he fl a=> ?_⟩;have e:=hd.symm.trans he;simp only [W7,TypeDesc.struct.injEq] at e;subst e;exact hc.2 fl a
  .cases hc
theorem S7 {P:Program} {T:TT} {d:Nat} (h:T=Tr.of d (MZ P)):wW P T:=fun _ _ ht=>Oe (Tr.Cn d _ _ _ (h ▸ ht))
def Ug (P:Program) (f:FuncId) (fn:Func):Prop:=P.funcs[f]? =some fn/\(∀args w,(callFunc f args).run P w= .ok (.enter f args) w)/\ ∀c,fn.body=some c->codeOk c=true
theorem Tr.eU {α:Type} {p:Nat->α->Prop}:Tr.vR p .leaf:=trivial
theorem Tr.fg {α:Type} {p:Nat->α->Prop} {v:Option α} {l r:Tr α} (h1: ∀x,v=some x->p 0 x) (h2:Tr.vR (fun k=>p (2 * k+1)) l) (h3:Tr.vR (fun k=>p (2 * k+2)) r):Tr.vR p (.node v l r):=⟨h1,h2,h3⟩
end Go.VM
namespace Go.VM
structure MR (C C':df):Prop where
 full:C'.full=C.full
 isLook:C'.isLook=C.isLook
 bare: ∀f args v,C.bare f args= .ok v->C'.bare f args= .ok v
 wide: ∀f args st r,C.wide f args st= .ok r->C'.wide f args st= .ok r
 look: ∀f args st v,C.look f args st= .ok v->C'.look f args st= .ok v
 round: ∀k args st r,C.round k args st= .ok r->C'.round k args st= .ok r
theorem tc {C C':df} (h:MR C C') {st:St} {p:dG} {r:AV×Fx} (hr:aC C st p= .ok r):aC C' st p= .ok r:=by
 cases p with
 | val v=>exact hr
 | obj id f=>exact hr
 | both id k f=>exact hr
 | new o f=>exact hr
 | yield k args=>
  simp only [aC,ag,au] at hr ⊢;obtain ⟨v,h1,rfl⟩:=hr;exact ⟨v,h.round _ _ _ _ h1,rfl⟩
 | call f args=>
  simp only [aC] at hr ⊢;rw [h.full,h.isLook];cases e:(bL (args.map strip)&& !C.full f) with
  | true=>
   rw [e] at hr;simp only [ag,au] at hr;obtain ⟨v,h1,rfl⟩:=hr;simp only [h.bare _ _ _ h1];rfl
  | false=>
   rw [e] at hr;dsimp only at hr ⊢;cases a:C.isLook f with
   | true=>
    rw [a] at hr;simp only [ag,au] at hr;obtain ⟨v,h1,rfl⟩:=hr;simp only [h.look _ _ _ _ h1];rfl
   | false=>
    rw [a] at hr;simp only [ag,au] at hr;obtain ⟨v,h1,rfl⟩:=hr;simp only [h.wide _ _ _ _ h1];rfl
def Cx.with (X:Cx) (C:df):Cx:=⟨X.T,X.prim,X.imm,X.G,C⟩
theorem JB {X:Cx} {C:df} (h:MR X.C C) {all:List Oper} {fr:Fr} {st:St} {o:Oper} {r:AV×Fx} (hr:oper X all fr st o= .ok r):oper (X.with C) all fr st o= .ok r:=by
 unfold oper at hr ⊢;split at hr
 .obtain ⟨p,h1,h2⟩:=ag.1 hr;exact ag.2 ⟨p,h1,tc h h2⟩
 .exact hr
theorem oO {X:Cx} {C:df} (h:MR X.C C) {all:List Oper} {draw:Bool}: ∀{l:List Oper} {j:Nat} {seen:List (Nat×Fx)} {fr:Fr} {st:St} {r:Fr×St},dM X all draw j seen l fr st= .ok r->dM (X.with C) all draw j seen l fr st= .ok r
 | [],_,_,_,_,_,hr=>hr
 | o::l,j,seen,fr,st,r,hr=>by
  simp only [dM,ag] at hr ⊢;obtain ⟨⟨v,x⟩,h1,h2⟩:=hr;refine ⟨(v,x),JB h h1, ?_⟩;dsimp only at h2 ⊢;split at h2
  .exact oO h h2
  .split at h2
   .exact oO h h2
   .cases h2
theorem FC {X:Cx} {C:df} (h:MR X.C C) {e:Nat->Option Nat} {all:List Oper} {fr:Fr} {st:St} {o:Oper} {r:AV×Fx} (hr:fE X e all fr st o= .ok r):fE (X.with C) e all fr st o= .ok r:=by
 unfold fE at hr ⊢;split at hr
 .split at hr
  .exact hr
  .obtain ⟨p,h1,h2⟩:=ag.1 hr;exact ag.2 ⟨p,h1,tc h h2⟩
 .exact hr
theorem mZ {X:Cx} {C:df} (h:MR X.C C) {e:Nat->Option Nat} {all:List Oper}: ∀{l:List Oper} {j:Nat} {seen:List (Nat×Fx)} {fr:Fr} {st:St} {r:Fr×St},di X e all j seen l fr st= .ok r->di (X.with C) e all j seen l fr st= .ok r
 | [],_,_,_,_,_,hr=>hr
 | o::l,j,seen,fr,st,r,hr=>by
  simp only [di,ag] at hr ⊢;obtain ⟨⟨v,x⟩,h1,h2⟩:=hr;refine ⟨(v,x),FC h h1, ?_⟩;dsimp only at h2 ⊢;split at h2
  .exact mZ h h2
  .split at h2
   .exact mZ h h2
   .cases h2
theorem uB {b b':Fr->St->db (Ex×Fr×St)} (hb: ∀fr st r,b fr st= .ok r->b' fr st= .ok r): ∀{n n':Nat} {fr:Fr} {st:St} {r:Ex×Fr×St},n<=n'->iter b n fr st= .ok r->iter b' n' fr st= .ok r
 | 0,_,_,_,_,_,h=>by simp [iter] at h
 | n+1,0,_,_,_,hn,_=>by omega
 | n+1,n'+1,fr,st,r,hn,h=>by
  simp only [iter,ag] at h ⊢;obtain ⟨⟨ex,a,st1⟩,h1,h2⟩:=h;refine ⟨_,hb _ _ _ h1, ?_⟩;cases ex
  .exact uB hb (by omega) h2
  .exact h2
  .exact h2
theorem gI {X:Cx} {C:df} (h:MR X.C C) {n n':Nat} (hn:n<=n'): ∀(c:Code) (fr:Fr) (st:St) (r:Ex×Fr×St),exec X n c fr st= .ok r->exec (X.with C) n' c fr st= .ok r
 | .skip,_,_,_,hr | .label _,_,_,_,hr | .exit _,_,_,_,hr | .ret,_,_,_,hr=>hr
 | .goto _,_,_,_,hr | .refuse _,_,_,_,hr=>by simp [exec] at hr
 | .rangeFunc x ps y c,fr,st,r,hr=>by
  simp only [exec] at hr ⊢;cases hs:fr.strict with
  | true=>rw [hs] at hr;cases hr
  | false=>
   rw [hs] at hr;dsimp only at hr ⊢;obtain ⟨d,h1,h2⟩:=ag.1 hr;refine ag.2 ⟨d,h1, ?_⟩;split at h2
   .obtain ⟨q,h3,h4⟩:=ag.1 h2;exact ag.2 ⟨q,h.wide _ _ _ _ h3,h4⟩
   .cases h2
 | .scope c,fr,st,r,hr=>gI h hn c fr st r hr
 | .region _ _ _,fr,st,r,hr=>by
  simp only [exec] at hr ⊢;split at hr
  .rename_i hd;have hd:(_&&(X.with C).imm 4000000)=false:=hd;rw [hd];simp only [ag] at hr ⊢;obtain ⟨a,h1,h2⟩:=hr;exact ⟨a,oO h h1,h2⟩
  .rename_i hd;have hd:(_&&(X.with C).imm 4000000)=true:=hd;rw [hd];simp only [ag] at hr ⊢;obtain ⟨a,h1,h2⟩:=hr;exact ⟨a,mZ h h1,h2⟩
 | .seq a b,fr,st,r,hr=>by
  simp only [exec,ag] at hr ⊢;obtain ⟨⟨ex,e,st1⟩,h1,h2⟩:=hr;refine ⟨_,gI h hn a _ _ _ h1, ?_⟩;cases ex
  .exact gI h hn b _ _ _ h2
  .exact h2
  .exact h2
 | .cond c a b,fr,st,r,hr=>by
  simp only [exec,ag] at hr ⊢;obtain ⟨f,h1,v,h2,h3⟩:=hr;refine ⟨f,h1,v,h2, ?_⟩;cases v
  .exact gI h hn b _ _ _ h3
  .exact gI h hn a _ _ _ h3
 | .block id c,fr,st,r,hr=>by
  simp only [exec,ag] at hr ⊢;obtain ⟨a,h1,h2⟩:=hr;exact ⟨a,gI h hn c _ _ _ h1,h2⟩
 | .loop c,fr,st,r,hr=>by
  simp only [exec] at hr ⊢;exact uB (fun fr st r g=>gI h hn c fr st r g) hn hr
theorem H0 {X:Cx} {C:df} (h:MR X.C C) {n n':Nat} (hn:n<=n') {fn:Func} {args:List AV} {st:St} {r:AV×St} (hr:body X n fn args st= .ok r):body (X.with C) n' fn args st= .ok r:=by
 unfold body at hr ⊢;split at hr
 .cases hr
 .split at hr
  .cases hr
  .obtain ⟨a,h1,h2⟩:=ag.1 hr;exact ag.2 ⟨a,gI h hn _ _ _ _ h1,h2⟩
theorem EM {X:Cx} {C:df} (h:MR X.C C) {n n':Nat} (hn:n<=n') {k:Nat} {x c:Code} {fr:Fr} {st:St} {r:AV×St} (hr:qn X n k x c fr st= .ok r):qn (X.with C) n' k x c fr st= .ok r:=by
 simp only [qn,ag] at hr ⊢;obtain ⟨⟨ex,b,st1⟩,h1,h2⟩:=hr;refine ⟨_,gI h hn _ _ _ _ h1, ?_⟩;cases ex
 .simp only [ag] at h2 ⊢;obtain ⟨a,h3,q,h4,d⟩:=h2;exact ⟨a,h3,q,gI h hn _ _ _ _ h4,d⟩
 .exact h2
 .exact h2
theorem fM (E:Env): ∀{n n':Nat},n<=n'->MR (caller E n) (caller E n')
 | 0,0,_=>⟨rfl,rfl,fun _ _ _ h=>h,fun _ _ _ _ h=>h,fun _ _ _ _ h=>h,fun _ _ _ _ h=>h⟩
 | 0,_+1,_=>⟨rfl,rfl,fun _ _ _ h=>(by simp [caller] at h),fun _ _ _ _ h=>(by simp [caller] at h),fun _ _ _ _ h=>(by simp [caller] at h),fun _ _ _ _ h=>(by simp [caller] at h)⟩
 | n+1,0,h=>by omega
 | n+1,n'+1,hn=>by
  have ih:=fM E (show n<=n' by omega);have hb: ∀f fn args st r,body ⟨E.T,E.prim,E.imm f,E.G,caller E n⟩ n fn args st= .ok r->body ⟨E.T,E.prim,E.imm f,E.G,caller E n'⟩ n' fn args st= .ok r:=fun f fn args st r h=>
   H0 (X:=⟨E.T,E.prim,E.imm f,E.G,caller E n⟩) ih (by omega) h
  refine ⟨rfl,rfl,fun f args v h=> ?_,fun f args st r h=> ?_,fun f args st v h=> ?_,fun k args st r h=> ?_⟩
  .simp only [caller] at h ⊢;split at h
   .exact h
   .split at h
    .cases h
    .obtain ⟨a,h1,h2⟩:=ag.1 h;exact ag.2 ⟨a,hb _ _ _ _ _ h1,h2⟩
  .simp only [caller] at h ⊢;split at h
   .exact h
   .obtain ⟨a,h1,h2⟩:=ag.1 h;exact ag.2 ⟨a,hb _ _ _ _ _ h1,h2⟩
  .simp only [caller] at h ⊢;split at h
   .cases h
   .obtain ⟨a,h1,h2⟩:=ag.1 h;exact ag.2 ⟨a,hb _ _ _ _ _ h1,h2⟩
  .simp only [caller,ag] at h ⊢;obtain ⟨o,h1,h2⟩:=h;refine ⟨o,h1, ?_⟩;cases o with
   | loop imm ps x c fr s p=>
    dsimp only at h2 ⊢;split at h2
    .exact EM (X:=⟨E.T,E.prim,imm,E.G,caller E n⟩) ih (by omega) h2
    .cases h2
   | _=>cases h2
theorem aA {α β:Type} (a:α) (f:α->db β):((Except.ok a:db α) >>= f)=f a:=rfl
theorem aH {α:Type} (a:α):(pure a:db α)= .ok a:=rfl
theorem Fr.Kr (fr:Fr) (d:Option Nat) (v:AV):(fr.put d v).n=fr.n:=by
 cases d with
 | none=>rfl
 | some d=>simp only [Fr.put];split <;> rfl
def JJ {α:Type}:db α->Option α
 | .ok a=>some a
 | .error _=>none
structure rB where
 full:FuncId->Bool
 isLook:FuncId->Bool
 bare:FuncId->List AV->Option AV
 wide:FuncId->List AV->St->Option (AV×St)
 look:FuncId->List AV->St->Option AV
 round:Nat->List AV->St->Option (AV×St)
structure Sx where
 T:TT
 prim:FuncId->Option Prim
 imm:TypeId->Bool
 G:Nat->Option (List AV)
 O:rB
section
variable {β:Type}
def aN {α:Type} (a:α) (K:α->Option β):Option β:=K a
abbrev bh (a:St) (K:St->Option β):Option β:=K a
def bk (k:IntKind) (v:AV) (K:Int->Option β):Option β:=
 match v with
 | .int j n=>match decide (j=k) with
  | true=>K n
  | false=>none
 | _=>none
def bJ (v:AV) (K:Bool->Option β):Option β:=
 match v with
 | .bool b=>K b
 | _=>none
def dW (v:AV) (K:List UInt8->Option β):Option β:=
 match v with
 | .str s=>K s
 | _=>none
def anyI (v:AV) (K:Int->Option β):Option β:=
 match v with
 | .int _ n=>K n
 | _=>none
def uk (v:AV) (K:List AV->Option β):Option β:=
 match v with
 | .agg cs=>K cs
 | _=>none
def gx (v:AV) (K:List AV->Option β):Option β:=
 match v with
 | .tup cs=>K cs
 | _=>none
def bj (l:List AV) (K:AV->List AV->Option β):Option β:=
 match l with
 | v::l=>K v l
 | []=>none
def bC (l:List AV) (K:Option β):Option β:=
 match l with
 | []=>K
 | _:: _=>none
def bM (b:Bool) (K:Option β):Option β:=
 match b with
 | true=>K
 | false=>none
def aW (b:Bool) (x y:Option β):Option β:=
 match b with
 | true=>x
 | false=>y
def ab (v:AV) (K:Option β):Option β:=bM (one v) K
def xj:List AV->Option β->Option β
 | [],K=>K
 | v::l,K=>ab v (xj l K)
def cE (cs:List AV) (off:Nat) (K:AV->Option β):Option β:=
 match cs[off]? with
 | some v=>K v
 | none=>none
def Me (b:Bool) (z v:AV) (K:AV->Option β):Option β:=
 match z with
 | .int k _=>bk k v fun n=>match b with
  | true=>aN n fun n=>K (.int k n)
  | false=>K (.int k n)
 | .bool _=>bJ v fun b=>K (.bool b)
 | .str _=>dW v fun s=>match b with
  | true=>aN s fun s=>K (.str s)
  | false=>K (.str s)
 | _=>K v
def NU:List AV->List AV->(List AV->Option β)->Option β
 | [],cs,K=>bC cs (K [])
 | z::zs,cs,K=>bj cs fun v l=>Me false z v fun v'=>NU zs l fun a=>K (v'::a)
def DS (b:Bool) (T:TT) (t:TypeId) (v:AV) (K:AV->Option β):Option β:=
 match T.get t with
 | some i=>match i.agg with
  | true=>match i.zero.length.ble 24 with
   | true=>uk v fun cs=>NU i.zero cs fun cs'=>K (.agg cs')
   | false=>K v
  | false=>match i.zero with
   | [z]=>Me b z v K
   | _=>K v
 | none=>K v
def Ca:Op->Bool
 | .binOp op _ _ _ _=>match op with
  | .eql=>false
  | .neq=>false
  | .lss=>false
  | .leq=>false
  | .gtr=>false
  | .geq=>false
  | _=>true
 | .unOp .. =>true
 | .convert .. =>true
 | .slice .. =>true
 | .call c=>match c.callee with
  | .builtin .min=>true
  | .builtin .max=>true
  | _=>false
 | _=>false
def tf (T:TT) (t:TypeId) (K:TI->Option β):Option β:=
 match T.get t with
 | some i=>K i
 | none=>none
def B9 (agg:Bool) (v:AV) (K:List AV->Option β):Option β:=
 match agg with
 | true=>uk v K
 | false=>ab v (K [v])
def aD (v:AV) (K:AV->Option β):Option β:=
 match fit v with
 | .ok v'=>K v'
 | .error _=>none
def KQ:List AV->(List AV->Option β)->Option β
 | [],K=>K []
 | v::l,K=>aD v fun v'=>KQ l fun a=>K (v'::a)
def Jr (agg:Bool) (v:AV) (K:AV->Option β):Option β:=
 match agg with
 | true=>uk v fun cs=>xj cs (KQ cs fun cs'=>K (.agg cs'))
 | false=>aD v K
def pS (agg:Bool):List AV->(List AV->Option β)->Option β
 | [],K=>K []
 | v::l,K=>Jr agg v fun v'=>pS agg l fun a=>K (v'::a)
def tg (z:Nat) (l:List AV):Bool:=l.all fun v=>v.cells.length.beq z
def QO (cs:List AV) (off:Nat) (new:List AV):List AV:=cJ cs off new
def St.add (st:St) (o:Obj):St:=(st.new o).2
def q0:Fx:=⟨[],.kept⟩
abbrev Kv (β:Type):=AV->St->Fx->Option β
def az {α:Type} (x:Option α) (K:α->Option β):Option β:=
 match x with
 | some a=>K a
 | none=>none
def iK {α:Type} (r:Sum α β) (f:α->Option β):Option β:=
 match r with
 | .inl a=>f a
 | .inr r=>some r
def DV (size:Nat) (agg:Bool) (a:AV) (st:St):Option (AV×List Nat):=
 match a with
 | .ip cells=>match cR size agg cells with
  | .ok v=>some (v,[])
  | .error _=>none
 | .mp id off=>match st.get id with
  | .ok (.cells _ cs)=>match cR size agg (cs.drop off) with
   | .ok v=>some (v,[id])
   | .error _=>none
  | _=>none
 | .gp k n off=>match st.get k with
  | .ok (.row m _ _ cs)=>match n.beq m with
   | true=>match cR size agg (cs.drop off) with
    | .ok v=>some (v,[k])
    | .error _=>none
   | false=>none
  | _=>none
 | _=>none
def al (size:Nat) (agg:Bool) (a:AV) (st:St) (K:AV->List Nat->Option β):Option β:=az (DV size agg a st) fun p=>K p.1 p.2
abbrev Out:=AV×St×Fx
def jm (st:St) (id:Nat) (o:Obj) (v:AV) (rd:List Nat):Option Out:=
 match st.ro.ble id with
 | true=>some (v,st.put id o,⟨rd,.wrote id o⟩)
 | false=>none
def vV (st:St) (o:Obj) (f:Nat->AV):Option Out:=some (f st.h,st.add o,⟨[],.made st.h o⟩)
def CY (O:rB) (f:FuncId) (args:List AV) (st:St):Option Out:=
 match bL (args.map strip)&& !O.full f with
 | true=>match O.bare f (args.map strip) with
  | some v=>some (v,st,q0)
  | none=>none
 | false=>match O.isLook f with
  | true=>match O.look f (args.map strip) st with
   | some v=>some (v,st,⟨[],.looked⟩)
   | none=>none
  | false=>match O.wide f args st with
   | some p=>some (p.1,p.2,⟨[],.all st p.2⟩)
   | none=>none
def Kb (O:rB) (k:Nat) (args:List AV) (st:St):Option Out:=
 match O.round k args st with
 | some p=>some (p.1,p.2,⟨[],.all st p.2⟩)
 | none=>none
def mO (O:rB) (p:db dG) (st:St):Option Out:=
 match p with
 | .ok (.val v)=>some (v,st,q0)
 | .ok (.obj id f)=>match st.get id with
  | .ok o=>match f o with
   | .ok (v,none)=>some (v,st,⟨[id],.kept⟩)
   | .ok (v,some o')=>jm st id o' v [id]
   | .error _=>none
  | .error _=>none
 | .ok (.both id k f)=>match st.get id with
  | .ok o=>match k o with
   | .ok none=>match f o none with
    | .ok v=>some (v,st,⟨[],.looked⟩)
    | .error _=>none
   | .ok (some j)=>match st.ro.ble j with
    | true=>match st.get j with
     | .ok o'=>match f o (some o') with
      | .ok v=>some (v,st,⟨[],.looked⟩)
      | .error _=>none
     | .error _=>none
    | false=>none
   | .error _=>none
  | .error _=>none
 | .ok (.new o f)=>vV st o f
 | .ok (.call f args)=>CY O f args st
 | .ok (.yield k args)=>Kb O k args st
 | .error _=>none
def mn (x:Option Out) (K:Kv β):Option β:=az x fun r=>K r.1 r.2.1 r.2.2
def made (st:St) (o:Obj) (f:Nat->AV) (K:Kv β):Option β:=mn (vV st o f) K
def dK (O:rB) (p:db dG) (st:St) (K:Kv β):Option β:=mn (mO O p st) K
def bc (O:rB) (f:FuncId) (args:List AV) (st:St) (K:Kv β):Option β:=mn (CY O f args st) K
def B2 (O:rB) (size:Nat) (a v:AV) (cs:List AV) (st:St):Option Out:=
 match a with
 | .mp id off=>match cs.length.beq size with
  | true=>match st.get id with
   | .ok (.cells t old)=>match (off+cs.length).ble old.length with
    | true=>jm st id (.cells t (QO old off cs)) undef [id]
    | false=>none
   | _=>none
  | false=>none
 | .gp k m off=>mO O (jw ⟨.other,size,0,[],false,false⟩ k m off v) st
 | _=>none
def Kk (t:TypeId) (z:List AV) (nm:Nat) (st:St):Option Out:=
 match st.get nm with
 | .ok .yZ=>jm st nm (.cells t z) (.mp nm 0) [nm]
 | _=>none
def Fu (t:TypeId) (z:List AV) (nm:Nat) (st:St) (K:Kv β):Option β:=mn (Kk t z nm st) K
def aM (O:rB) (size:Nat) (a v:AV) (cs:List AV) (st:St) (K:Kv β):Option β:=mn (B2 O size a v cs st) K
def Uc (off:Nat) (a:AV):Option AV:=
 match a with
 | .ip cells=>some (.ip (cells.drop off))
 | .mp id o=>some (.mp id (o+off))
 | .gp k n o=>some (.gp k n (o+off))
 | _=>none
def bF (off:Nat) (a:AV) (K:AV->Option β):Option β:=az (Uc off a) K
def lG (i:Int) (n:Nat) (K:Nat->Option β):Option β:=
 match i with
 | .ofNat k=>bM (k.blt n) (K k)
 | .negSucc _=>none
def eh (i:Int) (n:Nat) (K:Nat->Option β):Option β:=
 match i with
 | .ofNat k=>bM (k.ble n) (K k)
 | .negSucc _=>none
def BL:List AV->Nat->Option AV
 | [],_=>none
 | v:: _,0=>some v
 | _::l,n+1=>BL l n
def mN (i:Int) (n:Nat):Option Nat:=
 match i with
 | .ofNat k=>match k.blt n with
  | true=>some k
  | false=>none
 | .negSucc _=>none
def Fs (z:Nat) (x:AV) (i:Int) (st:St):Option (AV×List Nat):=
 match x with
 | .sl sz es _=>match sz.beq z with
  | true=>match mN i es.length with
   | some k=>match BL es k with
    | some v=>some (.ip v.cells,[])
    | none=>none
   | none=>none
  | false=>none
 | .ms id off sz len _=>match sz.beq z with
  | true=>match mN i len with
   | some k=>some (.mp id (off+k * sz),[])
   | none=>none
  | false=>none
 | .gs k sz n=>match sz.beq z with
  | true=>match mN i n with
   | some j=>match st.get k with
    | .ok (.grow m _ z' es)=>match n.beq m&&z'.beq sz with
     | true=>match j.blt es.length with
      | true=>match BL es j with
       | some v=>some (.ip v.cells,[k])
       | none=>none
      | false=>some (.gp k n (j * sz),[k])
     | false=>none
    | .ok (.row m _ z' _)=>match n.beq m&&z'.beq sz with
     | true=>some (.gp k n (j * sz),[k])
     | false=>none
    | _=>none
   | none=>none
  | false=>none
 | _=>none
def bU (z:Nat) (x:AV) (i:Int) (st:St) (K:AV->List Nat->Option β):Option β:=az (Fs z x i st) fun p=>K p.1 p.2
def Tc (z len:Nat) (x:AV) (i:Int) (K:AV->Option β):Option β:=
 lG i len fun k=>bF (k * z) x K
def eC (s:List UInt8) (i:Int) (K:UInt8->Option β):Option β:=
 lG i s.length fun k=>match s[k]? with
  | some b=>K b
  | none=>none
def VV (lo:Option Int) (h:Nat) (K:Nat->Option β):Option β:=
 match lo with
 | some l=>eh l h K
 | none=>K 0
def VU (hi:Option Int) (m d:Nat) (K:Nat->Option β):Option β:=
 match hi with
 | some h=>eh h m K
 | none=>K d
def uj (hi:Option Int) (m d:Nat):Option Nat:=
 match hi with
 | some h=>match h with
  | .ofNat k=>match k.ble m with
   | true=>some k
   | false=>none
  | .negSucc _=>none
 | none=>some d
def og (z:Nat) (x:AV) (lo hi mx:Option Int):Option AV:=
 match x,mx with
 | .ay,mx=>match uj mx 0 0 with
  | some m=>match uj hi m 0 with
   | some h=>match uj lo h 0 with
    | some _=>some .ay
    | none=>none
   | none=>none
  | none=>none
 | .es,mx=>match uj mx 0 0 with
  | some m=>match uj hi m 0 with
   | some h=>match uj lo h 0 with
    | some _=>some .es
    | none=>none
   | none=>none
  | none=>none
 | .ms id off sz len cap,mx=>match sz.beq z with
  | true=>match uj mx cap cap with
   | some m=>match uj hi m len with
    | some h=>match uj lo h 0 with
     | some l=>match h.ble m with
      | true=>some (.ms id (off+l * sz) sz (h - l) (m - l))
      | false=>none
     | none=>none
    | none=>none
   | none=>none
  | false=>none
 | .sl sz es p,none=>match sz.beq z with
  | true=>match uj hi es.length es.length with
   | some h=>match uj lo h 0 with
    | some l=>match h.beq es.length,p with
     | true,.shut=>some (.sl sz (es.drop l) .shut)
     | true,.own k=>match l.beq 0 with
      | true=>some (.sl sz es (.own k))
      | false=>some (.sl sz (es.drop l) .wide)
     | _,_=>some (.sl sz ((es.take h).drop l) .wide)
    | none=>none
   | none=>none
  | false=>none
 | .sl sz es _,some m=>match sz.beq z with
  | true=>match uj (some m) es.length 0 with
   | some m=>match uj hi m m with
    | some h=>match uj lo h 0 with
     | some l=>some (.sl sz ((es.take h).drop l) (match m.beq h with | true=> .shut | false=> .wide))
     | none=>none
    | none=>none
   | none=>none
  | false=>none
 | _,_=>none
def gi (z:Nat) (x:AV) (lo hi mx:Option Int) (K:AV->Option β):Option β:=az (og z x lo hi mx) K
def Td (x:AV):Option Nat:=
 match x with
 | .ay=>some 0
 | .sl _ e _=>some e.length
 | .ms _ _ _ len _=>some len
 | .gs _ _ n=>some n
 | .es=>some 0
 | _=>none
def fc (x:AV) (K:Nat->Option β):Option β:=az (Td x) K
def mX (x:AV) (K:List AV->Option β):Option β:=
 match oP x with
 | some l=>K l
 | none=>none
def uI (z b:Nat) (e:TypeId) (s:AV) (new:List AV) (st:St):Option Out:=
 match new with
 | []=>match s with
  | .ay=>some (.ay,st,q0)
  | .sl z es p=>some (.sl z es p,st,q0)
  | .es=>some (.es,st,q0)
  | _=>none
 | _:: _=>match s with
  | .ay=>match dp new.length ⟨.other,z,b,[],false,false⟩ with
   | true=>vV st (.tok new.length e) fun k=> .sl z new (.own k)
   | false=>none
  | .sl y es p=>match dp (es.length+new.length) ⟨.other,z,b,[],false,false⟩&&y.beq z with
   | true=>match p with
    | .shut=>vV st (.tok (es.length+new.length) e) fun k=> .sl y (es++new) (.own k)
    | .own k=>match st.get k with
     | .ok (.tok n a)=>match n.beq es.length&&a.beq e with
      | true=>jm st k (.tok (es.length+new.length) e) (.sl y (es++new) (.own k)) [k]
      | false=>none
     | _=>none
    | .wide=>none
   | false=>none
  | .es=>match dp new.length ⟨.other,z,b,[],false,false⟩ with
   | true=>vV st (.tok new.length e) fun k=> .sl z new (.own k)
   | false=>none
  | _=>none
def cT (z b:Nat) (e:TypeId) (s:AV) (new:List AV) (st:St) (K:Kv β):Option β:=mn (uI z b e s new st) K
def TB (u:U) (x y:AV):Option Bool:=
 match u,x,y with
 | .ptr _,.nilp,.nilp=>some true
 | .ptr _,.nilp,.ip _=>some false
 | .ptr _,.ip _,.nilp=>some false
 | .ptr _,.nilp,.mp .. =>some false
 | .ptr _,.mp ..,.nilp=>some false
 | .slice _,.ay,.ay=>some true
 | .slice _,.ay,.sl .. =>some false
 | .slice _,.sl ..,.ay=>some false
 | .slice _,.ay,.ms .. =>some false
 | .slice _,.ms ..,.ay=>some false
 | .slice _,.ay,.es=>some false
 | .slice _,.es,.ay=>some false
 | .map ..,.nilm,.nilm=>some true
 | .map ..,.nilm,.mm _=>some false
 | .map ..,.mm _,.nilm=>some false
 | .func,.nilfn,.nilfn=>some true
 | .func,.nilfn,.fn .. =>some false
 | .func,.fn ..,.nilfn=>some false
 | _,_,_=>none
def LD (u:U) (x y:AV) (K:Bool->Option β):Option β:=az (TB u x y) K
def notNil:AV->Bool
 | .ip _=>true
 | .mp .. =>true
 | .gp .. =>true
 | .fn (.func _) _ _=>true
 | _=>false
def LL (x:AV) (K:Option β):Option β:=bM (notNil x) K
def iI (prim:FuncId->Option Prim) (f:AV) (args:List AV):db dG:=
 match f with
 | .fn (.func g) first cap=>match prim g with
  | some q=>fO q (first++args++cap)
  | none=> .ok (.call g (first++args++cap))
 | .yld k=> .ok (.yield k args)
 | _=> .error "call: what?"
def kK (O:rB) (prim:FuncId->Option Prim) (f:AV) (args:List AV) (st:St) (K:Kv β):Option β:=mn (mO O (iI prim f args) st) K
def Bs (place:Nat->Option (Nat×Nat)) (cells:List AV):List (Nat×List AV)->(List AV->Option β)->Option β
 | [],K=>K cells
 | (i,cs)::l,K=>
  match place i with
  | none=>none
  | some (off,size)=>bM (cs.length.beq size&&(off+size).ble cells.length) (Bs place (cJ cells off cs) l K)
abbrev PF:=List (Nat×AV)
def PF.get:PF->Nat->Option AV
 | [],_=>none
 | (i,v)::l,j=>match i.beq j with
  | true=>some v
  | false=>PF.get l j
def ev (G:Nat->Option (List AV)) (p:PF) (x:Operand) (K:AV->Option β):Option β:=
 match x with
 | .tmp t=>match PF.get p t with
  | some v=>K v
  | none=>none
 | .const v=>match ofConst v with
  | .ok v=>K v
  | .error _=>none
 | .global g=>match G g with
  | some cs=>K (.ip cs)
  | none=>none
 | .func g=>K (.fn (.func g) [] [])
def SX (G:Nat->Option (List AV)) (p:PF):List Operand->(List AV->Option β)->Option β
 | [],K=>K []
 | x::l,K=>ev G p x fun v=>SX G p l fun vs=>K (v::vs)
def Uq (G:Nat->Option (List AV)) (p:PF) (x:Option Operand) (K:Option Int->Option β):Option β:=
 match x with
 | none=>K none
 | some x=>ev G p x fun v=>anyI v fun n=>K (some n)
def RT (T:TT) (G:Nat->Option (List AV)) (p:PF) (ty:Nat->Option TypeId):List (Nat×Operand)->(List (Nat×List AV)->Option β)->Option β
 | [],K=>K []
 | (i,x)::l,K=>match ty i with
  | none=>none
  | some t=>tf T t fun ti=>ev G p x fun v=>B9 ti.agg v fun cs=>RT T G p ty l fun r=>K ((i,cs)::r)
def FZ (T:TT):List (Nat×TypeId)->(List (Nat×Nat)->Option β)->Option β
 | [],K=>K []
 | (o,t)::l,K=>tf T t fun i=>FZ T l fun r=>K ((o,i.size)::r)
def lN:U->Bool
 | .ptr _=>true
 | .slice _=>true
 | .map .. =>true
 | .func=>true
 | _=>false
def Iv (op:BinOp) (a:AV):Option AV:=L9 op a
def Tm (T:TT) (op:BinOp) (t:TypeId) (x y:AV) (K:AV->Option β):Option β:=
 tf T t fun i=>match lN i.und,op with
  | true,.eql=>LD i.und x y fun b=>K (.bool b)
  | true,.neq=>LD i.und x y fun b=>K (.bool !b)
  | _,_=>match op,i.und with
   | .add,.str=>dW x fun a=>dW y fun b=>bM ((a.length+b.length).ble 9223372036854775807) (K (.str (a++b)))
   | .quo,.int k=>bk k x fun a=>bk k y fun b=>bM (!(decide (b=0))) (K (.int k (k.wrap (a.tdiv b))))
   | .rem,.int k=>bk k x fun a=>bk k y fun b=>bM (!(decide (b=0))) (K (.int k (a.tmod b)))
   | .shl,.int k=>bk k x fun a=>anyI y fun b=>bM (!(decide (b < 0))) (K (.int k (k.wrap (a * 2 ^ (min b.toNat k.bits)))))
   | .shr,.int k=>bk k x fun a=>anyI y fun b=>bM (!(decide (b < 0))) (K (.int k (a.fdiv (2 ^ (min b.toNat k.bits)))))
   | _,_=>az (JJ (binOp T op t x y)) K
def M5 (S:Sx) (o:Op) (p:PF) (st:St) (K:Kv β):Option β:=
 match o with
 | .move x | .assign x=>ev S.G p x fun v=>K v st q0
 | .pick c a b=>ev S.G p c fun c=>bJ c fun c=>aW c (ev S.G p a fun v=>K v st q0) (ev S.G p b fun v=>K v st q0)
 | .alloc t=>tf S.T t fun i=>made st (.cells t i.zero) (fun k=> .mp k 0) K
 | .box t x=>tf S.T t fun i=>ev S.G p x fun v=>B9 i.agg v fun cs=>bM (cs.length.beq i.size) (xj cs (match S.imm t with
  | true=>KQ cs fun cs'=>K (.ip cs') st q0
  | false=>made st (.cells t cs) (fun k=> .mp k 0) K))
 | .build t parts=>tf S.T t fun i=>match i.und with
  | .struct fs=>RT S.T S.G p (fun k=>(fs[k]?).map (·.2)) parts.toList fun ps=>FZ S.T fs fun sz=>Bs (fun k=>sz[k]?) i.zero ps fun cs=>K (.agg cs) st q0
  | .arr _ e=>RT S.T S.G p (fun _=>some e) parts.toList fun ps=>tf S.T e fun g=>Bs (fun k=>some (k * g.size,g.size)) i.zero ps fun cs=>K (.agg cs) st q0
  | _=>none
 | .buildSlice t len parts=>tf S.T t fun i=>match i.und with
  | .slice e=>tf S.T e fun g=>RT S.T S.G p (fun _=>some e) parts.toList fun ps=>bM ((len * g.size).ble 16777216&&Nat.ble 1 g.size) (Bs (fun k=>some (k * g.size,g.size)) (zeros g.zero len) ps fun cs=>xj cs (match group g.size g.agg len cs with
   | .ok vs=>pS g.agg vs fun vs'=>K (.sl g.size vs' .shut) st q0
   | .error _=>none))
  | _=>none
 | .makeSlice t l c=>ev S.G p l fun l=>ev S.G p c fun c=>dK S.O (oa S.T t l c) st K
 | .load t a=>tf S.T t fun i=>ev S.G p a fun a=>al i.size i.agg a st fun v rd=>K v st ⟨rd,.kept⟩
 | .store t a x=>tf S.T t fun i=>ev S.G p a fun a=>ev S.G p x fun v=>B9 i.agg v fun cs=>xj cs (aM S.O i.size a v cs st K)
 | .nilCheck x=>ev S.G p x fun v=>LL v (K v st q0)
 | .binOp op t x y _=>ev S.G p x fun a=>ev S.G p y fun b=>match Pw y b&&Lb S.T t with
  | true=>az (Iv op a) fun v=>K v st q0
  | false=>Tm S.T op t a b fun v=>K v st q0
 | .unOp op _ x=>ev S.G p x fun x=>az (JJ (unOp op x)) fun v=>K v st q0
 | .convert s d x=>ev S.G p x fun x=>dK S.O (tm S.T s d x) st K
 | .makeInterface t x=>tf S.T t fun i=>match i.und with
  | .iface _ | .other=>none
  | _=>ev S.G p x fun v=>K (.iface t v) st q0
 | .makeFunc f first cap=>SX S.G p first.toList fun a=>SX S.G p cap.toList fun c=>K (.fn f a c) st q0
 | .makeMap _ none=>made st (.map []) (fun k=> .mm k) K
 | .slice t x lo hi mx=>match mx,hi with
  | some _,none=>none
  | _,_=>tf S.T t fun i=>ev S.G p x fun x=>Uq S.G p lo fun lo=>Uq S.G p hi fun hi=>Uq S.G p mx fun mx=>match i.und with
   | .str=>dW x fun s=>match mx with
    | none=>VU hi s.length s.length fun h=>VV lo h fun l=>K (.str ((s.take h).drop l)) st q0
    | some _=>none
   | .slice e=>tf S.T e fun g=>gi g.size x lo hi mx fun v=>K v st q0
   | _=>none
 | .fieldAddr t x f=>tf S.T t fun i=>match i.und with
  | .struct fs=>match fs[f]? with
   | some (off,q)=>tf S.T q fun r=>match r.size with
    | 0=>none
    | _+1=>ev S.G p x fun a=>bF off a fun a'=>K a' st q0
   | none=>none
  | _=>none
 | .field t x f=>ev S.G p x fun x=>az (JJ (field S.T t x f)) fun v=>K v st q0
 | .indexAddr t x i=>tf S.T t fun ti=>ev S.G p x fun x=>ev S.G p i fun i=>anyI i fun i=>match ti.und with
  | .slice e=>tf S.T e fun g=>bU g.size x i st fun a rd=>K a st ⟨rd,.kept⟩
  | .arr len e=>tf S.T e fun g=>Tc g.size len x i fun a=>K a st q0
  | _=>none
 | .index t x i=>tf S.T t fun ti=>ev S.G p x fun x=>ev S.G p i fun i=>match ti.und with
  | .str=>dW x fun s=>anyI i fun i=>eC s i fun b=>K (.int .u8 b.toNat) st q0
  | _=>az (JJ (zw S.T t x i)) fun v=>K v st q0
 | .lookup t x k ok=>ev S.G p x fun x=>ev S.G p k fun k=>dK S.O (js S.T t x k ok) st K
 | .mapUpdate t m k v | .insert t m k v=>ev S.G p m fun m=>ev S.G p k fun k=>ev S.G p v fun v=>dK S.O (oq S.T t m k v) st K
 | .range t x=>ev S.G p x fun x=>tf S.T t fun i=>match i.und with
  | .str=>dW x fun s=>made st (.sit s 0) (fun k=> .mp k 0) K
  | _=>none
 | .next x true=>ev S.G p x fun x=>dK S.O (Ad x) st K
 | .extract x i=>ev S.G p x fun x=>gx x fun vs=>cE vs i fun v=>K v st q0
 | .call c=>SX S.G p c.args.toList fun args=>match c.callee with
  | .builtin b=>match b,c.argTypes.toList,args with
   | .len,t:: _,[x]=>tf S.T t fun i=>match i.und with
    | .str=>dW x fun s=>K (.int .i64 s.length) st q0
    | .slice _=>fc x fun n=>K (.int .i64 n) st q0
    | _=>dK S.O (zK S.T t x) st K
   | .append,[t,xt],[s,x]=>tf S.T t fun i=>tf S.T xt fun u=>match i.und,FH u.und with
    | .slice e,true=>tf S.T e fun g=>mX x fun new=>match S.imm (1000000+t) with
     | true=>dK S.O (ia g e s new) st K
     | false=>match S.imm (2000000+t) with
     | true=>dK S.O (rv g e s new) st K
     | false=>match S.imm (3000000+t) with
     | true=>dK S.O (sk g e s new) st K
     | false=>pS g.agg new fun j=>bM (tg g.size j) (cT g.size g.bytes e s j st K)
    | _,_=>none
   | b,ts,args=>dK S.O (fk S.T S.imm b ts args) st K
  | .value f=>ev S.G p f fun f=>kK S.O S.prim f args st K
  | .invoke .. =>none
 | _=>none
def B1 (all:List Oper) (p:PF) (g:Option (Nat×Bool)) (yes no:PF->Option β):Option β:=
 match g with
 | none=>yes p
 | some (j,want)=>match (all[j]?).bind (·.dst) with
  | some d=>match PF.get p d with
   | some v=>match v with
    | .bool b=>match want with
     | true=>aW b (yes ((d,.bool true)::p)) (no ((d,.bool false)::p))
     | false=>aW b (no ((d,.bool true)::p)) (yes ((d,.bool false)::p))
    | _=>no p
   | none=>none
  | none=>none
def yI (N:Nat) (d:Option Tmp) (v:AV) (p:PF) (K:PF->Option β):Option β:=
 match d with
 | none=>K p
 | some d=>match d.blt N with
  | true=>K ((d,v)::p)
  | false=>none
def pf (ops:List Oper) (j:Nat) (x:Fx):List (Nat×Fx)->Bool
 | []=>true
 | (i,y)::l=>(behind ops (j+1) j i||apart y x)&&pf ops j x l
def CO (S:Sx) (N:Nat) (all:List Oper) (draw:Bool):(j:Nat)->(seen:List (Nat×Fx))->List Oper->PF->St->(PF->St->Option β)->Option β
 | _,_,[],p,st,K=>K p st
 | j,seen,o::l,p,st,K=>B1 all p o.guard
  (fun p=>M5 S o.op p st fun v st' x=>DS (Ca o.op) S.T o.type v fun v=>match draw with
   | false=>yI N o.dst v p fun p=>CO S N all draw (j+1) seen l p st' K
   | true=>bM (pf all j x seen) (yI N o.dst v p fun p=>CO S N all draw (j+1) ((j,x)::seen) l p st' K))
  (fun p=>yI N o.dst undef p fun p=>CO S N all draw (j+1) seen l p st K)
def TF (S:Sx) (e:Nat->Option Nat) (o:Oper) (p:PF) (st:St) (K:Kv β):Option β:=
 match qZ e o with
 | some (t,nm)=>tf S.T t fun i=>Fu t i.zero nm st K
 | none=>M5 S o.op p st K
def rN (S:Sx) (N:Nat) (e:Nat->Option Nat) (all:List Oper):(j:Nat)->(seen:List (Nat×Fx))->List Oper->PF->St->(PF->St->Option β)->Option β
 | _,_,[],p,st,K=>K p st
 | j,seen,o::l,p,st,K=>B1 all p o.guard
  (fun p=>TF S e o p st fun v st' x=>DS (Ca o.op) S.T o.type v fun v=>
   bM (pf all j x seen) (yI N o.dst v p fun p=>rN S N e all (j+1) ((j,x)::seen) l p st' K))
  (fun p=>yI N o.dst undef p fun p=>rN S N e all (j+1) seen l p st K)
def Qb (st:St):List Nat->(St->Option β)->Option β
 | [],K=>K st
 | _::l,K=>bh (st.add .yZ) fun st=>Qb st l K
end
def mK {σ β:Type} (F:σ->Option (Sum σ β)):Nat->σ->Option β
 | 0,_=>none
 | n+1,s=>match F s with
  | some (.inl s')=>mK F n s'
  | some (.inr r)=>some r
  | none=>none
open Classical in
noncomputable def aK {σ β:Type} (F:σ->Option (Sum σ β)) (s:σ):Option β:=
 if h: ∃r n,mK F n s=some r then some h.choose else none
structure Lv where
 falls:Bool
 outs:List Nat
 rets:Bool
def leaves:Code->Lv
 | .skip=>⟨true,[],false⟩
 | .label _=>⟨true,[],false⟩
 | .region .. =>⟨true,[],false⟩
 | .seq a b=>let x:=leaves a;let y:=leaves b
  match x.falls with
  | true=>⟨y.falls,x.outs++y.outs,x.rets||y.rets⟩
  | false=>x
 | .cond _ a b=>let x:=leaves a;let y:=leaves b;⟨x.falls||y.falls,x.outs++y.outs,x.rets||y.rets⟩
 | .block id c=>let x:=leaves c;⟨x.falls||tQ id x.outs,x.outs.filter fun i=> !i.beq id,x.rets⟩
 | .loop c=>let x:=leaves c;⟨false,x.outs.eraseDups,x.rets⟩
 | .scope c=>leaves c
 | .rangeFunc _ _ _ c=>let x:=leaves c;⟨true,x.outs.eraseDups,x.rets⟩
 | .exit i=>⟨false,[i],false⟩
 | .ret=>⟨false,[],true⟩
 | _=>⟨false,[],false⟩
def FN (n:Nat):List Nat->Nat
 | []=>0
 | m::l=>match n.beq m with
  | true=>FN n l+1
  | false=>FN n l
section
variable {β:Type}
def jy (p:PF):List Nat->List Nat
 | []=>[]
 | i::l=>match PF.get p i with
  | some _=>i::jy p l
  | none=>jy p l
def rX (live:List Nat):List Nat->List Nat
 | []=>[]
 | i::l=>match tQ i live with
  | true=>i::rX live l
  | false=>rX live l
def getAll (p:PF):List Nat->(List AV->Option β)->Option β
 | [],K=>K []
 | i::l,K=>match PF.get p i with
  | some v=>getAll p l fun vs=>K (v::vs)
  | none=>none
def erase (ws:List Nat):PF->PF
 | []=>[]
 | (i,v)::l=>match tQ i ws with
  | true=>erase ws l
  | false=>(i,v)::erase ws l
def JT:List (Nat×TypeId)->Nat->Option TypeId
 | [],_=>none
 | (i,t)::l,j=>match i.beq j with
  | true=>some t
  | false=>JT l j
def Hp (T:TT) (tys:List (Nat×TypeId)) (i:Nat) (v:AV) (K:AV->Option β):Option β:=
 match JT tys i with
 | some t=>DS false T t v K
 | none=>K v
def ic (T:TT) (tys:List (Nat×TypeId)):List Nat->List AV->PF->(PF->Option β)->Option β
 | [],vs,p,K=>bC vs (K p)
 | i::l,vs,p,K=>bj vs fun v vs=>Hp T tys i v fun v=>ic T tys l vs p fun p=>K ((i,v)::p)
def Aj:Ex->List Ex->Nat->Option Nat
 | _,[],_=>none
 | x,y::l,n=>match decide (x=y) with
  | true=>some n
  | false=>Aj x l (n+1)
def lC (n:Nat) (a:Option β) (b:Nat->Option β):Option β:=
 match n with
 | 0=>a
 | n+1=>b n
def PU (K:Ex->Option β):List Ex->Nat->Option β
 | [],_=>none
 | x::l,n=>match l with
  | []=>K x
  | _:: _=>lC n (K x) fun n=>PU K l n
def ug:List Oper->Bool
 | []=>false
 | o::l=>match o.guard with
  | some _=>true
  | none=>ug l
end
def JU {β:Type} (j x:Ex) (A B:Option β):Option β:=aW (decide (j=x)) A B
def Cc {β:Type} (j:Ex) (K:Ex->Option β):List Ex->Option β
 | []=>none
 | x::l=>JU j x (K x) (Cc j K l)
def TR {β:Type} (k:Nat) (st:St) (K:Ex->St->Option β):Option β:=
 match st.get k with
 | .ok (.loop _ _ _ _ _ s p)=>bM (s.beq 0||s.beq 2) (K p (st.put k .dead))
 | _=>none
def J4 {β:Type} (O:rB) (f:AV) (a:Obj) (st:St) (K:Ex->St->Option β):Option β:=
 match f with
 | .fn (.func g) [] cap=>az (O.wide g (.yld st.h::cap) (st.add a)) fun r=>TR st.h r.2 K
 | _=>none
abbrev bT:=List AV×St
noncomputable def lx (S:Sx) (N:Nat) (tys:List (Nat×TypeId)):Code->(live:List Nat)->{β:Type}->PF->St->(Ex->PF->St->Option β)->Option β
 | .skip,_,_,p,st,K=>K .normal p st
 | .label _,_,_,p,st,K=>K .normal p st
 | .exit i,_,_,p,st,K=>K (.exit i) p st
 | .ret,_,_,p,st,K=>K .ret p st
 | .scope c,live,_,p,st,K=>lx S N tys c live p st K
 | .region _ ops draw,live,_,p,st,K=>
  match draw&&S.imm 4000000 with
  | false=>
   match ug ops.toList with
   | false=>CO S N ops.toList draw 0 [] ops.toList p st fun p st=>K .normal p st
   | true=>let ws:=dedup (rX live (cV ops.toList))
    az (CO (β:=bT) S N ops.toList draw 0 [] ops.toList p st fun p st=>getAll p ws fun vs=>some (vs,st)) fun c=>
     ic S.T tys ws c.1 (erase (cV ops.toList) p) fun p=>K .normal p c.2
  | true=>Qb st (oU ops.toList) fun st'=>
   match ug ops.toList with
   | false=>rN S N (Ap st.h (oU ops.toList)) ops.toList 0 [] ops.toList p st' fun p st=>K .normal p st
   | true=>let ws:=dedup (rX live (cV ops.toList))
    az (rN (β:=bT) S N (Ap st.h (oU ops.toList)) ops.toList 0 [] ops.toList p st' fun p st=>getAll p ws fun vs=>some (vs,st)) fun c=>
     ic S.T tys ws c.1 (erase (cV ops.toList) p) fun p=>K .normal p c.2
 | .seq a b,live,_,p,st,K=>lx S N tys a (wv b++live) p st fun ex p st=>match ex with
  | .normal=>lx S N tys b live p st K
  | ex=>K ex p st
 | .cond c a b,live,_,p,st,K=>ev S.G p c fun c=>bJ c fun c=>
  let x:=leaves a;let y:=leaves b
  match x.falls&&y.falls with
  | false=>aW c (lx S N tys a live p st K) (lx S N tys b live p st K)
  | true=>
   let W:=writes a++writes b
   let ws:=dedup (jy p (rX live W))
   match (x.outs.isEmpty&&y.outs.isEmpty)&& !(x.rets||y.rets) with
   | true=>
    let J:Ex->PF->St->Option bT:=fun ex p st=>match ex with
     | .normal=>getAll p ws fun vs=>some (vs,st)
     | _=>none
    az (aW c (lx S N tys a live p st J) (lx S N tys b live p st J)) fun c=>
     ic S.T tys ws c.1 (erase W p) fun p=>K .normal p c.2
   | false=>
    let J:Ex->PF->St->Option (Sum bT _):=fun ex p st=>match ex with
     | .normal=>getAll p ws fun vs=>some (.inl (vs,st))
     | ex=>az (K ex p st) fun r=>some (.inr r)
    az (aW c (lx S N tys a live p st J) (lx S N tys b live p st J)) fun r=>iK r fun c=>ic S.T tys ws c.1 (erase W p) fun p=>K .normal p c.2
 | .block id c,live,_,p,st,K=>
  let x:=leaves c
  match ((match x.falls with | true=>1 | false=>0)+FN id x.outs).ble 1 with
  | true=>lx S N tys c live p st fun ex p st=>match ex with
   | .exit i=>match i.beq id with
    | true=>K .normal p st
    | false=>K (.exit i) p st
   | ex=>K ex p st
  | false=>
   let W:=writes c
   let ws:=dedup (jy p (rX live W))
   let J:Ex->PF->St->Option (Sum bT _):=fun ex p st=>match ex with
    | .normal=>getAll p ws fun vs=>some (.inl (vs,st))
    | .exit i=>match i.beq id with
     | true=>getAll p ws fun vs=>some (.inl (vs,st))
     | false=>az (K (.exit i) p st) fun r=>some (.inr r)
    | .ret=>az (K .ret p st) fun r=>some (.inr r)
   az (lx S N tys c live p st J) fun r=>iK r fun c=>ic S.T tys ws c.1 (erase W p) fun p=>K .normal p c.2
 | .loop c,live,_,p,st,K=>
  let W:=writes c
  let ws:=dedup (jy p W)
  let us:=rX live ws
  let x:=leaves c
  let es:List Ex:=x.outs.eraseDups.map .exit++(match x.rets with | true=>[.ret] | false=>[])
  getAll p ws fun vs=>az (aK (fun s:bT=>ic S.T tys ws s.1 (erase W p) fun p=>lx (β:=Sum bT (Nat×bT)) S N tys c (ws++live) p s.2 fun ex p st=>match ex with
    | .normal=>getAll p ws fun vs=>some (.inl (vs,st))
    | ex=>az (Aj ex es 0) fun k=>getAll p us fun vs=>some (.inr (k,vs,st))) (vs,st)) fun r=>
   ic S.T tys us r.2.1 (erase W p) fun p=>PU (fun ex=>K ex p r.2.2) es r.1
 | .rangeFunc g ps a c,_,_,p,st,K=>
  let us:=pH ps.toList a c
  let x:=leaves c
  let es:List Ex:= .normal::(x.outs.eraseDups.map .exit++(match x.rets with | true=>[.ret] | false=>[]))
  ev S.G p g fun f=>getAll p us fun vs=>J4 S.O f (.loop S.imm ps.toList a c (Jw N us vs) 0 .normal) st fun j st'=>Cc j (fun ex=>K ex p st') es
 | _,_,_,_,_,_=>none
section
variable {β:Type}
def Oo (S:Sx) (p:PF) (st:St) (r:ResultVar) (K:AV->Option β):Option β:=
 match r with
 | .tmp t=>match PF.get p t with
  | some v=>K v
  | none=>none
 | .cell a t=>tf S.T t fun i=>match PF.get p a with
  | some a=>al i.size i.agg a st fun v _=>DS false S.T t v K
  | none=>none
def Hl (S:Sx) (p:PF) (st:St):List ResultVar->(List AV->Option β)->Option β
 | [],K=>K []
 | r::l,K=>Oo S p st r fun v=>Hl S p st l fun vs=>K (v::vs)
def Cz:List ResultVar->List Nat
 | []=>[]
 | .tmp t::l=>t::Cz l
 | .cell a _::l=>a::Cz l
def ku:Code->List (Nat×TypeId)
 | .region _ ops _=>go ops.toList
 | .seq a b=>ku a++ku b
 | .cond _ a b=>ku a++ku b
 | .block _ c=>ku c
 | .loop c=>ku c
 | .scope c=>ku c
 | .rangeFunc _ _ a c=>ku a++ku c
 | _=>[]
 where
 go:List Oper->List (Nat×TypeId)
  | []=>[]
  | o::l=>match o.dst with
   | some d=>(d,o.type)::go l
   | none=>go l
def CW:Nat->List TypeId->List (Nat×TypeId)
 | _,[]=>[]
 | i,t::l=>(i,t)::CW (i+1) l
def D4 (T:TT):Nat->List TypeId->List AV->PF->(PF->Option β)->Option β
 | _,_,[],p,K=>K p
 | i,ts,v::vs,p,K=>match ts with
  | []=>D4 T (i+1) [] vs ((i,v)::p) K
  | t::ts=>DS false T t v fun v=>D4 T (i+1) ts vs ((i,v)::p) K
noncomputable def HK (S:Sx) (fn:Func) (args:List AV) (st:St) (K:AV->St->Option β):Option β:=
 match fn.body with
 | none=>none
 | some c=>match args.length.ble fn.ntmps with
  | false=>none
  | true=>D4 S.T 0 fn.params.toList args [] fun p=>lx S fn.ntmps (CW 0 fn.params.toList++ku c) c (Cz fn.results.toList) p st fun ex p st=>match ex with
   | .exit _=>none
   | _=>Hl S p st fn.results.toList fun vs=>K (oneOf vs) st
def gR (st:St) (base:Nat) (v:AV) (K:AV->Option β):Option β:=
 match freeze st base 100 v with
 | .ok v=>bM (bare v) (K v)
 | .error _=>none
end
def jM (P:Nat->Prop):Prop:= ∃m,∀n,m<=n->P n
theorem jM.always {P:Nat->Prop} (h: ∀n,P n):jM P:=⟨0,fun n _=>h n⟩
theorem jM.lift {P Q:Nat->Prop} (h:jM P) (k: ∀n,P n->Q n):jM Q:=by
 obtain ⟨m,h⟩:=h;exact ⟨m,fun n hn=>k n (h n hn)⟩
theorem jM.both {P Q:Nat->Prop} (h:jM P) (k:jM Q):jM fun n=>P n/\Q n:=by
 obtain ⟨m,h⟩:=h;obtain ⟨a,k⟩:=k;exact ⟨max m a,fun n hn=>⟨h n (by omega),k n (by omega)⟩⟩
section
variable {β:Type} {r:β}
theorem tz {α:Type} {x:db α} {a:α} (h:JJ x=some a):x= .ok a:=by
 cases x <;> simp_all [JJ]
theorem bK {α:Type} {x:Option α} {K:α->Option β} (h:az x K=some r): ∃a,x=some a/\K a=some r:=by
 cases x with
 | none=>simp [az] at h
 | some a=>exact ⟨a,rfl,h⟩
theorem lX {k:IntKind} {v:AV} {K:Int->Option β} (h:bk k v K=some r): ∃n,v= .int k n/\K n=some r:=by
 unfold bk at h;split at h
 .rename_i j n;split at h
  .rename_i e;have e:=YA e;subst e;exact ⟨n,rfl,h⟩
  .cases h
 .cases h
theorem xT {v:AV} {K:Bool->Option β} (h:bJ v K=some r): ∃b,v= .bool b/\K b=some r:=by
 unfold bJ at h;split at h
 .exact ⟨_,rfl,h⟩
 .cases h
theorem me {v:AV} {K:List UInt8->Option β} (h:dW v K=some r): ∃b,v= .str b/\K b=some r:=by
 unfold dW at h;split at h
 .exact ⟨_,rfl,h⟩
 .cases h
theorem nL {v:AV} {K:Int->Option β} (h:anyI v K=some r): ∃k n,v= .int k n/\K n=some r:=by
 unfold anyI at h;split at h
 .exact ⟨_,_,rfl,h⟩
 .cases h
theorem za {v:AV} {K:List AV->Option β} (h:uk v K=some r): ∃cs,v= .agg cs/\K cs=some r:=by
 unfold uk at h;split at h
 .exact ⟨_,rfl,h⟩
 .cases h
theorem J1 {v:AV} {K:List AV->Option β} (h:gx v K=some r): ∃cs,v= .tup cs/\K cs=some r:=by
 unfold gx at h;split at h
 .exact ⟨_,rfl,h⟩
 .cases h
theorem DL {l:List AV} {K:AV->List AV->Option β} (h:bj l K=some r): ∃v vs,l=v::vs/\K v vs=some r:=by
 unfold bj at h;split at h
 .exact ⟨_,_,rfl,h⟩
 .cases h
theorem Eu {l:List AV} {K:Option β} (h:bC l K=some r):l=[]/\K=some r:=by
 unfold bC at h;split at h
 .exact ⟨rfl,h⟩
 .cases h
theorem ef {b:Bool} {K:Option β} (h:bM b K=some r):b=true/\K=some r:=by
 cases b
 .cases h
 .exact ⟨rfl,h⟩
theorem IW {cs:List AV} {off:Nat} {K:AV->Option β} (h:cE cs off K=some r): ∃v,cs[off]? =some v/\K v=some r:=by
 unfold cE at h;split at h
 .exact ⟨_,by assumption,h⟩
 .cases h
theorem Em: ∀{cs:List AV} {off:Nat} {v:AV},cs[off]? =some v->eZ cs off= .ok v
 | [],_,_,h=>by simp at h
 | _:: _,0,_,h=>by simp at h;simp [eZ,h]
 | _::l,n+1,_,h=>by simp at h;simp only [eZ];exact Em h
theorem AY {b:Bool} {z v:AV} {K:AV->Option β} (h:Me b z v K=some r):K v=some r:=by
 unfold Me at h;split at h
 .obtain ⟨n,rfl,a⟩:=lX h;cases b <;> exact a
 .obtain ⟨n,rfl,a⟩:=xT h;exact a
 .obtain ⟨n,rfl,a⟩:=me h;cases b <;> exact a
 .exact h
theorem Bf: ∀{zs cs:List AV} {K:List AV->Option β},NU zs cs K=some r->K cs=some r
 | [],cs,K,h=>by
  obtain ⟨rfl,h⟩:=Eu h;exact h
 | z::zs,cs,K,h=>by
  obtain ⟨v,l,rfl,hd⟩:=DL h;exact Bf (K:=fun a=>K (v::a)) (AY (K:=fun v'=>NU zs l fun a=>K (v'::a)) hd)
theorem jW {b:Bool} {T:TT} {t:TypeId} {v:AV} {K:AV->Option β} (h:DS b T t v K=some r):K v=some r:=by
 unfold DS at h;split at h
 .split at h
  .split at h
   .obtain ⟨cs,rfl,h⟩:=za h;exact Bf (K:=fun cs'=>K (.agg cs')) h
   .exact h
  .split at h
   .exact AY h
   .exact h
 .exact h
theorem cK {T:TT} {t:TypeId} {K:TI->Option β} (h:tf T t K=some r): ∃i,ti T t= .ok i/\K i=some r:=by
 unfold tf at h;split at h
 .rename_i i e;exact ⟨i,cB.2 e,h⟩
 .cases h
theorem H8 {v:AV} (h:one v=true):v.cells=[v]:=by
 cases v <;> first | rfl | (cases h;done)
theorem pQ {agg:Bool} {v:AV} {K:List AV->Option β} (h:B9 agg v K=some r):K v.cells=some r/\(agg=true-> ∃cs,v= .agg cs)/\(agg=false->one v=true):=by
 cases agg with
 | true=>obtain ⟨cs,rfl,h⟩:=za h;exact ⟨h,fun _=>⟨cs,rfl⟩,(by intro h;cases h)⟩
 | false=>
  obtain ⟨h1,h⟩:=ef h;rw [H8 h1];exact ⟨h,(by intro h;cases h),fun _=>h1⟩
theorem mc: ∀{cs:List AV} {K:Option β},xj cs K=some r->fw cs=true/\K=some r
 | [],_,h=>⟨rfl,h⟩
 | v::l,K,h=>by
  obtain ⟨h1,h⟩:=ef h;obtain ⟨h2,h⟩:=mc h;exact ⟨by simp [fw,h1,h2],h⟩
theorem A6 {v:AV} {K:AV->Option β} (h:aD v K=some r): ∃v',fit v= .ok v'/\K v'=some r:=by
 unfold aD at h;split at h
 .exact ⟨_,by assumption,h⟩
 .cases h
theorem uG: ∀{cs:List AV} {K:List AV->Option β},KQ cs K=some r-> ∃cs',fits cs= .ok cs'/\K cs'=some r
 | [],_,h=>⟨[],rfl,h⟩
 | v::l,K,h=>by
  obtain ⟨v',e,h⟩:=A6 h;obtain ⟨a,b,h⟩:=uG h;exact ⟨v'::a,by simp [fits,e,b];rfl,h⟩
theorem NM {v v':AV} (h:one v=true) (e:fit v= .ok v'):v'=strip v/\bare (strip v)=true:=by
 have:fit v=(match bare (strip v) with | true=> .ok (strip v) | false=> .error "a name within what never changes"):=by
  cases v <;> first | rfl | (cases h;done)
 rw [this] at e;split at e
 .rename_i hb;cases e;exact ⟨rfl,hb⟩
 .cases e
theorem xd: ∀{cs cs':List AV},fw cs=true->fits cs= .ok cs'->cs'=cs.map strip/\bL (cs.map strip)=true
 | [],cs',_,e=>by cases e;exact ⟨rfl,rfl⟩
 | v::l,cs',h,e=>by
  simp only [fw,WY] at h;simp only [fits,ag,au] at e;obtain ⟨v',a,c,b,rfl⟩:=e;obtain ⟨rfl,h1⟩:=NM h.1 a;obtain ⟨rfl,h2⟩:=xd h.2 b;exact ⟨rfl,by simp [bf,h1,h2]⟩
theorem MU {cs cs':List AV} (h:fw cs=true) (e:fits cs= .ok cs'):fit (.agg cs)= .ok (.agg cs'):=by
 obtain ⟨rfl,hb⟩:=xd h e;simp only [fit];have:bare (.agg (cs.map strip))=true:=hb;rw [this]
theorem IG {agg:Bool} {v:AV} {K:AV->Option β} (h:Jr agg v K=some r): ∃v',fit v= .ok v'/\K v'=some r:=by
 cases agg with
 | true=>
  obtain ⟨cs,rfl,h⟩:=za h;obtain ⟨h1,h⟩:=mc h;obtain ⟨cs',e,h⟩:=uG h;exact ⟨_,MU h1 e,h⟩
 | false=>exact A6 h
theorem se {agg:Bool}: ∀{vs:List AV} {K:List AV->Option β},pS agg vs K=some r-> ∃vs',fits vs= .ok vs'/\K vs'=some r
 | [],_,h=>⟨[],rfl,h⟩
 | v::l,K,h=>by
  obtain ⟨v',e,h⟩:=IG h;obtain ⟨a,b,h⟩:=se h;exact ⟨v'::a,by simp [fits,e,b];rfl,h⟩
end
section
variable {E:Env} {O:rB}
structure MN (E:Env) (O:rB):Prop where
 full:O.full=E.full
 isLook:O.isLook=E.isLook
 bare: ∀f a v,O.bare f a=some v->jM fun n=>(caller E n).bare f a= .ok v
 wide: ∀f a st v,O.wide f a st=some v->jM fun n=>(caller E n).wide f a st= .ok v
 look: ∀f a st v,O.look f a st=some v->jM fun n=>(caller E n).look f a st= .ok v
 round: ∀k a st v,O.round k a st=some v->jM fun n=>(caller E n).round k a st= .ok v
theorem qi (E:Env): ∀n,(caller E n).full=E.full
 | 0=>rfl
 | _+1=>rfl
theorem rF (E:Env): ∀n,(caller E n).isLook=E.isLook
 | 0=>rfl
 | _+1=>rfl
def dV (E:Env) (st:St) (p:db dG) (v:AV) (x:Fx):Prop:=jM fun n=>(p >>= aC (caller E n) st)= .ok (v,x)
variable {β:Type} {r:β} {K:Kv β} {st:St}
theorem nu {q:Option Out} (h:mn q K=some r): ∃v st' x,q=some (v,st',x)/\K v st' x=some r:=by
 obtain ⟨⟨v,st',x⟩,e,h⟩:=bK h;exact ⟨v,st',x,e,h⟩
theorem pR {id:Nat} {o:Obj} {v u:AV} {rd:List Nat} {st':St} {x:Fx} (h:jm st id o v rd=some (u,st',x)):eG st id (some o)= .ok (.wrote id o)/\u=v/\x=⟨rd,.wrote id o⟩/\st'=x.did.app st:=by
 unfold jm at h;split at h
 .rename_i h1;simp only [W7,WV] at h;obtain ⟨rfl,rfl,rfl⟩:=h;have:id.blt st.ro=false:=cW.2 (WU h1);exact ⟨by simp only [eG,this],rfl,rfl,rfl⟩
 .cases h
theorem lZ {o:Obj} {f:Nat->AV} {v:AV} {st':St} {x:Fx} (h:vV st o f=some (v,st',x)):dV E st (.ok (.new o f)) v x/\st'=x.did.app st:=by
 simp only [vV,W7,WV] at h;obtain ⟨rfl,rfl,rfl⟩:=h;exact ⟨jM.always fun _=>rfl,rfl⟩
theorem IM {o:Obj} {f:Nat->AV} (h:made st o f K=some r): ∃v x,dV E st (.ok (.new o f)) v x/\K v (x.did.app st) x=some r:=by
 obtain ⟨v,st',x,e,h⟩:=nu h;obtain ⟨hp,rfl⟩:=lZ (E:=E) e;exact ⟨v,x,hp,h⟩
theorem sD (a:MN E O) {p:db dG} {v:AV} {st':St} {x:Fx} (h:mO O p st=some (v,st',x)):dV E st p v x/\st'=x.did.app st:=by
 unfold mO at h;split at h
 .cases h;exact ⟨jM.always fun _=>rfl,rfl⟩
 .rename_i id f;split at h
  .rename_i o ho;split at h
   .rename_i v e;cases h;exact ⟨jM.always fun _=>by simp only [aA,aC,ho,e,eG];rfl,rfl⟩
   .rename_i v o' e;obtain ⟨h1,rfl,rfl,rfl⟩:=pR h;exact ⟨jM.always fun _=>by simp only [aA,aC,ho,e,h1];rfl,rfl⟩
   .cases h
  .cases h
 .rename_i id k f;split at h
  .rename_i o ho;split at h
   .rename_i e;split at h
    .rename_i v b;cases h;exact ⟨jM.always fun _=>by simp only [aA,aC,ho,e,b];rfl,rfl⟩
    .cases h
   .rename_i j e;split at h
    .rename_i h1;split at h
     .rename_i o' c;split at h
      .rename_i v b;cases h;exact ⟨jM.always fun _=>by simp only [aA,aC,ho,e,h1,c,b];rfl,rfl⟩
      .cases h
     .cases h
    .cases h
   .cases h
  .cases h
 .exact lZ h
 .rename_i f args;unfold CY at h;split at h
  .rename_i hb;split at h
   .rename_i v e;cases h;refine ⟨(a.bare _ _ _ e).lift fun n hn=> ?_,rfl⟩;rw [a.full] at hb;simp only [aA,aC,qi,hb,hn];rfl
   .cases h
  .rename_i hb;split at h
   .rename_i hl;split at h
    .rename_i v e;cases h;refine ⟨(a.look _ _ _ _ e).lift fun n hn=> ?_,rfl⟩;rw [a.full] at hb;rw [a.isLook] at hl;simp only [aA,aC,qi,rF,hb,hl,hn];rfl
    .cases h
   .rename_i hl;split at h
    .rename_i p e;cases h;refine ⟨(a.wide _ _ _ _ e).lift fun n hn=> ?_,rfl⟩;rw [a.full] at hb;rw [a.isLook] at hl;simp only [aA,aC,qi,rF,hb,hl,hn];rfl
    .cases h
 .rename_i k args;unfold Kb at h;split at h
  .rename_i p e;cases h;refine ⟨(a.round _ _ _ _ e).lift fun n hn=> ?_,rfl⟩;simp only [aA,aC,hn];rfl
  .cases h
 .cases h
theorem GK (a:MN E O) {p:db dG} (h:dK O p st K=some r): ∃v x,dV E st p v x/\K v (x.did.app st) x=some r:=by
 obtain ⟨v,st',x,e,h⟩:=nu h;obtain ⟨hp,rfl⟩:=sD a e;exact ⟨v,x,hp,h⟩
theorem dV.of {p q:db dG} {v:AV} {x:Fx} (e:p=q) (h:dV E st p v x):dV E st q v x:=e ▸ h
end
section
variable {β:Type} {r:β}
theorem tZ {i:Int} {n:Nat} {K:Nat->Option β} (h:lG i n K=some r): ∃k,inside i n= .ok k/\K k=some r:=by
 unfold lG at h;split at h
 .rename_i k;obtain ⟨h1,h⟩:=ef h;exact ⟨k,by simp only [inside,h1],h⟩
 .cases h
theorem zn {i:Int} {n:Nat} {K:Nat->Option β} (h:eh i n K=some r): ∃k,upto i n= .ok k/\K k=some r:=by
 unfold eh at h;split at h
 .rename_i k;obtain ⟨h1,h⟩:=ef h;exact ⟨k,by simp only [upto,h1],h⟩
 .cases h
theorem J0 {lo:Option Int} {m:Nat} {K:Nat->Option β} (h:VV lo m K=some r): ∃k,rz lo m= .ok k/\K k=some r:=by
 cases lo with
 | none=>exact ⟨0,rfl,h⟩
 | some l=>exact zn h
theorem Kh {hi:Option Int} {m d:Nat} {K:Nat->Option β} (h:VU hi m d K=some r): ∃k,kZ hi m d= .ok k/\K k=some r:=by
 cases hi with
 | none=>exact ⟨d,rfl,h⟩
 | some l=>exact zn h
end
def Fr.look (fr:Fr) (i:Nat):Option AV:=match fr.strict with
 | true=>fr.t.get i
 | false=>some (fr.get i)
theorem tV {fr:Fr} {i:Nat} {v:AV} (h:fr.look i=some v):fr.get i=v:=by
 unfold Fr.look at h;split at h
 .unfold Fr.get;rw [h];rfl
 .exact X4 h
theorem Jf {G:Nat->Option (List AV)} {fr:Fr} {i:Nat} {v:AV} (h:fr.look i=some v):cj G fr (.tmp i)= .ok v:=by
 unfold Fr.look at h;simp only [cj];split at h
 .rename_i e;rw [e];dsimp only;rw [h]
 .rename_i e;rw [e];dsimp only;rw [Option.some.inj h]
theorem EI {fr:Fr} {d i:Nat} {v:AV} (hd:d < fr.n):(fr.put (some d) v).look i=if d=i then some v else fr.look i:=by
 have hb:d.blt fr.n=true:=dD.2 hd;have e:fr.put (some d) v=⟨fr.n,fr.t.put d v,fr.strict⟩:=by simp only [Fr.put,hb]
 rw [e];unfold Fr.look Fr.get;dsimp only;rw [Tr.ko];by_cases h:d=i
 .rw [if_pos h,if_pos h];cases fr.strict <;> rfl
 .rw [if_neg h,if_neg h]
def Sub (N:Nat) (p:PF) (fr:Fr):Prop:=fr.n=N/\ ∀i v,PF.get p i=some v->fr.look i=some v
theorem PF.lW {i j:Nat} {v:AV} {l:PF}:PF.get ((i,v)::l) j=if i=j then some v else PF.get l j:=by
 simp only [PF.get];by_cases h:i=j
 .simp [h]
 .have:i.beq j=false:=by
   cases e:i.beq j
   .rfl
   .exact absurd (W2 e) h
  simp [this,h]
section
variable {β:Type} {r:β} {N:Nat} {p:PF} {fr:Fr} {G:Nat->Option (List AV)} {T:TT} {E:Env} {O:rB} {st:St}
theorem bV {x:Operand} {K:AV->Option β} (h:ev G p x K=some r) (hs:Sub N p fr): ∃v,cj G fr x= .ok v/\K v=some r:=by
 unfold ev at h;split at h
 .split at h
  .rename_i v e;exact ⟨v,Jf (hs.2 _ _ e),h⟩
  .cases h
 .split at h
  .rename_i v e;exact ⟨v,by simp only [cj,e],h⟩
  .cases h
 .split at h
  .rename_i cs e;exact ⟨_,by simp only [cj,e],h⟩
  .cases h
 .exact ⟨_,rfl,h⟩
theorem tC: ∀{l:List Operand} {K:List AV->Option β},SX G p l K=some r->Sub N p fr-> ∃vs,mG G fr l= .ok vs/\K vs=some r
 | [],_,h,_=>⟨[],rfl,h⟩
 | x::l,K,h,hs=>by
  obtain ⟨v,e,h⟩:=bV h hs;obtain ⟨vs,a,h⟩:=tC h hs;exact ⟨v::vs,by simp only [mG,e,a,aA,aH],h⟩
theorem xr {x:Option Operand} {K:Option Int->Option β} (h:Uq G p x K=some r) (hs:Sub N p fr): ∃o a,dY G fr x= .ok o/\kV o= .ok a/\K a=some r:=by
 cases x with
 | none=>exact ⟨none,none,rfl,rfl,h⟩
 | some x=>
  obtain ⟨v,e,h⟩:=bV h hs;obtain ⟨k,n,rfl,h⟩:=nL h;exact ⟨some (.int k n),some n,by simp only [dY,e,aA,aH],rfl,h⟩
theorem tT {ty:Nat->Option TypeId}: ∀{l:List (Nat×Operand)} {K:List (Nat×List AV)->Option β},RT T G p ty l K=some r->Sub N p fr->
  ∃vs:List (Nat×AV),gn G fr l= .ok vs/\K (vs.map fun q=>(q.1,q.2.cells))=some r
 | [],_,h,_=>⟨[],rfl,h⟩
 | (i,x)::l,K,h,hs=>by
  unfold RT at h;split at h
  .cases h
  .obtain ⟨ti,_,h⟩:=cK h;obtain ⟨v,e,h⟩:=bV h hs;obtain ⟨h,_,_⟩:=pQ h;obtain ⟨vs,a,h⟩:=tT h hs;exact ⟨(i,v)::vs,by simp only [gn,e,a,aA,aH],h⟩
theorem oc {place:Nat->Option (Nat×Nat)}: ∀{vs:List (Nat×AV)} {cells:List AV} {K:List AV->Option β},Bs place cells (vs.map fun q=>(q.1,q.2.cells)) K=some r-> ∃cs,ld place cells vs= .ok cs/\K cs=some r
 | [],cells,_,h=>⟨cells,rfl,h⟩
 | (i,v)::vs,cells,K,h=>by
  simp only [W8,Bs] at h;split at h
  .cases h
  .rename_i off size e;obtain ⟨h1,h⟩:=ef h;obtain ⟨cs,a,h⟩:=oc h;exact ⟨cs,by simp only [ld,e,h1,a],h⟩
theorem vC: ∀{l:List (Nat×TypeId)} {K:List (Nat×Nat)->Option β},FZ T l K=some r-> ∃ps,oF T l= .ok ps/\K ps=some r
 | [],_,h=>⟨[],rfl,h⟩
 | (o,t)::l,K,h=>by
  obtain ⟨i,e,h⟩:=cK h;obtain ⟨ps,a,h⟩:=vC h;exact ⟨_,by simp only [oF,e,a,aA,aH],h⟩
theorem uo: ∀{l:List AV} {n:Nat} {v:AV},BL l n=some v->eZ l n= .ok v
 | [],_,_,h=>by cases h
 | _:: _,0,_,h=>by cases h;rfl
 | _::l,n+1,_,h=>uo (l:=l) (n:=n) h
theorem jB {i:Int} {n k:Nat} (h:mN i n=some k):inside i n= .ok k:=by
 unfold mN at h;split at h
 .split at h
  .rename_i h1;cases h;simp only [inside,h1]
  .cases h
 .cases h
theorem F7 {i:TI} {a:AV} {K:Kv β} (h:(al i.size i.agg a st fun v rd=>K v st ⟨rd,.kept⟩)=some r): ∃v x,dV E st (ma i a) v x/\K v (x.did.app st) x=some r:=by
 obtain ⟨⟨v,rd⟩,e,h⟩:=bK h;unfold DV at e;split at e
 .split at e
  .rename_i b;cases e;exact ⟨v,q0,jM.always fun _=>by simp only [ma,b,aA,aH,aC];rfl,h⟩
  .cases e
 .rename_i id off;split at e
  .rename_i t cs b;split at e
   .rename_i c;cases e;exact ⟨v,⟨[id],.kept⟩,jM.always fun _=>by simp only [ma,iN,b,c,aA,aH,aC,cellsOf,eG],h⟩
   .cases e
  .cases e
 .rename_i k n off;split at e
  .rename_i m d z cs b;split at e
   .rename_i hm;split at e
    .rename_i c;cases e;exact ⟨v,⟨[k],.kept⟩,jM.always fun _=>by simp only [ma,iN,b,c,hm,aA,aH,aC,eG],h⟩
    .cases e
   .cases e
  .cases e
 .cases e
theorem Eh (b:MN E O) {i:TI} {a v:AV} {K:Kv β} (h2:fw v.cells=true) (h:aM O i.size a v v.cells st K=some r): ∃u x,dV E st (match a with | .gp k m off=>jw i k m off v | a=>vj i a v) u x/\K u (x.did.app st) x=some r:=by
 obtain ⟨u,st',x,e,h⟩:=nu h;unfold B2 at e;split at e
 .rename_i id off;split at e
  .rename_i h1;split at e
   .rename_i t cs c;split at e
    .rename_i h3;obtain ⟨h4,rfl,rfl,rfl⟩:=pR e;refine ⟨undef,_,jM.always fun _=> ?_,h⟩;simp only [vj,h1,h2,Xt,aA,aC,c,mI,h3,aH];rw [show cJ cs off v.cells=QO cs off v.cells from rfl,h4];rfl
    .cases e
   .cases e
  .cases e
 .obtain ⟨h1,rfl⟩:=sD b e;exact ⟨u,x,h1,h⟩
 .cases e
theorem Ja {t e:TypeId} {i d:TI} {x:AV} {j:Int} {k:IntKind} {K:Kv β} (hi:ti T t= .ok i) (hu:i.und= .slice e) (he:ti T e= .ok d) (h:(bU d.size x j st fun a rd=>K a st ⟨rd,.kept⟩)=some r):
  ∃v x',dV E st (match x with | .gs a z n=>kN T t a z n (.int k j) | x=>(do pure (.val (<- indexAddr T t x (.int k j))))) v x'/\K v (x'.did.app st) x'=some r:=by
 obtain ⟨⟨v,rd⟩,b,h⟩:=bK h;unfold Fs at b;split at b
 .split at b
  .rename_i h1;split at b
   .rename_i n h2;split at b
    .rename_i u h3;cases b;refine ⟨_,q0,jM.always fun _=> ?_,h⟩;simp only [indexAddr,VM.asInt,aA,hi,hu,jB h2,he,h1,uo h3,aH,aC];rfl
    .cases b
   .cases b
  .cases b
 .split at b
  .rename_i h1;split at b
   .rename_i n h2;cases b;refine ⟨_,q0,jM.always fun _=> ?_,h⟩;simp only [indexAddr,VM.asInt,aA,hi,hu,jB h2,he,h1,aH,aC];rfl
   .cases b
  .cases b
 .rename_i a sz n;split at b
  .rename_i h1;split at b
   .rename_i m h2;split at b
    .rename_i mm f z' es c;split at b
     .rename_i h3;split at b
      .rename_i hb;split at b
       .rename_i u h4;cases b;refine ⟨_,⟨[a],.kept⟩,jM.always fun _=> ?_,h⟩;simp only [kN,VM.asInt,aA,hi,hu,jB h2,he,h1,iN,aC,c,h3,hb,uo h4,aH,eG]
       .cases b
      .rename_i hb;cases b;refine ⟨_,⟨[a],.kept⟩,jM.always fun _=> ?_,h⟩;simp only [kN,VM.asInt,aA,hi,hu,jB h2,he,h1,iN,aC,c,h3,hb,aH,eG]
     .cases b
    .rename_i mm f z' cs c;split at b
     .rename_i h3;cases b;refine ⟨_,⟨[a],.kept⟩,jM.always fun _=> ?_,h⟩;simp only [kN,VM.asInt,aA,hi,hu,jB h2,he,h1,iN,aC,c,h3,aH,eG]
     .cases b
    .cases b
   .cases b
  .cases b
 .cases b
theorem Bt {off:Nat} {a:AV} {K:AV->Option β} (h:bF off a K=some r):(∃cs,a= .ip cs/\K (.ip (cs.drop off))=some r)\/(∃id o,a= .mp id o/\K (.mp id (o+off))=some r)\/(∃id n o,a= .gp id n o/\K (.gp id n (o+off))=some r):=by
 obtain ⟨v,e,h⟩:=bK h;unfold Uc at e;split at e
 .cases e;exact .inl ⟨_,rfl,h⟩
 .cases e;exact .inr (.inl ⟨_,_,rfl,h⟩)
 .cases e;exact .inr (.inr ⟨_,_,_,rfl,h⟩)
 .cases e
theorem HX {t e:TypeId} {i b:TI} {x:AV} {j:Int} {k:IntKind} {len:Nat} {K:Kv β} (hi:ti T t= .ok i) (hu:i.und= .arr len e) (he:ti T e= .ok b) (h:(Tc b.size len x j fun a=>K a st q0)=some r):
  ∃v x',dV E st (match x with | .gs a z n=>kN T t a z n (.int k j) | x=>(do pure (.val (<- indexAddr T t x (.int k j))))) v x'/\K v (x'.did.app st) x'=some r:=by
 obtain ⟨n,h2,h⟩:=tZ h;rcases Bt h with ⟨cs,rfl,h⟩ | ⟨id,o,rfl,h⟩ | ⟨id,m,o,rfl,h⟩
 .refine ⟨_,q0,jM.always fun _=> ?_,h⟩;simp only [indexAddr,VM.asInt,aA,hi,hu,h2,he,aH,aC];rfl
 .refine ⟨_,q0,jM.always fun _=> ?_,h⟩;simp only [indexAddr,VM.asInt,aA,hi,hu,h2,he,aH,aC];rfl
 .refine ⟨_,q0,jM.always fun _=> ?_,h⟩;simp only [indexAddr,VM.asInt,aA,hi,hu,h2,he,aH,aC];rfl
theorem oy {hi:Option Int} {m d a:Nat} (h:uj hi m d=some a):kZ hi m d= .ok a:=by
 unfold uj at h;split at h
 .split at h
  .split at h
   .rename_i h1;cases h;simp only [kZ,upto,h1]
   .cases h
  .cases h
 .cases h;rfl
theorem xU {lo:Option Int} {m a:Nat} (h:uj lo m 0=some a):rz lo m= .ok a:=by
 unfold uj at h;split at h
 .split at h
  .split at h
   .rename_i h1;cases h;simp only [rz,upto,h1]
   .cases h
  .cases h
 .cases h;rfl
theorem ED {t e:TypeId} {i l:TI} {x:AV} {lo hi mx:Option Int} {d f g:Option AV} {K:AV->Option β} (ht:ti T t= .ok i) (hu:i.und= .slice e) (he:ti T e= .ok l)
  (hl:kV d= .ok lo) (j:kV f= .ok hi) (hm:kV g= .ok mx) (h:gi l.size x lo hi mx K=some r): ∃v,mj T t x d f g= .ok v/\K v=some r:=by
 obtain ⟨v,c,h⟩:=bK h;refine ⟨v, ?_,h⟩;clear h;unfold og at c;split at c
 .split at c
  .rename_i m h3;split at c
   .rename_i a h1;split at c
    .rename_i b h2;cases c;simp only [mj,hl,j,hm,aA,ht,hu,he,oy h3,oy h1,xU h2,aH]
    .cases c
   .cases c
  .cases c
 .split at c
  .rename_i m h3;split at c
   .rename_i a h1;split at c
    .rename_i b h2;cases c;simp only [mj,hl,j,hm,aA,ht,hu,he,oy h3,oy h1,xU h2,aH]
    .cases c
   .cases c
  .cases c
 .split at c
  .rename_i h0;split at c
   .rename_i m h3;split at c
    .rename_i a h1;split at c
     .rename_i b h2;split at c
      .rename_i h4;cases c;simp only [mj,hl,j,hm,aA,ht,hu,he,h0,oy h1,xU h2,oy h3,h4,aH]
      .cases c
     .cases c
    .cases c
   .cases c
  .cases c
 .rename_i sz es pm;split at c
  .rename_i h0;split at c
   .rename_i a h1;split at c
    .rename_i b h2;have key:(match a.beq es.length,pm with
      | true,.shut=>(pure (.sl sz (es.drop b) .shut):db AV)
      | true,.own k=>match b.beq 0 with
       | true=>pure (.sl sz es (.own k))
       | false=>pure (.sl sz (es.drop b) .wide)
      | _,_=>pure (.sl sz ((es.take a).drop b) .wide))= .ok v:=by
      revert c;cases a.beq es.length <;> cases pm <;> cases b.beq 0 <;> intro c <;> cases c <;> rfl
     simp only [mj,hl,j,hm,aA,ht,hu,he,h0,oy h1,xU h2];exact key
    .cases c
   .cases c
  .cases c
 .split at c
  .rename_i h0;split at c
   .rename_i m h3;split at c
    .rename_i a h1;split at c
     .rename_i b h2;cases c;have h3:kZ (some _) _ 0= .ok m:=oy h3;simp only [kZ] at h3;simp only [mj,hl,j,hm,aA,ht,hu,he,h0,oy h1,xU h2,h3];rfl
     .cases c
    .cases c
   .cases c
  .cases c
 .cases c
theorem AQ {t:TypeId} {i:TI} {x y:AV} {K:Bool->Option β} (hi:ti T t= .ok i) (h:LD i.und x y K=some r): ∃b,GD T 20 t x y= .ok b/\K b=some r:=by
 obtain ⟨b,e,h⟩:=bK h;refine ⟨b, ?_,h⟩;clear h;unfold TB at e;split at e <;> first | (cases e;done) | skip
 all_goals
  rename_i hu;cases e;show (do let i <- ti T t;_)= _;rw [hi,aA];simp only [hu]
theorem HP {t:TypeId} {i:TI} {x y:AV} {b:Bool} (hi:ti T t= .ok i) (e:GD T 20 t x y= .ok b) (hk:lN i.und=true):(∀k n,x≠ .int k n)/\(∀s,x≠ .str s):=by
 have e:(do let i <- ti T t;_)= _:=e;rw [hi,aA] at e;constructor
 .rintro k n rfl;cases hu:i.und <;> simp [hu,lN] at hk e
 .rintro s rfl;cases hu:i.und <;> simp [hu,lN] at hk e
theorem MV {t:TypeId} {i:TI} {x y:AV} {b:Bool} (hi:ti T t= .ok i) (e:GD T 20 t x y= .ok b) (hk:lN i.und=true):VM.binOp T .eql t x y= .ok (.bool b):=by
 obtain ⟨h1,h2⟩:=HP hi e hk;cases x <;> first | (exact absurd rfl (h1 _ _)) | (exact absurd rfl (h2 _)) | (simp only [VM.binOp,e,aA,aH])
theorem Mn {t:TypeId} {i:TI} {x y:AV} {b:Bool} (hi:ti T t= .ok i) (e:GD T 20 t x y= .ok b) (hk:lN i.und=true):VM.binOp T .neq t x y= .ok (.bool !b):=by
 obtain ⟨h1,h2⟩:=HP hi e hk;cases x <;> first | (exact absurd rfl (h1 _ _)) | (exact absurd rfl (h2 _)) | (simp only [VM.binOp,e,aA,aH])
theorem Jz {op:BinOp} {t:TypeId} {x y:AV} {K:AV->Option β} (h:Tm T op t x y K=some r): ∃v,VM.binOp T op t x y= .ok v/\K v=some r:=by
 obtain ⟨i,hi,h⟩:=cK h;split at h
 .obtain ⟨b,e,h⟩:=AQ hi h;refine ⟨_, ?_,h⟩;rw [MV hi e ‹_›]
 .obtain ⟨b,e,h⟩:=AQ hi h;refine ⟨_, ?_,h⟩;rw [Mn hi e ‹_›]
 .split at h
  .obtain ⟨a,hx,h⟩:=me h;obtain ⟨b,hy,h⟩:=me h;obtain ⟨h1,h⟩:=ef h;exact ⟨_,by simp only [hx,hy,VM.binOp,HA,h1],h⟩
  .obtain ⟨a,hx,h⟩:=lX h;obtain ⟨b,hy,h⟩:=lX h;obtain ⟨h1,h⟩:=ef h;have h1:¬ b=0:=by simpa using h1
   exact ⟨_,by simp only [hx,hy,VM.binOp,Dw,if_true,if_neg h1],h⟩
  .obtain ⟨a,hx,h⟩:=lX h;obtain ⟨b,hy,h⟩:=lX h;obtain ⟨h1,h⟩:=ef h;have h1:¬ b=0:=by simpa using h1
   exact ⟨_,by simp only [hx,hy,VM.binOp,Dw,if_true,if_neg h1],h⟩
  .obtain ⟨a,hx,h⟩:=lX h;obtain ⟨c,b,hy,h⟩:=nL h;obtain ⟨h1,h⟩:=ef h;have h1:¬ b < 0:=by simpa using h1
   exact ⟨_,by simp only [hx,hy,VM.binOp,if_neg h1],h⟩
  .obtain ⟨a,hx,h⟩:=lX h;obtain ⟨c,b,hy,h⟩:=nL h;obtain ⟨h1,h⟩:=ef h;have h1:¬ b < 0:=by simpa using h1
   exact ⟨_,by simp only [hx,hy,VM.binOp,if_neg h1],h⟩
  .obtain ⟨v,e,h⟩:=bK h;exact ⟨v,tz e,h⟩
end
section
variable {β:Type} {r:β} {N:Nat} {p:PF} {fr:Fr} {E:Env} {st:St}
theorem I8 {i:TI} {e:TypeId} {s:AV} {new b:List AV} {K:Kv β} (hf:fits new= .ok b) (hz:(b.all fun v=>v.cells.length.beq i.size)=true) (h:cT i.size i.bytes e s b st K=some r):
  ∃v x,dV E st (iO i e s new) v x/\K v (x.did.app st) x=some r:=by
 obtain ⟨u,st',x,a,h⟩:=nu h;cases new with
 | nil=>
  cases hf;simp only [uI] at a;split at a
  .cases a;exact ⟨_,q0,jM.always fun _=>by simp only [iO,aH,aA,aC];rfl,h⟩
  .cases a;exact ⟨_,q0,jM.always fun _=>by simp only [iO,aH,aA,aC];rfl,h⟩
  .cases a;exact ⟨_,q0,jM.always fun _=>by simp only [iO,aH,aA,aC];rfl,h⟩
  .cases a
 | cons v l=>
  have hf':=hf;simp only [fits,ag,au] at hf';obtain ⟨v',_,c,_,rfl⟩:=hf';simp only [uI] at a;split at a
  .split at a
   .rename_i h1;have h1:dp (v'::c).length i=true:=h1;obtain ⟨hp,rfl⟩:=lZ (E:=E) a;refine ⟨u,x,dV.of ?_ hp,h⟩;simp only [iO,hf,aA,hz,h1,aH]
   .cases a
  .rename_i y es pm;split at a
   .rename_i h1;have h1:(dp (es.length+(v'::c).length) i&&y.beq i.size)=true:=h1;cases pm with
    | shut=>
     obtain ⟨hp,rfl⟩:=lZ (E:=E) a;refine ⟨u,x,dV.of ?_ hp,h⟩;simp only [iO,hf,aA,hz,h1,aH]
    | own k=>
     dsimp only at a;split at a
     .rename_i n d hg;split at a
      .rename_i h2;obtain ⟨h3,rfl,rfl,rfl⟩:=pR a;refine ⟨_,⟨[k],.wrote k _⟩,jM.always fun _=> ?_,h⟩;simp only [iO,hf,aA,hz,h1,aH,aC,hg,h2,h3]
      .cases a
     .cases a
    | wide=>cases a
   .cases a
  .split at a
   .rename_i h1;have h1:dp (v'::c).length i=true:=h1;obtain ⟨hp,rfl⟩:=lZ (E:=E) a;refine ⟨u,x,dV.of ?_ hp,h⟩;simp only [iO,hf,aA,hz,h1,aH]
   .cases a
  .cases a
def kW (S:Sx) (fr:Fr) (o:Op):db dG:=eR S.T S.prim S.imm S.G fr o
theorem HN {S:Sx} (U:MN E S.O) {o:Op} {K:Kv β} (h:M5 S o p st K=some r) (hs:Sub N p fr): ∃v x,dV E st (kW S fr o) v x/\K v (x.did.app st) x=some r:=by
 have val: ∀{w:AV},kW S fr o= .ok (.val w)->K w st q0=some r-> ∃v x,dV E st (kW S fr o) v x/\K v (x.did.app st) x=some r:=fun {w} e h=>⟨w,q0,dV.of e.symm (jM.always fun _=>rfl),h⟩;have z: ∀{q:db dG},kW S fr o=q->dK S.O q st K=some r-> ∃v x,dV E st (kW S fr o) v x/\K v (x.did.app st) x=some r:=fun {q} e h=>by
  obtain ⟨v,x,hp,h⟩:=GK U h;exact ⟨v,x,dV.of e.symm hp,h⟩
 have D: ∀{V:Obj} {f:Nat->AV},kW S fr o= .ok (.new V f)->made st V f K=some r-> ∃v x,dV E st (kW S fr o) v x/\K v (x.did.app st) x=some r:=fun {V f} e h=>by
  obtain ⟨v,x,hp,h⟩:=IM (E:=E) h;exact ⟨v,x,dV.of e.symm hp,h⟩
 unfold M5 at h;split at h
 .obtain ⟨v,e,h⟩:=bV h hs;exact val (by simp only [kW,eR,e,aA,aH]) h
 .obtain ⟨v,e,h⟩:=bV h hs;exact val (by simp only [kW,eR,e,aA,aH]) h
 .obtain ⟨c,e,h⟩:=bV h hs;obtain ⟨b,rfl,h⟩:=xT h;cases b with
  | true=>
   obtain ⟨v,B,h⟩:=bV h hs;exact val (by simp only [kW,eR,e,B,aA,aH,VM.asBool]) h
  | false=>
   obtain ⟨v,B,h⟩:=bV h hs;exact val (by simp only [kW,eR,e,B,aA,aH,VM.asBool]) h
 .obtain ⟨i,e,h⟩:=cK h;exact D (by simp only [kW,eR,e,aA,aH]) h
 ·-- box
  obtain ⟨i,e,h⟩:=cK h;obtain ⟨v,B,h⟩:=bV h hs;obtain ⟨h,_,_⟩:=pQ h;obtain ⟨h1,h⟩:=ef h;obtain ⟨h2,h⟩:=mc h;split at h
  .rename_i hi;obtain ⟨cs,h3,h⟩:=uG h;exact val (by simp only [kW,eR,e,B,aA,aH,Kf,h1,h2,Xt,hi,h3]) h
  .rename_i hi;exact D (by simp only [kW,eR,e,B,aA,Kf,h1,h2,Xt,hi]) h
 ·-- build
  obtain ⟨i,e,h⟩:=cK h;split at h
  .rename_i fs hu;obtain ⟨vs,h1,h⟩:=tT h hs;obtain ⟨sz,h2,h⟩:=vC h;obtain ⟨cs,h3,h⟩:=oc h;exact val (by simp only [kW,eR,build,e,hu,h1,h2,h3,aA,aH]) h
  .rename_i L hu;obtain ⟨vs,h1,h⟩:=tT h hs;obtain ⟨M,h2,h⟩:=cK h;obtain ⟨cs,h3,h⟩:=oc h;exact val (by simp only [kW,eR,build,e,hu,h1,h2,h3,aA,aH]) h
  .cases h
 ·-- buildSlice
  obtain ⟨i,e,h⟩:=cK h;split at h
  .rename_i L hu;obtain ⟨M,h2,h⟩:=cK h;obtain ⟨vs,h1,h⟩:=tT h hs;obtain ⟨h4,h⟩:=ef h;obtain ⟨cs,h3,h⟩:=oc h;obtain ⟨h5,h⟩:=mc h;split at h
   .rename_i gs h6;obtain ⟨av,h7,h⟩:=se h;exact val (by simp only [kW,eR,buildSlice,e,hu,h1,h2,h3,h4,h5,h6,h7,aA,aH]) h
   .cases h
  .cases h
 ·-- makeSlice
  obtain ⟨l,e,h⟩:=bV h hs;obtain ⟨c,B,h⟩:=bV h hs;exact z (by simp only [kW,eR,e,B,aA]) h
 ·-- load
  obtain ⟨i,e,h⟩:=cK h;obtain ⟨a,B,h⟩:=bV h hs;obtain ⟨v,x,hp,h⟩:=F7 (E:=E) h;exact ⟨v,x,dV.of (by simp only [kW,eR,e,B,aA]) hp,h⟩
 ·-- store
  obtain ⟨i,e,h⟩:=cK h;obtain ⟨a,d,h⟩:=bV h hs;obtain ⟨v,y,h⟩:=bV h hs;obtain ⟨h,_,_⟩:=pQ h;obtain ⟨h2,h⟩:=mc h;obtain ⟨u,x,hp,h⟩:=Eh U h2 h;refine ⟨u,x,dV.of ?_ hp,h⟩;simp only [kW,eR,e,d,y,aA];cases a <;> rfl
 ·-- nilCheck
  obtain ⟨a,d,h⟩:=bV h hs;obtain ⟨hn,h⟩:=ef h;refine val ?_ h;unfold notNil at hn;split at hn
  .simp only [kW,eR,d,aA,aH]
  .simp only [kW,eR,d,aA,aH]
  .simp only [kW,eR,d,aA,aH]
  .simp only [kW,eR,d,aA,aH]
  .cases hn
 ·-- binOp
  obtain ⟨a,d,h⟩:=bV h hs;obtain ⟨b,y,h⟩:=bV h hs;split at h
  .rename_i hc;obtain ⟨v,F,h⟩:=bK h;have F:L9 _ a=some v:=F;exact val (by simp only [kW,eR,yf,hc,d,y,F,aA,aH]) h
  .rename_i hc;obtain ⟨v,F,h⟩:=Jz h;exact val (by simp only [kW,eR,yf,hc,d,y,F,aA,aH]) h
 ·-- unOp
  obtain ⟨a,d,h⟩:=bV h hs;obtain ⟨v,y,h⟩:=bK h;exact val (by simp only [kW,eR,d,tz y,aA,aH]) h
 ·-- convert
  obtain ⟨a,d,h⟩:=bV h hs;exact z (by simp only [kW,eR,d,aA]) h
 ·-- makeInterface
  obtain ⟨i,e,h⟩:=cK h;split at h
  .cases h
  .cases h
  .rename_i h1 h2;obtain ⟨a,d,h⟩:=bV h hs;refine val ?_ h;simp only [kW,eR,e,d,aA,aH]
 ·-- makeFunc
  obtain ⟨a,d,h⟩:=tC h hs;obtain ⟨c,y,h⟩:=tC h hs;exact val (by simp only [kW,eR,d,y,aA,aH]) h
 ·-- makeMap
  exact D (by simp only [kW,eR]) h
 ·-- slice
  rename_i t x lo hi mx;split at h
  .cases h
  .obtain ⟨i,e,h⟩:=cK h;obtain ⟨x',d,h⟩:=bV h hs;obtain ⟨aw,W,y,P,h⟩:=xr h hs;obtain ⟨a1,X,F,Q,h⟩:=xr h hs;obtain ⟨a6,Y,Z,R,h⟩:=xr h hs;split at h
   .rename_i hu;obtain ⟨s,rfl,h⟩:=me h;split at h
    .obtain ⟨a,h1,h⟩:=Kh h;obtain ⟨b,h2,h⟩:=J0 h;refine val ?_ h;simp only [kW,eR,d,y,F,Z,aA,mj,P,Q,R,e,hu,h1,h2,aH]
    .cases h
   .rename_i L hu;obtain ⟨M,he,h⟩:=cK h;obtain ⟨v,h1,h⟩:=ED e hu he P Q R h;refine val ?_ h;simp only [kW,eR,d,y,F,Z,aA,h1,aH]
   .cases h
 ·-- fieldAddr
  obtain ⟨i,e,h⟩:=cK h;split at h
  .rename_i fs hu;split at h
   .rename_i off ft hf;obtain ⟨fi,d,h⟩:=cK h;split at h
    .cases h
    .rename_i hz;obtain ⟨a,y,h⟩:=bV h hs;rcases Bt h with ⟨cs,rfl,h⟩ | ⟨id,o,rfl,h⟩ | ⟨id,m,o,rfl,h⟩
     .exact val (by simp only [kW,eR,fieldAddr,e,y,hu,hf,d,hz,aA,aH]) h
     .exact val (by simp only [kW,eR,fieldAddr,e,y,hu,hf,d,hz,aA,aH]) h
     .exact val (by simp only [kW,eR,fieldAddr,e,y,hu,hf,d,hz,aA,aH]) h
   .cases h
  .cases h
 ·-- field
  obtain ⟨a,d,h⟩:=bV h hs;obtain ⟨v,y,h⟩:=bK h;exact val (by simp only [kW,eR,d,tz y,aA,aH]) h
 ·-- indexAddr
  obtain ⟨i,e,h⟩:=cK h;obtain ⟨x,d,h⟩:=bV h hs;obtain ⟨j,y,h⟩:=bV h hs;obtain ⟨k,n,rfl,h⟩:=nL h;split at h
  .rename_i L hu;obtain ⟨M,he,h⟩:=cK h;obtain ⟨v,x',hp,h⟩:=Ja (E:=E) (k:=k) e hu he h;refine ⟨v,x',dV.of ?_ hp,h⟩;simp only [kW,eR,d,y,aA];cases x <;> rfl
  .rename_i len L hu;obtain ⟨M,he,h⟩:=cK h;obtain ⟨v,x',hp,h⟩:=HX (E:=E) (k:=k) e hu he h;refine ⟨v,x',dV.of ?_ hp,h⟩;simp only [kW,eR,d,y,aA];cases x <;> rfl
  .cases h
 ·-- index
  obtain ⟨i,e,h⟩:=cK h;obtain ⟨x,d,h⟩:=bV h hs;obtain ⟨j,y,h⟩:=bV h hs;split at h
  .rename_i hu;obtain ⟨s,rfl,h⟩:=me h;obtain ⟨k,n,rfl,h⟩:=nL h;obtain ⟨m,h1,h⟩:=tZ h;split at h
   .rename_i b h2;exact val (by simp only [kW,eR,d,y,aA,zw,VM.asInt,e,hu,h1,h2,aH]) h
   .cases h
  .obtain ⟨v,F,h⟩:=bK h;exact val (by simp only [kW,eR,d,y,tz F,aA,aH]) h
 ·-- lookup
  obtain ⟨x,d,h⟩:=bV h hs;obtain ⟨j,y,h⟩:=bV h hs;exact z (by simp only [kW,eR,d,y,aA]) h
 .obtain ⟨x,d,h⟩:=bV h hs;obtain ⟨j,y,h⟩:=bV h hs;obtain ⟨v,F,h⟩:=bV h hs;exact z (by simp only [kW,eR,d,y,F,aA]) h
 .obtain ⟨x,d,h⟩:=bV h hs;obtain ⟨j,y,h⟩:=bV h hs;obtain ⟨v,F,h⟩:=bV h hs;exact z (by simp only [kW,eR,d,y,F,aA]) h
 ·-- range
  obtain ⟨x,d,h⟩:=bV h hs;obtain ⟨i,e,h⟩:=cK h;split at h
  .rename_i hu;obtain ⟨s,hx,h'⟩:=me h;exact D (by simp only [kW,eR,e,d,aA,hu,hx,aH]) h'
  .cases h
 ·-- next
  obtain ⟨x,d,h⟩:=bV h hs;exact z (by simp only [kW,eR,d,aA]) h
 ·-- extract
  obtain ⟨x,d,h⟩:=bV h hs;obtain ⟨vs,rfl,h⟩:=J1 h;obtain ⟨v,y,h⟩:=IW h;exact val (by simp only [kW,eR,d,aA,Em y,aH]) h
 ·-- call
  rename_i c;obtain ⟨args,d,h⟩:=tC h hs;split at h
  .rename_i b hc;have y:kW S fr (.call c)=fk S.T S.imm b c.argTypes.toList args:=by simp only [kW,eR,d,aA,hc]
   split at h
   .rename_i x t ts x' ea H;obtain ⟨i,e,h⟩:=cK h;split at h
    .rename_i hu;obtain ⟨s,rfl,h⟩:=me h;exact val (by simp only [y,H,fk,zK,e,aA,hu,aH]) h
    .rename_i L hu;obtain ⟨n,J,h⟩:=bK h;refine val ?_ h;unfold Td at J;split at J
     .cases J;simp only [y,H,fk,zK,e,aA,hu,aH];rfl
     .cases J;simp only [y,H,fk,zK,e,aA,hu,aH]
     .cases J;simp only [y,H,fk,zK,e,aA,hu,aH]
     .cases J;simp only [y,H,fk,zK,e,aA,hu,aH]
     .cases J;simp only [y,H,fk,zK,e,aA,hu,aH];rfl
     .cases J
    .exact z (by simp only [y,H,fk]) h
   .rename_i t xt s x H;obtain ⟨i,e,h⟩:=cK h;obtain ⟨xi,B,h⟩:=cK h;split at h
    .rename_i L hu hn;obtain ⟨M,he,h⟩:=cK h;unfold mX at h;split at h
     .rename_i new G;split at h
      .rename_i C;exact z (by simp only [y,H,fk,e,B,aA,hu,hn,he,G,C]) h
      split at h
      .rename_i C _ A;exact z (by simp only [y,H,fk,e,B,aA,hu,hn,he,G,C,A]) h
      split at h
      .rename_i C _ A _ I;exact z (by simp only [y,H,fk,e,B,aA,hu,hn,he,G,C,A,I]) h
      .rename_i C _ A _ I;obtain ⟨ar,h1,h⟩:=se h;obtain ⟨h2,h⟩:=ef h;obtain ⟨v,x',hp,h⟩:=I8 (E:=E) h1 h2 h;refine ⟨v,x',dV.of ?_ hp,h⟩;simp only [y,H,fk,e,B,aA,hu,hn,he,G,C,A,I]
     .cases h
    .cases h
   .exact z y h
  .rename_i f hc;obtain ⟨g,y,h⟩:=bV h hs;obtain ⟨v,st',x,J,h⟩:=nu h;obtain ⟨hp,rfl⟩:=sD U J;refine ⟨v,x,dV.of ?_ hp,h⟩;simp only [kW,eR,d,y,aA,hc,iI,aH];cases g <;> first | rfl | (rename_i f _ _;cases f <;> rfl)
  .cases h
 .cases h
end
section frame
variable {X:Cx}
theorem Ah {fr:Fr} {d:Option Nat} {v:AV} {i:Nat} (h:d≠some i):(fr.put d v).look i=fr.look i:=by
 cases d with
 | none=>rfl
 | some d=>
  by_cases hd:d < fr.n
  .rw [EI hd,if_neg fun e=>h (by rw [e])]
  .have hb:d.blt fr.n=false:=cW.2 (by omega);have e:fr.put (some d) v=fr:=by simp only [Fr.put,hb]
   rw [e]
theorem uL {n:Nat}: ∀{l:List Nat},tQ n l=true↔n∈l
 | []=>by simp [tQ]
 | m::l=>by simp [tQ,uL (l:=l)]
theorem ke {all:List Oper} {draw:Bool}: ∀{l:List Oper} {j:Nat} {seen:List (Nat×Fx)} {fr fr':Fr} {st st':St},dM X all draw j seen l fr st= .ok (fr',st')->
  fr'.n=fr.n/\ ∀i,i∉cV l->fr'.look i=fr.look i
 | [],_,_,_,_,_,_,h=>by simp only [dM,WT,WV] at h;obtain ⟨rfl,rfl⟩:=h;exact ⟨rfl,fun _ _=>rfl⟩
 | o::l,j,seen,fr,fr',st,st',h=>by
  simp only [dM,ag] at h;obtain ⟨⟨v,x⟩,_,h⟩:=h;have key:fr'.n=(fr.put o.dst v).n/\ ∀i,i∉cV l->fr'.look i=(fr.put o.dst v).look i:=by
   dsimp only at h;split at h
   .exact ke h
   .split at h
    .exact ke h
    .cases h
  refine ⟨key.1.trans (Fr.Kr _ _ _),fun i hi=> ?_⟩;have h1:i∉cV l/\o.dst≠some i:=by
   cases hd:o.dst with
   | none=>simp [cV,hd] at hi;exact ⟨hi,by simp⟩
   | some d=>
    simp [cV,hd] at hi;exact ⟨hi.2,fun e=>hi.1 (by cases e;rfl)⟩
  rw [key.2 i h1.1,Ah h1.2]
theorem jr {e:Nat->Option Nat} {all:List Oper}: ∀{l:List Oper} {j:Nat} {seen:List (Nat×Fx)} {fr fr':Fr} {st st':St},di X e all j seen l fr st= .ok (fr',st')->
  fr'.n=fr.n/\ ∀i,i∉cV l->fr'.look i=fr.look i
 | [],_,_,_,_,_,_,h=>by simp only [di,WT,WV] at h;obtain ⟨rfl,rfl⟩:=h;exact ⟨rfl,fun _ _=>rfl⟩
 | o::l,j,seen,fr,fr',st,st',h=>by
  simp only [di,ag] at h;obtain ⟨⟨v,x⟩,_,h⟩:=h;have key:fr'.n=(fr.put o.dst v).n/\ ∀i,i∉cV l->fr'.look i=(fr.put o.dst v).look i:=by
   dsimp only at h;split at h
   .exact jr h
   .split at h
    .exact jr h
    .cases h
  refine ⟨key.1.trans (Fr.Kr _ _ _),fun i hi=> ?_⟩;have h1:i∉cV l/\o.dst≠some i:=by
   cases hd:o.dst with
   | none=>simp [cV,hd] at hi;exact ⟨hi,by simp⟩
   | some d=>
    simp [cV,hd] at hi;exact ⟨hi.2,fun e=>hi.1 (by cases e;rfl)⟩
  rw [key.2 i h1.1,Ah h1.2]
theorem yH {body:Fr->St->db (Ex×Fr×St)} {W:List Nat} (hb: ∀fr st ex fr' st',body fr st= .ok (ex,fr',st')->fr'.n=fr.n/\ ∀i,i∉W->fr'.look i=fr.look i):
  ∀(n:Nat) {fr fr':Fr} {st st':St} {ex:Ex},iter body n fr st= .ok (ex,fr',st')->fr'.n=fr.n/\ ∀i,i∉W->fr'.look i=fr.look i
 | 0,_,_,_,_,_,h=>by simp [iter] at h
 | n+1,fr,fr',st,st',ex,h=>by
  simp only [iter,ag] at h;obtain ⟨⟨a,b,st1⟩,h1,h2⟩:=h;have k1:=hb _ _ _ _ _ h1;cases a with
  | normal=>
   have k2:=yH hb n h2;exact ⟨k2.1.trans k1.1,fun i hi=>(k2.2 i hi).trans (k1.2 i hi)⟩
  | exit id=>
   simp only [au,WV] at h2;obtain ⟨_,rfl,_⟩:=h2;exact k1
  | ret=>
   simp only [au,WV] at h2;obtain ⟨_,rfl,_⟩:=h2;exact k1
theorem sS {n:Nat} {x:Operand} {ps:Array Tmp} {y c:Code} {fr fr':Fr} {st st':St} {ex:Ex} (h:exec X n (.rangeFunc x ps y c) fr st= .ok (ex,fr',st')):fr'=fr:=by
 simp only [exec] at h;split at h
 .cases h
 .simp only [ag] at h;obtain ⟨a,h1,h⟩:=h;split at h
  .simp only [ag] at h;obtain ⟨q,h2,o,h3,h4⟩:=h;split at h4
   .split at h4
    .simp only [au,WV] at h4;exact h4.2.1.symm
    .cases h4
   .cases h4
  .cases h
theorem lY {all:List Oper} {draw:Bool}: ∀{l:List Oper} {j:Nat} {seen:List (Nat×Fx)} {fr fr':Fr} {st st':St},dM X all draw j seen l fr st= .ok (fr',st')->fr'.strict=fr.strict
 | [],_,_,_,_,_,_,h=>by simp only [dM,WT,WV] at h;rw [h.1]
 | o::l,j,seen,fr,fr',st,st',h=>by
  simp only [dM,ag] at h;obtain ⟨⟨v,x⟩,_,h⟩:=h;have key:fr'.strict=(fr.put o.dst v).strict:=by
   dsimp only at h;split at h
   .exact lY h
   .split at h
    .exact lY h
    .cases h
  exact key.trans (gW _ _ _)
theorem kT {e:Nat->Option Nat} {all:List Oper}: ∀{l:List Oper} {j:Nat} {seen:List (Nat×Fx)} {fr fr':Fr} {st st':St},di X e all j seen l fr st= .ok (fr',st')->fr'.strict=fr.strict
 | [],_,_,_,_,_,_,h=>by simp only [di,WT,WV] at h;rw [h.1]
 | o::l,j,seen,fr,fr',st,st',h=>by
  simp only [di,ag] at h;obtain ⟨⟨v,x⟩,_,h⟩:=h;have key:fr'.strict=(fr.put o.dst v).strict:=by
   dsimp only at h;split at h
   .exact kT h
   .split at h
    .exact kT h
    .cases h
  exact key.trans (gW _ _ _)
theorem vz {body:Fr->St->db (Ex×Fr×St)} (hb: ∀fr st ex fr' st',body fr st= .ok (ex,fr',st')->fr'.strict=fr.strict): ∀(n:Nat) {fr fr':Fr} {st st':St} {ex:Ex},iter body n fr st= .ok (ex,fr',st')->fr'.strict=fr.strict
 | 0,_,_,_,_,_,h=>by simp [iter] at h
 | n+1,fr,fr',st,st',ex,h=>by
  simp only [iter,ag] at h;obtain ⟨⟨a,b,st1⟩,h1,h2⟩:=h;have k1:=hb _ _ _ _ _ h1;cases a with
  | normal=>exact (vz hb n h2).trans k1
  | exit id=>
   simp only [au,WV] at h2;rw [<- h2.2.1];exact k1
  | ret=>
   simp only [au,WV] at h2;rw [<- h2.2.1];exact k1
theorem fN {n:Nat}: ∀(c:Code) {fr fr':Fr} {st st':St} {ex:Ex},exec X n c fr st= .ok (ex,fr',st')->fr'.strict=fr.strict
 | .skip,_,_,_,_,_,h | .label _,_,_,_,_,_,h | .exit _,_,_,_,_,_,h | .ret,_,_,_,_,_,h=>by
  simp only [exec,WT,WV] at h;rw [h.2.1]
 | .goto _,_,_,_,_,_,h | .refuse _,_,_,_,_,_,h=>by simp [exec] at h
 | .rangeFunc ..,_,_,_,_,_,h=>by rw [sS h]
 | .scope c,_,_,_,_,_,h=>fN c h
 | .region _ _ _,_,_,_,_,_,h=>by
  simp only [exec] at h;split at h <;> simp only [ag,au] at h <;> obtain ⟨⟨e,st1⟩,h1,h2⟩:=h <;> simp only [WV] at h2 <;> obtain ⟨_,rfl,_⟩:=h2
  .exact lY h1
  .exact kT h1
 | .seq a b,_,_,_,_,_,h=>by
  simp only [exec,ag] at h;obtain ⟨⟨d,e,st1⟩,h1,h2⟩:=h;have k1:=fN a h1;cases d with
  | normal=>exact (fN b h2).trans k1
  | exit id=>simp only [au,WV] at h2;rw [<- h2.2.1];exact k1
  | ret=>simp only [au,WV] at h2;rw [<- h2.2.1];exact k1
 | .cond c a b,_,_,_,_,_,h=>by
  simp only [exec,ag] at h;obtain ⟨f,_,v,_,h3⟩:=h;cases v
  .exact fN b h3
  .exact fN a h3
 | .block id c,_,_,_,_,_,h=>by
  simp only [exec,ag] at h;obtain ⟨⟨d,e,st1⟩,h1,h2⟩:=h;have k1:=fN c h1;cases d with
  | normal=>simp only [au,WV] at h2;rw [<- h2.2.1];exact k1
  | ret=>simp only [au,WV] at h2;rw [<- h2.2.1];exact k1
  | exit i=>
   dsimp only at h2;split at h2 <;> (simp only [au,WV] at h2;rw [<- h2.2.1];exact k1)
 | .loop c,_,_,_,_,_,h=>by
  simp only [exec] at h;exact vz (fun _ _ _ _ _ h=>fN c h) n h
theorem fu {n:Nat}: ∀(c:Code) {fr fr':Fr} {st st':St} {ex:Ex},exec X n c fr st= .ok (ex,fr',st')->fr'.n=fr.n/\ ∀i,i∉writes c->fr'.look i=fr.look i
 | .skip,_,_,_,_,_,h | .label _,_,_,_,_,_,h | .exit _,_,_,_,_,_,h | .ret,_,_,_,_,_,h=>by
  simp only [exec,WT,WV] at h;obtain ⟨_,rfl,_⟩:=h;exact ⟨rfl,fun _ _=>rfl⟩
 | .goto _,_,_,_,_,_,h | .refuse _,_,_,_,_,_,h=>by simp [exec] at h
 | .rangeFunc ..,_,_,_,_,_,h=>by
  obtain rfl:=sS h;exact ⟨rfl,fun _ _=>rfl⟩
 | .scope c,_,_,_,_,_,h=>fu c h
 | .region _ _ _,_,_,_,_,_,h=>by
  simp only [exec] at h;split at h
  .simp only [ag,au] at h;obtain ⟨⟨d,st1⟩,h1,h2⟩:=h;simp only [WV] at h2;obtain ⟨_,rfl,_⟩:=h2;exact ke h1
  .simp only [ag,au] at h;obtain ⟨⟨d,st1⟩,h1,h2⟩:=h;simp only [WV] at h2;obtain ⟨_,rfl,_⟩:=h2;exact jr h1
 | .seq a b,_,_,_,_,_,h=>by
  simp only [exec,ag] at h;obtain ⟨⟨e,d,st1⟩,h1,h2⟩:=h;have k1:=fu a h1;cases e with
  | normal=>
   have k2:=fu b h2;exact ⟨k2.1.trans k1.1,fun i hi=>by
    simp only [writes,Xj,not_or] at hi;exact (k2.2 i hi.2).trans (k1.2 i hi.1)⟩
  | exit id=>
   simp only [au,WV] at h2;obtain ⟨_,rfl,_⟩:=h2;exact ⟨k1.1,fun i hi=>k1.2 i fun hm=>hi (Xj.2 (.inl hm))⟩
  | ret=>
   simp only [au,WV] at h2;obtain ⟨_,rfl,_⟩:=h2;exact ⟨k1.1,fun i hi=>k1.2 i fun hm=>hi (Xj.2 (.inl hm))⟩
 | .cond c a b,_,_,_,_,_,h=>by
  simp only [exec,ag] at h;obtain ⟨f,_,v,_,h3⟩:=h;cases v
  .have k:=fu b h3;exact ⟨k.1,fun i hi=>k.2 i fun hm=>hi (Xj.2 (.inr hm))⟩
  .have k:=fu a h3;exact ⟨k.1,fun i hi=>k.2 i fun hm=>hi (Xj.2 (.inl hm))⟩
 | .block id c,_,_,_,_,_,h=>by
  simp only [exec,ag] at h;obtain ⟨⟨e,d,st1⟩,h1,h2⟩:=h;have k1:=fu c h1;cases e with
  | normal=>simp only [au,WV] at h2;obtain ⟨_,rfl,_⟩:=h2;exact k1
  | ret=>simp only [au,WV] at h2;obtain ⟨_,rfl,_⟩:=h2;exact k1
  | exit i=>
   dsimp only at h2;split at h2 <;> (simp only [au,WV] at h2;obtain ⟨_,rfl,_⟩:=h2;exact k1)
 | .loop c,_,_,_,_,_,h=>by
  simp only [exec] at h;exact yH (fun _ _ _ _ _ h=>fu c h) n h
end frame
section
variable {β:Type} {r:β} {N:Nat} {E:Env}
theorem Sub.put {p:PF} {fr:Fr} {d:Nat} {v:AV} (hs:Sub N p fr) (hd:d < N):Sub N ((d,v)::p) (fr.put (some d) v):=by
 refine ⟨(Fr.Kr _ _ _).trans hs.1,fun i u hu=> ?_⟩;rw [PF.lW] at hu;rw [EI (by rw [hs.1];exact hd)];split at hu
 .rename_i e;rw [if_pos e];cases hu;rfl
 .rename_i e;rw [if_neg e];exact hs.2 i u hu
theorem Sub.JW {p:PF} {fr:Fr} {d:Nat} {v:AV} (hs:Sub N p fr) (hd:fr.look d=some v):Sub N ((d,v)::p) fr:=by
 refine ⟨hs.1,fun i u hu=> ?_⟩;rw [PF.lW] at hu;split at hu
 .rename_i e;cases hu;rw [<- e];exact hd
 .exact hs.2 i u hu
theorem nH {d:Option Tmp} {v:AV} {p:PF} {fr:Fr} {K:PF->Option β} (h:yI N d v p K=some r) (hs:Sub N p fr): ∃a,Sub N a (fr.put d v)/\K a=some r:=by
 cases d with
 | none=>exact ⟨p,hs,h⟩
 | some d=>
  simp only [yI] at h;split at h
  .rename_i hb;exact ⟨_,hs.put (dD.1 hb),h⟩
  .cases h
theorem vA {all:List Oper} {p:PF} {fr:Fr} {g:Option (Nat×Bool)} {yes no:PF->Option β} (h:B1 all p g yes no=some r) (hs:Sub N p fr):
  (wanted all fr g=true/\ ∃a,Sub N a fr/\yes a=some r)\/(wanted all fr g=false/\ ∃a,Sub N a fr/\no a=some r):=by
 unfold B1 at h;split at h
 .exact .inl ⟨rfl,p,hs,h⟩
 .rename_i j want;split at h
  .rename_i d hd;split at h
   .rename_i v hv;have hk:=hs.2 _ _ hv;have hg:=tV hk;split at h
    .rename_i b;have hw:wanted all fr (some (j,want))=(b==want):=by simp only [wanted,hd,hg]
     cases want <;> cases b
     .exact .inl ⟨by rw [hw];rfl,_,hs.JW hk,h⟩
     .exact .inr ⟨by rw [hw];rfl,_,hs.JW hk,h⟩
     .exact .inr ⟨by rw [hw];rfl,_,hs.JW hk,h⟩
     .exact .inl ⟨by rw [hw];rfl,_,hs.JW hk,h⟩
    .rename_i c;refine .inr ⟨?_,p,hs,h⟩;simp only [wanted,hd,hg]
   .cases h
  .cases h
theorem qh {ops:List Oper} {j:Nat} {x:Fx}: ∀{seen:List (Nat×Fx)},pf ops j x seen=true-> ∀seen':List (Nat×Fx),(∀y∈seen',y∈seen)->nZ ops j x seen'=true
 | seen,h,[],_=>rfl
 | seen,h,(i,y)::l,b=>by
  have h1: ∀(s:List (Nat×Fx)),pf ops j x s=true->(i,y)∈s->(behind ops (j+1) j i||apart y x)=true:=by
   intro s hs hm
   induction s with
   | nil=>cases hm
   | cons a s ih=>
    obtain ⟨c,y'⟩:=a;simp only [pf,WY] at hs;rcases Xb.1 hm with e | hm
    .cases e;exact hs.1
    .exact ih hs.2 hm
  simp only [nZ,WY];refine ⟨?_,qh h l fun y hy=>b y (WZ _ hy)⟩;rw [Bool.or_comm];exact h1 seen h (b _ (WS ..))
def cx (S:Sx) (E:Env) (n:Nat):Cx:=⟨S.T,S.prim,S.imm,S.G,caller E n⟩
theorem qJ {S:Sx} (k:MN E S.O) {all:List Oper} {draw:Bool}: ∀{l:List Oper} {j:Nat} {seen seen':List (Nat×Fx)} {p:PF} {fr:Fr} {st:St} {K:PF->St->Option β},
  CO S N all draw j seen l p st K=some r->Sub N p fr->(∀y∈seen',y∈seen)-> ∃fr' st' f,(jM fun n=>dM (cx S E n) all draw j seen' l fr st= .ok (fr',st'))/\Sub N f fr'/\K f st'=some r
 | [],_,_,_,p,fr,st,_,h,hs,_=>⟨fr,st,p,jM.always fun _=>rfl,hs,h⟩
 | o::l,j,seen,seen',p,fr,st,K,h,hs,a=>by
  simp only [CO] at h;rcases vA h hs with ⟨hw,p1,d,h⟩ | ⟨hw,p1,d,h⟩
  .obtain ⟨v,x,hp,h⟩:=HN k h d;have h:=jW (K:=fun v=>match draw with
    | false=>yI N o.dst v p1 fun p=>CO S N all draw (j+1) seen l p (x.did.app st) K
    | true=>bM (pf all j x seen) (yI N o.dst v p1 fun p=>CO S N all draw (j+1) ((j,x)::seen) l p (x.did.app st) K)) h
   have g: ∀n,(kW S fr o.op >>= aC (caller E n) st)= .ok (v,x)->oper (cx S E n) all fr st o= .ok (v,x):=fun n e=>by
    simp only [oper,hw];exact e
   cases draw with
   | false=>
    obtain ⟨p2,c,h⟩:=nH h d;obtain ⟨fr',st',f,hev,b,i⟩:=qJ k (seen':=seen') h c a;refine ⟨fr',st',f,(hp.both hev).lift fun n hn=> ?_,b,i⟩;simp only [dM,g n hn.1,aA,X3];exact hn.2
   | true=>
    obtain ⟨ho,h⟩:=ef h;obtain ⟨p2,c,h⟩:=nH h d;cases m:quiet x with
    | true=>
     obtain ⟨fr',st',f,hev,b,i⟩:=qJ k (seen':=seen') h c fun y hy=>WZ _ (a y hy);refine ⟨fr',st',f,(hp.both hev).lift fun n hn=> ?_,b,i⟩;simp only [dM,g n hn.1,aA,m,XE,YD];exact hn.2
    | false=>
     obtain ⟨fr',st',f,hev,b,i⟩:=qJ k (seen':=(j,x)::seen') h c fun y hy=>by
      rcases Xb.1 hy with e | hy
      .rw [e];exact WS ..
      .exact WZ _ (a y hy)
     refine ⟨fr',st',f,(hp.both hev).lift fun n hn=> ?_,b,i⟩;simp only [dM,g n hn.1,aA,m,XR,Xt,qh ho seen' a];exact hn.2
  .obtain ⟨p2,c,h⟩:=nH h d;obtain ⟨fr',st',f,hev,b,i⟩:=qJ k (seen':=seen') h c a;refine ⟨fr',st',f,hev.lift fun n hn=> ?_,b,i⟩;have:oper (cx S E n) all fr st o= .ok (undef,⟨[],.kept⟩):=by simp only [oper,hw]
   simp only [dM,this,aA,quiet,List.isEmpty_nil,XE,YD];exact hn
theorem Db {T:TT} {t:TypeId} {i:TI} {nm:Nat} {st:St} {K:Kv β} (hi:ti T t= .ok i) (h:Fu t i.zero nm st K=some r): ∃v x,vY T t nm st= .ok (v,x)/\K v (x.did.app st) x=some r:=by
 unfold Fu mn at h;obtain ⟨⟨v,st',x⟩,h1,h2⟩:=bK h;unfold Kk at h1;split at h1
 .rename_i hg;unfold jm at h1;split at h1
  .rename_i a;cases h1;exact ⟨_,_,Dv (cB.1 hi) hg (WU a),h2⟩
  .cases h1
 .cases h1
theorem qt {S:Sx} (m:MN E S.O) {e:Nat->Option Nat} {all:List Oper}: ∀{l:List Oper} {j:Nat} {seen seen':List (Nat×Fx)} {p:PF} {fr:Fr} {st:St} {K:PF->St->Option β},
  rN S N e all j seen l p st K=some r->Sub N p fr->(∀y∈seen',y∈seen)-> ∃fr' st' f,(jM fun n=>di (cx S E n) e all j seen' l fr st= .ok (fr',st'))/\Sub N f fr'/\K f st'=some r
 | [],_,_,_,p,fr,st,_,h,hs,_=>⟨fr,st,p,jM.always fun _=>rfl,hs,h⟩
 | o::l,j,seen,seen',p,fr,st,K,h,hs,a=>by
  simp only [rN] at h;rcases vA h hs with ⟨hw,p1,c,h⟩ | ⟨hw,p1,c,h⟩
  .have key: ∃v x,(jM fun n=>fE (cx S E n) e all fr st o= .ok (v,x))/\DS (Ca o.op) S.T o.type v (fun v=>bM (pf all j x seen) (yI N o.dst v p1 fun p=>rN S N e all (j+1) ((j,x)::seen) l p (x.did.app st) K))=some r:=by
    unfold TF at h;split at h
    .rename_i t nm q;obtain ⟨i,hi,h⟩:=cK h;obtain ⟨v,x,h1,h2⟩:=Db hi h;refine ⟨v,x,jM.always fun n=> ?_,h2⟩;simp only [fE,hw,q];exact h1
    .rename_i q;obtain ⟨v,x,hp,h⟩:=HN m h c;refine ⟨v,x,jM.lift hp fun n u=> ?_,h⟩;simp only [fE,hw,q];exact u
   obtain ⟨v,x,g,h⟩:=key;have h:=jW (K:=fun v=>bM (pf all j x seen) (yI N o.dst v p1 fun p=>rN S N e all (j+1) ((j,x)::seen) l p (x.did.app st) K)) h;obtain ⟨ho,h⟩:=ef h;obtain ⟨p2,d,h⟩:=nH h c;cases s:quiet x with
   | true=>
    obtain ⟨fr',st',f,hev,b,k⟩:=qt m (seen':=seen') h d fun y hy=>WZ _ (a y hy);refine ⟨fr',st',f,(g.both hev).lift fun n hn=> ?_,b,k⟩;simp only [di,hn.1,aA,s,XE];exact hn.2
   | false=>
    obtain ⟨fr',st',f,hev,b,k⟩:=qt m (seen':=(j,x)::seen') h d fun y hy=>by
     rcases Xb.1 hy with e | hy
     .rw [e];exact WS ..
     .exact WZ _ (a y hy)
    refine ⟨fr',st',f,(g.both hev).lift fun n hn=> ?_,b,k⟩;simp only [di,hn.1,aA,s,XR,qh ho seen' a];exact hn.2
  .obtain ⟨p2,d,h⟩:=nH h c;obtain ⟨fr',st',f,hev,b,k⟩:=qt m (seen':=seen') h d a;refine ⟨fr',st',f,hev.lift fun n hn=> ?_,b,k⟩;have:fE (cx S E n) e all fr st o= .ok (undef,⟨[],.kept⟩):=by simp only [fE,hw]
   simp only [di,this,aA,quiet,List.isEmpty_nil,XE];exact hn
theorem Bg {K:St->Option β}: ∀{l:List Nat} {st:St},Qb st l K=some r->K (st.lay l)=some r
 | [],_,h=>h
 | _::l,st,h=>Bg (l:=l) (st:=(st.new .yZ).2) h
def MF (fr:Fr):List Nat->List AV->Prop
 | [],vs=>vs=[]
 | i::l,vs=> ∃v vs',vs=v::vs'/\fr.look i=some v/\MF fr l vs'
theorem du: ∀{l:List Nat} {p:PF} {fr:Fr} {K:List AV->Option β},getAll p l K=some r->Sub N p fr-> ∃vs,MF fr l vs/\K vs=some r
 | [],_,_,_,h,_=>⟨[],rfl,h⟩
 | i::l,p,fr,K,h,hs=>by
  simp only [getAll] at h;split at h
  .rename_i v hv;obtain ⟨vs,a,h⟩:=du h hs;exact ⟨v::vs,⟨v,vs,rfl,hs.2 _ _ hv,a⟩,h⟩
  .cases h
theorem ew {T:TT} {tys:List (Nat×TypeId)}: ∀{l:List Nat} {vs:List AV} {p:PF} {fr:Fr} {K:PF->Option β},ic T tys l vs p K=some r->MF fr l vs->Sub N p fr-> ∃a,Sub N a fr/\K a=some r
 | [],vs,p,fr,K,h,_,hs=>by
  obtain ⟨_,h⟩:=Eu h;exact ⟨p,hs,h⟩
 | i::l,vs,p,fr,K,h,hv,hs=>by
  obtain ⟨v,vs',rfl,hd⟩:=DL h;obtain ⟨v',d,e,hg,b⟩:=hv;cases e;have h:(ic T tys l vs' p fun p=>K ((i,v)::p))=some r:=by
   unfold Hp at hd;split at hd
   .exact jW (K:=fun v=>ic T tys l vs' p fun p=>K ((i,v)::p)) hd
   .exact hd
  obtain ⟨a,c,h⟩:=ew h b hs;exact ⟨_,c.JW hg,h⟩
theorem qx {W:List Nat} {i:Nat} {v:AV}: ∀{p:PF},PF.get (erase W p) i=some v->PF.get p i=some v/\i∉W
 | [],h=>by cases h
 | (k,u)::p,h=>by
  simp only [erase] at h;split at h
  .rename_i he;have ih:=qx h;refine ⟨?_,ih.2⟩;rw [PF.lW,if_neg]
   .exact ih.1
   .rintro rfl;exact ih.2 (uL.1 he)
  .rename_i he;rw [PF.lW] at h;split at h
   .rename_i e;refine ⟨by rw [PF.lW,if_pos e];exact h,fun hm=> ?_⟩;rw [<- e] at hm;rw [uL.2 hm] at he;cases he
   .rename_i e;have ih:=qx h;exact ⟨by rw [PF.lW,if_neg e];exact ih.1,ih.2⟩
theorem Sub.erased {W:List Nat} {p:PF} {fr fr':Fr} (hs:Sub N p fr) (hn:fr'.n=fr.n) (hf: ∀i,i∉W->fr'.look i=fr.look i):Sub N (erase W p) fr':=
 ⟨hn.trans hs.1,fun i v hv=>(hf i (qx hv).2).trans (hs.2 i v (qx hv).1)⟩
end
section
variable {β:Type} {r:β}
theorem oC {σ:Type} {F:σ->Option (Sum σ β)} {s:σ} (h:aK F s=some r): ∃n,mK F n s=some r:=by
 unfold aK at h;split at h
 .rename_i hx;cases h;exact hx.choose_spec
 .cases h
theorem sJ {σ:Type} {F:σ->Option (Sum σ β)}: ∀{n m:Nat} {s:σ},n<=m->mK F n s=some r->mK F m s=some r
 | 0,_,_,_,h=>by cases h
 | n+1,0,_,hn,_=>by omega
 | n+1,m+1,s,hn,h=>by
  simp only [mK] at h ⊢;split at h
  .exact sJ (by omega) h
  .exact h
  .cases h
theorem xM {σ:Type} {F:σ->Option (Sum σ β)} {s:σ} {n:Nat} (h:mK F n s=some r):aK F s=some r:=by
 have hx: ∃r n,mK F n s=some r:=⟨r,n,h⟩;unfold aK;rw [dif_pos hx];obtain ⟨m,hm⟩:=hx.choose_spec;have h1:=sJ (Nat.le_max_left m n) hm;have h2:=sJ (Nat.le_max_right m n) h;rw [h1] at h2;exact h2
theorem C9 {σ:Type} (F:σ->Option (Sum σ β)) (s:σ):aK F s=match F s with
  | some (.inl s')=>aK F s'
  | some (.inr r)=>some r
  | none=>none:=by
 cases e:F s with
 | none=>
  cases h:aK F s with
  | none=>rfl
  | some r=>
   obtain ⟨n,hn⟩:=oC h;cases n with
   | zero=>cases hn
   | succ n=>simp [mK,e] at hn
 | some x=>
  cases x with
  | inr r=>exact xM (n:=1) (by simp [mK,e])
  | inl s'=>
   dsimp only;cases h:aK F s' with
   | some r=>
    obtain ⟨n,hn⟩:=oC h;exact xM (n:=n+1) (by simp only [mK,e];exact hn)
   | none=>
    cases a:aK F s with
    | none=>rfl
    | some r=>
     obtain ⟨n,hn⟩:=oC a;cases n with
     | zero=>cases hn
     | succ n=>
      simp only [mK,e] at hn;rw [xM hn] at h;cases h
theorem Av {K:Ex->Option β} {x:Ex}: ∀{l:List Ex} {n k:Nat},Aj x l n=some k->n<=k/\PU K l (k - n)=K x
 | [],_,_,h=>by cases h
 | y::l,n,k,h=>by
  simp only [Aj] at h;split at h
  .rename_i e;have e:=YA e;cases h;refine ⟨WW _, ?_⟩;rw [Nat.sub_self, <- e];cases l <;> rfl
  .obtain ⟨h1,h2⟩:=Av (K:=K) h;refine ⟨by omega, ?_⟩;cases l with
   | nil=>cases h
   | cons z l=>
    have:k - n=(k - (n+1))+1:=by omega
    rw [this];exact h2
end
section
variable {N:Nat} {E:Env}
theorem kz {S:Sx} (F:MN E S.O) {tys:List (Nat×TypeId)}: ∀(c:Code) {live:List Nat} {β:Type} {r:β} {p:PF} {fr:Fr} {st:St} {K:Ex->PF->St->Option β},
  lx S N tys c live p st K=some r->Sub N p fr->(fr.strict=true->cL c=true)-> ∃ex fr' st' A,(jM fun n=>exec (cx S E n) n c fr st= .ok (ex,fr',st'))/\Sub N A fr'/\K ex A st'=some r
 | .skip,_,_,_,p,fr,st,_,h,hs,_=>⟨.normal,fr,st,p,jM.always fun _=>rfl,hs,h⟩
 | .label _,_,_,_,p,fr,st,_,h,hs,_=>⟨.normal,fr,st,p,jM.always fun _=>rfl,hs,h⟩
 | .exit i,_,_,_,p,fr,st,_,h,hs,_=>⟨.exit i,fr,st,p,jM.always fun _=>rfl,hs,h⟩
 | .ret,_,_,_,p,fr,st,_,h,hs,_=>⟨.ret,fr,st,p,jM.always fun _=>rfl,hs,h⟩
 | .goto _,_,_,_,_,_,_,_,h,_,_ | .refuse _,_,_,_,_,_,_,_,h,_,_=>by simp [lx] at h
 | .rangeFunc g ps a c,live,β,r,p,fr,st,K,h,hs,w=>by
  have hf:fr.strict=false:=by
   cases e:fr.strict with
   | false=>rfl
   | true=>exact absurd (w e) (by simp [cL])
  simp only [lx] at h;obtain ⟨fv,Q,h⟩:=bV h hs;obtain ⟨vs,y,h⟩:=du h hs;have y:vs=km fr (pH ps.toList a c):=by
   clear h;generalize pH ps.toList a c=us at y
   induction us generalizing vs with
   | nil=>exact y
   | cons u us ih=>
    obtain ⟨v,vs',rfl,h1,h2⟩:=y;rw [ih vs' h2,km,tV h1]
  subst y;unfold J4 at h;split at h
  .rename_i f cap _;obtain ⟨⟨v,st1⟩,h1,h⟩:=bK h;unfold TR at h;dsimp only at h;split at h
   .rename_i bb bt a1 c1 o s p1 hg;obtain ⟨hsp,h⟩:=ef h;have hJ: ∀l:List Ex,Cc p1 (fun ex=>K ex p (st1.put st.h .dead)) l=some r->K p1 p (st1.put st.h .dead)=some r:=by
     intro l
     induction l with
     | nil=>intro h;cases h
     | cons x l ih=>
      intro h;simp only [Cc,JU] at h;cases hd:decide (p1=x) with
      | true=>rw [hd] at h;rw [YA hd] at h ⊢;exact h
      | false=>rw [hd] at h;exact ih h
    refine ⟨p1,fr,st1.put st.h .dead,p,(F.wide _ _ _ _ h1).lift fun n hn=> ?_,hs,hJ _ h⟩;have Q:cj (cx S E n).G fr g= .ok (.fn (.func f) [] cap):=Q;have hn:(cx S E n).C.wide f (.yld st.h::cap) (st.new (.loop (cx S E n).imm ps.toList a c (Jw fr.n (pH ps.toList a c) (km fr (pH ps.toList a c))) 0 .normal)).2= .ok (v,st1):=by
     rw [hs.1];exact hn
    simp only [exec,hf,Q,aA,hn,hg,hsp,aH]
   .cases h
  .cases h
 | .scope c,live,β,r,p,fr,st,K,h,hs,w=>kz F c (live:=live) h hs fun e=>absurd (w e) (by simp [cL])
 | .region id ops draw,live,β,r,p,fr,st,K,h,hs,_=>by
  simp only [lx] at h;split at h
  .rename_i hd;have hd: ∀n,(draw&&(cx S E n).imm 4000000)=false:=fun n=>hd;split at h
   .obtain ⟨fr',st',A,hev,t,d⟩:=qJ F (seen':=[]) h hs (fun _ hy=>by cases hy);exact ⟨.normal,fr',st',A,hev.lift fun n hn=>by simp only [exec,hd n,hn,aA,aH],t,d⟩
   .obtain ⟨c,h1,h2⟩:=bK h;obtain ⟨fr',st',A,hev,t,d⟩:=qJ F (seen':=[]) h1 hs (fun _ hy=>by cases hy);obtain ⟨vs,y,e⟩:=du d t;cases e;obtain ⟨m,hm⟩:=hev;have hf:=ke (hm m (WW _));obtain ⟨p2,j,z⟩:=ew h2 y (hs.erased hf.1 hf.2);exact ⟨.normal,fr',st',p2,⟨m,fun n hn=>by simp only [exec,hd n,hm n hn,aA,aH]⟩,j,z⟩
  .rename_i hd;have hd: ∀n,(draw&&(cx S E n).imm 4000000)=true:=fun n=>hd;have h:=Bg (K:=fun st'=>match ug ops.toList with
    | false=>rN S N (Ap st.h (oU ops.toList)) ops.toList 0 [] ops.toList p st' fun p st=>K .normal p st
    | true=>let ws:=dedup (rX live (cV ops.toList))
     az (rN (β:=bT) S N (Ap st.h (oU ops.toList)) ops.toList 0 [] ops.toList p st' fun p st=>getAll p ws fun vs=>some (vs,st)) fun c=>
      ic S.T tys ws c.1 (erase (cV ops.toList) p) fun p=>K .normal p c.2) h
   dsimp only at h;split at h
   .obtain ⟨fr',st',A,hev,t,d⟩:=qt F (seen':=[]) h hs (fun _ hy=>by cases hy);exact ⟨.normal,fr',st',A,hev.lift fun n hn=>by simp only [exec,hd n,hn,aA,aH],t,d⟩
   .obtain ⟨c,h1,h2⟩:=bK h;obtain ⟨fr',st',A,hev,t,d⟩:=qt F (seen':=[]) h1 hs (fun _ hy=>by cases hy);obtain ⟨vs,y,e⟩:=du d t;cases e;obtain ⟨m,hm⟩:=hev;have hf:=jr (hm m (WW _));obtain ⟨p2,j,z⟩:=ew h2 y (hs.erased hf.1 hf.2);exact ⟨.normal,fr',st',p2,⟨m,fun n hn=>by simp only [exec,hd n,hm n hn,aA,aH]⟩,j,z⟩
 | .seq a b,live,β,r,p,fr,st,K,h,hs,w=>by
  have w:fr.strict=true->cL a=true/\cL b=true:=fun e=>by have:=w e;simpa [cL] using this
  simp only [lx] at h;obtain ⟨ex,o,st1,p1,hev,D,d⟩:=kz F a h hs fun e=>(w e).1;have Z:o.strict=fr.strict:=by
   obtain ⟨m,hm⟩:=hev;exact fN _ (hm m (WW _))
  cases ex with
  | normal=>
   obtain ⟨ex,B,H,p2,V,j,z⟩:=kz F b d D fun e=>(w (Z ▸ e)).2;exact ⟨ex,B,H,p2,(hev.both V).lift fun n hn=>by simp only [exec,hn.1,aA,hn.2],j,z⟩
  | exit i=>exact ⟨.exit i,o,st1,p1,hev.lift fun n hn=>by simp only [exec,hn,aA,aH],D,d⟩
  | ret=>exact ⟨.ret,o,st1,p1,hev.lift fun n hn=>by simp only [exec,hn,aA,aH],D,d⟩
 | .cond c a b,live,β,r,p,fr,st,K,h,hs,w=>by
  have w:fr.strict=true->cL a=true/\cL b=true:=fun e=>by have:=w e;simpa [cL] using this
  simp only [lx] at h;obtain ⟨cv,Q,h⟩:=bV h hs;obtain ⟨bv,rfl,h⟩:=xT h;have fin: ∀{ex fr' st'},(jM fun n=>exec (cx S E n) n (bif bv then a else b) fr st= .ok (ex,fr',st'))->jM fun n=>exec (cx S E n) n (.cond c a b) fr st= .ok (ex,fr',st'):=fun h=>h.lift fun n hn=>by
   have Q:cj (cx S E n).G fr c= .ok (.bool bv):=Q;cases bv <;> (simp only [exec,Q,aA,VM.asBool];exact hn)
  have two: ∀{γ:Type} {q:γ} {J:Ex->PF->St->Option γ},(aW bv (lx S N tys a live p st J) (lx S N tys b live p st J))=some q->
    ∃ex fr' st' A,(jM fun n=>exec (cx S E n) n (bif bv then a else b) fr st= .ok (ex,fr',st'))/\Sub N A fr'/\J ex A st'=some q:=by
   intro γ q J h;cases bv
   .exact kz F b h hs fun e=>(w e).2
   .exact kz F a h hs fun e=>(w e).1
  have outs: ∀{ex fr' st'},(jM fun n=>exec (cx S E n) n (bif bv then a else b) fr st= .ok (ex,fr',st'))->fr'.n=fr.n/\ ∀i,i∉writes a++writes b->fr'.look i=fr.look i:=by
   rintro ex fr' st' ⟨m,hm⟩;have:=fu _ (hm m (WW _));refine ⟨this.1,fun i hi=>this.2 i fun hm=>hi ?_⟩;cases bv
   .exact Xj.2 (.inr hm)
   .exact Xj.2 (.inl hm)
  split at h
  .obtain ⟨ex,fr',st',A,hev,t,d⟩:=two h;exact ⟨ex,fr',st',A,fin hev,t,d⟩
  .split at h
   .obtain ⟨q,h1,h2⟩:=bK h;obtain ⟨ex,fr',st',A,hev,t,d⟩:=two h1;have hf:=outs hev;cases ex with
    | normal=>
     obtain ⟨vs,y,e⟩:=du d t;cases e;obtain ⟨p2,j,z⟩:=ew h2 y (hs.erased hf.1 hf.2);exact ⟨.normal,fr',st',p2,fin hev,j,z⟩
    | exit i=>cases d
    | ret=>cases d
   .obtain ⟨q,h1,h2⟩:=bK h;obtain ⟨ex,fr',st',A,hev,t,d⟩:=two h1;have hf:=outs hev;cases ex with
    | normal=>
     obtain ⟨vs,y,e⟩:=du d t;cases e;obtain ⟨p2,j,z⟩:=ew h2 y (hs.erased hf.1 hf.2);exact ⟨.normal,fr',st',p2,fin hev,j,z⟩
    | exit i=>
     obtain ⟨Y,h3,e⟩:=bK d;cases e;cases h2;exact ⟨_,fr',st',A,fin hev,t,h3⟩
    | ret=>
     obtain ⟨Y,h3,e⟩:=bK d;cases e;cases h2;exact ⟨_,fr',st',A,fin hev,t,h3⟩
 | .block id c,live,β,r,p,fr,st,K,h,hs,w=>by
  simp only [lx] at h;split at h
  .obtain ⟨ex,o,st1,p1,hev,D,d⟩:=kz F c h hs w;cases ex with
   | normal=>exact ⟨.normal,o,st1,p1,hev.lift fun n hn=>by simp only [exec,hn,aA,aH],D,d⟩
   | ret=>exact ⟨.ret,o,st1,p1,hev.lift fun n hn=>by simp only [exec,hn,aA,aH],D,d⟩
   | exit i=>
    dsimp only at d;split at d
    .rename_i hi;exact ⟨.normal,o,st1,p1,hev.lift fun n hn=>by simp only [exec,hn,aA,aH,hi],D,d⟩
    .rename_i hi;exact ⟨.exit i,o,st1,p1,hev.lift fun n hn=>by simp only [exec,hn,aA,aH,hi],D,d⟩
  .obtain ⟨q,h1,h2⟩:=bK h;obtain ⟨ex,fr',st',A,hev,t,d⟩:=kz F c h1 hs w;have hf:fr'.n=fr.n/\ ∀i,i∉writes c->fr'.look i=fr.look i:=by
    obtain ⟨m,hm⟩:=hev;exact fu _ (hm m (WW _))
   cases ex with
   | normal=>
    obtain ⟨vs,y,e⟩:=du d t;cases e;obtain ⟨p2,j,z⟩:=ew h2 y (hs.erased hf.1 hf.2);exact ⟨.normal,fr',st',p2,hev.lift fun n hn=>by simp only [exec,hn,aA,aH],j,z⟩
   | exit i=>
    dsimp only at d;split at d
    .rename_i hi;obtain ⟨vs,y,e⟩:=du d t;cases e;obtain ⟨p2,j,z⟩:=ew h2 y (hs.erased hf.1 hf.2);exact ⟨.normal,fr',st',p2,hev.lift fun n hn=>by simp only [exec,hn,aA,aH,hi],j,z⟩
    .rename_i hi;obtain ⟨Y,h3,e⟩:=bK d;cases e;cases h2;exact ⟨.exit i,fr',st',A,hev.lift fun n hn=>by simp only [exec,hn,aA,aH,hi],t,h3⟩
   | ret=>
    obtain ⟨Y,h3,e⟩:=bK d;cases e;cases h2;exact ⟨.ret,fr',st',A,hev.lift fun n hn=>by simp only [exec,hn,aA,aH],t,h3⟩
 | .loop c,live,β,r,p,fr,st,K,h,hs,w=>by
  simp only [lx] at h;obtain ⟨vs,y,h⟩:=du h hs;obtain ⟨q,h1,h2⟩:=bK h;obtain ⟨m,hm⟩:=oC h1;have key: ∀(m:Nat) (vs:List AV) (st:St) (o:Fr),MF o (dedup (jy p (writes c))) vs->o.strict=fr.strict->o.n=fr.n->(∀i,i∉writes c->o.look i=fr.look i)->
    mK (fun s:bT=>ic S.T tys (dedup (jy p (writes c))) s.1 (erase (writes c) p) fun A=>lx S N tys c (dedup (jy p (writes c))++live) A s.2 fun ex A st=>match ex with
     | .normal=>getAll A (dedup (jy p (writes c))) fun vs=>some ((.inl (vs,st):Sum bT (Nat×bT)))
     | ex=>az (Aj ex ((leaves c).outs.eraseDups.map .exit++(match (leaves c).rets with | true=>[.ret] | false=>[])) 0) fun k=>getAll A (rX live (dedup (jy p (writes c)))) fun vs=>some (.inr (k,vs,st))) m (vs,st)=some q-> ∃ex fr' st' A,(jM fun n=> ∃k,k<=m/\iter (exec (cx S E n) n c) k o st= .ok (ex,fr',st'))/\ex≠ .normal/\Sub N A fr'/\(fr'.n=fr.n/\ ∀i,i∉writes c->fr'.look i=fr.look i)/\
     (az (Aj ex ((leaves c).outs.eraseDups.map .exit++(match (leaves c).rets with | true=>[.ret] | false=>[])) 0) fun k=>getAll A (rX live (dedup (jy p (writes c)))) fun vs=>some ((.inr (k,vs,st'):Sum bT (Nat×bT))))=some (.inr q):=by
   intro m
   induction m with
   | zero=>intro vs st o _ _ _ _ h;cases h
   | succ m ih=>
    intro vs st o hv R hn hf h;simp only [mK] at h;split at h
    .rename_i s' e;obtain ⟨p1,D,h3⟩:=ew e hv (hs.erased hn hf);obtain ⟨ex,B,H,p2,hev,j,d⟩:=kz F c h3 D fun e=>w (R ▸ e);have I:B.n=o.n/\ ∀i,i∉writes c->B.look i=o.look i:=by
      obtain ⟨m,hm⟩:=hev;exact fu _ (hm m (WW _))
     have W:B.strict=o.strict:=by
      obtain ⟨m,hm⟩:=hev;exact fN _ (hm m (WW _))
     cases ex with
     | normal=>
      obtain ⟨L,U,M⟩:=du d j;cases M;obtain ⟨ex,ar,av,p3,X,hx,aw,a6,a7⟩:=ih L H B U (W.trans R) (I.1.trans hn) (fun i hi=>(I.2 i hi).trans (hf i hi)) h;refine ⟨ex,ar,av,p3,(hev.both X).lift fun n hn=> ?_,hx,aw,a6,a7⟩;obtain ⟨h4,k,hk,h5⟩:=hn;exact ⟨k+1,by omega,by simp only [iter,h4,aA];exact h5⟩
     | exit i=>
      obtain ⟨k,_,d⟩:=bK d;obtain ⟨L,_,M⟩:=du d j;cases M
     | ret=>
      obtain ⟨k,_,d⟩:=bK d;obtain ⟨L,_,M⟩:=du d j;cases M
    .rename_i Y e;cases h;obtain ⟨p1,D,h3⟩:=ew e hv (hs.erased hn hf);obtain ⟨ex,B,H,p2,hev,j,d⟩:=kz F c h3 D fun e=>w (R ▸ e);have I:B.n=o.n/\ ∀i,i∉writes c->B.look i=o.look i:=by
      obtain ⟨m,hm⟩:=hev;exact fu _ (hm m (WW _))
     have P:B.n=fr.n/\ ∀i,i∉writes c->B.look i=fr.look i:=⟨I.1.trans hn,fun i hi=>(I.2 i hi).trans (hf i hi)⟩;cases ex with
     | normal=>
      obtain ⟨L,_,M⟩:=du d j;cases M
     | exit i=>exact ⟨_,B,H,p2,hev.lift fun n hn=>⟨1,by omega,by simp only [iter,hn,aA];rfl⟩,(by intro h;cases h),j,P,d⟩
     | ret=>exact ⟨_,B,H,p2,hev.lift fun n hn=>⟨1,by omega,by simp only [iter,hn,aA];rfl⟩,(by intro h;cases h),j,P,d⟩
    .cases h
  obtain ⟨ex,fr',st',A,hev,_,t,hf,d⟩:=key m vs st fr y rfl rfl (fun _ _=>rfl) hm;obtain ⟨k,h3,d⟩:=bK d;obtain ⟨L,U,M⟩:=du d t;cases M;obtain ⟨p2,j,z⟩:=ew h2 U (hs.erased hf.1 hf.2);have z:K ex p2 st'=some r:=(Av (K:=fun ex=>K ex p2 st') h3).2.symm.trans z;refine ⟨ex,fr',st',p2, ?_,j,z⟩;obtain ⟨m',a8⟩:=hev;refine ⟨max m' m,fun n hn=> ?_⟩;obtain ⟨k,hk,h5⟩:=a8 n (by omega);simp only [exec];exact uB (fun _ _ _ h=>h) (by omega) h5
end
section
variable {β:Type} {r:β} {N:Nat} {E:Env} {S:Sx}
theorem sG {T:TT}: ∀{vs:List AV} {ts:List TypeId} {i:Nat} {p:PF} {t:Tr AV} {K:PF->Option β},D4 T i ts vs p K=some r->Sub N p ⟨N,t,false⟩-> ∃b,Sub N b ⟨N,uT i vs t,false⟩/\K b=some r
 | [],_,_,p,_,_,h,hs=>⟨p,hs,h⟩
 | v::vs,ts,i,p,t,K,h,hs=>by
  have a:Sub N ((i,v)::p) ⟨N,t.put i v,false⟩:=by
   refine ⟨rfl,fun j u hu=> ?_⟩;rw [PF.lW] at hu;have hj: ∀t:Tr AV,(⟨N,t,false⟩:Fr).look j=some ((t.get j).getD undef):=fun _=>rfl;rw [hj,Tr.ko];split at hu
   .rename_i e;rw [if_pos e];cases hu;rfl
   .rename_i e;rw [if_neg e, <- hj];exact hs.2 j u hu
  cases ts with
  | nil=>exact sG (vs:=vs) (ts:=[]) (i:=i+1) (p:=(i,v)::p) h a
  | cons ty ts=>exact sG (vs:=vs) (ts:=ts) (i:=i+1) (p:=(i,v)::p) (jW (K:=fun v=>D4 T (i+1) ts vs ((i,v)::p) K) h) a
theorem Iq {p:PF} {fr:Fr} {st:St} {x:ResultVar} {K:AV->Option β} (h:Oo S p st x K=some r) (hs:Sub N p fr): ∃v,kA S.T fr st x= .ok v/\K v=some r:=by
 cases x with
 | tmp t=>
  simp only [Oo] at h;split at h
  .rename_i v hv;exact ⟨v,by simp only [kA,tV (hs.2 _ _ hv)],h⟩
  .cases h
 | cell a t=>
  simp only [Oo] at h;obtain ⟨i,e,h⟩:=cK h;split at h
  .rename_i f hv;have hg:=tV (hs.2 _ _ hv);obtain ⟨⟨v,rd⟩,b,h⟩:=bK h;unfold DV at b;split at b
   .split at b
    .rename_i c;cases b;exact ⟨v,by simp only [kA,e,hg,aA,ma,c,aH],jW h⟩
    .cases b
   .split at b
    .rename_i c;split at b
     .rename_i d;cases b;exact ⟨v,by simp only [kA,e,hg,aA,ma,iN,c,d,cellsOf,aH],jW h⟩
     .cases b
    .cases b
   .split at b
    .rename_i c;split at b
     .rename_i hm;split at b
      .rename_i d;cases b;exact ⟨v,by simp only [kA,e,hg,aA,ma,iN,c,d,hm,aH],jW h⟩
      .cases b
     .cases b
    .cases b
   .cases b
  .cases h
theorem yR {p:PF} {fr:Fr} {st:St}: ∀{l:List ResultVar} {K:List AV->Option β},Hl S p st l K=some r->Sub N p fr-> ∃vs,ij S.T fr st l= .ok vs/\K vs=some r
 | [],_,h,_=>⟨[],rfl,h⟩
 | x::l,K,h,hs=>by
  obtain ⟨v,e,h⟩:=Iq h hs;obtain ⟨vs,a,h⟩:=yR h hs;exact ⟨v::vs,by simp only [ij,e,a,aA,aH],h⟩
theorem EE (d:MN E S.O) {fn:Func} {args:List AV} {st:St} {K:AV->St->Option β} (h:HK S fn args st K=some r):
  ∃v st',(jM fun n=>body (cx S E n) n fn args st= .ok (v,st'))/\K v st'=some r:=by
 unfold HK at h;split at h
 .cases h
 .rename_i c hc;split at h
  .cases h
  .rename_i hl;obtain ⟨p,hs,h⟩:=sG (N:=fn.ntmps) (t:= .leaf) h ⟨rfl,fun _ _ hg=>by cases hg⟩;obtain ⟨ex,fr',st',f,hev,b,a⟩:=kz d c h hs (fun e=>by cases e);have hx:(Hl S f st' fn.results.toList fun vs=>K (oneOf vs) st')=some r/\(∀i,ex≠ .exit i):=by
    cases ex with
    | exit i=>cases a
    | normal=>exact ⟨a,by intro i h;cases h⟩
    | ret=>exact ⟨a,by intro i h;cases h⟩
   obtain ⟨vs,e,a⟩:=yR hx.1 b;refine ⟨oneOf vs,st',hev.lift fun n hn=> ?_,a⟩;have e:ij (cx S E n).T fr' st' fn.results.toList= .ok vs:=e;have hn:exec (cx S E n) n c (tJ fn.ntmps args) st= .ok (ex,fr',st'):=hn;unfold body;rw [hc];dsimp only;rw [hl];dsimp only;rw [hn,aA];cases ex with
   | exit i=>exact absurd rfl (hx.2 i)
   | normal=>simp only [e,aA,aH]
   | ret=>simp only [e,aA,aH]
end
section
variable {E:Env}
open Classical in
noncomputable def aV (E:Env):rB where
 full:=E.full
 isLook:=E.isLook
 bare f a:=if h: ∃v n,(caller E n).bare f a= .ok v then some h.choose else none
 wide f a st:=if h: ∃v n,(caller E n).wide f a st= .ok v then some h.choose else none
 look f a st:=if h: ∃v n,(caller E n).look f a st= .ok v then some h.choose else none
 round k a st:=if h: ∃v n,(caller E n).round k a st= .ok v then some h.choose else none
theorem FM (E:Env):MN E (aV E) where
 full:=rfl
 isLook:=rfl
 bare f a v h:=by
  simp only [aV] at h;split at h
  .rename_i hx;cases h;obtain ⟨m,hm⟩:=hx.choose_spec;exact ⟨m,fun n hn=>(fM E hn).bare _ _ _ hm⟩
  .cases h
 wide f a st v h:=by
  simp only [aV] at h;split at h
  .rename_i hx;cases h;obtain ⟨m,hm⟩:=hx.choose_spec;exact ⟨m,fun n hn=>(fM E hn).wide _ _ _ _ hm⟩
  .cases h
 look f a st v h:=by
  simp only [aV] at h;split at h
  .rename_i hx;cases h;obtain ⟨m,hm⟩:=hx.choose_spec;exact ⟨m,fun n hn=>(fM E hn).look _ _ _ _ hm⟩
  .cases h
 round k a st v h:=by
  simp only [aV] at h;split at h
  .rename_i hx;cases h;obtain ⟨m,hm⟩:=hx.choose_spec;exact ⟨m,fun n hn=>(fM E hn).round _ _ _ _ hm⟩
  .cases h
theorem zy {f:FuncId} {a:List AV} {v:AV} {n:Nat} (h:(caller E n).bare f a= .ok v):(aV E).bare f a=some v:=by
 have hx: ∃v n,(caller E n).bare f a= .ok v:=⟨v,n,h⟩;simp only [aV,dif_pos hx];obtain ⟨m,hm⟩:=hx.choose_spec;have h1:=(fM E (Nat.le_max_left m n)).bare _ _ _ hm;have h2:=(fM E (Nat.le_max_right m n)).bare _ _ _ h;rw [h1] at h2;simpa using h2
theorem Kg {f:FuncId} {a:List AV} {st:St} {v:AV×St} {n:Nat} (h:(caller E n).wide f a st= .ok v):(aV E).wide f a st=some v:=by
 have hx: ∃v n,(caller E n).wide f a st= .ok v:=⟨v,n,h⟩;simp only [aV,dif_pos hx];obtain ⟨m,hm⟩:=hx.choose_spec;have h1:=(fM E (Nat.le_max_left m n)).wide _ _ _ _ hm;have h2:=(fM E (Nat.le_max_right m n)).wide _ _ _ _ h;rw [h1] at h2;simpa using h2
noncomputable def sx (E:Env) (f:FuncId):Sx:=⟨E.T,E.prim,E.imm f,E.G,aV E⟩
noncomputable def bN (E:Env) (f:FuncId) (args:List AV):Option AV:=
 match E.F f with
 | none=>none
 | some fn=>HK (sx E f) fn args St.empty fun v s=>gR s 0 v some
noncomputable def cA (E:Env) (f:FuncId) (args:List AV) (st:St):Option (AV×St):=
 match E.F f with
 | none=>none
 | some fn=>HK (sx E f) fn args st fun v s=>some (v,s)
theorem Jn {β:Type} {r:β} {st:St} {b:Nat} {v:AV} {K:AV->Option β} (h:gR st b v K=some r): ∃v',freeze st b 100 v= .ok v'/\bare v'=true/\K v'=some r:=by
 unfold gR at h;split at h
 .obtain ⟨h1,h⟩:=ef h;exact ⟨_,by assumption,h1,h⟩
 .cases h
theorem aX {f:FuncId} {args:List AV} {v:AV} (hm:(E.memo f,(E.rule f).isSome)=([],false)) (h:bN E f args=some v):(aV E).bare f args=some v:=by
 unfold bN at h;split at h
 .cases h
 .rename_i fn a;obtain ⟨u,s,⟨m,hev⟩,h⟩:=EE (FM E) h;obtain ⟨v',h1,h2,h⟩:=Jn h;cases h;refine zy (n:=m+1) ?_;have hev:body ⟨E.T,E.prim,E.imm f,E.G,caller E m⟩ m fn args St.empty= .ok (u,s):=hev m (WW _);have hk:E.known f args=none:=by
   unfold Env.known;have h1:=Xy Prod.fst hm;have h2:=Xy Prod.snd hm;dsimp only at h1 h2;cases hr:E.rule f with
   | some r=>rw [hr] at h2;cases h2
   | none=>dsimp only;rw [h1];rfl
  simp only [caller,hk,a,hev,aA,h1,h2,aH]
theorem il {f:FuncId} {args:List AV} {st:St} {v:AV×St} (h:cA E f args st=some v):(aV E).wide f args st=some v:=by
 unfold cA at h;split at h
 .cases h
 .rename_i fn a;obtain ⟨u,s,⟨m,hev⟩,h⟩:=EE (FM E) h;cases h;refine Kg (n:=m+1) ?_;have hev:body ⟨E.T,E.prim,E.imm f,E.G,caller E m⟩ m fn args st= .ok (u,s):=hev m (WW _);simp only [caller,a,hev,aA,aH]
end
structure Lp where
 n:Nat
 ps:List Nat
 a:Code
 c:Code
 tys:List (Nat×TypeId)
section
variable {E:Env} {r:AV×St}
end
abbrev fD {β:Type} (v:AV) (K:Int->Int->Int->Int->List UInt8->AV->Option β):Option β:=uk v fun l=>bj l fun v0 l=>bk .u8 v0 fun a0=>bj l fun v1 l=>bk .u8 v1 fun a1=>bj l fun v2 l=>bk .i64 v2 fun a2=>bj l fun v3 l=>bk .i64 v3 fun a3=>bj l fun v4 l=>dW v4 fun a4=>bj l fun v5 l=>bC l (K a0 a1 a2 a3 a4 v5)
abbrev ah {β:Type} (v:AV) (K:Int->Int->List UInt8->AV->Option β):Option β:=uk v fun l=>bj l fun v0 l=>bk .u8 v0 fun a0=>bj l fun v1 l=>bk .u8 v1 fun a1=>bj l fun v2 l=>dW v2 fun a2=>bj l fun v3 l=>bC l (K a0 a1 a2 v3)
abbrev cG {β:Type} (v:AV) (K:Int->Int->List UInt8->AV->Int->Option β):Option β:=uk v fun l=>bj l fun v0 l=>bk .u8 v0 fun a0=>bj l fun v1 l=>bk .u8 v1 fun a1=>bj l fun v2 l=>dW v2 fun a2=>bj l fun v3 l=>bj l fun v4 l=>bk .i64 v4 fun a4=>bC l (K a0 a1 a2 v3 a4)
abbrev cS {β:Type} (v:AV) (K:Int->Int->Int->Bool->List UInt8->AV->AV->Option β):Option β:=uk v fun l=>bj l fun v0 l=>bk .u8 v0 fun a0=>bj l fun v1 l=>bk .i64 v1 fun a1=>bj l fun v2 l=>bk .i64 v2 fun a2=>bj l fun v3 l=>bJ v3 fun a3=>bj l fun v4 l=>dW v4 fun a4=>bj l fun v5 l=>bj l fun v6 l=>bC l (K a0 a1 a2 a3 a4 v5 v6)
abbrev dH {β:Type} (v:AV) (K:Int->List UInt8->Option β):Option β:=uk v fun l=>bj l fun v0 l=>bk .u8 v0 fun a0=>bj l fun v1 l=>dW v1 fun a1=>bC l (K a0 a1)
abbrev xG {β:Type} (v:AV) (K:Int->Int->Option β):Option β:=uk v fun l=>bj l fun v0 l=>bk .i64 v0 fun a0=>bj l fun v1 l=>bk .i64 v1 fun a1=>bC l (K a0 a1)
abbrev gY {β:Type} (v:AV) (K:Int->Int->Bool->AV->Int->Int->Int->Bool->List UInt8->AV->AV->Option β):Option β:=uk v fun l=>bj l fun v0 l=>bk .i64 v0 fun a0=>bj l fun v1 l=>bk .i64 v1 fun a1=>bj l fun v2 l=>bJ v2 fun a2=>bj l fun v3 l=>bj l fun v4 l=>bk .u8 v4 fun a4=>bj l fun v5 l=>bk .i64 v5 fun a5=>bj l fun v6 l=>bk .i64 v6 fun a6=>bj l fun v7 l=>bJ v7 fun a7=>bj l fun v8 l=>dW v8 fun a8=>bj l fun v9 l=>bj l fun v10 l=>bC l (K a0 a1 a2 v3 a4 a5 a6 a7 a8 v9 v10)
section
variable {β:Type}
@[simp] theorem aB {α:Type} (a:α) (K:α->Option β):aN a K=K a:=id rfl
@[simp] theorem af (k:IntKind) (n:Int) (K:Int->Option β):bk k (.int k n) K=K n:=by simp [bk]
@[simp] theorem ak (b:Bool) (K:Bool->Option β):bJ (.bool b) K=K b:=id rfl
@[simp] theorem ax (s:List UInt8) (K:List UInt8->Option β):dW (.str s) K=K s:=id rfl
@[simp] theorem TP (k:IntKind) (n:Int) (K:Int->Option β):anyI (.int k n) K=K n:=id rfl
@[simp] theorem aE (cs:List AV) (K:List AV->Option β):uk (.agg cs) K=K cs:=id rfl
@[simp] theorem cf (cs:List AV) (K:List AV->Option β):gx (.tup cs) K=K cs:=id rfl
@[simp] theorem ad (v:AV) (l:List AV) (K:AV->List AV->Option β):bj (v::l) K=K v l:=id rfl
@[simp] theorem ae (K:Option β):bC [] K=K:=id rfl
@[simp] theorem aR (K:Option β):bM true K=K:=id rfl
theorem gP {b:Bool} (h:b=true) (K:Option β):bM b K=K:=by rw [h];rfl
@[simp] theorem ao (x y:Option β):aW true x y=x:=id rfl
@[simp] theorem ai (x y:Option β):aW false x y=y:=id rfl
@[simp] theorem aq (p:Prop) [Decidable p] (x y:Option β):aW (decide p) x y=if p then x else y:=by
 by_cases h:p <;> simp [h]
@[simp] theorem dQ (a b:Int) (x y:Option β):aW (a==b) x y=if a=b then x else y:=by
 by_cases h:a=b
 .simp [h]
 .rw [beq_false_of_ne h];simp [h]
@[simp] theorem Uo (a b:Int) (x y:Option β):aW (a != b) x y=if a=b then y else x:=by
 by_cases h:a=b
 .simp [h]
 .rw [bne,beq_false_of_ne h];simp [h]
@[simp] theorem Uv (b:Bool) (x y:Option β):aW (!b) x y=aW b y x:=by cases b <;> rfl
@[simp] theorem aj {α:Type} (a:α) (K:α->Option β):az (some a) K=K a:=id rfl
@[simp] theorem cF {α:Type} (a:α) (K:α->Option β):iK (.inl a) K=K a:=id rfl
@[simp] theorem nM {α:Type} (b:β) (K:α->Option β):iK (.inr b) K=some b:=id rfl
@[simp] theorem er (a:Option β) (b:Nat->Option β):lC 0 a b=a:=id rfl
@[simp] theorem R2 (n:Nat) (a:Option β) (b:Nat->Option β):lC (n+1) a b=b n:=id rfl
@[simp] theorem iC (a:Option β) (b:Nat->Option β):lC 1 a b=b 0:=id rfl
theorem kJ {v:AV} (h:one v=true) (K:Option β):ab v K=K:=gP h K
@[simp] theorem QZ (b:Bool) (K:Option β):ab (.bool b) K=K:=id rfl
@[simp] theorem Je (k:IntKind) (n:Int) (K:Option β):ab (.int k n) K=K:=id rfl
@[simp] theorem I9 (s:List UInt8) (K:Option β):ab (.str s) K=K:=id rfl
@[simp] theorem Fl (K:Option β):ab .ay K=K:=id rfl
@[simp] theorem SH (z:Nat) (e:List AV) (p:Perm) (K:Option β):ab (.sl z e p) K=K:=id rfl
@[simp] theorem TE (i o:Nat) (K:Option β):ab (.mp i o) K=K:=id rfl
@[simp] theorem Tz (cs:List AV) (K:Option β):ab (.ip cs) K=K:=id rfl
@[simp] theorem P1 (K:Option β):ab .nilp K=K:=id rfl
@[simp] theorem T1 (i:Nat) (K:Option β):ab (.mm i) K=K:=id rfl
@[simp] theorem Rh (K:Option β):ab .nilm K=K:=id rfl
@[simp] theorem Sw (f:Fn) (a b:List AV) (K:Option β):ab (.fn f a b) K=K:=id rfl
@[simp] theorem bw (v:AV) (l:List AV) (K:AV->Option β):cE (v::l) 0 K=K v:=id rfl
@[simp] theorem R3 (v:AV) (l:List AV) (n:Nat) (K:AV->Option β):cE (v::l) (n+1) K=cE l n K:=id rfl
@[simp] theorem bG (u v:AV) (l:List AV) (K:AV->Option β):cE (u::v::l) 1 K=K v:=id rfl
@[simp] theorem Tf (u v w:AV) (l:List AV) (K:AV->Option β):cE (u::v::w::l) 2 K=K w:=id rfl
@[simp] theorem PG (u v w x:AV) (l:List AV) (K:AV->Option β):cE (u::v::w::x::l) 3 K=K x:=id rfl
@[simp] theorem Sb (u v w x y:AV) (l:List AV) (K:AV->Option β):cE (u::v::w::x::y::l) 4 K=K y:=id rfl
@[simp] theorem RV (u v w x y z:AV) (l:List AV) (K:AV->Option β):cE (u::v::w::x::y::z::l) 5 K=K z:=id rfl
@[simp] theorem jv (off:Nat) (cs:List AV) (K:AV->Option β):bF off (.ip cs) K=K (.ip (cs.drop off)):=id rfl
@[simp] theorem Ut (off i n o:Nat) (K:AV->Option β):bF off (.gp i n o) K=K (.gp i n (o+off)):=id rfl
@[simp] theorem ct (off i o:Nat) (K:AV->Option β):bF off (.mp i o) K=K (.mp i (o+off)):=id rfl
def mg (size:Nat) (agg:Bool) (cs:List AV):Option AV:=JJ (cR size agg cs)
@[simp] theorem bq (z:Nat) (v:AV) (l:List AV):mg z false (v::l)=some v:=id rfl
theorem IQ {z:Nat} {cs:List AV} (h:z<=cs.length):mg z true cs=some (.agg (cs.take z)):=by
 simp only [mg,cR,Xx h,JJ]
theorem II {cs:List AV} {z:Nat} (h:cs.length=z):mg z true cs=some (.agg cs):=by
 subst h;rw [IQ (WW _),Xv]
@[simp] theorem bx (z:Nat) (g:Bool) (cs:List AV) (st:St) (K:AV->List Nat->Option β):al z g (.ip cs) st K=az (mg z g cs) fun v=>K v []:=by
 unfold al DV mg;dsimp only;cases cR z g cs <;> rfl
theorem bu {st:St} {i:Nat} {t:TypeId} {cs:List AV} (h:st.get i= .ok (.cells t cs)) (z:Nat) (g:Bool) (o:Nat) (K:AV->List Nat->Option β):al z g (.mp i o) st K=az (mg z g (cs.drop o)) fun v=>K v [i]:=by
 unfold al DV mg;dsimp only;rw [h];dsimp only;cases cR z g (cs.drop o) <;> rfl
@[simp] theorem Us (i o:Nat) (K:Option β):LL (.mp i o) K=K:=id rfl
@[simp] theorem Uh (cs:List AV) (K:Option β):LL (.ip cs) K=K:=id rfl
@[simp] theorem TZ (K:Option β):ab .es K=K:=id rfl
@[simp] theorem Ul (K:AV->Option β):aD .es K=K .es:=id rfl
@[simp] theorem R7 (K:Nat->Option β):fc .ay K=K 0:=id rfl
@[simp] theorem Mb (z:Nat) (e:List AV) (p:Perm) (K:Nat->Option β):fc (.sl z e p) K=K e.length:=id rfl
@[simp] theorem RY (b:Bool) (K:AV->Option β):aD (.bool b) K=K (.bool b):=id rfl
@[simp] theorem KJ (k:IntKind) (n:Int) (K:AV->Option β):aD (.int k n) K=K (.int k n):=id rfl
@[simp] theorem KX (s:List UInt8) (K:AV->Option β):aD (.str s) K=K (.str s):=id rfl
@[simp] theorem Sa (K:AV->Option β):aD .ay K=K .ay:=id rfl
@[simp] theorem RU (z:Nat) (e:List AV) (K:AV->Option β):aD (.sl z e .wide) K=K (.sl z e .wide):=id rfl
@[simp] theorem R4 (z:Nat) (e:List AV) (K:AV->Option β):aD (.sl z e .shut) K=K (.sl z e .shut):=id rfl
@[simp] theorem SY (z k:Nat) (e:List AV) (K:AV->Option β):aD (.sl z e (.own k)) K=K (.sl z e .wide):=id rfl
theorem E7 {i:Int} {n:Nat} (h0:0<=i) (h1:i < n) (K:Nat->Option β):lG i n K=K i.toNat:=by
 obtain ⟨k,rfl⟩:=Int.eq_ofNat_of_zero_le h0;have:k.blt n=true:=dD.2 (by omega);simp only [lG];show bM (k.blt n) (K k)= _;rw [gP this];rfl
theorem J2 {i:Int} {n:Nat} (h0:0<=i) (h1:i<=n) (K:Nat->Option β):eh i n K=K i.toNat:=by
 obtain ⟨k,rfl⟩:=Int.eq_ofNat_of_zero_le h0;have:k.ble n=true:=Xx (by omega);show bM (k.ble n) (K k)= _;rw [gP this];rfl
theorem Ew {k n:Nat} (h:k < n) (K:Nat->Option β):lG (k:Int) n K=K k:=E7 (by omega) (by omega) K
theorem bW {k n:Nat} (h:k<=n) (K:Nat->Option β):eh (k:Int) n K=K k:=J2 (by omega) (by omega) K
theorem bI {s:List UInt8} {k:Nat} (h:k < s.length) (K:UInt8->Option β):eC s (k:Int) K=K s[k]:=by
 unfold eC;rw [Ew h];simp [h]
end
theorem BR: ∀{l:List AV} {n:Nat} {v:AV},l[n]? =some v->BL l n=some v
 | [],_,_,h=>by simp at h
 | _:: _,0,_,h=>by simpa [BL] using h
 | _::l,n+1,_,h=>by simp only [BL];exact BR (by simpa using h)
def bp (z:Nat) (x:AV) (es:List AV):Prop:=es.length<=9223372036854775807/\(((x= .ay\/x= .es)/\es=[])\/x= .sl z es .shut\/x= .sl z es .wide)
namespace bp
variable {β:Type} {z:Nat} {x:AV} {es:List AV}
theorem ay:bp z .ay []:=⟨by simp,.inl ⟨.inl rfl,rfl⟩⟩
theorem emp:bp z .es []:=⟨by simp,.inl ⟨.inr rfl,rfl⟩⟩
theorem wide (h:es.length<=9223372036854775807):bp z (.sl z es .wide) es:=⟨h,.inr (.inr rfl)⟩
theorem shut (h:es.length<=9223372036854775807):bp z (.sl z es .shut) es:=⟨h,.inr (.inl rfl)⟩
theorem one (h:bp z x es):VM.one x=true:=by rcases h.2 with ⟨rfl | rfl,rfl⟩ | rfl | rfl <;> rfl
theorem bare (h:bp z x es):VM.bare x=true:=by rcases h.2 with ⟨rfl | rfl,rfl⟩ | rfl | rfl <;> rfl
theorem strip (h:bp z x es):VM.strip x=x:=by rcases h.2 with ⟨rfl | rfl,rfl⟩ | rfl | rfl <;> rfl
theorem ab (h:bp z x es) (K:Option β):ab x K=K:=kJ h.one K
theorem aD (h:bp z x es) (K:AV->Option β):aD x K=K x:=by rcases h.2 with ⟨rfl | rfl,rfl⟩ | rfl | rfl <;> rfl
theorem len (h:bp z x es) (K:Nat->Option β):fc x K=K es.length:=by rcases h.2 with ⟨rfl | rfl,rfl⟩ | rfl | rfl <;> rfl
theorem elems (h:bp z x es) (K:List AV->Option β):mX x K=K es:=by rcases h.2 with ⟨rfl | rfl,rfl⟩ | rfl | rfl <;> rfl
theorem idx (h:bp z x es) {k:Nat} {v:AV} (hk:es[k]? =some v) (st:St) (K:AV->List Nat->Option β):bU z x (k:Int) st K=K (.ip v.cells) []:=by
 have a:k < es.length:=(Yb.1 hk).1;have hz:z.beq z=true:=XQ z;have hi:mN (k:Int) es.length=some k:=by
  show (match k.blt es.length with | true=>some k | false=>none)= _;rw [dD.2 a]
 have hn:BL es k=some v:=BR hk;have hlen:=h.1;rcases h.2 with ⟨rfl | rfl,rfl⟩ | rfl | rfl
 .simp at a
 .simp at a
 .simp only [bU,Fs,hz,hi,hn,aj]
 .simp only [bU,Fs,hz,hi,hn,aj]
theorem slice (h:bp z x es) {lo hi:Option Int} {l m:Nat} (hl:uj lo m 0=some l) (a:uj hi es.length es.length=some m) (K:AV->Option β):
  ∃x',bp z x' ((es.take m).drop l)/\gi z x lo hi none K=K x':=by
 have hz:z.beq z=true:=XQ z;have hlen:=h.1;rcases h.2 with ⟨rfl | rfl,rfl⟩ | rfl | rfl
 .have a:uj hi 0 0=some m:=a;refine ⟨.ay,⟨by simp,.inl ⟨.inl rfl,by simp⟩⟩, ?_⟩;simp only [gi,og,show uj none 0 0=some 0 from rfl,a,hl,aj]
 .have a:uj hi 0 0=some m:=a;refine ⟨.es,⟨by simp,.inl ⟨.inr rfl,by simp⟩⟩, ?_⟩;simp only [gi,og,show uj none 0 0=some 0 from rfl,a,hl,aj]
 .simp only [gi,og,hz,a,hl];cases e:m.beq es.length with
  | true=>
   have:=W2 e;subst this;exact ⟨.sl z (es.drop l) .shut,by simpa using bp.shut (z:=z) (es:=es.drop l) (by rw [Xa];omega),rfl⟩
  | false=>exact ⟨_,bp.wide (by rw [Xa,Xg];omega),rfl⟩
 .simp only [gi,og,hz,a,hl];cases e:m.beq es.length with
  | true=>exact ⟨_,bp.wide (by rw [Xa,Xg];omega),rfl⟩
  | false=>exact ⟨_,bp.wide (by rw [Xa,Xg];omega),rfl⟩
end bp
theorem qA {k n d:Nat} (h:k<=n):uj (some (k:Int)) n d=some k:=by
 show (match k.ble n with | true=>some k | false=>none)= _;rw [Xx h]
theorem Dx {n d:Nat}:uj none n d=some d:=rfl
def iS (st:St) (z:Nat) (e:TypeId) (v:AV) (es:List AV):Prop:=
 st.ro<=st.h/\es.length<=9223372036854775807/\(((v= .ay\/v= .es)/\es=[])\/v= .sl z es .shut\/ ∃k,v= .sl z es (.own k)/\st.get k= .ok (.tok es.length e)/\st.ro<=k)
theorem iS.ay {st:St} (h:st.ro<=st.h) (z:Nat) (e:TypeId):iS st z e .ay []:=⟨h,by simp,.inl ⟨.inl rfl,rfl⟩⟩
theorem iS.emp {st:St} (h:st.ro<=st.h) (z:Nat) (e:TypeId):iS st z e .es []:=⟨h,by simp,.inl ⟨.inr rfl,rfl⟩⟩
theorem iS.shut {st:St} (h:st.ro<=st.h) {z:Nat} (e:TypeId) {es:List AV} (hl:es.length<=9223372036854775807):iS st z e (.sl z es .shut) es:=⟨h,hl,.inr (.inl rfl)⟩
theorem iS.one {st:St} {z:Nat} {e:TypeId} {v:AV} {es:List AV} (h:iS st z e v es):VM.one v=true:=by
 rcases h with ⟨_,_,⟨rfl | rfl,_⟩ | rfl | ⟨k,rfl,_⟩⟩ <;> rfl
theorem St.dE {st:St} {o:Obj}:(st.add o).get st.h= .ok o:=St.fV.2 (.inl ⟨rfl,rfl⟩)
theorem St.jc {st:St} {o:Obj} {j:Nat} {x:Obj} (h:st.get j= .ok x):(st.add o).get j= .ok x:=St.fV.2 (.inr ⟨(St.ch.1 h).1,h⟩)
structure ba (st st':St) (but:Nat->Prop):Prop where
 ro:st'.ro=st.ro
 h:st.h<=st'.h
 old: ∀j o,¬ but j->st.get j= .ok o->st'.get j= .ok o
theorem ba.refl (st:St) (but:Nat->Prop):ba st st but:=⟨rfl,WW _,fun _ _ _ h=>h⟩
theorem ba.trans {a b c:St} {p:Nat->Prop} (h:ba a b p) (k:ba b c p):ba a c p:=
 ⟨k.ro.trans h.ro,Xs h.h k.h,fun j o hj hg=>k.old j o hj (h.old j o hj hg)⟩
theorem ba.add (st:St) (o:Obj) (but:Nat->Prop):ba st (st.add o) but:=⟨rfl,Nat.le_succ _,fun _ _ _ h=>St.jc h⟩
theorem ba.put {st:St} {i:Nat} {o:Obj} {but:Nat->Prop} (hb:but i):ba st (st.put i o) but:=
 ⟨rfl,WW _,fun j x hj h=>by
  have:i≠j:=by rintro rfl;exact hj hb
  rw [St.aY this];exact h⟩
def dS (v:AV) (j:Nat):Prop:= ∃z es,v= .sl z es (.own j)
theorem qO {β:Type} {z b:Nat} {e:TypeId} {s:AV} {new:List AV} {st:St} {v:AV} {st':St} {x:Fx} (h:uI z b e s new st=some (v,st',x)) (K:Kv β):cT z b e s new st K=K v st' x:=by
 simp only [cT,mn,h,aj]
theorem iS.not {st:St} {z:Nat} {e:TypeId} {v:AV} {ws:List AV} {j:Nat} {t:TypeId} {cs:List AV} (h:iS st z e v ws) (hj:st.get j= .ok (.cells t cs)):¬ dS v j:=by
 rintro ⟨z,es,rfl⟩;rcases h with ⟨_,_,⟨h | h,_⟩ | h | ⟨k,h,hg,_⟩⟩
 .cases h
 .cases h
 .cases h
 .cases h;rw [hj] at hg;cases hg
theorem iS.put {st:St} {z:Nat} {e:TypeId} {v:AV} {ws:List AV} {j:Nat} {t t':TypeId} {cs cs':List AV} (h:iS st z e v ws) (hj:st.get j= .ok (.cells t cs)):iS (st.put j (.cells t' cs')) z e v ws:=by
 refine ⟨h.1,h.2.1, ?_⟩;rcases h.2.2 with h | h | ⟨k,hk,hg,hr⟩
 .exact .inl h
 .exact .inr (.inl h)
 .refine .inr (.inr ⟨k,hk, ?_,hr⟩);have:j≠k:=by rintro rfl;rw [hj] at hg;cases hg
  rw [St.aY this];exact hg
theorem xc {st:St} {z b:Nat} {e:TypeId} {v:AV} {es new:List AV} (h:iS st z e v es) (hn:new≠[]) (hr:dp (es.length+new.length) ⟨.other,z,b,[],false,false⟩=true):
  ∃v' st' x,uI z b e v new st=some (v',st',x)/\iS st' z e v' (es++new)/\ba st st' (dS v)/\(∀j,dS v' j->dS v j\/st.h<=j):=by
 have hlen:(es++new).length<=9223372036854775807:=by
  simp only [dp,WY] at hr;rw [W9];exact Xs (WU hr.2.2) (by omega)
 have hz:z.beq z=true:=XQ z;cases new with
 | nil=>exact absurd rfl hn
 | cons a l=>
  have fresh: ∀n,n=(es++a::l).length->uI z b e v (a::l) st=vV st (.tok n e) (fun k=> .sl z (es++a::l) (.own k))-> ∃v' st' x,uI z b e v (a::l) st=some (v',st',x)/\iS st' z e v' (es++a::l)/\ba st st' (dS v)/\(∀j,dS v' j->dS v j\/st.h<=j):=by
   intro n hn he;refine ⟨.sl z (es++a::l) (.own st.h),st.add (.tok n e),⟨[],.made st.h (.tok n e)⟩,he,⟨Yt h.1,hlen,.inr (.inr ⟨st.h,rfl, ?_,h.1⟩)⟩,ba.add _ _ _, ?_⟩
   .rw [<- hn];exact St.dE
   .rintro j ⟨z',es',e⟩;cases e;exact .inr (WW _)
  rcases h.2.2 with ⟨rfl | rfl,rfl⟩ | rfl | ⟨k,rfl,hg,c⟩
  .simp only [XI,Xd] at hr;exact fresh (a::l).length rfl (by simp only [uI,hr,W5])
  .simp only [XI,Xd] at hr;exact fresh (a::l).length rfl (by simp only [uI,hr,W5])
  .exact fresh (es.length+(a::l).length) (by rw [W9]) (by simp only [uI,hr,hz,Xt])
  .have h1:(es.length.beq es.length&&Nat.beq e e)=true:=by simp
   have h2:(st.ro.ble k)=true:=Xx c;refine ⟨.sl z (es++a::l) (.own k),st.put k (.tok (es.length+(a::l).length) e),⟨[k],.wrote k (.tok (es.length+(a::l).length) e)⟩, ?_,⟨h.1,hlen,.inr (.inr ⟨k,rfl, ?_,c⟩)⟩,ba.put ⟨z,es,rfl⟩, ?_⟩
   .simp only [uI,hr,hz,Xt,hg,h1,jm,h2]
   .rw [St.aQ (St.ch.1 hg).1,W9]
   .rintro j ⟨z',es',e⟩;cases e;exact .inl ⟨_,_,rfl⟩
theorem Om {β:Type} {st:St} {z:Nat} {e:TypeId} {v:AV} {es:List AV} (h:iS st z e v es): ∃x,bp z x es/\ ∀(K:AV->Option β),gR st 0 v K=K x:=by
 rcases h with ⟨_,hl,⟨rfl | rfl,rfl⟩ | rfl | ⟨k,rfl,_,_⟩⟩
 .exact ⟨.ay,bp.ay,fun _=>rfl⟩
 .exact ⟨.es,bp.emp,fun _=>rfl⟩
 .exact ⟨.sl z es .shut,bp.shut hl,fun _=>rfl⟩
 .exact ⟨.sl z es .wide,bp.wide hl,fun _=>rfl⟩
theorem aG {β:Type} {E:Env} {f:FuncId} {args:List AV} {v:AV} (st:St) (K:Kv β) (hf:E.full f=false) (hs:args.map strip=args) (hb:bL args=true) (h:(aV E).bare f args=some v):
  bc (aV E) f args st K=K v st q0:=by
 have h1:(bL (args.map strip)&& !(aV E).full f)=true:=by
  rw [hs,hb];show (true&& !E.full f)=true;rw [hf];rfl
 unfold bc mn CY;rw [h1,hs,h];rfl
theorem gV {β:Type} {E:Env} {f:FuncId} {args:List AV} {v:AV} {st st':St} (K:Kv β) (hl:E.isLook f=false) (hb:(bL (args.map strip)&& !E.full f)=false) (h:(aV E).wide f args st=some (v,st')):
  bc (aV E) f args st K=K v st' ⟨[],.all st st'⟩:=by
 have h1:(bL (args.map strip)&& !(aV E).full f)=false:=hb;have h2:(aV E).isLook f=false:=hl;unfold bc mn CY;rw [h1,h2,h];rfl
theorem wrap_i64 {n:Int} (h1: -9223372036854775808<=n) (h2:n<=9223372036854775807):IntKind.wrap .i64 n=n:=by
 have e:IntKind.wrap .i64 n=if n % 18446744073709551616>=9223372036854775808 then n % 18446744073709551616 - 18446744073709551616 else n % 18446744073709551616:=by
  show (if (true&&decide (n % (2 ^ 64:Int)>=(2 ^ 63:Int)))=true then n % (2 ^ 64:Int) - (2 ^ 64:Int) else n % (2 ^ 64:Int))= _;simp
 rw [e];split <;> omega
theorem drop_cons {α:Type} {l m:List α} {i:Nat} {v:α} (h:l.drop i=v::m):l[i]? =some v/\l.drop (i+1)=m/\i < l.length:=by
 have h1:(l.drop i)[0]? =some v:=by rw [h];rfl
 rw [X6] at h1;refine ⟨by simpa using h1, ?_, ?_⟩
 .rw [<- Ya,h];rfl
 .exact (Yb.1 (by simpa using h1)).1
end Go.VM
namespace Go.VM
open Go
section
variable {β α:Type}
@[congr] theorem Qr {a a':α} {K:α->Option β} (h:a=a'):aN a K=aN a' K:=by rw [h]
@[congr] theorem R8 {k:IntKind} {v v':AV} {K:Int->Option β} (h:v=v'):bk k v K=bk k v' K:=by rw [h]
@[congr] theorem RQ {v v':AV} {K:Bool->Option β} (h:v=v'):bJ v K=bJ v' K:=by rw [h]
@[congr] theorem Sc {v v':AV} {K:List UInt8->Option β} (h:v=v'):dW v K=dW v' K:=by rw [h]
@[congr] theorem QQ {v v':AV} {K:Int->Option β} (h:v=v'):anyI v K=anyI v' K:=by rw [h]
@[congr] theorem RN {v v':AV} {K:List AV->Option β} (h:v=v'):uk v K=uk v' K:=by rw [h]
@[congr] theorem R0 {v v':AV} {K:List AV->Option β} (h:v=v'):gx v K=gx v' K:=by rw [h]
@[congr] theorem R9 {v v':List AV} {K:AV->List AV->Option β} (h:v=v'):bj v K=bj v' K:=by rw [h]
@[congr] theorem RW {v v':List AV} {K:Option β} (h:v=v'):bC v K=bC v' K:=by rw [h]
@[congr] theorem RR {v v':Bool} {K:Option β} (h:v=v'):bM v K=bM v' K:=by rw [h]
@[congr] theorem RX {v v':Bool} {x y:Option β} (h:v=v'):aW v x y=aW v' x y:=by rw [h]
@[congr] theorem Ou {v v':Option α} {K:α->Option β} (h:v=v'):az v K=az v' K:=by rw [h]
@[congr] theorem Ov {v v':Sum α β} {K:α->Option β} (h:v=v'):iK v K=iK v' K:=by rw [h]
@[congr] theorem P8 {n n':Nat} {a:Option β} {b:Nat->Option β} (h:n=n'):lC n a b=lC n' a b:=by rw [h]
@[congr] theorem OC {v v':AV} {K:Option β} (h:v=v'):ab v K=ab v' K:=by rw [h]
@[congr] theorem Rk {l l':List AV} {n:Nat} {K:AV->Option β} (h:l=l'):cE l n K=cE l' n K:=by rw [h]
@[congr] theorem QM {o:Nat} {v v':AV} {K:AV->Option β} (h:v=v'):bF o v K=bF o v' K:=by rw [h]
@[congr] theorem OQ {z:Nat} {g:Bool} {v v':AV} {st st':St} {K:AV->List Nat->Option β} (h:v=v') (h':st=st'):al z g v st K=al z g v' st' K:=by rw [h,h']
@[congr] theorem QK {v v':AV} {K:AV->Option β} (h:v=v'):aD v K=aD v' K:=by rw [h]
@[congr] theorem Pp {v v':AV} {K:Option β} (h:v=v'):LL v K=LL v' K:=by rw [h]
@[congr] theorem PI {v v':AV} {K:Nat->Option β} (h:v=v'):fc v K=fc v' K:=by rw [h]
@[congr] theorem Mo {v v':AV} {K:List AV->Option β} (h:v=v'):mX v K=mX v' K:=by rw [h]
@[congr] theorem Px {z:Nat} {v v':AV} {i i':Int} {st st':St} {K:AV->List Nat->Option β} (h:v=v') (h1:i=i') (h2:st=st'):bU z v i st K=bU z v' i' st' K:=by rw [h,h1,h2]
@[congr] theorem M0 {v v':List UInt8} {i i':Int} {K:UInt8->Option β} (h:v=v') (h1:i=i'):eC v i K=eC v' i' K:=by rw [h,h1]
@[congr] theorem L0 {i i':Int} {n n':Nat} {K:Nat->Option β} (h:i=i') (h1:n=n'):lG i n K=lG i' n' K:=by rw [h,h1]
@[congr] theorem O0 {i i':Int} {n n':Nat} {K:Nat->Option β} (h:i=i') (h1:n=n'):eh i n K=eh i' n' K:=by rw [h,h1]
@[congr] theorem Ol {z:Nat} {v v':AV} {a a' b b' c c':Option Int} {K:AV->Option β} (h:v=v') (h1:a=a') (h2:b=b') (h3:c=c'):gi z v a b c K=gi z v' a' b' c' K:=by rw [h,h1,h2,h3]
@[congr] theorem PA {z b:Nat} {e:TypeId} {v v':AV} {n n':List AV} {st st':St} {K:Kv β} (h:v=v') (h1:n=n') (h2:st=st'):cT z b e v n st K=cT z b e v' n' st' K:=by rw [h,h1,h2]
@[congr] theorem OB {g:Bool} {l l':List AV} {K:List AV->Option β} (h:l=l'):pS g l K=pS g l' K:=by rw [h]
@[congr] theorem OA {O:rB} {f:FuncId} {l l':List AV} {st st':St} {K:Kv β} (h:l=l') (h1:st=st'):bc O f l st K=bc O f l' st' K:=by rw [h,h1]
@[congr] theorem OI {O:rB} {p p':db dG} {st st':St} {K:Kv β} (h:p=p') (h1:st=st'):dK O p st K=dK O p' st' K:=by rw [h,h1]
@[congr] theorem OX {O:rB} {pr:FuncId->Option Prim} {f f':AV} {l l':List AV} {st st':St} {K:Kv β} (h0:f=f') (h:l=l') (h1:st=st'):kK O pr f l st K=kK O pr f' l' st' K:=by rw [h0,h,h1]
@[congr] theorem Oj {O:rB} {z:Nat} {a a' v v':AV} {l l':List AV} {st st':St} {K:Kv β} (h0:a=a') (h2:v=v') (h:l=l') (h1:st=st'):aM O z a v l st K=aM O z a' v' l' st' K:=by rw [h0,h2,h,h1]
@[congr] theorem Ri {st st':St} {b:Nat} {v v':AV} {K:AV->Option β} (h1:st=st') (h:v=v'):gR st b v K=gR st' b v' K:=by rw [h1,h]
@[congr] theorem Po {st st':St} {o o':Obj} {f:Nat->AV} {K:Kv β} (h1:st=st') (h:o=o'):made st o f K=made st' o' f K:=by rw [h1,h]
@[congr] theorem QR {u:U} {v v' w w':AV} {K:Bool->Option β} (h:v=v') (h1:w=w'):LD u v w K=LD u v' w' K:=by rw [h,h1]
@[congr] theorem O4 {a a':St} {K:St->Option β} (h:a=a'):bh a K=bh a' K:=by rw [h]
@[simp] theorem eV (a:St) (K:St->Option β):bh a K=K a:=id rfl
end
theorem aP {σ β:Type} {F:σ->Option (Sum σ β)} {s s':σ} (h:F s=some (.inl s')):aK F s=aK F s':=by rw [C9,h]
theorem aF {σ β:Type} {F:σ->Option (Sum σ β)} {s:σ} {r:β} (h:F s=some (.inr r)):aK F s=some r:=by rw [C9,h]
def Fz (d:Nat) (v:AV):Prop:= ∀st base n,d<=n->freeze st base n v= .ok v
theorem Cu (b:Bool):Fz 1 (.bool b):=fun _ _ n hn=>by cases n with | zero=>omega | succ n=>rfl
theorem gM (k:IntKind) (m:Int):Fz 1 (.int k m):=fun _ _ n hn=>by cases n with | zero=>omega | succ n=>rfl
theorem Bx (s:List UInt8):Fz 1 (.str s):=fun _ _ n hn=>by cases n with | zero=>omega | succ n=>rfl
theorem Nn:Fz 1 .ay:=fun _ _ n hn=>by cases n with | zero=>omega | succ n=>rfl
theorem SZ:Fz 1 .es:=fun _ _ n hn=>by cases n with | zero=>omega | succ n=>rfl
theorem Mi (z:Nat) (es:List AV):Fz 1 (.sl z es .wide):=fun _ _ n hn=>by cases n with | zero=>omega | succ n=>rfl
theorem NN (z:Nat) (es:List AV):Fz 1 (.sl z es .shut):=fun _ _ n hn=>by cases n with | zero=>omega | succ n=>rfl
theorem yl {z:Nat} {x:AV} {es:List AV} (h:bp z x es):Fz 1 x:=by
 rcases h.2 with ⟨rfl | rfl,rfl⟩ | rfl | rfl
 .exact Nn
 .exact SZ
 .exact NN _ _
 .exact Mi _ _
theorem Hu {st:St} {base n d:Nat} (hn:d<=n): ∀{cs:List AV},(∀c∈cs,Fz d c)->lF (freeze st base n) cs= .ok cs
 | [],_=>rfl
 | c::cs,h=>by
  have h1:=h c (by simp) st base n hn;have h2:=Hu (st:=st) (base:=base) hn fun c hc=>h c (WZ _ hc);simp only [lF,h1,h2,aA,aH]
theorem QE {d:Nat} {cs:List AV} (h: ∀c∈cs,Fz d c):Fz (d+1) (.agg cs):=fun st base n hn=>by
 cases n with
 | zero=>omega
 | succ n=>
  show (do pure (.agg (<- lF (freeze st base n) cs)):db AV)= _;rw [Hu (by omega) h];rfl
theorem dq {β:Type} {O:rB} {st:St} {id off:Nat} {t:TypeId} {old:List AV} {z:Nat} {v:AV} {cs:List AV} (hg:st.get id= .ok (.cells t old)) (hz:cs.length=z) (hl:off+cs.length<=old.length) (a:st.ro<=id) (K:Kv β):
  aM O z (.mp id off) v cs st K=K undef (st.put id (.cells t (cJ old off cs))) ⟨[id],.wrote id (.cells t (cJ old off cs))⟩:=by
 have h1:cs.length.beq z=true:=by rw [hz];exact XQ z
 simp only [aM,mn,B2,h1,hg,Xx hl,jm,Xx a,aj,QO]
theorem jT {old cs:List AV} (h:cs.length=old.length):cJ old 0 cs=cs:=by
 simp only [cJ,List.take_zero,W5,Xd];rw [h,List.drop_length,Xe]
theorem AP {O:rB} {st:St} {t:TypeId} {z:Nat} {old cs:List AV} (v:AV) (hl:old.length=z) (hc:cs.length=z) (a:st.ro<=st.h):
  ∃st',st'.get st.h= .ok (.cells t cs)/\ba st st' (fun _=>False)/\st'.h=st.h+1/\ ∃b,∀{β:Type} (K:Kv β),aM O z (.mp st.h 0) v cs (st.add (.cells t old)) K=K undef st' b:=by
 have hg:(st.add (.cells t old)).get st.h= .ok (.cells t old):=St.dE;refine ⟨(st.add (.cells t old)).put st.h (.cells t cs),St.aQ (XW _),⟨rfl,Nat.le_succ _,fun j o _ hj=> ?_⟩,rfl,⟨[st.h],.wrote st.h (.cells t (cJ old 0 cs))⟩,fun K=> ?_⟩
 .have c:=(St.ch.1 hj).1;rw [St.aY (by omega)];exact St.jc hj
 .rw [dq hg hc (by omega) a];rw [jT (by omega)]
theorem bp.cut {z:Nat} {x:AV} {es:List AV} (h:bp z x es) {lo hi:Option Int} {l m:Nat} (hl:uj lo m 0=some l) (a:uj hi es.length es.length=some m):
  ∃x',bp z x' ((es.take m).drop l)/\ ∀{β:Type} (K:AV->Option β),gi z x lo hi none K=K x':=by
 obtain ⟨x',hx,e⟩:=h.slice hl a (some:AV->Option AV);refine ⟨x',hx,fun K=> ?_⟩;have e:az (og z x lo hi none) some=some x':=e;show az (og z x lo hi none) K= _;cases hs:og z x lo hi none with
 | none=>rw [hs] at e;cases e
 | some u=>rw [hs] at e;cases e;rfl
@[simp] theorem fU (r:List Nat):apart ⟨r,.kept⟩ q0=true:=id rfl
@[simp] theorem fb (r:List Nat):apart q0 ⟨r,.kept⟩=true:=id rfl
theorem nN {cs:List AV}:bare (.agg cs)=bL cs:=rfl
def xZ (st:St) (u8:TypeId) (a:AV) (out:List UInt8):Prop:=(a= .ay/\out=[])\/ ∃k,a= .sl 1 (ofBytes out) (.own k)/\st.get k= .ok (.tok out.length u8)/\st.ro<=k/\out≠[]
def UY (st:St) (T u8:TypeId) (p:Nat) (pre post:List AV) (out:List UInt8):Prop:=
 ∃a0 a,st.get p= .ok (.cells T (pre++a0::a::post))/\(a0= .nilp\/a0= .mp p pre.length)/\xZ st u8 a out/\st.ro<=p
structure sb (st st':St) (u8:TypeId) (p:Nat):Prop where
 ro:st'.ro=st.ro
 h:st.h<=st'.h
 old: ∀j o,j≠p->(∀n,o≠ .tok n u8)->st.get j= .ok o->st'.get j= .ok o
theorem sb.refl (st:St) (u8:TypeId) (p:Nat):sb st st u8 p:=⟨rfl,WW _,fun _ _ _ _ h=>h⟩
theorem sb.put {st:St} {u8:TypeId} {p:Nat} {o:Obj}:sb st (st.put p o) u8 p:=⟨rfl,WW _,fun j x hj _ hg=>by rw [St.aY (fun e=>hj e.symm)];exact hg⟩
theorem xZ.put {st:St} {u8:TypeId} {a:AV} {out:List UInt8} {p:Nat} {T:TypeId} {cs cs':List AV} (h:xZ st u8 a out) (hp:st.get p= .ok (.cells T cs)):xZ (st.put p (.cells T cs')) u8 a out:=by
 rcases h with h | ⟨k,h1,h2,h3,h4⟩
 .exact .inl h
 .refine .inr ⟨k,h1, ?_,h3,h4⟩;have:p≠k:=by rintro rfl;rw [hp] at h2;cases h2
  rw [St.aY this];exact h2
theorem zE (a b:List UInt8):ofBytes (a++b)=ofBytes a++ofBytes b:=Xh
theorem eB (a:List UInt8):(ofBytes a).length=a.length:=Xn _
theorem ql: ∀(s:List UInt8),fa (ofBytes s)= .ok s
 | []=>rfl
 | b::l=>by
  have ih:=ql l;show (match b.toNat.blt 256 with | true=>(do pure (UInt8.ofNat b.toNat::(<- fa (ofBytes l))):db (List UInt8)) | false=> .error "no byte")= _;rw [dD.2 (UInt8.toNat_lt b),ih];show Except.ok (UInt8.ofNat b.toNat::l)= _;simp
section
variable {β:Type} {O:rB}
theorem A4 (pre post:List AV) (a:AV):eZ (pre++a::post) pre.length= .ok a:=by
 induction pre with
 | nil=>rfl
 | cons v l ih=>exact ih
theorem zk (pre post:List AV) (a b:AV):eZ (pre++a::b::post) (pre.length+1)= .ok b:=by
 induction pre with
 | nil=>rfl
 | cons v l ih=>exact ih
theorem GM (pre post:List AV) (a x:AV):cJ (pre++a::post) pre.length [x]=pre++x::post:=by
 simp [cJ,List.drop_append]
theorem Ct {st:St} {L:List (TypeId×Nat×Nat)} {T u8:TypeId} {p:Nat} {pre post:List AV} {out:List UInt8} (h:UY st T u8 p pre post out) (hl:D6 L T (pre++ .nilp:: .ay::post).length pre.length=true):
  ∃st' a,st'.get p= .ok (.cells T (pre++ .mp p pre.length::a::post))/\xZ st' u8 a out/\st'.ro<=p/\sb st st' u8 p/\st'.h=st.h/\ ∃c,∀{β:Type} (K:Kv β),dK O (fO (.copyCheck L) [.mp p pre.length]) st K=K (.tup []) st' c:=by
 obtain ⟨a0,a,h1,h2,h3,h4⟩:=h;have b:D6 L T (pre++a0::a::post).length pre.length=true:=by simpa using hl
 rcases h2 with rfl | rfl
 .refine ⟨st.put p (.cells T (pre++ .mp p pre.length::a::post)),a,St.aQ (St.ch.1 h1).1,h3.put h1,h4,sb.put,rfl,⟨[p],.wrote p (.cells T (pre++ .mp p pre.length::a::post))⟩,fun K=> ?_⟩;simp only [dK,mn,fO,mO,h1,mI,aA,b,A4,aH,GM,jm,Xx h4,aj]
 .refine ⟨st,a,h1,h3,h4,sb.refl _ _ _,rfl,⟨[p],.kept⟩,fun K=> ?_⟩;simp only [dK,mn,fO,mO,h1,mI,aA,b,A4,aH,XQ,Xt,aj]
theorem Fo {st:St} {T u8:TypeId} {p:Nat} {pre post:List AV} {out:List UInt8} (h:UY st T u8 p pre post out) (ho:out.length < 4611686018427387904) (K:Kv β):
  ∃a,dK O (fO (.builderString u8) [.mp p pre.length]) st K=K (.str out) st a:=by
 obtain ⟨a0,e,h1,h2,h3,h4⟩:=h;rcases h3 with ⟨rfl,rfl⟩ | ⟨k,rfl,hk,hr,hn⟩
 .refine ⟨⟨[],.looked⟩, ?_⟩;simp only [dK,mn,fO,mO,h1,cellsOf,aA,zk,aH,aj]
 .refine ⟨⟨[],.looked⟩, ?_⟩;have c:(ofBytes out).isEmpty=false:=by
   cases out with
   | nil=>exact absurd rfl hn
   | cons b l=>rfl
  have d:(Nat.beq u8 u8&&Nat.beq out.length (ofBytes out).length&& !(ofBytes out).isEmpty&&Nat.blt out.length 4611686018427387904)=true:=by
   rw [eB,c,dD.2 ho,XQ,XQ];rfl
  simp only [dK,mn,fO,mO,h1,cellsOf,aA,zk,aH,aj,Xx hr,hk,d,ql]
theorem NZ {st:St} {u8:TypeId} {a:AV} {out s:List UInt8} (h:xZ st u8 a out) (hl:out.length+s.length<=70368744177664) (d:st.ro<=st.h):
  ∃v st',xZ st' u8 v (out++s)/\one v=true/\st'.ro=st.ro/\st.h<=st'.h/\(∀j o,(∀n,o≠ .tok n u8)->st.get j= .ok o->st'.get j= .ok o)/\ ∃f,∀{β:Type} (K:Kv β),cT 1 1 u8 a (ofBytes s) st K=K v st' f:=by
 have room: ∀n,n<=70368744177664->dp n ⟨.other,1,1,[],false,false⟩=true:=fun n hn=>by
  simp only [dp,Nat.mul_one,Xx hn];rfl
 cases s with
 | nil=>
  refine ⟨a,st,by simpa using h, ?_,rfl,WW _,fun _ _ _ h=>h,q0,fun K=> ?_⟩
  .rcases h with ⟨rfl,_⟩ | ⟨k,rfl,_⟩ <;> rfl
  .rcases h with ⟨rfl,rfl⟩ | ⟨k,rfl,hk,hr,hn⟩ <;> rfl
 | cons b s=>
  rcases h with ⟨rfl,rfl⟩ | ⟨k,rfl,hk,hr,hn⟩
  .have hr:=room (ofBytes (b::s)).length (by rw [eB];simpa using hl);refine ⟨.sl 1 (ofBytes (b::s)) (.own st.h),st.add (.tok (ofBytes (b::s)).length u8),.inr ⟨st.h,rfl, ?_,d,by simp⟩,rfl,rfl,Nat.le_succ _,fun j o _ hg=>St.jc hg,⟨[],.made st.h (.tok (ofBytes (b::s)).length u8)⟩,fun K=> ?_⟩
   .rw [eB];exact St.dE
   .exact qO (by simp only [ofBytes,W8] at hr ⊢;simp only [uI,hr];rfl) K
  .have c:=room ((ofBytes out).length+(ofBytes (b::s)).length) (by rw [eB,eB];exact hl);refine ⟨.sl 1 (ofBytes (out++b::s)) (.own k),st.put k (.tok ((ofBytes out).length+(ofBytes (b::s)).length) u8),.inr ⟨k,rfl, ?_,hr,by simp⟩,rfl,rfl,WW _,fun j o ho hg=> ?_,⟨[k],.wrote k (.tok ((ofBytes out).length+(ofBytes (b::s)).length) u8)⟩,fun K=> ?_⟩
   .rw [St.aQ (St.ch.1 hk).1,eB,eB,W9]
   .have:k≠j:=by rintro rfl;rw [hk] at hg;cases hg;exact ho _ rfl
    rw [St.aY this];exact hg
   .have e:(Nat.beq out.length (ofBytes out).length&&Nat.beq u8 u8)=true:=by rw [eB,XQ,XQ];rfl
    have g:Nat.beq 1 1=true:=rfl;refine qO ?_ K;rw [zE];simp only [ofBytes,W8] at c e ⊢;simp only [uI,c,g,Xt,hk,e,jm,Xx hr]
end
end Go.VM
