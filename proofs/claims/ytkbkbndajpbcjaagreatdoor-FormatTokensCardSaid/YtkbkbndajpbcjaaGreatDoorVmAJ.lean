/-
  A part of the proof.
-/
import Derived.Test.YtkbkbndajpbcjaaGreatDoorVmAI
import Derived.LoopN
import Derived.Scope
import Derived.RangeFuncLeaves
import Derived.RangeFuncRecord
set_option linter.all false
namespace Go.VM
def Ex.to:Ex->Exit
 | .normal=> .normal
 | .exit id=> .exit id
 | .ret=> .ret
section
variable {P:Program}
theorem Kp.sub {A A':Nat->Prop} {g g':Gh} {w w':World} (h:Kp A' g w g' w') (hs: ∀b,A' b->A b):Kp A g w g' w':=
 ⟨h.size,fun b a=>h.heap b fun k=>a (hs b k),fun b a=>h.F b fun k=>a (hs b k),fun b a=>h.M b fun k=>a (hs b k),h.le,h.rest⟩
structure Nx (A:Nat->Prop) (g:Gh) (a:Act) (w:World) (A':Nat->Prop) (g':Gh) (a':Act) (w':World):Prop where
 sub: ∀b,A' b->A b
 kp:Kp A g w g' w'
 defs: ∀d∈a'.defers,d∈a.defers\/ ∃D,d=mark D/\A D
theorem Nx.refl (A:Nat->Prop) (g:Gh) (a:Act) (w:World):Nx A g a w A g a w:=⟨fun _ h=>h,Kp.refl _ _ _,fun _ h=> .inl h⟩
theorem Nx.trans {A e f:Nat->Prop} {g i j:Gh} {a l m:Act} {w n o:World} (h:Nx A g a w e i l n) (k:Nx e i l n f j m o):Nx A g a w f j m o:=
 ⟨fun b p=>h.sub b (k.sub b p),h.kp.trans (k.kp.sub h.sub),fun d c=>by
  rcases k.defs d c with c | ⟨D,rfl,q⟩
  .exact h.defs d c
  .exact .inr ⟨D,rfl,h.sub D q⟩⟩
theorem zO {X:Cx} {ro:Oq Nat} {c:Code} {body:Fr->St->df (Ex×Fr×St)}
  (r: ∀A fr st ex fr' st' g a w (Q:Exit->Act->World->Prop),body fr st= .ok (ex,fr',st')->Rel X A ro g fr st a w->(∀A' g' a' w',Rel X A' ro g' fr' st' a' w'->Nx A g a w A' g' a' w'->Q ex.to a' w')->c.wpIn (fe ro) 0 P Q a w):
  ∀(n:Nat) {A:Nat->Prop} {fr fr':Fr} {st st':St} {ex:Ex} {g:Gh} {a:Act} {w:World} {Q:Exit->Act->World->Prop},iter body n fr st= .ok (ex,fr',st')->Rel X A ro g fr st a w->(∀A' g' a' w',Rel X A' ro g' fr' st' a' w'->Nx A g a w A' g' a' w'->Q ex.to a' w')->Code.roundsIn (fe ro) 0 P c Q n a w
 | 0,_,_,_,_,_,_,_,_,_,_,h,_,_=>by simp [iter] at h
 | n+1,A,fr,fr',st,st',ex,g,a,w,Q,h,s,i=>by
  simp only [iter,ag] at h;obtain ⟨⟨d,j,st1⟩,h1,e⟩:=h;rw [roundsIn_succ];refine r A fr st d j st1 g a w _ h1 s fun A' g' a' w' b k=> ?_;cases d with
  | normal=>exact zO r n e b fun l m o p f q=>i l m o p f (k.trans q)
  | exit id=>
   simp only [aj,aaj] at e;obtain ⟨rfl,rfl,rfl⟩:=e;exact i A' g' a' w' b k
  | ret=>
   simp only [aj,aaj] at e;obtain ⟨rfl,rfl,rfl⟩:=e;exact i A' g' a' w' b k
theorem TZ {T:TT} {A:Nat->Prop} {g:Gh} {st:St} {w:World} (h:Inv T A g st w) {l:Nat} {o:Go.Obj} (hl:w.heap[l]? =some o) (ho: ∀vs ty fz,o≠ .cells vs ty fz) (k:Nat):g.F l k=none:=by
 cases hf:g.F l k with
 | none=>rfl
 | some v=>
  obtain ⟨vs,ty,fz,h1,_⟩:=qe (h.F l k v hf);rw [hl] at h1;exact absurd (abp h1) (ho vs ty fz)
theorem Ve {T:TT} {A:Nat->Prop} {g:Gh} {st:St} {w:World} (h:Inv T A g st w) {l:Nat} {o:Go.Obj} (hl:w.heap[l]? =some o) (ho: ∀es clk,o≠ .map es clk):g.M l=none:=by
 cases hm:g.M l with
 | none=>rfl
 | some v=>
  have h1:=h.M l v.1 v.2 hm;rw [hl] at h1;exact absurd (abp h1) (ho _ _)
theorem Inv.turn {T:TT} {A:Nat->Prop} {g:Gh} {st:St} {w:World} (h:Inv T A g st w) {k l:Nat} {imm:Td->Bool} {ps:List Tmp} {x c:Code} {fr:Fr} {s:Nat} {p:Ex} (f:st.get k= .ok (.loop imm ps x c fr s p)) (hE:g.E k=some (.cG l)) {r:Loop} (hl:w.heap[l]? =some (.loop r)) (hA:A l)
  (r':Loop) (o':Obj) (b: ∀b',At g k o' b'->b'=l) (ho:Holds T g (w.putObj l (.loop r')) k o'):Inv T A g (st.put k o') (w.putObj l (.loop r'))/\Kp A g w g (w.putObj l (.loop r')):=by
 have a: ∀b',b'≠l->(w.putObj l (.loop r')).heap[b']? =w.heap[b']? :=fun b' i=>World.putObj_heap_other i;exact ⟨h.write f (show g.E k=some (.cG l) from hE) o' World.putObj_size a (fun j v d=>by rw [TZ h hl (fun _ _ _ e=>by cases e) j] at d;cases d) (Ve h hl fun _ _ e=>by cases e) b ho,
  Kp.write hA World.putObj_size a⟩
theorem qn {k b d:Nat} {p:Ex} {st st':St} (h:tc k b d p st= .ok st'): ∃imm ps x c fr p0,st.get k= .ok (.loop imm ps x c fr b p0)/\st'=st.put k (.loop imm ps x c fr d p):=by
 simp only [tc,ag] at h;obtain ⟨o,h1,a⟩:=h;split at a
 .rename_i imm ps x c fr s p0;split at a
  .rename_i hs;have hs:=aap hs;subst hs;cases a;exact ⟨imm,ps,x,c,fr,p0,h1,rfl⟩
  .cases a
 .cases a
theorem wP (fr:Fr): ∀(us:Ln) (t:Tr AV) (i:Nat),(sg us (ma fr us) t).get i=t.get i\/(sg us (ma fr us) t).get i=some (fr.get i)
 | [],t,i=> .inl rfl
 | u::us,t,i=>by
  simp only [ma,sg];rcases wP fr us (t.put u (fr.get u)) i with h | h
  .rw [h,Tr.lY];by_cases a:u=i
   .rw [if_pos a,a];exact .inr rfl
   .rw [if_neg a];exact .inl rfl
  .exact .inr h
theorem Jr {g:Gh} {fr:Fr} {tmps:Array Value} (h:zo g fr tmps) (hs:fr.strict=false) (us:Ln):zo g (Lq fr.n us (ma fr us)) tmps:=by
 refine ⟨h.size,fun t=> ?_⟩;simp only [Lq,Fr.get];rcases wP fr us .leaf t with h1 | h1
 .rw [h1,Tr.vC];exact .inl ⟨trivial,rfl⟩
 .rw [h1];exact .inr (h.at hs t)
theorem DR {X:Cx} (hX:Good P X) {n:Nat} {x:Operand} {ps:Array Tmp} {y c:Code} (hc:codeOk y=true/\codeOk c=true) {A:Nat->Prop} {ro:Oq Nat} {fr fr':Fr} {st st':St} {ex:Ex} {g:Gh} {a:Act} {w:World} {Q:Exit->Act->World->Prop}
  (h:exec X n (.rangeFunc x ps y c) fr st= .ok (ex,fr',st')) (k:Rel X A ro g fr st a w) (hQ: ∀A' g' a' w',Rel X A' ro g' fr' st' a' w'->Nx A g a w A' g' a' w'->Q ex.to a' w'):(Code.rangeFunc x ps y c).wpIn (fe ro) 0 P Q a w:=by
 simp only [exec] at h;split at h
 .cases h
 rename_i hs;have a1:ro=none:=by
  have:=k.mode;rw [hs] at this;cases ro with
  | none=>rfl
  | some l=>cases this
 subst a1;simp only [ag] at h;obtain ⟨fv,h1,h⟩:=h;split at h
 .rename_i f cap;simp only [ag] at h;obtain ⟨⟨v,st1⟩,h2,o,h3,S⟩:=h;dsimp only at h3 S;split at S
  .rename_i b8 b9 x1 c1 cc s p;split at S
   .rename_i W;simp only [aj,aaj] at S;obtain ⟨rfl,rfl,rfl⟩:=S;have Y:=aM k.G k.fr h1;simp only [R,RL] at Y;obtain ⟨a',Z,a6,U,a7⟩:=Y;have U:a'= #[]:=by simpa using U
    subst U;refine wpIn_rangeFunc ?_;intro fn cd;obtain ⟨rec,j⟩: ∃rec:Loop,rec={state:= .ready,pending:=none,fn,tmps:=a.tmps,params:=ps,assign:=y,body:=c,defers:=w.heap.size}:=⟨_,rfl⟩;obtain ⟨N,m⟩: ∃N,w.alloc (.deferred (some []))=N:=⟨_,rfl⟩;obtain ⟨u,q⟩: ∃u,N.alloc (.loop rec)=u:=⟨_,rfl⟩;have a8:N.heap.size=w.heap.size+1:=by rw [<- m];simp
    have cg:u.heap.size=w.heap.size+1+1:=by rw [<- q, <- m];simp
    obtain ⟨A',I⟩: ∃A':Nat->Prop,A'=fun b=>A b/\b≠w.heap.size:=⟨_,rfl⟩;have J: ∀b,A' b->A b:=fun b hb=>by rw [I] at hb;exact hb.1
    have L:Inv X.T A g st N:=by rw [<- m];exact k.inv.alloc _
    have L:Inv X.T A' g st N:=by
     refine ⟨L.F,L.M,L.E,L.H,L.D,fun id o b q1 q2 q3=> ?_,fun b hb=> ?_⟩
     .rw [I];have:=G2 (k.inv.H id o q1) q2;exact ⟨L.own id o b q1 q2 q3,by omega⟩
     .rw [I];exact ⟨k.inv.up b (by omega),by omega⟩
    have k0:Kp A g w g N:=by rw [<- m];exact Kp.alloc _ k.inv
    have bb:u.heap[w.heap.size+1]? =some (.loop rec):=by
     have:=World.heap_alloc_new (w:=N) (o:= .loop rec);rw [q,a8] at this;exact this
    have bt:u.heap[w.heap.size]? =some (.deferred (some [])):=by
     rw [<- q,World.jG (by omega), <- m];exact World.heap_alloc_new
    have ar:g.E st.h=none:=k.inv.E _ (aal _);have K:Le g (g.dB st.h (.cG (w.heap.size+1))):=Le.dB ar;have av:A' (w.heap.size+1):=by rw [I];exact ⟨k.inv.up _ (by omega),by omega⟩
    have i1:Inv X.T A' (g.dB st.h (.cG (w.heap.size+1))) (st.new (.loop X.imm ps.toList y c (Lq fr.n (sL ps.toList y c) (ma fr (sL ps.toList y c))) 0 .normal)).2 u:=by
     have:=L.alloc (.loop rec);rw [q] at this;refine this.name _ (.cG (w.heap.size+1)) (w.heap.size+1) (fun id o' b4=>L.js (by omega) id o' b4) av (fun b' B=> ?_) ⟨w.heap.size+1,rec,Gh.aX _ _ _,bb, ?_, ?_, ?_, ?_,⟨hc.1,hc.2,rfl⟩, ?_⟩
     .have B:(g.dB st.h (.cG (w.heap.size+1))).E st.h=some (.cG b'):=B;rw [Gh.aX] at B;simpa using B.symm
     .rw [j];exact (Jr k.fr hs _).mono K
     .rw [j]
     .rw [j]
     .rw [j]
     .rw [j];exact .inl ⟨rfl,rfl,rfl,rfl⟩
    have k1:Kp A' g N (g.dB st.h (.cG (w.heap.size+1))) u:=by
     rw [<- q];exact (Kp.alloc _ L).trans (Kp.dB ar)
    have V:RL (g.dB st.h (.cG (w.heap.size+1))) (.yld st.h::cap) (.func (.yield (w.heap.size+1)) #[] #[]::Z.toList):=
     cL (by simp only [R];exact ⟨_,Gh.aX _ _ _,rfl⟩) (eZ K _ _ a7)
    obtain ⟨e1,t⟩:=hX.C.wide _ _ _ _ _ h2 A' _ u _ (k.G.mono K) V i1;refine ⟨w.heap.size+1,[mark w.heap.size],u,{target:= .fn (.func f) Z,args:= #[.func (.yield (w.heap.size+1)) #[] #[]]},u,f,(.func (.yield (w.heap.size+1)) #[] #[]::Z.toList).toArray,u, ?_, ?_, ?_, ?_,fun e=>by simp [fe,Fence.wide] at e, ?_⟩
    .rw [<- q,j, <- m];exact run_enterLoop_outer _ _ _ _ _
    .simp only [resolve,a6];simp [go_sem]
    .intro _ _;trivial
    .have:(#[.func (.yield (w.heap.size+1)) #[] #[]]++Z:Array Value)=(.func (.yield (w.heap.size+1)) #[] #[]::Z.toList).toArray:=by
      apply Array.ext';simp
     rw [<- this] at e1 ⊢;simpa [invoke,go_sem] using e1
    .have t:CallsIn (fe none) 0 P f _ u _:=callsIn_wide.2 t;refine CallsIn.mono t ?_;rintro e W3 ⟨z,rfl,g',_,i3,k3⟩;have aw:g'.E st.h=some (.cG (w.heap.size+1)):=k3.le.cG _ _ (Gh.aX _ _ _);obtain ⟨b,r,q1,q2,q3,q4,q5,q6,q7,q8⟩:=i3.H _ _ h3;have hb:b=w.heap.size+1:=by have:=q1.symm.trans aw;simpa using this
     subst hb;have b5:r.state≠ .busy:=by
      rcases q8 with ⟨_,e,_⟩ | ⟨e,_⟩ | ⟨_,e,_⟩
      .rw [e];simp
      .subst e;cases W
      .rw [e];simp
     obtain ⟨i4,k4⟩:=i3.turn h3 aw q2 av {r with state:= .exhausted} .dead (fun _ B=>B.elim) trivial;have rel:Rel X A' none g' fr (st1.put st.h .dead) {a with defers:=[mark w.heap.size]++a.defers} (W3.putObj (w.heap.size+1) (.loop {r with state:= .exhausted})):=by
      refine ⟨k.mode,k.fr.mono (K.trans k3.le),i4,k.G.mono (K.trans k3.le), ?_⟩;have m1:Marks A' ([mark w.heap.size]++a.defers) u:=by
       obtain ⟨Ds,m1,m2,m3⟩:=k.marks;refine ⟨w.heap.size::Ds,by rw [m1];rfl,abO.2 ⟨fun hm=> ?_,m2⟩,fun D hD=> ?_⟩
       .have:=lt_of_heap (m3 _ hm).2;omega
       .rcases aao.1 hD with rfl | hD
        .exact ⟨fun hh=>by rw [I] at hh;exact hh.2 rfl,bt⟩
        .have b6:=lt_of_heap (m3 D hD).2;refine ⟨fun hh=>(m3 D hD).1 (J D hh), ?_⟩;rw [<- q,World.jG (by omega), <- m,World.jG b6];exact (m3 D hD).2
      exact (m1.BI k3).BI k4
     have nx:Nx A g a w A' g' {a with defers:=[mark w.heap.size]++a.defers} (W3.putObj (w.heap.size+1) (.loop {r with state:= .exhausted})):=by
      refine ⟨J,k0.trans (((k1.trans k3).trans k4).sub J),fun d hd=> ?_⟩;rcases aaC.1 hd with hd | hd
      .exact .inr ⟨w.heap.size,by simpa using hd,k.inv.up _ (aal _)⟩
      .exact .inl hd
     have hq:=hQ _ _ _ _ rel nx;have O:=run_endLoop (P:=P) q2 b5;obtain ⟨W4,b7⟩: ∃W4,W3.putObj (w.heap.size+1) (.loop {r with state:= .exhausted})=W4:=⟨_,rfl⟩;rw [b7] at hq O;refine ⟨r.pending,W4,O, ?_⟩;rcases q8 with ⟨_,_,e,rfl⟩ | ⟨e,_⟩ | ⟨_,_,⟨rfl,e⟩ | ⟨i,rfl,e⟩⟩
     .rw [e];exact hq
     .subst e;cases W
     .rw [e];exact wpIn_ret hq
     .rw [e];exact wpIn_exit hq
   .cases S
  .cases S
 .cases h
theorem gI {X:Cx} {ro:Oq Nat} (u:Good P X) (hm:P.follows .mixedOrders=true) (n:Nat): ∀(c:Code),codeOk c=true->(ro.isSome=true->cS c=true)-> ∀(A:Nat->Prop) (fr:Fr) (st:St) (ex:Ex) (fr':Fr) (st':St) (g:Gh) (a:Act) (w:World) (Q:Exit->Act->World->Prop),
  exec X n c fr st= .ok (ex,fr',st')->Rel X A ro g fr st a w->(∀A' g' a' w',Rel X A' ro g' fr' st' a' w'->Nx A g a w A' g' a' w'->Q ex.to a' w')->c.wpIn (fe ro) 0 P Q a w
 | .skip,_,_,A,fr,st,ex,fr',st',g,a,w,Q,h,f,j=>by
  simp only [exec,aaf,aaj] at h;obtain ⟨rfl,rfl,rfl⟩:=h;exact wpIn_skip (j A g a w f (Nx.refl _ _ _ _))
 | .label _,_,_,A,fr,st,ex,fr',st',g,a,w,Q,h,f,j=>by
  simp only [exec,aaf,aaj] at h;obtain ⟨rfl,rfl,rfl⟩:=h;exact wpIn_label (j A g a w f (Nx.refl _ _ _ _))
 | .exit id,_,_,A,fr,st,ex,fr',st',g,a,w,Q,h,f,j=>by
  simp only [exec,aaf,aaj] at h;obtain ⟨rfl,rfl,rfl⟩:=h;exact wpIn_exit (j A g a w f (Nx.refl _ _ _ _))
 | .ret,_,_,A,fr,st,ex,fr',st',g,a,w,Q,h,f,j=>by
  simp only [exec,aaf,aaj] at h;obtain ⟨rfl,rfl,rfl⟩:=h;exact wpIn_ret (j A g a w f (Nx.refl _ _ _ _))
 | .region id ops draw,m,o,A,fr,st,ex,fr',st',g,a,w,Q,h,f,j=>by
  have z:ro.isSome=true->jF ops.toList=true:=o;have nx: ∀{g':Gh} {a':Act} {w':World},a'.defers=a.defers->Kp A g w g' w'->Nx A g a w A g' a' w':=fun v q=>⟨fun _ K=>K,q,fun d h=> .inl (v ▸ h)⟩;simp only [exec] at h;split at h
  .simp only [ag,aj,aaj] at h;obtain ⟨⟨r,st1⟩,h1,rfl,rfl,rfl⟩:=h;refine EO u hm z (fun v=> ?_) h1 f fun a' g' w' k v q=>j A g' a' w' k (nx v q);simp only [codeOk,v,aa2,abo] at m;exact m
  .rename_i v;simp only [aak] at v;obtain ⟨rfl,_⟩:=v;simp only [ag,aj,aaj] at h;obtain ⟨⟨r,st1⟩,h1,rfl,rfl,rfl⟩:=h;exact Ch u hm z (by simpa [codeOk] using m) h1 ⟨f.mode,f.fr,f.inv.lay,f.G,f.marks⟩ fun a' g' w' k v q=>j A g' a' w' k (nx v q)
 | .seq x y,m,o,A,fr,st,ex,fr',st',g,a,w,Q,h,f,j=>by
  simp only [codeOk,aak] at m;have s:ro.isSome=true->cS x=true/\cS y=true:=fun e=>by have:=o e;simpa [cS] using this
  simp only [exec,ag] at h;obtain ⟨⟨t,r,st1⟩,h1,p⟩:=h;refine wpIn_seq (gI u hm n x m.1 (fun e=>(s e).1) A fr st t r st1 g a w _ h1 f fun A' g' a' w' k q=> ?_);cases t with
  | normal=>exact gI u hm n y m.2 (fun e=>(s e).2) A' r st1 ex fr' st' g' a' w' Q p k fun D E F H B I=>j D E F H B (q.trans I)
  | exit id=>
   simp only [aj,aaj] at p;obtain ⟨rfl,rfl,rfl⟩:=p;exact j A' g' a' w' k q
  | ret=>
   simp only [aj,aaj] at p;obtain ⟨rfl,rfl,rfl⟩:=p;exact j A' g' a' w' k q
 | .cond c x y,m,o,A,fr,st,ex,fr',st',g,a,w,Q,h,f,j=>by
  simp only [codeOk,aak] at m;have s:ro.isSome=true->cS x=true/\cS y=true:=fun e=>by have:=o e;simpa [cS] using this
  simp only [exec,ag] at h;obtain ⟨L,h1,b,p,J⟩:=h;have C:=aM f.G f.fr h1;cases L <;> simp only [VM.asBool,aaf] at p <;> (try (cases p;done))
  subst p;simp only [R] at C;rename_i b;refine wpIn_cond C ?_;cases b with
  | true=>exact gI u hm n x m.1 (fun e=>(s e).1) A fr st ex fr' st' g a w Q J f j
  | false=>exact gI u hm n y m.2 (fun e=>(s e).2) A fr st ex fr' st' g a w Q J f j
 | .block id c,m,o,A,fr,st,ex,fr',st',g,a,w,Q,h,f,j=>by
  simp only [codeOk] at m;simp only [exec,ag] at h;obtain ⟨⟨t,r,st1⟩,h1,p⟩:=h;refine wpIn_block (gI u hm n c m o A fr st t r st1 g a w _ h1 f fun A' g' a' w' k q=> ?_);cases t with
  | normal=>
   simp only [aj,aaj] at p;obtain ⟨rfl,rfl,rfl⟩:=p;exact j A' g' a' w' k q
  | exit i=>
   simp only at p;simp only [Ex.to,Exit.inBlock];split at p
   .rename_i hi;have hi:=aap hi;simp only [aj,aaj] at p;obtain ⟨rfl,rfl,rfl⟩:=p;rw [if_pos hi];exact j A' g' a' w' k q
   .rename_i hi;have hi:i≠id:=fun e=>by subst e;simp at hi
    simp only [aj,aaj] at p;obtain ⟨rfl,rfl,rfl⟩:=p;rw [if_neg hi];exact j A' g' a' w' k q
  | ret=>
   simp only [aj,aaj] at p;obtain ⟨rfl,rfl,rfl⟩:=p;exact j A' g' a' w' k q
 | .loop c,m,o,A,fr,st,ex,fr',st',g,a,w,Q,h,f,j=>by
  simp only [codeOk] at m;simp only [exec] at h;refine wpIn_loop_rounds n (zO (fun A fr st ex fr' st' g a w Q h f j=>gI u hm n c m o A fr st ex fr' st' g a w Q h f j) n h f j)
 | .rangeFunc x ps y c,m,_,A,fr,st,ex,fr',st',g,a,w,Q,h,f,j=>by
  simp only [codeOk,aak] at m;exact DR u m h f j
 | .scope c,m,o,A,fr,st,ex,fr',st',g,a,w,Q,h,f,j=>by
  cases ro with
  | some l=>exact absurd (o rfl) (by simp [cS])
  | none=>
   simp only [codeOk] at m;simp only [exec] at h;refine wpIn_wide.2 (wp_scope_straight (wpIn_wide.1 (gI (ro:=none) u hm n c m (fun e=>by cases e) A fr st ex fr' st' g a w _ h f fun A' g' a' w' k q=> ?_)));cases ex <;> exact j A' g' a' w' k q
 | .goto _,_,_,_,_,_,_,_,_,_,_,_,_,h,_,_=>by simp [exec] at h
 | .refuse _,_,_,_,_,_,_,_,_,_,_,_,_,h,_,_=>by simp [exec] at h
end
section
variable {P:Program} {T:TT} {A:Nat->Prop} {g:Gh} {st:St} {w:World}
theorem Bx: ∀(l:LA) (i:Nat) (t:Tr AV) (k:Nat),(wZ i l t).get k=if i<=k/\k < i+l.length then l[k - i]? else t.get k
 | [],i,t,k=>by
  simp only [wZ,aai,abf];rw [if_neg (by omega)]
 | v::l,i,t,k=>by
  simp only [wZ,Bx l (i+1),Tr.lY,aae];by_cases h:i=k
  .subst h;rw [if_neg (by omega),if_pos rfl,if_pos (by omega)];simp
  .rw [if_neg h];by_cases a:i+1<=k/\k < i+1+l.length
   .rw [if_pos a,if_pos (by omega),show k - i=(k - (i+1))+1 by omega];simp
   .rw [if_neg a,if_neg (by omega)]
theorem Cw {n:Nat} {args:LA} {xs:List Value} (h:RL g args xs) (hn:args.length<=n):zo g (wj n args) (xs.toArray++Array.replicate (n - xs.toArray.size) Go.undef):=by
 have hl:=dQ h;refine ⟨by simp [wj];omega,fun t=> .inr ?_⟩;simp only [wj,Fr.get,Bx,aax,aaO,abM,Nat.sub_zero,Tr.vC];by_cases a:t < args.length
 .rw [if_pos a,aav a];obtain ⟨x,h1,b⟩:=yr h (aav a);have hx:(xs.toArray++Array.replicate (n - xs.toArray.size) Go.undef).getD t Go.undef=x:=by
   rw [Array.getD_eq_getD_getElem?,Array.getElem?_append_left (by simp;omega)];simp [h1]
  rw [hx];exact b
 .rw [if_neg a];have hx:(xs.toArray++Array.replicate (n - xs.toArray.size) Go.undef).getD t Go.undef=Go.undef:=by
   rw [Array.getD_eq_getD_getElem?,Array.getElem?_append_right (by simp;omega)];rw [Array.getElem?_replicate];split <;> rfl
  rw [hx];exact Fp
def KD (tmps:Array Value) (r:ResultVar):Sem Value:=
 match r with
 | .tmp t=>pure (tmps.getD t Go.undef)
 | .cell a t=>do loadVar t (<- asAddr (tmps.getD a Go.undef))
theorem HU (fn:Func) (tmps:Array Value):results fn tmps=(do
  let vs <- fn.results.mapM (KD tmps)
  pure (if h:vs.size=1 then vs[0] else .tuple vs)):=by
 unfold results;congr 2
theorem rH (hT:zm P T) {fr:Fr} {tmps:Array Value} (hf:zo g fr tmps) (hs:fr.strict=false) (h:Inv T A g st w): ∀{rs:List ResultVar} {vs:LA},ju T fr st rs= .ok vs->
  ∃xs,(rs.mapM (KD tmps)).run P w= .ok xs w/\RL g vs xs
 | [],vs,l=>by
  simp only [ju,aaf] at l;subst l;exact ⟨[],rfl,gJ⟩
 | r::rs,vs,l=>by
  simp only [ju,ag,aj] at l;obtain ⟨v,h1,vs',Q,rfl⟩:=l;obtain ⟨xs,k1,k2⟩:=rH hT hf hs h Q;have key: ∃x,(KD tmps r).run P w= .ok x w/\R g v x:=by
   cases r with
   | tmp t=>
    simp only [mg,aaf] at h1;subst h1;exact ⟨_,rfl,hf.at hs t⟩
   | cell a t=>
    simp only [mg,ag] at h1;obtain ⟨i,E,p,c,j⟩:=h1;have hi:=hT t i (cH.1 E);have d:=hf.at hs a;show ∃x,(do loadVar t (<- Go.asAddr (tmps.getD a Go.undef)):Sem Value).run P w= .ok x w/\R g v x;generalize tmps.getD a Go.undef=x at d ⊢;cases G:fr.get a <;> rw [G] at c d <;> simp only [nU] at c <;> (try (cases c;done))
    .rename_i cells;simp only [ag,aj] at c;obtain ⟨u,q,rfl⟩:=c;simp only [aj] at j;subst j;simp only [R] at d;obtain ⟨_,b,o,rfl,S⟩:=d;obtain ⟨ys,I,J⟩:=jC S;obtain ⟨y,s,B⟩:=fq (w:=w) hi q I fun k z C=>h.F _ _ _ (J k z C).1;exact ⟨y,by simp [asAddr,s],B⟩
    .rename_i id off;simp only [aaf] at c;subst c;simp only [jD,ag,aj] at j;obtain ⟨o,q,⟨v',o'⟩,⟨K,⟨cs,f,U⟩,D⟩,L⟩:=j;rw [qZ] at f;obtain ⟨ty,rfl⟩:=f;simp only [aaj] at D;obtain ⟨rfl,rfl⟩:=D;subst L;simp only [R] at d;obtain ⟨b,hE,rfl⟩:=d;obtain ⟨b',ys,rest,V,I,J,W,y4,y5,y6⟩:=h.cells q;have X:b'=b:=by have:=I.symm.trans hE;simpa using this
     subst X;obtain ⟨y,s,B⟩:=fq (w:=w) (b:=b') (o:=off) hi U (jM off W) fun k z C=>my J (by simpa using C);exact ⟨y,by simp [asAddr,s],B⟩
    .rename_i k n off;simp only [aaf] at c;subst c;simp only [jD,ag,aj] at j;obtain ⟨o,q,⟨v',o'⟩,⟨K,f,D⟩,L⟩:=j;simp only [aaj] at D;obtain ⟨rfl,rfl⟩:=D;subst L;simp only [R] at d;obtain ⟨loc,b,cap,hE,hl,rfl⟩:=d;split at f
     .rename_i m e z cs;split at f
      .rename_i hm;have hm:=aap hm;subst hm;obtain ⟨N,Y,O,i2,pre,rest,p1,Z,p3,p4,p5,p6,p7,p8,p9,ar,M,av,aw⟩:=h.H k _ q;have E:=p1.symm.trans hE;simp only [aas,pq.tok.injEq] at E;subst E;have c:=Z.symm.trans hl;simp only [aas,aaj] at c;obtain ⟨rfl,rfl⟩:=c;obtain ⟨y,s,B⟩:=fq (w:=w) (b:=Y) (o:=off) hi f (jM off M) fun k z C=>my p7 (by simpa using C);exact ⟨y,by simp [asAddr,s],B⟩
      .cases f
     .cases f
  obtain ⟨x,x1,x2⟩:=key;refine ⟨x::xs, ?_,cL x2 k2⟩;rw [List.mapM_cons];simp only [Sem.run_bind,x1,Result.andThen_ok,k1,Sem.run_pure]
theorem UI {id b:Nat} {o:Obj} (h:Holds T g w id o) (j:At g id o b): ∃x,w.heap[b]? =some x/\ ∀d,x≠ .deferred d:=by
 have cG: ∀{b':Nat} {x:Go.Obj},g.E id=some (.cG b')->g.E id=some (.cG b)->w.heap[b']? =some x->(∀d,x≠ .deferred d)-> ∃x,w.heap[b]? =some x/\ ∀d,x≠ .deferred d:=fun h1 f k l=>by
  have:=h1.symm.trans f;simp only [aas,pq.cG.injEq] at this;subst this;exact ⟨_,k,l⟩
 have tok: ∀{n:Nat} {loc:Nat->Oq (Nat×Nat)} {b' cap:Nat} {x:Go.Obj},g.E id=some (.tok loc)->loc n=some (b',cap)->(∃loc cap,g.E id=some (.tok loc)/\loc n=some (b,cap))->w.heap[b']? =some x->(∀d,x≠ .deferred d)->
   ∃x,w.heap[b]? =some x/\ ∀d,x≠ .deferred d:=fun h1 f k l q=>by
  obtain ⟨loc',t,k1,k2⟩:=k;have u:=h1.symm.trans k1;simp only [aas,pq.tok.injEq] at u;subst u;have v:=f.symm.trans k2;simp only [aas,aaj] at v;obtain ⟨rfl,rfl⟩:=v;exact ⟨_,l,q⟩
 cases o with
 | cells ty cs=>obtain ⟨b',vs,rest,B,h1,f,k⟩:=h;exact cG h1 j f fun _ e=>by cases e
 | tok n e=>obtain ⟨loc,b',cap,i,vs,fz,h1,f,k,l,q,y,m,A⟩:=h;exact tok h1 f j m fun _ e=>by cases e
 | map es=>obtain ⟨b',ents,clk,h1,f,k⟩:=h;exact cG h1 j f fun _ e=>by cases e
 | sit s pos=>obtain ⟨b',h1,f⟩:=h;exact cG h1 j f fun _ e=>by cases e
 | dead=>exact j.elim
 | grow n e z es=>obtain ⟨loc,b',cap,i,vs,fz,h1,f,k,l,q,y,m,A⟩:=h;exact tok h1 f j m fun _ e=>by cases e
 | Bc=>exact j.elim
 | row n e z cs=>obtain ⟨loc,b',cap,i,pre,rest,h1,f,k,l,q,y,m,A⟩:=h;exact tok h1 f j m fun _ e=>by cases e
 | loop imm ps a c fr s p=>obtain ⟨b',r,h1,f,k⟩:=h;exact cG h1 j f fun _ e=>by cases e
theorem Inv.take (h:Inv T A g st w) {D:Nat} {x:Oq (List Deferred)} (f:w.heap[D]? =some (.deferred x)):Inv T A g st (w.putObj D (.deferred none)):=by
 have a: ∀b,b≠D->(w.putObj D (.deferred none)).heap[b]? =w.heap[b]? :=fun b c=>World.putObj_heap_other c;refine ⟨fun b o v i=> ?_,fun b ents clk hm=> ?_,h.E,fun id o ho=> ?_,h.D,h.own,fun b c=>h.up b (by simpa using c)⟩
 .have h1:=h.F b o v i;obtain ⟨vs,ty,fz,d,_⟩:=qe h1;rw [uN (a b fun e=>by subst e;rw [f] at d;cases d)];exact h1
 .have h1:=h.M b ents clk hm;rw [a b fun e=>by subst e;rw [f] at h1;cases h1];exact h1
 .refine oV (h.H id o ho) fun b c=>a b fun e=> ?_;subst e;obtain ⟨y,h1,d⟩:=UI (h.H id o ho) c;rw [f] at h1;cases h1;exact d _ rfl
theorem DP {T:TT} {A':Nat->Prop} {g':Gh} {st1:St} {fn:Func} {tmps:Array Value} {R:Ending->World->Prop} {w:World} {g:Gh}
  (f: ∀w',Inv T A' g' st1 w'->Kp A g w g' w'->LeavesIn Fence.wide 0 P fn tmps R [] .returning w'): ∀(c:Ln) (w':World),c.Nodup->(∀D∈c,A D/\w'.heap[D]? =some (.deferred (some [])))->Inv T A' g' st1 w'->Kp A g w g' w'->
   LeavesInM Fence.wide 0 P fn tmps R (c.map mark) .returning w'
 | [],w',_,_,hi,d=>f w' hi d
 | D::c,w',hn,hm,hi,d=>by
  obtain ⟨hA,h⟩:=hm D (by simp);rw [abO] at hn;refine ⟨by simp,.inl ⟨D,_,rfl,run_takeDeferred h,DP f c _ hn.2 (fun i a=>⟨(hm i (by simp [a])).1, ?_⟩) (hi.take h) (d.trans (Kp.write hA World.putObj_size fun b j=>World.putObj_heap_other j))⟩⟩;rw [World.putObj_heap_other (fun e=>by subst e;exact hn.1 a)];exact (hm i (by simp [a])).2
theorem u3 {X:Cx} (y:Good P X) (hm:P.follows .mixedOrders=true) {n:Nat} {f:FuncId} {fn:Func} {args:LA} {v:AV} {st':St} {xs:List Value} (p:P.funcs[f]? =some fn)
  (I: ∀c,fn.body=some c->codeOk c=true) (h:body X n fn args st= .ok (v,st')) (J:RL g args xs) (K:GR g X.G) (hi:Inv X.T A g st w):
  Calls P f xs.toArray w fun e w'=> ∃x,e= .returned x/\mP X.T A g st' w v x w':=by
 unfold body at h;split at h
 .cases h
 .rename_i c d;split at h
  .cases h
  .rename_i j;have j:=aah j;simp only [ag] at h;obtain ⟨⟨ex,fr',st1⟩,h1,q⟩:=h;refine (callsIn_wide (n:=0)).1 (callsIn_of_wp_marks p d trivial ?_);refine gI (ro:=none) y hm n c (I c d) (fun e=>by cases e) A _ _ _ _ _ g _ w _ h1 ⟨rfl,Cw J j,hi,K,⟨[],rfl,List.nodup_nil,fun _ h=>by cases h⟩⟩ fun A' g' a' z i r=> ?_;have fin:(do pure (oneOf (<- ju X.T fr' st1 fn.results.toList),st1):df (AV×St))= .ok (v,st')->LeavesInM Fence.wide 0 P fn a'.tmps (fun e w'=> ∃x,e= .returned x/\mP X.T A g st' w v x w') a'.defers .returning z:=fun he=>by
    simp only [ag,aj,aaj] at he;obtain ⟨vs,L,rfl,rfl⟩:=he;obtain ⟨N,B,O,Q⟩:=i.marks;rw [B];refine DP (T:=X.T) (A':=A') (g':=g') (st1:=st1) (A:=A) (g:=g) (w:=w) (fun w' a m=> ?_) N z O (fun D C=>⟨?_,(Q D C).2⟩) i.inv r.kp
    rotate_left
    .rcases r.defs (mark D) (by rw [B];exact List.mem_map_of_mem C) with S | ⟨U,e,s⟩
     .cases S
     .have:D=U:=by
       simp only [mark,Deferred.mk.injEq,Target.collected.injEq,abZ] at e;exact e
      rw [this];exact s
    obtain ⟨ys,V,k⟩:=rH y.T i.fr (by rw [i.mode];rfl) a L;have t:(fn.results.mapM (KD a'.tmps)).run P w'= .ok ys.toArray w':=by
     rw [Array.mapM_eq_mapM_toList];simp only [Sem.run_map,V,Result.andThen_ok]
    have u:Inv X.T A g' st1 w':=⟨a.F,a.M,a.E,a.H,a.D,fun id o b W Y Z=>r.sub b (a.own id o b W Y Z),fun b hb=>hi.up b (aaR m.size hb)⟩;refine ⟨if h:ys.toArray.size=1 then ys.toArray[0] else .tuple ys.toArray, ?_,_,rfl,g', ?_,u,m⟩
    .rw [HU];simp only [Sem.run_bind,t,Result.andThen_ok,Sem.run_pure]
    .cases vs with
     | nil=>
      simp only [RL] at k;subst k;simp only [oneOf,R];exact ⟨_,rfl,gJ⟩
     | cons v1 vs=>
      cases vs with
      | nil=>
       simp only [RL] at k;obtain ⟨x,l,rfl,r1,rfl⟩:=k;exact r1
      | cons v2 vs=>
       have hl:=dQ k;rw [dif_neg (by simp at hl ⊢;omega)];simp only [oneOf,R];exact ⟨_,rfl,k⟩
   cases ex with
   | normal=>exact fin q
   | ret=>exact fin q
   | exit id=>cases q
end
end Go.VM
namespace Go.VM
open Classical in
noncomputable def Gh.Ce (g:Gh) (s:St) (w:World) (base:Nat) (E0:Nat->Oq pq):Gh where
 F b o:=if ∃id ty cs,base<=id/\s.get id= .ok (.cells ty cs)/\g.E id=some (.cG b) then w.cell? ⟨b,o,none⟩ else g.F b o
 M b:=if ∃id es,base<=id/\s.get id= .ok (.map es)/\g.E id=some (.cG b) then (match w.heap[b]? with | some (.map ents clk)=>some (ents.toList,clk) | _=>none) else g.M b
 E:=E0
section
variable {P:Program} {T:TT} {A:Nat->Prop} {g:Gh} {s:St} {w:World} {base:Nat}
theorem SR (h:Inv T A g s w) (E0:Nat->Oq pq):VD g (g.Ce s w base E0):=by
 refine ⟨fun b o v a=> ?_,fun b e he=> ?_⟩
 .simp only [Gh.Ce];split
  .exact h.F b o v a
  .exact a
 .simp only [Gh.Ce];split
  .rename_i c;obtain ⟨id,es,_,d,f⟩:=c;obtain ⟨b',ents,clk,i,k,l,j⟩:=h.H id _ d;have:b'=b:=by have:=i.symm.trans f;simpa using this
   subst this;rw [j] at he;cases he
  .exact he
theorem Ei (h:Inv T A g s w):Le g (g.Ce s w base g.E):=⟨(SR h g.E).F,(SR h g.E).M,fun _ _ x=>x,fun _ loc x=>⟨loc,x,fun _ _ y=>y⟩⟩
theorem CJ (_h:Inv T A g s w) {id b:Nat} {ty:Td} {cs:LA} (E0:Nat->Oq pq) (a:base<=id) (c:s.get id= .ok (.cells ty cs)) (hE:g.E id=some (.cG b)) (o:Nat):(g.Ce s w base E0).F b o=w.cell? ⟨b,o,none⟩:=by
 simp only [Gh.Ce];rw [if_pos ⟨id,ty,cs,a,c,hE⟩]
theorem nD (h:Inv T A g s w): ∀(f:Nat) (v v':AV) (x:Value),freeze s base f v= .ok v'->R g v x->R (g.Ce s w base g.E) v' x
 | 0,v,v',x,hf,_=>by simp [freeze] at hf
 | f+1,v,v',x,hf,t=>by
  have all: ∀(l M:LA) (xs:List Value),lB (freeze s base f) l= .ok M->RL g l xs->RL (g.Ce s w base g.E) M xs:=by
   intro l
   induction l with
   | nil=>
    intro M xs h1 D;simp only [lB,aaf] at h1;subst h1;simp only [RL] at D ⊢;exact D
   | cons v l ih=>
    intro M xs h1 D;simp only [lB,ag,aj] at h1;obtain ⟨u,B,l1,d,rfl⟩:=h1;simp only [RL] at D;obtain ⟨y,ys,rfl,O,r2⟩:=D;exact cL (nD h f v u y B O) (ih l1 ys d r2)
  have same:v'=v->R (g.Ce s w base g.E) v' x:=fun e=>by subst e;exact oX (Ei h) _ _ t
  unfold freeze at hf;split at hf
  ·-- a pointer
   rename_i id off;split at hf
   .simp only [aaf] at hf;exact same hf.symm
   .rename_i C;rw [da] at C;simp only [ag] at hf;obtain ⟨o,B,d⟩:=hf;split at d
    .rename_i ty cs;simp only [ag,aj] at d;obtain ⟨N,F,c2,G,rfl⟩:=d;simp only [R] at t;obtain ⟨b,hE,rfl⟩:=t;obtain ⟨b',vs,rest,av,k1,k2,k3,k4,k5,k6⟩:=h.cells B;have W:b'=b:=by have:=k1.symm.trans hE;simpa using this
     subst W;have O:=all _ _ _ F (jM off k3);obtain ⟨r2,r3⟩:=EJ O G;simp only [R];refine ⟨r3,b',off,rfl,dN r2 fun i y hy=>⟨?_,k4 y (List.mem_of_mem_drop (aaK hy))⟩⟩;rw [CJ h g.E C B k1];exact my k2 (by simpa using hy)
    .cases d
  .rename_i id;split at hf
   .simp only [aaf] at hf;exact same hf.symm
   .rename_i C;rw [da] at C;simp only [ag] at hf;obtain ⟨o,B,d⟩:=hf;split at d
    .rename_i es;simp only [ag] at d;obtain ⟨b5,F,G⟩:=d;split at G
     .simp only [aj] at G;subst G;simp only [R] at t;obtain ⟨b,hE,rfl⟩:=t;obtain ⟨b',ents,clk,V,X,q3,q4⟩:=h.H id _ B;have W:b'=b:=by have:=V.symm.trans hE;simpa using this
      subst W;have I: ∀(l M:List (AV×AV)) (m:List MapEntry),sR (freeze s base f) l= .ok M->tI g l m->tI (g.Ce s w base g.E) M m:=by
       intro l
       induction l with
       | nil=>
        intro M xs h1 D;simp only [sR,aaf] at h1;subst h1;simp only [tI] at D ⊢;exact D
       | cons p l ih=>
        intro M xs h1 D;obtain ⟨k,v⟩:=p;simp only [sR,ag,aj] at h1;obtain ⟨u,B,l1,d,rfl⟩:=h1;simp only [tI] at D ⊢;obtain ⟨e,ys,rfl,O,r2,r3⟩:=D;exact ⟨e,ys,rfl,oX (Ei h) _ _ O,zF (nD h f v u _ B r2),ih l1 ys d r3⟩
      simp only [R];refine ⟨b',ents.toList,clk, ?_,rfl,I _ _ _ F q3⟩;simp only [Gh.Ce];rw [if_pos ⟨id,es,C,B,V⟩,X]
     .cases G
    .cases d
  .rename_i z e k;split at hf
   .simp only [aaf] at hf;exact same hf.symm
   .simp only [aaf] at hf;subst hf;exact zF (v:= .sl z e (.own k)) (oX (Ei h) _ _ t)
  .simp only [ag,aj] at hf;obtain ⟨N,F,rfl⟩:=hf;simp only [R] at t ⊢;obtain ⟨ys,rfl,r⟩:=t;exact ⟨ys,rfl,all _ _ _ F r⟩
  .simp only [ag,aj] at hf;obtain ⟨N,F,rfl⟩:=hf;simp only [R] at t ⊢;obtain ⟨ys,rfl,r⟩:=t;exact ⟨ys,rfl,all _ _ _ F r⟩
  .simp only [ag,aj] at hf;obtain ⟨N,F,rfl⟩:=hf;simp only [R] at t ⊢;obtain ⟨y,rfl,r⟩:=t;exact ⟨y,rfl,nD h f _ N y F r⟩
  .simp only [ag,aj] at hf;obtain ⟨N,F,c2,G,rfl⟩:=hf;simp only [R] at t ⊢;obtain ⟨y,y',rfl,r,r'⟩:=t;exact ⟨y,y',rfl,all _ _ _ F r,all _ _ _ G r'⟩
  ·-- an array
   rename_i id off z len cap;split at hf
   .simp only [aaf] at hf;exact same hf.symm
   .rename_i C;rw [da] at C;simp only [ag] at hf;obtain ⟨o,B,d⟩:=hf;split at d
    .rename_i ty cs;simp only [ag] at d;obtain ⟨N,F,G⟩:=d;split at G
     .rename_i P;simp only [ag] at G;obtain ⟨els,e5,J,e6,K⟩:=G;have key: ∃p,v'= .sl z J p/\(len≠0\/cap≠0)/\(p= .shut->cap=len/\cap≠0)/\(p= .shut\/p= .wide):=by
       split at K
       .split at K
        .cases K
        .rename_i hl;simp only [aj] at K;exact ⟨.wide,K.symm,.inl (fun e=>by subst e;simp at hl),(fun e=>by cases e),.inr rfl⟩
       .rename_i L;simp only [aj] at K;have h0:cap≠0:=fun e=>by subst e;simp at L
        cases Q:cap.beq len with
        | true=>rw [Q] at K;exact ⟨.shut,K.symm,.inr h0,fun _=>⟨aap Q,h0⟩,.inl rfl⟩
        | false=>rw [Q] at K;exact ⟨.wide,K.symm,.inr h0,(fun e=>by cases e),.inr rfl⟩
      clear K;obtain ⟨p,rfl,aw,S,a1⟩:=key
      .simp only [R] at t;obtain ⟨b,o',hE,c,rfl,hc,U,ho,Y⟩:=t;have a6:c≠0:=by
        rcases aw with q | q
        .omega
        .rcases Y with rfl | e
         .exact q
         .exact absurd e q
       have a7:o'=off:=ho a6;subst a7;obtain ⟨b',vs,rest,av,k1,k2,k3,k4,k5,k6⟩:=h.cells B;have W:b'=b:=by have:=k1.symm.trans hE;simpa using this
       subst W;have O:=all _ _ _ F (oM (len * z) (jM o' k3));obtain ⟨f1,f2,f3⟩:=uF (fun e=>by
        have:¬ 2<=z:=fun k=>by rw [aaL k] at e;cases e
        omega) P e5
       have r2:RL (g.Ce s w base g.E) (flat els) (((vs.toList.drop o').take (len * z)).take (len * z)):=by rw [f1];exact oM _ O
       obtain ⟨V,X,q3,q4⟩:=pC e6 r2;simp only [R];have hl:J.length=len:=by rw [q3,f3]
       refine ⟨X,b',o',c,by rw [hl],by rw [hl];exact hc,U, ?_, ?_⟩
       .rw [en];refine ⟨fun u hu=>by
         have:u.cells.length∈J.map (·.cells.length):=aa8.2 ⟨u,hu,rfl⟩;rw [q4] at this;obtain ⟨u',a8,e⟩:=aa8.1 this;rw [<- e];exact f2 u' a8,dN V fun i y hy=> ?_⟩
        have Z:vs[o'+i]? =some y/\y∈vs.toList:=by
         have h1:y∈vs.toList:=List.mem_of_mem_drop (List.mem_of_mem_take (List.mem_of_mem_take (aaK hy)));refine ⟨?_,h1⟩;rw [List.take_take,Nat.min_self,List.getElem?_take] at hy;by_cases hi:i < len * z
         .rw [if_pos hi] at hy;simpa using hy
         .rw [if_neg hi] at hy;cases hy
        refine ⟨?_,k4 y Z.2⟩;rw [CJ h g.E C B k1];exact my k2 Z.1
       .rcases a1 with rfl | rfl
        .obtain ⟨h1,D⟩:=S rfl;simp only [wI];rw [hl];rcases Y with e | e
         .omega
         .exact absurd e D
        .simp only [wI]
     .cases G
    .cases d
  ·-- a slice that an object holds
   rename_i k z n;split at hf
   .simp only [aaf] at hf;exact same hf.symm
   .simp only [ag] at hf;obtain ⟨o,B,d⟩:=hf;split at d
    .rename_i m e z' es;split at d
     .rename_i j;simp only [aak] at j;have N:=aap j.1.1;have c2:=aap j.1.2;have c3:=aap j.2;subst N c2 c3;cases d;simp only [R] at t;obtain ⟨loc,b,cap,hE,hl,rfl,L,U⟩:=t;obtain ⟨b4,b2,ar,i2,vs,fz,V,X,q3,q4,q5,q6,q7,q8,q9,b6,b7,b8,bb,bt⟩:=h.H k _ B;have B:=V.symm.trans hE;simp only [aas,pq.tok.injEq] at B;subst B;have d:=X.symm.trans hl;simp only [aas,aaj] at d;obtain ⟨rfl,rfl⟩:=d;simp only [R];exact ⟨bb,b2,0,ar,rfl,L,U,gV (Ei h) _ _ _ _ bt,trivial⟩
     .cases d
    .cases d
  .simp only [aaf] at hf;exact same hf.symm
theorem Bl {A':Nat->Prop} {gb g':Gh} {st:St} {w':World} {v v':AV} {x:Value} (f:Inv T A g st w) (t:gb.F=g.F) (z:gb.M=g.M) (hA: ∀b,A' b↔w.heap.size<=b)
  (hi:Inv T A' g' s w') (l:Kp A' gb w g' w') (B:s.ro<=base) (C:R g' v x) (hf:freeze s base 100 v= .ok v') (a:bare v'=true):mP T A g st w v' x w':=by
 have hold: ∀b,b < w.heap.size->¬ A' b:=fun b a G=>by have:=(hA b).1 G;omega
 have h: ∀b,b < w.heap.size-> ∀o,(g'.Ce s w' base g.E).F b o=g.F b o:=fun b a o=>by
  simp only [Gh.Ce];rw [if_neg ?_]
  .rw [l.F b (hold b a) o,t]
  .rintro ⟨id,ty,cs,h1,p,r⟩;exact hold b a (hi.own id _ b p r (by omega))
 have i: ∀b,b < w.heap.size->(g'.Ce s w' base g.E).M b=g.M b:=fun b a=>by
  simp only [Gh.Ce];rw [if_neg ?_]
  .rw [l.M b (hold b a),z]
  .rintro ⟨id,es,h1,p,r⟩;exact hold b a (hi.own id _ b p r (by omega))
 have d: ∀b,b < w.heap.size->w'.heap[b]? =w.heap[b]? :=fun b a=>l.heap b (hold b a);have m:Le g (g'.Ce s w' base g.E):=by
  refine ⟨fun b o u j=> ?_,fun b e he=> ?_,fun _ _ x=>x,fun _ loc x=>⟨loc,x,fun _ _ y=>y⟩⟩
  .obtain ⟨vs,ty,fz,q,_⟩:=qe (f.F b o u j);rw [h b (lt_of_heap q) o];exact j
  .have:=f.M b e.1 e.2 he;rw [i b (lt_of_heap this)];exact he
 refine ⟨g'.Ce s w' base g.E,uV (g:=g'.Ce s w' base g'.E) (g':=g'.Ce s w' base g.E) ⟨fun _ _ _ x=>x,fun _ _ x=>x⟩ v' x a (nD hi 100 v v' x hf C),⟨?_, ?_,f.E, ?_,f.D,f.own,fun b a=>f.up b (aaR l.size a)⟩,⟨l.size, ?_, ?_, ?_,m,l.rest⟩⟩
 .intro b o u j;simp only [Gh.Ce] at j;split at j
  .exact j
  .exact hi.F b o u j
 .intro b ents clk hm;simp only [Gh.Ce] at hm;split at hm
  .split at hm
   .rename_i e c I;simp only [aas,aaj] at hm;obtain ⟨rfl,rfl⟩:=hm;simpa using I
   .cases hm
  .exact hi.M b ents clk hm
 .intro id o ho;have:=f.H id o ho;refine lG (oV this fun b a=>d b (G2 this a)) m rfl fun b a=> ?_;have n:=G2 this a;exact ⟨fun o=>h b n o,i b n⟩
 .intro b a;exact d b (Nat.lt_of_not_le fun k=>a (f.up b k))
 .intro b a o;exact h b (Nat.lt_of_not_le fun k=>a (f.up b k)) o
 .intro b a;exact i b (Nat.lt_of_not_le fun k=>a (f.up b k))
end
end Go.VM
namespace Go.VM
structure Gs (C:dt):Prop where
 wide: ∀f args st v s,C.wide f args st= .ok (v,s)->s.ro=st.ro
 round: ∀k args st v s,C.round k args st= .ok (v,s)->s.ro=st.ro
theorem B8 {C:dt} (c:Gs C) {st:St} {p:dY} {v:AV} {x:Fx} (h:aE C st p= .ok (v,x)):(x.did.app st).ro=st.ro:=by
 cases p with
 | val u=>
  simp only [aE,aaf,aaj] at h;obtain ⟨_,rfl⟩:=h;rfl
 | obj id f=>
  simp only [aE,ag,aj] at h;obtain ⟨g,a,⟨v',o'⟩,i,d,b,e⟩:=h;simp only [aaj] at e;obtain ⟨_,rfl⟩:=e;cases o' with
  | none=>simp only [fh,aaf] at b;subst b;rfl
  | some o'=>
   simp only [fh] at b;split at b
   .cases b
   .simp only [aaf] at b;subst b;rfl
 | both id k f=>
  simp only [aE,ag] at h;obtain ⟨g,_,r,_,a⟩:=h;cases r with
  | none=>
   simp only [ag,aj,aaj] at a;obtain ⟨_,_,_,rfl⟩:=a;rfl
  | some j=>
   dsimp only at a;split at a
   .simp only [ag,aj,aaj] at a;obtain ⟨_,_,_,_,_,rfl⟩:=a;rfl
   .cases a
 | new o f=>
  simp only [aE,aaf,aaj] at h;obtain ⟨_,rfl⟩:=h;rfl
 | call f args=>
  simp only [aE] at h;split at h
  .simp only [ag,aj] at h;obtain ⟨_,_,h⟩:=h;simp only [aaj] at h;obtain ⟨_,rfl⟩:=h;rfl
  .split at h
   .simp only [ag,aj] at h;obtain ⟨_,_,h⟩:=h;simp only [aaj] at h;obtain ⟨_,rfl⟩:=h;rfl
   .simp only [ag,aj] at h;obtain ⟨⟨v',s⟩,h1,h⟩:=h;simp only [aaj] at h;obtain ⟨_,rfl⟩:=h;exact c.wide _ _ _ _ _ h1
 | yield k args=>
  simp only [aE,ag,aj] at h;obtain ⟨⟨v',s⟩,h1,h⟩:=h;simp only [aaj] at h;obtain ⟨_,rfl⟩:=h;exact c.round _ _ _ _ _ h1
theorem uS {X:Cx} (b:Gs X.C) {all:List Oper} {draw:Bool}: ∀{l:List Oper} {j:Nat} {seen:List (Nat×Fx)} {fr fr':Fr} {st st':St},eD X all draw j seen l fr st= .ok (fr',st')->st'.ro=st.ro
 | [],_,_,_,_,_,_,h=>by
  simp only [eD,aaf,aaj] at h;rw [h.2]
 | o::l,j,seen,fr,fr',st,st',h=>by
  simp only [eD,ag] at h;obtain ⟨⟨v,x⟩,h1,a⟩:=h;have hx:(x.did.app st).ro=st.ro:=by
   unfold oper at h1;split at h1
   .simp only [ag] at h1;obtain ⟨p,_,h1⟩:=h1;exact B8 b h1
   .simp only [aaf,aaj] at h1;obtain ⟨_,rfl⟩:=h1;rfl
  split at a
  .exact (uS b a).trans hx
  .split at a
   .exact (uS b a).trans hx
   .cases a
theorem Nb: ∀{l:Ln} {st:St},(st.lay l).ro=st.ro
 | [],_=>rfl
 | _::l,st=>Nb (l:=l) (st:=(st.new .Bc).2)
theorem sD {X:Cx} (b:Gs X.C) {e:Nat->Oq Nat} {all:List Oper}: ∀{l:List Oper} {j:Nat} {seen:List (Nat×Fx)} {fr fr':Fr} {st st':St},dz X e all j seen l fr st= .ok (fr',st')->st'.ro=st.ro
 | [],_,_,_,_,_,_,h=>by
  simp only [dz,aaf,aaj] at h;rw [h.2]
 | o::l,j,seen,fr,fr',st,st',h=>by
  simp only [dz,ag] at h;obtain ⟨⟨v,x⟩,h1,a⟩:=h;have hx:(x.did.app st).ro=st.ro:=by
   unfold gC at h1;split at h1
   .split at h1
    .obtain ⟨_,_,_,_,_,rfl⟩:=sH h1;rfl
    .simp only [ag] at h1;obtain ⟨p,_,h1⟩:=h1;exact B8 b h1
   .simp only [aaf,aaj] at h1;obtain ⟨_,rfl⟩:=h1;rfl
  split at a
  .exact (sD b a).trans hx
  .split at a
   .exact (sD b a).trans hx
   .cases a
theorem J5 {body:Fr->St->df (Ex×Fr×St)} (c: ∀fr st ex fr' st',body fr st= .ok (ex,fr',st')->st'.ro=st.ro): ∀(n:Nat) {fr fr':Fr} {st st':St} {ex:Ex},iter body n fr st= .ok (ex,fr',st')->st'.ro=st.ro
 | 0,_,_,_,_,_,h=>by simp [iter] at h
 | n+1,fr,fr',st,st',ex,h=>by
  simp only [iter,ag] at h;obtain ⟨⟨b,d,st1⟩,h1,a⟩:=h;have:=c _ _ _ _ _ h1;cases b <;> simp only [aj,aaj] at a
  .exact (J5 c n a).trans this
  .rw [<- a.2.2];exact this
  .rw [<- a.2.2];exact this
theorem jN {X:Cx} (d:Gs X.C) (n:Nat): ∀(c:Code) (fr:Fr) (st:St) (ex:Ex) (fr':Fr) (st':St),exec X n c fr st= .ok (ex,fr',st')->st'.ro=st.ro
 | .skip,_,_,_,_,_,h | .label _,_,_,_,_,_,h | .exit _,_,_,_,_,_,h | .ret,_,_,_,_,_,h=>by
  simp only [exec,aaf,aaj] at h;rw [h.2.2]
 | .region _ _ _,_,_,_,_,_,h=>by
  simp only [exec] at h;split at h
  .simp only [ag,aj,aaj] at h;obtain ⟨⟨f,st1⟩,h1,rfl,rfl,rfl⟩:=h;exact uS d h1
  .simp only [ag,aj,aaj] at h;obtain ⟨⟨f,st1⟩,h1,rfl,rfl,rfl⟩:=h;exact (sD d h1).trans Nb
 | .seq x y,_,_,_,_,_,h=>by
  simp only [exec,ag] at h;obtain ⟨⟨g,f,st1⟩,h1,a⟩:=h;have:=jN d n x _ _ _ _ _ h1;cases g <;> simp only [aj,aaj] at a
  .exact (jN d n y _ _ _ _ _ a).trans this
  .rw [<- a.2.2];exact this
  .rw [<- a.2.2];exact this
 | .cond c x y,_,_,_,_,_,h=>by
  simp only [exec,ag] at h;obtain ⟨k,h1,b,a,j⟩:=h;cases b
  .exact jN d n y _ _ _ _ _ j
  .exact jN d n x _ _ _ _ _ j
 | .block id c,_,_,_,_,_,h=>by
  simp only [exec,ag] at h;obtain ⟨⟨g,f,st1⟩,h1,a⟩:=h;have:=jN d n c _ _ _ _ _ h1;cases g
  .simp only [aj,aaj] at a;rw [<- a.2.2];exact this
  .simp only at a;split at a <;> simp only [aj,aaj] at a <;> rw [<- a.2.2] <;> exact this
  .simp only [aj,aaj] at a;rw [<- a.2.2];exact this
 | .loop c,_,_,_,_,_,h=>by
  simp only [exec] at h;exact J5 (fun fr st ex fr' st' h=>jN d n c fr st ex fr' st' h) n h
 | .rangeFunc x ps y c,_,_,_,_,_,h=>by
  simp only [exec] at h;split at h
  .cases h
  .simp only [ag] at h;obtain ⟨l,h1,h⟩:=h;split at h
   .simp only [ag] at h;obtain ⟨⟨v,st1⟩,a,o,j,i⟩:=h;dsimp only at j i;split at i
    .split at i
     .simp only [aj,aaj] at i;rw [<- i.2.2];have e:=d.wide _ _ _ _ _ a;exact e
     .cases i
    .cases i
   .cases h
 | .scope c,_,_,_,_,_,h=>by
  simp only [exec] at h;exact jN d n c _ _ _ _ _ h
 | .goto _,_,_,_,_,_,h=>by simp [exec] at h
 | .refuse _,_,_,_,_,_,h=>by simp [exec] at h
theorem EC {X:Cx} (b:Gs X.C) {n:Nat} {fn:Func} {args:LA} {st st':St} {v:AV} (h:body X n fn args st= .ok (v,st')):st'.ro=st.ro:=by
 unfold body at h;split at h
 .cases h
 .split at h
  .cases h
  .simp only [ag] at h;obtain ⟨⟨ex,fr',st1⟩,h1,a⟩:=h;have:=jN b n _ _ _ _ _ _ h1;cases ex
   .simp only [ag,aj,aaj] at a;obtain ⟨_,_,_,rfl⟩:=a;exact this
   .cases a
   .simp only [ag,aj,aaj] at a;obtain ⟨_,_,_,rfl⟩:=a;exact this
theorem M4 {X:Cx} (d:Gs X.C) {n k:Nat} {x c:Code} {fr:Fr} {st st':St} {v:AV} (h:rS X n k x c fr st= .ok (v,st')):st'.ro=st.ro:=by
 simp only [rS,ag] at h;obtain ⟨⟨b,e,st1⟩,h1,h⟩:=h;have f:=jN d n _ _ _ _ _ _ h1;cases b with
 | normal=>
  simp only [ag] at h;obtain ⟨g,i,⟨ex,j,l⟩,m,a⟩:=h;obtain ⟨_,_,_,_,_,_,_,rfl⟩:=qn i;have o:=jN d n _ _ _ _ _ _ m;cases ex <;> simp only [ag,aj,aaj] at a <;> obtain ⟨p,a,_,rfl⟩:=a <;> obtain ⟨_,_,_,_,_,_,_,rfl⟩:=qn a <;> exact o.trans f
 | exit id=>cases h
 | ret=>cases h
theorem uq {g:Gh}: ∀{ps:Ln} {args:LA} {xs:List Value} {fr:Fr} {tmps:Array Value},zo g fr tmps->RL g args xs->ps.length=args.length->
  zo g (qI ps args fr) ((ps.zip xs).foldl (fun t (p,v)=>t.setIfInBounds p v) tmps)/\(qI ps args fr).strict=fr.strict
 | [],_,_,fr,tmps,h,_,_=>by simp only [qI,List.zip_nil_left,List.foldl_nil];exact ⟨h,trivial⟩
 | p::ps,[],_,_,_,_,_,hl=>by cases hl
 | p::ps,v::vs,xs,fr,tmps,h,a,hl=>by
  simp only [RL] at a;obtain ⟨y,ys,rfl,b,r2⟩:=a;have h1:=h.put b (some p);obtain ⟨k1,k2⟩:=uq h1 r2 (by simpa using hl);simp only [qI,List.zip_cons_cons,ab5];exact ⟨k1,k2.trans (jg _ _ _)⟩
theorem E9 {P:Program} {X:Cx} (hX:Good P X) (hC:Gs X.C) (hm:P.follows .mixedOrders=true) {n k:Nat} {imm:Td->Bool} {ps:List Tmp} {x c:Code} {fr:Fr} {p:Ex} {args:LA} {st st':St} {v:AV} (h:rS X n k x c (qI ps args fr) st= .ok (v,st'))
  (Q:cS x=true/\cS c=true) (hlen:args.length=ps.length) (hk:st.get k= .ok (.loop imm ps x c fr 0 p)) (S:st.ro<=k) {A:Nat->Prop} {g:Gh} {w:World} {xs:List Value} {l:Nat} (hG:GR g X.G) (j:RL g args xs) (hi:Inv X.T A g st w) (hE:g.E k=some (.cG l)):
  EN P l xs.toArray w (mP X.T A g st' w v):=by
 obtain ⟨b,r,q1,q2,q3,q4,q5,q6,⟨q7,q8,q9⟩,b4⟩:=hi.H k _ hk;have I:b=l:=by have:=q1.symm.trans hE;simpa using this
 subst I;have b5:=dQ j;have b6:r.params.size=ps.length:=by rw [<- q4];simp
 refine ⟨r.fn,_,r.assign,r.body,run_yield q2 (by simp;omega),roundIn_of_wpIn trivial ?_⟩;rw [q5,q6];have J:(r.params.zip xs.toArray).foldl (fun tmps (t,a)=>tmps.setIfInBounds t a) r.tmps=(ps.zip xs).foldl (fun t (p,v)=>t.setIfInBounds p v) r.tmps:=by
  rw [<- Array.foldl_toList,Array.toList_zip,q4]
 rw [J];obtain ⟨f1,f2⟩:=uq q3 j hlen.symm;simp only [rS,ag] at h;obtain ⟨⟨av,b7,st1⟩,h1,h⟩:=h;have e1:=jN hC n _ _ _ _ _ _ h1;cases av with
 | exit id=>cases h
 | ret=>cases h
 | normal=>
 simp only [ag] at h;obtain ⟨b8,h2,⟨ex,b9,aw⟩,h3,f⟩:=h;obtain ⟨U,a6,x1,c1,V,p1,K,rfl⟩:=qn h2;have e3:=jN hC n _ _ _ _ _ _ h3;refine gI (ro:=some b) hX hm n x q7 (fun _=>Q.1) A _ _ _ _ _ g _ w _ h1 ⟨by rw [f2,q9];rfl,f1,hi,hG,⟨[],rfl,List.nodup_nil,fun _ h=>by cases h⟩⟩ fun A1 g1 a1 w1 L n1=> ?_;have m:g1.E k=some (.cG b):=n1.kp.le.cG _ _ hE;obtain ⟨u,rr,s1,s2,s3,s4,s5,s6,s7,s8⟩:=L.inv.H k _ K;have I:u=b:=by have:=s1.symm.trans m;simpa using this
 subst I;have hA1:A1 u:=L.inv.own k _ u K s1 (by rw [e1];exact S);have z:rr.state= .ready:=by
  rcases s8 with ⟨_,e,_⟩ | ⟨e,_⟩ | ⟨e,_⟩
  .exact e
  .cases e
  .cases e
 have a7:u < w1.heap.size:=lt_of_heap s2;obtain ⟨i2,k2⟩:=L.inv.turn K m s2 hA1 {rr with state:= .busy} (.loop U a6 x1 c1 V 1 .normal) (fun b' d=>by
  have d:g1.E k=some (.cG b'):=d;rw [m] at d;simpa using d.symm) ⟨u,_,m,World.putObj_heap_same a7,s3,s4,s5,s6,s7,.inr (.inl ⟨rfl,rfl⟩)⟩
 refine ⟨_,run_beginRound s2 z, ?_⟩;refine gI (ro:=some u) hX hm n c q8 (fun _=>Q.2) A1 _ _ _ _ _ g1 _ _ _ h3 ⟨L.mode,L.fr,i2,L.G,L.marks.BI k2⟩ fun A2 g2 a3 w3 r3 n3=> ?_;have W:Nx A g {tmps:=(ps.zip xs).foldl (fun t (p,v)=>t.setIfInBounds p v) r.tmps,defers:=[]} w A2 g2 a3 w3:=n1.trans (Nx.trans ⟨fun _ h=>h,k2,fun _ h=> .inl h⟩ n3);have B:g2.E k=some (.cG u):=W.kp.le.cG _ _ hE;have fin: ∀(s:Nat) (e:Ex) (jump:Oq Code),tc k 1 s e aw= .ok st'->(∀q:Loop,PM s e {q with state:=if jump.isNone then .ready else .done,pending:=jump})->v= .bool jump.isNone->
   ∃y w',(Instr.endRound u jump).run P w3= .ok y w'/\ ∃x,Ending.returned y= .returned x/\mP X.T A g st' w v x w':=fun s e jump Y a8 hv=>by
  obtain ⟨Z,bb,x3,c3,bt,p3,N,rfl⟩:=qn Y;obtain ⟨b3,r4,t1,t2,t3,t4,t5,t6,t7,t8⟩:=r3.inv.H k _ N;have I:b3=u:=by have:=t1.symm.trans B;simpa using this
  subst I;have hA2:A2 b3:=r3.inv.own k _ b3 N t1 (by rw [e3];show st1.ro<=k;rw [e1];exact S);obtain ⟨O,k4⟩:=r3.inv.turn N B t2 hA2 {r4 with state:=if jump.isNone then .ready else .done,pending:=jump} (.loop Z bb x3 c3 bt s e) (fun b' d=>by
   have d:g2.E k=some (.cG b'):=d;rw [B] at d;simpa using d.symm) ⟨b3,_,B,World.putObj_heap_same (lt_of_heap t2),t3,t4,t5,t6,t7,a8 r4⟩
  refine ⟨_,_,run_endRound jump t2,_,rfl,g2,by rw [hv];simp only [R], ?_,W.kp.trans (k4.sub W.sub)⟩;exact ⟨O.F,O.M,O.E,O.H,O.D,fun id o b q1 q2 q3=>W.sub b (O.own id o b q1 q2 q3),fun b I=>hi.up b (aaR W.kp.size (by simpa using I))⟩
 cases ex with
 | normal=>
  simp only [ag,aj,aaj] at f;obtain ⟨ar,f,rfl,rfl⟩:=f;exact fin 0 .normal none f (fun _=> .inl ⟨rfl,rfl,rfl,rfl⟩) rfl
 | ret=>
  simp only [ag,aj,aaj] at f;obtain ⟨ar,f,rfl,rfl⟩:=f;exact fin 2 .ret (some .ret) f (fun _=> .inr (.inr ⟨rfl,rfl,.inl ⟨rfl,rfl⟩⟩)) rfl
 | exit i=>
  simp only [ag,aj,aaj] at f;obtain ⟨ar,f,rfl,rfl⟩:=f;exact fin 2 (.exit i) (some (.exit i)) f (fun _=> .inr (.inr ⟨rfl,rfl,.inr ⟨i,rfl,rfl⟩⟩)) rfl
def Jp (P:Program) (T:TT) (G:Nat->Oq LA) (f:FuncId) (args:LA) (v:AV):Prop:=
 ∀A g st w xs,GR g G->bH args=true->RL g args xs->Inv T A g st w->xH P f xs.toArray w (mP T A g st w v)
theorem vK {args:LA} {v:AV}: ∀{l:List (LA×AV)},vt args l=some v->(args,v)∈l
 | [],h=>by cases h
 | (a,u)::l,h=>by
  simp only [vt] at h;split at h
  .rename_i e;cases h;rw [lQ (nG 1000) e];exact aag
  .exact aam _ (vK h)
structure Gw (P:Program) (E:Env):Prop where
 T:zm P E.T
 F: ∀f fn,E.F f=some fn->P.funcs[f]? =some fn/\(∀args w,(callFunc f args).run P w= .ok (.enter f args) w)/\ ∀c,fn.body=some c->codeOk c=true
 prim:ER P E.T E.G E.prim
 mixed:P.follows .mixedOrders=true
 memo: ∀f e,e∈E.memo f->Jp P E.T E.G f e.1 e.2
 rule: ∀f r args v,E.rule f=some r->r args=some v->Jp P E.T E.G f args v:=by intro _ _ _ _ h;cases h
 wrule: ∀f r args st v s,E.wrule f=some r->r args st= .ok (v,s)->s.ro=st.ro/\ ∀A g w xs,GR g E.G->RL g args xs->Inv E.T A g st w->
  (callFunc f xs.toArray).run P w= .ok (.enter f xs.toArray) w/\Calls P f xs.toArray w fun e w'=> ∃x,e= .returned x/\mP E.T A g s w v x w':=by intro _ _ _ _ _ _ h;cases h
theorem OZ {P:Program} {E:Env} (hE:Gw P E) {f:FuncId} {args:LA} {v:AV} (h:E.known f args=some v):Jp P E.T E.G f args v:=by
 unfold Env.known at h;split at h
 .rename_i r a;exact hE.rule f r args v a h
 .exact hE.memo f _ (vK h)
theorem St.nK {i:Nat} {o:Obj}:St.empty.get i≠ .ok o:=by
 intro h;have:=(St.ca.1 h).1;simp [St.empty] at this
theorem Du {P:Program} {E:Env} (hE:Gw P E): ∀n,BF P E.T E.G (caller E n)/\Gs (caller E n)
 | 0=>⟨⟨fun _ _ _ h=>by simp [caller] at h,fun _ _ _ _ _ h=>by simp [caller] at h,fun _ _ _ _ h=>by simp [caller] at h,fun _ _ _ _ _ h=>by simp [caller] at h⟩,⟨fun _ _ _ _ _ h=>by simp [caller] at h,fun _ _ _ _ _ h=>by simp [caller] at h⟩⟩
 | n+1=>by
  obtain ⟨ih,j⟩:=Du hE n;have K: ∀f,Good P ⟨E.T,E.prim,E.imm f,E.G,caller E n⟩:=fun f=>⟨hE.T,ih,hE.prim⟩;refine ⟨⟨?_, ?_, ?_, ?_⟩,⟨?_, ?_⟩⟩
  .intro f args v h A g st w xs m z t hi;simp only [caller] at h;split at h
   .rename_i u Y;cases h;exact OZ hE Y A g st w xs m z t hi
   split at h
   .cases h
   .rename_i fn q;obtain ⟨B,C,I⟩:=hE.F f fn q;simp only [ag] at h;obtain ⟨⟨v0,s⟩,h1,v1,a,y⟩:=h;split at y
    .rename_i d;simp only [aj] at y;subst y;have J:VD g ⟨g.F,g.M,fun _=>none⟩:=⟨fun _ _ _ x=>x,fun _ _ x=>x⟩;have hinv:Inv E.T (fun b=>w.heap.size<=b) ⟨g.F,g.M,fun _=>none⟩ St.empty w:=
      ⟨hi.F,hi.M,fun _ _=>rfl,fun _ _ ho=>(St.nK ho).elim,fun _ _ _ _ _ ho=>(St.nK ho).elim,fun _ _ _ ho=>(St.nK ho).elim,fun _ z=>z⟩
     refine .inr ⟨C _ _,(u3 (K f) hE.mixed B I h1 (tS J _ _ z t) (fun k cs L=>⟨(m k cs L).1,vM J _ _ _ (m k cs L).1 (m k cs L).2⟩) hinv).mono ?_⟩;rintro e w' ⟨x,rfl,g',N,r2,O⟩;refine ⟨x,rfl,Bl (gb:=⟨g.F,g.M,fun _=>none⟩) hi rfl rfl (fun _=>Iff.rfl) r2 O (base:=0) ?_ N a d⟩;rw [EC j h1];exact aal _
    .cases y
  .intro f args st v st' h A g w xs m t hi;simp only [caller] at h;split at h
   .split at h
    .rename_i r Q;exact (hE.wrule f r args st v st' Q h).2 A g w xs m t hi
    .cases h
   .rename_i fn q;obtain ⟨B,C,I⟩:=hE.F f fn q;simp only [ag,aj] at h;obtain ⟨⟨v0,s⟩,h1,a⟩:=h;simp only [aaj] at a;obtain ⟨rfl,rfl⟩:=a;exact ⟨C _ _,u3 (K f) hE.mixed B I h1 t m hi⟩
  .intro f args st v h A g w xs m t hi;simp only [caller] at h;split at h
   .cases h
   .rename_i fn q;obtain ⟨B,C,I⟩:=hE.F f fn q;simp only [ag] at h;obtain ⟨⟨v0,s⟩,h1,v1,a,y⟩:=h;split at y
    .rename_i d;simp only [aj] at y;subst y;have U: ∀i,(⟨st.h,st.h,st.objs⟩:St).get i=st.get i:=fun _=>rfl;have hinv:Inv E.T (fun b=>w.heap.size<=b) g ⟨st.h,st.h,st.objs⟩ w:=
      ⟨hi.F,hi.M,hi.E,hi.H,hi.D,fun id o b ho _ R=>by
       have:=(St.ca.1 ho).1;have V:st.h<=id:=R;have:id < st.h:=this;omega,fun _ z=>z⟩
     refine .inr ⟨C _ _,(u3 (K f) hE.mixed B I h1 t m hinv).mono ?_⟩;rintro e w' ⟨x,rfl,g',N,r2,O⟩;refine ⟨x,rfl,Bl hi rfl rfl (fun _=>Iff.rfl) r2 O (base:=st.h) ?_ N a d⟩;rw [EC j h1];exact aal _
    .cases y
  .intro k args st v st' h A g w xs l m t hi hl;simp only [caller,ag] at h;obtain ⟨o,h1,a⟩:=h;split at a
   .rename_i imm ps x c fr s p;split at a
    .rename_i W;simp only [aak] at W;obtain ⟨⟨S,Z⟩,c3,c4,c5⟩:=W;have S:=aap S;subst S;exact E9 (X:=⟨E.T,E.prim,imm,E.G,caller E n⟩) ⟨hE.T,ih,hE.prim⟩ j hE.mixed a ⟨c4,c5⟩ (aap c3) h1 (aah Z) m t hi hl
    .cases a
   .cases a
  .intro f args st v s h;simp only [caller] at h;split at h
   .split at h
    .rename_i r Q;exact (hE.wrule f r args st v s Q h).1
    .cases h
   .simp only [ag,aj] at h;obtain ⟨⟨v0,s0⟩,h1,a⟩:=h;simp only [aaj] at a;obtain ⟨rfl,rfl⟩:=a;exact EC j h1
  .intro k args st v s h;simp only [caller,ag] at h;obtain ⟨o,h1,a⟩:=h;split at a
   .split at a
    .exact M4 (X:=⟨E.T,E.prim,_,E.G,caller E n⟩) j a
    .cases a
   .cases a
namespace Tr
variable {α:Type}
def of:Nat->(Nat->Oq α)->Tr α
 | 0,_=> .leaf
 | d+1,f=> .node (f 0) (of d fun k=>f (2 * k+1)) (of d fun k=>f (2 * k+2))
theorem Hz {v:Oq α} {l r:Tr α} (n:Nat):(Tr.node v l r).get n=if n=0 then v else if n % 2=1 then l.get (n / 2) else r.get (n / 2 - 1):=by
 rw [get];cases h0:n.beq 0 with
 | true=>rw [if_pos (aap h0)]
 | false=>
  have:n≠0:=fun e=>by subst e;cases h0
  rw [if_neg this];cases h1:(n % 2).beq 1 with
  | true=>rw [if_pos (aap h1)]
  | false=>rw [if_neg (fun e=>by rw [e] at h1;cases h1)]
theorem Fl: ∀(d:Nat) (f:Nat->Oq α) (n:Nat) (x:α),(of d f).get n=some x->f n=some x
 | 0,_,n,x,h=>by rw [of,vC] at h;cases h
 | d+1,f,n,x,h=>by
  rw [of,Hz] at h;split at h
  .rename_i e;subst e;exact h
  .split at h
   .have:=Fl d _ _ _ h
    rwa [show 2 * (n / 2)+1=n by omega] at this
   .have:=Fl d _ _ _ h
    rwa [show 2 * (n / 2 - 1)+2=n by omega] at this
def yw (p:Nat->α->Prop):Tr α->Prop
 | .leaf=>True
 | .node v l r=>(∀x,v=some x->p 0 x)/\yw (fun k=>p (2 * k+1)) l/\yw (fun k=>p (2 * k+2)) r
theorem tz: ∀(t:Tr α) (p:Nat->α->Prop),yw p t-> ∀n x,t.get n=some x->p n x
 | .leaf,p,_,n,x,h=>by rw [vC] at h;cases h
 | .node v l r,p,hp,n,x,h=>by
  rw [Hz] at h;obtain ⟨h1,a,b⟩:=hp;split at h
  .rename_i e;subst e;exact h1 x h
  .split at h
   .have:=tz l _ a _ _ h
    rwa [show 2 * (n / 2)+1=n by omega] at this
   .have:=tz r _ b _ _ h
    rwa [show 2 * (n / 2 - 1)+2=n by omega] at this
end Tr
def Zq:TypeDesc->U
 | .bool=> .bool | .int k=> .int k | .string=> .str | .float k=> .flt k
 | .pointer e=> .ptr e | .slice e=> .slice e | .array n e=> .arr n e | .map k e=> .map k e
 | .struct fs=> .struct (fs.toList.map fun f=>(f.offset,f.type))
 | .func .. => .func | .interface ms=> .iface ms.isEmpty | .unsafePointer=> .uptr
 | _=> .other
theorem Tw: ∀d,Ax d (Zq d):=by
 intro d;cases d <;> simp [Zq,Ax]
def isAgg:TypeDesc->Bool
 | .struct _ | .array .. =>true
 | _=>false
def Xc (l:List Value):Bool:=l.all fun v=>v.oneCell'
def zeroOf (z:Value) (agg:Bool):Oq LA:=
 match agg with
 | true=>match z with
  | .agg cs=>match Xc cs.toList with
   | true=>match ofConst.ofAll cs.toList with
    | .ok l=>some l
    | .error _=>none
   | false=>none
  | _=>none
 | false=>match z.oneCell' with
  | true=>match ofConst z with
   | .ok v=>some [v]
   | .error _=>none
  | false=>none
theorem M6 {z:Value} {agg:Bool} {l:LA} (h:zeroOf z agg=some l):
  (agg=false->z.oneCell'=true)/\(∀v∈z.cells,v.oneCell'=true)/\(agg=true-> ∃cs,z= .agg cs)/\ ∀g,RL g l z.cells.toList:=by
 unfold zeroOf at h;split at h
 .split at h
  .rename_i cs;split at h
   .rename_i h1;split at h
    .rename_i f a;simp only [aas] at h;subst h;refine ⟨(fun e=>by cases e),fun v d=> ?_,fun _=>⟨cs,rfl⟩,fun g=>oD g _ _ a⟩;have:v∈cs:=d;exact aa7.1 h1 v (by simpa using this)
    .cases h
   .cases h
  .cases h
 .split at h
  .rename_i h1;split at h
   .rename_i v a;simp only [aas] at h;subst h;have c:z.cells= #[z]:=by cases z <;> first | rfl | simp [Value.oneCell'] at h1
    refine ⟨fun _=>h1,fun u b=> ?_,(fun e=>by simp at e),fun g=> ?_⟩
    .rw [c] at b;simp only [List.mem_toArray,aao,List.not_mem_nil,or_false] at b;rw [b];exact h1
    .rw [c];exact cL (oZ g z v a) gJ
   .cases h
  .cases h
def Tm (P:Program) (t:Td):TypeDesc->Bool
 | .struct fs=> !P.eqGuardType P.depth t&& !P.stoodInHeld t&&fs.toList.all (fun f=>f.name != "_")
 | _=>false
def RI (P:Program) (t:Td):Oq TI:=
 match P.underlying t with
 | none=>none
 | some d=>match P.info? t with
  | none=>none
  | some f=>match f.zero with
   | none=>none
   | some z=>match zeroOf z (isAgg d) with
    | none=>none
    | some l=>match z.cells.size.beq f.size with
     | false=>none
     | true=>some ⟨Zq d,f.size,f.bytes,l,isAgg d,Tm P t d⟩
theorem QB {P:Program} {t:Td} {i:TI} (h:RI P t=some i):kP P t i:=by
 unfold RI at h;split at h
 .cases h
 rename_i d c;split at h
 .cases h
 rename_i f hf;split at h
 .cases h
 rename_i z g;split at h
 .cases h
 rename_i l hl;split at h
 .cases h
 rename_i hs;simp only [aas] at h;subst h;obtain ⟨j,k,m,z4⟩:=M6 hl;refine ⟨⟨d,c,Tw d, ?_⟩,fun a=> ?_,⟨f,hf,rfl,rfl,z,g,aap hs,j,k,m,z4⟩⟩
 .cases d <;> rfl
 .dsimp only at a;unfold Tm at a;split at a
  .rename_i fs;simp only [aak,Bool.not_eq_true',aa7,bne_iff_ne,ne_eq] at a;refine ⟨a.1.1,a.1.2,fun fields he fl b=> ?_⟩;have e:=c.symm.trans he;simp only [aas,TypeDesc.struct.injEq] at e;subst e;exact a.2 fl b
  .cases a
theorem Xh {P:Program} {T:TT} {d:Nat} (h:T=Tr.of d (RI P)):zm P T:=fun _ _ a=>QB (Tr.Fl d _ _ _ (h ▸ a))
def XC (P:Program) (f:FuncId) (fn:Func):Prop:=P.funcs[f]? =some fn/\(∀args w,(callFunc f args).run P w= .ok (.enter f args) w)/\ ∀c,fn.body=some c->codeOk c=true
theorem Tr.fD {α:Type} {p:Nat->α->Prop}:Tr.yw p .leaf:=trivial
theorem Tr.fV {α:Type} {p:Nat->α->Prop} {v:Oq α} {l r:Tr α} (h1: ∀x,v=some x->p 0 x) (a:Tr.yw (fun k=>p (2 * k+1)) l) (b:Tr.yw (fun k=>p (2 * k+2)) r):Tr.yw p (.node v l r):=⟨h1,a,b⟩
end Go.VM
namespace Go.VM
structure Rz (C C':dt):Prop where
 full:C'.full=C.full
 isLook:C'.isLook=C.isLook
 bare: ∀f args v,C.bare f args= .ok v->C'.bare f args= .ok v
 wide: ∀f args st r,C.wide f args st= .ok r->C'.wide f args st= .ok r
 look: ∀f args st v,C.look f args st= .ok v->C'.look f args st= .ok v
 round: ∀k args st r,C.round k args st= .ok r->C'.round k args st= .ok r
theorem vZ {C C':dt} (h:Rz C C') {st:St} {p:dY} {r:AV×Fx} (a:aE C st p= .ok r):aE C' st p= .ok r:=by
 cases p with
 | val v=>exact a
 | obj id f=>exact a
 | both id k f=>exact a
 | new o f=>exact a
 | yield k args=>
  simp only [aE,ag,aj] at a ⊢;obtain ⟨v,h1,rfl⟩:=a;exact ⟨v,h.round _ _ _ _ h1,rfl⟩
 | call f args=>
  simp only [aE] at a ⊢;rw [h.full,h.isLook];cases e:(bH (args.map strip)&& !C.full f) with
  | true=>
   rw [e] at a;simp only [ag,aj] at a;obtain ⟨v,h1,rfl⟩:=a;simp only [h.bare _ _ _ h1];rfl
  | false=>
   rw [e] at a;dsimp only at a ⊢;cases b:C.isLook f with
   | true=>
    rw [b] at a;simp only [ag,aj] at a;obtain ⟨v,h1,rfl⟩:=a;simp only [h.look _ _ _ _ h1];rfl
   | false=>
    rw [b] at a;simp only [ag,aj] at a;obtain ⟨v,h1,rfl⟩:=a;simp only [h.wide _ _ _ _ h1];rfl
def Cx.with (X:Cx) (C:dt):Cx:=⟨X.T,X.prim,X.imm,X.G,C⟩
theorem LZ {X:Cx} {C:dt} (h:Rz X.C C) {all:List Oper} {fr:Fr} {st:St} {o:Oper} {r:AV×Fx} (a:oper X all fr st o= .ok r):oper (X.with C) all fr st o= .ok r:=by
 unfold oper at a ⊢;split at a
 .obtain ⟨p,h1,b⟩:=ag.1 a;exact ag.2 ⟨p,h1,vZ h b⟩
 .exact a
theorem ra {X:Cx} {C:dt} (h:Rz X.C C) {all:List Oper} {draw:Bool}: ∀{l:List Oper} {j:Nat} {seen:List (Nat×Fx)} {fr:Fr} {st:St} {r:Fr×St},eD X all draw j seen l fr st= .ok r->eD (X.with C) all draw j seen l fr st= .ok r
 | [],_,_,_,_,_,b=>b
 | o::l,j,seen,fr,st,r,b=>by
  simp only [eD,ag] at b ⊢;obtain ⟨⟨v,x⟩,h1,a⟩:=b;refine ⟨(v,x),LZ h h1, ?_⟩;dsimp only at a ⊢;split at a
  .exact ra h a
  .split at a
   .exact ra h a
   .cases a
theorem II {X:Cx} {C:dt} (h:Rz X.C C) {e:Nat->Oq Nat} {all:List Oper} {fr:Fr} {st:St} {o:Oper} {r:AV×Fx} (a:gC X e all fr st o= .ok r):gC (X.with C) e all fr st o= .ok r:=by
 unfold gC at a ⊢;split at a
 .split at a
  .exact a
  .obtain ⟨p,h1,b⟩:=ag.1 a;exact ag.2 ⟨p,h1,vZ h b⟩
 .exact a
theorem oW {X:Cx} {C:dt} (h:Rz X.C C) {e:Nat->Oq Nat} {all:List Oper}: ∀{l:List Oper} {j:Nat} {seen:List (Nat×Fx)} {fr:Fr} {st:St} {r:Fr×St},dz X e all j seen l fr st= .ok r->dz (X.with C) e all j seen l fr st= .ok r
 | [],_,_,_,_,_,b=>b
 | o::l,j,seen,fr,st,r,b=>by
  simp only [dz,ag] at b ⊢;obtain ⟨⟨v,x⟩,h1,a⟩:=b;refine ⟨(v,x),II h h1, ?_⟩;dsimp only at a ⊢;split at a
  .exact oW h a
  .split at a
   .exact oW h a
   .cases a
theorem xS {b b':Fr->St->df (Ex×Fr×St)} (c: ∀fr st r,b fr st= .ok r->b' fr st= .ok r): ∀{n n':Nat} {fr:Fr} {st:St} {r:Ex×Fr×St},n<=n'->iter b n fr st= .ok r->iter b' n' fr st= .ok r
 | 0,_,_,_,_,_,h=>by simp [iter] at h
 | n+1,0,_,_,_,hn,_=>by omega
 | n+1,n'+1,fr,st,r,hn,h=>by
  simp only [iter,ag] at h ⊢;obtain ⟨⟨ex,d,st1⟩,h1,a⟩:=h;refine ⟨_,c _ _ _ h1, ?_⟩;cases ex
  .exact xS c (by omega) a
  .exact a
  .exact a
theorem iM {X:Cx} {C:dt} (h:Rz X.C C) {n n':Nat} (hn:n<=n'): ∀(c:Code) (fr:Fr) (st:St) (r:Ex×Fr×St),exec X n c fr st= .ok r->exec (X.with C) n' c fr st= .ok r
 | .skip,_,_,_,d | .label _,_,_,_,d | .exit _,_,_,_,d | .ret,_,_,_,d=>d
 | .goto _,_,_,_,d | .refuse _,_,_,_,d=>by simp [exec] at d
 | .rangeFunc x ps y c,fr,st,r,d=>by
  simp only [exec] at d ⊢;cases hs:fr.strict with
  | true=>rw [hs] at d;cases d
  | false=>
   rw [hs] at d;dsimp only at d ⊢;obtain ⟨i,h1,e⟩:=ag.1 d;refine ag.2 ⟨i,h1, ?_⟩;split at e
   .obtain ⟨q,g,j⟩:=ag.1 e;exact ag.2 ⟨q,h.wide _ _ _ _ g,j⟩
   .cases e
 | .scope c,fr,st,r,d=>iM h hn c fr st r d
 | .region _ _ _,fr,st,r,d=>by
  simp only [exec] at d ⊢;split at d
  .rename_i f;have f:(_&&(X.with C).imm 4000000)=false:=f;rw [f];simp only [ag] at d ⊢;obtain ⟨a,h1,e⟩:=d;exact ⟨a,ra h h1,e⟩
  .rename_i f;have f:(_&&(X.with C).imm 4000000)=true:=f;rw [f];simp only [ag] at d ⊢;obtain ⟨a,h1,e⟩:=d;exact ⟨a,oW h h1,e⟩
 | .seq a b,fr,st,r,d=>by
  simp only [exec,ag] at d ⊢;obtain ⟨⟨ex,k,st1⟩,h1,e⟩:=d;refine ⟨_,iM h hn a _ _ _ h1, ?_⟩;cases ex
  .exact iM h hn b _ _ _ e
  .exact e
  .exact e
 | .cond c a b,fr,st,r,d=>by
  simp only [exec,ag] at d ⊢;obtain ⟨l,h1,v,e,g⟩:=d;refine ⟨l,h1,v,e, ?_⟩;cases v
  .exact iM h hn b _ _ _ g
  .exact iM h hn a _ _ _ g
 | .block id c,fr,st,r,d=>by
  simp only [exec,ag] at d ⊢;obtain ⟨a,h1,e⟩:=d;exact ⟨a,iM h hn c _ _ _ h1,e⟩
 | .loop c,fr,st,r,d=>by
  simp only [exec] at d ⊢;exact xS (fun fr st r m=>iM h hn c fr st r m) hn d
theorem LP {X:Cx} {C:dt} (h:Rz X.C C) {n n':Nat} (hn:n<=n') {fn:Func} {args:LA} {st:St} {r:AV×St} (b:body X n fn args st= .ok r):body (X.with C) n' fn args st= .ok r:=by
 unfold body at b ⊢;split at b
 .cases b
 .split at b
  .cases b
  .obtain ⟨a,h1,c⟩:=ag.1 b;exact ag.2 ⟨a,iM h hn _ _ _ _ h1,c⟩
theorem GP {X:Cx} {C:dt} (h:Rz X.C C) {n n':Nat} (hn:n<=n') {k:Nat} {x c:Code} {fr:Fr} {st:St} {r:AV×St} (d:rS X n k x c fr st= .ok r):rS (X.with C) n' k x c fr st= .ok r:=by
 simp only [rS,ag] at d ⊢;obtain ⟨⟨ex,e,st1⟩,h1,a⟩:=d;refine ⟨_,iM h hn _ _ _ _ h1, ?_⟩;cases ex
 .simp only [ag] at a ⊢;obtain ⟨b,f,q,g,i⟩:=a;exact ⟨b,f,q,iM h hn _ _ _ _ g,i⟩
 .exact a
 .exact a
theorem gF (E:Env): ∀{n n':Nat},n<=n'->Rz (caller E n) (caller E n')
 | 0,0,_=>⟨rfl,rfl,fun _ _ _ h=>h,fun _ _ _ _ h=>h,fun _ _ _ _ h=>h,fun _ _ _ _ h=>h⟩
 | 0,_+1,_=>⟨rfl,rfl,fun _ _ _ h=>(by simp [caller] at h),fun _ _ _ _ h=>(by simp [caller] at h),fun _ _ _ _ h=>(by simp [caller] at h),fun _ _ _ _ h=>(by simp [caller] at h)⟩
 | n+1,0,h=>by omega
 | n+1,n'+1,hn=>by
  have ih:=gF E (show n<=n' by omega);have d: ∀f fn args st r,body ⟨E.T,E.prim,E.imm f,E.G,caller E n⟩ n fn args st= .ok r->body ⟨E.T,E.prim,E.imm f,E.G,caller E n'⟩ n' fn args st= .ok r:=fun f fn args st r h=>
   LP (X:=⟨E.T,E.prim,E.imm f,E.G,caller E n⟩) ih (by omega) h
  refine ⟨rfl,rfl,fun f args v h=> ?_,fun f args st r h=> ?_,fun f args st v h=> ?_,fun k args st r h=> ?_⟩
  .simp only [caller] at h ⊢;split at h
   .exact h
   .split at h
    .cases h
    .obtain ⟨a,h1,b⟩:=ag.1 h;exact ag.2 ⟨a,d _ _ _ _ _ h1,b⟩
  .simp only [caller] at h ⊢;split at h
   .exact h
   .obtain ⟨a,h1,b⟩:=ag.1 h;exact ag.2 ⟨a,d _ _ _ _ _ h1,b⟩
  .simp only [caller] at h ⊢;split at h
   .cases h
   .obtain ⟨a,h1,b⟩:=ag.1 h;exact ag.2 ⟨a,d _ _ _ _ _ h1,b⟩
  .simp only [caller,ag] at h ⊢;obtain ⟨o,h1,b⟩:=h;refine ⟨o,h1, ?_⟩;cases o with
   | loop imm ps x c fr s p=>
    dsimp only at b ⊢;split at b
    .exact GP (X:=⟨E.T,E.prim,imm,E.G,caller E n⟩) ih (by omega) b
    .cases b
   | _=>cases b
theorem aA {α β:Type} (a:α) (f:α->df β):((Except.ok a:df α) >>= f)=f a:=rfl
theorem aH {α:Type} (a:α):(pure a:df α)= .ok a:=rfl
theorem Fr.PG (fr:Fr) (d:Oq Nat) (v:AV):(fr.put d v).n=fr.n:=by
 cases d with
 | none=>rfl
 | some d=>simp only [Fr.put];split <;> rfl
def MD {α:Type}:df α->Oq α
 | .ok a=>some a
 | .error _=>none
structure tf where
 full:FuncId->Bool
 isLook:FuncId->Bool
 bare:FuncId->LA->Oq AV
 wide:FuncId->LA->St->Oq (AV×St)
 look:FuncId->LA->St->Oq AV
 round:Nat->LA->St->Oq (AV×St)
structure Sx where
 T:TT
 prim:FuncId->Oq Prim
 imm:Td->Bool
 G:Nat->Oq LA
 O:tf
section
variable {β:Type}
def bx {α:Type} (a:α) (K:α->Oq β):Oq β:=K a
abbrev bM (a:St) (K:St->Oq β):Oq β:=K a
def bK (k:IntKind) (v:AV) (K:Int->Oq β):Oq β:=
 match v with
 | .int j n=>match decide (j=k) with
  | true=>K n
  | false=>none
 | _=>none
def ct (v:AV) (K:Bool->Oq β):Oq β:=
 match v with
 | .bool b=>K b
 | _=>none
def fG (v:AV) (K:LB->Oq β):Oq β:=
 match v with
 | .str s=>K s
 | _=>none
def anyI (v:AV) (K:Int->Oq β):Oq β:=
 match v with
 | .int _ n=>K n
 | _=>none
def uz (v:AV) (K:LA->Oq β):Oq β:=
 match v with
 | .agg cs=>K cs
 | _=>none
def ig (v:AV) (K:LA->Oq β):Oq β:=
 match v with
 | .tup cs=>K cs
 | _=>none
def bo (l:LA) (K:AV->LA->Oq β):Oq β:=
 match l with
 | v::l=>K v l
 | []=>none
def bQ (l:LA) (K:Oq β):Oq β:=
 match l with
 | []=>K
 | _:: _=>none
def cf (b:Bool) (K:Oq β):Oq β:=
 match b with
 | true=>K
 | false=>none
def bu (b:Bool) (x y:Oq β):Oq β:=
 match b with
 | true=>x
 | false=>y
def ad (v:AV) (K:Oq β):Oq β:=cf (one v) K
def BE:LA->Oq β->Oq β
 | [],K=>K
 | v::l,K=>ad v (BE l K)
def cB (cs:LA) (off:Nat) (K:AV->Oq β):Oq β:=
 match cs[off]? with
 | some v=>K v
 | none=>none
def SG (b:Bool) (z v:AV) (K:AV->Oq β):Oq β:=
 match z with
 | .int k _=>bK k v fun n=>match b with
  | true=>bx n fun n=>K (.int k n)
  | false=>K (.int k n)
 | .bool _=>ct v fun b=>K (.bool b)
 | .str _=>fG v fun s=>match b with
  | true=>bx s fun s=>K (.str s)
  | false=>K (.str s)
 | _=>K v
def Qb:LA->LA->(LA->Oq β)->Oq β
 | [],cs,K=>bQ cs (K [])
 | z::zs,cs,K=>bo cs fun v l=>SG false z v fun v'=>Qb zs l fun a=>K (v'::a)
def Gp (b:Bool) (T:TT) (t:Td) (v:AV) (K:AV->Oq β):Oq β:=
 match T.get t with
 | some i=>match i.agg with
  | true=>match i.zero.length.ble 24 with
   | true=>uz v fun cs=>Qb i.zero cs fun cs'=>K (.agg cs')
   | false=>K v
  | false=>match i.zero with
   | [z]=>SG b z v K
   | _=>K v
 | none=>K v
def Eh:Op->Bool
 | .binOp op _ _ _ _=>match op with
  | .eql=>false
  | .neq=>false
  | .lss=>false
  | .leq=>false
  | .gtr=>false
  | .geq=>false
  | _=>true
 | .unOp .. =>true
 | .convert .. =>true
 | .slice .. =>true
 | .call c=>match c.callee with
  | .builtin .min=>true
  | .builtin .max=>true
  | _=>false
 | _=>false
def wg (T:TT) (t:Td) (K:TI->Oq β):Oq β:=
 match T.get t with
 | some i=>K i
 | none=>none
def E4 (agg:Bool) (v:AV) (K:LA->Oq β):Oq β:=
 match agg with
 | true=>uz v K
 | false=>ad v (K [v])
def aD (v:AV) (K:AV->Oq β):Oq β:=
 match fit v with
 | .ok v'=>K v'
 | .error _=>none
def Ol:LA->(LA->Oq β)->Oq β
 | [],K=>K []
 | v::l,K=>aD v fun v'=>Ol l fun a=>K (v'::a)
def Ml (agg:Bool) (v:AV) (K:AV->Oq β):Oq β:=
 match agg with
 | true=>uz v fun cs=>BE cs (Ol cs fun cs'=>K (.agg cs'))
 | false=>aD v K
def ou (agg:Bool):LA->(LA->Oq β)->Oq β
 | [],K=>K []
 | v::l,K=>Ml agg v fun v'=>ou agg l fun a=>K (v'::a)
def nz (z:Nat) (l:LA):Bool:=l.all fun v=>v.cells.length.beq z
def U0 (cs:LA) (off:Nat) (new:LA):LA:=cO cs off new
def St.add (st:St) (o:Obj):St:=(st.new o).2
def q0:Fx:=⟨[],.kept⟩
abbrev Kv (β:Type):=AV->St->Fx->Oq β
def aC {α:Type} (x:Oq α) (K:α->Oq β):Oq β:=
 match x with
 | some a=>K a
 | none=>none
def kZ {α:Type} (r:Sum α β) (f:α->Oq β):Oq β:=
 match r with
 | .inl a=>f a
 | .inr r=>some r
def Hn (size:Nat) (agg:Bool) (a:AV) (st:St):Oq (AV×Ln):=
 match a with
 | .ip cells=>match cV size agg cells with
  | .ok v=>some (v,[])
  | .error _=>none
 | .mp id off=>match st.get id with
  | .ok (.cells _ cs)=>match cV size agg (cs.drop off) with
   | .ok v=>some (v,[id])
   | .error _=>none
  | _=>none
 | .gp k n off=>match st.get k with
  | .ok (.row m _ _ cs)=>match n.beq m with
   | true=>match cV size agg (cs.drop off) with
    | .ok v=>some (v,[k])
    | .error _=>none
   | false=>none
  | _=>none
 | _=>none
def ao (size:Nat) (agg:Bool) (a:AV) (st:St) (K:AV->Ln->Oq β):Oq β:=aC (Hn size agg a st) fun p=>K p.1 p.2
abbrev Out:=AV×St×Fx
def kM (st:St) (id:Nat) (o:Obj) (v:AV) (rd:Ln):Oq Out:=
 match st.ro.ble id with
 | true=>some (v,st.put id o,⟨rd,.wrote id o⟩)
 | false=>none
def yM (st:St) (o:Obj) (f:Nat->AV):Oq Out:=some (f st.h,st.add o,⟨[],.made st.h o⟩)
def De (O:tf) (f:FuncId) (args:LA) (st:St):Oq Out:=
 match bH (args.map strip)&& !O.full f with
 | true=>match O.bare f (args.map strip) with
  | some v=>some (v,st,q0)
  | none=>none
 | false=>match O.isLook f with
  | true=>match O.look f (args.map strip) st with
   | some v=>some (v,st,⟨[],.looked⟩)
   | none=>none
  | false=>match O.wide f args st with
   | some p=>some (p.1,p.2,⟨[],.all st p.2⟩)
   | none=>none
def Nk (O:tf) (k:Nat) (args:LA) (st:St):Oq Out:=
 match O.round k args st with
 | some p=>some (p.1,p.2,⟨[],.all st p.2⟩)
 | none=>none
def oN (O:tf) (p:df dY) (st:St):Oq Out:=
 match p with
 | .ok (.val v)=>some (v,st,q0)
 | .ok (.obj id f)=>match st.get id with
  | .ok o=>match f o with
   | .ok (v,none)=>some (v,st,⟨[id],.kept⟩)
   | .ok (v,some o')=>kM st id o' v [id]
   | .error _=>none
  | .error _=>none
 | .ok (.both id k f)=>match st.get id with
  | .ok o=>match k o with
   | .ok none=>match f o none with
    | .ok v=>some (v,st,⟨[],.looked⟩)
    | .error _=>none
   | .ok (some j)=>match st.ro.ble j with
    | true=>match st.get j with
     | .ok o'=>match f o (some o') with
      | .ok v=>some (v,st,⟨[],.looked⟩)
      | .error _=>none
     | .error _=>none
    | false=>none
   | .error _=>none
  | .error _=>none
 | .ok (.new o f)=>yM st o f
 | .ok (.call f args)=>De O f args st
 | .ok (.yield k args)=>Nk O k args st
 | .error _=>none
def oq (x:Oq Out) (K:Kv β):Oq β:=aC x fun r=>K r.1 r.2.1 r.2.2
def made (st:St) (o:Obj) (f:Nat->AV) (K:Kv β):Oq β:=oq (yM st o f) K
def cE (O:tf) (p:df dY) (st:St) (K:Kv β):Oq β:=oq (oN O p st) K
def bf (O:tf) (f:FuncId) (args:LA) (st:St) (K:Kv β):Oq β:=oq (De O f args st) K
def E6 (O:tf) (size:Nat) (a v:AV) (cs:LA) (st:St):Oq Out:=
 match a with
 | .mp id off=>match cs.length.beq size with
  | true=>match st.get id with
   | .ok (.cells t old)=>match (off+cs.length).ble old.length with
    | true=>kM st id (.cells t (U0 old off cs)) undef [id]
    | false=>none
   | _=>none
  | false=>none
 | .gp k m off=>oN O (kY ⟨.other,size,0,[],false,false⟩ k m off v) st
 | _=>none
def O1 (t:Td) (z:LA) (nm:Nat) (st:St):Oq Out:=
 match st.get nm with
 | .ok .Bc=>kM st nm (.cells t z) (.mp nm 0) [nm]
 | _=>none
def H5 (t:Td) (z:LA) (nm:Nat) (st:St) (K:Kv β):Oq β:=oq (O1 t z nm st) K
def aK (O:tf) (size:Nat) (a v:AV) (cs:LA) (st:St) (K:Kv β):Oq β:=oq (E6 O size a v cs st) K
def Xd (off:Nat) (a:AV):Oq AV:=
 match a with
 | .ip cells=>some (.ip (cells.drop off))
 | .mp id o=>some (.mp id (o+off))
 | .gp k n o=>some (.gp k n (o+off))
 | _=>none
def ch (off:Nat) (a:AV) (K:AV->Oq β):Oq β:=aC (Xd off a) K
def nu (i:Int) (n:Nat) (K:Nat->Oq β):Oq β:=
 match i with
 | .ofNat k=>cf (k.blt n) (K k)
 | .negSucc _=>none
def gM (i:Int) (n:Nat) (K:Nat->Oq β):Oq β:=
 match i with
 | .ofNat k=>cf (k.ble n) (K k)
 | .negSucc _=>none
def Fk:LA->Nat->Oq AV
 | [],_=>none
 | v:: _,0=>some v
 | _::l,n+1=>Fk l n
def oy (i:Int) (n:Nat):Oq Nat:=
 match i with
 | .ofNat k=>match k.blt n with
  | true=>some k
  | false=>none
 | .negSucc _=>none
def H9 (z:Nat) (x:AV) (i:Int) (st:St):Oq (AV×Ln):=
 match x with
 | .sl sz es _=>match sz.beq z with
  | true=>match oy i es.length with
   | some k=>match Fk es k with
    | some v=>some (.ip v.cells,[])
    | none=>none
   | none=>none
  | false=>none
 | .ms id off sz len _=>match sz.beq z with
  | true=>match oy i len with
   | some k=>some (.mp id (off+k * sz),[])
   | none=>none
  | false=>none
 | .gs k sz n=>match sz.beq z with
  | true=>match oy i n with
   | some j=>match st.get k with
    | .ok (.grow m _ z' es)=>match n.beq m&&z'.beq sz with
     | true=>match j.blt es.length with
      | true=>match Fk es j with
       | some v=>some (.ip v.cells,[k])
       | none=>none
      | false=>some (.gp k n (j * sz),[k])
     | false=>none
    | .ok (.row m _ z' _)=>match n.beq m&&z'.beq sz with
     | true=>some (.gp k n (j * sz),[k])
     | false=>none
    | _=>none
   | none=>none
  | false=>none
 | _=>none
def bL (z:Nat) (x:AV) (i:Int) (st:St) (K:AV->Ln->Oq β):Oq β:=aC (H9 z x i st) fun p=>K p.1 p.2
def Yo (z len:Nat) (x:AV) (i:Int) (K:AV->Oq β):Oq β:=
 nu i len fun k=>ch (k * z) x K
def kF (s:LB) (i:Int) (K:UInt8->Oq β):Oq β:=
 nu i s.length fun k=>match s[k]? with
  | some b=>K b
  | none=>none
def loS (lo:Oq Int) (h:Nat) (K:Nat->Oq β):Oq β:=
 match lo with
 | some l=>gM l h K
 | none=>K 0
def ZZ (hi:Oq Int) (m d:Nat) (K:Nat->Oq β):Oq β:=
 match hi with
 | some h=>gM h m K
 | none=>K d
def uU (hi:Oq Int) (m d:Nat):Oq Nat:=
 match hi with
 | some h=>match h with
  | .ofNat k=>match k.ble m with
   | true=>some k
   | false=>none
  | .negSucc _=>none
 | none=>some d
def mU (z:Nat) (x:AV) (lo hi mx:Oq Int):Oq AV:=
 match x,mx with
 | .ax,mx=>match uU mx 0 0 with
  | some m=>match uU hi m 0 with
   | some h=>match uU lo h 0 with
    | some _=>some .ax
    | none=>none
   | none=>none
  | none=>none
 | .es,mx=>match uU mx 0 0 with
  | some m=>match uU hi m 0 with
   | some h=>match uU lo h 0 with
    | some _=>some .es
    | none=>none
   | none=>none
  | none=>none
 | .ms id off sz len cap,mx=>match sz.beq z with
  | true=>match uU mx cap cap with
   | some m=>match uU hi m len with
    | some h=>match uU lo h 0 with
     | some l=>match h.ble m with
      | true=>some (.ms id (off+l * sz) sz (h - l) (m - l))
      | false=>none
     | none=>none
    | none=>none
   | none=>none
  | false=>none
 | .sl sz es p,none=>match sz.beq z with
  | true=>match uU hi es.length es.length with
   | some h=>match uU lo h 0 with
    | some l=>match h.beq es.length,p with
     | true,.shut=>some (.sl sz (es.drop l) .shut)
     | true,.own k=>match l.beq 0 with
      | true=>some (.sl sz es (.own k))
      | false=>some (.sl sz (es.drop l) .wide)
     | _,_=>some (.sl sz ((es.take h).drop l) .wide)
    | none=>none
   | none=>none
  | false=>none
 | .sl sz es _,some m=>match sz.beq z with
  | true=>match uU (some m) es.length 0 with
   | some m=>match uU hi m m with
    | some h=>match uU lo h 0 with
     | some l=>some (.sl sz ((es.take h).drop l) (match m.beq h with | true=> .shut | false=> .wide))
     | none=>none
    | none=>none
   | none=>none
  | false=>none
 | _,_=>none
def dL (z:Nat) (x:AV) (lo hi mx:Oq Int) (K:AV->Oq β):Oq β:=aC (mU z x lo hi mx) K
def WU (x:AV):Oq Nat:=
 match x with
 | .ax=>some 0
 | .sl _ e _=>some e.length
 | .ms _ _ _ len _=>some len
 | .gs _ _ n=>some n
 | .es=>some 0
 | _=>none
def dm (x:AV) (K:Nat->Oq β):Oq β:=aC (WU x) K
def oY (x:AV) (K:LA->Oq β):Oq β:=
 match qT x with
 | some l=>K l
 | none=>none
def xe (z b:Nat) (e:Td) (s:AV) (new:LA) (st:St):Oq Out:=
 match new with
 | []=>match s with
  | .ax=>some (.ax,st,q0)
  | .sl z es p=>some (.sl z es p,st,q0)
  | .es=>some (.es,st,q0)
  | _=>none
 | _:: _=>match s with
  | .ax=>match dn new.length ⟨.other,z,b,[],false,false⟩ with
   | true=>yM st (.tok new.length e) fun k=> .sl z new (.own k)
   | false=>none
  | .sl y es p=>match dn (es.length+new.length) ⟨.other,z,b,[],false,false⟩&&y.beq z with
   | true=>match p with
    | .shut=>yM st (.tok (es.length+new.length) e) fun k=> .sl y (es++new) (.own k)
    | .own k=>match st.get k with
     | .ok (.tok n a)=>match n.beq es.length&&a.beq e with
      | true=>kM st k (.tok (es.length+new.length) e) (.sl y (es++new) (.own k)) [k]
      | false=>none
     | _=>none
    | .wide=>none
   | false=>none
  | .es=>match dn new.length ⟨.other,z,b,[],false,false⟩ with
   | true=>yM st (.tok new.length e) fun k=> .sl z new (.own k)
   | false=>none
  | _=>none
def eI (z b:Nat) (e:Td) (s:AV) (new:LA) (st:St) (K:Kv β):Oq β:=oq (xe z b e s new st) K
def Yh (u:U) (x y:AV):Oq Bool:=
 match u,x,y with
 | .ptr _,.nilp,.nilp=>some true
 | .ptr _,.nilp,.ip _=>some false
 | .ptr _,.ip _,.nilp=>some false
 | .ptr _,.nilp,.mp .. =>some false
 | .ptr _,.mp ..,.nilp=>some false
 | .slice _,.ax,.ax=>some true
 | .slice _,.ax,.sl .. =>some false
 | .slice _,.sl ..,.ax=>some false
 | .slice _,.ax,.ms .. =>some false
 | .slice _,.ms ..,.ax=>some false
 | .slice _,.ax,.es=>some false
 | .slice _,.es,.ax=>some false
 | .map ..,.nilm,.nilm=>some true
 | .map ..,.nilm,.mm _=>some false
 | .map ..,.mm _,.nilm=>some false
 | .func,.nilfn,.nilfn=>some true
 | .func,.nilfn,.fn .. =>some false
 | .func,.fn ..,.nilfn=>some false
 | _,_,_=>none
def Pu (u:U) (x y:AV) (K:Bool->Oq β):Oq β:=aC (Yh u x y) K
def notNil:AV->Bool
 | .ip _=>true
 | .mp .. =>true
 | .gp .. =>true
 | .fn (.func _) _ _=>true
 | _=>false
def N4 (x:AV) (K:Oq β):Oq β:=cf (notNil x) K
def jw (prim:FuncId->Oq Prim) (f:AV) (args:LA):df dY:=
 match f with
 | .fn (.func g) first cap=>match prim g with
  | some q=>dK q (first++args++cap)
  | none=> .ok (.call g (first++args++cap))
 | .yld k=> .ok (.yield k args)
 | _=> .error "call: what?"
def iZ (O:tf) (prim:FuncId->Oq Prim) (f:AV) (args:LA) (st:St) (K:Kv β):Oq β:=oq (oN O (jw prim f args) st) K
def C4 (place:Nat->Oq (Nat×Nat)) (cells:LA):List (Nat×LA)->(LA->Oq β)->Oq β
 | [],K=>K cells
 | (i,cs)::l,K=>
  match place i with
  | none=>none
  | some (off,size)=>cf (cs.length.beq size&&(off+size).ble cells.length) (C4 place (cO cells off cs) l K)
abbrev PF:=List (Nat×AV)
def PF.get:PF->Nat->Oq AV
 | [],_=>none
 | (i,v)::l,j=>match i.beq j with
  | true=>some v
  | false=>PF.get l j
def ev (G:Nat->Oq LA) (p:PF) (x:Operand) (K:AV->Oq β):Oq β:=
 match x with
 | .tmp t=>match PF.get p t with
  | some v=>K v
  | none=>none
 | .const v=>match ofConst v with
  | .ok v=>K v
  | .error _=>none
 | .global g=>match G g with
  | some cs=>K (.ip cs)
  | none=>none
 | .func g=>K (.fn (.func g) [] [])
def Xp (G:Nat->Oq LA) (p:PF):List Operand->(LA->Oq β)->Oq β
 | [],K=>K []
 | x::l,K=>ev G p x fun v=>Xp G p l fun vs=>K (v::vs)
def YK (G:Nat->Oq LA) (p:PF) (x:Oq Operand) (K:Oq Int->Oq β):Oq β:=
 match x with
 | none=>K none
 | some x=>ev G p x fun v=>anyI v fun n=>K (some n)
def WA (T:TT) (G:Nat->Oq LA) (p:PF) (ty:Nat->Oq Td):List (Nat×Operand)->(List (Nat×LA)->Oq β)->Oq β
 | [],K=>K []
 | (i,x)::l,K=>match ty i with
  | none=>none
  | some t=>wg T t fun ti=>ev G p x fun v=>E4 ti.agg v fun cs=>WA T G p ty l fun r=>K ((i,cs)::r)
def IU (T:TT):List (Nat×Td)->(List (Nat×Nat)->Oq β)->Oq β
 | [],K=>K []
 | (o,t)::l,K=>wg T t fun i=>IU T l fun r=>K ((o,i.size)::r)
def nF:U->Bool
 | .ptr _=>true
 | .slice _=>true
 | .map .. =>true
 | .func=>true
 | _=>false
def LG (op:BinOp) (a:AV):Oq AV:=Rp op a
def X0 (T:TT) (op:BinOp) (t:Td) (x y:AV) (K:AV->Oq β):Oq β:=
 wg T t fun i=>match nF i.und,op with
  | true,.eql=>Pu i.und x y fun b=>K (.bool b)
  | true,.neq=>Pu i.und x y fun b=>K (.bool !b)
  | _,_=>match op,i.und with
   | .add,.str=>fG x fun a=>fG y fun b=>cf ((a.length+b.length).ble 9223372036854775807) (K (.str (a++b)))
   | .quo,.int k=>bK k x fun a=>bK k y fun b=>cf (!(decide (b=0))) (K (.int k (k.wrap (a.tdiv b))))
   | .rem,.int k=>bK k x fun a=>bK k y fun b=>cf (!(decide (b=0))) (K (.int k (a.tmod b)))
   | .shl,.int k=>bK k x fun a=>anyI y fun b=>cf (!(decide (b < 0))) (K (.int k (k.wrap (a * 2 ^ (min b.toNat k.bits)))))
   | .shr,.int k=>bK k x fun a=>anyI y fun b=>cf (!(decide (b < 0))) (K (.int k (a.fdiv (2 ^ (min b.toNat k.bits)))))
   | _,_=>aC (MD (binOp T op t x y)) K
def QS (S:Sx) (o:Op) (p:PF) (st:St) (K:Kv β):Oq β:=
 match o with
 | .move x | .assign x=>ev S.G p x fun v=>K v st q0
 | .pick c a b=>ev S.G p c fun c=>ct c fun c=>bu c (ev S.G p a fun v=>K v st q0) (ev S.G p b fun v=>K v st q0)
 | .alloc t=>wg S.T t fun i=>made st (.cells t i.zero) (fun k=> .mp k 0) K
 | .box t x=>wg S.T t fun i=>ev S.G p x fun v=>E4 i.agg v fun cs=>cf (cs.length.beq i.size) (BE cs (match S.imm t with
  | true=>Ol cs fun cs'=>K (.ip cs') st q0
  | false=>made st (.cells t cs) (fun k=> .mp k 0) K))
 | .build t parts=>wg S.T t fun i=>match i.und with
  | .struct fs=>WA S.T S.G p (fun k=>(fs[k]?).map (·.2)) parts.toList fun ps=>IU S.T fs fun sz=>C4 (fun k=>sz[k]?) i.zero ps fun cs=>K (.agg cs) st q0
  | .arr _ e=>WA S.T S.G p (fun _=>some e) parts.toList fun ps=>wg S.T e fun g=>C4 (fun k=>some (k * g.size,g.size)) i.zero ps fun cs=>K (.agg cs) st q0
  | _=>none
 | .buildSlice t len parts=>wg S.T t fun i=>match i.und with
  | .slice e=>wg S.T e fun g=>WA S.T S.G p (fun _=>some e) parts.toList fun ps=>cf ((len * g.size).ble 16777216&&Nat.ble 1 g.size) (C4 (fun k=>some (k * g.size,g.size)) (zeros g.zero len) ps fun cs=>BE cs (match group g.size g.agg len cs with
   | .ok vs=>ou g.agg vs fun vs'=>K (.sl g.size vs' .shut) st q0
   | .error _=>none))
  | _=>none
 | .makeSlice t l c=>ev S.G p l fun l=>ev S.G p c fun c=>cE S.O (qj S.T t l c) st K
 | .load t a=>wg S.T t fun i=>ev S.G p a fun a=>ao i.size i.agg a st fun v rd=>K v st ⟨rd,.kept⟩
 | .store t a x=>wg S.T t fun i=>ev S.G p a fun a=>ev S.G p x fun v=>E4 i.agg v fun cs=>BE cs (aK S.O i.size a v cs st K)
 | .nilCheck x=>ev S.G p x fun v=>N4 v (K v st q0)
 | .binOp op t x y _=>ev S.G p x fun a=>ev S.G p y fun b=>match VK y b&&Pm S.T t with
  | true=>aC (LG op a) fun v=>K v st q0
  | false=>X0 S.T op t a b fun v=>K v st q0
 | .unOp op _ x=>ev S.G p x fun x=>aC (MD (unOp op x)) fun v=>K v st q0
 | .convert s d x=>ev S.G p x fun x=>cE S.O (wJ S.T s d x) st K
 | .makeInterface t x=>wg S.T t fun i=>match i.und with
  | .iface _ | .other=>none
  | _=>ev S.G p x fun v=>K (.iface t v) st q0
 | .makeFunc f first cap=>Xp S.G p first.toList fun a=>Xp S.G p cap.toList fun c=>K (.fn f a c) st q0
 | .makeMap _ none=>made st (.map []) (fun k=> .mm k) K
 | .slice t x lo hi mx=>match mx,hi with
  | some _,none=>none
  | _,_=>wg S.T t fun i=>ev S.G p x fun x=>YK S.G p lo fun lo=>YK S.G p hi fun hi=>YK S.G p mx fun mx=>match i.und with
   | .str=>fG x fun s=>match mx with
    | none=>ZZ hi s.length s.length fun h=>loS lo h fun l=>K (.str ((s.take h).drop l)) st q0
    | some _=>none
   | .slice e=>wg S.T e fun g=>dL g.size x lo hi mx fun v=>K v st q0
   | _=>none
 | .fieldAddr t x f=>wg S.T t fun i=>match i.und with
  | .struct fs=>match fs[f]? with
   | some (off,q)=>wg S.T q fun r=>match r.size with
    | 0=>none
    | _+1=>ev S.G p x fun a=>ch off a fun a'=>K a' st q0
   | none=>none
  | _=>none
 | .field t x f=>ev S.G p x fun x=>aC (MD (field S.T t x f)) fun v=>K v st q0
 | .indexAddr t x i=>wg S.T t fun ti=>ev S.G p x fun x=>ev S.G p i fun i=>anyI i fun i=>match ti.und with
  | .slice e=>wg S.T e fun g=>bL g.size x i st fun a rd=>K a st ⟨rd,.kept⟩
  | .arr len e=>wg S.T e fun g=>Yo g.size len x i fun a=>K a st q0
  | _=>none
 | .index t x i=>wg S.T t fun ti=>ev S.G p x fun x=>ev S.G p i fun i=>match ti.und with
  | .str=>fG x fun s=>anyI i fun i=>kF s i fun b=>K (.int .u8 b.toNat) st q0
  | _=>aC (MD (Ap S.T t x i)) fun v=>K v st q0
 | .lookup t x k ok=>ev S.G p x fun x=>ev S.G p k fun k=>cE S.O (iT S.T t x k ok) st K
 | .mapUpdate t m k v | .insert t m k v=>ev S.G p m fun m=>ev S.G p k fun k=>ev S.G p v fun v=>cE S.O (qL S.T t m k v) st K
 | .range t x=>ev S.G p x fun x=>wg S.T t fun i=>match i.und with
  | .str=>fG x fun s=>made st (.sit s 0) (fun k=> .mp k 0) K
  | _=>none
 | .next x true=>ev S.G p x fun x=>cE S.O (Dj x) st K
 | .extract x i=>ev S.G p x fun x=>ig x fun vs=>cB vs i fun v=>K v st q0
 | .call c=>Xp S.G p c.args.toList fun args=>match c.callee with
  | .builtin b=>match b,c.argTypes.toList,args with
   | .len,t:: _,[x]=>wg S.T t fun i=>match i.und with
    | .str=>fG x fun s=>K (.int .i64 s.length) st q0
    | .slice _=>dm x fun n=>K (.int .i64 n) st q0
    | _=>cE S.O (Cv S.T t x) st K
   | .append,[t,xt],[s,x]=>wg S.T t fun i=>wg S.T xt fun u=>match i.und,Je u.und with
    | .slice e,true=>wg S.T e fun g=>oY x fun new=>match S.imm (1000000+t) with
     | true=>cE S.O (jn g e s new) st K
     | false=>match S.imm (2000000+t) with
     | true=>cE S.O (tn g e s new) st K
     | false=>match S.imm (3000000+t) with
     | true=>cE S.O (u5 g e s new) st K
     | false=>ou g.agg new fun j=>cf (nz g.size j) (eI g.size g.bytes e s j st K)
    | _,_=>none
   | b,ts,args=>cE S.O (fZ S.T S.imm b ts args) st K
  | .value f=>ev S.G p f fun f=>iZ S.O S.prim f args st K
  | .invoke .. =>none
 | _=>none
def ED (all:List Oper) (p:PF) (g:Oq (Nat×Bool)) (yes no:PF->Oq β):Oq β:=
 match g with
 | none=>yes p
 | some (j,want)=>match (all[j]?).bind (·.dst) with
  | some d=>match PF.get p d with
   | some v=>match v with
    | .bool b=>match want with
     | true=>bu b (yes ((d,.bool true)::p)) (no ((d,.bool false)::p))
     | false=>bu b (no ((d,.bool true)::p)) (yes ((d,.bool false)::p))
    | _=>no p
   | none=>none
  | none=>none
def AD (N:Nat) (d:Oq Tmp) (v:AV) (p:PF) (K:PF->Oq β):Oq β:=
 match d with
 | none=>K p
 | some d=>match d.blt N with
  | true=>K ((d,v)::p)
  | false=>none
def qK (ops:List Oper) (j:Nat) (x:Fx):List (Nat×Fx)->Bool
 | []=>true
 | (i,y)::l=>(behind ops (j+1) j i||apart y x)&&qK ops j x l
def Es (S:Sx) (N:Nat) (all:List Oper) (draw:Bool):(j:Nat)->(seen:List (Nat×Fx))->List Oper->PF->St->(PF->St->Oq β)->Oq β
 | _,_,[],p,st,K=>K p st
 | j,seen,o::l,p,st,K=>ED all p o.guard
  (fun p=>QS S o.op p st fun v st' x=>Gp (Eh o.op) S.T o.type v fun v=>match draw with
   | false=>AD N o.dst v p fun p=>Es S N all draw (j+1) seen l p st' K
   | true=>cf (qK all j x seen) (AD N o.dst v p fun p=>Es S N all draw (j+1) ((j,x)::seen) l p st' K))
  (fun p=>AD N o.dst undef p fun p=>Es S N all draw (j+1) seen l p st K)
def Xx (S:Sx) (e:Nat->Oq Nat) (o:Oper) (p:PF) (st:St) (K:Kv β):Oq β:=
 match tb e o with
 | some (t,nm)=>wg S.T t fun i=>H5 t i.zero nm st K
 | none=>QS S o.op p st K
def uo (S:Sx) (N:Nat) (e:Nat->Oq Nat) (all:List Oper):(j:Nat)->(seen:List (Nat×Fx))->List Oper->PF->St->(PF->St->Oq β)->Oq β
 | _,_,[],p,st,K=>K p st
 | j,seen,o::l,p,st,K=>ED all p o.guard
  (fun p=>Xx S e o p st fun v st' x=>Gp (Eh o.op) S.T o.type v fun v=>
   cf (qK all j x seen) (AD N o.dst v p fun p=>uo S N e all (j+1) ((j,x)::seen) l p st' K))
  (fun p=>AD N o.dst undef p fun p=>uo S N e all (j+1) seen l p st K)
def Wa (st:St):Ln->(St->Oq β)->Oq β
 | [],K=>K st
 | _::l,K=>bM (st.add .Bc) fun st=>Wa st l K
end
def oQ {σ β:Type} (F:σ->Oq (Sum σ β)):Nat->σ->Oq β
 | 0,_=>none
 | n+1,s=>match F s with
  | some (.inl s')=>oQ F n s'
  | some (.inr r)=>some r
  | none=>none
open Classical in
noncomputable def bl {σ β:Type} (F:σ->Oq (Sum σ β)) (s:σ):Oq β:=
 if h: ∃r n,oQ F n s=some r then some h.choose else none
structure Lv where
 falls:Bool
 outs:Ln
 rets:Bool
def leaves:Code->Lv
 | .skip=>⟨true,[],false⟩
 | .label _=>⟨true,[],false⟩
 | .region .. =>⟨true,[],false⟩
 | .seq a b=>let x:=leaves a;let y:=leaves b
  match x.falls with
  | true=>⟨y.falls,x.outs++y.outs,x.rets||y.rets⟩
  | false=>x
 | .cond _ a b=>let x:=leaves a;let y:=leaves b;⟨x.falls||y.falls,x.outs++y.outs,x.rets||y.rets⟩
 | .block id c=>let x:=leaves c;⟨x.falls||wq id x.outs,x.outs.filter fun i=> !i.beq id,x.rets⟩
 | .loop c=>let x:=leaves c;⟨false,x.outs.eraseDups,x.rets⟩
 | .scope c=>leaves c
 | .rangeFunc _ _ _ c=>let x:=leaves c;⟨true,x.outs.eraseDups,x.rets⟩
 | .exit i=>⟨false,[i],false⟩
 | .ret=>⟨false,[],true⟩
 | _=>⟨false,[],false⟩
def Ia (n:Nat):Ln->Nat
 | []=>0
 | m::l=>match n.beq m with
  | true=>Ia n l+1
  | false=>Ia n l
section
variable {β:Type}
def kN (p:PF):Ln->Ln
 | []=>[]
 | i::l=>match PF.get p i with
  | some _=>i::kN p l
  | none=>kN p l
def uB (live:Ln):Ln->Ln
 | []=>[]
 | i::l=>match wq i live with
  | true=>i::uB live l
  | false=>uB live l
def getAll (p:PF):Ln->(LA->Oq β)->Oq β
 | [],K=>K []
 | i::l,K=>match PF.get p i with
  | some v=>getAll p l fun vs=>K (v::vs)
  | none=>none
def erase (ws:Ln):PF->PF
 | []=>[]
 | (i,v)::l=>match wq i ws with
  | true=>erase ws l
  | false=>(i,v)::erase ws l
def NM:List (Nat×Td)->Nat->Oq Td
 | [],_=>none
 | (i,t)::l,j=>match i.beq j with
  | true=>some t
  | false=>NM l j
def Kf (T:TT) (tys:List (Nat×Td)) (i:Nat) (v:AV) (K:AV->Oq β):Oq β:=
 match NM tys i with
 | some t=>Gp false T t v K
 | none=>K v
def jq (T:TT) (tys:List (Nat×Td)):Ln->LA->PF->(PF->Oq β)->Oq β
 | [],vs,p,K=>bQ vs (K p)
 | i::l,vs,p,K=>bo vs fun v vs=>Kf T tys i v fun v=>jq T tys l vs p fun p=>K ((i,v)::p)
def CA:Ex->List Ex->Nat->Oq Nat
 | _,[],_=>none
 | x,y::l,n=>match decide (x=y) with
  | true=>some n
  | false=>CA x l (n+1)
def rM (n:Nat) (a:Oq β) (b:Nat->Oq β):Oq β:=
 match n with
 | 0=>a
 | n+1=>b n
def UC (K:Ex->Oq β):List Ex->Nat->Oq β
 | [],_=>none
 | x::l,n=>match l with
  | []=>K x
  | _:: _=>rM n (K x) fun n=>UC K l n
def vi:List Oper->Bool
 | []=>false
 | o::l=>match o.guard with
  | some _=>true
  | none=>vi l
end
def Oz {β:Type} (j x:Ex) (A B:Oq β):Oq β:=bu (decide (j=x)) A B
def E3 {β:Type} (j:Ex) (K:Ex->Oq β):List Ex->Oq β
 | []=>none
 | x::l=>Oz j x (K x) (E3 j K l)
def Yt {β:Type} (k:Nat) (st:St) (K:Ex->St->Oq β):Oq β:=
 match st.get k with
 | .ok (.loop _ _ _ _ _ s p)=>cf (s.beq 0||s.beq 2) (K p (st.put k .dead))
 | _=>none
def O4 {β:Type} (O:tf) (f:AV) (a:Obj) (st:St) (K:Ex->St->Oq β):Oq β:=
 match f with
 | .fn (.func g) [] cap=>aC (O.wide g (.yld st.h::cap) (st.add a)) fun r=>Yt st.h r.2 K
 | _=>none
abbrev cJ:=LA×St
noncomputable def nv (S:Sx) (N:Nat) (tys:List (Nat×Td)):Code->(live:Ln)->{β:Type}->PF->St->(Ex->PF->St->Oq β)->Oq β
 | .skip,_,_,p,st,K=>K .normal p st
 | .label _,_,_,p,st,K=>K .normal p st
 | .exit i,_,_,p,st,K=>K (.exit i) p st
 | .ret,_,_,p,st,K=>K .ret p st
 | .scope c,live,_,p,st,K=>nv S N tys c live p st K
 | .region _ ops draw,live,_,p,st,K=>
  match draw&&S.imm 4000000 with
  | false=>
   match vi ops.toList with
   | false=>Es S N ops.toList draw 0 [] ops.toList p st fun p st=>K .normal p st
   | true=>let ws:=dedup (uB live (cX ops.toList))
    aC (Es (β:=cJ) S N ops.toList draw 0 [] ops.toList p st fun p st=>getAll p ws fun vs=>some (vs,st)) fun c=>
     jq S.T tys ws c.1 (erase (cX ops.toList) p) fun p=>K .normal p c.2
  | true=>Wa st (qu ops.toList) fun st'=>
   match vi ops.toList with
   | false=>uo S N (C5 st.h (qu ops.toList)) ops.toList 0 [] ops.toList p st' fun p st=>K .normal p st
   | true=>let ws:=dedup (uB live (cX ops.toList))
    aC (uo (β:=cJ) S N (C5 st.h (qu ops.toList)) ops.toList 0 [] ops.toList p st' fun p st=>getAll p ws fun vs=>some (vs,st)) fun c=>
     jq S.T tys ws c.1 (erase (cX ops.toList) p) fun p=>K .normal p c.2
 | .seq a b,live,_,p,st,K=>nv S N tys a (zb b++live) p st fun ex p st=>match ex with
  | .normal=>nv S N tys b live p st K
  | ex=>K ex p st
 | .cond c a b,live,_,p,st,K=>ev S.G p c fun c=>ct c fun c=>
  let x:=leaves a;let y:=leaves b
  match x.falls&&y.falls with
  | false=>bu c (nv S N tys a live p st K) (nv S N tys b live p st K)
  | true=>
   let W:=writes a++writes b
   let ws:=dedup (kN p (uB live W))
   match (x.outs.isEmpty&&y.outs.isEmpty)&& !(x.rets||y.rets) with
   | true=>
    let J:Ex->PF->St->Oq cJ:=fun ex p st=>match ex with
     | .normal=>getAll p ws fun vs=>some (vs,st)
     | _=>none
    aC (bu c (nv S N tys a live p st J) (nv S N tys b live p st J)) fun c=>
     jq S.T tys ws c.1 (erase W p) fun p=>K .normal p c.2
   | false=>
    let J:Ex->PF->St->Oq (Sum cJ _):=fun ex p st=>match ex with
     | .normal=>getAll p ws fun vs=>some (.inl (vs,st))
     | ex=>aC (K ex p st) fun r=>some (.inr r)
    aC (bu c (nv S N tys a live p st J) (nv S N tys b live p st J)) fun r=>kZ r fun c=>jq S.T tys ws c.1 (erase W p) fun p=>K .normal p c.2
 | .block id c,live,_,p,st,K=>
  let x:=leaves c
  match ((match x.falls with | true=>1 | false=>0)+Ia id x.outs).ble 1 with
  | true=>nv S N tys c live p st fun ex p st=>match ex with
   | .exit i=>match i.beq id with
    | true=>K .normal p st
    | false=>K (.exit i) p st
   | ex=>K ex p st
  | false=>
   let W:=writes c
   let ws:=dedup (kN p (uB live W))
   let J:Ex->PF->St->Oq (Sum cJ _):=fun ex p st=>match ex with
    | .normal=>getAll p ws fun vs=>some (.inl (vs,st))
    | .exit i=>match i.beq id with
     | true=>getAll p ws fun vs=>some (.inl (vs,st))
     | false=>aC (K (.exit i) p st) fun r=>some (.inr r)
    | .ret=>aC (K .ret p st) fun r=>some (.inr r)
   aC (nv S N tys c live p st J) fun r=>kZ r fun c=>jq S.T tys ws c.1 (erase W p) fun p=>K .normal p c.2
 | .loop c,live,_,p,st,K=>
  let W:=writes c
  let ws:=dedup (kN p W)
  let us:=uB live ws
  let x:=leaves c
  let es:List Ex:=x.outs.eraseDups.map .exit++(match x.rets with | true=>[.ret] | false=>[])
  getAll p ws fun vs=>aC (bl (fun s:cJ=>jq S.T tys ws s.1 (erase W p) fun p=>nv (β:=Sum cJ (Nat×cJ)) S N tys c (ws++live) p s.2 fun ex p st=>match ex with
    | .normal=>getAll p ws fun vs=>some (.inl (vs,st))
    | ex=>aC (CA ex es 0) fun k=>getAll p us fun vs=>some (.inr (k,vs,st))) (vs,st)) fun r=>
   jq S.T tys us r.2.1 (erase W p) fun p=>UC (fun ex=>K ex p r.2.2) es r.1
 | .rangeFunc g ps a c,_,_,p,st,K=>
  let us:=sL ps.toList a c
  let x:=leaves c
  let es:List Ex:= .normal::(x.outs.eraseDups.map .exit++(match x.rets with | true=>[.ret] | false=>[]))
  ev S.G p g fun f=>getAll p us fun vs=>O4 S.O f (.loop S.imm ps.toList a c (Lq N us vs) 0 .normal) st fun j st'=>E3 j (fun ex=>K ex p st') es
 | _,_,_,_,_,_=>none
section
variable {β:Type}
def QT (S:Sx) (p:PF) (st:St) (r:ResultVar) (K:AV->Oq β):Oq β:=
 match r with
 | .tmp t=>match PF.get p t with
  | some v=>K v
  | none=>none
 | .cell a t=>wg S.T t fun i=>match PF.get p a with
  | some a=>ao i.size i.agg a st fun v _=>Gp false S.T t v K
  | none=>none
def K1 (S:Sx) (p:PF) (st:St):List ResultVar->(LA->Oq β)->Oq β
 | [],K=>K []
 | r::l,K=>QT S p st r fun v=>K1 S p st l fun vs=>K (v::vs)
def Em:List ResultVar->Ln
 | []=>[]
 | .tmp t::l=>t::Em l
 | .cell a _::l=>a::Em l
def lZ:Code->List (Nat×Td)
 | .region _ ops _=>go ops.toList
 | .seq a b=>lZ a++lZ b
 | .cond _ a b=>lZ a++lZ b
 | .block _ c=>lZ c
 | .loop c=>lZ c
 | .scope c=>lZ c
 | .rangeFunc _ _ a c=>lZ a++lZ c
 | _=>[]
 where
 go:List Oper->List (Nat×Td)
  | []=>[]
  | o::l=>match o.dst with
   | some d=>(d,o.type)::go l
   | none=>go l
def FL:Nat->List Td->List (Nat×Td)
 | _,[]=>[]
 | i,t::l=>(i,t)::FL (i+1) l
def HI (T:TT):Nat->List Td->LA->PF->(PF->Oq β)->Oq β
 | _,_,[],p,K=>K p
 | i,ts,v::vs,p,K=>match ts with
  | []=>HI T (i+1) [] vs ((i,v)::p) K
  | t::ts=>Gp false T t v fun v=>HI T (i+1) ts vs ((i,v)::p) K
noncomputable def Kb (S:Sx) (fn:Func) (args:LA) (st:St) (K:AV->St->Oq β):Oq β:=
 match fn.body with
 | none=>none
 | some c=>match args.length.ble fn.ntmps with
  | false=>none
  | true=>HI S.T 0 fn.params.toList args [] fun p=>nv S fn.ntmps (FL 0 fn.params.toList++lZ c) c (Em fn.results.toList) p st fun ex p st=>match ex with
   | .exit _=>none
   | _=>K1 S p st fn.results.toList fun vs=>K (oneOf vs) st
def eF (st:St) (base:Nat) (v:AV) (K:AV->Oq β):Oq β:=
 match freeze st base 100 v with
 | .ok v=>cf (bare v) (K v)
 | .error _=>none
end
def lA (P:Nat->Prop):Prop:= ∃m,∀n,m<=n->P n
theorem lA.always {P:Nat->Prop} (h: ∀n,P n):lA P:=⟨0,fun n _=>h n⟩
theorem lA.lift {P Q:Nat->Prop} (h:lA P) (k: ∀n,P n->Q n):lA Q:=by
 obtain ⟨m,h⟩:=h;exact ⟨m,fun n hn=>k n (h n hn)⟩
theorem lA.both {P Q:Nat->Prop} (h:lA P) (k:lA Q):lA fun n=>P n/\Q n:=by
 obtain ⟨m,h⟩:=h;obtain ⟨a,k⟩:=k;exact ⟨max m a,fun n hn=>⟨h n (by omega),k n (by omega)⟩⟩
section
variable {β:Type} {r:β}
theorem vU {α:Type} {x:df α} {a:α} (h:MD x=some a):x= .ok a:=by
 cases x <;> simp_all [MD]
theorem bN {α:Type} {x:Oq α} {K:α->Oq β} (h:aC x K=some r): ∃a,x=some a/\K a=some r:=by
 cases x with
 | none=>simp [aC] at h
 | some a=>exact ⟨a,rfl,h⟩
theorem nY {k:IntKind} {v:AV} {K:Int->Oq β} (h:bK k v K=some r): ∃n,v= .int k n/\K n=some r:=by
 unfold bK at h;split at h
 .rename_i j n;split at h
  .rename_i e;have e:=abW e;subst e;exact ⟨n,rfl,h⟩
  .cases h
 .cases h
theorem BH {v:AV} {K:Bool->Oq β} (h:ct v K=some r): ∃b,v= .bool b/\K b=some r:=by
 unfold ct at h;split at h
 .exact ⟨_,rfl,h⟩
 .cases h
theorem oj {v:AV} {K:LB->Oq β} (h:fG v K=some r): ∃b,v= .str b/\K b=some r:=by
 unfold fG at h;split at h
 .exact ⟨_,rfl,h⟩
 .cases h
theorem qc {v:AV} {K:Int->Oq β} (h:anyI v K=some r): ∃k n,v= .int k n/\K n=some r:=by
 unfold anyI at h;split at h
 .exact ⟨_,_,rfl,h⟩
 .cases h
theorem Ah {v:AV} {K:LA->Oq β} (h:uz v K=some r): ∃cs,v= .agg cs/\K cs=some r:=by
 unfold uz at h;split at h
 .exact ⟨_,rfl,h⟩
 .cases h
theorem NJ {v:AV} {K:LA->Oq β} (h:ig v K=some r): ∃cs,v= .tup cs/\K cs=some r:=by
 unfold ig at h;split at h
 .exact ⟨_,rfl,h⟩
 .cases h
theorem Hd {l:LA} {K:AV->LA->Oq β} (h:bo l K=some r): ∃v vs,l=v::vs/\K v vs=some r:=by
 unfold bo at h;split at h
 .exact ⟨_,_,rfl,h⟩
 .cases h
theorem GS {l:LA} {K:Oq β} (h:bQ l K=some r):l=[]/\K=some r:=by
 unfold bQ at h;split at h
 .exact ⟨rfl,h⟩
 .cases h
theorem eT {b:Bool} {K:Oq β} (h:cf b K=some r):b=true/\K=some r:=by
 cases b
 .cases h
 .exact ⟨rfl,h⟩
theorem MC {cs:LA} {off:Nat} {K:AV->Oq β} (h:cB cs off K=some r): ∃v,cs[off]? =some v/\K v=some r:=by
 unfold cB at h;split at h
 .exact ⟨_,by assumption,h⟩
 .cases h
theorem Gi: ∀{cs:LA} {off:Nat} {v:AV},cs[off]? =some v->fM cs off= .ok v
 | [],_,_,h=>by simp at h
 | _:: _,0,_,h=>by simp at h;simp [fM,h]
 | _::l,n+1,_,h=>by simp at h;simp only [fM];exact Gi h
theorem DI {b:Bool} {z v:AV} {K:AV->Oq β} (h:SG b z v K=some r):K v=some r:=by
 unfold SG at h;split at h
 .obtain ⟨n,rfl,a⟩:=nY h;cases b <;> exact a
 .obtain ⟨n,rfl,a⟩:=BH h;exact a
 .obtain ⟨n,rfl,a⟩:=oj h;cases b <;> exact a
 .exact h
theorem CN: ∀{zs cs:LA} {K:LA->Oq β},Qb zs cs K=some r->K cs=some r
 | [],cs,K,h=>by
  obtain ⟨rfl,h⟩:=GS h;exact h
 | z::zs,cs,K,h=>by
  obtain ⟨v,l,rfl,b⟩:=Hd h;exact CN (K:=fun a=>K (v::a)) (DI (K:=fun v'=>Qb zs l fun a=>K (v'::a)) b)
theorem lF {b:Bool} {T:TT} {t:Td} {v:AV} {K:AV->Oq β} (h:Gp b T t v K=some r):K v=some r:=by
 unfold Gp at h;split at h
 .split at h
  .split at h
   .obtain ⟨cs,rfl,h⟩:=Ah h;exact CN (K:=fun cs'=>K (.agg cs')) h
   .exact h
  .split at h
   .exact DI h
   .exact h
 .exact h
theorem cN {T:TT} {t:Td} {K:TI->Oq β} (h:wg T t K=some r): ∃i,ti T t= .ok i/\K i=some r:=by
 unfold wg at h;split at h
 .rename_i i e;exact ⟨i,cH.2 e,h⟩
 .cases h
theorem MN {v:AV} (h:one v=true):v.cells=[v]:=by
 cases v <;> first | rfl | (cases h;done)
theorem sf {agg:Bool} {v:AV} {K:LA->Oq β} (h:E4 agg v K=some r):K v.cells=some r/\(agg=true-> ∃cs,v= .agg cs)/\(agg=false->one v=true):=by
 cases agg with
 | true=>obtain ⟨cs,rfl,h⟩:=Ah h;exact ⟨h,fun _=>⟨cs,rfl⟩,(by intro h;cases h)⟩
 | false=>
  obtain ⟨h1,h⟩:=eT h;rw [MN h1];exact ⟨h,(by intro h;cases h),fun _=>h1⟩
theorem ot: ∀{cs:LA} {K:Oq β},BE cs K=some r->gh cs=true/\K=some r
 | [],_,h=>⟨rfl,h⟩
 | v::l,K,h=>by
  obtain ⟨h1,h⟩:=eT h;obtain ⟨a,h⟩:=ot h;exact ⟨by simp [gh,h1,a],h⟩
theorem CC {v:AV} {K:AV->Oq β} (h:aD v K=some r): ∃v',fit v= .ok v'/\K v'=some r:=by
 unfold aD at h;split at h
 .exact ⟨_,by assumption,h⟩
 .cases h
theorem xQ: ∀{cs:LA} {K:LA->Oq β},Ol cs K=some r-> ∃cs',fits cs= .ok cs'/\K cs'=some r
 | [],_,h=>⟨[],rfl,h⟩
 | v::l,K,h=>by
  obtain ⟨v',e,h⟩:=CC h;obtain ⟨a,b,h⟩:=xQ h;exact ⟨v'::a,by simp [fits,e,b];rfl,h⟩
theorem Rc {v v':AV} (h:one v=true) (e:fit v= .ok v'):v'=strip v/\bare (strip v)=true:=by
 have:fit v=(match bare (strip v) with | true=> .ok (strip v) | false=> .error "a name within what never changes"):=by
  cases v <;> first | rfl | (cases h;done)
 rw [this] at e;split at e
 .rename_i a;cases e;exact ⟨rfl,a⟩
 .cases e
theorem zQ: ∀{cs cs':LA},gh cs=true->fits cs= .ok cs'->cs'=cs.map strip/\bH (cs.map strip)=true
 | [],cs',_,e=>by cases e;exact ⟨rfl,rfl⟩
 | v::l,cs',h,e=>by
  simp only [gh,aak] at h;simp only [fits,ag,aj] at e;obtain ⟨v',a,d,b,rfl⟩:=e;obtain ⟨rfl,h1⟩:=Rc h.1 a;obtain ⟨rfl,c⟩:=zQ h.2 b;exact ⟨rfl,by simp [aJ,h1,c]⟩
theorem Rw {cs cs':LA} (h:gh cs=true) (e:fits cs= .ok cs'):fit (.agg cs)= .ok (.agg cs'):=by
 obtain ⟨rfl,a⟩:=zQ h e;simp only [fit];have:bare (.agg (cs.map strip))=true:=a;rw [this]
theorem Lm {agg:Bool} {v:AV} {K:AV->Oq β} (h:Ml agg v K=some r): ∃v',fit v= .ok v'/\K v'=some r:=by
 cases agg with
 | true=>
  obtain ⟨cs,rfl,h⟩:=Ah h;obtain ⟨h1,h⟩:=ot h;obtain ⟨cs',e,h⟩:=xQ h;exact ⟨_,Rw h1 e,h⟩
 | false=>exact CC h
theorem uH {agg:Bool}: ∀{vs:LA} {K:LA->Oq β},ou agg vs K=some r-> ∃vs',fits vs= .ok vs'/\K vs'=some r
 | [],_,h=>⟨[],rfl,h⟩
 | v::l,K,h=>by
  obtain ⟨v',e,h⟩:=Lm h;obtain ⟨a,b,h⟩:=uH h;exact ⟨v'::a,by simp [fits,e,b];rfl,h⟩
end
section
variable {E:Env} {O:tf}
structure Sg (E:Env) (O:tf):Prop where
 full:O.full=E.full
 isLook:O.isLook=E.isLook
 bare: ∀f a v,O.bare f a=some v->lA fun n=>(caller E n).bare f a= .ok v
 wide: ∀f a st v,O.wide f a st=some v->lA fun n=>(caller E n).wide f a st= .ok v
 look: ∀f a st v,O.look f a st=some v->lA fun n=>(caller E n).look f a st= .ok v
 round: ∀k a st v,O.round k a st=some v->lA fun n=>(caller E n).round k a st= .ok v
theorem su (E:Env): ∀n,(caller E n).full=E.full
 | 0=>rfl
 | _+1=>rfl
theorem ug (E:Env): ∀n,(caller E n).isLook=E.isLook
 | 0=>rfl
 | _+1=>rfl
def eN (E:Env) (st:St) (p:df dY) (v:AV) (x:Fx):Prop:=lA fun n=>(p >>= aE (caller E n) st)= .ok (v,x)
variable {β:Type} {r:β} {K:Kv β} {st:St}
theorem pN {q:Oq Out} (h:oq q K=some r): ∃v st' x,q=some (v,st',x)/\K v st' x=some r:=by
 obtain ⟨⟨v,st',x⟩,e,h⟩:=bN h;exact ⟨v,st',x,e,h⟩
theorem sJ {id:Nat} {o:Obj} {v u:AV} {rd:Ln} {st':St} {x:Fx} (h:kM st id o v rd=some (u,st',x)):fh st id (some o)= .ok (.wrote id o)/\u=v/\x=⟨rd,.wrote id o⟩/\st'=x.did.app st:=by
 unfold kM at h;split at h
 .rename_i h1;simp only [aas,aaj] at h;obtain ⟨rfl,rfl,rfl⟩:=h;have:id.blt st.ro=false:=da.2 (aah h1);exact ⟨by simp only [fh,this],rfl,rfl,rfl⟩
 .cases h
theorem nT {o:Obj} {f:Nat->AV} {v:AV} {st':St} {x:Fx} (h:yM st o f=some (v,st',x)):eN E st (.ok (.new o f)) v x/\st'=x.did.app st:=by
 simp only [yM,aas,aaj] at h;obtain ⟨rfl,rfl,rfl⟩:=h;exact ⟨lA.always fun _=>rfl,rfl⟩
theorem Lh {o:Obj} {f:Nat->AV} (h:made st o f K=some r): ∃v x,eN E st (.ok (.new o f)) v x/\K v (x.did.app st) x=some r:=by
 obtain ⟨v,st',x,e,h⟩:=pN h;obtain ⟨hp,rfl⟩:=nT (E:=E) e;exact ⟨v,x,hp,h⟩
theorem uD (a:Sg E O) {p:df dY} {v:AV} {st':St} {x:Fx} (h:oN O p st=some (v,st',x)):eN E st p v x/\st'=x.did.app st:=by
 unfold oN at h;split at h
 .cases h;exact ⟨lA.always fun _=>rfl,rfl⟩
 .rename_i id f;split at h
  .rename_i o ho;split at h
   .rename_i v e;cases h;exact ⟨lA.always fun _=>by simp only [aA,aE,ho,e,fh];rfl,rfl⟩
   .rename_i v o' e;obtain ⟨h1,rfl,rfl,rfl⟩:=sJ h;exact ⟨lA.always fun _=>by simp only [aA,aE,ho,e,h1];rfl,rfl⟩
   .cases h
  .cases h
 .rename_i id k f;split at h
  .rename_i o ho;split at h
   .rename_i e;split at h
    .rename_i v c;cases h;exact ⟨lA.always fun _=>by simp only [aA,aE,ho,e,c];rfl,rfl⟩
    .cases h
   .rename_i j e;split at h
    .rename_i h1;split at h
     .rename_i o' d;split at h
      .rename_i v c;cases h;exact ⟨lA.always fun _=>by simp only [aA,aE,ho,e,h1,d,c];rfl,rfl⟩
      .cases h
     .cases h
    .cases h
   .cases h
  .cases h
 .exact nT h
 .rename_i f args;unfold De at h;split at h
  .rename_i b;split at h
   .rename_i v e;cases h;refine ⟨(a.bare _ _ _ e).lift fun n hn=> ?_,rfl⟩;rw [a.full] at b;simp only [aA,aE,su,b,hn];rfl
   .cases h
  .rename_i b;split at h
   .rename_i hl;split at h
    .rename_i v e;cases h;refine ⟨(a.look _ _ _ _ e).lift fun n hn=> ?_,rfl⟩;rw [a.full] at b;rw [a.isLook] at hl;simp only [aA,aE,su,ug,b,hl,hn];rfl
    .cases h
   .rename_i hl;split at h
    .rename_i p e;cases h;refine ⟨(a.wide _ _ _ _ e).lift fun n hn=> ?_,rfl⟩;rw [a.full] at b;rw [a.isLook] at hl;simp only [aA,aE,su,ug,b,hl,hn];rfl
    .cases h
 .rename_i k args;unfold Nk at h;split at h
  .rename_i p e;cases h;refine ⟨(a.round _ _ _ _ e).lift fun n hn=> ?_,rfl⟩;simp only [aA,aE,hn];rfl
  .cases h
 .cases h
theorem I7 (a:Sg E O) {p:df dY} (h:cE O p st K=some r): ∃v x,eN E st p v x/\K v (x.did.app st) x=some r:=by
 obtain ⟨v,st',x,e,h⟩:=pN h;obtain ⟨hp,rfl⟩:=uD a e;exact ⟨v,x,hp,h⟩
theorem eN.of {p q:df dY} {v:AV} {x:Fx} (e:p=q) (h:eN E st p v x):eN E st q v x:=e ▸ h
end
section
variable {β:Type} {r:β}
theorem vp {i:Int} {n:Nat} {K:Nat->Oq β} (h:nu i n K=some r): ∃k,inside i n= .ok k/\K k=some r:=by
 unfold nu at h;split at h
 .rename_i k;obtain ⟨h1,h⟩:=eT h;exact ⟨k,by simp only [inside,h1],h⟩
 .cases h
theorem Ba {i:Int} {n:Nat} {K:Nat->Oq β} (h:gM i n K=some r): ∃k,upto i n= .ok k/\K k=some r:=by
 unfold gM at h;split at h
 .rename_i k;obtain ⟨h1,h⟩:=eT h;exact ⟨k,by simp only [upto,h1],h⟩
 .cases h
theorem O6 {lo:Oq Int} {m:Nat} {K:Nat->Oq β} (h:loS lo m K=some r): ∃k,tW lo m= .ok k/\K k=some r:=by
 cases lo with
 | none=>exact ⟨0,rfl,h⟩
 | some l=>exact Ba h
theorem N7 {hi:Oq Int} {m d:Nat} {K:Nat->Oq β} (h:ZZ hi m d K=some r): ∃k,mL hi m d= .ok k/\K k=some r:=by
 cases hi with
 | none=>exact ⟨d,rfl,h⟩
 | some l=>exact Ba h
end
def Fr.look (fr:Fr) (i:Nat):Oq AV:=match fr.strict with
 | true=>fr.t.get i
 | false=>some (fr.get i)
theorem wN {fr:Fr} {i:Nat} {v:AV} (h:fr.look i=some v):fr.get i=v:=by
 unfold Fr.look at h;split at h
 .unfold Fr.get;rw [h];rfl
 .exact abp h
theorem MY {G:Nat->Oq LA} {fr:Fr} {i:Nat} {v:AV} (h:fr.look i=some v):cq G fr (.tmp i)= .ok v:=by
 unfold Fr.look at h;simp only [cq];split at h
 .rename_i e;rw [e];dsimp only;rw [h]
 .rename_i e;rw [e];dsimp only;rw [Option.some.inj h]
theorem Gl {fr:Fr} {d i:Nat} {v:AV} (a:d < fr.n):(fr.put (some d) v).look i=if d=i then some v else fr.look i:=by
 have b:d.blt fr.n=true:=cZ.2 a;have e:fr.put (some d) v=⟨fr.n,fr.t.put d v,fr.strict⟩:=by simp only [Fr.put,b]
 rw [e];unfold Fr.look Fr.get;dsimp only;rw [Tr.lY];by_cases h:d=i
 .rw [if_pos h,if_pos h];cases fr.strict <;> rfl
 .rw [if_neg h,if_neg h]
def Sub (N:Nat) (p:PF) (fr:Fr):Prop:=fr.n=N/\ ∀i v,PF.get p i=some v->fr.look i=some v
theorem PF.nZ {i j:Nat} {v:AV} {l:PF}:PF.get ((i,v)::l) j=if i=j then some v else PF.get l j:=by
 simp only [PF.get];by_cases h:i=j
 .simp [h]
 .have:i.beq j=false:=by
   cases e:i.beq j
   .rfl
   .exact absurd (aap e) h
  simp [this,h]
section
variable {β:Type} {r:β} {N:Nat} {p:PF} {fr:Fr} {G:Nat->Oq LA} {T:TT} {E:Env} {O:tf} {st:St}
theorem bX {x:Operand} {K:AV->Oq β} (h:ev G p x K=some r) (hs:Sub N p fr): ∃v,cq G fr x= .ok v/\K v=some r:=by
 unfold ev at h;split at h
 .split at h
  .rename_i v e;exact ⟨v,MY (hs.2 _ _ e),h⟩
  .cases h
 .split at h
  .rename_i v e;exact ⟨v,by simp only [cq,e],h⟩
  .cases h
 .split at h
  .rename_i cs e;exact ⟨_,by simp only [cq,e],h⟩
  .cases h
 .exact ⟨_,rfl,h⟩
theorem wG: ∀{l:List Operand} {K:LA->Oq β},Xp G p l K=some r->Sub N p fr-> ∃vs,oR G fr l= .ok vs/\K vs=some r
 | [],_,h,_=>⟨[],rfl,h⟩
 | x::l,K,h,hs=>by
  obtain ⟨v,e,h⟩:=bX h hs;obtain ⟨vs,a,h⟩:=wG h hs;exact ⟨v::vs,by simp only [oR,e,a,aA,aH],h⟩
theorem BR {x:Oq Operand} {K:Oq Int->Oq β} (h:YK G p x K=some r) (hs:Sub N p fr): ∃o a,eQ G fr x= .ok o/\mI o= .ok a/\K a=some r:=by
 cases x with
 | none=>exact ⟨none,none,rfl,rfl,h⟩
 | some x=>
  obtain ⟨v,e,h⟩:=bX h hs;obtain ⟨k,n,rfl,h⟩:=qc h;exact ⟨some (.int k n),some n,by simp only [eQ,e,aA,aH],rfl,h⟩
theorem wD {ty:Nat->Oq Td}: ∀{l:List (Nat×Operand)} {K:List (Nat×LA)->Oq β},WA T G p ty l K=some r->Sub N p fr->
  ∃vs:List (Nat×AV),gS G fr l= .ok vs/\K (vs.map fun q=>(q.1,q.2.cells))=some r
 | [],_,h,_=>⟨[],rfl,h⟩
 | (i,x)::l,K,h,hs=>by
  unfold WA at h;split at h
  .cases h
  .obtain ⟨ti,_,h⟩:=cN h;obtain ⟨v,e,h⟩:=bX h hs;obtain ⟨h,_,_⟩:=sf h;obtain ⟨vs,a,h⟩:=wD h hs;exact ⟨(i,v)::vs,by simp only [gS,e,a,aA,aH],h⟩
theorem qh {place:Nat->Oq (Nat×Nat)}: ∀{vs:List (Nat×AV)} {cells:LA} {K:LA->Oq β},C4 place cells (vs.map fun q=>(q.1,q.2.cells)) K=some r-> ∃cs,mM place cells vs= .ok cs/\K cs=some r
 | [],cells,_,h=>⟨cells,rfl,h⟩
 | (i,v)::vs,cells,K,h=>by
  simp only [aan,C4] at h;split at h
  .cases h
  .rename_i off size e;obtain ⟨h1,h⟩:=eT h;obtain ⟨cs,a,h⟩:=qh h;exact ⟨cs,by simp only [mM,e,h1,a],h⟩
theorem yk: ∀{l:List (Nat×Td)} {K:List (Nat×Nat)->Oq β},IU T l K=some r-> ∃ps,qJ T l= .ok ps/\K ps=some r
 | [],_,h=>⟨[],rfl,h⟩
 | (o,t)::l,K,h=>by
  obtain ⟨i,e,h⟩:=cN h;obtain ⟨ps,a,h⟩:=yk h;exact ⟨_,by simp only [qJ,e,a,aA,aH],h⟩
theorem x8: ∀{l:LA} {n:Nat} {v:AV},Fk l n=some v->fM l n= .ok v
 | [],_,_,h=>by cases h
 | _:: _,0,_,h=>by cases h;rfl
 | _::l,n+1,_,h=>x8 (l:=l) (n:=n) h
theorem kJ {i:Int} {n k:Nat} (h:oy i n=some k):inside i n= .ok k:=by
 unfold oy at h;split at h
 .split at h
  .rename_i h1;cases h;simp only [inside,h1]
  .cases h
 .cases h
theorem Ix {i:TI} {a:AV} {K:Kv β} (h:(ao i.size i.agg a st fun v rd=>K v st ⟨rd,.kept⟩)=some r): ∃v x,eN E st (nU i a) v x/\K v (x.did.app st) x=some r:=by
 obtain ⟨⟨v,rd⟩,e,h⟩:=bN h;unfold Hn at e;split at e
 .split at e
  .rename_i b;cases e;exact ⟨v,q0,lA.always fun _=>by simp only [nU,b,aA,aH,aE];rfl,h⟩
  .cases e
 .rename_i id off;split at e
  .rename_i t cs b;split at e
   .rename_i c;cases e;exact ⟨v,⟨[id],.kept⟩,lA.always fun _=>by simp only [nU,jD,b,c,aA,aH,aE,cellsOf,fh],h⟩
   .cases e
  .cases e
 .rename_i k n off;split at e
  .rename_i m d z cs b;split at e
   .rename_i hm;split at e
    .rename_i c;cases e;exact ⟨v,⟨[k],.kept⟩,lA.always fun _=>by simp only [nU,jD,b,c,hm,aA,aH,aE,fh],h⟩
    .cases e
   .cases e
  .cases e
 .cases e
theorem FB (b:Sg E O) {i:TI} {a v:AV} {K:Kv β} (c:gh v.cells=true) (h:aK O i.size a v v.cells st K=some r): ∃u x,eN E st (match a with | .gp k m off=>kY i k m off v | a=>xG i a v) u x/\K u (x.did.app st) x=some r:=by
 obtain ⟨u,st',x,e,h⟩:=pN h;unfold E6 at e;split at e
 .rename_i id off;split at e
  .rename_i h1;split at e
   .rename_i t cs d;split at e
    .rename_i f;obtain ⟨g,rfl,rfl,rfl⟩:=sJ e;refine ⟨undef,_,lA.always fun _=> ?_,h⟩;simp only [xG,h1,c,aaI,aA,aE,d,oC,f,aH];rw [show cO cs off v.cells=U0 cs off v.cells from rfl,g];rfl
    .cases e
   .cases e
  .cases e
 .obtain ⟨h1,rfl⟩:=uD b e;exact ⟨u,x,h1,h⟩
 .cases e
theorem Mh {t e:Td} {i o:TI} {x:AV} {j:Int} {k:IntKind} {K:Kv β} (hi:ti T t= .ok i) (f:i.und= .slice e) (he:ti T e= .ok o) (h:(bL o.size x j st fun a rd=>K a st ⟨rd,.kept⟩)=some r):
  ∃v x',eN E st (match x with | .gs a z n=>mz T t a z n (.int k j) | x=>(do pure (.val (<- indexAddr T t x (.int k j))))) v x'/\K v (x'.did.app st) x'=some r:=by
 obtain ⟨⟨v,rd⟩,b,h⟩:=bN h;unfold H9 at b;split at b
 .split at b
  .rename_i h1;split at b
   .rename_i n c;split at b
    .rename_i u d;cases b;refine ⟨_,q0,lA.always fun _=> ?_,h⟩;simp only [indexAddr,VM.asInt,aA,hi,f,kJ c,he,h1,x8 d,aH,aE];rfl
    .cases b
   .cases b
  .cases b
 .split at b
  .rename_i h1;split at b
   .rename_i n c;cases b;refine ⟨_,q0,lA.always fun _=> ?_,h⟩;simp only [indexAddr,VM.asInt,aA,hi,f,kJ c,he,h1,aH,aE];rfl
   .cases b
  .cases b
 .rename_i a sz n;split at b
  .rename_i h1;split at b
   .rename_i m c;split at b
    .rename_i mm p z' es g;split at b
     .rename_i d;split at b
      .rename_i l;split at b
       .rename_i u q;cases b;refine ⟨_,⟨[a],.kept⟩,lA.always fun _=> ?_,h⟩;simp only [mz,VM.asInt,aA,hi,f,kJ c,he,h1,jD,aE,g,d,l,x8 q,aH,fh]
       .cases b
      .rename_i l;cases b;refine ⟨_,⟨[a],.kept⟩,lA.always fun _=> ?_,h⟩;simp only [mz,VM.asInt,aA,hi,f,kJ c,he,h1,jD,aE,g,d,l,aH,fh]
     .cases b
    .rename_i mm p z' cs g;split at b
     .rename_i d;cases b;refine ⟨_,⟨[a],.kept⟩,lA.always fun _=> ?_,h⟩;simp only [mz,VM.asInt,aA,hi,f,kJ c,he,h1,jD,aE,g,d,aH,fh]
     .cases b
    .cases b
   .cases b
  .cases b
 .cases b
theorem CK {off:Nat} {a:AV} {K:AV->Oq β} (h:ch off a K=some r):(∃cs,a= .ip cs/\K (.ip (cs.drop off))=some r)\/(∃id o,a= .mp id o/\K (.mp id (o+off))=some r)\/(∃id n o,a= .gp id n o/\K (.gp id n (o+off))=some r):=by
 obtain ⟨v,e,h⟩:=bN h;unfold Xd at e;split at e
 .cases e;exact .inl ⟨_,rfl,h⟩
 .cases e;exact .inr (.inl ⟨_,_,rfl,h⟩)
 .cases e;exact .inr (.inr ⟨_,_,_,rfl,h⟩)
 .cases e
theorem Mn {t e:Td} {i d:TI} {x:AV} {j:Int} {k:IntKind} {len:Nat} {K:Kv β} (hi:ti T t= .ok i) (b:i.und= .arr len e) (he:ti T e= .ok d) (h:(Yo d.size len x j fun a=>K a st q0)=some r):
  ∃v x',eN E st (match x with | .gs a z n=>mz T t a z n (.int k j) | x=>(do pure (.val (<- indexAddr T t x (.int k j))))) v x'/\K v (x'.did.app st) x'=some r:=by
 obtain ⟨n,c,h⟩:=vp h;rcases CK h with ⟨cs,rfl,h⟩ | ⟨id,o,rfl,h⟩ | ⟨id,m,o,rfl,h⟩
 .refine ⟨_,q0,lA.always fun _=> ?_,h⟩;simp only [indexAddr,VM.asInt,aA,hi,b,c,he,aH,aE];rfl
 .refine ⟨_,q0,lA.always fun _=> ?_,h⟩;simp only [indexAddr,VM.asInt,aA,hi,b,c,he,aH,aE];rfl
 .refine ⟨_,q0,lA.always fun _=> ?_,h⟩;simp only [indexAddr,VM.asInt,aA,hi,b,c,he,aH,aE];rfl
theorem rb {hi:Oq Int} {m d a:Nat} (h:uU hi m d=some a):mL hi m d= .ok a:=by
 unfold uU at h;split at h
 .split at h
  .split at h
   .rename_i h1;cases h;simp only [mL,upto,h1]
   .cases h
  .cases h
 .cases h;rfl
theorem Bo {lo:Oq Int} {m a:Nat} (h:uU lo m 0=some a):tW lo m= .ok a:=by
 unfold uU at h;split at h
 .split at h
  .split at h
   .rename_i h1;cases h;simp only [tW,upto,h1]
   .cases h
  .cases h
 .cases h;rfl
theorem Hr {t e:Td} {i q:TI} {x:AV} {lo hi mx:Oq Int} {g j l:Oq AV} {K:AV->Oq β} (n:ti T t= .ok i) (o:i.und= .slice e) (he:ti T e= .ok q)
  (hl:mI g= .ok lo) (p:mI j= .ok hi) (hm:mI l= .ok mx) (h:dL q.size x lo hi mx K=some r): ∃v,ow T t x g j l= .ok v/\K v=some r:=by
 obtain ⟨v,c,h⟩:=bN h;refine ⟨v, ?_,h⟩;clear h;unfold mU at c;split at c
 .split at c
  .rename_i m d;split at c
   .rename_i a h1;split at c
    .rename_i b f;cases c;simp only [ow,hl,p,hm,aA,n,o,he,rb d,rb h1,Bo f,aH]
    .cases c
   .cases c
  .cases c
 .split at c
  .rename_i m d;split at c
   .rename_i a h1;split at c
    .rename_i b f;cases c;simp only [ow,hl,p,hm,aA,n,o,he,rb d,rb h1,Bo f,aH]
    .cases c
   .cases c
  .cases c
 .split at c
  .rename_i h0;split at c
   .rename_i m d;split at c
    .rename_i a h1;split at c
     .rename_i b f;split at c
      .rename_i s;cases c;simp only [ow,hl,p,hm,aA,n,o,he,h0,rb h1,Bo f,rb d,s,aH]
      .cases c
     .cases c
    .cases c
   .cases c
  .cases c
 .rename_i sz es pm;split at c
  .rename_i h0;split at c
   .rename_i a h1;split at c
    .rename_i b f;have key:(match a.beq es.length,pm with
      | true,.shut=>(pure (.sl sz (es.drop b) .shut):df AV)
      | true,.own k=>match b.beq 0 with
       | true=>pure (.sl sz es (.own k))
       | false=>pure (.sl sz (es.drop b) .wide)
      | _,_=>pure (.sl sz ((es.take a).drop b) .wide))= .ok v:=by
      revert c;cases a.beq es.length <;> cases pm <;> cases b.beq 0 <;> intro c <;> cases c <;> rfl
     simp only [ow,hl,p,hm,aA,n,o,he,h0,rb h1,Bo f];exact key
    .cases c
   .cases c
  .cases c
 .split at c
  .rename_i h0;split at c
   .rename_i m d;split at c
    .rename_i a h1;split at c
     .rename_i b f;cases c;have d:mL (some _) _ 0= .ok m:=rb d;simp only [mL] at d;simp only [ow,hl,p,hm,aA,n,o,he,h0,rb h1,Bo f,d];rfl
     .cases c
    .cases c
   .cases c
  .cases c
 .cases c
theorem Dx {t:Td} {i:TI} {x y:AV} {K:Bool->Oq β} (hi:ti T t= .ok i) (h:Pu i.und x y K=some r): ∃b,Fw T 20 t x y= .ok b/\K b=some r:=by
 obtain ⟨b,e,h⟩:=bN h;refine ⟨b, ?_,h⟩;clear h;unfold Yh at e;split at e <;> first | (cases e;done) | skip
 all_goals
  rename_i a;cases e;show (do let i <- ti T t;_)= _;rw [hi,aA];simp only [a]
theorem JU {t:Td} {i:TI} {x y:AV} {b:Bool} (hi:ti T t= .ok i) (e:Fw T 20 t x y= .ok b) (c:nF i.und=true):(∀k n,x≠ .int k n)/\(∀s,x≠ .str s):=by
 have e:(do let i <- ti T t;_)= _:=e;rw [hi,aA] at e;constructor
 .rintro k n rfl;cases a:i.und <;> simp [a,nF] at c e
 .rintro s rfl;cases a:i.und <;> simp [a,nF] at c e
theorem P9 {t:Td} {i:TI} {x y:AV} {b:Bool} (hi:ti T t= .ok i) (e:Fw T 20 t x y= .ok b) (a:nF i.und=true):VM.binOp T .eql t x y= .ok (.bool b):=by
 obtain ⟨h1,c⟩:=JU hi e a;cases x <;> first | (exact absurd rfl (h1 _ _)) | (exact absurd rfl (c _)) | (simp only [VM.binOp,e,aA,aH])
theorem RT {t:Td} {i:TI} {x y:AV} {b:Bool} (hi:ti T t= .ok i) (e:Fw T 20 t x y= .ok b) (a:nF i.und=true):VM.binOp T .neq t x y= .ok (.bool !b):=by
 obtain ⟨h1,c⟩:=JU hi e a;cases x <;> first | (exact absurd rfl (h1 _ _)) | (exact absurd rfl (c _)) | (simp only [VM.binOp,e,aA,aH])
theorem Mz {op:BinOp} {t:Td} {x y:AV} {K:AV->Oq β} (h:X0 T op t x y K=some r): ∃v,VM.binOp T op t x y= .ok v/\K v=some r:=by
 obtain ⟨i,hi,h⟩:=cN h;split at h
 .obtain ⟨b,e,h⟩:=Dx hi h;refine ⟨_, ?_,h⟩;rw [P9 hi e ‹_›]
 .obtain ⟨b,e,h⟩:=Dx hi h;refine ⟨_, ?_,h⟩;rw [RT hi e ‹_›]
 .split at h
  .obtain ⟨a,hx,h⟩:=oj h;obtain ⟨b,hy,h⟩:=oj h;obtain ⟨h1,h⟩:=eT h;exact ⟨_,by simp only [hx,hy,VM.binOp,Kl,h1],h⟩
  .obtain ⟨a,hx,h⟩:=nY h;obtain ⟨b,hy,h⟩:=nY h;obtain ⟨h1,h⟩:=eT h;have h1:¬ b=0:=by simpa using h1
   exact ⟨_,by simp only [hx,hy,VM.binOp,GK,if_true,if_neg h1],h⟩
  .obtain ⟨a,hx,h⟩:=nY h;obtain ⟨b,hy,h⟩:=nY h;obtain ⟨h1,h⟩:=eT h;have h1:¬ b=0:=by simpa using h1
   exact ⟨_,by simp only [hx,hy,VM.binOp,GK,if_true,if_neg h1],h⟩
  .obtain ⟨a,hx,h⟩:=nY h;obtain ⟨c,b,hy,h⟩:=qc h;obtain ⟨h1,h⟩:=eT h;have h1:¬ b < 0:=by simpa using h1
   exact ⟨_,by simp only [hx,hy,VM.binOp,if_neg h1],h⟩
  .obtain ⟨a,hx,h⟩:=nY h;obtain ⟨c,b,hy,h⟩:=qc h;obtain ⟨h1,h⟩:=eT h;have h1:¬ b < 0:=by simpa using h1
   exact ⟨_,by simp only [hx,hy,VM.binOp,if_neg h1],h⟩
  .obtain ⟨v,e,h⟩:=bN h;exact ⟨v,vU e,h⟩
end
section
variable {β:Type} {r:β} {N:Nat} {p:PF} {fr:Fr} {E:Env} {st:St}
theorem Md {i:TI} {e:Td} {s:AV} {new b:LA} {K:Kv β} (hf:fits new= .ok b) (d:(b.all fun v=>v.cells.length.beq i.size)=true) (h:eI i.size i.bytes e s b st K=some r):
  ∃v x,eN E st (jP i e s new) v x/\K v (x.did.app st) x=some r:=by
 obtain ⟨u,st',x,a,h⟩:=pN h;cases new with
 | nil=>
  cases hf;simp only [xe] at a;split at a
  .cases a;exact ⟨_,q0,lA.always fun _=>by simp only [jP,aH,aA,aE];rfl,h⟩
  .cases a;exact ⟨_,q0,lA.always fun _=>by simp only [jP,aH,aA,aE];rfl,h⟩
  .cases a;exact ⟨_,q0,lA.always fun _=>by simp only [jP,aH,aA,aE];rfl,h⟩
  .cases a
 | cons v l=>
  have c:=hf;simp only [fits,ag,aj] at c;obtain ⟨v',_,f,_,rfl⟩:=c;simp only [xe] at a;split at a
  .split at a
   .rename_i h1;have h1:dn (v'::f).length i=true:=h1;obtain ⟨hp,rfl⟩:=nT (E:=E) a;refine ⟨u,x,eN.of ?_ hp,h⟩;simp only [jP,hf,aA,d,h1,aH]
   .cases a
  .rename_i y es pm;split at a
   .rename_i h1;have h1:(dn (es.length+(v'::f).length) i&&y.beq i.size)=true:=h1;cases pm with
    | shut=>
     obtain ⟨hp,rfl⟩:=nT (E:=E) a;refine ⟨u,x,eN.of ?_ hp,h⟩;simp only [jP,hf,aA,d,h1,aH]
    | own k=>
     dsimp only at a;split at a
     .rename_i n o g;split at a
      .rename_i j;obtain ⟨m,rfl,rfl,rfl⟩:=sJ a;refine ⟨_,⟨[k],.wrote k _⟩,lA.always fun _=> ?_,h⟩;simp only [jP,hf,aA,d,h1,aH,aE,g,j,m]
      .cases a
     .cases a
    | wide=>cases a
   .cases a
  .split at a
   .rename_i h1;have h1:dn (v'::f).length i=true:=h1;obtain ⟨hp,rfl⟩:=nT (E:=E) a;refine ⟨u,x,eN.of ?_ hp,h⟩;simp only [jP,hf,aA,d,h1,aH]
   .cases a
  .cases a
def mF (S:Sx) (fr:Fr) (o:Op):df dY:=fF S.T S.prim S.imm S.G fr o
theorem KU {S:Sx} (Y:Sg E S.O) {o:Op} {K:Kv β} (h:QS S o p st K=some r) (hs:Sub N p fr): ∃v x,eN E st (mF S fr o) v x/\K v (x.did.app st) x=some r:=by
 have val: ∀{w:AV},mF S fr o= .ok (.val w)->K w st q0=some r-> ∃v x,eN E st (mF S fr o) v x/\K v (x.did.app st) x=some r:=fun {w} e h=>⟨w,q0,eN.of e.symm (lA.always fun _=>rfl),h⟩;have A: ∀{q:df dY},mF S fr o=q->cE S.O q st K=some r-> ∃v x,eN E st (mF S fr o) v x/\K v (x.did.app st) x=some r:=fun {q} e h=>by
  obtain ⟨v,x,hp,h⟩:=I7 Y h;exact ⟨v,x,eN.of e.symm hp,h⟩
 have G: ∀{Z:Obj} {f:Nat->AV},mF S fr o= .ok (.new Z f)->made st Z f K=some r-> ∃v x,eN E st (mF S fr o) v x/\K v (x.did.app st) x=some r:=fun {Z f} e h=>by
  obtain ⟨v,x,hp,h⟩:=Lh (E:=E) h;exact ⟨v,x,eN.of e.symm hp,h⟩
 unfold QS at h;split at h
 .obtain ⟨v,e,h⟩:=bX h hs;exact val (by simp only [mF,fF,e,aA,aH]) h
 .obtain ⟨v,e,h⟩:=bX h hs;exact val (by simp only [mF,fF,e,aA,aH]) h
 .obtain ⟨c,e,h⟩:=bX h hs;obtain ⟨b,rfl,h⟩:=BH h;cases b with
  | true=>
   obtain ⟨v,D,h⟩:=bX h hs;exact val (by simp only [mF,fF,e,D,aA,aH,VM.asBool]) h
  | false=>
   obtain ⟨v,D,h⟩:=bX h hs;exact val (by simp only [mF,fF,e,D,aA,aH,VM.asBool]) h
 .obtain ⟨i,e,h⟩:=cN h;exact G (by simp only [mF,fF,e,aA,aH]) h
 ·-- box
  obtain ⟨i,e,h⟩:=cN h;obtain ⟨v,D,h⟩:=bX h hs;obtain ⟨h,_,_⟩:=sf h;obtain ⟨h1,h⟩:=eT h;obtain ⟨B,h⟩:=ot h;split at h
  .rename_i hi;obtain ⟨cs,P,h⟩:=xQ h;exact val (by simp only [mF,fF,e,D,aA,aH,PY,h1,B,aaI,hi,P]) h
  .rename_i hi;exact G (by simp only [mF,fF,e,D,aA,PY,h1,B,aaI,hi]) h
 ·-- build
  obtain ⟨i,e,h⟩:=cN h;split at h
  .rename_i fs z;obtain ⟨vs,h1,h⟩:=wD h hs;obtain ⟨sz,B,h⟩:=yk h;obtain ⟨cs,P,h⟩:=qh h;exact val (by simp only [mF,fF,build,e,z,h1,B,P,aA,aH]) h
  .rename_i R z;obtain ⟨vs,h1,h⟩:=wD h hs;obtain ⟨U,B,h⟩:=cN h;obtain ⟨cs,P,h⟩:=qh h;exact val (by simp only [mF,fF,build,e,z,h1,B,P,aA,aH]) h
  .cases h
 ·-- buildSlice
  obtain ⟨i,e,h⟩:=cN h;split at h
  .rename_i R z;obtain ⟨U,B,h⟩:=cN h;obtain ⟨vs,h1,h⟩:=wD h hs;obtain ⟨h4,h⟩:=eT h;obtain ⟨cs,P,h⟩:=qh h;obtain ⟨h5,h⟩:=ot h;split at h
   .rename_i gs h6;obtain ⟨a6,h7,h⟩:=uH h;exact val (by simp only [mF,fF,buildSlice,e,z,h1,B,P,h4,h5,h6,h7,aA,aH]) h
   .cases h
  .cases h
 ·-- makeSlice
  obtain ⟨l,e,h⟩:=bX h hs;obtain ⟨c,D,h⟩:=bX h hs;exact A (by simp only [mF,fF,e,D,aA]) h
 ·-- load
  obtain ⟨i,e,h⟩:=cN h;obtain ⟨a,D,h⟩:=bX h hs;obtain ⟨v,x,hp,h⟩:=Ix (E:=E) h;exact ⟨v,x,eN.of (by simp only [mF,fF,e,D,aA]) hp,h⟩
 ·-- store
  obtain ⟨i,e,h⟩:=cN h;obtain ⟨a,d,h⟩:=bX h hs;obtain ⟨v,y,h⟩:=bX h hs;obtain ⟨h,_,_⟩:=sf h;obtain ⟨B,h⟩:=ot h;obtain ⟨u,x,hp,h⟩:=FB Y B h;refine ⟨u,x,eN.of ?_ hp,h⟩;simp only [mF,fF,e,d,y,aA];cases a <;> rfl
 ·-- nilCheck
  obtain ⟨a,d,h⟩:=bX h hs;obtain ⟨hn,h⟩:=eT h;refine val ?_ h;unfold notNil at hn;split at hn
  .simp only [mF,fF,d,aA,aH]
  .simp only [mF,fF,d,aA,aH]
  .simp only [mF,fF,d,aA,aH]
  .simp only [mF,fF,d,aA,aH]
  .cases hn
 ·-- binOp
  obtain ⟨a,d,h⟩:=bX h hs;obtain ⟨b,y,h⟩:=bX h hs;split at h
  .rename_i Q;obtain ⟨v,H,h⟩:=bN h;have H:Rp _ a=some v:=H;exact val (by simp only [mF,fF,zN,Q,d,y,H,aA,aH]) h
  .rename_i Q;obtain ⟨v,H,h⟩:=Mz h;exact val (by simp only [mF,fF,zN,Q,d,y,H,aA,aH]) h
 ·-- unOp
  obtain ⟨a,d,h⟩:=bX h hs;obtain ⟨v,y,h⟩:=bN h;exact val (by simp only [mF,fF,d,vU y,aA,aH]) h
 ·-- convert
  obtain ⟨a,d,h⟩:=bX h hs;exact A (by simp only [mF,fF,d,aA]) h
 ·-- makeInterface
  obtain ⟨i,e,h⟩:=cN h;split at h
  .cases h
  .cases h
  .rename_i h1 B;obtain ⟨a,d,h⟩:=bX h hs;refine val ?_ h;simp only [mF,fF,e,d,aA,aH]
 ·-- makeFunc
  obtain ⟨a,d,h⟩:=wG h hs;obtain ⟨c,y,h⟩:=wG h hs;exact val (by simp only [mF,fF,d,y,aA,aH]) h
 ·-- makeMap
  exact G (by simp only [mF,fF]) h
 ·-- slice
  rename_i t x lo hi mx;split at h
  .cases h
  .obtain ⟨i,e,h⟩:=cN h;obtain ⟨x',d,h⟩:=bX h hs;obtain ⟨a7,ar,y,V,h⟩:=BR h hs;obtain ⟨a8,av,H,W,h⟩:=BR h hs;obtain ⟨bb,aw,e4,X,h⟩:=BR h hs;split at h
   .rename_i z;obtain ⟨s,rfl,h⟩:=oj h;split at h
    .obtain ⟨a,h1,h⟩:=N7 h;obtain ⟨b,B,h⟩:=O6 h;refine val ?_ h;simp only [mF,fF,d,y,H,e4,aA,ow,V,W,X,e,z,h1,B,aH]
    .cases h
   .rename_i R z;obtain ⟨U,he,h⟩:=cN h;obtain ⟨v,h1,h⟩:=Hr e z he V W X h;refine val ?_ h;simp only [mF,fF,d,y,H,e4,aA,h1,aH]
   .cases h
 ·-- fieldAddr
  obtain ⟨i,e,h⟩:=cN h;split at h
  .rename_i fs z;split at h
   .rename_i off ft hf;obtain ⟨fi,d,h⟩:=cN h;split at h
    .cases h
    .rename_i hz;obtain ⟨a,y,h⟩:=bX h hs;rcases CK h with ⟨cs,rfl,h⟩ | ⟨id,o,rfl,h⟩ | ⟨id,m,o,rfl,h⟩
     .exact val (by simp only [mF,fF,fieldAddr,e,y,z,hf,d,hz,aA,aH]) h
     .exact val (by simp only [mF,fF,fieldAddr,e,y,z,hf,d,hz,aA,aH]) h
     .exact val (by simp only [mF,fF,fieldAddr,e,y,z,hf,d,hz,aA,aH]) h
   .cases h
  .cases h
 ·-- field
  obtain ⟨a,d,h⟩:=bX h hs;obtain ⟨v,y,h⟩:=bN h;exact val (by simp only [mF,fF,d,vU y,aA,aH]) h
 ·-- indexAddr
  obtain ⟨i,e,h⟩:=cN h;obtain ⟨x,d,h⟩:=bX h hs;obtain ⟨j,y,h⟩:=bX h hs;obtain ⟨k,n,rfl,h⟩:=qc h;split at h
  .rename_i R z;obtain ⟨U,he,h⟩:=cN h;obtain ⟨v,x',hp,h⟩:=Mh (E:=E) (k:=k) e z he h;refine ⟨v,x',eN.of ?_ hp,h⟩;simp only [mF,fF,d,y,aA];cases x <;> rfl
  .rename_i len R z;obtain ⟨U,he,h⟩:=cN h;obtain ⟨v,x',hp,h⟩:=Mn (E:=E) (k:=k) e z he h;refine ⟨v,x',eN.of ?_ hp,h⟩;simp only [mF,fF,d,y,aA];cases x <;> rfl
  .cases h
 ·-- index
  obtain ⟨i,e,h⟩:=cN h;obtain ⟨x,d,h⟩:=bX h hs;obtain ⟨j,y,h⟩:=bX h hs;split at h
  .rename_i z;obtain ⟨s,rfl,h⟩:=oj h;obtain ⟨k,n,rfl,h⟩:=qc h;obtain ⟨m,h1,h⟩:=vp h;split at h
   .rename_i b B;exact val (by simp only [mF,fF,d,y,aA,Ap,VM.asInt,e,z,h1,B,aH]) h
   .cases h
  .obtain ⟨v,H,h⟩:=bN h;exact val (by simp only [mF,fF,d,y,vU H,aA,aH]) h
 ·-- lookup
  obtain ⟨x,d,h⟩:=bX h hs;obtain ⟨j,y,h⟩:=bX h hs;exact A (by simp only [mF,fF,d,y,aA]) h
 .obtain ⟨x,d,h⟩:=bX h hs;obtain ⟨j,y,h⟩:=bX h hs;obtain ⟨v,H,h⟩:=bX h hs;exact A (by simp only [mF,fF,d,y,H,aA]) h
 .obtain ⟨x,d,h⟩:=bX h hs;obtain ⟨j,y,h⟩:=bX h hs;obtain ⟨v,H,h⟩:=bX h hs;exact A (by simp only [mF,fF,d,y,H,aA]) h
 ·-- range
  obtain ⟨x,d,h⟩:=bX h hs;obtain ⟨i,e,h⟩:=cN h;split at h
  .rename_i z;obtain ⟨s,hx,h'⟩:=oj h;exact G (by simp only [mF,fF,e,d,aA,z,hx,aH]) h'
  .cases h
 ·-- next
  obtain ⟨x,d,h⟩:=bX h hs;exact A (by simp only [mF,fF,d,aA]) h
 ·-- extract
  obtain ⟨x,d,h⟩:=bX h hs;obtain ⟨vs,rfl,h⟩:=NJ h;obtain ⟨v,y,h⟩:=MC h;exact val (by simp only [mF,fF,d,aA,Gi y,aH]) h
 ·-- call
  rename_i c;obtain ⟨args,d,h⟩:=wG h hs;split at h
  .rename_i b Q;have y:mF S fr (.call c)=fZ S.T S.imm b c.argTypes.toList args:=by simp only [mF,fF,d,aA,Q]
   split at h
   .rename_i x t ts x' ea J;obtain ⟨i,e,h⟩:=cN h;split at h
    .rename_i z;obtain ⟨s,rfl,h⟩:=oj h;exact val (by simp only [y,J,fZ,Cv,e,aA,z,aH]) h
    .rename_i R z;obtain ⟨n,M,h⟩:=bN h;refine val ?_ h;unfold WU at M;split at M
     .cases M;simp only [y,J,fZ,Cv,e,aA,z,aH];rfl
     .cases M;simp only [y,J,fZ,Cv,e,aA,z,aH]
     .cases M;simp only [y,J,fZ,Cv,e,aA,z,aH]
     .cases M;simp only [y,J,fZ,Cv,e,aA,z,aH]
     .cases M;simp only [y,J,fZ,Cv,e,aA,z,aH];rfl
     .cases M
    .exact A (by simp only [y,J,fZ]) h
   .rename_i t xt s x J;obtain ⟨i,e,h⟩:=cN h;obtain ⟨xi,D,h⟩:=cN h;split at h
    .rename_i R z hn;obtain ⟨U,he,h⟩:=cN h;unfold oY at h;split at h
     .rename_i new I;split at h
      .rename_i F;exact A (by simp only [y,J,fZ,e,D,aA,z,hn,he,I,F]) h
      split at h
      .rename_i F _ C;exact A (by simp only [y,J,fZ,e,D,aA,z,hn,he,I,F,C]) h
      split at h
      .rename_i F _ C _ L;exact A (by simp only [y,J,fZ,e,D,aA,z,hn,he,I,F,C,L]) h
      .rename_i F _ C _ L;obtain ⟨a1,h1,h⟩:=uH h;obtain ⟨B,h⟩:=eT h;obtain ⟨v,x',hp,h⟩:=Md (E:=E) h1 B h;refine ⟨v,x',eN.of ?_ hp,h⟩;simp only [y,J,fZ,e,D,aA,z,hn,he,I,F,C,L]
     .cases h
    .cases h
   .exact A y h
  .rename_i f Q;obtain ⟨g,y,h⟩:=bX h hs;obtain ⟨v,st',x,M,h⟩:=pN h;obtain ⟨hp,rfl⟩:=uD Y M;refine ⟨v,x,eN.of ?_ hp,h⟩;simp only [mF,fF,d,y,aA,Q,jw,aH];cases g <;> first | rfl | (rename_i f _ _;cases f <;> rfl)
  .cases h
 .cases h
end
section frame
variable {X:Cx}
theorem DK {fr:Fr} {d:Oq Nat} {v:AV} {i:Nat} (h:d≠some i):(fr.put d v).look i=fr.look i:=by
 cases d with
 | none=>rfl
 | some d=>
  by_cases a:d < fr.n
  .rw [Gl a,if_neg fun e=>h (by rw [e])]
  .have b:d.blt fr.n=false:=da.2 (by omega);have e:fr.put (some d) v=fr:=by simp only [Fr.put,b]
   rw [e]
theorem xJ {n:Nat}: ∀{l:Ln},wq n l=true↔n∈l
 | []=>by simp [wq]
 | m::l=>by simp [wq,xJ (l:=l)]
theorem lU {all:List Oper} {draw:Bool}: ∀{l:List Oper} {j:Nat} {seen:List (Nat×Fx)} {fr fr':Fr} {st st':St},eD X all draw j seen l fr st= .ok (fr',st')->
  fr'.n=fr.n/\ ∀i,i∉cX l->fr'.look i=fr.look i
 | [],_,_,_,_,_,_,h=>by simp only [eD,aaf,aaj] at h;obtain ⟨rfl,rfl⟩:=h;exact ⟨rfl,fun _ _=>rfl⟩
 | o::l,j,seen,fr,fr',st,st',h=>by
  simp only [eD,ag] at h;obtain ⟨⟨v,x⟩,_,h⟩:=h;have key:fr'.n=(fr.put o.dst v).n/\ ∀i,i∉cX l->fr'.look i=(fr.put o.dst v).look i:=by
   dsimp only at h;split at h
   .exact lU h
   .split at h
    .exact lU h
    .cases h
  refine ⟨key.1.trans (Fr.PG _ _ _),fun i hi=> ?_⟩;have h1:i∉cX l/\o.dst≠some i:=by
   cases a:o.dst with
   | none=>simp [cX,a] at hi;exact ⟨hi,by simp⟩
   | some d=>
    simp [cX,a] at hi;exact ⟨hi.2,fun e=>hi.1 (by cases e;rfl)⟩
  rw [key.2 i h1.1,DK h1.2]
theorem kX {e:Nat->Oq Nat} {all:List Oper}: ∀{l:List Oper} {j:Nat} {seen:List (Nat×Fx)} {fr fr':Fr} {st st':St},dz X e all j seen l fr st= .ok (fr',st')->
  fr'.n=fr.n/\ ∀i,i∉cX l->fr'.look i=fr.look i
 | [],_,_,_,_,_,_,h=>by simp only [dz,aaf,aaj] at h;obtain ⟨rfl,rfl⟩:=h;exact ⟨rfl,fun _ _=>rfl⟩
 | o::l,j,seen,fr,fr',st,st',h=>by
  simp only [dz,ag] at h;obtain ⟨⟨v,x⟩,_,h⟩:=h;have key:fr'.n=(fr.put o.dst v).n/\ ∀i,i∉cX l->fr'.look i=(fr.put o.dst v).look i:=by
   dsimp only at h;split at h
   .exact kX h
   .split at h
    .exact kX h
    .cases h
  refine ⟨key.1.trans (Fr.PG _ _ _),fun i hi=> ?_⟩;have h1:i∉cX l/\o.dst≠some i:=by
   cases a:o.dst with
   | none=>simp [cX,a] at hi;exact ⟨hi,by simp⟩
   | some d=>
    simp [cX,a] at hi;exact ⟨hi.2,fun e=>hi.1 (by cases e;rfl)⟩
  rw [key.2 i h1.1,DK h1.2]
theorem Aj {body:Fr->St->df (Ex×Fr×St)} {W:Ln} (c: ∀fr st ex fr' st',body fr st= .ok (ex,fr',st')->fr'.n=fr.n/\ ∀i,i∉W->fr'.look i=fr.look i):
  ∀(n:Nat) {fr fr':Fr} {st st':St} {ex:Ex},iter body n fr st= .ok (ex,fr',st')->fr'.n=fr.n/\ ∀i,i∉W->fr'.look i=fr.look i
 | 0,_,_,_,_,_,h=>by simp [iter] at h
 | n+1,fr,fr',st,st',ex,h=>by
  simp only [iter,ag] at h;obtain ⟨⟨b,d,st1⟩,h1,a⟩:=h;have k1:=c _ _ _ _ _ h1;cases b with
  | normal=>
   have k2:=Aj c n a;exact ⟨k2.1.trans k1.1,fun i hi=>(k2.2 i hi).trans (k1.2 i hi)⟩
  | exit id=>
   simp only [aj,aaj] at a;obtain ⟨_,rfl,_⟩:=a;exact k1
  | ret=>
   simp only [aj,aaj] at a;obtain ⟨_,rfl,_⟩:=a;exact k1
theorem vQ {n:Nat} {x:Operand} {ps:Array Tmp} {y c:Code} {fr fr':Fr} {st st':St} {ex:Ex} (h:exec X n (.rangeFunc x ps y c) fr st= .ok (ex,fr',st')):fr'=fr:=by
 simp only [exec] at h;split at h
 .cases h
 .simp only [ag] at h;obtain ⟨b,h1,h⟩:=h;split at h
  .simp only [ag] at h;obtain ⟨q,d,o,e,a⟩:=h;split at a
   .split at a
    .simp only [aj,aaj] at a;exact a.2.1.symm
    .cases a
   .cases a
  .cases h
theorem ox {all:List Oper} {draw:Bool}: ∀{l:List Oper} {j:Nat} {seen:List (Nat×Fx)} {fr fr':Fr} {st st':St},eD X all draw j seen l fr st= .ok (fr',st')->fr'.strict=fr.strict
 | [],_,_,_,_,_,_,h=>by simp only [eD,aaf,aaj] at h;rw [h.1]
 | o::l,j,seen,fr,fr',st,st',h=>by
  simp only [eD,ag] at h;obtain ⟨⟨v,x⟩,_,h⟩:=h;have key:fr'.strict=(fr.put o.dst v).strict:=by
   dsimp only at h;split at h
   .exact ox h
   .split at h
    .exact ox h
    .cases h
  exact key.trans (jg _ _ _)
theorem mG {e:Nat->Oq Nat} {all:List Oper}: ∀{l:List Oper} {j:Nat} {seen:List (Nat×Fx)} {fr fr':Fr} {st st':St},dz X e all j seen l fr st= .ok (fr',st')->fr'.strict=fr.strict
 | [],_,_,_,_,_,_,h=>by simp only [dz,aaf,aaj] at h;rw [h.1]
 | o::l,j,seen,fr,fr',st,st',h=>by
  simp only [dz,ag] at h;obtain ⟨⟨v,x⟩,_,h⟩:=h;have key:fr'.strict=(fr.put o.dst v).strict:=by
   dsimp only at h;split at h
   .exact mG h
   .split at h
    .exact mG h
    .cases h
  exact key.trans (jg _ _ _)
theorem yL {body:Fr->St->df (Ex×Fr×St)} (c: ∀fr st ex fr' st',body fr st= .ok (ex,fr',st')->fr'.strict=fr.strict): ∀(n:Nat) {fr fr':Fr} {st st':St} {ex:Ex},iter body n fr st= .ok (ex,fr',st')->fr'.strict=fr.strict
 | 0,_,_,_,_,_,h=>by simp [iter] at h
 | n+1,fr,fr',st,st',ex,h=>by
  simp only [iter,ag] at h;obtain ⟨⟨b,d,st1⟩,h1,a⟩:=h;have k1:=c _ _ _ _ _ h1;cases b with
  | normal=>exact (yL c n a).trans k1
  | exit id=>
   simp only [aj,aaj] at a;rw [<- a.2.1];exact k1
  | ret=>
   simp only [aj,aaj] at a;rw [<- a.2.1];exact k1
theorem gv {n:Nat}: ∀(c:Code) {fr fr':Fr} {st st':St} {ex:Ex},exec X n c fr st= .ok (ex,fr',st')->fr'.strict=fr.strict
 | .skip,_,_,_,_,_,h | .label _,_,_,_,_,_,h | .exit _,_,_,_,_,_,h | .ret,_,_,_,_,_,h=>by
  simp only [exec,aaf,aaj] at h;rw [h.2.1]
 | .goto _,_,_,_,_,_,h | .refuse _,_,_,_,_,_,h=>by simp [exec] at h
 | .rangeFunc ..,_,_,_,_,_,h=>by rw [vQ h]
 | .scope c,_,_,_,_,_,h=>gv c h
 | .region _ _ _,_,_,_,_,_,h=>by
  simp only [exec] at h;split at h <;> simp only [ag,aj] at h <;> obtain ⟨⟨f,st1⟩,h1,d⟩:=h <;> simp only [aaj] at d <;> obtain ⟨_,rfl,_⟩:=d
  .exact ox h1
  .exact mG h1
 | .seq a b,_,_,_,_,_,h=>by
  simp only [exec,ag] at h;obtain ⟨⟨e,f,st1⟩,h1,d⟩:=h;have k1:=gv a h1;cases e with
  | normal=>exact (gv b d).trans k1
  | exit id=>simp only [aj,aaj] at d;rw [<- d.2.1];exact k1
  | ret=>simp only [aj,aaj] at d;rw [<- d.2.1];exact k1
 | .cond c a b,_,_,_,_,_,h=>by
  simp only [exec,ag] at h;obtain ⟨j,_,v,_,g⟩:=h;cases v
  .exact gv b g
  .exact gv a g
 | .block id c,_,_,_,_,_,h=>by
  simp only [exec,ag] at h;obtain ⟨⟨e,f,st1⟩,h1,d⟩:=h;have k1:=gv c h1;cases e with
  | normal=>simp only [aj,aaj] at d;rw [<- d.2.1];exact k1
  | ret=>simp only [aj,aaj] at d;rw [<- d.2.1];exact k1
  | exit i=>
   dsimp only at d;split at d <;> (simp only [aj,aaj] at d;rw [<- d.2.1];exact k1)
 | .loop c,_,_,_,_,_,h=>by
  simp only [exec] at h;exact yL (fun _ _ _ _ _ h=>gv c h) n h
theorem ga {n:Nat}: ∀(c:Code) {fr fr':Fr} {st st':St} {ex:Ex},exec X n c fr st= .ok (ex,fr',st')->fr'.n=fr.n/\ ∀i,i∉writes c->fr'.look i=fr.look i
 | .skip,_,_,_,_,_,h | .label _,_,_,_,_,_,h | .exit _,_,_,_,_,_,h | .ret,_,_,_,_,_,h=>by
  simp only [exec,aaf,aaj] at h;obtain ⟨_,rfl,_⟩:=h;exact ⟨rfl,fun _ _=>rfl⟩
 | .goto _,_,_,_,_,_,h | .refuse _,_,_,_,_,_,h=>by simp [exec] at h
 | .rangeFunc ..,_,_,_,_,_,h=>by
  obtain rfl:=vQ h;exact ⟨rfl,fun _ _=>rfl⟩
 | .scope c,_,_,_,_,_,h=>ga c h
 | .region _ _ _,_,_,_,_,_,h=>by
  simp only [exec] at h;split at h
  .simp only [ag,aj] at h;obtain ⟨⟨e,st1⟩,h1,d⟩:=h;simp only [aaj] at d;obtain ⟨_,rfl,_⟩:=d;exact lU h1
  .simp only [ag,aj] at h;obtain ⟨⟨e,st1⟩,h1,d⟩:=h;simp only [aaj] at d;obtain ⟨_,rfl,_⟩:=d;exact kX h1
 | .seq a b,_,_,_,_,_,h=>by
  simp only [exec,ag] at h;obtain ⟨⟨f,e,st1⟩,h1,d⟩:=h;have k1:=ga a h1;cases f with
  | normal=>
   have k2:=ga b d;exact ⟨k2.1.trans k1.1,fun i hi=>by
    simp only [writes,aaC,not_or] at hi;exact (k2.2 i hi.2).trans (k1.2 i hi.1)⟩
  | exit id=>
   simp only [aj,aaj] at d;obtain ⟨_,rfl,_⟩:=d;exact ⟨k1.1,fun i hi=>k1.2 i fun hm=>hi (aaC.2 (.inl hm))⟩
  | ret=>
   simp only [aj,aaj] at d;obtain ⟨_,rfl,_⟩:=d;exact ⟨k1.1,fun i hi=>k1.2 i fun hm=>hi (aaC.2 (.inl hm))⟩
 | .cond c a b,_,_,_,_,_,h=>by
  simp only [exec,ag] at h;obtain ⟨j,_,v,_,g⟩:=h;cases v
  .have k:=ga b g;exact ⟨k.1,fun i hi=>k.2 i fun hm=>hi (aaC.2 (.inr hm))⟩
  .have k:=ga a g;exact ⟨k.1,fun i hi=>k.2 i fun hm=>hi (aaC.2 (.inl hm))⟩
 | .block id c,_,_,_,_,_,h=>by
  simp only [exec,ag] at h;obtain ⟨⟨f,e,st1⟩,h1,d⟩:=h;have k1:=ga c h1;cases f with
  | normal=>simp only [aj,aaj] at d;obtain ⟨_,rfl,_⟩:=d;exact k1
  | ret=>simp only [aj,aaj] at d;obtain ⟨_,rfl,_⟩:=d;exact k1
  | exit i=>
   dsimp only at d;split at d <;> (simp only [aj,aaj] at d;obtain ⟨_,rfl,_⟩:=d;exact k1)
 | .loop c,_,_,_,_,_,h=>by
  simp only [exec] at h;exact Aj (fun _ _ _ _ _ h=>ga c h) n h
end frame
section
variable {β:Type} {r:β} {N:Nat} {E:Env}
theorem Sub.put {p:PF} {fr:Fr} {d:Nat} {v:AV} (hs:Sub N p fr) (b:d < N):Sub N ((d,v)::p) (fr.put (some d) v):=by
 refine ⟨(Fr.PG _ _ _).trans hs.1,fun i u a=> ?_⟩;rw [PF.nZ] at a;rw [Gl (by rw [hs.1];exact b)];split at a
 .rename_i e;rw [if_pos e];cases a;rfl
 .rename_i e;rw [if_neg e];exact hs.2 i u a
theorem Sub.PH {p:PF} {fr:Fr} {d:Nat} {v:AV} (hs:Sub N p fr) (b:fr.look d=some v):Sub N ((d,v)::p) fr:=by
 refine ⟨hs.1,fun i u a=> ?_⟩;rw [PF.nZ] at a;split at a
 .rename_i e;cases a;rw [<- e];exact b
 .exact hs.2 i u a
theorem pI {d:Oq Tmp} {v:AV} {p:PF} {fr:Fr} {K:PF->Oq β} (h:AD N d v p K=some r) (hs:Sub N p fr): ∃a,Sub N a (fr.put d v)/\K a=some r:=by
 cases d with
 | none=>exact ⟨p,hs,h⟩
 | some d=>
  simp only [AD] at h;split at h
  .rename_i b;exact ⟨_,hs.put (cZ.1 b),h⟩
  .cases h
theorem yA {all:List Oper} {p:PF} {fr:Fr} {g:Oq (Nat×Bool)} {yes no:PF->Oq β} (h:ED all p g yes no=some r) (hs:Sub N p fr):
  (wanted all fr g=true/\ ∃a,Sub N a fr/\yes a=some r)\/(wanted all fr g=false/\ ∃a,Sub N a fr/\no a=some r):=by
 unfold ED at h;split at h
 .exact .inl ⟨rfl,p,hs,h⟩
 .rename_i j want;split at h
  .rename_i d f;split at h
   .rename_i v k;have c:=hs.2 _ _ k;have i:=wN c;split at h
    .rename_i b;have e:wanted all fr (some (j,want))=(b==want):=by simp only [wanted,f,i]
     cases want <;> cases b
     .exact .inl ⟨by rw [e];rfl,_,hs.PH c,h⟩
     .exact .inr ⟨by rw [e];rfl,_,hs.PH c,h⟩
     .exact .inr ⟨by rw [e];rfl,_,hs.PH c,h⟩
     .exact .inl ⟨by rw [e];rfl,_,hs.PH c,h⟩
    .rename_i l;refine .inr ⟨?_,p,hs,h⟩;simp only [wanted,f,i]
   .cases h
  .cases h
theorem sM {ops:List Oper} {j:Nat} {x:Fx}: ∀{seen:List (Nat×Fx)},qK ops j x seen=true-> ∀seen':List (Nat×Fx),(∀y∈seen',y∈seen)->rp ops j x seen'=true
 | seen,h,[],_=>rfl
 | seen,h,(i,y)::l,b=>by
  have h1: ∀(s:List (Nat×Fx)),qK ops j x s=true->(i,y)∈s->(behind ops (j+1) j i||apart y x)=true:=by
   intro s hs hm
   induction s with
   | nil=>cases hm
   | cons a s ih=>
    obtain ⟨c,y'⟩:=a;simp only [qK,aak] at hs;rcases aao.1 hm with e | hm
    .cases e;exact hs.1
    .exact ih hs.2 hm
  simp only [rp,aak];refine ⟨?_,sM h l fun y hy=>b y (aam _ hy)⟩;rw [Bool.or_comm];exact h1 seen h (b _ (aag ..))
def cx (S:Sx) (E:Env) (n:Nat):Cx:=⟨S.T,S.prim,S.imm,S.G,caller E n⟩
theorem tJ {S:Sx} (k:Sg E S.O) {all:List Oper} {draw:Bool}: ∀{l:List Oper} {j:Nat} {seen seen':List (Nat×Fx)} {p:PF} {fr:Fr} {st:St} {K:PF->St->Oq β},
  Es S N all draw j seen l p st K=some r->Sub N p fr->(∀y∈seen',y∈seen)-> ∃fr' st' g,(lA fun n=>eD (cx S E n) all draw j seen' l fr st= .ok (fr',st'))/\Sub N g fr'/\K g st'=some r
 | [],_,_,_,p,fr,st,_,h,hs,_=>⟨fr,st,p,lA.always fun _=>rfl,hs,h⟩
 | o::l,j,seen,seen',p,fr,st,K,h,hs,a=>by
  simp only [Es] at h;rcases yA h hs with ⟨m,p1,f,h⟩ | ⟨m,p1,f,h⟩
  .obtain ⟨v,x,hp,h⟩:=KU k h f;have h:=lF (K:=fun v=>match draw with
    | false=>AD N o.dst v p1 fun p=>Es S N all draw (j+1) seen l p (x.did.app st) K
    | true=>cf (qK all j x seen) (AD N o.dst v p1 fun p=>Es S N all draw (j+1) ((j,x)::seen) l p (x.did.app st) K)) h
   have i: ∀n,(mF S fr o.op >>= aE (caller E n) st)= .ok (v,x)->oper (cx S E n) all fr st o= .ok (v,x):=fun n e=>by
    simp only [oper,m];exact e
   cases draw with
   | false=>
    obtain ⟨q,d,h⟩:=pI h f;obtain ⟨fr',st',g,b,c,hK⟩:=tJ k (seen':=seen') h d a;refine ⟨fr',st',g,(hp.both b).lift fun n hn=> ?_,c,hK⟩;simp only [eD,i n hn.1,aA,abF];exact hn.2
   | true=>
    obtain ⟨ho,h⟩:=eT h;obtain ⟨q,d,h⟩:=pI h f;cases s:quiet x with
    | true=>
     obtain ⟨fr',st',g,b,c,hK⟩:=tJ k (seen':=seen') h d fun y hy=>aam _ (a y hy);refine ⟨fr',st',g,(hp.both b).lift fun n hn=> ?_,c,hK⟩;simp only [eD,i n hn.1,aA,s,aa2,abR];exact hn.2
    | false=>
     obtain ⟨fr',st',g,b,c,hK⟩:=tJ k (seen':=(j,x)::seen') h d fun y hy=>by
      rcases aao.1 hy with e | hy
      .rw [e];exact aag ..
      .exact aam _ (a y hy)
     refine ⟨fr',st',g,(hp.both b).lift fun n hn=> ?_,c,hK⟩;simp only [eD,i n hn.1,aA,s,abe,aaI,sM ho seen' a];exact hn.2
  .obtain ⟨q,d,h⟩:=pI h f;obtain ⟨fr',st',g,b,c,hK⟩:=tJ k (seen':=seen') h d a;refine ⟨fr',st',g,b.lift fun n hn=> ?_,c,hK⟩;have:oper (cx S E n) all fr st o= .ok (undef,⟨[],.kept⟩):=by simp only [oper,m]
   simp only [eD,this,aA,quiet,List.isEmpty_nil,aa2,abR];exact hn
theorem HG {T:TT} {t:Td} {i:TI} {nm:Nat} {st:St} {K:Kv β} (hi:ti T t= .ok i) (h:H5 t i.zero nm st K=some r): ∃v x,yj T t nm st= .ok (v,x)/\K v (x.did.app st) x=some r:=by
 unfold H5 oq at h;obtain ⟨⟨v,st',x⟩,h1,b⟩:=bN h;unfold O1 at h1;split at h1
 .rename_i c;unfold kM at h1;split at h1
  .rename_i a;cases h1;exact ⟨_,_,FG (cH.1 hi) c (aah a),b⟩
  .cases h1
 .cases h1
theorem rX {S:Sx} (m:Sg E S.O) {e:Nat->Oq Nat} {all:List Oper}: ∀{l:List Oper} {j:Nat} {seen seen':List (Nat×Fx)} {p:PF} {fr:Fr} {st:St} {K:PF->St->Oq β},
  uo S N e all j seen l p st K=some r->Sub N p fr->(∀y∈seen',y∈seen)-> ∃fr' st' g,(lA fun n=>dz (cx S E n) e all j seen' l fr st= .ok (fr',st'))/\Sub N g fr'/\K g st'=some r
 | [],_,_,_,p,fr,st,_,h,hs,_=>⟨fr,st,p,lA.always fun _=>rfl,hs,h⟩
 | o::l,j,seen,seen',p,fr,st,K,h,hs,a=>by
  simp only [uo] at h;rcases yA h hs with ⟨q,p1,d,h⟩ | ⟨q,p1,d,h⟩
  .have key: ∃v x,(lA fun n=>gC (cx S E n) e all fr st o= .ok (v,x))/\Gp (Eh o.op) S.T o.type v (fun v=>cf (qK all j x seen) (AD N o.dst v p1 fun p=>uo S N e all (j+1) ((j,x)::seen) l p (x.did.app st) K))=some r:=by
    unfold Xx at h;split at h
    .rename_i t nm s;obtain ⟨i,hi,h⟩:=cN h;obtain ⟨v,x,h1,w⟩:=HG hi h;refine ⟨v,x,lA.always fun n=> ?_,w⟩;simp only [gC,q,s];exact h1
    .rename_i s;obtain ⟨v,x,hp,h⟩:=KU m h d;refine ⟨v,x,lA.lift hp fun n z=> ?_,h⟩;simp only [gC,q,s];exact z
   obtain ⟨v,x,k,h⟩:=key;have h:=lF (K:=fun v=>cf (qK all j x seen) (AD N o.dst v p1 fun p=>uo S N e all (j+1) ((j,x)::seen) l p (x.did.app st) K)) h;obtain ⟨ho,h⟩:=eT h;obtain ⟨A,f,h⟩:=pI h d;cases u:quiet x with
   | true=>
    obtain ⟨fr',st',g,b,c,hK⟩:=rX m (seen':=seen') h f fun y hy=>aam _ (a y hy);refine ⟨fr',st',g,(k.both b).lift fun n hn=> ?_,c,hK⟩;simp only [dz,hn.1,aA,u,aa2];exact hn.2
   | false=>
    obtain ⟨fr',st',g,b,c,hK⟩:=rX m (seen':=(j,x)::seen') h f fun y hy=>by
     rcases aao.1 hy with e | hy
     .rw [e];exact aag ..
     .exact aam _ (a y hy)
    refine ⟨fr',st',g,(k.both b).lift fun n hn=> ?_,c,hK⟩;simp only [dz,hn.1,aA,u,abe,sM ho seen' a];exact hn.2
  .obtain ⟨A,f,h⟩:=pI h d;obtain ⟨fr',st',g,b,c,hK⟩:=rX m (seen':=seen') h f a;refine ⟨fr',st',g,b.lift fun n hn=> ?_,c,hK⟩;have:gC (cx S E n) e all fr st o= .ok (undef,⟨[],.kept⟩):=by simp only [gC,q]
   simp only [dz,this,aA,quiet,List.isEmpty_nil,aa2];exact hn
theorem DF {K:St->Oq β}: ∀{l:Ln} {st:St},Wa st l K=some r->K (st.lay l)=some r
 | [],_,h=>h
 | _::l,st,h=>DF (l:=l) (st:=(st.new .Bc).2) h
def Rs (fr:Fr):Ln->LA->Prop
 | [],vs=>vs=[]
 | i::l,vs=> ∃v vs',vs=v::vs'/\fr.look i=some v/\Rs fr l vs'
theorem dO: ∀{l:Ln} {p:PF} {fr:Fr} {K:LA->Oq β},getAll p l K=some r->Sub N p fr-> ∃vs,Rs fr l vs/\K vs=some r
 | [],_,_,_,h,_=>⟨[],rfl,h⟩
 | i::l,p,fr,K,h,hs=>by
  simp only [getAll] at h;split at h
  .rename_i v b;obtain ⟨vs,a,h⟩:=dO h hs;exact ⟨v::vs,⟨v,vs,rfl,hs.2 _ _ b,a⟩,h⟩
  .cases h
theorem fa {T:TT} {tys:List (Nat×Td)}: ∀{l:Ln} {vs:LA} {p:PF} {fr:Fr} {K:PF->Oq β},jq T tys l vs p K=some r->Rs fr l vs->Sub N p fr-> ∃b,Sub N b fr/\K b=some r
 | [],vs,p,fr,K,h,_,hs=>by
  obtain ⟨_,h⟩:=GS h;exact ⟨p,hs,h⟩
 | i::l,vs,p,fr,K,h,g,hs=>by
  obtain ⟨v,vs',rfl,a⟩:=Hd h;obtain ⟨v',f,e,j,c⟩:=g;cases e;have h:(jq T tys l vs' p fun p=>K ((i,v)::p))=some r:=by
   unfold Kf at a;split at a
   .exact lF (K:=fun v=>jq T tys l vs' p fun p=>K ((i,v)::p)) a
   .exact a
  obtain ⟨b,d,h⟩:=fa h c hs;exact ⟨_,d.PH j,h⟩
theorem tm {W:Ln} {i:Nat} {v:AV}: ∀{p:PF},PF.get (erase W p) i=some v->PF.get p i=some v/\i∉W
 | [],h=>by cases h
 | (k,u)::p,h=>by
  simp only [erase] at h;split at h
  .rename_i he;have ih:=tm h;refine ⟨?_,ih.2⟩;rw [PF.nZ,if_neg]
   .exact ih.1
   .rintro rfl;exact ih.2 (xJ.1 he)
  .rename_i he;rw [PF.nZ] at h;split at h
   .rename_i e;refine ⟨by rw [PF.nZ,if_pos e];exact h,fun hm=> ?_⟩;rw [<- e] at hm;rw [xJ.2 hm] at he;cases he
   .rename_i e;have ih:=tm h;exact ⟨by rw [PF.nZ,if_neg e];exact ih.1,ih.2⟩
theorem Sub.erased {W:Ln} {p:PF} {fr fr':Fr} (hs:Sub N p fr) (hn:fr'.n=fr.n) (hf: ∀i,i∉W->fr'.look i=fr.look i):Sub N (erase W p) fr':=
 ⟨hn.trans hs.1,fun i v a=>(hf i (tm a).2).trans (hs.2 i v (tm a).1)⟩
end
section
variable {β:Type} {r:β}
theorem qy {σ:Type} {F:σ->Oq (Sum σ β)} {s:σ} (h:bl F s=some r): ∃n,oQ F n s=some r:=by
 unfold bl at h;split at h
 .rename_i hx;cases h;exact hx.choose_spec
 .cases h
theorem uK {σ:Type} {F:σ->Oq (Sum σ β)}: ∀{n m:Nat} {s:σ},n<=m->oQ F n s=some r->oQ F m s=some r
 | 0,_,_,_,h=>by cases h
 | n+1,0,_,hn,_=>by omega
 | n+1,m+1,s,hn,h=>by
  simp only [oQ] at h ⊢;split at h
  .exact uK (by omega) h
  .exact h
  .cases h
theorem Bg {σ:Type} {F:σ->Oq (Sum σ β)} {s:σ} {n:Nat} (h:oQ F n s=some r):bl F s=some r:=by
 have hx: ∃r n,oQ F n s=some r:=⟨r,n,h⟩;unfold bl;rw [dif_pos hx];obtain ⟨m,hm⟩:=hx.choose_spec;have h1:=uK (Nat.le_max_left m n) hm;have a:=uK (Nat.le_max_right m n) h;rw [h1] at a;exact a
theorem pX {σ:Type} (F:σ->Oq (Sum σ β)) (s:σ):bl F s=match F s with
  | some (.inl s')=>bl F s'
  | some (.inr r)=>some r
  | none=>none:=by
 cases e:F s with
 | none=>
  cases h:bl F s with
  | none=>rfl
  | some r=>
   obtain ⟨n,hn⟩:=qy h;cases n with
   | zero=>cases hn
   | succ n=>simp [oQ,e] at hn
 | some x=>
  cases x with
  | inr r=>exact Bg (n:=1) (by simp [oQ,e])
  | inl s'=>
   dsimp only;cases h:bl F s' with
   | some r=>
    obtain ⟨n,hn⟩:=qy h;exact Bg (n:=n+1) (by simp only [oQ,e];exact hn)
   | none=>
    cases a:bl F s with
    | none=>rfl
    | some r=>
     obtain ⟨n,hn⟩:=qy a;cases n with
     | zero=>cases hn
     | succ n=>
      simp only [oQ,e] at hn;rw [Bg hn] at h;cases h
theorem CG {K:Ex->Oq β} {x:Ex}: ∀{l:List Ex} {n k:Nat},CA x l n=some k->n<=k/\UC K l (k - n)=K x
 | [],_,_,h=>by cases h
 | y::l,n,k,h=>by
  simp only [CA] at h;split at h
  .rename_i e;have e:=abW e;cases h;refine ⟨aal _, ?_⟩;rw [abS, <- e];cases l <;> rfl
  .obtain ⟨h1,a⟩:=CG (K:=K) h;refine ⟨by omega, ?_⟩;cases l with
   | nil=>cases h
   | cons z l=>
    have:k - n=(k - (n+1))+1:=by omega
    rw [this];exact a
end
section
variable {N:Nat} {E:Env}
theorem me {S:Sx} (I:Sg E S.O) {tys:List (Nat×Td)}: ∀(c:Code) {live:Ln} {β:Type} {r:β} {p:PF} {fr:Fr} {st:St} {K:Ex->PF->St->Oq β},
  nv S N tys c live p st K=some r->Sub N p fr->(fr.strict=true->cS c=true)-> ∃ex fr' st' A,(lA fun n=>exec (cx S E n) n c fr st= .ok (ex,fr',st'))/\Sub N A fr'/\K ex A st'=some r
 | .skip,_,_,_,p,fr,st,_,h,hs,_=>⟨.normal,fr,st,p,lA.always fun _=>rfl,hs,h⟩
 | .label _,_,_,_,p,fr,st,_,h,hs,_=>⟨.normal,fr,st,p,lA.always fun _=>rfl,hs,h⟩
 | .exit i,_,_,_,p,fr,st,_,h,hs,_=>⟨.exit i,fr,st,p,lA.always fun _=>rfl,hs,h⟩
 | .ret,_,_,_,p,fr,st,_,h,hs,_=>⟨.ret,fr,st,p,lA.always fun _=>rfl,hs,h⟩
 | .goto _,_,_,_,_,_,_,_,h,_,_ | .refuse _,_,_,_,_,_,_,_,h,_,_=>by simp [nv] at h
 | .rangeFunc g ps a c,live,β,r,p,fr,st,K,h,hs,w=>by
  have hf:fr.strict=false:=by
   cases e:fr.strict with
   | false=>rfl
   | true=>exact absurd (w e) (by simp [cS])
  simp only [nv] at h;obtain ⟨fv,W,h⟩:=bX h hs;obtain ⟨vs,y,h⟩:=dO h hs;have y:vs=ma fr (sL ps.toList a c):=by
   clear h;generalize sL ps.toList a c=us at y
   induction us generalizing vs with
   | nil=>exact y
   | cons u us ih=>
    obtain ⟨v,vs',rfl,h1,H⟩:=y;rw [ih vs' H,ma,wN h1]
  subst y;unfold O4 at h;split at h
  .rename_i f cap _;obtain ⟨⟨v,st1⟩,h1,h⟩:=bN h;unfold Yt at h;dsimp only at h;split at h
   .rename_i b6 b7 a1 c1 o s p1 hg;obtain ⟨aw,h⟩:=eT h;have hJ: ∀l:List Ex,E3 p1 (fun ex=>K ex p (st1.put st.h .dead)) l=some r->K p1 p (st1.put st.h .dead)=some r:=by
     intro l
     induction l with
     | nil=>intro h;cases h
     | cons x l ih=>
      intro h;simp only [E3,Oz] at h;cases L:decide (p1=x) with
      | true=>rw [L] at h;rw [abW L] at h ⊢;exact h
      | false=>rw [L] at h;exact ih h
    refine ⟨p1,fr,st1.put st.h .dead,p,(I.wide _ _ _ _ h1).lift fun n hn=> ?_,hs,hJ _ h⟩;have W:cq (cx S E n).G fr g= .ok (.fn (.func f) [] cap):=W;have hn:(cx S E n).C.wide f (.yld st.h::cap) (st.new (.loop (cx S E n).imm ps.toList a c (Lq fr.n (sL ps.toList a c) (ma fr (sL ps.toList a c))) 0 .normal)).2= .ok (v,st1):=by
     rw [hs.1];exact hn
    simp only [exec,hf,W,aA,hn,hg,aw,aH]
   .cases h
  .cases h
 | .scope c,live,β,r,p,fr,st,K,h,hs,w=>me I c (live:=live) h hs fun e=>absurd (w e) (by simp [cS])
 | .region id ops draw,live,β,r,p,fr,st,K,h,hs,_=>by
  simp only [nv] at h;split at h
  .rename_i L;have L: ∀n,(draw&&(cx S E n).imm 4000000)=false:=fun n=>L;split at h
   .obtain ⟨fr',st',A,d,t,hK⟩:=tJ I (seen':=[]) h hs (fun _ hy=>by cases hy);exact ⟨.normal,fr',st',A,d.lift fun n hn=>by simp only [exec,L n,hn,aA,aH],t,hK⟩
   .obtain ⟨c,h1,H⟩:=bN h;obtain ⟨fr',st',A,d,t,hK⟩:=tJ I (seen':=[]) h1 hs (fun _ hy=>by cases hy);obtain ⟨vs,y,e⟩:=dO hK t;cases e;obtain ⟨m,hm⟩:=d;have hf:=lU (hm m (aal _));obtain ⟨F,j,z⟩:=fa H y (hs.erased hf.1 hf.2);exact ⟨.normal,fr',st',F,⟨m,fun n hn=>by simp only [exec,L n,hm n hn,aA,aH]⟩,j,z⟩
  .rename_i L;have L: ∀n,(draw&&(cx S E n).imm 4000000)=true:=fun n=>L;have h:=DF (K:=fun st'=>match vi ops.toList with
    | false=>uo S N (C5 st.h (qu ops.toList)) ops.toList 0 [] ops.toList p st' fun p st=>K .normal p st
    | true=>let ws:=dedup (uB live (cX ops.toList))
     aC (uo (β:=cJ) S N (C5 st.h (qu ops.toList)) ops.toList 0 [] ops.toList p st' fun p st=>getAll p ws fun vs=>some (vs,st)) fun c=>
      jq S.T tys ws c.1 (erase (cX ops.toList) p) fun p=>K .normal p c.2) h
   dsimp only at h;split at h
   .obtain ⟨fr',st',A,d,t,hK⟩:=rX I (seen':=[]) h hs (fun _ hy=>by cases hy);exact ⟨.normal,fr',st',A,d.lift fun n hn=>by simp only [exec,L n,hn,aA,aH],t,hK⟩
   .obtain ⟨c,h1,H⟩:=bN h;obtain ⟨fr',st',A,d,t,hK⟩:=rX I (seen':=[]) h1 hs (fun _ hy=>by cases hy);obtain ⟨vs,y,e⟩:=dO hK t;cases e;obtain ⟨m,hm⟩:=d;have hf:=kX (hm m (aal _));obtain ⟨F,j,z⟩:=fa H y (hs.erased hf.1 hf.2);exact ⟨.normal,fr',st',F,⟨m,fun n hn=>by simp only [exec,L n,hm n hn,aA,aH]⟩,j,z⟩
 | .seq a b,live,β,r,p,fr,st,K,h,hs,w=>by
  have w:fr.strict=true->cS a=true/\cS b=true:=fun e=>by have:=w e;simpa [cS] using this
  simp only [nv] at h;obtain ⟨ex,o,st1,p1,d,D,hK⟩:=me I a h hs fun e=>(w e).1;have a6:o.strict=fr.strict:=by
   obtain ⟨m,hm⟩:=d;exact gv _ (hm m (aal _))
  cases ex with
  | normal=>
   obtain ⟨ex,B,M,F,Z,j,z⟩:=me I b hK D fun e=>(w (a6 ▸ e)).2;exact ⟨ex,B,M,F,(d.both Z).lift fun n hn=>by simp only [exec,hn.1,aA,hn.2],j,z⟩
  | exit i=>exact ⟨.exit i,o,st1,p1,d.lift fun n hn=>by simp only [exec,hn,aA,aH],D,hK⟩
  | ret=>exact ⟨.ret,o,st1,p1,d.lift fun n hn=>by simp only [exec,hn,aA,aH],D,hK⟩
 | .cond c a b,live,β,r,p,fr,st,K,h,hs,w=>by
  have w:fr.strict=true->cS a=true/\cS b=true:=fun e=>by have:=w e;simpa [cS] using this
  simp only [nv] at h;obtain ⟨cv,W,h⟩:=bX h hs;obtain ⟨bv,rfl,h⟩:=BH h;have fin: ∀{ex fr' st'},(lA fun n=>exec (cx S E n) n (bif bv then a else b) fr st= .ok (ex,fr',st'))->lA fun n=>exec (cx S E n) n (.cond c a b) fr st= .ok (ex,fr',st'):=fun h=>h.lift fun n hn=>by
   have W:cq (cx S E n).G fr c= .ok (.bool bv):=W;cases bv <;> (simp only [exec,W,aA,VM.asBool];exact hn)
  have two: ∀{γ:Type} {q:γ} {J:Ex->PF->St->Oq γ},(bu bv (nv S N tys a live p st J) (nv S N tys b live p st J))=some q->
    ∃ex fr' st' A,(lA fun n=>exec (cx S E n) n (bif bv then a else b) fr st= .ok (ex,fr',st'))/\Sub N A fr'/\J ex A st'=some q:=by
   intro γ q J h;cases bv
   .exact me I b h hs fun e=>(w e).2
   .exact me I a h hs fun e=>(w e).1
  have outs: ∀{ex fr' st'},(lA fun n=>exec (cx S E n) n (bif bv then a else b) fr st= .ok (ex,fr',st'))->fr'.n=fr.n/\ ∀i,i∉writes a++writes b->fr'.look i=fr.look i:=by
   rintro ex fr' st' ⟨m,hm⟩;have:=ga _ (hm m (aal _));refine ⟨this.1,fun i hi=>this.2 i fun hm=>hi ?_⟩;cases bv
   .exact aaC.2 (.inr hm)
   .exact aaC.2 (.inl hm)
  split at h
  .obtain ⟨ex,fr',st',A,d,t,hK⟩:=two h;exact ⟨ex,fr',st',A,fin d,t,hK⟩
  .split at h
   .obtain ⟨q,h1,H⟩:=bN h;obtain ⟨ex,fr',st',A,d,t,hK⟩:=two h1;have hf:=outs d;cases ex with
    | normal=>
     obtain ⟨vs,y,e⟩:=dO hK t;cases e;obtain ⟨F,j,z⟩:=fa H y (hs.erased hf.1 hf.2);exact ⟨.normal,fr',st',F,fin d,j,z⟩
    | exit i=>cases hK
    | ret=>cases hK
   .obtain ⟨q,h1,H⟩:=bN h;obtain ⟨ex,fr',st',A,d,t,hK⟩:=two h1;have hf:=outs d;cases ex with
    | normal=>
     obtain ⟨vs,y,e⟩:=dO hK t;cases e;obtain ⟨F,j,z⟩:=fa H y (hs.erased hf.1 hf.2);exact ⟨.normal,fr',st',F,fin d,j,z⟩
    | exit i=>
     obtain ⟨q',P,e⟩:=bN hK;cases e;cases H;exact ⟨_,fr',st',A,fin d,t,P⟩
    | ret=>
     obtain ⟨q',P,e⟩:=bN hK;cases e;cases H;exact ⟨_,fr',st',A,fin d,t,P⟩
 | .block id c,live,β,r,p,fr,st,K,h,hs,w=>by
  simp only [nv] at h;split at h
  .obtain ⟨ex,o,st1,p1,d,D,hK⟩:=me I c h hs w;cases ex with
   | normal=>exact ⟨.normal,o,st1,p1,d.lift fun n hn=>by simp only [exec,hn,aA,aH],D,hK⟩
   | ret=>exact ⟨.ret,o,st1,p1,d.lift fun n hn=>by simp only [exec,hn,aA,aH],D,hK⟩
   | exit i=>
    dsimp only at hK;split at hK
    .rename_i hi;exact ⟨.normal,o,st1,p1,d.lift fun n hn=>by simp only [exec,hn,aA,aH,hi],D,hK⟩
    .rename_i hi;exact ⟨.exit i,o,st1,p1,d.lift fun n hn=>by simp only [exec,hn,aA,aH,hi],D,hK⟩
  .obtain ⟨q,h1,H⟩:=bN h;obtain ⟨ex,fr',st',A,d,t,hK⟩:=me I c h1 hs w;have hf:fr'.n=fr.n/\ ∀i,i∉writes c->fr'.look i=fr.look i:=by
    obtain ⟨m,hm⟩:=d;exact ga _ (hm m (aal _))
   cases ex with
   | normal=>
    obtain ⟨vs,y,e⟩:=dO hK t;cases e;obtain ⟨F,j,z⟩:=fa H y (hs.erased hf.1 hf.2);exact ⟨.normal,fr',st',F,d.lift fun n hn=>by simp only [exec,hn,aA,aH],j,z⟩
   | exit i=>
    dsimp only at hK;split at hK
    .rename_i hi;obtain ⟨vs,y,e⟩:=dO hK t;cases e;obtain ⟨F,j,z⟩:=fa H y (hs.erased hf.1 hf.2);exact ⟨.normal,fr',st',F,d.lift fun n hn=>by simp only [exec,hn,aA,aH,hi],j,z⟩
    .rename_i hi;obtain ⟨q',P,e⟩:=bN hK;cases e;cases H;exact ⟨.exit i,fr',st',A,d.lift fun n hn=>by simp only [exec,hn,aA,aH,hi],t,P⟩
   | ret=>
    obtain ⟨q',P,e⟩:=bN hK;cases e;cases H;exact ⟨.ret,fr',st',A,d.lift fun n hn=>by simp only [exec,hn,aA,aH],t,P⟩
 | .loop c,live,β,r,p,fr,st,K,h,hs,w=>by
  simp only [nv] at h;obtain ⟨vs,y,h⟩:=dO h hs;obtain ⟨q,h1,H⟩:=bN h;obtain ⟨m,hm⟩:=qy h1;have key: ∀(m:Nat) (vs:LA) (st:St) (o:Fr),Rs o (dedup (kN p (writes c))) vs->o.strict=fr.strict->o.n=fr.n->(∀i,i∉writes c->o.look i=fr.look i)->
    oQ (fun s:cJ=>jq S.T tys (dedup (kN p (writes c))) s.1 (erase (writes c) p) fun A=>nv S N tys c (dedup (kN p (writes c))++live) A s.2 fun ex A st=>match ex with
     | .normal=>getAll A (dedup (kN p (writes c))) fun vs=>some ((.inl (vs,st):Sum cJ (Nat×cJ)))
     | ex=>aC (CA ex ((leaves c).outs.eraseDups.map .exit++(match (leaves c).rets with | true=>[.ret] | false=>[])) 0) fun k=>getAll A (uB live (dedup (kN p (writes c)))) fun vs=>some (.inr (k,vs,st))) m (vs,st)=some q-> ∃ex fr' st' A,(lA fun n=> ∃k,k<=m/\iter (exec (cx S E n) n c) k o st= .ok (ex,fr',st'))/\ex≠ .normal/\Sub N A fr'/\(fr'.n=fr.n/\ ∀i,i∉writes c->fr'.look i=fr.look i)/\
     (aC (CA ex ((leaves c).outs.eraseDups.map .exit++(match (leaves c).rets with | true=>[.ret] | false=>[])) 0) fun k=>getAll A (uB live (dedup (kN p (writes c)))) fun vs=>some ((.inr (k,vs,st'):Sum cJ (Nat×cJ))))=some (.inr q):=by
   intro m
   induction m with
   | zero=>intro vs st o _ _ _ _ h;cases h
   | succ m ih=>
    intro vs st o hv X hn hf h;simp only [oQ] at h;split at h
    .rename_i s' e;obtain ⟨p1,D,P⟩:=fa e hv (hs.erased hn hf);obtain ⟨ex,B,M,F,d,j,hK⟩:=me I c P D fun e=>w (X ▸ e);have Q:B.n=o.n/\ ∀i,i∉writes c->B.look i=o.look i:=by
      obtain ⟨m,hm⟩:=d;exact ga _ (hm m (aal _))
     have ar:B.strict=o.strict:=by
      obtain ⟨m,hm⟩:=d;exact gv _ (hm m (aal _))
     cases ex with
     | normal=>
      obtain ⟨R,Y,U⟩:=dO hK j;cases U;obtain ⟨ex,a7,a8,p3,av,hx,bb,bt,b4⟩:=ih R M B Y (ar.trans X) (Q.1.trans hn) (fun i hi=>(Q.2 i hi).trans (hf i hi)) h;refine ⟨ex,a7,a8,p3,(d.both av).lift fun n hn=> ?_,hx,bb,bt,b4⟩;obtain ⟨h4,k,hk,h5⟩:=hn;exact ⟨k+1,by omega,by simp only [iter,h4,aA];exact h5⟩
     | exit i=>
      obtain ⟨k,_,hK⟩:=bN hK;obtain ⟨R,_,U⟩:=dO hK j;cases U
     | ret=>
      obtain ⟨k,_,hK⟩:=bN hK;obtain ⟨R,_,U⟩:=dO hK j;cases U
    .rename_i q' e;cases h;obtain ⟨p1,D,P⟩:=fa e hv (hs.erased hn hf);obtain ⟨ex,B,M,F,d,j,hK⟩:=me I c P D fun e=>w (X ▸ e);have Q:B.n=o.n/\ ∀i,i∉writes c->B.look i=o.look i:=by
      obtain ⟨m,hm⟩:=d;exact ga _ (hm m (aal _))
     have V:B.n=fr.n/\ ∀i,i∉writes c->B.look i=fr.look i:=⟨Q.1.trans hn,fun i hi=>(Q.2 i hi).trans (hf i hi)⟩;cases ex with
     | normal=>
      obtain ⟨R,_,U⟩:=dO hK j;cases U
     | exit i=>exact ⟨_,B,M,F,d.lift fun n hn=>⟨1,by omega,by simp only [iter,hn,aA];rfl⟩,(by intro h;cases h),j,V,hK⟩
     | ret=>exact ⟨_,B,M,F,d.lift fun n hn=>⟨1,by omega,by simp only [iter,hn,aA];rfl⟩,(by intro h;cases h),j,V,hK⟩
    .cases h
  obtain ⟨ex,fr',st',A,d,_,t,hf,hK⟩:=key m vs st fr y rfl rfl (fun _ _=>rfl) hm;obtain ⟨k,P,hK⟩:=bN hK;obtain ⟨R,Y,U⟩:=dO hK t;cases U;obtain ⟨F,j,z⟩:=fa H Y (hs.erased hf.1 hf.2);have z:K ex F st'=some r:=(CG (K:=fun ex=>K ex F st') P).2.symm.trans z;refine ⟨ex,fr',st',F, ?_,j,z⟩;obtain ⟨m',b5⟩:=d;refine ⟨max m' m,fun n hn=> ?_⟩;obtain ⟨k,hk,h5⟩:=b5 n (by omega);simp only [exec];exact xS (fun _ _ _ h=>h) (by omega) h5
end
section
variable {β:Type} {r:β} {N:Nat} {E:Env} {S:Sx}
theorem uX {T:TT}: ∀{vs:LA} {ts:List Td} {i:Nat} {p:PF} {t:Tr AV} {K:PF->Oq β},HI T i ts vs p K=some r->Sub N p ⟨N,t,false⟩-> ∃c,Sub N c ⟨N,wZ i vs t,false⟩/\K c=some r
 | [],_,_,p,_,_,h,hs=>⟨p,hs,h⟩
 | v::vs,ts,i,p,t,K,h,hs=>by
  have a:Sub N ((i,v)::p) ⟨N,t.put i v,false⟩:=by
   refine ⟨rfl,fun j u b=> ?_⟩;rw [PF.nZ] at b;have d: ∀t:Tr AV,(⟨N,t,false⟩:Fr).look j=some ((t.get j).getD undef):=fun _=>rfl;rw [d,Tr.lY];split at b
   .rename_i e;rw [if_pos e];cases b;rfl
   .rename_i e;rw [if_neg e, <- d];exact hs.2 j u b
  cases ts with
  | nil=>exact uX (vs:=vs) (ts:=[]) (i:=i+1) (p:=(i,v)::p) h a
  | cons ty ts=>exact uX (vs:=vs) (ts:=ts) (i:=i+1) (p:=(i,v)::p) (lF (K:=fun v=>HI T (i+1) ts vs ((i,v)::p) K) h) a
theorem LC {p:PF} {fr:Fr} {st:St} {x:ResultVar} {K:AV->Oq β} (h:QT S p st x K=some r) (hs:Sub N p fr): ∃v,mg S.T fr st x= .ok v/\K v=some r:=by
 cases x with
 | tmp t=>
  simp only [QT] at h;split at h
  .rename_i v d;exact ⟨v,by simp only [mg,wN (hs.2 _ _ d)],h⟩
  .cases h
 | cell a t=>
  simp only [QT] at h;obtain ⟨i,e,h⟩:=cN h;split at h
  .rename_i j d;have f:=wN (hs.2 _ _ d);obtain ⟨⟨v,rd⟩,b,h⟩:=bN h;unfold Hn at b;split at b
   .split at b
    .rename_i c;cases b;exact ⟨v,by simp only [mg,e,f,aA,nU,c,aH],lF h⟩
    .cases b
   .split at b
    .rename_i c;split at b
     .rename_i g;cases b;exact ⟨v,by simp only [mg,e,f,aA,nU,jD,c,g,cellsOf,aH],lF h⟩
     .cases b
    .cases b
   .split at b
    .rename_i c;split at b
     .rename_i hm;split at b
      .rename_i g;cases b;exact ⟨v,by simp only [mg,e,f,aA,nU,jD,c,g,hm,aH],lF h⟩
      .cases b
     .cases b
    .cases b
   .cases b
  .cases h
theorem Bi {p:PF} {fr:Fr} {st:St}: ∀{l:List ResultVar} {K:LA->Oq β},K1 S p st l K=some r->Sub N p fr-> ∃vs,ju S.T fr st l= .ok vs/\K vs=some r
 | [],_,h,_=>⟨[],rfl,h⟩
 | x::l,K,h,hs=>by
  obtain ⟨v,e,h⟩:=LC h hs;obtain ⟨vs,a,h⟩:=Bi h hs;exact ⟨v::vs,by simp only [ju,e,a,aA,aH],h⟩
theorem Gj (d:Sg E S.O) {fn:Func} {args:LA} {st:St} {K:AV->St->Oq β} (h:Kb S fn args st K=some r):
  ∃v st',(lA fun n=>body (cx S E n) n fn args st= .ok (v,st'))/\K v st'=some r:=by
 unfold Kb at h;split at h
 .cases h
 .rename_i c f;split at h
  .cases h
  .rename_i hl;obtain ⟨p,hs,h⟩:=uX (N:=fn.ntmps) (t:= .leaf) h ⟨rfl,fun _ _ g=>by cases g⟩;obtain ⟨ex,fr',st',j,a,b,hK⟩:=me d c h hs (fun e=>by cases e);have hx:(K1 S j st' fn.results.toList fun vs=>K (oneOf vs) st')=some r/\(∀i,ex≠ .exit i):=by
    cases ex with
    | exit i=>cases hK
    | normal=>exact ⟨hK,by intro i h;cases h⟩
    | ret=>exact ⟨hK,by intro i h;cases h⟩
   obtain ⟨vs,e,hK⟩:=Bi hx.1 b;refine ⟨oneOf vs,st',a.lift fun n hn=> ?_,hK⟩;have e:ju (cx S E n).T fr' st' fn.results.toList= .ok vs:=e;have hn:exec (cx S E n) n c (wj fn.ntmps args) st= .ok (ex,fr',st'):=hn;unfold body;rw [f];dsimp only;rw [hl];dsimp only;rw [hn,aA];cases ex with
   | exit i=>exact absurd rfl (hx.2 i)
   | normal=>simp only [e,aA,aH]
   | ret=>simp only [e,aA,aH]
end
section
variable {E:Env}
open Classical in
noncomputable def aQ (E:Env):tf where
 full:=E.full
 isLook:=E.isLook
 bare f a:=if h: ∃v n,(caller E n).bare f a= .ok v then some h.choose else none
 wide f a st:=if h: ∃v n,(caller E n).wide f a st= .ok v then some h.choose else none
 look f a st:=if h: ∃v n,(caller E n).look f a st= .ok v then some h.choose else none
 round k a st:=if h: ∃v n,(caller E n).round k a st= .ok v then some h.choose else none
theorem HZ (E:Env):Sg E (aQ E) where
 full:=rfl
 isLook:=rfl
 bare f a v h:=by
  simp only [aQ] at h;split at h
  .rename_i hx;cases h;obtain ⟨m,hm⟩:=hx.choose_spec;exact ⟨m,fun n hn=>(gF E hn).bare _ _ _ hm⟩
  .cases h
 wide f a st v h:=by
  simp only [aQ] at h;split at h
  .rename_i hx;cases h;obtain ⟨m,hm⟩:=hx.choose_spec;exact ⟨m,fun n hn=>(gF E hn).wide _ _ _ _ hm⟩
  .cases h
 look f a st v h:=by
  simp only [aQ] at h;split at h
  .rename_i hx;cases h;obtain ⟨m,hm⟩:=hx.choose_spec;exact ⟨m,fun n hn=>(gF E hn).look _ _ _ _ hm⟩
  .cases h
 round k a st v h:=by
  simp only [aQ] at h;split at h
  .rename_i hx;cases h;obtain ⟨m,hm⟩:=hx.choose_spec;exact ⟨m,fun n hn=>(gF E hn).round _ _ _ _ hm⟩
  .cases h
theorem Ac {f:FuncId} {a:LA} {v:AV} {n:Nat} (h:(caller E n).bare f a= .ok v):(aQ E).bare f a=some v:=by
 have hx: ∃v n,(caller E n).bare f a= .ok v:=⟨v,n,h⟩;simp only [aQ,dif_pos hx];obtain ⟨m,hm⟩:=hx.choose_spec;have h1:=(gF E (Nat.le_max_left m n)).bare _ _ _ hm;have b:=(gF E (Nat.le_max_right m n)).bare _ _ _ h;rw [h1] at b;simpa using b
theorem OP {f:FuncId} {a:LA} {st:St} {v:AV×St} {n:Nat} (h:(caller E n).wide f a st= .ok v):(aQ E).wide f a st=some v:=by
 have hx: ∃v n,(caller E n).wide f a st= .ok v:=⟨v,n,h⟩;simp only [aQ,dif_pos hx];obtain ⟨m,hm⟩:=hx.choose_spec;have h1:=(gF E (Nat.le_max_left m n)).wide _ _ _ _ hm;have b:=(gF E (Nat.le_max_right m n)).wide _ _ _ _ h;rw [h1] at b;simpa using b
noncomputable def sx (E:Env) (f:FuncId):Sx:=⟨E.T,E.prim,E.imm f,E.G,aQ E⟩
noncomputable def bB (E:Env) (f:FuncId) (args:LA):Oq AV:=
 match E.F f with
 | none=>none
 | some fn=>Kb (sx E f) fn args St.empty fun v s=>eF s 0 v some
noncomputable def dT (E:Env) (f:FuncId) (args:LA) (st:St):Oq (AV×St):=
 match E.F f with
 | none=>none
 | some fn=>Kb (sx E f) fn args st fun v s=>some (v,s)
theorem LD {β:Type} {r:β} {st:St} {b:Nat} {v:AV} {K:AV->Oq β} (h:eF st b v K=some r): ∃v',freeze st b 100 v= .ok v'/\bare v'=true/\K v'=some r:=by
 unfold eF at h;split at h
 .obtain ⟨h1,h⟩:=eT h;exact ⟨_,by assumption,h1,h⟩
 .cases h
theorem aU {f:FuncId} {args:LA} {v:AV} (hm:(E.memo f,(E.rule f).isSome)=([],false)) (h:bB E f args=some v):(aQ E).bare f args=some v:=by
 unfold bB at h;split at h
 .cases h
 .rename_i fn c;obtain ⟨u,s,⟨m,a⟩,h⟩:=Gj (HZ E) h;obtain ⟨v',h1,b,h⟩:=LD h;cases h;refine Ac (n:=m+1) ?_;have a:body ⟨E.T,E.prim,E.imm f,E.G,caller E m⟩ m fn args St.empty= .ok (u,s):=a m (aal _);have d:E.known f args=none:=by
   unfold Env.known;have h1:=aaU Prod.fst hm;have b:=aaU Prod.snd hm;dsimp only at h1 b;cases e:E.rule f with
   | some r=>rw [e] at b;cases b
   | none=>dsimp only;rw [h1];rfl
  simp only [caller,d,c,a,aA,h1,b,aH]
theorem iB {f:FuncId} {args:LA} {st:St} {v:AV×St} (h:dT E f args st=some v):(aQ E).wide f args st=some v:=by
 unfold dT at h;split at h
 .cases h
 .rename_i fn b;obtain ⟨u,s,⟨m,a⟩,h⟩:=Gj (HZ E) h;cases h;refine OP (n:=m+1) ?_;have a:body ⟨E.T,E.prim,E.imm f,E.G,caller E m⟩ m fn args st= .ok (u,s):=a m (aal _);simp only [caller,b,a,aA,aH]
end
structure Lp where
 n:Nat
 ps:Ln
 a:Code
 c:Code
 tys:List (Nat×Td)
section
variable {E:Env} {r:AV×St}
end
abbrev gq {β:Type} (v:AV) (K:Int->Int->Int->Int->LB->AV->Oq β):Oq β:=uz v fun l=>bo l fun v0 l=>bK .u8 v0 fun a0=>bo l fun v1 l=>bK .u8 v1 fun a1=>bo l fun v2 l=>bK .i64 v2 fun a2=>bo l fun v3 l=>bK .i64 v3 fun a3=>bo l fun v4 l=>fG v4 fun a4=>bo l fun v5 l=>bQ l (K a0 a1 a2 a3 a4 v5)
abbrev az {β:Type} (v:AV) (K:Int->Int->LB->AV->Oq β):Oq β:=uz v fun l=>bo l fun v0 l=>bK .u8 v0 fun a0=>bo l fun v1 l=>bK .u8 v1 fun a1=>bo l fun v2 l=>fG v2 fun a2=>bo l fun v3 l=>bQ l (K a0 a1 a2 v3)
abbrev cK {β:Type} (v:AV) (K:Int->Int->LB->AV->Int->Oq β):Oq β:=uz v fun l=>bo l fun v0 l=>bK .u8 v0 fun a0=>bo l fun v1 l=>bK .u8 v1 fun a1=>bo l fun v2 l=>fG v2 fun a2=>bo l fun v3 l=>bo l fun v4 l=>bK .i64 v4 fun a4=>bQ l (K a0 a1 a2 v3 a4)
abbrev cW {β:Type} (v:AV) (K:Int->Int->Int->Bool->LB->AV->AV->Oq β):Oq β:=uz v fun l=>bo l fun v0 l=>bK .u8 v0 fun a0=>bo l fun v1 l=>bK .i64 v1 fun a1=>bo l fun v2 l=>bK .i64 v2 fun a2=>bo l fun v3 l=>ct v3 fun a3=>bo l fun v4 l=>fG v4 fun a4=>bo l fun v5 l=>bo l fun v6 l=>bQ l (K a0 a1 a2 a3 a4 v5 v6)
abbrev iH {β:Type} (v:AV) (K:Int->LB->Oq β):Oq β:=uz v fun l=>bo l fun v0 l=>bK .u8 v0 fun a0=>bo l fun v1 l=>fG v1 fun a1=>bQ l (K a0 a1)
abbrev aL {β:Type} (v:AV) (K:Int->LB->Int->AV->Oq β):Oq β:=uz v fun l=>bo l fun v0 l=>bK .u8 v0 fun a0=>bo l fun v1 l=>fG v1 fun a1=>bo l fun v2 l=>bK .i64 v2 fun a2=>bo l fun v3 l=>bQ l (K a0 a1 a2 v3)
abbrev jZ {β:Type} (v:AV) (K:Int->LB->Int->AV->Int->Bool->Oq β):Oq β:=uz v fun l=>bo l fun v0 l=>bK .u8 v0 fun a0=>bo l fun v1 l=>fG v1 fun a1=>bo l fun v2 l=>bK .i64 v2 fun a2=>bo l fun v3 l=>bo l fun v4 l=>bK .i64 v4 fun a4=>bo l fun v5 l=>ct v5 fun a5=>bQ l (K a0 a1 a2 v3 a4 a5)
abbrev AF {β:Type} (v:AV) (K:Int->Int->Oq β):Oq β:=uz v fun l=>bo l fun v0 l=>bK .i64 v0 fun a0=>bo l fun v1 l=>bK .i64 v1 fun a1=>bQ l (K a0 a1)
abbrev jl {β:Type} (v:AV) (K:Int->Int->Bool->AV->Int->Int->Int->Bool->LB->AV->AV->Oq β):Oq β:=uz v fun l=>bo l fun v0 l=>bK .i64 v0 fun a0=>bo l fun v1 l=>bK .i64 v1 fun a1=>bo l fun v2 l=>ct v2 fun a2=>bo l fun v3 l=>bo l fun v4 l=>bK .u8 v4 fun a4=>bo l fun v5 l=>bK .i64 v5 fun a5=>bo l fun v6 l=>bK .i64 v6 fun a6=>bo l fun v7 l=>ct v7 fun a7=>bo l fun v8 l=>fG v8 fun a8=>bo l fun v9 l=>bo l fun v10 l=>bQ l (K a0 a1 a2 v3 a4 a5 a6 a7 a8 v9 v10)
section
variable {β:Type}
@[simp] theorem aF {α:Type} (a:α) (K:α->Oq β):bx a K=K a:=id rfl
@[simp] theorem af (k:IntKind) (n:Int) (K:Int->Oq β):bK k (.int k n) K=K n:=by simp [bK]
@[simp] theorem au (b:Bool) (K:Bool->Oq β):ct (.bool b) K=K b:=id rfl
@[simp] theorem ah (s:LB) (K:LB->Oq β):fG (.str s) K=K s:=id rfl
@[simp] theorem Xu (k:IntKind) (n:Int) (K:Int->Oq β):anyI (.int k n) K=K n:=id rfl
@[simp] theorem al (cs:LA) (K:LA->Oq β):uz (.agg cs) K=K cs:=id rfl
@[simp] theorem br (cs:LA) (K:LA->Oq β):ig (.tup cs) K=K cs:=id rfl
@[simp] theorem ab (v:AV) (l:LA) (K:AV->LA->Oq β):bo (v::l) K=K v l:=id rfl
@[simp] theorem ae (K:Oq β):bQ [] K=K:=id rfl
@[simp] theorem aG (K:Oq β):cf true K=K:=id rfl
theorem mR {b:Bool} (h:b=true) (K:Oq β):cf b K=K:=by rw [h];rfl
@[simp] theorem ay (x y:Oq β):bu true x y=x:=id rfl
@[simp] theorem aq (x y:Oq β):bu false x y=y:=id rfl
@[simp] theorem ak (p:Prop) [Decidable p] (x y:Oq β):bu (decide p) x y=if p then x else y:=by
 by_cases h:p <;> simp [h]
@[simp] theorem bZ (a b:Int) (x y:Oq β):bu (a==b) x y=if a=b then x else y:=by
 by_cases h:a=b
 .simp [h]
 .rw [beq_false_of_ne h];simp [h]
@[simp] theorem YD (a b:Int) (x y:Oq β):bu (a != b) x y=if a=b then y else x:=by
 by_cases h:a=b
 .simp [h]
 .rw [bne,beq_false_of_ne h];simp [h]
@[simp] theorem YI (b:Bool) (x y:Oq β):bu (!b) x y=bu b y x:=by cases b <;> rfl
@[simp] theorem ai {α:Type} (a:α) (K:α->Oq β):aC (some a) K=K a:=id rfl
@[simp] theorem bz {α:Type} (a:α) (K:α->Oq β):kZ (.inl a) K=K a:=id rfl
@[simp] theorem cu {α:Type} (b:β) (K:α->Oq β):kZ (.inr b) K=some b:=id rfl
@[simp] theorem gU (a:Oq β) (b:Nat->Oq β):rM 0 a b=a:=id rfl
@[simp] theorem Ly (n:Nat) (a:Oq β) (b:Nat->Oq β):rM (n+1) a b=b n:=id rfl
@[simp] theorem pE (a:Oq β) (b:Nat->Oq β):rM 1 a b=b 0:=id rfl
theorem jH {v:AV} (h:one v=true) (K:Oq β):ad v K=K:=mR h K
@[simp] theorem Ud (b:Bool) (K:Oq β):ad (.bool b) K=K:=id rfl
@[simp] theorem MO (k:IntKind) (n:Int) (K:Oq β):ad (.int k n) K=K:=id rfl
@[simp] theorem LM (s:LB) (K:Oq β):ad (.str s) K=K:=id rfl
@[simp] theorem H2 (K:Oq β):ad .ax K=K:=id rfl
@[simp] theorem Yr (z:Nat) (e:LA) (p:Perm) (K:Oq β):ad (.sl z e p) K=K:=id rfl
@[simp] theorem Xv (i o:Nat) (K:Oq β):ad (.mp i o) K=K:=id rfl
@[simp] theorem Xg (cs:LA) (K:Oq β):ad (.ip cs) K=K:=id rfl
@[simp] theorem UZ (K:Oq β):ad .nilp K=K:=id rfl
@[simp] theorem Xw (i:Nat) (K:Oq β):ad (.mm i) K=K:=id rfl
@[simp] theorem Wc (K:Oq β):ad .nilm K=K:=id rfl
@[simp] theorem Xk (f:Fn) (a b:LA) (K:Oq β):ad (.fn f a b) K=K:=id rfl
@[simp] theorem aP (v:AV) (l:LA) (K:AV->Oq β):cB (v::l) 0 K=K v:=id rfl
@[simp] theorem WC (v:AV) (l:LA) (n:Nat) (K:AV->Oq β):cB (v::l) (n+1) K=cB l n K:=id rfl
@[simp] theorem ba (u v:AV) (l:LA) (K:AV->Oq β):cB (u::v::l) 1 K=K v:=id rfl
@[simp] theorem XM (u v w:AV) (l:LA) (K:AV->Oq β):cB (u::v::w::l) 2 K=K w:=id rfl
@[simp] theorem Un (u v w x:AV) (l:LA) (K:AV->Oq β):cB (u::v::w::x::l) 3 K=K x:=id rfl
@[simp] theorem Ws (u v w x y:AV) (l:LA) (K:AV->Oq β):cB (u::v::w::x::y::l) 4 K=K y:=id rfl
@[simp] theorem WS (u v w x y z:AV) (l:LA) (K:AV->Oq β):cB (u::v::w::x::y::z::l) 5 K=K z:=id rfl
@[simp] theorem nc (off:Nat) (cs:LA) (K:AV->Oq β):ch off (.ip cs) K=K (.ip (cs.drop off)):=id rfl
@[simp] theorem YM (off i n o:Nat) (K:AV->Oq β):ch off (.gp i n o) K=K (.gp i n (o+off)):=id rfl
@[simp] theorem bw (off i o:Nat) (K:AV->Oq β):ch off (.mp i o) K=K (.mp i (o+off)):=id rfl
def jx (size:Nat) (agg:Bool) (cs:LA):Oq AV:=MD (cV size agg cs)
@[simp] theorem aR (z:Nat) (v:AV) (l:LA):jx z false (v::l)=some v:=id rfl
theorem Mx {z:Nat} {cs:LA} (h:z<=cs.length):jx z true cs=some (.agg (cs.take z)):=by
 simp only [jx,cV,aaL h,MD]
theorem Ms {cs:LA} {z:Nat} (h:cs.length=z):jx z true cs=some (.agg cs):=by
 subst h;rw [Mx (aal _),aaJ]
@[simp] theorem bj (z:Nat) (g:Bool) (cs:LA) (st:St) (K:AV->Ln->Oq β):ao z g (.ip cs) st K=aC (jx z g cs) fun v=>K v []:=by
 unfold ao Hn jx;dsimp only;cases cV z g cs <;> rfl
theorem bq {st:St} {i:Nat} {t:Td} {cs:LA} (h:st.get i= .ok (.cells t cs)) (z:Nat) (g:Bool) (o:Nat) (K:AV->Ln->Oq β):ao z g (.mp i o) st K=aC (jx z g (cs.drop o)) fun v=>K v [i]:=by
 unfold ao Hn jx;dsimp only;rw [h];dsimp only;cases cV z g (cs.drop o) <;> rfl
@[simp] theorem YL (i o:Nat) (K:Oq β):N4 (.mp i o) K=K:=id rfl
@[simp] theorem YG (cs:LA) (K:Oq β):N4 (.ip cs) K=K:=id rfl
@[simp] theorem XJ (K:Oq β):ad .es K=K:=id rfl
@[simp] theorem YF (K:AV->Oq β):aD .es K=K .es:=id rfl
@[simp] theorem WH (K:Nat->Oq β):dm .ax K=K 0:=id rfl
@[simp] theorem Qk (z:Nat) (e:LA) (p:Perm) (K:Nat->Oq β):dm (.sl z e p) K=K e.length:=id rfl
@[simp] theorem WG (b:Bool) (K:AV->Oq β):aD (.bool b) K=K (.bool b):=id rfl
@[simp] theorem Hh (k:IntKind) (n:Int) (K:AV->Oq β):aD (.int k n) K=K (.int k n):=id rfl
@[simp] theorem Nf (s:LB) (K:AV->Oq β):aD (.str s) K=K (.str s):=id rfl
@[simp] theorem WQ (K:AV->Oq β):aD .ax K=K .ax:=id rfl
@[simp] theorem WN (z:Nat) (e:LA) (K:AV->Oq β):aD (.sl z e .wide) K=K (.sl z e .wide):=id rfl
@[simp] theorem Wq (z:Nat) (e:LA) (K:AV->Oq β):aD (.sl z e .shut) K=K (.sl z e .shut):=id rfl
@[simp] theorem X2 (z k:Nat) (e:LA) (K:AV->Oq β):aD (.sl z e (.own k)) K=K (.sl z e .wide):=id rfl
theorem Jq {i:Int} {n:Nat} (h0:0<=i) (h1:i < n) (K:Nat->Oq β):nu i n K=K i.toNat:=by
 obtain ⟨k,rfl⟩:=Int.eq_ofNat_of_zero_le h0;have:k.blt n=true:=cZ.2 (by omega);simp only [nu];show cf (k.blt n) (K k)= _;rw [mR this];rfl
theorem Og {i:Int} {n:Nat} (h0:0<=i) (h1:i<=n) (K:Nat->Oq β):gM i n K=K i.toNat:=by
 obtain ⟨k,rfl⟩:=Int.eq_ofNat_of_zero_le h0;have:k.ble n=true:=aaL (by omega);show cf (k.ble n) (K k)= _;rw [mR this];rfl
theorem Gf {k n:Nat} (h:k < n) (K:Nat->Oq β):nu (k:Int) n K=K k:=Jq (by omega) (by omega) K
theorem db {k n:Nat} (h:k<=n) (K:Nat->Oq β):gM (k:Int) n K=K k:=Og (by omega) (by omega) K
theorem gd {s:LB} {k:Nat} (h:k < s.length) (K:UInt8->Oq β):kF s (k:Int) K=K s[k]:=by
 unfold kF;rw [Gf h];simp [h]
end
theorem Ee: ∀{l:LA} {n:Nat} {v:AV},l[n]? =some v->Fk l n=some v
 | [],_,_,h=>by simp at h
 | _:: _,0,_,h=>by simpa [Fk] using h
 | _::l,n+1,_,h=>by simp only [Fk];exact Ee (by simpa using h)
def aO (z:Nat) (x:AV) (es:LA):Prop:=es.length<=9223372036854775807/\(((x= .ax\/x= .es)/\es=[])\/x= .sl z es .shut\/x= .sl z es .wide)
namespace aO
variable {β:Type} {z:Nat} {x:AV} {es:LA}
theorem ax:aO z .ax []:=⟨by simp,.inl ⟨.inl rfl,rfl⟩⟩
theorem emp:aO z .es []:=⟨by simp,.inl ⟨.inr rfl,rfl⟩⟩
theorem wide (h:es.length<=9223372036854775807):aO z (.sl z es .wide) es:=⟨h,.inr (.inr rfl)⟩
theorem shut (h:es.length<=9223372036854775807):aO z (.sl z es .shut) es:=⟨h,.inr (.inl rfl)⟩
theorem one (h:aO z x es):VM.one x=true:=by rcases h.2 with ⟨rfl | rfl,rfl⟩ | rfl | rfl <;> rfl
theorem bare (h:aO z x es):VM.bare x=true:=by rcases h.2 with ⟨rfl | rfl,rfl⟩ | rfl | rfl <;> rfl
theorem strip (h:aO z x es):VM.strip x=x:=by rcases h.2 with ⟨rfl | rfl,rfl⟩ | rfl | rfl <;> rfl
theorem ad (h:aO z x es) (K:Oq β):ad x K=K:=jH h.one K
theorem aD (h:aO z x es) (K:AV->Oq β):aD x K=K x:=by rcases h.2 with ⟨rfl | rfl,rfl⟩ | rfl | rfl <;> rfl
theorem len (h:aO z x es) (K:Nat->Oq β):dm x K=K es.length:=by rcases h.2 with ⟨rfl | rfl,rfl⟩ | rfl | rfl <;> rfl
theorem elems (h:aO z x es) (K:LA->Oq β):oY x K=K es:=by rcases h.2 with ⟨rfl | rfl,rfl⟩ | rfl | rfl <;> rfl
theorem idx (h:aO z x es) {k:Nat} {v:AV} (b:es[k]? =some v) (st:St) (K:AV->Ln->Oq β):bL z x (k:Int) st K=K (.ip v.cells) []:=by
 have a:k < es.length:=(abB.1 b).1;have c:z.beq z=true:=aa9 z;have hi:oy (k:Int) es.length=some k:=by
  show (match k.blt es.length with | true=>some k | false=>none)= _;rw [cZ.2 a]
 have hn:Fk es k=some v:=Ee b;have hlen:=h.1;rcases h.2 with ⟨rfl | rfl,rfl⟩ | rfl | rfl
 .simp at a
 .simp at a
 .simp only [bL,H9,c,hi,hn,ai]
 .simp only [bL,H9,c,hi,hn,ai]
theorem slice (h:aO z x es) {lo hi:Oq Int} {l m:Nat} (hl:uU lo m 0=some l) (a:uU hi es.length es.length=some m) (K:AV->Oq β):
  ∃x',aO z x' ((es.take m).drop l)/\dL z x lo hi none K=K x':=by
 have b:z.beq z=true:=aa9 z;have hlen:=h.1;rcases h.2 with ⟨rfl | rfl,rfl⟩ | rfl | rfl
 .have a:uU hi 0 0=some m:=a;refine ⟨.ax,⟨by simp,.inl ⟨.inl rfl,by simp⟩⟩, ?_⟩;simp only [dL,mU,show uU none 0 0=some 0 from rfl,a,hl,ai]
 .have a:uU hi 0 0=some m:=a;refine ⟨.es,⟨by simp,.inl ⟨.inr rfl,by simp⟩⟩, ?_⟩;simp only [dL,mU,show uU none 0 0=some 0 from rfl,a,hl,ai]
 .simp only [dL,mU,b,a,hl];cases e:m.beq es.length with
  | true=>
   have:=aap e;subst this;exact ⟨.sl z (es.drop l) .shut,by simpa using aO.shut (z:=z) (es:=es.drop l) (by rw [aaz];omega),rfl⟩
  | false=>exact ⟨_,aO.wide (by rw [aaz,aau];omega),rfl⟩
 .simp only [dL,mU,b,a,hl];cases e:m.beq es.length with
  | true=>exact ⟨_,aO.wide (by rw [aaz,aau];omega),rfl⟩
  | false=>exact ⟨_,aO.wide (by rw [aaz,aau];omega),rfl⟩
end aO
theorem iu {k n d:Nat} (h:k<=n):uU (some (k:Int)) n d=some k:=by
 show (match k.ble n with | true=>some k | false=>none)= _;rw [aaL h]
theorem kL {n d:Nat}:uU none n d=some d:=rfl
def iX (st:St) (z:Nat) (e:Td) (v:AV) (es:LA):Prop:=
 st.ro<=st.h/\es.length<=9223372036854775807/\(((v= .ax\/v= .es)/\es=[])\/v= .sl z es .shut\/ ∃k,v= .sl z es (.own k)/\st.get k= .ok (.tok es.length e)/\st.ro<=k)
theorem iX.ax {st:St} (h:st.ro<=st.h) (z:Nat) (e:Td):iX st z e .ax []:=⟨h,by simp,.inl ⟨.inl rfl,rfl⟩⟩
theorem iX.emp {st:St} (h:st.ro<=st.h) (z:Nat) (e:Td):iX st z e .es []:=⟨h,by simp,.inl ⟨.inr rfl,rfl⟩⟩
theorem iX.shut {st:St} (h:st.ro<=st.h) {z:Nat} (e:Td) {es:LA} (hl:es.length<=9223372036854775807):iX st z e (.sl z es .shut) es:=⟨h,hl,.inr (.inl rfl)⟩
theorem iX.one {st:St} {z:Nat} {e:Td} {v:AV} {es:LA} (h:iX st z e v es):VM.one v=true:=by
 rcases h with ⟨_,_,⟨rfl | rfl,_⟩ | rfl | ⟨k,rfl,_⟩⟩ <;> rfl
theorem St.dZ {st:St} {o:Obj}:(st.add o).get st.h= .ok o:=St.gK.2 (.inl ⟨rfl,rfl⟩)
theorem St.kh {st:St} {o:Obj} {j:Nat} {x:Obj} (h:st.get j= .ok x):(st.add o).get j= .ok x:=St.gK.2 (.inr ⟨(St.ca.1 h).1,h⟩)
structure aZ (st st':St) (but:Nat->Prop):Prop where
 ro:st'.ro=st.ro
 h:st.h<=st'.h
 old: ∀j o,¬ but j->st.get j= .ok o->st'.get j= .ok o
theorem aZ.refl (st:St) (but:Nat->Prop):aZ st st but:=⟨rfl,aal _,fun _ _ _ h=>h⟩
theorem aZ.trans {a b c:St} {p:Nat->Prop} (h:aZ a b p) (k:aZ b c p):aZ a c p:=
 ⟨k.ro.trans h.ro,aaR h.h k.h,fun j o d e=>k.old j o d (h.old j o d e)⟩
theorem aZ.add (st:St) (o:Obj) (but:Nat->Prop):aZ st (st.add o) but:=⟨rfl,Nat.le_succ _,fun _ _ _ h=>St.kh h⟩
theorem aZ.put {st:St} {i:Nat} {o:Obj} {but:Nat->Prop} (a:but i):aZ st (st.put i o) but:=
 ⟨rfl,aal _,fun j x b h=>by
  have:i≠j:=by rintro rfl;exact b a
  rw [St.aT this];exact h⟩
def eW (v:AV) (j:Nat):Prop:= ∃z es,v= .sl z es (.own j)
theorem oU {β:Type} {z b:Nat} {e:Td} {s:AV} {new:LA} {st:St} {v:AV} {st':St} {x:Fx} (h:xe z b e s new st=some (v,st',x)) (K:Kv β):eI z b e s new st K=K v st' x:=by
 simp only [eI,oq,h,ai]
theorem iX.not {st:St} {z:Nat} {e:Td} {v:AV} {ws:LA} {j:Nat} {t:Td} {cs:LA} (h:iX st z e v ws) (b:st.get j= .ok (.cells t cs)):¬ eW v j:=by
 rintro ⟨z,es,rfl⟩;rcases h with ⟨_,_,⟨h | h,_⟩ | h | ⟨k,h,a,_⟩⟩
 .cases h
 .cases h
 .cases h
 .cases h;rw [b] at a;cases a
theorem iX.put {st:St} {z:Nat} {e:Td} {v:AV} {ws:LA} {j:Nat} {t t':Td} {cs cs':LA} (h:iX st z e v ws) (b:st.get j= .ok (.cells t cs)):iX (st.put j (.cells t' cs')) z e v ws:=by
 refine ⟨h.1,h.2.1, ?_⟩;rcases h.2.2 with h | h | ⟨k,c,a,d⟩
 .exact .inl h
 .exact .inr (.inl h)
 .refine .inr (.inr ⟨k,c, ?_,d⟩);have:j≠k:=by rintro rfl;rw [b] at a;cases a
  rw [St.aT this];exact a
theorem sX {st:St} {z b:Nat} {e:Td} {v:AV} {es new:LA} (h:iX st z e v es) (hn:new≠[]) (c:dn (es.length+new.length) ⟨.other,z,b,[],false,false⟩=true):
  ∃v' st' x,xe z b e v new st=some (v',st',x)/\iX st' z e v' (es++new)/\aZ st st' (eW v)/\(∀j,eW v' j->eW v j\/st.h<=j):=by
 have hlen:(es++new).length<=9223372036854775807:=by
  simp only [dn,aak] at c;rw [aad];exact aaR (aah c.2.2) (by omega)
 have f:z.beq z=true:=aa9 z;cases new with
 | nil=>exact absurd rfl hn
 | cons a l=>
  have fresh: ∀n,n=(es++a::l).length->xe z b e v (a::l) st=yM st (.tok n e) (fun k=> .sl z (es++a::l) (.own k))-> ∃v' st' x,xe z b e v (a::l) st=some (v',st',x)/\iX st' z e v' (es++a::l)/\aZ st st' (eW v)/\(∀j,eW v' j->eW v j\/st.h<=j):=by
   intro n hn he;refine ⟨.sl z (es++a::l) (.own st.h),st.add (.tok n e),⟨[],.made st.h (.tok n e)⟩,he,⟨abQ h.1,hlen,.inr (.inr ⟨st.h,rfl, ?_,h.1⟩)⟩,aZ.add _ _ _, ?_⟩
   .rw [<- hn];exact St.dZ
   .rintro j ⟨z',es',e⟩;cases e;exact .inr (aal _)
  rcases h.2.2 with ⟨rfl | rfl,rfl⟩ | rfl | ⟨k,rfl,g,d⟩
  .simp only [aai,aax] at c;exact fresh (a::l).length rfl (by simp only [xe,c,aaq])
  .simp only [aai,aax] at c;exact fresh (a::l).length rfl (by simp only [xe,c,aaq])
  .exact fresh (es.length+(a::l).length) (by rw [aad]) (by simp only [xe,c,f,aaI])
  .have h1:(es.length.beq es.length&&Nat.beq e e)=true:=by simp
   have i:(st.ro.ble k)=true:=aaL d;refine ⟨.sl z (es++a::l) (.own k),st.put k (.tok (es.length+(a::l).length) e),⟨[k],.wrote k (.tok (es.length+(a::l).length) e)⟩, ?_,⟨h.1,hlen,.inr (.inr ⟨k,rfl, ?_,d⟩)⟩,aZ.put ⟨z,es,rfl⟩, ?_⟩
   .simp only [xe,c,f,aaI,g,h1,kM,i]
   .rw [St.aN (St.ca.1 g).1,aad]
   .rintro j ⟨z',es',e⟩;cases e;exact .inl ⟨_,_,rfl⟩
theorem QQ {β:Type} {st:St} {z:Nat} {e:Td} {v:AV} {es:LA} (h:iX st z e v es): ∃x,aO z x es/\ ∀(K:AV->Oq β),eF st 0 v K=K x:=by
 rcases h with ⟨_,hl,⟨rfl | rfl,rfl⟩ | rfl | ⟨k,rfl,_,_⟩⟩
 .exact ⟨.ax,aO.ax,fun _=>rfl⟩
 .exact ⟨.es,aO.emp,fun _=>rfl⟩
 .exact ⟨.sl z es .shut,aO.shut hl,fun _=>rfl⟩
 .exact ⟨.sl z es .wide,aO.wide hl,fun _=>rfl⟩
theorem aI {β:Type} {E:Env} {f:FuncId} {args:LA} {v:AV} (st:St) (K:Kv β) (hf:E.full f=false) (hs:args.map strip=args) (a:bH args=true) (h:(aQ E).bare f args=some v):
  bf (aQ E) f args st K=K v st q0:=by
 have h1:(bH (args.map strip)&& !(aQ E).full f)=true:=by
  rw [hs,a];show (true&& !E.full f)=true;rw [hf];rfl
 unfold bf oq De;rw [h1,hs,h];rfl
theorem fX {β:Type} {E:Env} {f:FuncId} {args:LA} {v:AV} {st st':St} (K:Kv β) (hl:E.isLook f=false) (a:(bH (args.map strip)&& !E.full f)=false) (h:(aQ E).wide f args st=some (v,st')):
  bf (aQ E) f args st K=K v st' ⟨[],.all st st'⟩:=by
 have h1:(bH (args.map strip)&& !(aQ E).full f)=false:=a;have b:(aQ E).isLook f=false:=hl;unfold bf oq De;rw [h1,b,h];rfl
theorem wrap_i64 {n:Int} (h1: -9223372036854775808<=n) (a:n<=9223372036854775807):IntKind.wrap .i64 n=n:=by
 have e:IntKind.wrap .i64 n=if n % 18446744073709551616>=9223372036854775808 then n % 18446744073709551616 - 18446744073709551616 else n % 18446744073709551616:=by
  show (if (true&&decide (n % (2 ^ 64:Int)>=(2 ^ 63:Int)))=true then n % (2 ^ 64:Int) - (2 ^ 64:Int) else n % (2 ^ 64:Int))= _;simp
 rw [e];split <;> omega
theorem drop_cons {α:Type} {l m:List α} {i:Nat} {v:α} (h:l.drop i=v::m):l[i]? =some v/\l.drop (i+1)=m/\i < l.length:=by
 have h1:(l.drop i)[0]? =some v:=by rw [h];rfl
 rw [abl] at h1;refine ⟨by simpa using h1, ?_, ?_⟩
 .rw [<- abw,h];rfl
 .exact (abB.1 (by simpa using h1)).1
end Go.VM
namespace Go.VM
open Go
section
variable {β α:Type}
@[congr] theorem Vi {a a':α} {K:α->Oq β} (h:a=a'):bx a K=bx a' K:=by rw [h]
@[congr] theorem WK {k:IntKind} {v v':AV} {K:Int->Oq β} (h:v=v'):bK k v K=bK k v' K:=by rw [h]
@[congr] theorem WM {v v':AV} {K:Bool->Oq β} (h:v=v'):ct v K=ct v' K:=by rw [h]
@[congr] theorem Wz {v v':AV} {K:LB->Oq β} (h:v=v'):fG v K=fG v' K:=by rw [h]
@[congr] theorem Wi {v v':AV} {K:Int->Oq β} (h:v=v'):anyI v K=anyI v' K:=by rw [h]
@[congr] theorem Wx {v v':AV} {K:LA->Oq β} (h:v=v'):uz v K=uz v' K:=by rw [h]
@[congr] theorem WE {v v':AV} {K:LA->Oq β} (h:v=v'):ig v K=ig v' K:=by rw [h]
@[congr] theorem WB {v v':LA} {K:AV->LA->Oq β} (h:v=v'):bo v K=bo v' K:=by rw [h]
@[congr] theorem Wu {v v':LA} {K:Oq β} (h:v=v'):bQ v K=bQ v' K:=by rw [h]
@[congr] theorem WL {v v':Bool} {K:Oq β} (h:v=v'):cf v K=cf v' K:=by rw [h]
@[congr] theorem WT {v v':Bool} {x y:Oq β} (h:v=v'):bu v x y=bu v' x y:=by rw [h]
@[congr] theorem Te {v v':Oq α} {K:α->Oq β} (h:v=v'):aC v K=aC v' K:=by rw [h]
@[congr] theorem S3 {v v':Sum α β} {K:α->Oq β} (h:v=v'):kZ v K=kZ v' K:=by rw [h]
@[congr] theorem Vh {n n':Nat} {a:Oq β} {b:Nat->Oq β} (h:n=n'):rM n a b=rM n' a b:=by rw [h]
@[congr] theorem Tc {v v':AV} {K:Oq β} (h:v=v'):ad v K=ad v' K:=by rw [h]
@[congr] theorem UK {l l':LA} {n:Nat} {K:AV->Oq β} (h:l=l'):cB l n K=cB l' n K:=by rw [h]
@[congr] theorem Uk {o:Nat} {v v':AV} {K:AV->Oq β} (h:v=v'):ch o v K=ch o v' K:=by rw [h]
@[congr] theorem Th {z:Nat} {g:Bool} {v v':AV} {st st':St} {K:AV->Ln->Oq β} (h:v=v') (h':st=st'):ao z g v st K=ao z g v' st' K:=by rw [h,h']
@[congr] theorem US {v v':AV} {K:AV->Oq β} (h:v=v'):aD v K=aD v' K:=by rw [h]
@[congr] theorem VH {v v':AV} {K:Oq β} (h:v=v'):N4 v K=N4 v' K:=by rw [h]
@[congr] theorem Vp {v v':AV} {K:Nat->Oq β} (h:v=v'):dm v K=dm v' K:=by rw [h]
@[congr] theorem Qi {v v':AV} {K:LA->Oq β} (h:v=v'):oY v K=oY v' K:=by rw [h]
@[congr] theorem V4 {z:Nat} {v v':AV} {i i':Int} {st st':St} {K:AV->Ln->Oq β} (h:v=v') (h1:i=i') (h2:st=st'):bL z v i st K=bL z v' i' st' K:=by rw [h,h1,h2]
@[congr] theorem Qr {v v':LB} {i i':Int} {K:UInt8->Oq β} (h:v=v') (h1:i=i'):kF v i K=kF v' i' K:=by rw [h,h1]
@[congr] theorem P7 {i i':Int} {n n':Nat} {K:Nat->Oq β} (h:i=i') (h1:n=n'):nu i n K=nu i' n' K:=by rw [h,h1]
@[congr] theorem SP {i i':Int} {n n':Nat} {K:Nat->Oq β} (h:i=i') (h1:n=n'):gM i n K=gM i' n' K:=by rw [h,h1]
@[congr] theorem Sk {z:Nat} {v v':AV} {a a' b b' c c':Oq Int} {K:AV->Oq β} (h:v=v') (h1:a=a') (h2:b=b') (h3:c=c'):dL z v a b c K=dL z v' a' b' c' K:=by rw [h,h1,h2,h3]
@[congr] theorem T1 {z b:Nat} {e:Td} {v v':AV} {n n':LA} {st st':St} {K:Kv β} (h:v=v') (h1:n=n') (h2:st=st'):eI z b e v n st K=eI z b e v' n' st' K:=by rw [h,h1,h2]
@[congr] theorem Tk {g:Bool} {l l':LA} {K:LA->Oq β} (h:l=l'):ou g l K=ou g l' K:=by rw [h]
@[congr] theorem SV {O:tf} {f:FuncId} {l l':LA} {st st':St} {K:Kv β} (h:l=l') (h1:st=st'):bf O f l st K=bf O f l' st' K:=by rw [h,h1]
@[congr] theorem SU {O:tf} {p p':df dY} {st st':St} {K:Kv β} (h:p=p') (h1:st=st'):cE O p st K=cE O p' st' K:=by rw [h,h1]
@[congr] theorem S8 {O:tf} {pr:FuncId->Oq Prim} {f f':AV} {l l':LA} {st st':St} {K:Kv β} (h0:f=f') (h:l=l') (h1:st=st'):iZ O pr f l st K=iZ O pr f' l' st' K:=by rw [h0,h,h1]
@[congr] theorem Q9 {O:tf} {z:Nat} {a a' v v':AV} {l l':LA} {st st':St} {K:Kv β} (h0:a=a') (h2:v=v') (h:l=l') (h1:st=st'):aK O z a v l st K=aK O z a' v' l' st' K:=by rw [h0,h2,h,h1]
@[congr] theorem VI {st st':St} {b:Nat} {v v':AV} {K:AV->Oq β} (h1:st=st') (h:v=v'):eF st b v K=eF st' b v' K:=by rw [h1,h]
@[congr] theorem Wf {st st':St} {o o':Obj} {f:Nat->AV} {K:Kv β} (h1:st=st') (h:o=o'):made st o f K=made st' o' f K:=by rw [h1,h]
@[congr] theorem V9 {u:U} {v v' w w':AV} {K:Bool->Oq β} (h:v=v') (h1:w=w'):Pu u v w K=Pu u v' w' K:=by rw [h,h1]
@[congr] theorem SW {a a':St} {K:St->Oq β} (h:a=a'):bM a K=bM a' K:=by rw [h]
@[simp] theorem bP (a:St) (K:St->Oq β):bM a K=K a:=id rfl
end
theorem bA {σ β:Type} {F:σ->Oq (Sum σ β)} {s s':σ} (h:F s=some (.inl s')):bl F s=bl F s':=by rw [pX,h]
theorem bE {σ β:Type} {F:σ->Oq (Sum σ β)} {s:σ} {r:β} (h:F s=some (.inr r)):bl F s=some r:=by rw [pX,h]
def Fz (d:Nat) (v:AV):Prop:= ∀st base n,d<=n->freeze st base n v= .ok v
theorem Fz.mono {d e:Nat} {v:AV} (h:Fz d v) (a:d<=e):Fz e v:=fun st base n hn=>h st base n (aaR a hn)
theorem zy (b:Bool):Fz 1 (.bool b):=fun _ _ n hn=>by cases n with | zero=>omega | succ n=>rfl
theorem fC (k:IntKind) (m:Int):Fz 1 (.int k m):=fun _ _ n hn=>by cases n with | zero=>omega | succ n=>rfl
theorem uO (s:LB):Fz 1 (.str s):=fun _ _ n hn=>by cases n with | zero=>omega | succ n=>rfl
theorem KS:Fz 1 .ax:=fun _ _ n hn=>by cases n with | zero=>omega | succ n=>rfl
theorem Xi:Fz 1 .es:=fun _ _ n hn=>by cases n with | zero=>omega | succ n=>rfl
theorem Qy (z:Nat) (es:LA):Fz 1 (.sl z es .wide):=fun _ _ n hn=>by cases n with | zero=>omega | succ n=>rfl
theorem RM (z:Nat) (es:LA):Fz 1 (.sl z es .shut):=fun _ _ n hn=>by cases n with | zero=>omega | succ n=>rfl
theorem uc {z:Nat} {x:AV} {es:LA} (h:aO z x es):Fz 1 x:=by
 rcases h.2 with ⟨rfl | rfl,rfl⟩ | rfl | rfl
 .exact KS
 .exact Xi
 .exact RM _ _
 .exact Qy _ _
theorem Fc {st:St} {base n d:Nat} (hn:d<=n): ∀{cs:LA},(∀c∈cs,Fz d c)->lB (freeze st base n) cs= .ok cs
 | [],_=>rfl
 | c::cs,h=>by
  have h1:=h c (by simp) st base n hn;have a:=Fc (st:=st) (base:=base) hn fun c b=>h c (aam _ b);simp only [lB,h1,a,aA,aH]
theorem Nz {d:Nat} {cs:LA} (h: ∀c∈cs,Fz d c):Fz (d+1) (.agg cs):=fun st base n hn=>by
 cases n with
 | zero=>omega
 | succ n=>
  show (do pure (.agg (<- lB (freeze st base n) cs)):df AV)= _;rw [Fc (by omega) h];rfl
theorem Vc {d:Nat} {cs:LA} (h: ∀c∈cs,Fz d c):Fz (d+1) (.tup cs):=fun st base n hn=>by
 cases n with
 | zero=>omega
 | succ n=>
  show (do pure (.tup (<- lB (freeze st base n) cs)):df AV)= _;rw [Fc (by omega) h];rfl
theorem Wk {β:Type} {d:Nat} {v:AV} (h:Fz d v) (a:d<=100) (b:bare v=true) (st:St) (base:Nat) (K:AV->Oq β):eF st base v K=K v:=by
 simp only [eF,h st base 100 a,b,aG]
theorem dp {β:Type} {O:tf} {st:St} {id off:Nat} {t:Td} {old:LA} {z:Nat} {v:AV} {cs:LA} (b:st.get id= .ok (.cells t old)) (c:cs.length=z) (hl:off+cs.length<=old.length) (a:st.ro<=id) (K:Kv β):
  aK O z (.mp id off) v cs st K=K undef (st.put id (.cells t (cO old off cs))) ⟨[id],.wrote id (.cells t (cO old off cs))⟩:=by
 have h1:cs.length.beq z=true:=by rw [c];exact aa9 z
 simp only [aK,oq,E6,h1,b,aaL hl,kM,aaL a,ai,U0]
theorem lT {old cs:LA} (h:cs.length=old.length):cO old 0 cs=cs:=by
 simp only [cO,List.take_zero,aaq,aax];rw [h,List.drop_length,aay]
theorem tR {O:tf} {st:St} {t:Td} {z:Nat} {old cs:LA} (v:AV) (hl:old.length=z) (c:cs.length=z) (a:st.ro<=st.h):
  ∃st',st'.get st.h= .ok (.cells t cs)/\aZ st st' (fun _=>False)/\st'.h=st.h+1/\ ∃d,∀{β:Type} (K:Kv β),aK O z (.mp st.h 0) v cs (st.add (.cells t old)) K=K undef st' d:=by
 have e:(st.add (.cells t old)).get st.h= .ok (.cells t old):=St.dZ;refine ⟨(st.add (.cells t old)).put st.h (.cells t cs),St.aN (aa3 _),⟨rfl,Nat.le_succ _,fun j o _ b=> ?_⟩,rfl,⟨[st.h],.wrote st.h (.cells t (cO old 0 cs))⟩,fun K=> ?_⟩
 .have f:=(St.ca.1 b).1;rw [St.aT (by omega)];exact St.kh b
 .rw [dp e c (by omega) a];rw [lT (by omega)]
theorem aO.cut {z:Nat} {x:AV} {es:LA} (h:aO z x es) {lo hi:Oq Int} {l m:Nat} (hl:uU lo m 0=some l) (a:uU hi es.length es.length=some m):
  ∃x',aO z x' ((es.take m).drop l)/\ ∀{β:Type} (K:AV->Oq β),dL z x lo hi none K=K x':=by
 obtain ⟨x',hx,e⟩:=h.slice hl a (some:AV->Oq AV);refine ⟨x',hx,fun K=> ?_⟩;have e:aC (mU z x lo hi none) some=some x':=e;show aC (mU z x lo hi none) K= _;cases hs:mU z x lo hi none with
 | none=>rw [hs] at e;cases e
 | some u=>rw [hs] at e;cases e;rfl
@[simp] theorem cI (r:Ln):apart ⟨r,.kept⟩ q0=true:=id rfl
@[simp] theorem cA (r:Ln):apart q0 ⟨r,.kept⟩=true:=id rfl
theorem mf {cs:LA}:bare (.agg cs)=bH cs:=rfl
theorem NR {cs:LA}:bare (.tup cs)=bH cs:=rfl
def AB (st:St) (u8:Td) (a:AV) (out:LB):Prop:=(a= .ax/\out=[])\/ ∃k,a= .sl 1 (ofBytes out) (.own k)/\st.get k= .ok (.tok out.length u8)/\st.ro<=k/\out≠[]
def Qx (st:St) (T u8:Td) (p:Nat) (pre post:LA) (out:LB):Prop:=
 ∃a b,st.get p= .ok (.cells T (pre++a::b::post))/\(a= .nilp\/a= .mp p pre.length)/\AB st u8 b out/\st.ro<=p
structure ja (st st':St) (u8:Td) (p:Nat):Prop where
 ro:st'.ro=st.ro
 h:st.h<=st'.h
 old: ∀j o,j≠p->(∀n,o≠ .tok n u8)->st.get j= .ok o->st'.get j= .ok o
theorem ja.refl (st:St) (u8:Td) (p:Nat):ja st st u8 p:=⟨rfl,aal _,fun _ _ _ _ h=>h⟩
theorem ja.trans {a b c:St} {u8:Td} {p:Nat} (h:ja a b u8 p) (k:ja b c u8 p):ja a c u8 p:=
 ⟨k.ro.trans h.ro,aaR h.h k.h,fun j o d ho e=>k.old j o d ho (h.old j o d ho e)⟩
theorem ja.put {st:St} {u8:Td} {p:Nat} {o:Obj}:ja st (st.put p o) u8 p:=⟨rfl,aal _,fun j x a _ b=>by rw [St.aT (fun e=>a e.symm)];exact b⟩
theorem Qx.BI {st st':St} {T u8:Td} {p:Nat} {pre post:LA} {out:LB} (h:Qx st T u8 p pre post out) (k:aZ st st' fun _=>False):Qx st' T u8 p pre post out:=by
 obtain ⟨b,c,h1,d,a,f⟩:=h;refine ⟨b,c,k.old _ _ (fun h=>h) h1,d, ?_,by rw [k.ro];exact f⟩;rcases a with a | ⟨j,e,g,i,hn⟩
 .exact .inl a
 .exact .inr ⟨j,e,k.old _ _ (fun h=>h) g,by rw [k.ro];exact i,hn⟩
theorem AB.put {st:St} {u8:Td} {a:AV} {out:LB} {p:Nat} {T:Td} {cs cs':LA} (h:AB st u8 a out) (hp:st.get p= .ok (.cells T cs)):AB (st.put p (.cells T cs')) u8 a out:=by
 rcases h with h | ⟨k,h1,b,c,d⟩
 .exact .inl h
 .refine .inr ⟨k,h1, ?_,c,d⟩;have:p≠k:=by rintro rfl;rw [hp] at b;cases b
  rw [St.aT this];exact b
theorem Bn (a b:LB):ofBytes (a++b)=ofBytes a++ofBytes b:=aaG
theorem fb (a:LB):(ofBytes a).length=a.length:=aaA _
theorem sw: ∀(s:LB),fN (ofBytes s)= .ok s
 | []=>rfl
 | b::l=>by
  have ih:=sw l;show (match b.toNat.blt 256 with | true=>(do pure (UInt8.ofNat b.toNat::(<- fN (ofBytes l))):df LB) | false=> .error "no byte")= _;rw [cZ.2 (UInt8.toNat_lt b),ih];show Except.ok (UInt8.ofNat b.toNat::l)= _;simp
section
variable {β:Type} {O:tf}
theorem yK: ∀(s:LB) (K:LA->Oq β),ou false (ofBytes s) K=K (ofBytes s)
 | [],_=>rfl
 | b::l,K=>by
  show aD (.int .u8 b.toNat) (fun v'=>ou false (ofBytes l) fun a=>K (v'::a))= _;rw [Hh,yK l];rfl
theorem yH: ∀(s:LB),nz 1 (ofBytes s)=true
 | []=>rfl
 | b::l=>by
  have:=yH l;simp only [nz,ofBytes,aan,abI] at this ⊢;rw [this];rfl
theorem CO (pre post:LA) (a:AV):fM (pre++a::post) pre.length= .ok a:=by
 induction pre with
 | nil=>rfl
 | cons v l ih=>exact ih
theorem BJ (pre post:LA) (a b:AV):fM (pre++a::b::post) (pre.length+1)= .ok b:=by
 induction pre with
 | nil=>rfl
 | cons v l ih=>exact ih
theorem LS (pre post:LA) (a b:AV):(pre++a::b::post).drop (pre.length+1)=b::post:=by
 induction pre with
 | nil=>rfl
 | cons v l ih=>exact ih
theorem AX (pre post:LA) (a x:AV):cO (pre++a::post) pre.length [x]=pre++x::post:=by
 simp [cO,List.drop_append]
theorem FN (pre post:LA) (a b x:AV):cO (pre++a::b::post) (pre.length+1) [x]=pre++a::x::post:=by
 have:=AX (pre++[a]) post b x;simpa using this
theorem vm {st:St} {L:List (Td×Nat×Nat)} {T u8:Td} {p:Nat} {pre post:LA} {out:LB} (h:Qx st T u8 p pre post out) (hl:ES L T (pre++ .nilp:: .ax::post).length pre.length=true):
  ∃st' a,st'.get p= .ok (.cells T (pre++ .mp p pre.length::a::post))/\AB st' u8 a out/\st'.ro<=p/\ja st st' u8 p/\st'.h=st.h/\ ∃e,∀{β:Type} (K:Kv β),cE O (dK (.copyCheck L) [.mp p pre.length]) st K=K (.tup []) st' e:=by
 obtain ⟨f,a,h1,g,d,c⟩:=h;have b:ES L T (pre++f::a::post).length pre.length=true:=by simpa using hl
 rcases g with rfl | rfl
 .refine ⟨st.put p (.cells T (pre++ .mp p pre.length::a::post)),a,St.aN (St.ca.1 h1).1,d.put h1,c,ja.put,rfl,⟨[p],.wrote p (.cells T (pre++ .mp p pre.length::a::post))⟩,fun K=> ?_⟩;simp only [cE,oq,dK,oN,h1,oC,aA,b,CO,aH,AX,kM,aaL c,ai]
 .refine ⟨st,a,h1,d,c,ja.refl _ _ _,rfl,⟨[p],.kept⟩,fun K=> ?_⟩;simp only [cE,oq,dK,oN,h1,oC,aA,b,CO,aH,aa9,aaI,ai]
theorem Bv {st:St} {T u8:Td} {p:Nat} {pre post:LA} {out:LB} (h:Qx st T u8 p pre post out) (ho:out.length < 4611686018427387904) (K:Kv β):
  ∃a,cE O (dK (.builderString u8) [.mp p pre.length]) st K=K (.str out) st a:=by
 obtain ⟨i,j,h1,m,c,n⟩:=h;rcases c with ⟨rfl,rfl⟩ | ⟨k,rfl,d,e,hn⟩
 .refine ⟨⟨[],.looked⟩, ?_⟩;simp only [cE,oq,dK,oN,h1,cellsOf,aA,BJ,aH,ai]
 .refine ⟨⟨[],.looked⟩, ?_⟩;have f:(ofBytes out).isEmpty=false:=by
   cases out with
   | nil=>exact absurd rfl hn
   | cons b l=>rfl
  have g:(Nat.beq u8 u8&&Nat.beq out.length (ofBytes out).length&& !(ofBytes out).isEmpty&&Nat.blt out.length 4611686018427387904)=true:=by
   rw [fb,f,cZ.2 ho,aa9,aa9];rfl
  simp only [cE,oq,dK,oN,h1,cellsOf,aA,BJ,aH,ai,aaL e,d,g,sw]
noncomputable def Nq (O:tf) (L:List (Td×Nat×Nat)) (u8:Td):AV->AV->St->Oq (AV×St):=fun a h st=>fG h fun l0=>cE O (dK (Prim.copyCheck L) [a]) st fun _x b _x_1=>cf (notNil a) (ch 1 a fun i=>
 ao 1 false i b fun j _x=>ou false (ofBytes l0) fun g=>cf (nz 1 g) (eI 1 1 u8 j g b fun d e _x=>cf (notNil a) (ch 1 a fun f=>ad d (ad d (aK
 O 1 f d [d] e fun _x c _x_2=>some (AV.tup [AV.int .i64 (↑(List.length l0):Int),AV.nili],c))))))
theorem JY {st:St} {u8:Td} {a:AV} {out s:LB} (h:AB st u8 a out) (hl:out.length+s.length<=70368744177664) (g:st.ro<=st.h):
  ∃v st',AB st' u8 v (out++s)/\one v=true/\st'.ro=st.ro/\st.h<=st'.h/\(∀j o,(∀n,o≠ .tok n u8)->st.get j= .ok o->st'.get j= .ok o)/\ ∃l,∀{β:Type} (K:Kv β),eI 1 1 u8 a (ofBytes s) st K=K v st' l:=by
 have room: ∀n,n<=70368744177664->dn n ⟨.other,1,1,[],false,false⟩=true:=fun n hn=>by
  simp only [dn,Nat.mul_one,aaL hn];rfl
 cases s with
 | nil=>
  refine ⟨a,st,by simpa using h, ?_,rfl,aal _,fun _ _ _ h=>h,q0,fun K=> ?_⟩
  .rcases h with ⟨rfl,_⟩ | ⟨k,rfl,_⟩ <;> rfl
  .rcases h with ⟨rfl,rfl⟩ | ⟨k,rfl,f,c,hn⟩ <;> rfl
 | cons b s=>
  rcases h with ⟨rfl,rfl⟩ | ⟨k,rfl,f,c,hn⟩
  .have c:=room (ofBytes (b::s)).length (by rw [fb];simpa using hl);refine ⟨.sl 1 (ofBytes (b::s)) (.own st.h),st.add (.tok (ofBytes (b::s)).length u8),.inr ⟨st.h,rfl, ?_,g,by simp⟩,rfl,rfl,Nat.le_succ _,fun j o _ d=>St.kh d,⟨[],.made st.h (.tok (ofBytes (b::s)).length u8)⟩,fun K=> ?_⟩
   .rw [fb];exact St.dZ
   .exact oU (by simp only [ofBytes,aan] at c ⊢;simp only [xe,c];rfl) K
  .have e:=room ((ofBytes out).length+(ofBytes (b::s)).length) (by rw [fb,fb];exact hl);refine ⟨.sl 1 (ofBytes (out++b::s)) (.own k),st.put k (.tok ((ofBytes out).length+(ofBytes (b::s)).length) u8),.inr ⟨k,rfl, ?_,c,by simp⟩,rfl,rfl,aal _,fun j o ho d=> ?_,⟨[k],.wrote k (.tok ((ofBytes out).length+(ofBytes (b::s)).length) u8)⟩,fun K=> ?_⟩
   .rw [St.aN (St.ca.1 f).1,fb,fb,aad]
   .have:k≠j:=by rintro rfl;rw [f] at d;cases d;exact ho _ rfl
    rw [St.aT this];exact d
   .have i:(Nat.beq out.length (ofBytes out).length&&Nat.beq u8 u8)=true:=by rw [fb,aa9,aa9];rfl
    have m:Nat.beq 1 1=true:=rfl;refine oU ?_ K;rw [Bn];simp only [ofBytes,aan] at e i ⊢;simp only [xe,e,m,aaI,f,i,kM,aaL c]
theorem Mi {st:St} {L:List (Td×Nat×Nat)} {T u8:Td} {p:Nat} {pre post:LA} {out s:LB} (h:Qx st T u8 p pre post out) (hl:ES L T (pre++ .nilp:: .ax::post).length pre.length=true)
  (hlen:out.length+s.length<=70368744177664) (d:st.ro<=st.h):
  ∃st',Nq O L u8 (.mp p pre.length) (.str s) st=some (.tup [.int .i64 (s.length:Int),.nili],st')/\Qx st' T u8 p pre post (out++s)/\ja st st' u8 p:=by
 obtain ⟨q,C,h1,r,k,l,t,D,f⟩:=vm (O:=O) h hl;obtain ⟨v,b,u,w,g,x,m,y,c⟩:=JY (s:=s) r hlen (by rw [l.ro,t];exact d);have a:=m p _ (by intro n;simp) h1;have i:=fun (K:Kv (AV×St))=>dp (O:=O) (z:=1) (v:=v) (cs:=[v]) (off:=pre.length+1) a rfl (by simp;omega) (by rw [g];exact k) K;refine ⟨b.put p (.cells T (pre++ .mp p pre.length::v::post)), ?_,⟨_,v,St.aN (St.ca.1 a).1,.inr rfl,u.put a,by show b.ro<=p;rw [g];exact k⟩, ?_⟩
 .simp only [Nq,ah,f,notNil,aG,bw,bq h1,LS,aR,ai,yK,yH,c,jH w,i,FN]
 .exact l.trans ⟨g,x,fun j o A ho B=>by
   rw [St.aT (fun e=>A e.symm)];exact m j o ho B⟩
end
end Go.VM
