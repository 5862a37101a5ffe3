/-
  (A part of the proof: Exec, Body, Call, Caller, Table, Mono, Sh, ShOk, ShOk2, ShOk3, ShOk4, ShOk5, Rnd, Kit, Kit2, KitB.)
-/
import Derived.Test.YtmhofncehlaamaaGreatDoorVmAA
import Derived.Test.YtmhofncehlaamaaGreatDoorVmAI
import Derived.LoopN
import Derived.Scope
import Derived.RangeFuncLeaves
import Derived.RangeFuncRecord
set_option linter.unusedSimpArgs false
namespace Go.VM
def Ex.to:Ex→Exit
 | .normal=> .normal
 | .exit id=> .exit id
 | .ret=> .ret
section
variable {P:Program}
theorem Kp.sub {A A':Nat→Prop} {g g':Gh} {w w':World} (h:Kp A' g w g' w') (hs: ∀b,A' b→A b):Kp A g w g' w':=
 ⟨h.size,fun b hb=>h.heap b fun k=>hb (hs b k),fun b hb=>h.F b fun k=>hb (hs b k),fun b hb=>h.M b fun k=>hb (hs b k),h.le,h.rest⟩
structure Nx (A:Nat→Prop) (g:Gh) (a:Act) (w:World) (A':Nat→Prop) (g':Gh) (a':Act) (w':World):Prop where
 sub: ∀b,A' b→A b
 kp:Kp A g w g' w'
 defs: ∀d∈a'.defers,d∈a.defers∨ ∃D,d=mark D∧A D
theorem Nx.refl (A:Nat→Prop) (g:Gh) (a:Act) (w:World):Nx A g a w A g a w:=⟨fun _ h=>h,Kp.refl _ _ _,fun _ h=> .inl h⟩
theorem Nx.trans {A A1 A2:Nat→Prop} {g g1 g2:Gh} {a a1 a2:Act} {w w1 w2:World} (h:Nx A g a w A1 g1 a1 w1) (k:Nx A1 g1 a1 w1 A2 g2 a2 w2):Nx A g a w A2 g2 a2 w2:=
 ⟨fun b hb=>h.sub b (k.sub b hb),h.kp.trans (k.kp.sub h.sub),fun d hd=>by
  rcases k.defs d hd with hd | ⟨D,rfl,hD⟩
  ·exact h.defs d hd
  ·exact .inr ⟨D,rfl,h.sub D hD⟩⟩
theorem yc {X:Cx} {ro:Option Nat} {c:Code} {body:Fr→St→cM (Ex×Fr×St)}
  (hb: ∀A fr st ex fr' st' g a w (Q:Exit→Act→World→Prop),body fr st= .ok (ex,fr',st')→Rel X A ro g fr st a w→(∀A' g' a' w',Rel X A' ro g' fr' st' a' w'→Nx A g a w A' g' a' w'→Q ex.to a' w')→c.wpIn (fe ro) 0 P Q a w):
  ∀(n:Nat) {A:Nat→Prop} {fr fr':Fr} {st st':St} {ex:Ex} {g:Gh} {a:Act} {w:World} {Q:Exit→Act→World→Prop},iter body n fr st= .ok (ex,fr',st')→Rel X A ro g fr st a w→(∀A' g' a' w',Rel X A' ro g' fr' st' a' w'→Nx A g a w A' g' a' w'→Q ex.to a' w')→Code.roundsIn (fe ro) 0 P c Q n a w
 | 0,_,_,_,_,_,_,_,_,_,_,h,_,_=>by simp [iter] at h
 | n+1,A,fr,fr',st,st',ex,g,a,w,Q,h,hr,hQ=>by
  simp only [iter,ae] at h;obtain ⟨⟨ex1,fr1,st1⟩,h1,h2⟩:=h;rw [roundsIn_succ];refine hb A fr st ex1 fr1 st1 g a w _ h1 hr fun A' g' a' w' hr' hk=> ?_;cases ex1 with
  | normal=>exact yc hb n h2 hr' fun A'' g'' a'' w'' hr'' hk'=>hQ A'' g'' a'' w'' hr'' (hk.trans hk')
  | exit id=>
   simp only [ak,Vk] at h2;obtain ⟨rfl,rfl,rfl⟩:=h2;exact hQ A' g' a' w' hr' hk
  | ret=>
   simp only [ak,Vk] at h2;obtain ⟨rfl,rfl,rfl⟩:=h2;exact hQ A' g' a' w' hr' hk
theorem Qt {T:TT} {A:Nat→Prop} {g:Gh} {st:St} {w:World} (h:Inv T A g st w) {l:Nat} {o:Go.Obj} (hl:w.heap[l]? =some o) (ho: ∀vs ty fz,o≠ .cells vs ty fz) (k:Nat):g.F l k=none:=by
 cases hf:g.F l k with
 | none=>rfl
 | some v=>
  obtain ⟨vs,ty,fz,h1,_⟩:=nJ (h.F l k v hf);rw [hl] at h1;exact absurd (WA h1) (ho vs ty fz)
theorem Q5 {T:TT} {A:Nat→Prop} {g:Gh} {st:St} {w:World} (h:Inv T A g st w) {l:Nat} {o:Go.Obj} (hl:w.heap[l]? =some o) (ho: ∀es clk,o≠ .map es clk):g.M l=none:=by
 cases hm:g.M l with
 | none=>rfl
 | some v=>
  have h1:=h.M l v.1 v.2 hm;rw [hl] at h1;exact absurd (WA h1) (ho _ _)
theorem Inv.turn {T:TT} {A:Nat→Prop} {g:Gh} {st:St} {w:World} (h:Inv T A g st w) {k l:Nat} {imm:TypeId→Bool} {ps:List Tmp} {x c:Code} {fr:Fr} {s:Nat} {p:Ex} (hk:st.get k= .ok (.loop imm ps x c fr s p)) (hE:g.E k=some (.cf l)) {r:Loop} (hl:w.heap[l]? =some (.loop r)) (hA:A l)
  (r':Loop) (o':Obj) (hat: ∀b',At g k o' b'→b'=l) (ho:Holds T g (w.putObj l (.loop r')) k o'):Inv T A g (st.put k o') (w.putObj l (.loop r'))∧Kp A g w g (w.putObj l (.loop r')):=by
 have hne: ∀b',b'≠l→(w.putObj l (.loop r')).heap[b']? =w.heap[b']? :=fun b' hb=>World.putObj_heap_other hb;exact ⟨h.write hk (show g.E k=some (.cf l) from hE) o' World.putObj_size hne (fun j v hv=>by rw [Qt h hl (fun _ _ _ e=>by cases e) j] at hv;cases hv) (Q5 h hl fun _ _ e=>by cases e) hat ho,
  Kp.write hA World.putObj_size hne⟩
theorem oB {k s0 s1:Nat} {p:Ex} {st st':St} (h:qL k s0 s1 p st= .ok st'): ∃imm ps x c fr p0,st.get k= .ok (.loop imm ps x c fr s0 p0)∧st'=st.put k (.loop imm ps x c fr s1 p):=by
 simp only [qL,ae] at h;obtain ⟨o,h1,h2⟩:=h;split at h2
 ·rename_i imm ps x c fr s p0;split at h2
  ·rename_i hs;have hs:=Vq hs;subst hs;cases h2;exact ⟨imm,ps,x,c,fr,p0,h1,rfl⟩
  ·cases h2
 ·cases h2
theorem sY (fr:Fr): ∀(us:List Nat) (t:Tr AV) (i:Nat),(pG us (jV fr us) t).get i=t.get i∨(pG us (jV fr us) t).get i=some (fr.get i)
 | [],t,i=> .inl rfl
 | u::us,t,i=>by
  simp only [jV,pG];rcases sY fr us (t.put u (fr.get u)) i with h | h
  ·rw [h,Tr.jX];by_cases hu:u=i
   ·rw [if_pos hu,hu];exact .inr rfl
   ·rw [if_neg hu];exact .inl rfl
  ·exact .inr h
theorem Fj {g:Gh} {fr:Fr} {tmps:Array Value} (h:wi g fr tmps) (hs:fr.strict=false) (us:List Nat):wi g (H6 fr.n us (jV fr us)) tmps:=by
 refine ⟨h.size,fun t=> ?_⟩;simp only [H6,Fr.get];rcases sY fr us .leaf t with h1 | h1
 ·rw [h1,Tr.sZ];exact .inl ⟨trivial,rfl⟩
 ·rw [h1];exact .inr (h.at hs t)
theorem Cc {X:Cx} (hX:Good P X) {n:Nat} {x:Operand} {ps:Array Tmp} {y c:Code} (hc:codeOk y=true∧codeOk c=true) {A:Nat→Prop} {ro:Option Nat} {fr fr':Fr} {st st':St} {ex:Ex} {g:Gh} {a:Act} {w:World} {Q:Exit→Act→World→Prop}
  (h:exec X n (.rangeFunc x ps y c) fr st= .ok (ex,fr',st')) (hr:Rel X A ro g fr st a w) (hQ: ∀A' g' a' w',Rel X A' ro g' fr' st' a' w'→Nx A g a w A' g' a' w'→Q ex.to a' w'):(Code.rangeFunc x ps y c).wpIn (fe ro) 0 P Q a w:=by
 simp only [exec] at h;split at h
 ·cases h
 rename_i hs;have hro:ro=none:=by
  have:=hr.mode;rw [hs] at this;cases ro with
  | none=>rfl
  | some l=>cases this
 subst hro;simp only [ae] at h;obtain ⟨fv,h1,h⟩:=h;split at h
 ·rename_i f cap;simp only [ae] at h;obtain ⟨⟨v,st1⟩,h2,o,h3,h4⟩:=h;dsimp only at h3 h4;split at h4
  ·rename_i imm1 ps1 x1 c1 fr1 s p;split at h4
   ·rename_i hsp;simp only [ak,Vk] at h4;obtain ⟨rfl,rfl,rfl⟩:=h4;have hfv:=aN hr.G hr.fr h1;simp only [R,RL] at hfv;obtain ⟨a',c',hfx,ha',hc'⟩:=hfv;have ha':a'= #[]:=by simpa using ha'
    subst ha';refine wpIn_rangeFunc ?_;intro fn hfn;obtain ⟨rec,hrec⟩: ∃rec:Loop,rec={state:= .ready,pending:=none,fn,tmps:=a.tmps,params:=ps,assign:=y,body:=c,defers:=w.heap.size}:=⟨_,rfl⟩;obtain ⟨W0,hW0⟩: ∃W0,w.alloc (.deferred (some []))=W0:=⟨_,rfl⟩;obtain ⟨W1,hW1⟩: ∃W1,W0.alloc (.loop rec)=W1:=⟨_,rfl⟩;have hs0:W0.heap.size=w.heap.size+1:=by rw [← hW0];simp
    have hs1:W1.heap.size=w.heap.size+1+1:=by rw [← hW1, ← hW0];simp
    obtain ⟨A',hA'⟩: ∃A':Nat→Prop,A'=fun b=>A b∧b≠w.heap.size:=⟨_,rfl⟩;have hsub: ∀b,A' b→A b:=fun b hb=>by rw [hA'] at hb;exact hb.1
    have i0:Inv X.T A g st W0:=by rw [← hW0];exact hr.inv.alloc _
    have i0:Inv X.T A' g st W0:=by
     refine ⟨i0.F,i0.M,i0.E,i0.H,i0.D,fun id o b q1 q2 q3=> ?_,fun b hb=> ?_⟩
     ·rw [hA'];have:=C5 (hr.inv.H id o q1) q2;exact ⟨i0.own id o b q1 q2 q3,by omega⟩
     ·rw [hA'];exact ⟨hr.inv.up b (by omega),by omega⟩
    have k0:Kp A g w g W0:=by rw [← hW0];exact Kp.alloc _ hr.inv
    have hl1:W1.heap[w.heap.size+1]? =some (.loop rec):=by
     have:=World.heap_alloc_new (w:=W0) (o:= .loop rec);rw [hW1,hs0] at this;exact this
    have hD1:W1.heap[w.heap.size]? =some (.deferred (some [])):=by
     rw [← hW1,World.iq (by omega), ← hW0];exact World.heap_alloc_new
    have hE0:g.E st.h=none:=hr.inv.E _ (Vn _);have le1:Le g (g.cN st.h (.cf (w.heap.size+1))):=Le.cN hE0;have hAl:A' (w.heap.size+1):=by rw [hA'];exact ⟨hr.inv.up _ (by omega),by omega⟩
    have i1:Inv X.T A' (g.cN st.h (.cf (w.heap.size+1))) (st.new (.loop X.imm ps.toList y c (H6 fr.n (py ps.toList y c) (jV fr (py ps.toList y c))) 0 .normal)).2 W1:=by
     have:=i0.alloc (.loop rec);rw [hW1] at this;refine this.name _ (.cf (w.heap.size+1)) (w.heap.size+1) (fun id o' ho'=>i0.gm (by omega) id o' ho') hAl (fun b' hb'=> ?_) ⟨w.heap.size+1,rec,Gh.aL _ _ _,hl1, ?_, ?_, ?_, ?_,⟨hc.1,hc.2,rfl⟩, ?_⟩
     ·have hb':(g.cN st.h (.cf (w.heap.size+1))).E st.h=some (.cf b'):=hb';rw [Gh.aL] at hb';simpa using hb'.symm
     ·rw [hrec];exact (Fj hr.fr hs _).mono le1
     ·rw [hrec]
     ·rw [hrec]
     ·rw [hrec]
     ·rw [hrec];exact .inl ⟨rfl,rfl,rfl,rfl⟩
    have k1:Kp A' g W0 (g.cN st.h (.cf (w.heap.size+1))) W1:=by
     rw [← hW1];exact (Kp.alloc _ i0).trans (Kp.cN hE0)
    have hargs:RL (g.cN st.h (.cf (w.heap.size+1))) (.yld st.h::cap) (.func (.yield (w.heap.size+1)) #[] #[]::c'.toList):=
     cp (by simp only [R];exact ⟨_,Gh.aL _ _ _,rfl⟩) (dI le1 _ _ hc')
    obtain ⟨e1,hcall⟩:=hX.C.wide _ _ _ _ _ h2 A' _ W1 _ (hr.G.mono le1) hargs i1;refine ⟨w.heap.size+1,[mark w.heap.size],W1,{target:= .fn (.func f) c',args:= #[.func (.yield (w.heap.size+1)) #[] #[]]},W1,f,(.func (.yield (w.heap.size+1)) #[] #[]::c'.toList).toArray,W1, ?_, ?_, ?_, ?_,fun e=>by simp [fe,Fence.wide] at e, ?_⟩
    ·rw [← hW1,hrec, ← hW0];exact run_enterLoop_outer _ _ _ _ _
    ·simp only [resolve,hfx];simp [go_sem]
    ·intro _ _;trivial
    ·have:(#[.func (.yield (w.heap.size+1)) #[] #[]]++c':Array Value)=(.func (.yield (w.heap.size+1)) #[] #[]::c'.toList).toArray:=by
      apply Array.ext';simp
     rw [← this] at e1 ⊢;simpa [invoke,go_sem] using e1
    ·have hcall:CallsIn (fe none) 0 P f _ W1 _:=callsIn_wide.2 hcall;refine CallsIn.mono hcall ?_;rintro e W3 ⟨z,rfl,g',_,i3,k3⟩;have hE3:g'.E st.h=some (.cf (w.heap.size+1)):=k3.le.cf _ _ (Gh.aL _ _ _);obtain ⟨b,r,q1,q2,q3,q4,q5,q6,q7,q8⟩:=i3.H _ _ h3;have hb:b=w.heap.size+1:=by have:=q1.symm.trans hE3;simpa using this
     subst hb;have hnb:r.state≠ .busy:=by
      rcases q8 with ⟨_,e,_⟩ | ⟨e,_⟩ | ⟨_,e,_⟩
      ·rw [e];simp
      ·subst e;cases hsp
      ·rw [e];simp
     obtain ⟨i4,k4⟩:=i3.turn h3 hE3 q2 hAl {r with state:= .exhausted} .dead (fun _ hb'=>hb'.elim) trivial;have rel:Rel X A' none g' fr (st1.put st.h .dead) {a with defers:=[mark w.heap.size]++a.defers} (W3.putObj (w.heap.size+1) (.loop {r with state:= .exhausted})):=by
      refine ⟨hr.mode,hr.fr.mono (le1.trans k3.le),i4,hr.G.mono (le1.trans k3.le), ?_⟩;have m1:Marks A' ([mark w.heap.size]++a.defers) W1:=by
       obtain ⟨Ds,m1,m2,m3⟩:=hr.marks;refine ⟨w.heap.size::Ds,by rw [m1];rfl,WX.2 ⟨fun hm=> ?_,m2⟩,fun D hD=> ?_⟩
       ·have:=lt_of_heap (m3 _ hm).2;omega
       ·rcases Vv.1 hD with rfl | hD
        ·exact ⟨fun hh=>by rw [hA'] at hh;exact hh.2 rfl,hD1⟩
        ·have hlt:=lt_of_heap (m3 D hD).2;refine ⟨fun hh=>(m3 D hD).1 (hsub D hh), ?_⟩;rw [← hW1,World.iq (by omega), ← hW0,World.iq hlt];exact (m3 D hD).2
      exact (m1.Dr k3).Dr k4
     have nx:Nx A g a w A' g' {a with defers:=[mark w.heap.size]++a.defers} (W3.putObj (w.heap.size+1) (.loop {r with state:= .exhausted})):=by
      refine ⟨hsub,k0.trans (((k1.trans k3).trans k4).sub hsub),fun d hd=> ?_⟩;rcases VE.1 hd with hd | hd
      ·exact .inr ⟨w.heap.size,by simpa using hd,hr.inv.up _ (Vn _)⟩
      ·exact .inl hd
     have hq:=hQ _ _ _ _ rel nx;have hend:=run_endLoop (P:=P) q2 hnb;obtain ⟨W4,hW4⟩: ∃W4,W3.putObj (w.heap.size+1) (.loop {r with state:= .exhausted})=W4:=⟨_,rfl⟩;rw [hW4] at hq hend;refine ⟨r.pending,W4,hend, ?_⟩;rcases q8 with ⟨_,_,e,rfl⟩ | ⟨e,_⟩ | ⟨_,_,⟨rfl,e⟩ | ⟨i,rfl,e⟩⟩
     ·rw [e];exact hq
     ·subst e;cases hsp
     ·rw [e];exact wpIn_ret hq
     ·rw [e];exact wpIn_exit hq
   ·cases h4
  ·cases h4
 ·cases h
theorem fQ {X:Cx} {ro:Option Nat} (hX:Good P X) (hm:P.follows .mixedOrders=true) (n:Nat): ∀(c:Code),codeOk c=true→(ro.isSome=true→ct c=true)→ ∀(A:Nat→Prop) (fr:Fr) (st:St) (ex:Ex) (fr':Fr) (st':St) (g:Gh) (a:Act) (w:World) (Q:Exit→Act→World→Prop),
  exec X n c fr st= .ok (ex,fr',st')→Rel X A ro g fr st a w→(∀A' g' a' w',Rel X A' ro g' fr' st' a' w'→Nx A g a w A' g' a' w'→Q ex.to a' w')→c.wpIn (fe ro) 0 P Q a w
 | .skip,_,_,A,fr,st,ex,fr',st',g,a,w,Q,h,hr,hQ=>by
  simp only [exec,Vi,Vk] at h;obtain ⟨rfl,rfl,rfl⟩:=h;exact wpIn_skip (hQ A g a w hr (Nx.refl _ _ _ _))
 | .label _,_,_,A,fr,st,ex,fr',st',g,a,w,Q,h,hr,hQ=>by
  simp only [exec,Vi,Vk] at h;obtain ⟨rfl,rfl,rfl⟩:=h;exact wpIn_label (hQ A g a w hr (Nx.refl _ _ _ _))
 | .exit id,_,_,A,fr,st,ex,fr',st',g,a,w,Q,h,hr,hQ=>by
  simp only [exec,Vi,Vk] at h;obtain ⟨rfl,rfl,rfl⟩:=h;exact wpIn_exit (hQ A g a w hr (Nx.refl _ _ _ _))
 | .ret,_,_,A,fr,st,ex,fr',st',g,a,w,Q,h,hr,hQ=>by
  simp only [exec,Vi,Vk] at h;obtain ⟨rfl,rfl,rfl⟩:=h;exact wpIn_ret (hQ A g a w hr (Nx.refl _ _ _ _))
 | .region id ops draw,hc,hst,A,fr,st,ex,fr',st',g,a,w,Q,h,hr,hQ=>by
  have hpl:ro.isSome=true→il ops.toList=true:=hst;have nx: ∀{g':Gh} {a':Act} {w':World},a'.defers=a.defers→Kp A g w g' w'→Nx A g a w A g' a' w':=fun hd hk=>⟨fun _ hb=>hb,hk,fun d h=> .inl (hd ▸ h)⟩;simp only [exec] at h;split at h
  ·simp only [ae,ak,Vk] at h;obtain ⟨⟨fr1,st1⟩,h1,rfl,rfl,rfl⟩:=h;refine Cl hX hm hpl (fun hd=> ?_) h1 hr fun a' g' w' hr' hd hk=>hQ A g' a' w' hr' (nx hd hk);simp only [codeOk,hd,V9,Wu] at hc;exact hc
  ·rename_i hd;simp only [Vl] at hd;obtain ⟨rfl,_⟩:=hd;simp only [ae,ak,Vk] at h;obtain ⟨⟨fr1,st1⟩,h1,rfl,rfl,rfl⟩:=h;exact zA hX hm hpl (by simpa [codeOk] using hc) h1 ⟨hr.mode,hr.fr,hr.inv.lay,hr.G,hr.marks⟩ fun a' g' w' hr' hd hk=>hQ A g' a' w' hr' (nx hd hk)
 | .seq x y,hc,hst,A,fr,st,ex,fr',st',g,a,w,Q,h,hr,hQ=>by
  simp only [codeOk,Vl] at hc;have hs1:ro.isSome=true→ct x=true∧ct y=true:=fun e=>by have:=hst e;simpa [ct] using this
  simp only [exec,ae] at h;obtain ⟨⟨ex1,fr1,st1⟩,h1,h2⟩:=h;refine wpIn_seq (fQ hX hm n x hc.1 (fun e=>(hs1 e).1) A fr st ex1 fr1 st1 g a w _ h1 hr fun A' g' a' w' hr' hk=> ?_);cases ex1 with
  | normal=>exact fQ hX hm n y hc.2 (fun e=>(hs1 e).2) A' fr1 st1 ex fr' st' g' a' w' Q h2 hr' fun A'' g'' a'' w'' hr'' hk'=>hQ A'' g'' a'' w'' hr'' (hk.trans hk')
  | exit id=>
   simp only [ak,Vk] at h2;obtain ⟨rfl,rfl,rfl⟩:=h2;exact hQ A' g' a' w' hr' hk
  | ret=>
   simp only [ak,Vk] at h2;obtain ⟨rfl,rfl,rfl⟩:=h2;exact hQ A' g' a' w' hr' hk
 | .cond c x y,hc,hst,A,fr,st,ex,fr',st',g,a,w,Q,h,hr,hQ=>by
  simp only [codeOk,Vl] at hc;have hs1:ro.isSome=true→ct x=true∧ct y=true:=fun e=>by have:=hst e;simpa [ct] using this
  simp only [exec,ae] at h;obtain ⟨cv,h1,b,h2,h3⟩:=h;have hcv:=aN hr.G hr.fr h1;cases cv <;> simp only [VM.asBool,Vi] at h2 <;> (try (cases h2;done))
  subst h2;simp only [R] at hcv;rename_i b;refine wpIn_cond hcv ?_;cases b with
  | true=>exact fQ hX hm n x hc.1 (fun e=>(hs1 e).1) A fr st ex fr' st' g a w Q h3 hr hQ
  | false=>exact fQ hX hm n y hc.2 (fun e=>(hs1 e).2) A fr st ex fr' st' g a w Q h3 hr hQ
 | .block id c,hc,hst,A,fr,st,ex,fr',st',g,a,w,Q,h,hr,hQ=>by
  simp only [codeOk] at hc;simp only [exec,ae] at h;obtain ⟨⟨ex1,fr1,st1⟩,h1,h2⟩:=h;refine wpIn_block (fQ hX hm n c hc hst A fr st ex1 fr1 st1 g a w _ h1 hr fun A' g' a' w' hr' hk=> ?_);cases ex1 with
  | normal=>
   simp only [ak,Vk] at h2;obtain ⟨rfl,rfl,rfl⟩:=h2;exact hQ A' g' a' w' hr' hk
  | exit i=>
   simp only at h2;simp only [Ex.to,Exit.inBlock];split at h2
   ·rename_i hi;have hi:=Vq hi;simp only [ak,Vk] at h2;obtain ⟨rfl,rfl,rfl⟩:=h2;rw [if_pos hi];exact hQ A' g' a' w' hr' hk
   ·rename_i hi;have hi:i≠id:=fun e=>by subst e;simp at hi
    simp only [ak,Vk] at h2;obtain ⟨rfl,rfl,rfl⟩:=h2;rw [if_neg hi];exact hQ A' g' a' w' hr' hk
  | ret=>
   simp only [ak,Vk] at h2;obtain ⟨rfl,rfl,rfl⟩:=h2;exact hQ A' g' a' w' hr' hk
 | .loop c,hc,hst,A,fr,st,ex,fr',st',g,a,w,Q,h,hr,hQ=>by
  simp only [codeOk] at hc;simp only [exec] at h;refine wpIn_loop_rounds n (yc (fun A fr st ex fr' st' g a w Q h hr hQ=>fQ hX hm n c hc hst A fr st ex fr' st' g a w Q h hr hQ) n h hr hQ)
 | .rangeFunc x ps y c,hc,_,A,fr,st,ex,fr',st',g,a,w,Q,h,hr,hQ=>by
  simp only [codeOk,Vl] at hc;exact Cc hX hc h hr hQ
 | .scope c,hc,hst,A,fr,st,ex,fr',st',g,a,w,Q,h,hr,hQ=>by
  cases ro with
  | some l=>exact absurd (hst rfl) (by simp [ct])
  | none=>
   simp only [codeOk] at hc;simp only [exec] at h;refine wpIn_wide.2 (wp_scope_straight (wpIn_wide.1 (fQ (ro:=none) hX hm n c hc (fun e=>by cases e) A fr st ex fr' st' g a w _ h hr fun A' g' a' w' hr' hk=> ?_)));cases ex <;> exact hQ A' g' a' w' hr' hk
 | .goto _,_,_,_,_,_,_,_,_,_,_,_,_,h,_,_=>by simp [exec] at h
 | .refuse _,_,_,_,_,_,_,_,_,_,_,_,_,h,_,_=>by simp [exec] at h
end
section
variable {P:Program} {T:TT} {A:Nat→Prop} {g:Gh} {st:St} {w:World}
theorem yr: ∀(l:List AV) (i:Nat) (t:Tr AV) (k:Nat),(uP i l t).get k=if i≤k∧k < i+l.length then l[k - i]? else t.get k
 | [],i,t,k=>by
  simp only [uP,Vj,Wk];rw [if_neg (by omega)]
 | v::l,i,t,k=>by
  simp only [uP,yr l (i+1),Tr.jX,Vh];by_cases h:i=k
  ·subst h;rw [if_neg (by omega),if_pos rfl,if_pos (by omega)];simp
  ·rw [if_neg h];by_cases h2:i+1≤k∧k < i+1+l.length
   ·rw [if_pos h2,if_pos (by omega),show k - i=(k - (i+1))+1 by omega];simp
   ·rw [if_neg h2,if_neg (by omega)]
theorem zp {n:Nat} {args:List AV} {xs:List Value} (h:RL g args xs) (hn:args.length≤n):wi g (tc n args) (xs.toArray++Array.replicate (n - xs.toArray.size) Go.undef):=by
 have hl:=cW h;refine ⟨by simp [tc];omega,fun t=> .inr ?_⟩;simp only [tc,Fr.get,yr,VC,Wc,Xe,Nat.sub_zero,Tr.sZ];by_cases ht:t < args.length
 ·rw [if_pos ht,VG ht];obtain ⟨x,h1,h2⟩:=vB h (VG ht);have hx:(xs.toArray++Array.replicate (n - xs.toArray.size) Go.undef).getD t Go.undef=x:=by
   rw [Array.getD_eq_getD_getElem?,Array.getElem?_append_left (by simp;omega)];simp [h1]
  rw [hx];exact h2
 ·rw [if_neg ht];have hx:(xs.toArray++Array.replicate (n - xs.toArray.size) Go.undef).getD t Go.undef=Go.undef:=by
   rw [Array.getD_eq_getD_getElem?,Array.getElem?_append_right (by simp;omega)];rw [Array.getElem?_replicate];split <;> rfl
  rw [hx];exact CI
def Gw (tmps:Array Value) (r:ResultVar):Sem Value:=
 match r with
 | .tmp t=>pure (tmps.getD t Go.undef)
 | .cell a t=>do loadVar t (← asAddr (tmps.getD a Go.undef))
theorem Gc (fn:Func) (tmps:Array Value):results fn tmps=(do
  let vs ← fn.results.mapM (Gw tmps)
  pure (if h:vs.size=1 then vs[0] else .tuple vs)):=by
 unfold results;congr 2
theorem pd (hT:wA P T) {fr:Fr} {tmps:Array Value} (hf:wi g fr tmps) (hs:fr.strict=false) (h:Inv T A g st w): ∀{rs:List ResultVar} {vs:List AV},hH T fr st rs= .ok vs→
  ∃xs,(rs.mapM (Gw tmps)).run P w= .ok xs w∧RL g vs xs
 | [],vs,hr=>by
  simp only [hH,Vi] at hr;subst hr;exact ⟨[],rfl,fP⟩
 | r::rs,vs,hr=>by
  simp only [hH,ae,ak] at hr;obtain ⟨v,h1,vs',h2,rfl⟩:=hr;obtain ⟨xs,k1,k2⟩:=pd hT hf hs h h2;have key: ∃x,(Gw tmps r).run P w= .ok x w∧R g v x:=by
   cases r with
   | tmp t=>
    simp only [ke,Vi] at h1;subst h1;exact ⟨_,rfl,hf.at hs t⟩
   | cell a t=>
    simp only [ke,ae] at h1;obtain ⟨i,e1,p,e2,e3⟩:=h1;have hi:=hT t i (cb.1 e1);have ha:=hf.at hs a;show ∃x,(do loadVar t (← Go.asAddr (tmps.getD a Go.undef)):Sem Value).run P w= .ok x w∧R g v x;generalize tmps.getD a Go.undef=x at ha ⊢;cases hav:fr.get a <;> rw [hav] at e2 ha <;> simp only [lF] at e2 <;> (try (cases e2;done))
    ·rename_i cells;simp only [ae,ak] at e2;obtain ⟨u,q1,rfl⟩:=e2;simp only [ak] at e3;subst e3;simp only [R] at ha;obtain ⟨_,b,o,rfl,h3⟩:=ha;obtain ⟨ys,y1,y2⟩:=ic h3;obtain ⟨y,z1,z2⟩:=eH (w:=w) hi q1 y1 fun k z hz=>h.F _ _ _ (y2 k z hz).1;exact ⟨y,by simp [asAddr,z1],z2⟩
    ·rename_i id off;simp only [Vi] at e2;subst e2;simp only [ij,ae,ak] at e3;obtain ⟨o,q1,⟨v',o'⟩,⟨v'',⟨cs,q2,q3⟩,q4⟩,q5⟩:=e3;rw [oj] at q2;obtain ⟨ty,rfl⟩:=q2;simp only [Vk] at q4;obtain ⟨rfl,rfl⟩:=q4;subst q5;simp only [R] at ha;obtain ⟨b,hE,rfl⟩:=ha;obtain ⟨b',ys,rest,ty2,y1,y2,y3,y4,y5,y6⟩:=h.cells q1;have hb:b'=b:=by have:=y1.symm.trans hE;simpa using this
     subst hb;obtain ⟨y,z1,z2⟩:=eH (w:=w) (b:=b') (o:=off) hi q3 (iu off y3) fun k z hz=>jh y2 (by simpa using hz);exact ⟨y,by simp [asAddr,z1],z2⟩
    ·rename_i k n off;simp only [Vi] at e2;subst e2;simp only [ij,ae,ak] at e3;obtain ⟨o,q1,⟨v',o'⟩,⟨v'',q2,q4⟩,q5⟩:=e3;simp only [Vk] at q4;obtain ⟨rfl,rfl⟩:=q4;subst q5;simp only [R] at ha;obtain ⟨loc,b,cap,hE,hl,rfl⟩:=ha;split at q2
     ·rename_i m e z cs;split at q2
      ·rename_i hm;have hm:=Vq hm;subst hm;obtain ⟨loc2,b2,cap2,i2,pre,rest,p1,p2,p3,p4,p5,p6,p7,p8,p9,p10,p11,p12,p13⟩:=h.H k _ q1;have e1:=p1.symm.trans hE;simp only [Vt,mc.tok.injEq] at e1;subst e1;have e2:=p2.symm.trans hl;simp only [Vt,Vk] at e2;obtain ⟨rfl,rfl⟩:=e2;obtain ⟨y,z1,z2⟩:=eH (w:=w) (b:=b2) (o:=off) hi q2 (iu off p11) fun k z hz=>jh p7 (by simpa using hz);exact ⟨y,by simp [asAddr,z1],z2⟩
      ·cases q2
     ·cases q2
  obtain ⟨x,x1,x2⟩:=key;refine ⟨x::xs, ?_,cp x2 k2⟩;rw [List.mapM_cons];simp only [Sem.run_bind,x1,Result.andThen_ok,k1,Sem.run_pure]
theorem QD {id b:Nat} {o:Obj} (h:Holds T g w id o) (ha:At g id o b): ∃x,w.heap[b]? =some x∧ ∀d,x≠ .deferred d:=by
 have cf: ∀{b':Nat} {x:Go.Obj},g.E id=some (.cf b')→g.E id=some (.cf b)→w.heap[b']? =some x→(∀d,x≠ .deferred d)→ ∃x,w.heap[b]? =some x∧ ∀d,x≠ .deferred d:=fun h1 h2 h3 h4=>by
  have:=h1.symm.trans h2;simp only [Vt,mc.cf.injEq] at this;subst this;exact ⟨_,h3,h4⟩
 have tok: ∀{n:Nat} {loc:Nat→Option (Nat×Nat)} {b' cap:Nat} {x:Go.Obj},g.E id=some (.tok loc)→loc n=some (b',cap)→(∃loc cap,g.E id=some (.tok loc)∧loc n=some (b,cap))→w.heap[b']? =some x→(∀d,x≠ .deferred d)→
   ∃x,w.heap[b]? =some x∧ ∀d,x≠ .deferred d:=fun h1 h2 h3 h4 h5=>by
  obtain ⟨loc',cap',k1,k2⟩:=h3;have e1:=h1.symm.trans k1;simp only [Vt,mc.tok.injEq] at e1;subst e1;have e2:=h2.symm.trans k2;simp only [Vt,Vk] at e2;obtain ⟨rfl,rfl⟩:=e2;exact ⟨_,h4,h5⟩
 cases o with
 | cells ty cs=>obtain ⟨b',vs,rest,ty',h1,h2,h3⟩:=h;exact cf h1 ha h2 fun _ e=>by cases e
 | tok n e=>obtain ⟨loc,b',cap,i,vs,fz,h1,h2,h3,h4,h5,h6,h7,h8⟩:=h;exact tok h1 h2 ha h7 fun _ e=>by cases e
 | map es=>obtain ⟨b',ents,clk,h1,h2,h3⟩:=h;exact cf h1 ha h2 fun _ e=>by cases e
 | sit s pos=>obtain ⟨b',h1,h2⟩:=h;exact cf h1 ha h2 fun _ e=>by cases e
 | dead=>exact ha.elim
 | grow n e z es=>obtain ⟨loc,b',cap,i,vs,fz,h1,h2,h3,h4,h5,h6,h7,h8⟩:=h;exact tok h1 h2 ha h7 fun _ e=>by cases e
 | yW=>exact ha.elim
 | row n e z cs=>obtain ⟨loc,b',cap,i,pre,rest,h1,h2,h3,h4,h5,h6,h7,h8⟩:=h;exact tok h1 h2 ha h7 fun _ e=>by cases e
 | loop imm ps a c fr s p=>obtain ⟨b',r,h1,h2,h3⟩:=h;exact cf h1 ha h2 fun _ e=>by cases e
theorem Inv.take (h:Inv T A g st w) {D:Nat} {x:Option (List Deferred)} (hD:w.heap[D]? =some (.deferred x)):Inv T A g st (w.putObj D (.deferred none)):=by
 have hne: ∀b,b≠D→(w.putObj D (.deferred none)).heap[b]? =w.heap[b]? :=fun b hb=>World.putObj_heap_other hb;refine ⟨fun b o v hv=> ?_,fun b ents clk hm=> ?_,h.E,fun id o ho=> ?_,h.D,h.own,fun b hb=>h.up b (by simpa using hb)⟩
 ·have h1:=h.F b o v hv;obtain ⟨vs,ty,fz,h2,_⟩:=nJ h1;rw [se (hne b fun e=>by subst e;rw [hD] at h2;cases h2)];exact h1
 ·have h1:=h.M b ents clk hm;rw [hne b fun e=>by subst e;rw [hD] at h1;cases h1];exact h1
 ·refine mn (h.H id o ho) fun b hb=>hne b fun e=> ?_;subst e;obtain ⟨y,h1,h2⟩:=QD (h.H id o ho) hb;rw [hD] at h1;cases h1;exact h2 _ rfl
theorem zM {T:TT} {A':Nat→Prop} {g':Gh} {st1:St} {fn:Func} {tmps:Array Value} {R:Ending→World→Prop} {w:World} {g:Gh}
  (hq: ∀w',Inv T A' g' st1 w'→Kp A g w g' w'→LeavesIn Fence.wide 0 P fn tmps R [] .returning w'): ∀(Ds:List Nat) (w':World),Ds.Nodup→(∀D∈Ds,A D∧w'.heap[D]? =some (.deferred (some [])))→Inv T A' g' st1 w'→Kp A g w g' w'→
   LeavesInM Fence.wide 0 P fn tmps R (Ds.map mark) .returning w'
 | [],w',_,_,hi,hk=>hq w' hi hk
 | D::Ds,w',hn,hm,hi,hk=>by
  obtain ⟨hA,hD⟩:=hm D (by simp);rw [WX] at hn;refine ⟨by simp,.inl ⟨D,_,rfl,run_takeDeferred hD,zM hq Ds _ hn.2 (fun D' hD'=>⟨(hm D' (by simp [hD'])).1, ?_⟩) (hi.take hD) (hk.trans (Kp.write hA World.putObj_size fun b hb=>World.putObj_heap_other hb))⟩⟩;rw [World.putObj_heap_other (fun e=>by subst e;exact hn.1 hD')];exact (hm D' (by simp [hD'])).2
theorem rI {X:Cx} (hX:Good P X) (hm:P.follows .mixedOrders=true) {n:Nat} {f:FuncId} {fn:Func} {args:List AV} {v:AV} {st':St} {xs:List Value} (hfn:P.funcs[f]? =some fn)
  (hc: ∀c,fn.body=some c→codeOk c=true) (h:body X n fn args st= .ok (v,st')) (hr:RL g args xs) (hG:GR g X.G) (hi:Inv X.T A g st w):
  Calls P f xs.toArray w fun e w'=> ∃x,e= .returned x∧kR X.T A g st' w v x w':=by
 unfold body at h;split at h
 ·cases h
 ·rename_i c hbody;split at h
  ·cases h
  ·rename_i hle;have hle:=VA hle;simp only [ae] at h;obtain ⟨⟨ex,fr',st1⟩,h1,h2⟩:=h;refine (callsIn_wide (n:=0)).1 (callsIn_of_wp_marks hfn hbody trivial ?_);refine fQ (ro:=none) hX hm n c (hc c hbody) (fun e=>by cases e) A _ _ _ _ _ g _ w _ h1 ⟨rfl,zp hr hle,hi,hG,⟨[],rfl,List.nodup_nil,fun _ h=>by cases h⟩⟩ fun A' g' a' w1 hr' hk=> ?_;have fin:(do pure (oneOf (← hH X.T fr' st1 fn.results.toList),st1):cM (AV×St))= .ok (v,st')→LeavesInM Fence.wide 0 P fn a'.tmps (fun e w'=> ∃x,e= .returned x∧kR X.T A g st' w v x w') a'.defers .returning w1:=fun he=>by
    simp only [ae,ak,Vk] at he;obtain ⟨vs,e1,rfl,rfl⟩:=he;obtain ⟨Ds,m1,m2,m3⟩:=hr'.marks;rw [m1];refine zM (T:=X.T) (A':=A') (g':=g') (st1:=st1) (A:=A) (g:=g) (w:=w) (fun w' hi' hkp=> ?_) Ds w1 m2 (fun D hD=>⟨?_,(m3 D hD).2⟩) hr'.inv hk.kp
    rotate_left
    ·rcases hk.defs (mark D) (by rw [m1];exact List.mem_map_of_mem hD) with hd | ⟨D',e,hA'⟩
     ·cases hd
     ·have:D=D':=by
       simp only [mark,Deferred.mk.injEq,Target.collected.injEq,Xf] at e;exact e
      rw [this];exact hA'
    obtain ⟨ys,y1,y2⟩:=pd hX.T hr'.fr (by rw [hr'.mode];rfl) hi' e1;have hm':(fn.results.mapM (Gw a'.tmps)).run P w'= .ok ys.toArray w':=by
     rw [Array.mapM_eq_mapM_toList];simp only [Sem.run_map,y1,Result.andThen_ok]
    have hi2:Inv X.T A g' st1 w':=⟨hi'.F,hi'.M,hi'.E,hi'.H,hi'.D,fun id o b q1 q2 q3=>hk.sub b (hi'.own id o b q1 q2 q3),fun b hb=>hi.up b (VZ hkp.size hb)⟩;refine ⟨if h:ys.toArray.size=1 then ys.toArray[0] else .tuple ys.toArray, ?_,_,rfl,g', ?_,hi2,hkp⟩
    ·rw [Gc];simp only [Sem.run_bind,hm',Result.andThen_ok,Sem.run_pure]
    ·cases vs with
     | nil=>
      simp only [RL] at y2;subst y2;simp only [oneOf,R];exact ⟨_,rfl,fP⟩
     | cons v1 vs=>
      cases vs with
      | nil=>
       simp only [RL] at y2;obtain ⟨x,l,rfl,r1,rfl⟩:=y2;exact r1
      | cons v2 vs=>
       have hl:=cW y2;rw [dif_neg (by simp at hl ⊢;omega)];simp only [oneOf,R];exact ⟨_,rfl,y2⟩
   cases ex with
   | normal=>exact fin h2
   | ret=>exact fin h2
   | exit id=>cases h2
end
end Go.VM
namespace Go.VM
open Classical in
noncomputable def Gh.zm (g:Gh) (s:St) (w:World) (base:Nat) (E0:Nat→Option mc):Gh where
 F b o:=if ∃id ty cs,base≤id∧s.get id= .ok (.cells ty cs)∧g.E id=some (.cf b) then w.cell? ⟨b,o,none⟩ else g.F b o
 M b:=if ∃id es,base≤id∧s.get id= .ok (.map es)∧g.E id=some (.cf b) then (match w.heap[b]? with | some (.map ents clk)=>some (ents.toList,clk) | _=>none) else g.M b
 E:=E0
section
variable {P:Program} {T:TT} {A:Nat→Prop} {g:Gh} {s:St} {w:World} {base:Nat}
theorem OO (h:Inv T A g s w) (E0:Nat→Option mc):PO g (g.zm s w base E0):=by
 refine ⟨fun b o v hv=> ?_,fun b e he=> ?_⟩
 ·simp only [Gh.zm];split
  ·exact h.F b o v hv
  ·exact hv
 ·simp only [Gh.zm];split
  ·rename_i hc;obtain ⟨id,es,_,h2,h3⟩:=hc;obtain ⟨b',ents,clk,q1,q2,q3,q4⟩:=h.H id _ h2;have:b'=b:=by have:=q1.symm.trans h3;simpa using this
   subst this;rw [q4] at he;cases he
  ·exact he
theorem B5 (h:Inv T A g s w):Le g (g.zm s w base g.E):=⟨(OO h g.E).F,(OO h g.E).M,fun _ _ x=>x,fun _ loc x=>⟨loc,x,fun _ _ y=>y⟩⟩
theorem AG (_h:Inv T A g s w) {id b:Nat} {ty:TypeId} {cs:List AV} (E0:Nat→Option mc) (hb:base≤id) (hg:s.get id= .ok (.cells ty cs)) (hE:g.E id=some (.cf b)) (o:Nat):(g.zm s w base E0).F b o=w.cell? ⟨b,o,none⟩:=by
 simp only [Gh.zm];rw [if_pos ⟨id,ty,cs,hb,hg,hE⟩]
theorem lu (h:Inv T A g s w): ∀(f:Nat) (v v':AV) (x:Value),freeze s base f v= .ok v'→R g v x→R (g.zm s w base g.E) v' x
 | 0,v,v',x,hf,_=>by simp [freeze] at hf
 | f+1,v,v',x,hf,hr=>by
  have all: ∀(l l':List AV) (xs:List Value),jD (freeze s base f) l= .ok l'→RL g l xs→RL (g.zm s w base g.E) l' xs:=by
   intro l
   induction l with
   | nil=>
    intro l' xs h1 h2;simp only [jD,Vi] at h1;subst h1;simp only [RL] at h2 ⊢;exact h2
   | cons v l ih=>
    intro l' xs h1 h2;simp only [jD,ae,ak] at h1;obtain ⟨u,e1,l1,e2,rfl⟩:=h1;simp only [RL] at h2;obtain ⟨y,ys,rfl,r1,r2⟩:=h2;exact cp (lu h f v u y e1 r1) (ih l1 ys e2 r2)
  have same:v'=v→R (g.zm s w base g.E) v' x:=fun e=>by subst e;exact mK (B5 h) _ _ hr
  unfold freeze at hf;split at hf
  ·-- a pointer
   rename_i id off;split at hf
   ·simp only [Vi] at hf;exact same hf.symm
   ·rename_i hid;rw [cP] at hid;simp only [ae] at hf;obtain ⟨o,e1,e2⟩:=hf;split at e2
    ·rename_i ty cs;simp only [ae,ak] at e2;obtain ⟨c1,e3,c2,e4,rfl⟩:=e2;simp only [R] at hr;obtain ⟨b,hE,rfl⟩:=hr;obtain ⟨b',vs,rest,ty2,k1,k2,k3,k4,k5,k6⟩:=h.cells e1;have hb:b'=b:=by have:=k1.symm.trans hE;simpa using this
     subst hb;have r1:=all _ _ _ e3 (iu off k3);obtain ⟨r2,r3⟩:=Bf r1 e4;simp only [R];refine ⟨r3,b',off,rfl,dj r2 fun i y hy=>⟨?_,k4 y (List.mem_of_mem_drop (VQ hy))⟩⟩;rw [AG h g.E hid e1 k1];exact jh k2 (by simpa using hy)
    ·cases e2
  ·rename_i id;split at hf
   ·simp only [Vi] at hf;exact same hf.symm
   ·rename_i hid;rw [cP] at hid;simp only [ae] at hf;obtain ⟨o,e1,e2⟩:=hf;split at e2
    ·rename_i es;simp only [ae] at e2;obtain ⟨es1,e3,e4⟩:=e2;split at e4
     ·simp only [ak] at e4;subst e4;simp only [R] at hr;obtain ⟨b,hE,rfl⟩:=hr;obtain ⟨b',ents,clk,q1,q2,q3,q4⟩:=h.H id _ e1;have hb:b'=b:=by have:=q1.symm.trans hE;simpa using this
      subst hb;have ents_all: ∀(l l':List (AV×AV)) (m:List MapEntry),pW (freeze s base f) l= .ok l'→qV g l m→qV (g.zm s w base g.E) l' m:=by
       intro l
       induction l with
       | nil=>
        intro l' xs h1 h2;simp only [pW,Vi] at h1;subst h1;simp only [qV] at h2 ⊢;exact h2
       | cons p l ih=>
        intro l' xs h1 h2;obtain ⟨k,v⟩:=p;simp only [pW,ae,ak] at h1;obtain ⟨u,e1,l1,e2,rfl⟩:=h1;simp only [qV] at h2 ⊢;obtain ⟨e,ys,rfl,r1,r2,r3⟩:=h2;exact ⟨e,ys,rfl,mK (B5 h) _ _ r1,wq (lu h f v u _ e1 r2),ih l1 ys e2 r3⟩
      simp only [R];refine ⟨b',ents.toList,clk, ?_,rfl,ents_all _ _ _ e3 q3⟩;simp only [Gh.zm];rw [if_pos ⟨id,es,hid,e1,q1⟩,q2]
     ·cases e4
    ·cases e2
  ·rename_i z e k;split at hf
   ·simp only [Vi] at hf;exact same hf.symm
   ·simp only [Vi] at hf;subst hf;exact wq (v:= .sl z e (.own k)) (mK (B5 h) _ _ hr)
  ·simp only [ae,ak] at hf;obtain ⟨c1,e3,rfl⟩:=hf;simp only [R] at hr ⊢;obtain ⟨ys,rfl,r⟩:=hr;exact ⟨ys,rfl,all _ _ _ e3 r⟩
  ·simp only [ae,ak] at hf;obtain ⟨c1,e3,rfl⟩:=hf;simp only [R] at hr ⊢;obtain ⟨ys,rfl,r⟩:=hr;exact ⟨ys,rfl,all _ _ _ e3 r⟩
  ·simp only [ae,ak] at hf;obtain ⟨c1,e3,rfl⟩:=hf;simp only [R] at hr ⊢;obtain ⟨y,rfl,r⟩:=hr;exact ⟨y,rfl,lu h f _ c1 y e3 r⟩
  ·simp only [ae,ak] at hf;obtain ⟨c1,e3,c2,e4,rfl⟩:=hf;simp only [R] at hr ⊢;obtain ⟨y,y',rfl,r,r'⟩:=hr;exact ⟨y,y',rfl,all _ _ _ e3 r,all _ _ _ e4 r'⟩
  ·-- an array
   rename_i id off z len cap;split at hf
   ·simp only [Vi] at hf;exact same hf.symm
   ·rename_i hid;rw [cP] at hid;simp only [ae] at hf;obtain ⟨o,e1,e2⟩:=hf;split at e2
    ·rename_i ty cs;simp only [ae] at e2;obtain ⟨c1,e3,e4⟩:=e2;split at e4
     ·rename_i hones;simp only [ae] at e4;obtain ⟨els,e5,els',e6,e7⟩:=e4;have key: ∃p,v'= .sl z els' p∧(len≠0∨cap≠0)∧(p= .shut→cap=len∧cap≠0)∧(p= .shut∨p= .wide):=by
       split at e7
       ·split at e7
        ·cases e7
        ·rename_i hl;simp only [ak] at e7;exact ⟨.wide,e7.symm,.inl (fun e=>by subst e;simp at hl),(fun e=>by cases e),.inr rfl⟩
       ·rename_i hcap;simp only [ak] at e7;have h0:cap≠0:=fun e=>by subst e;simp at hcap
        cases hcl:cap.beq len with
        | true=>rw [hcl] at e7;exact ⟨.shut,e7.symm,.inr h0,fun _=>⟨Vq hcl,h0⟩,.inl rfl⟩
        | false=>rw [hcl] at e7;exact ⟨.wide,e7.symm,.inr h0,(fun e=>by cases e),.inr rfl⟩
      clear e7;obtain ⟨p,rfl,hne,hshut,hpp⟩:=key
      ·simp only [R] at hr;obtain ⟨b,o',hE,c,rfl,hc,hz1,ho,hcc⟩:=hr;have hc0:c≠0:=by
        rcases hne with q | q
        ·omega
        ·rcases hcc with rfl | e
         ·exact q
         ·exact absurd e q
       have ho':o'=off:=ho hc0;subst ho';obtain ⟨b',vs,rest,ty2,k1,k2,k3,k4,k5,k6⟩:=h.cells e1;have hb:b'=b:=by have:=k1.symm.trans hE;simpa using this
       subst hb;have r1:=all _ _ _ e3 (mf (len * z) (iu o' k3));obtain ⟨f1,f2,f3⟩:=rR (fun e=>by
        have:¬ 2≤z:=fun k=>by rw [VS k] at e;cases e
        omega) hones e5
       have r2:RL (g.zm s w base g.E) (flat els) (((vs.toList.drop o').take (len * z)).take (len * z)):=by rw [f1];exact mf _ r1
       obtain ⟨q1,q2,q3,q4⟩:=nG e6 r2;simp only [R];have hl:els'.length=len:=by rw [q3,f3]
       refine ⟨q2,b',o',c,by rw [hl],by rw [hl];exact hc,hz1, ?_, ?_⟩
       ·rw [dE];refine ⟨fun u hu=>by
         have:u.cells.length∈els'.map (·.cells.length):=We.2 ⟨u,hu,rfl⟩;rw [q4] at this;obtain ⟨u',hu',e⟩:=We.1 this;rw [← e];exact f2 u' hu',dj q1 fun i y hy=> ?_⟩
        have hy':vs[o'+i]? =some y∧y∈vs.toList:=by
         have h1:y∈vs.toList:=List.mem_of_mem_drop (List.mem_of_mem_take (List.mem_of_mem_take (VQ hy)));refine ⟨?_,h1⟩;rw [List.take_take,Nat.min_self,List.getElem?_take] at hy;by_cases hi:i < len * z
         ·rw [if_pos hi] at hy;simpa using hy
         ·rw [if_neg hi] at hy;cases hy
        refine ⟨?_,k4 y hy'.2⟩;rw [AG h g.E hid e1 k1];exact jh k2 hy'.1
       ·rcases hpp with rfl | rfl
        ·obtain ⟨h1,h2⟩:=hshut rfl;simp only [sU];rw [hl];rcases hcc with e | e
         ·omega
         ·exact absurd e h2
        ·simp only [sU]
     ·cases e4
    ·cases e2
  ·-- a slice that an object holds
   rename_i k z n;split at hf
   ·simp only [Vi] at hf;exact same hf.symm
   ·simp only [ae] at hf;obtain ⟨o,e1,e2⟩:=hf;split at e2
    ·rename_i m e z' es;split at e2
     ·rename_i hcond;simp only [Vl] at hcond;have c1:=Vq hcond.1.1;have c2:=Vq hcond.1.2;have c3:=Vq hcond.2;subst c1 c2 c3;cases e2;simp only [R] at hr;obtain ⟨loc,b,cap,hE,hl,rfl,hcap,hz1⟩:=hr;obtain ⟨loc2,b2,cap2,i2,vs,fz,q1,q2,q3,q4,q5,q6,q7,q8,q9,q10,q11,q12,q13,q14⟩:=h.H k _ e1;have e1:=q1.symm.trans hE;simp only [Vt,mc.tok.injEq] at e1;subst e1;have e2:=q2.symm.trans hl;simp only [Vt,Vk] at e2;obtain ⟨rfl,rfl⟩:=e2;simp only [R];exact ⟨q13,b2,0,cap2,rfl,hcap,hz1,gd (B5 h) _ _ _ _ q14,trivial⟩
     ·cases e2
    ·cases e2
  ·simp only [Vi] at hf;exact same hf.symm
theorem yF {A':Nat→Prop} {gb g':Gh} {st:St} {w':World} {v v':AV} {x:Value} (hc:Inv T A g st w) (hF:gb.F=g.F) (hM:gb.M=g.M) (hA: ∀b,A' b↔w.heap.size≤b)
  (hi:Inv T A' g' s w') (hk:Kp A' gb w g' w') (hro:s.ro≤base) (hr:R g' v x) (hf:freeze s base 100 v= .ok v') (hb:bare v'=true):kR T A g st w v' x w':=by
 have hold: ∀b,b < w.heap.size→¬ A' b:=fun b hb ha=>by have:=(hA b).1 ha;omega
 have hF': ∀b,b < w.heap.size→ ∀o,(g'.zm s w' base g.E).F b o=g.F b o:=fun b hb o=>by
  simp only [Gh.zm];rw [if_neg ?_]
  ·rw [hk.F b (hold b hb) o,hF]
  ·rintro ⟨id,ty,cs,h1,h2,h3⟩;exact hold b hb (hi.own id _ b h2 h3 (by omega))
 have hM': ∀b,b < w.heap.size→(g'.zm s w' base g.E).M b=g.M b:=fun b hb=>by
  simp only [Gh.zm];rw [if_neg ?_]
  ·rw [hk.M b (hold b hb),hM]
  ·rintro ⟨id,es,h1,h2,h3⟩;exact hold b hb (hi.own id _ b h2 h3 (by omega))
 have hheap: ∀b,b < w.heap.size→w'.heap[b]? =w.heap[b]? :=fun b hb=>hk.heap b (hold b hb);have hle:Le g (g'.zm s w' base g.E):=by
  refine ⟨fun b o u hu=> ?_,fun b e he=> ?_,fun _ _ x=>x,fun _ loc x=>⟨loc,x,fun _ _ y=>y⟩⟩
  ·obtain ⟨vs,ty,fz,q,_⟩:=nJ (hc.F b o u hu);rw [hF' b (lt_of_heap q) o];exact hu
  ·have:=hc.M b e.1 e.2 he;rw [hM' b (lt_of_heap this)];exact he
 refine ⟨g'.zm s w' base g.E,rO (g:=g'.zm s w' base g'.E) (g':=g'.zm s w' base g.E) ⟨fun _ _ _ x=>x,fun _ _ x=>x⟩ v' x hb (lu hi 100 v v' x hf hr),⟨?_, ?_,hc.E, ?_,hc.D,hc.own,fun b hb=>hc.up b (VZ hk.size hb)⟩,⟨hk.size, ?_, ?_, ?_,hle,hk.rest⟩⟩
 ·intro b o u hu;simp only [Gh.zm] at hu;split at hu
  ·exact hu
  ·exact hi.F b o u hu
 ·intro b ents clk hm;simp only [Gh.zm] at hm;split at hm
  ·split at hm
   ·rename_i e c hh;simp only [Vt,Vk] at hm;obtain ⟨rfl,rfl⟩:=hm;simpa using hh
   ·cases hm
  ·exact hi.M b ents clk hm
 ·intro id o ho;have:=hc.H id o ho;refine jw (mn this fun b hb=>hheap b (C5 this hb)) hle rfl fun b hb=> ?_;have hlt:=C5 this hb;exact ⟨fun o=>hF' b hlt o,hM' b hlt⟩
 ·intro b hb;exact hheap b (Nat.lt_of_not_le fun k=>hb (hc.up b k))
 ·intro b hb o;exact hF' b (Nat.lt_of_not_le fun k=>hb (hc.up b k)) o
 ·intro b hb;exact hM' b (Nat.lt_of_not_le fun k=>hb (hc.up b k))
end
end Go.VM
namespace Go.VM
structure Dx (C:cX):Prop where
 wide: ∀f args st v s,C.wide f args st= .ok (v,s)→s.ro=st.ro
 round: ∀k args st v s,C.round k args st= .ok (v,s)→s.ro=st.ro
theorem yD {C:cX} (hC:Dx C) {st:St} {p:dF} {v:AV} {x:Fx} (h:aC C st p= .ok (v,x)):(x.did.app st).ro=st.ro:=by
 cases p with
 | val u=>
  simp only [aC,Vi,Vk] at h;obtain ⟨_,rfl⟩:=h;rfl
 | obj id f=>
  simp only [aC,ae,ak] at h;obtain ⟨ob,h3,⟨v',o'⟩,h4,d,h5,h6⟩:=h;simp only [Vk] at h6;obtain ⟨_,rfl⟩:=h6;cases o' with
  | none=>simp only [ej,Vi] at h5;subst h5;rfl
  | some o'=>
   simp only [ej] at h5;split at h5
   ·cases h5
   ·simp only [Vi] at h5;subst h5;rfl
 | both id k f=>
  simp only [aC,ae] at h;obtain ⟨ob,_,r,_,h3⟩:=h;cases r with
  | none=>
   simp only [ae,ak,Vk] at h3;obtain ⟨_,_,_,rfl⟩:=h3;rfl
  | some j=>
   dsimp only at h3;split at h3
   ·simp only [ae,ak,Vk] at h3;obtain ⟨_,_,_,_,_,rfl⟩:=h3;rfl
   ·cases h3
 | new o f=>
  simp only [aC,Vi,Vk] at h;obtain ⟨_,rfl⟩:=h;rfl
 | call f args=>
  simp only [aC] at h;split at h
  ·simp only [ae,ak] at h;obtain ⟨_,_,h⟩:=h;simp only [Vk] at h;obtain ⟨_,rfl⟩:=h;rfl
  ·split at h
   ·simp only [ae,ak] at h;obtain ⟨_,_,h⟩:=h;simp only [Vk] at h;obtain ⟨_,rfl⟩:=h;rfl
   ·simp only [ae,ak] at h;obtain ⟨⟨v',s⟩,h1,h⟩:=h;simp only [Vk] at h;obtain ⟨_,rfl⟩:=h;exact hC.wide _ _ _ _ _ h1
 | yield k args=>
  simp only [aC,ae,ak] at h;obtain ⟨⟨v',s⟩,h1,h⟩:=h;simp only [Vk] at h;obtain ⟨_,rfl⟩:=h;exact hC.round _ _ _ _ _ h1
theorem rX {X:Cx} (hC:Dx X.C) {all:List Oper} {draw:Bool}: ∀{l:List Oper} {j:Nat} {seen:List (Nat×Fx)} {fr fr':Fr} {st st':St},dH X all draw j seen l fr st= .ok (fr',st')→st'.ro=st.ro
 | [],_,_,_,_,_,_,h=>by
  simp only [dH,Vi,Vk] at h;rw [h.2]
 | o::l,j,seen,fr,fr',st,st',h=>by
  simp only [dH,ae] at h;obtain ⟨⟨v,x⟩,h1,h2⟩:=h;have hx:(x.did.app st).ro=st.ro:=by
   unfold oper at h1;split at h1
   ·simp only [ae] at h1;obtain ⟨p,_,h1⟩:=h1;exact yD hC h1
   ·simp only [Vi,Vk] at h1;obtain ⟨_,rfl⟩:=h1;rfl
  split at h2
  ·exact (rX hC h2).trans hx
  ·split at h2
   ·exact (rX hC h2).trans hx
   ·cases h2
theorem Kf: ∀{l:List Nat} {st:St},(st.lay l).ro=st.ro
 | [],_=>rfl
 | _::l,st=>Kf (l:=l) (st:=(st.new .yW).2)
theorem qk {X:Cx} (hC:Dx X.C) {e:Nat→Option Nat} {all:List Oper}: ∀{l:List Oper} {j:Nat} {seen:List (Nat×Fx)} {fr fr':Fr} {st st':St},cS X e all j seen l fr st= .ok (fr',st')→st'.ro=st.ro
 | [],_,_,_,_,_,_,h=>by
  simp only [cS,Vi,Vk] at h;rw [h.2]
 | o::l,j,seen,fr,fr',st,st',h=>by
  simp only [cS,ae] at h;obtain ⟨⟨v,x⟩,h1,h2⟩:=h;have hx:(x.did.app st).ro=st.ro:=by
   unfold fK at h1;split at h1
   ·split at h1
    ·obtain ⟨_,_,_,_,_,rfl⟩:=qh h1;rfl
    ·simp only [ae] at h1;obtain ⟨p,_,h1⟩:=h1;exact yD hC h1
   ·simp only [Vi,Vk] at h1;obtain ⟨_,rfl⟩:=h1;rfl
  split at h2
  ·exact (qk hC h2).trans hx
  ·split at h2
   ·exact (qk hC h2).trans hx
   ·cases h2
theorem G0 {body:Fr→St→cM (Ex×Fr×St)} (hb: ∀fr st ex fr' st',body fr st= .ok (ex,fr',st')→st'.ro=st.ro): ∀(n:Nat) {fr fr':Fr} {st st':St} {ex:Ex},iter body n fr st= .ok (ex,fr',st')→st'.ro=st.ro
 | 0,_,_,_,_,_,h=>by simp [iter] at h
 | n+1,fr,fr',st,st',ex,h=>by
  simp only [iter,ae] at h;obtain ⟨⟨ex1,fr1,st1⟩,h1,h2⟩:=h;have:=hb _ _ _ _ _ h1;cases ex1 <;> simp only [ak,Vk] at h2
  ·exact (G0 hb n h2).trans this
  ·rw [← h2.2.2];exact this
  ·rw [← h2.2.2];exact this
theorem iw {X:Cx} (hC:Dx X.C) (n:Nat): ∀(c:Code) (fr:Fr) (st:St) (ex:Ex) (fr':Fr) (st':St),exec X n c fr st= .ok (ex,fr',st')→st'.ro=st.ro
 | .skip,_,_,_,_,_,h | .label _,_,_,_,_,_,h | .exit _,_,_,_,_,_,h | .ret,_,_,_,_,_,h=>by
  simp only [exec,Vi,Vk] at h;rw [h.2.2]
 | .region _ _ _,_,_,_,_,_,h=>by
  simp only [exec] at h;split at h
  ·simp only [ae,ak,Vk] at h;obtain ⟨⟨fr1,st1⟩,h1,rfl,rfl,rfl⟩:=h;exact rX hC h1
  ·simp only [ae,ak,Vk] at h;obtain ⟨⟨fr1,st1⟩,h1,rfl,rfl,rfl⟩:=h;exact (qk hC h1).trans Kf
 | .seq x y,_,_,_,_,_,h=>by
  simp only [exec,ae] at h;obtain ⟨⟨ex1,fr1,st1⟩,h1,h2⟩:=h;have:=iw hC n x _ _ _ _ _ h1;cases ex1 <;> simp only [ak,Vk] at h2
  ·exact (iw hC n y _ _ _ _ _ h2).trans this
  ·rw [← h2.2.2];exact this
  ·rw [← h2.2.2];exact this
 | .cond c x y,_,_,_,_,_,h=>by
  simp only [exec,ae] at h;obtain ⟨cv,h1,b,h2,h3⟩:=h;cases b
  ·exact iw hC n y _ _ _ _ _ h3
  ·exact iw hC n x _ _ _ _ _ h3
 | .block id c,_,_,_,_,_,h=>by
  simp only [exec,ae] at h;obtain ⟨⟨ex1,fr1,st1⟩,h1,h2⟩:=h;have:=iw hC n c _ _ _ _ _ h1;cases ex1
  ·simp only [ak,Vk] at h2;rw [← h2.2.2];exact this
  ·simp only at h2;split at h2 <;> simp only [ak,Vk] at h2 <;> rw [← h2.2.2] <;> exact this
  ·simp only [ak,Vk] at h2;rw [← h2.2.2];exact this
 | .loop c,_,_,_,_,_,h=>by
  simp only [exec] at h;exact G0 (fun fr st ex fr' st' h=>iw hC n c fr st ex fr' st' h) n h
 | .rangeFunc x ps y c,_,_,_,_,_,h=>by
  simp only [exec] at h;split at h
  ·cases h
  ·simp only [ae] at h;obtain ⟨fv,h1,h⟩:=h;split at h
   ·simp only [ae] at h;obtain ⟨⟨v,st1⟩,h2,o,h3,h4⟩:=h;dsimp only at h3 h4;split at h4
    ·split at h4
     ·simp only [ak,Vk] at h4;rw [← h4.2.2];have e:=hC.wide _ _ _ _ _ h2;exact e
     ·cases h4
    ·cases h4
   ·cases h
 | .scope c,_,_,_,_,_,h=>by
  simp only [exec] at h;exact iw hC n c _ _ _ _ _ h
 | .goto _,_,_,_,_,_,h=>by simp [exec] at h
 | .refuse _,_,_,_,_,_,h=>by simp [exec] at h
theorem BB {X:Cx} (hC:Dx X.C) {n:Nat} {fn:Func} {args:List AV} {st st':St} {v:AV} (h:body X n fn args st= .ok (v,st')):st'.ro=st.ro:=by
 unfold body at h;split at h
 ·cases h
 ·split at h
  ·cases h
  ·simp only [ae] at h;obtain ⟨⟨ex,fr',st1⟩,h1,h2⟩:=h;have:=iw hC n _ _ _ _ _ _ h1;cases ex
   ·simp only [ae,ak,Vk] at h2;obtain ⟨_,_,_,rfl⟩:=h2;exact this
   ·cases h2
   ·simp only [ae,ak,Vk] at h2;obtain ⟨_,_,_,rfl⟩:=h2;exact this
theorem IG {X:Cx} (hC:Dx X.C) {n k:Nat} {x c:Code} {fr:Fr} {st st':St} {v:AV} (h:pH X n k x c fr st= .ok (v,st')):st'.ro=st.ro:=by
 simp only [pH,ae] at h;obtain ⟨⟨ex1,fr1,st1⟩,h1,h⟩:=h;have e1:=iw hC n _ _ _ _ _ _ h1;cases ex1 with
 | normal=>
  simp only [ae] at h;obtain ⟨st2,h2,⟨ex,fr2,st3⟩,h3,h4⟩:=h;obtain ⟨_,_,_,_,_,_,_,rfl⟩:=oB h2;have e3:=iw hC n _ _ _ _ _ _ h3;cases ex <;> simp only [ae,ak,Vk] at h4 <;> obtain ⟨st4,h4,_,rfl⟩:=h4 <;> obtain ⟨_,_,_,_,_,_,_,rfl⟩:=oB h4 <;> exact e3.trans e1
 | exit id=>cases h
 | ret=>cases h
theorem rp {g:Gh}: ∀{ps:List Nat} {args:List AV} {xs:List Value} {fr:Fr} {tmps:Array Value},wi g fr tmps→RL g args xs→ps.length=args.length→
  wi g (oY ps args fr) ((ps.zip xs).foldl (fun t (p,v)=>t.setIfInBounds p v) tmps)∧(oY ps args fr).strict=fr.strict
 | [],_,_,fr,tmps,h,_,_=>by simp only [oY,List.zip_nil_left,List.foldl_nil];exact ⟨h,trivial⟩
 | p::ps,[],_,_,_,_,_,hl=>by cases hl
 | p::ps,v::vs,xs,fr,tmps,h,hr,hl=>by
  simp only [RL] at hr;obtain ⟨y,ys,rfl,r1,r2⟩:=hr;have h1:=h.put r1 (some p);obtain ⟨k1,k2⟩:=rp h1 r2 (by simpa using hl);simp only [oY,List.zip_cons_cons,Xl];exact ⟨k1,k2.trans (gQ _ _ _)⟩
theorem Cg {P:Program} {X:Cx} (hX:Good P X) (hC:Dx X.C) (hm:P.follows .mixedOrders=true) {n k:Nat} {imm:TypeId→Bool} {ps:List Tmp} {x c:Code} {fr:Fr} {p:Ex} {args:List AV} {st st':St} {v:AV} (h:pH X n k x c (oY ps args fr) st= .ok (v,st'))
  (hst:ct x=true∧ct c=true) (hlen:args.length=ps.length) (hk:st.get k= .ok (.loop imm ps x c fr 0 p)) (hro:st.ro≤k) {A:Nat→Prop} {g:Gh} {w:World} {xs:List Value} {l:Nat} (hG:GR g X.G) (hargs:RL g args xs) (hi:Inv X.T A g st w) (hE:g.E k=some (.cf l)):
  BS P l xs.toArray w (kR X.T A g st' w v):=by
 obtain ⟨b,r,q1,q2,q3,q4,q5,q6,⟨q7,q8,q9⟩,q10⟩:=hi.H k _ hk;have hb:b=l:=by have:=q1.symm.trans hE;simpa using this
 subst hb;have hxs:=cW hargs;have hps:r.params.size=ps.length:=by rw [← q4];simp
 refine ⟨r.fn,_,r.assign,r.body,run_yield q2 (by simp;omega),roundIn_of_wpIn trivial ?_⟩;rw [q5,q6];have hfold:(r.params.zip xs.toArray).foldl (fun tmps (t,a)=>tmps.setIfInBounds t a) r.tmps=(ps.zip xs).foldl (fun t (p,v)=>t.setIfInBounds p v) r.tmps:=by
  rw [← Array.foldl_toList,Array.toList_zip,q4]
 rw [hfold];obtain ⟨f1,f2⟩:=rp q3 hargs hlen.symm;simp only [pH,ae] at h;obtain ⟨⟨ex1,fr1,st1⟩,h1,h⟩:=h;have e1:=iw hC n _ _ _ _ _ _ h1;cases ex1 with
 | exit id=>cases h
 | ret=>cases h
 | normal=>
 simp only [ae] at h;obtain ⟨st2,h2,⟨ex,fr2,st3⟩,h3,h4⟩:=h;obtain ⟨imm1,ps1,x1,c1,fr1',p1,hk1,rfl⟩:=oB h2;have e3:=iw hC n _ _ _ _ _ _ h3;refine fQ (ro:=some b) hX hm n x q7 (fun _=>hst.1) A _ _ _ _ _ g _ w _ h1 ⟨by rw [f2,q9];rfl,f1,hi,hG,⟨[],rfl,List.nodup_nil,fun _ h=>by cases h⟩⟩ fun A1 g1 a1 w1 r1 n1=> ?_;have hE1:g1.E k=some (.cf b):=n1.kp.le.cf _ _ hE;obtain ⟨b1,rr,s1,s2,s3,s4,s5,s6,s7,s8⟩:=r1.inv.H k _ hk1;have hb:b1=b:=by have:=s1.symm.trans hE1;simpa using this
 subst hb;have hA1:A1 b1:=r1.inv.own k _ b1 hk1 s1 (by rw [e1];exact hro);have hready:rr.state= .ready:=by
  rcases s8 with ⟨_,e,_⟩ | ⟨e,_⟩ | ⟨e,_⟩
  ·exact e
  ·cases e
  ·cases e
 have hlt:b1 < w1.heap.size:=lt_of_heap s2;obtain ⟨i2,k2⟩:=r1.inv.turn hk1 hE1 s2 hA1 {rr with state:= .busy} (.loop imm1 ps1 x1 c1 fr1' 1 .normal) (fun b' hb'=>by
  have hb':g1.E k=some (.cf b'):=hb';rw [hE1] at hb';simpa using hb'.symm) ⟨b1,_,hE1,World.putObj_heap_same hlt,s3,s4,s5,s6,s7,.inr (.inl ⟨rfl,rfl⟩)⟩
 refine ⟨_,run_beginRound s2 hready, ?_⟩;refine fQ (ro:=some b1) hX hm n c q8 (fun _=>hst.2) A1 _ _ _ _ _ g1 _ _ _ h3 ⟨r1.mode,r1.fr,i2,r1.G,r1.marks.Dr k2⟩ fun A2 g2 a3 w3 r3 n3=> ?_;have nn:Nx A g {tmps:=(ps.zip xs).foldl (fun t (p,v)=>t.setIfInBounds p v) r.tmps,defers:=[]} w A2 g2 a3 w3:=n1.trans (Nx.trans ⟨fun _ h=>h,k2,fun _ h=> .inl h⟩ n3);have hE3:g2.E k=some (.cf b1):=nn.kp.le.cf _ _ hE;have fin: ∀(s:Nat) (e:Ex) (jump:Option Code),qL k 1 s e st3= .ok st'→(∀q:Loop,LN s e {q with state:=if jump.isNone then .ready else .done,pending:=jump})→v= .bool jump.isNone→
   ∃y w',(Instr.endRound b1 jump).run P w3= .ok y w'∧ ∃x,Ending.returned y= .returned x∧kR X.T A g st' w v x w':=fun s e jump hset hls hv=>by
  obtain ⟨imm3,ps3,x3,c3,fr3,p3,hk3,rfl⟩:=oB hset;obtain ⟨b3,r4,t1,t2,t3,t4,t5,t6,t7,t8⟩:=r3.inv.H k _ hk3;have hb:b3=b1:=by have:=t1.symm.trans hE3;simpa using this
  subst hb;have hA2:A2 b3:=r3.inv.own k _ b3 hk3 t1 (by rw [e3];show st1.ro≤k;rw [e1];exact hro);obtain ⟨i4,k4⟩:=r3.inv.turn hk3 hE3 t2 hA2 {r4 with state:=if jump.isNone then .ready else .done,pending:=jump} (.loop imm3 ps3 x3 c3 fr3 s e) (fun b' hb'=>by
   have hb':g2.E k=some (.cf b'):=hb';rw [hE3] at hb';simpa using hb'.symm) ⟨b3,_,hE3,World.putObj_heap_same (lt_of_heap t2),t3,t4,t5,t6,t7,hls r4⟩
  refine ⟨_,_,run_endRound jump t2,_,rfl,g2,by rw [hv];simp only [R], ?_,nn.kp.trans (k4.sub nn.sub)⟩;exact ⟨i4.F,i4.M,i4.E,i4.H,i4.D,fun id o b q1 q2 q3=>nn.sub b (i4.own id o b q1 q2 q3),fun b hb=>hi.up b (VZ nn.kp.size (by simpa using hb))⟩
 cases ex with
 | normal=>
  simp only [ae,ak,Vk] at h4;obtain ⟨st4,h4,rfl,rfl⟩:=h4;exact fin 0 .normal none h4 (fun _=> .inl ⟨rfl,rfl,rfl,rfl⟩) rfl
 | ret=>
  simp only [ae,ak,Vk] at h4;obtain ⟨st4,h4,rfl,rfl⟩:=h4;exact fin 2 .ret (some .ret) h4 (fun _=> .inr (.inr ⟨rfl,rfl,.inl ⟨rfl,rfl⟩⟩)) rfl
 | exit i=>
  simp only [ae,ak,Vk] at h4;obtain ⟨st4,h4,rfl,rfl⟩:=h4;exact fin 2 (.exit i) (some (.exit i)) h4 (fun _=> .inr (.inr ⟨rfl,rfl,.inr ⟨i,rfl,rfl⟩⟩)) rfl
def FK (P:Program) (T:TT) (G:Nat→Option (List AV)) (f:FuncId) (args:List AV) (v:AV):Prop:=
 ∀A g st w xs,GR g G→bx args=true→RL g args xs→Inv T A g st w→ui P f xs.toArray w (kR T A g st w v)
theorem tn {args:List AV} {v:AV}: ∀{l:List (List AV×AV)},sP args l=some v→(args,v)∈l
 | [],h=>by cases h
 | (a,u)::l,h=>by
  simp only [sP] at h;split at h
  ·rename_i e;cases h;rw [jN (lB 1000) e];exact Vp
  ·exact Vy _ (tn h)
structure zI (P:Program) (E:Env):Prop where
 T:wA P E.T
 F: ∀f fn,E.F f=some fn→P.funcs[f]? =some fn∧(∀args w,(callFunc f args).run P w= .ok (.enter f args) w)∧ ∀c,fn.body=some c→codeOk c=true
 prim:B3 P E.T E.G E.prim
 mixed:P.follows .mixedOrders=true
 memo: ∀f e,e∈E.memo f→FK P E.T E.G f e.1 e.2
 rule: ∀f r args v,E.rule f=some r→r args=some v→FK P E.T E.G f args v:=by intro _ _ _ _ h;cases h
 wrule: ∀f r args st v s,E.wrule f=some r→r args st= .ok (v,s)→s.ro=st.ro∧ ∀A g w xs,GR g E.G→RL g args xs→Inv E.T A g st w→
  (callFunc f xs.toArray).run P w= .ok (.enter f xs.toArray) w∧Calls P f xs.toArray w fun e w'=> ∃x,e= .returned x∧kR E.T A g s w v x w':=by intro _ _ _ _ _ _ h;cases h
theorem JJ {P:Program} {E:Env} (hE:zI P E) {f:FuncId} {args:List AV} {v:AV} (h:E.known f args=some v):FK P E.T E.G f args v:=by
 unfold Env.known at h;split at h
 ·rename_i r hr;exact hE.rule f r args v hr h
 ·exact hE.memo f _ (tn h)
theorem St.gY {i:Nat} {o:Obj}:St.empty.get i≠ .ok o:=by
 intro h;have:=(St.cC.1 h).1;simp [St.empty] at this
theorem tZ {P:Program} {E:Env} (hE:zI P E): ∀n,xq P E.T E.G (caller E n)∧Dx (caller E n)
 | 0=>⟨⟨fun _ _ _ h=>by simp [caller] at h,fun _ _ _ _ _ h=>by simp [caller] at h,fun _ _ _ _ h=>by simp [caller] at h,fun _ _ _ _ _ h=>by simp [caller] at h⟩,⟨fun _ _ _ _ _ h=>by simp [caller] at h,fun _ _ _ _ _ h=>by simp [caller] at h⟩⟩
 | n+1=>by
  obtain ⟨ih,iro⟩:=tZ hE n;have hX: ∀f,Good P ⟨E.T,E.prim,E.imm f,E.G,caller E n⟩:=fun f=>⟨hE.T,ih,hE.prim⟩;refine ⟨⟨?_, ?_, ?_, ?_⟩,⟨?_, ?_⟩⟩
  ·intro f args v h A g st w xs hG hb hr hi;simp only [caller] at h;split at h
   ·rename_i u hu;cases h;exact JJ hE hu A g st w xs hG hb hr hi
   split at h
   ·cases h
   ·rename_i fn hfn;obtain ⟨f1,f2,f3⟩:=hE.F f fn hfn;simp only [ae] at h;obtain ⟨⟨v0,s⟩,h1,v1,h2,h3⟩:=h;split at h3
    ·rename_i hbare;simp only [ak] at h3;subst h3;have hle:PO g ⟨g.F,g.M,fun _=>none⟩:=⟨fun _ _ _ x=>x,fun _ _ x=>x⟩;have hinv:Inv E.T (fun b=>w.heap.size≤b) ⟨g.F,g.M,fun _=>none⟩ St.empty w:=
      ⟨hi.F,hi.M,fun _ _=>rfl,fun _ _ ho=>(St.gY ho).elim,fun _ _ _ _ _ ho=>(St.gY ho).elim,fun _ _ _ ho=>(St.gY ho).elim,fun _ hb=>hb⟩
     refine .inr ⟨f2 _ _,(rI (hX f) hE.mixed f1 f3 h1 (qR hle _ _ hb hr) (fun k cs hk=>⟨(hG k cs hk).1,tP hle _ _ _ (hG k cs hk).1 (hG k cs hk).2⟩) hinv).mono ?_⟩;rintro e w' ⟨x,rfl,g',r1,r2,r3⟩;refine ⟨x,rfl,yF (gb:=⟨g.F,g.M,fun _=>none⟩) hi rfl rfl (fun _=>Iff.rfl) r2 r3 (base:=0) ?_ r1 h2 hbare⟩;rw [BB iro h1];exact Vn _
    ·cases h3
  ·intro f args st v st' h A g w xs hG hr hi;simp only [caller] at h;split at h
   ·split at h
    ·rename_i r hw;exact (hE.wrule f r args st v st' hw h).2 A g w xs hG hr hi
    ·cases h
   ·rename_i fn hfn;obtain ⟨f1,f2,f3⟩:=hE.F f fn hfn;simp only [ae,ak] at h;obtain ⟨⟨v0,s⟩,h1,h2⟩:=h;simp only [Vk] at h2;obtain ⟨rfl,rfl⟩:=h2;exact ⟨f2 _ _,rI (hX f) hE.mixed f1 f3 h1 hr hG hi⟩
  ·intro f args st v h A g w xs hG hr hi;simp only [caller] at h;split at h
   ·cases h
   ·rename_i fn hfn;obtain ⟨f1,f2,f3⟩:=hE.F f fn hfn;simp only [ae] at h;obtain ⟨⟨v0,s⟩,h1,v1,h2,h3⟩:=h;split at h3
    ·rename_i hbare;simp only [ak] at h3;subst h3;have hget: ∀i,(⟨st.h,st.h,st.objs⟩:St).get i=st.get i:=fun _=>rfl;have hinv:Inv E.T (fun b=>w.heap.size≤b) g ⟨st.h,st.h,st.objs⟩ w:=
      ⟨hi.F,hi.M,hi.E,hi.H,hi.D,fun id o b ho _ hro=>by
       have:=(St.cC.1 ho).1;have hro':st.h≤id:=hro;have:id < st.h:=this;omega,fun _ hb=>hb⟩
     refine .inr ⟨f2 _ _,(rI (hX f) hE.mixed f1 f3 h1 hr hG hinv).mono ?_⟩;rintro e w' ⟨x,rfl,g',r1,r2,r3⟩;refine ⟨x,rfl,yF hi rfl rfl (fun _=>Iff.rfl) r2 r3 (base:=st.h) ?_ r1 h2 hbare⟩;rw [BB iro h1];exact Vn _
    ·cases h3
  ·intro k args st v st' h A g w xs l hG hr hi hl;simp only [caller,ae] at h;obtain ⟨o,h1,h2⟩:=h;split at h2
   ·rename_i imm ps x c fr s p;split at h2
    ·rename_i hc;simp only [Vl] at hc;obtain ⟨⟨c1,c2⟩,c3,c4,c5⟩:=hc;have c1:=Vq c1;subst c1;exact Cg (X:=⟨E.T,E.prim,imm,E.G,caller E n⟩) ⟨hE.T,ih,hE.prim⟩ iro hE.mixed h2 ⟨c4,c5⟩ (Vq c3) h1 (VA c2) hG hr hi hl
    ·cases h2
   ·cases h2
  ·intro f args st v s h;simp only [caller] at h;split at h
   ·split at h
    ·rename_i r hw;exact (hE.wrule f r args st v s hw h).1
    ·cases h
   ·simp only [ae,ak] at h;obtain ⟨⟨v0,s0⟩,h1,h2⟩:=h;simp only [Vk] at h2;obtain ⟨rfl,rfl⟩:=h2;exact BB iro h1
  ·intro k args st v s h;simp only [caller,ae] at h;obtain ⟨o,h1,h2⟩:=h;split at h2
   ·split at h2
    ·exact IG (X:=⟨E.T,E.prim,_,E.G,caller E n⟩) iro h2
    ·cases h2
   ·cases h2
namespace Tr
variable {α:Type}
def of:Nat→(Nat→Option α)→Tr α
 | 0,_=> .leaf
 | d+1,f=> .node (f 0) (of d fun k=>f (2 * k+1)) (of d fun k=>f (2 * k+2))
theorem Dj {v:Option α} {l r:Tr α} (n:Nat):(Tr.node v l r).get n=if n=0 then v else if n % 2=1 then l.get (n / 2) else r.get (n / 2 - 1):=by
 rw [get];cases h0:n.beq 0 with
 | true=>rw [if_pos (Vq h0)]
 | false=>
  have:n≠0:=fun e=>by subst e;cases h0
  rw [if_neg this];cases h1:(n % 2).beq 1 with
  | true=>rw [if_pos (Vq h1)]
  | false=>rw [if_neg (fun e=>by rw [e] at h1;cases h1)]
theorem Gj: ∀(d:Nat) (f:Nat→Option α) (n:Nat) (x:α),(of d f).get n=some x→f n=some x
 | 0,_,n,x,h=>by rw [of,sZ] at h;cases h
 | d+1,f,n,x,h=>by
  rw [of,Dj] at h;split at h
  ·rename_i e;subst e;exact h
  ·split at h
   ·have:=Gj d _ _ _ h
    rwa [show 2 * (n / 2)+1=n by omega] at this
   ·have:=Gj d _ _ _ h
    rwa [show 2 * (n / 2 - 1)+2=n by omega] at this
def ri (p:Nat→α→Prop):Tr α→Prop
 | .leaf=>True
 | .node v l r=>(∀x,v=some x→p 0 x)∧ri (fun k=>p (2 * k+1)) l∧ri (fun k=>p (2 * k+2)) r
theorem ly: ∀(t:Tr α) (p:Nat→α→Prop),ri p t→ ∀n x,t.get n=some x→p n x
 | .leaf,p,_,n,x,h=>by rw [sZ] at h;cases h
 | .node v l r,p,hp,n,x,h=>by
  rw [Dj] at h;obtain ⟨h1,h2,h3⟩:=hp;split at h
  ·rename_i e;subst e;exact h1 x h
  ·split at h
   ·have:=ly l _ h2 _ _ h
    rwa [show 2 * (n / 2)+1=n by omega] at this
   ·have:=ly r _ h3 _ _ h
    rwa [show 2 * (n / 2 - 1)+2=n by omega] at this
end Tr
def Ud:TypeDesc→U
 | .bool=> .bool | .int k=> .int k | .string=> .str | .float k=> .flt k
 | .pointer e=> .ptr e | .slice e=> .slice e | .array n e=> .arr n e | .map k e=> .map k e
 | .struct fs=> .struct (fs.toList.map fun f=>(f.offset,f.type))
 | .func .. => .func | .interface ms=> .iface ms.isEmpty | .unsafePointer=> .uptr
 | _=> .other
theorem Pu: ∀d,zc d (Ud d):=by
 intro d;cases d <;> simp [Ud,zc]
def isAgg:TypeDesc→Bool
 | .struct _ | .array .. =>true
 | _=>false
def Sc (l:List Value):Bool:=l.all fun v=>v.oneCell'
def zeroOf (z:Value) (agg:Bool):Option (List AV):=
 match agg with
 | true=>match z with
  | .agg cs=>match Sc cs.toList with
   | true=>match ofConst.ofAll cs.toList with
    | .ok l=>some l
    | .error _=>none
   | false=>none
  | _=>none
 | false=>match z.oneCell' with
  | true=>match ofConst z with
   | .ok v=>some [v]
   | .error _=>none
  | false=>none
theorem IX {z:Value} {agg:Bool} {l:List AV} (h:zeroOf z agg=some l):
  (agg=false→z.oneCell'=true)∧(∀v∈z.cells,v.oneCell'=true)∧(agg=true→ ∃cs,z= .agg cs)∧ ∀g,RL g l z.cells.toList:=by
 unfold zeroOf at h;split at h
 ·split at h
  ·rename_i cs;split at h
   ·rename_i h1;split at h
    ·rename_i l' h2;simp only [Vt] at h;subst h;refine ⟨(fun e=>by cases e),fun v hv=> ?_,fun _=>⟨cs,rfl⟩,fun g=>mj g _ _ h2⟩;have:v∈cs:=hv;exact Wf.1 h1 v (by simpa using this)
    ·cases h
   ·cases h
  ·cases h
 ·split at h
  ·rename_i h1;split at h
   ·rename_i v h2;simp only [Vt] at h;subst h;have hc:z.cells= #[z]:=by cases z <;> first | rfl | simp [Value.oneCell'] at h1
    refine ⟨fun _=>h1,fun u hu=> ?_,(fun e=>by simp at e),fun g=> ?_⟩
    ·rw [hc] at hu;simp only [List.mem_toArray,Vv,List.not_mem_nil,or_false] at hu;rw [hu];exact h1
    ·rw [hc];exact cp (mS g z v h2) fP
   ·cases h
  ·cases h
def O8 (P:Program) (t:TypeId):TypeDesc→Bool
 | .struct fs=> !P.eqGuardType P.depth t&& !P.stoodInHeld t&&fs.toList.all (fun f=>f.name != "_")
 | _=>false
def QR (P:Program) (t:TypeId):Option TI:=
 match P.underlying t with
 | none=>none
 | some d=>match P.info? t with
  | none=>none
  | some f=>match f.zero with
   | none=>none
   | some z=>match zeroOf z (isAgg d) with
    | none=>none
    | some l=>match z.cells.size.beq f.size with
     | false=>none
     | true=>some ⟨Ud d,f.size,f.bytes,l,isAgg d,O8 P t d⟩
theorem MY {P:Program} {t:TypeId} {i:TI} (h:QR P t=some i):iP P t i:=by
 unfold QR at h;split at h
 ·cases h
 rename_i d hd;split at h
 ·cases h
 rename_i f hf;split at h
 ·cases h
 rename_i z hz;split at h
 ·cases h
 rename_i l hl;split at h
 ·cases h
 rename_i hs;simp only [Vt] at h;subst h;obtain ⟨z1,z2,z3,z4⟩:=IX hl;refine ⟨⟨d,hd,Pu d, ?_⟩,fun hc=> ?_,⟨f,hf,rfl,rfl,z,hz,Vq hs,z1,z2,z3,z4⟩⟩
 ·cases d <;> rfl
 ·dsimp only at hc;unfold O8 at hc;split at hc
  ·rename_i fs;simp only [Vl,Bool.not_eq_true',Wf,bne_iff_ne,ne_eq] at hc;refine ⟨hc.1.1,hc.1.2,fun fields he fl hfl=> ?_⟩;have e:=hd.symm.trans he;simp only [Vt,TypeDesc.struct.injEq] at e;subst e;exact hc.2 fl hfl
  ·cases hc
theorem S8 {P:Program} {T:TT} {d:Nat} (h:T=Tr.of d (QR P)):wA P T:=fun _ _ ht=>MY (Tr.Gj d _ _ _ (h ▸ ht))
def QO (P:Program) (f:FuncId) (fn:Func):Prop:=P.funcs[f]? =some fn∧(∀args w,(callFunc f args).run P w= .ok (.enter f args) w)∧ ∀c,fn.body=some c→codeOk c=true
theorem aP {P:Program} {f:FuncId} {fn:Func} (h1:P.funcs[f]? =some fn) (h2: ∀args w,(callFunc f args).run P w= .ok (.enter f args) w) (h3:fn.body.all codeOk=true):
  ∀x,some fn=some x→QO P f x:=by
 intro x hx;simp only [Vt] at hx;subst hx;exact ⟨h1,h2,fun c hc=>by rw [hc] at h3;exact h3⟩
theorem bK {P:Program} {f:FuncId}: ∀x,none=some x→QO P f x:=fun _ h=>by cases h
theorem Tr.aa {α:Type} {p:Nat→α→Prop}:Tr.ri p .leaf:=trivial
theorem Tr.ab {α:Type} {p:Nat→α→Prop} {v:Option α} {l r:Tr α} (h1: ∀x,v=some x→p 0 x) (h2:Tr.ri (fun k=>p (2 * k+1)) l) (h3:Tr.ri (fun k=>p (2 * k+2)) r):Tr.ri p (.node v l r):=⟨h1,h2,h3⟩
end Go.VM
namespace Go.VM
structure N6 (C C':cX):Prop where
 full:C'.full=C.full
 isLook:C'.isLook=C.isLook
 bare: ∀f args v,C.bare f args= .ok v→C'.bare f args= .ok v
 wide: ∀f args st r,C.wide f args st= .ok r→C'.wide f args st= .ok r
 look: ∀f args st v,C.look f args st= .ok v→C'.look f args st= .ok v
 round: ∀k args st r,C.round k args st= .ok r→C'.round k args st= .ok r
theorem sQ {C C':cX} (h:N6 C C') {st:St} {p:dF} {r:AV×Fx} (hr:aC C st p= .ok r):aC C' st p= .ok r:=by
 cases p with
 | val v=>exact hr
 | obj id f=>exact hr
 | both id k f=>exact hr
 | new o f=>exact hr
 | yield k args=>
  simp only [aC,ae,ak] at hr ⊢;obtain ⟨v,h1,rfl⟩:=hr;exact ⟨v,h.round _ _ _ _ h1,rfl⟩
 | call f args=>
  simp only [aC] at hr ⊢;rw [h.full,h.isLook];cases e:(bx (args.map strip)&& !C.full f) with
  | true=>
   rw [e] at hr;simp only [ae,ak] at hr;obtain ⟨v,h1,rfl⟩:=hr;simp only [h.bare _ _ _ h1];rfl
  | false=>
   rw [e] at hr;dsimp only at hr ⊢;cases e':C.isLook f with
   | true=>
    rw [e'] at hr;simp only [ae,ak] at hr;obtain ⟨v,h1,rfl⟩:=hr;simp only [h.look _ _ _ _ h1];rfl
   | false=>
    rw [e'] at hr;simp only [ae,ak] at hr;obtain ⟨v,h1,rfl⟩:=hr;simp only [h.wide _ _ _ _ h1];rfl
def Cx.with (X:Cx) (C:cX):Cx:=⟨X.T,X.prim,X.imm,X.G,C⟩
theorem HP {X:Cx} {C:cX} (h:N6 X.C C) {all:List Oper} {fr:Fr} {st:St} {o:Oper} {r:AV×Fx} (hr:oper X all fr st o= .ok r):oper (X.with C) all fr st o= .ok r:=by
 unfold oper at hr ⊢;split at hr
 ·obtain ⟨p,h1,h2⟩:=ae.1 hr;exact ae.2 ⟨p,h1,sQ h h2⟩
 ·exact hr
theorem nX {X:Cx} {C:cX} (h:N6 X.C C) {all:List Oper} {draw:Bool}: ∀{l:List Oper} {j:Nat} {seen:List (Nat×Fx)} {fr:Fr} {st:St} {r:Fr×St},dH X all draw j seen l fr st= .ok r→dH (X.with C) all draw j seen l fr st= .ok r
 | [],_,_,_,_,_,hr=>hr
 | o::l,j,seen,fr,st,r,hr=>by
  simp only [dH,ae] at hr ⊢;obtain ⟨⟨v,x⟩,h1,h2⟩:=hr;refine ⟨(v,x),HP h h1, ?_⟩;dsimp only at h2 ⊢;split at h2
  ·exact nX h h2
  ·split at h2
   ·exact nX h h2
   ·cases h2
theorem Fb {X:Cx} {C:cX} (h:N6 X.C C) {e:Nat→Option Nat} {all:List Oper} {fr:Fr} {st:St} {o:Oper} {r:AV×Fx} (hr:fK X e all fr st o= .ok r):fK (X.with C) e all fr st o= .ok r:=by
 unfold fK at hr ⊢;split at hr
 ·split at hr
  ·exact hr
  ·obtain ⟨p,h1,h2⟩:=ae.1 hr;exact ae.2 ⟨p,h1,sQ h h2⟩
 ·exact hr
theorem mM {X:Cx} {C:cX} (h:N6 X.C C) {e:Nat→Option Nat} {all:List Oper}: ∀{l:List Oper} {j:Nat} {seen:List (Nat×Fx)} {fr:Fr} {st:St} {r:Fr×St},cS X e all j seen l fr st= .ok r→cS (X.with C) e all j seen l fr st= .ok r
 | [],_,_,_,_,_,hr=>hr
 | o::l,j,seen,fr,st,r,hr=>by
  simp only [cS,ae] at hr ⊢;obtain ⟨⟨v,x⟩,h1,h2⟩:=hr;refine ⟨(v,x),Fb h h1, ?_⟩;dsimp only at h2 ⊢;split at h2
  ·exact mM h h2
  ·split at h2
   ·exact mM h h2
   ·cases h2
theorem u3 {b b':Fr→St→cM (Ex×Fr×St)} (hb: ∀fr st r,b fr st= .ok r→b' fr st= .ok r): ∀{n n':Nat} {fr:Fr} {st:St} {r:Ex×Fr×St},n≤n'→iter b n fr st= .ok r→iter b' n' fr st= .ok r
 | 0,_,_,_,_,_,h=>by simp [iter] at h
 | n+1,0,_,_,_,hn,_=>by omega
 | n+1,n'+1,fr,st,r,hn,h=>by
  simp only [iter,ae] at h ⊢;obtain ⟨⟨ex,fr1,st1⟩,h1,h2⟩:=h;refine ⟨_,hb _ _ _ h1, ?_⟩;cases ex
  ·exact u3 hb (by omega) h2
  ·exact h2
  ·exact h2
theorem gz {X:Cx} {C:cX} (h:N6 X.C C) {n n':Nat} (hn:n≤n'): ∀(c:Code) (fr:Fr) (st:St) (r:Ex×Fr×St),exec X n c fr st= .ok r→exec (X.with C) n' c fr st= .ok r
 | .skip,_,_,_,hr | .label _,_,_,_,hr | .exit _,_,_,_,hr | .ret,_,_,_,hr=>hr
 | .goto _,_,_,_,hr | .refuse _,_,_,_,hr=>by simp [exec] at hr
 | .rangeFunc x ps y c,fr,st,r,hr=>by
  simp only [exec] at hr ⊢;cases hs:fr.strict with
  | true=>rw [hs] at hr;cases hr
  | false=>
   rw [hs] at hr;dsimp only at hr ⊢;obtain ⟨fv,h1,h2⟩:=ae.1 hr;refine ae.2 ⟨fv,h1, ?_⟩;split at h2
   ·obtain ⟨q,h3,h4⟩:=ae.1 h2;exact ae.2 ⟨q,h.wide _ _ _ _ h3,h4⟩
   ·cases h2
 | .scope c,fr,st,r,hr=>gz h hn c fr st r hr
 | .region _ _ _,fr,st,r,hr=>by
  simp only [exec] at hr ⊢;split at hr
  ·rename_i hd;have hd:(_&&(X.with C).imm 4000000)=false:=hd;rw [hd];simp only [ae] at hr ⊢;obtain ⟨a,h1,h2⟩:=hr;exact ⟨a,nX h h1,h2⟩
  ·rename_i hd;have hd:(_&&(X.with C).imm 4000000)=true:=hd;rw [hd];simp only [ae] at hr ⊢;obtain ⟨a,h1,h2⟩:=hr;exact ⟨a,mM h h1,h2⟩
 | .seq a b,fr,st,r,hr=>by
  simp only [exec,ae] at hr ⊢;obtain ⟨⟨ex,fr1,st1⟩,h1,h2⟩:=hr;refine ⟨_,gz h hn a _ _ _ h1, ?_⟩;cases ex
  ·exact gz h hn b _ _ _ h2
  ·exact h2
  ·exact h2
 | .cond c a b,fr,st,r,hr=>by
  simp only [exec,ae] at hr ⊢;obtain ⟨cv,h1,v,h2,h3⟩:=hr;refine ⟨cv,h1,v,h2, ?_⟩;cases v
  ·exact gz h hn b _ _ _ h3
  ·exact gz h hn a _ _ _ h3
 | .block id c,fr,st,r,hr=>by
  simp only [exec,ae] at hr ⊢;obtain ⟨a,h1,h2⟩:=hr;exact ⟨a,gz h hn c _ _ _ h1,h2⟩
 | .loop c,fr,st,r,hr=>by
  simp only [exec] at hr ⊢;exact u3 (fun fr st r h'=>gz h hn c fr st r h') hn hr
theorem H4 {X:Cx} {C:cX} (h:N6 X.C C) {n n':Nat} (hn:n≤n') {fn:Func} {args:List AV} {st:St} {r:AV×St} (hr:body X n fn args st= .ok r):body (X.with C) n' fn args st= .ok r:=by
 unfold body at hr ⊢;split at hr
 ·cases hr
 ·split at hr
  ·cases hr
  ·obtain ⟨a,h1,h2⟩:=ae.1 hr;exact ae.2 ⟨a,gz h hn _ _ _ _ h1,h2⟩
theorem D2 {X:Cx} {C:cX} (h:N6 X.C C) {n n':Nat} (hn:n≤n') {k:Nat} {x c:Code} {fr:Fr} {st:St} {r:AV×St} (hr:pH X n k x c fr st= .ok r):pH (X.with C) n' k x c fr st= .ok r:=by
 simp only [pH,ae] at hr ⊢;obtain ⟨⟨ex,fr1,st1⟩,h1,h2⟩:=hr;refine ⟨_,gz h hn _ _ _ _ h1, ?_⟩;cases ex
 ·simp only [ae] at h2 ⊢;obtain ⟨st2,h3,q,h4,h5⟩:=h2;exact ⟨st2,h3,q,gz h hn _ _ _ _ h4,h5⟩
 ·exact h2
 ·exact h2
theorem fB (E:Env): ∀{n n':Nat},n≤n'→N6 (caller E n) (caller E n')
 | 0,0,_=>⟨rfl,rfl,fun _ _ _ h=>h,fun _ _ _ _ h=>h,fun _ _ _ _ h=>h,fun _ _ _ _ h=>h⟩
 | 0,_+1,_=>⟨rfl,rfl,fun _ _ _ h=>(by simp [caller] at h),fun _ _ _ _ h=>(by simp [caller] at h),fun _ _ _ _ h=>(by simp [caller] at h),fun _ _ _ _ h=>(by simp [caller] at h)⟩
 | n+1,0,h=>by omega
 | n+1,n'+1,hn=>by
  have ih:=fB E (show n≤n' by omega);have hb: ∀f fn args st r,body ⟨E.T,E.prim,E.imm f,E.G,caller E n⟩ n fn args st= .ok r→body ⟨E.T,E.prim,E.imm f,E.G,caller E n'⟩ n' fn args st= .ok r:=fun f fn args st r h=>
   H4 (X:=⟨E.T,E.prim,E.imm f,E.G,caller E n⟩) ih (by omega) h
  refine ⟨rfl,rfl,fun f args v h=> ?_,fun f args st r h=> ?_,fun f args st v h=> ?_,fun k args st r h=> ?_⟩
  ·simp only [caller] at h ⊢;split at h
   ·exact h
   ·split at h
    ·cases h
    ·obtain ⟨a,h1,h2⟩:=ae.1 h;exact ae.2 ⟨a,hb _ _ _ _ _ h1,h2⟩
  ·simp only [caller] at h ⊢;split at h
   ·exact h
   ·obtain ⟨a,h1,h2⟩:=ae.1 h;exact ae.2 ⟨a,hb _ _ _ _ _ h1,h2⟩
  ·simp only [caller] at h ⊢;split at h
   ·cases h
   ·obtain ⟨a,h1,h2⟩:=ae.1 h;exact ae.2 ⟨a,hb _ _ _ _ _ h1,h2⟩
  ·simp only [caller,ae] at h ⊢;obtain ⟨o,h1,h2⟩:=h;refine ⟨o,h1, ?_⟩;cases o with
   | loop imm ps x c fr s p=>
    dsimp only at h2 ⊢;split at h2
    ·exact D2 (X:=⟨E.T,E.prim,imm,E.G,caller E n⟩) ih (by omega) h2
    ·cases h2
   | _=>cases h2
theorem ax {α β:Type} (a:α) (f:α→cM β):((Except.ok a:cM α) >>= f)=f a:=rfl
theorem aI {α:Type} (a:α):(pure a:cM α)= .ok a:=rfl
theorem Fr.KH (fr:Fr) (d:Option Nat) (v:AV):(fr.put d v).n=fr.n:=by
 cases d with
 | none=>rfl
 | some d=>simp only [Fr.put];split <;> rfl
def OS {α:Type}:cM α→Option α
 | .ok a=>some a
 | .error _=>none
structure sy where
 full:FuncId→Bool
 isLook:FuncId→Bool
 bare:FuncId→List AV→Option AV
 wide:FuncId→List AV→St→Option (AV×St)
 look:FuncId→List AV→St→Option AV
 round:Nat→List AV→St→Option (AV×St)
structure Sx where
 T:TT
 prim:FuncId→Option Prim
 imm:TypeId→Bool
 G:Nat→Option (List AV)
 O:sy
section
variable {β:Type}
def bB {α:Type} (a:α) (K:α→Option β):Option β:=K a
abbrev bR (a:St) (K:St→Option β):Option β:=K a
def bU (k:IntKind) (v:AV) (K:Int→Option β):Option β:=
 match v with
 | .int j n=>match decide (j=k) with
  | true=>K n
  | false=>none
 | _=>none
def cJ (v:AV) (K:Bool→Option β):Option β:=
 match v with
 | .bool b=>K b
 | _=>none
def eU (v:AV) (K:List UInt8→Option β):Option β:=
 match v with
 | .str s=>K s
 | _=>none
def anyI (v:AV) (K:Int→Option β):Option β:=
 match v with
 | .int _ n=>K n
 | _=>none
def zH (v:AV) (K:List AV→Option β):Option β:=
 match v with
 | .agg cs=>K cs
 | _=>none
def gK (v:AV) (K:List AV→Option β):Option β:=
 match v with
 | .tup cs=>K cs
 | _=>none
def bE (l:List AV) (K:AV→List AV→Option β):Option β:=
 match l with
 | v::l=>K v l
 | []=>none
def cj (l:List AV) (K:Option β):Option β:=
 match l with
 | []=>K
 | _:: _=>none
def dJ (b:Bool) (K:Option β):Option β:=
 match b with
 | true=>K
 | false=>none
def bD (b:Bool) (x y:Option β):Option β:=
 match b with
 | true=>x
 | false=>y
def af (v:AV) (K:Option β):Option β:=dJ (one v) K
def wN:List AV→Option β→Option β
 | [],K=>K
 | v::l,K=>af v (wN l K)
def cE (cs:List AV) (off:Nat) (K:AV→Option β):Option β:=
 match cs[off]? with
 | some v=>K v
 | none=>none
def NZ (b:Bool) (z v:AV) (K:AV→Option β):Option β:=
 match z with
 | .int k _=>bU k v fun n=>match b with
  | true=>bB n fun n=>K (.int k n)
  | false=>K (.int k n)
 | .bool _=>cJ v fun b=>K (.bool b)
 | .str _=>eU v fun s=>match b with
  | true=>bB s fun s=>K (.str s)
  | false=>K (.str s)
 | _=>K v
def Mx:List AV→List AV→(List AV→Option β)→Option β
 | [],cs,K=>cj cs (K [])
 | z::zs,cs,K=>bE cs fun v l=>NZ false z v fun v'=>Mx zs l fun l'=>K (v'::l')
def CS (b:Bool) (T:TT) (t:TypeId) (v:AV) (K:AV→Option β):Option β:=
 match T.get t with
 | some i=>match i.agg with
  | true=>match i.zero.length.ble 24 with
   | true=>zH v fun cs=>Mx i.zero cs fun cs'=>K (.agg cs')
   | false=>K v
  | false=>match i.zero with
   | [z]=>NZ b z v K
   | _=>K v
 | none=>K v
def Cb:Op→Bool
 | .binOp op _ _ _ _=>match op with
  | .eql=>false
  | .neq=>false
  | .lss=>false
  | .leq=>false
  | .gtr=>false
  | .geq=>false
  | _=>true
 | .unOp .. =>true
 | .convert .. =>true
 | .slice .. =>true
 | .call c=>match c.callee with
  | .builtin .min=>true
  | .builtin .max=>true
  | _=>false
 | _=>false
def tM (T:TT) (t:TypeId) (K:TI→Option β):Option β:=
 match T.get t with
 | some i=>K i
 | none=>none
def Bp (agg:Bool) (v:AV) (K:List AV→Option β):Option β:=
 match agg with
 | true=>zH v K
 | false=>af v (K [v])
def aJ (v:AV) (K:AV→Option β):Option β:=
 match fit v with
 | .ok v'=>K v'
 | .error _=>none
def KN:List AV→(List AV→Option β)→Option β
 | [],K=>K []
 | v::l,K=>aJ v fun v'=>KN l fun l'=>K (v'::l')
def HM (agg:Bool) (v:AV) (K:AV→Option β):Option β:=
 match agg with
 | true=>zH v fun cs=>wN cs (KN cs fun cs'=>K (.agg cs'))
 | false=>aJ v K
def lZ (agg:Bool):List AV→(List AV→Option β)→Option β
 | [],K=>K []
 | v::l,K=>HM agg v fun v'=>lZ agg l fun l'=>K (v'::l')
def lb (z:Nat) (l:List AV):Bool:=l.all fun v=>v.cells.length.beq z
def Rl (cs:List AV) (off:Nat) (new:List AV):List AV:=cO cs off new
def St.add (st:St) (o:Obj):St:=(st.new o).2
def q0:Fx:=⟨[],.kept⟩
abbrev Kv (β:Type):=AV→St→Fx→Option β
def aH {α:Type} (x:Option α) (K:α→Option β):Option β:=
 match x with
 | some a=>K a
 | none=>none
def lM {α:Type} (r:Sum α β) (f:α→Option β):Option β:=
 match r with
 | .inl a=>f a
 | .inr r=>some r
def CU (size:Nat) (agg:Bool) (a:AV) (st:St):Option (AV×List Nat):=
 match a with
 | .ip cells=>match cB size agg cells with
  | .ok v=>some (v,[])
  | .error _=>none
 | .mp id off=>match st.get id with
  | .ok (.cells _ cs)=>match cB size agg (cs.drop off) with
   | .ok v=>some (v,[id])
   | .error _=>none
  | _=>none
 | .gp k n off=>match st.get k with
  | .ok (.row m _ _ cs)=>match n.beq m with
   | true=>match cB size agg (cs.drop off) with
    | .ok v=>some (v,[k])
    | .error _=>none
   | false=>none
  | _=>none
 | _=>none
def ay (size:Nat) (agg:Bool) (a:AV) (st:St) (K:AV→List Nat→Option β):Option β:=aH (CU size agg a st) fun p=>K p.1 p.2
abbrev Out:=AV×St×Fx
def ma (st:St) (id:Nat) (o:Obj) (v:AV) (rd:List Nat):Option Out:=
 match st.ro.ble id with
 | true=>some (v,st.put id o,⟨rd,.wrote id o⟩)
 | false=>none
def vg (st:St) (o:Obj) (f:Nat→AV):Option Out:=some (f st.h,st.add o,⟨[],.made st.h o⟩)
def Af (O:sy) (f:FuncId) (args:List AV) (st:St):Option Out:=
 match bx (args.map strip)&& !O.full f with
 | true=>match O.bare f (args.map strip) with
  | some v=>some (v,st,q0)
  | none=>none
 | false=>match O.isLook f with
  | true=>match O.look f (args.map strip) st with
   | some v=>some (v,st,⟨[],.looked⟩)
   | none=>none
  | false=>match O.wide f args st with
   | some p=>some (p.1,p.2,⟨[],.all st p.2⟩)
   | none=>none
def JS (O:sy) (k:Nat) (args:List AV) (st:St):Option Out:=
 match O.round k args st with
 | some p=>some (p.1,p.2,⟨[],.all st p.2⟩)
 | none=>none
def pZ (O:sy) (p:cM dF) (st:St):Option Out:=
 match p with
 | .ok (.val v)=>some (v,st,q0)
 | .ok (.obj id f)=>match st.get id with
  | .ok o=>match f o with
   | .ok (v,none)=>some (v,st,⟨[id],.kept⟩)
   | .ok (v,some o')=>ma st id o' v [id]
   | .error _=>none
  | .error _=>none
 | .ok (.both id k f)=>match st.get id with
  | .ok o=>match k o with
   | .ok none=>match f o none with
    | .ok v=>some (v,st,⟨[],.looked⟩)
    | .error _=>none
   | .ok (some j)=>match st.ro.ble j with
    | true=>match st.get j with
     | .ok o'=>match f o (some o') with
      | .ok v=>some (v,st,⟨[],.looked⟩)
      | .error _=>none
     | .error _=>none
    | false=>none
   | .error _=>none
  | .error _=>none
 | .ok (.new o f)=>vg st o f
 | .ok (.call f args)=>Af O f args st
 | .ok (.yield k args)=>JS O k args st
 | .error _=>none
def nN (x:Option Out) (K:Kv β):Option β:=aH x fun r=>K r.1 r.2.1 r.2.2
def made (st:St) (o:Obj) (f:Nat→AV) (K:Kv β):Option β:=nN (vg st o f) K
def cK (O:sy) (p:cM dF) (st:St) (K:Kv β):Option β:=nN (pZ O p st) K
def al (O:sy) (f:FuncId) (args:List AV) (st:St) (K:Kv β):Option β:=nN (Af O f args st) K
def F8 (O:sy) (size:Nat) (a v:AV) (cs:List AV) (st:St):Option Out:=
 match a with
 | .mp id off=>match cs.length.beq size with
  | true=>match st.get id with
   | .ok (.cells t old)=>match (off+cs.length).ble old.length with
    | true=>ma st id (.cells t (Rl old off cs)) undef [id]
    | false=>none
   | _=>none
  | false=>none
 | .gp k m off=>pZ O (pT ⟨.other,size,0,[],false,false⟩ k m off v) st
 | _=>none
def KF (t:TypeId) (z:List AV) (nm:Nat) (st:St):Option Out:=
 match st.get nm with
 | .ok .yW=>ma st nm (.cells t z) (.mp nm 0) [nm]
 | _=>none
def ER (t:TypeId) (z:List AV) (nm:Nat) (st:St) (K:Kv β):Option β:=nN (KF t z nm st) K
def aD (O:sy) (size:Nat) (a v:AV) (cs:List AV) (st:St) (K:Kv β):Option β:=nN (F8 O size a v cs st) K
def SU (off:Nat) (a:AV):Option AV:=
 match a with
 | .ip cells=>some (.ip (cells.drop off))
 | .mp id o=>some (.mp id (o+off))
 | .gp k n o=>some (.gp k n (o+off))
 | _=>none
def fU (off:Nat) (a:AV) (K:AV→Option β):Option β:=aH (SU off a) K
def lj (i:Int) (n:Nat) (K:Nat→Option β):Option β:=
 match i with
 | .ofNat k=>dJ (k.blt n) (K k)
 | .negSucc _=>none
def fX (i:Int) (n:Nat) (K:Nat→Option β):Option β:=
 match i with
 | .ofNat k=>dJ (k.ble n) (K k)
 | .negSucc _=>none
def B6:List AV→Nat→Option AV
 | [],_=>none
 | v:: _,0=>some v
 | _::l,n+1=>B6 l n
def ow (i:Int) (n:Nat):Option Nat:=
 match i with
 | .ofNat k=>match k.blt n with
  | true=>some k
  | false=>none
 | .negSucc _=>none
def H7 (z:Nat) (x:AV) (i:Int) (st:St):Option (AV×List Nat):=
 match x with
 | .sl sz es _=>match sz.beq z with
  | true=>match ow i es.length with
   | some k=>match B6 es k with
    | some v=>some (.ip v.cells,[])
    | none=>none
   | none=>none
  | false=>none
 | .ms id off sz len _=>match sz.beq z with
  | true=>match ow i len with
   | some k=>some (.mp id (off+k * sz),[])
   | none=>none
  | false=>none
 | .gs k sz n=>match sz.beq z with
  | true=>match ow i n with
   | some j=>match st.get k with
    | .ok (.grow m _ z' es)=>match n.beq m&&z'.beq sz with
     | true=>match j.blt es.length with
      | true=>match B6 es j with
       | some v=>some (.ip v.cells,[k])
       | none=>none
      | false=>some (.gp k n (j * sz),[k])
     | false=>none
    | .ok (.row m _ z' _)=>match n.beq m&&z'.beq sz with
     | true=>some (.gp k n (j * sz),[k])
     | false=>none
    | _=>none
   | none=>none
  | false=>none
 | _=>none
def eM (z:Nat) (x:AV) (i:Int) (st:St) (K:AV→List Nat→Option β):Option β:=aH (H7 z x i st) fun p=>K p.1 p.2
def Tq (z len:Nat) (x:AV) (i:Int) (K:AV→Option β):Option β:=
 lj i len fun k=>fU (k * z) x K
def oP (s:List UInt8) (i:Int) (K:UInt8→Option β):Option β:=
 lj i s.length fun k=>match s[k]? with
  | some b=>K b
  | none=>none
def UE (lo:Option Int) (h:Nat) (K:Nat→Option β):Option β:=
 match lo with
 | some l=>fX l h K
 | none=>K 0
def UC (hi:Option Int) (m d:Nat) (K:Nat→Option β):Option β:=
 match hi with
 | some h=>fX h m K
 | none=>K d
def su (hi:Option Int) (m d:Nat):Option Nat:=
 match hi with
 | some h=>match h with
  | .ofNat k=>match k.ble m with
   | true=>some k
   | false=>none
  | .negSucc _=>none
 | none=>some d
def kK (z:Nat) (x:AV) (lo hi mx:Option Int):Option AV:=
 match x,mx with
 | .aG,mx=>match su mx 0 0 with
  | some m=>match su hi m 0 with
   | some h=>match su lo h 0 with
    | some _=>some .aG
    | none=>none
   | none=>none
  | none=>none
 | .es,mx=>match su mx 0 0 with
  | some m=>match su hi m 0 with
   | some h=>match su lo h 0 with
    | some _=>some .es
    | none=>none
   | none=>none
  | none=>none
 | .ms id off sz len cap,mx=>match sz.beq z with
  | true=>match su mx cap cap with
   | some m=>match su hi m len with
    | some h=>match su lo h 0 with
     | some l=>match h.ble m with
      | true=>some (.ms id (off+l * sz) sz (h - l) (m - l))
      | false=>none
     | none=>none
    | none=>none
   | none=>none
  | false=>none
 | .sl sz es p,none=>match sz.beq z with
  | true=>match su hi es.length es.length with
   | some h=>match su lo h 0 with
    | some l=>match h.beq es.length,p with
     | true,.shut=>some (.sl sz (es.drop l) .shut)
     | true,.own k=>match l.beq 0 with
      | true=>some (.sl sz es (.own k))
      | false=>some (.sl sz (es.drop l) .wide)
     | _,_=>some (.sl sz ((es.take h).drop l) .wide)
    | none=>none
   | none=>none
  | false=>none
 | .sl sz es _,some m=>match sz.beq z with
  | true=>match su (some m) es.length 0 with
   | some m=>match su hi m m with
    | some h=>match su lo h 0 with
     | some l=>some (.sl sz ((es.take h).drop l) (match m.beq h with | true=> .shut | false=> .wide))
     | none=>none
    | none=>none
   | none=>none
  | false=>none
 | _,_=>none
def eR (z:Nat) (x:AV) (lo hi mx:Option Int) (K:AV→Option β):Option β:=aH (kK z x lo hi mx) K
def SN (x:AV):Option Nat:=
 match x with
 | .aG=>some 0
 | .sl _ e _=>some e.length
 | .ms _ _ _ len _=>some len
 | .gs _ _ n=>some n
 | .es=>some 0
 | _=>none
def fJ (x:AV) (K:Nat→Option β):Option β:=aH (SN x) K
def mU (x:AV) (K:List AV→Option β):Option β:=
 match og x with
 | some l=>K l
 | none=>none
def uY (z b:Nat) (e:TypeId) (s:AV) (new:List AV) (st:St):Option Out:=
 match new with
 | []=>match s with
  | .aG=>some (.aG,st,q0)
  | .sl z es p=>some (.sl z es p,st,q0)
  | .es=>some (.es,st,q0)
  | _=>none
 | _:: _=>match s with
  | .aG=>match cZ new.length ⟨.other,z,b,[],false,false⟩ with
   | true=>vg st (.tok new.length e) fun k=> .sl z new (.own k)
   | false=>none
  | .sl y es p=>match cZ (es.length+new.length) ⟨.other,z,b,[],false,false⟩&&y.beq z with
   | true=>match p with
    | .shut=>vg st (.tok (es.length+new.length) e) fun k=> .sl y (es++new) (.own k)
    | .own k=>match st.get k with
     | .ok (.tok n e')=>match n.beq es.length&&e'.beq e with
      | true=>ma st k (.tok (es.length+new.length) e) (.sl y (es++new) (.own k)) [k]
      | false=>none
     | _=>none
    | .wide=>none
   | false=>none
  | .es=>match cZ new.length ⟨.other,z,b,[],false,false⟩ with
   | true=>vg st (.tok new.length e) fun k=> .sl z new (.own k)
   | false=>none
  | _=>none
def eD (z b:Nat) (e:TypeId) (s:AV) (new:List AV) (st:St) (K:Kv β):Option β:=nN (uY z b e s new st) K
def Ti (u:U) (x y:AV):Option Bool:=
 match u,x,y with
 | .ptr _,.nilp,.nilp=>some true
 | .ptr _,.nilp,.ip _=>some false
 | .ptr _,.ip _,.nilp=>some false
 | .ptr _,.nilp,.mp .. =>some false
 | .ptr _,.mp ..,.nilp=>some false
 | .slice _,.aG,.aG=>some true
 | .slice _,.aG,.sl .. =>some false
 | .slice _,.sl ..,.aG=>some false
 | .slice _,.aG,.ms .. =>some false
 | .slice _,.ms ..,.aG=>some false
 | .slice _,.aG,.es=>some false
 | .slice _,.es,.aG=>some false
 | .map ..,.nilm,.nilm=>some true
 | .map ..,.nilm,.mm _=>some false
 | .map ..,.mm _,.nilm=>some false
 | .func,.nilfn,.nilfn=>some true
 | .func,.nilfn,.fn .. =>some false
 | .func,.fn ..,.nilfn=>some false
 | _,_,_=>none
def K1 (u:U) (x y:AV) (K:Bool→Option β):Option β:=aH (Ti u x y) K
def notNil:AV→Bool
 | .ip _=>true
 | .mp .. =>true
 | .gp .. =>true
 | .fn (.func _) _ _=>true
 | _=>false
def Ku (x:AV) (K:Option β):Option β:=dJ (notNil x) K
def Hs (prim:FuncId→Option Prim) (f:AV) (args:List AV):cM dF:=
 match f with
 | .fn (.func g) first cap=>match prim g with
  | some q=>dm q (first++args++cap)
  | none=> .ok (.call g (first++args++cap))
 | .yld k=> .ok (.yield k args)
 | _=> .error "call: what?"
def jf (O:sy) (prim:FuncId→Option Prim) (f:AV) (args:List AV) (st:St) (K:Kv β):Option β:=nN (pZ O (Hs prim f args) st) K
def AU (place:Nat→Option (Nat×Nat)) (cells:List AV):List (Nat×List AV)→(List AV→Option β)→Option β
 | [],K=>K cells
 | (i,cs)::l,K=>
  match place i with
  | none=>none
  | some (off,size)=>dJ (cs.length.beq size&&(off+size).ble cells.length) (AU place (cO cells off cs) l K)
abbrev PF:=List (Nat×AV)
def PF.get:PF→Nat→Option AV
 | [],_=>none
 | (i,v)::l,j=>match i.beq j with
  | true=>some v
  | false=>PF.get l j
def ev (G:Nat→Option (List AV)) (p:PF) (x:Operand) (K:AV→Option β):Option β:=
 match x with
 | .tmp t=>match PF.get p t with
  | some v=>K v
  | none=>none
 | .const v=>match ofConst v with
  | .ok v=>K v
  | .error _=>none
 | .global g=>match G g with
  | some cs=>K (.ip cs)
  | none=>none
 | .func g=>K (.fn (.func g) [] [])
def Se (G:Nat→Option (List AV)) (p:PF):List Operand→(List AV→Option β)→Option β
 | [],K=>K []
 | x::l,K=>ev G p x fun v=>Se G p l fun vs=>K (v::vs)
def TF (G:Nat→Option (List AV)) (p:PF) (x:Option Operand) (K:Option Int→Option β):Option β:=
 match x with
 | none=>K none
 | some x=>ev G p x fun v=>anyI v fun n=>K (some n)
def Rp (T:TT) (G:Nat→Option (List AV)) (p:PF) (ty:Nat→Option TypeId):List (Nat×Operand)→(List (Nat×List AV)→Option β)→Option β
 | [],K=>K []
 | (i,x)::l,K=>match ty i with
  | none=>none
  | some t=>tM T t fun ti=>ev G p x fun v=>Bp ti.agg v fun cs=>Rp T G p ty l fun r=>K ((i,cs)::r)
def FE (T:TT):List (Nat×TypeId)→(List (Nat×Nat)→Option β)→Option β
 | [],K=>K []
 | (o,t)::l,K=>tM T t fun i=>FE T l fun r=>K ((o,i.size)::r)
def lD:U→Bool
 | .ptr _=>true
 | .slice _=>true
 | .map .. =>true
 | .func=>true
 | _=>false
def Iz (op:BinOp) (a:AV):Option AV:=Mo op a
def SL (T:TT) (op:BinOp) (t:TypeId) (x y:AV) (K:AV→Option β):Option β:=
 tM T t fun i=>match lD i.und,op with
  | true,.eql=>K1 i.und x y fun b=>K (.bool b)
  | true,.neq=>K1 i.und x y fun b=>K (.bool !b)
  | _,_=>match op,i.und with
   | .add,.str=>eU x fun a=>eU y fun b=>dJ ((a.length+b.length).ble 9223372036854775807) (K (.str (a++b)))
   | .quo,.int k=>bU k x fun a=>bU k y fun b=>dJ (!(decide (b=0))) (K (.int k (k.wrap (a.tdiv b))))
   | .rem,.int k=>bU k x fun a=>bU k y fun b=>dJ (!(decide (b=0))) (K (.int k (a.tmod b)))
   | .shl,.int k=>bU k x fun a=>anyI y fun b=>dJ (!(decide (b < 0))) (K (.int k (k.wrap (a * 2 ^ (min b.toNat k.bits)))))
   | .shr,.int k=>bU k x fun a=>anyI y fun b=>dJ (!(decide (b < 0))) (K (.int k (a.fdiv (2 ^ (min b.toNat k.bits)))))
   | _,_=>aH (OS (binOp T op t x y)) K
def NL (S:Sx) (o:Op) (p:PF) (st:St) (K:Kv β):Option β:=
 match o with
 | .move x | .assign x=>ev S.G p x fun v=>K v st q0
 | .pick c a b=>ev S.G p c fun c=>cJ c fun c=>bD c (ev S.G p a fun v=>K v st q0) (ev S.G p b fun v=>K v st q0)
 | .alloc t=>tM S.T t fun i=>made st (.cells t i.zero) (fun k=> .mp k 0) K
 | .box t x=>tM S.T t fun i=>ev S.G p x fun v=>Bp i.agg v fun cs=>dJ (cs.length.beq i.size) (wN cs (match S.imm t with
  | true=>KN cs fun cs'=>K (.ip cs') st q0
  | false=>made st (.cells t cs) (fun k=> .mp k 0) K))
 | .build t parts=>tM S.T t fun i=>match i.und with
  | .struct fs=>Rp S.T S.G p (fun k=>(fs[k]?).map (·.2)) parts.toList fun ps=>FE S.T fs fun sz=>AU (fun k=>sz[k]?) i.zero ps fun cs=>K (.agg cs) st q0
  | .arr _ e=>Rp S.T S.G p (fun _=>some e) parts.toList fun ps=>tM S.T e fun ie=>AU (fun k=>some (k * ie.size,ie.size)) i.zero ps fun cs=>K (.agg cs) st q0
  | _=>none
 | .buildSlice t len parts=>tM S.T t fun i=>match i.und with
  | .slice e=>tM S.T e fun ie=>Rp S.T S.G p (fun _=>some e) parts.toList fun ps=>dJ ((len * ie.size).ble 16777216&&Nat.ble 1 ie.size) (AU (fun k=>some (k * ie.size,ie.size)) (zeros ie.zero len) ps fun cs=>wN cs (match group ie.size ie.agg len cs with
   | .ok vs=>lZ ie.agg vs fun vs'=>K (.sl ie.size vs' .shut) st q0
   | .error _=>none))
  | _=>none
 | .makeSlice t l c=>ev S.G p l fun l=>ev S.G p c fun c=>cK S.O (oK S.T t l c) st K
 | .load t a=>tM S.T t fun i=>ev S.G p a fun a=>ay i.size i.agg a st fun v rd=>K v st ⟨rd,.kept⟩
 | .store t a x=>tM S.T t fun i=>ev S.G p a fun a=>ev S.G p x fun v=>Bp i.agg v fun cs=>wN cs (aD S.O i.size a v cs st K)
 | .nilCheck x=>ev S.G p x fun v=>Ku v (K v st q0)
 | .binOp op t x y _=>ev S.G p x fun a=>ev S.G p y fun b=>match Q8 y b&&Lm S.T t with
  | true=>aH (Iz op a) fun v=>K v st q0
  | false=>SL S.T op t a b fun v=>K v st q0
 | .unOp op _ x=>ev S.G p x fun x=>aH (OS (unOp op x)) fun v=>K v st q0
 | .convert s d x=>ev S.G p x fun x=>cK S.O (sA S.T s d x) st K
 | .makeInterface t x=>tM S.T t fun i=>match i.und with
  | .iface _ | .other=>none
  | _=>ev S.G p x fun v=>K (.iface t v) st q0
 | .makeFunc f first cap=>Se S.G p first.toList fun a=>Se S.G p cap.toList fun c=>K (.fn f a c) st q0
 | .makeMap _ none=>made st (.map []) (fun k=> .mm k) K
 | .slice t x lo hi mx=>match mx,hi with
  | some _,none=>none
  | _,_=>tM S.T t fun i=>ev S.G p x fun x=>TF S.G p lo fun lo=>TF S.G p hi fun hi=>TF S.G p mx fun mx=>match i.und with
   | .str=>eU x fun s=>match mx with
    | none=>UC hi s.length s.length fun h=>UE lo h fun l=>K (.str ((s.take h).drop l)) st q0
    | some _=>none
   | .slice e=>tM S.T e fun ie=>eR ie.size x lo hi mx fun v=>K v st q0
   | _=>none
 | .fieldAddr t x f=>tM S.T t fun i=>match i.und with
  | .struct fs=>match fs[f]? with
   | some (off,ft)=>tM S.T ft fun fi=>match fi.size with
    | 0=>none
    | _+1=>ev S.G p x fun a=>fU off a fun a'=>K a' st q0
   | none=>none
  | _=>none
 | .field t x f=>ev S.G p x fun x=>aH (OS (field S.T t x f)) fun v=>K v st q0
 | .indexAddr t x i=>tM S.T t fun ti=>ev S.G p x fun x=>ev S.G p i fun i=>anyI i fun i=>match ti.und with
  | .slice e=>tM S.T e fun ie=>eM ie.size x i st fun a rd=>K a st ⟨rd,.kept⟩
  | .arr len e=>tM S.T e fun ie=>Tq ie.size len x i fun a=>K a st q0
  | _=>none
 | .index t x i=>tM S.T t fun ti=>ev S.G p x fun x=>ev S.G p i fun i=>match ti.und with
  | .str=>eU x fun s=>anyI i fun i=>oP s i fun b=>K (.int .u8 b.toNat) st q0
  | _=>aH (OS (xg S.T t x i)) fun v=>K v st q0
 | .lookup t x k ok=>ev S.G p x fun x=>ev S.G p k fun k=>cK S.O (iR S.T t x k ok) st K
 | .mapUpdate t m k v | .insert t m k v=>ev S.G p m fun m=>ev S.G p k fun k=>ev S.G p v fun v=>cK S.O (oD S.T t m k v) st K
 | .range t x=>ev S.G p x fun x=>tM S.T t fun i=>match i.und with
  | .str=>eU x fun s=>made st (.sit s 0) (fun k=> .mp k 0) K
  | _=>none
 | .next x true=>ev S.G p x fun x=>cK S.O (An x) st K
 | .extract x i=>ev S.G p x fun x=>gK x fun vs=>cE vs i fun v=>K v st q0
 | .call c=>Se S.G p c.args.toList fun args=>match c.callee with
  | .builtin b=>match b,c.argTypes.toList,args with
   | .len,t:: _,[x]=>tM S.T t fun i=>match i.und with
    | .str=>eU x fun s=>K (.int .i64 s.length) st q0
    | .slice _=>fJ x fun n=>K (.int .i64 n) st q0
    | _=>cK S.O (zw S.T t x) st K
   | .append,[t,xt],[s,x]=>tM S.T t fun i=>tM S.T xt fun xi=>match i.und,F7 xi.und with
    | .slice e,true=>tM S.T e fun ie=>mU x fun new=>match S.imm (1000000+t) with
     | true=>cK S.O (qJ ie e s new) st K
     | false=>match S.imm (2000000+t) with
     | true=>cK S.O (qz ie e s new) st K
     | false=>match S.imm (3000000+t) with
     | true=>cK S.O (oe ie e s new) st K
     | false=>lZ ie.agg new fun new'=>dJ (lb ie.size new') (eD ie.size ie.bytes e s new' st K)
    | _,_=>none
   | b,ts,args=>cK S.O (fh S.T S.imm b ts args) st K
  | .value f=>ev S.G p f fun f=>jf S.O S.prim f args st K
  | .invoke .. =>none
 | _=>none
def B8 (all:List Oper) (p:PF) (g:Option (Nat×Bool)) (yes no:PF→Option β):Option β:=
 match g with
 | none=>yes p
 | some (j,want)=>match (all[j]?).bind (·.dst) with
  | some d=>match PF.get p d with
   | some v=>match v with
    | .bool b=>match want with
     | true=>bD b (yes ((d,.bool true)::p)) (no ((d,.bool false)::p))
     | false=>bD b (no ((d,.bool true)::p)) (yes ((d,.bool false)::p))
    | _=>no p
   | none=>none
  | none=>none
def xT (N:Nat) (d:Option Tmp) (v:AV) (p:PF) (K:PF→Option β):Option β:=
 match d with
 | none=>K p
 | some d=>match d.blt N with
  | true=>K ((d,v)::p)
  | false=>none
def oz (ops:List Oper) (j:Nat) (x:Fx):List (Nat×Fx)→Bool
 | []=>true
 | (i,y)::l=>(behind ops (j+1) j i||apart y x)&&oz ops j x l
def Cz (S:Sx) (N:Nat) (all:List Oper) (draw:Bool):(j:Nat)→(seen:List (Nat×Fx))→List Oper→PF→St→(PF→St→Option β)→Option β
 | _,_,[],p,st,K=>K p st
 | j,seen,o::l,p,st,K=>B8 all p o.guard
  (fun p=>NL S o.op p st fun v st' x=>CS (Cb o.op) S.T o.type v fun v=>match draw with
   | false=>xT N o.dst v p fun p=>Cz S N all draw (j+1) seen l p st' K
   | true=>dJ (oz all j x seen) (xT N o.dst v p fun p=>Cz S N all draw (j+1) ((j,x)::seen) l p st' K))
  (fun p=>xT N o.dst undef p fun p=>Cz S N all draw (j+1) seen l p st K)
def SS (S:Sx) (e:Nat→Option Nat) (o:Oper) (p:PF) (st:St) (K:Kv β):Option β:=
 match qF e o with
 | some (t,nm)=>tM S.T t fun i=>ER t i.zero nm st K
 | none=>NL S o.op p st K
def rh (S:Sx) (N:Nat) (e:Nat→Option Nat) (all:List Oper):(j:Nat)→(seen:List (Nat×Fx))→List Oper→PF→St→(PF→St→Option β)→Option β
 | _,_,[],p,st,K=>K p st
 | j,seen,o::l,p,st,K=>B8 all p o.guard
  (fun p=>SS S e o p st fun v st' x=>CS (Cb o.op) S.T o.type v fun v=>
   dJ (oz all j x seen) (xT N o.dst v p fun p=>rh S N e all (j+1) ((j,x)::seen) l p st' K))
  (fun p=>xT N o.dst undef p fun p=>rh S N e all (j+1) seen l p st K)
def Rb (st:St):List Nat→(St→Option β)→Option β
 | [],K=>K st
 | _::l,K=>bR (st.add .yW) fun st=>Rb st l K
end
def mI {σ β:Type} (F:σ→Option (Sum σ β)):Nat→σ→Option β
 | 0,_=>none
 | n+1,s=>match F s with
  | some (.inl s')=>mI F n s'
  | some (.inr r)=>some r
  | none=>none
open Classical in
noncomputable def bn {σ β:Type} (F:σ→Option (Sum σ β)) (s:σ):Option β:=
 if h: ∃r n,mI F n s=some r then some h.choose else none
structure Lv where
 falls:Bool
 outs:List Nat
 rets:Bool
def leaves:Code→Lv
 | .skip=>⟨true,[],false⟩
 | .label _=>⟨true,[],false⟩
 | .region .. =>⟨true,[],false⟩
 | .seq a b=>let x:=leaves a;let y:=leaves b
  match x.falls with
  | true=>⟨y.falls,x.outs++y.outs,x.rets||y.rets⟩
  | false=>x
 | .cond _ a b=>let x:=leaves a;let y:=leaves b;⟨x.falls||y.falls,x.outs++y.outs,x.rets||y.rets⟩
 | .block id c=>let x:=leaves c;⟨x.falls||sK id x.outs,x.outs.filter fun i=> !i.beq id,x.rets⟩
 | .loop c=>let x:=leaves c;⟨false,x.outs.eraseDups,x.rets⟩
 | .scope c=>leaves c
 | .rangeFunc _ _ _ c=>let x:=leaves c;⟨true,x.outs.eraseDups,x.rets⟩
 | .exit i=>⟨false,[i],false⟩
 | .ret=>⟨false,[],true⟩
 | _=>⟨false,[],false⟩
def Gd (n:Nat):List Nat→Nat
 | []=>0
 | m::l=>match n.beq m with
  | true=>Gd n l+1
  | false=>Gd n l
section
variable {β:Type}
def iV (p:PF):List Nat→List Nat
 | []=>[]
 | i::l=>match PF.get p i with
  | some _=>i::iV p l
  | none=>iV p l
def rA (live:List Nat):List Nat→List Nat
 | []=>[]
 | i::l=>match sK i live with
  | true=>i::rA live l
  | false=>rA live l
def getAll (p:PF):List Nat→(List AV→Option β)→Option β
 | [],K=>K []
 | i::l,K=>match PF.get p i with
  | some v=>getAll p l fun vs=>K (v::vs)
  | none=>none
def erase (ws:List Nat):PF→PF
 | []=>[]
 | (i,v)::l=>match sK i ws with
  | true=>erase ws l
  | false=>(i,v)::erase ws l
def Ks:List (Nat×TypeId)→Nat→Option TypeId
 | [],_=>none
 | (i,t)::l,j=>match i.beq j with
  | true=>some t
  | false=>Ks l j
def GK (T:TT) (tys:List (Nat×TypeId)) (i:Nat) (v:AV) (K:AV→Option β):Option β:=
 match Ks tys i with
 | some t=>CS false T t v K
 | none=>K v
def gW (T:TT) (tys:List (Nat×TypeId)):List Nat→List AV→PF→(PF→Option β)→Option β
 | [],vs,p,K=>cj vs (K p)
 | i::l,vs,p,K=>bE vs fun v vs=>GK T tys i v fun v=>gW T tys l vs p fun p=>K ((i,v)::p)
def AY:Ex→List Ex→Nat→Option Nat
 | _,[],_=>none
 | x,y::l,n=>match decide (x=y) with
  | true=>some n
  | false=>AY x l (n+1)
def ug (n:Nat) (a:Option β) (b:Nat→Option β):Option β:=
 match n with
 | 0=>a
 | n+1=>b n
def Pq (K:Ex→Option β):List Ex→Nat→Option β
 | [],_=>none
 | x::l,n=>match l with
  | []=>K x
  | _:: _=>ug n (K x) fun n=>Pq K l n
def tv:List Oper→Bool
 | []=>false
 | o::l=>match o.guard with
  | some _=>true
  | none=>tv l
end
def K2 {β:Type} (j x:Ex) (A B:Option β):Option β:=bD (decide (j=x)) A B
def Cd {β:Type} (j:Ex) (K:Ex→Option β):List Ex→Option β
 | []=>none
 | x::l=>K2 j x (K x) (Cd j K l)
def SH {β:Type} (k:Nat) (st:St) (K:Ex→St→Option β):Option β:=
 match st.get k with
 | .ok (.loop _ _ _ _ _ s p)=>dJ (s.beq 0||s.beq 2) (K p (st.put k .dead))
 | _=>none
def Ln {β:Type} (O:sy) (f:AV) (lp:Obj) (st:St) (K:Ex→St→Option β):Option β:=
 match f with
 | .fn (.func g) [] cap=>aH (O.wide g (.yld st.h::cap) (st.add lp)) fun r=>SH st.h r.2 K
 | _=>none
abbrev dq:=List AV×St
noncomputable def lh (S:Sx) (N:Nat) (tys:List (Nat×TypeId)):Code→(live:List Nat)→{β:Type}→PF→St→(Ex→PF→St→Option β)→Option β
 | .skip,_,_,p,st,K=>K .normal p st
 | .label _,_,_,p,st,K=>K .normal p st
 | .exit i,_,_,p,st,K=>K (.exit i) p st
 | .ret,_,_,p,st,K=>K .ret p st
 | .scope c,live,_,p,st,K=>lh S N tys c live p st K
 | .region _ ops draw,live,_,p,st,K=>
  match draw&&S.imm 4000000 with
  | false=>
   match tv ops.toList with
   | false=>Cz S N ops.toList draw 0 [] ops.toList p st fun p st=>K .normal p st
   | true=>let ws:=dedup (rA live (cD ops.toList))
    aH (Cz (β:=dq) S N ops.toList draw 0 [] ops.toList p st fun p st=>getAll p ws fun vs=>some (vs,st)) fun c=>
     gW S.T tys ws c.1 (erase (cD ops.toList) p) fun p=>K .normal p c.2
  | true=>Rb st (nZ ops.toList) fun st'=>
   match tv ops.toList with
   | false=>rh S N (A8 st.h (nZ ops.toList)) ops.toList 0 [] ops.toList p st' fun p st=>K .normal p st
   | true=>let ws:=dedup (rA live (cD ops.toList))
    aH (rh (β:=dq) S N (A8 st.h (nZ ops.toList)) ops.toList 0 [] ops.toList p st' fun p st=>getAll p ws fun vs=>some (vs,st)) fun c=>
     gW S.T tys ws c.1 (erase (cD ops.toList) p) fun p=>K .normal p c.2
 | .seq a b,live,_,p,st,K=>lh S N tys a (wb b++live) p st fun ex p st=>match ex with
  | .normal=>lh S N tys b live p st K
  | ex=>K ex p st
 | .cond c a b,live,_,p,st,K=>ev S.G p c fun c=>cJ c fun c=>
  let x:=leaves a;let y:=leaves b
  match x.falls&&y.falls with
  | false=>bD c (lh S N tys a live p st K) (lh S N tys b live p st K)
  | true=>
   let W:=writes a++writes b
   let ws:=dedup (iV p (rA live W))
   match (x.outs.isEmpty&&y.outs.isEmpty)&& !(x.rets||y.rets) with
   | true=>
    let J:Ex→PF→St→Option dq:=fun ex p st=>match ex with
     | .normal=>getAll p ws fun vs=>some (vs,st)
     | _=>none
    aH (bD c (lh S N tys a live p st J) (lh S N tys b live p st J)) fun c=>
     gW S.T tys ws c.1 (erase W p) fun p=>K .normal p c.2
   | false=>
    let J:Ex→PF→St→Option (Sum dq _):=fun ex p st=>match ex with
     | .normal=>getAll p ws fun vs=>some (.inl (vs,st))
     | ex=>aH (K ex p st) fun r=>some (.inr r)
    aH (bD c (lh S N tys a live p st J) (lh S N tys b live p st J)) fun r=>lM r fun c=>gW S.T tys ws c.1 (erase W p) fun p=>K .normal p c.2
 | .block id c,live,_,p,st,K=>
  let x:=leaves c
  match ((match x.falls with | true=>1 | false=>0)+Gd id x.outs).ble 1 with
  | true=>lh S N tys c live p st fun ex p st=>match ex with
   | .exit i=>match i.beq id with
    | true=>K .normal p st
    | false=>K (.exit i) p st
   | ex=>K ex p st
  | false=>
   let W:=writes c
   let ws:=dedup (iV p (rA live W))
   let J:Ex→PF→St→Option (Sum dq _):=fun ex p st=>match ex with
    | .normal=>getAll p ws fun vs=>some (.inl (vs,st))
    | .exit i=>match i.beq id with
     | true=>getAll p ws fun vs=>some (.inl (vs,st))
     | false=>aH (K (.exit i) p st) fun r=>some (.inr r)
    | .ret=>aH (K .ret p st) fun r=>some (.inr r)
   aH (lh S N tys c live p st J) fun r=>lM r fun c=>gW S.T tys ws c.1 (erase W p) fun p=>K .normal p c.2
 | .loop c,live,_,p,st,K=>
  let W:=writes c
  let ws:=dedup (iV p W)
  let us:=rA live ws
  let x:=leaves c
  let es:List Ex:=x.outs.eraseDups.map .exit++(match x.rets with | true=>[.ret] | false=>[])
  getAll p ws fun vs=>aH (bn (fun s:dq=>gW S.T tys ws s.1 (erase W p) fun p=>lh (β:=Sum dq (Nat×dq)) S N tys c (ws++live) p s.2 fun ex p st=>match ex with
    | .normal=>getAll p ws fun vs=>some (.inl (vs,st))
    | ex=>aH (AY ex es 0) fun k=>getAll p us fun vs=>some (.inr (k,vs,st))) (vs,st)) fun r=>
   gW S.T tys us r.2.1 (erase W p) fun p=>Pq (fun ex=>K ex p r.2.2) es r.1
 | .rangeFunc g ps a c,_,_,p,st,K=>
  let us:=py ps.toList a c
  let x:=leaves c
  let es:List Ex:= .normal::(x.outs.eraseDups.map .exit++(match x.rets with | true=>[.ret] | false=>[]))
  ev S.G p g fun f=>getAll p us fun vs=>Ln S.O f (.loop S.imm ps.toList a c (H6 N us vs) 0 .normal) st fun j st'=>Cd j (fun ex=>K ex p st') es
 | _,_,_,_,_,_=>none
section
variable {β:Type}
def Mf (S:Sx) (p:PF) (st:St) (r:ResultVar) (K:AV→Option β):Option β:=
 match r with
 | .tmp t=>match PF.get p t with
  | some v=>K v
  | none=>none
 | .cell a t=>tM S.T t fun i=>match PF.get p a with
  | some a=>ay i.size i.agg a st fun v _=>CS false S.T t v K
  | none=>none
def Hi (S:Sx) (p:PF) (st:St):List ResultVar→(List AV→Option β)→Option β
 | [],K=>K []
 | r::l,K=>Mf S p st r fun v=>Hi S p st l fun vs=>K (v::vs)
def Ci:List ResultVar→List Nat
 | []=>[]
 | .tmp t::l=>t::Ci l
 | .cell a _::l=>a::Ci l
def jY:Code→List (Nat×TypeId)
 | .region _ ops _=>go ops.toList
 | .seq a b=>jY a++jY b
 | .cond _ a b=>jY a++jY b
 | .block _ c=>jY c
 | .loop c=>jY c
 | .scope c=>jY c
 | .rangeFunc _ _ a c=>jY a++jY c
 | _=>[]
 where
 go:List Oper→List (Nat×TypeId)
  | []=>[]
  | o::l=>match o.dst with
   | some d=>(d,o.type)::go l
   | none=>go l
def C0:Nat→List TypeId→List (Nat×TypeId)
 | _,[]=>[]
 | i,t::l=>(i,t)::C0 (i+1) l
def D6 (T:TT):Nat→List TypeId→List AV→PF→(PF→Option β)→Option β
 | _,_,[],p,K=>K p
 | i,ts,v::vs,p,K=>match ts with
  | []=>D6 T (i+1) [] vs ((i,v)::p) K
  | t::ts=>CS false T t v fun v=>D6 T (i+1) ts vs ((i,v)::p) K
noncomputable def GW (S:Sx) (fn:Func) (args:List AV) (st:St) (K:AV→St→Option β):Option β:=
 match fn.body with
 | none=>none
 | some c=>match args.length.ble fn.ntmps with
  | false=>none
  | true=>D6 S.T 0 fn.params.toList args [] fun p=>lh S fn.ntmps (C0 0 fn.params.toList++jY c) c (Ci fn.results.toList) p st fun ex p st=>match ex with
   | .exit _=>none
   | _=>Hi S p st fn.results.toList fun vs=>K (oneOf vs) st
def eZ (st:St) (base:Nat) (v:AV) (K:AV→Option β):Option β:=
 match freeze st base 100 v with
 | .ok v=>dJ (bare v) (K v)
 | .error _=>none
end
def jt (P:Nat→Prop):Prop:= ∃m,∀n,m≤n→P n
theorem jt.always {P:Nat→Prop} (h: ∀n,P n):jt P:=⟨0,fun n _=>h n⟩
theorem jt.lift {P Q:Nat→Prop} (h:jt P) (k: ∀n,P n→Q n):jt Q:=by
 obtain ⟨m,h⟩:=h;exact ⟨m,fun n hn=>k n (h n hn)⟩
theorem jt.both {P Q:Nat→Prop} (h:jt P) (k:jt Q):jt fun n=>P n∧Q n:=by
 obtain ⟨m,h⟩:=h;obtain ⟨m',k⟩:=k;exact ⟨max m m',fun n hn=>⟨h n (by omega),k n (by omega)⟩⟩
section
variable {β:Type} {r:β}
theorem tb {α:Type} {x:cM α} {a:α} (h:OS x=some a):x= .ok a:=by
 cases x <;> simp_all [OS]
theorem bz {α:Type} {x:Option α} {K:α→Option β} (h:aH x K=some r): ∃a,x=some a∧K a=some r:=by
 cases x with
 | none=>simp [aH] at h
 | some a=>exact ⟨a,rfl,h⟩
theorem lQ {k:IntKind} {v:AV} {K:Int→Option β} (h:bU k v K=some r): ∃n,v= .int k n∧K n=some r:=by
 unfold bU at h;split at h
 ·rename_i j n;split at h
  ·rename_i e;have e:=Xb e;subst e;exact ⟨n,rfl,h⟩
  ·cases h
 ·cases h
theorem xV {v:AV} {K:Bool→Option β} (h:cJ v K=some r): ∃b,v= .bool b∧K b=some r:=by
 unfold cJ at h;split at h
 ·exact ⟨_,rfl,h⟩
 ·cases h
theorem lN {v:AV} {K:List UInt8→Option β} (h:eU v K=some r): ∃b,v= .str b∧K b=some r:=by
 unfold eU at h;split at h
 ·exact ⟨_,rfl,h⟩
 ·cases h
theorem nI {v:AV} {K:Int→Option β} (h:anyI v K=some r): ∃k n,v= .int k n∧K n=some r:=by
 unfold anyI at h;split at h
 ·exact ⟨_,_,rfl,h⟩
 ·cases h
theorem wK {v:AV} {K:List AV→Option β} (h:zH v K=some r): ∃cs,v= .agg cs∧K cs=some r:=by
 unfold zH at h;split at h
 ·exact ⟨_,rfl,h⟩
 ·cases h
theorem K7 {v:AV} {K:List AV→Option β} (h:gK v K=some r): ∃cs,v= .tup cs∧K cs=some r:=by
 unfold gK at h;split at h
 ·exact ⟨_,rfl,h⟩
 ·cases h
theorem Ee {l:List AV} {K:AV→List AV→Option β} (h:bE l K=some r): ∃v vs,l=v::vs∧K v vs=some r:=by
 unfold bE at h;split at h
 ·exact ⟨_,_,rfl,h⟩
 ·cases h
theorem CM {l:List AV} {K:Option β} (h:cj l K=some r):l=[]∧K=some r:=by
 unfold cj at h;split at h
 ·exact ⟨rfl,h⟩
 ·cases h
theorem dX {b:Bool} {K:Option β} (h:dJ b K=some r):b=true∧K=some r:=by
 cases b
 ·cases h
 ·exact ⟨rfl,h⟩
theorem HO {cs:List AV} {off:Nat} {K:AV→Option β} (h:cE cs off K=some r): ∃v,cs[off]? =some v∧K v=some r:=by
 unfold cE at h;split at h
 ·exact ⟨_,by assumption,h⟩
 ·cases h
theorem Dc: ∀{cs:List AV} {off:Nat} {v:AV},cs[off]? =some v→eS cs off= .ok v
 | [],_,_,h=>by simp at h
 | _:: _,0,_,h=>by simp at h;simp [eS,h]
 | _::l,n+1,_,h=>by simp at h;simp only [eS];exact Dc h
theorem AR {b:Bool} {z v:AV} {K:AV→Option β} (h:NZ b z v K=some r):K v=some r:=by
 unfold NZ at h;split at h
 ·obtain ⟨n,rfl,h'⟩:=lQ h;cases b <;> exact h'
 ·obtain ⟨n,rfl,h'⟩:=xV h;exact h'
 ·obtain ⟨n,rfl,h'⟩:=lN h;cases b <;> exact h'
 ·exact h
theorem AZ: ∀{zs cs:List AV} {K:List AV→Option β},Mx zs cs K=some r→K cs=some r
 | [],cs,K,h=>by
  obtain ⟨rfl,h⟩:=CM h;exact h
 | z::zs,cs,K,h=>by
  obtain ⟨v,l,rfl,hd⟩:=Ee h;exact AZ (K:=fun l'=>K (v::l')) (AR (K:=fun v'=>Mx zs l fun l'=>K (v'::l')) hd)
theorem jE {b:Bool} {T:TT} {t:TypeId} {v:AV} {K:AV→Option β} (h:CS b T t v K=some r):K v=some r:=by
 unfold CS at h;split at h
 ·split at h
  ·split at h
   ·obtain ⟨cs,rfl,h⟩:=wK h;exact AZ (K:=fun cs'=>K (.agg cs')) h
   ·exact h
  ·split at h
   ·exact AR h
   ·exact h
 ·exact h
theorem cy {T:TT} {t:TypeId} {K:TI→Option β} (h:tM T t K=some r): ∃i,ti T t= .ok i∧K i=some r:=by
 unfold tM at h;split at h
 ·rename_i i e;exact ⟨i,cb.2 e,h⟩
 ·cases h
theorem HS {v:AV} (h:one v=true):v.cells=[v]:=by
 cases v <;> first | rfl | (cases h;done)
theorem pL {agg:Bool} {v:AV} {K:List AV→Option β} (h:Bp agg v K=some r):K v.cells=some r∧(agg=true→ ∃cs,v= .agg cs)∧(agg=false→one v=true):=by
 cases agg with
 | true=>obtain ⟨cs,rfl,h⟩:=wK h;exact ⟨h,fun _=>⟨cs,rfl⟩,(by intro h;cases h)⟩
 | false=>
  obtain ⟨h1,h⟩:=dX h;rw [HS h1];exact ⟨h,(by intro h;cases h),fun _=>h1⟩
theorem mb: ∀{cs:List AV} {K:Option β},wN cs K=some r→gj cs=true∧K=some r
 | [],_,h=>⟨rfl,h⟩
 | v::l,K,h=>by
  obtain ⟨h1,h⟩:=dX h;obtain ⟨h2,h⟩:=mb h;exact ⟨by simp [gj,h1,h2],h⟩
theorem zR {v:AV} {K:AV→Option β} (h:aJ v K=some r): ∃v',fit v= .ok v'∧K v'=some r:=by
 unfold aJ at h;split at h
 ·exact ⟨_,by assumption,h⟩
 ·cases h
theorem uW: ∀{cs:List AV} {K:List AV→Option β},KN cs K=some r→ ∃cs',fits cs= .ok cs'∧K cs'=some r
 | [],_,h=>⟨[],rfl,h⟩
 | v::l,K,h=>by
  obtain ⟨v',e,h⟩:=zR h;obtain ⟨l',e',h⟩:=uW h;exact ⟨v'::l',by simp [fits,e,e'];rfl,h⟩
theorem Hz {v v':AV} (h:one v=true) (e:fit v= .ok v'):v'=strip v∧bare (strip v)=true:=by
 have:fit v=(match bare (strip v) with | true=> .ok (strip v) | false=> .error "a name within what never changes"):=by
  cases v <;> first | rfl | (cases h;done)
 rw [this] at e;split at e
 ·rename_i hb;cases e;exact ⟨rfl,hb⟩
 ·cases e
theorem xb: ∀{cs cs':List AV},gj cs=true→fits cs= .ok cs'→cs'=cs.map strip∧bx (cs.map strip)=true
 | [],cs',_,e=>by cases e;exact ⟨rfl,rfl⟩
 | v::l,cs',h,e=>by
  simp only [gj,Vl] at h;simp only [fits,ae,ak] at e;obtain ⟨v',e1,l',e2,rfl⟩:=e;obtain ⟨rfl,h1⟩:=Hz h.1 e1;obtain ⟨rfl,h2⟩:=xb h.2 e2;exact ⟨rfl,by simp [bf,h1,h2]⟩
theorem M8 {cs cs':List AV} (h:gj cs=true) (e:fits cs= .ok cs'):fit (.agg cs)= .ok (.agg cs'):=by
 obtain ⟨rfl,hb⟩:=xb h e;simp only [fit];have:bare (.agg (cs.map strip))=true:=hb;rw [this]
theorem HQ {agg:Bool} {v:AV} {K:AV→Option β} (h:HM agg v K=some r): ∃v',fit v= .ok v'∧K v'=some r:=by
 cases agg with
 | true=>
  obtain ⟨cs,rfl,h⟩:=wK h;obtain ⟨h1,h⟩:=mb h;obtain ⟨cs',e,h⟩:=uW h;exact ⟨_,M8 h1 e,h⟩
 | false=>exact zR h
theorem sa {agg:Bool}: ∀{vs:List AV} {K:List AV→Option β},lZ agg vs K=some r→ ∃vs',fits vs= .ok vs'∧K vs'=some r
 | [],_,h=>⟨[],rfl,h⟩
 | v::l,K,h=>by
  obtain ⟨v',e,h⟩:=HQ h;obtain ⟨l',e',h⟩:=sa h;exact ⟨v'::l',by simp [fits,e,e'];rfl,h⟩
end
section
variable {E:Env} {O:sy}
structure Mp (E:Env) (O:sy):Prop where
 full:O.full=E.full
 isLook:O.isLook=E.isLook
 bare: ∀f a v,O.bare f a=some v→jt fun n=>(caller E n).bare f a= .ok v
 wide: ∀f a st v,O.wide f a st=some v→jt fun n=>(caller E n).wide f a st= .ok v
 look: ∀f a st v,O.look f a st=some v→jt fun n=>(caller E n).look f a st= .ok v
 round: ∀k a st v,O.round k a st=some v→jt fun n=>(caller E n).round k a st= .ok v
theorem pY (E:Env): ∀n,(caller E n).full=E.full
 | 0=>rfl
 | _+1=>rfl
theorem rq (E:Env): ∀n,(caller E n).isLook=E.isLook
 | 0=>rfl
 | _+1=>rfl
def dS (E:Env) (st:St) (p:cM dF) (v:AV) (x:Fx):Prop:=jt fun n=>(p >>= aC (caller E n) st)= .ok (v,x)
variable {β:Type} {r:β} {K:Kv β} {st:St}
theorem nK {q:Option Out} (h:nN q K=some r): ∃v st' x,q=some (v,st',x)∧K v st' x=some r:=by
 obtain ⟨⟨v,st',x⟩,e,h⟩:=bz h;exact ⟨v,st',x,e,h⟩
theorem qb {id:Nat} {o:Obj} {v u:AV} {rd:List Nat} {st':St} {x:Fx} (h:ma st id o v rd=some (u,st',x)):ej st id (some o)= .ok (.wrote id o)∧u=v∧x=⟨rd,.wrote id o⟩∧st'=x.did.app st:=by
 unfold ma at h;split at h
 ·rename_i h1;simp only [Vt,Vk] at h;obtain ⟨rfl,rfl,rfl⟩:=h;have:id.blt st.ro=false:=cP.2 (VA h1);exact ⟨by simp only [ej,this],rfl,rfl,rfl⟩
 ·cases h
theorem lP {o:Obj} {f:Nat→AV} {v:AV} {st':St} {x:Fx} (h:vg st o f=some (v,st',x)):dS E st (.ok (.new o f)) v x∧st'=x.did.app st:=by
 simp only [vg,Vt,Vk] at h;obtain ⟨rfl,rfl,rfl⟩:=h;exact ⟨jt.always fun _=>rfl,rfl⟩
theorem IP {o:Obj} {f:Nat→AV} (h:made st o f K=some r): ∃v x,dS E st (.ok (.new o f)) v x∧K v (x.did.app st) x=some r:=by
 obtain ⟨v,st',x,e,h⟩:=nK h;obtain ⟨hp,rfl⟩:=lP (E:=E) e;exact ⟨v,x,hp,h⟩
theorem sg (hO:Mp E O) {p:cM dF} {v:AV} {st':St} {x:Fx} (h:pZ O p st=some (v,st',x)):dS E st p v x∧st'=x.did.app st:=by
 unfold pZ at h;split at h
 ·cases h;exact ⟨jt.always fun _=>rfl,rfl⟩
 ·rename_i id f;split at h
  ·rename_i o ho;split at h
   ·rename_i v e;cases h;exact ⟨jt.always fun _=>by simp only [ax,aC,ho,e,ej];rfl,rfl⟩
   ·rename_i v o' e;obtain ⟨h1,rfl,rfl,rfl⟩:=qb h;exact ⟨jt.always fun _=>by simp only [ax,aC,ho,e,h1];rfl,rfl⟩
   ·cases h
  ·cases h
 ·rename_i id k f;split at h
  ·rename_i o ho;split at h
   ·rename_i e;split at h
    ·rename_i v e';cases h;exact ⟨jt.always fun _=>by simp only [ax,aC,ho,e,e'];rfl,rfl⟩
    ·cases h
   ·rename_i j e;split at h
    ·rename_i h1;split at h
     ·rename_i o' ho';split at h
      ·rename_i v e';cases h;exact ⟨jt.always fun _=>by simp only [ax,aC,ho,e,h1,ho',e'];rfl,rfl⟩
      ·cases h
     ·cases h
    ·cases h
   ·cases h
  ·cases h
 ·exact lP h
 ·rename_i f args;unfold Af at h;split at h
  ·rename_i hb;split at h
   ·rename_i v e;cases h;refine ⟨(hO.bare _ _ _ e).lift fun n hn=> ?_,rfl⟩;rw [hO.full] at hb;simp only [ax,aC,pY,hb,hn];rfl
   ·cases h
  ·rename_i hb;split at h
   ·rename_i hl;split at h
    ·rename_i v e;cases h;refine ⟨(hO.look _ _ _ _ e).lift fun n hn=> ?_,rfl⟩;rw [hO.full] at hb;rw [hO.isLook] at hl;simp only [ax,aC,pY,rq,hb,hl,hn];rfl
    ·cases h
   ·rename_i hl;split at h
    ·rename_i p e;cases h;refine ⟨(hO.wide _ _ _ _ e).lift fun n hn=> ?_,rfl⟩;rw [hO.full] at hb;rw [hO.isLook] at hl;simp only [ax,aC,pY,rq,hb,hl,hn];rfl
    ·cases h
 ·rename_i k args;unfold JS at h;split at h
  ·rename_i p e;cases h;refine ⟨(hO.round _ _ _ _ e).lift fun n hn=> ?_,rfl⟩;simp only [ax,aC,hn];rfl
  ·cases h
 ·cases h
theorem FG (hO:Mp E O) {p:cM dF} (h:cK O p st K=some r): ∃v x,dS E st p v x∧K v (x.did.app st) x=some r:=by
 obtain ⟨v,st',x,e,h⟩:=nK h;obtain ⟨hp,rfl⟩:=sg hO e;exact ⟨v,x,hp,h⟩
theorem dS.of {p q:cM dF} {v:AV} {x:Fx} (e:p=q) (h:dS E st p v x):dS E st q v x:=e ▸ h
end
section
variable {β:Type} {r:β}
theorem tf {i:Int} {n:Nat} {K:Nat→Option β} (h:lj i n K=some r): ∃k,inside i n= .ok k∧K k=some r:=by
 unfold lj at h;split at h
 ·rename_i k;obtain ⟨h1,h⟩:=dX h;exact ⟨k,by simp only [inside,h1],h⟩
 ·cases h
theorem wI {i:Int} {n:Nat} {K:Nat→Option β} (h:fX i n K=some r): ∃k,upto i n= .ok k∧K k=some r:=by
 unfold fX at h;split at h
 ·rename_i k;obtain ⟨h1,h⟩:=dX h;exact ⟨k,by simp only [upto,h1],h⟩
 ·cases h
theorem Lc {lo:Option Int} {m:Nat} {K:Nat→Option β} (h:UE lo m K=some r): ∃k,qY lo m= .ok k∧K k=some r:=by
 cases lo with
 | none=>exact ⟨0,rfl,h⟩
 | some l=>exact wI h
theorem KI {hi:Option Int} {m d:Nat} {K:Nat→Option β} (h:UC hi m d K=some r): ∃k,kU hi m d= .ok k∧K k=some r:=by
 cases hi with
 | none=>exact ⟨d,rfl,h⟩
 | some l=>exact wI h
end
def Fr.look (fr:Fr) (i:Nat):Option AV:=match fr.strict with
 | true=>fr.t.get i
 | false=>some (fr.get i)
theorem tE {fr:Fr} {i:Nat} {v:AV} (h:fr.look i=some v):fr.get i=v:=by
 unfold Fr.look at h;split at h
 ·unfold Fr.get;rw [h];rfl
 ·exact WA h
theorem IW {G:Nat→Option (List AV)} {fr:Fr} {i:Nat} {v:AV} (h:fr.look i=some v):bS G fr (.tmp i)= .ok v:=by
 unfold Fr.look at h;simp only [bS];split at h
 ·rename_i e;rw [e];dsimp only;rw [h]
 ·rename_i e;rw [e];dsimp only;rw [Option.some.inj h]
theorem DL {fr:Fr} {d i:Nat} {v:AV} (hd:d < fr.n):(fr.put (some d) v).look i=if d=i then some v else fr.look i:=by
 have hb:d.blt fr.n=true:=cH.2 hd;have e:fr.put (some d) v=⟨fr.n,fr.t.put d v,fr.strict⟩:=by simp only [Fr.put,hb]
 rw [e];unfold Fr.look Fr.get;dsimp only;rw [Tr.jX];by_cases h:d=i
 ·rw [if_pos h,if_pos h];cases fr.strict <;> rfl
 ·rw [if_neg h,if_neg h]
def Sub (N:Nat) (p:PF) (fr:Fr):Prop:=fr.n=N∧ ∀i v,PF.get p i=some v→fr.look i=some v
theorem PF.lV {i j:Nat} {v:AV} {l:PF}:PF.get ((i,v)::l) j=if i=j then some v else PF.get l j:=by
 simp only [PF.get];by_cases h:i=j
 ·simp [h]
 ·have:i.beq j=false:=by
   cases e:i.beq j
   ·rfl
   ·exact absurd (Vq e) h
  simp [this,h]
section
variable {β:Type} {r:β} {N:Nat} {p:PF} {fr:Fr} {G:Nat→Option (List AV)} {T:TT} {E:Env} {O:sy} {st:St}
theorem bM {x:Operand} {K:AV→Option β} (h:ev G p x K=some r) (hs:Sub N p fr): ∃v,bS G fr x= .ok v∧K v=some r:=by
 unfold ev at h;split at h
 ·split at h
  ·rename_i v e;exact ⟨v,IW (hs.2 _ _ e),h⟩
  ·cases h
 ·split at h
  ·rename_i v e;exact ⟨v,by simp only [bS,e],h⟩
  ·cases h
 ·split at h
  ·rename_i cs e;exact ⟨_,by simp only [bS,e],h⟩
  ·cases h
 ·exact ⟨_,rfl,h⟩
theorem td: ∀{l:List Operand} {K:List AV→Option β},Se G p l K=some r→Sub N p fr→ ∃vs,ml G fr l= .ok vs∧K vs=some r
 | [],_,h,_=>⟨[],rfl,h⟩
 | x::l,K,h,hs=>by
  obtain ⟨v,e,h⟩:=bM h hs;obtain ⟨vs,e',h⟩:=td h hs;exact ⟨v::vs,by simp only [ml,e,e',ax,aI],h⟩
theorem yJ {x:Option Operand} {K:Option Int→Option β} (h:TF G p x K=some r) (hs:Sub N p fr): ∃o oi,dU G fr x= .ok o∧kN o= .ok oi∧K oi=some r:=by
 cases x with
 | none=>exact ⟨none,none,rfl,rfl,h⟩
 | some x=>
  obtain ⟨v,e,h⟩:=bM h hs;obtain ⟨k,n,rfl,h⟩:=nI h;exact ⟨some (.int k n),some n,by simp only [dU,e,ax,aI],rfl,h⟩
theorem sV {ty:Nat→Option TypeId}: ∀{l:List (Nat×Operand)} {K:List (Nat×List AV)→Option β},Rp T G p ty l K=some r→Sub N p fr→
  ∃vs:List (Nat×AV),fZ G fr l= .ok vs∧K (vs.map fun q=>(q.1,q.2.cells))=some r
 | [],_,h,_=>⟨[],rfl,h⟩
 | (i,x)::l,K,h,hs=>by
  unfold Rp at h;split at h
  ·cases h
  ·obtain ⟨ti,_,h⟩:=cy h;obtain ⟨v,e,h⟩:=bM h hs;obtain ⟨h,_,_⟩:=pL h;obtain ⟨vs,e',h⟩:=sV h hs;exact ⟨(i,v)::vs,by simp only [fZ,e,e',ax,aI],h⟩
theorem oc {place:Nat→Option (Nat×Nat)}: ∀{vs:List (Nat×AV)} {cells:List AV} {K:List AV→Option β},AU place cells (vs.map fun q=>(q.1,q.2.cells)) K=some r→ ∃cs,kT place cells vs= .ok cs∧K cs=some r
 | [],cells,_,h=>⟨cells,rfl,h⟩
 | (i,v)::vs,cells,K,h=>by
  simp only [Vu,AU] at h;split at h
  ·cases h
  ·rename_i off size e;obtain ⟨h1,h⟩:=dX h;obtain ⟨cs,e',h⟩:=oc h;exact ⟨cs,by simp only [kT,e,h1,e'],h⟩
theorem vz: ∀{l:List (Nat×TypeId)} {K:List (Nat×Nat)→Option β},FE T l K=some r→ ∃ps,oI T l= .ok ps∧K ps=some r
 | [],_,h=>⟨[],rfl,h⟩
 | (o,t)::l,K,h=>by
  obtain ⟨i,e,h⟩:=cy h;obtain ⟨ps,e',h⟩:=vz h;exact ⟨_,by simp only [oI,e,e',ax,aI],h⟩
theorem uo: ∀{l:List AV} {n:Nat} {v:AV},B6 l n=some v→eS l n= .ok v
 | [],_,_,h=>by cases h
 | _:: _,0,_,h=>by cases h;rfl
 | _::l,n+1,_,h=>uo (l:=l) (n:=n) h
theorem jn {i:Int} {n k:Nat} (h:ow i n=some k):inside i n= .ok k:=by
 unfold ow at h;split at h
 ·split at h
  ·rename_i h1;cases h;simp only [inside,h1]
  ·cases h
 ·cases h
theorem Fu {i:TI} {a:AV} {K:Kv β} (h:(ay i.size i.agg a st fun v rd=>K v st ⟨rd,.kept⟩)=some r): ∃v x,dS E st (lF i a) v x∧K v (x.did.app st) x=some r:=by
 obtain ⟨⟨v,rd⟩,e,h⟩:=bz h;unfold CU at e;split at e
 ·split at e
  ·rename_i e1;cases e;exact ⟨v,q0,jt.always fun _=>by simp only [lF,e1,ax,aI,aC];rfl,h⟩
  ·cases e
 ·rename_i id off;split at e
  ·rename_i t cs e1;split at e
   ·rename_i e2;cases e;exact ⟨v,⟨[id],.kept⟩,jt.always fun _=>by simp only [lF,ij,e1,e2,ax,aI,aC,cellsOf,ej],h⟩
   ·cases e
  ·cases e
 ·rename_i k n off;split at e
  ·rename_i m ee z cs e1;split at e
   ·rename_i hm;split at e
    ·rename_i e2;cases e;exact ⟨v,⟨[k],.kept⟩,jt.always fun _=>by simp only [lF,ij,e1,e2,hm,ax,aI,aC,ej],h⟩
    ·cases e
   ·cases e
  ·cases e
 ·cases e
theorem CN (hO:Mp E O) {i:TI} {a v:AV} {K:Kv β} (h2:gj v.cells=true) (h:aD O i.size a v v.cells st K=some r): ∃u x,dS E st (match a with | .gp k m off=>pT i k m off v | a=>um i a v) u x∧K u (x.did.app st) x=some r:=by
 obtain ⟨u,st',x,e,h⟩:=nK h;unfold F8 at e;split at e
 ·rename_i id off;split at e
  ·rename_i h1;split at e
   ·rename_i t cs e1;split at e
    ·rename_i h3;obtain ⟨h4,rfl,rfl,rfl⟩:=qb e;refine ⟨undef,_,jt.always fun _=> ?_,h⟩;simp only [um,h1,h2,V6,ax,aC,e1,mw,h3,aI];rw [show cO cs off v.cells=Rl cs off v.cells from rfl,h4];rfl
    ·cases e
   ·cases e
  ·cases e
 ·obtain ⟨h1,rfl⟩:=sg hO e;exact ⟨u,x,h1,h⟩
 ·cases e
theorem Ij {t e:TypeId} {i ie:TI} {x:AV} {j:Int} {k:IntKind} {K:Kv β} (hi:ti T t= .ok i) (hu:i.und= .slice e) (he:ti T e= .ok ie) (h:(eM ie.size x j st fun a rd=>K a st ⟨rd,.kept⟩)=some r):
  ∃v x',dS E st (match x with | .gs a z n=>kz T t a z n (.int k j) | x=>(do pure (.val (← indexAddr T t x (.int k j))))) v x'∧K v (x'.did.app st) x'=some r:=by
 obtain ⟨⟨v,rd⟩,eo,h⟩:=bz h;unfold H7 at eo;split at eo
 ·split at eo
  ·rename_i h1;split at eo
   ·rename_i n h2;split at eo
    ·rename_i u h3;cases eo;refine ⟨_,q0,jt.always fun _=> ?_,h⟩;simp only [indexAddr,VM.asInt,ax,hi,hu,jn h2,he,h1,uo h3,aI,aC];rfl
    ·cases eo
   ·cases eo
  ·cases eo
 ·split at eo
  ·rename_i h1;split at eo
   ·rename_i n h2;cases eo;refine ⟨_,q0,jt.always fun _=> ?_,h⟩;simp only [indexAddr,VM.asInt,ax,hi,hu,jn h2,he,h1,aI,aC];rfl
   ·cases eo
  ·cases eo
 ·rename_i a sz n;split at eo
  ·rename_i h1;split at eo
   ·rename_i m h2;split at eo
    ·rename_i mm ee z' es eg;split at eo
     ·rename_i h3;split at eo
      ·rename_i hb;split at eo
       ·rename_i u h4;cases eo;refine ⟨_,⟨[a],.kept⟩,jt.always fun _=> ?_,h⟩;simp only [kz,VM.asInt,ax,hi,hu,jn h2,he,h1,ij,aC,eg,h3,hb,uo h4,aI,ej]
       ·cases eo
      ·rename_i hb;cases eo;refine ⟨_,⟨[a],.kept⟩,jt.always fun _=> ?_,h⟩;simp only [kz,VM.asInt,ax,hi,hu,jn h2,he,h1,ij,aC,eg,h3,hb,aI,ej]
     ·cases eo
    ·rename_i mm ee z' cs eg;split at eo
     ·rename_i h3;cases eo;refine ⟨_,⟨[a],.kept⟩,jt.always fun _=> ?_,h⟩;simp only [kz,VM.asInt,ax,hi,hu,jn h2,he,h1,ij,aC,eg,h3,aI,ej]
     ·cases eo
    ·cases eo
   ·cases eo
  ·cases eo
 ·cases eo
theorem Bc {off:Nat} {a:AV} {K:AV→Option β} (h:fU off a K=some r):(∃cs,a= .ip cs∧K (.ip (cs.drop off))=some r)∨(∃id o,a= .mp id o∧K (.mp id (o+off))=some r)∨(∃id n o,a= .gp id n o∧K (.gp id n (o+off))=some r):=by
 obtain ⟨v,e,h⟩:=bz h;unfold SU at e;split at e
 ·cases e;exact .inl ⟨_,rfl,h⟩
 ·cases e;exact .inr (.inl ⟨_,_,rfl,h⟩)
 ·cases e;exact .inr (.inr ⟨_,_,_,rfl,h⟩)
 ·cases e
theorem HJ {t e:TypeId} {i ie:TI} {x:AV} {j:Int} {k:IntKind} {len:Nat} {K:Kv β} (hi:ti T t= .ok i) (hu:i.und= .arr len e) (he:ti T e= .ok ie) (h:(Tq ie.size len x j fun a=>K a st q0)=some r):
  ∃v x',dS E st (match x with | .gs a z n=>kz T t a z n (.int k j) | x=>(do pure (.val (← indexAddr T t x (.int k j))))) v x'∧K v (x'.did.app st) x'=some r:=by
 obtain ⟨n,h2,h⟩:=tf h;rcases Bc h with ⟨cs,rfl,h⟩ | ⟨id,o,rfl,h⟩ | ⟨id,m,o,rfl,h⟩
 ·refine ⟨_,q0,jt.always fun _=> ?_,h⟩;simp only [indexAddr,VM.asInt,ax,hi,hu,h2,he,aI,aC];rfl
 ·refine ⟨_,q0,jt.always fun _=> ?_,h⟩;simp only [indexAddr,VM.asInt,ax,hi,hu,h2,he,aI,aC];rfl
 ·refine ⟨_,q0,jt.always fun _=> ?_,h⟩;simp only [indexAddr,VM.asInt,ax,hi,hu,h2,he,aI,aC];rfl
theorem nS {hi:Option Int} {m d a:Nat} (h:su hi m d=some a):kU hi m d= .ok a:=by
 unfold su at h;split at h
 ·split at h
  ·split at h
   ·rename_i h1;cases h;simp only [kU,upto,h1]
   ·cases h
  ·cases h
 ·cases h;rfl
theorem yz {lo:Option Int} {m a:Nat} (h:su lo m 0=some a):qY lo m= .ok a:=by
 unfold su at h;split at h
 ·split at h
  ·split at h
   ·rename_i h1;cases h;simp only [qY,upto,h1]
   ·cases h
  ·cases h
 ·cases h;rfl
theorem Dt {t e:TypeId} {i ie:TI} {x:AV} {lo hi mx:Option Int} {lo' hi' mx':Option AV} {K:AV→Option β} (ht:ti T t= .ok i) (hu:i.und= .slice e) (he:ti T e= .ok ie)
  (hl:kN lo'= .ok lo) (hh:kN hi'= .ok hi) (hm:kN mx'= .ok mx) (h:eR ie.size x lo hi mx K=some r): ∃v,lJ T t x lo' hi' mx'= .ok v∧K v=some r:=by
 obtain ⟨v,eo,h⟩:=bz h;refine ⟨v, ?_,h⟩;clear h;unfold kK at eo;split at eo
 ·split at eo
  ·rename_i m h3;split at eo
   ·rename_i a h1;split at eo
    ·rename_i b h2;cases eo;simp only [lJ,hl,hh,hm,ax,ht,hu,he,nS h3,nS h1,yz h2,aI]
    ·cases eo
   ·cases eo
  ·cases eo
 ·split at eo
  ·rename_i m h3;split at eo
   ·rename_i a h1;split at eo
    ·rename_i b h2;cases eo;simp only [lJ,hl,hh,hm,ax,ht,hu,he,nS h3,nS h1,yz h2,aI]
    ·cases eo
   ·cases eo
  ·cases eo
 ·split at eo
  ·rename_i h0;split at eo
   ·rename_i m h3;split at eo
    ·rename_i a h1;split at eo
     ·rename_i b h2;split at eo
      ·rename_i h4;cases eo;simp only [lJ,hl,hh,hm,ax,ht,hu,he,h0,nS h1,yz h2,nS h3,h4,aI]
      ·cases eo
     ·cases eo
    ·cases eo
   ·cases eo
  ·cases eo
 ·rename_i sz es pm;split at eo
  ·rename_i h0;split at eo
   ·rename_i a h1;split at eo
    ·rename_i b h2;have key:(match a.beq es.length,pm with
      | true,.shut=>(pure (.sl sz (es.drop b) .shut):cM AV)
      | true,.own k=>match b.beq 0 with
       | true=>pure (.sl sz es (.own k))
       | false=>pure (.sl sz (es.drop b) .wide)
      | _,_=>pure (.sl sz ((es.take a).drop b) .wide))= .ok v:=by
      revert eo;cases a.beq es.length <;> cases pm <;> cases b.beq 0 <;> intro eo <;> cases eo <;> rfl
     simp only [lJ,hl,hh,hm,ax,ht,hu,he,h0,nS h1,yz h2];exact key
    ·cases eo
   ·cases eo
  ·cases eo
 ·split at eo
  ·rename_i h0;split at eo
   ·rename_i m h3;split at eo
    ·rename_i a h1;split at eo
     ·rename_i b h2;cases eo;have h3:kU (some _) _ 0= .ok m:=nS h3;simp only [kU] at h3;simp only [lJ,hl,hh,hm,ax,ht,hu,he,h0,nS h1,yz h2,h3];rfl
     ·cases eo
    ·cases eo
   ·cases eo
  ·cases eo
 ·cases eo
theorem Ay {t:TypeId} {i:TI} {x y:AV} {K:Bool→Option β} (hi:ti T t= .ok i) (h:K1 i.und x y K=some r): ∃b,EO T 20 t x y= .ok b∧K b=some r:=by
 obtain ⟨b,e,h⟩:=bz h;refine ⟨b, ?_,h⟩;clear h;unfold Ti at e;split at e <;> first | (cases e;done) | skip
 all_goals
  rename_i hu;cases e;show (do let i ← ti T t;_)= _;rw [hi,ax];simp only [hu]
theorem GN {t:TypeId} {i:TI} {x y:AV} {b:Bool} (hi:ti T t= .ok i) (e:EO T 20 t x y= .ok b) (hk:lD i.und=true):(∀k n,x≠ .int k n)∧(∀s,x≠ .str s):=by
 have e:(do let i ← ti T t;_)= _:=e;rw [hi,ax] at e;constructor
 ·rintro k n rfl;cases hu:i.und <;> simp [hu,lD] at hk e
 ·rintro s rfl;cases hu:i.und <;> simp [hu,lD] at hk e
theorem Nb {t:TypeId} {i:TI} {x y:AV} {b:Bool} (hi:ti T t= .ok i) (e:EO T 20 t x y= .ok b) (hk:lD i.und=true):VM.binOp T .eql t x y= .ok (.bool b):=by
 obtain ⟨h1,h2⟩:=GN hi e hk;cases x <;> first | (exact absurd rfl (h1 _ _)) | (exact absurd rfl (h2 _)) | (simp only [VM.binOp,e,ax,aI])
theorem Oe {t:TypeId} {i:TI} {x y:AV} {b:Bool} (hi:ti T t= .ok i) (e:EO T 20 t x y= .ok b) (hk:lD i.und=true):VM.binOp T .neq t x y= .ok (.bool !b):=by
 obtain ⟨h1,h2⟩:=GN hi e hk;cases x <;> first | (exact absurd rfl (h1 _ _)) | (exact absurd rfl (h2 _)) | (simp only [VM.binOp,e,ax,aI])
theorem IZ {op:BinOp} {t:TypeId} {x y:AV} {K:AV→Option β} (h:SL T op t x y K=some r): ∃v,VM.binOp T op t x y= .ok v∧K v=some r:=by
 obtain ⟨i,hi,h⟩:=cy h;split at h
 ·obtain ⟨b,e,h⟩:=Ay hi h;refine ⟨_, ?_,h⟩;rw [Nb hi e ‹_›]
 ·obtain ⟨b,e,h⟩:=Ay hi h;refine ⟨_, ?_,h⟩;rw [Oe hi e ‹_›]
 ·split at h
  ·obtain ⟨a,hx,h⟩:=lN h;obtain ⟨b,hy,h⟩:=lN h;obtain ⟨h1,h⟩:=dX h;exact ⟨_,by simp only [hx,hy,VM.binOp,GJ,h1],h⟩
  ·obtain ⟨a,hx,h⟩:=lQ h;obtain ⟨b,hy,h⟩:=lQ h;obtain ⟨h1,h⟩:=dX h;have h1:¬ b=0:=by simpa using h1
   exact ⟨_,by simp only [hx,hy,VM.binOp,DI,if_true,if_neg h1],h⟩
  ·obtain ⟨a,hx,h⟩:=lQ h;obtain ⟨b,hy,h⟩:=lQ h;obtain ⟨h1,h⟩:=dX h;have h1:¬ b=0:=by simpa using h1
   exact ⟨_,by simp only [hx,hy,VM.binOp,DI,if_true,if_neg h1],h⟩
  ·obtain ⟨a,hx,h⟩:=lQ h;obtain ⟨k',b,hy,h⟩:=nI h;obtain ⟨h1,h⟩:=dX h;have h1:¬ b < 0:=by simpa using h1
   exact ⟨_,by simp only [hx,hy,VM.binOp,if_neg h1],h⟩
  ·obtain ⟨a,hx,h⟩:=lQ h;obtain ⟨k',b,hy,h⟩:=nI h;obtain ⟨h1,h⟩:=dX h;have h1:¬ b < 0:=by simpa using h1
   exact ⟨_,by simp only [hx,hy,VM.binOp,if_neg h1],h⟩
  ·obtain ⟨v,e,h⟩:=bz h;exact ⟨v,tb e,h⟩
end
section
variable {β:Type} {r:β} {N:Nat} {p:PF} {fr:Fr} {E:Env} {st:St}
theorem HX {i:TI} {e:TypeId} {s:AV} {new new':List AV} {K:Kv β} (hf:fits new= .ok new') (hz:(new'.all fun v=>v.cells.length.beq i.size)=true) (h:eD i.size i.bytes e s new' st K=some r):
  ∃v x,dS E st (iA i e s new) v x∧K v (x.did.app st) x=some r:=by
 obtain ⟨u,st',x,eo,h⟩:=nK h;cases new with
 | nil=>
  cases hf;simp only [uY] at eo;split at eo
  ·cases eo;exact ⟨_,q0,jt.always fun _=>by simp only [iA,aI,ax,aC];rfl,h⟩
  ·cases eo;exact ⟨_,q0,jt.always fun _=>by simp only [iA,aI,ax,aC];rfl,h⟩
  ·cases eo;exact ⟨_,q0,jt.always fun _=>by simp only [iA,aI,ax,aC];rfl,h⟩
  ·cases eo
 | cons v l=>
  have hf':=hf;simp only [fits,ae,ak] at hf';obtain ⟨v',_,l',_,rfl⟩:=hf';simp only [uY] at eo;split at eo
  ·split at eo
   ·rename_i h1;have h1:cZ (v'::l').length i=true:=h1;obtain ⟨hp,rfl⟩:=lP (E:=E) eo;refine ⟨u,x,dS.of ?_ hp,h⟩;simp only [iA,hf,ax,hz,h1,aI]
   ·cases eo
  ·rename_i y es pm;split at eo
   ·rename_i h1;have h1:(cZ (es.length+(v'::l').length) i&&y.beq i.size)=true:=h1;cases pm with
    | shut=>
     obtain ⟨hp,rfl⟩:=lP (E:=E) eo;refine ⟨u,x,dS.of ?_ hp,h⟩;simp only [iA,hf,ax,hz,h1,aI]
    | own k=>
     dsimp only at eo;split at eo
     ·rename_i n e' hg;split at eo
      ·rename_i h2;obtain ⟨h3,rfl,rfl,rfl⟩:=qb eo;refine ⟨_,⟨[k],.wrote k _⟩,jt.always fun _=> ?_,h⟩;simp only [iA,hf,ax,hz,h1,aI,aC,hg,h2,h3]
      ·cases eo
     ·cases eo
    | wide=>cases eo
   ·cases eo
  ·split at eo
   ·rename_i h1;have h1:cZ (v'::l').length i=true:=h1;obtain ⟨hp,rfl⟩:=lP (E:=E) eo;refine ⟨u,x,dS.of ?_ hp,h⟩;simp only [iA,hf,ax,hz,h1,aI]
   ·cases eo
  ·cases eo
def kL (S:Sx) (fr:Fr) (o:Op):cM dF:=eK S.T S.prim S.imm S.G fr o
theorem G4 {S:Sx} (hO:Mp E S.O) {o:Op} {K:Kv β} (h:NL S o p st K=some r) (hs:Sub N p fr): ∃v x,dS E st (kL S fr o) v x∧K v (x.did.app st) x=some r:=by
 have val: ∀{w:AV},kL S fr o= .ok (.val w)→K w st q0=some r→ ∃v x,dS E st (kL S fr o) v x∧K v (x.did.app st) x=some r:=fun {w} e h=>⟨w,q0,dS.of e.symm (jt.always fun _=>rfl),h⟩;have by_: ∀{q:cM dF},kL S fr o=q→cK S.O q st K=some r→ ∃v x,dS E st (kL S fr o) v x∧K v (x.did.app st) x=some r:=fun {q} e h=>by
  obtain ⟨v,x,hp,h⟩:=FG hO h;exact ⟨v,x,dS.of e.symm hp,h⟩
 have new_: ∀{ob:Obj} {f:Nat→AV},kL S fr o= .ok (.new ob f)→made st ob f K=some r→ ∃v x,dS E st (kL S fr o) v x∧K v (x.did.app st) x=some r:=fun {ob f} e h=>by
  obtain ⟨v,x,hp,h⟩:=IP (E:=E) h;exact ⟨v,x,dS.of e.symm hp,h⟩
 unfold NL at h;split at h
 ·obtain ⟨v,e,h⟩:=bM h hs;exact val (by simp only [kL,eK,e,ax,aI]) h
 ·obtain ⟨v,e,h⟩:=bM h hs;exact val (by simp only [kL,eK,e,ax,aI]) h
 ·obtain ⟨c,e,h⟩:=bM h hs;obtain ⟨b,rfl,h⟩:=xV h;cases b with
  | true=>
   obtain ⟨v,e',h⟩:=bM h hs;exact val (by simp only [kL,eK,e,e',ax,aI,VM.asBool]) h
  | false=>
   obtain ⟨v,e',h⟩:=bM h hs;exact val (by simp only [kL,eK,e,e',ax,aI,VM.asBool]) h
 ·obtain ⟨i,e,h⟩:=cy h;exact new_ (by simp only [kL,eK,e,ax,aI]) h
 ·-- box
  obtain ⟨i,e,h⟩:=cy h;obtain ⟨v,e',h⟩:=bM h hs;obtain ⟨h,_,_⟩:=pL h;obtain ⟨h1,h⟩:=dX h;obtain ⟨h2,h⟩:=mb h;split at h
  ·rename_i hi;obtain ⟨cs,h3,h⟩:=uW h;exact val (by simp only [kL,eK,e,e',ax,aI,LO,h1,h2,V6,hi,h3]) h
  ·rename_i hi;exact new_ (by simp only [kL,eK,e,e',ax,LO,h1,h2,V6,hi]) h
 ·-- build
  obtain ⟨i,e,h⟩:=cy h;split at h
  ·rename_i fs hu;obtain ⟨vs,h1,h⟩:=sV h hs;obtain ⟨sz,h2,h⟩:=vz h;obtain ⟨cs,h3,h⟩:=oc h;exact val (by simp only [kL,eK,build,e,hu,h1,h2,h3,ax,aI]) h
  ·rename_i ee hu;obtain ⟨vs,h1,h⟩:=sV h hs;obtain ⟨ie,h2,h⟩:=cy h;obtain ⟨cs,h3,h⟩:=oc h;exact val (by simp only [kL,eK,build,e,hu,h1,h2,h3,ax,aI]) h
  ·cases h
 ·-- buildSlice
  obtain ⟨i,e,h⟩:=cy h;split at h
  ·rename_i ee hu;obtain ⟨ie,h2,h⟩:=cy h;obtain ⟨vs,h1,h⟩:=sV h hs;obtain ⟨h4,h⟩:=dX h;obtain ⟨cs,h3,h⟩:=oc h;obtain ⟨h5,h⟩:=mb h;split at h
   ·rename_i gs h6;obtain ⟨gs',h7,h⟩:=sa h;exact val (by simp only [kL,eK,buildSlice,e,hu,h1,h2,h3,h4,h5,h6,h7,ax,aI]) h
   ·cases h
  ·cases h
 ·-- makeSlice
  obtain ⟨l,e,h⟩:=bM h hs;obtain ⟨c,e',h⟩:=bM h hs;exact by_ (by simp only [kL,eK,e,e',ax]) h
 ·-- load
  obtain ⟨i,e,h⟩:=cy h;obtain ⟨a,e',h⟩:=bM h hs;obtain ⟨v,x,hp,h⟩:=Fu (E:=E) h;exact ⟨v,x,dS.of (by simp only [kL,eK,e,e',ax]) hp,h⟩
 ·-- store
  obtain ⟨i,e,h⟩:=cy h;obtain ⟨a,e1,h⟩:=bM h hs;obtain ⟨v,e2,h⟩:=bM h hs;obtain ⟨h,_,_⟩:=pL h;obtain ⟨h2,h⟩:=mb h;obtain ⟨u,x,hp,h⟩:=CN hO h2 h;refine ⟨u,x,dS.of ?_ hp,h⟩;simp only [kL,eK,e,e1,e2,ax];cases a <;> rfl
 ·-- nilCheck
  obtain ⟨a,e1,h⟩:=bM h hs;obtain ⟨hn,h⟩:=dX h;refine val ?_ h;unfold notNil at hn;split at hn
  ·simp only [kL,eK,e1,ax,aI]
  ·simp only [kL,eK,e1,ax,aI]
  ·simp only [kL,eK,e1,ax,aI]
  ·simp only [kL,eK,e1,ax,aI]
  ·cases hn
 ·-- binOp
  obtain ⟨a,e1,h⟩:=bM h hs;obtain ⟨b,e2,h⟩:=bM h hs;split at h
  ·rename_i hc;obtain ⟨v,e3,h⟩:=bz h;have e3:Mo _ a=some v:=e3;exact val (by simp only [kL,eK,xI,hc,e1,e2,e3,ax,aI]) h
  ·rename_i hc;obtain ⟨v,e3,h⟩:=IZ h;exact val (by simp only [kL,eK,xI,hc,e1,e2,e3,ax,aI]) h
 ·-- unOp
  obtain ⟨a,e1,h⟩:=bM h hs;obtain ⟨v,e2,h⟩:=bz h;exact val (by simp only [kL,eK,e1,tb e2,ax,aI]) h
 ·-- convert
  obtain ⟨a,e1,h⟩:=bM h hs;exact by_ (by simp only [kL,eK,e1,ax]) h
 ·-- makeInterface
  obtain ⟨i,e,h⟩:=cy h;split at h
  ·cases h
  ·cases h
  ·rename_i h1 h2;obtain ⟨a,e1,h⟩:=bM h hs;refine val ?_ h;simp only [kL,eK,e,e1,ax,aI]
 ·-- makeFunc
  obtain ⟨a,e1,h⟩:=td h hs;obtain ⟨c,e2,h⟩:=td h hs;exact val (by simp only [kL,eK,e1,e2,ax,aI]) h
 ·-- makeMap
  exact new_ (by simp only [kL,eK]) h
 ·-- slice
  rename_i t x lo hi mx;split at h
  ·cases h
  ·obtain ⟨i,e,h⟩:=cy h;obtain ⟨x',e1,h⟩:=bM h hs;obtain ⟨lo',lo'',e2,e2',h⟩:=yJ h hs;obtain ⟨hi',hi'',e3,e3',h⟩:=yJ h hs;obtain ⟨mx',mx'',e4,e4',h⟩:=yJ h hs;split at h
   ·rename_i hu;obtain ⟨s,rfl,h⟩:=lN h;split at h
    ·obtain ⟨a,h1,h⟩:=KI h;obtain ⟨b,h2,h⟩:=Lc h;refine val ?_ h;simp only [kL,eK,e1,e2,e3,e4,ax,lJ,e2',e3',e4',e,hu,h1,h2,aI]
    ·cases h
   ·rename_i ee hu;obtain ⟨ie,he,h⟩:=cy h;obtain ⟨v,h1,h⟩:=Dt e hu he e2' e3' e4' h;refine val ?_ h;simp only [kL,eK,e1,e2,e3,e4,ax,h1,aI]
   ·cases h
 ·-- fieldAddr
  obtain ⟨i,e,h⟩:=cy h;split at h
  ·rename_i fs hu;split at h
   ·rename_i off ft hf;obtain ⟨fi,e1,h⟩:=cy h;split at h
    ·cases h
    ·rename_i hz;obtain ⟨a,e2,h⟩:=bM h hs;rcases Bc h with ⟨cs,rfl,h⟩ | ⟨id,o,rfl,h⟩ | ⟨id,m,o,rfl,h⟩
     ·exact val (by simp only [kL,eK,fieldAddr,e,e2,hu,hf,e1,hz,ax,aI]) h
     ·exact val (by simp only [kL,eK,fieldAddr,e,e2,hu,hf,e1,hz,ax,aI]) h
     ·exact val (by simp only [kL,eK,fieldAddr,e,e2,hu,hf,e1,hz,ax,aI]) h
   ·cases h
  ·cases h
 ·-- field
  obtain ⟨a,e1,h⟩:=bM h hs;obtain ⟨v,e2,h⟩:=bz h;exact val (by simp only [kL,eK,e1,tb e2,ax,aI]) h
 ·-- indexAddr
  obtain ⟨i,e,h⟩:=cy h;obtain ⟨x,e1,h⟩:=bM h hs;obtain ⟨j,e2,h⟩:=bM h hs;obtain ⟨k,n,rfl,h⟩:=nI h;split at h
  ·rename_i ee hu;obtain ⟨ie,he,h⟩:=cy h;obtain ⟨v,x',hp,h⟩:=Ij (E:=E) (k:=k) e hu he h;refine ⟨v,x',dS.of ?_ hp,h⟩;simp only [kL,eK,e1,e2,ax];cases x <;> rfl
  ·rename_i len ee hu;obtain ⟨ie,he,h⟩:=cy h;obtain ⟨v,x',hp,h⟩:=HJ (E:=E) (k:=k) e hu he h;refine ⟨v,x',dS.of ?_ hp,h⟩;simp only [kL,eK,e1,e2,ax];cases x <;> rfl
  ·cases h
 ·-- index
  obtain ⟨i,e,h⟩:=cy h;obtain ⟨x,e1,h⟩:=bM h hs;obtain ⟨j,e2,h⟩:=bM h hs;split at h
  ·rename_i hu;obtain ⟨s,rfl,h⟩:=lN h;obtain ⟨k,n,rfl,h⟩:=nI h;obtain ⟨m,h1,h⟩:=tf h;split at h
   ·rename_i b h2;exact val (by simp only [kL,eK,e1,e2,ax,xg,VM.asInt,e,hu,h1,h2,aI]) h
   ·cases h
  ·obtain ⟨v,e3,h⟩:=bz h;exact val (by simp only [kL,eK,e1,e2,tb e3,ax,aI]) h
 ·-- lookup
  obtain ⟨x,e1,h⟩:=bM h hs;obtain ⟨j,e2,h⟩:=bM h hs;exact by_ (by simp only [kL,eK,e1,e2,ax]) h
 ·obtain ⟨x,e1,h⟩:=bM h hs;obtain ⟨j,e2,h⟩:=bM h hs;obtain ⟨v,e3,h⟩:=bM h hs;exact by_ (by simp only [kL,eK,e1,e2,e3,ax]) h
 ·obtain ⟨x,e1,h⟩:=bM h hs;obtain ⟨j,e2,h⟩:=bM h hs;obtain ⟨v,e3,h⟩:=bM h hs;exact by_ (by simp only [kL,eK,e1,e2,e3,ax]) h
 ·-- range
  obtain ⟨x,e1,h⟩:=bM h hs;obtain ⟨i,e,h⟩:=cy h;split at h
  ·rename_i hu;obtain ⟨s,hx,h'⟩:=lN h;exact new_ (by simp only [kL,eK,e,e1,ax,hu,hx,aI]) h'
  ·cases h
 ·-- next
  obtain ⟨x,e1,h⟩:=bM h hs;exact by_ (by simp only [kL,eK,e1,ax]) h
 ·-- extract
  obtain ⟨x,e1,h⟩:=bM h hs;obtain ⟨vs,rfl,h⟩:=K7 h;obtain ⟨v,e2,h⟩:=HO h;exact val (by simp only [kL,eK,e1,ax,Dc e2,aI]) h
 ·-- call
  rename_i c;obtain ⟨args,e1,h⟩:=td h hs;split at h
  ·rename_i b hc;have e2:kL S fr (.call c)=fh S.T S.imm b c.argTypes.toList args:=by simp only [kL,eK,e1,ax,hc]
   split at h
   ·rename_i x t ts x' ea et;obtain ⟨i,e,h⟩:=cy h;split at h
    ·rename_i hu;obtain ⟨s,rfl,h⟩:=lN h;exact val (by simp only [e2,et,fh,zw,e,ax,hu,aI]) h
    ·rename_i ee hu;obtain ⟨n,eo,h⟩:=bz h;refine val ?_ h;unfold SN at eo;split at eo
     ·cases eo;simp only [e2,et,fh,zw,e,ax,hu,aI];rfl
     ·cases eo;simp only [e2,et,fh,zw,e,ax,hu,aI]
     ·cases eo;simp only [e2,et,fh,zw,e,ax,hu,aI]
     ·cases eo;simp only [e2,et,fh,zw,e,ax,hu,aI]
     ·cases eo;simp only [e2,et,fh,zw,e,ax,hu,aI];rfl
     ·cases eo
    ·exact by_ (by simp only [e2,et,fh]) h
   ·rename_i t xt s x et;obtain ⟨i,e,h⟩:=cy h;obtain ⟨xi,e',h⟩:=cy h;split at h
    ·rename_i ee hu hn;obtain ⟨ie,he,h⟩:=cy h;unfold mU at h;split at h
     ·rename_i new hnew;split at h
      ·rename_i him;exact by_ (by simp only [e2,et,fh,e,e',ax,hu,hn,he,hnew,him]) h
      split at h
      ·rename_i him _ him2;exact by_ (by simp only [e2,et,fh,e,e',ax,hu,hn,he,hnew,him,him2]) h
      split at h
      ·rename_i him _ him2 _ him3;exact by_ (by simp only [e2,et,fh,e,e',ax,hu,hn,he,hnew,him,him2,him3]) h
      ·rename_i him _ him2 _ him3;obtain ⟨new',h1,h⟩:=sa h;obtain ⟨h2,h⟩:=dX h;obtain ⟨v,x',hp,h⟩:=HX (E:=E) h1 h2 h;refine ⟨v,x',dS.of ?_ hp,h⟩;simp only [e2,et,fh,e,e',ax,hu,hn,he,hnew,him,him2,him3]
     ·cases h
    ·cases h
   ·exact by_ e2 h
  ·rename_i f hc;obtain ⟨g,e2,h⟩:=bM h hs;obtain ⟨v,st',x,eo,h⟩:=nK h;obtain ⟨hp,rfl⟩:=sg hO eo;refine ⟨v,x,dS.of ?_ hp,h⟩;simp only [kL,eK,e1,e2,ax,hc,Hs,aI];cases g <;> first | rfl | (rename_i f _ _;cases f <;> rfl)
  ·cases h
 ·cases h
end
section frame
variable {X:Cx}
theorem A5 {fr:Fr} {d:Option Nat} {v:AV} {i:Nat} (h:d≠some i):(fr.put d v).look i=fr.look i:=by
 cases d with
 | none=>rfl
 | some d=>
  by_cases hd:d < fr.n
  ·rw [DL hd,if_neg fun e=>h (by rw [e])]
  ·have hb:d.blt fr.n=false:=cP.2 (by omega);have e:fr.put (some d) v=fr:=by simp only [Fr.put,hb]
   rw [e]
theorem uF {n:Nat}: ∀{l:List Nat},sK n l=true↔n∈l
 | []=>by simp [sK]
 | m::l=>by simp [sK,uF (l:=l)]
theorem jU {all:List Oper} {draw:Bool}: ∀{l:List Oper} {j:Nat} {seen:List (Nat×Fx)} {fr fr':Fr} {st st':St},dH X all draw j seen l fr st= .ok (fr',st')→
  fr'.n=fr.n∧ ∀i,i∉cD l→fr'.look i=fr.look i
 | [],_,_,_,_,_,_,h=>by simp only [dH,Vi,Vk] at h;obtain ⟨rfl,rfl⟩:=h;exact ⟨rfl,fun _ _=>rfl⟩
 | o::l,j,seen,fr,fr',st,st',h=>by
  simp only [dH,ae] at h;obtain ⟨⟨v,x⟩,_,h⟩:=h;have key:fr'.n=(fr.put o.dst v).n∧ ∀i,i∉cD l→fr'.look i=(fr.put o.dst v).look i:=by
   dsimp only at h;split at h
   ·exact jU h
   ·split at h
    ·exact jU h
    ·cases h
  refine ⟨key.1.trans (Fr.KH _ _ _),fun i hi=> ?_⟩;have h1:i∉cD l∧o.dst≠some i:=by
   cases hd:o.dst with
   | none=>simp [cD,hd] at hi;exact ⟨hi,by simp⟩
   | some d=>
    simp [cD,hd] at hi;exact ⟨hi.2,fun e=>hi.1 (by cases e;rfl)⟩
  rw [key.2 i h1.1,A5 h1.2]
theorem jk {e:Nat→Option Nat} {all:List Oper}: ∀{l:List Oper} {j:Nat} {seen:List (Nat×Fx)} {fr fr':Fr} {st st':St},cS X e all j seen l fr st= .ok (fr',st')→
  fr'.n=fr.n∧ ∀i,i∉cD l→fr'.look i=fr.look i
 | [],_,_,_,_,_,_,h=>by simp only [cS,Vi,Vk] at h;obtain ⟨rfl,rfl⟩:=h;exact ⟨rfl,fun _ _=>rfl⟩
 | o::l,j,seen,fr,fr',st,st',h=>by
  simp only [cS,ae] at h;obtain ⟨⟨v,x⟩,_,h⟩:=h;have key:fr'.n=(fr.put o.dst v).n∧ ∀i,i∉cD l→fr'.look i=(fr.put o.dst v).look i:=by
   dsimp only at h;split at h
   ·exact jk h
   ·split at h
    ·exact jk h
    ·cases h
  refine ⟨key.1.trans (Fr.KH _ _ _),fun i hi=> ?_⟩;have h1:i∉cD l∧o.dst≠some i:=by
   cases hd:o.dst with
   | none=>simp [cD,hd] at hi;exact ⟨hi,by simp⟩
   | some d=>
    simp [cD,hd] at hi;exact ⟨hi.2,fun e=>hi.1 (by cases e;rfl)⟩
  rw [key.2 i h1.1,A5 h1.2]
theorem xy {body:Fr→St→cM (Ex×Fr×St)} {W:List Nat} (hb: ∀fr st ex fr' st',body fr st= .ok (ex,fr',st')→fr'.n=fr.n∧ ∀i,i∉W→fr'.look i=fr.look i):
  ∀(n:Nat) {fr fr':Fr} {st st':St} {ex:Ex},iter body n fr st= .ok (ex,fr',st')→fr'.n=fr.n∧ ∀i,i∉W→fr'.look i=fr.look i
 | 0,_,_,_,_,_,h=>by simp [iter] at h
 | n+1,fr,fr',st,st',ex,h=>by
  simp only [iter,ae] at h;obtain ⟨⟨ex1,fr1,st1⟩,h1,h2⟩:=h;have k1:=hb _ _ _ _ _ h1;cases ex1 with
  | normal=>
   have k2:=xy hb n h2;exact ⟨k2.1.trans k1.1,fun i hi=>(k2.2 i hi).trans (k1.2 i hi)⟩
  | exit id=>
   simp only [ak,Vk] at h2;obtain ⟨_,rfl,_⟩:=h2;exact k1
  | ret=>
   simp only [ak,Vk] at h2;obtain ⟨_,rfl,_⟩:=h2;exact k1
theorem th {n:Nat} {x:Operand} {ps:Array Tmp} {y c:Code} {fr fr':Fr} {st st':St} {ex:Ex} (h:exec X n (.rangeFunc x ps y c) fr st= .ok (ex,fr',st')):fr'=fr:=by
 simp only [exec] at h;split at h
 ·cases h
 ·simp only [ae] at h;obtain ⟨fv,h1,h⟩:=h;split at h
  ·simp only [ae] at h;obtain ⟨q,h2,o,h3,h4⟩:=h;split at h4
   ·split at h4
    ·simp only [ak,Vk] at h4;exact h4.2.1.symm
    ·cases h4
   ·cases h4
  ·cases h
theorem lL {all:List Oper} {draw:Bool}: ∀{l:List Oper} {j:Nat} {seen:List (Nat×Fx)} {fr fr':Fr} {st st':St},dH X all draw j seen l fr st= .ok (fr',st')→fr'.strict=fr.strict
 | [],_,_,_,_,_,_,h=>by simp only [dH,Vi,Vk] at h;rw [h.1]
 | o::l,j,seen,fr,fr',st,st',h=>by
  simp only [dH,ae] at h;obtain ⟨⟨v,x⟩,_,h⟩:=h;have key:fr'.strict=(fr.put o.dst v).strict:=by
   dsimp only at h;split at h
   ·exact lL h
   ·split at h
    ·exact lL h
    ·cases h
  exact key.trans (gQ _ _ _)
theorem kM {e:Nat→Option Nat} {all:List Oper}: ∀{l:List Oper} {j:Nat} {seen:List (Nat×Fx)} {fr fr':Fr} {st st':St},cS X e all j seen l fr st= .ok (fr',st')→fr'.strict=fr.strict
 | [],_,_,_,_,_,_,h=>by simp only [cS,Vi,Vk] at h;rw [h.1]
 | o::l,j,seen,fr,fr',st,st',h=>by
  simp only [cS,ae] at h;obtain ⟨⟨v,x⟩,_,h⟩:=h;have key:fr'.strict=(fr.put o.dst v).strict:=by
   dsimp only at h;split at h
   ·exact kM h
   ·split at h
    ·exact kM h
    ·cases h
  exact key.trans (gQ _ _ _)
theorem vL {body:Fr→St→cM (Ex×Fr×St)} (hb: ∀fr st ex fr' st',body fr st= .ok (ex,fr',st')→fr'.strict=fr.strict): ∀(n:Nat) {fr fr':Fr} {st st':St} {ex:Ex},iter body n fr st= .ok (ex,fr',st')→fr'.strict=fr.strict
 | 0,_,_,_,_,_,h=>by simp [iter] at h
 | n+1,fr,fr',st,st',ex,h=>by
  simp only [iter,ae] at h;obtain ⟨⟨ex1,fr1,st1⟩,h1,h2⟩:=h;have k1:=hb _ _ _ _ _ h1;cases ex1 with
  | normal=>exact (vL hb n h2).trans k1
  | exit id=>
   simp only [ak,Vk] at h2;rw [← h2.2.1];exact k1
  | ret=>
   simp only [ak,Vk] at h2;rw [← h2.2.1];exact k1
theorem fD {n:Nat}: ∀(c:Code) {fr fr':Fr} {st st':St} {ex:Ex},exec X n c fr st= .ok (ex,fr',st')→fr'.strict=fr.strict
 | .skip,_,_,_,_,_,h | .label _,_,_,_,_,_,h | .exit _,_,_,_,_,_,h | .ret,_,_,_,_,_,h=>by
  simp only [exec,Vi,Vk] at h;rw [h.2.1]
 | .goto _,_,_,_,_,_,h | .refuse _,_,_,_,_,_,h=>by simp [exec] at h
 | .rangeFunc ..,_,_,_,_,_,h=>by rw [th h]
 | .scope c,_,_,_,_,_,h=>fD c h
 | .region _ _ _,_,_,_,_,_,h=>by
  simp only [exec] at h;split at h <;> simp only [ae,ak] at h <;> obtain ⟨⟨fr1,st1⟩,h1,h2⟩:=h <;> simp only [Vk] at h2 <;> obtain ⟨_,rfl,_⟩:=h2
  ·exact lL h1
  ·exact kM h1
 | .seq a b,_,_,_,_,_,h=>by
  simp only [exec,ae] at h;obtain ⟨⟨ex1,fr1,st1⟩,h1,h2⟩:=h;have k1:=fD a h1;cases ex1 with
  | normal=>exact (fD b h2).trans k1
  | exit id=>simp only [ak,Vk] at h2;rw [← h2.2.1];exact k1
  | ret=>simp only [ak,Vk] at h2;rw [← h2.2.1];exact k1
 | .cond c a b,_,_,_,_,_,h=>by
  simp only [exec,ae] at h;obtain ⟨cv,_,v,_,h3⟩:=h;cases v
  ·exact fD b h3
  ·exact fD a h3
 | .block id c,_,_,_,_,_,h=>by
  simp only [exec,ae] at h;obtain ⟨⟨ex1,fr1,st1⟩,h1,h2⟩:=h;have k1:=fD c h1;cases ex1 with
  | normal=>simp only [ak,Vk] at h2;rw [← h2.2.1];exact k1
  | ret=>simp only [ak,Vk] at h2;rw [← h2.2.1];exact k1
  | exit i=>
   dsimp only at h2;split at h2 <;> (simp only [ak,Vk] at h2;rw [← h2.2.1];exact k1)
 | .loop c,_,_,_,_,_,h=>by
  simp only [exec] at h;exact vL (fun _ _ _ _ _ h=>fD c h) n h
theorem fc {n:Nat}: ∀(c:Code) {fr fr':Fr} {st st':St} {ex:Ex},exec X n c fr st= .ok (ex,fr',st')→fr'.n=fr.n∧ ∀i,i∉writes c→fr'.look i=fr.look i
 | .skip,_,_,_,_,_,h | .label _,_,_,_,_,_,h | .exit _,_,_,_,_,_,h | .ret,_,_,_,_,_,h=>by
  simp only [exec,Vi,Vk] at h;obtain ⟨_,rfl,_⟩:=h;exact ⟨rfl,fun _ _=>rfl⟩
 | .goto _,_,_,_,_,_,h | .refuse _,_,_,_,_,_,h=>by simp [exec] at h
 | .rangeFunc ..,_,_,_,_,_,h=>by
  obtain rfl:=th h;exact ⟨rfl,fun _ _=>rfl⟩
 | .scope c,_,_,_,_,_,h=>fc c h
 | .region _ _ _,_,_,_,_,_,h=>by
  simp only [exec] at h;split at h
  ·simp only [ae,ak] at h;obtain ⟨⟨fr1,st1⟩,h1,h2⟩:=h;simp only [Vk] at h2;obtain ⟨_,rfl,_⟩:=h2;exact jU h1
  ·simp only [ae,ak] at h;obtain ⟨⟨fr1,st1⟩,h1,h2⟩:=h;simp only [Vk] at h2;obtain ⟨_,rfl,_⟩:=h2;exact jk h1
 | .seq a b,_,_,_,_,_,h=>by
  simp only [exec,ae] at h;obtain ⟨⟨ex1,fr1,st1⟩,h1,h2⟩:=h;have k1:=fc a h1;cases ex1 with
  | normal=>
   have k2:=fc b h2;exact ⟨k2.1.trans k1.1,fun i hi=>by
    simp only [writes,VE,not_or] at hi;exact (k2.2 i hi.2).trans (k1.2 i hi.1)⟩
  | exit id=>
   simp only [ak,Vk] at h2;obtain ⟨_,rfl,_⟩:=h2;exact ⟨k1.1,fun i hi=>k1.2 i fun hm=>hi (VE.2 (.inl hm))⟩
  | ret=>
   simp only [ak,Vk] at h2;obtain ⟨_,rfl,_⟩:=h2;exact ⟨k1.1,fun i hi=>k1.2 i fun hm=>hi (VE.2 (.inl hm))⟩
 | .cond c a b,_,_,_,_,_,h=>by
  simp only [exec,ae] at h;obtain ⟨cv,_,v,_,h3⟩:=h;cases v
  ·have k:=fc b h3;exact ⟨k.1,fun i hi=>k.2 i fun hm=>hi (VE.2 (.inr hm))⟩
  ·have k:=fc a h3;exact ⟨k.1,fun i hi=>k.2 i fun hm=>hi (VE.2 (.inl hm))⟩
 | .block id c,_,_,_,_,_,h=>by
  simp only [exec,ae] at h;obtain ⟨⟨ex1,fr1,st1⟩,h1,h2⟩:=h;have k1:=fc c h1;cases ex1 with
  | normal=>simp only [ak,Vk] at h2;obtain ⟨_,rfl,_⟩:=h2;exact k1
  | ret=>simp only [ak,Vk] at h2;obtain ⟨_,rfl,_⟩:=h2;exact k1
  | exit i=>
   dsimp only at h2;split at h2 <;> (simp only [ak,Vk] at h2;obtain ⟨_,rfl,_⟩:=h2;exact k1)
 | .loop c,_,_,_,_,_,h=>by
  simp only [exec] at h;exact xy (fun _ _ _ _ _ h=>fc c h) n h
end frame
section
variable {β:Type} {r:β} {N:Nat} {E:Env}
theorem Sub.put {p:PF} {fr:Fr} {d:Nat} {v:AV} (hs:Sub N p fr) (hd:d < N):Sub N ((d,v)::p) (fr.put (some d) v):=by
 refine ⟨(Fr.KH _ _ _).trans hs.1,fun i u hu=> ?_⟩;rw [PF.lV] at hu;rw [DL (by rw [hs.1];exact hd)];split at hu
 ·rename_i e;rw [if_pos e];cases hu;rfl
 ·rename_i e;rw [if_neg e];exact hs.2 i u hu
theorem Sub.Kl {p:PF} {fr:Fr} {d:Nat} {v:AV} (hs:Sub N p fr) (hd:fr.look d=some v):Sub N ((d,v)::p) fr:=by
 refine ⟨hs.1,fun i u hu=> ?_⟩;rw [PF.lV] at hu;split at hu
 ·rename_i e;cases hu;rw [← e];exact hd
 ·exact hs.2 i u hu
theorem np {d:Option Tmp} {v:AV} {p:PF} {fr:Fr} {K:PF→Option β} (h:xT N d v p K=some r) (hs:Sub N p fr): ∃p',Sub N p' (fr.put d v)∧K p'=some r:=by
 cases d with
 | none=>exact ⟨p,hs,h⟩
 | some d=>
  simp only [xT] at h;split at h
  ·rename_i hb;exact ⟨_,hs.put (cH.1 hb),h⟩
  ·cases h
theorem vc {all:List Oper} {p:PF} {fr:Fr} {g:Option (Nat×Bool)} {yes no:PF→Option β} (h:B8 all p g yes no=some r) (hs:Sub N p fr):
  (wanted all fr g=true∧ ∃p',Sub N p' fr∧yes p'=some r)∨(wanted all fr g=false∧ ∃p',Sub N p' fr∧no p'=some r):=by
 unfold B8 at h;split at h
 ·exact .inl ⟨rfl,p,hs,h⟩
 ·rename_i j want;split at h
  ·rename_i d hd;split at h
   ·rename_i v hv;have hk:=hs.2 _ _ hv;have hg:=tE hk;split at h
    ·rename_i b;have hw:wanted all fr (some (j,want))=(b==want):=by simp only [wanted,hd,hg]
     cases want <;> cases b
     ·exact .inl ⟨by rw [hw];rfl,_,hs.Kl hk,h⟩
     ·exact .inr ⟨by rw [hw];rfl,_,hs.Kl hk,h⟩
     ·exact .inr ⟨by rw [hw];rfl,_,hs.Kl hk,h⟩
     ·exact .inl ⟨by rw [hw];rfl,_,hs.Kl hk,h⟩
    ·rename_i hno;refine .inr ⟨?_,p,hs,h⟩;simp only [wanted,hd,hg]
   ·cases h
  ·cases h
theorem qg {ops:List Oper} {j:Nat} {x:Fx}: ∀{seen:List (Nat×Fx)},oz ops j x seen=true→ ∀seen':List (Nat×Fx),(∀y∈seen',y∈seen)→oy ops j x seen'=true
 | seen,h,[],_=>rfl
 | seen,h,(i,y)::l,hsub=>by
  have h1: ∀(s:List (Nat×Fx)),oz ops j x s=true→(i,y)∈s→(behind ops (j+1) j i||apart y x)=true:=by
   intro s hs hm
   induction s with
   | nil=>cases hm
   | cons a s ih=>
    obtain ⟨i',y'⟩:=a;simp only [oz,Vl] at hs;rcases Vv.1 hm with e | hm
    ·cases e;exact hs.1
    ·exact ih hs.2 hm
  simp only [oy,Vl];refine ⟨?_,qg h l fun y hy=>hsub y (Vy _ hy)⟩;rw [Bool.or_comm];exact h1 seen h (hsub _ (Vp ..))
def cx (S:Sx) (E:Env) (n:Nat):Cx:=⟨S.T,S.prim,S.imm,S.G,caller E n⟩
theorem qT {S:Sx} (hO:Mp E S.O) {all:List Oper} {draw:Bool}: ∀{l:List Oper} {j:Nat} {seen seen':List (Nat×Fx)} {p:PF} {fr:Fr} {st:St} {K:PF→St→Option β},
  Cz S N all draw j seen l p st K=some r→Sub N p fr→(∀y∈seen',y∈seen)→ ∃fr' st' p',(jt fun n=>dH (cx S E n) all draw j seen' l fr st= .ok (fr',st'))∧Sub N p' fr'∧K p' st'=some r
 | [],_,_,_,p,fr,st,_,h,hs,_=>⟨fr,st,p,jt.always fun _=>rfl,hs,h⟩
 | o::l,j,seen,seen',p,fr,st,K,h,hs,hsub=>by
  simp only [Cz] at h;rcases vc h hs with ⟨hw,p1,hs1,h⟩ | ⟨hw,p1,hs1,h⟩
  ·obtain ⟨v,x,hp,h⟩:=G4 hO h hs1;have h:=jE (K:=fun v=>match draw with
    | false=>xT N o.dst v p1 fun p=>Cz S N all draw (j+1) seen l p (x.did.app st) K
    | true=>dJ (oz all j x seen) (xT N o.dst v p1 fun p=>Cz S N all draw (j+1) ((j,x)::seen) l p (x.did.app st) K)) h
   have hop: ∀n,(kL S fr o.op >>= aC (caller E n) st)= .ok (v,x)→oper (cx S E n) all fr st o= .ok (v,x):=fun n e=>by
    simp only [oper,hw];exact e
   cases draw with
   | false=>
    obtain ⟨p2,hs2,h⟩:=np h hs1;obtain ⟨fr',st',p',hev,hs',hK⟩:=qT hO (seen':=seen') h hs2 hsub;refine ⟨fr',st',p',(hp.both hev).lift fun n hn=> ?_,hs',hK⟩;simp only [dH,hop n hn.1,ax,WT];exact hn.2
   | true=>
    obtain ⟨ho,h⟩:=dX h;obtain ⟨p2,hs2,h⟩:=np h hs1;cases hq:quiet x with
    | true=>
     obtain ⟨fr',st',p',hev,hs',hK⟩:=qT hO (seen':=seen') h hs2 fun y hy=>Vy _ (hsub y hy);refine ⟨fr',st',p',(hp.both hev).lift fun n hn=> ?_,hs',hK⟩;simp only [dH,hop n hn.1,ax,hq,V9,W9];exact hn.2
    | false=>
     obtain ⟨fr',st',p',hev,hs',hK⟩:=qT hO (seen':=(j,x)::seen') h hs2 fun y hy=>by
      rcases Vv.1 hy with e | hy
      ·rw [e];exact Vp ..
      ·exact Vy _ (hsub y hy)
     refine ⟨fr',st',p',(hp.both hev).lift fun n hn=> ?_,hs',hK⟩;simp only [dH,hop n hn.1,ax,hq,Wg,V6,qg ho seen' hsub];exact hn.2
  ·obtain ⟨p2,hs2,h⟩:=np h hs1;obtain ⟨fr',st',p',hev,hs',hK⟩:=qT hO (seen':=seen') h hs2 hsub;refine ⟨fr',st',p',hev.lift fun n hn=> ?_,hs',hK⟩;have:oper (cx S E n) all fr st o= .ok (undef,⟨[],.kept⟩):=by simp only [oper,hw]
   simp only [dH,this,ax,quiet,List.isEmpty_nil,V9,W9];exact hn
theorem DV {T:TT} {t:TypeId} {i:TI} {nm:Nat} {st:St} {K:Kv β} (hi:ti T t= .ok i) (h:ER t i.zero nm st K=some r): ∃v x,vd T t nm st= .ok (v,x)∧K v (x.did.app st) x=some r:=by
 unfold ER nN at h;obtain ⟨⟨v,st',x⟩,h1,h2⟩:=bz h;unfold KF at h1;split at h1
 ·rename_i hg;unfold ma at h1;split at h1
  ·rename_i hro;cases h1;exact ⟨_,_,Eg (cb.1 hi) hg (VA hro),h2⟩
  ·cases h1
 ·cases h1
theorem pB {S:Sx} (hO:Mp E S.O) {e:Nat→Option Nat} {all:List Oper}: ∀{l:List Oper} {j:Nat} {seen seen':List (Nat×Fx)} {p:PF} {fr:Fr} {st:St} {K:PF→St→Option β},
  rh S N e all j seen l p st K=some r→Sub N p fr→(∀y∈seen',y∈seen)→ ∃fr' st' p',(jt fun n=>cS (cx S E n) e all j seen' l fr st= .ok (fr',st'))∧Sub N p' fr'∧K p' st'=some r
 | [],_,_,_,p,fr,st,_,h,hs,_=>⟨fr,st,p,jt.always fun _=>rfl,hs,h⟩
 | o::l,j,seen,seen',p,fr,st,K,h,hs,hsub=>by
  simp only [rh] at h;rcases vc h hs with ⟨hw,p1,hs1,h⟩ | ⟨hw,p1,hs1,h⟩
  ·have key: ∃v x,(jt fun n=>fK (cx S E n) e all fr st o= .ok (v,x))∧CS (Cb o.op) S.T o.type v (fun v=>dJ (oz all j x seen) (xT N o.dst v p1 fun p=>rh S N e all (j+1) ((j,x)::seen) l p (x.did.app st) K))=some r:=by
    unfold SS at h;split at h
    ·rename_i t nm hh;obtain ⟨i,hi,h⟩:=cy h;obtain ⟨v,x,h1,h2⟩:=DV hi h;refine ⟨v,x,jt.always fun n=> ?_,h2⟩;simp only [fK,hw,hh];exact h1
    ·rename_i hh;obtain ⟨v,x,hp,h⟩:=G4 hO h hs1;refine ⟨v,x,jt.lift hp fun n e1=> ?_,h⟩;simp only [fK,hw,hh];exact e1
   obtain ⟨v,x,hop,h⟩:=key;have h:=jE (K:=fun v=>dJ (oz all j x seen) (xT N o.dst v p1 fun p=>rh S N e all (j+1) ((j,x)::seen) l p (x.did.app st) K)) h;obtain ⟨ho,h⟩:=dX h;obtain ⟨p2,hs2,h⟩:=np h hs1;cases hq:quiet x with
   | true=>
    obtain ⟨fr',st',p',hev,hs',hK⟩:=pB hO (seen':=seen') h hs2 fun y hy=>Vy _ (hsub y hy);refine ⟨fr',st',p',(hop.both hev).lift fun n hn=> ?_,hs',hK⟩;simp only [cS,hn.1,ax,hq,V9];exact hn.2
   | false=>
    obtain ⟨fr',st',p',hev,hs',hK⟩:=pB hO (seen':=(j,x)::seen') h hs2 fun y hy=>by
     rcases Vv.1 hy with e | hy
     ·rw [e];exact Vp ..
     ·exact Vy _ (hsub y hy)
    refine ⟨fr',st',p',(hop.both hev).lift fun n hn=> ?_,hs',hK⟩;simp only [cS,hn.1,ax,hq,Wg,qg ho seen' hsub];exact hn.2
  ·obtain ⟨p2,hs2,h⟩:=np h hs1;obtain ⟨fr',st',p',hev,hs',hK⟩:=pB hO (seen':=seen') h hs2 hsub;refine ⟨fr',st',p',hev.lift fun n hn=> ?_,hs',hK⟩;have:fK (cx S E n) e all fr st o= .ok (undef,⟨[],.kept⟩):=by simp only [fK,hw]
   simp only [cS,this,ax,quiet,List.isEmpty_nil,V9];exact hn
theorem Bb {K:St→Option β}: ∀{l:List Nat} {st:St},Rb st l K=some r→K (st.lay l)=some r
 | [],_,h=>h
 | _::l,st,h=>Bb (l:=l) (st:=(st.new .yW).2) h
def N0 (fr:Fr):List Nat→List AV→Prop
 | [],vs=>vs=[]
 | i::l,vs=> ∃v vs',vs=v::vs'∧fr.look i=some v∧N0 fr l vs'
theorem di: ∀{l:List Nat} {p:PF} {fr:Fr} {K:List AV→Option β},getAll p l K=some r→Sub N p fr→ ∃vs,N0 fr l vs∧K vs=some r
 | [],_,_,_,h,_=>⟨[],rfl,h⟩
 | i::l,p,fr,K,h,hs=>by
  simp only [getAll] at h;split at h
  ·rename_i v hv;obtain ⟨vs,hvs,h⟩:=di h hs;exact ⟨v::vs,⟨v,vs,rfl,hs.2 _ _ hv,hvs⟩,h⟩
  ·cases h
theorem eu {T:TT} {tys:List (Nat×TypeId)}: ∀{l:List Nat} {vs:List AV} {p:PF} {fr:Fr} {K:PF→Option β},gW T tys l vs p K=some r→N0 fr l vs→Sub N p fr→ ∃p',Sub N p' fr∧K p'=some r
 | [],vs,p,fr,K,h,_,hs=>by
  obtain ⟨_,h⟩:=CM h;exact ⟨p,hs,h⟩
 | i::l,vs,p,fr,K,h,hv,hs=>by
  obtain ⟨v,vs',rfl,hd⟩:=Ee h;obtain ⟨v',vs'',e,hg,hvs⟩:=hv;cases e;have h:(gW T tys l vs' p fun p=>K ((i,v)::p))=some r:=by
   unfold GK at hd;split at hd
   ·exact jE (K:=fun v=>gW T tys l vs' p fun p=>K ((i,v)::p)) hd
   ·exact hd
  obtain ⟨p',hs',h⟩:=eu h hvs hs;exact ⟨_,hs'.Kl hg,h⟩
theorem qO {W:List Nat} {i:Nat} {v:AV}: ∀{p:PF},PF.get (erase W p) i=some v→PF.get p i=some v∧i∉W
 | [],h=>by cases h
 | (k,u)::p,h=>by
  simp only [erase] at h;split at h
  ·rename_i he;have ih:=qO h;refine ⟨?_,ih.2⟩;rw [PF.lV,if_neg]
   ·exact ih.1
   ·rintro rfl;exact ih.2 (uF.1 he)
  ·rename_i he;rw [PF.lV] at h;split at h
   ·rename_i e;refine ⟨by rw [PF.lV,if_pos e];exact h,fun hm=> ?_⟩;rw [← e] at hm;rw [uF.2 hm] at he;cases he
   ·rename_i e;have ih:=qO h;exact ⟨by rw [PF.lV,if_neg e];exact ih.1,ih.2⟩
theorem Sub.erased {W:List Nat} {p:PF} {fr fr':Fr} (hs:Sub N p fr) (hn:fr'.n=fr.n) (hf: ∀i,i∉W→fr'.look i=fr.look i):Sub N (erase W p) fr':=
 ⟨hn.trans hs.1,fun i v hv=>(hf i (qO hv).2).trans (hs.2 i v (qO hv).1)⟩
end
section
variable {β:Type} {r:β}
theorem oQ {σ:Type} {F:σ→Option (Sum σ β)} {s:σ} (h:bn F s=some r): ∃n,mI F n s=some r:=by
 unfold bn at h;split at h
 ·rename_i hx;cases h;exact hx.choose_spec
 ·cases h
theorem si {σ:Type} {F:σ→Option (Sum σ β)}: ∀{n m:Nat} {s:σ},n≤m→mI F n s=some r→mI F m s=some r
 | 0,_,_,_,h=>by cases h
 | n+1,0,_,hn,_=>by omega
 | n+1,m+1,s,hn,h=>by
  simp only [mI] at h ⊢;split at h
  ·exact si (by omega) h
  ·exact h
  ·cases h
theorem yI {σ:Type} {F:σ→Option (Sum σ β)} {s:σ} {n:Nat} (h:mI F n s=some r):bn F s=some r:=by
 have hx: ∃r n,mI F n s=some r:=⟨r,n,h⟩;unfold bn;rw [dif_pos hx];obtain ⟨m,hm⟩:=hx.choose_spec;have h1:=si (Nat.le_max_left m n) hm;have h2:=si (Nat.le_max_right m n) h;rw [h1] at h2;exact h2
theorem nu {σ:Type} (F:σ→Option (Sum σ β)) (s:σ):bn F s=match F s with
  | some (.inl s')=>bn F s'
  | some (.inr r)=>some r
  | none=>none:=by
 cases e:F s with
 | none=>
  cases h:bn F s with
  | none=>rfl
  | some r=>
   obtain ⟨n,hn⟩:=oQ h;cases n with
   | zero=>cases hn
   | succ n=>simp [mI,e] at hn
 | some x=>
  cases x with
  | inr r=>exact yI (n:=1) (by simp [mI,e])
  | inl s'=>
   dsimp only;cases h:bn F s' with
   | some r=>
    obtain ⟨n,hn⟩:=oQ h;exact yI (n:=n+1) (by simp only [mI,e];exact hn)
   | none=>
    cases h':bn F s with
    | none=>rfl
    | some r=>
     obtain ⟨n,hn⟩:=oQ h';cases n with
     | zero=>cases hn
     | succ n=>
      simp only [mI,e] at hn;rw [yI hn] at h;cases h
theorem As {K:Ex→Option β} {x:Ex}: ∀{l:List Ex} {n k:Nat},AY x l n=some k→n≤k∧Pq K l (k - n)=K x
 | [],_,_,h=>by cases h
 | y::l,n,k,h=>by
  simp only [AY] at h;split at h
  ·rename_i e;have e:=Xb e;cases h;refine ⟨Vn _, ?_⟩;rw [WZ, ← e];cases l <;> rfl
  ·obtain ⟨h1,h2⟩:=As (K:=K) h;refine ⟨by omega, ?_⟩;cases l with
   | nil=>cases h
   | cons z l=>
    have:k - n=(k - (n+1))+1:=by omega
    rw [this];exact h2
end
section
variable {N:Nat} {E:Env}
theorem jW {S:Sx} (hO:Mp E S.O) {tys:List (Nat×TypeId)}: ∀(c:Code) {live:List Nat} {β:Type} {r:β} {p:PF} {fr:Fr} {st:St} {K:Ex→PF→St→Option β},
  lh S N tys c live p st K=some r→Sub N p fr→(fr.strict=true→ct c=true)→ ∃ex fr' st' p',(jt fun n=>exec (cx S E n) n c fr st= .ok (ex,fr',st'))∧Sub N p' fr'∧K ex p' st'=some r
 | .skip,_,_,_,p,fr,st,_,h,hs,_=>⟨.normal,fr,st,p,jt.always fun _=>rfl,hs,h⟩
 | .label _,_,_,_,p,fr,st,_,h,hs,_=>⟨.normal,fr,st,p,jt.always fun _=>rfl,hs,h⟩
 | .exit i,_,_,_,p,fr,st,_,h,hs,_=>⟨.exit i,fr,st,p,jt.always fun _=>rfl,hs,h⟩
 | .ret,_,_,_,p,fr,st,_,h,hs,_=>⟨.ret,fr,st,p,jt.always fun _=>rfl,hs,h⟩
 | .goto _,_,_,_,_,_,_,_,h,_,_ | .refuse _,_,_,_,_,_,_,_,h,_,_=>by simp [lh] at h
 | .rangeFunc g ps a c,live,β,r,p,fr,st,K,h,hs,hst=>by
  have hf:fr.strict=false:=by
   cases e:fr.strict with
   | false=>rfl
   | true=>exact absurd (hst e) (by simp [ct])
  simp only [lh] at h;obtain ⟨fv,e1,h⟩:=bM h hs;obtain ⟨vs,hvs,h⟩:=di h hs;have hvs:vs=jV fr (py ps.toList a c):=by
   clear h;generalize py ps.toList a c=us at hvs
   induction us generalizing vs with
   | nil=>exact hvs
   | cons u us ih=>
    obtain ⟨v,vs',rfl,h1,h2⟩:=hvs;rw [ih vs' h2,jV,tE h1]
  subst hvs;unfold Ln at h;split at h
  ·rename_i f cap _;obtain ⟨⟨v,st1⟩,h1,h⟩:=bz h;unfold SH at h;dsimp only at h;split at h
   ·rename_i imm1 ps1 a1 c1 fr1 s p1 hg;obtain ⟨hsp,h⟩:=dX h;have hJ: ∀l:List Ex,Cd p1 (fun ex=>K ex p (st1.put st.h .dead)) l=some r→K p1 p (st1.put st.h .dead)=some r:=by
     intro l
     induction l with
     | nil=>intro h;cases h
     | cons x l ih=>
      intro h;simp only [Cd,K2] at h;cases hd:decide (p1=x) with
      | true=>rw [hd] at h;rw [Xb hd] at h ⊢;exact h
      | false=>rw [hd] at h;exact ih h
    refine ⟨p1,fr,st1.put st.h .dead,p,(hO.wide _ _ _ _ h1).lift fun n hn=> ?_,hs,hJ _ h⟩;have e1:bS (cx S E n).G fr g= .ok (.fn (.func f) [] cap):=e1;have hn:(cx S E n).C.wide f (.yld st.h::cap) (st.new (.loop (cx S E n).imm ps.toList a c (H6 fr.n (py ps.toList a c) (jV fr (py ps.toList a c))) 0 .normal)).2= .ok (v,st1):=by
     rw [hs.1];exact hn
    simp only [exec,hf,e1,ax,hn,hg,hsp,aI]
   ·cases h
  ·cases h
 | .scope c,live,β,r,p,fr,st,K,h,hs,hst=>jW hO c (live:=live) h hs fun e=>absurd (hst e) (by simp [ct])
 | .region id ops draw,live,β,r,p,fr,st,K,h,hs,_=>by
  simp only [lh] at h;split at h
  ·rename_i hd;have hd: ∀n,(draw&&(cx S E n).imm 4000000)=false:=fun n=>hd;split at h
   ·obtain ⟨fr',st',p',hev,hs',hK⟩:=qT hO (seen':=[]) h hs (fun _ hy=>by cases hy);exact ⟨.normal,fr',st',p',hev.lift fun n hn=>by simp only [exec,hd n,hn,ax,aI],hs',hK⟩
   ·obtain ⟨c,h1,h2⟩:=bz h;obtain ⟨fr',st',p',hev,hs',hK⟩:=qT hO (seen':=[]) h1 hs (fun _ hy=>by cases hy);obtain ⟨vs,hvs,e⟩:=di hK hs';cases e;obtain ⟨m,hm⟩:=hev;have hf:=jU (hm m (Vn _));obtain ⟨p2,hs2,hK2⟩:=eu h2 hvs (hs.erased hf.1 hf.2);exact ⟨.normal,fr',st',p2,⟨m,fun n hn=>by simp only [exec,hd n,hm n hn,ax,aI]⟩,hs2,hK2⟩
  ·rename_i hd;have hd: ∀n,(draw&&(cx S E n).imm 4000000)=true:=fun n=>hd;have h:=Bb (K:=fun st'=>match tv ops.toList with
    | false=>rh S N (A8 st.h (nZ ops.toList)) ops.toList 0 [] ops.toList p st' fun p st=>K .normal p st
    | true=>let ws:=dedup (rA live (cD ops.toList))
     aH (rh (β:=dq) S N (A8 st.h (nZ ops.toList)) ops.toList 0 [] ops.toList p st' fun p st=>getAll p ws fun vs=>some (vs,st)) fun c=>
      gW S.T tys ws c.1 (erase (cD ops.toList) p) fun p=>K .normal p c.2) h
   dsimp only at h;split at h
   ·obtain ⟨fr',st',p',hev,hs',hK⟩:=pB hO (seen':=[]) h hs (fun _ hy=>by cases hy);exact ⟨.normal,fr',st',p',hev.lift fun n hn=>by simp only [exec,hd n,hn,ax,aI],hs',hK⟩
   ·obtain ⟨c,h1,h2⟩:=bz h;obtain ⟨fr',st',p',hev,hs',hK⟩:=pB hO (seen':=[]) h1 hs (fun _ hy=>by cases hy);obtain ⟨vs,hvs,e⟩:=di hK hs';cases e;obtain ⟨m,hm⟩:=hev;have hf:=jk (hm m (Vn _));obtain ⟨p2,hs2,hK2⟩:=eu h2 hvs (hs.erased hf.1 hf.2);exact ⟨.normal,fr',st',p2,⟨m,fun n hn=>by simp only [exec,hd n,hm n hn,ax,aI]⟩,hs2,hK2⟩
 | .seq a b,live,β,r,p,fr,st,K,h,hs,hst=>by
  have hst:fr.strict=true→ct a=true∧ct b=true:=fun e=>by have:=hst e;simpa [ct] using this
  simp only [lh] at h;obtain ⟨ex,fr1,st1,p1,hev,hs1,hK⟩:=jW hO a h hs fun e=>(hst e).1;have h1s:fr1.strict=fr.strict:=by
   obtain ⟨m,hm⟩:=hev;exact fD _ (hm m (Vn _))
  cases ex with
  | normal=>
   obtain ⟨ex,fr2,st2,p2,hev2,hs2,hK2⟩:=jW hO b hK hs1 fun e=>(hst (h1s ▸ e)).2;exact ⟨ex,fr2,st2,p2,(hev.both hev2).lift fun n hn=>by simp only [exec,hn.1,ax,hn.2],hs2,hK2⟩
  | exit i=>exact ⟨.exit i,fr1,st1,p1,hev.lift fun n hn=>by simp only [exec,hn,ax,aI],hs1,hK⟩
  | ret=>exact ⟨.ret,fr1,st1,p1,hev.lift fun n hn=>by simp only [exec,hn,ax,aI],hs1,hK⟩
 | .cond c a b,live,β,r,p,fr,st,K,h,hs,hst=>by
  have hst:fr.strict=true→ct a=true∧ct b=true:=fun e=>by have:=hst e;simpa [ct] using this
  simp only [lh] at h;obtain ⟨cv,e1,h⟩:=bM h hs;obtain ⟨bv,rfl,h⟩:=xV h;have fin: ∀{ex fr' st'},(jt fun n=>exec (cx S E n) n (bif bv then a else b) fr st= .ok (ex,fr',st'))→jt fun n=>exec (cx S E n) n (.cond c a b) fr st= .ok (ex,fr',st'):=fun h=>h.lift fun n hn=>by
   have e1:bS (cx S E n).G fr c= .ok (.bool bv):=e1;cases bv <;> (simp only [exec,e1,ax,VM.asBool];exact hn)
  have two: ∀{γ:Type} {q:γ} {J:Ex→PF→St→Option γ},(bD bv (lh S N tys a live p st J) (lh S N tys b live p st J))=some q→
    ∃ex fr' st' p',(jt fun n=>exec (cx S E n) n (bif bv then a else b) fr st= .ok (ex,fr',st'))∧Sub N p' fr'∧J ex p' st'=some q:=by
   intro γ q J h;cases bv
   ·exact jW hO b h hs fun e=>(hst e).2
   ·exact jW hO a h hs fun e=>(hst e).1
  have outs: ∀{ex fr' st'},(jt fun n=>exec (cx S E n) n (bif bv then a else b) fr st= .ok (ex,fr',st'))→fr'.n=fr.n∧ ∀i,i∉writes a++writes b→fr'.look i=fr.look i:=by
   rintro ex fr' st' ⟨m,hm⟩;have:=fc _ (hm m (Vn _));refine ⟨this.1,fun i hi=>this.2 i fun hm=>hi ?_⟩;cases bv
   ·exact VE.2 (.inr hm)
   ·exact VE.2 (.inl hm)
  split at h
  ·obtain ⟨ex,fr',st',p',hev,hs',hK⟩:=two h;exact ⟨ex,fr',st',p',fin hev,hs',hK⟩
  ·split at h
   ·obtain ⟨q,h1,h2⟩:=bz h;obtain ⟨ex,fr',st',p',hev,hs',hK⟩:=two h1;have hf:=outs hev;cases ex with
    | normal=>
     obtain ⟨vs,hvs,e⟩:=di hK hs';cases e;obtain ⟨p2,hs2,hK2⟩:=eu h2 hvs (hs.erased hf.1 hf.2);exact ⟨.normal,fr',st',p2,fin hev,hs2,hK2⟩
    | exit i=>cases hK
    | ret=>cases hK
   ·obtain ⟨q,h1,h2⟩:=bz h;obtain ⟨ex,fr',st',p',hev,hs',hK⟩:=two h1;have hf:=outs hev;cases ex with
    | normal=>
     obtain ⟨vs,hvs,e⟩:=di hK hs';cases e;obtain ⟨p2,hs2,hK2⟩:=eu h2 hvs (hs.erased hf.1 hf.2);exact ⟨.normal,fr',st',p2,fin hev,hs2,hK2⟩
    | exit i=>
     obtain ⟨q',h3,e⟩:=bz hK;cases e;cases h2;exact ⟨_,fr',st',p',fin hev,hs',h3⟩
    | ret=>
     obtain ⟨q',h3,e⟩:=bz hK;cases e;cases h2;exact ⟨_,fr',st',p',fin hev,hs',h3⟩
 | .block id c,live,β,r,p,fr,st,K,h,hs,hst=>by
  simp only [lh] at h;split at h
  ·obtain ⟨ex,fr1,st1,p1,hev,hs1,hK⟩:=jW hO c h hs hst;cases ex with
   | normal=>exact ⟨.normal,fr1,st1,p1,hev.lift fun n hn=>by simp only [exec,hn,ax,aI],hs1,hK⟩
   | ret=>exact ⟨.ret,fr1,st1,p1,hev.lift fun n hn=>by simp only [exec,hn,ax,aI],hs1,hK⟩
   | exit i=>
    dsimp only at hK;split at hK
    ·rename_i hi;exact ⟨.normal,fr1,st1,p1,hev.lift fun n hn=>by simp only [exec,hn,ax,aI,hi],hs1,hK⟩
    ·rename_i hi;exact ⟨.exit i,fr1,st1,p1,hev.lift fun n hn=>by simp only [exec,hn,ax,aI,hi],hs1,hK⟩
  ·obtain ⟨q,h1,h2⟩:=bz h;obtain ⟨ex,fr',st',p',hev,hs',hK⟩:=jW hO c h1 hs hst;have hf:fr'.n=fr.n∧ ∀i,i∉writes c→fr'.look i=fr.look i:=by
    obtain ⟨m,hm⟩:=hev;exact fc _ (hm m (Vn _))
   cases ex with
   | normal=>
    obtain ⟨vs,hvs,e⟩:=di hK hs';cases e;obtain ⟨p2,hs2,hK2⟩:=eu h2 hvs (hs.erased hf.1 hf.2);exact ⟨.normal,fr',st',p2,hev.lift fun n hn=>by simp only [exec,hn,ax,aI],hs2,hK2⟩
   | exit i=>
    dsimp only at hK;split at hK
    ·rename_i hi;obtain ⟨vs,hvs,e⟩:=di hK hs';cases e;obtain ⟨p2,hs2,hK2⟩:=eu h2 hvs (hs.erased hf.1 hf.2);exact ⟨.normal,fr',st',p2,hev.lift fun n hn=>by simp only [exec,hn,ax,aI,hi],hs2,hK2⟩
    ·rename_i hi;obtain ⟨q',h3,e⟩:=bz hK;cases e;cases h2;exact ⟨.exit i,fr',st',p',hev.lift fun n hn=>by simp only [exec,hn,ax,aI,hi],hs',h3⟩
   | ret=>
    obtain ⟨q',h3,e⟩:=bz hK;cases e;cases h2;exact ⟨.ret,fr',st',p',hev.lift fun n hn=>by simp only [exec,hn,ax,aI],hs',h3⟩
 | .loop c,live,β,r,p,fr,st,K,h,hs,hst=>by
  simp only [lh] at h;obtain ⟨vs,hvs,h⟩:=di h hs;obtain ⟨q,h1,h2⟩:=bz h;obtain ⟨m,hm⟩:=oQ h1;have key: ∀(m:Nat) (vs:List AV) (st:St) (fr1:Fr),N0 fr1 (dedup (iV p (writes c))) vs→fr1.strict=fr.strict→fr1.n=fr.n→(∀i,i∉writes c→fr1.look i=fr.look i)→
    mI (fun s:dq=>gW S.T tys (dedup (iV p (writes c))) s.1 (erase (writes c) p) fun p'=>lh S N tys c (dedup (iV p (writes c))++live) p' s.2 fun ex p' st=>match ex with
     | .normal=>getAll p' (dedup (iV p (writes c))) fun vs=>some ((.inl (vs,st):Sum dq (Nat×dq)))
     | ex=>aH (AY ex ((leaves c).outs.eraseDups.map .exit++(match (leaves c).rets with | true=>[.ret] | false=>[])) 0) fun k=>getAll p' (rA live (dedup (iV p (writes c)))) fun vs=>some (.inr (k,vs,st))) m (vs,st)=some q→ ∃ex fr' st' p',(jt fun n=> ∃k,k≤m∧iter (exec (cx S E n) n c) k fr1 st= .ok (ex,fr',st'))∧ex≠ .normal∧Sub N p' fr'∧(fr'.n=fr.n∧ ∀i,i∉writes c→fr'.look i=fr.look i)∧
     (aH (AY ex ((leaves c).outs.eraseDups.map .exit++(match (leaves c).rets with | true=>[.ret] | false=>[])) 0) fun k=>getAll p' (rA live (dedup (iV p (writes c)))) fun vs=>some ((.inr (k,vs,st'):Sum dq (Nat×dq))))=some (.inr q):=by
   intro m
   induction m with
   | zero=>intro vs st fr1 _ _ _ _ h;cases h
   | succ m ih=>
    intro vs st fr1 hv hsf hn hf h;simp only [mI] at h;split at h
    ·rename_i s' e;obtain ⟨p1,hs1,h3⟩:=eu e hv (hs.erased hn hf);obtain ⟨ex,fr2,st2,p2,hev,hs2,hK⟩:=jW hO c h3 hs1 fun e=>hst (hsf ▸ e);have hfr:fr2.n=fr1.n∧ ∀i,i∉writes c→fr2.look i=fr1.look i:=by
      obtain ⟨m,hm⟩:=hev;exact fc _ (hm m (Vn _))
     have hs2f:fr2.strict=fr1.strict:=by
      obtain ⟨m,hm⟩:=hev;exact fD _ (hm m (Vn _))
     cases ex with
     | normal=>
      obtain ⟨vs2,hv2,e2⟩:=di hK hs2;cases e2;obtain ⟨ex,fr3,st3,p3,hev3,hx,hs3,hf3,hK3⟩:=ih vs2 st2 fr2 hv2 (hs2f.trans hsf) (hfr.1.trans hn) (fun i hi=>(hfr.2 i hi).trans (hf i hi)) h;refine ⟨ex,fr3,st3,p3,(hev.both hev3).lift fun n hn=> ?_,hx,hs3,hf3,hK3⟩;obtain ⟨h4,k,hk,h5⟩:=hn;exact ⟨k+1,by omega,by simp only [iter,h4,ax];exact h5⟩
     | exit i=>
      obtain ⟨k,_,hK⟩:=bz hK;obtain ⟨vs2,_,e2⟩:=di hK hs2;cases e2
     | ret=>
      obtain ⟨k,_,hK⟩:=bz hK;obtain ⟨vs2,_,e2⟩:=di hK hs2;cases e2
    ·rename_i q' e;cases h;obtain ⟨p1,hs1,h3⟩:=eu e hv (hs.erased hn hf);obtain ⟨ex,fr2,st2,p2,hev,hs2,hK⟩:=jW hO c h3 hs1 fun e=>hst (hsf ▸ e);have hfr:fr2.n=fr1.n∧ ∀i,i∉writes c→fr2.look i=fr1.look i:=by
      obtain ⟨m,hm⟩:=hev;exact fc _ (hm m (Vn _))
     have hfr':fr2.n=fr.n∧ ∀i,i∉writes c→fr2.look i=fr.look i:=⟨hfr.1.trans hn,fun i hi=>(hfr.2 i hi).trans (hf i hi)⟩;cases ex with
     | normal=>
      obtain ⟨vs2,_,e2⟩:=di hK hs2;cases e2
     | exit i=>exact ⟨_,fr2,st2,p2,hev.lift fun n hn=>⟨1,by omega,by simp only [iter,hn,ax];rfl⟩,(by intro h;cases h),hs2,hfr',hK⟩
     | ret=>exact ⟨_,fr2,st2,p2,hev.lift fun n hn=>⟨1,by omega,by simp only [iter,hn,ax];rfl⟩,(by intro h;cases h),hs2,hfr',hK⟩
    ·cases h
  obtain ⟨ex,fr',st',p',hev,_,hs',hf,hK⟩:=key m vs st fr hvs rfl rfl (fun _ _=>rfl) hm;obtain ⟨k,h3,hK⟩:=bz hK;obtain ⟨vs2,hv2,e2⟩:=di hK hs';cases e2;obtain ⟨p2,hs2,hK2⟩:=eu h2 hv2 (hs.erased hf.1 hf.2);have hK2:K ex p2 st'=some r:=(As (K:=fun ex=>K ex p2 st') h3).2.symm.trans hK2;refine ⟨ex,fr',st',p2, ?_,hs2,hK2⟩;obtain ⟨m',hm'⟩:=hev;refine ⟨max m' m,fun n hn=> ?_⟩;obtain ⟨k,hk,h5⟩:=hm' n (by omega);simp only [exec];exact u3 (fun _ _ _ h=>h) (by omega) h5
end
section
variable {β:Type} {r:β} {N:Nat} {E:Env} {S:Sx}
theorem rZ {T:TT}: ∀{vs:List AV} {ts:List TypeId} {i:Nat} {p:PF} {t:Tr AV} {K:PF→Option β},D6 T i ts vs p K=some r→Sub N p ⟨N,t,false⟩→ ∃p',Sub N p' ⟨N,uP i vs t,false⟩∧K p'=some r
 | [],_,_,p,_,_,h,hs=>⟨p,hs,h⟩
 | v::vs,ts,i,p,t,K,h,hs=>by
  have hput:Sub N ((i,v)::p) ⟨N,t.put i v,false⟩:=by
   refine ⟨rfl,fun j u hu=> ?_⟩;rw [PF.lV] at hu;have hj: ∀t:Tr AV,(⟨N,t,false⟩:Fr).look j=some ((t.get j).getD undef):=fun _=>rfl;rw [hj,Tr.jX];split at hu
   ·rename_i e;rw [if_pos e];cases hu;rfl
   ·rename_i e;rw [if_neg e, ← hj];exact hs.2 j u hu
  cases ts with
  | nil=>exact rZ (vs:=vs) (ts:=[]) (i:=i+1) (p:=(i,v)::p) h hput
  | cons ty ts=>exact rZ (vs:=vs) (ts:=ts) (i:=i+1) (p:=(i,v)::p) (jE (K:=fun v=>D6 T (i+1) ts vs ((i,v)::p) K) h) hput
theorem HF {p:PF} {fr:Fr} {st:St} {x:ResultVar} {K:AV→Option β} (h:Mf S p st x K=some r) (hs:Sub N p fr): ∃v,ke S.T fr st x= .ok v∧K v=some r:=by
 cases x with
 | tmp t=>
  simp only [Mf] at h;split at h
  ·rename_i v hv;exact ⟨v,by simp only [ke,tE (hs.2 _ _ hv)],h⟩
  ·cases h
 | cell a t=>
  simp only [Mf] at h;obtain ⟨i,e,h⟩:=cy h;split at h
  ·rename_i av hv;have hg:=tE (hs.2 _ _ hv);obtain ⟨⟨v,rd⟩,eo,h⟩:=bz h;unfold CU at eo;split at eo
   ·split at eo
    ·rename_i e1;cases eo;exact ⟨v,by simp only [ke,e,hg,ax,lF,e1,aI],jE h⟩
    ·cases eo
   ·split at eo
    ·rename_i e1;split at eo
     ·rename_i e2;cases eo;exact ⟨v,by simp only [ke,e,hg,ax,lF,ij,e1,e2,cellsOf,aI],jE h⟩
     ·cases eo
    ·cases eo
   ·split at eo
    ·rename_i e1;split at eo
     ·rename_i hm;split at eo
      ·rename_i e2;cases eo;exact ⟨v,by simp only [ke,e,hg,ax,lF,ij,e1,e2,hm,aI],jE h⟩
      ·cases eo
     ·cases eo
    ·cases eo
   ·cases eo
  ·cases h
theorem zb {p:PF} {fr:Fr} {st:St}: ∀{l:List ResultVar} {K:List AV→Option β},Hi S p st l K=some r→Sub N p fr→ ∃vs,hH S.T fr st l= .ok vs∧K vs=some r
 | [],_,h,_=>⟨[],rfl,h⟩
 | x::l,K,h,hs=>by
  obtain ⟨v,e,h⟩:=HF h hs;obtain ⟨vs,e',h⟩:=zb h hs;exact ⟨v::vs,by simp only [hH,e,e',ax,aI],h⟩
theorem DW (hO:Mp E S.O) {fn:Func} {args:List AV} {st:St} {K:AV→St→Option β} (h:GW S fn args st K=some r):
  ∃v st',(jt fun n=>body (cx S E n) n fn args st= .ok (v,st'))∧K v st'=some r:=by
 unfold GW at h;split at h
 ·cases h
 ·rename_i c hc;split at h
  ·cases h
  ·rename_i hl;obtain ⟨p,hs,h⟩:=rZ (N:=fn.ntmps) (t:= .leaf) h ⟨rfl,fun _ _ hg=>by cases hg⟩;obtain ⟨ex,fr',st',p',hev,hs',hK⟩:=jW hO c h hs (fun e=>by cases e);have hx:(Hi S p' st' fn.results.toList fun vs=>K (oneOf vs) st')=some r∧(∀i,ex≠ .exit i):=by
    cases ex with
    | exit i=>cases hK
    | normal=>exact ⟨hK,by intro i h;cases h⟩
    | ret=>exact ⟨hK,by intro i h;cases h⟩
   obtain ⟨vs,e,hK⟩:=zb hx.1 hs';refine ⟨oneOf vs,st',hev.lift fun n hn=> ?_,hK⟩;have e:hH (cx S E n).T fr' st' fn.results.toList= .ok vs:=e;have hn:exec (cx S E n) n c (tc fn.ntmps args) st= .ok (ex,fr',st'):=hn;unfold body;rw [hc];dsimp only;rw [hl];dsimp only;rw [hn,ax];cases ex with
   | exit i=>exact absurd rfl (hx.2 i)
   | normal=>simp only [e,ax,aI]
   | ret=>simp only [e,ax,aI]
end
section
variable {E:Env}
open Classical in
noncomputable def aA (E:Env):sy where
 full:=E.full
 isLook:=E.isLook
 bare f a:=if h: ∃v n,(caller E n).bare f a= .ok v then some h.choose else none
 wide f a st:=if h: ∃v n,(caller E n).wide f a st= .ok v then some h.choose else none
 look f a st:=if h: ∃v n,(caller E n).look f a st= .ok v then some h.choose else none
 round k a st:=if h: ∃v n,(caller E n).round k a st= .ok v then some h.choose else none
theorem EV (E:Env):Mp E (aA E) where
 full:=rfl
 isLook:=rfl
 bare f a v h:=by
  simp only [aA] at h;split at h
  ·rename_i hx;cases h;obtain ⟨m,hm⟩:=hx.choose_spec;exact ⟨m,fun n hn=>(fB E hn).bare _ _ _ hm⟩
  ·cases h
 wide f a st v h:=by
  simp only [aA] at h;split at h
  ·rename_i hx;cases h;obtain ⟨m,hm⟩:=hx.choose_spec;exact ⟨m,fun n hn=>(fB E hn).wide _ _ _ _ hm⟩
  ·cases h
 look f a st v h:=by
  simp only [aA] at h;split at h
  ·rename_i hx;cases h;obtain ⟨m,hm⟩:=hx.choose_spec;exact ⟨m,fun n hn=>(fB E hn).look _ _ _ _ hm⟩
  ·cases h
 round k a st v h:=by
  simp only [aA] at h;split at h
  ·rename_i hx;cases h;obtain ⟨m,hm⟩:=hx.choose_spec;exact ⟨m,fun n hn=>(fB E hn).round _ _ _ _ hm⟩
  ·cases h
theorem zg {f:FuncId} {a:List AV} {v:AV} {n:Nat} (h:(caller E n).bare f a= .ok v):(aA E).bare f a=some v:=by
 have hx: ∃v n,(caller E n).bare f a= .ok v:=⟨v,n,h⟩;simp only [aA,dif_pos hx];obtain ⟨m,hm⟩:=hx.choose_spec;have h1:=(fB E (Nat.le_max_left m n)).bare _ _ _ hm;have h2:=(fB E (Nat.le_max_right m n)).bare _ _ _ h;rw [h1] at h2;simpa using h2
theorem Kz {f:FuncId} {a:List AV} {st:St} {v:AV×St} {n:Nat} (h:(caller E n).wide f a st= .ok v):(aA E).wide f a st=some v:=by
 have hx: ∃v n,(caller E n).wide f a st= .ok v:=⟨v,n,h⟩;simp only [aA,dif_pos hx];obtain ⟨m,hm⟩:=hx.choose_spec;have h1:=(fB E (Nat.le_max_left m n)).wide _ _ _ _ hm;have h2:=(fB E (Nat.le_max_right m n)).wide _ _ _ _ h;rw [h1] at h2;simpa using h2
noncomputable def sx (E:Env) (f:FuncId):Sx:=⟨E.T,E.prim,E.imm f,E.G,aA E⟩
noncomputable def bQ (E:Env) (f:FuncId) (args:List AV):Option AV:=
 match E.F f with
 | none=>none
 | some fn=>GW (sx E f) fn args St.empty fun v s=>eZ s 0 v some
noncomputable def fT (E:Env) (f:FuncId) (args:List AV) (st:St):Option (AV×St):=
 match E.F f with
 | none=>none
 | some fn=>GW (sx E f) fn args st fun v s=>some (v,s)
theorem IM {β:Type} {r:β} {st:St} {b:Nat} {v:AV} {K:AV→Option β} (h:eZ st b v K=some r): ∃v',freeze st b 100 v= .ok v'∧bare v'=true∧K v'=some r:=by
 unfold eZ at h;split at h
 ·obtain ⟨h1,h⟩:=dX h;exact ⟨_,by assumption,h1,h⟩
 ·cases h
theorem bh {f:FuncId} {args:List AV} {v:AV} (hm:(E.memo f,(E.rule f).isSome)=([],false)) (h:bQ E f args=some v):(aA E).bare f args=some v:=by
 unfold bQ at h;split at h
 ·cases h
 ·rename_i fn hF;obtain ⟨u,s,⟨m,hev⟩,h⟩:=DW (EV E) h;obtain ⟨v',h1,h2,h⟩:=IM h;cases h;refine zg (n:=m+1) ?_;have hev:body ⟨E.T,E.prim,E.imm f,E.G,caller E m⟩ m fn args St.empty= .ok (u,s):=hev m (Vn _);have hk:E.known f args=none:=by
   unfold Env.known;have h1:=Wb Prod.fst hm;have h2:=Wb Prod.snd hm;dsimp only at h1 h2;cases hr:E.rule f with
   | some r=>rw [hr] at h2;cases h2
   | none=>dsimp only;rw [h1];rfl
  simp only [caller,hk,hF,hev,ax,h1,h2,aI]
theorem gG {f:FuncId} {args:List AV} {st:St} {v:AV×St} (h:fT E f args st=some v):(aA E).wide f args st=some v:=by
 unfold fT at h;split at h
 ·cases h
 ·rename_i fn hF;obtain ⟨u,s,⟨m,hev⟩,h⟩:=DW (EV E) h;cases h;refine Kz (n:=m+1) ?_;have hev:body ⟨E.T,E.prim,E.imm f,E.G,caller E m⟩ m fn args st= .ok (u,s):=hev m (Vn _);simp only [caller,hF,hev,ax,aI]
end
structure Lp where
 n:Nat
 ps:List Nat
 a:Code
 c:Code
 tys:List (Nat×TypeId)
section
variable {E:Env} {r:AV×St}
end
abbrev aw {β:Type} (v:AV) (K:Int→Int→List UInt8→AV→Option β):Option β:=zH v fun l=>bE l fun v0 l=>bU .u8 v0 fun a0=>bE l fun v1 l=>bU .u8 v1 fun a1=>bE l fun v2 l=>eU v2 fun a2=>bE l fun v3 l=>cj l (K a0 a1 a2 v3)
abbrev iH {β:Type} (v:AV) (K:Int→List UInt8→Option β):Option β:=zH v fun l=>bE l fun v0 l=>bU .u8 v0 fun a0=>bE l fun v1 l=>eU v1 fun a1=>cj l (K a0 a1)
abbrev aM {β:Type} (v:AV) (K:Int→List UInt8→Int→AV→Option β):Option β:=zH v fun l=>bE l fun v0 l=>bU .u8 v0 fun a0=>bE l fun v1 l=>eU v1 fun a1=>bE l fun v2 l=>bU .i64 v2 fun a2=>bE l fun v3 l=>cj l (K a0 a1 a2 v3)
abbrev iM {β:Type} (v:AV) (K:Int→List UInt8→Int→AV→Int→Bool→Option β):Option β:=zH v fun l=>bE l fun v0 l=>bU .u8 v0 fun a0=>bE l fun v1 l=>eU v1 fun a1=>bE l fun v2 l=>bU .i64 v2 fun a2=>bE l fun v3 l=>bE l fun v4 l=>bU .i64 v4 fun a4=>bE l fun v5 l=>cJ v5 fun a5=>cj l (K a0 a1 a2 v3 a4 a5)
section
variable {β:Type}
@[simp] theorem aK {α:Type} (a:α) (K:α→Option β):bB a K=K a:=id rfl
@[simp] theorem ai (k:IntKind) (n:Int) (K:Int→Option β):bU k (.int k n) K=K n:=by simp [bU]
@[simp] theorem aE (b:Bool) (K:Bool→Option β):cJ (.bool b) K=K b:=id rfl
@[simp] theorem ao (s:List UInt8) (K:List UInt8→Option β):eU (.str s) K=K s:=id rfl
@[simp] theorem Td (k:IntKind) (n:Int) (K:Int→Option β):anyI (.int k n) K=K n:=id rfl
@[simp] theorem az (cs:List AV) (K:List AV→Option β):zH (.agg cs) K=K cs:=id rfl
@[simp] theorem bw (cs:List AV) (K:List AV→Option β):gK (.tup cs) K=K cs:=id rfl
@[simp] theorem ag (v:AV) (l:List AV) (K:AV→List AV→Option β):bE (v::l) K=K v l:=id rfl
@[simp] theorem ah (K:Option β):cj [] K=K:=id rfl
@[simp] theorem aV (K:Option β):dJ true K=K:=id rfl
theorem kO {b:Bool} (h:b=true) (K:Option β):dJ b K=K:=by rw [h];rfl
@[simp] theorem aF (x y:Option β):bD true x y=x:=id rfl
@[simp] theorem aB (x y:Option β):bD false x y=y:=id rfl
@[simp] theorem ar (p:Prop) [Decidable p] (x y:Option β):bD (decide p) x y=if p then x else y:=by
 by_cases h:p <;> simp [h]
@[simp] theorem bP (a b:Int) (x y:Option β):bD (a==b) x y=if a=b then x else y:=by
 by_cases h:a=b
 ·simp [h]
 ·rw [beq_false_of_ne h];simp [h]
@[simp] theorem Tz (a b:Int) (x y:Option β):bD (a != b) x y=if a=b then y else x:=by
 by_cases h:a=b
 ·simp [h]
 ·rw [bne,beq_false_of_ne h];simp [h]
@[simp] theorem TC (b:Bool) (x y:Option β):bD (!b) x y=bD b y x:=by cases b <;> rfl
@[simp] theorem aq {α:Type} (a:α) (K:α→Option β):aH (some a) K=K a:=id rfl
@[simp] theorem bA {α:Type} (a:α) (K:α→Option β):lM (.inl a) K=K a:=id rfl
@[simp] theorem bW {α:Type} (b:β) (K:α→Option β):lM (.inr b) K=some b:=id rfl
@[simp] theorem jJ (a:Option β) (b:Nat→Option β):ug 0 a b=a:=id rfl
@[simp] theorem JE (n:Nat) (a:Option β) (b:Nat→Option β):ug (n+1) a b=b n:=id rfl
@[simp] theorem mZ (a:Option β) (b:Nat→Option β):ug 1 a b=b 0:=id rfl
theorem iS {v:AV} (h:one v=true) (K:Option β):af v K=K:=kO h K
@[simp] theorem Rn (b:Bool) (K:Option β):af (.bool b) K=K:=id rfl
@[simp] theorem Ia (k:IntKind) (n:Int) (K:Option β):af (.int k n) K=K:=id rfl
@[simp] theorem HD (s:List UInt8) (K:Option β):af (.str s) K=K:=id rfl
@[simp] theorem FR (K:Option β):af .aG K=K:=id rfl
@[simp] theorem R2 (z:Nat) (e:List AV) (p:Perm) (K:Option β):af (.sl z e p) K=K:=id rfl
@[simp] theorem Tp (i o:Nat) (K:Option β):af (.mp i o) K=K:=id rfl
@[simp] theorem S3 (cs:List AV) (K:Option β):af (.ip cs) K=K:=id rfl
@[simp] theorem PU (K:Option β):af .nilp K=K:=id rfl
@[simp] theorem SV (i:Nat) (K:Option β):af (.mm i) K=K:=id rfl
@[simp] theorem Po (K:Option β):af .nilm K=K:=id rfl
@[simp] theorem R1 (f:Fn) (a b:List AV) (K:Option β):af (.fn f a b) K=K:=id rfl
@[simp] theorem aU (v:AV) (l:List AV) (K:AV→Option β):cE (v::l) 0 K=K v:=id rfl
@[simp] theorem Rv (v:AV) (l:List AV) (n:Nat) (K:AV→Option β):cE (v::l) (n+1) K=cE l n K:=id rfl
@[simp] theorem bj (u v:AV) (l:List AV) (K:AV→Option β):cE (u::v::l) 1 K=K v:=id rfl
@[simp] theorem SX (u v w:AV) (l:List AV) (K:AV→Option β):cE (u::v::w::l) 2 K=K w:=id rfl
@[simp] theorem QZ (u v w x:AV) (l:List AV) (K:AV→Option β):cE (u::v::w::x::l) 3 K=K x:=id rfl
@[simp] theorem Rs (u v w x y:AV) (l:List AV) (K:AV→Option β):cE (u::v::w::x::y::l) 4 K=K y:=id rfl
@[simp] theorem RB (u v w x y z:AV) (l:List AV) (K:AV→Option β):cE (u::v::w::x::y::z::l) 5 K=K z:=id rfl
@[simp] theorem Hm (off:Nat) (cs:List AV) (K:AV→Option β):fU off (.ip cs) K=K (.ip (cs.drop off)):=id rfl
@[simp] theorem TD (off i n o:Nat) (K:AV→Option β):fU off (.gp i n o) K=K (.gp i n (o+off)):=id rfl
@[simp] theorem bL (off i o:Nat) (K:AV→Option β):fU off (.mp i o) K=K (.mp i (o+off)):=id rfl
def jd (size:Nat) (agg:Bool) (cs:List AV):Option AV:=OS (cB size agg cs)
@[simp] theorem aZ (z:Nat) (v:AV) (l:List AV):jd z false (v::l)=some v:=id rfl
theorem JB {z:Nat} {cs:List AV} (h:z≤cs.length):jd z true cs=some (.agg (cs.take z)):=by
 simp only [jd,cB,VS h,OS]
theorem HL {cs:List AV} {z:Nat} (h:cs.length=z):jd z true cs=some (.agg cs):=by
 subst h;rw [JB (Vn _),VV]
@[simp] theorem cg (z:Nat) (g:Bool) (cs:List AV) (st:St) (K:AV→List Nat→Option β):ay z g (.ip cs) st K=aH (jd z g cs) fun v=>K v []:=by
 unfold ay CU jd;dsimp only;cases cB z g cs <;> rfl
theorem bm {st:St} {i:Nat} {t:TypeId} {cs:List AV} (h:st.get i= .ok (.cells t cs)) (z:Nat) (g:Bool) (o:Nat) (K:AV→List Nat→Option β):ay z g (.mp i o) st K=aH (jd z g (cs.drop o)) fun v=>K v [i]:=by
 unfold ay CU jd;dsimp only;rw [h];dsimp only;cases cB z g (cs.drop o) <;> rfl
@[simp] theorem TG (i o:Nat) (K:Option β):Ku (.mp i o) K=K:=id rfl
@[simp] theorem TJ (cs:List AV) (K:Option β):Ku (.ip cs) K=K:=id rfl
@[simp] theorem Th (K:Option β):af .es K=K:=id rfl
@[simp] theorem TB (K:AV→Option β):aJ .es K=K .es:=id rfl
@[simp] theorem RO (K:Nat→Option β):fJ .aG K=K 0:=id rfl
@[simp] theorem Ny (z:Nat) (e:List AV) (p:Perm) (K:Nat→Option β):fJ (.sl z e p) K=K e.length:=id rfl
@[simp] theorem Rz (b:Bool) (K:AV→Option β):aJ (.bool b) K=K (.bool b):=id rfl
@[simp] theorem CO (k:IntKind) (n:Int) (K:AV→Option β):aJ (.int k n) K=K (.int k n):=id rfl
@[simp] theorem K5 (s:List UInt8) (K:AV→Option β):aJ (.str s) K=K (.str s):=id rfl
@[simp] theorem Rq (K:AV→Option β):aJ .aG K=K .aG:=id rfl
@[simp] theorem RF (z:Nat) (e:List AV) (K:AV→Option β):aJ (.sl z e .wide) K=K (.sl z e .wide):=id rfl
@[simp] theorem Rr (z:Nat) (e:List AV) (K:AV→Option β):aJ (.sl z e .shut) K=K (.sl z e .shut):=id rfl
@[simp] theorem Ta (z k:Nat) (e:List AV) (K:AV→Option β):aJ (.sl z e (.own k)) K=K (.sl z e .wide):=id rfl
theorem Fw {i:Int} {n:Nat} (h0:0≤i) (h1:i < n) (K:Nat→Option β):lj i n K=K i.toNat:=by
 obtain ⟨k,rfl⟩:=Int.eq_ofNat_of_zero_le h0;have:k.blt n=true:=cH.2 (by omega);simp only [lj];show dJ (k.blt n) (K k)= _;rw [kO this];rfl
theorem KQ {i:Int} {n:Nat} (h0:0≤i) (h1:i≤n) (K:Nat→Option β):fX i n K=K i.toNat:=by
 obtain ⟨k,rfl⟩:=Int.eq_ofNat_of_zero_le h0;have:k.ble n=true:=VS (by omega);show dJ (k.ble n) (K k)= _;rw [kO this];rfl
theorem C8 {k n:Nat} (h:k < n) (K:Nat→Option β):lj (k:Int) n K=K k:=Fw (by omega) (by omega) K
theorem cQ {k n:Nat} (h:k≤n) (K:Nat→Option β):fX (k:Int) n K=K k:=KQ (by omega) (by omega) K
theorem fO {s:List UInt8} {k:Nat} (h:k < s.length) (K:UInt8→Option β):oP s (k:Int) K=K s[k]:=by
 unfold oP;rw [C8 h];simp [h]
end
theorem Bq: ∀{l:List AV} {n:Nat} {v:AV},l[n]? =some v→B6 l n=some v
 | [],_,_,h=>by simp at h
 | _:: _,0,_,h=>by simpa [B6] using h
 | _::l,n+1,_,h=>by simp only [B6];exact Bq (by simpa using h)
def bu (z:Nat) (x:AV) (es:List AV):Prop:=es.length≤9223372036854775807∧(((x= .aG∨x= .es)∧es=[])∨x= .sl z es .shut∨x= .sl z es .wide)
namespace bu
variable {β:Type} {z:Nat} {x:AV} {es:List AV}
theorem aG:bu z .aG []:=⟨by simp,.inl ⟨.inl rfl,rfl⟩⟩
theorem emp:bu z .es []:=⟨by simp,.inl ⟨.inr rfl,rfl⟩⟩
theorem wide (h:es.length≤9223372036854775807):bu z (.sl z es .wide) es:=⟨h,.inr (.inr rfl)⟩
theorem shut (h:es.length≤9223372036854775807):bu z (.sl z es .shut) es:=⟨h,.inr (.inl rfl)⟩
theorem one (h:bu z x es):VM.one x=true:=by rcases h.2 with ⟨rfl | rfl,rfl⟩ | rfl | rfl <;> rfl
theorem bare (h:bu z x es):VM.bare x=true:=by rcases h.2 with ⟨rfl | rfl,rfl⟩ | rfl | rfl <;> rfl
theorem strip (h:bu z x es):VM.strip x=x:=by rcases h.2 with ⟨rfl | rfl,rfl⟩ | rfl | rfl <;> rfl
theorem af (h:bu z x es) (K:Option β):af x K=K:=iS h.one K
theorem aJ (h:bu z x es) (K:AV→Option β):aJ x K=K x:=by rcases h.2 with ⟨rfl | rfl,rfl⟩ | rfl | rfl <;> rfl
theorem len (h:bu z x es) (K:Nat→Option β):fJ x K=K es.length:=by rcases h.2 with ⟨rfl | rfl,rfl⟩ | rfl | rfl <;> rfl
theorem elems (h:bu z x es) (K:List AV→Option β):mU x K=K es:=by rcases h.2 with ⟨rfl | rfl,rfl⟩ | rfl | rfl <;> rfl
theorem idx (h:bu z x es) {k:Nat} {v:AV} (hk:es[k]? =some v) (st:St) (K:AV→List Nat→Option β):eM z x (k:Int) st K=K (.ip v.cells) []:=by
 have hlt:k < es.length:=(WM.1 hk).1;have hz:z.beq z=true:=Wx z;have hi:ow (k:Int) es.length=some k:=by
  show (match k.blt es.length with | true=>some k | false=>none)= _;rw [cH.2 hlt]
 have hn:B6 es k=some v:=Bq hk;have hlen:=h.1;rcases h.2 with ⟨rfl | rfl,rfl⟩ | rfl | rfl
 ·simp at hlt
 ·simp at hlt
 ·simp only [eM,H7,hz,hi,hn,aq]
 ·simp only [eM,H7,hz,hi,hn,aq]
theorem slice (h:bu z x es) {lo hi:Option Int} {l m:Nat} (hl:su lo m 0=some l) (hh:su hi es.length es.length=some m) (K:AV→Option β):
  ∃x',bu z x' ((es.take m).drop l)∧eR z x lo hi none K=K x':=by
 have hz:z.beq z=true:=Wx z;have hlen:=h.1;rcases h.2 with ⟨rfl | rfl,rfl⟩ | rfl | rfl
 ·have hh:su hi 0 0=some m:=hh;refine ⟨.aG,⟨by simp,.inl ⟨.inl rfl,by simp⟩⟩, ?_⟩;simp only [eR,kK,show su none 0 0=some 0 from rfl,hh,hl,aq]
 ·have hh:su hi 0 0=some m:=hh;refine ⟨.es,⟨by simp,.inl ⟨.inr rfl,by simp⟩⟩, ?_⟩;simp only [eR,kK,show su none 0 0=some 0 from rfl,hh,hl,aq]
 ·simp only [eR,kK,hz,hh,hl];cases e:m.beq es.length with
  | true=>
   have:=Vq e;subst this;exact ⟨.sl z (es.drop l) .shut,by simpa using bu.shut (z:=z) (es:=es.drop l) (by rw [VF];omega),rfl⟩
  | false=>exact ⟨_,bu.wide (by rw [VF,VB];omega),rfl⟩
 ·simp only [eR,kK,hz,hh,hl];cases e:m.beq es.length with
  | true=>exact ⟨_,bu.wide (by rw [VF,VB];omega),rfl⟩
  | false=>exact ⟨_,bu.wide (by rw [VF,VB];omega),rfl⟩
end bu
theorem jg {k n d:Nat} (h:k≤n):su (some (k:Int)) n d=some k:=by
 show (match k.ble n with | true=>some k | false=>none)= _;rw [VS h]
theorem lW {n d:Nat}:su none n d=some d:=rfl
def jq (st:St) (z:Nat) (e:TypeId) (v:AV) (es:List AV):Prop:=
 st.ro≤st.h∧es.length≤9223372036854775807∧(((v= .aG∨v= .es)∧es=[])∨v= .sl z es .shut∨ ∃k,v= .sl z es (.own k)∧st.get k= .ok (.tok es.length e)∧st.ro≤k)
theorem jq.aG {st:St} (h:st.ro≤st.h) (z:Nat) (e:TypeId):jq st z e .aG []:=⟨h,by simp,.inl ⟨.inl rfl,rfl⟩⟩
theorem jq.emp {st:St} (h:st.ro≤st.h) (z:Nat) (e:TypeId):jq st z e .es []:=⟨h,by simp,.inl ⟨.inr rfl,rfl⟩⟩
theorem jq.shut {st:St} (h:st.ro≤st.h) {z:Nat} (e:TypeId) {es:List AV} (hl:es.length≤9223372036854775807):jq st z e (.sl z es .shut) es:=⟨h,hl,.inr (.inl rfl)⟩
theorem jq.one {st:St} {z:Nat} {e:TypeId} {v:AV} {es:List AV} (h:jq st z e v es):VM.one v=true:=by
 rcases h with ⟨_,_,⟨rfl | rfl,_⟩ | rfl | ⟨k,rfl,_⟩⟩ <;> rfl
theorem St.ey {st:St} {o:Obj}:(st.add o).get st.h= .ok o:=St.fS.2 (.inl ⟨rfl,rfl⟩)
theorem St.mA {st:St} {o:Obj} {j:Nat} {x:Obj} (h:st.get j= .ok x):(st.add o).get j= .ok x:=St.fS.2 (.inr ⟨(St.cC.1 h).1,h⟩)
structure aX (st st':St) (but:Nat→Prop):Prop where
 ro:st'.ro=st.ro
 h:st.h≤st'.h
 old: ∀j o,¬ but j→st.get j= .ok o→st'.get j= .ok o
theorem aX.refl (st:St) (but:Nat→Prop):aX st st but:=⟨rfl,Vn _,fun _ _ _ h=>h⟩
theorem aX.trans {a b c:St} {p:Nat→Prop} (h:aX a b p) (k:aX b c p):aX a c p:=
 ⟨k.ro.trans h.ro,VZ h.h k.h,fun j o hj hg=>k.old j o hj (h.old j o hj hg)⟩
theorem aX.add (st:St) (o:Obj) (but:Nat→Prop):aX st (st.add o) but:=⟨rfl,Nat.le_succ _,fun _ _ _ h=>St.mA h⟩
theorem aX.put {st:St} {i:Nat} {o:Obj} {but:Nat→Prop} (hb:but i):aX st (st.put i o) but:=
 ⟨rfl,Vn _,fun j x hj h=>by
  have:i≠j:=by rintro rfl;exact hj hb
  rw [St.aW this];exact h⟩
def ew (v:AV) (j:Nat):Prop:= ∃z es,v= .sl z es (.own j)
theorem mB {β:Type} {z b:Nat} {e:TypeId} {s:AV} {new:List AV} {st:St} {v:AV} {st':St} {x:Fx} (h:uY z b e s new st=some (v,st',x)) (K:Kv β):eD z b e s new st K=K v st' x:=by
 simp only [eD,nN,h,aq]
theorem jq.not {st:St} {z:Nat} {e:TypeId} {v:AV} {ws:List AV} {j:Nat} {t:TypeId} {cs:List AV} (h:jq st z e v ws) (hj:st.get j= .ok (.cells t cs)):¬ ew v j:=by
 rintro ⟨z,es,rfl⟩;rcases h with ⟨_,_,⟨h | h,_⟩ | h | ⟨k,h,hg,_⟩⟩
 ·cases h
 ·cases h
 ·cases h
 ·cases h;rw [hj] at hg;cases hg
theorem jq.put {st:St} {z:Nat} {e:TypeId} {v:AV} {ws:List AV} {j:Nat} {t t':TypeId} {cs cs':List AV} (h:jq st z e v ws) (hj:st.get j= .ok (.cells t cs)):jq (st.put j (.cells t' cs')) z e v ws:=by
 refine ⟨h.1,h.2.1, ?_⟩;rcases h.2.2 with h | h | ⟨k,hk,hg,hr⟩
 ·exact .inl h
 ·exact .inr (.inl h)
 ·refine .inr (.inr ⟨k,hk, ?_,hr⟩);have:j≠k:=by rintro rfl;rw [hj] at hg;cases hg
  rw [St.aW this];exact hg
theorem qK {st:St} {z b:Nat} {e:TypeId} {v:AV} {es new:List AV} (h:jq st z e v es) (hn:new≠[]) (hr:cZ (es.length+new.length) ⟨.other,z,b,[],false,false⟩=true):
  ∃v' st' x,uY z b e v new st=some (v',st',x)∧jq st' z e v' (es++new)∧aX st st' (ew v)∧(∀j,ew v' j→ew v j∨st.h≤j):=by
 have hlen:(es++new).length≤9223372036854775807:=by
  simp only [cZ,Vl] at hr;rw [Vg];exact VZ (VA hr.2.2) (by omega)
 have hz:z.beq z=true:=Wx z;cases new with
 | nil=>exact absurd rfl hn
 | cons a l=>
  have fresh: ∀n,n=(es++a::l).length→uY z b e v (a::l) st=vg st (.tok n e) (fun k=> .sl z (es++a::l) (.own k))→ ∃v' st' x,uY z b e v (a::l) st=some (v',st',x)∧jq st' z e v' (es++a::l)∧aX st st' (ew v)∧(∀j,ew v' j→ew v j∨st.h≤j):=by
   intro n hn he;refine ⟨.sl z (es++a::l) (.own st.h),st.add (.tok n e),⟨[],.made st.h (.tok n e)⟩,he,⟨Xi h.1,hlen,.inr (.inr ⟨st.h,rfl, ?_,h.1⟩)⟩,aX.add _ _ _, ?_⟩
   ·rw [← hn];exact St.ey
   ·rintro j ⟨z',es',e⟩;cases e;exact .inr (Vn _)
  rcases h.2.2 with ⟨rfl | rfl,rfl⟩ | rfl | ⟨k,rfl,hg,hro⟩
  ·simp only [Vj,VC] at hr;exact fresh (a::l).length rfl (by simp only [uY,hr,Vs])
  ·simp only [Vj,VC] at hr;exact fresh (a::l).length rfl (by simp only [uY,hr,Vs])
  ·exact fresh (es.length+(a::l).length) (by rw [Vg]) (by simp only [uY,hr,hz,V6])
  ·have h1:(es.length.beq es.length&&Nat.beq e e)=true:=by simp
   have h2:(st.ro.ble k)=true:=VS hro;refine ⟨.sl z (es++a::l) (.own k),st.put k (.tok (es.length+(a::l).length) e),⟨[k],.wrote k (.tok (es.length+(a::l).length) e)⟩, ?_,⟨h.1,hlen,.inr (.inr ⟨k,rfl, ?_,hro⟩)⟩,aX.put ⟨z,es,rfl⟩, ?_⟩
   ·simp only [uY,hr,hz,V6,hg,h1,ma,h2]
   ·rw [St.aS (St.cC.1 hg).1,Vg]
   ·rintro j ⟨z',es',e⟩;cases e;exact .inl ⟨_,_,rfl⟩
theorem Md {β:Type} {st:St} {z:Nat} {e:TypeId} {v:AV} {es:List AV} (h:jq st z e v es): ∃x,bu z x es∧ ∀(K:AV→Option β),eZ st 0 v K=K x:=by
 rcases h with ⟨_,hl,⟨rfl | rfl,rfl⟩ | rfl | ⟨k,rfl,_,_⟩⟩
 ·exact ⟨.aG,bu.aG,fun _=>rfl⟩
 ·exact ⟨.es,bu.emp,fun _=>rfl⟩
 ·exact ⟨.sl z es .shut,bu.shut hl,fun _=>rfl⟩
 ·exact ⟨.sl z es .wide,bu.wide hl,fun _=>rfl⟩
theorem aY {β:Type} {E:Env} {f:FuncId} {args:List AV} {v:AV} (st:St) (K:Kv β) (hf:E.full f=false) (hs:args.map strip=args) (hb:bx args=true) (h:(aA E).bare f args=some v):
  al (aA E) f args st K=K v st q0:=by
 have h1:(bx (args.map strip)&& !(aA E).full f)=true:=by
  rw [hs,hb];show (true&& !E.full f)=true;rw [hf];rfl
 unfold al nN Af;rw [h1,hs,h];rfl
theorem fR {β:Type} {E:Env} {f:FuncId} {args:List AV} {v:AV} {st st':St} (K:Kv β) (hl:E.isLook f=false) (hb:(bx (args.map strip)&& !E.full f)=false) (h:(aA E).wide f args st=some (v,st')):
  al (aA E) f args st K=K v st' ⟨[],.all st st'⟩:=by
 have h1:(bx (args.map strip)&& !(aA E).full f)=false:=hb;have h2:(aA E).isLook f=false:=hl;unfold al nN Af;rw [h1,h2,h];rfl
theorem wrap_i64 {n:Int} (h1: -9223372036854775808≤n) (h2:n≤9223372036854775807):IntKind.wrap .i64 n=n:=by
 have e:IntKind.wrap .i64 n=if n % 18446744073709551616≥9223372036854775808 then n % 18446744073709551616 - 18446744073709551616 else n % 18446744073709551616:=by
  show (if (true&&decide (n % (2 ^ 64:Int)≥(2 ^ 63:Int)))=true then n % (2 ^ 64:Int) - (2 ^ 64:Int) else n % (2 ^ 64:Int))= _;simp
 rw [e];split <;> omega
theorem drop_cons {α:Type} {l m:List α} {i:Nat} {v:α} (h:l.drop i=v::m):l[i]? =some v∧l.drop (i+1)=m∧i < l.length:=by
 have h1:(l.drop i)[0]? =some v:=by rw [h];rfl
 rw [WI] at h1;refine ⟨by simpa using h1, ?_, ?_⟩
 ·rw [← WK,h];rfl
 ·exact (WM.1 (by simpa using h1)).1
end Go.VM
namespace Go.VM
open Go
section
variable {β α:Type}
@[congr] theorem Pf {a a':α} {K:α→Option β} (h:a=a'):bB a K=bB a' K:=by rw [h]
@[congr] theorem RG {k:IntKind} {v v':AV} {K:Int→Option β} (h:v=v'):bU k v K=bU k v' K:=by rw [h]
@[congr] theorem RC {v v':AV} {K:Bool→Option β} (h:v=v'):cJ v K=cJ v' K:=by rw [h]
@[congr] theorem Rx {v v':AV} {K:List UInt8→Option β} (h:v=v'):eU v K=eU v' K:=by rw [h]
@[congr] theorem Qf {v v':AV} {K:Int→Option β} (h:v=v'):anyI v K=anyI v' K:=by rw [h]
@[congr] theorem Ry {v v':AV} {K:List AV→Option β} (h:v=v'):zH v K=zH v' K:=by rw [h]
@[congr] theorem RH {v v':AV} {K:List AV→Option β} (h:v=v'):gK v K=gK v' K:=by rw [h]
@[congr] theorem Rt {v v':List AV} {K:AV→List AV→Option β} (h:v=v'):bE v K=bE v' K:=by rw [h]
@[congr] theorem RN {v v':List AV} {K:Option β} (h:v=v'):cj v K=cj v' K:=by rw [h]
@[congr] theorem RM {v v':Bool} {K:Option β} (h:v=v'):dJ v K=dJ v' K:=by rw [h]
@[congr] theorem RD {v v':Bool} {x y:Option β} (h:v=v'):bD v x y=bD v' x y:=by rw [h]
@[congr] theorem Pb {v v':Option α} {K:α→Option β} (h:v=v'):aH v K=aH v' K:=by rw [h]
@[congr] theorem OP {v v':Sum α β} {K:α→Option β} (h:v=v'):lM v K=lM v' K:=by rw [h]
@[congr] theorem Qo {n n':Nat} {a:Option β} {b:Nat→Option β} (h:n=n'):ug n a b=ug n' a b:=by rw [h]
@[congr] theorem OK {v v':AV} {K:Option β} (h:v=v'):af v K=af v' K:=by rw [h]
@[congr] theorem Re {l l':List AV} {n:Nat} {K:AV→Option β} (h:l=l'):cE l n K=cE l' n K:=by rw [h]
@[congr] theorem PV {o:Nat} {v v':AV} {K:AV→Option β} (h:v=v'):fU o v K=fU o v' K:=by rw [h]
@[congr] theorem O6 {z:Nat} {g:Bool} {v v':AV} {st st':St} {K:AV→List Nat→Option β} (h:v=v') (h':st=st'):ay z g v st K=ay z g v' st' K:=by rw [h,h']
@[congr] theorem Pv {v v':AV} {K:AV→Option β} (h:v=v'):aJ v K=aJ v' K:=by rw [h]
@[congr] theorem P0 {v v':AV} {K:Option β} (h:v=v'):Ku v K=Ku v' K:=by rw [h]
@[congr] theorem Ra {v v':AV} {K:Nat→Option β} (h:v=v'):fJ v K=fJ v' K:=by rw [h]
@[congr] theorem LY {v v':AV} {K:List AV→Option β} (h:v=v'):mU v K=mU v' K:=by rw [h]
@[congr] theorem Rd {z:Nat} {v v':AV} {i i':Int} {st st':St} {K:AV→List Nat→Option β} (h:v=v') (h1:i=i') (h2:st=st'):eM z v i st K=eM z v' i' st' K:=by rw [h,h1,h2]
@[congr] theorem Oi {v v':List UInt8} {i i':Int} {K:UInt8→Option β} (h:v=v') (h1:i=i'):oP v i K=oP v' i' K:=by rw [h,h1]
@[congr] theorem LQ {i i':Int} {n n':Nat} {K:Nat→Option β} (h:i=i') (h1:n=n'):lj i n K=lj i' n' K:=by rw [h,h1]
@[congr] theorem OZ {i i':Int} {n n':Nat} {K:Nat→Option β} (h:i=i') (h1:n=n'):fX i n K=fX i' n' K:=by rw [h,h1]
@[congr] theorem Nn {z:Nat} {v v':AV} {a a' b b' c c':Option Int} {K:AV→Option β} (h:v=v') (h1:a=a') (h2:b=b') (h3:c=c'):eR z v a b c K=eR z v' a' b' c' K:=by rw [h,h1,h2,h3]
@[congr] theorem QB {z b:Nat} {e:TypeId} {v v':AV} {n n':List AV} {st st':St} {K:Kv β} (h:v=v') (h1:n=n') (h2:st=st'):eD z b e v n st K=eD z b e v' n' st' K:=by rw [h,h1,h2]
@[congr] theorem ON {g:Bool} {l l':List AV} {K:List AV→Option β} (h:l=l'):lZ g l K=lZ g l' K:=by rw [h]
@[congr] theorem OX {O:sy} {f:FuncId} {l l':List AV} {st st':St} {K:Kv β} (h:l=l') (h1:st=st'):al O f l st K=al O f l' st' K:=by rw [h,h1]
@[congr] theorem OM {O:sy} {p p':cM dF} {st st':St} {K:Kv β} (h:p=p') (h1:st=st'):cK O p st K=cK O p' st' K:=by rw [h,h1]
@[congr] theorem OW {O:sy} {pr:FuncId→Option Prim} {f f':AV} {l l':List AV} {st st':St} {K:Kv β} (h0:f=f') (h:l=l') (h1:st=st'):jf O pr f l st K=jf O pr f' l' st' K:=by rw [h0,h,h1]
@[congr] theorem Nz {O:sy} {z:Nat} {a a' v v':AV} {l l':List AV} {st st':St} {K:Kv β} (h0:a=a') (h2:v=v') (h:l=l') (h1:st=st'):aD O z a v l st K=aD O z a' v' l' st' K:=by rw [h0,h2,h,h1]
@[congr] theorem P7 {st st':St} {b:Nat} {v v':AV} {K:AV→Option β} (h1:st=st') (h:v=v'):eZ st b v K=eZ st' b v' K:=by rw [h1,h]
@[congr] theorem PN {st st':St} {o o':Obj} {f:Nat→AV} {K:Kv β} (h1:st=st') (h:o=o'):made st o f K=made st' o' f K:=by rw [h1,h]
@[congr] theorem Qe {u:U} {v v' w w':AV} {K:Bool→Option β} (h:v=v') (h1:w=w'):K1 u v w K=K1 u v' w' K:=by rw [h,h1]
@[congr] theorem OL {a a':St} {K:St→Option β} (h:a=a'):bR a K=bR a' K:=by rw [h]
@[simp] theorem bN (a:St) (K:St→Option β):bR a K=K a:=id rfl
end
theorem br {σ β:Type} {F:σ→Option (Sum σ β)} {s s':σ} (h:F s=some (.inl s')):bn F s=bn F s':=by rw [nu,h]
theorem bo {σ β:Type} {F:σ→Option (Sum σ β)} {s:σ} {r:β} (h:F s=some (.inr r)):bn F s=some r:=by rw [nu,h]
def Fz (d:Nat) (v:AV):Prop:= ∀st base n,d≤n→freeze st base n v= .ok v
theorem Fz.mono {d e:Nat} {v:AV} (h:Fz d v) (hd:d≤e):Fz e v:=fun st base n hn=>h st base n (VZ hd hn)
theorem MT (b:Bool):Fz 1 (.bool b):=fun _ _ n hn=>by cases n with | zero=>omega | succ n=>rfl
theorem kF (k:IntKind) (m:Int):Fz 1 (.int k m):=fun _ _ n hn=>by cases n with | zero=>omega | succ n=>rfl
theorem B7 (s:List UInt8):Fz 1 (.str s):=fun _ _ n hn=>by cases n with | zero=>omega | succ n=>rfl
theorem GS:Fz 1 .aG:=fun _ _ n hn=>by cases n with | zero=>omega | succ n=>rfl
theorem SB:Fz 1 .es:=fun _ _ n hn=>by cases n with | zero=>omega | succ n=>rfl
theorem Om (z:Nat) (es:List AV):Fz 1 (.sl z es .wide):=fun _ _ n hn=>by cases n with | zero=>omega | succ n=>rfl
theorem NG (z:Nat) (es:List AV):Fz 1 (.sl z es .shut):=fun _ _ n hn=>by cases n with | zero=>omega | succ n=>rfl
theorem Gt {z:Nat} {x:AV} {es:List AV} (h:bu z x es):Fz 1 x:=by
 rcases h.2 with ⟨rfl | rfl,rfl⟩ | rfl | rfl
 ·exact GS
 ·exact SB
 ·exact NG _ _
 ·exact Om _ _
theorem CH {st:St} {base n d:Nat} (hn:d≤n): ∀{cs:List AV},(∀c∈cs,Fz d c)→jD (freeze st base n) cs= .ok cs
 | [],_=>rfl
 | c::cs,h=>by
  have h1:=h c (by simp) st base n hn;have h2:=CH (st:=st) (base:=base) hn fun c hc=>h c (Vy _ hc);simp only [jD,h1,h2,ax,aI]
theorem KZ {d:Nat} {cs:List AV} (h: ∀c∈cs,Fz d c):Fz (d+1) (.agg cs):=fun st base n hn=>by
 cases n with
 | zero=>omega
 | succ n=>
  show (do pure (.agg (← jD (freeze st base n) cs)):cM AV)= _;rw [CH (by omega) h];rfl
theorem Ri {d:Nat} {cs:List AV} (h: ∀c∈cs,Fz d c):Fz (d+1) (.tup cs):=fun st base n hn=>by
 cases n with
 | zero=>omega
 | succ n=>
  show (do pure (.tup (← jD (freeze st base n) cs)):cM AV)= _;rw [CH (by omega) h];rfl
theorem PB {β:Type} {d:Nat} {v:AV} (h:Fz d v) (hd:d≤100) (hb:bare v=true) (st:St) (base:Nat) (K:AV→Option β):eZ st base v K=K v:=by
 simp only [eZ,h st base 100 hd,hb,aV]
theorem eF {β:Type} {O:sy} {st:St} {id off:Nat} {t:TypeId} {old:List AV} {z:Nat} {v:AV} {cs:List AV} (hg:st.get id= .ok (.cells t old)) (hz:cs.length=z) (hl:off+cs.length≤old.length) (hro:st.ro≤id) (K:Kv β):
  aD O z (.mp id off) v cs st K=K undef (st.put id (.cells t (cO old off cs))) ⟨[id],.wrote id (.cells t (cO old off cs))⟩:=by
 have h1:cs.length.beq z=true:=by rw [hz];exact Wx z
 simp only [aD,nN,F8,h1,hg,VS hl,ma,VS hro,aq,Rl]
theorem jO {old cs:List AV} (h:cs.length=old.length):cO old 0 cs=cs:=by
 simp only [cO,List.take_zero,Vs,VC];rw [h,List.drop_length,VH]
theorem qm {O:sy} {st:St} {t:TypeId} {z:Nat} {old cs:List AV} (v:AV) (hl:old.length=z) (hc:cs.length=z) (hro:st.ro≤st.h):
  ∃st',st'.get st.h= .ok (.cells t cs)∧aX st st' (fun _=>False)∧st'.h=st.h+1∧ ∃fx,∀{β:Type} (K:Kv β),aD O z (.mp st.h 0) v cs (st.add (.cells t old)) K=K undef st' fx:=by
 have hg:(st.add (.cells t old)).get st.h= .ok (.cells t old):=St.ey;refine ⟨(st.add (.cells t old)).put st.h (.cells t cs),St.aS (Wq _),⟨rfl,Nat.le_succ _,fun j o _ hj=> ?_⟩,rfl,⟨[st.h],.wrote st.h (.cells t (cO old 0 cs))⟩,fun K=> ?_⟩
 ·have hlt:=(St.cC.1 hj).1;rw [St.aW (by omega)];exact St.mA hj
 ·rw [eF hg hc (by omega) hro];rw [jO (by omega)]
theorem bu.cut {z:Nat} {x:AV} {es:List AV} (h:bu z x es) {lo hi:Option Int} {l m:Nat} (hl:su lo m 0=some l) (hh:su hi es.length es.length=some m):
  ∃x',bu z x' ((es.take m).drop l)∧ ∀{β:Type} (K:AV→Option β),eR z x lo hi none K=K x':=by
 obtain ⟨x',hx,e⟩:=h.slice hl hh (some:AV→Option AV);refine ⟨x',hx,fun K=> ?_⟩;have e:aH (kK z x lo hi none) some=some x':=e;show aH (kK z x lo hi none) K= _;cases hs:kK z x lo hi none with
 | none=>rw [hs] at e;cases e
 | some u=>rw [hs] at e;cases e;rfl
@[simp] theorem dL (r:List Nat):apart ⟨r,.kept⟩ q0=true:=id rfl
@[simp] theorem dR (r:List Nat):apart q0 ⟨r,.kept⟩=true:=id rfl
theorem za {cs:List AV}:bare (.agg cs)=bx cs:=rfl
theorem Lk {cs:List AV}:bare (.tup cs)=bx cs:=rfl
def xn (st:St) (u8:TypeId) (a:AV) (out:List UInt8):Prop:=(a= .aG∧out=[])∨ ∃k,a= .sl 1 (ofBytes out) (.own k)∧st.get k= .ok (.tok out.length u8)∧st.ro≤k∧out≠[]
def O9 (st:St) (T u8:TypeId) (p:Nat) (pre post:List AV) (out:List UInt8):Prop:=
 ∃a0 a1,st.get p= .ok (.cells T (pre++a0::a1::post))∧(a0= .nilp∨a0= .mp p pre.length)∧xn st u8 a1 out∧st.ro≤p
structure gM (st st':St) (u8:TypeId) (p:Nat):Prop where
 ro:st'.ro=st.ro
 h:st.h≤st'.h
 old: ∀j o,j≠p→(∀n,o≠ .tok n u8)→st.get j= .ok o→st'.get j= .ok o
theorem gM.refl (st:St) (u8:TypeId) (p:Nat):gM st st u8 p:=⟨rfl,Vn _,fun _ _ _ _ h=>h⟩
theorem gM.trans {a b c:St} {u8:TypeId} {p:Nat} (h:gM a b u8 p) (k:gM b c u8 p):gM a c u8 p:=
 ⟨k.ro.trans h.ro,VZ h.h k.h,fun j o hj ho hg=>k.old j o hj ho (h.old j o hj ho hg)⟩
theorem gM.put {st:St} {u8:TypeId} {p:Nat} {o:Obj}:gM st (st.put p o) u8 p:=⟨rfl,Vn _,fun j x hj _ hg=>by rw [St.aW (fun e=>hj e.symm)];exact hg⟩
theorem O9.Dr {st st':St} {T u8:TypeId} {p:Nat} {pre post:List AV} {out:List UInt8} (h:O9 st T u8 p pre post out) (k:aX st st' fun _=>False):O9 st' T u8 p pre post out:=by
 obtain ⟨a0,a1,h1,h2,h3,h4⟩:=h;refine ⟨a0,a1,k.old _ _ (fun h=>h) h1,h2, ?_,by rw [k.ro];exact h4⟩;rcases h3 with h3 | ⟨j,e,hj,hr,hn⟩
 ·exact .inl h3
 ·exact .inr ⟨j,e,k.old _ _ (fun h=>h) hj,by rw [k.ro];exact hr,hn⟩
theorem xn.put {st:St} {u8:TypeId} {a:AV} {out:List UInt8} {p:Nat} {T:TypeId} {cs cs':List AV} (h:xn st u8 a out) (hp:st.get p= .ok (.cells T cs)):xn (st.put p (.cells T cs')) u8 a out:=by
 rcases h with h | ⟨k,h1,h2,h3,h4⟩
 ·exact .inl h
 ·refine .inr ⟨k,h1, ?_,h3,h4⟩;have:p≠k:=by rintro rfl;rw [hp] at h2;cases h2
  rw [St.aW this];exact h2
theorem xQ (a b:List UInt8):ofBytes (a++b)=ofBytes a++ofBytes b:=VT
theorem eC (a:List UInt8):(ofBytes a).length=a.length:=VL _
theorem po: ∀(s:List UInt8),eT (ofBytes s)= .ok s
 | []=>rfl
 | b::l=>by
  have ih:=po l;show (match b.toNat.blt 256 with | true=>(do pure (UInt8.ofNat b.toNat::(← eT (ofBytes l))):cM (List UInt8)) | false=> .error "no byte")= _;rw [cH.2 (UInt8.toNat_lt b),ih];show Except.ok (UInt8.ofNat b.toNat::l)= _;simp
section
variable {β:Type} {O:sy}
theorem vH: ∀(s:List UInt8) (K:List AV→Option β),lZ false (ofBytes s) K=K (ofBytes s)
 | [],_=>rfl
 | b::l,K=>by
  show aJ (.int .u8 b.toNat) (fun v'=>lZ false (ofBytes l) fun l'=>K (v'::l'))= _;rw [CO,vH l];rfl
theorem vf: ∀(s:List UInt8),lb 1 (ofBytes s)=true
 | []=>rfl
 | b::l=>by
  have:=vf l;simp only [lb,ofBytes,Vu,WO] at this ⊢;rw [this];rfl
theorem AO (pre post:List AV) (a:AV):eS (pre++a::post) pre.length= .ok a:=by
 induction pre with
 | nil=>rfl
 | cons v l ih=>exact ih
theorem yS (pre post:List AV) (a b:AV):eS (pre++a::b::post) (pre.length+1)= .ok b:=by
 induction pre with
 | nil=>rfl
 | cons v l ih=>exact ih
theorem Je (pre post:List AV) (a b:AV):(pre++a::b::post).drop (pre.length+1)=b::post:=by
 induction pre with
 | nil=>rfl
 | cons v l ih=>exact ih
theorem xM (pre post:List AV) (a x:AV):cO (pre++a::post) pre.length [x]=pre++x::post:=by
 simp [cO,Xj]
theorem DG (pre post:List AV) (a b x:AV):cO (pre++a::b::post) (pre.length+1) [x]=pre++a::x::post:=by
 have:=xM (pre++[a]) post b x;simpa using this
theorem Bm {st:St} {L:List (TypeId×Nat×Nat)} {T u8:TypeId} {p:Nat} {pre post:List AV} {out:List UInt8} (h:O9 st T u8 p pre post out) (hl:BK L T (pre++ .nilp:: .aG::post).length pre.length=true):
  ∃st' a1,st'.get p= .ok (.cells T (pre++ .mp p pre.length::a1::post))∧xn st' u8 a1 out∧st'.ro≤p∧gM st st' u8 p∧st'.h=st.h∧ ∃fx,∀{β:Type} (K:Kv β),cK O (dm (.copyCheck L) [.mp p pre.length]) st K=K (.tup []) st' fx:=by
 obtain ⟨a0,a1,h1,h2,h3,h4⟩:=h;have hl':BK L T (pre++a0::a1::post).length pre.length=true:=by simpa using hl
 rcases h2 with rfl | rfl
 ·refine ⟨st.put p (.cells T (pre++ .mp p pre.length::a1::post)),a1,St.aS (St.cC.1 h1).1,h3.put h1,h4,gM.put,rfl,⟨[p],.wrote p (.cells T (pre++ .mp p pre.length::a1::post))⟩,fun K=> ?_⟩;simp only [cK,nN,dm,pZ,h1,mw,ax,hl',AO,aI,xM,ma,VS h4,aq]
 ·refine ⟨st,a1,h1,h3,h4,gM.refl _ _ _,rfl,⟨[p],.kept⟩,fun K=> ?_⟩;simp only [cK,nN,dm,pZ,h1,mw,ax,hl',AO,aI,Wx,V6,aq]
theorem FV {st:St} {T u8:TypeId} {p:Nat} {pre post:List AV} {out:List UInt8} (h:O9 st T u8 p pre post out) (ho:out.length < 4611686018427387904) (K:Kv β):
  ∃fx,cK O (dm (.builderString u8) [.mp p pre.length]) st K=K (.str out) st fx:=by
 obtain ⟨a0,a1,h1,h2,h3,h4⟩:=h;rcases h3 with ⟨rfl,rfl⟩ | ⟨k,rfl,hk,hr,hn⟩
 ·refine ⟨⟨[],.looked⟩, ?_⟩;simp only [cK,nN,dm,pZ,h1,cellsOf,ax,yS,aI,aq]
 ·refine ⟨⟨[],.looked⟩, ?_⟩;have e1:(ofBytes out).isEmpty=false:=by
   cases out with
   | nil=>exact absurd rfl hn
   | cons b l=>rfl
  have e2:(Nat.beq u8 u8&&Nat.beq out.length (ofBytes out).length&& !(ofBytes out).isEmpty&&Nat.blt out.length 4611686018427387904)=true:=by
   rw [eC,e1,cH.2 ho,Wx,Wx];rfl
  simp only [cK,nN,dm,pZ,h1,cellsOf,ax,yS,aI,aq,VS hr,hk,e2,po]
noncomputable def KK (O:sy) (L:List (TypeId×Nat×Nat)) (u8:TypeId):AV→AV→St→Option (AV×St):=fun x0 x1 st=>eU x1 fun l0=>cK O (dm (Prim.copyCheck L) [x0]) st fun _x st2 _x_1=>dJ (notNil x0) (fU 1 x0 fun v4=>
 ay 1 false v4 st2 fun v5 _x=>lZ false (ofBytes l0) fun l7=>dJ (lb 1 l7) (eD 1 1 u8 v5 l7 st2 fun v8 st9 _x=>dJ (notNil x0) (fU 1 x0 fun v11=>af v8 (af v8 (aD
 O 1 v11 v8 [v8] st9 fun _x st13 _x_2=>some (AV.tup [AV.int .i64 (↑(List.length l0):Int),AV.nili],st13))))))
theorem MC {st:St} {u8:TypeId} {a:AV} {out s:List UInt8} (h:xn st u8 a out) (hl:out.length+s.length≤70368744177664) (hro:st.ro≤st.h):
  ∃v st',xn st' u8 v (out++s)∧one v=true∧st'.ro=st.ro∧st.h≤st'.h∧(∀j o,(∀n,o≠ .tok n u8)→st.get j= .ok o→st'.get j= .ok o)∧ ∃fx,∀{β:Type} (K:Kv β),eD 1 1 u8 a (ofBytes s) st K=K v st' fx:=by
 have room: ∀n,n≤70368744177664→cZ n ⟨.other,1,1,[],false,false⟩=true:=fun n hn=>by
  simp only [cZ,Nat.mul_one,VS hn];rfl
 cases s with
 | nil=>
  refine ⟨a,st,by simpa using h, ?_,rfl,Vn _,fun _ _ _ h=>h,q0,fun K=> ?_⟩
  ·rcases h with ⟨rfl,_⟩ | ⟨k,rfl,_⟩ <;> rfl
  ·rcases h with ⟨rfl,rfl⟩ | ⟨k,rfl,hk,hr,hn⟩ <;> rfl
 | cons b s=>
  rcases h with ⟨rfl,rfl⟩ | ⟨k,rfl,hk,hr,hn⟩
  ·have hr:=room (ofBytes (b::s)).length (by rw [eC];simpa using hl);refine ⟨.sl 1 (ofBytes (b::s)) (.own st.h),st.add (.tok (ofBytes (b::s)).length u8),.inr ⟨st.h,rfl, ?_,hro,by simp⟩,rfl,rfl,Nat.le_succ _,fun j o _ hg=>St.mA hg,⟨[],.made st.h (.tok (ofBytes (b::s)).length u8)⟩,fun K=> ?_⟩
   ·rw [eC];exact St.ey
   ·exact mB (by simp only [ofBytes,Vu] at hr ⊢;simp only [uY,hr];rfl) K
  ·have hr2:=room ((ofBytes out).length+(ofBytes (b::s)).length) (by rw [eC,eC];exact hl);refine ⟨.sl 1 (ofBytes (out++b::s)) (.own k),st.put k (.tok ((ofBytes out).length+(ofBytes (b::s)).length) u8),.inr ⟨k,rfl, ?_,hr,by simp⟩,rfl,rfl,Vn _,fun j o ho hg=> ?_,⟨[k],.wrote k (.tok ((ofBytes out).length+(ofBytes (b::s)).length) u8)⟩,fun K=> ?_⟩
   ·rw [St.aS (St.cC.1 hk).1,eC,eC,Vg]
   ·have:k≠j:=by rintro rfl;rw [hk] at hg;cases hg;exact ho _ rfl
    rw [St.aW this];exact hg
   ·have e1:(Nat.beq out.length (ofBytes out).length&&Nat.beq u8 u8)=true:=by rw [eC,Wx,Wx];rfl
    have e2:Nat.beq 1 1=true:=rfl;refine mB ?_ K;rw [xQ];simp only [ofBytes,Vu] at hr2 e1 ⊢;simp only [uY,hr2,e2,V6,hk,e1,ma,VS hr]
theorem Jc {st:St} {L:List (TypeId×Nat×Nat)} {T u8:TypeId} {p:Nat} {pre post:List AV} {out s:List UInt8} (h:O9 st T u8 p pre post out) (hl:BK L T (pre++ .nilp:: .aG::post).length pre.length=true)
  (hlen:out.length+s.length≤70368744177664) (hro:st.ro≤st.h):
  ∃st',KK O L u8 (.mp p pre.length) (.str s) st=some (.tup [.int .i64 (s.length:Int),.nili],st')∧O9 st' T u8 p pre post (out++s)∧gM st st' u8 p:=by
 obtain ⟨st2,a1,h1,h2,h3,h4,hh,fx,hcc⟩:=Bm (O:=O) h hl;obtain ⟨v,st3,b1,b2,b3,b4,b5,fx2,happ⟩:=MC (s:=s) h2 hlen (by rw [h4.ro,hh];exact hro);have hp3:=b5 p _ (by intro n;simp) h1;have hst:=fun (K:Kv (AV×St))=>eF (O:=O) (z:=1) (v:=v) (cs:=[v]) (off:=pre.length+1) hp3 rfl (by simp;omega) (by rw [b3];exact h3) K;refine ⟨st3.put p (.cells T (pre++ .mp p pre.length::v::post)), ?_,⟨_,v,St.aS (St.cC.1 hp3).1,.inr rfl,b1.put hp3,by show st3.ro≤p;rw [b3];exact h3⟩, ?_⟩
 ·simp only [KK,ao,hcc,notNil,aV,bL,bm h1,Je,aZ,aq,vH,vf,happ,iS b2,hst,DG]
 ·exact h4.trans ⟨b3,b4,fun j o hj ho hg=>by
   rw [St.aW (fun e=>hj e.symm)];exact b5 j o ho hg⟩
end
end Go.VM
