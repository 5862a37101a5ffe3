/-
  (A part of the proof: Exec, Body, Call, Caller, Table, Mono, Sh, ShOk, ShOk2, ShOk3, ShOk4, ShOk5, Rnd, Kit, Kit2, KitB.)
-/
import Derived.Test.YtmngkfmgnkeclaaGreatDoorVmAI
import Derived.LoopN
import Derived.Scope
import Derived.RangeFuncLeaves
import Derived.RangeFuncRecord
namespace Go.VM
def Ex.to:Ex→Exit
 | .normal=> .normal
 | .exit id=> .exit id
 | .ret=> .ret
section
variable {P:Program}
theorem Kp.sub {A A':Nat→Prop} {g g':Gh} {w w':World} (h:Kp A' g w g' w') (hs: ∀b,A' b→A b):Kp A g w g' w':=
 ⟨h.size,fun b hb=>h.heap b fun k=>hb (hs b k),fun b hb=>h.F b fun k=>hb (hs b k),fun b hb=>h.M b fun k=>hb (hs b k),h.le,h.rest⟩
structure Nx (A:Nat→Prop) (g:Gh) (a:Act) (w:World) (A':Nat→Prop) (g':Gh) (a':Act) (w':World):Prop where
 sub: ∀b,A' b→A b
 kp:Kp A g w g' w'
 defs: ∀d∈a'.defers,d∈a.defers∨ ∃D,d=mark D∧A D
theorem Nx.refl (A:Nat→Prop) (g:Gh) (a:Act) (w:World):Nx A g a w A g a w:=⟨fun _ h=>h,Kp.refl _ _ _,fun _ h=> .inl h⟩
theorem Nx.trans {A A1 A2:Nat→Prop} {g g1 g2:Gh} {a a1 a2:Act} {w w1 w2:World} (h:Nx A g a w A1 g1 a1 w1) (k:Nx A1 g1 a1 w1 A2 g2 a2 w2):Nx A g a w A2 g2 a2 w2:=
 ⟨fun b hb=>h.sub b (k.sub b hb),h.kp.trans (k.kp.sub h.sub),fun d hd=>by
  rcases k.defs d hd with hd | ⟨D,rfl,hD⟩
  ·exact h.defs d hd
  ·exact .inr ⟨D,rfl,h.sub D hD⟩⟩
theorem ya {X:Cx} {ro:Option Nat} {c:Code} {body:Fr→St→cV (Ex×Fr×St)}
  (hb: ∀A fr st ex fr' st' g a w (Q:Exit→Act→World→Prop),body fr st= .ok (ex,fr',st')→Rel X A ro g fr st a w→(∀A' g' a' w',Rel X A' ro g' fr' st' a' w'→Nx A g a w A' g' a' w'→Q ex.to a' w')→c.wpIn (fe ro) 0 P Q a w):
  ∀(n:Nat) {A:Nat→Prop} {fr fr':Fr} {st st':St} {ex:Ex} {g:Gh} {a:Act} {w:World} {Q:Exit→Act→World→Prop},iter body n fr st= .ok (ex,fr',st')→Rel X A ro g fr st a w→(∀A' g' a' w',Rel X A' ro g' fr' st' a' w'→Nx A g a w A' g' a' w'→Q ex.to a' w')→Code.roundsIn (fe ro) 0 P c Q n a w
 | 0,_,_,_,_,_,_,_,_,_,_,h,_,_=>by simp [iter] at h
 | n+1,A,fr,fr',st,st',ex,g,a,w,Q,h,hr,hQ=>by
  simp only [iter,ae] at h
  obtain ⟨⟨ex1,fr1,st1⟩,h1,h2⟩:=h
  rw [roundsIn_succ]
  refine hb A fr st ex1 fr1 st1 g a w _ h1 hr fun A' g' a' w' hr' hk=> ?_
  cases ex1 with
  | normal=>exact ya hb n h2 hr' fun A'' g'' a'' w'' hr'' hk'=>hQ A'' g'' a'' w'' hr'' (hk.trans hk')
  | exit id=>
   simp only [ai,Prod.mk.injEq] at h2
   obtain ⟨rfl,rfl,rfl⟩:=h2
   exact hQ A' g' a' w' hr' hk
  | ret=>
   simp only [ai,Prod.mk.injEq] at h2
   obtain ⟨rfl,rfl,rfl⟩:=h2
   exact hQ A' g' a' w' hr' hk
theorem M1 {T:TT} {A:Nat→Prop} {g:Gh} {st:St} {w:World} (h:Inv T A g st w) {l:Nat} {o:Go.Obj} (hl:w.heap[l]? =some o) (ho: ∀vs ty fz,o≠ .cells vs ty fz) (k:Nat):g.F l k=none:=by
 cases hf:g.F l k with
 | none=>rfl
 | some v=>
  obtain ⟨vs,ty,fz,h1,_⟩:=nq (h.F l k v hf)
  rw [hl] at h1
  exact absurd (Option.some.inj h1) (ho vs ty fz)
theorem MS {T:TT} {A:Nat→Prop} {g:Gh} {st:St} {w:World} (h:Inv T A g st w) {l:Nat} {o:Go.Obj} (hl:w.heap[l]? =some o) (ho: ∀es clk,o≠ .map es clk):g.M l=none:=by
 cases hm:g.M l with
 | none=>rfl
 | some v=>
  have h1:=h.M l v.1 v.2 hm
  rw [hl] at h1
  exact absurd (Option.some.inj h1) (ho _ _)
theorem Inv.turn {T:TT} {A:Nat→Prop} {g:Gh} {st:St} {w:World} (h:Inv T A g st w) {k l:Nat} {imm:TypeId→Bool} {ps:List Tmp} {x c:Code} {fr:Fr} {s:Nat} {p:Ex} (hk:st.get k= .ok (.loop imm ps x c fr s p)) (hE:g.E k=some (.blk l)) {r:Loop} (hl:w.heap[l]? =some (.loop r)) (hA:A l)
  (r':Loop) (o':Obj) (hat: ∀b',At g k o' b'→b'=l) (ho:Holds T g (w.putObj l (.loop r')) k o'):Inv T A g (st.put k o') (w.putObj l (.loop r'))∧Kp A g w g (w.putObj l (.loop r')):=by
 have hne: ∀b',b'≠l→(w.putObj l (.loop r')).heap[b']? =w.heap[b']? :=fun b' hb=>World.putObj_heap_other hb
 exact ⟨h.write hk (show g.E k=some (.blk l) from hE) o' World.putObj_size hne (fun j v hv=>by rw [M1 h hl (fun _ _ _ e=>by cases e) j] at hv;cases hv) (MS h hl fun _ _ e=>by cases e) hat ho,
  Kp.write hA World.putObj_size hne⟩
theorem ox {k s0 s1:Nat} {p:Ex} {st st':St} (h:qf k s0 s1 p st= .ok st'): ∃imm ps x c fr p0,st.get k= .ok (.loop imm ps x c fr s0 p0)∧st'=st.put k (.loop imm ps x c fr s1 p):=by
 simp only [qf,ae] at h
 obtain ⟨o,h1,h2⟩:=h
 split at h2
 ·rename_i imm ps x c fr s p0
  split at h2
  ·rename_i hs
   have hs:=Nat.eq_of_beq_eq_true hs
   subst hs
   cases h2
   exact ⟨imm,ps,x,c,fr,p0,h1,rfl⟩
  ·cases h2
 ·cases h2
theorem sB (fr:Fr): ∀(us:List Nat) (t:Tr AV) (i:Nat),(pD us (jN fr us) t).get i=t.get i∨(pD us (jN fr us) t).get i=some (fr.get i)
 | [],t,i=> .inl rfl
 | u::us,t,i=>by
  simp only [jN,pD]
  rcases sB fr us (t.put u (fr.get u)) i with h | h
  ·rw [h,Tr.iA]
   by_cases hu:u=i
   ·rw [if_pos hu,hu];exact .inr rfl
   ·rw [if_neg hu];exact .inl rfl
  ·exact .inr h
theorem Et {g:Gh} {fr:Fr} {tmps:Array Value} (h:vh g fr tmps) (hs:fr.strict=false) (us:List Nat):vh g (GP fr.n us (jN fr us)) tmps:=by
 refine ⟨h.size,fun t=> ?_⟩
 simp only [GP,Fr.get]
 rcases sB fr us .leaf t with h1 | h1
 ·rw [h1,Tr.su];exact .inl ⟨trivial,rfl⟩
 ·rw [h1];exact .inr (h.at hs t)
theorem Inv.less {T:TT} {A A':Nat→Prop} {g:Gh} {st:St} {w:World} (h:Inv T A g st w) (ho: ∀b,b < w.heap.size→A b→A' b) (hu: ∀b,w.heap.size≤b→A' b):Inv T A' g st w:=
 ⟨h.F,h.M,h.E,h.H,h.D,fun id o b h1 h2 h3=>ho b (zI (h.H id o h1) h2) (h.own id o b h1 h2 h3),hu⟩
theorem Ar {X:Cx} (hX:Good P X) {n:Nat} {x:Operand} {ps:Array Tmp} {y c:Code} (hc:codeOk y=true∧codeOk c=true) {A:Nat→Prop} {ro:Option Nat} {fr fr':Fr} {st st':St} {ex:Ex} {g:Gh} {a:Act} {w:World} {Q:Exit→Act→World→Prop}
  (h:exec X n (.rangeFunc x ps y c) fr st= .ok (ex,fr',st')) (hr:Rel X A ro g fr st a w) (hQ: ∀A' g' a' w',Rel X A' ro g' fr' st' a' w'→Nx A g a w A' g' a' w'→Q ex.to a' w'):(Code.rangeFunc x ps y c).wpIn (fe ro) 0 P Q a w:=by
 simp only [exec] at h
 split at h
 ·cases h
 rename_i hs
 have hro:ro=none:=by
  have:=hr.mode
  rw [hs] at this
  cases ro with
  | none=>rfl
  | some l=>cases this
 subst hro
 simp only [ae] at h
 obtain ⟨fv,h1,h⟩:=h
 split at h
 ·rename_i f cap
  simp only [ae] at h
  obtain ⟨⟨v,st1⟩,h2,o,h3,h4⟩:=h
  dsimp only at h3 h4
  split at h4
  ·rename_i imm1 ps1 x1 c1 fr1 s p
   split at h4
   ·rename_i hsp
    simp only [ai,Prod.mk.injEq] at h4
    obtain ⟨rfl,rfl,rfl⟩:=h4
    have hfv:=aP hr.G hr.fr h1
    simp only [R,RL] at hfv
    obtain ⟨a',c',hfx,ha',hc'⟩:=hfv
    have ha':a'= #[]:=by simpa using ha'
    subst ha'
    refine wpIn_rangeFunc ?_
    intro fn hfn
    obtain ⟨rec,hrec⟩: ∃rec:Loop,rec={state:= .ready,pending:=none,fn,tmps:=a.tmps,params:=ps,assign:=y,body:=c,defers:=w.heap.size}:=⟨_,rfl⟩
    obtain ⟨W0,hW0⟩: ∃W0,w.alloc (.deferred (some []))=W0:=⟨_,rfl⟩
    obtain ⟨W1,hW1⟩: ∃W1,W0.alloc (.loop rec)=W1:=⟨_,rfl⟩
    have hs0:W0.heap.size=w.heap.size+1:=by rw [← hW0];simp
    have hs1:W1.heap.size=w.heap.size+1+1:=by rw [← hW1, ← hW0];simp
    obtain ⟨A',hA'⟩: ∃A':Nat→Prop,A'=fun b=>A b∧b≠w.heap.size:=⟨_,rfl⟩
    have hsub: ∀b,A' b→A b:=fun b hb=>by rw [hA'] at hb;exact hb.1
    have i0:Inv X.T A g st W0:=by rw [← hW0];exact hr.inv.alloc _
    have i0:Inv X.T A' g st W0:=by
     refine ⟨i0.F,i0.M,i0.E,i0.H,i0.D,fun id o b q1 q2 q3=> ?_,fun b hb=> ?_⟩
     ·rw [hA']
      have:=zI (hr.inv.H id o q1) q2
      exact ⟨i0.own id o b q1 q2 q3,by omega⟩
     ·rw [hA']
      exact ⟨hr.inv.up b (by omega),by omega⟩
    have k0:Kp A g w g W0:=by rw [← hW0];exact Kp.alloc _ hr.inv
    have hl1:W1.heap[w.heap.size+1]? =some (.loop rec):=by
     have:=World.heap_alloc_new (w:=W0) (o:= .loop rec)
     rw [hW1,hs0] at this
     exact this
    have hD1:W1.heap[w.heap.size]? =some (.deferred (some [])):=by
     rw [← hW1,World.ia (by omega), ← hW0]
     exact World.heap_alloc_new
    have hE0:g.E st.h=none:=hr.inv.E _ (Nat.le_refl _)
    have le1:Le g (g.cS st.h (.blk (w.heap.size+1))):=Le.cS hE0
    have hAl:A' (w.heap.size+1):=by rw [hA'];exact ⟨hr.inv.up _ (by omega),by omega⟩
    have i1:Inv X.T A' (g.cS st.h (.blk (w.heap.size+1))) (st.new (.loop X.imm ps.toList y c (GP fr.n (nO ps.toList y c) (jN fr (nO ps.toList y c))) 0 .normal)).2 W1:=by
     have:=i0.alloc (.loop rec)
     rw [hW1] at this
     refine this.name _ (.blk (w.heap.size+1)) (w.heap.size+1) (fun id o' ho'=>i0.gh (by omega) id o' ho') hAl (fun b' hb'=> ?_) ⟨w.heap.size+1,rec,Gh.aM _ _ _,hl1, ?_, ?_, ?_, ?_,⟨hc.1,hc.2,rfl⟩, ?_⟩
     ·have hb':(g.cS st.h (.blk (w.heap.size+1))).E st.h=some (.blk b'):=hb'
      rw [Gh.aM] at hb'
      simpa using hb'.symm
     ·rw [hrec];exact (Et hr.fr hs _).mono le1
     ·rw [hrec]
     ·rw [hrec]
     ·rw [hrec]
     ·rw [hrec];exact .inl ⟨rfl,rfl,rfl,rfl⟩
    have k1:Kp A' g W0 (g.cS st.h (.blk (w.heap.size+1))) W1:=by
     rw [← hW1];exact (Kp.alloc _ i0).trans (Kp.cS hE0)
    have hargs:RL (g.cS st.h (.blk (w.heap.size+1))) (.yld st.h::cap) (.func (.yield (w.heap.size+1)) #[] #[]::c'.toList):=
     cE (by simp only [R];exact ⟨_,Gh.aM _ _ _,rfl⟩) (dI le1 _ _ hc')
    obtain ⟨e1,hcall⟩:=hX.C.wide _ _ _ _ _ h2 A' _ W1 _ (hr.G.mono le1) hargs i1
    refine ⟨w.heap.size+1,[mark w.heap.size],W1,{target:= .fn (.func f) c',args:= #[.func (.yield (w.heap.size+1)) #[] #[]]},W1,f,(.func (.yield (w.heap.size+1)) #[] #[]::c'.toList).toArray,W1, ?_, ?_, ?_, ?_,fun e=>by simp [fe,Fence.wide] at e, ?_⟩
    ·rw [← hW1,hrec, ← hW0];exact run_enterLoop_outer _ _ _ _ _
    ·simp only [resolve,hfx]
     simp [go_sem]
    ·intro _ _;trivial
    ·have:(#[.func (.yield (w.heap.size+1)) #[] #[]]++c':Array Value)=(.func (.yield (w.heap.size+1)) #[] #[]::c'.toList).toArray:=by
      apply Array.ext';simp
     rw [← this] at e1 ⊢
     simpa [invoke,go_sem] using e1
    ·have hcall:CallsIn (fe none) 0 P f _ W1 _:=callsIn_wide.2 hcall
     refine CallsIn.mono hcall ?_
     rintro e W3 ⟨z,rfl,g',_,i3,k3⟩
     have hE3:g'.E st.h=some (.blk (w.heap.size+1)):=k3.le.blk _ _ (Gh.aM _ _ _)
     obtain ⟨b,r,q1,q2,q3,q4,q5,q6,q7,q8⟩:=i3.H _ _ h3
     have hb:b=w.heap.size+1:=by have:=q1.symm.trans hE3;simpa using this
     subst hb
     have hnb:r.state≠ .busy:=by
      rcases q8 with ⟨_,e,_⟩ | ⟨e,_⟩ | ⟨_,e,_⟩
      ·rw [e];simp
      ·subst e;cases hsp
      ·rw [e];simp
     obtain ⟨i4,k4⟩:=i3.turn h3 hE3 q2 hAl {r with state:= .exhausted} .dead (fun _ hb'=>hb'.elim) trivial
     have rel:Rel X A' none g' fr (st1.put st.h .dead) {a with defers:=[mark w.heap.size]++a.defers} (W3.putObj (w.heap.size+1) (.loop {r with state:= .exhausted})):=by
      refine ⟨hr.mode,hr.fr.mono (le1.trans k3.le),i4,hr.G.mono (le1.trans k3.le), ?_⟩
      have m1:Marks A' ([mark w.heap.size]++a.defers) W1:=by
       obtain ⟨Ds,m1,m2,m3⟩:=hr.marks
       refine ⟨w.heap.size::Ds,by rw [m1];rfl,List.nodup_cons.2 ⟨fun hm=> ?_,m2⟩,fun D hD=> ?_⟩
       ·have:=lt_of_heap (m3 _ hm).2
        omega
       ·rcases List.mem_cons.1 hD with rfl | hD
        ·exact ⟨fun hh=>by rw [hA'] at hh;exact hh.2 rfl,hD1⟩
        ·have hlt:=lt_of_heap (m3 D hD).2
         refine ⟨fun hh=>(m3 D hD).1 (hsub D hh), ?_⟩
         rw [← hW1,World.ia (by omega), ← hW0,World.ia hlt]
         exact (m3 D hD).2
      exact (m1.As k3).As k4
     have nx:Nx A g a w A' g' {a with defers:=[mark w.heap.size]++a.defers} (W3.putObj (w.heap.size+1) (.loop {r with state:= .exhausted})):=by
      refine ⟨hsub,k0.trans (((k1.trans k3).trans k4).sub hsub),fun d hd=> ?_⟩
      rcases List.mem_append.1 hd with hd | hd
      ·exact .inr ⟨w.heap.size,by simpa using hd,hr.inv.up _ (Nat.le_refl _)⟩
      ·exact .inl hd
     have hq:=hQ _ _ _ _ rel nx
     have hend:=run_endLoop (P:=P) q2 hnb
     obtain ⟨W4,hW4⟩: ∃W4,W3.putObj (w.heap.size+1) (.loop {r with state:= .exhausted})=W4:=⟨_,rfl⟩
     rw [hW4] at hq hend
     refine ⟨r.pending,W4,hend, ?_⟩
     rcases q8 with ⟨_,_,e,rfl⟩ | ⟨e,_⟩ | ⟨_,_,⟨rfl,e⟩ | ⟨i,rfl,e⟩⟩
     ·rw [e];exact hq
     ·subst e;cases hsp
     ·rw [e];exact wpIn_ret hq
     ·rw [e];exact wpIn_exit hq
   ·cases h4
  ·cases h4
 ·cases h
theorem fI {X:Cx} {ro:Option Nat} (hX:Good P X) (hm:P.follows .mixedOrders=true) (n:Nat): ∀(c:Code),codeOk c=true→(ro.isSome=true→ch c=true)→ ∀(A:Nat→Prop) (fr:Fr) (st:St) (ex:Ex) (fr':Fr) (st':St) (g:Gh) (a:Act) (w:World) (Q:Exit→Act→World→Prop),
  exec X n c fr st= .ok (ex,fr',st')→Rel X A ro g fr st a w→(∀A' g' a' w',Rel X A' ro g' fr' st' a' w'→Nx A g a w A' g' a' w'→Q ex.to a' w')→c.wpIn (fe ro) 0 P Q a w
 | .skip,_,_,A,fr,st,ex,fr',st',g,a,w,Q,h,hr,hQ=>by
  simp only [exec,Except.ok.injEq,Prod.mk.injEq] at h
  obtain ⟨rfl,rfl,rfl⟩:=h
  exact wpIn_skip (hQ A g a w hr (Nx.refl _ _ _ _))
 | .label _,_,_,A,fr,st,ex,fr',st',g,a,w,Q,h,hr,hQ=>by
  simp only [exec,Except.ok.injEq,Prod.mk.injEq] at h
  obtain ⟨rfl,rfl,rfl⟩:=h
  exact wpIn_label (hQ A g a w hr (Nx.refl _ _ _ _))
 | .exit id,_,_,A,fr,st,ex,fr',st',g,a,w,Q,h,hr,hQ=>by
  simp only [exec,Except.ok.injEq,Prod.mk.injEq] at h
  obtain ⟨rfl,rfl,rfl⟩:=h
  exact wpIn_exit (hQ A g a w hr (Nx.refl _ _ _ _))
 | .ret,_,_,A,fr,st,ex,fr',st',g,a,w,Q,h,hr,hQ=>by
  simp only [exec,Except.ok.injEq,Prod.mk.injEq] at h
  obtain ⟨rfl,rfl,rfl⟩:=h
  exact wpIn_ret (hQ A g a w hr (Nx.refl _ _ _ _))
 | .region id ops draw,hc,hst,A,fr,st,ex,fr',st',g,a,w,Q,h,hr,hQ=>by
  have hpl:ro.isSome=true→ig ops.toList=true:=hst
  have nx: ∀{g':Gh} {a':Act} {w':World},a'.defers=a.defers→Kp A g w g' w'→Nx A g a w A g' a' w':=fun hd hk=>⟨fun _ hb=>hb,hk,fun d h=> .inl (hd ▸ h)⟩
  simp only [exec] at h
  split at h
  ·simp only [ae,ai,Prod.mk.injEq] at h
   obtain ⟨⟨fr1,st1⟩,h1,rfl,rfl,rfl⟩:=h
   refine AG hX hm hpl (fun hd=> ?_) h1 hr fun a' g' w' hr' hd hk=>hQ A g' a' w' hr' (nx hd hk)
   simp only [codeOk,hd,Bool.not_true,Bool.false_or] at hc
   exact hc
  ·rename_i hd
   simp only [Bool.and_eq_true] at hd
   obtain ⟨rfl,_⟩:=hd
   simp only [ae,ai,Prod.mk.injEq] at h
   obtain ⟨⟨fr1,st1⟩,h1,rfl,rfl,rfl⟩:=h
   exact yq hX hm hpl (by simpa [codeOk] using hc) h1 ⟨hr.mode,hr.fr,hr.inv.lay,hr.G,hr.marks⟩ fun a' g' w' hr' hd hk=>hQ A g' a' w' hr' (nx hd hk)
 | .seq x y,hc,hst,A,fr,st,ex,fr',st',g,a,w,Q,h,hr,hQ=>by
  simp only [codeOk,Bool.and_eq_true] at hc
  have hs1:ro.isSome=true→ch x=true∧ch y=true:=fun e=>by have:=hst e;simpa [ch] using this
  simp only [exec,ae] at h
  obtain ⟨⟨ex1,fr1,st1⟩,h1,h2⟩:=h
  refine wpIn_seq (fI hX hm n x hc.1 (fun e=>(hs1 e).1) A fr st ex1 fr1 st1 g a w _ h1 hr fun A' g' a' w' hr' hk=> ?_)
  cases ex1 with
  | normal=>exact fI hX hm n y hc.2 (fun e=>(hs1 e).2) A' fr1 st1 ex fr' st' g' a' w' Q h2 hr' fun A'' g'' a'' w'' hr'' hk'=>hQ A'' g'' a'' w'' hr'' (hk.trans hk')
  | exit id=>
   simp only [ai,Prod.mk.injEq] at h2
   obtain ⟨rfl,rfl,rfl⟩:=h2
   exact hQ A' g' a' w' hr' hk
  | ret=>
   simp only [ai,Prod.mk.injEq] at h2
   obtain ⟨rfl,rfl,rfl⟩:=h2
   exact hQ A' g' a' w' hr' hk
 | .cond c x y,hc,hst,A,fr,st,ex,fr',st',g,a,w,Q,h,hr,hQ=>by
  simp only [codeOk,Bool.and_eq_true] at hc
  have hs1:ro.isSome=true→ch x=true∧ch y=true:=fun e=>by have:=hst e;simpa [ch] using this
  simp only [exec,ae] at h
  obtain ⟨cv,h1,b,h2,h3⟩:=h
  have hcv:=aP hr.G hr.fr h1
  cases cv <;> simp only [VM.asBool,Except.ok.injEq] at h2 <;> (try (cases h2;done))
  subst h2
  simp only [R] at hcv
  rename_i b
  refine wpIn_cond hcv ?_
  cases b with
  | true=>exact fI hX hm n x hc.1 (fun e=>(hs1 e).1) A fr st ex fr' st' g a w Q h3 hr hQ
  | false=>exact fI hX hm n y hc.2 (fun e=>(hs1 e).2) A fr st ex fr' st' g a w Q h3 hr hQ
 | .block id c,hc,hst,A,fr,st,ex,fr',st',g,a,w,Q,h,hr,hQ=>by
  simp only [codeOk] at hc
  simp only [exec,ae] at h
  obtain ⟨⟨ex1,fr1,st1⟩,h1,h2⟩:=h
  refine wpIn_block (fI hX hm n c hc hst A fr st ex1 fr1 st1 g a w _ h1 hr fun A' g' a' w' hr' hk=> ?_)
  cases ex1 with
  | normal=>
   simp only [ai,Prod.mk.injEq] at h2
   obtain ⟨rfl,rfl,rfl⟩:=h2
   exact hQ A' g' a' w' hr' hk
  | exit i=>
   simp only at h2
   simp only [Ex.to,Exit.inBlock]
   split at h2
   ·rename_i hi
    have hi:=Nat.eq_of_beq_eq_true hi
    simp only [ai,Prod.mk.injEq] at h2
    obtain ⟨rfl,rfl,rfl⟩:=h2
    rw [if_pos hi]
    exact hQ A' g' a' w' hr' hk
   ·rename_i hi
    have hi:i≠id:=fun e=>by subst e;simp at hi
    simp only [ai,Prod.mk.injEq] at h2
    obtain ⟨rfl,rfl,rfl⟩:=h2
    rw [if_neg hi]
    exact hQ A' g' a' w' hr' hk
  | ret=>
   simp only [ai,Prod.mk.injEq] at h2
   obtain ⟨rfl,rfl,rfl⟩:=h2
   exact hQ A' g' a' w' hr' hk
 | .loop c,hc,hst,A,fr,st,ex,fr',st',g,a,w,Q,h,hr,hQ=>by
  simp only [codeOk] at hc
  simp only [exec] at h
  refine wpIn_loop_rounds n (ya (fun A fr st ex fr' st' g a w Q h hr hQ=>fI hX hm n c hc hst A fr st ex fr' st' g a w Q h hr hQ) n h hr hQ)
 | .rangeFunc x ps y c,hc,_,A,fr,st,ex,fr',st',g,a,w,Q,h,hr,hQ=>by
  simp only [codeOk,Bool.and_eq_true] at hc
  exact Ar hX hc h hr hQ
 | .scope c,hc,hst,A,fr,st,ex,fr',st',g,a,w,Q,h,hr,hQ=>by
  cases ro with
  | some l=>exact absurd (hst rfl) (by simp [ch])
  | none=>
   simp only [codeOk] at hc
   simp only [exec] at h
   refine wpIn_wide.2 (wp_scope_straight (wpIn_wide.1 (fI (ro:=none) hX hm n c hc (fun e=>by cases e) A fr st ex fr' st' g a w _ h hr fun A' g' a' w' hr' hk=> ?_)))
   cases ex <;> exact hQ A' g' a' w' hr' hk
 | .goto _,_,_,_,_,_,_,_,_,_,_,_,_,h,_,_=>by simp [exec] at h
 | .refuse _,_,_,_,_,_,_,_,_,_,_,_,_,h,_,_=>by simp [exec] at h
end
section
variable {P:Program} {T:TT} {A:Nat→Prop} {g:Gh} {st:St} {w:World}
theorem wo: ∀(l:List AV) (i:Nat) (t:Tr AV) (k:Nat),(tZ i l t).get k=if i≤k∧k < i+l.length then l[k - i]? else t.get k
 | [],i,t,k=>by
  simp only [tZ,List.length_nil,Nat.add_zero]
  rw [if_neg (by omega)]
 | v::l,i,t,k=>by
  simp only [tZ,wo l (i+1),Tr.iA,List.length_cons]
  by_cases h:i=k
  ·subst h
   rw [if_neg (by omega),if_pos rfl,if_pos (by omega)]
   simp
  ·rw [if_neg h]
   by_cases h2:i+1≤k∧k < i+1+l.length
   ·rw [if_pos h2,if_pos (by omega),show k - i=(k - (i+1))+1 by omega];simp
   ·rw [if_neg h2,if_neg (by omega)]
theorem yl {n:Nat} {args:List AV} {xs:List Value} (h:RL g args xs) (hn:args.length≤n):vh g (sE n args) (xs.toArray++Array.replicate (n - xs.toArray.size) Go.undef):=by
 have hl:=df h
 refine ⟨by simp [sE];omega,fun t=> .inr ?_⟩
 simp only [sE,Fr.get,wo,Nat.zero_add,Nat.zero_le,true_and,Nat.sub_zero,Tr.su]
 by_cases ht:t < args.length
 ·rw [if_pos ht,List.getElem?_eq_getElem ht]
  obtain ⟨x,h1,h2⟩:=uT h (List.getElem?_eq_getElem ht)
  have hx:(xs.toArray++Array.replicate (n - xs.toArray.size) Go.undef).getD t Go.undef=x:=by
   rw [Array.getD_eq_getD_getElem?,Array.getElem?_append_left (by simp;omega)]
   simp [h1]
  rw [hx]
  exact h2
 ·rw [if_neg ht]
  have hx:(xs.toArray++Array.replicate (n - xs.toArray.size) Go.undef).getD t Go.undef=Go.undef:=by
   rw [Array.getD_eq_getD_getElem?,Array.getElem?_append_right (by simp;omega)]
   rw [Array.getElem?_replicate]
   split <;> rfl
  rw [hx]
  exact Am
def ER (tmps:Array Value) (r:ResultVar):Sem Value:=
 match r with
 | .tmp t=>pure (tmps.getD t Go.undef)
 | .cell a t=>do loadVar t (← asAddr (tmps.getD a Go.undef))
theorem D6 (fn:Func) (tmps:Array Value):results fn tmps=(do
  let vs ← fn.results.mapM (ER tmps)
  pure (if h:vs.size=1 then vs[0] else .tuple vs)):=by
 unfold results
 congr 2
theorem oT (hT:vy P T) {fr:Fr} {tmps:Array Value} (hf:vh g fr tmps) (hs:fr.strict=false) (h:Inv T A g st w): ∀{rs:List ResultVar} {vs:List AV},gO T fr st rs= .ok vs→
  ∃xs,(rs.mapM (ER tmps)).run P w= .ok xs w∧RL g vs xs
 | [],vs,hr=>by
  simp only [gO,Except.ok.injEq] at hr
  subst hr
  exact ⟨[],rfl,fH⟩
 | r::rs,vs,hr=>by
  simp only [gO,ae,ai] at hr
  obtain ⟨v,h1,vs',h2,rfl⟩:=hr
  obtain ⟨xs,k1,k2⟩:=oT hT hf hs h h2
  have key: ∃x,(ER tmps r).run P w= .ok x w∧R g v x:=by
   cases r with
   | tmp t=>
    simp only [jQ,Except.ok.injEq] at h1
    subst h1
    exact ⟨_,rfl,hf.at hs t⟩
   | cell a t=>
    simp only [jQ,ae] at h1
    obtain ⟨i,e1,p,e2,e3⟩:=h1
    have hi:=hT t i (ck.1 e1)
    have ha:=hf.at hs a
    show ∃x,(do loadVar t (← Go.asAddr (tmps.getD a Go.undef)):Sem Value).run P w= .ok x w∧R g v x
    generalize tmps.getD a Go.undef=x at ha ⊢
    cases hav:fr.get a <;> rw [hav] at e2 ha <;> simp only [lV] at e2 <;> (try (cases e2;done))
    ·rename_i cells
     simp only [ae,ai] at e2
     obtain ⟨u,q1,rfl⟩:=e2
     simp only [ai] at e3
     subst e3
     simp only [R] at ha
     obtain ⟨_,b,o,rfl,h3⟩:=ha
     obtain ⟨ys,y1,y2⟩:=ic h3
     obtain ⟨y,z1,z2⟩:=eB (w:=w) hi q1 y1 fun k z hz=>h.F _ _ _ (y2 k z hz).1
     exact ⟨y,by simp [asAddr,z1],z2⟩
    ·rename_i id off
     simp only [Except.ok.injEq] at e2
     subst e2
     simp only [ib,ae,ai] at e3
     obtain ⟨o,q1,⟨v',o'⟩,⟨v'',⟨cs,q2,q3⟩,q4⟩,q5⟩:=e3
     rw [nF] at q2
     obtain ⟨ty,rfl⟩:=q2
     simp only [Prod.mk.injEq] at q4
     obtain ⟨rfl,rfl⟩:=q4
     subst q5
     simp only [R] at ha
     obtain ⟨b,hE,rfl⟩:=ha
     obtain ⟨b',ys,rest,ty2,y1,y2,y3,y4,y5,y6⟩:=h.cells q1
     have hb:b'=b:=by have:=y1.symm.trans hE;simpa using this
     subst hb
     obtain ⟨y,z1,z2⟩:=eB (w:=w) (b:=b') (o:=off) hi q3 (ik off y3) fun k z hz=>iZ y2 (by simpa using hz)
     exact ⟨y,by simp [asAddr,z1],z2⟩
    ·rename_i k n off
     simp only [Except.ok.injEq] at e2
     subst e2
     simp only [ib,ae,ai] at e3
     obtain ⟨o,q1,⟨v',o'⟩,⟨v'',q2,q4⟩,q5⟩:=e3
     simp only [Prod.mk.injEq] at q4
     obtain ⟨rfl,rfl⟩:=q4
     subst q5
     simp only [R] at ha
     obtain ⟨loc,b,cap,hE,hl,rfl⟩:=ha
     split at q2
     ·rename_i m e z cs
      split at q2
      ·rename_i hm
       have hm:=Nat.eq_of_beq_eq_true hm
       subst hm
       obtain ⟨loc2,b2,cap2,i2,pre,rest,p1,p2,p3,p4,p5,p6,p7,p8,p9,p10,p11,p12,p13⟩:=h.H k _ q1
       have e1:=p1.symm.trans hE
       simp only [Option.some.injEq,lY.tok.injEq] at e1
       subst e1
       have e2:=p2.symm.trans hl
       simp only [Option.some.injEq,Prod.mk.injEq] at e2
       obtain ⟨rfl,rfl⟩:=e2
       obtain ⟨y,z1,z2⟩:=eB (w:=w) (b:=b2) (o:=off) hi q2 (ik off p11) fun k z hz=>iZ p7 (by simpa using hz)
       exact ⟨y,by simp [asAddr,z1],z2⟩
      ·cases q2
     ·cases q2
  obtain ⟨x,x1,x2⟩:=key
  refine ⟨x::xs, ?_,cE x2 k2⟩
  rw [List.mapM_cons]
  simp only [Sem.run_bind,x1,Result.andThen_ok,k1,Sem.run_pure]
theorem Mt {id b:Nat} {o:Obj} (h:Holds T g w id o) (ha:At g id o b): ∃x,w.heap[b]? =some x∧ ∀d,x≠ .deferred d:=by
 have blk: ∀{b':Nat} {x:Go.Obj},g.E id=some (.blk b')→g.E id=some (.blk b)→w.heap[b']? =some x→(∀d,x≠ .deferred d)→ ∃x,w.heap[b]? =some x∧ ∀d,x≠ .deferred d:=fun h1 h2 h3 h4=>by
  have:=h1.symm.trans h2
  simp only [Option.some.injEq,lY.blk.injEq] at this
  subst this
  exact ⟨_,h3,h4⟩
 have tok: ∀{n:Nat} {loc:Nat→Option (Nat×Nat)} {b' cap:Nat} {x:Go.Obj},g.E id=some (.tok loc)→loc n=some (b',cap)→(∃loc cap,g.E id=some (.tok loc)∧loc n=some (b,cap))→w.heap[b']? =some x→(∀d,x≠ .deferred d)→
   ∃x,w.heap[b]? =some x∧ ∀d,x≠ .deferred d:=fun h1 h2 h3 h4 h5=>by
  obtain ⟨loc',cap',k1,k2⟩:=h3
  have e1:=h1.symm.trans k1
  simp only [Option.some.injEq,lY.tok.injEq] at e1
  subst e1
  have e2:=h2.symm.trans k2
  simp only [Option.some.injEq,Prod.mk.injEq] at e2
  obtain ⟨rfl,rfl⟩:=e2
  exact ⟨_,h4,h5⟩
 cases o with
 | cells ty cs=>obtain ⟨b',vs,rest,ty',h1,h2,h3⟩:=h;exact blk h1 ha h2 fun _ e=>by cases e
 | tok n e=>obtain ⟨loc,b',cap,i,vs,fz,h1,h2,h3,h4,h5,h6,h7,h8⟩:=h;exact tok h1 h2 ha h7 fun _ e=>by cases e
 | map es=>obtain ⟨b',ents,clk,h1,h2,h3⟩:=h;exact blk h1 ha h2 fun _ e=>by cases e
 | sit s pos=>obtain ⟨b',h1,h2⟩:=h;exact blk h1 ha h2 fun _ e=>by cases e
 | dead=>exact ha.elim
 | grow n e z es=>obtain ⟨loc,b',cap,i,vs,fz,h1,h2,h3,h4,h5,h6,h7,h8⟩:=h;exact tok h1 h2 ha h7 fun _ e=>by cases e
 | xx=>exact ha.elim
 | row n e z cs=>obtain ⟨loc,b',cap,i,pre,rest,h1,h2,h3,h4,h5,h6,h7,h8⟩:=h;exact tok h1 h2 ha h7 fun _ e=>by cases e
 | loop imm ps a c fr s p=>obtain ⟨b',r,h1,h2,h3⟩:=h;exact blk h1 ha h2 fun _ e=>by cases e
theorem Inv.take (h:Inv T A g st w) {D:Nat} {x:Option (List Deferred)} (hD:w.heap[D]? =some (.deferred x)):Inv T A g st (w.putObj D (.deferred none)):=by
 have hne: ∀b,b≠D→(w.putObj D (.deferred none)).heap[b]? =w.heap[b]? :=fun b hb=>World.putObj_heap_other hb
 refine ⟨fun b o v hv=> ?_,fun b ents clk hm=> ?_,h.E,fun id o ho=> ?_,h.D,h.own,fun b hb=>h.up b (by simpa using hb)⟩
 ·have h1:=h.F b o v hv
  obtain ⟨vs,ty,fz,h2,_⟩:=nq h1
  rw [rF (hne b fun e=>by subst e;rw [hD] at h2;cases h2)]
  exact h1
 ·have h1:=h.M b ents clk hm
  rw [hne b fun e=>by subst e;rw [hD] at h1;cases h1]
  exact h1
 ·refine mf (h.H id o ho) fun b hb=>hne b fun e=> ?_
  subst e
  obtain ⟨y,h1,h2⟩:=Mt (h.H id o ho) hb
  rw [hD] at h1
  cases h1
  exact h2 _ rfl
theorem zn {T:TT} {A':Nat→Prop} {g':Gh} {st1:St} {fn:Func} {tmps:Array Value} {R:Ending→World→Prop} {w:World} {g:Gh}
  (hq: ∀w',Inv T A' g' st1 w'→Kp A g w g' w'→LeavesIn Fence.wide 0 P fn tmps R [] .returning w'): ∀(Ds:List Nat) (w':World),Ds.Nodup→(∀D∈Ds,A D∧w'.heap[D]? =some (.deferred (some [])))→Inv T A' g' st1 w'→Kp A g w g' w'→
   LeavesInM Fence.wide 0 P fn tmps R (Ds.map mark) .returning w'
 | [],w',_,_,hi,hk=>hq w' hi hk
 | D::Ds,w',hn,hm,hi,hk=>by
  obtain ⟨hA,hD⟩:=hm D (by simp)
  rw [List.nodup_cons] at hn
  refine ⟨by simp,.inl ⟨D,_,rfl,run_takeDeferred hD,zn hq Ds _ hn.2 (fun D' hD'=>⟨(hm D' (by simp [hD'])).1, ?_⟩) (hi.take hD) (hk.trans (Kp.write hA World.putObj_size fun b hb=>World.putObj_heap_other hb))⟩⟩
  rw [World.putObj_heap_other (fun e=>by subst e;exact hn.1 hD')]
  exact (hm D' (by simp [hD'])).2
theorem r8 {X:Cx} (hX:Good P X) (hm:P.follows .mixedOrders=true) {n:Nat} {f:FuncId} {fn:Func} {args:List AV} {v:AV} {st':St} {xs:List Value} (hfn:P.funcs[f]? =some fn)
  (hc: ∀c,fn.body=some c→codeOk c=true) (h:body X n fn args st= .ok (v,st')) (hr:RL g args xs) (hG:GR g X.G) (hi:Inv X.T A g st w):
  Calls P f xs.toArray w fun e w'=> ∃x,e= .returned x∧ku X.T A g st' w v x w':=by
 unfold body at h
 split at h
 ·cases h
 ·rename_i c hbody
  split at h
  ·cases h
  ·rename_i hle
   have hle:=Nat.le_of_ble_eq_true hle
   simp only [ae] at h
   obtain ⟨⟨ex,fr',st1⟩,h1,h2⟩:=h
   refine (callsIn_wide (n:=0)).1 (callsIn_of_wp_marks hfn hbody trivial ?_)
   refine fI (ro:=none) hX hm n c (hc c hbody) (fun e=>by cases e) A _ _ _ _ _ g _ w _ h1 ⟨rfl,yl hr hle,hi,hG,⟨[],rfl,List.nodup_nil,fun _ h=>by cases h⟩⟩ fun A' g' a' w1 hr' hk=> ?_
   have fin:(do pure (oneOf (← gO X.T fr' st1 fn.results.toList),st1):cV (AV×St))= .ok (v,st')→LeavesInM Fence.wide 0 P fn a'.tmps (fun e w'=> ∃x,e= .returned x∧ku X.T A g st' w v x w') a'.defers .returning w1:=fun he=>by
    simp only [ae,ai,Prod.mk.injEq] at he
    obtain ⟨vs,e1,rfl,rfl⟩:=he
    obtain ⟨Ds,m1,m2,m3⟩:=hr'.marks
    rw [m1]
    refine zn (T:=X.T) (A':=A') (g':=g') (st1:=st1) (A:=A) (g:=g) (w:=w) (fun w' hi' hkp=> ?_) Ds w1 m2 (fun D hD=>⟨?_,(m3 D hD).2⟩) hr'.inv hk.kp
    rotate_left
    ·rcases hk.defs (mark D) (by rw [m1];exact List.mem_map_of_mem hD) with hd | ⟨D',e,hA'⟩
     ·cases hd
     ·have:D=D':=by
       simp only [mark,Deferred.mk.injEq,Target.collected.injEq,and_true] at e
       exact e
      rw [this];exact hA'
    obtain ⟨ys,y1,y2⟩:=oT hX.T hr'.fr (by rw [hr'.mode];rfl) hi' e1
    have hm':(fn.results.mapM (ER a'.tmps)).run P w'= .ok ys.toArray w':=by
     rw [Array.mapM_eq_mapM_toList]
     simp only [Sem.run_map,y1,Result.andThen_ok]
    have hi2:Inv X.T A g' st1 w':=⟨hi'.F,hi'.M,hi'.E,hi'.H,hi'.D,fun id o b q1 q2 q3=>hk.sub b (hi'.own id o b q1 q2 q3),fun b hb=>hi.up b (Nat.le_trans hkp.size hb)⟩
    refine ⟨if h:ys.toArray.size=1 then ys.toArray[0] else .tuple ys.toArray, ?_,_,rfl,g', ?_,hi2,hkp⟩
    ·rw [D6]
     simp only [Sem.run_bind,hm',Result.andThen_ok,Sem.run_pure]
    ·cases vs with
     | nil=>
      simp only [RL] at y2
      subst y2
      simp only [oneOf,R]
      exact ⟨_,rfl,fH⟩
     | cons v1 vs=>
      cases vs with
      | nil=>
       simp only [RL] at y2
       obtain ⟨x,l,rfl,r1,rfl⟩:=y2
       exact r1
      | cons v2 vs=>
       have hl:=df y2
       rw [dif_neg (by simp at hl ⊢;omega)]
       simp only [oneOf,R]
       exact ⟨_,rfl,y2⟩
   cases ex with
   | normal=>exact fin h2
   | ret=>exact fin h2
   | exit id=>cases h2
end
end Go.VM
namespace Go.VM
open Classical in
noncomputable def Gh.ye (g:Gh) (s:St) (w:World) (base:Nat) (E0:Nat→Option lY):Gh where
 F b o:=if ∃id ty cs,base≤id∧s.get id= .ok (.cells ty cs)∧g.E id=some (.blk b) then w.cell? ⟨b,o,none⟩ else g.F b o
 M b:=if ∃id es,base≤id∧s.get id= .ok (.map es)∧g.E id=some (.blk b) then (match w.heap[b]? with | some (.map ents clk)=>some (ents.toList,clk) | _=>none) else g.M b
 E:=E0
section
variable {P:Program} {T:TT} {A:Nat→Prop} {g:Gh} {s:St} {w:World} {base:Nat}
theorem Mj (h:Inv T A g s w) (E0:Nat→Option lY):OX g (g.ye s w base E0):=by
 refine ⟨fun b o v hv=> ?_,fun b e he=> ?_⟩
 ·simp only [Gh.ye]
  split
  ·exact h.F b o v hv
  ·exact hv
 ·simp only [Gh.ye]
  split
  ·rename_i hc
   obtain ⟨id,es,_,h2,h3⟩:=hc
   obtain ⟨b',ents,clk,q1,q2,q3,q4⟩:=h.H id _ h2
   have:b'=b:=by have:=q1.symm.trans h3;simpa using this
   subst this
   rw [q4] at he;cases he
  ·exact he
theorem Bc (h:Inv T A g s w):Le g (g.ye s w base g.E):=⟨(Mj h g.E).F,(Mj h g.E).M,fun _ _ x=>x,fun _ loc x=>⟨loc,x,fun _ _ y=>y⟩⟩
theorem yU (_h:Inv T A g s w) {id b:Nat} {ty:TypeId} {cs:List AV} (E0:Nat→Option lY) (hb:base≤id) (hg:s.get id= .ok (.cells ty cs)) (hE:g.E id=some (.blk b)) (o:Nat):(g.ye s w base E0).F b o=w.cell? ⟨b,o,none⟩:=by
 simp only [Gh.ye]
 rw [if_pos ⟨id,ty,cs,hb,hg,hE⟩]
theorem lb (h:Inv T A g s w): ∀(f:Nat) (v v':AV) (x:Value),freeze s base f v= .ok v'→R g v x→R (g.ye s w base g.E) v' x
 | 0,v,v',x,hf,_=>by simp [freeze] at hf
 | f+1,v,v',x,hf,hr=>by
  have all: ∀(l l':List AV) (xs:List Value),kX (freeze s base f) l= .ok l'→RL g l xs→RL (g.ye s w base g.E) l' xs:=by
   intro l
   induction l with
   | nil=>
    intro l' xs h1 h2
    simp only [kX,Except.ok.injEq] at h1
    subst h1
    simp only [RL] at h2 ⊢;exact h2
   | cons v l ih=>
    intro l' xs h1 h2
    simp only [kX,ae,ai] at h1
    obtain ⟨u,e1,l1,e2,rfl⟩:=h1
    simp only [RL] at h2
    obtain ⟨y,ys,rfl,r1,r2⟩:=h2
    exact cE (lb h f v u y e1 r1) (ih l1 ys e2 r2)
  have same:v'=v→R (g.ye s w base g.E) v' x:=fun e=>by subst e;exact mI (Bc h) _ _ hr
  unfold freeze at hf
  split at hf
  ·-- a pointer
   rename_i id off
   split at hf
   ·simp only [Except.ok.injEq] at hf
    exact same hf.symm
   ·rename_i hid
    rw [cL] at hid
    simp only [ae] at hf
    obtain ⟨o,e1,e2⟩:=hf
    split at e2
    ·rename_i ty cs
     simp only [ae,ai] at e2
     obtain ⟨c1,e3,c2,e4,rfl⟩:=e2
     simp only [R] at hr
     obtain ⟨b,hE,rfl⟩:=hr
     obtain ⟨b',vs,rest,ty2,k1,k2,k3,k4,k5,k6⟩:=h.cells e1
     have hb:b'=b:=by have:=k1.symm.trans hE;simpa using this
     subst hb
     have r1:=all _ _ _ e3 (ik off k3)
     obtain ⟨r2,r3⟩:=AZ r1 e4
     simp only [R]
     refine ⟨r3,b',off,rfl,dr r2 fun i y hy=>⟨?_,k4 y (List.mem_of_mem_drop (List.mem_of_getElem? hy))⟩⟩
     rw [yU h g.E hid e1 k1]
     exact iZ k2 (by simpa using hy)
    ·cases e2
  ·rename_i id
   split at hf
   ·simp only [Except.ok.injEq] at hf
    exact same hf.symm
   ·rename_i hid
    rw [cL] at hid
    simp only [ae] at hf
    obtain ⟨o,e1,e2⟩:=hf
    split at e2
    ·rename_i es
     simp only [ae] at e2
     obtain ⟨es1,e3,e4⟩:=e2
     split at e4
     ·simp only [ai] at e4
      subst e4
      simp only [R] at hr
      obtain ⟨b,hE,rfl⟩:=hr
      obtain ⟨b',ents,clk,q1,q2,q3,q4⟩:=h.H id _ e1
      have hb:b'=b:=by have:=q1.symm.trans hE;simpa using this
      subst hb
      have ents_all: ∀(l l':List (AV×AV)) (m:List MapEntry),pJ (freeze s base f) l= .ok l'→pY g l m→pY (g.ye s w base g.E) l' m:=by
       intro l
       induction l with
       | nil=>
        intro l' xs h1 h2
        simp only [pJ,Except.ok.injEq] at h1
        subst h1
        simp only [pY] at h2 ⊢;exact h2
       | cons p l ih=>
        intro l' xs h1 h2
        obtain ⟨k,v⟩:=p
        simp only [pJ,ae,ai] at h1
        obtain ⟨u,e1,l1,e2,rfl⟩:=h1
        simp only [pY] at h2 ⊢
        obtain ⟨e,ys,rfl,r1,r2,r3⟩:=h2
        exact ⟨e,ys,rfl,mI (Bc h) _ _ r1,vK (lb h f v u _ e1 r2),ih l1 ys e2 r3⟩
      simp only [R]
      refine ⟨b',ents.toList,clk, ?_,rfl,ents_all _ _ _ e3 q3⟩
      simp only [Gh.ye]
      rw [if_pos ⟨id,es,hid,e1,q1⟩,q2]
     ·cases e4
    ·cases e2
  ·rename_i z e k
   split at hf
   ·simp only [Except.ok.injEq] at hf
    exact same hf.symm
   ·simp only [Except.ok.injEq] at hf
    subst hf
    exact vK (v:= .sl z e (.own k)) (mI (Bc h) _ _ hr)
  ·simp only [ae,ai] at hf
   obtain ⟨c1,e3,rfl⟩:=hf
   simp only [R] at hr ⊢
   obtain ⟨ys,rfl,r⟩:=hr
   exact ⟨ys,rfl,all _ _ _ e3 r⟩
  ·simp only [ae,ai] at hf
   obtain ⟨c1,e3,rfl⟩:=hf
   simp only [R] at hr ⊢
   obtain ⟨ys,rfl,r⟩:=hr
   exact ⟨ys,rfl,all _ _ _ e3 r⟩
  ·simp only [ae,ai] at hf
   obtain ⟨c1,e3,rfl⟩:=hf
   simp only [R] at hr ⊢
   obtain ⟨y,rfl,r⟩:=hr
   exact ⟨y,rfl,lb h f _ c1 y e3 r⟩
  ·simp only [ae,ai] at hf
   obtain ⟨c1,e3,c2,e4,rfl⟩:=hf
   simp only [R] at hr ⊢
   obtain ⟨y,y',rfl,r,r'⟩:=hr
   exact ⟨y,y',rfl,all _ _ _ e3 r,all _ _ _ e4 r'⟩
  ·-- an array
   rename_i id off z len cap
   split at hf
   ·simp only [Except.ok.injEq] at hf
    exact same hf.symm
   ·rename_i hid
    rw [cL] at hid
    simp only [ae] at hf
    obtain ⟨o,e1,e2⟩:=hf
    split at e2
    ·rename_i ty cs
     simp only [ae] at e2
     obtain ⟨c1,e3,e4⟩:=e2
     split at e4
     ·rename_i hones
      simp only [ae] at e4
      obtain ⟨els,e5,els',e6,e7⟩:=e4
      have key: ∃p,v'= .sl z els' p∧(len≠0∨cap≠0)∧(p= .shut→cap=len∧cap≠0)∧(p= .shut∨p= .wide):=by
       split at e7
       ·split at e7
        ·cases e7
        ·rename_i hl
         simp only [ai] at e7
         exact ⟨.wide,e7.symm,.inl (fun e=>by subst e;simp at hl),(fun e=>by cases e),.inr rfl⟩
       ·rename_i hcap
        simp only [ai] at e7
        have h0:cap≠0:=fun e=>by subst e;simp at hcap
        cases hcl:cap.beq len with
        | true=>rw [hcl] at e7;exact ⟨.shut,e7.symm,.inr h0,fun _=>⟨Nat.eq_of_beq_eq_true hcl,h0⟩,.inl rfl⟩
        | false=>rw [hcl] at e7;exact ⟨.wide,e7.symm,.inr h0,(fun e=>by cases e),.inr rfl⟩
      clear e7
      obtain ⟨p,rfl,hne,hshut,hpp⟩:=key
      ·simp only [R] at hr
       obtain ⟨b,o',hE,c,rfl,hc,hz1,ho,hcc⟩:=hr
       have hc0:c≠0:=by
        rcases hne with q | q
        ·omega
        ·rcases hcc with rfl | e
         ·exact q
         ·exact absurd e q
       have ho':o'=off:=ho hc0
       subst ho'
       obtain ⟨b',vs,rest,ty2,k1,k2,k3,k4,k5,k6⟩:=h.cells e1
       have hb:b'=b:=by have:=k1.symm.trans hE;simpa using this
       subst hb
       have r1:=all _ _ _ e3 (mh (len * z) (ik o' k3))
       obtain ⟨f1,f2,f3⟩:=rN (fun e=>by
        have:¬ 2≤z:=fun k=>by rw [Nat.ble_eq_true_of_le k] at e;cases e
        omega) hones e5
       have r2:RL (g.ye s w base g.E) (flat els) (((vs.toList.drop o').take (len * z)).take (len * z)):=by rw [f1];exact mh _ r1
       obtain ⟨q1,q2,q3,q4⟩:=mQ e6 r2
       simp only [R]
       have hl:els'.length=len:=by rw [q3,f3]
       refine ⟨q2,b',o',c,by rw [hl],by rw [hl];exact hc,hz1, ?_, ?_⟩
       ·rw [dB]
        refine ⟨fun u hu=>by
         have:u.cells.length∈els'.map (·.cells.length):=List.mem_map.2 ⟨u,hu,rfl⟩
         rw [q4] at this
         obtain ⟨u',hu',e⟩:=List.mem_map.1 this
         rw [← e];exact f2 u' hu',dr q1 fun i y hy=> ?_⟩
        have hy':vs[o'+i]? =some y∧y∈vs.toList:=by
         have h1:y∈vs.toList:=List.mem_of_mem_drop (List.mem_of_mem_take (List.mem_of_mem_take (List.mem_of_getElem? hy)))
         refine ⟨?_,h1⟩
         rw [List.take_take,Nat.min_self,List.getElem?_take] at hy
         by_cases hi:i < len * z
         ·rw [if_pos hi] at hy
          simpa using hy
         ·rw [if_neg hi] at hy;cases hy
        refine ⟨?_,k4 y hy'.2⟩
        rw [yU h g.E hid e1 k1]
        exact iZ k2 hy'.1
       ·rcases hpp with rfl | rfl
        ·obtain ⟨h1,h2⟩:=hshut rfl
         simp only [sY]
         rw [hl]
         rcases hcc with e | e
         ·omega
         ·exact absurd e h2
        ·simp only [sY]
     ·cases e4
    ·cases e2
  ·-- a slice that an object holds
   rename_i k z n
   split at hf
   ·simp only [Except.ok.injEq] at hf
    exact same hf.symm
   ·simp only [ae] at hf
    obtain ⟨o,e1,e2⟩:=hf
    split at e2
    ·rename_i m e z' es
     split at e2
     ·rename_i hcond
      simp only [Bool.and_eq_true] at hcond
      have c1:=Nat.eq_of_beq_eq_true hcond.1.1
      have c2:=Nat.eq_of_beq_eq_true hcond.1.2
      have c3:=Nat.eq_of_beq_eq_true hcond.2
      subst c1 c2 c3
      cases e2
      simp only [R] at hr
      obtain ⟨loc,b,cap,hE,hl,rfl,hcap,hz1⟩:=hr
      obtain ⟨loc2,b2,cap2,i2,vs,fz,q1,q2,q3,q4,q5,q6,q7,q8,q9,q10,q11,q12,q13,q14⟩:=h.H k _ e1
      have e1:=q1.symm.trans hE
      simp only [Option.some.injEq,lY.tok.injEq] at e1
      subst e1
      have e2:=q2.symm.trans hl
      simp only [Option.some.injEq,Prod.mk.injEq] at e2
      obtain ⟨rfl,rfl⟩:=e2
      simp only [R]
      exact ⟨q13,b2,0,cap2,rfl,hcap,hz1,fV (Bc h) _ _ _ _ q14,trivial⟩
     ·cases e2
    ·cases e2
  ·simp only [Except.ok.injEq] at hf
   exact same hf.symm
theorem xE {A':Nat→Prop} {gb g':Gh} {st:St} {w':World} {v v':AV} {x:Value} (hc:Inv T A g st w) (hF:gb.F=g.F) (hM:gb.M=g.M) (hA: ∀b,A' b↔w.heap.size≤b)
  (hi:Inv T A' g' s w') (hk:Kp A' gb w g' w') (hro:s.ro≤base) (hr:R g' v x) (hf:freeze s base 100 v= .ok v') (hb:bare v'=true):ku T A g st w v' x w':=by
 have hold: ∀b,b < w.heap.size→¬ A' b:=fun b hb ha=>by have:=(hA b).1 ha;omega
 have hF': ∀b,b < w.heap.size→ ∀o,(g'.ye s w' base g.E).F b o=g.F b o:=fun b hb o=>by
  simp only [Gh.ye]
  rw [if_neg ?_]
  ·rw [hk.F b (hold b hb) o,hF]
  ·rintro ⟨id,ty,cs,h1,h2,h3⟩
   exact hold b hb (hi.own id _ b h2 h3 (by omega))
 have hM': ∀b,b < w.heap.size→(g'.ye s w' base g.E).M b=g.M b:=fun b hb=>by
  simp only [Gh.ye]
  rw [if_neg ?_]
  ·rw [hk.M b (hold b hb),hM]
  ·rintro ⟨id,es,h1,h2,h3⟩
   exact hold b hb (hi.own id _ b h2 h3 (by omega))
 have hheap: ∀b,b < w.heap.size→w'.heap[b]? =w.heap[b]? :=fun b hb=>hk.heap b (hold b hb)
 have hle:Le g (g'.ye s w' base g.E):=by
  refine ⟨fun b o u hu=> ?_,fun b e he=> ?_,fun _ _ x=>x,fun _ loc x=>⟨loc,x,fun _ _ y=>y⟩⟩
  ·obtain ⟨vs,ty,fz,q,_⟩:=nq (hc.F b o u hu)
   rw [hF' b (lt_of_heap q) o];exact hu
  ·have:=hc.M b e.1 e.2 he
   rw [hM' b (lt_of_heap this)];exact he
 refine ⟨g'.ye s w' base g.E,rz (g:=g'.ye s w' base g'.E) (g':=g'.ye s w' base g.E) ⟨fun _ _ _ x=>x,fun _ _ x=>x⟩ v' x hb (lb hi 100 v v' x hf hr),⟨?_, ?_,hc.E, ?_,hc.D,hc.own,fun b hb=>hc.up b (Nat.le_trans hk.size hb)⟩,⟨hk.size, ?_, ?_, ?_,hle,hk.rest⟩⟩
 ·intro b o u hu
  simp only [Gh.ye] at hu
  split at hu
  ·exact hu
  ·exact hi.F b o u hu
 ·intro b ents clk hm
  simp only [Gh.ye] at hm
  split at hm
  ·split at hm
   ·rename_i e c hh
    simp only [Option.some.injEq,Prod.mk.injEq] at hm
    obtain ⟨rfl,rfl⟩:=hm
    simpa using hh
   ·cases hm
  ·exact hi.M b ents clk hm
 ·intro id o ho
  have:=hc.H id o ho
  refine jt (mf this fun b hb=>hheap b (zI this hb)) hle rfl fun b hb=> ?_
  have hlt:=zI this hb
  exact ⟨fun o=>hF' b hlt o,hM' b hlt⟩
 ·intro b hb
  exact hheap b (Nat.lt_of_not_le fun k=>hb (hc.up b k))
 ·intro b hb o
  exact hF' b (Nat.lt_of_not_le fun k=>hb (hc.up b k)) o
 ·intro b hb
  exact hM' b (Nat.lt_of_not_le fun k=>hb (hc.up b k))
end
end Go.VM
namespace Go.VM
structure Cc (C:cW):Prop where
 wide: ∀f args st v s,C.wide f args st= .ok (v,s)→s.ro=st.ro
 round: ∀k args st v s,C.round k args st= .ok (v,s)→s.ro=st.ro
theorem yc {C:cW} (hC:Cc C) {st:St} {p:dH} {v:AV} {x:Fx} (h:aD C st p= .ok (v,x)):(x.did.app st).ro=st.ro:=by
 cases p with
 | val u=>
  simp only [aD,Except.ok.injEq,Prod.mk.injEq] at h
  obtain ⟨_,rfl⟩:=h;rfl
 | obj id f=>
  simp only [aD,ae,ai] at h
  obtain ⟨ob,h3,⟨v',o'⟩,h4,d,h5,h6⟩:=h
  simp only [Prod.mk.injEq] at h6
  obtain ⟨_,rfl⟩:=h6
  cases o' with
  | none=>simp only [dZ,Except.ok.injEq] at h5;subst h5;rfl
  | some o'=>
   simp only [dZ] at h5
   split at h5
   ·cases h5
   ·simp only [Except.ok.injEq] at h5;subst h5;rfl
 | both id k f=>
  simp only [aD,ae] at h
  obtain ⟨ob,_,r,_,h3⟩:=h
  cases r with
  | none=>
   simp only [ae,ai,Prod.mk.injEq] at h3
   obtain ⟨_,_,_,rfl⟩:=h3;rfl
  | some j=>
   dsimp only at h3
   split at h3
   ·simp only [ae,ai,Prod.mk.injEq] at h3
    obtain ⟨_,_,_,_,_,rfl⟩:=h3;rfl
   ·cases h3
 | new o f=>
  simp only [aD,Except.ok.injEq,Prod.mk.injEq] at h
  obtain ⟨_,rfl⟩:=h;rfl
 | call f args=>
  simp only [aD] at h
  split at h
  ·simp only [ae,ai] at h
   obtain ⟨_,_,h⟩:=h
   simp only [Prod.mk.injEq] at h
   obtain ⟨_,rfl⟩:=h;rfl
  ·split at h
   ·simp only [ae,ai] at h
    obtain ⟨_,_,h⟩:=h
    simp only [Prod.mk.injEq] at h
    obtain ⟨_,rfl⟩:=h;rfl
   ·simp only [ae,ai] at h
    obtain ⟨⟨v',s⟩,h1,h⟩:=h
    simp only [Prod.mk.injEq] at h
    obtain ⟨_,rfl⟩:=h
    exact hC.wide _ _ _ _ _ h1
 | yield k args=>
  simp only [aD,ae,ai] at h
  obtain ⟨⟨v',s⟩,h1,h⟩:=h
  simp only [Prod.mk.injEq] at h
  obtain ⟨_,rfl⟩:=h
  exact hC.round _ _ _ _ _ h1
theorem rI {X:Cx} (hC:Cc X.C) {all:List Oper} {draw:Bool}: ∀{l:List Oper} {j:Nat} {seen:List (Nat×Fx)} {fr fr':Fr} {st st':St},dJ X all draw j seen l fr st= .ok (fr',st')→st'.ro=st.ro
 | [],_,_,_,_,_,_,h=>by
  simp only [dJ,Except.ok.injEq,Prod.mk.injEq] at h
  rw [h.2]
 | o::l,j,seen,fr,fr',st,st',h=>by
  simp only [dJ,ae] at h
  obtain ⟨⟨v,x⟩,h1,h2⟩:=h
  have hx:(x.did.app st).ro=st.ro:=by
   unfold oper at h1
   split at h1
   ·simp only [ae] at h1
    obtain ⟨p,_,h1⟩:=h1
    exact yc hC h1
   ·simp only [Except.ok.injEq,Prod.mk.injEq] at h1
    obtain ⟨_,rfl⟩:=h1;rfl
  split at h2
  ·exact (rI hC h2).trans hx
  ·split at h2
   ·exact (rI hC h2).trans hx
   ·cases h2
theorem IV: ∀{l:List Nat} {st:St},(st.lay l).ro=st.ro
 | [],_=>rfl
 | _::l,st=>IV (l:=l) (st:=(st.new .xx).2)
theorem pg {X:Cx} (hC:Cc X.C) {e:Nat→Option Nat} {all:List Oper}: ∀{l:List Oper} {j:Nat} {seen:List (Nat×Fx)} {fr fr':Fr} {st st':St},cX X e all j seen l fr st= .ok (fr',st')→st'.ro=st.ro
 | [],_,_,_,_,_,_,h=>by
  simp only [cX,Except.ok.injEq,Prod.mk.injEq] at h
  rw [h.2]
 | o::l,j,seen,fr,fr',st,st',h=>by
  simp only [cX,ae] at h
  obtain ⟨⟨v,x⟩,h1,h2⟩:=h
  have hx:(x.did.app st).ro=st.ro:=by
   unfold fm at h1
   split at h1
   ·split at h1
    ·obtain ⟨_,_,_,_,_,rfl⟩:=pQ h1;rfl
    ·simp only [ae] at h1
     obtain ⟨p,_,h1⟩:=h1
     exact yc hC h1
   ·simp only [Except.ok.injEq,Prod.mk.injEq] at h1
    obtain ⟨_,rfl⟩:=h1;rfl
  split at h2
  ·exact (pg hC h2).trans hx
  ·split at h2
   ·exact (pg hC h2).trans hx
   ·cases h2
theorem Ff {body:Fr→St→cV (Ex×Fr×St)} (hb: ∀fr st ex fr' st',body fr st= .ok (ex,fr',st')→st'.ro=st.ro): ∀(n:Nat) {fr fr':Fr} {st st':St} {ex:Ex},iter body n fr st= .ok (ex,fr',st')→st'.ro=st.ro
 | 0,_,_,_,_,_,h=>by simp [iter] at h
 | n+1,fr,fr',st,st',ex,h=>by
  simp only [iter,ae] at h
  obtain ⟨⟨ex1,fr1,st1⟩,h1,h2⟩:=h
  have:=hb _ _ _ _ _ h1
  cases ex1 <;> simp only [ai,Prod.mk.injEq] at h2
  ·exact (Ff hb n h2).trans this
  ·rw [← h2.2.2];exact this
  ·rw [← h2.2.2];exact this
theorem il {X:Cx} (hC:Cc X.C) (n:Nat): ∀(c:Code) (fr:Fr) (st:St) (ex:Ex) (fr':Fr) (st':St),exec X n c fr st= .ok (ex,fr',st')→st'.ro=st.ro
 | .skip,_,_,_,_,_,h | .label _,_,_,_,_,_,h | .exit _,_,_,_,_,_,h | .ret,_,_,_,_,_,h=>by
  simp only [exec,Except.ok.injEq,Prod.mk.injEq] at h
  rw [h.2.2]
 | .region _ _ _,_,_,_,_,_,h=>by
  simp only [exec] at h
  split at h
  ·simp only [ae,ai,Prod.mk.injEq] at h
   obtain ⟨⟨fr1,st1⟩,h1,rfl,rfl,rfl⟩:=h
   exact rI hC h1
  ·simp only [ae,ai,Prod.mk.injEq] at h
   obtain ⟨⟨fr1,st1⟩,h1,rfl,rfl,rfl⟩:=h
   exact (pg hC h1).trans IV
 | .seq x y,_,_,_,_,_,h=>by
  simp only [exec,ae] at h
  obtain ⟨⟨ex1,fr1,st1⟩,h1,h2⟩:=h
  have:=il hC n x _ _ _ _ _ h1
  cases ex1 <;> simp only [ai,Prod.mk.injEq] at h2
  ·exact (il hC n y _ _ _ _ _ h2).trans this
  ·rw [← h2.2.2];exact this
  ·rw [← h2.2.2];exact this
 | .cond c x y,_,_,_,_,_,h=>by
  simp only [exec,ae] at h
  obtain ⟨cv,h1,b,h2,h3⟩:=h
  cases b
  ·exact il hC n y _ _ _ _ _ h3
  ·exact il hC n x _ _ _ _ _ h3
 | .block id c,_,_,_,_,_,h=>by
  simp only [exec,ae] at h
  obtain ⟨⟨ex1,fr1,st1⟩,h1,h2⟩:=h
  have:=il hC n c _ _ _ _ _ h1
  cases ex1
  ·simp only [ai,Prod.mk.injEq] at h2;rw [← h2.2.2];exact this
  ·simp only at h2
   split at h2 <;> simp only [ai,Prod.mk.injEq] at h2 <;> rw [← h2.2.2] <;> exact this
  ·simp only [ai,Prod.mk.injEq] at h2;rw [← h2.2.2];exact this
 | .loop c,_,_,_,_,_,h=>by
  simp only [exec] at h
  exact Ff (fun fr st ex fr' st' h=>il hC n c fr st ex fr' st' h) n h
 | .rangeFunc x ps y c,_,_,_,_,_,h=>by
  simp only [exec] at h
  split at h
  ·cases h
  ·simp only [ae] at h
   obtain ⟨fv,h1,h⟩:=h
   split at h
   ·simp only [ae] at h
    obtain ⟨⟨v,st1⟩,h2,o,h3,h4⟩:=h
    dsimp only at h3 h4
    split at h4
    ·split at h4
     ·simp only [ai,Prod.mk.injEq] at h4
      rw [← h4.2.2]
      have e:=hC.wide _ _ _ _ _ h2
      exact e
     ·cases h4
    ·cases h4
   ·cases h
 | .scope c,_,_,_,_,_,h=>by
  simp only [exec] at h
  exact il hC n c _ _ _ _ _ h
 | .goto _,_,_,_,_,_,h=>by simp [exec] at h
 | .refuse _,_,_,_,_,_,h=>by simp [exec] at h
theorem A3 {X:Cx} (hC:Cc X.C) {n:Nat} {fn:Func} {args:List AV} {st st':St} {v:AV} (h:body X n fn args st= .ok (v,st')):st'.ro=st.ro:=by
 unfold body at h
 split at h
 ·cases h
 ·split at h
  ·cases h
  ·simp only [ae] at h
   obtain ⟨⟨ex,fr',st1⟩,h1,h2⟩:=h
   have:=il hC n _ _ _ _ _ _ h1
   cases ex
   ·simp only [ae,ai,Prod.mk.injEq] at h2
    obtain ⟨_,_,_,rfl⟩:=h2;exact this
   ·cases h2
   ·simp only [ae,ai,Prod.mk.injEq] at h2
    obtain ⟨_,_,_,rfl⟩:=h2;exact this
theorem GK {X:Cx} (hC:Cc X.C) {n k:Nat} {x c:Code} {fr:Fr} {st st':St} {v:AV} (h:pP X n k x c fr st= .ok (v,st')):st'.ro=st.ro:=by
 simp only [pP,ae] at h
 obtain ⟨⟨ex1,fr1,st1⟩,h1,h⟩:=h
 have e1:=il hC n _ _ _ _ _ _ h1
 cases ex1 with
 | normal=>
  simp only [ae] at h
  obtain ⟨st2,h2,⟨ex,fr2,st3⟩,h3,h4⟩:=h
  obtain ⟨_,_,_,_,_,_,_,rfl⟩:=ox h2
  have e3:=il hC n _ _ _ _ _ _ h3
  cases ex <;> simp only [ae,ai,Prod.mk.injEq] at h4 <;> obtain ⟨st4,h4,_,rfl⟩:=h4 <;> obtain ⟨_,_,_,_,_,_,_,rfl⟩:=ox h4 <;> exact e3.trans e1
 | exit id=>cases h
 | ret=>cases h
theorem qS {g:Gh}: ∀{ps:List Nat} {args:List AV} {xs:List Value} {fr:Fr} {tmps:Array Value},vh g fr tmps→RL g args xs→ps.length=args.length→
  vh g (nX ps args fr) ((ps.zip xs).foldl (fun t (p,v)=>t.setIfInBounds p v) tmps)∧(nX ps args fr).strict=fr.strict
 | [],_,_,fr,tmps,h,_,_=>by simp only [nX,List.zip_nil_left,List.foldl_nil];exact ⟨h,trivial⟩
 | p::ps,[],_,_,_,_,_,hl=>by cases hl
 | p::ps,v::vs,xs,fr,tmps,h,hr,hl=>by
  simp only [RL] at hr
  obtain ⟨y,ys,rfl,r1,r2⟩:=hr
  have h1:=h.put r1 (some p)
  obtain ⟨k1,k2⟩:=qS h1 r2 (by simpa using hl)
  simp only [nX,List.zip_cons_cons,List.foldl_cons]
  exact ⟨k1,k2.trans (gI _ _ _)⟩
theorem zT {P:Program} {X:Cx} (hX:Good P X) (hC:Cc X.C) (hm:P.follows .mixedOrders=true) {n k:Nat} {imm:TypeId→Bool} {ps:List Tmp} {x c:Code} {fr:Fr} {p:Ex} {args:List AV} {st st':St} {v:AV} (h:pP X n k x c (nX ps args fr) st= .ok (v,st'))
  (hst:ch x=true∧ch c=true) (hlen:args.length=ps.length) (hk:st.get k= .ok (.loop imm ps x c fr 0 p)) (hro:st.ro≤k) {A:Nat→Prop} {g:Gh} {w:World} {xs:List Value} {l:Nat} (hG:GR g X.G) (hargs:RL g args xs) (hi:Inv X.T A g st w) (hE:g.E k=some (.blk l)):
  A0 P l xs.toArray w (ku X.T A g st' w v):=by
 obtain ⟨b,r,q1,q2,q3,q4,q5,q6,⟨q7,q8,q9⟩,q10⟩:=hi.H k _ hk
 have hb:b=l:=by have:=q1.symm.trans hE;simpa using this
 subst hb
 have hxs:=df hargs
 have hps:r.params.size=ps.length:=by rw [← q4];simp
 refine ⟨r.fn,_,r.assign,r.body,run_yield q2 (by simp;omega),roundIn_of_wpIn trivial ?_⟩
 rw [q5,q6]
 have hfold:(r.params.zip xs.toArray).foldl (fun tmps (t,a)=>tmps.setIfInBounds t a) r.tmps=(ps.zip xs).foldl (fun t (p,v)=>t.setIfInBounds p v) r.tmps:=by
  rw [← Array.foldl_toList,Array.toList_zip,q4]
 rw [hfold]
 obtain ⟨f1,f2⟩:=qS q3 hargs hlen.symm
 simp only [pP,ae] at h
 obtain ⟨⟨ex1,fr1,st1⟩,h1,h⟩:=h
 have e1:=il hC n _ _ _ _ _ _ h1
 cases ex1 with
 | exit id=>cases h
 | ret=>cases h
 | normal=>
 simp only [ae] at h
 obtain ⟨st2,h2,⟨ex,fr2,st3⟩,h3,h4⟩:=h
 obtain ⟨imm1,ps1,x1,c1,fr1',p1,hk1,rfl⟩:=ox h2
 have e3:=il hC n _ _ _ _ _ _ h3
 refine fI (ro:=some b) hX hm n x q7 (fun _=>hst.1) A _ _ _ _ _ g _ w _ h1 ⟨by rw [f2,q9];rfl,f1,hi,hG,⟨[],rfl,List.nodup_nil,fun _ h=>by cases h⟩⟩ fun A1 g1 a1 w1 r1 n1=> ?_
 have hE1:g1.E k=some (.blk b):=n1.kp.le.blk _ _ hE
 obtain ⟨b1,rr,s1,s2,s3,s4,s5,s6,s7,s8⟩:=r1.inv.H k _ hk1
 have hb:b1=b:=by have:=s1.symm.trans hE1;simpa using this
 subst hb
 have hA1:A1 b1:=r1.inv.own k _ b1 hk1 s1 (by rw [e1];exact hro)
 have hready:rr.state= .ready:=by
  rcases s8 with ⟨_,e,_⟩ | ⟨e,_⟩ | ⟨e,_⟩
  ·exact e
  ·cases e
  ·cases e
 have hlt:b1 < w1.heap.size:=lt_of_heap s2
 obtain ⟨i2,k2⟩:=r1.inv.turn hk1 hE1 s2 hA1 {rr with state:= .busy} (.loop imm1 ps1 x1 c1 fr1' 1 .normal) (fun b' hb'=>by
  have hb':g1.E k=some (.blk b'):=hb'
  rw [hE1] at hb';simpa using hb'.symm) ⟨b1,_,hE1,World.putObj_heap_same hlt,s3,s4,s5,s6,s7,.inr (.inl ⟨rfl,rfl⟩)⟩
 refine ⟨_,run_beginRound s2 hready, ?_⟩
 refine fI (ro:=some b1) hX hm n c q8 (fun _=>hst.2) A1 _ _ _ _ _ g1 _ _ _ h3 ⟨r1.mode,r1.fr,i2,r1.G,r1.marks.As k2⟩ fun A2 g2 a3 w3 r3 n3=> ?_
 have nn:Nx A g {tmps:=(ps.zip xs).foldl (fun t (p,v)=>t.setIfInBounds p v) r.tmps,defers:=[]} w A2 g2 a3 w3:=n1.trans (Nx.trans ⟨fun _ h=>h,k2,fun _ h=> .inl h⟩ n3)
 have hE3:g2.E k=some (.blk b1):=nn.kp.le.blk _ _ hE
 have fin: ∀(s:Nat) (e:Ex) (jump:Option Code),qf k 1 s e st3= .ok st'→(∀q:Loop,JL s e {q with state:=if jump.isNone then .ready else .done,pending:=jump})→v= .bool jump.isNone→
   ∃y w',(Instr.endRound b1 jump).run P w3= .ok y w'∧ ∃x,Ending.returned y= .returned x∧ku X.T A g st' w v x w':=fun s e jump hset hls hv=>by
  obtain ⟨imm3,ps3,x3,c3,fr3,p3,hk3,rfl⟩:=ox hset
  obtain ⟨b3,r4,t1,t2,t3,t4,t5,t6,t7,t8⟩:=r3.inv.H k _ hk3
  have hb:b3=b1:=by have:=t1.symm.trans hE3;simpa using this
  subst hb
  have hA2:A2 b3:=r3.inv.own k _ b3 hk3 t1 (by rw [e3];show st1.ro≤k;rw [e1];exact hro)
  obtain ⟨i4,k4⟩:=r3.inv.turn hk3 hE3 t2 hA2 {r4 with state:=if jump.isNone then .ready else .done,pending:=jump} (.loop imm3 ps3 x3 c3 fr3 s e) (fun b' hb'=>by
   have hb':g2.E k=some (.blk b'):=hb'
   rw [hE3] at hb';simpa using hb'.symm) ⟨b3,_,hE3,World.putObj_heap_same (lt_of_heap t2),t3,t4,t5,t6,t7,hls r4⟩
  refine ⟨_,_,run_endRound jump t2,_,rfl,g2,by rw [hv];simp only [R], ?_,nn.kp.trans (k4.sub nn.sub)⟩
  exact ⟨i4.F,i4.M,i4.E,i4.H,i4.D,fun id o b q1 q2 q3=>nn.sub b (i4.own id o b q1 q2 q3),fun b hb=>hi.up b (Nat.le_trans nn.kp.size (by simpa using hb))⟩
 cases ex with
 | normal=>
  simp only [ae,ai,Prod.mk.injEq] at h4
  obtain ⟨st4,h4,rfl,rfl⟩:=h4
  exact fin 0 .normal none h4 (fun _=> .inl ⟨rfl,rfl,rfl,rfl⟩) rfl
 | ret=>
  simp only [ae,ai,Prod.mk.injEq] at h4
  obtain ⟨st4,h4,rfl,rfl⟩:=h4
  exact fin 2 .ret (some .ret) h4 (fun _=> .inr (.inr ⟨rfl,rfl,.inl ⟨rfl,rfl⟩⟩)) rfl
 | exit i=>
  simp only [ae,ai,Prod.mk.injEq] at h4
  obtain ⟨st4,h4,rfl,rfl⟩:=h4
  exact fin 2 (.exit i) (some (.exit i)) h4 (fun _=> .inr (.inr ⟨rfl,rfl,.inr ⟨i,rfl,rfl⟩⟩)) rfl
def Dh (P:Program) (T:TT) (G:Nat→Option (List AV)) (f:FuncId) (args:List AV) (v:AV):Prop:=
 ∀A g st w xs,GR g G→bz args=true→RL g args xs→Inv T A g st w→uA P f xs.toArray w (ku T A g st w v)
theorem tn {args:List AV} {v:AV}: ∀{l:List (List AV×AV)},sS args l=some v→(args,v)∈l
 | [],h=>by cases h
 | (a,u)::l,h=>by
  simp only [sS] at h
  split at h
  ·rename_i e
   cases h
   rw [jB (lr 1000) e]
   exact List.mem_cons_self
  ·exact List.mem_cons_of_mem _ (tn h)
structure yT (P:Program) (E:Env):Prop where
 T:vy P E.T
 F: ∀f fn,E.F f=some fn→P.funcs[f]? =some fn∧(∀args w,(callFunc f args).run P w= .ok (.enter f args) w)∧ ∀c,fn.body=some c→codeOk c=true
 prim:Ax P E.T E.G E.prim
 mixed:P.follows .mixedOrders=true
 memo: ∀f e,e∈E.memo f→Dh P E.T E.G f e.1 e.2
 rule: ∀f r args v,E.rule f=some r→r args=some v→Dh P E.T E.G f args v:=by intro _ _ _ _ h;cases h
 wrule: ∀f r args st v s,E.wrule f=some r→r args st= .ok (v,s)→s.ro=st.ro∧ ∀A g w xs,GR g E.G→RL g args xs→Inv E.T A g st w→
  (callFunc f xs.toArray).run P w= .ok (.enter f xs.toArray) w∧Calls P f xs.toArray w fun e w'=> ∃x,e= .returned x∧ku E.T A g s w v x w':=by intro _ _ _ _ _ _ h;cases h
theorem Jq {P:Program} {E:Env} (hE:yT P E) {f:FuncId} {args:List AV} {v:AV} (h:E.known f args=some v):Dh P E.T E.G f args v:=by
 unfold Env.known at h
 split at h
 ·rename_i r hr
  exact hE.rule f r args v hr h
 ·exact hE.memo f _ (tn h)
theorem St.gN {i:Nat} {o:Obj}:St.empty.get i≠ .ok o:=by
 intro h
 have:=(St.bM.1 h).1
 simp [St.empty] at this
theorem uh {P:Program} {E:Env} (hE:yT P E): ∀n,xU P E.T E.G (caller E n)∧Cc (caller E n)
 | 0=>⟨⟨fun _ _ _ h=>by simp [caller] at h,fun _ _ _ _ _ h=>by simp [caller] at h,fun _ _ _ _ h=>by simp [caller] at h,fun _ _ _ _ _ h=>by simp [caller] at h⟩,⟨fun _ _ _ _ _ h=>by simp [caller] at h,fun _ _ _ _ _ h=>by simp [caller] at h⟩⟩
 | n+1=>by
  obtain ⟨ih,iro⟩:=uh hE n
  have hX: ∀f,Good P ⟨E.T,E.prim,E.imm f,E.G,caller E n⟩:=fun f=>⟨hE.T,ih,hE.prim⟩
  refine ⟨⟨?_, ?_, ?_, ?_⟩,⟨?_, ?_⟩⟩
  ·intro f args v h A g st w xs hG hb hr hi
   simp only [caller] at h
   split at h
   ·rename_i u hu
    cases h
    exact Jq hE hu A g st w xs hG hb hr hi
   split at h
   ·cases h
   ·rename_i fn hfn
    obtain ⟨f1,f2,f3⟩:=hE.F f fn hfn
    simp only [ae] at h
    obtain ⟨⟨v0,s⟩,h1,v1,h2,h3⟩:=h
    split at h3
    ·rename_i hbare
     simp only [ai] at h3
     subst h3
     have hle:OX g ⟨g.F,g.M,fun _=>none⟩:=⟨fun _ _ _ x=>x,fun _ _ x=>x⟩
     have hinv:Inv E.T (fun b=>w.heap.size≤b) ⟨g.F,g.M,fun _=>none⟩ St.empty w:=
      ⟨hi.F,hi.M,fun _ _=>rfl,fun _ _ ho=>(St.gN ho).elim,fun _ _ _ _ _ ho=>(St.gN ho).elim,fun _ _ _ ho=>(St.gN ho).elim,fun _ hb=>hb⟩
     refine .inr ⟨f2 _ _,(r8 (hX f) hE.mixed f1 f3 h1 (qF hle _ _ hb hr) (fun k cs hk=>⟨(hG k cs hk).1,sK hle _ _ _ (hG k cs hk).1 (hG k cs hk).2⟩) hinv).mono ?_⟩
     rintro e w' ⟨x,rfl,g',r1,r2,r3⟩
     refine ⟨x,rfl,xE (gb:=⟨g.F,g.M,fun _=>none⟩) hi rfl rfl (fun _=>Iff.rfl) r2 r3 (base:=0) ?_ r1 h2 hbare⟩
     rw [A3 iro h1];exact Nat.le_refl _
    ·cases h3
  ·intro f args st v st' h A g w xs hG hr hi
   simp only [caller] at h
   split at h
   ·split at h
    ·rename_i r hw
     exact (hE.wrule f r args st v st' hw h).2 A g w xs hG hr hi
    ·cases h
   ·rename_i fn hfn
    obtain ⟨f1,f2,f3⟩:=hE.F f fn hfn
    simp only [ae,ai] at h
    obtain ⟨⟨v0,s⟩,h1,h2⟩:=h
    simp only [Prod.mk.injEq] at h2
    obtain ⟨rfl,rfl⟩:=h2
    exact ⟨f2 _ _,r8 (hX f) hE.mixed f1 f3 h1 hr hG hi⟩
  ·intro f args st v h A g w xs hG hr hi
   simp only [caller] at h
   split at h
   ·cases h
   ·rename_i fn hfn
    obtain ⟨f1,f2,f3⟩:=hE.F f fn hfn
    simp only [ae] at h
    obtain ⟨⟨v0,s⟩,h1,v1,h2,h3⟩:=h
    split at h3
    ·rename_i hbare
     simp only [ai] at h3
     subst h3
     have hget: ∀i,(⟨st.h,st.h,st.objs⟩:St).get i=st.get i:=fun _=>rfl
     have hinv:Inv E.T (fun b=>w.heap.size≤b) g ⟨st.h,st.h,st.objs⟩ w:=
      ⟨hi.F,hi.M,hi.E,hi.H,hi.D,fun id o b ho _ hro=>by
       have:=(St.bM.1 ho).1
       have hro':st.h≤id:=hro
       have:id < st.h:=this
       omega,fun _ hb=>hb⟩
     refine .inr ⟨f2 _ _,(r8 (hX f) hE.mixed f1 f3 h1 hr hG hinv).mono ?_⟩
     rintro e w' ⟨x,rfl,g',r1,r2,r3⟩
     refine ⟨x,rfl,xE hi rfl rfl (fun _=>Iff.rfl) r2 r3 (base:=st.h) ?_ r1 h2 hbare⟩
     rw [A3 iro h1];exact Nat.le_refl _
    ·cases h3
  ·intro k args st v st' h A g w xs l hG hr hi hl
   simp only [caller,ae] at h
   obtain ⟨o,h1,h2⟩:=h
   split at h2
   ·rename_i imm ps x c fr s p
    split at h2
    ·rename_i hc
     simp only [Bool.and_eq_true] at hc
     obtain ⟨⟨c1,c2⟩,c3,c4,c5⟩:=hc
     have c1:=Nat.eq_of_beq_eq_true c1
     subst c1
     exact zT (X:=⟨E.T,E.prim,imm,E.G,caller E n⟩) ⟨hE.T,ih,hE.prim⟩ iro hE.mixed h2 ⟨c4,c5⟩ (Nat.eq_of_beq_eq_true c3) h1 (Nat.le_of_ble_eq_true c2) hG hr hi hl
    ·cases h2
   ·cases h2
  ·intro f args st v s h
   simp only [caller] at h
   split at h
   ·split at h
    ·rename_i r hw
     exact (hE.wrule f r args st v s hw h).1
    ·cases h
   ·simp only [ae,ai] at h
    obtain ⟨⟨v0,s0⟩,h1,h2⟩:=h
    simp only [Prod.mk.injEq] at h2
    obtain ⟨rfl,rfl⟩:=h2
    exact A3 iro h1
  ·intro k args st v s h
   simp only [caller,ae] at h
   obtain ⟨o,h1,h2⟩:=h
   split at h2
   ·split at h2
    ·exact GK (X:=⟨E.T,E.prim,_,E.G,caller E n⟩) iro h2
    ·cases h2
   ·cases h2
namespace Tr
variable {α:Type}
def of:Nat→(Nat→Option α)→Tr α
 | 0,_=> .leaf
 | d+1,f=> .node (f 0) (of d fun k=>f (2 * k+1)) (of d fun k=>f (2 * k+2))
theorem Cy {v:Option α} {l r:Tr α} (n:Nat):(Tr.node v l r).get n=if n=0 then v else if n % 2=1 then l.get (n / 2) else r.get (n / 2 - 1):=by
 rw [get]
 cases h0:n.beq 0 with
 | true=>rw [if_pos (Nat.eq_of_beq_eq_true h0)]
 | false=>
  have:n≠0:=fun e=>by subst e;cases h0
  rw [if_neg this]
  cases h1:(n % 2).beq 1 with
  | true=>rw [if_pos (Nat.eq_of_beq_eq_true h1)]
  | false=>rw [if_neg (fun e=>by rw [e] at h1;cases h1)]
theorem Dv: ∀(d:Nat) (f:Nat→Option α) (n:Nat) (x:α),(of d f).get n=some x→f n=some x
 | 0,_,n,x,h=>by rw [of,su] at h;cases h
 | d+1,f,n,x,h=>by
  rw [of,Cy] at h
  split at h
  ·rename_i e;subst e;exact h
  ·split at h
   ·have:=Dv d _ _ _ h
    rwa [show 2 * (n / 2)+1=n by omega] at this
   ·have:=Dv d _ _ _ h
    rwa [show 2 * (n / 2 - 1)+2=n by omega] at this
def qP (p:Nat→α→Prop):Tr α→Prop
 | .leaf=>True
 | .node v l r=>(∀x,v=some x→p 0 x)∧qP (fun k=>p (2 * k+1)) l∧qP (fun k=>p (2 * k+2)) r
theorem lq: ∀(t:Tr α) (p:Nat→α→Prop),qP p t→ ∀n x,t.get n=some x→p n x
 | .leaf,p,_,n,x,h=>by rw [su] at h;cases h
 | .node v l r,p,hp,n,x,h=>by
  rw [Cy] at h
  obtain ⟨h1,h2,h3⟩:=hp
  split at h
  ·rename_i e;subst e;exact h1 x h
  ·split at h
   ·have:=lq l _ h2 _ _ h
    rwa [show 2 * (n / 2)+1=n by omega] at this
   ·have:=lq r _ h3 _ _ h
    rwa [show 2 * (n / 2 - 1)+2=n by omega] at this
end Tr
def Rt:TypeDesc→U
 | .bool=> .bool | .int k=> .int k | .string=> .str | .float k=> .flt k
 | .pointer e=> .ptr e | .slice e=> .slice e | .array n e=> .arr n e | .map k e=> .map k e
 | .struct fs=> .struct (fs.toList.map fun f=>(f.offset,f.type))
 | .func .. => .func | .interface ms=> .iface ms.isEmpty | .unsafePointer=> .uptr
 | _=> .other
theorem NR: ∀d,x6 d (Rt d):=by
 intro d
 cases d <;> simp [Rt,x6]
def isAgg:TypeDesc→Bool
 | .struct _ | .array .. =>true
 | _=>false
def Qd (l:List Value):Bool:=l.all fun v=>v.oneCell'
def zeroOf (z:Value) (agg:Bool):Option (List AV):=
 match agg with
 | true=>match z with
  | .agg cs=>match Qd cs.toList with
   | true=>match ofConst.ofAll cs.toList with
    | .ok l=>some l
    | .error _=>none
   | false=>none
  | _=>none
 | false=>match z.oneCell' with
  | true=>match ofConst z with
   | .ok v=>some [v]
   | .error _=>none
  | false=>none
theorem F9 {z:Value} {agg:Bool} {l:List AV} (h:zeroOf z agg=some l):
  (agg=false→z.oneCell'=true)∧(∀v∈z.cells,v.oneCell'=true)∧(agg=true→ ∃cs,z= .agg cs)∧ ∀g,RL g l z.cells.toList:=by
 unfold zeroOf at h
 split at h
 ·split at h
  ·rename_i cs
   split at h
   ·rename_i h1
    split at h
    ·rename_i l' h2
     simp only [Option.some.injEq] at h
     subst h
     refine ⟨(fun e=>by cases e),fun v hv=> ?_,fun _=>⟨cs,rfl⟩,fun g=>mo g _ _ h2⟩
     have:v∈cs:=hv
     exact List.all_eq_true.1 h1 v (by simpa using this)
    ·cases h
   ·cases h
  ·cases h
 ·split at h
  ·rename_i h1
   split at h
   ·rename_i v h2
    simp only [Option.some.injEq] at h
    subst h
    have hc:z.cells= #[z]:=by cases z <;> first | rfl | simp [Value.oneCell'] at h1
    refine ⟨fun _=>h1,fun u hu=> ?_,(fun e=>by simp at e),fun g=> ?_⟩
    ·rw [hc] at hu
     simp only [List.mem_toArray,List.mem_cons,List.not_mem_nil,or_false] at hu
     rw [hu];exact h1
    ·rw [hc];exact cE (mD g z v h2) fH
   ·cases h
  ·cases h
def L6 (P:Program) (t:TypeId):TypeDesc→Bool
 | .struct fs=> !P.eqGuardType P.depth t&& !P.stoodInHeld t&&fs.toList.all (fun f=>f.name != "_")
 | _=>false
def N0 (P:Program) (t:TypeId):Option TI:=
 match P.underlying t with
 | none=>none
 | some d=>match P.info? t with
  | none=>none
  | some f=>match f.zero with
   | none=>none
   | some z=>match zeroOf z (isAgg d) with
    | none=>none
    | some l=>match z.cells.size.beq f.size with
     | false=>none
     | true=>some ⟨Rt d,f.size,f.bytes,l,isAgg d,L6 P t d⟩
theorem Kj {P:Program} {t:TypeId} {i:TI} (h:N0 P t=some i):iV P t i:=by
 unfold N0 at h
 split at h
 ·cases h
 rename_i d hd
 split at h
 ·cases h
 rename_i f hf
 split at h
 ·cases h
 rename_i z hz
 split at h
 ·cases h
 rename_i l hl
 split at h
 ·cases h
 rename_i hs
 simp only [Option.some.injEq] at h
 subst h
 obtain ⟨z1,z2,z3,z4⟩:=F9 hl
 refine ⟨⟨d,hd,NR d, ?_⟩,fun hc=> ?_,⟨f,hf,rfl,rfl,z,hz,Nat.eq_of_beq_eq_true hs,z1,z2,z3,z4⟩⟩
 ·cases d <;> rfl
 ·dsimp only at hc
  unfold L6 at hc
  split at hc
  ·rename_i fs
   simp only [Bool.and_eq_true,Bool.not_eq_true',List.all_eq_true,bne_iff_ne,ne_eq] at hc
   refine ⟨hc.1.1,hc.1.2,fun fields he fl hfl=> ?_⟩
   have e:=hd.symm.trans he
   simp only [Option.some.injEq,TypeDesc.struct.injEq] at e
   subst e
   exact hc.2 fl hfl
  ·cases hc
theorem Qz {P:Program} {T:TT} {d:Nat} (h:T=Tr.of d (N0 P)):vy P T:=fun _ _ ht=>Kj (Tr.Dv d _ _ _ (h ▸ ht))
def N1 (P:Program) (f:FuncId) (fn:Func):Prop:=P.funcs[f]? =some fn∧(∀args w,(callFunc f args).run P w= .ok (.enter f args) w)∧ ∀c,fn.body=some c→codeOk c=true
theorem cB {P:Program} {f:FuncId} {fn:Func} (h1:P.funcs[f]? =some fn) (h2: ∀args w,(callFunc f args).run P w= .ok (.enter f args) w) (h3:fn.body.all codeOk=true):
  ∀x,some fn=some x→N1 P f x:=by
 intro x hx
 simp only [Option.some.injEq] at hx
 subst hx
 exact ⟨h1,h2,fun c hc=>by rw [hc] at h3;exact h3⟩
theorem ca {P:Program} {f:FuncId}: ∀x,none=some x→N1 P f x:=fun _ h=>by cases h
theorem Tr.aa {α:Type} {p:Nat→α→Prop}:Tr.qP p .leaf:=trivial
theorem Tr.ab {α:Type} {p:Nat→α→Prop} {v:Option α} {l r:Tr α} (h1: ∀x,v=some x→p 0 x) (h2:Tr.qP (fun k=>p (2 * k+1)) l) (h3:Tr.qP (fun k=>p (2 * k+2)) r):Tr.qP p (.node v l r):=⟨h1,h2,h3⟩
end Go.VM
namespace Go.VM
structure Lb (C C':cW):Prop where
 full:C'.full=C.full
 isLook:C'.isLook=C.isLook
 bare: ∀f args v,C.bare f args= .ok v→C'.bare f args= .ok v
 wide: ∀f args st r,C.wide f args st= .ok r→C'.wide f args st= .ok r
 look: ∀f args st v,C.look f args st= .ok v→C'.look f args st= .ok v
 round: ∀k args st r,C.round k args st= .ok r→C'.round k args st= .ok r
theorem sw {C C':cW} (h:Lb C C') {st:St} {p:dH} {r:AV×Fx} (hr:aD C st p= .ok r):aD C' st p= .ok r:=by
 cases p with
 | val v=>exact hr
 | obj id f=>exact hr
 | both id k f=>exact hr
 | new o f=>exact hr
 | yield k args=>
  simp only [aD,ae,ai] at hr ⊢
  obtain ⟨v,h1,rfl⟩:=hr
  exact ⟨v,h.round _ _ _ _ h1,rfl⟩
 | call f args=>
  simp only [aD] at hr ⊢
  rw [h.full,h.isLook]
  cases e:(bz (args.map strip)&& !C.full f) with
  | true=>
   rw [e] at hr
   simp only [ae,ai] at hr
   obtain ⟨v,h1,rfl⟩:=hr
   simp only [h.bare _ _ _ h1];rfl
  | false=>
   rw [e] at hr
   dsimp only at hr ⊢
   cases e':C.isLook f with
   | true=>
    rw [e'] at hr
    simp only [ae,ai] at hr
    obtain ⟨v,h1,rfl⟩:=hr
    simp only [h.look _ _ _ _ h1];rfl
   | false=>
    rw [e'] at hr
    simp only [ae,ai] at hr
    obtain ⟨v,h1,rfl⟩:=hr
    simp only [h.wide _ _ _ _ h1];rfl
def Cx.with (X:Cx) (C:cW):Cx:=⟨X.T,X.prim,X.imm,X.G,C⟩
theorem F8 {X:Cx} {C:cW} (h:Lb X.C C) {all:List Oper} {fr:Fr} {st:St} {o:Oper} {r:AV×Fx} (hr:oper X all fr st o= .ok r):oper (X.with C) all fr st o= .ok r:=by
 unfold oper at hr ⊢
 split at hr
 ·obtain ⟨p,h1,h2⟩:=ae.1 hr
  exact ae.2 ⟨p,h1,sw h h2⟩
 ·exact hr
theorem nI {X:Cx} {C:cW} (h:Lb X.C C) {all:List Oper} {draw:Bool}: ∀{l:List Oper} {j:Nat} {seen:List (Nat×Fx)} {fr:Fr} {st:St} {r:Fr×St},dJ X all draw j seen l fr st= .ok r→dJ (X.with C) all draw j seen l fr st= .ok r
 | [],_,_,_,_,_,hr=>hr
 | o::l,j,seen,fr,st,r,hr=>by
  simp only [dJ,ae] at hr ⊢
  obtain ⟨⟨v,x⟩,h1,h2⟩:=hr
  refine ⟨(v,x),F8 h h1, ?_⟩
  dsimp only at h2 ⊢
  split at h2
  ·exact nI h h2
  ·split at h2
   ·exact nI h h2
   ·cases h2
theorem EA {X:Cx} {C:cW} (h:Lb X.C C) {e:Nat→Option Nat} {all:List Oper} {fr:Fr} {st:St} {o:Oper} {r:AV×Fx} (hr:fm X e all fr st o= .ok r):fm (X.with C) e all fr st o= .ok r:=by
 unfold fm at hr ⊢
 split at hr
 ·split at hr
  ·exact hr
  ·obtain ⟨p,h1,h2⟩:=ae.1 hr
   exact ae.2 ⟨p,h1,sw h h2⟩
 ·exact hr
theorem mB {X:Cx} {C:cW} (h:Lb X.C C) {e:Nat→Option Nat} {all:List Oper}: ∀{l:List Oper} {j:Nat} {seen:List (Nat×Fx)} {fr:Fr} {st:St} {r:Fr×St},cX X e all j seen l fr st= .ok r→cX (X.with C) e all j seen l fr st= .ok r
 | [],_,_,_,_,_,hr=>hr
 | o::l,j,seen,fr,st,r,hr=>by
  simp only [cX,ae] at hr ⊢
  obtain ⟨⟨v,x⟩,h1,h2⟩:=hr
  refine ⟨(v,x),EA h h1, ?_⟩
  dsimp only at h2 ⊢
  split at h2
  ·exact mB h h2
  ·split at h2
   ·exact mB h h2
   ·cases h2
theorem tN {b b':Fr→St→cV (Ex×Fr×St)} (hb: ∀fr st r,b fr st= .ok r→b' fr st= .ok r): ∀{n n':Nat} {fr:Fr} {st:St} {r:Ex×Fr×St},n≤n'→iter b n fr st= .ok r→iter b' n' fr st= .ok r
 | 0,_,_,_,_,_,h=>by simp [iter] at h
 | n+1,0,_,_,_,hn,_=>by omega
 | n+1,n'+1,fr,st,r,hn,h=>by
  simp only [iter,ae] at h ⊢
  obtain ⟨⟨ex,fr1,st1⟩,h1,h2⟩:=h
  refine ⟨_,hb _ _ _ h1, ?_⟩
  cases ex
  ·exact tN hb (by omega) h2
  ·exact h2
  ·exact h2
theorem gw {X:Cx} {C:cW} (h:Lb X.C C) {n n':Nat} (hn:n≤n'): ∀(c:Code) (fr:Fr) (st:St) (r:Ex×Fr×St),exec X n c fr st= .ok r→exec (X.with C) n' c fr st= .ok r
 | .skip,_,_,_,hr | .label _,_,_,_,hr | .exit _,_,_,_,hr | .ret,_,_,_,hr=>hr
 | .goto _,_,_,_,hr | .refuse _,_,_,_,hr=>by simp [exec] at hr
 | .rangeFunc x ps y c,fr,st,r,hr=>by
  simp only [exec] at hr ⊢
  cases hs:fr.strict with
  | true=>rw [hs] at hr;cases hr
  | false=>
   rw [hs] at hr
   dsimp only at hr ⊢
   obtain ⟨fv,h1,h2⟩:=ae.1 hr
   refine ae.2 ⟨fv,h1, ?_⟩
   split at h2
   ·obtain ⟨q,h3,h4⟩:=ae.1 h2
    exact ae.2 ⟨q,h.wide _ _ _ _ h3,h4⟩
   ·cases h2
 | .scope c,fr,st,r,hr=>gw h hn c fr st r hr
 | .region _ _ _,fr,st,r,hr=>by
  simp only [exec] at hr ⊢
  split at hr
  ·rename_i hd
   have hd:(_&&(X.with C).imm 4000000)=false:=hd
   rw [hd]
   simp only [ae] at hr ⊢
   obtain ⟨a,h1,h2⟩:=hr
   exact ⟨a,nI h h1,h2⟩
  ·rename_i hd
   have hd:(_&&(X.with C).imm 4000000)=true:=hd
   rw [hd]
   simp only [ae] at hr ⊢
   obtain ⟨a,h1,h2⟩:=hr
   exact ⟨a,mB h h1,h2⟩
 | .seq a b,fr,st,r,hr=>by
  simp only [exec,ae] at hr ⊢
  obtain ⟨⟨ex,fr1,st1⟩,h1,h2⟩:=hr
  refine ⟨_,gw h hn a _ _ _ h1, ?_⟩
  cases ex
  ·exact gw h hn b _ _ _ h2
  ·exact h2
  ·exact h2
 | .cond c a b,fr,st,r,hr=>by
  simp only [exec,ae] at hr ⊢
  obtain ⟨cv,h1,v,h2,h3⟩:=hr
  refine ⟨cv,h1,v,h2, ?_⟩
  cases v
  ·exact gw h hn b _ _ _ h3
  ·exact gw h hn a _ _ _ h3
 | .block id c,fr,st,r,hr=>by
  simp only [exec,ae] at hr ⊢
  obtain ⟨a,h1,h2⟩:=hr
  exact ⟨a,gw h hn c _ _ _ h1,h2⟩
 | .loop c,fr,st,r,hr=>by
  simp only [exec] at hr ⊢
  exact tN (fun fr st r h'=>gw h hn c fr st r h') hn hr
theorem GQ {X:Cx} {C:cW} (h:Lb X.C C) {n n':Nat} (hn:n≤n') {fn:Func} {args:List AV} {st:St} {r:AV×St} (hr:body X n fn args st= .ok r):body (X.with C) n' fn args st= .ok r:=by
 unfold body at hr ⊢
 split at hr
 ·cases hr
 ·split at hr
  ·cases hr
  ·obtain ⟨a,h1,h2⟩:=ae.1 hr
   exact ae.2 ⟨a,gw h hn _ _ _ _ h1,h2⟩
theorem B6 {X:Cx} {C:cW} (h:Lb X.C C) {n n':Nat} (hn:n≤n') {k:Nat} {x c:Code} {fr:Fr} {st:St} {r:AV×St} (hr:pP X n k x c fr st= .ok r):pP (X.with C) n' k x c fr st= .ok r:=by
 simp only [pP,ae] at hr ⊢
 obtain ⟨⟨ex,fr1,st1⟩,h1,h2⟩:=hr
 refine ⟨_,gw h hn _ _ _ _ h1, ?_⟩
 cases ex
 ·simp only [ae] at h2 ⊢
  obtain ⟨st2,h3,q,h4,h5⟩:=h2
  exact ⟨st2,h3,q,gw h hn _ _ _ _ h4,h5⟩
 ·exact h2
 ·exact h2
theorem fq (E:Env): ∀{n n':Nat},n≤n'→Lb (caller E n) (caller E n')
 | 0,0,_=>⟨rfl,rfl,fun _ _ _ h=>h,fun _ _ _ _ h=>h,fun _ _ _ _ h=>h,fun _ _ _ _ h=>h⟩
 | 0,_+1,_=>⟨rfl,rfl,fun _ _ _ h=>(by simp [caller] at h),fun _ _ _ _ h=>(by simp [caller] at h),fun _ _ _ _ h=>(by simp [caller] at h),fun _ _ _ _ h=>(by simp [caller] at h)⟩
 | n+1,0,h=>by omega
 | n+1,n'+1,hn=>by
  have ih:=fq E (show n≤n' by omega)
  have hb: ∀f fn args st r,body ⟨E.T,E.prim,E.imm f,E.G,caller E n⟩ n fn args st= .ok r→body ⟨E.T,E.prim,E.imm f,E.G,caller E n'⟩ n' fn args st= .ok r:=fun f fn args st r h=>
   GQ (X:=⟨E.T,E.prim,E.imm f,E.G,caller E n⟩) ih (by omega) h
  refine ⟨rfl,rfl,fun f args v h=> ?_,fun f args st r h=> ?_,fun f args st v h=> ?_,fun k args st r h=> ?_⟩
  ·simp only [caller] at h ⊢
   split at h
   ·exact h
   ·split at h
    ·cases h
    ·obtain ⟨a,h1,h2⟩:=ae.1 h
     exact ae.2 ⟨a,hb _ _ _ _ _ h1,h2⟩
  ·simp only [caller] at h ⊢
   split at h
   ·exact h
   ·obtain ⟨a,h1,h2⟩:=ae.1 h
    exact ae.2 ⟨a,hb _ _ _ _ _ h1,h2⟩
  ·simp only [caller] at h ⊢
   split at h
   ·cases h
   ·obtain ⟨a,h1,h2⟩:=ae.1 h
    exact ae.2 ⟨a,hb _ _ _ _ _ h1,h2⟩
  ·simp only [caller,ae] at h ⊢
   obtain ⟨o,h1,h2⟩:=h
   refine ⟨o,h1, ?_⟩
   cases o with
   | loop imm ps x c fr s p=>
    dsimp only at h2 ⊢
    split at h2
    ·exact B6 (X:=⟨E.T,E.prim,imm,E.G,caller E n⟩) ih (by omega) h2
    ·cases h2
   | _=>cases h2
theorem au {α β:Type} (a:α) (f:α→cV β):((Except.ok a:cV α) >>= f)=f a:=rfl
theorem aI {α:Type} (a:α):(pure a:cV α)= .ok a:=rfl
theorem Fr.iA (fr:Fr) (d i:Nat) (v:AV) (h:d < fr.n):(fr.put (some d) v).get i=if d=i then v else fr.get i:=by
 have:d.blt fr.n=true:=cY.2 h
 simp only [Fr.put,this,Fr.get,Tr.iA]
 split <;> rfl
theorem Fr.JC (fr:Fr) (d:Option Nat) (v:AV):(fr.put d v).n=fr.n:=by
 cases d with
 | none=>rfl
 | some d=>simp only [Fr.put];split <;> rfl
def Ji {α:Type}:cV α→Option α
 | .ok a=>some a
 | .error _=>none
structure qJ where
 full:FuncId→Bool
 isLook:FuncId→Bool
 bare:FuncId→List AV→Option AV
 wide:FuncId→List AV→St→Option (AV×St)
 look:FuncId→List AV→St→Option AV
 round:Nat→List AV→St→Option (AV×St)
structure Sx where
 T:TT
 prim:FuncId→Option Prim
 imm:TypeId→Bool
 G:Nat→Option (List AV)
 O:qJ
section
variable {β:Type}
def bA {α:Type} (a:α) (K:α→Option β):Option β:=K a
abbrev bP (a:St) (K:St→Option β):Option β:=K a
def bV (k:IntKind) (v:AV) (K:Int→Option β):Option β:=
 match v with
 | .int j n=>match decide (j=k) with
  | true=>K n
  | false=>none
 | _=>none
def du (v:AV) (K:Bool→Option β):Option β:=
 match v with
 | .bool b=>K b
 | _=>none
def fY (v:AV) (K:List UInt8→Option β):Option β:=
 match v with
 | .str s=>K s
 | _=>none
def anyI (v:AV) (K:Int→Option β):Option β:=
 match v with
 | .int _ n=>K n
 | _=>none
def ui (v:AV) (K:List AV→Option β):Option β:=
 match v with
 | .agg cs=>K cs
 | _=>none
def iy (v:AV) (K:List AV→Option β):Option β:=
 match v with
 | .tup cs=>K cs
 | _=>none
def bK (l:List AV) (K:AV→List AV→Option β):Option β:=
 match l with
 | v::l=>K v l
 | []=>none
def cT (l:List AV) (K:Option β):Option β:=
 match l with
 | []=>K
 | _:: _=>none
def cQ (b:Bool) (K:Option β):Option β:=
 match b with
 | true=>K
 | false=>none
def bI (b:Bool) (x y:Option β):Option β:=
 match b with
 | true=>x
 | false=>y
def af (v:AV) (K:Option β):Option β:=cQ (one v) K
def xC:List AV→Option β→Option β
 | [],K=>K
 | v::l,K=>af v (xC l K)
def da (cs:List AV) (off:Nat) (K:AV→Option β):Option β:=
 match cs[off]? with
 | some v=>K v
 | none=>none
def KE (b:Bool) (z v:AV) (K:AV→Option β):Option β:=
 match z with
 | .int k _=>bV k v fun n=>match b with
  | true=>bA n fun n=>K (.int k n)
  | false=>K (.int k n)
 | .bool _=>du v fun b=>K (.bool b)
 | .str _=>fY v fun s=>match b with
  | true=>bA s fun s=>K (.str s)
  | false=>K (.str s)
 | _=>K v
def Kw:List AV→List AV→(List AV→Option β)→Option β
 | [],cs,K=>cT cs (K [])
 | z::zs,cs,K=>bK cs fun v l=>KE false z v fun v'=>Kw zs l fun l'=>K (v'::l')
def B2 (b:Bool) (T:TT) (t:TypeId) (v:AV) (K:AV→Option β):Option β:=
 match T.get t with
 | some i=>match i.agg with
  | true=>match i.zero.length.ble 24 with
   | true=>ui v fun cs=>Kw i.zero cs fun cs'=>K (.agg cs')
   | false=>K v
  | false=>match i.zero with
   | [z]=>KE b z v K
   | _=>K v
 | none=>K v
def AL:Op→Bool
 | .binOp op _ _ _ _=>match op with
  | .eql=>false
  | .neq=>false
  | .lss=>false
  | .leq=>false
  | .gtr=>false
  | .geq=>false
  | _=>true
 | .unOp .. =>true
 | .convert .. =>true
 | .slice .. =>true
 | .call c=>match c.callee with
  | .builtin .min=>true
  | .builtin .max=>true
  | _=>false
 | _=>false
def tb (T:TT) (t:TypeId) (K:TI→Option β):Option β:=
 match T.get t with
 | some i=>K i
 | none=>none
def A7 (agg:Bool) (v:AV) (K:List AV→Option β):Option β:=
 match agg with
 | true=>ui v K
 | false=>af v (K [v])
def aV (v:AV) (K:AV→Option β):Option β:=
 match fit v with
 | .ok v'=>K v'
 | .error _=>none
def IG:List AV→(List AV→Option β)→Option β
 | [],K=>K []
 | v::l,K=>aV v fun v'=>IG l fun l'=>K (v'::l')
def GA (agg:Bool) (v:AV) (K:AV→Option β):Option β:=
 match agg with
 | true=>ui v fun cs=>xC cs (IG cs fun cs'=>K (.agg cs'))
 | false=>aV v K
def pU (agg:Bool):List AV→(List AV→Option β)→Option β
 | [],K=>K []
 | v::l,K=>GA agg v fun v'=>pU agg l fun l'=>K (v'::l')
def tf (z:Nat) (l:List AV):Bool:=l.all fun v=>v.cells.length.beq z
def MK (cs:List AV) (off:Nat) (new:List AV):List AV:=cF cs off new
def St.add (st:St) (o:Obj):St:=(st.new o).2
def q0:Fx:=⟨[],.kept⟩
abbrev Kv (β:Type):=AV→St→Fx→Option β
def aK {α:Type} (x:Option α) (K:α→Option β):Option β:=
 match x with
 | some a=>K a
 | none=>none
def kq {α:Type} (r:Sum α β) (f:α→Option β):Option β:=
 match r with
 | .inl a=>f a
 | .inr r=>some r
def CV (size:Nat) (agg:Bool) (a:AV) (st:St):Option (AV×List Nat):=
 match a with
 | .ip cells=>match cK size agg cells with
  | .ok v=>some (v,[])
  | .error _=>none
 | .mp id off=>match st.get id with
  | .ok (.cells _ cs)=>match cK size agg (cs.drop off) with
   | .ok v=>some (v,[id])
   | .error _=>none
  | _=>none
 | .gp k n off=>match st.get k with
  | .ok (.row m _ _ cs)=>match n.beq m with
   | true=>match cK size agg (cs.drop off) with
    | .ok v=>some (v,[k])
    | .error _=>none
   | false=>none
  | _=>none
 | _=>none
def aA (size:Nat) (agg:Bool) (a:AV) (st:St) (K:AV→List Nat→Option β):Option β:=aK (CV size agg a st) fun p=>K p.1 p.2
abbrev Out:=AV×St×Fx
def ja (st:St) (id:Nat) (o:Obj) (v:AV) (rd:List Nat):Option Out:=
 match st.ro.ble id with
 | true=>some (v,st.put id o,⟨rd,.wrote id o⟩)
 | false=>none
def uE (st:St) (o:Obj) (f:Nat→AV):Option Out:=some (f st.h,st.add o,⟨[],.made st.h o⟩)
def BM (O:qJ) (f:FuncId) (args:List AV) (st:St):Option Out:=
 match bz (args.map strip)&& !O.full f with
 | true=>match O.bare f (args.map strip) with
  | some v=>some (v,st,q0)
  | none=>none
 | false=>match O.isLook f with
  | true=>match O.look f (args.map strip) st with
   | some v=>some (v,st,⟨[],.looked⟩)
   | none=>none
  | false=>match O.wide f args st with
   | some p=>some (p.1,p.2,⟨[],.all st p.2⟩)
   | none=>none
def HQ (O:qJ) (k:Nat) (args:List AV) (st:St):Option Out:=
 match O.round k args st with
 | some p=>some (p.1,p.2,⟨[],.all st p.2⟩)
 | none=>none
def mw (O:qJ) (p:cV dH) (st:St):Option Out:=
 match p with
 | .ok (.val v)=>some (v,st,q0)
 | .ok (.obj id f)=>match st.get id with
  | .ok o=>match f o with
   | .ok (v,none)=>some (v,st,⟨[id],.kept⟩)
   | .ok (v,some o')=>ja st id o' v [id]
   | .error _=>none
  | .error _=>none
 | .ok (.both id k f)=>match st.get id with
  | .ok o=>match k o with
   | .ok none=>match f o none with
    | .ok v=>some (v,st,⟨[],.looked⟩)
    | .error _=>none
   | .ok (some j)=>match st.ro.ble j with
    | true=>match st.get j with
     | .ok o'=>match f o (some o') with
      | .ok v=>some (v,st,⟨[],.looked⟩)
      | .error _=>none
     | .error _=>none
    | false=>none
   | .error _=>none
  | .error _=>none
 | .ok (.new o f)=>uE st o f
 | .ok (.call f args)=>BM O f args st
 | .ok (.yield k args)=>HQ O k args st
 | .error _=>none
def lZ (x:Option Out) (K:Kv β):Option β:=aK x fun r=>K r.1 r.2.1 r.2.2
def made (st:St) (o:Obj) (f:Nat→AV) (K:Kv β):Option β:=lZ (uE st o f) K
def dF (O:qJ) (p:cV dH) (st:St) (K:Kv β):Option β:=lZ (mw O p st) K
def ak (O:qJ) (f:FuncId) (args:List AV) (st:St) (K:Kv β):Option β:=lZ (BM O f args st) K
def Av (O:qJ) (size:Nat) (a v:AV) (cs:List AV) (st:St):Option Out:=
 match a with
 | .mp id off=>match cs.length.beq size with
  | true=>match st.get id with
   | .ok (.cells t old)=>match (off+cs.length).ble old.length with
    | true=>ja st id (.cells t (MK old off cs)) undef [id]
    | false=>none
   | _=>none
  | false=>none
 | .gp k m off=>mw O (iU ⟨.other,size,0,[],false,false⟩ k m off v) st
 | _=>none
def JD (t:TypeId) (z:List AV) (nm:Nat) (st:St):Option Out:=
 match st.get nm with
 | .ok .xx=>ja st nm (.cells t z) (.mp nm 0) [nm]
 | _=>none
def Dk (t:TypeId) (z:List AV) (nm:Nat) (st:St) (K:Kv β):Option β:=lZ (JD t z nm st) K
def ao (O:qJ) (size:Nat) (a v:AV) (cs:List AV) (st:St) (K:Kv β):Option β:=lZ (Av O size a v cs st) K
def P7 (off:Nat) (a:AV):Option AV:=
 match a with
 | .ip cells=>some (.ip (cells.drop off))
 | .mp id o=>some (.mp id (o+off))
 | .gp k n o=>some (.gp k n (o+off))
 | _=>none
def ct (off:Nat) (a:AV) (K:AV→Option β):Option β:=aK (P7 off a) K
def kT (i:Int) (n:Nat) (K:Nat→Option β):Option β:=
 match i with
 | .ofNat k=>cQ (k.blt n) (K k)
 | .negSucc _=>none
def fJ (i:Int) (n:Nat) (K:Nat→Option β):Option β:=
 match i with
 | .ofNat k=>cQ (k.ble n) (K k)
 | .negSucc _=>none
def An:List AV→Nat→Option AV
 | [],_=>none
 | v:: _,0=>some v
 | _::l,n+1=>An l n
def kQ (i:Int) (n:Nat):Option Nat:=
 match i with
 | .ofNat k=>match k.blt n with
  | true=>some k
  | false=>none
 | .negSucc _=>none
def Bx (z:Nat) (x:AV) (i:Int) (st:St):Option (AV×List Nat):=
 match x with
 | .sl sz es _=>match sz.beq z with
  | true=>match kQ i es.length with
   | some k=>match An es k with
    | some v=>some (.ip v.cells,[])
    | none=>none
   | none=>none
  | false=>none
 | .ms id off sz len _=>match sz.beq z with
  | true=>match kQ i len with
   | some k=>some (.mp id (off+k * sz),[])
   | none=>none
  | false=>none
 | .gs k sz n=>match sz.beq z with
  | true=>match kQ i n with
   | some j=>match st.get k with
    | .ok (.grow m _ z' es)=>match n.beq m&&z'.beq sz with
     | true=>match j.blt es.length with
      | true=>match An es j with
       | some v=>some (.ip v.cells,[k])
       | none=>none
      | false=>some (.gp k n (j * sz),[k])
     | false=>none
    | .ok (.row m _ z' _)=>match n.beq m&&z'.beq sz with
     | true=>some (.gp k n (j * sz),[k])
     | false=>none
    | _=>none
   | none=>none
  | false=>none
 | _=>none
def bZ (z:Nat) (x:AV) (i:Int) (st:St) (K:AV→List Nat→Option β):Option β:=aK (Bx z x i st) fun p=>K p.1 p.2
def PW (z len:Nat) (x:AV) (i:Int) (K:AV→Option β):Option β:=
 kT i len fun k=>ct (k * z) x K
def fb (s:List UInt8) (i:Int) (K:UInt8→Option β):Option β:=
 kT i s.length fun k=>match s[k]? with
  | some b=>K b
  | none=>none
def RT (lo:Option Int) (h:Nat) (K:Nat→Option β):Option β:=
 match lo with
 | some l=>fJ l h K
 | none=>K 0
def SB (hi:Option Int) (m d:Nat) (K:Nat→Option β):Option β:=
 match hi with
 | some h=>fJ h m K
 | none=>K d
def tq (hi:Option Int) (m d:Nat):Option Nat:=
 match hi with
 | some h=>match h with
  | .ofNat k=>match k.ble m with
   | true=>some k
   | false=>none
  | .negSucc _=>none
 | none=>some d
def ou (z:Nat) (x:AV) (lo hi mx:Option Int):Option AV:=
 match x,mx with
 | .aq,mx=>match tq mx 0 0 with
  | some m=>match tq hi m 0 with
   | some h=>match tq lo h 0 with
    | some _=>some .aq
    | none=>none
   | none=>none
  | none=>none
 | .es,mx=>match tq mx 0 0 with
  | some m=>match tq hi m 0 with
   | some h=>match tq lo h 0 with
    | some _=>some .es
    | none=>none
   | none=>none
  | none=>none
 | .ms id off sz len cap,mx=>match sz.beq z with
  | true=>match tq mx cap cap with
   | some m=>match tq hi m len with
    | some h=>match tq lo h 0 with
     | some l=>match h.ble m with
      | true=>some (.ms id (off+l * sz) sz (h - l) (m - l))
      | false=>none
     | none=>none
    | none=>none
   | none=>none
  | false=>none
 | .sl sz es p,none=>match sz.beq z with
  | true=>match tq hi es.length es.length with
   | some h=>match tq lo h 0 with
    | some l=>match h.beq es.length,p with
     | true,.shut=>some (.sl sz (es.drop l) .shut)
     | true,.own k=>match l.beq 0 with
      | true=>some (.sl sz es (.own k))
      | false=>some (.sl sz (es.drop l) .wide)
     | _,_=>some (.sl sz ((es.take h).drop l) .wide)
    | none=>none
   | none=>none
  | false=>none
 | .sl sz es _,some m=>match sz.beq z with
  | true=>match tq (some m) es.length 0 with
   | some m=>match tq hi m m with
    | some h=>match tq lo h 0 with
     | some l=>some (.sl sz ((es.take h).drop l) (match m.beq h with | true=> .shut | false=> .wide))
     | none=>none
    | none=>none
   | none=>none
  | false=>none
 | _,_=>none
def fO (z:Nat) (x:AV) (lo hi mx:Option Int) (K:AV→Option β):Option β:=aK (ou z x lo hi mx) K
def QJ (x:AV):Option Nat:=
 match x with
 | .aq=>some 0
 | .sl _ e _=>some e.length
 | .ms _ _ _ len _=>some len
 | .gs _ _ n=>some n
 | .es=>some 0
 | _=>none
def fC (x:AV) (K:Nat→Option β):Option β:=aK (QJ x) K
def lT (x:AV) (K:List AV→Option β):Option β:=
 match oF x with
 | some l=>K l
 | none=>none
def tU (z b:Nat) (e:TypeId) (s:AV) (new:List AV) (st:St):Option Out:=
 match new with
 | []=>match s with
  | .aq=>some (.aq,st,q0)
  | .sl z es p=>some (.sl z es p,st,q0)
  | .es=>some (.es,st,q0)
  | _=>none
 | _:: _=>match s with
  | .aq=>match cO new.length ⟨.other,z,b,[],false,false⟩ with
   | true=>uE st (.tok new.length e) fun k=> .sl z new (.own k)
   | false=>none
  | .sl y es p=>match cO (es.length+new.length) ⟨.other,z,b,[],false,false⟩&&y.beq z with
   | true=>match p with
    | .shut=>uE st (.tok (es.length+new.length) e) fun k=> .sl y (es++new) (.own k)
    | .own k=>match st.get k with
     | .ok (.tok n e')=>match n.beq es.length&&e'.beq e with
      | true=>ja st k (.tok (es.length+new.length) e) (.sl y (es++new) (.own k)) [k]
      | false=>none
     | _=>none
    | .wide=>none
   | false=>none
  | .es=>match cO new.length ⟨.other,z,b,[],false,false⟩ with
   | true=>uE st (.tok new.length e) fun k=> .sl z new (.own k)
   | false=>none
  | _=>none
def gf (z b:Nat) (e:TypeId) (s:AV) (new:List AV) (st:St) (K:Kv β):Option β:=lZ (tU z b e s new st) K
def PQ (u:U) (x y:AV):Option Bool:=
 match u,x,y with
 | .ptr _,.nilp,.nilp=>some true
 | .ptr _,.nilp,.ip _=>some false
 | .ptr _,.ip _,.nilp=>some false
 | .ptr _,.nilp,.mp .. =>some false
 | .ptr _,.mp ..,.nilp=>some false
 | .slice _,.aq,.aq=>some true
 | .slice _,.aq,.sl .. =>some false
 | .slice _,.sl ..,.aq=>some false
 | .slice _,.aq,.ms .. =>some false
 | .slice _,.ms ..,.aq=>some false
 | .slice _,.aq,.es=>some false
 | .slice _,.es,.aq=>some false
 | .map ..,.nilm,.nilm=>some true
 | .map ..,.nilm,.mm _=>some false
 | .map ..,.mm _,.nilm=>some false
 | .func,.nilfn,.nilfn=>some true
 | .func,.nilfn,.fn .. =>some false
 | .func,.fn ..,.nilfn=>some false
 | _,_,_=>none
def Jj (u:U) (x y:AV) (K:Bool→Option β):Option β:=aK (PQ u x y) K
def notNil:AV→Bool
 | .ip _=>true
 | .mp .. =>true
 | .gp .. =>true
 | .fn (.func _) _ _=>true
 | _=>false
def Io (x:AV) (K:Option β):Option β:=cQ (notNil x) K
def gZ (prim:FuncId→Option Prim) (f:AV) (args:List AV):cV dH:=
 match f with
 | .fn (.func g) first cap=>match prim g with
  | some q=>fu q (first++args++cap)
  | none=> .ok (.call g (first++args++cap))
 | .yld k=> .ok (.yield k args)
 | _=> .error "call: what?"
def jR (O:qJ) (prim:FuncId→Option Prim) (f:AV) (args:List AV) (st:St) (K:Kv β):Option β:=lZ (mw O (gZ prim f args) st) K
def zS (place:Nat→Option (Nat×Nat)) (cells:List AV):List (Nat×List AV)→(List AV→Option β)→Option β
 | [],K=>K cells
 | (i,cs)::l,K=>
  match place i with
  | none=>none
  | some (off,size)=>cQ (cs.length.beq size&&(off+size).ble cells.length) (zS place (cF cells off cs) l K)
abbrev PF:=List (Nat×AV)
def PF.get:PF→Nat→Option AV
 | [],_=>none
 | (i,v)::l,j=>match i.beq j with
  | true=>some v
  | false=>PF.get l j
def ev (G:Nat→Option (List AV)) (p:PF) (x:Operand) (K:AV→Option β):Option β:=
 match x with
 | .tmp t=>match PF.get p t with
  | some v=>K v
  | none=>none
 | .const v=>match ofConst v with
  | .ok v=>K v
  | .error _=>none
 | .global g=>match G g with
  | some cs=>K (.ip cs)
  | none=>none
 | .func g=>K (.fn (.func g) [] [])
def Qr (G:Nat→Option (List AV)) (p:PF):List Operand→(List AV→Option β)→Option β
 | [],K=>K []
 | x::l,K=>ev G p x fun v=>Qr G p l fun vs=>K (v::vs)
def Q5 (G:Nat→Option (List AV)) (p:PF) (x:Option Operand) (K:Option Int→Option β):Option β:=
 match x with
 | none=>K none
 | some x=>ev G p x fun v=>anyI v fun n=>K (some n)
def O6 (T:TT) (G:Nat→Option (List AV)) (p:PF) (ty:Nat→Option TypeId):List (Nat×Operand)→(List (Nat×List AV)→Option β)→Option β
 | [],K=>K []
 | (i,x)::l,K=>match ty i with
  | none=>none
  | some t=>tb T t fun ti=>ev G p x fun v=>A7 ti.agg v fun cs=>O6 T G p ty l fun r=>K ((i,cs)::r)
def Ej (T:TT):List (Nat×TypeId)→(List (Nat×Nat)→Option β)→Option β
 | [],K=>K []
 | (o,t)::l,K=>tb T t fun i=>Ej T l fun r=>K ((o,i.size)::r)
def lj:U→Bool
 | .ptr _=>true
 | .slice _=>true
 | .map .. =>true
 | .func=>true
 | _=>false
def FW (op:BinOp) (a:AV):Option AV:=K5 op a
def Qh (T:TT) (op:BinOp) (t:TypeId) (x y:AV) (K:AV→Option β):Option β:=
 tb T t fun i=>match lj i.und,op with
  | true,.eql=>Jj i.und x y fun b=>K (.bool b)
  | true,.neq=>Jj i.und x y fun b=>K (.bool !b)
  | _,_=>match op,i.und with
   | .add,.str=>fY x fun a=>fY y fun b=>cQ ((a.length+b.length).ble 9223372036854775807) (K (.str (a++b)))
   | .quo,.int k=>bV k x fun a=>bV k y fun b=>cQ (!(decide (b=0))) (K (.int k (k.wrap (a.tdiv b))))
   | .rem,.int k=>bV k x fun a=>bV k y fun b=>cQ (!(decide (b=0))) (K (.int k (a.tmod b)))
   | .shl,.int k=>bV k x fun a=>anyI y fun b=>cQ (!(decide (b < 0))) (K (.int k (k.wrap (a * 2 ^ (min b.toNat k.bits)))))
   | .shr,.int k=>bV k x fun a=>anyI y fun b=>cQ (!(decide (b < 0))) (K (.int k (a.fdiv (2 ^ (min b.toNat k.bits)))))
   | _,_=>aK (Ji (binOp T op t x y)) K
def Kc (S:Sx) (o:Op) (p:PF) (st:St) (K:Kv β):Option β:=
 match o with
 | .move x | .assign x=>ev S.G p x fun v=>K v st q0
 | .pick c a b=>ev S.G p c fun c=>du c fun c=>bI c (ev S.G p a fun v=>K v st q0) (ev S.G p b fun v=>K v st q0)
 | .alloc t=>tb S.T t fun i=>made st (.cells t i.zero) (fun k=> .mp k 0) K
 | .box t x=>tb S.T t fun i=>ev S.G p x fun v=>A7 i.agg v fun cs=>cQ (cs.length.beq i.size) (xC cs (match S.imm t with
  | true=>IG cs fun cs'=>K (.ip cs') st q0
  | false=>made st (.cells t cs) (fun k=> .mp k 0) K))
 | .build t parts=>tb S.T t fun i=>match i.und with
  | .struct fs=>O6 S.T S.G p (fun k=>(fs[k]?).map (·.2)) parts.toList fun ps=>Ej S.T fs fun sz=>zS (fun k=>sz[k]?) i.zero ps fun cs=>K (.agg cs) st q0
  | .arr _ e=>O6 S.T S.G p (fun _=>some e) parts.toList fun ps=>tb S.T e fun ie=>zS (fun k=>some (k * ie.size,ie.size)) i.zero ps fun cs=>K (.agg cs) st q0
  | _=>none
 | .buildSlice t len parts=>tb S.T t fun i=>match i.und with
  | .slice e=>tb S.T e fun ie=>O6 S.T S.G p (fun _=>some e) parts.toList fun ps=>cQ ((len * ie.size).ble 16777216&&Nat.ble 1 ie.size) (zS (fun k=>some (k * ie.size,ie.size)) (zeros ie.zero len) ps fun cs=>xC cs (match group ie.size ie.agg len cs with
   | .ok vs=>pU ie.agg vs fun vs'=>K (.sl ie.size vs' .shut) st q0
   | .error _=>none))
  | _=>none
 | .makeSlice t l c=>ev S.G p l fun l=>ev S.G p c fun c=>dF S.O (oE S.T t l c) st K
 | .load t a=>tb S.T t fun i=>ev S.G p a fun a=>aA i.size i.agg a st fun v rd=>K v st ⟨rd,.kept⟩
 | .store t a x=>tb S.T t fun i=>ev S.G p a fun a=>ev S.G p x fun v=>A7 i.agg v fun cs=>xC cs (ao S.O i.size a v cs st K)
 | .nilCheck x=>ev S.G p x fun v=>Io v (K v st q0)
 | .binOp op t x y _=>ev S.G p x fun a=>ev S.G p y fun b=>match Ni y b&&Hu S.T t with
  | true=>aK (FW op a) fun v=>K v st q0
  | false=>Qh S.T op t a b fun v=>K v st q0
 | .unOp op _ x=>ev S.G p x fun x=>aK (Ji (unOp op x)) fun v=>K v st q0
 | .convert s d x=>ev S.G p x fun x=>dF S.O (sF S.T s d x) st K
 | .makeInterface t x=>tb S.T t fun i=>match i.und with
  | .iface _ | .other=>none
  | _=>ev S.G p x fun v=>K (.iface t v) st q0
 | .makeFunc f first cap=>Qr S.G p first.toList fun a=>Qr S.G p cap.toList fun c=>K (.fn f a c) st q0
 | .makeMap _ none=>made st (.map []) (fun k=> .mm k) K
 | .slice t x lo hi mx=>match mx,hi with
  | some _,none=>none
  | _,_=>tb S.T t fun i=>ev S.G p x fun x=>Q5 S.G p lo fun lo=>Q5 S.G p hi fun hi=>Q5 S.G p mx fun mx=>match i.und with
   | .str=>fY x fun s=>match mx with
    | none=>SB hi s.length s.length fun h=>RT lo h fun l=>K (.str ((s.take h).drop l)) st q0
    | some _=>none
   | .slice e=>tb S.T e fun ie=>fO ie.size x lo hi mx fun v=>K v st q0
   | _=>none
 | .fieldAddr t x f=>tb S.T t fun i=>match i.und with
  | .struct fs=>match fs[f]? with
   | some (off,ft)=>tb S.T ft fun fi=>match fi.size with
    | 0=>none
    | _+1=>ev S.G p x fun a=>ct off a fun a'=>K a' st q0
   | none=>none
  | _=>none
 | .field t x f=>ev S.G p x fun x=>aK (Ji (field S.T t x f)) fun v=>K v st q0
 | .indexAddr t x i=>tb S.T t fun ti=>ev S.G p x fun x=>ev S.G p i fun i=>anyI i fun i=>match ti.und with
  | .slice e=>tb S.T e fun ie=>bZ ie.size x i st fun a rd=>K a st ⟨rd,.kept⟩
  | .arr len e=>tb S.T e fun ie=>PW ie.size len x i fun a=>K a st q0
  | _=>none
 | .index t x i=>tb S.T t fun ti=>ev S.G p x fun x=>ev S.G p i fun i=>match ti.und with
  | .str=>fY x fun s=>anyI i fun i=>fb s i fun b=>K (.int .u8 b.toNat) st q0
  | _=>aK (Ji (wK S.T t x i)) fun v=>K v st q0
 | .lookup t x k ok=>ev S.G p x fun x=>ev S.G p k fun k=>dF S.O (iO S.T t x k ok) st K
 | .mapUpdate t m k v | .insert t m k v=>ev S.G p m fun m=>ev S.G p k fun k=>ev S.G p v fun v=>dF S.O (nW S.T t m k v) st K
 | .range t x=>ev S.G p x fun x=>tb S.T t fun i=>match i.und with
  | .str=>fY x fun s=>made st (.sit s 0) (fun k=> .mp k 0) K
  | _=>none
 | .next x true=>ev S.G p x fun x=>dF S.O (yP x) st K
 | .extract x i=>ev S.G p x fun x=>iy x fun vs=>da vs i fun v=>K v st q0
 | .call c=>Qr S.G p c.args.toList fun args=>match c.callee with
  | .builtin b=>match b,c.argTypes.toList,args with
   | .len,t:: _,[x]=>tb S.T t fun i=>match i.und with
    | .str=>fY x fun s=>K (.int .i64 s.length) st q0
    | .slice _=>fC x fun n=>K (.int .i64 n) st q0
    | _=>dF S.O (yf S.T t x) st K
   | .append,[t,xt],[s,x]=>tb S.T t fun i=>tb S.T xt fun xi=>match i.und,DF xi.und with
    | .slice e,true=>tb S.T e fun ie=>lT x fun new=>match S.imm (1000000+t) with
     | true=>dF S.O (gP ie e s new) st K
     | false=>match S.imm (2000000+t) with
     | true=>dF S.O (qj ie e s new) st K
     | false=>match S.imm (3000000+t) with
     | true=>dF S.O (nT ie e s new) st K
     | false=>pU ie.agg new fun new'=>cQ (tf ie.size new') (gf ie.size ie.bytes e s new' st K)
    | _,_=>none
   | b,ts,args=>dF S.O (eV S.T S.imm b ts args) st K
  | .value f=>ev S.G p f fun f=>jR S.O S.prim f args st K
  | .invoke .. =>none
 | _=>none
def AE (all:List Oper) (p:PF) (g:Option (Nat×Bool)) (yes no:PF→Option β):Option β:=
 match g with
 | none=>yes p
 | some (j,want)=>match (all[j]?).bind (·.dst) with
  | some d=>match PF.get p d with
   | some v=>match v with
    | .bool b=>match want with
     | true=>bI b (yes ((d,.bool true)::p)) (no ((d,.bool false)::p))
     | false=>bI b (no ((d,.bool true)::p)) (yes ((d,.bool false)::p))
    | _=>no p
   | none=>none
  | none=>none
def vY (N:Nat) (d:Option Tmp) (v:AV) (p:PF) (K:PF→Option β):Option β:=
 match d with
 | none=>K p
 | some d=>match d.blt N with
  | true=>K ((d,v)::p)
  | false=>none
def oj (ops:List Oper) (j:Nat) (x:Fx):List (Nat×Fx)→Bool
 | []=>true
 | (i,y)::l=>(behind ops (j+1) j i||apart y x)&&oj ops j x l
def A6 (S:Sx) (N:Nat) (all:List Oper) (draw:Bool):(j:Nat)→(seen:List (Nat×Fx))→List Oper→PF→St→(PF→St→Option β)→Option β
 | _,_,[],p,st,K=>K p st
 | j,seen,o::l,p,st,K=>AE all p o.guard
  (fun p=>Kc S o.op p st fun v st' x=>B2 (AL o.op) S.T o.type v fun v=>match draw with
   | false=>vY N o.dst v p fun p=>A6 S N all draw (j+1) seen l p st' K
   | true=>cQ (oj all j x seen) (vY N o.dst v p fun p=>A6 S N all draw (j+1) ((j,x)::seen) l p st' K))
  (fun p=>vY N o.dst undef p fun p=>A6 S N all draw (j+1) seen l p st K)
def PB (S:Sx) (e:Nat→Option Nat) (o:Oper) (p:PF) (st:St) (K:Kv β):Option β:=
 match qE e o with
 | some (t,nm)=>tb S.T t fun i=>Dk t i.zero nm st K
 | none=>Kc S o.op p st K
def rv (S:Sx) (N:Nat) (e:Nat→Option Nat) (all:List Oper):(j:Nat)→(seen:List (Nat×Fx))→List Oper→PF→St→(PF→St→Option β)→Option β
 | _,_,[],p,st,K=>K p st
 | j,seen,o::l,p,st,K=>AE all p o.guard
  (fun p=>PB S e o p st fun v st' x=>B2 (AL o.op) S.T o.type v fun v=>
   cQ (oj all j x seen) (vY N o.dst v p fun p=>rv S N e all (j+1) ((j,x)::seen) l p st' K))
  (fun p=>vY N o.dst undef p fun p=>rv S N e all (j+1) seen l p st K)
def MJ (st:St):List Nat→(St→Option β)→Option β
 | [],K=>K st
 | _::l,K=>bP (st.add .xx) fun st=>MJ st l K
end
def my {σ β:Type} (F:σ→Option (Sum σ β)):Nat→σ→Option β
 | 0,_=>none
 | n+1,s=>match F s with
  | some (.inl s')=>my F n s'
  | some (.inr r)=>some r
  | none=>none
open Classical in
noncomputable def bu {σ β:Type} (F:σ→Option (Sum σ β)) (s:σ):Option β:=
 if h: ∃r n,my F n s=some r then some h.choose else none
structure Lv where
 falls:Bool
 outs:List Nat
 rets:Bool
def leaves:Code→Lv
 | .skip=>⟨true,[],false⟩
 | .label _=>⟨true,[],false⟩
 | .region .. =>⟨true,[],false⟩
 | .seq a b=>let x:=leaves a;let y:=leaves b
  match x.falls with
  | true=>⟨y.falls,x.outs++y.outs,x.rets||y.rets⟩
  | false=>x
 | .cond _ a b=>let x:=leaves a;let y:=leaves b;⟨x.falls||y.falls,x.outs++y.outs,x.rets||y.rets⟩
 | .block id c=>let x:=leaves c;⟨x.falls||qV id x.outs,x.outs.filter fun i=> !i.beq id,x.rets⟩
 | .loop c=>let x:=leaves c;⟨false,x.outs.eraseDups,x.rets⟩
 | .scope c=>leaves c
 | .rangeFunc _ _ _ c=>let x:=leaves c;⟨true,x.outs.eraseDups,x.rets⟩
 | .exit i=>⟨false,[i],false⟩
 | .ret=>⟨false,[],true⟩
 | _=>⟨false,[],false⟩
def Dj (n:Nat):List Nat→Nat
 | []=>0
 | m::l=>match n.beq m with
  | true=>Dj n l+1
  | false=>Dj n l
section
variable {β:Type}
def iW (p:PF):List Nat→List Nat
 | []=>[]
 | i::l=>match PF.get p i with
  | some _=>i::iW p l
  | none=>iW p l
def ry (live:List Nat):List Nat→List Nat
 | []=>[]
 | i::l=>match qV i live with
  | true=>i::ry live l
  | false=>ry live l
def getAll (p:PF):List Nat→(List AV→Option β)→Option β
 | [],K=>K []
 | i::l,K=>match PF.get p i with
  | some v=>getAll p l fun vs=>K (v::vs)
  | none=>none
def erase (ws:List Nat):PF→PF
 | []=>[]
 | (i,v)::l=>match qV i ws with
  | true=>erase ws l
  | false=>(i,v)::erase ws l
def Jn:List (Nat×TypeId)→Nat→Option TypeId
 | [],_=>none
 | (i,t)::l,j=>match i.beq j with
  | true=>some t
  | false=>Jn l j
def ES (T:TT) (tys:List (Nat×TypeId)) (i:Nat) (v:AV) (K:AV→Option β):Option β:=
 match Jn tys i with
 | some t=>B2 false T t v K
 | none=>K v
def gR (T:TT) (tys:List (Nat×TypeId)):List Nat→List AV→PF→(PF→Option β)→Option β
 | [],vs,p,K=>cT vs (K p)
 | i::l,vs,p,K=>bK vs fun v vs=>ES T tys i v fun v=>gR T tys l vs p fun p=>K ((i,v)::p)
def zB:Ex→List Ex→Nat→Option Nat
 | _,[],_=>none
 | x,y::l,n=>match decide (x=y) with
  | true=>some n
  | false=>zB x l (n+1)
def sH (n:Nat) (a:Option β) (b:Nat→Option β):Option β:=
 match n with
 | 0=>a
 | n+1=>b n
def NF (K:Ex→Option β):List Ex→Nat→Option β
 | [],_=>none
 | x::l,n=>match l with
  | []=>K x
  | _:: _=>sH n (K x) fun n=>NF K l n
def tm:List Oper→Bool
 | []=>false
 | o::l=>match o.guard with
  | some _=>true
  | none=>tm l
end
def HS {β:Type} (j x:Ex) (A B:Option β):Option β:=bI (decide (j=x)) A B
def Bf {β:Type} (j:Ex) (K:Ex→Option β):List Ex→Option β
 | []=>none
 | x::l=>HS j x (K x) (Bf j K l)
def QK {β:Type} (k:Nat) (st:St) (K:Ex→St→Option β):Option β:=
 match st.get k with
 | .ok (.loop _ _ _ _ _ s p)=>cQ (s.beq 0||s.beq 2) (K p (st.put k .dead))
 | _=>none
def Ib {β:Type} (O:qJ) (f:AV) (lp:Obj) (st:St) (K:Ex→St→Option β):Option β:=
 match f with
 | .fn (.func g) [] cap=>aK (O.wide g (.yld st.h::cap) (st.add lp)) fun r=>QK st.h r.2 K
 | _=>none
abbrev dK:=List AV×St
noncomputable def kR (S:Sx) (N:Nat) (tys:List (Nat×TypeId)):Code→(live:List Nat)→{β:Type}→PF→St→(Ex→PF→St→Option β)→Option β
 | .skip,_,_,p,st,K=>K .normal p st
 | .label _,_,_,p,st,K=>K .normal p st
 | .exit i,_,_,p,st,K=>K (.exit i) p st
 | .ret,_,_,p,st,K=>K .ret p st
 | .scope c,live,_,p,st,K=>kR S N tys c live p st K
 | .region _ ops draw,live,_,p,st,K=>
  match draw&&S.imm 4000000 with
  | false=>
   match tm ops.toList with
   | false=>A6 S N ops.toList draw 0 [] ops.toList p st fun p st=>K .normal p st
   | true=>let ws:=dedup (ry live (cN ops.toList))
    aK (A6 (β:=dK) S N ops.toList draw 0 [] ops.toList p st fun p st=>getAll p ws fun vs=>some (vs,st)) fun c=>
     gR S.T tys ws c.1 (erase (cN ops.toList) p) fun p=>K .normal p c.2
  | true=>MJ st (oy ops.toList) fun st'=>
   match tm ops.toList with
   | false=>rv S N (zO st.h (oy ops.toList)) ops.toList 0 [] ops.toList p st' fun p st=>K .normal p st
   | true=>let ws:=dedup (ry live (cN ops.toList))
    aK (rv (β:=dK) S N (zO st.h (oy ops.toList)) ops.toList 0 [] ops.toList p st' fun p st=>getAll p ws fun vs=>some (vs,st)) fun c=>
     gR S.T tys ws c.1 (erase (cN ops.toList) p) fun p=>K .normal p c.2
 | .seq a b,live,_,p,st,K=>kR S N tys a (vc b++live) p st fun ex p st=>match ex with
  | .normal=>kR S N tys b live p st K
  | ex=>K ex p st
 | .cond c a b,live,_,p,st,K=>ev S.G p c fun c=>du c fun c=>
  let x:=leaves a;let y:=leaves b
  match x.falls&&y.falls with
  | false=>bI c (kR S N tys a live p st K) (kR S N tys b live p st K)
  | true=>
   let W:=writes a++writes b
   let ws:=dedup (iW p (ry live W))
   match (x.outs.isEmpty&&y.outs.isEmpty)&& !(x.rets||y.rets) with
   | true=>
    let J:Ex→PF→St→Option dK:=fun ex p st=>match ex with
     | .normal=>getAll p ws fun vs=>some (vs,st)
     | _=>none
    aK (bI c (kR S N tys a live p st J) (kR S N tys b live p st J)) fun c=>
     gR S.T tys ws c.1 (erase W p) fun p=>K .normal p c.2
   | false=>
    let J:Ex→PF→St→Option (Sum dK _):=fun ex p st=>match ex with
     | .normal=>getAll p ws fun vs=>some (.inl (vs,st))
     | ex=>aK (K ex p st) fun r=>some (.inr r)
    aK (bI c (kR S N tys a live p st J) (kR S N tys b live p st J)) fun r=>kq r fun c=>gR S.T tys ws c.1 (erase W p) fun p=>K .normal p c.2
 | .block id c,live,_,p,st,K=>
  let x:=leaves c
  match ((match x.falls with | true=>1 | false=>0)+Dj id x.outs).ble 1 with
  | true=>kR S N tys c live p st fun ex p st=>match ex with
   | .exit i=>match i.beq id with
    | true=>K .normal p st
    | false=>K (.exit i) p st
   | ex=>K ex p st
  | false=>
   let W:=writes c
   let ws:=dedup (iW p (ry live W))
   let J:Ex→PF→St→Option (Sum dK _):=fun ex p st=>match ex with
    | .normal=>getAll p ws fun vs=>some (.inl (vs,st))
    | .exit i=>match i.beq id with
     | true=>getAll p ws fun vs=>some (.inl (vs,st))
     | false=>aK (K (.exit i) p st) fun r=>some (.inr r)
    | .ret=>aK (K .ret p st) fun r=>some (.inr r)
   aK (kR S N tys c live p st J) fun r=>kq r fun c=>gR S.T tys ws c.1 (erase W p) fun p=>K .normal p c.2
 | .loop c,live,_,p,st,K=>
  let W:=writes c
  let ws:=dedup (iW p W)
  let us:=ry live ws
  let x:=leaves c
  let es:List Ex:=x.outs.eraseDups.map .exit++(match x.rets with | true=>[.ret] | false=>[])
  getAll p ws fun vs=>aK (bu (fun s:dK=>gR S.T tys ws s.1 (erase W p) fun p=>kR (β:=Sum dK (Nat×dK)) S N tys c (ws++live) p s.2 fun ex p st=>match ex with
    | .normal=>getAll p ws fun vs=>some (.inl (vs,st))
    | ex=>aK (zB ex es 0) fun k=>getAll p us fun vs=>some (.inr (k,vs,st))) (vs,st)) fun r=>
   gR S.T tys us r.2.1 (erase W p) fun p=>NF (fun ex=>K ex p r.2.2) es r.1
 | .rangeFunc g ps a c,_,_,p,st,K=>
  let us:=nO ps.toList a c
  let x:=leaves c
  let es:List Ex:= .normal::(x.outs.eraseDups.map .exit++(match x.rets with | true=>[.ret] | false=>[]))
  ev S.G p g fun f=>getAll p us fun vs=>Ib S.O f (.loop S.imm ps.toList a c (GP N us vs) 0 .normal) st fun j st'=>Bf j (fun ex=>K ex p st') es
 | _,_,_,_,_,_=>none
section
variable {β:Type}
def Ku (S:Sx) (p:PF) (st:St) (r:ResultVar) (K:AV→Option β):Option β:=
 match r with
 | .tmp t=>match PF.get p t with
  | some v=>K v
  | none=>none
 | .cell a t=>tb S.T t fun i=>match PF.get p a with
  | some a=>aA i.size i.agg a st fun v _=>B2 false S.T t v K
  | none=>none
def Fc (S:Sx) (p:PF) (st:St):List ResultVar→(List AV→Option β)→Option β
 | [],K=>K []
 | r::l,K=>Ku S p st r fun v=>Fc S p st l fun vs=>K (v::vs)
def Al:List ResultVar→List Nat
 | []=>[]
 | .tmp t::l=>t::Al l
 | .cell a _::l=>a::Al l
def jM:Code→List (Nat×TypeId)
 | .region _ ops _=>go ops.toList
 | .seq a b=>jM a++jM b
 | .cond _ a b=>jM a++jM b
 | .block _ c=>jM c
 | .loop c=>jM c
 | .scope c=>jM c
 | .rangeFunc _ _ a c=>jM a++jM c
 | _=>[]
 where
 go:List Oper→List (Nat×TypeId)
  | []=>[]
  | o::l=>match o.dst with
   | some d=>(d,o.type)::go l
   | none=>go l
def Bu:Nat→List TypeId→List (Nat×TypeId)
 | _,[]=>[]
 | i,t::l=>(i,t)::Bu (i+1) l
def Cs (T:TT):Nat→List TypeId→List AV→PF→(PF→Option β)→Option β
 | _,_,[],p,K=>K p
 | i,ts,v::vs,p,K=>match ts with
  | []=>Cs T (i+1) [] vs ((i,v)::p) K
  | t::ts=>B2 false T t v fun v=>Cs T (i+1) ts vs ((i,v)::p) K
noncomputable def E7 (S:Sx) (fn:Func) (args:List AV) (st:St) (K:AV→St→Option β):Option β:=
 match fn.body with
 | none=>none
 | some c=>match args.length.ble fn.ntmps with
  | false=>none
  | true=>Cs S.T 0 fn.params.toList args [] fun p=>kR S fn.ntmps (Bu 0 fn.params.toList++jM c) c (Al fn.results.toList) p st fun ex p st=>match ex with
   | .exit _=>none
   | _=>Fc S p st fn.results.toList fun vs=>K (oneOf vs) st
def iL (st:St) (base:Nat) (v:AV) (K:AV→Option β):Option β:=
 match freeze st base 100 v with
 | .ok v=>cQ (bare v) (K v)
 | .error _=>none
end
def jr (P:Nat→Prop):Prop:= ∃m,∀n,m≤n→P n
theorem jr.always {P:Nat→Prop} (h: ∀n,P n):jr P:=⟨0,fun n _=>h n⟩
theorem jr.lift {P Q:Nat→Prop} (h:jr P) (k: ∀n,P n→Q n):jr Q:=by
 obtain ⟨m,h⟩:=h
 exact ⟨m,fun n hn=>k n (h n hn)⟩
theorem jr.both {P Q:Nat→Prop} (h:jr P) (k:jr Q):jr fun n=>P n∧Q n:=by
 obtain ⟨m,h⟩:=h
 obtain ⟨m',k⟩:=k
 exact ⟨max m m',fun n hn=>⟨h n (by omega),k n (by omega)⟩⟩
section
variable {β:Type} {r:β}
theorem sW {α:Type} {x:cV α} {a:α} (h:Ji x=some a):x= .ok a:=by
 cases x <;> simp_all [Ji]
theorem bx {α:Type} {x:Option α} {K:α→Option β} (h:aK x K=some r): ∃a,x=some a∧K a=some r:=by
 cases x with
 | none=>simp [aK] at h
 | some a=>exact ⟨a,rfl,h⟩
theorem lM {k:IntKind} {v:AV} {K:Int→Option β} (h:bV k v K=some r): ∃n,v= .int k n∧K n=some r:=by
 unfold bV at h
 split at h
 ·rename_i j n
  split at h
  ·rename_i e
   have e:=of_decide_eq_true e
   subst e
   exact ⟨n,rfl,h⟩
  ·cases h
 ·cases h
theorem xY {v:AV} {K:Bool→Option β} (h:du v K=some r): ∃b,v= .bool b∧K b=some r:=by
 unfold du at h
 split at h
 ·exact ⟨_,rfl,h⟩
 ·cases h
theorem lC {v:AV} {K:List UInt8→Option β} (h:fY v K=some r): ∃b,v= .str b∧K b=some r:=by
 unfold fY at h
 split at h
 ·exact ⟨_,rfl,h⟩
 ·cases h
theorem nD {v:AV} {K:Int→Option β} (h:anyI v K=some r): ∃k n,v= .int k n∧K n=some r:=by
 unfold anyI at h
 split at h
 ·exact ⟨_,_,rfl,h⟩
 ·cases h
theorem xg {v:AV} {K:List AV→Option β} (h:ui v K=some r): ∃cs,v= .agg cs∧K cs=some r:=by
 unfold ui at h
 split at h
 ·exact ⟨_,rfl,h⟩
 ·cases h
theorem HG {v:AV} {K:List AV→Option β} (h:iy v K=some r): ∃cs,v= .tup cs∧K cs=some r:=by
 unfold iy at h
 split at h
 ·exact ⟨_,rfl,h⟩
 ·cases h
theorem BO {l:List AV} {K:AV→List AV→Option β} (h:bK l K=some r): ∃v vs,l=v::vs∧K v vs=some r:=by
 unfold bK at h
 split at h
 ·exact ⟨_,_,rfl,h⟩
 ·cases h
theorem CP {l:List AV} {K:Option β} (h:cT l K=some r):l=[]∧K=some r:=by
 unfold cT at h
 split at h
 ·exact ⟨rfl,h⟩
 ·cases h
theorem dX {b:Bool} {K:Option β} (h:cQ b K=some r):b=true∧K=some r:=by
 cases b
 ·cases h
 ·exact ⟨rfl,h⟩
theorem G9 {cs:List AV} {off:Nat} {K:AV→Option β} (h:da cs off K=some r): ∃v,cs[off]? =some v∧K v=some r:=by
 unfold da at h
 split at h
 ·exact ⟨_,by assumption,h⟩
 ·cases h
theorem C7: ∀{cs:List AV} {off:Nat} {v:AV},cs[off]? =some v→eL cs off= .ok v
 | [],_,_,h=>by simp at h
 | _:: _,0,_,h=>by simp at h;simp [eL,h]
 | _::l,n+1,_,h=>by simp at h;simp only [eL];exact C7 h
theorem yZ {b:Bool} {z v:AV} {K:AV→Option β} (h:KE b z v K=some r):K v=some r:=by
 unfold KE at h
 split at h
 ·obtain ⟨n,rfl,h'⟩:=lM h
  cases b <;> exact h'
 ·obtain ⟨n,rfl,h'⟩:=xY h;exact h'
 ·obtain ⟨n,rfl,h'⟩:=lC h
  cases b <;> exact h'
 ·exact h
theorem zG: ∀{zs cs:List AV} {K:List AV→Option β},Kw zs cs K=some r→K cs=some r
 | [],cs,K,h=>by
  obtain ⟨rfl,h⟩:=CP h
  exact h
 | z::zs,cs,K,h=>by
  obtain ⟨v,l,rfl,hd⟩:=BO h
  exact zG (K:=fun l'=>K (v::l')) (yZ (K:=fun v'=>Kw zs l fun l'=>K (v'::l')) hd)
theorem jn {b:Bool} {T:TT} {t:TypeId} {v:AV} {K:AV→Option β} (h:B2 b T t v K=some r):K v=some r:=by
 unfold B2 at h
 split at h
 ·split at h
  ·split at h
   ·obtain ⟨cs,rfl,h⟩:=xg h
    exact zG (K:=fun cs'=>K (.agg cs')) h
   ·exact h
  ·split at h
   ·exact yZ h
   ·exact h
 ·exact h
theorem cw {T:TT} {t:TypeId} {K:TI→Option β} (h:tb T t K=some r): ∃i,ti T t= .ok i∧K i=some r:=by
 unfold tb at h
 split at h
 ·rename_i i e;exact ⟨i,ck.2 e,h⟩
 ·cases h
theorem GC {v:AV} (h:one v=true):v.cells=[v]:=by
 cases v <;> first | rfl | (cases h;done)
theorem pB {agg:Bool} {v:AV} {K:List AV→Option β} (h:A7 agg v K=some r):K v.cells=some r∧(agg=true→ ∃cs,v= .agg cs)∧(agg=false→one v=true):=by
 cases agg with
 | true=>obtain ⟨cs,rfl,h⟩:=xg h;exact ⟨h,fun _=>⟨cs,rfl⟩,(by intro h;cases h)⟩
 | false=>
  obtain ⟨h1,h⟩:=dX h
  rw [GC h1]
  exact ⟨h,(by intro h;cases h),fun _=>h1⟩
theorem lK: ∀{cs:List AV} {K:Option β},xC cs K=some r→eW cs=true∧K=some r
 | [],_,h=>⟨rfl,h⟩
 | v::l,K,h=>by
  obtain ⟨h1,h⟩:=dX h
  obtain ⟨h2,h⟩:=lK h
  exact ⟨by simp [eW,h1,h2],h⟩
theorem zh {v:AV} {K:AV→Option β} (h:aV v K=some r): ∃v',fit v= .ok v'∧K v'=some r:=by
 unfold aV at h
 split at h
 ·exact ⟨_,by assumption,h⟩
 ·cases h
theorem tF: ∀{cs:List AV} {K:List AV→Option β},IG cs K=some r→ ∃cs',fits cs= .ok cs'∧K cs'=some r
 | [],_,h=>⟨[],rfl,h⟩
 | v::l,K,h=>by
  obtain ⟨v',e,h⟩:=zh h
  obtain ⟨l',e',h⟩:=tF h
  exact ⟨v'::l',by simp [fits,e,e'];rfl,h⟩
theorem E3 {v v':AV} (h:one v=true) (e:fit v= .ok v'):v'=strip v∧bare (strip v)=true:=by
 have:fit v=(match bare (strip v) with | true=> .ok (strip v) | false=> .error "a name within what never changes"):=by
  cases v <;> first | rfl | (cases h;done)
 rw [this] at e
 split at e
 ·rename_i hb;cases e;exact ⟨rfl,hb⟩
 ·cases e
theorem wM: ∀{cs cs':List AV},eW cs=true→fits cs= .ok cs'→cs'=cs.map strip∧bz (cs.map strip)=true
 | [],cs',_,e=>by cases e;exact ⟨rfl,rfl⟩
 | v::l,cs',h,e=>by
  simp only [eW,Bool.and_eq_true] at h
  simp only [fits,ae,ai] at e
  obtain ⟨v',e1,l',e2,rfl⟩:=e
  obtain ⟨rfl,h1⟩:=E3 h.1 e1
  obtain ⟨rfl,h2⟩:=wM h.2 e2
  exact ⟨rfl,by simp [bg,h1,h2]⟩
theorem Li {cs cs':List AV} (h:eW cs=true) (e:fits cs= .ok cs'):fit (.agg cs)= .ok (.agg cs'):=by
 obtain ⟨rfl,hb⟩:=wM h e
 simp only [fit]
 have:bare (.agg (cs.map strip))=true:=hb
 rw [this]
theorem Hn {agg:Bool} {v:AV} {K:AV→Option β} (h:GA agg v K=some r): ∃v',fit v= .ok v'∧K v'=some r:=by
 cases agg with
 | true=>
  obtain ⟨cs,rfl,h⟩:=xg h
  obtain ⟨h1,h⟩:=lK h
  obtain ⟨cs',e,h⟩:=tF h
  exact ⟨_,Li h1 e,h⟩
 | false=>exact zh h
theorem rP {agg:Bool}: ∀{vs:List AV} {K:List AV→Option β},pU agg vs K=some r→ ∃vs',fits vs= .ok vs'∧K vs'=some r
 | [],_,h=>⟨[],rfl,h⟩
 | v::l,K,h=>by
  obtain ⟨v',e,h⟩:=Hn h
  obtain ⟨l',e',h⟩:=rP h
  exact ⟨v'::l',by simp [fits,e,e'];rfl,h⟩
end
section
variable {E:Env} {O:qJ}
structure LS (E:Env) (O:qJ):Prop where
 full:O.full=E.full
 isLook:O.isLook=E.isLook
 bare: ∀f a v,O.bare f a=some v→jr fun n=>(caller E n).bare f a= .ok v
 wide: ∀f a st v,O.wide f a st=some v→jr fun n=>(caller E n).wide f a st= .ok v
 look: ∀f a st v,O.look f a st=some v→jr fun n=>(caller E n).look f a st= .ok v
 round: ∀k a st v,O.round k a st=some v→jr fun n=>(caller E n).round k a st= .ok v
theorem pd (E:Env): ∀n,(caller E n).full=E.full
 | 0=>rfl
 | _+1=>rfl
theorem ru (E:Env): ∀n,(caller E n).isLook=E.isLook
 | 0=>rfl
 | _+1=>rfl
def dT (E:Env) (st:St) (p:cV dH) (v:AV) (x:Fx):Prop:=jr fun n=>(p >>= aD (caller E n) st)= .ok (v,x)
variable {β:Type} {r:β} {K:Kv β} {st:St}
theorem ni {q:Option Out} (h:lZ q K=some r): ∃v st' x,q=some (v,st',x)∧K v st' x=some r:=by
 obtain ⟨⟨v,st',x⟩,e,h⟩:=bx h
 exact ⟨v,st',x,e,h⟩
theorem pN {id:Nat} {o:Obj} {v u:AV} {rd:List Nat} {st':St} {x:Fx} (h:ja st id o v rd=some (u,st',x)):dZ st id (some o)= .ok (.wrote id o)∧u=v∧x=⟨rd,.wrote id o⟩∧st'=x.did.app st:=by
 unfold ja at h
 split at h
 ·rename_i h1
  simp only [Option.some.injEq,Prod.mk.injEq] at h
  obtain ⟨rfl,rfl,rfl⟩:=h
  have:id.blt st.ro=false:=cL.2 (Nat.le_of_ble_eq_true h1)
  exact ⟨by simp only [dZ,this],rfl,rfl,rfl⟩
 ·cases h
theorem lN {o:Obj} {f:Nat→AV} {v:AV} {st':St} {x:Fx} (h:uE st o f=some (v,st',x)):dT E st (.ok (.new o f)) v x∧st'=x.did.app st:=by
 simp only [uE,Option.some.injEq,Prod.mk.injEq] at h
 obtain ⟨rfl,rfl,rfl⟩:=h
 exact ⟨jr.always fun _=>rfl,rfl⟩
theorem G2 {o:Obj} {f:Nat→AV} (h:made st o f K=some r): ∃v x,dT E st (.ok (.new o f)) v x∧K v (x.did.app st) x=some r:=by
 obtain ⟨v,st',x,e,h⟩:=ni h
 obtain ⟨hp,rfl⟩:=lN (E:=E) e
 exact ⟨v,x,hp,h⟩
theorem sb (hO:LS E O) {p:cV dH} {v:AV} {st':St} {x:Fx} (h:mw O p st=some (v,st',x)):dT E st p v x∧st'=x.did.app st:=by
 unfold mw at h
 split at h
 ·cases h;exact ⟨jr.always fun _=>rfl,rfl⟩
 ·rename_i id f
  split at h
  ·rename_i o ho
   split at h
   ·rename_i v e
    cases h
    exact ⟨jr.always fun _=>by simp only [au,aD,ho,e,dZ];rfl,rfl⟩
   ·rename_i v o' e
    obtain ⟨h1,rfl,rfl,rfl⟩:=pN h
    exact ⟨jr.always fun _=>by simp only [au,aD,ho,e,h1];rfl,rfl⟩
   ·cases h
  ·cases h
 ·rename_i id k f
  split at h
  ·rename_i o ho
   split at h
   ·rename_i e
    split at h
    ·rename_i v e'
     cases h
     exact ⟨jr.always fun _=>by simp only [au,aD,ho,e,e'];rfl,rfl⟩
    ·cases h
   ·rename_i j e
    split at h
    ·rename_i h1
     split at h
     ·rename_i o' ho'
      split at h
      ·rename_i v e'
       cases h
       exact ⟨jr.always fun _=>by simp only [au,aD,ho,e,h1,ho',e'];rfl,rfl⟩
      ·cases h
     ·cases h
    ·cases h
   ·cases h
  ·cases h
 ·exact lN h
 ·rename_i f args
  unfold BM at h
  split at h
  ·rename_i hb
   split at h
   ·rename_i v e
    cases h
    refine ⟨(hO.bare _ _ _ e).lift fun n hn=> ?_,rfl⟩
    rw [hO.full] at hb
    simp only [au,aD,pd,hb,hn];rfl
   ·cases h
  ·rename_i hb
   split at h
   ·rename_i hl
    split at h
    ·rename_i v e
     cases h
     refine ⟨(hO.look _ _ _ _ e).lift fun n hn=> ?_,rfl⟩
     rw [hO.full] at hb
     rw [hO.isLook] at hl
     simp only [au,aD,pd,ru,hb,hl,hn];rfl
    ·cases h
   ·rename_i hl
    split at h
    ·rename_i p e
     cases h
     refine ⟨(hO.wide _ _ _ _ e).lift fun n hn=> ?_,rfl⟩
     rw [hO.full] at hb
     rw [hO.isLook] at hl
     simp only [au,aD,pd,ru,hb,hl,hn];rfl
    ·cases h
 ·rename_i k args
  unfold HQ at h
  split at h
  ·rename_i p e
   cases h
   refine ⟨(hO.round _ _ _ _ e).lift fun n hn=> ?_,rfl⟩
   simp only [au,aD,hn];rfl
  ·cases h
 ·cases h
theorem DS (hO:LS E O) {p:cV dH} (h:dF O p st K=some r): ∃v x,dT E st p v x∧K v (x.did.app st) x=some r:=by
 obtain ⟨v,st',x,e,h⟩:=ni h
 obtain ⟨hp,rfl⟩:=sb hO e
 exact ⟨v,x,hp,h⟩
theorem dT.of {p q:cV dH} {v:AV} {x:Fx} (e:p=q) (h:dT E st p v x):dT E st q v x:=e ▸ h
end
section
variable {β:Type} {r:β}
theorem sC {i:Int} {n:Nat} {K:Nat→Option β} (h:kT i n K=some r): ∃k,inside i n= .ok k∧K k=some r:=by
 unfold kT at h
 split at h
 ·rename_i k
  obtain ⟨h1,h⟩:=dX h
  exact ⟨k,by simp only [inside,h1],h⟩
 ·cases h
theorem xZ {i:Int} {n:Nat} {K:Nat→Option β} (h:fJ i n K=some r): ∃k,upto i n= .ok k∧K k=some r:=by
 unfold fJ at h
 split at h
 ·rename_i k
  obtain ⟨h1,h⟩:=dX h
  exact ⟨k,by simp only [upto,h1],h⟩
 ·cases h
theorem Hw {lo:Option Int} {m:Nat} {K:Nat→Option β} (h:RT lo m K=some r): ∃k,qL lo m= .ok k∧K k=some r:=by
 cases lo with
 | none=>exact ⟨0,rfl,h⟩
 | some l=>exact xZ h
theorem Ie {hi:Option Int} {m d:Nat} {K:Nat→Option β} (h:SB hi m d K=some r): ∃k,kF hi m d= .ok k∧K k=some r:=by
 cases hi with
 | none=>exact ⟨d,rfl,h⟩
 | some l=>exact xZ h
end
def Fr.look (fr:Fr) (i:Nat):Option AV:=match fr.strict with
 | true=>fr.t.get i
 | false=>some (fr.get i)
theorem sd {fr:Fr} {i:Nat} {v:AV} (h:fr.look i=some v):fr.get i=v:=by
 unfold Fr.look at h
 split at h
 ·unfold Fr.get;rw [h];rfl
 ·exact Option.some.inj h
theorem FX {G:Nat→Option (List AV)} {fr:Fr} {i:Nat} {v:AV} (h:fr.look i=some v):bQ G fr (.tmp i)= .ok v:=by
 unfold Fr.look at h
 simp only [bQ]
 split at h
 ·rename_i e;rw [e];dsimp only;rw [h]
 ·rename_i e;rw [e];dsimp only;rw [Option.some.inj h]
theorem BK {fr:Fr} {d i:Nat} {v:AV} (hd:d < fr.n):(fr.put (some d) v).look i=if d=i then some v else fr.look i:=by
 have hb:d.blt fr.n=true:=cY.2 hd
 have e:fr.put (some d) v=⟨fr.n,fr.t.put d v,fr.strict⟩:=by simp only [Fr.put,hb]
 rw [e]
 unfold Fr.look Fr.get
 dsimp only
 rw [Tr.iA]
 by_cases h:d=i
 ·rw [if_pos h,if_pos h];cases fr.strict <;> rfl
 ·rw [if_neg h,if_neg h]
def Sub (N:Nat) (p:PF) (fr:Fr):Prop:=fr.n=N∧ ∀i v,PF.get p i=some v→fr.look i=some v
theorem PF.lx {i j:Nat} {v:AV} {l:PF}:PF.get ((i,v)::l) j=if i=j then some v else PF.get l j:=by
 simp only [PF.get]
 by_cases h:i=j
 ·simp [h]
 ·have:i.beq j=false:=by
   cases e:i.beq j
   ·rfl
   ·exact absurd (Nat.eq_of_beq_eq_true e) h
  simp [this,h]
section
variable {β:Type} {r:β} {N:Nat} {p:PF} {fr:Fr} {G:Nat→Option (List AV)} {T:TT} {E:Env} {O:qJ} {st:St}
theorem bG {x:Operand} {K:AV→Option β} (h:ev G p x K=some r) (hs:Sub N p fr): ∃v,bQ G fr x= .ok v∧K v=some r:=by
 unfold ev at h
 split at h
 ·split at h
  ·rename_i v e
   exact ⟨v,FX (hs.2 _ _ e),h⟩
  ·cases h
 ·split at h
  ·rename_i v e
   exact ⟨v,by simp only [bQ,e],h⟩
  ·cases h
 ·split at h
  ·rename_i cs e
   exact ⟨_,by simp only [bQ,e],h⟩
  ·cases h
 ·exact ⟨_,rfl,h⟩
theorem sA: ∀{l:List Operand} {K:List AV→Option β},Qr G p l K=some r→Sub N p fr→ ∃vs,ma G fr l= .ok vs∧K vs=some r
 | [],_,h,_=>⟨[],rfl,h⟩
 | x::l,K,h,hs=>by
  obtain ⟨v,e,h⟩:=bG h hs
  obtain ⟨vs,e',h⟩:=sA h hs
  exact ⟨v::vs,by simp only [ma,e,e',au,aI],h⟩
theorem wq {x:Option Operand} {K:Option Int→Option β} (h:Q5 G p x K=some r) (hs:Sub N p fr): ∃o oi,dV G fr x= .ok o∧kD o= .ok oi∧K oi=some r:=by
 cases x with
 | none=>exact ⟨none,none,rfl,rfl,h⟩
 | some x=>
  obtain ⟨v,e,h⟩:=bG h hs
  obtain ⟨k,n,rfl,h⟩:=nD h
  exact ⟨some (.int k n),some n,by simp only [dV,e,au,aI],rfl,h⟩
theorem sR {ty:Nat→Option TypeId}: ∀{l:List (Nat×Operand)} {K:List (Nat×List AV)→Option β},O6 T G p ty l K=some r→Sub N p fr→
  ∃vs:List (Nat×AV),fT G fr l= .ok vs∧K (vs.map fun q=>(q.1,q.2.cells))=some r
 | [],_,h,_=>⟨[],rfl,h⟩
 | (i,x)::l,K,h,hs=>by
  unfold O6 at h
  split at h
  ·cases h
  ·obtain ⟨ti,_,h⟩:=cw h
   obtain ⟨v,e,h⟩:=bG h hs
   obtain ⟨h,_,_⟩:=pB h
   obtain ⟨vs,e',h⟩:=sR h hs
   exact ⟨(i,v)::vs,by simp only [fT,e,e',au,aI],h⟩
theorem nH {place:Nat→Option (Nat×Nat)}: ∀{vs:List (Nat×AV)} {cells:List AV} {K:List AV→Option β},zS place cells (vs.map fun q=>(q.1,q.2.cells)) K=some r→ ∃cs,kB place cells vs= .ok cs∧K cs=some r
 | [],cells,_,h=>⟨cells,rfl,h⟩
 | (i,v)::vs,cells,K,h=>by
  simp only [List.map_cons,zS] at h
  split at h
  ·cases h
  ·rename_i off size e
   obtain ⟨h1,h⟩:=dX h
   obtain ⟨cs,e',h⟩:=nH h
   exact ⟨cs,by simp only [kB,e,h1,e'],h⟩
theorem u5: ∀{l:List (Nat×TypeId)} {K:List (Nat×Nat)→Option β},Ej T l K=some r→ ∃ps,nE T l= .ok ps∧K ps=some r
 | [],_,h=>⟨[],rfl,h⟩
 | (o,t)::l,K,h=>by
  obtain ⟨i,e,h⟩:=cw h
  obtain ⟨ps,e',h⟩:=u5 h
  exact ⟨_,by simp only [nE,e,e',au,aI],h⟩
theorem uz: ∀{l:List AV} {n:Nat} {v:AV},An l n=some v→eL l n= .ok v
 | [],_,_,h=>by cases h
 | _:: _,0,_,h=>by cases h;rfl
 | _::l,n+1,_,h=>uz (l:=l) (n:=n) h
theorem iP {i:Int} {n k:Nat} (h:kQ i n=some k):inside i n= .ok k:=by
 unfold kQ at h
 split at h
 ·split at h
  ·rename_i h1;cases h;simp only [inside,h1]
  ·cases h
 ·cases h
theorem Eo {i:TI} {a:AV} {K:Kv β} (h:(aA i.size i.agg a st fun v rd=>K v st ⟨rd,.kept⟩)=some r): ∃v x,dT E st (lV i a) v x∧K v (x.did.app st) x=some r:=by
 obtain ⟨⟨v,rd⟩,e,h⟩:=bx h
 unfold CV at e
 split at e
 ·split at e
  ·rename_i e1
   cases e
   exact ⟨v,q0,jr.always fun _=>by simp only [lV,e1,au,aI,aD];rfl,h⟩
  ·cases e
 ·rename_i id off
  split at e
  ·rename_i t cs e1
   split at e
   ·rename_i e2
    cases e
    exact ⟨v,⟨[id],.kept⟩,jr.always fun _=>by simp only [lV,ib,e1,e2,au,aI,aD,cellsOf,dZ],h⟩
   ·cases e
  ·cases e
 ·rename_i k n off
  split at e
  ·rename_i m ee z cs e1
   split at e
   ·rename_i hm
    split at e
    ·rename_i e2
     cases e
     exact ⟨v,⟨[k],.kept⟩,jr.always fun _=>by simp only [lV,ib,e1,e2,hm,au,aI,aD,dZ],h⟩
    ·cases e
   ·cases e
  ·cases e
 ·cases e
theorem CM (hO:LS E O) {i:TI} {a v:AV} {K:Kv β} (h2:eW v.cells=true) (h:ao O i.size a v v.cells st K=some r): ∃u x,dT E st (match a with | .gp k m off=>iU i k m off v | a=>tR i a v) u x∧K u (x.did.app st) x=some r:=by
 obtain ⟨u,st',x,e,h⟩:=ni h
 unfold Av at e
 split at e
 ·rename_i id off
  split at e
  ·rename_i h1
   split at e
   ·rename_i t cs e1
    split at e
    ·rename_i h3
     obtain ⟨h4,rfl,rfl,rfl⟩:=pN e
     refine ⟨undef,_,jr.always fun _=> ?_,h⟩
     simp only [tR,h1,h2,Bool.and_self,au,aD,e1,mb,h3,aI]
     rw [show cF cs off v.cells=MK cs off v.cells from rfl,h4];rfl
    ·cases e
   ·cases e
  ·cases e
 ·obtain ⟨h1,rfl⟩:=sb hO e
  exact ⟨u,x,h1,h⟩
 ·cases e
theorem Gz {t e:TypeId} {i ie:TI} {x:AV} {j:Int} {k:IntKind} {K:Kv β} (hi:ti T t= .ok i) (hu:i.und= .slice e) (he:ti T e= .ok ie) (h:(bZ ie.size x j st fun a rd=>K a st ⟨rd,.kept⟩)=some r):
  ∃v x',dT E st (match x with | .gs a z n=>jS T t a z n (.int k j) | x=>(do pure (.val (← indexAddr T t x (.int k j))))) v x'∧K v (x'.did.app st) x'=some r:=by
 obtain ⟨⟨v,rd⟩,eo,h⟩:=bx h
 unfold Bx at eo
 split at eo
 ·split at eo
  ·rename_i h1
   split at eo
   ·rename_i n h2
    split at eo
    ·rename_i u h3
     cases eo
     refine ⟨_,q0,jr.always fun _=> ?_,h⟩
     simp only [indexAddr,VM.asInt,au,hi,hu,iP h2,he,h1,uz h3,aI,aD];rfl
    ·cases eo
   ·cases eo
  ·cases eo
 ·split at eo
  ·rename_i h1
   split at eo
   ·rename_i n h2
    cases eo
    refine ⟨_,q0,jr.always fun _=> ?_,h⟩
    simp only [indexAddr,VM.asInt,au,hi,hu,iP h2,he,h1,aI,aD];rfl
   ·cases eo
  ·cases eo
 ·rename_i a sz n
  split at eo
  ·rename_i h1
   split at eo
   ·rename_i m h2
    split at eo
    ·rename_i mm ee z' es eg
     split at eo
     ·rename_i h3
      split at eo
      ·rename_i hb
       split at eo
       ·rename_i u h4
        cases eo
        refine ⟨_,⟨[a],.kept⟩,jr.always fun _=> ?_,h⟩
        simp only [jS,VM.asInt,au,hi,hu,iP h2,he,h1,ib,aD,eg,h3,hb,uz h4,aI,dZ]
       ·cases eo
      ·rename_i hb
       cases eo
       refine ⟨_,⟨[a],.kept⟩,jr.always fun _=> ?_,h⟩
       simp only [jS,VM.asInt,au,hi,hu,iP h2,he,h1,ib,aD,eg,h3,hb,aI,dZ]
     ·cases eo
    ·rename_i mm ee z' cs eg
     split at eo
     ·rename_i h3
      cases eo
      refine ⟨_,⟨[a],.kept⟩,jr.always fun _=> ?_,h⟩
      simp only [jS,VM.asInt,au,hi,hu,iP h2,he,h1,ib,aD,eg,h3,aI,dZ]
     ·cases eo
    ·cases eo
   ·cases eo
  ·cases eo
 ·cases eo
theorem zu {off:Nat} {a:AV} {K:AV→Option β} (h:ct off a K=some r):(∃cs,a= .ip cs∧K (.ip (cs.drop off))=some r)∨(∃id o,a= .mp id o∧K (.mp id (o+off))=some r)∨(∃id n o,a= .gp id n o∧K (.gp id n (o+off))=some r):=by
 obtain ⟨v,e,h⟩:=bx h
 unfold P7 at e
 split at e
 ·cases e;exact .inl ⟨_,rfl,h⟩
 ·cases e;exact .inr (.inl ⟨_,_,rfl,h⟩)
 ·cases e;exact .inr (.inr ⟨_,_,_,rfl,h⟩)
 ·cases e
theorem Hh {t e:TypeId} {i ie:TI} {x:AV} {j:Int} {k:IntKind} {len:Nat} {K:Kv β} (hi:ti T t= .ok i) (hu:i.und= .arr len e) (he:ti T e= .ok ie) (h:(PW ie.size len x j fun a=>K a st q0)=some r):
  ∃v x',dT E st (match x with | .gs a z n=>jS T t a z n (.int k j) | x=>(do pure (.val (← indexAddr T t x (.int k j))))) v x'∧K v (x'.did.app st) x'=some r:=by
 obtain ⟨n,h2,h⟩:=sC h
 rcases zu h with ⟨cs,rfl,h⟩ | ⟨id,o,rfl,h⟩ | ⟨id,m,o,rfl,h⟩
 ·refine ⟨_,q0,jr.always fun _=> ?_,h⟩
  simp only [indexAddr,VM.asInt,au,hi,hu,h2,he,aI,aD];rfl
 ·refine ⟨_,q0,jr.always fun _=> ?_,h⟩
  simp only [indexAddr,VM.asInt,au,hi,hu,h2,he,aI,aD];rfl
 ·refine ⟨_,q0,jr.always fun _=> ?_,h⟩
  simp only [indexAddr,VM.asInt,au,hi,hu,h2,he,aI,aD];rfl
theorem oq {hi:Option Int} {m d a:Nat} (h:tq hi m d=some a):kF hi m d= .ok a:=by
 unfold tq at h
 split at h
 ·split at h
  ·split at h
   ·rename_i h1;cases h;simp only [kF,upto,h1]
   ·cases h
  ·cases h
 ·cases h;rfl
theorem wE {lo:Option Int} {m a:Nat} (h:tq lo m 0=some a):qL lo m= .ok a:=by
 unfold tq at h
 split at h
 ·split at h
  ·split at h
   ·rename_i h1;cases h;simp only [qL,upto,h1]
   ·cases h
  ·cases h
 ·cases h;rfl
theorem Ci {t e:TypeId} {i ie:TI} {x:AV} {lo hi mx:Option Int} {lo' hi' mx':Option AV} {K:AV→Option β} (ht:ti T t= .ok i) (hu:i.und= .slice e) (he:ti T e= .ok ie)
  (hl:kD lo'= .ok lo) (hh:kD hi'= .ok hi) (hm:kD mx'= .ok mx) (h:fO ie.size x lo hi mx K=some r): ∃v,lD T t x lo' hi' mx'= .ok v∧K v=some r:=by
 obtain ⟨v,eo,h⟩:=bx h
 refine ⟨v, ?_,h⟩
 clear h
 unfold ou at eo
 split at eo
 ·split at eo
  ·rename_i m h3
   split at eo
   ·rename_i a h1
    split at eo
    ·rename_i b h2
     cases eo
     simp only [lD,hl,hh,hm,au,ht,hu,he,oq h3,oq h1,wE h2,aI]
    ·cases eo
   ·cases eo
  ·cases eo
 ·split at eo
  ·rename_i m h3
   split at eo
   ·rename_i a h1
    split at eo
    ·rename_i b h2
     cases eo
     simp only [lD,hl,hh,hm,au,ht,hu,he,oq h3,oq h1,wE h2,aI]
    ·cases eo
   ·cases eo
  ·cases eo
 ·split at eo
  ·rename_i h0
   split at eo
   ·rename_i m h3
    split at eo
    ·rename_i a h1
     split at eo
     ·rename_i b h2
      split at eo
      ·rename_i h4
       cases eo
       simp only [lD,hl,hh,hm,au,ht,hu,he,h0,oq h1,wE h2,oq h3,h4,aI]
      ·cases eo
     ·cases eo
    ·cases eo
   ·cases eo
  ·cases eo
 ·rename_i sz es pm
  split at eo
  ·rename_i h0
   split at eo
   ·rename_i a h1
    split at eo
    ·rename_i b h2
     have key:(match a.beq es.length,pm with
      | true,.shut=>(pure (.sl sz (es.drop b) .shut):cV AV)
      | true,.own k=>match b.beq 0 with
       | true=>pure (.sl sz es (.own k))
       | false=>pure (.sl sz (es.drop b) .wide)
      | _,_=>pure (.sl sz ((es.take a).drop b) .wide))= .ok v:=by
      revert eo
      cases a.beq es.length <;> cases pm <;> cases b.beq 0 <;> intro eo <;> cases eo <;> rfl
     simp only [lD,hl,hh,hm,au,ht,hu,he,h0,oq h1,wE h2]
     exact key
    ·cases eo
   ·cases eo
  ·cases eo
 ·split at eo
  ·rename_i h0
   split at eo
   ·rename_i m h3
    split at eo
    ·rename_i a h1
     split at eo
     ·rename_i b h2
      cases eo
      have h3:kF (some _) _ 0= .ok m:=oq h3
      simp only [kF] at h3
      simp only [lD,hl,hh,hm,au,ht,hu,he,h0,oq h1,wE h2,h3]
      rfl
     ·cases eo
    ·cases eo
   ·cases eo
  ·cases eo
 ·cases eo
theorem zR {t:TypeId} {i:TI} {x y:AV} {K:Bool→Option β} (hi:ti T t= .ok i) (h:Jj i.und x y K=some r): ∃b,EC T 20 t x y= .ok b∧K b=some r:=by
 obtain ⟨b,e,h⟩:=bx h
 refine ⟨b, ?_,h⟩
 clear h
 unfold PQ at e
 split at e <;> first | (cases e;done) | skip
 all_goals
  rename_i hu
  cases e
  show (do let i ← ti T t;_)= _
  rw [hi,au]
  simp only [hu]
theorem Fy {t:TypeId} {i:TI} {x y:AV} {b:Bool} (hi:ti T t= .ok i) (e:EC T 20 t x y= .ok b) (hk:lj i.und=true):(∀k n,x≠ .int k n)∧(∀s,x≠ .str s):=by
 have e:(do let i ← ti T t;_)= _:=e
 rw [hi,au] at e
 constructor
 ·rintro k n rfl
  cases hu:i.und <;> simp [hu,lj] at hk e
 ·rintro s rfl
  cases hu:i.und <;> simp [hu,lj] at hk e
theorem KD {t:TypeId} {i:TI} {x y:AV} {b:Bool} (hi:ti T t= .ok i) (e:EC T 20 t x y= .ok b) (hk:lj i.und=true):VM.binOp T .eql t x y= .ok (.bool b):=by
 obtain ⟨h1,h2⟩:=Fy hi e hk
 cases x <;> first | (exact absurd rfl (h1 _ _)) | (exact absurd rfl (h2 _)) | (simp only [VM.binOp,e,au,aI])
theorem LA {t:TypeId} {i:TI} {x y:AV} {b:Bool} (hi:ti T t= .ok i) (e:EC T 20 t x y= .ok b) (hk:lj i.und=true):VM.binOp T .neq t x y= .ok (.bool !b):=by
 obtain ⟨h1,h2⟩:=Fy hi e hk
 cases x <;> first | (exact absurd rfl (h1 _ _)) | (exact absurd rfl (h2 _)) | (simp only [VM.binOp,e,au,aI])
theorem GU {op:BinOp} {t:TypeId} {x y:AV} {K:AV→Option β} (h:Qh T op t x y K=some r): ∃v,VM.binOp T op t x y= .ok v∧K v=some r:=by
 obtain ⟨i,hi,h⟩:=cw h
 split at h
 ·obtain ⟨b,e,h⟩:=zR hi h
  refine ⟨_, ?_,h⟩
  rw [KD hi e ‹_›]
 ·obtain ⟨b,e,h⟩:=zR hi h
  refine ⟨_, ?_,h⟩
  rw [LA hi e ‹_›]
 ·split at h
  ·obtain ⟨a,hx,h⟩:=lC h
   obtain ⟨b,hy,h⟩:=lC h
   obtain ⟨h1,h⟩:=dX h
   exact ⟨_,by simp only [hx,hy,VM.binOp,Fq,h1],h⟩
  ·obtain ⟨a,hx,h⟩:=lM h
   obtain ⟨b,hy,h⟩:=lM h
   obtain ⟨h1,h⟩:=dX h
   have h1:¬ b=0:=by simpa using h1
   exact ⟨_,by simp only [hx,hy,VM.binOp,Cu,if_true,if_neg h1],h⟩
  ·obtain ⟨a,hx,h⟩:=lM h
   obtain ⟨b,hy,h⟩:=lM h
   obtain ⟨h1,h⟩:=dX h
   have h1:¬ b=0:=by simpa using h1
   exact ⟨_,by simp only [hx,hy,VM.binOp,Cu,if_true,if_neg h1],h⟩
  ·obtain ⟨a,hx,h⟩:=lM h
   obtain ⟨k',b,hy,h⟩:=nD h
   obtain ⟨h1,h⟩:=dX h
   have h1:¬ b < 0:=by simpa using h1
   exact ⟨_,by simp only [hx,hy,VM.binOp,if_neg h1],h⟩
  ·obtain ⟨a,hx,h⟩:=lM h
   obtain ⟨k',b,hy,h⟩:=nD h
   obtain ⟨h1,h⟩:=dX h
   have h1:¬ b < 0:=by simpa using h1
   exact ⟨_,by simp only [hx,hy,VM.binOp,if_neg h1],h⟩
  ·obtain ⟨v,e,h⟩:=bx h
   exact ⟨v,sW e,h⟩
end
section
variable {β:Type} {r:β} {N:Nat} {p:PF} {fr:Fr} {E:Env} {st:St}
theorem Hl {i:TI} {e:TypeId} {s:AV} {new new':List AV} {K:Kv β} (hf:fits new= .ok new') (hz:(new'.all fun v=>v.cells.length.beq i.size)=true) (h:gf i.size i.bytes e s new' st K=some r):
  ∃v x,dT E st (iu i e s new) v x∧K v (x.did.app st) x=some r:=by
 obtain ⟨u,st',x,eo,h⟩:=ni h
 cases new with
 | nil=>
  cases hf
  simp only [tU] at eo
  split at eo
  ·cases eo;exact ⟨_,q0,jr.always fun _=>by simp only [iu,aI,au,aD];rfl,h⟩
  ·cases eo;exact ⟨_,q0,jr.always fun _=>by simp only [iu,aI,au,aD];rfl,h⟩
  ·cases eo;exact ⟨_,q0,jr.always fun _=>by simp only [iu,aI,au,aD];rfl,h⟩
  ·cases eo
 | cons v l=>
  have hf':=hf
  simp only [fits,ae,ai] at hf'
  obtain ⟨v',_,l',_,rfl⟩:=hf'
  simp only [tU] at eo
  split at eo
  ·split at eo
   ·rename_i h1
    have h1:cO (v'::l').length i=true:=h1
    obtain ⟨hp,rfl⟩:=lN (E:=E) eo
    refine ⟨u,x,dT.of ?_ hp,h⟩
    simp only [iu,hf,au,hz,h1,aI]
   ·cases eo
  ·rename_i y es pm
   split at eo
   ·rename_i h1
    have h1:(cO (es.length+(v'::l').length) i&&y.beq i.size)=true:=h1
    cases pm with
    | shut=>
     obtain ⟨hp,rfl⟩:=lN (E:=E) eo
     refine ⟨u,x,dT.of ?_ hp,h⟩
     simp only [iu,hf,au,hz,h1,aI]
    | own k=>
     dsimp only at eo
     split at eo
     ·rename_i n e' hg
      split at eo
      ·rename_i h2
       obtain ⟨h3,rfl,rfl,rfl⟩:=pN eo
       refine ⟨_,⟨[k],.wrote k _⟩,jr.always fun _=> ?_,h⟩
       simp only [iu,hf,au,hz,h1,aI,aD,hg,h2,h3]
      ·cases eo
     ·cases eo
    | wide=>cases eo
   ·cases eo
  ·split at eo
   ·rename_i h1
    have h1:cO (v'::l').length i=true:=h1
    obtain ⟨hp,rfl⟩:=lN (E:=E) eo
    refine ⟨u,x,dT.of ?_ hp,h⟩
    simp only [iu,hf,au,hz,h1,aI]
   ·cases eo
  ·cases eo
def kI (S:Sx) (fr:Fr) (o:Op):cV dH:=eG S.T S.prim S.imm S.G fr o
theorem Fk {S:Sx} (hO:LS E S.O) {o:Op} {K:Kv β} (h:Kc S o p st K=some r) (hs:Sub N p fr): ∃v x,dT E st (kI S fr o) v x∧K v (x.did.app st) x=some r:=by
 have val: ∀{w:AV},kI S fr o= .ok (.val w)→K w st q0=some r→ ∃v x,dT E st (kI S fr o) v x∧K v (x.did.app st) x=some r:=fun {w} e h=>⟨w,q0,dT.of e.symm (jr.always fun _=>rfl),h⟩
 have by_: ∀{q:cV dH},kI S fr o=q→dF S.O q st K=some r→ ∃v x,dT E st (kI S fr o) v x∧K v (x.did.app st) x=some r:=fun {q} e h=>by
  obtain ⟨v,x,hp,h⟩:=DS hO h
  exact ⟨v,x,dT.of e.symm hp,h⟩
 have new_: ∀{ob:Obj} {f:Nat→AV},kI S fr o= .ok (.new ob f)→made st ob f K=some r→ ∃v x,dT E st (kI S fr o) v x∧K v (x.did.app st) x=some r:=fun {ob f} e h=>by
  obtain ⟨v,x,hp,h⟩:=G2 (E:=E) h
  exact ⟨v,x,dT.of e.symm hp,h⟩
 unfold Kc at h
 split at h
 ·obtain ⟨v,e,h⟩:=bG h hs
  exact val (by simp only [kI,eG,e,au,aI]) h
 ·obtain ⟨v,e,h⟩:=bG h hs
  exact val (by simp only [kI,eG,e,au,aI]) h
 ·obtain ⟨c,e,h⟩:=bG h hs
  obtain ⟨b,rfl,h⟩:=xY h
  cases b with
  | true=>
   obtain ⟨v,e',h⟩:=bG h hs
   exact val (by simp only [kI,eG,e,e',au,aI,VM.asBool]) h
  | false=>
   obtain ⟨v,e',h⟩:=bG h hs
   exact val (by simp only [kI,eG,e,e',au,aI,VM.asBool]) h
 ·obtain ⟨i,e,h⟩:=cw h
  exact new_ (by simp only [kI,eG,e,au,aI]) h
 ·-- box
  obtain ⟨i,e,h⟩:=cw h
  obtain ⟨v,e',h⟩:=bG h hs
  obtain ⟨h,_,_⟩:=pB h
  obtain ⟨h1,h⟩:=dX h
  obtain ⟨h2,h⟩:=lK h
  split at h
  ·rename_i hi
   obtain ⟨cs,h3,h⟩:=tF h
   exact val (by simp only [kI,eG,e,e',au,aI,Hz,h1,h2,Bool.and_self,hi,h3]) h
  ·rename_i hi
   exact new_ (by simp only [kI,eG,e,e',au,Hz,h1,h2,Bool.and_self,hi]) h
 ·-- build
  obtain ⟨i,e,h⟩:=cw h
  split at h
  ·rename_i fs hu
   obtain ⟨vs,h1,h⟩:=sR h hs
   obtain ⟨sz,h2,h⟩:=u5 h
   obtain ⟨cs,h3,h⟩:=nH h
   exact val (by simp only [kI,eG,build,e,hu,h1,h2,h3,au,aI]) h
  ·rename_i ee hu
   obtain ⟨vs,h1,h⟩:=sR h hs
   obtain ⟨ie,h2,h⟩:=cw h
   obtain ⟨cs,h3,h⟩:=nH h
   exact val (by simp only [kI,eG,build,e,hu,h1,h2,h3,au,aI]) h
  ·cases h
 ·-- buildSlice
  obtain ⟨i,e,h⟩:=cw h
  split at h
  ·rename_i ee hu
   obtain ⟨ie,h2,h⟩:=cw h
   obtain ⟨vs,h1,h⟩:=sR h hs
   obtain ⟨h4,h⟩:=dX h
   obtain ⟨cs,h3,h⟩:=nH h
   obtain ⟨h5,h⟩:=lK h
   split at h
   ·rename_i gs h6
    obtain ⟨gs',h7,h⟩:=rP h
    exact val (by simp only [kI,eG,buildSlice,e,hu,h1,h2,h3,h4,h5,h6,h7,au,aI]) h
   ·cases h
  ·cases h
 ·-- makeSlice
  obtain ⟨l,e,h⟩:=bG h hs
  obtain ⟨c,e',h⟩:=bG h hs
  exact by_ (by simp only [kI,eG,e,e',au]) h
 ·-- load
  obtain ⟨i,e,h⟩:=cw h
  obtain ⟨a,e',h⟩:=bG h hs
  obtain ⟨v,x,hp,h⟩:=Eo (E:=E) h
  exact ⟨v,x,dT.of (by simp only [kI,eG,e,e',au]) hp,h⟩
 ·-- store
  obtain ⟨i,e,h⟩:=cw h
  obtain ⟨a,e1,h⟩:=bG h hs
  obtain ⟨v,e2,h⟩:=bG h hs
  obtain ⟨h,_,_⟩:=pB h
  obtain ⟨h2,h⟩:=lK h
  obtain ⟨u,x,hp,h⟩:=CM hO h2 h
  refine ⟨u,x,dT.of ?_ hp,h⟩
  simp only [kI,eG,e,e1,e2,au]
  cases a <;> rfl
 ·-- nilCheck
  obtain ⟨a,e1,h⟩:=bG h hs
  obtain ⟨hn,h⟩:=dX h
  refine val ?_ h
  unfold notNil at hn
  split at hn
  ·simp only [kI,eG,e1,au,aI]
  ·simp only [kI,eG,e1,au,aI]
  ·simp only [kI,eG,e1,au,aI]
  ·simp only [kI,eG,e1,au,aI]
  ·cases hn
 ·-- binOp
  obtain ⟨a,e1,h⟩:=bG h hs
  obtain ⟨b,e2,h⟩:=bG h hs
  split at h
  ·rename_i hc
   obtain ⟨v,e3,h⟩:=bx h
   have e3:K5 _ a=some v:=e3
   exact val (by simp only [kI,eG,wH,hc,e1,e2,e3,au,aI]) h
  ·rename_i hc
   obtain ⟨v,e3,h⟩:=GU h
   exact val (by simp only [kI,eG,wH,hc,e1,e2,e3,au,aI]) h
 ·-- unOp
  obtain ⟨a,e1,h⟩:=bG h hs
  obtain ⟨v,e2,h⟩:=bx h
  exact val (by simp only [kI,eG,e1,sW e2,au,aI]) h
 ·-- convert
  obtain ⟨a,e1,h⟩:=bG h hs
  exact by_ (by simp only [kI,eG,e1,au]) h
 ·-- makeInterface
  obtain ⟨i,e,h⟩:=cw h
  split at h
  ·cases h
  ·cases h
  ·rename_i h1 h2
   obtain ⟨a,e1,h⟩:=bG h hs
   refine val ?_ h
   simp only [kI,eG,e,e1,au,aI]
 ·-- makeFunc
  obtain ⟨a,e1,h⟩:=sA h hs
  obtain ⟨c,e2,h⟩:=sA h hs
  exact val (by simp only [kI,eG,e1,e2,au,aI]) h
 ·-- makeMap
  exact new_ (by simp only [kI,eG]) h
 ·-- slice
  rename_i t x lo hi mx
  split at h
  ·cases h
  ·obtain ⟨i,e,h⟩:=cw h
   obtain ⟨x',e1,h⟩:=bG h hs
   obtain ⟨lo',lo'',e2,e2',h⟩:=wq h hs
   obtain ⟨hi',hi'',e3,e3',h⟩:=wq h hs
   obtain ⟨mx',mx'',e4,e4',h⟩:=wq h hs
   split at h
   ·rename_i hu
    obtain ⟨s,rfl,h⟩:=lC h
    split at h
    ·obtain ⟨a,h1,h⟩:=Ie h
     obtain ⟨b,h2,h⟩:=Hw h
     refine val ?_ h
     simp only [kI,eG,e1,e2,e3,e4,au,lD,e2',e3',e4',e,hu,h1,h2,aI]
    ·cases h
   ·rename_i ee hu
    obtain ⟨ie,he,h⟩:=cw h
    obtain ⟨v,h1,h⟩:=Ci e hu he e2' e3' e4' h
    refine val ?_ h
    simp only [kI,eG,e1,e2,e3,e4,au,h1,aI]
   ·cases h
 ·-- fieldAddr
  obtain ⟨i,e,h⟩:=cw h
  split at h
  ·rename_i fs hu
   split at h
   ·rename_i off ft hf
    obtain ⟨fi,e1,h⟩:=cw h
    split at h
    ·cases h
    ·rename_i hz
     obtain ⟨a,e2,h⟩:=bG h hs
     rcases zu h with ⟨cs,rfl,h⟩ | ⟨id,o,rfl,h⟩ | ⟨id,m,o,rfl,h⟩
     ·exact val (by simp only [kI,eG,fieldAddr,e,e2,hu,hf,e1,hz,au,aI]) h
     ·exact val (by simp only [kI,eG,fieldAddr,e,e2,hu,hf,e1,hz,au,aI]) h
     ·exact val (by simp only [kI,eG,fieldAddr,e,e2,hu,hf,e1,hz,au,aI]) h
   ·cases h
  ·cases h
 ·-- field
  obtain ⟨a,e1,h⟩:=bG h hs
  obtain ⟨v,e2,h⟩:=bx h
  exact val (by simp only [kI,eG,e1,sW e2,au,aI]) h
 ·-- indexAddr
  obtain ⟨i,e,h⟩:=cw h
  obtain ⟨x,e1,h⟩:=bG h hs
  obtain ⟨j,e2,h⟩:=bG h hs
  obtain ⟨k,n,rfl,h⟩:=nD h
  split at h
  ·rename_i ee hu
   obtain ⟨ie,he,h⟩:=cw h
   obtain ⟨v,x',hp,h⟩:=Gz (E:=E) (k:=k) e hu he h
   refine ⟨v,x',dT.of ?_ hp,h⟩
   simp only [kI,eG,e1,e2,au]
   cases x <;> rfl
  ·rename_i len ee hu
   obtain ⟨ie,he,h⟩:=cw h
   obtain ⟨v,x',hp,h⟩:=Hh (E:=E) (k:=k) e hu he h
   refine ⟨v,x',dT.of ?_ hp,h⟩
   simp only [kI,eG,e1,e2,au]
   cases x <;> rfl
  ·cases h
 ·-- index
  obtain ⟨i,e,h⟩:=cw h
  obtain ⟨x,e1,h⟩:=bG h hs
  obtain ⟨j,e2,h⟩:=bG h hs
  split at h
  ·rename_i hu
   obtain ⟨s,rfl,h⟩:=lC h
   obtain ⟨k,n,rfl,h⟩:=nD h
   obtain ⟨m,h1,h⟩:=sC h
   split at h
   ·rename_i b h2
    exact val (by simp only [kI,eG,e1,e2,au,wK,VM.asInt,e,hu,h1,h2,aI]) h
   ·cases h
  ·obtain ⟨v,e3,h⟩:=bx h
   exact val (by simp only [kI,eG,e1,e2,sW e3,au,aI]) h
 ·-- lookup
  obtain ⟨x,e1,h⟩:=bG h hs
  obtain ⟨j,e2,h⟩:=bG h hs
  exact by_ (by simp only [kI,eG,e1,e2,au]) h
 ·obtain ⟨x,e1,h⟩:=bG h hs
  obtain ⟨j,e2,h⟩:=bG h hs
  obtain ⟨v,e3,h⟩:=bG h hs
  exact by_ (by simp only [kI,eG,e1,e2,e3,au]) h
 ·obtain ⟨x,e1,h⟩:=bG h hs
  obtain ⟨j,e2,h⟩:=bG h hs
  obtain ⟨v,e3,h⟩:=bG h hs
  exact by_ (by simp only [kI,eG,e1,e2,e3,au]) h
 ·-- range
  obtain ⟨x,e1,h⟩:=bG h hs
  obtain ⟨i,e,h⟩:=cw h
  split at h
  ·rename_i hu
   obtain ⟨s,hx,h'⟩:=lC h
   exact new_ (by simp only [kI,eG,e,e1,au,hu,hx,aI]) h'
  ·cases h
 ·-- next
  obtain ⟨x,e1,h⟩:=bG h hs
  exact by_ (by simp only [kI,eG,e1,au]) h
 ·-- extract
  obtain ⟨x,e1,h⟩:=bG h hs
  obtain ⟨vs,rfl,h⟩:=HG h
  obtain ⟨v,e2,h⟩:=G9 h
  exact val (by simp only [kI,eG,e1,au,C7 e2,aI]) h
 ·-- call
  rename_i c
  obtain ⟨args,e1,h⟩:=sA h hs
  split at h
  ·rename_i b hc
   have e2:kI S fr (.call c)=eV S.T S.imm b c.argTypes.toList args:=by simp only [kI,eG,e1,au,hc]
   split at h
   ·rename_i x t ts x' ea et
    obtain ⟨i,e,h⟩:=cw h
    split at h
    ·rename_i hu
     obtain ⟨s,rfl,h⟩:=lC h
     exact val (by simp only [e2,et,eV,yf,e,au,hu,aI]) h
    ·rename_i ee hu
     obtain ⟨n,eo,h⟩:=bx h
     refine val ?_ h
     unfold QJ at eo
     split at eo
     ·cases eo;simp only [e2,et,eV,yf,e,au,hu,aI];rfl
     ·cases eo;simp only [e2,et,eV,yf,e,au,hu,aI]
     ·cases eo;simp only [e2,et,eV,yf,e,au,hu,aI]
     ·cases eo;simp only [e2,et,eV,yf,e,au,hu,aI]
     ·cases eo;simp only [e2,et,eV,yf,e,au,hu,aI];rfl
     ·cases eo
    ·exact by_ (by simp only [e2,et,eV]) h
   ·rename_i t xt s x et
    obtain ⟨i,e,h⟩:=cw h
    obtain ⟨xi,e',h⟩:=cw h
    split at h
    ·rename_i ee hu hn
     obtain ⟨ie,he,h⟩:=cw h
     unfold lT at h
     split at h
     ·rename_i new hnew
      split at h
      ·rename_i him
       exact by_ (by simp only [e2,et,eV,e,e',au,hu,hn,he,hnew,him]) h
      split at h
      ·rename_i him _ him2
       exact by_ (by simp only [e2,et,eV,e,e',au,hu,hn,he,hnew,him,him2]) h
      split at h
      ·rename_i him _ him2 _ him3
       exact by_ (by simp only [e2,et,eV,e,e',au,hu,hn,he,hnew,him,him2,him3]) h
      ·rename_i him _ him2 _ him3
       obtain ⟨new',h1,h⟩:=rP h
       obtain ⟨h2,h⟩:=dX h
       obtain ⟨v,x',hp,h⟩:=Hl (E:=E) h1 h2 h
       refine ⟨v,x',dT.of ?_ hp,h⟩
       simp only [e2,et,eV,e,e',au,hu,hn,he,hnew,him,him2,him3]
     ·cases h
    ·cases h
   ·exact by_ e2 h
  ·rename_i f hc
   obtain ⟨g,e2,h⟩:=bG h hs
   obtain ⟨v,st',x,eo,h⟩:=ni h
   obtain ⟨hp,rfl⟩:=sb hO eo
   refine ⟨v,x,dT.of ?_ hp,h⟩
   simp only [kI,eG,e1,e2,au,hc,gZ,aI]
   cases g <;> first | rfl | (rename_i f _ _;cases f <;> rfl)
  ·cases h
 ·cases h
end
section frame
variable {X:Cx}
theorem zp {fr:Fr} {d:Option Nat} {v:AV} {i:Nat} (h:d≠some i):(fr.put d v).look i=fr.look i:=by
 cases d with
 | none=>rfl
 | some d=>
  by_cases hd:d < fr.n
  ·rw [BK hd,if_neg fun e=>h (by rw [e])]
  ·have hb:d.blt fr.n=false:=cL.2 (by omega)
   have e:fr.put (some d) v=fr:=by simp only [Fr.put,hb]
   rw [e]
theorem uy {n:Nat}: ∀{l:List Nat},qV n l=true↔n∈l
 | []=>by simp [qV]
 | m::l=>by simp [qV,uy (l:=l)]
theorem jJ {all:List Oper} {draw:Bool}: ∀{l:List Oper} {j:Nat} {seen:List (Nat×Fx)} {fr fr':Fr} {st st':St},dJ X all draw j seen l fr st= .ok (fr',st')→
  fr'.n=fr.n∧ ∀i,i∉cN l→fr'.look i=fr.look i
 | [],_,_,_,_,_,_,h=>by simp only [dJ,Except.ok.injEq,Prod.mk.injEq] at h;obtain ⟨rfl,rfl⟩:=h;exact ⟨rfl,fun _ _=>rfl⟩
 | o::l,j,seen,fr,fr',st,st',h=>by
  simp only [dJ,ae] at h
  obtain ⟨⟨v,x⟩,_,h⟩:=h
  have key:fr'.n=(fr.put o.dst v).n∧ ∀i,i∉cN l→fr'.look i=(fr.put o.dst v).look i:=by
   dsimp only at h
   split at h
   ·exact jJ h
   ·split at h
    ·exact jJ h
    ·cases h
  refine ⟨key.1.trans (Fr.JC _ _ _),fun i hi=> ?_⟩
  have h1:i∉cN l∧o.dst≠some i:=by
   cases hd:o.dst with
   | none=>simp [cN,hd] at hi;exact ⟨hi,by simp⟩
   | some d=>
    simp [cN,hd] at hi
    exact ⟨hi.2,fun e=>hi.1 (by cases e;rfl)⟩
  rw [key.2 i h1.1,zp h1.2]
theorem jc {e:Nat→Option Nat} {all:List Oper}: ∀{l:List Oper} {j:Nat} {seen:List (Nat×Fx)} {fr fr':Fr} {st st':St},cX X e all j seen l fr st= .ok (fr',st')→
  fr'.n=fr.n∧ ∀i,i∉cN l→fr'.look i=fr.look i
 | [],_,_,_,_,_,_,h=>by simp only [cX,Except.ok.injEq,Prod.mk.injEq] at h;obtain ⟨rfl,rfl⟩:=h;exact ⟨rfl,fun _ _=>rfl⟩
 | o::l,j,seen,fr,fr',st,st',h=>by
  simp only [cX,ae] at h
  obtain ⟨⟨v,x⟩,_,h⟩:=h
  have key:fr'.n=(fr.put o.dst v).n∧ ∀i,i∉cN l→fr'.look i=(fr.put o.dst v).look i:=by
   dsimp only at h
   split at h
   ·exact jc h
   ·split at h
    ·exact jc h
    ·cases h
  refine ⟨key.1.trans (Fr.JC _ _ _),fun i hi=> ?_⟩
  have h1:i∉cN l∧o.dst≠some i:=by
   cases hd:o.dst with
   | none=>simp [cN,hd] at hi;exact ⟨hi,by simp⟩
   | some d=>
    simp [cN,hd] at hi
    exact ⟨hi.2,fun e=>hi.1 (by cases e;rfl)⟩
  rw [key.2 i h1.1,zp h1.2]
theorem wX {body:Fr→St→cV (Ex×Fr×St)} {W:List Nat} (hb: ∀fr st ex fr' st',body fr st= .ok (ex,fr',st')→fr'.n=fr.n∧ ∀i,i∉W→fr'.look i=fr.look i):
  ∀(n:Nat) {fr fr':Fr} {st st':St} {ex:Ex},iter body n fr st= .ok (ex,fr',st')→fr'.n=fr.n∧ ∀i,i∉W→fr'.look i=fr.look i
 | 0,_,_,_,_,_,h=>by simp [iter] at h
 | n+1,fr,fr',st,st',ex,h=>by
  simp only [iter,ae] at h
  obtain ⟨⟨ex1,fr1,st1⟩,h1,h2⟩:=h
  have k1:=hb _ _ _ _ _ h1
  cases ex1 with
  | normal=>
   have k2:=wX hb n h2
   exact ⟨k2.1.trans k1.1,fun i hi=>(k2.2 i hi).trans (k1.2 i hi)⟩
  | exit id=>
   simp only [ai,Prod.mk.injEq] at h2
   obtain ⟨_,rfl,_⟩:=h2
   exact k1
  | ret=>
   simp only [ai,Prod.mk.injEq] at h2
   obtain ⟨_,rfl,_⟩:=h2
   exact k1
theorem tg {n:Nat} {x:Operand} {ps:Array Tmp} {y c:Code} {fr fr':Fr} {st st':St} {ex:Ex} (h:exec X n (.rangeFunc x ps y c) fr st= .ok (ex,fr',st')):fr'=fr:=by
 simp only [exec] at h
 split at h
 ·cases h
 ·simp only [ae] at h
  obtain ⟨fv,h1,h⟩:=h
  split at h
  ·simp only [ae] at h
   obtain ⟨q,h2,o,h3,h4⟩:=h
   split at h4
   ·split at h4
    ·simp only [ai,Prod.mk.injEq] at h4
     exact h4.2.1.symm
    ·cases h4
   ·cases h4
  ·cases h
theorem lH {all:List Oper} {draw:Bool}: ∀{l:List Oper} {j:Nat} {seen:List (Nat×Fx)} {fr fr':Fr} {st st':St},dJ X all draw j seen l fr st= .ok (fr',st')→fr'.strict=fr.strict
 | [],_,_,_,_,_,_,h=>by simp only [dJ,Except.ok.injEq,Prod.mk.injEq] at h;rw [h.1]
 | o::l,j,seen,fr,fr',st,st',h=>by
  simp only [dJ,ae] at h
  obtain ⟨⟨v,x⟩,_,h⟩:=h
  have key:fr'.strict=(fr.put o.dst v).strict:=by
   dsimp only at h
   split at h
   ·exact lH h
   ·split at h
    ·exact lH h
    ·cases h
  exact key.trans (gI _ _ _)
theorem kz {e:Nat→Option Nat} {all:List Oper}: ∀{l:List Oper} {j:Nat} {seen:List (Nat×Fx)} {fr fr':Fr} {st st':St},cX X e all j seen l fr st= .ok (fr',st')→fr'.strict=fr.strict
 | [],_,_,_,_,_,_,h=>by simp only [cX,Except.ok.injEq,Prod.mk.injEq] at h;rw [h.1]
 | o::l,j,seen,fr,fr',st,st',h=>by
  simp only [cX,ae] at h
  obtain ⟨⟨v,x⟩,_,h⟩:=h
  have key:fr'.strict=(fr.put o.dst v).strict:=by
   dsimp only at h
   split at h
   ·exact kz h
   ·split at h
    ·exact kz h
    ·cases h
  exact key.trans (gI _ _ _)
theorem u3 {body:Fr→St→cV (Ex×Fr×St)} (hb: ∀fr st ex fr' st',body fr st= .ok (ex,fr',st')→fr'.strict=fr.strict): ∀(n:Nat) {fr fr':Fr} {st st':St} {ex:Ex},iter body n fr st= .ok (ex,fr',st')→fr'.strict=fr.strict
 | 0,_,_,_,_,_,h=>by simp [iter] at h
 | n+1,fr,fr',st,st',ex,h=>by
  simp only [iter,ae] at h
  obtain ⟨⟨ex1,fr1,st1⟩,h1,h2⟩:=h
  have k1:=hb _ _ _ _ _ h1
  cases ex1 with
  | normal=>exact (u3 hb n h2).trans k1
  | exit id=>
   simp only [ai,Prod.mk.injEq] at h2
   rw [← h2.2.1];exact k1
  | ret=>
   simp only [ai,Prod.mk.injEq] at h2
   rw [← h2.2.1];exact k1
theorem fw {n:Nat}: ∀(c:Code) {fr fr':Fr} {st st':St} {ex:Ex},exec X n c fr st= .ok (ex,fr',st')→fr'.strict=fr.strict
 | .skip,_,_,_,_,_,h | .label _,_,_,_,_,_,h | .exit _,_,_,_,_,_,h | .ret,_,_,_,_,_,h=>by
  simp only [exec,Except.ok.injEq,Prod.mk.injEq] at h;rw [h.2.1]
 | .goto _,_,_,_,_,_,h | .refuse _,_,_,_,_,_,h=>by simp [exec] at h
 | .rangeFunc ..,_,_,_,_,_,h=>by rw [tg h]
 | .scope c,_,_,_,_,_,h=>fw c h
 | .region _ _ _,_,_,_,_,_,h=>by
  simp only [exec] at h
  split at h <;> simp only [ae,ai] at h <;> obtain ⟨⟨fr1,st1⟩,h1,h2⟩:=h <;> simp only [Prod.mk.injEq] at h2 <;> obtain ⟨_,rfl,_⟩:=h2
  ·exact lH h1
  ·exact kz h1
 | .seq a b,_,_,_,_,_,h=>by
  simp only [exec,ae] at h
  obtain ⟨⟨ex1,fr1,st1⟩,h1,h2⟩:=h
  have k1:=fw a h1
  cases ex1 with
  | normal=>exact (fw b h2).trans k1
  | exit id=>simp only [ai,Prod.mk.injEq] at h2;rw [← h2.2.1];exact k1
  | ret=>simp only [ai,Prod.mk.injEq] at h2;rw [← h2.2.1];exact k1
 | .cond c a b,_,_,_,_,_,h=>by
  simp only [exec,ae] at h
  obtain ⟨cv,_,v,_,h3⟩:=h
  cases v
  ·exact fw b h3
  ·exact fw a h3
 | .block id c,_,_,_,_,_,h=>by
  simp only [exec,ae] at h
  obtain ⟨⟨ex1,fr1,st1⟩,h1,h2⟩:=h
  have k1:=fw c h1
  cases ex1 with
  | normal=>simp only [ai,Prod.mk.injEq] at h2;rw [← h2.2.1];exact k1
  | ret=>simp only [ai,Prod.mk.injEq] at h2;rw [← h2.2.1];exact k1
  | exit i=>
   dsimp only at h2
   split at h2 <;> (simp only [ai,Prod.mk.injEq] at h2;rw [← h2.2.1];exact k1)
 | .loop c,_,_,_,_,_,h=>by
  simp only [exec] at h
  exact u3 (fun _ _ _ _ _ h=>fw c h) n h
theorem eQ {n:Nat}: ∀(c:Code) {fr fr':Fr} {st st':St} {ex:Ex},exec X n c fr st= .ok (ex,fr',st')→fr'.n=fr.n∧ ∀i,i∉writes c→fr'.look i=fr.look i
 | .skip,_,_,_,_,_,h | .label _,_,_,_,_,_,h | .exit _,_,_,_,_,_,h | .ret,_,_,_,_,_,h=>by
  simp only [exec,Except.ok.injEq,Prod.mk.injEq] at h;obtain ⟨_,rfl,_⟩:=h;exact ⟨rfl,fun _ _=>rfl⟩
 | .goto _,_,_,_,_,_,h | .refuse _,_,_,_,_,_,h=>by simp [exec] at h
 | .rangeFunc ..,_,_,_,_,_,h=>by
  obtain rfl:=tg h
  exact ⟨rfl,fun _ _=>rfl⟩
 | .scope c,_,_,_,_,_,h=>eQ c h
 | .region _ _ _,_,_,_,_,_,h=>by
  simp only [exec] at h
  split at h
  ·simp only [ae,ai] at h
   obtain ⟨⟨fr1,st1⟩,h1,h2⟩:=h
   simp only [Prod.mk.injEq] at h2
   obtain ⟨_,rfl,_⟩:=h2
   exact jJ h1
  ·simp only [ae,ai] at h
   obtain ⟨⟨fr1,st1⟩,h1,h2⟩:=h
   simp only [Prod.mk.injEq] at h2
   obtain ⟨_,rfl,_⟩:=h2
   exact jc h1
 | .seq a b,_,_,_,_,_,h=>by
  simp only [exec,ae] at h
  obtain ⟨⟨ex1,fr1,st1⟩,h1,h2⟩:=h
  have k1:=eQ a h1
  cases ex1 with
  | normal=>
   have k2:=eQ b h2
   exact ⟨k2.1.trans k1.1,fun i hi=>by
    simp only [writes,List.mem_append,not_or] at hi
    exact (k2.2 i hi.2).trans (k1.2 i hi.1)⟩
  | exit id=>
   simp only [ai,Prod.mk.injEq] at h2
   obtain ⟨_,rfl,_⟩:=h2
   exact ⟨k1.1,fun i hi=>k1.2 i fun hm=>hi (List.mem_append.2 (.inl hm))⟩
  | ret=>
   simp only [ai,Prod.mk.injEq] at h2
   obtain ⟨_,rfl,_⟩:=h2
   exact ⟨k1.1,fun i hi=>k1.2 i fun hm=>hi (List.mem_append.2 (.inl hm))⟩
 | .cond c a b,_,_,_,_,_,h=>by
  simp only [exec,ae] at h
  obtain ⟨cv,_,v,_,h3⟩:=h
  cases v
  ·have k:=eQ b h3
   exact ⟨k.1,fun i hi=>k.2 i fun hm=>hi (List.mem_append.2 (.inr hm))⟩
  ·have k:=eQ a h3
   exact ⟨k.1,fun i hi=>k.2 i fun hm=>hi (List.mem_append.2 (.inl hm))⟩
 | .block id c,_,_,_,_,_,h=>by
  simp only [exec,ae] at h
  obtain ⟨⟨ex1,fr1,st1⟩,h1,h2⟩:=h
  have k1:=eQ c h1
  cases ex1 with
  | normal=>simp only [ai,Prod.mk.injEq] at h2;obtain ⟨_,rfl,_⟩:=h2;exact k1
  | ret=>simp only [ai,Prod.mk.injEq] at h2;obtain ⟨_,rfl,_⟩:=h2;exact k1
  | exit i=>
   dsimp only at h2
   split at h2 <;> (simp only [ai,Prod.mk.injEq] at h2;obtain ⟨_,rfl,_⟩:=h2;exact k1)
 | .loop c,_,_,_,_,_,h=>by
  simp only [exec] at h
  exact wX (fun _ _ _ _ _ h=>eQ c h) n h
end frame
section
variable {β:Type} {r:β} {N:Nat} {E:Env}
theorem Sub.put {p:PF} {fr:Fr} {d:Nat} {v:AV} (hs:Sub N p fr) (hd:d < N):Sub N ((d,v)::p) (fr.put (some d) v):=by
 refine ⟨(Fr.JC _ _ _).trans hs.1,fun i u hu=> ?_⟩
 rw [PF.lx] at hu
 rw [BK (by rw [hs.1];exact hd)]
 split at hu
 ·rename_i e;rw [if_pos e];cases hu;rfl
 ·rename_i e;rw [if_neg e];exact hs.2 i u hu
theorem Sub.HD {p:PF} {fr:Fr} {d:Nat} {v:AV} (hs:Sub N p fr) (hd:fr.look d=some v):Sub N ((d,v)::p) fr:=by
 refine ⟨hs.1,fun i u hu=> ?_⟩
 rw [PF.lx] at hu
 split at hu
 ·rename_i e;cases hu;rw [← e];exact hd
 ·exact hs.2 i u hu
theorem nu {d:Option Tmp} {v:AV} {p:PF} {fr:Fr} {K:PF→Option β} (h:vY N d v p K=some r) (hs:Sub N p fr): ∃p',Sub N p' (fr.put d v)∧K p'=some r:=by
 cases d with
 | none=>exact ⟨p,hs,h⟩
 | some d=>
  simp only [vY] at h
  split at h
  ·rename_i hb
   exact ⟨_,hs.put (cY.1 hb),h⟩
  ·cases h
theorem uH {all:List Oper} {p:PF} {fr:Fr} {g:Option (Nat×Bool)} {yes no:PF→Option β} (h:AE all p g yes no=some r) (hs:Sub N p fr):
  (wanted all fr g=true∧ ∃p',Sub N p' fr∧yes p'=some r)∨(wanted all fr g=false∧ ∃p',Sub N p' fr∧no p'=some r):=by
 unfold AE at h
 split at h
 ·exact .inl ⟨rfl,p,hs,h⟩
 ·rename_i j want
  split at h
  ·rename_i d hd
   split at h
   ·rename_i v hv
    have hk:=hs.2 _ _ hv
    have hg:=sd hk
    split at h
    ·rename_i b
     have hw:wanted all fr (some (j,want))=(b==want):=by simp only [wanted,hd,hg]
     cases want <;> cases b
     ·exact .inl ⟨by rw [hw];rfl,_,hs.HD hk,h⟩
     ·exact .inr ⟨by rw [hw];rfl,_,hs.HD hk,h⟩
     ·exact .inr ⟨by rw [hw];rfl,_,hs.HD hk,h⟩
     ·exact .inl ⟨by rw [hw];rfl,_,hs.HD hk,h⟩
    ·rename_i hno
     refine .inr ⟨?_,p,hs,h⟩
     simp only [wanted,hd,hg]
   ·cases h
  ·cases h
theorem pE {ops:List Oper} {j:Nat} {x:Fx}: ∀{seen:List (Nat×Fx)},oj ops j x seen=true→ ∀seen':List (Nat×Fx),(∀y∈seen',y∈seen)→oD ops j x seen'=true
 | seen,h,[],_=>rfl
 | seen,h,(i,y)::l,hsub=>by
  have h1: ∀(s:List (Nat×Fx)),oj ops j x s=true→(i,y)∈s→(behind ops (j+1) j i||apart y x)=true:=by
   intro s hs hm
   induction s with
   | nil=>cases hm
   | cons a s ih=>
    obtain ⟨i',y'⟩:=a
    simp only [oj,Bool.and_eq_true] at hs
    rcases List.mem_cons.1 hm with e | hm
    ·cases e;exact hs.1
    ·exact ih hs.2 hm
  simp only [oD,Bool.and_eq_true]
  refine ⟨?_,pE h l fun y hy=>hsub y (List.mem_cons_of_mem _ hy)⟩
  rw [Bool.or_comm]
  exact h1 seen h (hsub _ (List.mem_cons_self ..))
def cx (S:Sx) (E:Env) (n:Nat):Cx:=⟨S.T,S.prim,S.imm,S.G,caller E n⟩
theorem qp {S:Sx} (hO:LS E S.O) {all:List Oper} {draw:Bool}: ∀{l:List Oper} {j:Nat} {seen seen':List (Nat×Fx)} {p:PF} {fr:Fr} {st:St} {K:PF→St→Option β},
  A6 S N all draw j seen l p st K=some r→Sub N p fr→(∀y∈seen',y∈seen)→ ∃fr' st' p',(jr fun n=>dJ (cx S E n) all draw j seen' l fr st= .ok (fr',st'))∧Sub N p' fr'∧K p' st'=some r
 | [],_,_,_,p,fr,st,_,h,hs,_=>⟨fr,st,p,jr.always fun _=>rfl,hs,h⟩
 | o::l,j,seen,seen',p,fr,st,K,h,hs,hsub=>by
  simp only [A6] at h
  rcases uH h hs with ⟨hw,p1,hs1,h⟩ | ⟨hw,p1,hs1,h⟩
  ·obtain ⟨v,x,hp,h⟩:=Fk hO h hs1
   have h:=jn (K:=fun v=>match draw with
    | false=>vY N o.dst v p1 fun p=>A6 S N all draw (j+1) seen l p (x.did.app st) K
    | true=>cQ (oj all j x seen) (vY N o.dst v p1 fun p=>A6 S N all draw (j+1) ((j,x)::seen) l p (x.did.app st) K)) h
   have hop: ∀n,(kI S fr o.op >>= aD (caller E n) st)= .ok (v,x)→oper (cx S E n) all fr st o= .ok (v,x):=fun n e=>by
    simp only [oper,hw];exact e
   cases draw with
   | false=>
    obtain ⟨p2,hs2,h⟩:=nu h hs1
    obtain ⟨fr',st',p',hev,hs',hK⟩:=qp hO (seen':=seen') h hs2 hsub
    refine ⟨fr',st',p',(hp.both hev).lift fun n hn=> ?_,hs',hK⟩
    simp only [dJ,hop n hn.1,au,Bool.false_and]
    exact hn.2
   | true=>
    obtain ⟨ho,h⟩:=dX h
    obtain ⟨p2,hs2,h⟩:=nu h hs1
    cases hq:quiet x with
    | true=>
     obtain ⟨fr',st',p',hev,hs',hK⟩:=qp hO (seen':=seen') h hs2 fun y hy=>List.mem_cons_of_mem _ (hsub y hy)
     refine ⟨fr',st',p',(hp.both hev).lift fun n hn=> ?_,hs',hK⟩
     simp only [dJ,hop n hn.1,au,hq,Bool.not_true,Bool.and_false]
     exact hn.2
    | false=>
     obtain ⟨fr',st',p',hev,hs',hK⟩:=qp hO (seen':=(j,x)::seen') h hs2 fun y hy=>by
      rcases List.mem_cons.1 hy with e | hy
      ·rw [e];exact List.mem_cons_self ..
      ·exact List.mem_cons_of_mem _ (hsub y hy)
     refine ⟨fr',st',p',(hp.both hev).lift fun n hn=> ?_,hs',hK⟩
     simp only [dJ,hop n hn.1,au,hq,Bool.not_false,Bool.and_self,pE ho seen' hsub]
     exact hn.2
  ·obtain ⟨p2,hs2,h⟩:=nu h hs1
   obtain ⟨fr',st',p',hev,hs',hK⟩:=qp hO (seen':=seen') h hs2 hsub
   refine ⟨fr',st',p',hev.lift fun n hn=> ?_,hs',hK⟩
   have:oper (cx S E n) all fr st o= .ok (undef,⟨[],.kept⟩):=by simp only [oper,hw]
   simp only [dJ,this,au,quiet,List.isEmpty_nil,Bool.not_true,Bool.and_false]
   exact hn
theorem C3 {T:TT} {t:TypeId} {i:TI} {nm:Nat} {st:St} {K:Kv β} (hi:ti T t= .ok i) (h:Dk t i.zero nm st K=some r): ∃v x,uV T t nm st= .ok (v,x)∧K v (x.did.app st) x=some r:=by
 unfold Dk lZ at h
 obtain ⟨⟨v,st',x⟩,h1,h2⟩:=bx h
 unfold JD at h1
 split at h1
 ·rename_i hg
  unfold ja at h1
  split at h1
  ·rename_i hro
   cases h1
   exact ⟨_,_,BX (ck.1 hi) hg (Nat.le_of_ble_eq_true hro),h2⟩
  ·cases h1
 ·cases h1
theorem pq {S:Sx} (hO:LS E S.O) {e:Nat→Option Nat} {all:List Oper}: ∀{l:List Oper} {j:Nat} {seen seen':List (Nat×Fx)} {p:PF} {fr:Fr} {st:St} {K:PF→St→Option β},
  rv S N e all j seen l p st K=some r→Sub N p fr→(∀y∈seen',y∈seen)→ ∃fr' st' p',(jr fun n=>cX (cx S E n) e all j seen' l fr st= .ok (fr',st'))∧Sub N p' fr'∧K p' st'=some r
 | [],_,_,_,p,fr,st,_,h,hs,_=>⟨fr,st,p,jr.always fun _=>rfl,hs,h⟩
 | o::l,j,seen,seen',p,fr,st,K,h,hs,hsub=>by
  simp only [rv] at h
  rcases uH h hs with ⟨hw,p1,hs1,h⟩ | ⟨hw,p1,hs1,h⟩
  ·have key: ∃v x,(jr fun n=>fm (cx S E n) e all fr st o= .ok (v,x))∧B2 (AL o.op) S.T o.type v (fun v=>cQ (oj all j x seen) (vY N o.dst v p1 fun p=>rv S N e all (j+1) ((j,x)::seen) l p (x.did.app st) K))=some r:=by
    unfold PB at h
    split at h
    ·rename_i t nm hh
     obtain ⟨i,hi,h⟩:=cw h
     obtain ⟨v,x,h1,h2⟩:=C3 hi h
     refine ⟨v,x,jr.always fun n=> ?_,h2⟩
     simp only [fm,hw,hh]
     exact h1
    ·rename_i hh
     obtain ⟨v,x,hp,h⟩:=Fk hO h hs1
     refine ⟨v,x,jr.lift hp fun n e1=> ?_,h⟩
     simp only [fm,hw,hh]
     exact e1
   obtain ⟨v,x,hop,h⟩:=key
   have h:=jn (K:=fun v=>cQ (oj all j x seen) (vY N o.dst v p1 fun p=>rv S N e all (j+1) ((j,x)::seen) l p (x.did.app st) K)) h
   obtain ⟨ho,h⟩:=dX h
   obtain ⟨p2,hs2,h⟩:=nu h hs1
   cases hq:quiet x with
   | true=>
    obtain ⟨fr',st',p',hev,hs',hK⟩:=pq hO (seen':=seen') h hs2 fun y hy=>List.mem_cons_of_mem _ (hsub y hy)
    refine ⟨fr',st',p',(hop.both hev).lift fun n hn=> ?_,hs',hK⟩
    simp only [cX,hn.1,au,hq,Bool.not_true]
    exact hn.2
   | false=>
    obtain ⟨fr',st',p',hev,hs',hK⟩:=pq hO (seen':=(j,x)::seen') h hs2 fun y hy=>by
     rcases List.mem_cons.1 hy with e | hy
     ·rw [e];exact List.mem_cons_self ..
     ·exact List.mem_cons_of_mem _ (hsub y hy)
    refine ⟨fr',st',p',(hop.both hev).lift fun n hn=> ?_,hs',hK⟩
    simp only [cX,hn.1,au,hq,Bool.not_false,pE ho seen' hsub]
    exact hn.2
  ·obtain ⟨p2,hs2,h⟩:=nu h hs1
   obtain ⟨fr',st',p',hev,hs',hK⟩:=pq hO (seen':=seen') h hs2 hsub
   refine ⟨fr',st',p',hev.lift fun n hn=> ?_,hs',hK⟩
   have:fm (cx S E n) e all fr st o= .ok (undef,⟨[],.kept⟩):=by simp only [fm,hw]
   simp only [cX,this,au,quiet,List.isEmpty_nil,Bool.not_true]
   exact hn
theorem yE {K:St→Option β}: ∀{l:List Nat} {st:St},MJ st l K=some r→K (st.lay l)=some r
 | [],_,h=>h
 | _::l,st,h=>yE (l:=l) (st:=(st.new .xx).2) h
def Kh (fr:Fr):List Nat→List AV→Prop
 | [],vs=>vs=[]
 | i::l,vs=> ∃v vs',vs=v::vs'∧fr.look i=some v∧Kh fr l vs'
theorem dt: ∀{l:List Nat} {p:PF} {fr:Fr} {K:List AV→Option β},getAll p l K=some r→Sub N p fr→ ∃vs,Kh fr l vs∧K vs=some r
 | [],_,_,_,h,_=>⟨[],rfl,h⟩
 | i::l,p,fr,K,h,hs=>by
  simp only [getAll] at h
  split at h
  ·rename_i v hv
   obtain ⟨vs,hvs,h⟩:=dt h hs
   exact ⟨v::vs,⟨v,vs,rfl,hs.2 _ _ hv,hvs⟩,h⟩
  ·cases h
theorem ef {T:TT} {tys:List (Nat×TypeId)}: ∀{l:List Nat} {vs:List AV} {p:PF} {fr:Fr} {K:PF→Option β},gR T tys l vs p K=some r→Kh fr l vs→Sub N p fr→ ∃p',Sub N p' fr∧K p'=some r
 | [],vs,p,fr,K,h,_,hs=>by
  obtain ⟨_,h⟩:=CP h
  exact ⟨p,hs,h⟩
 | i::l,vs,p,fr,K,h,hv,hs=>by
  obtain ⟨v,vs',rfl,hd⟩:=BO h
  obtain ⟨v',vs'',e,hg,hvs⟩:=hv
  cases e
  have h:(gR T tys l vs' p fun p=>K ((i,v)::p))=some r:=by
   unfold ES at hd
   split at hd
   ·exact jn (K:=fun v=>gR T tys l vs' p fun p=>K ((i,v)::p)) hd
   ·exact hd
  obtain ⟨p',hs',h⟩:=ef h hvs hs
  exact ⟨_,hs'.HD hg,h⟩
theorem qb {W:List Nat} {i:Nat} {v:AV}: ∀{p:PF},PF.get (erase W p) i=some v→PF.get p i=some v∧i∉W
 | [],h=>by cases h
 | (k,u)::p,h=>by
  simp only [erase] at h
  split at h
  ·rename_i he
   have ih:=qb h
   refine ⟨?_,ih.2⟩
   rw [PF.lx,if_neg]
   ·exact ih.1
   ·rintro rfl;exact ih.2 (uy.1 he)
  ·rename_i he
   rw [PF.lx] at h
   split at h
   ·rename_i e
    refine ⟨by rw [PF.lx,if_pos e];exact h,fun hm=> ?_⟩
    rw [← e] at hm
    rw [uy.2 hm] at he;cases he
   ·rename_i e
    have ih:=qb h
    exact ⟨by rw [PF.lx,if_neg e];exact ih.1,ih.2⟩
theorem Sub.erased {W:List Nat} {p:PF} {fr fr':Fr} (hs:Sub N p fr) (hn:fr'.n=fr.n) (hf: ∀i,i∉W→fr'.look i=fr.look i):Sub N (erase W p) fr':=
 ⟨hn.trans hs.1,fun i v hv=>(hf i (qb hv).2).trans (hs.2 i v (qb hv).1)⟩
end
section
variable {β:Type} {r:β}
theorem og {σ:Type} {F:σ→Option (Sum σ β)} {s:σ} (h:bu F s=some r): ∃n,my F n s=some r:=by
 unfold bu at h
 split at h
 ·rename_i hx
  cases h
  exact hx.choose_spec
 ·cases h
theorem rU {σ:Type} {F:σ→Option (Sum σ β)}: ∀{n m:Nat} {s:σ},n≤m→my F n s=some r→my F m s=some r
 | 0,_,_,_,h=>by cases h
 | n+1,0,_,hn,_=>by omega
 | n+1,m+1,s,hn,h=>by
  simp only [my] at h ⊢
  split at h
  ·exact rU (by omega) h
  ·exact h
  ·cases h
theorem wj {σ:Type} {F:σ→Option (Sum σ β)} {s:σ} {n:Nat} (h:my F n s=some r):bu F s=some r:=by
 have hx: ∃r n,my F n s=some r:=⟨r,n,h⟩
 unfold bu
 rw [dif_pos hx]
 obtain ⟨m,hm⟩:=hx.choose_spec
 have h1:=rU (Nat.le_max_left m n) hm
 have h2:=rU (Nat.le_max_right m n) h
 rw [h1] at h2
 exact h2
theorem CU {σ:Type} (F:σ→Option (Sum σ β)) (s:σ):bu F s=match F s with
  | some (.inl s')=>bu F s'
  | some (.inr r)=>some r
  | none=>none:=by
 cases e:F s with
 | none=>
  cases h:bu F s with
  | none=>rfl
  | some r=>
   obtain ⟨n,hn⟩:=og h
   cases n with
   | zero=>cases hn
   | succ n=>simp [my,e] at hn
 | some x=>
  cases x with
  | inr r=>exact wj (n:=1) (by simp [my,e])
  | inl s'=>
   dsimp only
   cases h:bu F s' with
   | some r=>
    obtain ⟨n,hn⟩:=og h
    exact wj (n:=n+1) (by simp only [my,e];exact hn)
   | none=>
    cases h':bu F s with
    | none=>rfl
    | some r=>
     obtain ⟨n,hn⟩:=og h'
     cases n with
     | zero=>cases hn
     | succ n=>
      simp only [my,e] at hn
      rw [wj hn] at h;cases h
theorem zo {K:Ex→Option β} {x:Ex}: ∀{l:List Ex} {n k:Nat},zB x l n=some k→n≤k∧NF K l (k - n)=K x
 | [],_,_,h=>by cases h
 | y::l,n,k,h=>by
  simp only [zB] at h
  split at h
  ·rename_i e
   have e:=of_decide_eq_true e
   cases h
   refine ⟨Nat.le_refl _, ?_⟩
   rw [Nat.sub_self, ← e]
   cases l <;> rfl
  ·obtain ⟨h1,h2⟩:=zo (K:=K) h
   refine ⟨by omega, ?_⟩
   cases l with
   | nil=>cases h
   | cons z l=>
    have:k - n=(k - (n+1))+1:=by omega
    rw [this]
    exact h2
end
section
variable {N:Nat} {E:Env}
theorem jK {S:Sx} (hO:LS E S.O) {tys:List (Nat×TypeId)}: ∀(c:Code) {live:List Nat} {β:Type} {r:β} {p:PF} {fr:Fr} {st:St} {K:Ex→PF→St→Option β},
  kR S N tys c live p st K=some r→Sub N p fr→(fr.strict=true→ch c=true)→ ∃ex fr' st' p',(jr fun n=>exec (cx S E n) n c fr st= .ok (ex,fr',st'))∧Sub N p' fr'∧K ex p' st'=some r
 | .skip,_,_,_,p,fr,st,_,h,hs,_=>⟨.normal,fr,st,p,jr.always fun _=>rfl,hs,h⟩
 | .label _,_,_,_,p,fr,st,_,h,hs,_=>⟨.normal,fr,st,p,jr.always fun _=>rfl,hs,h⟩
 | .exit i,_,_,_,p,fr,st,_,h,hs,_=>⟨.exit i,fr,st,p,jr.always fun _=>rfl,hs,h⟩
 | .ret,_,_,_,p,fr,st,_,h,hs,_=>⟨.ret,fr,st,p,jr.always fun _=>rfl,hs,h⟩
 | .goto _,_,_,_,_,_,_,_,h,_,_ | .refuse _,_,_,_,_,_,_,_,h,_,_=>by simp [kR] at h
 | .rangeFunc g ps a c,live,β,r,p,fr,st,K,h,hs,hst=>by
  have hf:fr.strict=false:=by
   cases e:fr.strict with
   | false=>rfl
   | true=>exact absurd (hst e) (by simp [ch])
  simp only [kR] at h
  obtain ⟨fv,e1,h⟩:=bG h hs
  obtain ⟨vs,hvs,h⟩:=dt h hs
  have hvs:vs=jN fr (nO ps.toList a c):=by
   clear h
   generalize nO ps.toList a c=us at hvs
   induction us generalizing vs with
   | nil=>exact hvs
   | cons u us ih=>
    obtain ⟨v,vs',rfl,h1,h2⟩:=hvs
    rw [ih vs' h2,jN,sd h1]
  subst hvs
  unfold Ib at h
  split at h
  ·rename_i f cap _
   obtain ⟨⟨v,st1⟩,h1,h⟩:=bx h
   unfold QK at h
   dsimp only at h
   split at h
   ·rename_i imm1 ps1 a1 c1 fr1 s p1 hg
    obtain ⟨hsp,h⟩:=dX h
    have hJ: ∀l:List Ex,Bf p1 (fun ex=>K ex p (st1.put st.h .dead)) l=some r→K p1 p (st1.put st.h .dead)=some r:=by
     intro l
     induction l with
     | nil=>intro h;cases h
     | cons x l ih=>
      intro h
      simp only [Bf,HS] at h
      cases hd:decide (p1=x) with
      | true=>rw [hd] at h;rw [of_decide_eq_true hd] at h ⊢;exact h
      | false=>rw [hd] at h;exact ih h
    refine ⟨p1,fr,st1.put st.h .dead,p,(hO.wide _ _ _ _ h1).lift fun n hn=> ?_,hs,hJ _ h⟩
    have e1:bQ (cx S E n).G fr g= .ok (.fn (.func f) [] cap):=e1
    have hn:(cx S E n).C.wide f (.yld st.h::cap) (st.new (.loop (cx S E n).imm ps.toList a c (GP fr.n (nO ps.toList a c) (jN fr (nO ps.toList a c))) 0 .normal)).2= .ok (v,st1):=by
     rw [hs.1];exact hn
    simp only [exec,hf,e1,au,hn,hg,hsp,aI]
   ·cases h
  ·cases h
 | .scope c,live,β,r,p,fr,st,K,h,hs,hst=>jK hO c (live:=live) h hs fun e=>absurd (hst e) (by simp [ch])
 | .region id ops draw,live,β,r,p,fr,st,K,h,hs,_=>by
  simp only [kR] at h
  split at h
  ·rename_i hd
   have hd: ∀n,(draw&&(cx S E n).imm 4000000)=false:=fun n=>hd
   split at h
   ·obtain ⟨fr',st',p',hev,hs',hK⟩:=qp hO (seen':=[]) h hs (fun _ hy=>by cases hy)
    exact ⟨.normal,fr',st',p',hev.lift fun n hn=>by simp only [exec,hd n,hn,au,aI],hs',hK⟩
   ·obtain ⟨c,h1,h2⟩:=bx h
    obtain ⟨fr',st',p',hev,hs',hK⟩:=qp hO (seen':=[]) h1 hs (fun _ hy=>by cases hy)
    obtain ⟨vs,hvs,e⟩:=dt hK hs'
    cases e
    obtain ⟨m,hm⟩:=hev
    have hf:=jJ (hm m (Nat.le_refl _))
    obtain ⟨p2,hs2,hK2⟩:=ef h2 hvs (hs.erased hf.1 hf.2)
    exact ⟨.normal,fr',st',p2,⟨m,fun n hn=>by simp only [exec,hd n,hm n hn,au,aI]⟩,hs2,hK2⟩
  ·rename_i hd
   have hd: ∀n,(draw&&(cx S E n).imm 4000000)=true:=fun n=>hd
   have h:=yE (K:=fun st'=>match tm ops.toList with
    | false=>rv S N (zO st.h (oy ops.toList)) ops.toList 0 [] ops.toList p st' fun p st=>K .normal p st
    | true=>let ws:=dedup (ry live (cN ops.toList))
     aK (rv (β:=dK) S N (zO st.h (oy ops.toList)) ops.toList 0 [] ops.toList p st' fun p st=>getAll p ws fun vs=>some (vs,st)) fun c=>
      gR S.T tys ws c.1 (erase (cN ops.toList) p) fun p=>K .normal p c.2) h
   dsimp only at h
   split at h
   ·obtain ⟨fr',st',p',hev,hs',hK⟩:=pq hO (seen':=[]) h hs (fun _ hy=>by cases hy)
    exact ⟨.normal,fr',st',p',hev.lift fun n hn=>by simp only [exec,hd n,hn,au,aI],hs',hK⟩
   ·obtain ⟨c,h1,h2⟩:=bx h
    obtain ⟨fr',st',p',hev,hs',hK⟩:=pq hO (seen':=[]) h1 hs (fun _ hy=>by cases hy)
    obtain ⟨vs,hvs,e⟩:=dt hK hs'
    cases e
    obtain ⟨m,hm⟩:=hev
    have hf:=jc (hm m (Nat.le_refl _))
    obtain ⟨p2,hs2,hK2⟩:=ef h2 hvs (hs.erased hf.1 hf.2)
    exact ⟨.normal,fr',st',p2,⟨m,fun n hn=>by simp only [exec,hd n,hm n hn,au,aI]⟩,hs2,hK2⟩
 | .seq a b,live,β,r,p,fr,st,K,h,hs,hst=>by
  have hst:fr.strict=true→ch a=true∧ch b=true:=fun e=>by have:=hst e;simpa [ch] using this
  simp only [kR] at h
  obtain ⟨ex,fr1,st1,p1,hev,hs1,hK⟩:=jK hO a h hs fun e=>(hst e).1
  have h1s:fr1.strict=fr.strict:=by
   obtain ⟨m,hm⟩:=hev
   exact fw _ (hm m (Nat.le_refl _))
  cases ex with
  | normal=>
   obtain ⟨ex,fr2,st2,p2,hev2,hs2,hK2⟩:=jK hO b hK hs1 fun e=>(hst (h1s ▸ e)).2
   exact ⟨ex,fr2,st2,p2,(hev.both hev2).lift fun n hn=>by simp only [exec,hn.1,au,hn.2],hs2,hK2⟩
  | exit i=>exact ⟨.exit i,fr1,st1,p1,hev.lift fun n hn=>by simp only [exec,hn,au,aI],hs1,hK⟩
  | ret=>exact ⟨.ret,fr1,st1,p1,hev.lift fun n hn=>by simp only [exec,hn,au,aI],hs1,hK⟩
 | .cond c a b,live,β,r,p,fr,st,K,h,hs,hst=>by
  have hst:fr.strict=true→ch a=true∧ch b=true:=fun e=>by have:=hst e;simpa [ch] using this
  simp only [kR] at h
  obtain ⟨cv,e1,h⟩:=bG h hs
  obtain ⟨bv,rfl,h⟩:=xY h
  have fin: ∀{ex fr' st'},(jr fun n=>exec (cx S E n) n (bif bv then a else b) fr st= .ok (ex,fr',st'))→jr fun n=>exec (cx S E n) n (.cond c a b) fr st= .ok (ex,fr',st'):=fun h=>h.lift fun n hn=>by
   have e1:bQ (cx S E n).G fr c= .ok (.bool bv):=e1
   cases bv <;> (simp only [exec,e1,au,VM.asBool];exact hn)
  have two: ∀{γ:Type} {q:γ} {J:Ex→PF→St→Option γ},(bI bv (kR S N tys a live p st J) (kR S N tys b live p st J))=some q→
    ∃ex fr' st' p',(jr fun n=>exec (cx S E n) n (bif bv then a else b) fr st= .ok (ex,fr',st'))∧Sub N p' fr'∧J ex p' st'=some q:=by
   intro γ q J h
   cases bv
   ·exact jK hO b h hs fun e=>(hst e).2
   ·exact jK hO a h hs fun e=>(hst e).1
  have outs: ∀{ex fr' st'},(jr fun n=>exec (cx S E n) n (bif bv then a else b) fr st= .ok (ex,fr',st'))→fr'.n=fr.n∧ ∀i,i∉writes a++writes b→fr'.look i=fr.look i:=by
   rintro ex fr' st' ⟨m,hm⟩
   have:=eQ _ (hm m (Nat.le_refl _))
   refine ⟨this.1,fun i hi=>this.2 i fun hm=>hi ?_⟩
   cases bv
   ·exact List.mem_append.2 (.inr hm)
   ·exact List.mem_append.2 (.inl hm)
  split at h
  ·obtain ⟨ex,fr',st',p',hev,hs',hK⟩:=two h
   exact ⟨ex,fr',st',p',fin hev,hs',hK⟩
  ·split at h
   ·obtain ⟨q,h1,h2⟩:=bx h
    obtain ⟨ex,fr',st',p',hev,hs',hK⟩:=two h1
    have hf:=outs hev
    cases ex with
    | normal=>
     obtain ⟨vs,hvs,e⟩:=dt hK hs'
     cases e
     obtain ⟨p2,hs2,hK2⟩:=ef h2 hvs (hs.erased hf.1 hf.2)
     exact ⟨.normal,fr',st',p2,fin hev,hs2,hK2⟩
    | exit i=>cases hK
    | ret=>cases hK
   ·obtain ⟨q,h1,h2⟩:=bx h
    obtain ⟨ex,fr',st',p',hev,hs',hK⟩:=two h1
    have hf:=outs hev
    cases ex with
    | normal=>
     obtain ⟨vs,hvs,e⟩:=dt hK hs'
     cases e
     obtain ⟨p2,hs2,hK2⟩:=ef h2 hvs (hs.erased hf.1 hf.2)
     exact ⟨.normal,fr',st',p2,fin hev,hs2,hK2⟩
    | exit i=>
     obtain ⟨q',h3,e⟩:=bx hK
     cases e
     cases h2
     exact ⟨_,fr',st',p',fin hev,hs',h3⟩
    | ret=>
     obtain ⟨q',h3,e⟩:=bx hK
     cases e
     cases h2
     exact ⟨_,fr',st',p',fin hev,hs',h3⟩
 | .block id c,live,β,r,p,fr,st,K,h,hs,hst=>by
  simp only [kR] at h
  split at h
  ·obtain ⟨ex,fr1,st1,p1,hev,hs1,hK⟩:=jK hO c h hs hst
   cases ex with
   | normal=>exact ⟨.normal,fr1,st1,p1,hev.lift fun n hn=>by simp only [exec,hn,au,aI],hs1,hK⟩
   | ret=>exact ⟨.ret,fr1,st1,p1,hev.lift fun n hn=>by simp only [exec,hn,au,aI],hs1,hK⟩
   | exit i=>
    dsimp only at hK
    split at hK
    ·rename_i hi
     exact ⟨.normal,fr1,st1,p1,hev.lift fun n hn=>by simp only [exec,hn,au,aI,hi],hs1,hK⟩
    ·rename_i hi
     exact ⟨.exit i,fr1,st1,p1,hev.lift fun n hn=>by simp only [exec,hn,au,aI,hi],hs1,hK⟩
  ·obtain ⟨q,h1,h2⟩:=bx h
   obtain ⟨ex,fr',st',p',hev,hs',hK⟩:=jK hO c h1 hs hst
   have hf:fr'.n=fr.n∧ ∀i,i∉writes c→fr'.look i=fr.look i:=by
    obtain ⟨m,hm⟩:=hev
    exact eQ _ (hm m (Nat.le_refl _))
   cases ex with
   | normal=>
    obtain ⟨vs,hvs,e⟩:=dt hK hs'
    cases e
    obtain ⟨p2,hs2,hK2⟩:=ef h2 hvs (hs.erased hf.1 hf.2)
    exact ⟨.normal,fr',st',p2,hev.lift fun n hn=>by simp only [exec,hn,au,aI],hs2,hK2⟩
   | exit i=>
    dsimp only at hK
    split at hK
    ·rename_i hi
     obtain ⟨vs,hvs,e⟩:=dt hK hs'
     cases e
     obtain ⟨p2,hs2,hK2⟩:=ef h2 hvs (hs.erased hf.1 hf.2)
     exact ⟨.normal,fr',st',p2,hev.lift fun n hn=>by simp only [exec,hn,au,aI,hi],hs2,hK2⟩
    ·rename_i hi
     obtain ⟨q',h3,e⟩:=bx hK
     cases e
     cases h2
     exact ⟨.exit i,fr',st',p',hev.lift fun n hn=>by simp only [exec,hn,au,aI,hi],hs',h3⟩
   | ret=>
    obtain ⟨q',h3,e⟩:=bx hK
    cases e
    cases h2
    exact ⟨.ret,fr',st',p',hev.lift fun n hn=>by simp only [exec,hn,au,aI],hs',h3⟩
 | .loop c,live,β,r,p,fr,st,K,h,hs,hst=>by
  simp only [kR] at h
  obtain ⟨vs,hvs,h⟩:=dt h hs
  obtain ⟨q,h1,h2⟩:=bx h
  obtain ⟨m,hm⟩:=og h1
  have key: ∀(m:Nat) (vs:List AV) (st:St) (fr1:Fr),Kh fr1 (dedup (iW p (writes c))) vs→fr1.strict=fr.strict→fr1.n=fr.n→(∀i,i∉writes c→fr1.look i=fr.look i)→
    my (fun s:dK=>gR S.T tys (dedup (iW p (writes c))) s.1 (erase (writes c) p) fun p'=>kR S N tys c (dedup (iW p (writes c))++live) p' s.2 fun ex p' st=>match ex with
     | .normal=>getAll p' (dedup (iW p (writes c))) fun vs=>some ((.inl (vs,st):Sum dK (Nat×dK)))
     | ex=>aK (zB ex ((leaves c).outs.eraseDups.map .exit++(match (leaves c).rets with | true=>[.ret] | false=>[])) 0) fun k=>getAll p' (ry live (dedup (iW p (writes c)))) fun vs=>some (.inr (k,vs,st))) m (vs,st)=some q→ ∃ex fr' st' p',(jr fun n=> ∃k,k≤m∧iter (exec (cx S E n) n c) k fr1 st= .ok (ex,fr',st'))∧ex≠ .normal∧Sub N p' fr'∧(fr'.n=fr.n∧ ∀i,i∉writes c→fr'.look i=fr.look i)∧
     (aK (zB ex ((leaves c).outs.eraseDups.map .exit++(match (leaves c).rets with | true=>[.ret] | false=>[])) 0) fun k=>getAll p' (ry live (dedup (iW p (writes c)))) fun vs=>some ((.inr (k,vs,st'):Sum dK (Nat×dK))))=some (.inr q):=by
   intro m
   induction m with
   | zero=>intro vs st fr1 _ _ _ _ h;cases h
   | succ m ih=>
    intro vs st fr1 hv hsf hn hf h
    simp only [my] at h
    split at h
    ·rename_i s' e
     obtain ⟨p1,hs1,h3⟩:=ef e hv (hs.erased hn hf)
     obtain ⟨ex,fr2,st2,p2,hev,hs2,hK⟩:=jK hO c h3 hs1 fun e=>hst (hsf ▸ e)
     have hfr:fr2.n=fr1.n∧ ∀i,i∉writes c→fr2.look i=fr1.look i:=by
      obtain ⟨m,hm⟩:=hev
      exact eQ _ (hm m (Nat.le_refl _))
     have hs2f:fr2.strict=fr1.strict:=by
      obtain ⟨m,hm⟩:=hev
      exact fw _ (hm m (Nat.le_refl _))
     cases ex with
     | normal=>
      obtain ⟨vs2,hv2,e2⟩:=dt hK hs2
      cases e2
      obtain ⟨ex,fr3,st3,p3,hev3,hx,hs3,hf3,hK3⟩:=ih vs2 st2 fr2 hv2 (hs2f.trans hsf) (hfr.1.trans hn) (fun i hi=>(hfr.2 i hi).trans (hf i hi)) h
      refine ⟨ex,fr3,st3,p3,(hev.both hev3).lift fun n hn=> ?_,hx,hs3,hf3,hK3⟩
      obtain ⟨h4,k,hk,h5⟩:=hn
      exact ⟨k+1,by omega,by simp only [iter,h4,au];exact h5⟩
     | exit i=>
      obtain ⟨k,_,hK⟩:=bx hK
      obtain ⟨vs2,_,e2⟩:=dt hK hs2
      cases e2
     | ret=>
      obtain ⟨k,_,hK⟩:=bx hK
      obtain ⟨vs2,_,e2⟩:=dt hK hs2
      cases e2
    ·rename_i q' e
     cases h
     obtain ⟨p1,hs1,h3⟩:=ef e hv (hs.erased hn hf)
     obtain ⟨ex,fr2,st2,p2,hev,hs2,hK⟩:=jK hO c h3 hs1 fun e=>hst (hsf ▸ e)
     have hfr:fr2.n=fr1.n∧ ∀i,i∉writes c→fr2.look i=fr1.look i:=by
      obtain ⟨m,hm⟩:=hev
      exact eQ _ (hm m (Nat.le_refl _))
     have hfr':fr2.n=fr.n∧ ∀i,i∉writes c→fr2.look i=fr.look i:=⟨hfr.1.trans hn,fun i hi=>(hfr.2 i hi).trans (hf i hi)⟩
     cases ex with
     | normal=>
      obtain ⟨vs2,_,e2⟩:=dt hK hs2
      cases e2
     | exit i=>exact ⟨_,fr2,st2,p2,hev.lift fun n hn=>⟨1,by omega,by simp only [iter,hn,au];rfl⟩,(by intro h;cases h),hs2,hfr',hK⟩
     | ret=>exact ⟨_,fr2,st2,p2,hev.lift fun n hn=>⟨1,by omega,by simp only [iter,hn,au];rfl⟩,(by intro h;cases h),hs2,hfr',hK⟩
    ·cases h
  obtain ⟨ex,fr',st',p',hev,_,hs',hf,hK⟩:=key m vs st fr hvs rfl rfl (fun _ _=>rfl) hm
  obtain ⟨k,h3,hK⟩:=bx hK
  obtain ⟨vs2,hv2,e2⟩:=dt hK hs'
  cases e2
  obtain ⟨p2,hs2,hK2⟩:=ef h2 hv2 (hs.erased hf.1 hf.2)
  have hK2:K ex p2 st'=some r:=(zo (K:=fun ex=>K ex p2 st') h3).2.symm.trans hK2
  refine ⟨ex,fr',st',p2, ?_,hs2,hK2⟩
  obtain ⟨m',hm'⟩:=hev
  refine ⟨max m' m,fun n hn=> ?_⟩
  obtain ⟨k,hk,h5⟩:=hm' n (by omega)
  simp only [exec]
  exact tN (fun _ _ _ h=>h) (by omega) h5
end
section
variable {β:Type} {r:β} {N:Nat} {E:Env} {S:Sx}
theorem rS {T:TT}: ∀{vs:List AV} {ts:List TypeId} {i:Nat} {p:PF} {t:Tr AV} {K:PF→Option β},Cs T i ts vs p K=some r→Sub N p ⟨N,t,false⟩→ ∃p',Sub N p' ⟨N,tZ i vs t,false⟩∧K p'=some r
 | [],_,_,p,_,_,h,hs=>⟨p,hs,h⟩
 | v::vs,ts,i,p,t,K,h,hs=>by
  have hput:Sub N ((i,v)::p) ⟨N,t.put i v,false⟩:=by
   refine ⟨rfl,fun j u hu=> ?_⟩
   rw [PF.lx] at hu
   have hj: ∀t:Tr AV,(⟨N,t,false⟩:Fr).look j=some ((t.get j).getD undef):=fun _=>rfl
   rw [hj,Tr.iA]
   split at hu
   ·rename_i e;rw [if_pos e];cases hu;rfl
   ·rename_i e;rw [if_neg e, ← hj];exact hs.2 j u hu
  cases ts with
  | nil=>exact rS (vs:=vs) (ts:=[]) (i:=i+1) (p:=(i,v)::p) h hput
  | cons ty ts=>exact rS (vs:=vs) (ts:=ts) (i:=i+1) (p:=(i,v)::p) (jn (K:=fun v=>Cs T (i+1) ts vs ((i,v)::p) K) h) hput
theorem FN {p:PF} {fr:Fr} {st:St} {x:ResultVar} {K:AV→Option β} (h:Ku S p st x K=some r) (hs:Sub N p fr): ∃v,jQ S.T fr st x= .ok v∧K v=some r:=by
 cases x with
 | tmp t=>
  simp only [Ku] at h
  split at h
  ·rename_i v hv
   exact ⟨v,by simp only [jQ,sd (hs.2 _ _ hv)],h⟩
  ·cases h
 | cell a t=>
  simp only [Ku] at h
  obtain ⟨i,e,h⟩:=cw h
  split at h
  ·rename_i av hv
   have hg:=sd (hs.2 _ _ hv)
   obtain ⟨⟨v,rd⟩,eo,h⟩:=bx h
   unfold CV at eo
   split at eo
   ·split at eo
    ·rename_i e1
     cases eo
     exact ⟨v,by simp only [jQ,e,hg,au,lV,e1,aI],jn h⟩
    ·cases eo
   ·split at eo
    ·rename_i e1
     split at eo
     ·rename_i e2
      cases eo
      exact ⟨v,by simp only [jQ,e,hg,au,lV,ib,e1,e2,cellsOf,aI],jn h⟩
     ·cases eo
    ·cases eo
   ·split at eo
    ·rename_i e1
     split at eo
     ·rename_i hm
      split at eo
      ·rename_i e2
       cases eo
       exact ⟨v,by simp only [jQ,e,hg,au,lV,ib,e1,e2,hm,aI],jn h⟩
      ·cases eo
     ·cases eo
    ·cases eo
   ·cases eo
  ·cases h
theorem wk {p:PF} {fr:Fr} {st:St}: ∀{l:List ResultVar} {K:List AV→Option β},Fc S p st l K=some r→Sub N p fr→ ∃vs,gO S.T fr st l= .ok vs∧K vs=some r
 | [],_,h,_=>⟨[],rfl,h⟩
 | x::l,K,h,hs=>by
  obtain ⟨v,e,h⟩:=FN h hs
  obtain ⟨vs,e',h⟩:=wk h hs
  exact ⟨v::vs,by simp only [gO,e,e',au,aI],h⟩
theorem Cg (hO:LS E S.O) {fn:Func} {args:List AV} {st:St} {K:AV→St→Option β} (h:E7 S fn args st K=some r):
  ∃v st',(jr fun n=>body (cx S E n) n fn args st= .ok (v,st'))∧K v st'=some r:=by
 unfold E7 at h
 split at h
 ·cases h
 ·rename_i c hc
  split at h
  ·cases h
  ·rename_i hl
   obtain ⟨p,hs,h⟩:=rS (N:=fn.ntmps) (t:= .leaf) h ⟨rfl,fun _ _ hg=>by cases hg⟩
   obtain ⟨ex,fr',st',p',hev,hs',hK⟩:=jK hO c h hs (fun e=>by cases e)
   have hx:(Fc S p' st' fn.results.toList fun vs=>K (oneOf vs) st')=some r∧(∀i,ex≠ .exit i):=by
    cases ex with
    | exit i=>cases hK
    | normal=>exact ⟨hK,by intro i h;cases h⟩
    | ret=>exact ⟨hK,by intro i h;cases h⟩
   obtain ⟨vs,e,hK⟩:=wk hx.1 hs'
   refine ⟨oneOf vs,st',hev.lift fun n hn=> ?_,hK⟩
   have e:gO (cx S E n).T fr' st' fn.results.toList= .ok vs:=e
   have hn:exec (cx S E n) n c (sE fn.ntmps args) st= .ok (ex,fr',st'):=hn
   unfold body
   rw [hc]
   dsimp only
   rw [hl]
   dsimp only
   rw [hn,au]
   cases ex with
   | exit i=>exact absurd rfl (hx.2 i)
   | normal=>simp only [e,au,aI]
   | ret=>simp only [e,au,aI]
end
section
variable {E:Env}
open Classical in
noncomputable def aG (E:Env):qJ where
 full:=E.full
 isLook:=E.isLook
 bare f a:=if h: ∃v n,(caller E n).bare f a= .ok v then some h.choose else none
 wide f a st:=if h: ∃v n,(caller E n).wide f a st= .ok v then some h.choose else none
 look f a st:=if h: ∃v n,(caller E n).look f a st= .ok v then some h.choose else none
 round k a st:=if h: ∃v n,(caller E n).round k a st= .ok v then some h.choose else none
theorem Dz (E:Env):LS E (aG E) where
 full:=rfl
 isLook:=rfl
 bare f a v h:=by
  simp only [aG] at h
  split at h
  ·rename_i hx
   cases h
   obtain ⟨m,hm⟩:=hx.choose_spec
   exact ⟨m,fun n hn=>(fq E hn).bare _ _ _ hm⟩
  ·cases h
 wide f a st v h:=by
  simp only [aG] at h
  split at h
  ·rename_i hx
   cases h
   obtain ⟨m,hm⟩:=hx.choose_spec
   exact ⟨m,fun n hn=>(fq E hn).wide _ _ _ _ hm⟩
  ·cases h
 look f a st v h:=by
  simp only [aG] at h
  split at h
  ·rename_i hx
   cases h
   obtain ⟨m,hm⟩:=hx.choose_spec
   exact ⟨m,fun n hn=>(fq E hn).look _ _ _ _ hm⟩
  ·cases h
 round k a st v h:=by
  simp only [aG] at h
  split at h
  ·rename_i hx
   cases h
   obtain ⟨m,hm⟩:=hx.choose_spec
   exact ⟨m,fun n hn=>(fq E hn).round _ _ _ _ hm⟩
  ·cases h
theorem vS {f:FuncId} {a:List AV} {v:AV} {n:Nat} (h:(caller E n).bare f a= .ok v):(aG E).bare f a=some v:=by
 have hx: ∃v n,(caller E n).bare f a= .ok v:=⟨v,n,h⟩
 simp only [aG,dif_pos hx]
 obtain ⟨m,hm⟩:=hx.choose_spec
 have h1:=(fq E (Nat.le_max_left m n)).bare _ _ _ hm
 have h2:=(fq E (Nat.le_max_right m n)).bare _ _ _ h
 rw [h1] at h2
 simpa using h2
theorem Je {f:FuncId} {a:List AV} {st:St} {v:AV×St} {n:Nat} (h:(caller E n).wide f a st= .ok v):(aG E).wide f a st=some v:=by
 have hx: ∃v n,(caller E n).wide f a st= .ok v:=⟨v,n,h⟩
 simp only [aG,dif_pos hx]
 obtain ⟨m,hm⟩:=hx.choose_spec
 have h1:=(fq E (Nat.le_max_left m n)).wide _ _ _ _ hm
 have h2:=(fq E (Nat.le_max_right m n)).wide _ _ _ _ h
 rw [h1] at h2
 simpa using h2
noncomputable def sx (E:Env) (f:FuncId):Sx:=⟨E.T,E.prim,E.imm f,E.G,aG E⟩
noncomputable def cP (E:Env) (f:FuncId) (args:List AV):Option AV:=
 match E.F f with
 | none=>none
 | some fn=>E7 (sx E f) fn args St.empty fun v s=>iL s 0 v some
noncomputable def ey (E:Env) (f:FuncId) (args:List AV) (st:St):Option (AV×St):=
 match E.F f with
 | none=>none
 | some fn=>E7 (sx E f) fn args st fun v s=>some (v,s)
theorem FT {β:Type} {r:β} {st:St} {b:Nat} {v:AV} {K:AV→Option β} (h:iL st b v K=some r): ∃v',freeze st b 100 v= .ok v'∧bare v'=true∧K v'=some r:=by
 unfold iL at h
 split at h
 ·obtain ⟨h1,h⟩:=dX h
  exact ⟨_,by assumption,h1,h⟩
 ·cases h
theorem br {f:FuncId} {args:List AV} {v:AV} (hm:(E.memo f,(E.rule f).isSome)=([],false)) (h:cP E f args=some v):(aG E).bare f args=some v:=by
 unfold cP at h
 split at h
 ·cases h
 ·rename_i fn hF
  obtain ⟨u,s,⟨m,hev⟩,h⟩:=Cg (Dz E) h
  obtain ⟨v',h1,h2,h⟩:=FT h
  cases h
  refine vS (n:=m+1) ?_
  have hev:body ⟨E.T,E.prim,E.imm f,E.G,caller E m⟩ m fn args St.empty= .ok (u,s):=hev m (Nat.le_refl _)
  have hk:E.known f args=none:=by
   unfold Env.known
   have h1:=congrArg Prod.fst hm
   have h2:=congrArg Prod.snd hm
   dsimp only at h1 h2
   cases hr:E.rule f with
   | some r=>rw [hr] at h2;cases h2
   | none=>dsimp only;rw [h1];rfl
  simp only [caller,hk,hF,hev,au,h1,h2,aI]
theorem jF {f:FuncId} {args:List AV} {st:St} {v:AV×St} (h:ey E f args st=some v):(aG E).wide f args st=some v:=by
 unfold ey at h
 split at h
 ·cases h
 ·rename_i fn hF
  obtain ⟨u,s,⟨m,hev⟩,h⟩:=Cg (Dz E) h
  cases h
  refine Je (n:=m+1) ?_
  have hev:body ⟨E.T,E.prim,E.imm f,E.G,caller E m⟩ m fn args st= .ok (u,s):=hev m (Nat.le_refl _)
  simp only [caller,hF,hev,au,aI]
end
structure Lp where
 n:Nat
 ps:List Nat
 a:Code
 c:Code
 tys:List (Nat×TypeId)
def Lp.us (l:Lp):List Nat:=nO l.ps l.a l.c
def HO:List Nat→Bool
 | []=>true
 | i::l=> !qV i l&&HO l
def Jl (n:Nat):List Nat→Bool
 | []=>true
 | i::l=>i.blt n&&Jl n l
def Lp.ok (l:Lp) (vs args:List AV):Bool:=
 (args.length.beq l.ps.length&&vs.length.beq l.us.length)&&((ch l.a&&ch l.c)&&(HO (l.ps++l.us)&&Jl l.n (l.ps++l.us)))
section
variable {E:Env} {r:AV×St}
end
abbrev fh {β:Type} (v:AV) (K:Int→Int→Int→Int→List UInt8→AV→Option β):Option β:=ui v fun l=>bK l fun v0 l=>bV .u8 v0 fun a0=>bK l fun v1 l=>bV .u8 v1 fun a1=>bK l fun v2 l=>bV .i64 v2 fun a2=>bK l fun v3 l=>bV .i64 v3 fun a3=>bK l fun v4 l=>fY v4 fun a4=>bK l fun v5 l=>cT l (K a0 a1 a2 a3 a4 v5)
abbrev aE {β:Type} (v:AV) (K:Int→Int→List UInt8→AV→Option β):Option β:=ui v fun l=>bK l fun v0 l=>bV .u8 v0 fun a0=>bK l fun v1 l=>bV .u8 v1 fun a1=>bK l fun v2 l=>fY v2 fun a2=>bK l fun v3 l=>cT l (K a0 a1 a2 v3)
abbrev cr {β:Type} (v:AV) (K:Int→Int→List UInt8→AV→Int→Option β):Option β:=ui v fun l=>bK l fun v0 l=>bV .u8 v0 fun a0=>bK l fun v1 l=>bV .u8 v1 fun a1=>bK l fun v2 l=>fY v2 fun a2=>bK l fun v3 l=>bK l fun v4 l=>bV .i64 v4 fun a4=>cT l (K a0 a1 a2 v3 a4)
abbrev cM {β:Type} (v:AV) (K:Int→Int→Int→Bool→List UInt8→AV→AV→Option β):Option β:=ui v fun l=>bK l fun v0 l=>bV .u8 v0 fun a0=>bK l fun v1 l=>bV .i64 v1 fun a1=>bK l fun v2 l=>bV .i64 v2 fun a2=>bK l fun v3 l=>du v3 fun a3=>bK l fun v4 l=>fY v4 fun a4=>bK l fun v5 l=>bK l fun v6 l=>cT l (K a0 a1 a2 a3 a4 v5 v6)
abbrev gU {β:Type} (v:AV) (K:Int→List UInt8→Option β):Option β:=ui v fun l=>bK l fun v0 l=>bV .u8 v0 fun a0=>bK l fun v1 l=>fY v1 fun a1=>cT l (K a0 a1)
abbrev xu {β:Type} (v:AV) (K:Int→Int→Option β):Option β:=ui v fun l=>bK l fun v0 l=>bV .i64 v0 fun a0=>bK l fun v1 l=>bV .i64 v1 fun a1=>cT l (K a0 a1)
abbrev gD {β:Type} (v:AV) (K:Int→Int→Bool→AV→Int→Int→Int→Bool→List UInt8→AV→AV→Option β):Option β:=ui v fun l=>bK l fun v0 l=>bV .i64 v0 fun a0=>bK l fun v1 l=>bV .i64 v1 fun a1=>bK l fun v2 l=>du v2 fun a2=>bK l fun v3 l=>bK l fun v4 l=>bV .u8 v4 fun a4=>bK l fun v5 l=>bV .i64 v5 fun a5=>bK l fun v6 l=>bV .i64 v6 fun a6=>bK l fun v7 l=>du v7 fun a7=>bK l fun v8 l=>fY v8 fun a8=>bK l fun v9 l=>bK l fun v10 l=>cT l (K a0 a1 a2 v3 a4 a5 a6 a7 a8 v9 v10)
section
variable {β:Type}
@[simp] theorem aY {α:Type} (a:α) (K:α→Option β):bA a K=K a:=id rfl
@[simp] theorem aj (k:IntKind) (n:Int) (K:Int→Option β):bV k (.int k n) K=K n:=by simp [bV]
@[simp] theorem aC (b:Bool) (K:Bool→Option β):du (.bool b) K=K b:=id rfl
@[simp] theorem az (s:List UInt8) (K:List UInt8→Option β):fY (.str s) K=K s:=id rfl
@[simp] theorem P2 (k:IntKind) (n:Int) (K:Int→Option β):anyI (.int k n) K=K n:=id rfl
@[simp] theorem aL (cs:List AV) (K:List AV→Option β):ui (.agg cs) K=K cs:=id rfl
@[simp] theorem dj (cs:List AV) (K:List AV→Option β):iy (.tup cs) K=K cs:=id rfl
@[simp] theorem ag (v:AV) (l:List AV) (K:AV→List AV→Option β):bK (v::l) K=K v l:=id rfl
@[simp] theorem ah (K:Option β):cT [] K=K:=id rfl
@[simp] theorem bf (K:Option β):cQ true K=K:=id rfl
theorem kE {b:Bool} (h:b=true) (K:Option β):cQ b K=K:=by rw [h];rfl
@[simp] theorem aH (x y:Option β):bI true x y=x:=id rfl
@[simp] theorem aB (x y:Option β):bI false x y=y:=id rfl
@[simp] theorem aF (p:Prop) [Decidable p] (x y:Option β):bI (decide p) x y=if p then x else y:=by
 by_cases h:p <;> simp [h]
@[simp] theorem eI (a b:Int) (x y:Option β):bI (a==b) x y=if a=b then x else y:=by
 by_cases h:a=b
 ·simp [h]
 ·rw [beq_false_of_ne h];simp [h]
@[simp] theorem QY (a b:Int) (x y:Option β):bI (a != b) x y=if a=b then y else x:=by
 by_cases h:a=b
 ·simp [h]
 ·rw [bne,beq_false_of_ne h];simp [h]
@[simp] theorem QR (b:Bool) (x y:Option β):bI (!b) x y=bI b y x:=by cases b <;> rfl
@[simp] theorem al {α:Type} (a:α) (K:α→Option β):aK (some a) K=K a:=id rfl
@[simp] theorem dC {α:Type} (a:α) (K:α→Option β):kq (.inl a) K=K a:=id rfl
@[simp] theorem nt {α:Type} (b:β) (K:α→Option β):kq (.inr b) K=some b:=id rfl
@[simp] theorem iH (a:Option β) (b:Nat→Option β):sH 0 a b=a:=id rfl
@[simp] theorem OZ (n:Nat) (a:Option β) (b:Nat→Option β):sH (n+1) a b=b n:=id rfl
@[simp] theorem pC (a:Option β) (b:Nat→Option β):sH 1 a b=b 0:=id rfl
theorem iQ {v:AV} (h:one v=true) (K:Option β):af v K=K:=kE h K
@[simp] theorem Nt (b:Bool) (K:Option β):af (.bool b) K=K:=id rfl
@[simp] theorem F0 (k:IntKind) (n:Int) (K:Option β):af (.int k n) K=K:=id rfl
@[simp] theorem GF (s:List UInt8) (K:Option β):af (.str s) K=K:=id rfl
@[simp] theorem DN (K:Option β):af .aq K=K:=id rfl
@[simp] theorem PL (z:Nat) (e:List AV) (p:Perm) (K:Option β):af (.sl z e p) K=K:=id rfl
@[simp] theorem Qq (i o:Nat) (K:Option β):af (.mp i o) K=K:=id rfl
@[simp] theorem Qt (cs:List AV) (K:Option β):af (.ip cs) K=K:=id rfl
@[simp] theorem MF (K:Option β):af .nilp K=K:=id rfl
@[simp] theorem PE (i:Nat) (K:Option β):af (.mm i) K=K:=id rfl
@[simp] theorem OC (K:Option β):af .nilm K=K:=id rfl
@[simp] theorem PD (f:Fn) (a b:List AV) (K:Option β):af (.fn f a b) K=K:=id rfl
@[simp] theorem bS (v:AV) (l:List AV) (K:AV→Option β):da (v::l) 0 K=K v:=id rfl
@[simp] theorem Pb (v:AV) (l:List AV) (n:Nat) (K:AV→Option β):da (v::l) (n+1) K=da l n K:=id rfl
@[simp] theorem cA (u v:AV) (l:List AV) (K:AV→Option β):da (u::v::l) 1 K=K v:=id rfl
@[simp] theorem PM (u v w:AV) (l:List AV) (K:AV→Option β):da (u::v::w::l) 2 K=K w:=id rfl
@[simp] theorem Mq (u v w x:AV) (l:List AV) (K:AV→Option β):da (u::v::w::x::l) 3 K=K x:=id rfl
@[simp] theorem Pu (u v w x y:AV) (l:List AV) (K:AV→Option β):da (u::v::w::x::y::l) 4 K=K y:=id rfl
@[simp] theorem O9 (u v w x y z:AV) (l:List AV) (K:AV→Option β):da (u::v::w::x::y::z::l) 5 K=K z:=id rfl
@[simp] theorem kU (off:Nat) (cs:List AV) (K:AV→Option β):ct off (.ip cs) K=K (.ip (cs.drop off)):=id rfl
@[simp] theorem Q4 (off i n o:Nat) (K:AV→Option β):ct off (.gp i n o) K=K (.gp i n (o+off)):=id rfl
@[simp] theorem di (off i o:Nat) (K:AV→Option β):ct off (.mp i o) K=K (.mp i (o+off)):=id rfl
def lu (size:Nat) (agg:Bool) (cs:List AV):Option AV:=Ji (cK size agg cs)
@[simp] theorem bU (z:Nat) (v:AV) (l:List AV):lu z false (v::l)=some v:=id rfl
theorem Gc {z:Nat} {cs:List AV} (h:z≤cs.length):lu z true cs=some (.agg (cs.take z)):=by
 simp only [lu,cK,Nat.ble_eq_true_of_le h,Ji]
theorem GJ {cs:List AV} {z:Nat} (h:cs.length=z):lu z true cs=some (.agg cs):=by
 subst h
 rw [Gc (Nat.le_refl _),List.take_length]
@[simp] theorem bL (z:Nat) (g:Bool) (cs:List AV) (st:St) (K:AV→List Nat→Option β):aA z g (.ip cs) st K=aK (lu z g cs) fun v=>K v []:=by
 unfold aA CV lu
 dsimp only
 cases cK z g cs <;> rfl
theorem bF {st:St} {i:Nat} {t:TypeId} {cs:List AV} (h:st.get i= .ok (.cells t cs)) (z:Nat) (g:Bool) (o:Nat) (K:AV→List Nat→Option β):aA z g (.mp i o) st K=aK (lu z g (cs.drop o)) fun v=>K v [i]:=by
 unfold aA CV lu
 dsimp only
 rw [h]
 dsimp only
 cases cK z g (cs.drop o) <;> rfl
@[simp] theorem QW (i o:Nat) (K:Option β):Io (.mp i o) K=K:=id rfl
@[simp] theorem QU (cs:List AV) (K:Option β):Io (.ip cs) K=K:=id rfl
@[simp] theorem P8 (K:Option β):af .es K=K:=id rfl
@[simp] theorem QV (K:AV→Option β):aV .es K=K .es:=id rfl
@[simp] theorem Pg (K:Nat→Option β):fC .aq K=K 0:=id rfl
@[simp] theorem K6 (z:Nat) (e:List AV) (p:Perm) (K:Nat→Option β):fC (.sl z e p) K=K e.length:=id rfl
@[simp] theorem Pf (b:Bool) (K:AV→Option β):aV (.bool b) K=K (.bool b):=id rfl
@[simp] theorem Ij (k:IntKind) (n:Int) (K:AV→Option β):aV (.int k n) K=K (.int k n):=id rfl
@[simp] theorem Jm (s:List UInt8) (K:AV→Option β):aV (.str s) K=K (.str s):=id rfl
@[simp] theorem Pp (K:AV→Option β):aV .aq K=K .aq:=id rfl
@[simp] theorem Pc (z:Nat) (e:List AV) (K:AV→Option β):aV (.sl z e .wide) K=K (.sl z e .wide):=id rfl
@[simp] theorem Ph (z:Nat) (e:List AV) (K:AV→Option β):aV (.sl z e .shut) K=K (.sl z e .shut):=id rfl
@[simp] theorem P1 (z k:Nat) (e:List AV) (K:AV→Option β):aV (.sl z e (.own k)) K=K (.sl z e .wide):=id rfl
theorem DW {i:Int} {n:Nat} (h0:0≤i) (h1:i < n) (K:Nat→Option β):kT i n K=K i.toNat:=by
 obtain ⟨k,rfl⟩:=Int.eq_ofNat_of_zero_le h0
 have:k.blt n=true:=cY.2 (by omega)
 simp only [kT]
 show cQ (k.blt n) (K k)= _
 rw [kE this];rfl
theorem Ik {i:Int} {n:Nat} (h0:0≤i) (h1:i≤n) (K:Nat→Option β):fJ i n K=K i.toNat:=by
 obtain ⟨k,rfl⟩:=Int.eq_ofNat_of_zero_le h0
 have:k.ble n=true:=Nat.ble_eq_true_of_le (by omega)
 show cQ (k.ble n) (K k)= _
 rw [kE this];rfl
theorem B1 {k n:Nat} (h:k < n) (K:Nat→Option β):kT (k:Int) n K=K k:=DW (by omega) (by omega) K
theorem cR {k n:Nat} (h:k≤n) (K:Nat→Option β):fJ (k:Int) n K=K k:=Ik (by omega) (by omega) K
theorem eP {s:List UInt8} {k:Nat} (h:k < s.length) (K:UInt8→Option β):fb s (k:Int) K=K s[k]:=by
 unfold fb
 rw [B1 h]
 simp [h]
end
theorem vB: ∀{l:List AV} {n:Nat} {v:AV},l[n]? =some v→An l n=some v
 | [],_,_,h=>by simp at h
 | _:: _,0,_,h=>by simpa [An] using h
 | _::l,n+1,_,h=>by simp only [An];exact vB (by simpa using h)
def bl (z:Nat) (x:AV) (es:List AV):Prop:=es.length≤9223372036854775807∧(((x= .aq∨x= .es)∧es=[])∨x= .sl z es .shut∨x= .sl z es .wide)
namespace bl
variable {β:Type} {z:Nat} {x:AV} {es:List AV}
theorem aq:bl z .aq []:=⟨by simp,.inl ⟨.inl rfl,rfl⟩⟩
theorem emp:bl z .es []:=⟨by simp,.inl ⟨.inr rfl,rfl⟩⟩
theorem wide (h:es.length≤9223372036854775807):bl z (.sl z es .wide) es:=⟨h,.inr (.inr rfl)⟩
theorem shut (h:es.length≤9223372036854775807):bl z (.sl z es .shut) es:=⟨h,.inr (.inl rfl)⟩
theorem one (h:bl z x es):VM.one x=true:=by rcases h.2 with ⟨rfl | rfl,rfl⟩ | rfl | rfl <;> rfl
theorem bare (h:bl z x es):VM.bare x=true:=by rcases h.2 with ⟨rfl | rfl,rfl⟩ | rfl | rfl <;> rfl
theorem strip (h:bl z x es):VM.strip x=x:=by rcases h.2 with ⟨rfl | rfl,rfl⟩ | rfl | rfl <;> rfl
theorem af (h:bl z x es) (K:Option β):af x K=K:=iQ h.one K
theorem aV (h:bl z x es) (K:AV→Option β):aV x K=K x:=by rcases h.2 with ⟨rfl | rfl,rfl⟩ | rfl | rfl <;> rfl
theorem len (h:bl z x es) (K:Nat→Option β):fC x K=K es.length:=by rcases h.2 with ⟨rfl | rfl,rfl⟩ | rfl | rfl <;> rfl
theorem elems (h:bl z x es) (K:List AV→Option β):lT x K=K es:=by rcases h.2 with ⟨rfl | rfl,rfl⟩ | rfl | rfl <;> rfl
theorem idx (h:bl z x es) {k:Nat} {v:AV} (hk:es[k]? =some v) (st:St) (K:AV→List Nat→Option β):bZ z x (k:Int) st K=K (.ip v.cells) []:=by
 have hlt:k < es.length:=(List.getElem?_eq_some_iff.1 hk).1
 have hz:z.beq z=true:=Nat.beq_refl z
 have hi:kQ (k:Int) es.length=some k:=by
  show (match k.blt es.length with | true=>some k | false=>none)= _
  rw [cY.2 hlt]
 have hn:An es k=some v:=vB hk
 have hlen:=h.1
 rcases h.2 with ⟨rfl | rfl,rfl⟩ | rfl | rfl
 ·simp at hlt
 ·simp at hlt
 ·simp only [bZ,Bx,hz,hi,hn,al]
 ·simp only [bZ,Bx,hz,hi,hn,al]
theorem slice (h:bl z x es) {lo hi:Option Int} {l m:Nat} (hl:tq lo m 0=some l) (hh:tq hi es.length es.length=some m) (K:AV→Option β):
  ∃x',bl z x' ((es.take m).drop l)∧fO z x lo hi none K=K x':=by
 have hz:z.beq z=true:=Nat.beq_refl z
 have hlen:=h.1
 rcases h.2 with ⟨rfl | rfl,rfl⟩ | rfl | rfl
 ·have hh:tq hi 0 0=some m:=hh
  refine ⟨.aq,⟨by simp,.inl ⟨.inl rfl,by simp⟩⟩, ?_⟩
  simp only [fO,ou,show tq none 0 0=some 0 from rfl,hh,hl,al]
 ·have hh:tq hi 0 0=some m:=hh
  refine ⟨.es,⟨by simp,.inl ⟨.inr rfl,by simp⟩⟩, ?_⟩
  simp only [fO,ou,show tq none 0 0=some 0 from rfl,hh,hl,al]
 ·simp only [fO,ou,hz,hh,hl]
  cases e:m.beq es.length with
  | true=>
   have:=Nat.eq_of_beq_eq_true e
   subst this
   exact ⟨.sl z (es.drop l) .shut,by simpa using bl.shut (z:=z) (es:=es.drop l) (by rw [List.length_drop];omega),rfl⟩
  | false=>exact ⟨_,bl.wide (by rw [List.length_drop,List.length_take];omega),rfl⟩
 ·simp only [fO,ou,hz,hh,hl]
  cases e:m.beq es.length with
  | true=>exact ⟨_,bl.wide (by rw [List.length_drop,List.length_take];omega),rfl⟩
  | false=>exact ⟨_,bl.wide (by rw [List.length_drop,List.length_take];omega),rfl⟩
end bl
theorem qd {k n d:Nat} (h:k≤n):tq (some (k:Int)) n d=some k:=by
 show (match k.ble n with | true=>some k | false=>none)= _
 rw [Nat.ble_eq_true_of_le h]
theorem Ct {n d:Nat}:tq none n d=some d:=rfl
def iN (st:St) (z:Nat) (e:TypeId) (v:AV) (es:List AV):Prop:=
 st.ro≤st.h∧es.length≤9223372036854775807∧(((v= .aq∨v= .es)∧es=[])∨v= .sl z es .shut∨ ∃k,v= .sl z es (.own k)∧st.get k= .ok (.tok es.length e)∧st.ro≤k)
theorem iN.aq {st:St} (h:st.ro≤st.h) (z:Nat) (e:TypeId):iN st z e .aq []:=⟨h,by simp,.inl ⟨.inl rfl,rfl⟩⟩
theorem iN.emp {st:St} (h:st.ro≤st.h) (z:Nat) (e:TypeId):iN st z e .es []:=⟨h,by simp,.inl ⟨.inr rfl,rfl⟩⟩
theorem iN.shut {st:St} (h:st.ro≤st.h) {z:Nat} (e:TypeId) {es:List AV} (hl:es.length≤9223372036854775807):iN st z e (.sl z es .shut) es:=⟨h,hl,.inr (.inl rfl)⟩
theorem iN.one {st:St} {z:Nat} {e:TypeId} {v:AV} {es:List AV} (h:iN st z e v es):VM.one v=true:=by
 rcases h with ⟨_,_,⟨rfl | rfl,_⟩ | rfl | ⟨k,rfl,_⟩⟩ <;> rfl
theorem St.dR {st:St} {o:Obj}:(st.add o).get st.h= .ok o:=St.fF.2 (.inl ⟨rfl,rfl⟩)
theorem St.iF {st:St} {o:Obj} {j:Nat} {x:Obj} (h:st.get j= .ok x):(st.add o).get j= .ok x:=St.fF.2 (.inr ⟨(St.bM.1 h).1,h⟩)
structure ba (st st':St) (but:Nat→Prop):Prop where
 ro:st'.ro=st.ro
 h:st.h≤st'.h
 old: ∀j o,¬ but j→st.get j= .ok o→st'.get j= .ok o
theorem ba.refl (st:St) (but:Nat→Prop):ba st st but:=⟨rfl,Nat.le_refl _,fun _ _ _ h=>h⟩
theorem ba.trans {a b c:St} {p:Nat→Prop} (h:ba a b p) (k:ba b c p):ba a c p:=
 ⟨k.ro.trans h.ro,Nat.le_trans h.h k.h,fun j o hj hg=>k.old j o hj (h.old j o hj hg)⟩
theorem ba.add (st:St) (o:Obj) (but:Nat→Prop):ba st (st.add o) but:=⟨rfl,Nat.le_succ _,fun _ _ _ h=>St.iF h⟩
theorem ba.put {st:St} {i:Nat} {o:Obj} {but:Nat→Prop} (hb:but i):ba st (st.put i o) but:=
 ⟨rfl,Nat.le_refl _,fun j x hj h=>by
  have:i≠j:=by rintro rfl;exact hj hb
  rw [St.aU this];exact h⟩
def dW (v:AV) (j:Nat):Prop:= ∃z es,v= .sl z es (.own j)
theorem qa {β:Type} {z b:Nat} {e:TypeId} {s:AV} {new:List AV} {st:St} {v:AV} {st':St} {x:Fx} (h:tU z b e s new st=some (v,st',x)) (K:Kv β):gf z b e s new st K=K v st' x:=by
 simp only [gf,lZ,h,al]
theorem iN.not {st:St} {z:Nat} {e:TypeId} {v:AV} {ws:List AV} {j:Nat} {t:TypeId} {cs:List AV} (h:iN st z e v ws) (hj:st.get j= .ok (.cells t cs)):¬ dW v j:=by
 rintro ⟨z,es,rfl⟩
 rcases h with ⟨_,_,⟨h | h,_⟩ | h | ⟨k,h,hg,_⟩⟩
 ·cases h
 ·cases h
 ·cases h
 ·cases h;rw [hj] at hg;cases hg
theorem iN.put {st:St} {z:Nat} {e:TypeId} {v:AV} {ws:List AV} {j:Nat} {t t':TypeId} {cs cs':List AV} (h:iN st z e v ws) (hj:st.get j= .ok (.cells t cs)):iN (st.put j (.cells t' cs')) z e v ws:=by
 refine ⟨h.1,h.2.1, ?_⟩
 rcases h.2.2 with h | h | ⟨k,hk,hg,hr⟩
 ·exact .inl h
 ·exact .inr (.inl h)
 ·refine .inr (.inr ⟨k,hk, ?_,hr⟩)
  have:j≠k:=by rintro rfl;rw [hj] at hg;cases hg
  rw [St.aU this];exact hg
theorem vj {st:St} {z b:Nat} {e:TypeId} {v:AV} {es new:List AV} (h:iN st z e v es) (hn:new≠[]) (hr:cO (es.length+new.length) ⟨.other,z,b,[],false,false⟩=true):
  ∃v' st' x,tU z b e v new st=some (v',st',x)∧iN st' z e v' (es++new)∧ba st st' (dW v)∧(∀j,dW v' j→dW v j∨st.h≤j):=by
 have hlen:(es++new).length≤9223372036854775807:=by
  simp only [cO,Bool.and_eq_true] at hr
  rw [List.length_append];exact Nat.le_trans (Nat.le_of_ble_eq_true hr.2.2) (by omega)
 have hz:z.beq z=true:=Nat.beq_refl z
 cases new with
 | nil=>exact absurd rfl hn
 | cons a l=>
  have fresh: ∀n,n=(es++a::l).length→tU z b e v (a::l) st=uE st (.tok n e) (fun k=> .sl z (es++a::l) (.own k))→ ∃v' st' x,tU z b e v (a::l) st=some (v',st',x)∧iN st' z e v' (es++a::l)∧ba st st' (dW v)∧(∀j,dW v' j→dW v j∨st.h≤j):=by
   intro n hn he
   refine ⟨.sl z (es++a::l) (.own st.h),st.add (.tok n e),⟨[],.made st.h (.tok n e)⟩,he,⟨Nat.le_succ_of_le h.1,hlen,.inr (.inr ⟨st.h,rfl, ?_,h.1⟩)⟩,ba.add _ _ _, ?_⟩
   ·rw [← hn];exact St.dR
   ·rintro j ⟨z',es',e⟩;cases e;exact .inr (Nat.le_refl _)
  rcases h.2.2 with ⟨rfl | rfl,rfl⟩ | rfl | ⟨k,rfl,hg,hro⟩
  ·simp only [List.length_nil,Nat.zero_add] at hr
   exact fresh (a::l).length rfl (by simp only [tU,hr,List.nil_append])
  ·simp only [List.length_nil,Nat.zero_add] at hr
   exact fresh (a::l).length rfl (by simp only [tU,hr,List.nil_append])
  ·exact fresh (es.length+(a::l).length) (by rw [List.length_append]) (by simp only [tU,hr,hz,Bool.and_self])
  ·have h1:(es.length.beq es.length&&Nat.beq e e)=true:=by simp
   have h2:(st.ro.ble k)=true:=Nat.ble_eq_true_of_le hro
   refine ⟨.sl z (es++a::l) (.own k),st.put k (.tok (es.length+(a::l).length) e),⟨[k],.wrote k (.tok (es.length+(a::l).length) e)⟩, ?_,⟨h.1,hlen,.inr (.inr ⟨k,rfl, ?_,hro⟩)⟩,ba.put ⟨z,es,rfl⟩, ?_⟩
   ·simp only [tU,hr,hz,Bool.and_self,hg,h1,ja,h2]
   ·rw [St.aR (St.bM.1 hg).1,List.length_append]
   ·rintro j ⟨z',es',e⟩;cases e;exact .inl ⟨_,_,rfl⟩
theorem LP {β:Type} {st:St} {z:Nat} {e:TypeId} {v:AV} {es:List AV} (h:iN st z e v es): ∃x,bl z x es∧ ∀(K:AV→Option β),iL st 0 v K=K x:=by
 rcases h with ⟨_,hl,⟨rfl | rfl,rfl⟩ | rfl | ⟨k,rfl,_,_⟩⟩
 ·exact ⟨.aq,bl.aq,fun _=>rfl⟩
 ·exact ⟨.es,bl.emp,fun _=>rfl⟩
 ·exact ⟨.sl z es .shut,bl.shut hl,fun _=>rfl⟩
 ·exact ⟨.sl z es .wide,bl.wide hl,fun _=>rfl⟩
theorem bj {β:Type} {E:Env} {f:FuncId} {args:List AV} {v:AV} (st:St) (K:Kv β) (hf:E.full f=false) (hs:args.map strip=args) (hb:bz args=true) (h:(aG E).bare f args=some v):
  ak (aG E) f args st K=K v st q0:=by
 have h1:(bz (args.map strip)&& !(aG E).full f)=true:=by
  rw [hs,hb]
  show (true&& !E.full f)=true
  rw [hf];rfl
 unfold ak lZ BM
 rw [h1,hs,h]
 rfl
theorem js {β:Type} {E:Env} {f:FuncId} {args:List AV} {v:AV} {st st':St} (K:Kv β) (hl:E.isLook f=false) (hb:(bz (args.map strip)&& !E.full f)=false) (h:(aG E).wide f args st=some (v,st')):
  ak (aG E) f args st K=K v st' ⟨[],.all st st'⟩:=by
 have h1:(bz (args.map strip)&& !(aG E).full f)=false:=hb
 have h2:(aG E).isLook f=false:=hl
 unfold ak lZ BM
 rw [h1,h2,h]
 rfl
theorem wrap_i64 {n:Int} (h1: -9223372036854775808≤n) (h2:n≤9223372036854775807):IntKind.wrap .i64 n=n:=by
 have e:IntKind.wrap .i64 n=if n % 18446744073709551616≥9223372036854775808 then n % 18446744073709551616 - 18446744073709551616 else n % 18446744073709551616:=by
  show (if (true&&decide (n % (2 ^ 64:Int)≥(2 ^ 63:Int)))=true then n % (2 ^ 64:Int) - (2 ^ 64:Int) else n % (2 ^ 64:Int))= _
  simp
 rw [e]
 split <;> omega
theorem drop_cons {α:Type} {l m:List α} {i:Nat} {v:α} (h:l.drop i=v::m):l[i]? =some v∧l.drop (i+1)=m∧i < l.length:=by
 have h1:(l.drop i)[0]? =some v:=by rw [h];rfl
 rw [List.getElem?_drop] at h1
 refine ⟨by simpa using h1, ?_, ?_⟩
 ·rw [← List.drop_drop,h];rfl
 ·exact (List.getElem?_eq_some_iff.1 (by simpa using h1)).1
end Go.VM
namespace Go.VM
open Go
section
variable {β α:Type}
@[congr] theorem Ob {a a':α} {K:α→Option β} (h:a=a'):bA a K=bA a' K:=by rw [h]
@[congr] theorem Pq {k:IntKind} {v v':AV} {K:Int→Option β} (h:v=v'):bV k v K=bV k v' K:=by rw [h]
@[congr] theorem Pm {v v':AV} {K:Bool→Option β} (h:v=v'):du v K=du v' K:=by rw [h]
@[congr] theorem Ps {v v':AV} {K:List UInt8→Option β} (h:v=v'):fY v K=fY v' K:=by rw [h]
@[congr] theorem NH {v v':AV} {K:Int→Option β} (h:v=v'):anyI v K=anyI v' K:=by rw [h]
@[congr] theorem Pa {v v':AV} {K:List AV→Option β} (h:v=v'):ui v K=ui v' K:=by rw [h]
@[congr] theorem Pt {v v':AV} {K:List AV→Option β} (h:v=v'):iy v K=iy v' K:=by rw [h]
@[congr] theorem Po {v v':List AV} {K:AV→List AV→Option β} (h:v=v'):bK v K=bK v' K:=by rw [h]
@[congr] theorem O3 {v v':List AV} {K:Option β} (h:v=v'):cT v K=cT v' K:=by rw [h]
@[congr] theorem O7 {v v':Bool} {K:Option β} (h:v=v'):cQ v K=cQ v' K:=by rw [h]
@[congr] theorem O4 {v v':Bool} {x y:Option β} (h:v=v'):bI v x y=bI v' x y:=by rw [h]
@[congr] theorem LW {v v':Option α} {K:α→Option β} (h:v=v'):aK v K=aK v' K:=by rw [h]
@[congr] theorem Mb {v v':Sum α β} {K:α→Option β} (h:v=v'):kq v K=kq v' K:=by rw [h]
@[congr] theorem Oa {n n':Nat} {a:Option β} {b:Nat→Option β} (h:n=n'):sH n a b=sH n' a b:=by rw [h]
@[congr] theorem Ml {v v':AV} {K:Option β} (h:v=v'):af v K=af v' K:=by rw [h]
@[congr] theorem MU {l l':List AV} {n:Nat} {K:AV→Option β} (h:l=l'):da l n K=da l' n K:=by rw [h]
@[congr] theorem MQ {o:Nat} {v v':AV} {K:AV→Option β} (h:v=v'):ct o v K=ct o v' K:=by rw [h]
@[congr] theorem LX {z:Nat} {g:Bool} {v v':AV} {st st':St} {K:AV→List Nat→Option β} (h:v=v') (h':st=st'):aA z g v st K=aA z g v' st' K:=by rw [h,h']
@[congr] theorem Nw {v v':AV} {K:AV→Option β} (h:v=v'):aV v K=aV v' K:=by rw [h]
@[congr] theorem MT {v v':AV} {K:Option β} (h:v=v'):Io v K=Io v' K:=by rw [h]
@[congr] theorem NX {v v':AV} {K:Nat→Option β} (h:v=v'):fC v K=fC v' K:=by rw [h]
@[congr] theorem KJ {v v':AV} {K:List AV→Option β} (h:v=v'):lT v K=lT v' K:=by rw [h]
@[congr] theorem Nr {z:Nat} {v v':AV} {i i':Int} {st st':St} {K:AV→List Nat→Option β} (h:v=v') (h1:i=i') (h2:st=st'):bZ z v i st K=bZ z v' i' st' K:=by rw [h,h1,h2]
@[congr] theorem K1 {v v':List UInt8} {i i':Int} {K:UInt8→Option β} (h:v=v') (h1:i=i'):fb v i K=fb v' i' K:=by rw [h,h1]
@[congr] theorem JS {i i':Int} {n n':Nat} {K:Nat→Option β} (h:i=i') (h1:n=n'):kT i n K=kT i' n' K:=by rw [h,h1]
@[congr] theorem L0 {i i':Int} {n n':Nat} {K:Nat→Option β} (h:i=i') (h1:n=n'):fJ i n K=fJ i' n' K:=by rw [h,h1]
@[congr] theorem Ly {z:Nat} {v v':AV} {a a' b b' c c':Option Int} {K:AV→Option β} (h:v=v') (h1:a=a') (h2:b=b') (h3:c=c'):fO z v a b c K=fO z v' a' b' c' K:=by rw [h,h1,h2,h3]
@[congr] theorem OB {z b:Nat} {e:TypeId} {v v':AV} {n n':List AV} {st st':St} {K:Kv β} (h:v=v') (h1:n=n') (h2:st=st'):gf z b e v n st K=gf z b e v' n' st' K:=by rw [h,h1,h2]
@[congr] theorem LU {g:Bool} {l l':List AV} {K:List AV→Option β} (h:l=l'):pU g l K=pU g l' K:=by rw [h]
@[congr] theorem L4 {O:qJ} {f:FuncId} {l l':List AV} {st st':St} {K:Kv β} (h:l=l') (h1:st=st'):ak O f l st K=ak O f l' st' K:=by rw [h,h1]
@[congr] theorem Mh {O:qJ} {p p':cV dH} {st st':St} {K:Kv β} (h:p=p') (h1:st=st'):dF O p st K=dF O p' st' K:=by rw [h,h1]
@[congr] theorem Mc {O:qJ} {pr:FuncId→Option Prim} {f f':AV} {l l':List AV} {st st':St} {K:Kv β} (h0:f=f') (h:l=l') (h1:st=st'):jR O pr f l st K=jR O pr f' l' st' K:=by rw [h0,h,h1]
@[congr] theorem Lu {O:qJ} {z:Nat} {a a' v v':AV} {l l':List AV} {st st':St} {K:Kv β} (h0:a=a') (h2:v=v') (h:l=l') (h1:st=st'):ao O z a v l st K=ao O z a' v' l' st' K:=by rw [h0,h2,h,h1]
@[congr] theorem NM {st st':St} {b:Nat} {v v':AV} {K:AV→Option β} (h1:st=st') (h:v=v'):iL st b v K=iL st' b v' K:=by rw [h1,h]
@[congr] theorem OM {st st':St} {o o':Obj} {f:Nat→AV} {K:Kv β} (h1:st=st') (h:o=o'):made st o f K=made st' o' f K:=by rw [h1,h]
@[congr] theorem MX {u:U} {v v' w w':AV} {K:Bool→Option β} (h:v=v') (h1:w=w'):Jj u v w K=Jj u v' w' K:=by rw [h,h1]
@[congr] theorem L7 {a a':St} {K:St→Option β} (h:a=a'):bP a K=bP a' K:=by rw [h]
@[simp] theorem fo (a:St) (K:St→Option β):bP a K=K a:=id rfl
end
theorem bR {σ β:Type} {F:σ→Option (Sum σ β)} {s s':σ} (h:F s=some (.inl s')):bu F s=bu F s':=by rw [CU,h]
theorem bC {σ β:Type} {F:σ→Option (Sum σ β)} {s:σ} {r:β} (h:F s=some (.inr r)):bu F s=some r:=by rw [CU,h]
def Fz (d:Nat) (v:AV):Prop:= ∀st base n,d≤n→freeze st base n v= .ok v
theorem Fz.mono {d e:Nat} {v:AV} (h:Fz d v) (hd:d≤e):Fz e v:=fun st base n hn=>h st base n (Nat.le_trans hd hn)
theorem Aq (b:Bool):Fz 1 (.bool b):=fun _ _ n hn=>by cases n with | zero=>omega | succ n=>rfl
theorem gF (k:IntKind) (m:Int):Fz 1 (.int k m):=fun _ _ n hn=>by cases n with | zero=>omega | succ n=>rfl
theorem AR (s:List UInt8):Fz 1 (.str s):=fun _ _ n hn=>by cases n with | zero=>omega | succ n=>rfl
theorem KA:Fz 1 .aq:=fun _ _ n hn=>by cases n with | zero=>omega | succ n=>rfl
theorem QQ:Fz 1 .es:=fun _ _ n hn=>by cases n with | zero=>omega | succ n=>rfl
theorem K3 (z:Nat) (es:List AV):Fz 1 (.sl z es .wide):=fun _ _ n hn=>by cases n with | zero=>omega | succ n=>rfl
theorem KV (z:Nat) (es:List AV):Fz 1 (.sl z es .shut):=fun _ _ n hn=>by cases n with | zero=>omega | succ n=>rfl
theorem xa {z:Nat} {x:AV} {es:List AV} (h:bl z x es):Fz 1 x:=by
 rcases h.2 with ⟨rfl | rfl,rfl⟩ | rfl | rfl
 ·exact KA
 ·exact QQ
 ·exact KV _ _
 ·exact K3 _ _
theorem EP {st:St} {base n d:Nat} (hn:d≤n): ∀{cs:List AV},(∀c∈cs,Fz d c)→kX (freeze st base n) cs= .ok cs
 | [],_=>rfl
 | c::cs,h=>by
  have h1:=h c (by simp) st base n hn
  have h2:=EP (st:=st) (base:=base) hn fun c hc=>h c (List.mem_cons_of_mem _ hc)
  simp only [kX,h1,h2,au,aI]
theorem MB {d:Nat} {cs:List AV} (h: ∀c∈cs,Fz d c):Fz (d+1) (.agg cs):=fun st base n hn=>by
 cases n with
 | zero=>omega
 | succ n=>
  show (do pure (.agg (← kX (freeze st base n) cs)):cV AV)= _
  rw [EP (by omega) h];rfl
theorem dw {β:Type} {O:qJ} {st:St} {id off:Nat} {t:TypeId} {old:List AV} {z:Nat} {v:AV} {cs:List AV} (hg:st.get id= .ok (.cells t old)) (hz:cs.length=z) (hl:off+cs.length≤old.length) (hro:st.ro≤id) (K:Kv β):
  ao O z (.mp id off) v cs st K=K undef (st.put id (.cells t (cF old off cs))) ⟨[id],.wrote id (.cells t (cF old off cs))⟩:=by
 have h1:cs.length.beq z=true:=by rw [hz];exact Nat.beq_refl z
 simp only [ao,lZ,Av,h1,hg,Nat.ble_eq_true_of_le hl,ja,Nat.ble_eq_true_of_le hro,al,MK]
theorem jv {old cs:List AV} (h:cs.length=old.length):cF old 0 cs=cs:=by
 simp only [cF,List.take_zero,List.nil_append,Nat.zero_add]
 rw [h,List.drop_length,List.append_nil]
theorem yQ {O:qJ} {st:St} {t:TypeId} {z:Nat} {old cs:List AV} (v:AV) (hl:old.length=z) (hc:cs.length=z) (hro:st.ro≤st.h):
  ∃st',st'.get st.h= .ok (.cells t cs)∧ba st st' (fun _=>False)∧st'.h=st.h+1∧ ∃fx,∀{β:Type} (K:Kv β),ao O z (.mp st.h 0) v cs (st.add (.cells t old)) K=K undef st' fx:=by
 have hg:(st.add (.cells t old)).get st.h= .ok (.cells t old):=St.dR
 refine ⟨(st.add (.cells t old)).put st.h (.cells t cs),St.aR (Nat.lt_succ_self _),⟨rfl,Nat.le_succ _,fun j o _ hj=> ?_⟩,rfl,⟨[st.h],.wrote st.h (.cells t (cF old 0 cs))⟩,fun K=> ?_⟩
 ·have hlt:=(St.bM.1 hj).1
  rw [St.aU (by omega)]
  exact St.iF hj
 ·rw [dw hg hc (by omega) hro]
  rw [jv (by omega)]
theorem bl.cut {z:Nat} {x:AV} {es:List AV} (h:bl z x es) {lo hi:Option Int} {l m:Nat} (hl:tq lo m 0=some l) (hh:tq hi es.length es.length=some m):
  ∃x',bl z x' ((es.take m).drop l)∧ ∀{β:Type} (K:AV→Option β),fO z x lo hi none K=K x':=by
 obtain ⟨x',hx,e⟩:=h.slice hl hh (some:AV→Option AV)
 refine ⟨x',hx,fun K=> ?_⟩
 have e:aK (ou z x lo hi none) some=some x':=e
 show aK (ou z x lo hi none) K= _
 cases hs:ou z x lo hi none with
 | none=>rw [hs] at e;cases e
 | some u=>rw [hs] at e;cases e;rfl
@[simp] theorem gH (r:List Nat):apart ⟨r,.kept⟩ q0=true:=id rfl
@[simp] theorem ga (r:List Nat):apart q0 ⟨r,.kept⟩=true:=id rfl
theorem ny {cs:List AV}:bare (.agg cs)=bz cs:=rfl
def vX (st:St) (u8:TypeId) (a:AV) (out:List UInt8):Prop:=(a= .aq∧out=[])∨ ∃k,a= .sl 1 (ofBytes out) (.own k)∧st.get k= .ok (.tok out.length u8)∧st.ro≤k∧out≠[]
def O0 (st:St) (T u8:TypeId) (p:Nat) (pre post:List AV) (out:List UInt8):Prop:=
 ∃a0 a1,st.get p= .ok (.cells T (pre++a0::a1::post))∧(a0= .nilp∨a0= .mp p pre.length)∧vX st u8 a1 out∧st.ro≤p
structure lI (st st':St) (u8:TypeId) (p:Nat):Prop where
 ro:st'.ro=st.ro
 h:st.h≤st'.h
 old: ∀j o,j≠p→(∀n,o≠ .tok n u8)→st.get j= .ok o→st'.get j= .ok o
theorem lI.refl (st:St) (u8:TypeId) (p:Nat):lI st st u8 p:=⟨rfl,Nat.le_refl _,fun _ _ _ _ h=>h⟩
theorem lI.trans {a b c:St} {u8:TypeId} {p:Nat} (h:lI a b u8 p) (k:lI b c u8 p):lI a c u8 p:=
 ⟨k.ro.trans h.ro,Nat.le_trans h.h k.h,fun j o hj ho hg=>k.old j o hj ho (h.old j o hj ho hg)⟩
theorem lI.put {st:St} {u8:TypeId} {p:Nat} {o:Obj}:lI st (st.put p o) u8 p:=⟨rfl,Nat.le_refl _,fun j x hj _ hg=>by rw [St.aU (fun e=>hj e.symm)];exact hg⟩
theorem O0.As {st st':St} {T u8:TypeId} {p:Nat} {pre post:List AV} {out:List UInt8} (h:O0 st T u8 p pre post out) (k:ba st st' fun _=>False):O0 st' T u8 p pre post out:=by
 obtain ⟨a0,a1,h1,h2,h3,h4⟩:=h
 refine ⟨a0,a1,k.old _ _ (fun h=>h) h1,h2, ?_,by rw [k.ro];exact h4⟩
 rcases h3 with h3 | ⟨j,e,hj,hr,hn⟩
 ·exact .inl h3
 ·exact .inr ⟨j,e,k.old _ _ (fun h=>h) hj,by rw [k.ro];exact hr,hn⟩
theorem vX.put {st:St} {u8:TypeId} {a:AV} {out:List UInt8} {p:Nat} {T:TypeId} {cs cs':List AV} (h:vX st u8 a out) (hp:st.get p= .ok (.cells T cs)):vX (st.put p (.cells T cs')) u8 a out:=by
 rcases h with h | ⟨k,h1,h2,h3,h4⟩
 ·exact .inl h
 ·refine .inr ⟨k,h1, ?_,h3,h4⟩
  have:p≠k:=by rintro rfl;rw [hp] at h2;cases h2
  rw [St.aU this];exact h2
theorem wz (a b:List UInt8):ofBytes (a++b)=ofBytes a++ofBytes b:=List.map_append
theorem en (a:List UInt8):(ofBytes a).length=a.length:=List.length_map _
theorem pc: ∀(s:List UInt8),eM (ofBytes s)= .ok s
 | []=>rfl
 | b::l=>by
  have ih:=pc l
  show (match b.toNat.blt 256 with | true=>(do pure (UInt8.ofNat b.toNat::(← eM (ofBytes l))):cV (List UInt8)) | false=> .error "no byte")= _
  rw [cY.2 (UInt8.toNat_lt b),ih]
  show Except.ok (UInt8.ofNat b.toNat::l)= _
  simp
section
variable {β:Type} {O:qJ}
theorem zC (pre post:List AV) (a:AV):eL (pre++a::post) pre.length= .ok a:=by
 induction pre with
 | nil=>rfl
 | cons v l ih=>exact ih
theorem x5 (pre post:List AV) (a b:AV):eL (pre++a::b::post) (pre.length+1)= .ok b:=by
 induction pre with
 | nil=>rfl
 | cons v l ih=>exact ih
theorem Dx (pre post:List AV) (a x:AV):cF (pre++a::post) pre.length [x]=pre++x::post:=by
 simp [cF,List.drop_append]
theorem Ba {st:St} {L:List (TypeId×Nat×Nat)} {T u8:TypeId} {p:Nat} {pre post:List AV} {out:List UInt8} (h:O0 st T u8 p pre post out) (hl:BF L T (pre++ .nilp:: .aq::post).length pre.length=true):
  ∃st' a1,st'.get p= .ok (.cells T (pre++ .mp p pre.length::a1::post))∧vX st' u8 a1 out∧st'.ro≤p∧lI st st' u8 p∧st'.h=st.h∧ ∃fx,∀{β:Type} (K:Kv β),dF O (fu (.copyCheck L) [.mp p pre.length]) st K=K (.tup []) st' fx:=by
 obtain ⟨a0,a1,h1,h2,h3,h4⟩:=h
 have hl':BF L T (pre++a0::a1::post).length pre.length=true:=by simpa using hl
 rcases h2 with rfl | rfl
 ·refine ⟨st.put p (.cells T (pre++ .mp p pre.length::a1::post)),a1,St.aR (St.bM.1 h1).1,h3.put h1,h4,lI.put,rfl,⟨[p],.wrote p (.cells T (pre++ .mp p pre.length::a1::post))⟩,fun K=> ?_⟩
  simp only [dF,lZ,fu,mw,h1,mb,au,hl',zC,aI,Dx,ja,Nat.ble_eq_true_of_le h4,al]
 ·refine ⟨st,a1,h1,h3,h4,lI.refl _ _ _,rfl,⟨[p],.kept⟩,fun K=> ?_⟩
  simp only [dF,lZ,fu,mw,h1,mb,au,hl',zC,aI,Nat.beq_refl,Bool.and_self,al]
theorem Dy {st:St} {T u8:TypeId} {p:Nat} {pre post:List AV} {out:List UInt8} (h:O0 st T u8 p pre post out) (ho:out.length < 4611686018427387904) (K:Kv β):
  ∃fx,dF O (fu (.builderString u8) [.mp p pre.length]) st K=K (.str out) st fx:=by
 obtain ⟨a0,a1,h1,h2,h3,h4⟩:=h
 rcases h3 with ⟨rfl,rfl⟩ | ⟨k,rfl,hk,hr,hn⟩
 ·refine ⟨⟨[],.looked⟩, ?_⟩
  simp only [dF,lZ,fu,mw,h1,cellsOf,au,x5,aI,al]
 ·refine ⟨⟨[],.looked⟩, ?_⟩
  have e1:(ofBytes out).isEmpty=false:=by
   cases out with
   | nil=>exact absurd rfl hn
   | cons b l=>rfl
  have e2:(Nat.beq u8 u8&&Nat.beq out.length (ofBytes out).length&& !(ofBytes out).isEmpty&&Nat.blt out.length 4611686018427387904)=true:=by
   rw [en,e1,cY.2 ho,Nat.beq_refl,Nat.beq_refl];rfl
  simp only [dF,lZ,fu,mw,h1,cellsOf,au,x5,aI,al,Nat.ble_eq_true_of_le hr,hk,e2,pc]
theorem J6 {st:St} {u8:TypeId} {a:AV} {out s:List UInt8} (h:vX st u8 a out) (hl:out.length+s.length≤70368744177664) (hro:st.ro≤st.h):
  ∃v st',vX st' u8 v (out++s)∧one v=true∧st'.ro=st.ro∧st.h≤st'.h∧(∀j o,(∀n,o≠ .tok n u8)→st.get j= .ok o→st'.get j= .ok o)∧ ∃fx,∀{β:Type} (K:Kv β),gf 1 1 u8 a (ofBytes s) st K=K v st' fx:=by
 have room: ∀n,n≤70368744177664→cO n ⟨.other,1,1,[],false,false⟩=true:=fun n hn=>by
  simp only [cO,Nat.mul_one,Nat.ble_eq_true_of_le hn];rfl
 cases s with
 | nil=>
  refine ⟨a,st,by simpa using h, ?_,rfl,Nat.le_refl _,fun _ _ _ h=>h,q0,fun K=> ?_⟩
  ·rcases h with ⟨rfl,_⟩ | ⟨k,rfl,_⟩ <;> rfl
  ·rcases h with ⟨rfl,rfl⟩ | ⟨k,rfl,hk,hr,hn⟩ <;> rfl
 | cons b s=>
  rcases h with ⟨rfl,rfl⟩ | ⟨k,rfl,hk,hr,hn⟩
  ·have hr:=room (ofBytes (b::s)).length (by rw [en];simpa using hl)
   refine ⟨.sl 1 (ofBytes (b::s)) (.own st.h),st.add (.tok (ofBytes (b::s)).length u8),.inr ⟨st.h,rfl, ?_,hro,by simp⟩,rfl,rfl,Nat.le_succ _,fun j o _ hg=>St.iF hg,⟨[],.made st.h (.tok (ofBytes (b::s)).length u8)⟩,fun K=> ?_⟩
   ·rw [en];exact St.dR
   ·exact qa (by simp only [ofBytes,List.map_cons] at hr ⊢;simp only [tU,hr];rfl) K
  ·have hr2:=room ((ofBytes out).length+(ofBytes (b::s)).length) (by rw [en,en];exact hl)
   refine ⟨.sl 1 (ofBytes (out++b::s)) (.own k),st.put k (.tok ((ofBytes out).length+(ofBytes (b::s)).length) u8),.inr ⟨k,rfl, ?_,hr,by simp⟩,rfl,rfl,Nat.le_refl _,fun j o ho hg=> ?_,⟨[k],.wrote k (.tok ((ofBytes out).length+(ofBytes (b::s)).length) u8)⟩,fun K=> ?_⟩
   ·rw [St.aR (St.bM.1 hk).1,en,en,List.length_append]
   ·have:k≠j:=by rintro rfl;rw [hk] at hg;cases hg;exact ho _ rfl
    rw [St.aU this];exact hg
   ·have e1:(Nat.beq out.length (ofBytes out).length&&Nat.beq u8 u8)=true:=by rw [en,Nat.beq_refl,Nat.beq_refl];rfl
    have e2:Nat.beq 1 1=true:=rfl
    refine qa ?_ K
    rw [wz]
    simp only [ofBytes,List.map_cons] at hr2 e1 ⊢
    simp only [tU,hr2,e2,Bool.and_self,hk,e1,ja,Nat.ble_eq_true_of_le hr]
end
end Go.VM
