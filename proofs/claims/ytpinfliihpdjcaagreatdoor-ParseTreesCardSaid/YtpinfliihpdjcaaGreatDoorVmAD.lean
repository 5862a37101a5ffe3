/-
  A part of the proof.
-/
import Derived.Test.YtpinfliihpdjcaaGreatDoorVmAC
import Derived.Laws.Tables
set_option linter.all false
namespace Go.VM
namespace Tr
variable {α:Type}
theorem get_set_same: ∀(f:Nat) (t:Tr α) (n:Nat) (x:α),n < f->(set f t n x).get n=some x
 | 0,_,_,_,h=>by omega
 | f+1,t,n,x,h=>by
  unfold set;cases a:n.beq 0 with
  | true=>cases t <;> simp [get,a]
  | false=>
   have h0:n≠0:=by intro e;subst e;simp at a
   cases b:(n % 2).beq 1 with
   | true=>cases t <;> simp [get,a,b,get_set_same f _ (n / 2) x (by omega)]
   | false=>cases t <;> simp [get,a,b,get_set_same f _ (n / 2 - 1) x (by omega)]
theorem lG (n:Nat):(Tr.leaf:Tr α).get n=none:=by unfold get;rfl
theorem iH: ∀(f:Nat) (t:Tr α) (n m:Nat) (x:α),n≠m->(set f t n x).get m=t.get m
 | 0,_,_,_,_,_=>rfl
 | f+1,t,n,m,x,h=>by
  unfold set;cases o:n.beq 0 with
  | true=>
   have d:n=0:=NZ o;have a:m.beq 0=false:=by
    cases a:m.beq 0 with
    | false=>rfl
    | true=>exact absurd (d.trans (NZ a).symm) h
   cases t with
   | leaf=>cases i:(m % 2).beq 1 <;> simp [get,a,i]
   | node v l r=>cases i:(m % 2).beq 1 <;> simp [get,a,i]
  | false=>
   have d:n≠0:=by intro e;subst e;simp at o
   cases a:m.beq 0 with
   | true=>
    cases g:(n % 2).beq 1 with
    | true=>cases t <;> simp [get,a]
    | false=>cases t <;> simp [get,a]
   | false=>
    have p:m≠0:=by intro e;subst e;simp at a
    cases g:(n % 2).beq 1 with
    | true=>
     have j:=NZ g;cases c:(m % 2).beq 1 with
     | true=>
      have k:=NZ c;have b:n / 2≠m / 2:=by omega
      cases t with
      | leaf=>simp [get,a,c,iH f _ _ _ x b]
      | node v l r=>simp [get,a,c,iH f _ _ _ x b]
     | false=>cases t <;> simp [get,a,c]
    | false=>
     have j:n % 2≠1:=by intro e;rw [e] at g;simp at g
     cases c:(m % 2).beq 1 with
     | true=>cases t <;> simp [get,a,c]
     | false=>
      have k:m % 2≠1:=by intro e;rw [e] at c;simp at c
      have b:n / 2 - 1≠m / 2 - 1:=by omega
      cases t with
      | leaf=>simp [get,a,c,iH f _ _ _ x b]
      | node v l r=>simp [get,a,c,iH f _ _ _ x b]
theorem gI (t:Tr α) (n m:Nat) (x:α):(t.put n x).get m=if n=m then some x else t.get m:=by
 unfold put;by_cases h:n=m
 .subst h;rw [if_pos rfl];exact get_set_same _ _ _ _ (by omega)
 .rw [if_neg h];exact iH _ _ _ _ _ h
theorem set_set: ∀(f:Nat) (t:Tr α) (n:Nat) (x y:α),set f (set f t n x) n y=set f t n y
 | 0,_,_,_,_=>rfl
 | f+1,t,n,x,y=>by
  cases a:n.beq 0 with
  | true=>cases t <;> simp [set,a]
  | false=>
   cases b:(n % 2).beq 1 with
   | true=>cases t <;> simp [set,a,b,set_set f]
   | false=>cases t <;> simp [set,a,b,set_set f]
end Tr
theorem dM {a b:Nat}:a.blt b=true↔a < b:=by simp [Nat.blt];omega
theorem cB {a b:Nat}:a.blt b=false↔b<=a:=by
 cases h:a.blt b with
 | true=>rw [dM] at h;simp;omega
 | false=>simp;exact Nat.le_of_not_lt fun k=>by rw [dM.2 k] at h;cases h
theorem St.cA {s:St} {i:Nat} {o:Obj}:s.get i= .ok o↔i < s.h/\s.objs.get i=some o:=by
 unfold St.get;cases h:i.blt s.h with
 | true=>
  rw [dM] at h;cases k:s.objs.get i <;> simp [h]
 | false=>rw [cB] at h;simp;omega
theorem St.aP {s:St} {i:Nat} {o:Obj} (h:i < s.h):(s.put i o).get i= .ok o:=by
 rw [St.cA];exact ⟨h,by simp [St.put,Tr.gI]⟩
theorem St.aQ {s:St} {i j:Nat} {o:Obj} (h:i≠j):(s.put i o).get j=s.get j:=by
 simp [St.put,St.get,Tr.gI,h]
theorem St.dE {s:St} {j:Nat} {o o':Obj}:(s.new o).2.get j= .ok o'↔(j=s.h/\o'=o)\/(j < s.h/\s.get j= .ok o'):=by
 rw [St.cA,St.cA];simp only [St.new,Tr.gI];by_cases h:s.h=j
 .subst h;simp;constructor <;> intro h <;> exact h.symm
 .rw [if_neg h];constructor
  .rintro ⟨h1,a⟩;exact .inr ⟨by omega,by omega,a⟩
  .rintro (⟨h1,_⟩ | ⟨h1,_,b⟩)
   .exact absurd h1.symm h
   .exact ⟨by omega,b⟩
def rZ (d:TypeDesc):U->Prop
 | .bool=>d= .bool
 | .int k=>d= .int k
 | .str=>d= .string
 | .flt k=>d= .float k
 | .ptr e=>d= .pointer e
 | .slice e=>d= .slice e
 | .arr n e=>d= .array n e
 | .map k e=>d= .map k e
 | .struct fs=> ∃fields,d= .struct fields/\fields.toList.map (fun f=>(f.offset,f.type))=fs
 | .func=> ∃a b c,d= .func a b c
 | .iface bare=> ∃ms,d= .interface ms/\(bare=true->ms= #[])
 | .uptr=>d= .unsafePointer
 | .other=>True
structure gf (P:Program) (t:TypeId) (i:TI):Prop where
 und: ∃d,P.underlying t=some d/\rZ d i.und/\(i.agg=match d with | .struct _ | .array .. =>true | _=>false)
 cmp:i.cmp=true->P.eqGuardType P.depth t=false/\P.stoodInHeld t=false/\ ∀fields,P.underlying t=some (.struct fields)-> ∀f∈fields.toList,f.name≠ "_"
 info: ∃f,P.info? t=some f/\f.size=i.size/\f.bytes=i.bytes/\ ∃z,f.zero=some z/\z.cells.size=i.size/\(i.agg=false->z.oneCell'=true)/\(∀v∈z.cells,v.oneCell'=true)/\(i.agg=true-> ∃cs,z= .agg cs)/\ ∀g,RL g i.zero z.cells.toList
def qW (P:Program) (T:TT):Prop:= ∀t i,T.get t=some i->gf P t i
theorem bO {T:TT} {t:TypeId} {i:TI}:ti T t= .ok i↔T.get t=some i:=by
 unfold ti;cases T.get t <;> simp
theorem cell_of {w:World} {b o:Nat} {vs:Array Value} {ty:TypeId} {fz:Nat×Nat} (h:w.heap[b]? =some (.cells vs ty fz)):
  w.cell? ⟨b,o,none⟩=vs[o]? :=by
 simp [World.cell?,h]
theorem gO {w:World} {b o:Nat} {vs rest:Array Value} {ty:TypeId} {fz:Nat×Nat} {x:Value} (h:w.heap[b]? =some (.cells (vs++rest) ty fz)) (a:vs[o]? =some x):
  w.cell? ⟨b,o,none⟩=some x:=by
 rw [cell_of h];have c:o < vs.size:=by
  rcases Nat.lt_or_ge o vs.size with q | q
  .exact q
  .rw [Array.getElem?_eq_none q] at a;cases a
 rw [Array.getElem?_append_left c];exact a
theorem cQ {w:World} {b o:Nat} {v:Value} (h:w.cell? ⟨b,o,none⟩=some v): ∃vs ty fz,w.heap[b]? =some (.cells vs ty fz)/\vs[o]? =some v:=by
 unfold World.cell? at h;split at h
 .rename_i c ty fz a;exact ⟨c,ty,fz,a,by simpa using h⟩
 .simp at h
def At (g:Gh) (id:Nat):Obj->Nat->Prop
 | .cells _ _,b=>g.E id=some (.blk b)
 | .map _,b=>g.E id=some (.blk b)
 | .sit ..,b=>g.E id=some (.blk b)
 | .tok n _,b=> ∃loc cap,g.E id=some (.tok loc)/\loc n=some (b,cap)
 | .dead,_=>False
 | .grow n _ _ _,b=> ∃loc cap,g.E id=some (.tok loc)/\loc n=some (b,cap)
 | .tG,_=>False
 | .row n _ _ _,b=> ∃loc cap,g.E id=some (.tok loc)/\loc n=some (b,cap)
 | .loop ..,b=>g.E id=some (.blk b)
def Holds (T:TT) (g:Gh) (w:World) (id:Nat):Obj->Prop
 | .cells ty cs=> ∃b vs rest d,g.E id=some (.blk b)/\w.heap[b]? =some (.cells (vs++rest) d (0,0))/\RL g cs vs.toList/\(∀v∈vs.toList,v.oneCell'=true)/\(∀o,g.F b o=none)/\(ty < 1000000->rest= #[]/\d=ty)
 | .tok n e=> ∃loc b cap i vs fz,g.E id=some (.tok loc)/\loc n=some (b,cap)/\(∀m,n < m->loc m=none)/\T.get e=some i/\1<=i.size/\n<=cap/\
  w.heap[b]? =some (.cells vs e fz)/\vs.size=cap * i.size/\fz.2<=n * i.size/\ ∀o,n * i.size<=o->g.F b o=none
 | .map es=> ∃b ents clk,g.E id=some (.blk b)/\w.heap[b]? =some (.map ents clk)/\mi g es ents.toList/\g.M b=none
 | .sit s pos=> ∃b,g.E id=some (.blk b)/\w.heap[b]? =some (.stringIter ⟨s.toArray⟩ pos)
 | .dead=>True
 | .grow n e z es=> ∃loc b cap i vs fz,g.E id=some (.tok loc)/\loc n=some (b,cap)/\(∀m,n < m->loc m=none)/\T.get e=some i/\1<=i.size/\n<=cap/\
  w.heap[b]? =some (.cells vs e fz)/\vs.size=cap * i.size/\fz.2<=es.length * i.size/\(∀o,es.length * i.size<=o->g.F b o=none)/\z=i.size/\es.length<=n/\bx es=true/\eR g z es b 0
 | .tG=>g.E id=none
 | .row n e z cs=> ∃loc b cap i pre rest,g.E id=some (.tok loc)/\loc n=some (b,cap)/\(∀m,n < m->loc m=none)/\T.get e=some i/\1<=i.size/\n<=cap/\
  w.heap[b]? =some (.cells (pre++rest) e (0,0))/\(pre++rest).size=cap * i.size/\(∀o,g.F b o=none)/\z=i.size/\RL g cs pre.toList/\(∀v∈pre.toList,v.oneCell'=true)/\cs.length=n * i.size
 | .loop _ ps a c fr s p=> ∃b r,g.E id=some (.blk b)/\w.heap[b]? =some (.loop r)/\ra g fr r.tmps/\r.params.toList=ps/\r.assign=a/\r.body=c/\(codeOk a=true/\codeOk c=true/\fr.strict=true)/\DI s p r
def mQ (w:World) (b:Nat):Prop:= ∀vs ty fz,w.heap[b]? =some (.cells vs ty fz)->fz=(0,0)
theorem mQ.congr {w w':World} {b:Nat} (h:mQ w b) (e:w'.heap[b]? =w.heap[b]?):mQ w' b:=fun vs ty fz a=>h vs ty fz (e ▸ a)
theorem fR {w w':World} {b:Nat} (h:w'.heap[b]? =w.heap[b]?) (o:Nat):w'.frozen? ⟨b,o,none⟩=w.frozen? ⟨b,o,none⟩:=by
 simp [World.frozen?,h]
theorem mQ.KY {w:World} {b:Nat} (u:mQ w b) (o:Nat):w.frozen? ⟨b,o,none⟩=false:=by
 unfold World.frozen?
 cases a:w.heap[b]? with
 | none=>simp
 | some x=>
  cases x with
  | cells vs ty fz=>simp [u _ _ _ a]
  | _=>simp
theorem mQ.other {w:World} {b:Nat} (h: ∀vs ty fz,w.heap[b]? ≠some (.cells vs ty fz)):mQ w b:=fun _ _ _ a=>absurd a (h _ _ _)
theorem mQ.D8 {w:World} {vs:Array Value} {ty:TypeId}:mQ (w.alloc (.cells vs ty (0,0))) w.heap.size:=fun a c d b=>by
 have:(w.heap.push (.cells vs ty (0,0)))[w.heap.size]? =some (.cells a c d):=b;rw [Array.getElem?_push,if_pos rfl] at this;cases this;rfl
theorem mQ.setRow {w:World} {b:Nat} {cs:Array Value} (u:mQ w b):mQ (w.setRow b cs) b:=fun a c d e=>by
 simp only [World.setRow,Array.getElem?_modify,if_true] at e;cases f:w.heap[b]? with
 | none=>rw [f] at e;cases e
 | some o=>
  rw [f] at e;cases o <;> simp only [Option.map_some,N1,reduceCtorEq] at e
  cases e;exact u _ _ _ f
theorem mQ.Gc {w:World} {b:Nat} {o:Go.Obj} (ho: ∀vs ty fz,o≠ .cells vs ty fz:=by intro _ _ _ e;cases e):mQ {w with heap:=w.heap.setIfInBounds b o} b:=fun a c d f=>by
 have f:(w.heap.setIfInBounds b o)[b]? =some (.cells a c d):=f;rw [Array.getElem?_setIfInBounds,if_pos rfl] at f;split at f
 .cases f;exact absurd rfl (ho _ _ _)
 .cases f
structure Inv (T:TT) (A:Nat->Prop) (g:Gh) (st:St) (w:World):Prop where
 F: ∀b o v,g.F b o=some v->w.cell? ⟨b,o,none⟩=some v
 M: ∀b ents clk,g.M b=some (ents,clk)->w.heap[b]? =some (.map ents.toArray clk)
 E: ∀id,st.h<=id->g.E id=none
 H: ∀id o,st.get id= .ok o->Holds T g w id o
 D: ∀id id' o o' b,st.get id= .ok o->st.get id'= .ok o'->At g id o b->At g id' o' b->id=id'
 own: ∀id o b,st.get id= .ok o->At g id o b->st.ro<=id->A b
 up: ∀b,w.heap.size<=b->A b
 C:g.C->(∀b o v,A b->g.F b o=some v->w.frozen? ⟨b,o,none⟩=false)/\ ∀id o b,st.get id= .ok o->At g id o b->mQ w b
structure Kp (A:Nat->Prop) (g:Gh) (w:World) (g':Gh) (w':World):Prop where
 size:w.heap.size<=w'.heap.size
 heap: ∀b,¬ A b->w'.heap[b]? =w.heap[b]?
 F: ∀b,¬ A b-> ∀o,g'.F b o=g.F b o
 M: ∀b,¬ A b->g'.M b=g.M b
 le:Le g g'
 rest:w'.os=w.os/\w'.tape=w.tape/\w'.output=w.output
theorem Kp.refl (A:Nat->Prop) (g:Gh) (w:World):Kp A g w g w:=⟨NX _,fun _ _=>rfl,fun _ _ _=>rfl,fun _ _=>rfl,Le.refl g,rfl,rfl,rfl⟩
theorem Kp.trans {A:Nat->Prop} {g g' c:Gh} {w w' d:World} (h:Kp A g w g' w') (k:Kp A g' w' c d):Kp A g w c d:=
 ⟨Oe h.size k.size,fun b a=>(k.heap b a).trans (h.heap b a),fun b a o=>(k.F b a o).trans (h.F b a o),fun b a=>(k.M b a).trans (h.M b a),h.le.trans k.le,k.rest.1.trans h.rest.1,k.rest.2.1.trans h.rest.2.1,k.rest.2.2.trans h.rest.2.2⟩
theorem je {T:TT} {g:Gh} {w w':World} {id:Nat} {o:Obj} (h:Holds T g w id o) (j: ∀b,At g id o b->w'.heap[b]? =w.heap[b]?):Holds T g w' id o:=by
 cases o with
 | cells ty cs=>
  obtain ⟨b,vs,rest,t,h1,d,f⟩:=h;exact ⟨b,vs,rest,t,h1,by rw [j b h1];exact d,f⟩
 | tok n e=>
  obtain ⟨loc,b,cap,i,vs,fz,h1,d,f,h4,k,l,m,q⟩:=h;exact ⟨loc,b,cap,i,vs,fz,h1,d,f,h4,k,l,by rw [j b ⟨loc,cap,h1,d⟩];exact m,q⟩
 | map es=>
  obtain ⟨b,ents,clk,h1,d,f⟩:=h;exact ⟨b,ents,clk,h1,by rw [j b h1];exact d,f⟩
 | sit s pos=>
  obtain ⟨b,h1,d⟩:=h;exact ⟨b,h1,by rw [j b h1];exact d⟩
 | dead=>trivial
 | grow n e z es=>
  obtain ⟨loc,b,cap,i,vs,fz,h1,d,f,h4,k,l,m,q⟩:=h;exact ⟨loc,b,cap,i,vs,fz,h1,d,f,h4,k,l,by rw [j b ⟨loc,cap,h1,d⟩];exact m,q⟩
 | tG=>exact h
 | row n e z cs=>
  obtain ⟨loc,b,cap,i,pre,rest,h1,d,f,h4,k,l,m,q⟩:=h;exact ⟨loc,b,cap,i,pre,rest,h1,d,f,h4,k,l,by rw [j b ⟨loc,cap,h1,d⟩];exact m,q⟩
 | loop imm ps a c fr s p=>
  obtain ⟨b,r,h1,d,f⟩:=h;exact ⟨b,r,h1,by rw [j b h1];exact d,f⟩
theorem th {T:TT} {g:Gh} {w:World} {id b:Nat} {o:Obj} (h:Holds T g w id o) (f:At g id o b):b < w.heap.size:=by
 have key: ∀x:Go.Obj,w.heap[b]? =some x->b < w.heap.size:=fun x A=>by
  rcases Nat.lt_or_ge b w.heap.size with h | h
  .exact h
  .simp [Array.getElem?_eq_none h] at A
 cases o with
 | cells ty cs=>
  obtain ⟨b',vs,rest,B,h1,d,l⟩:=h;have:b'=b:=by have:=h1.symm.trans f;simpa using this
  subst this;exact key _ d
 | tok n e=>
  obtain ⟨loc,b',cap,i,vs,fz,h1,d,l,h4,u,v,m,y⟩:=h;obtain ⟨loc',cap',q,t⟩:=f;have j:=h1.symm.trans q;simp only [N1,jo.tok.injEq] at j;subst j;have k:=d.symm.trans t;simp only [N1,NU] at k;obtain ⟨rfl,rfl⟩:=k;exact key _ m
 | map es=>
  obtain ⟨b',ents,clk,h1,d,l⟩:=h;have:b'=b:=by have:=h1.symm.trans f;simpa using this
  subst this;exact key _ d
 | sit s pos=>
  obtain ⟨b',h1,d⟩:=h;have:b'=b:=by have:=h1.symm.trans f;simpa using this
  subst this;exact key _ d
 | dead=>exact f.elim
 | grow n e z es=>
  obtain ⟨loc,b',cap,i,vs,fz,h1,d,l,h4,u,v,m,y⟩:=h;obtain ⟨loc',cap',q,t⟩:=f;have j:=h1.symm.trans q;simp only [N1,jo.tok.injEq] at j;subst j;have k:=d.symm.trans t;simp only [N1,NU] at k;obtain ⟨rfl,rfl⟩:=k;exact key _ m
 | tG=>exact f.elim
 | row n e z cs=>
  obtain ⟨loc,b',cap,i,pre,rest,h1,d,l,h4,u,v,m,y⟩:=h;obtain ⟨loc',cap',q,t⟩:=f;have j:=h1.symm.trans q;simp only [N1,jo.tok.injEq] at j;subst j;have k:=d.symm.trans t;simp only [N1,NU] at k;obtain ⟨rfl,rfl⟩:=k;exact key _ m
 | loop imm ps a c fr s p=>
  obtain ⟨b',r,h1,d,l⟩:=h;have:b'=b:=by have:=h1.symm.trans f;simpa using this
  subst this;exact key _ d
theorem World.fC {w:World} {o:Go.Obj} {b:Nat} (h:b < w.heap.size):(w.alloc o).heap[b]? =w.heap[b]? :=by
 show (w.heap.push o)[b]? = _;rw [Array.getElem?_push,if_neg (by omega)]
theorem World.heap_alloc_new {w:World} {o:Go.Obj}:(w.alloc o).heap[w.heap.size]? =some o:=by
 show (w.heap.push o)[w.heap.size]? = _;rw [Array.getElem?_push,if_pos rfl]
theorem lt_of_heap {w:World} {b:Nat} {x:Go.Obj} (a:w.heap[b]? =some x):b < w.heap.size:=by
 rcases Nat.lt_or_ge b w.heap.size with h | h
 .exact h
 .simp [Array.getElem?_eq_none h] at a
theorem ct {w w':World} {b:Nat} (h:w'.heap[b]? =w.heap[b]?) (o:Nat):w'.cell? ⟨b,o,none⟩=w.cell? ⟨b,o,none⟩:=by
 simp [World.cell?,h]
theorem Inv.world {T:TT} {A:Nat->Prop} {g:Gh} {st:St} {w w':World} (h:Inv T A g st w) (hs:w.heap.size<=w'.heap.size)
  (d: ∀b,b < w.heap.size->w'.heap[b]? =w.heap[b]?):Inv T A g st w' where
 F b o v e:=by
  have h1:=h.F b o v e;obtain ⟨vs,ty,fz,f,_⟩:=cQ h1;rw [ct (d b (lt_of_heap f))];exact h1
 M b ents clk i:=by rw [d b (lt_of_heap (h.M b ents clk i))];exact h.M b ents clk i
 E:=h.E
 H id o ho:=je (h.H id o ho) fun b a=>d b (th (h.H id o ho) a)
 D:=h.D
 own:=h.own
 up b a:=h.up b (Oe hs a)
 C c:=⟨fun b o v j e=>by
   obtain ⟨vs,ty,fz,f,_⟩:=cQ (h.F b o v e);rw [fR (d b (lt_of_heap f))];exact (h.C c).1 b o v j e,
  fun id o b ho a=>((h.C c).2 id o b ho a).congr (d b (th (h.H id o ho) a))⟩
theorem Inv.alloc {T:TT} {A:Nat->Prop} {g:Gh} {st:St} {w:World} (o:Go.Obj) (h:Inv T A g st w):Inv T A g st (w.alloc o):=
 h.world (by simp) fun _ a=>World.fC a
theorem Inv.drew {T:TT} {A:Nat->Prop} {g:Gh} {st:St} {w:World} (h:Inv T A g st w):Inv T A g st w.drew:=
 h.world (NX _) fun _ _=>rfl
theorem Kp.alloc {T:TT} {A:Nat->Prop} {g:Gh} {st:St} {w:World} (o:Go.Obj) (h:Inv T A g st w):Kp A g w g (w.alloc o):=
 ⟨by simp,fun b a=>World.fC (Nat.lt_of_not_le fun k=>a (h.up b k)),fun _ _ _=>rfl,fun _ _=>rfl,Le.refl g,rfl,rfl,rfl⟩
theorem Kp.drew (A:Nat->Prop) (g:Gh) (w:World):Kp A g w g w.drew:=⟨NX _,fun _ _=>rfl,fun _ _ _=>rfl,fun _ _=>rfl,Le.refl g,rfl,rfl,rfl⟩
theorem gA {T:TT} {g g':Gh} {w:World} {id:Nat} {o:Obj} (h:Holds T g w id o) (le:Le g g') (l:g'.E id=g.E id)
  (x: ∀b,At g id o b->(∀k,g'.F b k=g.F b k)/\g'.M b=g.M b):Holds T g' w id o:=by
 cases o with
 | cells ty cs=>
  obtain ⟨b,vs,rest,C,h1,d,f,h4,m,q⟩:=h;exact ⟨b,vs,rest,C,l.trans h1,d,cT le _ _ f,h4,fun k=>by rw [(x b h1).1 k];exact m k,q⟩
 | tok n e=>
  obtain ⟨loc,b,cap,i,vs,fz,h1,d,f,h4,m,q,y,A,B,j⟩:=h;exact ⟨loc,b,cap,i,vs,fz,l.trans h1,d,f,h4,m,q,y,A,B,fun k D=>by rw [(x b ⟨loc,cap,h1,d⟩).1 k];exact j k D⟩
 | map es=>
  obtain ⟨b,ents,clk,h1,d,f,h4⟩:=h;exact ⟨b,ents,clk,l.trans h1,d,tu le _ _ f,by rw [(x b h1).2];exact h4⟩
 | sit s pos=>
  obtain ⟨b,h1,d⟩:=h;exact ⟨b,l.trans h1,d⟩
 | dead=>trivial
 | grow n e z es=>
  obtain ⟨loc,b,cap,i,vs,fz,h1,d,f,h4,m,q,y,A,B,j,t,u,v,G⟩:=h;exact ⟨loc,b,cap,i,vs,fz,l.trans h1,d,f,h4,m,q,y,A,B,fun k D=>by rw [(x b ⟨loc,cap,h1,d⟩).1 k];exact j k D,t,u,v,eG le _ _ _ _ G⟩
 | tG=>exact l.trans h
 | row n e z cs=>
  obtain ⟨loc,b,cap,i,pre,rest,h1,d,f,h4,m,q,y,A,B,j,t,u,v⟩:=h;exact ⟨loc,b,cap,i,pre,rest,l.trans h1,d,f,h4,m,q,y,A,fun k=>by rw [(x b ⟨loc,cap,h1,d⟩).1 k];exact B k,j,cT le _ _ t,u,v⟩
 | loop imm ps a c fr s p=>
  obtain ⟨b,r,h1,d,f,h4⟩:=h;exact ⟨b,r,l.trans h1,d,f.mono le,h4⟩
theorem iU {g g':Gh} {id:Nat} {o:Obj} {b:Nat} (a:g'.E id=g.E id):At g' id o b↔At g id o b:=by
 cases o <;> simp [At,a]
def Gh.cg (g:Gh) (id:Nat) (e:jo):Gh:={g with E:=fun j=>if j=id then some e else g.E j}
theorem Gh.aF (g:Gh) (id:Nat) (e:jo):(g.cg id e).E id=some e:=by simp [Gh.cg]
theorem Gh.bm (g:Gh) (e:jo) {id j:Nat} (h:j≠id):(g.cg id e).E j=g.E j:=by simp [Gh.cg,h]
theorem Le.cg {g:Gh} {id:Nat} {e:jo} (h:g.E id=none):Le g (g.cg id e):=by
 refine ⟨fun _ _ _ x=>x,fun _ _ x=>x,fun j b x=> ?_,fun j loc x=>⟨loc, ?_,fun _ _ y=>y⟩,Iff.rfl⟩
 .have:j≠id:=fun e=>by subst e;rw [h] at x;cases x
  rw [Gh.bm _ _ this];exact x
 .have:j≠id:=fun e=>by subst e;rw [h] at x;cases x
  rw [Gh.bm _ _ this];exact x
theorem Kp.cg {A:Nat->Prop} {g:Gh} {w:World} {id:Nat} {e:jo} (h:g.E id=none):Kp A g w (g.cg id e) w:=
 ⟨NX _,fun _ _=>rfl,fun _ _ _=>rfl,fun _ _=>rfl,Le.cg h,rfl,rfl,rfl⟩
theorem Inv.name {T:TT} {A:Nat->Prop} {g:Gh} {st:St} {w:World} (h:Inv T A g st w) (o:Obj) (e:jo) (b:Nat)
  (m: ∀id o',st.get id= .ok o'->¬ At g id o' b) (hA:A b) (d: ∀b',At (g.cg st.h e) st.h o b'->b'=b)
  (ho:Holds T (g.cg st.h e) w st.h o) (hU:g.C->mQ w b:=by exact fun _=>mQ.D8):Inv T A (g.cg st.h e) (st.new o).2 w where
 F:=h.F
 M:=h.M
 E id k:=by
  have n:st.h+1<=id:=k;rw [Gh.bm _ _ (by omega)];exact h.E id (by omega)
 H id o' l:=by
  rcases St.dE.1 l with ⟨rfl,rfl⟩ | ⟨q,i⟩
  .exact ho
  .exact gA (h.H id o' i) (Le.cg (h.E _ (NX _))) (Gh.bm _ _ (by omega)) fun _ _=>⟨fun _=>rfl,rfl⟩
 D id id' o1 r b' h1 s a j:=by
  rcases St.dE.1 h1 with ⟨rfl,rfl⟩ | ⟨l1,f⟩ <;> rcases St.dE.1 s with ⟨rfl,rfl⟩ | ⟨l2,p⟩
  .rfl
  .rw [iU (Gh.bm _ _ (by omega))] at j;have:=d b' a;subst this;exact absurd j (m _ _ p)
  .rw [iU (Gh.bm _ _ (by omega))] at a;have:=d b' j;subst this;exact absurd a (m _ _ f)
  .rw [iU (Gh.bm _ _ (by omega))] at a j;exact h.D id id' o1 r b' f p a j
 own id o' b' h1 a t:=by
  rcases St.dE.1 h1 with ⟨rfl,rfl⟩ | ⟨l1,f⟩
  .rw [d b' a];exact hA
  .rw [iU (Gh.bm _ _ (by omega))] at a;exact h.own id o' b' f a t
 up:=h.up
 C c:=⟨(h.C c).1,fun id o' b' h1 a=>by
  rcases St.dE.1 h1 with ⟨rfl,rfl⟩ | ⟨l1,f⟩
  .rw [d b' a];exact hU c
  .rw [iU (Gh.bm _ _ (by omega))] at a;exact (h.C c).2 id o' b' f a⟩
def Gh.bN (g:Gh) (b lo:Nat) (vs:List Value):Gh:={g with F:=fun b' o=>if b'=b/\lo<=o/\o < lo+vs.length then vs[o - lo]? else g.F b' o}
theorem Gh.gF (g:Gh) (b lo:Nat) (vs:List Value) (i:Nat) (v:Value) (h:vs[i]? =some v):(g.bN b lo vs).F b (lo+i)=some v:=by
 have hi:i < vs.length:=by
  rcases Nat.lt_or_ge i vs.length with k | k
  .exact k
  .simp [Og k] at h
 simp only [Gh.bN];rw [if_pos ⟨trivial,by omega,by omega⟩,show lo+i - lo=i by omega];exact h
theorem Gh.bH (g:Gh) (b lo:Nat) (vs:List Value) {b' o:Nat} (h:b'≠b\/o < lo\/lo+vs.length<=o):(g.bN b lo vs).F b' o=g.F b' o:=by
 simp only [Gh.bN];rw [if_neg (by omega)]
theorem Le.bN {g:Gh} {b lo:Nat} {vs:List Value} (h: ∀o,lo<=o->o < lo+vs.length->g.F b o=none):Le g (g.bN b lo vs):=by
 refine ⟨fun b' o v a=> ?_,fun _ _ x=>x,fun _ _ x=>x,fun _ loc x=>⟨loc,x,fun _ _ y=>y⟩,Iff.rfl⟩;by_cases c:b'=b/\lo<=o/\o < lo+vs.length
 .obtain ⟨rfl,h1,d⟩:=c;rw [h o h1 d] at a;cases a
 .rw [Gh.bH _ _ _ _ (by omega)];exact a
theorem Inv.bN {T:TT} {A:Nat->Prop} {g:Gh} {st:St} {w:World} (h:Inv T A g st w) (b lo:Nat) (vs:List Value)
  (d: ∀o,lo<=o->o < lo+vs.length->g.F b o=none) (f: ∀i v,vs[i]? =some v->w.cell? ⟨b,lo+i,none⟩=some v)
  (k: ∀id o,st.get id= .ok o->¬ At g id o b) (hU:g.C->A b-> ∀o,lo<=o->o < lo+vs.length->w.frozen? ⟨b,o,none⟩=false:=by exact fun _ _ o _ _=>mQ.KY mQ.D8 o):Inv T A (g.bN b lo vs) st w where
 F b' o v a:=by
  by_cases j:b'=b/\lo<=o/\o < lo+vs.length
  .obtain ⟨rfl,h1,n⟩:=j;simp only [Gh.bN] at a;rw [if_pos ⟨trivial,h1,n⟩] at a;have:=f _ _ a
   rwa [show lo+(o - lo)=o by omega] at this
  .rw [Gh.bH _ _ _ _ (by omega)] at a;exact h.F b' o v a
 M:=h.M
 E:=h.E
 H id o ho:=gA (h.H id o ho) (Le.bN d) rfl fun _ l=>⟨fun _=>Gh.bH _ _ _ _ (.inl fun e=>k id o ho (e ▸ l)),rfl⟩
 D:=h.D
 own:=h.own
 up:=h.up
 C c:=⟨fun b' o v m a=>by
  by_cases j:b'=b/\lo<=o/\o < lo+vs.length
  .rw [j.1];exact hU c (j.1 ▸ m) o j.2.1 j.2.2
  .rw [Gh.bH _ _ _ _ (by omega)] at a;exact (h.C c).1 b' o v m a,(h.C c).2⟩
theorem Kp.bN {A:Nat->Prop} {g:Gh} {w:World} {b lo:Nat} {vs:List Value} (hA:A b) (h: ∀o,lo<=o->o < lo+vs.length->g.F b o=none):Kp A g w (g.bN b lo vs) w:=
 ⟨NX _,fun _ _=>rfl,fun _ a _=>Gh.bH _ _ _ _ (.inl fun e=>a (e ▸ hA)),fun _ _=>rfl,Le.bN h,rfl,rfl,rfl⟩
theorem Inv.write {T:TT} {A:Nat->Prop} {g:Gh} {st:St} {w w':World} (h:Inv T A g st w) {id b:Nat} {o:Obj} (a:st.get id= .ok o) (m:At g id o b) (o':Obj)
  (hs:w'.heap.size=w.heap.size) (q: ∀b',b'≠b->w'.heap[b']? =w.heap[b']?)
  (I: ∀k v,g.F b k=some v->w'.cell? ⟨b,k,none⟩=some v) (J:g.M b=none)
  (l: ∀b',At g id o' b'->b'=b) (y:Holds T g w' id o') (hU:g.C->mQ w b->mQ w' b:=by first | exact fun _=>mQ.setRow | exact fun _ _=>mQ.Gc):Inv T A g (st.put id o') w' where
 F b' k v s:=by
  by_cases n:b'=b
  .subst n;exact I k v s
  .rw [ct (q b' n)];exact h.F b' k v s
 M b' ents clk z:=by
  by_cases n:b'=b
  .subst n;rw [J] at z;cases z
  .rw [q b' n];exact h.M b' ents clk z
 E:=h.E
 H j u f:=by
  by_cases B:j=id
  .subst B;have d:=(St.cA.1 a).1;rw [St.aP d] at f;cases f;exact y
  .rw [St.aQ (fun e=>B e.symm)] at f;refine je (h.H j u f) fun b' r=>q b' fun e=> ?_;subst e;exact B (h.D j id u o b' f a r m)
 D i j u v b' h1 K p L:=by
  have d:=(St.cA.1 a).1;have key: ∀i u,(st.put id o').get i= .ok u->At g i u b'-> ∃t,st.get i= .ok t/\At g i t b':=fun i u f x=>by
   by_cases hi:i=id
   .subst hi;rw [St.aP d] at f;cases f;have:=l b' x;subst this;exact ⟨o,a,m⟩
   .rw [St.aQ (fun e=>hi e.symm)] at f;exact ⟨u,f,x⟩
  obtain ⟨t,N,O⟩:=key i u h1 p;obtain ⟨v',P,Q⟩:=key j v K L;exact h.D i j t v' b' N P O Q
 own i u b' h1 p G:=by
  have d:=(St.cA.1 a).1;by_cases hi:i=id
  .subst hi;rw [St.aP d] at h1;cases h1;have:=l b' p;subst this;exact h.own i o b' a m G
  .rw [St.aQ (fun e=>hi e.symm)] at h1;exact h.own i u b' h1 p G
 up b' r:=h.up b' (by omega)
 C c:=by
  have n:=hU c ((h.C c).2 id o b a m);have key: ∀b',mQ w b'->mQ w' b':=fun b' f=>by
   by_cases e:b'=b
   .rw [e];exact n
   .exact f.congr (q b' e)
  refine ⟨fun b' k v x s=> ?_,fun i u b' h1 p=> ?_⟩
  .by_cases e:b'=b
   .rw [e];exact n.KY k
   .rw [fR (q b' e)];exact (h.C c).1 b' k v x s
  have d:=(St.cA.1 a).1;by_cases hi:i=id
  .subst hi;rw [St.aP d] at h1;cases h1;rw [l b' p];exact n
  .rw [St.aQ (fun e=>hi e.symm)] at h1;exact key b' ((h.C c).2 i u b' h1 p)
theorem Kp.write {A:Nat->Prop} {g:Gh} {w w':World} {b:Nat} (hA:A b) (hs:w'.heap.size=w.heap.size) (c: ∀b',b'≠b->w'.heap[b']? =w.heap[b']?) (ho:w'.os=w.os/\w'.tape=w.tape/\w'.output=w.output:=by exact ⟨rfl,rfl,rfl⟩):Kp A g w g w':=
 ⟨by omega,fun b' a=>c b' fun e=>a (e ▸ hA),fun _ _ _=>rfl,fun _ _=>rfl,Le.refl g,ho⟩
end Go.VM
