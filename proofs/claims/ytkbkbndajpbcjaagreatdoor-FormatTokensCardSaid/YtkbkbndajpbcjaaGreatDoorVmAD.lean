/-
  A part of the proof.
-/
import Derived.Test.YtkbkbndajpbcjaaGreatDoorVmAC
import Derived.Laws.Cells
import Derived.Laws.CopyRow
import Derived.Laws.AppendOwn
set_option linter.all false
namespace Go.VM
def bh (P:Program) (T:TT) (A:Nat->Prop) (g:Gh) (w:World) (v:AV) (st':St) (s:Sem Value):Prop:=
  ∃x g' w',s.run P w= .ok x w'/\R g' v x/\Inv T A g' st' w'/\Kp A g w g' w'
def Fq (P:Program) (T:TT) (A:Nat->Prop) (g:Gh) (w:World) (st':St) (s:Sem Unit):Prop:=
  ∃g' w',s.run P w= .ok () w'/\Inv T A g' st' w'/\Kp A g w g' w'
section
variable {P:Program} {T:TT} {A:Nat->Prop} {g:Gh} {st:St} {w:World}
theorem bh.of {v:AV} {s:Sem Value} {x:Value} (h:Inv T A g st w) (hs:s.run P w= .ok x w) (a:R g v x):bh P T A g w v st s:=
  ⟨x,g,w,hs,a,h,Kp.refl _ _ _⟩
theorem kP.oH {t:Td} {i:TI} (h:kP P t i): ∃d,(∀w,(underlying t).run P w= .ok d w)/\Ax d i.und/\(i.agg=match d with | .struct _ | .array .. =>true | _=>false):=by
  obtain ⟨d,h1,a,b⟩:=h.und;exact ⟨d,fun w=>by simp [underlying,h1],a,b⟩
theorem kP.dw {t:Td} {i:TI} (h:kP P t i) (w:World):(sizeOf t).run P w= .ok i.size w:=by
  obtain ⟨f,h1,a,_⟩:=h.info;simp [sizeOf,typeInfo,h1,a]
theorem kP.zn {t:Td} {i:TI} (h:kP P t i) (w:World):(isAgg t).run P w= .ok i.agg w:=by
  obtain ⟨d,h1,_,a⟩:=h.oH;rw [a];simp only [isAgg,Sem.run_bind,h1,Result.andThen_ok];cases d <;> rfl
theorem kP.rQ {t:Td} {i:TI} (h:kP P t i): ∃z,(∀w,(zeroValue t).run P w= .ok z w)/\z.cells.size=i.size/\(i.agg=false->z.oneCell'=true)/\(∀v∈z.cells,v.oneCell'=true)/\(i.agg=true-> ∃cs,z= .agg cs)/\ ∀g,RL g i.zero z.cells.toList:=by
  obtain ⟨f,h1,c,d,z,a,b⟩:=h.info;exact ⟨z,fun w=>by simp [zeroValue,typeInfo,h1,a],b⟩
theorem Addr.fL (b o n:Nat):(⟨b,o,none⟩:Addr).add n=⟨b,o+n,none⟩:=by
  unfold Addr.add;split
  · rename_i h;subst h;rfl
  · rfl
theorem zL {size:Nat} {agg:Bool} {cells:LA} {v:AV} {xs:List Value} (h:cV size agg cells= .ok v) (a:RL g cells xs):
    (agg=true->size<=xs.length/\R g v (.agg (xs.take size).toArray))/\(agg=false-> ∃x l,xs=x::l/\R g v x):=by
  cases agg with
  | true=>
    refine ⟨fun _=> ?_,(fun k=>by cases k)⟩;simp only [cV] at h;split at h
    · rename_i b
      simp only [aaf] at h;subst h;have:=aah b;rw [<- dQ a] at this;refine ⟨this, ?_⟩;simp only [R];exact ⟨_,rfl,by simpa using oM size a⟩
    · cases h
  | false=>
    refine ⟨(fun k=>by cases k),fun _=> ?_⟩;simp only [cV] at h;cases cells with
    | nil=>simp at h
    | cons u us=>
      simp only [aaf] at h;subst h;simp only [RL] at a;obtain ⟨x,l,h1,c,_⟩:=a;exact ⟨x,l,h1,c⟩
theorem fq {t:Td} {i:TI} (hi:kP P t i) {b o:Nat} {cells:LA} {v:AV} {xs:List Value}
    (h:cV i.size i.agg cells= .ok v) (c:RL g cells xs) (hm: ∀k x,xs[k]? =some x->w.cell? ⟨b,o+k,none⟩=some x):
    ∃x,(loadVar t ⟨b,o,none⟩).run P w= .ok x w/\R g v x:=by
  obtain ⟨h1,d⟩:=zL h c;cases a:i.agg with
  | true=>
    obtain ⟨k1,k2⟩:=h1 a;refine ⟨_, ?_,k2⟩;have hl:=run_loadCells_list (P:=P) w ⟨b,o,none⟩ (xs.take i.size) (fun j x hx=>by
      rw [Addr.fL];refine hm j x ?_;rw [List.getElem?_take] at hx;split at hx
      · exact hx
      · cases hx)
    rw [aau,abG k1] at hl;simp only [loadVar,Sem.run_bind,hi.zn,Result.andThen_ok,a,if_true,hi.dw,hl,Sem.run_pure]
  | false=>
    obtain ⟨x,l,rfl,k2⟩:=d a;refine ⟨x, ?_,k2⟩;have:=hm 0 x rfl;simp only [abf] at this;simp only [loadVar,Sem.run_bind,hi.zn,Result.andThen_ok,a,aaT,if_false,run_load,this]
theorem qZ {o:Obj} {cs:LA}:cellsOf o= .ok cs↔ ∃ty,o= .cells ty cs:=by
  cases o <;> simp [cellsOf]
theorem zK {o:Obj} {ty:Td} {cs:LA}:oC o= .ok (ty,cs)↔o= .cells ty cs:=by
  cases o <;> simp [oC]
theorem Inv.cells (h:Inv T A g st w) {id:Nat} {ty:Td} {cs:LA} (c:st.get id= .ok (.cells ty cs)):
    ∃b vs rest a,g.E id=some (.cG b)/\w.heap[b]? =some (.cells (vs++rest) a (0,0))/\RL g cs vs.toList/\(∀v∈vs.toList,v.oneCell'=true)/\(∀o,g.F b o=none)/\(ty < 1000000->rest= #[]/\a=ty):=
  h.H id _ c
theorem H6 {C:dt} {t:Td} {i:TI} (hi:kP P t i) {a v:AV} {x:Value} {p:dY} {G:Fx}
    (hp:nU i a= .ok p) (hrun:aE C st p= .ok (v,G)) (hx:R g a x) (h:Inv T A g st w):
    bh P T A g w v (G.did.app st) (Instr.loadAt t x):=by
  cases a with
  | ip cells=>
    simp only [nU,ag,aj] at hp;obtain ⟨u,h1,rfl⟩:=hp;simp only [aE,aaf,aaj] at hrun;obtain ⟨rfl,rfl⟩:=hrun;simp only [R] at hx;obtain ⟨_,b,o,rfl,B⟩:=hx;obtain ⟨xs,k1,k2⟩:=jC B;obtain ⟨y,c,f⟩:=fq hi h1 k1 fun k z l=>h.F _ _ _ (k2 k z l).1;exact bh.of h (by simp [Instr.loadAt,Instr.sureAddr,c]) f
  | mp id off=>
    simp only [nU,aaf] at hp;subst hp;simp only [jD,aE,ag,aj] at hrun;obtain ⟨o,h1,⟨v',o'⟩,⟨D,⟨cs,j,B⟩,q⟩,d,r,s⟩:=hrun;rw [qZ] at j;obtain ⟨ty,rfl⟩:=j;simp only [aaj] at q s;obtain ⟨rfl,rfl⟩:=q;simp only [fh,aaf] at r;subst r;obtain ⟨rfl,rfl⟩:=s;simp only [R] at hx;obtain ⟨b,hE,rfl⟩:=hx;obtain ⟨b',vs,rest,K,k1,k2,L,X,Y,k6⟩:=h.cells h1;have M:b'=b:=by have:=k1.symm.trans hE;simpa using this
    subst M;obtain ⟨y,c,f⟩:=fq (w:=w) (b:=b') (o:=off) hi B (jM off L) fun k z l=>my k2 (by simpa using l);exact bh.of h (by simp [Instr.loadAt,Instr.sureAddr,c]) f
  | gp k n off=>
    simp only [nU,aaf] at hp;subst hp;simp only [jD,aE,ag,aj] at hrun;obtain ⟨o,h1,⟨v',o'⟩,⟨D,j,q⟩,d,r,s⟩:=hrun;simp only [aaj] at q s;obtain ⟨rfl,rfl⟩:=q;simp only [fh,aaf] at r;subst r;obtain ⟨rfl,rfl⟩:=s;simp only [R] at hx;obtain ⟨loc,b,cap,hE,hl,rfl⟩:=hx;split at j
    · rename_i m e z cs
      split at j
      · rename_i hm
        have hm:=aap hm;subst hm;obtain ⟨I,N,J,Z,pre,rest,O,Q,q3,q4,q5,q6,S,q8,q9,U,E,V,W⟩:=h.H k _ h1;have c:=O.symm.trans hE;simp only [aas,pq.tok.injEq] at c;subst c;have f:=Q.symm.trans hl;simp only [aas,aaj] at f;obtain ⟨rfl,rfl⟩:=f;obtain ⟨y,c,f⟩:=fq (w:=w) (b:=N) (o:=off) hi j (jM off E) fun k z l=>my S (by simpa using l);exact bh.of h (by simp [Instr.loadAt,Instr.sureAddr,c]) f
      · cases j
    · cases j
  | _=>simp [nU] at hp
theorem Tl: ∀{v:AV} {x:Value},one v=true->R g v x->x.oneCell'=true:=by
  intro v x h a;cases v <;> simp only [R] at a <;> first
    | (simp [one] at h;done)
    | (rcases a with ⟨_,rfl | ⟨_,_,rfl⟩⟩ | ⟨_,_,rfl⟩ <;> rfl)
    | (obtain ⟨_,_,_,_,_,rfl,_⟩:=a;rfl)
    | (obtain ⟨_,_,_,_,_,rfl⟩:=a;rfl)
    | (subst a;rfl)
    | (obtain ⟨_,_,_,rfl,_⟩:=a;rfl)
    | (obtain ⟨_,_,rfl⟩:=a;rfl)
    | (obtain ⟨_,_,_,_,rfl,_⟩:=a;rfl)
    | (obtain ⟨_,_,_,rfl,_⟩:=a;rfl)
    | (obtain ⟨_,_,rfl,_⟩:=a;rfl)
    | (obtain ⟨_,rfl,_⟩:=a;rfl)
    | (obtain ⟨_,_,_,_,rfl,_⟩:=a;rfl)
theorem th: ∀{vs:LA} {xs:List Value},gh vs=true->RL g vs xs-> ∀x∈xs,x.oneCell'=true
  | [],_,_,h=>by simp only [RL] at h;subst h;simp
  | v::vs,_,k,h=>by
    simp only [RL] at h;obtain ⟨x,xs,rfl,h1,a⟩:=h;simp only [gh,aak] at k;intro y hy;rcases aao.1 hy with rfl | hy
    · exact Tl k.1 h1
    · exact th k.2 a y hy
theorem zA {v:AV} {x:Value} (h:R g v x) (h1:gh v.cells=true):RL g v.cells x.cells.toList:=by
  cases v with
  | agg cs=>
    simp only [R] at h;obtain ⟨ys,rfl,a⟩:=h;exact a
  | _=>
    have:=Tl (by simpa [AV.cells,gh] using h1) h;have hx:x.cells= #[x]:=by cases x <;> first | rfl | simp [Value.oneCell'] at this
    rw [hx];exact cL h gJ
theorem setRow_size (w:World) (b:Nat) (cs:Array Value):(w.setRow b cs).heap.size=w.heap.size:=by simp [World.setRow]
theorem iN (w:World) (b:Nat) (cs:Array Value) {b':Nat} (h:b'≠b):(w.setRow b cs).heap[b']? =w.heap[b']? :=by
  simp only [World.setRow,Array.getElem?_modify];rw [if_neg (fun e=>h e.symm)]
theorem xk {cs new:LA} {xs ys:List Value} (off:Nat) (h:RL g cs xs) (k:RL g new ys):
    RL g (cO cs off new) (xs.take off++ys++xs.drop (off+ys.length)):=by
  unfold cO;rw [dQ k];exact fk (fk (oM off h) k) (jM _ h)
theorem Inv.rewrite (h:Inv T A g st w) {id b:Nat} {cs cs':LA} {vs rest:Array Value} {vs':List Value} {ty a:Td} (h1:st.get id= .ok (.cells ty cs)) (k1:g.E id=some (.cG b))
    (k2:w.heap[b]? =some (.cells (vs++rest) a (0,0))) (j: ∀o,g.F b o=none) (k6:ty < 1000000->rest= #[]/\a=ty) (d:st.ro<=id) (m:RL g cs' vs') (ho: ∀v∈vs',v.oneCell'=true):
    Inv T A g (st.put id (.cells ty cs')) (w.setRow b (vs'.toArray++rest))/\Kp A g w g (w.setRow b (vs'.toArray++rest)):=by
  refine ⟨h.write h1 (o:= .cells ty cs) (b:=b) k1 (.cells ty cs') (setRow_size _ _ _) (fun _ f=>iN _ _ _ f) ?_ ?_ ?_ ?_,Kp.write (h.own id _ b h1 k1 d) (setRow_size _ _ _) (fun _ f=>iN _ _ _ f)⟩
  · intro k u l;rw [j k] at l;cases l
  · cases hm:g.M b with
    | none=>rfl
    | some e=>
      have:=h.M b e.1 e.2 hm;rw [k2] at this;cases this
  · intro i c
    have:g.E id=some (.cG i):=c;have:=k1.symm.trans this;simpa using this.symm
  · exact ⟨b,vs'.toArray,rest,a,k1,setRow_heap _ _ _ _ _ _ k2,by simpa using m,by simpa using ho,j,k6⟩
theorem Hq {C:dt} {t:Td} {i:TI} (hi:kP P t i) {a v r:AV} {x y:Value} {p:dY} {E:Fx}
    (hp:xG i a v= .ok p) (hrun:aE C st p= .ok (r,E)) (hx:R g a x) (hy:R g v y) (h:Inv T A g st w):
    r=undef/\Fq P T A g w (E.did.app st) (Instr.storeAt t x y):=by
  cases a with
  | mp id off=>
    simp only [xG] at hp;split at hp
    · rename_i s
      simp only [aak] at s;have J:=aap s.1;simp only [aaf] at hp;subst hp;simp only [aE,ag,aj] at hrun;obtain ⟨o,h1,⟨v',o'⟩,⟨⟨ty,cs⟩,F,j⟩,d,k,G⟩:=hrun;rw [zK] at F;subst F;dsimp only at j;split at j
      · rename_i l
        have l:=aah l;simp only [aj,aaj] at j;obtain ⟨rfl,rfl⟩:=j;simp only [fh] at k;split at k
        · cases k
        · rename_i m
          rw [da] at m;simp only [aaf] at k;subst k;simp only [aaj] at G;obtain ⟨rfl,rfl⟩:=G;refine ⟨rfl, ?_⟩;simp only [R] at hx;obtain ⟨b,hE,rfl⟩:=hx;obtain ⟨b',vs,rest,z,k1,k2,H,I,K,k6⟩:=h.cells h1;have L:b'=b:=by have:=k1.symm.trans hE;simpa using this
          subst L;have e:=zA hy s.2;have B:=dQ e;have D:=dQ H;simp only [abj] at B D;have n:=th s.2 e;have f:=run_storeCells_at P b' off z y.cells.toList 0 (vs++rest) w k2 (by simp;omega) n;simp only [abf,abj] at f;have q:((vs++rest).toList.take off++y.cells.toList++(vs++rest).toList.drop (off+y.cells.size)).toArray=(vs.toList.take off++y.cells.toList++vs.toList.drop (off+y.cells.size)).toArray++rest:=by
            apply Array.ext';have M:(vs.toList++rest.toList).take off=vs.toList.take off:=List.take_append_of_le_length (by simp;omega);have N:(vs.toList++rest.toList).drop (off+y.cells.size)=vs.toList.drop (off+y.cells.size)++rest.toList:=List.drop_append_of_le_length (by simp;omega);simp [M,N]
          rw [q] at f;obtain ⟨O,Q⟩:=h.rewrite h1 k1 k2 K k6 m (cs':=cO cs off v.cells) (vs':=vs.toList.take off++y.cells.toList++vs.toList.drop (off+y.cells.size))
            (by simpa using xk off H e) (fun u c=>by
              simp only [aaC] at c;rcases c with (c | c) | c
              · exact I u (List.mem_of_mem_take c)
              · exact n u c
              · exact I u (List.mem_of_mem_drop c))
          refine ⟨g,_, ?_,O,Q⟩;simp only [Instr.storeAt,Instr.sureAddr,Sem.run_bind,Sem.run_pure,Result.andThen_ok,storeVar,hi.dw,Sem.run_ite];rw [if_neg (by omega)];exact f
      · cases j
    · cases hp
  | _=>simp [xG] at hp
theorem Inv.mZ (h:Inv T A g st w) {b:Nat} (c:w.heap.size<=b) (o:Nat):g.F b o=none:=by
  cases hf:g.F b o with
  | none=>rfl
  | some v=>
    obtain ⟨vs,ty,fz,a,_⟩:=qe (h.F b o v hf);have:=lt_of_heap a;omega
theorem Inv.W5 (h:Inv T A g st w) {b:Nat} (a:w.heap.size<=b):g.M b=none:=by
  cases hf:g.M b with
  | none=>rfl
  | some v=>
    have:=lt_of_heap (h.M b v.1 v.2 hf);omega
theorem Inv.js (h:Inv T A g st w) {b:Nat} (c:w.heap.size<=b) (id:Nat) (o:Obj) (ho:st.get id= .ok o):¬ At g id o b:=fun a=>by
  have:=G2 (h.H id o ho) a;omega
theorem Inv.newObj (h:Inv T A g st w) (o:Obj) (m:Go.Obj) (a: ∀b',At (g.dB st.h (.cG w.heap.size)) st.h o b'->b'=w.heap.size)
    (ho:Holds T (g.dB st.h (.cG w.heap.size)) (w.alloc m) st.h o):
    Inv T A (g.dB st.h (.cG w.heap.size)) (st.new o).2 (w.alloc m)/\Kp A g w (g.dB st.h (.cG w.heap.size)) (w.alloc m):=
  ⟨(h.alloc m).name o _ w.heap.size (fun id o' b=>h.js (aal _) id o' b) (h.up _ (aal _)) a ho,
   (Kp.alloc m h).trans (Kp.dB (h.E _ (aal _)))⟩
theorem Inv.zU (h:Inv T A g st w) {cs:LA} {xs:List Value} (ty:Td) (c:RL g cs xs) (h1: ∀x∈xs,x.oneCell'=true):
    Inv T A (g.dB st.h (.cG w.heap.size)) (st.new (.cells ty cs)).2 (w.alloc (.cells xs.toArray ty))/\Kp A g w (g.dB st.h (.cG w.heap.size)) (w.alloc (.cells xs.toArray ty))/\
    R (g.dB st.h (.cG w.heap.size)) (.mp st.h 0) (.pointer (some ⟨w.heap.size,0,none⟩)):=by
  have a:Le g (g.dB st.h (.cG w.heap.size)):=Le.dB (h.E _ (aal _));obtain ⟨k1,k2⟩:=h.newObj (.cells ty cs) (.cells xs.toArray ty) (fun b' b=>by
    have:(g.dB st.h (.cG w.heap.size)).E st.h=some (.cG b'):=b;rw [Gh.aX] at this;simpa using this.symm) ⟨w.heap.size,xs.toArray, #[],ty,Gh.aX _ _ _,by simpa using World.heap_alloc_new,by simpa using eZ a _ _ c,by simpa using h1,fun o=>h.mZ (aal _) o,fun _=>⟨rfl,rfl⟩⟩
  exact ⟨k1,k2,by simp only [R];exact ⟨_,Gh.aX _ _ _,rfl⟩⟩
theorem Inv.GN (h:Inv T A g st w) {cs:LA} {xs:List Value} (ty:Td) (c:RL g cs xs) (h1: ∀x∈xs,x.oneCell'=true):
    Inv T A (g.cU w.heap.size 0 xs) st (w.alloc (.cells xs.toArray ty))/\Kp A g w (g.cU w.heap.size 0 xs) (w.alloc (.cells xs.toArray ty))/\
    pt (g.cU w.heap.size 0 xs) cs w.heap.size 0:=by
  have a: ∀o,0<=o->o < 0+xs.length->g.F w.heap.size o=none:=fun o _ _=>h.mZ (aal _) o;have b:Le g (g.cU w.heap.size 0 xs):=Le.cU a;refine ⟨(h.alloc _).cU _ 0 xs a ?_ fun id o ho=>h.js (aal _) id o ho,(Kp.alloc _ h).trans (Kp.cU (h.up _ (aal _)) a), ?_⟩
  · intro i v d
    rw [cell_of (World.heap_alloc_new)];simpa using d
  · refine dN (eZ b _ _ c) fun i x hx=>⟨?_,h1 x (aaK hx)⟩
    exact Gh.l3 g _ 0 xs i x hx
theorem lH (ty:Td) (xs:Array Value):(newRow ty xs).run P w= .ok ⟨w.heap.size,0,none⟩ (w.alloc (.cells xs ty)):=by
  simp [newRow]
theorem GJ {t:Td} {i:TI} (hi:kP P t i) (h:Inv T A g st w) (old:Value):
    bh P T A g w (.mp st.h 0) (st.new (.cells t i.zero)).2 (Instr.alloc t true old):=by
  obtain ⟨z,h1,d,e,a,f,b⟩:=hi.rQ;obtain ⟨k1,k2,c⟩:=h.zU t (b g) (by simpa using a);refine ⟨_,_,_, ?_,c,k1,k2⟩;simp [Instr.alloc,h1,newVar,lH]
theorem MX {C:dt} {imm:Bool} {t:Td} {i:TI} {v r:AV} {y:Value} {p:dY} {e:Fx}
    (hp:PY imm t i v= .ok p) (hrun:aE C st p= .ok (r,e)) (hy:R g v y) (h:Inv T A g st w):
    bh P T A g w r (e.did.app st) (Instr.box t y):=by
  simp only [PY] at hp;split at hp
  · cases hp
  · rename_i c
    simp only [aak] at c;have a:=zA hy c.2;have b:=th c.2 a;split at hp
    · simp only [ag,aj] at hp
      obtain ⟨cs,h1,rfl⟩:=hp;simp only [aE,aaf,aaj] at hrun;obtain ⟨rfl,rfl⟩:=hrun;obtain ⟨f,j⟩:=EJ a h1;obtain ⟨k1,k2,d⟩:=h.GN t f b;refine ⟨.pointer (some ⟨w.heap.size,0,none⟩),_,_, ?_, ?_,k1,k2⟩
      · simp [Instr.box,newVar,lH]
      · simp only [R]
        exact ⟨j,_,_,rfl,d⟩
    · simp only [aaf] at hp
      subst hp;simp only [aE,aaf,aaj] at hrun;obtain ⟨rfl,rfl⟩:=hrun;obtain ⟨k1,k2,d⟩:=h.zU t a b;refine ⟨.pointer (some ⟨w.heap.size,0,none⟩),_,_, ?_,d,k1,k2⟩;simp [Instr.box,newVar,lH]
theorem u9 {t:Td} {i:TI} {fs:List (Nat×Td)} (hi:kP P t i) (b:i.und= .struct fs):
    ∃fields:Array Field,(∀w,(underlying t).run P w= .ok (.struct fields) w)/\fields.toList.map (fun f=>(f.offset,f.type))=fs:=by
  obtain ⟨d,h1,a,_⟩:=hi.oH;rw [b] at a;obtain ⟨fields,rfl,c⟩:=a;exact ⟨fields,h1,c⟩
theorem fu {t e:Td} {i:TI} (hi:kP P t i) (b:i.und= .slice e): ∀w,(underlying t).run P w= .ok (.slice e) w:=by
  obtain ⟨d,h1,a,_⟩:=hi.oH;rw [b] at a;cases a;exact h1
theorem sU {t e:Td} {n:Nat} {i:TI} (hi:kP P t i) (b:i.und= .arr n e): ∀w,(underlying t).run P w= .ok (.array n e) w:=by
  obtain ⟨d,h1,a,_⟩:=hi.oH;rw [b] at a;cases a;exact h1
theorem wB {t:Td} {i:TI} (hi:kP P t i) (b:i.und= .str): ∀w,(underlying t).run P w= .ok .string w:=by
  obtain ⟨d,h1,a,_⟩:=hi.oH;rw [b] at a;cases a;exact h1
theorem RN {t:Td} {k:IntKind} {i:TI} (hi:kP P t i) (b:i.und= .int k): ∀w,(underlying t).run P w= .ok (.int k) w:=by
  obtain ⟨d,h1,a,_⟩:=hi.oH;rw [b] at a;cases a;exact h1
theorem wL {t k e:Td} {i:TI} (hi:kP P t i) (b:i.und= .map k e): ∀w,(underlying t).run P w= .ok (.map k e) w:=by
  obtain ⟨d,h1,a,_⟩:=hi.oH;rw [b] at a;cases a;exact h1
theorem CT {fields:Array Field} {fs:List (Nat×Td)} (h:fields.toList.map (fun f=>(f.offset,f.type))=fs) {n off:Nat} {a:Td}
    (hn:fs[n]? =some (off,a)): ∃f,fields[n]? =some f/\f.offset=off/\f.type=a:=by
  subst h;simp only [aaW,abg] at hn;cases hf:fields[n]? with
  | none=>simp [hf] at hn
  | some f=>simp [hf] at hn;exact ⟨f,rfl,hn.1,hn.2⟩
theorem zh (hT:zm P T) {t:Td} {n:Nat} {a v:AV} {x:Value} (hp:fieldAddr T t a n= .ok v) (hx:R g a x) (h:Inv T A g st w):
    bh P T A g w v st (Instr.fieldAt t x n):=by
  simp only [fieldAddr,ag] at hp;obtain ⟨i,h1,d⟩:=hp;have hi:=hT t i (cH.1 h1);split at d
  · rename_i fs e
    obtain ⟨fields,k1,k2⟩:=u9 hi e;split at d
    · rename_i off u hn
      obtain ⟨f,k,rfl,rfl⟩:=CT k2 hn;simp only [ag] at d;obtain ⟨j,l,c⟩:=d;have p:=hT _ j (cH.1 l);have hrun: ∀b o,x= .pointer (some ⟨b,o,none⟩)->j.size≠0->(Instr.fieldAt t x n).run P w= .ok (.pointer (some ⟨b,o+f.offset,none⟩)) w:=by
        rintro b o rfl q;simp [Instr.fieldAt,k1,k,Instr.sureAddr,fieldPlace,p.dw,q,Addr.fL]
      split at c
      · cases c
      · rename_i m hm
        split at c
        · simp only [aj] at c
          subst c;simp only [R] at hx;obtain ⟨r,b,o,hx,s⟩:=hx;refine bh.of h (hrun b o hx (by omega)) ?_;simp only [R];exact ⟨uJ _ r,b,o+f.offset,rfl,CU _ s⟩
        · simp only [aj] at c
          subst c;simp only [R] at hx;obtain ⟨b,hE,hx⟩:=hx;refine bh.of h (hrun b _ hx (by omega)) ?_;simp only [R];exact ⟨b,hE,rfl⟩
        · simp only [aj] at c
          subst c;simp only [R] at hx;obtain ⟨loc,b,cap,hE,hl,hx⟩:=hx;refine bh.of h (hrun b _ hx (by omega)) ?_;simp only [R];exact ⟨loc,b,cap,hE,hl,rfl⟩
        · cases c
    · cases d
  · cases d
theorem qi {t:Td} {i:TI} (hi:kP P t i) {cs:LA} {ys:Array Value} {off:Nat} {v:AV}
    (hp:cV i.size i.agg (cs.drop off)= .ok v) (b:RL g cs ys.toList): ∃y,(part t ys off).run P w= .ok y w/\R g v y:=by
  obtain ⟨h1,c⟩:=zL hp (jM off b);cases a:i.agg with
  | true=>
    obtain ⟨_,k2⟩:=h1 a;refine ⟨_, ?_,k2⟩;simp only [part,Sem.run_bind,hi.zn,Result.andThen_ok,a,if_true,hi.dw,Sem.run_pure];congr 2;apply Array.ext';simp [List.take_drop,Array.toList_extract]
  | false=>
    obtain ⟨y,l,k1,k2⟩:=c a;refine ⟨y, ?_,k2⟩;have:ys[off]? =some y:=by
      rw [<- abg];have:=aaU (·[0]?) k1;simpa using this
    simp [part,hi.zn,a,this]
theorem Gg (hT:zm P T) {t:Td} {n:Nat} {a v:AV} {x:Value} (hp:field T t a n= .ok v) (hx:R g a x) (h:Inv T A g st w):
    bh P T A g w v st (Instr.field t x n):=by
  simp only [field,ag] at hp;obtain ⟨i,h1,b⟩:=hp;have hi:=hT t i (cH.1 h1);split at b
  · rename_i fs cs c
    obtain ⟨fields,k1,k2⟩:=u9 hi c;split at b
    · rename_i off q hn
      obtain ⟨f,d,rfl,rfl⟩:=CT k2 hn;simp only [ag] at b;obtain ⟨j,e,k⟩:=b;have l:=hT _ j (cH.1 e);simp only [R] at hx;obtain ⟨ys,rfl,m⟩:=hx;obtain ⟨y,o,p⟩:=qi (w:=w) l k m;exact bh.of h (by simp [Instr.field,k1,d,asAgg,o]) p
    · cases b
  · cases b
theorem zq {a:AV} {n:Int} {x:Value} (h:asInt a= .ok n) (hx:R g a x): ∃k,x= .int k n:=by
  cases a <;> simp [asInt] at h
  subst h;simp only [R] at hx;exact ⟨_,hx⟩
theorem kB {i:Int} {n k:Nat} (h:inside i n= .ok k):i=k/\k < n:=by
  unfold inside at h;split at h
  · split at h
    · rename_i a
      rw [cZ] at a;simp only [aaf] at h;subst h;exact ⟨rfl,a⟩
    · cases h
  · cases h
theorem jO {i:Int} {n k:Nat} (h:upto i n= .ok k):i=k/\k<=n:=by
  unfold upto at h;split at h
  · split at h
    · rename_i a
      simp only [aaf] at h;subst h;exact ⟨rfl,aah a⟩
    · cases h
  · cases h
theorem zj (hT:zm P T) {t:Td} {a G v:AV} {x y:Value} (hp:indexAddr T t a G= .ok v) (hx:R g a x) (hy:R g G y) (h:Inv T A g st w):
    bh P T A g w v st (Instr.indexAt t x y):=by
  simp only [indexAddr,ag] at hp;obtain ⟨n,h0,i,h1,f⟩:=hp;obtain ⟨K,rfl⟩:=zq h0 hy;have hi:=hT t i (cH.1 h1);split at f
  · rename_i e sz es p l
    have k1:=fu hi l;simp only [ag] at f;obtain ⟨k,q,j,r,s⟩:=f;obtain ⟨rfl,B⟩:=kB q;have z:=hT _ j (cH.1 r);split at s
    · rename_i d
      have d:=aap d;simp only [ag,aj] at s;obtain ⟨u,H,rfl⟩:=s;simp only [R] at hx;obtain ⟨D,b,o,cap,rfl,I,E,F,_⟩:=hx;obtain ⟨L,J⟩:=Ad F H;refine bh.of h (x:= .pointer (some ⟨b,o+k * sz,none⟩)) ?_ ?_
      · simp [Instr.indexAt,asIntOf,k1,z.dw,Addr.fL,d]
        intro C;omega
      · simp only [R]
        exact ⟨yT (wY D H),b,_,rfl,J⟩
    · cases s
  · rename_i e id off sz len cap l
    have k1:=fu hi l;simp only [ag] at f;obtain ⟨k,q,j,r,s⟩:=f;obtain ⟨rfl,B⟩:=kB q;have z:=hT _ j (cH.1 r);split at s
    · rename_i d
      have d:=aap d;simp only [aj] at s;subst s;simp only [R] at hx;obtain ⟨b,o,hE,c,rfl,I,E,ho,_⟩:=hx;have ho:=ho (by omega);subst ho;refine bh.of h (x:= .pointer (some ⟨b,o+k * sz,none⟩)) ?_ ?_
      · simp [Instr.indexAt,asIntOf,k1,z.dw,Addr.fL,d]
        intro C;omega
      · simp only [R]
        exact ⟨b,hE,rfl⟩
    · cases s
  · rename_i len e id off l
    have k1:=sU hi l;simp only [ag,aj] at f;obtain ⟨k,q,j,r,rfl⟩:=f;obtain ⟨rfl,B⟩:=kB q;have z:=hT _ j (cH.1 r);simp only [R] at hx;obtain ⟨b,hE,rfl⟩:=hx;refine bh.of h (x:= .pointer (some ⟨b,off+k * j.size,none⟩)) ?_ ?_
    · simp [Instr.indexAt,Instr.sureAddr,asIntOf,k1,z.dw,Addr.fL]
      intro C;omega
    · simp only [R]
      exact ⟨b,hE,rfl⟩
  · rename_i len e cells l
    have k1:=sU hi l;simp only [ag,aj] at f;obtain ⟨k,q,j,r,rfl⟩:=f;obtain ⟨rfl,B⟩:=kB q;have z:=hT _ j (cH.1 r);simp only [R] at hx;obtain ⟨D,b,o,rfl,F⟩:=hx;refine bh.of h (x:= .pointer (some ⟨b,o+k * j.size,none⟩)) ?_ ?_
    · simp [Instr.indexAt,Instr.sureAddr,asIntOf,k1,z.dw,Addr.fL]
      intro C;omega
    · simp only [R]
      exact ⟨uJ _ D,b,_,rfl,CU _ F⟩
  · rename_i len e id m off l
    have k1:=sU hi l;simp only [ag,aj] at f;obtain ⟨k,q,j,r,rfl⟩:=f;obtain ⟨rfl,B⟩:=kB q;have z:=hT _ j (cH.1 r);simp only [R] at hx;obtain ⟨loc,b,cap,hE,hl,rfl⟩:=hx;refine bh.of h (x:= .pointer (some ⟨b,off+k * j.size,none⟩)) ?_ ?_
    · simp [Instr.indexAt,Instr.sureAddr,asIntOf,k1,z.dw,Addr.fL]
      intro C;omega
    · simp only [R]
      exact ⟨loc,b,cap,hE,hl,rfl⟩
  · cases f
end
section
variable {P:Program} {T:TT} {A:Nat->Prop} {g:Gh} {st:St} {w:World}
theorem Qc (s:LB) (k:Nat):(⟨s.toArray⟩:ByteArray)[k]? =s[k]? :=by
 by_cases h:k < s.length
 .rw [aav h,getElem?_pos (⟨s.toArray⟩:ByteArray) k (by simpa [ByteArray.size] using h)];simp [ByteArray.getElem_eq_getElem_data]
 .rw [aaS (Nat.le_of_not_lt h),getElem?_neg (⟨s.toArray⟩:ByteArray) k (by simpa [ByteArray.size] using h)]
theorem qb (s:LB):(⟨s.toArray⟩:ByteArray).size=s.length:=by simp [ByteArray.size]
theorem G7 (hT:zm P T) {t:Td} {a o v:AV} {x y:Value} (hp:Ap T t a o= .ok v) (hx:R g a x) (hy:R g o y) (h:Inv T A g st w):
  bh P T A g w v st (Instr.index t x y):=by
 simp only [Ap,ag] at hp;obtain ⟨n,h0,i,h1,c⟩:=hp;obtain ⟨D,rfl⟩:=zq h0 hy;have hi:=hT t i (cH.1 h1);split at c
 .rename_i s f;have k1:=wB hi f;simp only [ag] at c;obtain ⟨k,l,d⟩:=c;obtain ⟨rfl,q⟩:=kB l;split at d
  .rename_i b r;simp only [aj] at d;subst d;simp only [R] at hx;subst hx;refine bh.of h (x:= .int .u8 b.toNat) ?_ (by simp only [R]);simp [Instr.index,asIntOf,k1,Qc,r]
  .cases d
 .rename_i len e cs f;have k1:=sU hi f;simp only [ag] at c;obtain ⟨k,l,j,u,d⟩:=c;obtain ⟨rfl,q⟩:=kB l;have p:=hT _ j (cH.1 u);simp only [R] at hx;obtain ⟨ys,rfl,z⟩:=hx;obtain ⟨y,B,C⟩:=qi (w:=w) p d z;refine bh.of h (x:=y) ?_ C;have m:¬ (len<=k):=by omega
  simp [Instr.index,asIntOf,k1,m,p.dw,B]
 .cases c
def Mr (n:Oq Int) (x:Oq Value):Prop:=match n,x with | none,none=>True | some n,some y=> ∃k,y= .int k n | _,_=>False
def N5 (g:Gh) (a:Oq AV) (x:Oq Value):Prop:=match a,x with | none,none=>True | some v,some y=>R g v y | _,_=>False
theorem sC {a:Oq AV} {n:Oq Int} {x:Oq Value} (h:mI a= .ok n) (hx:N5 g a x):Mr n x:=by
 cases a with
 | none=>
  cases x with
  | none=>simp only [mI,aaf] at h;subst h;trivial
  | some y=>exact hx.elim
 | some v=>
  cases x with
  | none=>exact hx.elim
  | some y=>
   simp only [mI,ag,aj] at h;obtain ⟨m,h1,rfl⟩:=h;exact zq h1 hx
theorem run_sliceBound {k:IntKind} {n m:Nat} {code:BoundsCode} (h:n<=m):(Instr.sliceBound (.int k n) m code).run P w= .ok n w:=by
 simp [Instr.sliceBound,asIntOf,h]
theorem lR {isSlice:Bool} {len cap dflt:Nat} {lo hi mx:Oq Int} {g i xm:Oq Value} {l o m:Nat} (hl:Mr lo g) (c:Mr hi i) (hm:Mr mx xm)
  (h1:mL mx cap cap= .ok m) (j:mL hi m dflt= .ok o) (p:mx=none->dflt=len) (d:tW lo o= .ok l) (q:mx≠none->hi≠none):
  (Instr.sliceBounds isSlice len cap g i xm).run P w= .ok (l,o,m) w:=by
 have e: ∀{k:IntKind} {n m:Nat} {code:BoundsCode},n<=m->(Instr.sliceBound (.int k n) m code).run P w= .ok n w:=fun h=>run_sliceBound h;cases xm <;> cases mx <;> first | exact hm.elim | skip
 .have p:=p rfl;subst p;simp only [mL,aaf] at h1;subst h1;cases i <;> cases hi <;> first | exact c.elim | skip
  .simp only [mL,aaf] at j;subst j;cases g <;> cases lo <;> first | exact hl.elim | skip
   .simp only [tW,aaf] at d;subst d;simp [Instr.sliceBounds]
   .obtain ⟨k,rfl⟩:=hl;obtain ⟨rfl,b⟩:=jO d;simp [Instr.sliceBounds,e b]
  .obtain ⟨k,rfl⟩:=c;obtain ⟨rfl,a⟩:=jO j;cases g <;> cases lo <;> first | exact hl.elim | skip
   .simp only [tW,aaf] at d;subst d;simp [Instr.sliceBounds,e a]
   .obtain ⟨k,rfl⟩:=hl;obtain ⟨rfl,b⟩:=jO d;simp [Instr.sliceBounds,e b,e a]
 .obtain ⟨r,rfl⟩:=hm;obtain ⟨rfl,f⟩:=jO h1;cases i <;> cases hi <;> first | exact c.elim | skip
  .exact absurd rfl (q (by simp))
  .obtain ⟨k,rfl⟩:=c;obtain ⟨rfl,a⟩:=jO j;cases g <;> cases lo <;> first | exact hl.elim | skip
   .simp only [tW,aaf] at d;subst d;simp [Instr.sliceBounds,e f,e a]
   .obtain ⟨k,rfl⟩:=hl;obtain ⟨rfl,b⟩:=jO d;simp [Instr.sliceBounds,e f,e b,e a]
theorem GM (s:LB) (l h:Nat):(⟨s.toArray⟩:ByteArray).extract l h=⟨((s.take h).drop l).toArray⟩:=by
 apply ByteArray.ext;simp [ByteArray.data_extract,List.drop_take]
theorem yZ {t:Td} {i:TI} (hi:kP P t i) (e:i.und= .str) {s:LB} {lo b:Oq Int} {c d:Oq Value} {l m:Nat} (hl:Mr lo c) (a:Mr b d)
  (f:mL b s.length s.length= .ok m) (g:tW lo m= .ok l):
  (Instr.sliceAt t (.string ⟨s.toArray⟩) c d none).run P w= .ok (.string ⟨((s.take m).drop l).toArray⟩) w:=by
 have k1:=wB hi e;have h:=lR (P:=P) (w:=w) (isSlice:=false) (len:=s.length) (cap:=s.length) (mx:=none) (xm:=none) hl a trivial (m:=s.length) (dflt:=s.length) rfl f (fun _=>rfl) g (by simp);simp [Instr.sliceAt,Instr.slice,k1,qb,h,GM]
theorem pL {t e:Td} (k1: ∀w,(underlying t).run P w= .ok (.slice e) w) (a:Oq Addr) (len cap:Nat) (b c xm:Oq Value) {l d m sz:Nat}
  (f:(Instr.sliceBounds true len cap b c xm).run P w= .ok (l,d,m) w) (hs:(sizeOf e).run P w= .ok sz w):
  (Instr.sliceAt t (.slice a len cap) b c xm).run P w= .ok (.slice (if m=l then a else a.map (·.add (l * sz))) (d - l) (m - l)) w:=by
 simp [Instr.sliceAt,Instr.slice,k1,f,hs]
theorem zr {k n:Nat} (h:k<=n):upto (k:Int) n= .ok k:=by
 have:k.ble n=true:=aaL h;show (match k.ble n with | true=>Except.ok k | false=>Except.error _)= _;rw [this]
theorem oS {hi:Oq Int} {m d h:Nat} (e:mL hi m d= .ok h) (a:d<=m):h<=m:=by
 cases hi with
 | none=>simp only [mL,aaf] at e;omega
 | some n=>exact (jO e).2
theorem vS {lo:Oq Int} {h l:Nat} (e:tW lo h= .ok l):l<=h:=by
 cases lo with
 | none=>simp only [tW,aaf] at e;omega
 | some n=>exact (jO e).2
theorem Ef {z b o:Nat} {l:LA} (h:l=[]):iW g z l b o:=by subst h;simp [iW]
theorem A3 {z:Nat} {es:LA} {b o l a m:Nat} (e:bH es=true) (d:1<=z) (f:iW g z es b o) (h:l<=a) (i:a<=es.length) (j:a<=m) {p:Perm}
  (hp:(m≠l->wI g p (a - l) b (o+l * z) (m - l))/\(m=l->wI g p (a - l) b o (m - l))):
  R g (.sl z ((es.take a).drop l) p) (.slice (if m=l then some ⟨b,o,none⟩ else (some (⟨b,o,none⟩:Addr)).map (·.add (l * z))) (a - l) (m - l)):=by
 have hlen:((es.take a).drop l).length=a - l:=by simp;omega
 simp only [R,hlen];refine ⟨uJ _ (Jd _ e), ?_⟩;by_cases c:m=l
 .rw [if_pos c];refine ⟨b,o,m - l,rfl,by omega,d,Ef ?_,hp.2 c⟩;apply aa6;omega
 .rw [if_neg c];refine ⟨b,o+l * z,m - l,by simp [Addr.fL],by omega,d, ?_,hp.1 c⟩;exact MP _ (LO _ f) (by simp;omega)
theorem GD (hT:zm P T) {t:Td} {a v:AV} {x:Value} {lo hi mx:Oq AV} {V W xm:Oq Value} (hp:ow T t a lo hi mx= .ok v) (hx:R g a x)
  (hl:N5 g lo V) (a6:N5 g hi W) (hm:N5 g mx xm) (h:Inv T A g st w) (a7:mx≠none->hi≠none):bh P T A g w v st (Instr.sliceAt t x V W xm):=by
 simp only [ow,ag] at hp;obtain ⟨nl,e1,Z,e2,nm,e3,i,e4,u⟩:=hp;have H:=hT t i (cH.1 e4);have ol:=sC e1 hl;have X:=sC e2 a6;have Y:=sC e3 hm;have F:nm≠none->Z≠none:=fun hn=>by
  have:mx≠none:=fun e=>by subst e;simp only [mI,aaf] at e3;exact hn e3.symm
  have:=a7 this;cases hi with
  | none=>exact absurd rfl this
  | some y=>
   simp only [mI,ag,aj] at e2;obtain ⟨_,_,rfl⟩:=e2;simp
 split at u
 .rename_i s I;simp only [ag,aj] at u;obtain ⟨m,z,l,f,rfl⟩:=u;simp only [R] at hx;subst hx;cases xm with
  | some y=>exact Y.elim
  | none=>exact bh.of h (yZ H I ol X z f) (by simp only [R])
 .rename_i nm _ _ _ e I;simp only [ag,aj] at u;obtain ⟨j,N,m,z,B,f,l,G,rfl⟩:=u;have O:=hT _ j (cH.1 N);simp only [R] at hx;subst hx;have ar:=oS z (aal _);have a8:=oS f (aaO _);have D:=vS G;have Q:=lR (P:=P) (w:=w) (isSlice:=true) (len:=0) (cap:=0) (dflt:=0) ol X Y z f (fun _=>rfl) G F;have:=pL (fu H I) none 0 0 V W xm Q (O.dw w);refine bh.of h (x:= .slice none 0 0) ?_ (by simp only [R]);rw [this];have h0:m - l=0:=by omega
  have h1:B - l=0:=by omega
  simp [h0,h1]
 .rename_i nm _ _ _ e I;simp only [ag,aj] at u;obtain ⟨j,N,m,z,B,f,l,G,rfl⟩:=u;have O:=hT _ j (cH.1 N);simp only [R] at hx;obtain ⟨a,rfl⟩:=hx;have ar:=oS z (aal _);have a8:=oS f (aaO _);have D:=vS G;have Q:=lR (P:=P) (w:=w) (isSlice:=true) (len:=0) (cap:=0) (dflt:=0) ol X Y z f (fun _=>rfl) G F;have:=pL (fu H I) (some a) 0 0 V W xm Q (O.dw w);refine bh.of h (x:= .slice (some a) 0 0) ?_ (by simp only [R];exact ⟨a,rfl⟩);rw [this];have u:l=0:=by omega
  have C:m=0:=by omega
  have q:B=0:=by omega
  subst u C q;rfl
 .rename_i nm _ _ _ e id off sz len cap I;simp only [ag] at u;obtain ⟨j,N,C⟩:=u;split at C
  .cases C
  .rename_i d;have d:=aap d;have O:=hT _ j (cH.1 N);simp only [ag] at C;obtain ⟨m,z,B,f,l,G,q⟩:=C;split at q
   .rename_i J;have J:=aah J;simp only [aj] at q;subst q;simp only [R] at hx;obtain ⟨b,o,hE,c,rfl,hc,r,ho,bb⟩:=hx;have bt: ∃M,mL nm c c= .ok M/\mL Z M len= .ok B/\B<=M/\M<=c/\(m - l=M - l\/m - l=0):=by
     rcases bb with rfl | rfl
     .exact ⟨m,z,f,J,oS z (aal _),.inl rfl⟩
     .have ar:m<=0:=oS z (aal _);cases nm with
      | none=>
       refine ⟨c,rfl, ?_,by omega,aal _,.inr (by omega)⟩;cases Z with
       | none=>exact f
       | some n=>
        obtain ⟨rfl,K⟩:=jO f;exact zr (by omega)
      | some y=>
       obtain ⟨q1,q2⟩:=jO (show upto y 0= .ok m from z);subst q1;exact ⟨m,zr (by omega),f,J,by omega,.inl rfl⟩
    obtain ⟨M,z,f,J,b9,av⟩:=bt;have Q:=lR (P:=P) (w:=w) (isSlice:=true) (len:=len) (cap:=c) (dflt:=len) ol X Y z f (fun _=>rfl) G F;have:=pL (fu H I) (some ⟨b,o,none⟩) len c V W xm Q (O.dw w);refine bh.of h this ?_;have D:=vS G;simp only [R];by_cases aw:M=l
    .rw [if_pos aw];exact ⟨b,o,hE,M - l,rfl,by omega,r,fun b4=>absurd (by omega:M - l=0) b4,av⟩
    .rw [if_neg aw];have U:c≠0:=fun e=>by omega
     refine ⟨b,o+l * j.size,hE,M - l,by simp [Addr.fL],by omega,r,fun _=>by rw [ho U,d],av⟩
   .cases q
 .rename_i e sz es p I;simp only [ag] at u;obtain ⟨j,N,C⟩:=u;split at C
  .cases C
  .rename_i d;have d:=aap d;have O:=hT _ j (cH.1 N);simp only [ag] at C;obtain ⟨B,f,l,G,q⟩:=C;simp only [R] at hx;obtain ⟨L,b,o,cap,rfl,hc,r,hr,E⟩:=hx;cases xm with
   | some y=>exact Y.elim
   | none=>
    have b5:mL Z cap es.length= .ok B:=by
     cases Z with
     | none=>exact f
     | some n=>
      obtain ⟨rfl,K⟩:=jO f;exact zr (by omega)
    have Q:=lR (P:=P) (w:=w) (isSlice:=true) (len:=es.length) (cap:=cap) (mx:=none) (xm:=none) (dflt:=es.length) (m:=cap) ol X trivial rfl b5 (fun _=>rfl) G (by simp);have hrun:=pL (fu H I) (some ⟨b,o,none⟩) es.length cap V W none Q (O.dw w);have S:=oS f (aal _);have D:=vS G;rw [<- d] at hrun;refine bh.of h hrun ?_;have wide:R g (.sl sz ((es.take B).drop l) .wide) (.slice (if cap=l then some ⟨b,o,none⟩ else (some (⟨b,o,none⟩:Addr)).map (·.add (l * sz))) (B - l) (cap - l)):=
     A3 L r hr D S (by omega) ⟨fun _=>trivial,fun _=>trivial⟩
    split at q
    .rename_i K;have K:=aap K;simp only [aj] at q;subst q;have U:cap=es.length:=E;have:=A3 (m:=cap) (p:= .shut) L r hr D S (by omega) ⟨fun _=>by show cap - l=B - l;omega,fun _=>by show cap - l=B - l;omega⟩
     rwa [List.take_of_length_le (by omega)] at this
    .rename_i k K;have K:=aap K;split at q
     .rename_i hl;have hl:=aap hl;subst hl;simp only [aj] at q;subst q;obtain ⟨b6,a1⟩:=E;subst b6;have hx:(if cap=0 then some (⟨b,0,none⟩:Addr) else (some (⟨b,0,none⟩:Addr)).map (·.add (0 * sz)))=some ⟨b,0,none⟩:=by
       split <;> simp [Addr.fL]
      simp only [R];refine ⟨L,b,0,cap, ?_,hc,r,hr,rfl,a1⟩;rw [hx];simp [K]
     .simp only [aj] at q;subst q
      rwa [List.take_of_length_le (by omega)] at wide
    .simp only [aj] at q;subst q;exact wide
 .rename_i e sz es p m0 I;simp only [ag] at u;obtain ⟨j,N,C⟩:=u;split at C
  .cases C
  .rename_i d;have d:=aap d;have O:=hT _ j (cH.1 N);simp only [ag,aj] at C;obtain ⟨m,z,B,f,l,G,rfl⟩:=C;simp only [R] at hx;obtain ⟨L,b,o,cap,rfl,hc,r,hr,E⟩:=hx;obtain ⟨rfl,b8⟩:=jO z;have b7:mL (some (m:Int)) cap cap= .ok m:=by
    exact zr (by omega)
   have Q:=lR (P:=P) (w:=w) (isSlice:=true) (len:=es.length) (cap:=cap) (mx:=some (m:Int)) (dflt:=m) ol X Y b7 f (by simp) G F;have hrun:=pL (fu H I) (some ⟨b,o,none⟩) es.length cap V W xm Q (O.dw w);have S:=oS f (aal _);have D:=vS G;rw [<- d] at hrun;refine bh.of h hrun ?_;refine A3 L r hr D (by omega) S ?_;cases K:m.beq B with
   | true=>
    have K:=aap K;exact ⟨fun _=>by show m - l=B - l;omega,fun _=>by show m - l=B - l;omega⟩
   | false=>exact ⟨fun _=>trivial,fun _=>trivial⟩
 .cases u
end
end Go.VM
