/-
  (A part of the proof: Ops, Ops2.)
-/
import Derived.Test.YtgecmbapkplklaaGreatDoorVmAA
import Derived.Test.YtgecmbapkplklaaGreatDoorVmAC
import Derived.Laws.Cells
import Derived.Laws.CopyRow
import Derived.Laws.AppendOwn
set_option linter.unusedSimpArgs false
namespace Go.VM
def bl (P:Program) (T:TT) (A:Nat->Prop) (g:Gh) (w:World) (v:AV) (st':St) (s:Sem Value):Prop:=
  ∃x g' w',s.run P w= .ok x w'/\R g' v x/\Inv T A g' st' w'/\Kp A g w g' w'
def BC (P:Program) (T:TT) (A:Nat->Prop) (g:Gh) (w:World) (st':St) (s:Sem Unit):Prop:=
  ∃g' w',s.run P w= .ok () w'/\Inv T A g' st' w'/\Kp A g w g' w'
section
variable {P:Program} {T:TT} {A:Nat->Prop} {g:Gh} {st:St} {w:World}
theorem bl.of {v:AV} {s:Sem Value} {x:Value} (h:Inv T A g st w) (hs:s.run P w= .ok x w) (hr:R g v x):bl P T A g w v st s:=
  ⟨x,g,w,hs,hr,h,Kp.refl _ _ _⟩
theorem jD.mL {t:TypeId} {i:TI} (h:jD P t i): ∃d,(∀w,(underlying t).run P w= .ok d w)/\xR d i.und/\(i.agg=match d with | .struct _ | .array .. =>true | _=>false):=by
  obtain ⟨d,h1,h2,h3⟩:=h.und;exact ⟨d,fun w=>by simp [underlying,h1],h2,h3⟩
theorem jD.dh {t:TypeId} {i:TI} (h:jD P t i) (w:World):(sizeOf t).run P w= .ok i.size w:=by
  obtain ⟨f,h1,h2,_⟩:=h.info;simp [sizeOf,typeInfo,h1,h2]
theorem jD.wQ {t:TypeId} {i:TI} (h:jD P t i) (w:World):(isAgg t).run P w= .ok i.agg w:=by
  obtain ⟨d,h1,_,h3⟩:=h.mL;rw [h3];simp only [isAgg,Sem.run_bind,h1,Result.andThen_ok];cases d <;> rfl
theorem jD.qo {t:TypeId} {i:TI} (h:jD P t i): ∃z,(∀w,(zeroValue t).run P w= .ok z w)/\z.cells.size=i.size/\(i.agg=false->z.oneCell'=true)/\(∀v∈z.cells,v.oneCell'=true)/\(i.agg=true-> ∃cs,z= .agg cs)/\ ∀g,RL g i.zero z.cells.toList:=by
  obtain ⟨f,h1,h2,h3,z,h4,a⟩:=h.info;exact ⟨z,fun w=>by simp [zeroValue,typeInfo,h1,h4],a⟩
theorem Addr.eY (b o n:Nat):(⟨b,o,none⟩:Addr).add n=⟨b,o+n,none⟩:=by
  unfold Addr.add;split
  · rename_i h;subst h;rfl
  · rfl
theorem xA {size:Nat} {agg:Bool} {cells:List AV} {v:AV} {xs:List Value} (h:cR size agg cells= .ok v) (hr:RL g cells xs):
    (agg=true->size<=xs.length/\R g v (.agg (xs.take size).toArray))/\(agg=false-> ∃x l,xs=x::l/\R g v x):=by
  cases agg with
  | true=>
    refine ⟨fun _=> ?_,(fun k=>by cases k)⟩;simp only [cR] at h;split at h
    · rename_i hle
      simp only [WT] at h;subst h;have:=WU hle;rw [<- dB hr] at this;refine ⟨this, ?_⟩;simp only [R];exact ⟨_,rfl,by simpa using mR size hr⟩
    · cases h
  | false=>
    refine ⟨(fun k=>by cases k),fun _=> ?_⟩;simp only [cR] at h;cases cells with
    | nil=>simp at h
    | cons u us=>
      simp only [WT] at h;subst h;simp only [RL] at hr;obtain ⟨x,l,h1,h2,_⟩:=hr;exact ⟨x,l,h1,h2⟩
theorem eL {t:TypeId} {i:TI} (hi:jD P t i) {b o:Nat} {cells:List AV} {v:AV} {xs:List Value}
    (h:cR i.size i.agg cells= .ok v) (hr:RL g cells xs) (hm: ∀k x,xs[k]? =some x->w.cell? ⟨b,o+k,none⟩=some x):
    ∃x,(loadVar t ⟨b,o,none⟩).run P w= .ok x w/\R g v x:=by
  obtain ⟨h1,h2⟩:=xA h hr;cases ha:i.agg with
  | true=>
    obtain ⟨k1,k2⟩:=h1 ha;refine ⟨_, ?_,k2⟩;have hl:=run_loadCells_list (P:=P) w ⟨b,o,none⟩ (xs.take i.size) (fun j x hx=>by
      rw [Addr.eY];refine hm j x ?_;rw [List.getElem?_take] at hx;split at hx
      · exact hx
      · cases hx)
    rw [Xg,Yv k1] at hl;simp only [loadVar,Sem.run_bind,hi.wQ,Result.andThen_ok,ha,if_true,hi.dh,hl,Sem.run_pure]
  | false=>
    obtain ⟨x,l,rfl,k2⟩:=h2 ha;refine ⟨x, ?_,k2⟩;have:=hm 0 x rfl;simp only [XO] at this;simp only [loadVar,Sem.run_bind,hi.wQ,Result.andThen_ok,ha,Xw,if_false,run_load,this]
theorem oH {o:Obj} {cs:List AV}:cellsOf o= .ok cs↔ ∃ty,o= .cells ty cs:=by
  cases o <;> simp [cellsOf]
theorem xK {o:Obj} {ty:TypeId} {cs:List AV}:mI o= .ok (ty,cs)↔o= .cells ty cs:=by
  cases o <;> simp [mI]
theorem Inv.cells (h:Inv T A g st w) {id:Nat} {ty:TypeId} {cs:List AV} (hg:st.get id= .ok (.cells ty cs)):
    ∃b vs rest a,g.E id=some (.gf b)/\w.heap[b]? =some (.cells (vs++rest) a (0,0))/\RL g cs vs.toList/\(∀v∈vs.toList,v.oneCell'=true)/\(∀o,g.F b o=none)/\(ty < 1000000->rest= #[]/\a=ty):=
  h.H id _ hg
theorem Fk {C:df} {t:TypeId} {i:TI} (hi:jD P t i) {a v:AV} {x:Value} {p:dG} {s:Fx}
    (hp:ma i a= .ok p) (hrun:aC C st p= .ok (v,s)) (hx:R g a x) (h:Inv T A g st w):
    bl P T A g w v (s.did.app st) (Instr.loadAt t x):=by
  cases a with
  | ip cells=>
    simp only [ma,ag,au] at hp;obtain ⟨u,h1,rfl⟩:=hp;simp only [aC,WT,WV] at hrun;obtain ⟨rfl,rfl⟩:=hrun;simp only [R] at hx;obtain ⟨_,b,o,rfl,h3⟩:=hx;obtain ⟨xs,k1,k2⟩:=iF h3;obtain ⟨y,c,f⟩:=eL hi h1 k1 fun k z hz=>h.F _ _ _ (k2 k z hz).1;exact bl.of h (by simp [Instr.loadAt,Instr.sureAddr,c]) f
  | mp id off=>
    simp only [ma,WT] at hp;subst hp;simp only [iN,aC,ag,au] at hrun;obtain ⟨o,h1,⟨v',o'⟩,⟨q,⟨cs,h2,h3⟩,h4⟩,d,j,l⟩:=hrun;rw [oH] at h2;obtain ⟨ty,rfl⟩:=h2;simp only [WV] at h4 l;obtain ⟨rfl,rfl⟩:=h4;simp only [eG,WT] at j;subst j;obtain ⟨rfl,rfl⟩:=l;simp only [R] at hx;obtain ⟨b,hE,rfl⟩:=hx;obtain ⟨b',vs,rest,E,k1,k2,G,M,N,k6⟩:=h.cells h1;have hb:b'=b:=by have:=k1.symm.trans hE;simpa using this
    subst hb;obtain ⟨y,c,f⟩:=eL (w:=w) (b:=b') (o:=off) hi h3 (iP off G) fun k z hz=>kB k2 (by simpa using hz);exact bl.of h (by simp [Instr.loadAt,Instr.sureAddr,c]) f
  | gp k n off=>
    simp only [ma,WT] at hp;subst hp;simp only [iN,aC,ag,au] at hrun;obtain ⟨o,h1,⟨v',o'⟩,⟨q,h2,h4⟩,d,j,l⟩:=hrun;simp only [WV] at h4 l;obtain ⟨rfl,rfl⟩:=h4;simp only [eG,WT] at j;subst j;obtain ⟨rfl,rfl⟩:=l;simp only [R] at hx;obtain ⟨loc,b,cap,hE,hl,rfl⟩:=hx;split at h2
    · rename_i m e z cs
      split at h2
      · rename_i hm
        have hm:=W2 hm;subst hm;obtain ⟨B,b2,D,i2,pre,rest,q1,q2,q3,O,Q,S,I,U,V,J,r,K,L⟩:=h.H k _ h1;have c:=q1.symm.trans hE;simp only [W7,nt.tok.injEq] at c;subst c;have f:=q2.symm.trans hl;simp only [W7,WV] at f;obtain ⟨rfl,rfl⟩:=f;obtain ⟨y,c,f⟩:=eL (w:=w) (b:=b2) (o:=off) hi h2 (iP off r) fun k z hz=>kB I (by simpa using hz);exact bl.of h (by simp [Instr.loadAt,Instr.sureAddr,c]) f
      · cases h2
    · cases h2
  | _=>simp [ma] at hp
theorem OH: ∀{v:AV} {x:Value},one v=true->R g v x->x.oneCell'=true:=by
  intro v x h hr;cases v <;> simp only [R] at hr <;> first
    | (simp [one] at h;done)
    | (rcases hr with ⟨_,rfl | ⟨_,_,rfl⟩⟩ | ⟨_,_,rfl⟩ <;> rfl)
    | (obtain ⟨_,_,_,_,_,rfl,_⟩:=hr;rfl)
    | (obtain ⟨_,_,_,_,_,rfl⟩:=hr;rfl)
    | (subst hr;rfl)
    | (obtain ⟨_,_,_,rfl,_⟩:=hr;rfl)
    | (obtain ⟨_,_,rfl⟩:=hr;rfl)
    | (obtain ⟨_,_,_,_,rfl,_⟩:=hr;rfl)
    | (obtain ⟨_,_,_,rfl,_⟩:=hr;rfl)
    | (obtain ⟨_,_,rfl,_⟩:=hr;rfl)
    | (obtain ⟨_,rfl,_⟩:=hr;rfl)
    | (obtain ⟨_,_,_,_,rfl,_⟩:=hr;rfl)
theorem qM: ∀{vs:List AV} {xs:List Value},fw vs=true->RL g vs xs-> ∀x∈xs,x.oneCell'=true
  | [],_,_,h=>by simp only [RL] at h;subst h;simp
  | v::vs,_,k,h=>by
    simp only [RL] at h;obtain ⟨x,xs,rfl,h1,h2⟩:=h;simp only [fw,WY] at k;intro y hy;rcases Xb.1 hy with rfl | hy
    · exact OH k.1 h1
    · exact qM k.2 h2 y hy
theorem wY {v:AV} {x:Value} (h:R g v x) (h1:fw v.cells=true):RL g v.cells x.cells.toList:=by
  cases v with
  | agg cs=>
    simp only [R] at h;obtain ⟨ys,rfl,h2⟩:=h;exact h2
  | _=>
    have:=OH (by simpa [AV.cells,fw] using h1) h;have hx:x.cells= #[x]:=by cases x <;> first | rfl | simp [Value.oneCell'] at this
    rw [hx];exact cH h fQ
theorem setRow_size (w:World) (b:Nat) (cs:Array Value):(w.setRow b cs).heap.size=w.heap.size:=by simp [World.setRow]
theorem gJ (w:World) (b:Nat) (cs:Array Value) {b':Nat} (h:b'≠b):(w.setRow b cs).heap[b']? =w.heap[b']? :=by
  simp only [World.setRow,Array.getElem?_modify];rw [if_neg (fun e=>h e.symm)]
theorem uP {cs new:List AV} {xs ys:List Value} (off:Nat) (h:RL g cs xs) (k:RL g new ys):
    RL g (cJ cs off new) (xs.take off++ys++xs.drop (off+ys.length)):=by
  unfold cJ;rw [dB k];exact eN (eN (mR off h) k) (iP _ h)
theorem Inv.rewrite (h:Inv T A g st w) {id b:Nat} {cs cs':List AV} {vs rest:Array Value} {vs':List Value} {ty a:TypeId} (h1:st.get id= .ok (.cells ty cs)) (k1:g.E id=some (.gf b))
    (k2:w.heap[b]? =some (.cells (vs++rest) a (0,0))) (i: ∀o,g.F b o=none) (k6:ty < 1000000->rest= #[]/\a=ty) (d:st.ro<=id) (hr:RL g cs' vs') (ho: ∀v∈vs',v.oneCell'=true):
    Inv T A g (st.put id (.cells ty cs')) (w.setRow b (vs'.toArray++rest))/\Kp A g w g (w.setRow b (vs'.toArray++rest)):=by
  refine ⟨h.write h1 (o:= .cells ty cs) (b:=b) k1 (.cells ty cs') (setRow_size _ _ _) (fun _ hb=>gJ _ _ _ hb) ?_ ?_ ?_ ?_,Kp.write (h.own id _ b h1 k1 d) (setRow_size _ _ _) (fun _ hb=>gJ _ _ _ hb)⟩
  · intro k u hu;rw [i k] at hu;cases hu
  · cases hm:g.M b with
    | none=>rfl
    | some e=>
      have:=h.M b e.1 e.2 hm;rw [k2] at this;cases this
  · intro f c
    have:g.E id=some (.gf f):=c;have:=k1.symm.trans this;simpa using this.symm
  · exact ⟨b,vs'.toArray,rest,a,k1,setRow_heap _ _ _ _ _ _ k2,by simpa using hr,by simpa using ho,i,k6⟩
theorem EU {C:df} {t:TypeId} {i:TI} (hi:jD P t i) {a v r:AV} {x y:Value} {p:dG} {s:Fx}
    (hp:vj i a v= .ok p) (hrun:aC C st p= .ok (r,s)) (hx:R g a x) (hy:R g v y) (h:Inv T A g st w):
    r=undef/\BC P T A g w (s.did.app st) (Instr.storeAt t x y):=by
  cases a with
  | mp id off=>
    simp only [vj] at hp;split at hp
    · rename_i hc
      simp only [WY] at hc;have E:=W2 hc.1;simp only [WT] at hp;subst hp;simp only [aC,ag,au] at hrun;obtain ⟨o,h1,⟨v',o'⟩,⟨⟨ty,cs⟩,h2,h3⟩,d,f,z⟩:=hrun;rw [xK] at h2;subst h2;dsimp only at h3;split at h3
      · rename_i hle
        have hle:=WU hle;simp only [au,WV] at h3;obtain ⟨rfl,rfl⟩:=h3;simp only [eG] at f;split at f
        · cases f
        · rename_i j
          rw [cW] at j;simp only [WT] at f;subst f;simp only [WV] at z;obtain ⟨rfl,rfl⟩:=z;refine ⟨rfl, ?_⟩;simp only [R] at hx;obtain ⟨b,hE,rfl⟩:=hx;obtain ⟨b',vs,rest,m,k1,k2,B,D,F,k6⟩:=h.cells h1;have hb:b'=b:=by have:=k1.symm.trans hE;simpa using this
          subst hb;have c:=wY hy hc.2;have n:=dB c;have q:=dB B;simp only [XX] at n q;have k:=qM hc.2 c;have e:=run_storeCells_at P b' off m y.cells.toList 0 (vs++rest) w k2 (by simp;omega) k;simp only [XO,XX] at e;have l:((vs++rest).toList.take off++y.cells.toList++(vs++rest).toList.drop (off+y.cells.size)).toArray=(vs.toList.take off++y.cells.toList++vs.toList.drop (off+y.cells.size)).toArray++rest:=by
            apply Array.ext';have G:(vs.toList++rest.toList).take off=vs.toList.take off:=List.take_append_of_le_length (by simp;omega);have H:(vs.toList++rest.toList).drop (off+y.cells.size)=vs.toList.drop (off+y.cells.size)++rest.toList:=List.drop_append_of_le_length (by simp;omega);simp [G,H]
          rw [l] at e;obtain ⟨I,J⟩:=h.rewrite h1 k1 k2 F k6 j (cs':=cJ cs off v.cells) (vs':=vs.toList.take off++y.cells.toList++vs.toList.drop (off+y.cells.size))
            (by simpa using uP off B c) (fun u hu=>by
              simp only [Xj] at hu;rcases hu with (hu | hu) | hu
              · exact D u (List.mem_of_mem_take hu)
              · exact k u hu
              · exact D u (List.mem_of_mem_drop hu))
          refine ⟨g,_, ?_,I,J⟩;simp only [Instr.storeAt,Instr.sureAddr,Sem.run_bind,Sem.run_pure,Result.andThen_ok,storeVar,hi.dh,Sem.run_ite];rw [if_neg (by omega)];exact e
      · cases h3
    · cases hp
  | _=>simp [vj] at hp
theorem Inv.lh (h:Inv T A g st w) {b:Nat} (hb:w.heap.size<=b) (o:Nat):g.F b o=none:=by
  cases hf:g.F b o with
  | none=>rfl
  | some v=>
    obtain ⟨vs,ty,fz,h2,_⟩:=nQ (h.F b o v hf);have:=lt_of_heap h2;omega
theorem Inv.S6 (h:Inv T A g st w) {b:Nat} (hb:w.heap.size<=b):g.M b=none:=by
  cases hf:g.M b with
  | none=>rfl
  | some v=>
    have:=lt_of_heap (h.M b v.1 v.2 hf);omega
theorem Inv.ib (h:Inv T A g st w) {b:Nat} (hb:w.heap.size<=b) (id:Nat) (o:Obj) (ho:st.get id= .ok o):¬ At g id o b:=fun ha=>by
  have:=D3 (h.H id o ho) ha;omega
theorem Inv.newObj (h:Inv T A g st w) (o:Obj) (m:Go.Obj) (a: ∀b',At (g.dm st.h (.gf w.heap.size)) st.h o b'->b'=w.heap.size)
    (ho:Holds T (g.dm st.h (.gf w.heap.size)) (w.alloc m) st.h o):
    Inv T A (g.dm st.h (.gf w.heap.size)) (st.new o).2 (w.alloc m)/\Kp A g w (g.dm st.h (.gf w.heap.size)) (w.alloc m):=
  ⟨(h.alloc m).name o _ w.heap.size (fun id o' b=>h.ib (WW _) id o' b) (h.up _ (WW _)) a ho,
   (Kp.alloc m h).trans (Kp.dm (h.E _ (WW _)))⟩
theorem Inv.yN (h:Inv T A g st w) {cs:List AV} {xs:List Value} (ty:TypeId) (hr:RL g cs xs) (h1: ∀x∈xs,x.oneCell'=true):
    Inv T A (g.dm st.h (.gf w.heap.size)) (st.new (.cells ty cs)).2 (w.alloc (.cells xs.toArray ty))/\Kp A g w (g.dm st.h (.gf w.heap.size)) (w.alloc (.cells xs.toArray ty))/\
    R (g.dm st.h (.gf w.heap.size)) (.mp st.h 0) (.pointer (some ⟨w.heap.size,0,none⟩)):=by
  have hle:Le g (g.dm st.h (.gf w.heap.size)):=Le.dm (h.E _ (WW _));obtain ⟨k1,k2⟩:=h.newObj (.cells ty cs) (.cells xs.toArray ty) (fun b' a=>by
    have:(g.dm st.h (.gf w.heap.size)).E st.h=some (.gf b'):=a;rw [Gh.aZ] at this;simpa using this.symm) ⟨w.heap.size,xs.toArray, #[],ty,Gh.aZ _ _ _,by simpa using World.heap_alloc_new,by simpa using eA hle _ _ hr,by simpa using h1,fun o=>h.lh (WW _) o,fun _=>⟨rfl,rfl⟩⟩
  exact ⟨k1,k2,by simp only [R];exact ⟨_,Gh.aZ _ _ _,rfl⟩⟩
theorem Inv.Dk (h:Inv T A g st w) {cs:List AV} {xs:List Value} (ty:TypeId) (hr:RL g cs xs) (h1: ∀x∈xs,x.oneCell'=true):
    Inv T A (g.cP w.heap.size 0 xs) st (w.alloc (.cells xs.toArray ty))/\Kp A g w (g.cP w.heap.size 0 xs) (w.alloc (.cells xs.toArray ty))/\
    nI (g.cP w.heap.size 0 xs) cs w.heap.size 0:=by
  have a: ∀o,0<=o->o < 0+xs.length->g.F w.heap.size o=none:=fun o _ _=>h.lh (WW _) o;have hle:Le g (g.cP w.heap.size 0 xs):=Le.cP a;refine ⟨(h.alloc _).cP _ 0 xs a ?_ fun id o ho=>h.ib (WW _) id o ho,(Kp.alloc _ h).trans (Kp.cP (h.up _ (WW _)) a), ?_⟩
  · intro i v hv
    rw [cell_of (World.heap_alloc_new)];simpa using hv
  · refine dv (eA hle _ _ hr) fun i x hx=>⟨?_,h1 x (Xo hx)⟩
    exact Gh.kg g _ 0 xs i x hx
theorem jY (ty:TypeId) (xs:Array Value):(newRow ty xs).run P w= .ok ⟨w.heap.size,0,none⟩ (w.alloc (.cells xs ty)):=by
  simp [newRow]
theorem ER {t:TypeId} {i:TI} (hi:jD P t i) (h:Inv T A g st w) (old:Value):
    bl P T A g w (.mp st.h 0) (st.new (.cells t i.zero)).2 (Instr.alloc t true old):=by
  obtain ⟨z,h1,h2,h3,h4,c,a⟩:=hi.qo;obtain ⟨k1,k2,b⟩:=h.yN t (a g) (by simpa using h4);refine ⟨_,_,_, ?_,b,k1,k2⟩;simp [Instr.alloc,h1,newVar,jY]
theorem Ix {C:df} {imm:Bool} {t:TypeId} {i:TI} {v r:AV} {y:Value} {p:dG} {d:Fx}
    (hp:Kf imm t i v= .ok p) (hrun:aC C st p= .ok (r,d)) (hy:R g v y) (h:Inv T A g st w):
    bl P T A g w r (d.did.app st) (Instr.box t y):=by
  simp only [Kf] at hp;split at hp
  · cases hp
  · rename_i hc
    simp only [WY] at hc;have a:=wY hy hc.2;have b:=qM hc.2 a;split at hp
    · simp only [ag,au] at hp
      obtain ⟨cs,h1,rfl⟩:=hp;simp only [aC,WT,WV] at hrun;obtain ⟨rfl,rfl⟩:=hrun;obtain ⟨f1,f2⟩:=CQ a h1;obtain ⟨k1,k2,c⟩:=h.Dk t f1 b;refine ⟨.pointer (some ⟨w.heap.size,0,none⟩),_,_, ?_, ?_,k1,k2⟩
      · simp [Instr.box,newVar,jY]
      · simp only [R]
        exact ⟨f2,_,_,rfl,c⟩
    · simp only [WT] at hp
      subst hp;simp only [aC,WT,WV] at hrun;obtain ⟨rfl,rfl⟩:=hrun;obtain ⟨k1,k2,c⟩:=h.yN t a b;refine ⟨.pointer (some ⟨w.heap.size,0,none⟩),_,_, ?_,c,k1,k2⟩;simp [Instr.box,newVar,jY]
theorem sL {t:TypeId} {i:TI} {fs:List (Nat×TypeId)} (hi:jD P t i) (hu:i.und= .struct fs):
    ∃fields:Array Field,(∀w,(underlying t).run P w= .ok (.struct fields) w)/\fields.toList.map (fun f=>(f.offset,f.type))=fs:=by
  obtain ⟨d,h1,h2,_⟩:=hi.mL;rw [hu] at h2;obtain ⟨fields,rfl,h3⟩:=h2;exact ⟨fields,h1,h3⟩
theorem eJ {t e:TypeId} {i:TI} (hi:jD P t i) (hu:i.und= .slice e): ∀w,(underlying t).run P w= .ok (.slice e) w:=by
  obtain ⟨d,h1,h2,_⟩:=hi.mL;rw [hu] at h2;cases h2;exact h1
theorem qG {t e:TypeId} {n:Nat} {i:TI} (hi:jD P t i) (hu:i.und= .arr n e): ∀w,(underlying t).run P w= .ok (.array n e) w:=by
  obtain ⟨d,h1,h2,_⟩:=hi.mL;rw [hu] at h2;cases h2;exact h1
theorem sU {t:TypeId} {i:TI} (hi:jD P t i) (hu:i.und= .str): ∀w,(underlying t).run P w= .ok .string w:=by
  obtain ⟨d,h1,h2,_⟩:=hi.mL;rw [hu] at h2;cases h2;exact h1
theorem Nb {t:TypeId} {k:IntKind} {i:TI} (hi:jD P t i) (hu:i.und= .int k): ∀w,(underlying t).run P w= .ok (.int k) w:=by
  obtain ⟨d,h1,h2,_⟩:=hi.mL;rw [hu] at h2;cases h2;exact h1
theorem tu {t k e:TypeId} {i:TI} (hi:jD P t i) (hu:i.und= .map k e): ∀w,(underlying t).run P w= .ok (.map k e) w:=by
  obtain ⟨d,h1,h2,_⟩:=hi.mL;rw [hu] at h2;cases h2;exact h1
theorem A3 {fields:Array Field} {fs:List (Nat×TypeId)} (h:fields.toList.map (fun f=>(f.offset,f.type))=fs) {n off:Nat} {a:TypeId}
    (hn:fs[n]? =some (off,a)): ∃f,fields[n]? =some f/\f.offset=off/\f.type=a:=by
  subst h;simp only [XG,XT] at hn;cases hf:fields[n]? with
  | none=>simp [hf] at hn
  | some f=>simp [hf] at hn;exact ⟨f,rfl,hn.1,hn.2⟩
theorem wz (hT:wW P T) {t:TypeId} {n:Nat} {a v:AV} {x:Value} (hp:fieldAddr T t a n= .ok v) (hx:R g a x) (h:Inv T A g st w):
    bl P T A g w v st (Instr.fieldAt t x n):=by
  simp only [fieldAddr,ag] at hp;obtain ⟨i,h1,h2⟩:=hp;have hi:=hT t i (cB.1 h1);split at h2
  · rename_i fs hu
    obtain ⟨fields,k1,k2⟩:=sL hi hu;split at h2
    · rename_i off d hn
      obtain ⟨f,c,rfl,rfl⟩:=A3 k2 hn;simp only [ag] at h2;obtain ⟨j,h3,h4⟩:=h2;have hj:=hT _ j (cB.1 h3);have hrun: ∀b o,x= .pointer (some ⟨b,o,none⟩)->j.size≠0->(Instr.fieldAt t x n).run P w= .ok (.pointer (some ⟨b,o+f.offset,none⟩)) w:=by
        rintro b o rfl hz;simp [Instr.fieldAt,k1,c,Instr.sureAddr,fieldPlace,hj.dh,hz,Addr.eY]
      split at h4
      · cases h4
      · rename_i m hm
        split at h4
        · simp only [au] at h4
          subst h4;simp only [R] at hx;obtain ⟨hb,b,o,hx,hr⟩:=hx;refine bl.of h (hrun b o hx (by omega)) ?_;simp only [R];exact ⟨sr _ hb,b,o+f.offset,rfl,AX _ hr⟩
        · simp only [au] at h4
          subst h4;simp only [R] at hx;obtain ⟨b,hE,hx⟩:=hx;refine bl.of h (hrun b _ hx (by omega)) ?_;simp only [R];exact ⟨b,hE,rfl⟩
        · simp only [au] at h4
          subst h4;simp only [R] at hx;obtain ⟨loc,b,cap,hE,hl,hx⟩:=hx;refine bl.of h (hrun b _ hx (by omega)) ?_;simp only [R];exact ⟨loc,b,cap,hE,hl,rfl⟩
        · cases h4
    · cases h2
  · cases h2
theorem oR {t:TypeId} {i:TI} (hi:jD P t i) {cs:List AV} {ys:Array Value} {off:Nat} {v:AV}
    (hp:cR i.size i.agg (cs.drop off)= .ok v) (hr:RL g cs ys.toList): ∃y,(part t ys off).run P w= .ok y w/\R g v y:=by
  obtain ⟨h1,h2⟩:=xA hp (iP off hr);cases ha:i.agg with
  | true=>
    obtain ⟨_,k2⟩:=h1 ha;refine ⟨_, ?_,k2⟩;simp only [part,Sem.run_bind,hi.wQ,Result.andThen_ok,ha,if_true,hi.dh,Sem.run_pure];congr 2;apply Array.ext';simp [List.take_drop,Array.toList_extract]
  | false=>
    obtain ⟨y,l,k1,k2⟩:=h2 ha;refine ⟨y, ?_,k2⟩;have:ys[off]? =some y:=by
      rw [<- XT];have:=Xy (·[0]?) k1;simpa using this
    simp [part,hi.wQ,ha,this]
theorem C4 (hT:wW P T) {t:TypeId} {n:Nat} {a v:AV} {x:Value} (hp:field T t a n= .ok v) (hx:R g a x) (h:Inv T A g st w):
    bl P T A g w v st (Instr.field t x n):=by
  simp only [field,ag] at hp;obtain ⟨i,h1,h2⟩:=hp;have hi:=hT t i (cB.1 h1);split at h2
  · rename_i fs cs hu
    obtain ⟨fields,k1,k2⟩:=sL hi hu;split at h2
    · rename_i off e hn
      obtain ⟨f,b,rfl,rfl⟩:=A3 k2 hn;simp only [ag] at h2;obtain ⟨j,h3,h4⟩:=h2;have hj:=hT _ j (cB.1 h3);simp only [R] at hx;obtain ⟨ys,rfl,hr⟩:=hx;obtain ⟨y,c,d⟩:=oR (w:=w) hj h4 hr;exact bl.of h (by simp [Instr.field,k1,b,asAgg,c]) d
    · cases h2
  · cases h2
theorem wZ {a:AV} {n:Int} {x:Value} (h:asInt a= .ok n) (hx:R g a x): ∃k,x= .int k n:=by
  cases a <;> simp [asInt] at h
  subst h;simp only [R] at hx;exact ⟨_,hx⟩
theorem jb {i:Int} {n k:Nat} (h:inside i n= .ok k):i=k/\k < n:=by
  unfold inside at h;split at h
  · split at h
    · rename_i hb
      rw [dD] at hb;simp only [WT] at h;subst h;exact ⟨rfl,hb⟩
    · cases h
  · cases h
theorem iQ {i:Int} {n k:Nat} (h:upto i n= .ok k):i=k/\k<=n:=by
  unfold upto at h;split at h
  · split at h
    · rename_i hb
      simp only [WT] at h;subst h;exact ⟨rfl,WU hb⟩
    · cases h
  · cases h
theorem wC (hT:wW P T) {t:TypeId} {a r v:AV} {x y:Value} (hp:indexAddr T t a r= .ok v) (hx:R g a x) (hy:R g r y) (h:Inv T A g st w):
    bl P T A g w v st (Instr.indexAt t x y):=by
  simp only [indexAddr,ag] at hp;obtain ⟨n,h0,i,h1,h2⟩:=hp;obtain ⟨B,rfl⟩:=wZ h0 hy;have hi:=hT t i (cB.1 h1);split at h2
  · rename_i e sz es p hu
    have k1:=eJ hi hu;simp only [ag] at h2;obtain ⟨k,h3,j,h4,f⟩:=h2;obtain ⟨rfl,hk⟩:=jb h3;have hj:=hT _ j (cB.1 h4);split at f
    · rename_i d
      have d:=W2 d;simp only [ag,au] at f;obtain ⟨u,s,rfl⟩:=f;simp only [R] at hx;obtain ⟨hb,b,o,cap,rfl,hc,q,hr,_⟩:=hx;obtain ⟨C,z⟩:=zv hr s;refine bl.of h (x:= .pointer (some ⟨b,o+k * sz,none⟩)) ?_ ?_
      · simp [Instr.indexAt,asIntOf,k1,hj.dh,Addr.eY,d]
        intro l;omega
      · simp only [R]
        exact ⟨wk (uX hb s),b,_,rfl,z⟩
    · cases f
  · rename_i e id off sz len cap hu
    have k1:=eJ hi hu;simp only [ag] at h2;obtain ⟨k,h3,j,h4,f⟩:=h2;obtain ⟨rfl,hk⟩:=jb h3;have hj:=hT _ j (cB.1 h4);split at f
    · rename_i d
      have d:=W2 d;simp only [au] at f;subst f;simp only [R] at hx;obtain ⟨b,o,hE,c,rfl,hc,q,ho,_⟩:=hx;have ho:=ho (by omega);subst ho;refine bl.of h (x:= .pointer (some ⟨b,o+k * sz,none⟩)) ?_ ?_
      · simp [Instr.indexAt,asIntOf,k1,hj.dh,Addr.eY,d]
        intro l;omega
      · simp only [R]
        exact ⟨b,hE,rfl⟩
    · cases f
  · rename_i len e id off hu
    have k1:=qG hi hu;simp only [ag,au] at h2;obtain ⟨k,h3,j,h4,rfl⟩:=h2;obtain ⟨rfl,hk⟩:=jb h3;have hj:=hT _ j (cB.1 h4);simp only [R] at hx;obtain ⟨b,hE,rfl⟩:=hx;refine bl.of h (x:= .pointer (some ⟨b,off+k * j.size,none⟩)) ?_ ?_
    · simp [Instr.indexAt,Instr.sureAddr,asIntOf,k1,hj.dh,Addr.eY]
      intro l;omega
    · simp only [R]
      exact ⟨b,hE,rfl⟩
  · rename_i len e cells hu
    have k1:=qG hi hu;simp only [ag,au] at h2;obtain ⟨k,h3,j,h4,rfl⟩:=h2;obtain ⟨rfl,hk⟩:=jb h3;have hj:=hT _ j (cB.1 h4);simp only [R] at hx;obtain ⟨hb,b,o,rfl,hr⟩:=hx;refine bl.of h (x:= .pointer (some ⟨b,o+k * j.size,none⟩)) ?_ ?_
    · simp [Instr.indexAt,Instr.sureAddr,asIntOf,k1,hj.dh,Addr.eY]
      intro l;omega
    · simp only [R]
      exact ⟨sr _ hb,b,_,rfl,AX _ hr⟩
  · rename_i len e id m off hu
    have k1:=qG hi hu;simp only [ag,au] at h2;obtain ⟨k,h3,j,h4,rfl⟩:=h2;obtain ⟨rfl,hk⟩:=jb h3;have hj:=hT _ j (cB.1 h4);simp only [R] at hx;obtain ⟨loc,b,cap,hE,hl,rfl⟩:=hx;refine bl.of h (x:= .pointer (some ⟨b,off+k * j.size,none⟩)) ?_ ?_
    · simp [Instr.indexAt,Instr.sureAddr,asIntOf,k1,hj.dh,Addr.eY]
      intro l;omega
    · simp only [R]
      exact ⟨loc,b,cap,hE,hl,rfl⟩
  · cases h2
end
section
variable {P:Program} {T:TT} {A:Nat->Prop} {g:Gh} {st:St} {w:World}
theorem Ok (s:List UInt8) (k:Nat):(⟨s.toArray⟩:ByteArray)[k]? =s[k]? :=by
 by_cases h:k < s.length
 .rw [Xl h,getElem?_pos (⟨s.toArray⟩:ByteArray) k (by simpa [ByteArray.size] using h)];simp [ByteArray.getElem_eq_getElem_data]
 .rw [Xu (Nat.le_of_not_lt h),getElem?_neg (⟨s.toArray⟩:ByteArray) k (by simpa [ByteArray.size] using h)]
theorem nv (s:List UInt8):(⟨s.toArray⟩:ByteArray).size=s.length:=by simp [ByteArray.size]
theorem Dp (hT:wW P T) {t:TypeId} {a f v:AV} {x y:Value} (hp:zw T t a f= .ok v) (hx:R g a x) (hy:R g f y) (h:Inv T A g st w):
  bl P T A g w v st (Instr.index t x y):=by
 simp only [zw,ag] at hp;obtain ⟨n,h0,i,h1,h2⟩:=hp;obtain ⟨o,rfl⟩:=wZ h0 hy;have hi:=hT t i (cB.1 h1);split at h2
 .rename_i s hu;have k1:=sU hi hu;simp only [ag] at h2;obtain ⟨k,h3,c⟩:=h2;obtain ⟨rfl,hk⟩:=jb h3;split at c
  .rename_i b hb;simp only [au] at c;subst c;simp only [R] at hx;subst hx;refine bl.of h (x:= .int .u8 b.toNat) ?_ (by simp only [R]);simp [Instr.index,asIntOf,k1,Ok,hb]
  .cases c
 .rename_i len e cs hu;have k1:=qG hi hu;simp only [ag] at h2;obtain ⟨k,h3,j,h4,c⟩:=h2;obtain ⟨rfl,hk⟩:=jb h3;have hj:=hT _ j (cB.1 h4);simp only [R] at hx;obtain ⟨ys,rfl,hr⟩:=hx;obtain ⟨y,l,m⟩:=oR (w:=w) hj c hr;refine bl.of h (x:=y) ?_ m;have d:¬ (len<=k):=by omega
  simp [Instr.index,asIntOf,k1,d,hj.dh,l]
 .cases h2
def Jh (n:Option Int) (x:Option Value):Prop:=match n,x with | none,none=>True | some n,some y=> ∃k,y= .int k n | _,_=>False
def Lt (g:Gh) (a:Option AV) (x:Option Value):Prop:=match a,x with | none,none=>True | some v,some y=>R g v y | _,_=>False
theorem pK {a:Option AV} {n:Option Int} {x:Option Value} (h:kV a= .ok n) (hx:Lt g a x):Jh n x:=by
 cases a with
 | none=>
  cases x with
  | none=>simp only [kV,WT] at h;subst h;trivial
  | some y=>exact hx.elim
 | some v=>
  cases x with
  | none=>exact hx.elim
  | some y=>
   simp only [kV,ag,au] at h;obtain ⟨m,h1,rfl⟩:=h;exact wZ h1 hx
theorem run_sliceBound {k:IntKind} {n m:Nat} {code:BoundsCode} (h:n<=m):(Instr.sliceBound (.int k n) m code).run P w= .ok n w:=by
 simp [Instr.sliceBound,asIntOf,h]
theorem jU {isSlice:Bool} {len cap dflt:Nat} {lo hi mx:Option Int} {d e xm:Option Value} {l f m:Nat} (hl:Jh lo d) (b:Jh hi e) (hm:Jh mx xm)
  (h1:kZ mx cap cap= .ok m) (h2:kZ hi m dflt= .ok f) (hd:mx=none->dflt=len) (h3:rz lo f= .ok l) (g:mx≠none->hi≠none):
  (Instr.sliceBounds isSlice len cap d e xm).run P w= .ok (l,f,m) w:=by
 have b1: ∀{k:IntKind} {n m:Nat} {code:BoundsCode},n<=m->(Instr.sliceBound (.int k n) m code).run P w= .ok n w:=fun h=>run_sliceBound h;cases xm <;> cases mx <;> first | exact hm.elim | skip
 .have hd:=hd rfl;subst hd;simp only [kZ,WT] at h1;subst h1;cases e <;> cases hi <;> first | exact b.elim | skip
  .simp only [kZ,WT] at h2;subst h2;cases d <;> cases lo <;> first | exact hl.elim | skip
   .simp only [rz,WT] at h3;subst h3;simp [Instr.sliceBounds]
   .obtain ⟨k,rfl⟩:=hl;obtain ⟨rfl,hle⟩:=iQ h3;simp [Instr.sliceBounds,b1 hle]
  .obtain ⟨k,rfl⟩:=b;obtain ⟨rfl,a⟩:=iQ h2;cases d <;> cases lo <;> first | exact hl.elim | skip
   .simp only [rz,WT] at h3;subst h3;simp [Instr.sliceBounds,b1 a]
   .obtain ⟨k,rfl⟩:=hl;obtain ⟨rfl,hle⟩:=iQ h3;simp [Instr.sliceBounds,b1 hle,b1 a]
 .obtain ⟨i,rfl⟩:=hm;obtain ⟨rfl,c⟩:=iQ h1;cases e <;> cases hi <;> first | exact b.elim | skip
  .exact absurd rfl (g (by simp))
  .obtain ⟨k,rfl⟩:=b;obtain ⟨rfl,a⟩:=iQ h2;cases d <;> cases lo <;> first | exact hl.elim | skip
   .simp only [rz,WT] at h3;subst h3;simp [Instr.sliceBounds,b1 c,b1 a]
   .obtain ⟨k,rfl⟩:=hl;obtain ⟨rfl,hle⟩:=iQ h3;simp [Instr.sliceBounds,b1 c,b1 hle,b1 a]
theorem DG (s:List UInt8) (l h:Nat):(⟨s.toArray⟩:ByteArray).extract l h=⟨((s.take h).drop l).toArray⟩:=by
 apply ByteArray.ext;simp [ByteArray.data_extract,List.drop_take]
theorem wx {t:TypeId} {i:TI} (hi:jD P t i) (hu:i.und= .str) {s:List UInt8} {lo b:Option Int} {c d:Option Value} {l m:Nat} (hl:Jh lo c) (a:Jh b d)
  (h2:kZ b s.length s.length= .ok m) (h3:rz lo m= .ok l):
  (Instr.sliceAt t (.string ⟨s.toArray⟩) c d none).run P w= .ok (.string ⟨((s.take m).drop l).toArray⟩) w:=by
 have k1:=sU hi hu;have hb:=jU (P:=P) (w:=w) (isSlice:=false) (len:=s.length) (cap:=s.length) (mx:=none) (xm:=none) hl a trivial (m:=s.length) (dflt:=s.length) rfl h2 (fun _=>rfl) h3 (by simp);simp [Instr.sliceAt,Instr.slice,k1,nv,hb,DG]
theorem nB {t e:TypeId} (k1: ∀w,(underlying t).run P w= .ok (.slice e) w) (a:Option Addr) (len cap:Nat) (b c xm:Option Value) {l d m sz:Nat}
  (hb:(Instr.sliceBounds true len cap b c xm).run P w= .ok (l,d,m) w) (hs:(sizeOf e).run P w= .ok sz w):
  (Instr.sliceAt t (.slice a len cap) b c xm).run P w= .ok (.slice (if m=l then a else a.map (·.add (l * sz))) (d - l) (m - l)) w:=by
 simp [Instr.sliceAt,Instr.slice,k1,hb,hs]
theorem wV {k n:Nat} (h:k<=n):upto (k:Int) n= .ok k:=by
 have:k.ble n=true:=Xx h;show (match k.ble n with | true=>Except.ok k | false=>Except.error _)= _;rw [this]
theorem mz {hi:Option Int} {m d h:Nat} (e:kZ hi m d= .ok h) (hd:d<=m):h<=m:=by
 cases hi with
 | none=>simp only [kZ,WT] at e;omega
 | some n=>exact (iQ e).2
theorem tO {lo:Option Int} {h l:Nat} (e:rz lo h= .ok l):l<=h:=by
 cases lo with
 | none=>simp only [rz,WT] at e;omega
 | some n=>exact (iQ e).2
theorem Ch {z b o:Nat} {l:List AV} (h:l=[]):gS g z l b o:=by subst h;simp [gS]
theorem xw {z:Nat} {es:List AV} {b o l a m:Nat} (hb:bL es=true) (hz:1<=z) (hr:gS g z es b o) (d:l<=a) (e:a<=es.length) (f:a<=m) {p:Perm}
  (hp:(m≠l->tY g p (a - l) b (o+l * z) (m - l))/\(m=l->tY g p (a - l) b o (m - l))):
  R g (.sl z ((es.take a).drop l) p) (.slice (if m=l then some ⟨b,o,none⟩ else (some (⟨b,o,none⟩:Addr)).map (·.add (l * z))) (a - l) (m - l)):=by
 have hlen:((es.take a).drop l).length=a - l:=by simp;omega
 simp only [R,hlen];refine ⟨sr _ (FP _ hb), ?_⟩;by_cases c:m=l
 .rw [if_pos c];refine ⟨b,o,m - l,rfl,by omega,hz,Ch ?_,hp.2 c⟩;apply XF;omega
 .rw [if_neg c];refine ⟨b,o+l * z,m - l,by simp [Addr.eY],by omega,hz, ?_,hp.1 c⟩;exact Ip _ (I4 _ hr) (by simp;omega)
theorem Er (hT:wW P T) {t:TypeId} {a v:AV} {x:Value} {lo hi mx:Option AV} {H I xm:Option Value} (hp:mj T t a lo hi mx= .ok v) (hx:R g a x)
  (hl:Lt g lo H) (S:Lt g hi I) (hm:Lt g mx xm) (h:Inv T A g st w) (U:mx≠none->hi≠none):bl P T A g w v st (Instr.sliceAt t x H I xm):=by
 simp only [mj,ag] at hp;obtain ⟨nl,e1,L,V,nm,W,i,e4,h2⟩:=hp;have B:=hT t i (cB.1 e4);have ol:=pK e1 hl;have J:=pK V S;have K:=pK W hm;have z:nm≠none->L≠none:=fun hn=>by
  have:mx≠none:=fun e=>by subst e;simp only [kV,WT] at W;exact hn W.symm
  have:=U this;cases hi with
  | none=>exact absurd rfl this
  | some y=>
   simp only [kV,ag,au] at V;obtain ⟨_,_,rfl⟩:=V;simp
 split at h2
 .rename_i s hu;simp only [ag,au] at h2;obtain ⟨m,f1,l,f2,rfl⟩:=h2;simp only [R] at hx;subst hx;cases xm with
  | some y=>exact K.elim
  | none=>exact bl.of h (wx B hu ol J f1 f2) (by simp only [R])
 .rename_i nm _ _ _ e hu;simp only [ag,au] at h2;obtain ⟨j,f0,m,f1,q,f2,l,f3,rfl⟩:=h2;have hj:=hT _ j (cB.1 f0);simp only [R] at hx;subst hx;have M:=mz f1 (WW _);have X:=mz f2 (XC _);have r:=tO f3;have hb:=jU (P:=P) (w:=w) (isSlice:=true) (len:=0) (cap:=0) (dflt:=0) ol J K f1 f2 (fun _=>rfl) f3 z;have:=nB (eJ B hu) none 0 0 H I xm hb (hj.dh w);refine bl.of h (x:= .slice none 0 0) ?_ (by simp only [R]);rw [this];have h0:m - l=0:=by omega
  have h1:q - l=0:=by omega
  simp [h0,h1]
 .rename_i nm _ _ _ e hu;simp only [ag,au] at h2;obtain ⟨j,f0,m,f1,q,f2,l,f3,rfl⟩:=h2;have hj:=hT _ j (cB.1 f0);simp only [R] at hx;obtain ⟨a,rfl⟩:=hx;have M:=mz f1 (WW _);have X:=mz f2 (XC _);have r:=tO f3;have hb:=jU (P:=P) (w:=w) (isSlice:=true) (len:=0) (cap:=0) (dflt:=0) ol J K f1 f2 (fun _=>rfl) f3 z;have:=nB (eJ B hu) (some a) 0 0 H I xm hb (hj.dh w);refine bl.of h (x:= .slice (some a) 0 0) ?_ (by simp only [R];exact ⟨a,rfl⟩);rw [this];have h2:l=0:=by omega
  have h3:m=0:=by omega
  have h4:q=0:=by omega
  subst h2 h3 h4;rfl
 .rename_i nm _ _ _ e id off sz len cap hu;simp only [ag] at h2;obtain ⟨j,f0,h3⟩:=h2;split at h3
  .cases h3
  .rename_i d;have d:=W2 d;have hj:=hT _ j (cB.1 f0);simp only [ag] at h3;obtain ⟨m,f1,q,f2,l,f3,h4⟩:=h3;split at h4
   .rename_i hle;have hle:=WU hle;simp only [au] at h4;subst h4;simp only [R] at hx;obtain ⟨b,o,hE,c,rfl,hc,f,ho,Y⟩:=hx;have Z: ∃E,kZ nm c c= .ok E/\kZ L E len= .ok q/\q<=E/\E<=c/\(m - l=E - l\/m - l=0):=by
     rcases Y with rfl | rfl
     .exact ⟨m,f1,f2,hle,mz f1 (WW _),.inl rfl⟩
     .have M:m<=0:=mz f1 (WW _);cases nm with
      | none=>
       refine ⟨c,rfl, ?_,by omega,WW _,.inr (by omega)⟩;cases L with
       | none=>exact f2
       | some n=>
        obtain ⟨rfl,C⟩:=iQ f2;exact wV (by omega)
      | some y=>
       obtain ⟨q1,q2⟩:=iQ (show upto y 0= .ok m from f1);subst q1;exact ⟨m,wV (by omega),f2,hle,by omega,.inl rfl⟩
    obtain ⟨E,f1,f2,hle,a6,N⟩:=Z;have hb:=jU (P:=P) (w:=w) (isSlice:=true) (len:=len) (cap:=c) (dflt:=len) ol J K f1 f2 (fun _=>rfl) f3 z;have:=nB (eJ B hu) (some ⟨b,o,none⟩) len c H I xm hb (hj.dh w);refine bl.of h this ?_;have r:=tO f3;simp only [R];by_cases O:E=l
    .rw [if_pos O];exact ⟨b,o,hE,E - l,rfl,by omega,f,fun hne=>absurd (by omega:E - l=0) hne,N⟩
    .rw [if_neg O];have G:c≠0:=fun e=>by omega
     refine ⟨b,o+l * j.size,hE,E - l,by simp [Addr.eY],by omega,f,fun _=>by rw [ho G,d],N⟩
   .cases h4
 .rename_i e sz es p hu;simp only [ag] at h2;obtain ⟨j,f0,h3⟩:=h2;split at h3
  .cases h3
  .rename_i d;have d:=W2 d;have hj:=hT _ j (cB.1 f0);simp only [ag] at h3;obtain ⟨q,f2,l,f3,h4⟩:=h3;simp only [R] at hx;obtain ⟨D,b,o,cap,rfl,hc,f,hr,u⟩:=hx;cases xm with
   | some y=>exact K.elim
   | none=>
    have ar:kZ L cap es.length= .ok q:=by
     cases L with
     | none=>exact f2
     | some n=>
      obtain ⟨rfl,C⟩:=iQ f2;exact wV (by omega)
    have hb:=jU (P:=P) (w:=w) (isSlice:=true) (len:=es.length) (cap:=cap) (mx:=none) (xm:=none) (dflt:=es.length) (m:=cap) ol J trivial rfl ar (fun _=>rfl) f3 (by simp);have hrun:=nB (eJ B hu) (some ⟨b,o,none⟩) es.length cap H I none hb (hj.dh w);have F:=mz f2 (WW _);have r:=tO f3;rw [<- d] at hrun;refine bl.of h hrun ?_;have wide:R g (.sl sz ((es.take q).drop l) .wide) (.slice (if cap=l then some ⟨b,o,none⟩ else (some (⟨b,o,none⟩:Addr)).map (·.add (l * sz))) (q - l) (cap - l)):=
     xw D f hr r F (by omega) ⟨fun _=>trivial,fun _=>trivial⟩
    split at h4
    .rename_i C;have C:=W2 C;simp only [au] at h4;subst h4;have G:cap=es.length:=u;have:=xw (m:=cap) (p:= .shut) D f hr r F (by omega) ⟨fun _=>by show cap - l=q - l;omega,fun _=>by show cap - l=q - l;omega⟩
     rwa [List.take_of_length_le (by omega)] at this
    .rename_i k C;have C:=W2 C;split at h4
     .rename_i hl;have hl:=W2 hl;subst hl;simp only [au] at h4;subst h4;obtain ⟨av,Q⟩:=u;subst av;have hx:(if cap=0 then some (⟨b,0,none⟩:Addr) else (some (⟨b,0,none⟩:Addr)).map (·.add (0 * sz)))=some ⟨b,0,none⟩:=by
       split <;> simp [Addr.eY]
      simp only [R];refine ⟨D,b,0,cap, ?_,hc,f,hr,rfl,Q⟩;rw [hx];simp [C]
     .simp only [au] at h4;subst h4
      rwa [List.take_of_length_le (by omega)] at wide
    .simp only [au] at h4;subst h4;exact wide
 .rename_i e sz es p m0 hu;simp only [ag] at h2;obtain ⟨j,f0,h3⟩:=h2;split at h3
  .cases h3
  .rename_i d;have d:=W2 d;have hj:=hT _ j (cB.1 f0);simp only [ag,au] at h3;obtain ⟨m,f1,q,f2,l,f3,rfl⟩:=h3;simp only [R] at hx;obtain ⟨D,b,o,cap,rfl,hc,f,hr,u⟩:=hx;obtain ⟨rfl,a1⟩:=iQ f1;have aw:kZ (some (m:Int)) cap cap= .ok m:=by
    exact wV (by omega)
   have hb:=jU (P:=P) (w:=w) (isSlice:=true) (len:=es.length) (cap:=cap) (mx:=some (m:Int)) (dflt:=m) ol J K aw f2 (by simp) f3 z;have hrun:=nB (eJ B hu) (some ⟨b,o,none⟩) es.length cap H I xm hb (hj.dh w);have F:=mz f2 (WW _);have r:=tO f3;rw [<- d] at hrun;refine bl.of h hrun ?_;refine xw D f hr r (by omega) F ?_;cases C:m.beq q with
   | true=>
    have C:=W2 C;exact ⟨fun _=>by show m - l=q - l;omega,fun _=>by show m - l=q - l;omega⟩
   | false=>exact ⟨fun _=>trivial,fun _=>trivial⟩
 .cases h2
end
end Go.VM
