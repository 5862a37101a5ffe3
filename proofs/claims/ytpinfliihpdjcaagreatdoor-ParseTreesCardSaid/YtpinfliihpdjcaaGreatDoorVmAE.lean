/-
  A part of the proof.
-/
import Derived.Test.YtpinfliihpdjcaaGreatDoorVmAD
import Derived.Laws.Cells
import Derived.Laws.CopyRow
import Derived.Laws.AppendOwn
set_option linter.all false
namespace Go.VM
def aS (P:Program) (T:TT) (A:Nat->Prop) (g:Gh) (w:World) (v:AV) (st':St) (s:Sem Value):Prop:=
  ∃x g' w',s.run P w= .ok x w'/\R g' v x/\Inv T A g' st' w'/\Kp A g w g' w'
def vN (P:Program) (T:TT) (A:Nat->Prop) (g:Gh) (w:World) (st':St) (s:Sem Unit):Prop:=
  ∃g' w',s.run P w= .ok () w'/\Inv T A g' st' w'/\Kp A g w g' w'
section
variable {P:Program} {T:TT} {A:Nat->Prop} {g:Gh} {st:St} {w:World}
theorem aS.of {v:AV} {s:Sem Value} {x:Value} (h:Inv T A g st w) (hs:s.run P w= .ok x w) (a:R g v x):aS P T A g w v st s:=
  ⟨x,g,w,hs,a,h,Kp.refl _ _ _⟩
theorem gf.jr {t:TypeId} {i:TI} (h:gf P t i): ∃d,(∀w,(underlying t).run P w= .ok d w)/\rZ d i.und/\(i.agg=match d with | .struct _ | .array .. =>true | _=>false):=by
  obtain ⟨d,h1,a,b⟩:=h.und;exact ⟨d,fun w=>by simp [underlying,h1],a,b⟩
theorem gf.cr {t:TypeId} {i:TI} (h:gf P t i) (w:World):(sizeOf t).run P w= .ok i.size w:=by
  obtain ⟨f,h1,a,_⟩:=h.info;simp [sizeOf,typeInfo,h1,a]
theorem gf.qT {t:TypeId} {i:TI} (h:gf P t i) (w:World):(isAgg t).run P w= .ok i.agg w:=by
  obtain ⟨d,h1,_,a⟩:=h.jr;rw [a];simp only [isAgg,Sem.run_bind,h1,Result.andThen_ok];cases d <;> rfl
theorem gf.lR {t:TypeId} {i:TI} (h:gf P t i): ∃z,(∀w,(zeroValue t).run P w= .ok z w)/\z.cells.size=i.size/\(i.agg=false->z.oneCell'=true)/\(∀v∈z.cells,v.oneCell'=true)/\(i.agg=true-> ∃cs,z= .agg cs)/\ ∀g,RL g i.zero z.cells.toList:=by
  obtain ⟨f,h1,b,c,z,h4,a⟩:=h.info;exact ⟨z,fun w=>by simp [zeroValue,typeInfo,h1,h4],a⟩
theorem Addr.dt (b o n:Nat):(⟨b,o,none⟩:Addr).add n=⟨b,o+n,none⟩:=by
  unfold Addr.add;split
  · rename_i h;subst h;rfl
  · rfl
theorem rA {size:Nat} {agg:Bool} {cells:List AV} {v:AV} {xs:List Value} (h:bX size agg cells= .ok v) (a:RL g cells xs):
    (agg=true->size<=xs.length/\R g v (.agg (xs.take size).toArray))/\(agg=false-> ∃x l,xs=x::l/\R g v x):=by
  cases agg with
  | true=>
    refine ⟨fun _=> ?_,(fun k=>by cases k)⟩;simp only [bX] at h;split at h
    · rename_i b
      simp only [NT] at h;subst h;have:=N4 b;rw [<- cD a] at this;refine ⟨this, ?_⟩;simp only [R];exact ⟨_,rfl,by simpa using jw size a⟩
    · cases h
  | false=>
    refine ⟨(fun k=>by cases k),fun _=> ?_⟩;simp only [bX] at h;cases cells with
    | nil=>simp at h
    | cons u us=>
      simp only [NT] at h;subst h;simp only [RL] at a;obtain ⟨x,l,h1,c,_⟩:=a;exact ⟨x,l,h1,c⟩
theorem dy {t:TypeId} {i:TI} (hi:gf P t i) {b o:Nat} {cells:List AV} {v:AV} {xs:List Value}
    (h:bX i.size i.agg cells= .ok v) (f:RL g cells xs) (e: ∀k x,xs[k]? =some x->w.cell? ⟨b,o+k,none⟩=some x):
    ∃x,(loadVar t ⟨b,o,none⟩).run P w= .ok x w/\R g v x:=by
  obtain ⟨h1,m⟩:=rA h f;cases a:i.agg with
  | true=>
    obtain ⟨n,d⟩:=h1 a;refine ⟨_, ?_,d⟩;have hl:=run_loadCells_list (P:=P) w ⟨b,o,none⟩ (xs.take i.size) (fun j x c=>by
      rw [Addr.dt];refine e j x ?_;rw [List.getElem?_take] at c;split at c
      · exact c
      · cases c)
    rw [Oa,Pv n] at hl;simp only [loadVar,Sem.run_bind,hi.qT,Result.andThen_ok,a,if_true,hi.cr,hl,Sem.run_pure]
  | false=>
    obtain ⟨x,l,rfl,d⟩:=m a;refine ⟨x, ?_,d⟩;have:=e 0 x rfl;simp only [Ow] at this;simp only [loadVar,Sem.run_bind,hi.qT,Result.andThen_ok,a,Oi,if_false,run_load,this]
theorem nO {o:Obj} {cs:List AV}:cellsOf o= .ok cs↔ ∃ty,o= .cells ty cs:=by
  cases o <;> simp [cellsOf]
theorem AF {o:Obj} {ty:TypeId} {cs:List AV}:ox o= .ok (ty,cs)↔o= .cells ty cs:=by
  cases o <;> simp [ox]
theorem Inv.cells (h:Inv T A g st w) {id:Nat} {ty:TypeId} {cs:List AV} (c:st.get id= .ok (.cells ty cs)):
    ∃b vs rest a,g.E id=some (.blk b)/\w.heap[b]? =some (.cells (vs++rest) a (0,0))/\RL g cs vs.toList/\(∀v∈vs.toList,v.oneCell'=true)/\(∀o,g.F b o=none)/\(ty < 1000000->rest= #[]/\a=ty):=
  h.H id _ c
theorem zW {C:cp} {t:TypeId} {i:TI} (hi:gf P t i) {a v:AV} {x:Value} {p:cV} {N:Fx}
    (q:iT i a= .ok p) (c:az C st p= .ok (v,N)) (r:R g a x) (h:Inv T A g st w):
    aS P T A g w v (N.did.app st) (Instr.loadAt t x):=by
  cases a with
  | ip cells=>
    simp only [iT,ad,aj] at q;obtain ⟨u,h1,rfl⟩:=q;simp only [az,NT,NU] at c;obtain ⟨rfl,rfl⟩:=c;simp only [R] at r;obtain ⟨_,b,o,rfl,E⟩:=r;obtain ⟨xs,G,I⟩:=fZ E;obtain ⟨y,f,j⟩:=dy hi h1 G fun k z s=>h.F _ _ _ (I k z s).1;exact aS.of h (by simp [Instr.loadAt,Instr.sureAddr,f]) j
  | mp id off=>
    simp only [iT,NT] at q;subst q;simp only [fD,az,ad,aj] at c;obtain ⟨o,h1,⟨v',o'⟩,⟨J,⟨cs,l,E⟩,h4⟩,d,B,D⟩:=c;rw [nO] at l;obtain ⟨ty,rfl⟩:=l;simp only [NU] at h4 D;obtain ⟨rfl,rfl⟩:=h4;simp only [dv,NT] at B;subst B;obtain ⟨rfl,rfl⟩:=D;simp only [R] at r;obtain ⟨b,K,rfl⟩:=r;obtain ⟨b',vs,rest,S,G,I,U,k4,k5,k6⟩:=h.cells h1;have V:b'=b:=by have:=G.symm.trans K;simpa using this
    subst V;obtain ⟨y,f,j⟩:=dy (w:=w) (b:=b') (o:=off) hi E (fK off U) fun k z s=>gO I (by simpa using s);exact aS.of h (by simp [Instr.loadAt,Instr.sureAddr,f]) j
  | gp k n off=>
    simp only [iT,NT] at q;subst q;simp only [fD,az,ad,aj] at c;obtain ⟨o,h1,⟨v',o'⟩,⟨J,l,h4⟩,d,B,D⟩:=c;simp only [NU] at h4 D;obtain ⟨rfl,rfl⟩:=h4;simp only [dv,NT] at B;subst B;obtain ⟨rfl,rfl⟩:=D;simp only [R] at r;obtain ⟨loc,b,cap,K,hl,rfl⟩:=r;split at l
    · rename_i m e z cs
      split at l
      · rename_i L
        have L:=NZ L;subst L;obtain ⟨O,W,Q,i2,pre,rest,X,Y,q3,q4,q5,q6,Z,q8,q9,av,M,a1,a6⟩:=h.H k _ h1;have f:=X.symm.trans K;simp only [N1,jo.tok.injEq] at f;subst f;have j:=Y.symm.trans hl;simp only [N1,NU] at j;obtain ⟨rfl,rfl⟩:=j;obtain ⟨y,f,j⟩:=dy (w:=w) (b:=W) (o:=off) hi l (fK off M) fun k z s=>gO Z (by simpa using s);exact aS.of h (by simp [Instr.loadAt,Instr.sureAddr,f]) j
      · cases l
    · cases l
  | _=>simp [iT] at q
theorem Hr: ∀{v:AV} {x:Value},one v=true->R g v x->x.oneCell'=true:=by
  intro v x h a;cases v <;> simp only [R] at a <;> first
    | (simp [one] at h;done)
    | (rcases a with ⟨_,rfl | ⟨_,_,rfl⟩⟩ | ⟨_,_,rfl⟩ <;> rfl)
    | (obtain ⟨_,_,_,_,_,rfl,_⟩:=a;rfl)
    | (obtain ⟨_,_,_,_,_,rfl⟩:=a;rfl)
    | (subst a;rfl)
    | (obtain ⟨_,_,_,rfl,_⟩:=a;rfl)
    | (obtain ⟨_,_,rfl⟩:=a;rfl)
    | (obtain ⟨_,_,_,_,rfl,_⟩:=a;rfl)
    | (obtain ⟨_,_,_,rfl,_⟩:=a;rfl)
    | (obtain ⟨_,_,rfl,_⟩:=a;rfl)
    | (obtain ⟨_,rfl,_⟩:=a;rfl)
    | (obtain ⟨_,_,_,_,rfl,_⟩:=a;rfl)
theorem mw: ∀{vs:List AV} {xs:List Value},eI vs=true->RL g vs xs-> ∀x∈xs,x.oneCell'=true
  | [],_,_,h=>by simp only [RL] at h;subst h;simp
  | v::vs,_,k,h=>by
    simp only [RL] at h;obtain ⟨x,xs,rfl,h1,a⟩:=h;simp only [eI,N0] at k;intro y hy;rcases Oc.1 hy with rfl | hy
    · exact Hr k.1 h1
    · exact mw k.2 a y hy
theorem ri {v:AV} {x:Value} (h:R g v x) (h1:eI v.cells=true):RL g v.cells x.cells.toList:=by
  cases v with
  | agg cs=>
    simp only [R] at h;obtain ⟨ys,rfl,a⟩:=h;exact a
  | _=>
    have:=Hr (by simpa [AV.cells,eI] using h1) h;have b:x.cells= #[x]:=by cases x <;> first | rfl | simp [Value.oneCell'] at this
    rw [b];exact bJ h dF
theorem setRow_size (w:World) (b:Nat) (cs:Array Value):(w.setRow b cs).heap.size=w.heap.size:=by simp [World.setRow]
theorem dW (w:World) (b:Nat) (cs:Array Value) {b':Nat} (h:b'≠b):(w.setRow b cs).heap[b']? =w.heap[b']? :=by
  simp only [World.setRow,Array.getElem?_modify];rw [if_neg (fun e=>h e.symm)]
theorem uq {cs new:List AV} {xs ys:List Value} (off:Nat) (h:RL g cs xs) (k:RL g new ys):
    RL g (cJ cs off new) (xs.take off++ys++xs.drop (off+ys.length)):=by
  unfold cJ;rw [cD k];exact df (df (jw off h) k) (fK _ h)
theorem Inv.rewrite (h:Inv T A g st w) {id b:Nat} {cs cs':List AV} {vs rest:Array Value} {vs':List Value} {ty a:TypeId} (h1:st.get id= .ok (.cells ty cs)) (d:g.E id=some (.blk b))
    (l:w.heap[b]? =some (.cells (vs++rest) a (0,0))) (m: ∀o,g.F b o=none) (p:ty < 1000000->rest= #[]/\a=ty) (f:st.ro<=id) (q:RL g cs' vs') (ho: ∀v∈vs',v.oneCell'=true):
    Inv T A g (st.put id (.cells ty cs')) (w.setRow b (vs'.toArray++rest))/\Kp A g w g (w.setRow b (vs'.toArray++rest)):=by
  refine ⟨h.write h1 (o:= .cells ty cs) (b:=b) d (.cells ty cs') (setRow_size _ _ _) (fun _ i=>dW _ _ _ i) ?_ ?_ ?_ ?_,Kp.write (h.own id _ b h1 d f) (setRow_size _ _ _) (fun _ i=>dW _ _ _ i)⟩
  · intro k u n;rw [m k] at n;cases n
  · cases r:g.M b with
    | none=>rfl
    | some e=>
      have:=h.M b e.1 e.2 r;rw [l] at this;cases this
  · intro j c
    have:g.E id=some (.blk j):=c;have:=d.symm.trans this;simpa using this.symm
  · exact ⟨b,vs'.toArray,rest,a,d,setRow_heap _ _ _ _ _ _ l,by simpa using q,by simpa using ho,m,p⟩
theorem zb {C:cp} {t:TypeId} {i:TI} (hi:gf P t i) {a v r:AV} {x y:Value} {p:cV} {G:Fx}
    (k:pk i a v= .ok p) (c:az C st p= .ok (r,G)) (H:R g a x) (hy:R g v y) (h:Inv T A g st w):
    r=undef/\vN P T A g w (G.did.app st) (Instr.storeAt t x y):=by
  cases a with
  | mp id off=>
    simp only [pk] at k;split at k
    · rename_i B
      simp only [N0] at B;have O:=NZ B.1;simp only [NT] at k;subst k;simp only [az,ad,aj] at c;obtain ⟨o,h1,⟨v',o'⟩,⟨⟨ty,cs⟩,I,l⟩,d,m,J⟩:=c;rw [AF] at I;subst I;dsimp only at l;split at l
      · rename_i n
        have n:=N4 n;simp only [aj,NU] at l;obtain ⟨rfl,rfl⟩:=l;simp only [dv] at m;split at m
        · cases m
        · rename_i q
          rw [cB] at q;simp only [NT] at m;subst m;simp only [NU] at J;obtain ⟨rfl,rfl⟩:=J;refine ⟨rfl, ?_⟩;simp only [R] at H;obtain ⟨b,Q,rfl⟩:=H;obtain ⟨b',vs,rest,D,K,L,M,N,S,U⟩:=h.cells h1;have V:b'=b:=by have:=K.symm.trans Q;simpa using this
          subst V;have f:=ri hy B.2;have E:=cD f;have F:=cD M;simp only [OK] at E F;have s:=mw B.2 f;have j:=run_storeCells_at P b' off D y.cells.toList 0 (vs++rest) w L (by simp;omega) s;simp only [Ow,OK] at j;have z:((vs++rest).toList.take off++y.cells.toList++(vs++rest).toList.drop (off+y.cells.size)).toArray=(vs.toList.take off++y.cells.toList++vs.toList.drop (off+y.cells.size)).toArray++rest:=by
            apply Array.ext';have W:(vs.toList++rest.toList).take off=vs.toList.take off:=List.take_append_of_le_length (by simp;omega);have X:(vs.toList++rest.toList).drop (off+y.cells.size)=vs.toList.drop (off+y.cells.size)++rest.toList:=List.drop_append_of_le_length (by simp;omega);simp [W,X]
          rw [z] at j;obtain ⟨w1,Y⟩:=h.rewrite h1 K L S U q (cs':=cJ cs off v.cells) (vs':=vs.toList.take off++y.cells.toList++vs.toList.drop (off+y.cells.size))
            (by simpa using uq off M f) (fun u e=>by
              simp only [N9] at e;rcases e with (e | e) | e
              · exact N u (List.mem_of_mem_take e)
              · exact s u e
              · exact N u (List.mem_of_mem_drop e))
          refine ⟨g,_, ?_,w1,Y⟩;simp only [Instr.storeAt,Instr.sureAddr,Sem.run_bind,Sem.run_pure,Result.andThen_ok,storeVar,hi.cr,Sem.run_ite];rw [if_neg (by omega)];exact j
      · cases l
    · cases k
  | _=>simp [pk] at k
theorem Inv.fy (h:Inv T A g st w) {b:Nat} (c:w.heap.size<=b) (o:Nat):g.F b o=none:=by
  cases hf:g.F b o with
  | none=>rfl
  | some v=>
    obtain ⟨vs,ty,fz,a,_⟩:=cQ (h.F b o v hf);have:=lt_of_heap a;omega
theorem Inv.Ky (h:Inv T A g st w) {b:Nat} (a:w.heap.size<=b):g.M b=none:=by
  cases hf:g.M b with
  | none=>rfl
  | some v=>
    have:=lt_of_heap (h.M b v.1 v.2 hf);omega
theorem Inv.eQ (h:Inv T A g st w) {b:Nat} (c:w.heap.size<=b) (id:Nat) (o:Obj) (ho:st.get id= .ok o):¬ At g id o b:=fun a=>by
  have:=th (h.H id o ho) a;omega
theorem Inv.newObj (h:Inv T A g st w) (o:Obj) (m:Go.Obj) (b: ∀b',At (g.cg st.h (.blk w.heap.size)) st.h o b'->b'=w.heap.size)
    (ho:Holds T (g.cg st.h (.blk w.heap.size)) (w.alloc m) st.h o) (i: ∀vs ty fz,m= .cells vs ty fz->fz=(0,0):=by intro _ _ _ e;first | (cases e;done) | (cases e;rfl)):
    Inv T A (g.cg st.h (.blk w.heap.size)) (st.new o).2 (w.alloc m)/\Kp A g w (g.cg st.h (.blk w.heap.size)) (w.alloc m):=
  ⟨(h.alloc m).name o _ w.heap.size (fun id o' f=>h.eQ (NX _) id o' f) (h.up _ (NX _)) b ho (fun _ a c d j=>i a c d (OS (World.heap_alloc_new.symm.trans j))),
   (Kp.alloc m h).trans (Kp.cg (h.E _ (NX _)))⟩
theorem Inv.sd (h:Inv T A g st w) {cs:List AV} {xs:List Value} (ty:TypeId) (c:RL g cs xs) (h1: ∀x∈xs,x.oneCell'=true):
    Inv T A (g.cg st.h (.blk w.heap.size)) (st.new (.cells ty cs)).2 (w.alloc (.cells xs.toArray ty))/\Kp A g w (g.cg st.h (.blk w.heap.size)) (w.alloc (.cells xs.toArray ty))/\
    R (g.cg st.h (.blk w.heap.size)) (.mp st.h 0) (.pointer (some ⟨w.heap.size,0,none⟩)):=by
  have a:Le g (g.cg st.h (.blk w.heap.size)):=Le.cg (h.E _ (NX _));obtain ⟨d,e⟩:=h.newObj (.cells ty cs) (.cells xs.toArray ty) (fun b' b=>by
    have:(g.cg st.h (.blk w.heap.size)).E st.h=some (.blk b'):=b;rw [Gh.aF] at this;simpa using this.symm) ⟨w.heap.size,xs.toArray, #[],ty,Gh.aF _ _ _,by simpa using World.heap_alloc_new,by simpa using cT a _ _ c,by simpa using h1,fun o=>h.fy (NX _) o,fun _=>⟨rfl,rfl⟩⟩
  exact ⟨d,e,by simp only [R];exact ⟨_,Gh.aF _ _ _,rfl⟩⟩
theorem Inv.yZ (h:Inv T A g st w) {cs:List AV} {xs:List Value} (ty:TypeId) (d:RL g cs xs) (h1: ∀x∈xs,x.oneCell'=true):
    Inv T A (g.bN w.heap.size 0 xs) st (w.alloc (.cells xs.toArray ty))/\Kp A g w (g.bN w.heap.size 0 xs) (w.alloc (.cells xs.toArray ty))/\
    ig (g.bN w.heap.size 0 xs) cs w.heap.size 0:=by
  have a: ∀o,0<=o->o < 0+xs.length->g.F w.heap.size o=none:=fun o _ _=>h.fy (NX _) o;have b:Le g (g.bN w.heap.size 0 xs):=Le.bN a;refine ⟨(h.alloc _).bN _ 0 xs a ?_ fun id o ho=>h.eQ (NX _) id o ho,(Kp.alloc _ h).trans (Kp.bN (h.up _ (NX _)) a), ?_⟩
  · intro i v e
    rw [cell_of (World.heap_alloc_new)];simpa using e
  · refine cF (cT b _ _ d) fun i x c=>⟨?_,h1 x (Ob c)⟩
    exact Gh.gF g _ 0 xs i x c
theorem gq (ty:TypeId) (xs:Array Value):(newRow ty xs).run P w= .ok ⟨w.heap.size,0,none⟩ (w.alloc (.cells xs ty)):=by
  simp [newRow]
theorem yS {t:TypeId} {i:TI} (hi:gf P t i) (h:Inv T A g st w) (old:Value):
    aS P T A g w (.mp st.h 0) (st.new (.cells t i.zero)).2 (Instr.alloc t true old):=by
  obtain ⟨z,h1,e,f,h4,j,a⟩:=hi.lR;obtain ⟨b,c,d⟩:=h.sd t (a g) (by simpa using h4);refine ⟨_,_,_, ?_,d,b,c⟩;simp [Instr.alloc,h1,newVar,gq]
theorem BK {C:cp} {imm:Bool} {t:TypeId} {i:TI} {v r:AV} {y:Value} {p:cV} {l:Fx}
    (b:EU imm t i v= .ok p) (a:az C st p= .ok (r,l)) (hy:R g v y) (h:Inv T A g st w):
    aS P T A g w r (l.did.app st) (Instr.box t y):=by
  simp only [EU] at b;split at b
  · cases b
  · rename_i e
    simp only [N0] at e;have c:=ri hy e.2;have d:=mw e.2 c;split at b
    · simp only [ad,aj] at b
      obtain ⟨cs,h1,rfl⟩:=b;simp only [az,NT,NU] at a;obtain ⟨rfl,rfl⟩:=a;obtain ⟨m,n⟩:=xa c h1;obtain ⟨f,j,k⟩:=h.yZ t m d;refine ⟨.pointer (some ⟨w.heap.size,0,none⟩),_,_, ?_, ?_,f,j⟩
      · simp [Instr.box,newVar,gq]
      · simp only [R]
        exact ⟨n,_,_,rfl,k⟩
    · simp only [NT] at b
      subst b;simp only [az,NT,NU] at a;obtain ⟨rfl,rfl⟩:=a;obtain ⟨f,j,k⟩:=h.sd t c d;refine ⟨.pointer (some ⟨w.heap.size,0,none⟩),_,_, ?_,k,f,j⟩;simp [Instr.box,newVar,gq]
theorem nM {t:TypeId} {i:TI} {fs:List (Nat×TypeId)} (hi:gf P t i) (b:i.und= .struct fs):
    ∃fields:Array Field,(∀w,(underlying t).run P w= .ok (.struct fields) w)/\fields.toList.map (fun f=>(f.offset,f.type))=fs:=by
  obtain ⟨d,h1,a,_⟩:=hi.jr;rw [b] at a;obtain ⟨fields,rfl,c⟩:=a;exact ⟨fields,h1,c⟩
theorem dz {t e:TypeId} {i:TI} (hi:gf P t i) (b:i.und= .slice e): ∀w,(underlying t).run P w= .ok (.slice e) w:=by
  obtain ⟨d,h1,a,_⟩:=hi.jr;rw [b] at a;cases a;exact h1
theorem mh {t e:TypeId} {n:Nat} {i:TI} (hi:gf P t i) (b:i.und= .arr n e): ∀w,(underlying t).run P w= .ok (.array n e) w:=by
  obtain ⟨d,h1,a,_⟩:=hi.jr;rw [b] at a;cases a;exact h1
theorem oB {t:TypeId} {i:TI} (hi:gf P t i) (b:i.und= .str): ∀w,(underlying t).run P w= .ok .string w:=by
  obtain ⟨d,h1,a,_⟩:=hi.jr;rw [b] at a;cases a;exact h1
theorem GP {t:TypeId} {k:IntKind} {i:TI} (hi:gf P t i) (b:i.und= .int k): ∀w,(underlying t).run P w= .ok (.int k) w:=by
  obtain ⟨d,h1,a,_⟩:=hi.jr;rw [b] at a;cases a;exact h1
theorem oA {t k e:TypeId} {i:TI} (hi:gf P t i) (b:i.und= .map k e): ∀w,(underlying t).run P w= .ok (.map k e) w:=by
  obtain ⟨d,h1,a,_⟩:=hi.jr;rw [b] at a;cases a;exact h1
theorem uz {fields:Array Field} {fs:List (Nat×TypeId)} (h:fields.toList.map (fun f=>(f.offset,f.type))=fs) {n off:Nat} {b:TypeId}
    (a:fs[n]? =some (off,b)): ∃f,fields[n]? =some f/\f.offset=off/\f.type=b:=by
  subst h;simp only [OM,OE] at a;cases hf:fields[n]? with
  | none=>simp [hf] at a
  | some f=>simp [hf] at a;exact ⟨f,rfl,a.1,a.2⟩
theorem qD (hT:qW P T) {t:TypeId} {n:Nat} {a v:AV} {x:Value} (l:fieldAddr T t a n= .ok v) (c:R g a x) (h:Inv T A g st w):
    aS P T A g w v st (Instr.fieldAt t x n):=by
  simp only [fieldAddr,ad] at l;obtain ⟨i,h1,e⟩:=l;have hi:=hT t i (bO.1 h1);split at e
  · rename_i fs p
    obtain ⟨fields,q,r⟩:=nM hi p;split at e
    · rename_i off E s
      obtain ⟨f,u,rfl,rfl⟩:=uz r s;simp only [ad] at e;obtain ⟨j,y,h4⟩:=e;have z:=hT _ j (bO.1 y);have d: ∀b o,x= .pointer (some ⟨b,o,none⟩)->j.size≠0->(Instr.fieldAt t x n).run P w= .ok (.pointer (some ⟨b,o+f.offset,none⟩)) w:=by
        rintro b o rfl B;simp [Instr.fieldAt,q,u,Instr.sureAddr,fieldPlace,z.cr,B,Addr.dt]
      split at h4
      · cases h4
      · rename_i m F
        split at h4
        · simp only [aj] at h4
          subst h4;simp only [R] at c;obtain ⟨C,b,o,c,D⟩:=c;refine aS.of h (d b o c (by omega)) ?_;simp only [R];exact ⟨nG _ C,b,o+f.offset,rfl,uQ _ D⟩
        · simp only [aj] at h4
          subst h4;simp only [R] at c;obtain ⟨b,k,c⟩:=c;refine aS.of h (d b _ c (by omega)) ?_;simp only [R];exact ⟨b,k,rfl⟩
        · simp only [aj] at h4
          subst h4;simp only [R] at c;obtain ⟨loc,b,cap,k,hl,c⟩:=c;refine aS.of h (d b _ c (by omega)) ?_;simp only [R];exact ⟨loc,b,cap,k,hl,rfl⟩
        · cases h4
    · cases e
  · cases e
theorem kF {t:TypeId} {i:TI} (hi:gf P t i) {cs:List AV} {ys:Array Value} {off:Nat} {v:AV}
    (c:bX i.size i.agg (cs.drop off)= .ok v) (d:RL g cs ys.toList): ∃y,(part t ys off).run P w= .ok y w/\R g v y:=by
  obtain ⟨h1,e⟩:=rA c (fK off d);cases a:i.agg with
  | true=>
    obtain ⟨_,b⟩:=h1 a;refine ⟨_, ?_,b⟩;simp only [part,Sem.run_bind,hi.qT,Result.andThen_ok,a,if_true,hi.cr,Sem.run_pure];congr 2;apply Array.ext';simp [List.take_drop,Array.toList_extract]
  | false=>
    obtain ⟨y,l,f,b⟩:=e a;refine ⟨y, ?_,b⟩;have:ys[off]? =some y:=by
      rw [<- OE];have:=OC (·[0]?) f;simpa using this
    simp [part,hi.qT,a,this]
theorem yJ (hT:qW P T) {t:TypeId} {n:Nat} {a v:AV} {x:Value} (c:field T t a n= .ok v) (d:R g a x) (h:Inv T A g st w):
    aS P T A g w v st (Instr.field t x n):=by
  simp only [field,ad] at c;obtain ⟨i,h1,b⟩:=c;have hi:=hT t i (bO.1 h1);split at b
  · rename_i fs cs e
    obtain ⟨fields,k,l⟩:=nM hi e;split at b
    · rename_i off z m
      obtain ⟨f,o,rfl,rfl⟩:=uz l m;simp only [ad] at b;obtain ⟨j,p,h4⟩:=b;have q:=hT _ j (bO.1 p);simp only [R] at d;obtain ⟨ys,rfl,r⟩:=d;obtain ⟨y,s,u⟩:=kF (w:=w) q h4 r;exact aS.of h (by simp [Instr.field,k,o,asAgg,s]) u
    · cases b
  · cases b
theorem qY {a:AV} {n:Int} {x:Value} (h:asInt a= .ok n) (b:R g a x): ∃k,x= .int k n:=by
  cases a <;> simp [asInt] at h
  subst h;simp only [R] at b;exact ⟨_,b⟩
theorem fT {i:Int} {n k:Nat} (h:inside i n= .ok k):i=k/\k < n:=by
  unfold inside at h;split at h
  · split at h
    · rename_i a
      rw [dM] at a;simp only [NT] at h;subst h;exact ⟨rfl,a⟩
    · cases h
  · cases h
theorem fL {i:Int} {n k:Nat} (h:upto i n= .ok k):i=k/\k<=n:=by
  unfold upto at h;split at h
  · split at h
    · rename_i a
      simp only [NT] at h;subst h;exact ⟨rfl,N4 a⟩
    · cases h
  · cases h
theorem qG (hT:qW P T) {t:TypeId} {a I v:AV} {x y:Value} (J:indexAddr T t a I= .ok v) (l:R g a x) (hy:R g I y) (h:Inv T A g st w):
    aS P T A g w v st (Instr.indexAt t x y):=by
  simp only [indexAddr,ad] at J;obtain ⟨n,h0,i,h1,f⟩:=J;obtain ⟨N,rfl⟩:=qY h0 hy;have hi:=hT t i (bO.1 h1);split at f
  · rename_i e sz es p q
    have r:=dz hi q;simp only [ad] at f;obtain ⟨k,s,j,h4,z⟩:=f;obtain ⟨rfl,D⟩:=fT s;have B:=hT _ j (bO.1 h4);split at z
    · rename_i d
      have d:=NZ d;simp only [ad,aj] at z;obtain ⟨u,K,rfl⟩:=z;simp only [R] at l;obtain ⟨F,b,o,cap,rfl,L,G,H,_⟩:=l;obtain ⟨O,M⟩:=sC H K;refine aS.of h (x:= .pointer (some ⟨b,o+k * sz,none⟩)) ?_ ?_
      · simp [Instr.indexAt,asIntOf,r,B.cr,Addr.dt,d]
        intro E;omega
      · simp only [R]
        exact ⟨qg (pG F K),b,_,rfl,M⟩
    · cases z
  · rename_i e id off sz len cap q
    have r:=dz hi q;simp only [ad] at f;obtain ⟨k,s,j,h4,z⟩:=f;obtain ⟨rfl,D⟩:=fT s;have B:=hT _ j (bO.1 h4);split at z
    · rename_i d
      have d:=NZ d;simp only [aj] at z;subst z;simp only [R] at l;obtain ⟨b,o,C,c,rfl,L,G,ho,_⟩:=l;have ho:=ho (by omega);subst ho;refine aS.of h (x:= .pointer (some ⟨b,o+k * sz,none⟩)) ?_ ?_
      · simp [Instr.indexAt,asIntOf,r,B.cr,Addr.dt,d]
        intro E;omega
      · simp only [R]
        exact ⟨b,C,rfl⟩
    · cases z
  · rename_i len e id off q
    have r:=mh hi q;simp only [ad,aj] at f;obtain ⟨k,s,j,h4,rfl⟩:=f;obtain ⟨rfl,D⟩:=fT s;have B:=hT _ j (bO.1 h4);simp only [R] at l;obtain ⟨b,C,rfl⟩:=l;refine aS.of h (x:= .pointer (some ⟨b,off+k * j.size,none⟩)) ?_ ?_
    · simp [Instr.indexAt,Instr.sureAddr,asIntOf,r,B.cr,Addr.dt]
      intro E;omega
    · simp only [R]
      exact ⟨b,C,rfl⟩
  · rename_i len e cells q
    have r:=mh hi q;simp only [ad,aj] at f;obtain ⟨k,s,j,h4,rfl⟩:=f;obtain ⟨rfl,D⟩:=fT s;have B:=hT _ j (bO.1 h4);simp only [R] at l;obtain ⟨F,b,o,rfl,H⟩:=l;refine aS.of h (x:= .pointer (some ⟨b,o+k * j.size,none⟩)) ?_ ?_
    · simp [Instr.indexAt,Instr.sureAddr,asIntOf,r,B.cr,Addr.dt]
      intro E;omega
    · simp only [R]
      exact ⟨nG _ F,b,_,rfl,uQ _ H⟩
  · rename_i len e id m off q
    have r:=mh hi q;simp only [ad,aj] at f;obtain ⟨k,s,j,h4,rfl⟩:=f;obtain ⟨rfl,D⟩:=fT s;have B:=hT _ j (bO.1 h4);simp only [R] at l;obtain ⟨loc,b,cap,C,hl,rfl⟩:=l;refine aS.of h (x:= .pointer (some ⟨b,off+k * j.size,none⟩)) ?_ ?_
    · simp [Instr.indexAt,Instr.sureAddr,asIntOf,r,B.cr,Addr.dt]
      intro E;omega
    · simp only [R]
      exact ⟨loc,b,cap,C,hl,rfl⟩
  · cases f
end
section
variable {P:Program} {T:TT} {A:Nat->Prop} {g:Gh} {st:St} {w:World}
theorem F3 (s:List UInt8) (k:Nat):(⟨s.toArray⟩:ByteArray)[k]? =s[k]? :=by
 by_cases h:k < s.length
 .rw [Oj h,getElem?_pos (⟨s.toArray⟩:ByteArray) k (by simpa [ByteArray.size] using h)];simp [ByteArray.getElem_eq_getElem_data]
 .rw [Og (Nat.le_of_not_lt h),getElem?_neg (⟨s.toArray⟩:ByteArray) k (by simpa [ByteArray.size] using h)]
theorem jS (s:List UInt8):(⟨s.toArray⟩:ByteArray).size=s.length:=by simp [ByteArray.size]
theorem yC (hT:qW P T) {t:TypeId} {a q v:AV} {x y:Value} (r:rJ T t a q= .ok v) (f:R g a x) (hy:R g q y) (h:Inv T A g st w):
  aS P T A g w v st (Instr.index t x y):=by
 simp only [rJ,ad] at r;obtain ⟨n,h0,i,h1,c⟩:=r;obtain ⟨F,rfl⟩:=qY h0 hy;have hi:=hT t i (bO.1 h1);split at c
 .rename_i s l;have m:=oB hi l;simp only [ad] at c;obtain ⟨k,o,d⟩:=c;obtain ⟨rfl,z⟩:=fT o;split at d
  .rename_i b B;simp only [aj] at d;subst d;simp only [R] at f;subst f;refine aS.of h (x:= .int .u8 b.toNat) ?_ (by simp only [R]);simp [Instr.index,asIntOf,m,F3,B]
  .cases d
 .rename_i len e cs l;have m:=mh hi l;simp only [ad] at c;obtain ⟨k,o,j,h4,d⟩:=c;obtain ⟨rfl,z⟩:=fT o;have u:=hT _ j (bO.1 h4);simp only [R] at f;obtain ⟨ys,rfl,C⟩:=f;obtain ⟨y,D,E⟩:=kF (w:=w) u d C;refine aS.of h (x:=y) ?_ E;have p:¬ (len<=k):=by omega
  simp [Instr.index,asIntOf,m,p,u.cr,D]
 .cases c
def Cu (n:Option Int) (x:Option Value):Prop:=match n,x with | none,none=>True | some n,some y=> ∃k,y= .int k n | _,_=>False
def Ev (g:Gh) (a:Option AV) (x:Option Value):Prop:=match a,x with | none,none=>True | some v,some y=>R g v y | _,_=>False
theorem lX {a:Option AV} {n:Option Int} {x:Option Value} (h:gX a= .ok n) (b:Ev g a x):Cu n x:=by
 cases a with
 | none=>
  cases x with
  | none=>simp only [gX,NT] at h;subst h;trivial
  | some y=>exact b.elim
 | some v=>
  cases x with
  | none=>exact b.elim
  | some y=>
   simp only [gX,ad,aj] at h;obtain ⟨m,h1,rfl⟩:=h;exact qY h1 b
theorem run_sliceBound {k:IntKind} {n m:Nat} {code:BoundsCode} (h:n<=m):(Instr.sliceBound (.int k n) m code).run P w= .ok n w:=by
 simp [Instr.sliceBound,asIntOf,h]
theorem gr {isSlice:Bool} {len cap dflt:Nat} {lo hi mx:Option Int} {f g xm:Option Value} {l j m:Nat} (hl:Cu lo f) (c:Cu hi g) (p:Cu mx xm)
  (h1:gW mx cap cap= .ok m) (i:gW hi m dflt= .ok j) (hd:mx=none->dflt=len) (d:mM lo j= .ok l) (o:mx≠none->hi≠none):
  (Instr.sliceBounds isSlice len cap f g xm).run P w= .ok (l,j,m) w:=by
 have b1: ∀{k:IntKind} {n m:Nat} {code:BoundsCode},n<=m->(Instr.sliceBound (.int k n) m code).run P w= .ok n w:=fun h=>run_sliceBound h;cases xm <;> cases mx <;> first | exact p.elim | skip
 .have hd:=hd rfl;subst hd;simp only [gW,NT] at h1;subst h1;cases g <;> cases hi <;> first | exact c.elim | skip
  .simp only [gW,NT] at i;subst i;cases f <;> cases lo <;> first | exact hl.elim | skip
   .simp only [mM,NT] at d;subst d;simp [Instr.sliceBounds]
   .obtain ⟨k,rfl⟩:=hl;obtain ⟨rfl,b⟩:=fL d;simp [Instr.sliceBounds,b1 b]
  .obtain ⟨k,rfl⟩:=c;obtain ⟨rfl,a⟩:=fL i;cases f <;> cases lo <;> first | exact hl.elim | skip
   .simp only [mM,NT] at d;subst d;simp [Instr.sliceBounds,b1 a]
   .obtain ⟨k,rfl⟩:=hl;obtain ⟨rfl,b⟩:=fL d;simp [Instr.sliceBounds,b1 b,b1 a]
 .obtain ⟨q,rfl⟩:=p;obtain ⟨rfl,e⟩:=fL h1;cases g <;> cases hi <;> first | exact c.elim | skip
  .exact absurd rfl (o (by simp))
  .obtain ⟨k,rfl⟩:=c;obtain ⟨rfl,a⟩:=fL i;cases f <;> cases lo <;> first | exact hl.elim | skip
   .simp only [mM,NT] at d;subst d;simp [Instr.sliceBounds,b1 e,b1 a]
   .obtain ⟨k,rfl⟩:=hl;obtain ⟨rfl,b⟩:=fL d;simp [Instr.sliceBounds,b1 e,b1 b,b1 a]
theorem zm (s:List UInt8) (l h:Nat):(⟨s.toArray⟩:ByteArray).extract l h=⟨((s.take h).drop l).toArray⟩:=by
 apply ByteArray.ext;simp [ByteArray.data_extract,List.drop_take]
theorem qC {t:TypeId} {i:TI} (hi:gf P t i) (e:i.und= .str) {s:List UInt8} {lo b:Option Int} {c d:Option Value} {l m:Nat} (hl:Cu lo c) (a:Cu b d)
  (f:gW b s.length s.length= .ok m) (g:mM lo m= .ok l):
  (Instr.sliceAt t (.string ⟨s.toArray⟩) c d none).run P w= .ok (.string ⟨((s.take m).drop l).toArray⟩) w:=by
 have h:=oB hi e;have j:=gr (P:=P) (w:=w) (isSlice:=false) (len:=s.length) (cap:=s.length) (mx:=none) (xm:=none) hl a trivial (m:=s.length) (dflt:=s.length) rfl f (fun _=>rfl) g (by simp);simp [Instr.sliceAt,Instr.slice,h,jS,j,zm]
theorem jL {t e:TypeId} (f: ∀w,(underlying t).run P w= .ok (.slice e) w) (a:Option Addr) (len cap:Nat) (b c xm:Option Value) {l d m sz:Nat}
  (g:(Instr.sliceBounds true len cap b c xm).run P w= .ok (l,d,m) w) (hs:(sizeOf e).run P w= .ok sz w):
  (Instr.sliceAt t (.slice a len cap) b c xm).run P w= .ok (.slice (if m=l then a else a.map (·.add (l * sz))) (d - l) (m - l)) w:=by
 simp [Instr.sliceAt,Instr.slice,f,g,hs]
theorem qU {k n:Nat} (h:k<=n):upto (k:Int) n= .ok k:=by
 have:k.ble n=true:=Oz h;show (match k.ble n with | true=>Except.ok k | false=>Except.error _)= _;rw [this]
theorem ju {hi:Option Int} {m d h:Nat} (e:gW hi m d= .ok h) (hd:d<=m):h<=m:=by
 cases hi with
 | none=>simp only [gW,NT] at e;omega
 | some n=>exact (fL e).2
theorem oQ {lo:Option Int} {h l:Nat} (e:mM lo h= .ok l):l<=h:=by
 cases lo with
 | none=>simp only [mM,NT] at e;omega
 | some n=>exact (fL e).2
theorem wD {z b o:Nat} {l:List AV} (h:l=[]):eR g z l b o:=by subst h;simp [eR]
theorem si {z:Nat} {es:List AV} {b o l a m:Nat} (f:bx es=true) (d:1<=z) (h:eR g z es b o) (i:l<=a) (j:a<=es.length) (k:a<=m) {p:Perm}
  (e:(m≠l->oH g p (a - l) b (o+l * z) (m - l))/\(m=l->oH g p (a - l) b o (m - l))):
  R g (.sl z ((es.take a).drop l) p) (.slice (if m=l then some ⟨b,o,none⟩ else (some (⟨b,o,none⟩:Addr)).map (·.add (l * z))) (a - l) (m - l)):=by
 have hlen:((es.take a).drop l).length=a - l:=by simp;omega
 simp only [R,hlen];refine ⟨nG _ (AM _ f), ?_⟩;by_cases c:m=l
 .rw [if_pos c];refine ⟨b,o,m - l,rfl,by omega,d,wD ?_,e.2 c⟩;apply Oo;omega
 .rw [if_neg c];refine ⟨b,o+l * z,m - l,by simp [Addr.dt],by omega,d, ?_,e.1 c⟩;exact CH _ (BU _ h) (by simp;omega)
theorem zw (hT:qW P T) {t:TypeId} {a v:AV} {x:Value} {lo hi mx:Option AV} {V W xm:Option Value} (hp:iV T t a lo hi mx= .ok v) (F:R g a x)
  (hl:Ev g lo V) (a8:Ev g hi W) (hm:Ev g mx xm) (h:Inv T A g st w) (bb:mx≠none->hi≠none):aS P T A g w v st (Instr.sliceAt t x V W xm):=by
 simp only [iV,ad] at hp;obtain ⟨nl,e1,Z,e2,nm,e3,i,e4,u⟩:=hp;have I:=hT t i (bO.1 e4);have ol:=lX e1 hl;have X:=lX e2 a8;have Y:=lX e3 hm;have G:nm≠none->Z≠none:=fun hn=>by
  have:mx≠none:=fun e=>by subst e;simp only [gX,NT] at e3;exact hn e3.symm
  have:=bb this;cases hi with
  | none=>exact absurd rfl this
  | some y=>
   simp only [gX,ad,aj] at e2;obtain ⟨_,_,rfl⟩:=e2;simp
 split at u
 .rename_i s J;simp only [ad,aj] at u;obtain ⟨m,z,l,f,rfl⟩:=u;simp only [R] at F;subst F;cases xm with
  | some y=>exact Y.elim
  | none=>exact aS.of h (qC I J ol X z f) (by simp only [R])
 .rename_i nm _ _ _ e J;simp only [ad,aj] at u;obtain ⟨j,O,m,z,B,f,l,H,rfl⟩:=u;have Q:=hT _ j (bO.1 O);simp only [R] at F;subst F;have av:=ju z (NX _);have b4:=ju f (O4 _);have D:=oQ H;have S:=gr (P:=P) (w:=w) (isSlice:=true) (len:=0) (cap:=0) (dflt:=0) ol X Y z f (fun _=>rfl) H G;have:=jL (dz I J) none 0 0 V W xm S (Q.cr w);refine aS.of h (x:= .slice none 0 0) ?_ (by simp only [R]);rw [this];have h0:m - l=0:=by omega
  have h1:B - l=0:=by omega
  simp [h0,h1]
 .rename_i nm _ _ _ e J;simp only [ad,aj] at u;obtain ⟨j,O,m,z,B,f,l,H,rfl⟩:=u;have Q:=hT _ j (bO.1 O);simp only [R] at F;obtain ⟨a,rfl⟩:=F;have av:=ju z (NX _);have b4:=ju f (O4 _);have D:=oQ H;have S:=gr (P:=P) (w:=w) (isSlice:=true) (len:=0) (cap:=0) (dflt:=0) ol X Y z f (fun _=>rfl) H G;have:=jL (dz I J) (some a) 0 0 V W xm S (Q.cr w);refine aS.of h (x:= .slice (some a) 0 0) ?_ (by simp only [R];exact ⟨a,rfl⟩);rw [this];have u:l=0:=by omega
  have C:m=0:=by omega
  have h4:B=0:=by omega
  subst u C h4;rfl
 .rename_i nm _ _ _ e id off sz len cap J;simp only [ad] at u;obtain ⟨j,O,C⟩:=u;split at C
  .cases C
  .rename_i d;have d:=NZ d;have Q:=hT _ j (bO.1 O);simp only [ad] at C;obtain ⟨m,z,B,f,l,H,h4⟩:=C;split at h4
   .rename_i K;have K:=N4 K;simp only [aj] at h4;subst h4;simp only [R] at F;obtain ⟨b,o,hE,c,rfl,hc,q,ho,b5⟩:=F;have b6: ∃N,gW nm c c= .ok N/\gW Z N len= .ok B/\B<=N/\N<=c/\(m - l=N - l\/m - l=0):=by
     rcases b5 with rfl | rfl
     .exact ⟨m,z,f,K,ju z (NX _),.inl rfl⟩
     .have av:m<=0:=ju z (NX _);cases nm with
      | none=>
       refine ⟨c,rfl, ?_,by omega,NX _,.inr (by omega)⟩;cases Z with
       | none=>exact f
       | some n=>
        obtain ⟨rfl,L⟩:=fL f;exact qU (by omega)
      | some y=>
       obtain ⟨q1,q2⟩:=fL (show upto y 0= .ok m from z);subst q1;exact ⟨m,qU (by omega),f,K,by omega,.inl rfl⟩
    obtain ⟨N,z,f,K,cn,a1⟩:=b6;have S:=gr (P:=P) (w:=w) (isSlice:=true) (len:=len) (cap:=c) (dflt:=len) ol X Y z f (fun _=>rfl) H G;have:=jL (dz I J) (some ⟨b,o,none⟩) len c V W xm S (Q.cr w);refine aS.of h this ?_;have D:=oQ H;simp only [R];by_cases a6:N=l
    .rw [if_pos a6];exact ⟨b,o,hE,N - l,rfl,by omega,q,fun b7=>absurd (by omega:N - l=0) b7,a1⟩
    .rw [if_neg a6];have hcap:c≠0:=fun e=>by omega
     refine ⟨b,o+l * j.size,hE,N - l,by simp [Addr.dt],by omega,q,fun _=>by rw [ho hcap,d],a1⟩
   .cases h4
 .rename_i e sz es p J;simp only [ad] at u;obtain ⟨j,O,C⟩:=u;split at C
  .cases C
  .rename_i d;have d:=NZ d;have Q:=hT _ j (bO.1 O);simp only [ad] at C;obtain ⟨B,f,l,H,h4⟩:=C;simp only [R] at F;obtain ⟨M,b,o,cap,rfl,hc,q,hr,E⟩:=F;cases xm with
   | some y=>exact Y.elim
   | none=>
    have b8:gW Z cap es.length= .ok B:=by
     cases Z with
     | none=>exact f
     | some n=>
      obtain ⟨rfl,L⟩:=fL f;exact qU (by omega)
    have S:=gr (P:=P) (w:=w) (isSlice:=true) (len:=es.length) (cap:=cap) (mx:=none) (xm:=none) (dflt:=es.length) (m:=cap) ol X trivial rfl b8 (fun _=>rfl) H (by simp);have r:=jL (dz I J) (some ⟨b,o,none⟩) es.length cap V W none S (Q.cr w);have U:=ju f (NX _);have D:=oQ H;rw [<- d] at r;refine aS.of h r ?_;have wide:R g (.sl sz ((es.take B).drop l) .wide) (.slice (if cap=l then some ⟨b,o,none⟩ else (some (⟨b,o,none⟩:Addr)).map (·.add (l * sz))) (B - l) (cap - l)):=
     si M q hr D U (by omega) ⟨fun _=>trivial,fun _=>trivial⟩
    split at h4
    .rename_i L;have L:=NZ L;simp only [aj] at h4;subst h4;have hcap:cap=es.length:=E;have:=si (m:=cap) (p:= .shut) M q hr D U (by omega) ⟨fun _=>by show cap - l=B - l;omega,fun _=>by show cap - l=B - l;omega⟩
     rwa [List.take_of_length_le (by omega)] at this
    .rename_i k L;have L:=NZ L;split at h4
     .rename_i hl;have hl:=NZ hl;subst hl;simp only [aj] at h4;subst h4;obtain ⟨b9,a7⟩:=E;subst b9;have F:(if cap=0 then some (⟨b,0,none⟩:Addr) else (some (⟨b,0,none⟩:Addr)).map (·.add (0 * sz)))=some ⟨b,0,none⟩:=by
       split <;> simp [Addr.dt]
      simp only [R];refine ⟨M,b,0,cap, ?_,hc,q,hr,rfl,a7⟩;rw [F];simp [L]
     .simp only [aj] at h4;subst h4
      rwa [List.take_of_length_le (by omega)] at wide
    .simp only [aj] at h4;subst h4;exact wide
 .rename_i e sz es p m0 J;simp only [ad] at u;obtain ⟨j,O,C⟩:=u;split at C
  .cases C
  .rename_i d;have d:=NZ d;have Q:=hT _ j (bO.1 O);simp only [ad,aj] at C;obtain ⟨m,z,B,f,l,H,rfl⟩:=C;simp only [R] at F;obtain ⟨M,b,o,cap,rfl,hc,q,hr,E⟩:=F;obtain ⟨rfl,cd⟩:=fL z;have cc:gW (some (m:Int)) cap cap= .ok m:=by
    exact qU (by omega)
   have S:=gr (P:=P) (w:=w) (isSlice:=true) (len:=es.length) (cap:=cap) (mx:=some (m:Int)) (dflt:=m) ol X Y cc f (by simp) H G;have r:=jL (dz I J) (some ⟨b,o,none⟩) es.length cap V W xm S (Q.cr w);have U:=ju f (NX _);have D:=oQ H;rw [<- d] at r;refine aS.of h r ?_;refine si M q hr D (by omega) U ?_;cases L:m.beq B with
   | true=>
    have L:=NZ L;exact ⟨fun _=>by show m - l=B - l;omega,fun _=>by show m - l=B - l;omega⟩
   | false=>exact ⟨fun _=>trivial,fun _=>trivial⟩
 .cases u
end
end Go.VM
