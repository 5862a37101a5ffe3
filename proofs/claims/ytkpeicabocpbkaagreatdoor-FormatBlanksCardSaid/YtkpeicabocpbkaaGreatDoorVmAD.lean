/-
  A part of the proof.
-/
import Derived.Test.YtkpeicabocpbkaaGreatDoorVmAC
import Derived.Laws.Cells
import Derived.Laws.CopyRow
import Derived.Laws.AppendOwn
set_option linter.all false
namespace Go.VM
def bn (P:Program) (T:TT) (A:Nat->Prop) (g:Gh) (w:World) (v:AV) (st':St) (s:Sem Value):Prop:=
  ∃x g' w',s.run P w= .ok x w'/\R g' v x/\Inv T A g' st' w'/\Kp A g w g' w'
def DP (P:Program) (T:TT) (A:Nat->Prop) (g:Gh) (w:World) (st':St) (s:Sem Unit):Prop:=
  ∃g' w',s.run P w= .ok () w'/\Inv T A g' st' w'/\Kp A g w g' w'
section
variable {P:Program} {T:TT} {A:Nat->Prop} {g:Gh} {st:St} {w:World}
theorem bn.of {v:AV} {s:Sem Value} {x:Value} (h:Inv T A g st w) (hs:s.run P w= .ok x w) (a:R g v x):bn P T A g w v st s:=
  ⟨x,g,w,hs,a,h,Kp.refl _ _ _⟩
theorem jX.nH {t:Td} {i:TI} (h:jX P t i): ∃d,(∀w,(underlying t).run P w= .ok d w)/\Ae d i.und/\(i.agg=match d with | .struct _ | .array .. =>true | _=>false):=by
  obtain ⟨d,h1,a,b⟩:=h.und;exact ⟨d,fun w=>by simp [underlying,h1],a,b⟩
theorem jX.dt {t:Td} {i:TI} (h:jX P t i) (w:World):(sizeOf t).run P w= .ok i.size w:=by
  obtain ⟨f,h1,a,_⟩:=h.info;simp [sizeOf,typeInfo,h1,a]
theorem jX.yD {t:Td} {i:TI} (h:jX P t i) (w:World):(isAgg t).run P w= .ok i.agg w:=by
  obtain ⟨d,h1,_,a⟩:=h.nH;rw [a];simp only [isAgg,Sem.run_bind,h1,Result.andThen_ok];cases d <;> rfl
theorem jX.qB {t:Td} {i:TI} (h:jX P t i): ∃z,(∀w,(zeroValue t).run P w= .ok z w)/\z.cells.size=i.size/\(i.agg=false->z.oneCell'=true)/\(∀v∈z.cells,v.oneCell'=true)/\(i.agg=true-> ∃cs,z= .agg cs)/\ ∀g,RL g i.zero z.cells.toList:=by
  obtain ⟨f,h1,b,c,z,h4,a⟩:=h.info;exact ⟨z,fun w=>by simp [zeroValue,typeInfo,h1,h4],a⟩
theorem Addr.gx (b o n:Nat):(⟨b,o,none⟩:Addr).add n=⟨b,o+n,none⟩:=by
  unfold Addr.add;split
  · rename_i h;subst h;rfl
  · rfl
theorem yW {size:Nat} {agg:Bool} {cells:LA} {v:AV} {xs:List Value} (h:cM size agg cells= .ok v) (a:RL g cells xs):
    (agg=true->size<=xs.length/\R g v (.agg (xs.take size).toArray))/\(agg=false-> ∃x l,xs=x::l/\R g v x):=by
  cases agg with
  | true=>
    refine ⟨fun _=> ?_,(fun k=>by cases k)⟩;simp only [cM] at h;split at h
    · rename_i b
      simp only [aac] at h;subst h;have:=aaq b;rw [<- fp a] at this;refine ⟨this, ?_⟩;simp only [R];exact ⟨_,rfl,by simpa using px size a⟩
    · cases h
  | false=>
    refine ⟨(fun k=>by cases k),fun _=> ?_⟩;simp only [cM] at h;cases cells with
    | nil=>simp at h
    | cons u us=>
      simp only [aac] at h;subst h;simp only [RL] at a;obtain ⟨x,l,h1,c,_⟩:=a;exact ⟨x,l,h1,c⟩
theorem eS {t:Td} {i:TI} (hi:jX P t i) {b o:Nat} {cells:LA} {v:AV} {xs:List Value}
    (h:cM i.size i.agg cells= .ok v) (d:RL g cells xs) (hm: ∀k x,xs[k]? =some x->w.cell? ⟨b,o+k,none⟩=some x):
    ∃x,(loadVar t ⟨b,o,none⟩).run P w= .ok x w/\R g v x:=by
  obtain ⟨h1,e⟩:=yW h d;cases a:i.agg with
  | true=>
    obtain ⟨k1,c⟩:=h1 a;refine ⟨_, ?_,c⟩;have hl:=run_loadCells_list (P:=P) w ⟨b,o,none⟩ (xs.take i.size) (fun j x hx=>by
      rw [Addr.gx];refine hm j x ?_;rw [List.getElem?_take] at hx;split at hx
      · exact hx
      · cases hx)
    rw [aat,abR k1] at hl;simp only [loadVar,Sem.run_bind,hi.yD,Result.andThen_ok,a,if_true,hi.dt,hl,Sem.run_pure]
  | false=>
    obtain ⟨x,l,rfl,c⟩:=e a;refine ⟨x, ?_,c⟩;have:=hm 0 x rfl;simp only [abq] at this;simp only [loadVar,Sem.run_bind,hi.yD,Result.andThen_ok,a,aaB,if_false,run_load,this]
theorem pM {o:Obj} {cs:LA}:cellsOf o= .ok cs↔ ∃ty,o= .cells ty cs:=by
  cases o <;> simp [cellsOf]
theorem zo {o:Obj} {ty:Td} {cs:LA}:nc o= .ok (ty,cs)↔o= .cells ty cs:=by
  cases o <;> simp [nc]
theorem Inv.cells (h:Inv T A g st w) {id:Nat} {ty:Td} {cs:LA} (c:st.get id= .ok (.cells ty cs)):
    ∃b vs rest a,g.E id=some (.cw b)/\w.heap[b]? =some (.cells (vs++rest) a (0,0))/\RL g cs vs.toList/\(∀v∈vs.toList,v.oneCell'=true)/\(∀o,g.F b o=none)/\(ty < 1000000->rest= #[]/\a=ty):=
  h.H id _ c
theorem Hj {C:dh} {t:Td} {i:TI} (hi:jX P t i) {a v:AV} {x:Value} {p:dI} {I:Fx}
    (l:mA i a= .ok p) (hrun:aE C st p= .ok (v,I)) (hx:R g a x) (h:Inv T A g st w):
    bn P T A g w v (I.did.app st) (Instr.loadAt t x):=by
  cases a with
  | ip cells=>
    simp only [mA,ah,au] at l;obtain ⟨u,h1,rfl⟩:=l;simp only [aE,aac,aag] at hrun;obtain ⟨rfl,rfl⟩:=hrun;simp only [R] at hx;obtain ⟨_,b,o,rfl,B⟩:=hx;obtain ⟨xs,k1,D⟩:=lq B;obtain ⟨y,c,f⟩:=eS hi h1 k1 fun k z q=>h.F _ _ _ (D k z q).1;exact bn.of h (by simp [Instr.loadAt,Instr.sureAddr,c]) f
  | mp id off=>
    simp only [mA,aac] at l;subst l;simp only [iV,aE,ah,au] at hrun;obtain ⟨o,h1,⟨v',o'⟩,⟨E,⟨cs,j,B⟩,h4⟩,d,r,s⟩:=hrun;rw [pM] at j;obtain ⟨ty,rfl⟩:=j;simp only [aag] at h4 s;obtain ⟨rfl,rfl⟩:=h4;simp only [fK,aac] at r;subst r;obtain ⟨rfl,rfl⟩:=s;simp only [R] at hx;obtain ⟨b,hE,rfl⟩:=hx;obtain ⟨b',vs,rest,L,k1,D,M,Y,Z,k6⟩:=h.cells h1;have N:b'=b:=by have:=k1.symm.trans hE;simpa using this
    subst N;obtain ⟨y,c,f⟩:=eS (w:=w) (b:=b') (o:=off) hi B (jJ off M) fun k z q=>lb D (by simpa using q);exact bn.of h (by simp [Instr.loadAt,Instr.sureAddr,c]) f
  | gp k n off=>
    simp only [mA,aac] at l;subst l;simp only [iV,aE,ah,au] at hrun;obtain ⟨o,h1,⟨v',o'⟩,⟨E,j,h4⟩,d,r,s⟩:=hrun;simp only [aag] at h4 s;obtain ⟨rfl,rfl⟩:=h4;simp only [fK,aac] at r;subst r;obtain ⟨rfl,rfl⟩:=s;simp only [R] at hx;obtain ⟨loc,b,cap,hE,hl,rfl⟩:=hx;split at j
    · rename_i m e z cs
      split at j
      · rename_i hm
        have hm:=aan hm;subst hm;obtain ⟨J,O,K,i2,pre,rest,Q,S,q3,q4,q5,q6,U,q8,q9,V,G,W,X⟩:=h.H k _ h1;have c:=Q.symm.trans hE;simp only [aav,tz.tok.injEq] at c;subst c;have f:=S.symm.trans hl;simp only [aav,aag] at f;obtain ⟨rfl,rfl⟩:=f;obtain ⟨y,c,f⟩:=eS (w:=w) (b:=O) (o:=off) hi j (jJ off G) fun k z q=>lb U (by simpa using q);exact bn.of h (by simp [Instr.loadAt,Instr.sureAddr,c]) f
      · cases j
    · cases j
  | _=>simp [mA] at l
theorem So: ∀{v:AV} {x:Value},one v=true->R g v x->x.oneCell'=true:=by
  intro v x h a;cases v <;> simp only [R] at a <;> first
    | (simp [one] at h;done)
    | (rcases a with ⟨_,rfl | ⟨_,_,rfl⟩⟩ | ⟨_,_,rfl⟩ <;> rfl)
    | (obtain ⟨_,_,_,_,_,rfl,_⟩:=a;rfl)
    | (obtain ⟨_,_,_,_,_,rfl⟩:=a;rfl)
    | (subst a;rfl)
    | (obtain ⟨_,_,_,rfl,_⟩:=a;rfl)
    | (obtain ⟨_,_,rfl⟩:=a;rfl)
    | (obtain ⟨_,_,_,_,rfl,_⟩:=a;rfl)
    | (obtain ⟨_,_,_,rfl,_⟩:=a;rfl)
    | (obtain ⟨_,_,rfl,_⟩:=a;rfl)
    | (obtain ⟨_,rfl,_⟩:=a;rfl)
    | (obtain ⟨_,_,_,_,rfl,_⟩:=a;rfl)
theorem yh: ∀{vs:LA} {xs:List Value},iw vs=true->RL g vs xs-> ∀x∈xs,x.oneCell'=true
  | [],_,_,h=>by simp only [RL] at h;subst h;simp
  | v::vs,_,k,h=>by
    simp only [RL] at h;obtain ⟨x,xs,rfl,h1,a⟩:=h;simp only [iw,aaf] at k;intro y hy;rcases aam.1 hy with rfl | hy
    · exact So k.1 h1
    · exact yh k.2 a y hy
theorem Kk {v:AV} {x:Value} (h:R g v x) (h1:iw v.cells=true):RL g v.cells x.cells.toList:=by
  cases v with
  | agg cs=>
    simp only [R] at h;obtain ⟨ys,rfl,a⟩:=h;exact a
  | _=>
    have:=So (by simpa [AV.cells,iw] using h1) h;have hx:x.cells= #[x]:=by cases x <;> first | rfl | simp [Value.oneCell'] at this
    rw [hx];exact cA h gF
theorem setRow_size (w:World) (b:Nat) (cs:Array Value):(w.setRow b cs).heap.size=w.heap.size:=by simp [World.setRow]
theorem rC (w:World) (b:Nat) (cs:Array Value) {b':Nat} (h:b'≠b):(w.setRow b cs).heap[b']? =w.heap[b']? :=by
  simp only [World.setRow,Array.getElem?_modify];rw [if_neg (fun e=>h e.symm)]
theorem vJ {cs new:LA} {xs ys:List Value} (off:Nat) (h:RL g cs xs) (k:RL g new ys):
    RL g (dj cs off new) (xs.take off++ys++xs.drop (off+ys.length)):=by
  unfold dj;rw [fp k];exact gY (gY (px off h) k) (jJ _ h)
theorem Inv.rewrite (h:Inv T A g st w) {id b:Nat} {cs cs':LA} {vs rest:Array Value} {vs':List Value} {ty a:Td} (h1:st.get id= .ok (.cells ty cs)) (k1:g.E id=some (.cw b))
    (j:w.heap[b]? =some (.cells (vs++rest) a (0,0))) (l: ∀o,g.F b o=none) (k6:ty < 1000000->rest= #[]/\a=ty) (d:st.ro<=id) (n:RL g cs' vs') (ho: ∀v∈vs',v.oneCell'=true):
    Inv T A g (st.put id (.cells ty cs')) (w.setRow b (vs'.toArray++rest))/\Kp A g w g (w.setRow b (vs'.toArray++rest)):=by
  refine ⟨h.write h1 (o:= .cells ty cs) (b:=b) k1 (.cells ty cs') (setRow_size _ _ _) (fun _ f=>rC _ _ _ f) ?_ ?_ ?_ ?_,Kp.write (h.own id _ b h1 k1 d) (setRow_size _ _ _) (fun _ f=>rC _ _ _ f)⟩
  · intro k u m;rw [l k] at m;cases m
  · cases hm:g.M b with
    | none=>rfl
    | some e=>
      have:=h.M b e.1 e.2 hm;rw [j] at this;cases this
  · intro i c
    have:g.E id=some (.cw i):=c;have:=k1.symm.trans this;simpa using this.symm
  · exact ⟨b,vs'.toArray,rest,a,k1,setRow_heap _ _ _ _ _ _ j,by simpa using n,by simpa using ho,l,k6⟩
theorem F9 {C:dh} {t:Td} {i:TI} (hi:jX P t i) {a v r:AV} {x y:Value} {p:dI} {F:Fx}
    (j:vW i a v= .ok p) (hrun:aE C st p= .ok (r,F)) (hx:R g a x) (hy:R g v y) (h:Inv T A g st w):
    r=undef/\DP P T A g w (F.did.app st) (Instr.storeAt t x y):=by
  cases a with
  | mp id off=>
    simp only [vW] at j;split at j
    · rename_i z
      simp only [aaf] at z;have L:=aan z.1;simp only [aac] at j;subst j;simp only [aE,ah,au] at hrun;obtain ⟨o,h1,⟨v',o'⟩,⟨⟨ty,cs⟩,G,k⟩,d,l,H⟩:=hrun;rw [zo] at G;subst G;dsimp only at k;split at k
      · rename_i m
        have m:=aaq m;simp only [au,aag] at k;obtain ⟨rfl,rfl⟩:=k;simp only [fK] at l;split at l
        · cases l
        · rename_i n
          rw [eG] at n;simp only [aac] at l;subst l;simp only [aag] at H;obtain ⟨rfl,rfl⟩:=H;refine ⟨rfl, ?_⟩;simp only [R] at hx;obtain ⟨b,hE,rfl⟩:=hx;obtain ⟨b',vs,rest,B,k1,I,J,K,M,k6⟩:=h.cells h1;have N:b'=b:=by have:=k1.symm.trans hE;simpa using this
          subst N;have e:=Kk hy z.2;have D:=fp e;have E:=fp J;simp only [abK] at D E;have q:=yh z.2 e;have f:=run_storeCells_at P b' off B y.cells.toList 0 (vs++rest) w I (by simp;omega) q;simp only [abq,abK] at f;have s:((vs++rest).toList.take off++y.cells.toList++(vs++rest).toList.drop (off+y.cells.size)).toArray=(vs.toList.take off++y.cells.toList++vs.toList.drop (off+y.cells.size)).toArray++rest:=by
            apply Array.ext';have O:(vs.toList++rest.toList).take off=vs.toList.take off:=List.take_append_of_le_length (by simp;omega);have Q:(vs.toList++rest.toList).drop (off+y.cells.size)=vs.toList.drop (off+y.cells.size)++rest.toList:=List.drop_append_of_le_length (by simp;omega);simp [O,Q]
          rw [s] at f;obtain ⟨S,U⟩:=h.rewrite h1 k1 I M k6 n (cs':=dj cs off v.cells) (vs':=vs.toList.take off++y.cells.toList++vs.toList.drop (off+y.cells.size))
            (by simpa using vJ off J e) (fun u c=>by
              simp only [aaA] at c;rcases c with (c | c) | c
              · exact K u (List.mem_of_mem_take c)
              · exact q u c
              · exact K u (List.mem_of_mem_drop c))
          refine ⟨g,_, ?_,S,U⟩;simp only [Instr.storeAt,Instr.sureAddr,Sem.run_bind,Sem.run_pure,Result.andThen_ok,storeVar,hi.dt,Sem.run_ite];rw [if_neg (by omega)];exact f
      · cases k
    · cases j
  | _=>simp [vW] at j
theorem Inv.rj (h:Inv T A g st w) {b:Nat} (c:w.heap.size<=b) (o:Nat):g.F b o=none:=by
  cases hf:g.F b o with
  | none=>rfl
  | some v=>
    obtain ⟨vs,ty,fz,a,_⟩:=og (h.F b o v hf);have:=lt_of_heap a;omega
theorem Inv.WN (h:Inv T A g st w) {b:Nat} (a:w.heap.size<=b):g.M b=none:=by
  cases hf:g.M b with
  | none=>rfl
  | some v=>
    have:=lt_of_heap (h.M b v.1 v.2 hf);omega
theorem Inv.kU (h:Inv T A g st w) {b:Nat} (c:w.heap.size<=b) (id:Nat) (o:Obj) (ho:st.get id= .ok o):¬ At g id o b:=fun a=>by
  have:=GX (h.H id o ho) a;omega
theorem Inv.newObj (h:Inv T A g st w) (o:Obj) (m:Go.Obj) (a: ∀b',At (g.dP st.h (.cw w.heap.size)) st.h o b'->b'=w.heap.size)
    (ho:Holds T (g.dP st.h (.cw w.heap.size)) (w.alloc m) st.h o):
    Inv T A (g.dP st.h (.cw w.heap.size)) (st.new o).2 (w.alloc m)/\Kp A g w (g.dP st.h (.cw w.heap.size)) (w.alloc m):=
  ⟨(h.alloc m).name o _ w.heap.size (fun id o' b=>h.kU (aah _) id o' b) (h.up _ (aah _)) a ho,
   (Kp.alloc m h).trans (Kp.dP (h.E _ (aah _)))⟩
theorem Inv.zp (h:Inv T A g st w) {cs:LA} {xs:List Value} (ty:Td) (c:RL g cs xs) (h1: ∀x∈xs,x.oneCell'=true):
    Inv T A (g.dP st.h (.cw w.heap.size)) (st.new (.cells ty cs)).2 (w.alloc (.cells xs.toArray ty))/\Kp A g w (g.dP st.h (.cw w.heap.size)) (w.alloc (.cells xs.toArray ty))/\
    R (g.dP st.h (.cw w.heap.size)) (.mp st.h 0) (.pointer (some ⟨w.heap.size,0,none⟩)):=by
  have a:Le g (g.dP st.h (.cw w.heap.size)):=Le.dP (h.E _ (aah _));obtain ⟨k1,d⟩:=h.newObj (.cells ty cs) (.cells xs.toArray ty) (fun b' b=>by
    have:(g.dP st.h (.cw w.heap.size)).E st.h=some (.cw b'):=b;rw [Gh.bJ] at this;simpa using this.symm) ⟨w.heap.size,xs.toArray, #[],ty,Gh.bJ _ _ _,by simpa using World.heap_alloc_new,by simpa using gj a _ _ c,by simpa using h1,fun o=>h.rj (aah _) o,fun _=>⟨rfl,rfl⟩⟩
  exact ⟨k1,d,by simp only [R];exact ⟨_,Gh.bJ _ _ _,rfl⟩⟩
theorem Inv.He (h:Inv T A g st w) {cs:LA} {xs:List Value} (ty:Td) (c:RL g cs xs) (h1: ∀x∈xs,x.oneCell'=true):
    Inv T A (g.eR w.heap.size 0 xs) st (w.alloc (.cells xs.toArray ty))/\Kp A g w (g.eR w.heap.size 0 xs) (w.alloc (.cells xs.toArray ty))/\
    oH (g.eR w.heap.size 0 xs) cs w.heap.size 0:=by
  have a: ∀o,0<=o->o < 0+xs.length->g.F w.heap.size o=none:=fun o _ _=>h.rj (aah _) o;have b:Le g (g.eR w.heap.size 0 xs):=Le.eR a;refine ⟨(h.alloc _).eR _ 0 xs a ?_ fun id o ho=>h.kU (aah _) id o ho,(Kp.alloc _ h).trans (Kp.eR (h.up _ (aah _)) a), ?_⟩
  · intro i v d
    rw [cell_of (World.heap_alloc_new)];simpa using d
  · refine fB (gj b _ _ c) fun i x hx=>⟨?_,h1 x (aaJ hx)⟩
    exact Gh.rv g _ 0 xs i x hx
theorem kI (ty:Td) (xs:Array Value):(newRow ty xs).run P w= .ok ⟨w.heap.size,0,none⟩ (w.alloc (.cells xs ty)):=by
  simp [newRow]
theorem FH {t:Td} {i:TI} (hi:jX P t i) (h:Inv T A g st w) (old:Value):
    bn P T A g w (.mp st.h 0) (st.new (.cells t i.zero)).2 (Instr.alloc t true old):=by
  obtain ⟨z,h1,d,e,h4,f,a⟩:=hi.qB;obtain ⟨k1,b,c⟩:=h.zp t (a g) (by simpa using h4);refine ⟨_,_,_, ?_,c,k1,b⟩;simp [Instr.alloc,h1,newVar,kI]
theorem Lk {C:dh} {imm:Bool} {t:Td} {i:TI} {v r:AV} {y:Value} {p:dI} {j:Fx}
    (a:NL imm t i v= .ok p) (hrun:aE C st p= .ok (r,j)) (hy:R g v y) (h:Inv T A g st w):
    bn P T A g w r (j.did.app st) (Instr.box t y):=by
  simp only [NL] at a;split at a
  · cases a
  · rename_i d
    simp only [aaf] at d;have b:=Kk hy d.2;have c:=yh d.2 b;split at a
    · simp only [ah,au] at a
      obtain ⟨cs,h1,rfl⟩:=a;simp only [aE,aac,aag] at hrun;obtain ⟨rfl,rfl⟩:=hrun;obtain ⟨k,l⟩:=Eu b h1;obtain ⟨k1,e,f⟩:=h.He t k c;refine ⟨.pointer (some ⟨w.heap.size,0,none⟩),_,_, ?_, ?_,k1,e⟩
      · simp [Instr.box,newVar,kI]
      · simp only [R]
        exact ⟨l,_,_,rfl,f⟩
    · simp only [aac] at a
      subst a;simp only [aE,aac,aag] at hrun;obtain ⟨rfl,rfl⟩:=hrun;obtain ⟨k1,e,f⟩:=h.zp t b c;refine ⟨.pointer (some ⟨w.heap.size,0,none⟩),_,_, ?_,f,k1,e⟩;simp [Instr.box,newVar,kI]
theorem sX {t:Td} {i:TI} {fs:List (Nat×Td)} (hi:jX P t i) (b:i.und= .struct fs):
    ∃fields:Array Field,(∀w,(underlying t).run P w= .ok (.struct fields) w)/\fields.toList.map (fun f=>(f.offset,f.type))=fs:=by
  obtain ⟨d,h1,a,_⟩:=hi.nH;rw [b] at a;obtain ⟨fields,rfl,c⟩:=a;exact ⟨fields,h1,c⟩
theorem eW {t e:Td} {i:TI} (hi:jX P t i) (b:i.und= .slice e): ∀w,(underlying t).run P w= .ok (.slice e) w:=by
  obtain ⟨d,h1,a,_⟩:=hi.nH;rw [b] at a;cases a;exact h1
theorem sb {t e:Td} {n:Nat} {i:TI} (hi:jX P t i) (b:i.und= .arr n e): ∀w,(underlying t).run P w= .ok (.array n e) w:=by
  obtain ⟨d,h1,a,_⟩:=hi.nH;rw [b] at a;cases a;exact h1
theorem uN {t:Td} {i:TI} (hi:jX P t i) (b:i.und= .str): ∀w,(underlying t).run P w= .ok .string w:=by
  obtain ⟨d,h1,a,_⟩:=hi.nH;rw [b] at a;cases a;exact h1
theorem Ri {t:Td} {k:IntKind} {i:TI} (hi:jX P t i) (b:i.und= .int k): ∀w,(underlying t).run P w= .ok (.int k) w:=by
  obtain ⟨d,h1,a,_⟩:=hi.nH;rw [b] at a;cases a;exact h1
theorem uq {t k e:Td} {i:TI} (hi:jX P t i) (b:i.und= .map k e): ∀w,(underlying t).run P w= .ok (.map k e) w:=by
  obtain ⟨d,h1,a,_⟩:=hi.nH;rw [b] at a;cases a;exact h1
theorem B3 {fields:Array Field} {fs:List (Nat×Td)} (h:fields.toList.map (fun f=>(f.offset,f.type))=fs) {n off:Nat} {a:Td}
    (hn:fs[n]? =some (off,a)): ∃f,fields[n]? =some f/\f.offset=off/\f.type=a:=by
  subst h;simp only [abc,abn] at hn;cases hf:fields[n]? with
  | none=>simp [hf] at hn
  | some f=>simp [hf] at hn;exact ⟨f,rfl,hn.1,hn.2⟩
theorem ya (hT:yp P T) {t:Td} {n:Nat} {a v:AV} {x:Value} (d:fieldAddr T t a n= .ok v) (hx:R g a x) (h:Inv T A g st w):
    bn P T A g w v st (Instr.fieldAt t x n):=by
  simp only [fieldAddr,ah] at d;obtain ⟨i,h1,c⟩:=d;have hi:=hT t i (cy.1 h1);split at c
  · rename_i fs e
    obtain ⟨fields,k1,k⟩:=sX hi e;split at c
    · rename_i off y hn
      obtain ⟨f,l,rfl,rfl⟩:=B3 k hn;simp only [ah] at c;obtain ⟨j,p,h4⟩:=c;have q:=hT _ j (cy.1 p);have hrun: ∀b o,x= .pointer (some ⟨b,o,none⟩)->j.size≠0->(Instr.fieldAt t x n).run P w= .ok (.pointer (some ⟨b,o+f.offset,none⟩)) w:=by
        rintro b o rfl r;simp [Instr.fieldAt,k1,l,Instr.sureAddr,fieldPlace,q.dt,r,Addr.gx]
      split at h4
      · cases h4
      · rename_i m hm
        split at h4
        · simp only [au] at h4
          subst h4;simp only [R] at hx;obtain ⟨s,b,o,hx,u⟩:=hx;refine bn.of h (hrun b o hx (by omega)) ?_;simp only [R];exact ⟨sR _ s,b,o+f.offset,rfl,Ce _ u⟩
        · simp only [au] at h4
          subst h4;simp only [R] at hx;obtain ⟨b,hE,hx⟩:=hx;refine bn.of h (hrun b _ hx (by omega)) ?_;simp only [R];exact ⟨b,hE,rfl⟩
        · simp only [au] at h4
          subst h4;simp only [R] at hx;obtain ⟨loc,b,cap,hE,hl,hx⟩:=hx;refine bn.of h (hrun b _ hx (by omega)) ?_;simp only [R];exact ⟨loc,b,cap,hE,hl,rfl⟩
        · cases h4
    · cases c
  · cases c
theorem oY {t:Td} {i:TI} (hi:jX P t i) {cs:LA} {ys:Array Value} {off:Nat} {v:AV}
    (c:cM i.size i.agg (cs.drop off)= .ok v) (d:RL g cs ys.toList): ∃y,(part t ys off).run P w= .ok y w/\R g v y:=by
  obtain ⟨h1,e⟩:=yW c (jJ off d);cases a:i.agg with
  | true=>
    obtain ⟨_,b⟩:=h1 a;refine ⟨_, ?_,b⟩;simp only [part,Sem.run_bind,hi.yD,Result.andThen_ok,a,if_true,hi.dt,Sem.run_pure];congr 2;apply Array.ext';simp [List.take_drop,Array.toList_extract]
  | false=>
    obtain ⟨y,l,k1,b⟩:=e a;refine ⟨y, ?_,b⟩;have:ys[off]? =some y:=by
      rw [<- abn];have:=aaY (·[0]?) k1;simpa using this
    simp [part,hi.yD,a,this]
theorem F2 (hT:yp P T) {t:Td} {n:Nat} {a v:AV} {x:Value} (c:field T t a n= .ok v) (hx:R g a x) (h:Inv T A g st w):
    bn P T A g w v st (Instr.field t x n):=by
  simp only [field,ah] at c;obtain ⟨i,h1,b⟩:=c;have hi:=hT t i (cy.1 h1);split at b
  · rename_i fs cs d
    obtain ⟨fields,k1,e⟩:=sX hi d;split at b
    · rename_i off r hn
      obtain ⟨f,k,rfl,rfl⟩:=B3 e hn;simp only [ah] at b;obtain ⟨j,l,h4⟩:=b;have m:=hT _ j (cy.1 l);simp only [R] at hx;obtain ⟨ys,rfl,o⟩:=hx;obtain ⟨y,p,q⟩:=oY (w:=w) m h4 o;exact bn.of h (by simp [Instr.field,k1,k,asAgg,p]) q
    · cases b
  · cases b
theorem yj {a:AV} {n:Int} {x:Value} (h:asInt a= .ok n) (hx:R g a x): ∃k,x= .int k n:=by
  cases a <;> simp [asInt] at h
  subst h;simp only [R] at hx;exact ⟨_,hx⟩
theorem jn {i:Int} {n k:Nat} (h:inside i n= .ok k):i=k/\k < n:=by
  unfold inside at h;split at h
  · split at h
    · rename_i a
      rw [cS] at a;simp only [aac] at h;subst h;exact ⟨rfl,a⟩
    · cases h
  · cases h
theorem jb {i:Int} {n k:Nat} (h:upto i n= .ok k):i=k/\k<=n:=by
  unfold upto at h;split at h
  · split at h
    · rename_i a
      simp only [aac] at h;subst h;exact ⟨rfl,aaq a⟩
    · cases h
  · cases h
theorem xS (hT:yp P T) {t:Td} {a F v:AV} {x y:Value} (G:indexAddr T t a F= .ok v) (hx:R g a x) (hy:R g F y) (h:Inv T A g st w):
    bn P T A g w v st (Instr.indexAt t x y):=by
  simp only [indexAddr,ah] at G;obtain ⟨n,h0,i,h1,f⟩:=G;obtain ⟨K,rfl⟩:=yj h0 hy;have hi:=hT t i (cy.1 h1);split at f
  · rename_i e sz es p l
    have k1:=eW hi l;simp only [ah] at f;obtain ⟨k,q,j,h4,r⟩:=f;obtain ⟨rfl,z⟩:=jn q;have s:=hT _ j (cy.1 h4);split at r
    · rename_i d
      have d:=aan d;simp only [ah,au] at r;obtain ⟨u,H,rfl⟩:=r;simp only [R] at hx;obtain ⟨C,b,o,cap,rfl,I,D,E,_⟩:=hx;obtain ⟨L,J⟩:=Az E H;refine bn.of h (x:= .pointer (some ⟨b,o+k * sz,none⟩)) ?_ ?_
      · simp [Instr.indexAt,asIntOf,k1,s.dt,Addr.gx,d]
        intro B;omega
      · simp only [R]
        exact ⟨xa (wm C H),b,_,rfl,J⟩
    · cases r
  · rename_i e id off sz len cap l
    have k1:=eW hi l;simp only [ah] at f;obtain ⟨k,q,j,h4,r⟩:=f;obtain ⟨rfl,z⟩:=jn q;have s:=hT _ j (cy.1 h4);split at r
    · rename_i d
      have d:=aan d;simp only [au] at r;subst r;simp only [R] at hx;obtain ⟨b,o,hE,c,rfl,I,D,ho,_⟩:=hx;have ho:=ho (by omega);subst ho;refine bn.of h (x:= .pointer (some ⟨b,o+k * sz,none⟩)) ?_ ?_
      · simp [Instr.indexAt,asIntOf,k1,s.dt,Addr.gx,d]
        intro B;omega
      · simp only [R]
        exact ⟨b,hE,rfl⟩
    · cases r
  · rename_i len e id off l
    have k1:=sb hi l;simp only [ah,au] at f;obtain ⟨k,q,j,h4,rfl⟩:=f;obtain ⟨rfl,z⟩:=jn q;have s:=hT _ j (cy.1 h4);simp only [R] at hx;obtain ⟨b,hE,rfl⟩:=hx;refine bn.of h (x:= .pointer (some ⟨b,off+k * j.size,none⟩)) ?_ ?_
    · simp [Instr.indexAt,Instr.sureAddr,asIntOf,k1,s.dt,Addr.gx]
      intro B;omega
    · simp only [R]
      exact ⟨b,hE,rfl⟩
  · rename_i len e cells l
    have k1:=sb hi l;simp only [ah,au] at f;obtain ⟨k,q,j,h4,rfl⟩:=f;obtain ⟨rfl,z⟩:=jn q;have s:=hT _ j (cy.1 h4);simp only [R] at hx;obtain ⟨C,b,o,rfl,E⟩:=hx;refine bn.of h (x:= .pointer (some ⟨b,o+k * j.size,none⟩)) ?_ ?_
    · simp [Instr.indexAt,Instr.sureAddr,asIntOf,k1,s.dt,Addr.gx]
      intro B;omega
    · simp only [R]
      exact ⟨sR _ C,b,_,rfl,Ce _ E⟩
  · rename_i len e id m off l
    have k1:=sb hi l;simp only [ah,au] at f;obtain ⟨k,q,j,h4,rfl⟩:=f;obtain ⟨rfl,z⟩:=jn q;have s:=hT _ j (cy.1 h4);simp only [R] at hx;obtain ⟨loc,b,cap,hE,hl,rfl⟩:=hx;refine bn.of h (x:= .pointer (some ⟨b,off+k * j.size,none⟩)) ?_ ?_
    · simp [Instr.indexAt,Instr.sureAddr,asIntOf,k1,s.dt,Addr.gx]
      intro B;omega
    · simp only [R]
      exact ⟨loc,b,cap,hE,hl,rfl⟩
  · cases f
end
section
variable {P:Program} {T:TT} {A:Nat->Prop} {g:Gh} {st:St} {w:World}
theorem Ra (s:LB) (k:Nat):(⟨s.toArray⟩:ByteArray)[k]? =s[k]? :=by
 by_cases h:k < s.length
 .rw [aax h,getElem?_pos (⟨s.toArray⟩:ByteArray) k (by simpa [ByteArray.size] using h)];simp [ByteArray.getElem_eq_getElem_data]
 .rw [aaX (Nat.le_of_not_lt h),getElem?_neg (⟨s.toArray⟩:ByteArray) k (by simpa [ByteArray.size] using h)]
theorem nY (s:LB):(⟨s.toArray⟩:ByteArray).size=s.length:=by simp [ByteArray.size]
theorem Fk (hT:yp P T) {t:Td} {a o v:AV} {x y:Value} (p:zf T t a o= .ok v) (hx:R g a x) (hy:R g o y) (h:Inv T A g st w):
  bn P T A g w v st (Instr.index t x y):=by
 simp only [zf,ah] at p;obtain ⟨n,h0,i,h1,c⟩:=p;obtain ⟨D,rfl⟩:=yj h0 hy;have hi:=hT t i (cy.1 h1);split at c
 .rename_i s f;have k1:=uN hi f;simp only [ah] at c;obtain ⟨k,l,d⟩:=c;obtain ⟨rfl,r⟩:=jn l;split at d
  .rename_i b u;simp only [au] at d;subst d;simp only [R] at hx;subst hx;refine bn.of h (x:= .int .u8 b.toNat) ?_ (by simp only [R]);simp [Instr.index,asIntOf,k1,Ra,u]
  .cases d
 .rename_i len e cs f;have k1:=sb hi f;simp only [ah] at c;obtain ⟨k,l,j,h4,d⟩:=c;obtain ⟨rfl,r⟩:=jn l;have q:=hT _ j (cy.1 h4);simp only [R] at hx;obtain ⟨ys,rfl,z⟩:=hx;obtain ⟨y,B,C⟩:=oY (w:=w) q d z;refine bn.of h (x:=y) ?_ C;have m:¬ (len<=k):=by omega
  simp [Instr.index,asIntOf,k1,m,q.dt,B]
 .cases c
def Mk (n:Oq Int) (x:Oq Value):Prop:=match n,x with | none,none=>True | some n,some y=> ∃k,y= .int k n | _,_=>False
def Ou (g:Gh) (a:Oq AV) (x:Oq Value):Prop:=match a,x with | none,none=>True | some v,some y=>R g v y | _,_=>False
theorem qQ {a:Oq AV} {n:Oq Int} {x:Oq Value} (h:lP a= .ok n) (hx:Ou g a x):Mk n x:=by
 cases a with
 | none=>
  cases x with
  | none=>simp only [lP,aac] at h;subst h;trivial
  | some y=>exact hx.elim
 | some v=>
  cases x with
  | none=>exact hx.elim
  | some y=>
   simp only [lP,ah,au] at h;obtain ⟨m,h1,rfl⟩:=h;exact yj h1 hx
theorem run_sliceBound {k:IntKind} {n m:Nat} {code:BoundsCode} (h:n<=m):(Instr.sliceBound (.int k n) m code).run P w= .ok n w:=by
 simp [Instr.sliceBound,asIntOf,h]
theorem kj {isSlice:Bool} {len cap dflt:Nat} {lo hi mx:Oq Int} {g i xm:Oq Value} {l o m:Nat} (hl:Mk lo g) (c:Mk hi i) (hm:Mk mx xm)
  (h1:lK mx cap cap= .ok m) (j:lK hi m dflt= .ok o) (hd:mx=none->dflt=len) (d:sw lo o= .ok l) (p:mx≠none->hi≠none):
  (Instr.sliceBounds isSlice len cap g i xm).run P w= .ok (l,o,m) w:=by
 have e: ∀{k:IntKind} {n m:Nat} {code:BoundsCode},n<=m->(Instr.sliceBound (.int k n) m code).run P w= .ok n w:=fun h=>run_sliceBound h;cases xm <;> cases mx <;> first | exact hm.elim | skip
 .have hd:=hd rfl;subst hd;simp only [lK,aac] at h1;subst h1;cases i <;> cases hi <;> first | exact c.elim | skip
  .simp only [lK,aac] at j;subst j;cases g <;> cases lo <;> first | exact hl.elim | skip
   .simp only [sw,aac] at d;subst d;simp [Instr.sliceBounds]
   .obtain ⟨k,rfl⟩:=hl;obtain ⟨rfl,b⟩:=jb d;simp [Instr.sliceBounds,e b]
  .obtain ⟨k,rfl⟩:=c;obtain ⟨rfl,a⟩:=jb j;cases g <;> cases lo <;> first | exact hl.elim | skip
   .simp only [sw,aac] at d;subst d;simp [Instr.sliceBounds,e a]
   .obtain ⟨k,rfl⟩:=hl;obtain ⟨rfl,b⟩:=jb d;simp [Instr.sliceBounds,e b,e a]
 .obtain ⟨q,rfl⟩:=hm;obtain ⟨rfl,f⟩:=jb h1;cases i <;> cases hi <;> first | exact c.elim | skip
  .exact absurd rfl (p (by simp))
  .obtain ⟨k,rfl⟩:=c;obtain ⟨rfl,a⟩:=jb j;cases g <;> cases lo <;> first | exact hl.elim | skip
   .simp only [sw,aac] at d;subst d;simp [Instr.sliceBounds,e f,e a]
   .obtain ⟨k,rfl⟩:=hl;obtain ⟨rfl,b⟩:=jb d;simp [Instr.sliceBounds,e f,e b,e a]
theorem Gm (s:LB) (l h:Nat):(⟨s.toArray⟩:ByteArray).extract l h=⟨((s.take h).drop l).toArray⟩:=by
 apply ByteArray.ext;simp [ByteArray.data_extract,List.drop_take]
theorem xX {t:Td} {i:TI} (hi:jX P t i) (e:i.und= .str) {s:LB} {lo b:Oq Int} {c d:Oq Value} {l m:Nat} (hl:Mk lo c) (a:Mk b d)
  (f:lK b s.length s.length= .ok m) (g:sw lo m= .ok l):
  (Instr.sliceAt t (.string ⟨s.toArray⟩) c d none).run P w= .ok (.string ⟨((s.take m).drop l).toArray⟩) w:=by
 have k1:=uN hi e;have h:=kj (P:=P) (w:=w) (isSlice:=false) (len:=s.length) (cap:=s.length) (mx:=none) (xm:=none) hl a trivial (m:=s.length) (dflt:=s.length) rfl f (fun _=>rfl) g (by simp);simp [Instr.sliceAt,Instr.slice,k1,nY,h,Gm]
theorem oC {t e:Td} (k1: ∀w,(underlying t).run P w= .ok (.slice e) w) (a:Oq Addr) (len cap:Nat) (b c xm:Oq Value) {l d m sz:Nat}
  (f:(Instr.sliceBounds true len cap b c xm).run P w= .ok (l,d,m) w) (hs:(sizeOf e).run P w= .ok sz w):
  (Instr.sliceAt t (.slice a len cap) b c xm).run P w= .ok (.slice (if m=l then a else a.map (·.add (l * sz))) (d - l) (m - l)) w:=by
 simp [Instr.sliceAt,Instr.slice,k1,f,hs]
theorem yw {k n:Nat} (h:k<=n):upto (k:Int) n= .ok k:=by
 have:k.ble n=true:=aaI h;show (match k.ble n with | true=>Except.ok k | false=>Except.error _)= _;rw [this]
theorem nz {hi:Oq Int} {m d h:Nat} (e:lK hi m d= .ok h) (hd:d<=m):h<=m:=by
 cases hi with
 | none=>simp only [lK,aac] at e;omega
 | some n=>exact (jb e).2
theorem uY {lo:Oq Int} {h l:Nat} (e:sw lo h= .ok l):l<=h:=by
 cases lo with
 | none=>simp only [sw,aac] at e;omega
 | some n=>exact (jb e).2
theorem EB {z b o:Nat} {l:LA} (h:l=[]):iD g z l b o:=by subst h;simp [iD]
theorem Bq {z:Nat} {es:LA} {b o l a m:Nat} (f:bN es=true) (d:1<=z) (h:iD g z es b o) (i:l<=a) (j:a<=es.length) (k:a<=m) {p:Perm}
  (e:(m≠l->uF g p (a - l) b (o+l * z) (m - l))/\(m=l->uF g p (a - l) b o (m - l))):
  R g (.sl z ((es.take a).drop l) p) (.slice (if m=l then some ⟨b,o,none⟩ else (some (⟨b,o,none⟩:Addr)).map (·.add (l * z))) (a - l) (m - l)):=by
 have hlen:((es.take a).drop l).length=a - l:=by simp;omega
 simp only [R,hlen];refine ⟨sR _ (HZ _ f), ?_⟩;by_cases c:m=l
 .rw [if_pos c];refine ⟨b,o,m - l,rfl,by omega,d,EB ?_,e.2 c⟩;apply aaZ;omega
 .rw [if_neg c];refine ⟨b,o+l * z,m - l,by simp [Addr.gx],by omega,d, ?_,e.1 c⟩;exact KJ _ (Mb _ h) (by simp;omega)
theorem Gp (hT:yp P T) {t:Td} {a v:AV} {x:Value} {lo hi mx:Oq AV} {U V xm:Oq Value} (hp:mS T t a lo hi mx= .ok v) (hx:R g a x)
  (hl:Ou g lo U) (a7:Ou g hi V) (hm:Ou g mx xm) (h:Inv T A g st w) (a8:mx≠none->hi≠none):bn P T A g w v st (Instr.sliceAt t x U V xm):=by
 simp only [mS,ah] at hp;obtain ⟨nl,e1,Y,e2,nm,e3,i,e4,r⟩:=hp;have G:=hT t i (cy.1 e4);have ol:=qQ e1 hl;have W:=qQ e2 a7;have X:=qQ e3 hm;have E:nm≠none->Y≠none:=fun hn=>by
  have:mx≠none:=fun e=>by subst e;simp only [lP,aac] at e3;exact hn e3.symm
  have:=a8 this;cases hi with
  | none=>exact absurd rfl this
  | some y=>
   simp only [lP,ah,au] at e2;obtain ⟨_,_,rfl⟩:=e2;simp
 split at r
 .rename_i s H;simp only [ah,au] at r;obtain ⟨m,u,l,f,rfl⟩:=r;simp only [R] at hx;subst hx;cases xm with
  | some y=>exact X.elim
  | none=>exact bn.of h (xX G H ol W u f) (by simp only [R])
 .rename_i nm _ _ _ e H;simp only [ah,au] at r;obtain ⟨j,M,m,u,z,f,l,F,rfl⟩:=r;have N:=hT _ j (cy.1 M);simp only [R] at hx;subst hx;have Z:=nz u (aah _);have bb:=nz f (aba _);have C:=uY F;have O:=kj (P:=P) (w:=w) (isSlice:=true) (len:=0) (cap:=0) (dflt:=0) ol W X u f (fun _=>rfl) F E;have:=oC (eW G H) none 0 0 U V xm O (N.dt w);refine bn.of h (x:= .slice none 0 0) ?_ (by simp only [R]);rw [this];have h0:m - l=0:=by omega
  have h1:z - l=0:=by omega
  simp [h0,h1]
 .rename_i nm _ _ _ e H;simp only [ah,au] at r;obtain ⟨j,M,m,u,z,f,l,F,rfl⟩:=r;have N:=hT _ j (cy.1 M);simp only [R] at hx;obtain ⟨a,rfl⟩:=hx;have Z:=nz u (aah _);have bb:=nz f (aba _);have C:=uY F;have O:=kj (P:=P) (w:=w) (isSlice:=true) (len:=0) (cap:=0) (dflt:=0) ol W X u f (fun _=>rfl) F E;have:=oC (eW G H) (some a) 0 0 U V xm O (N.dt w);refine bn.of h (x:= .slice (some a) 0 0) ?_ (by simp only [R];exact ⟨a,rfl⟩);rw [this];have r:l=0:=by omega
  have B:m=0:=by omega
  have h4:z=0:=by omega
  subst r B h4;rfl
 .rename_i nm _ _ _ e id off sz len cap H;simp only [ah] at r;obtain ⟨j,M,B⟩:=r;split at B
  .cases B
  .rename_i d;have d:=aan d;have N:=hT _ j (cy.1 M);simp only [ah] at B;obtain ⟨m,u,z,f,l,F,h4⟩:=B;split at h4
   .rename_i I;have I:=aaq I;simp only [au] at h4;subst h4;simp only [R] at hx;obtain ⟨b,o,hE,c,rfl,hc,q,ho,bt⟩:=hx;have b4: ∃L,lK nm c c= .ok L/\lK Y L len= .ok z/\z<=L/\L<=c/\(m - l=L - l\/m - l=0):=by
     rcases bt with rfl | rfl
     .exact ⟨m,u,f,I,nz u (aah _),.inl rfl⟩
     .have Z:m<=0:=nz u (aah _);cases nm with
      | none=>
       refine ⟨c,rfl, ?_,by omega,aah _,.inr (by omega)⟩;cases Y with
       | none=>exact f
       | some n=>
        obtain ⟨rfl,J⟩:=jb f;exact yw (by omega)
      | some y=>
       obtain ⟨q1,q2⟩:=jb (show upto y 0= .ok m from u);subst q1;exact ⟨m,yw (by omega),f,I,by omega,.inl rfl⟩
    obtain ⟨L,u,f,I,cb,av⟩:=b4;have O:=kj (P:=P) (w:=w) (isSlice:=true) (len:=len) (cap:=c) (dflt:=len) ol W X u f (fun _=>rfl) F E;have:=oC (eW G H) (some ⟨b,o,none⟩) len c U V xm O (N.dt w);refine bn.of h this ?_;have C:=uY F;simp only [R];by_cases a1:L=l
    .rw [if_pos a1];exact ⟨b,o,hE,L - l,rfl,by omega,q,fun b5=>absurd (by omega:L - l=0) b5,av⟩
    .rw [if_neg a1];have S:c≠0:=fun e=>by omega
     refine ⟨b,o+l * j.size,hE,L - l,by simp [Addr.gx],by omega,q,fun _=>by rw [ho S,d],av⟩
   .cases h4
 .rename_i e sz es p H;simp only [ah] at r;obtain ⟨j,M,B⟩:=r;split at B
  .cases B
  .rename_i d;have d:=aan d;have N:=hT _ j (cy.1 M);simp only [ah] at B;obtain ⟨z,f,l,F,h4⟩:=B;simp only [R] at hx;obtain ⟨K,b,o,cap,rfl,hc,q,hr,D⟩:=hx;cases xm with
   | some y=>exact X.elim
   | none=>
    have b6:lK Y cap es.length= .ok z:=by
     cases Y with
     | none=>exact f
     | some n=>
      obtain ⟨rfl,J⟩:=jb f;exact yw (by omega)
    have O:=kj (P:=P) (w:=w) (isSlice:=true) (len:=es.length) (cap:=cap) (mx:=none) (xm:=none) (dflt:=es.length) (m:=cap) ol W trivial rfl b6 (fun _=>rfl) F (by simp);have hrun:=oC (eW G H) (some ⟨b,o,none⟩) es.length cap U V none O (N.dt w);have Q:=nz f (aah _);have C:=uY F;rw [<- d] at hrun;refine bn.of h hrun ?_;have wide:R g (.sl sz ((es.take z).drop l) .wide) (.slice (if cap=l then some ⟨b,o,none⟩ else (some (⟨b,o,none⟩:Addr)).map (·.add (l * sz))) (z - l) (cap - l)):=
     Bq K q hr C Q (by omega) ⟨fun _=>trivial,fun _=>trivial⟩
    split at h4
    .rename_i J;have J:=aan J;simp only [au] at h4;subst h4;have S:cap=es.length:=D;have:=Bq (m:=cap) (p:= .shut) K q hr C Q (by omega) ⟨fun _=>by show cap - l=z - l;omega,fun _=>by show cap - l=z - l;omega⟩
     rwa [List.take_of_length_le (by omega)] at this
    .rename_i k J;have J:=aan J;split at h4
     .rename_i hl;have hl:=aan hl;subst hl;simp only [au] at h4;subst h4;obtain ⟨b7,a6⟩:=D;subst b7;have hx:(if cap=0 then some (⟨b,0,none⟩:Addr) else (some (⟨b,0,none⟩:Addr)).map (·.add (0 * sz)))=some ⟨b,0,none⟩:=by
       split <;> simp [Addr.gx]
      simp only [R];refine ⟨K,b,0,cap, ?_,hc,q,hr,rfl,a6⟩;rw [hx];simp [J]
     .simp only [au] at h4;subst h4
      rwa [List.take_of_length_le (by omega)] at wide
    .simp only [au] at h4;subst h4;exact wide
 .rename_i e sz es p m0 H;simp only [ah] at r;obtain ⟨j,M,B⟩:=r;split at B
  .cases B
  .rename_i d;have d:=aan d;have N:=hT _ j (cy.1 M);simp only [ah,au] at B;obtain ⟨m,u,z,f,l,F,rfl⟩:=B;simp only [R] at hx;obtain ⟨K,b,o,cap,rfl,hc,q,hr,D⟩:=hx;obtain ⟨rfl,b9⟩:=jb u;have b8:lK (some (m:Int)) cap cap= .ok m:=by
    exact yw (by omega)
   have O:=kj (P:=P) (w:=w) (isSlice:=true) (len:=es.length) (cap:=cap) (mx:=some (m:Int)) (dflt:=m) ol W X b8 f (by simp) F E;have hrun:=oC (eW G H) (some ⟨b,o,none⟩) es.length cap U V xm O (N.dt w);have Q:=nz f (aah _);have C:=uY F;rw [<- d] at hrun;refine bn.of h hrun ?_;refine Bq K q hr C (by omega) Q ?_;cases J:m.beq z with
   | true=>
    have J:=aan J;exact ⟨fun _=>by show m - l=z - l;omega,fun _=>by show m - l=z - l;omega⟩
   | false=>exact ⟨fun _=>trivial,fun _=>trivial⟩
 .cases r
end
end Go.VM
