/-
  (A part of the proof: Ops, Ops2.)
-/
import Derived.Test.YtmhofncehlaamaaGreatDoorVmAA
import Derived.Test.YtmhofncehlaamaaGreatDoorVmAC
import Derived.Laws.Cells
import Derived.Laws.CopyRow
import Derived.Laws.AppendOwn
set_option linter.unusedSimpArgs false
namespace Go.VM
def ba (P:Program) (T:TT) (A:Nat→Prop) (g:Gh) (w:World) (v:AV) (st':St) (s:Sem Value):Prop:=
  ∃x g' w',s.run P w= .ok x w'∧R g' v x∧Inv T A g' st' w'∧Kp A g w g' w'
def B9 (P:Program) (T:TT) (A:Nat→Prop) (g:Gh) (w:World) (st':St) (s:Sem Unit):Prop:=
  ∃g' w',s.run P w= .ok () w'∧Inv T A g' st' w'∧Kp A g w g' w'
section
variable {P:Program} {T:TT} {A:Nat→Prop} {g:Gh} {st:St} {w:World}
theorem ba.of {v:AV} {s:Sem Value} {x:Value} (h:Inv T A g st w) (hs:s.run P w= .ok x w) (hr:R g v x):ba P T A g w v st s:=
  ⟨x,g,w,hs,hr,h,Kp.refl _ _ _⟩
theorem iP.mg {t:TypeId} {i:TI} (h:iP P t i): ∃d,(∀w,(underlying t).run P w= .ok d w)∧zc d i.und∧(i.agg=match d with | .struct _ | .array .. =>true | _=>false):=by
  obtain ⟨d,h1,h2,h3⟩:=h.und;exact ⟨d,fun w=>by simp [underlying,h1],h2,h3⟩
theorem iP.cV {t:TypeId} {i:TI} (h:iP P t i) (w:World):(sizeOf t).run P w= .ok i.size w:=by
  obtain ⟨f,h1,h2,_⟩:=h.info;simp [sizeOf,typeInfo,h1,h2]
theorem iP.wD {t:TypeId} {i:TI} (h:iP P t i) (w:World):(isAgg t).run P w= .ok i.agg w:=by
  obtain ⟨d,h1,_,h3⟩:=h.mg;rw [h3];simp only [isAgg,Sem.run_bind,h1,Result.andThen_ok];cases d <;> rfl
theorem iP.pV {t:TypeId} {i:TI} (h:iP P t i): ∃z,(∀w,(zeroValue t).run P w= .ok z w)∧z.cells.size=i.size∧(i.agg=false→z.oneCell'=true)∧(∀v∈z.cells,v.oneCell'=true)∧(i.agg=true→ ∃cs,z= .agg cs)∧ ∀g,RL g i.zero z.cells.toList:=by
  obtain ⟨f,h1,h2,h3,z,h4,h5⟩:=h.info;exact ⟨z,fun w=>by simp [zeroValue,typeInfo,h1,h4],h5⟩
theorem Addr.eB (b o n:Nat):(⟨b,o,none⟩:Addr).add n=⟨b,o+n,none⟩:=by
  unfold Addr.add;split
  · rename_i h;subst h;rfl
  · rfl
theorem xu {size:Nat} {agg:Bool} {cells:List AV} {v:AV} {xs:List Value} (h:cB size agg cells= .ok v) (hr:RL g cells xs):
    (agg=true→size≤xs.length∧R g v (.agg (xs.take size).toArray))∧(agg=false→ ∃x l,xs=x::l∧R g v x):=by
  cases agg with
  | true=>
    refine ⟨fun _=> ?_,(fun k=>by cases k)⟩;simp only [cB] at h;split at h
    · rename_i hle
      simp only [Vi] at h;subst h;have:=VA hle;rw [← cW hr] at this;refine ⟨this, ?_⟩;simp only [R];exact ⟨_,rfl,by simpa using mf size hr⟩
    · cases h
  | false=>
    refine ⟨(fun k=>by cases k),fun _=> ?_⟩;simp only [cB] at h;cases cells with
    | nil=>simp at h
    | cons u us=>
      simp only [Vi] at h;subst h;simp only [RL] at hr;obtain ⟨x,l,h1,h2,_⟩:=hr;exact ⟨x,l,h1,h2⟩
theorem eH {t:TypeId} {i:TI} (hi:iP P t i) {b o:Nat} {cells:List AV} {v:AV} {xs:List Value}
    (h:cB i.size i.agg cells= .ok v) (hr:RL g cells xs) (hm: ∀k x,xs[k]? =some x→w.cell? ⟨b,o+k,none⟩=some x):
    ∃x,(loadVar t ⟨b,o,none⟩).run P w= .ok x w∧R g v x:=by
  obtain ⟨h1,h2⟩:=xu h hr;cases ha:i.agg with
  | true=>
    obtain ⟨k1,k2⟩:=h1 ha;refine ⟨_, ?_,k2⟩;have hl:=run_loadCells_list (P:=P) w ⟨b,o,none⟩ (xs.take i.size) (fun j x hx=>by
      rw [Addr.eB];refine hm j x ?_;rw [List.getElem?_take] at hx;split at hx
      · exact hx
      · cases hx)
    rw [VB,WQ k1] at hl;simp only [loadVar,Sem.run_bind,hi.wD,Result.andThen_ok,ha,if_true,hi.cV,hl,Sem.run_pure]
  | false=>
    obtain ⟨x,l,rfl,k2⟩:=h2 ha;refine ⟨x, ?_,k2⟩;have:=hm 0 x rfl;simp only [Wk] at this;simp only [loadVar,Sem.run_bind,hi.wD,Result.andThen_ok,ha,VP,if_false,run_load,this]
theorem oj {o:Obj} {cs:List AV}:cellsOf o= .ok cs↔ ∃ty,o= .cells ty cs:=by
  cases o <;> simp [cellsOf]
theorem yG {o:Obj} {ty:TypeId} {cs:List AV}:mw o= .ok (ty,cs)↔o= .cells ty cs:=by
  cases o <;> simp [mw]
theorem Inv.cells (h:Inv T A g st w) {id:Nat} {ty:TypeId} {cs:List AV} (hg:st.get id= .ok (.cells ty cs)):
    ∃b vs rest ty',g.E id=some (.cf b)∧w.heap[b]? =some (.cells (vs++rest) ty' (0,0))∧RL g cs vs.toList∧(∀v∈vs.toList,v.oneCell'=true)∧(∀o,g.F b o=none)∧(ty < 1000000→rest= #[]∧ty'=ty):=
  h.H id _ hg
theorem Gk {C:cX} {t:TypeId} {i:TI} (hi:iP P t i) {a v:AV} {x:Value} {p:dF} {fx:Fx}
    (hp:lF i a= .ok p) (hrun:aC C st p= .ok (v,fx)) (hx:R g a x) (h:Inv T A g st w):
    ba P T A g w v (fx.did.app st) (Instr.loadAt t x):=by
  cases a with
  | ip cells=>
    simp only [lF,ae,ak] at hp;obtain ⟨u,h1,rfl⟩:=hp;simp only [aC,Vi,Vk] at hrun;obtain ⟨rfl,rfl⟩:=hrun;simp only [R] at hx;obtain ⟨_,b,o,rfl,h3⟩:=hx;obtain ⟨xs,k1,k2⟩:=ic h3;obtain ⟨y,e1,e2⟩:=eH hi h1 k1 fun k z hz=>h.F _ _ _ (k2 k z hz).1;exact ba.of h (by simp [Instr.loadAt,Instr.sureAddr,e1]) e2
  | mp id off=>
    simp only [lF,Vi] at hp;subst hp;simp only [ij,aC,ae,ak] at hrun;obtain ⟨o,h1,⟨v',o'⟩,⟨v'',⟨cs,h2,h3⟩,h4⟩,d,h5,h6⟩:=hrun;rw [oj] at h2;obtain ⟨ty,rfl⟩:=h2;simp only [Vk] at h4 h6;obtain ⟨rfl,rfl⟩:=h4;simp only [ej,Vi] at h5;subst h5;obtain ⟨rfl,rfl⟩:=h6;simp only [R] at hx;obtain ⟨b,hE,rfl⟩:=hx;obtain ⟨b',vs,rest,ty2,k1,k2,k3,k4,k5,k6⟩:=h.cells h1;have hb:b'=b:=by have:=k1.symm.trans hE;simpa using this
    subst hb;obtain ⟨y,e1,e2⟩:=eH (w:=w) (b:=b') (o:=off) hi h3 (iu off k3) fun k z hz=>jh k2 (by simpa using hz);exact ba.of h (by simp [Instr.loadAt,Instr.sureAddr,e1]) e2
  | gp k n off=>
    simp only [lF,Vi] at hp;subst hp;simp only [ij,aC,ae,ak] at hrun;obtain ⟨o,h1,⟨v',o'⟩,⟨v'',h2,h4⟩,d,h5,h6⟩:=hrun;simp only [Vk] at h4 h6;obtain ⟨rfl,rfl⟩:=h4;simp only [ej,Vi] at h5;subst h5;obtain ⟨rfl,rfl⟩:=h6;simp only [R] at hx;obtain ⟨loc,b,cap,hE,hl,rfl⟩:=hx;split at h2
    · rename_i m e z cs
      split at h2
      · rename_i hm
        have hm:=Vq hm;subst hm;obtain ⟨loc2,b2,cap2,i2,pre,rest,q1,q2,q3,q4,q5,q6,q7,q8,q9,q10,q11,q12,q13⟩:=h.H k _ h1;have e1:=q1.symm.trans hE;simp only [Vt,mc.tok.injEq] at e1;subst e1;have e2:=q2.symm.trans hl;simp only [Vt,Vk] at e2;obtain ⟨rfl,rfl⟩:=e2;obtain ⟨y,e1,e2⟩:=eH (w:=w) (b:=b2) (o:=off) hi h2 (iu off q11) fun k z hz=>jh q7 (by simpa using hz);exact ba.of h (by simp [Instr.loadAt,Instr.sureAddr,e1]) e2
      · cases h2
    · cases h2
  | _=>simp [lF] at hp
theorem O1: ∀{v:AV} {x:Value},one v=true→R g v x→x.oneCell'=true:=by
  intro v x h hr;cases v <;> simp only [R] at hr <;> first
    | (simp [one] at h;done)
    | (rcases hr with ⟨_,rfl | ⟨_,_,rfl⟩⟩ | ⟨_,_,rfl⟩ <;> rfl)
    | (obtain ⟨_,_,_,_,_,rfl,_⟩:=hr;rfl)
    | (obtain ⟨_,_,_,_,_,rfl⟩:=hr;rfl)
    | (subst hr;rfl)
    | (obtain ⟨_,_,_,rfl,_⟩:=hr;rfl)
    | (obtain ⟨_,_,rfl⟩:=hr;rfl)
    | (obtain ⟨_,_,_,_,rfl,_⟩:=hr;rfl)
    | (obtain ⟨_,_,_,rfl,_⟩:=hr;rfl)
    | (obtain ⟨_,_,rfl,_⟩:=hr;rfl)
    | (obtain ⟨_,rfl,_⟩:=hr;rfl)
    | (obtain ⟨_,_,_,_,rfl,_⟩:=hr;rfl)
theorem qp: ∀{vs:List AV} {xs:List Value},gj vs=true→RL g vs xs→ ∀x∈xs,x.oneCell'=true
  | [],_,_,h=>by simp only [RL] at h;subst h;simp
  | v::vs,_,k,h=>by
    simp only [RL] at h;obtain ⟨x,xs,rfl,h1,h2⟩:=h;simp only [gj,Vl] at k;intro y hy;rcases Vv.1 hy with rfl | hy
    · exact O1 k.1 h1
    · exact qp k.2 h2 y hy
theorem wo {v:AV} {x:Value} (h:R g v x) (h1:gj v.cells=true):RL g v.cells x.cells.toList:=by
  cases v with
  | agg cs=>
    simp only [R] at h;obtain ⟨ys,rfl,h2⟩:=h;exact h2
  | _=>
    have:=O1 (by simpa [AV.cells,gj] using h1) h;have hx:x.cells= #[x]:=by cases x <;> first | rfl | simp [Value.oneCell'] at this
    rw [hx];exact cp h fP
theorem setRow_size (w:World) (b:Nat) (cs:Array Value):(w.setRow b cs).heap.size=w.heap.size:=by simp [World.setRow]
theorem fw (w:World) (b:Nat) (cs:Array Value) {b':Nat} (h:b'≠b):(w.setRow b cs).heap[b']? =w.heap[b']? :=by
  simp only [World.setRow,Array.getElem?_modify];rw [if_neg (fun e=>h e.symm)]
theorem uw {cs new:List AV} {xs ys:List Value} (off:Nat) (h:RL g cs xs) (k:RL g new ys):
    RL g (cO cs off new) (xs.take off++ys++xs.drop (off+ys.length)):=by
  unfold cO;rw [cW k];exact dN (dN (mf off h) k) (iu _ h)
theorem Inv.rewrite (h:Inv T A g st w) {id b:Nat} {cs cs':List AV} {vs rest:Array Value} {vs':List Value} {ty ty2:TypeId} (h1:st.get id= .ok (.cells ty cs)) (k1:g.E id=some (.cf b))
    (k2:w.heap[b]? =some (.cells (vs++rest) ty2 (0,0))) (k5: ∀o,g.F b o=none) (k6:ty < 1000000→rest= #[]∧ty2=ty) (hro:st.ro≤id) (hr:RL g cs' vs') (ho: ∀v∈vs',v.oneCell'=true):
    Inv T A g (st.put id (.cells ty cs')) (w.setRow b (vs'.toArray++rest))∧Kp A g w g (w.setRow b (vs'.toArray++rest)):=by
  refine ⟨h.write h1 (o:= .cells ty cs) (b:=b) k1 (.cells ty cs') (setRow_size _ _ _) (fun _ hb=>fw _ _ _ hb) ?_ ?_ ?_ ?_,Kp.write (h.own id _ b h1 k1 hro) (setRow_size _ _ _) (fun _ hb=>fw _ _ _ hb)⟩
  · intro k u hu;rw [k5 k] at hu;cases hu
  · cases hm:g.M b with
    | none=>rfl
    | some e=>
      have:=h.M b e.1 e.2 hm;rw [k2] at this;cases this
  · intro b'' hb''
    have:g.E id=some (.cf b''):=hb'';have:=k1.symm.trans this;simpa using this.symm
  · exact ⟨b,vs'.toArray,rest,ty2,k1,setRow_heap _ _ _ _ _ _ k2,by simpa using hr,by simpa using ho,k5,k6⟩
theorem DJ {C:cX} {t:TypeId} {i:TI} (hi:iP P t i) {a v r:AV} {x y:Value} {p:dF} {fx:Fx}
    (hp:um i a v= .ok p) (hrun:aC C st p= .ok (r,fx)) (hx:R g a x) (hy:R g v y) (h:Inv T A g st w):
    r=undef∧B9 P T A g w (fx.did.app st) (Instr.storeAt t x y):=by
  cases a with
  | mp id off=>
    simp only [um] at hp;split at hp
    · rename_i hc
      simp only [Vl] at hc;have hsz:=Vq hc.1;simp only [Vi] at hp;subst hp;simp only [aC,ae,ak] at hrun;obtain ⟨o,h1,⟨v',o'⟩,⟨⟨ty,cs⟩,h2,h3⟩,d,h5,h6⟩:=hrun;rw [yG] at h2;subst h2;dsimp only at h3;split at h3
      · rename_i hle
        have hle:=VA hle;simp only [ak,Vk] at h3;obtain ⟨rfl,rfl⟩:=h3;simp only [ej] at h5;split at h5
        · cases h5
        · rename_i hro
          rw [cP] at hro;simp only [Vi] at h5;subst h5;simp only [Vk] at h6;obtain ⟨rfl,rfl⟩:=h6;refine ⟨rfl, ?_⟩;simp only [R] at hx;obtain ⟨b,hE,rfl⟩:=hx;obtain ⟨b',vs,rest,ty2,k1,k2,k3,k4,k5,k6⟩:=h.cells h1;have hb:b'=b:=by have:=k1.symm.trans hE;simpa using this
          subst hb;have hyc:=wo hy hc.2;have hyl:=cW hyc;have hvl:=cW k3;simp only [Wn] at hyl hvl;have hyo:=qp hc.2 hyc;have hst:=run_storeCells_at P b' off ty2 y.cells.toList 0 (vs++rest) w k2 (by simp;omega) hyo;simp only [Wk,Wn] at hst;have hrow:((vs++rest).toList.take off++y.cells.toList++(vs++rest).toList.drop (off+y.cells.size)).toArray=(vs.toList.take off++y.cells.toList++vs.toList.drop (off+y.cells.size)).toArray++rest:=by
            apply Array.ext';have e1:(vs.toList++rest.toList).take off=vs.toList.take off:=List.take_append_of_le_length (by simp;omega);have e2:(vs.toList++rest.toList).drop (off+y.cells.size)=vs.toList.drop (off+y.cells.size)++rest.toList:=List.drop_append_of_le_length (by simp;omega);simp [e1,e2]
          rw [hrow] at hst;obtain ⟨w1,w2⟩:=h.rewrite h1 k1 k2 k5 k6 hro (cs':=cO cs off v.cells) (vs':=vs.toList.take off++y.cells.toList++vs.toList.drop (off+y.cells.size))
            (by simpa using uw off k3 hyc) (fun u hu=>by
              simp only [VE] at hu;rcases hu with (hu | hu) | hu
              · exact k4 u (List.mem_of_mem_take hu)
              · exact hyo u hu
              · exact k4 u (List.mem_of_mem_drop hu))
          refine ⟨g,_, ?_,w1,w2⟩;simp only [Instr.storeAt,Instr.sureAddr,Sem.run_bind,Sem.run_pure,Result.andThen_ok,storeVar,hi.cV,Sem.run_ite];rw [if_neg (by omega)];exact hst
      · cases h3
    · cases hp
  | _=>simp [um] at hp
theorem Inv.js (h:Inv T A g st w) {b:Nat} (hb:w.heap.size≤b) (o:Nat):g.F b o=none:=by
  cases hf:g.F b o with
  | none=>rfl
  | some v=>
    obtain ⟨vs,ty,fz,h2,_⟩:=nJ (h.F b o v hf);have:=lt_of_heap h2;omega
theorem Inv.SR (h:Inv T A g st w) {b:Nat} (hb:w.heap.size≤b):g.M b=none:=by
  cases hf:g.M b with
  | none=>rfl
  | some v=>
    have:=lt_of_heap (h.M b v.1 v.2 hf);omega
theorem Inv.gm (h:Inv T A g st w) {b:Nat} (hb:w.heap.size≤b) (id:Nat) (o:Obj) (ho:st.get id= .ok o):¬ At g id o b:=fun ha=>by
  have:=C5 (h.H id o ho) ha;omega
theorem Inv.newObj (h:Inv T A g st w) (o:Obj) (m:Go.Obj) (hat: ∀b',At (g.cN st.h (.cf w.heap.size)) st.h o b'→b'=w.heap.size)
    (ho:Holds T (g.cN st.h (.cf w.heap.size)) (w.alloc m) st.h o):
    Inv T A (g.cN st.h (.cf w.heap.size)) (st.new o).2 (w.alloc m)∧Kp A g w (g.cN st.h (.cf w.heap.size)) (w.alloc m):=
  ⟨(h.alloc m).name o _ w.heap.size (fun id o' ho'=>h.gm (Vn _) id o' ho') (h.up _ (Vn _)) hat ho,
   (Kp.alloc m h).trans (Kp.cN (h.E _ (Vn _)))⟩
theorem Inv.yN (h:Inv T A g st w) {cs:List AV} {xs:List Value} (ty:TypeId) (hr:RL g cs xs) (h1: ∀x∈xs,x.oneCell'=true):
    Inv T A (g.cN st.h (.cf w.heap.size)) (st.new (.cells ty cs)).2 (w.alloc (.cells xs.toArray ty))∧Kp A g w (g.cN st.h (.cf w.heap.size)) (w.alloc (.cells xs.toArray ty))∧
    R (g.cN st.h (.cf w.heap.size)) (.mp st.h 0) (.pointer (some ⟨w.heap.size,0,none⟩)):=by
  have hle:Le g (g.cN st.h (.cf w.heap.size)):=Le.cN (h.E _ (Vn _));obtain ⟨k1,k2⟩:=h.newObj (.cells ty cs) (.cells xs.toArray ty) (fun b' hb'=>by
    have:(g.cN st.h (.cf w.heap.size)).E st.h=some (.cf b'):=hb';rw [Gh.aL] at this;simpa using this.symm) ⟨w.heap.size,xs.toArray, #[],ty,Gh.aL _ _ _,by simpa using World.heap_alloc_new,by simpa using dI hle _ _ hr,by simpa using h1,fun o=>h.js (Vn _) o,fun _=>⟨rfl,rfl⟩⟩
  exact ⟨k1,k2,by simp only [R];exact ⟨_,Gh.aL _ _ _,rfl⟩⟩
theorem Inv.CW (h:Inv T A g st w) {cs:List AV} {xs:List Value} (ty:TypeId) (hr:RL g cs xs) (h1: ∀x∈xs,x.oneCell'=true):
    Inv T A (g.ch w.heap.size 0 xs) st (w.alloc (.cells xs.toArray ty))∧Kp A g w (g.ch w.heap.size 0 xs) (w.alloc (.cells xs.toArray ty))∧
    mi (g.ch w.heap.size 0 xs) cs w.heap.size 0:=by
  have hF: ∀o,0≤o→o < 0+xs.length→g.F w.heap.size o=none:=fun o _ _=>h.js (Vn _) o;have hle:Le g (g.ch w.heap.size 0 xs):=Le.ch hF;refine ⟨(h.alloc _).ch _ 0 xs hF ?_ fun id o ho=>h.gm (Vn _) id o ho,(Kp.alloc _ h).trans (Kp.ch (h.up _ (Vn _)) hF), ?_⟩
  · intro i v hv
    rw [cell_of (World.heap_alloc_new)];simpa using hv
  · refine dj (dI hle _ _ hr) fun i x hx=>⟨?_,h1 x (VQ hx)⟩
    exact Gh.jS g _ 0 xs i x hx
theorem jP (ty:TypeId) (xs:Array Value):(newRow ty xs).run P w= .ok ⟨w.heap.size,0,none⟩ (w.alloc (.cells xs ty)):=by
  simp [newRow]
theorem Ek {t:TypeId} {i:TI} (hi:iP P t i) (h:Inv T A g st w) (old:Value):
    ba P T A g w (.mp st.h 0) (st.new (.cells t i.zero)).2 (Instr.alloc t true old):=by
  obtain ⟨z,h1,h2,h3,h4,h5,h6⟩:=hi.pV;obtain ⟨k1,k2,k3⟩:=h.yN t (h6 g) (by simpa using h4);refine ⟨_,_,_, ?_,k3,k1,k2⟩;simp [Instr.alloc,h1,newVar,jP]
theorem IQ {C:cX} {imm:Bool} {t:TypeId} {i:TI} {v r:AV} {y:Value} {p:dF} {fx:Fx}
    (hp:LO imm t i v= .ok p) (hrun:aC C st p= .ok (r,fx)) (hy:R g v y) (h:Inv T A g st w):
    ba P T A g w r (fx.did.app st) (Instr.box t y):=by
  simp only [LO] at hp;split at hp
  · cases hp
  · rename_i hc
    simp only [Vl] at hc;have hyc:=wo hy hc.2;have hyo:=qp hc.2 hyc;split at hp
    · simp only [ae,ak] at hp
      obtain ⟨cs,h1,rfl⟩:=hp;simp only [aC,Vi,Vk] at hrun;obtain ⟨rfl,rfl⟩:=hrun;obtain ⟨f1,f2⟩:=Bf hyc h1;obtain ⟨k1,k2,k3⟩:=h.CW t f1 hyo;refine ⟨.pointer (some ⟨w.heap.size,0,none⟩),_,_, ?_, ?_,k1,k2⟩
      · simp [Instr.box,newVar,jP]
      · simp only [R]
        exact ⟨f2,_,_,rfl,k3⟩
    · simp only [Vi] at hp
      subst hp;simp only [aC,Vi,Vk] at hrun;obtain ⟨rfl,rfl⟩:=hrun;obtain ⟨k1,k2,k3⟩:=h.yN t hyc hyo;refine ⟨.pointer (some ⟨w.heap.size,0,none⟩),_,_, ?_,k3,k1,k2⟩;simp [Instr.box,newVar,jP]
theorem rM {t:TypeId} {i:TI} {fs:List (Nat×TypeId)} (hi:iP P t i) (hu:i.und= .struct fs):
    ∃fields:Array Field,(∀w,(underlying t).run P w= .ok (.struct fields) w)∧fields.toList.map (fun f=>(f.offset,f.type))=fs:=by
  obtain ⟨d,h1,h2,_⟩:=hi.mg;rw [hu] at h2;obtain ⟨fields,rfl,h3⟩:=h2;exact ⟨fields,h1,h3⟩
theorem eG {t e:TypeId} {i:TI} (hi:iP P t i) (hu:i.und= .slice e): ∀w,(underlying t).run P w= .ok (.slice e) w:=by
  obtain ⟨d,h1,h2,_⟩:=hi.mg;rw [hu] at h2;cases h2;exact h1
theorem qt {t e:TypeId} {n:Nat} {i:TI} (hi:iP P t i) (hu:i.und= .arr n e): ∀w,(underlying t).run P w= .ok (.array n e) w:=by
  obtain ⟨d,h1,h2,_⟩:=hi.mg;rw [hu] at h2;cases h2;exact h1
theorem tl {t:TypeId} {i:TI} (hi:iP P t i) (hu:i.und= .str): ∀w,(underlying t).run P w= .ok .string w:=by
  obtain ⟨d,h1,h2,_⟩:=hi.mg;rw [hu] at h2;cases h2;exact h1
theorem N5 {t:TypeId} {k:IntKind} {i:TI} (hi:iP P t i) (hu:i.und= .int k): ∀w,(underlying t).run P w= .ok (.int k) w:=by
  obtain ⟨d,h1,h2,_⟩:=hi.mg;rw [hu] at h2;cases h2;exact h1
theorem tU {t k e:TypeId} {i:TI} (hi:iP P t i) (hu:i.und= .map k e): ∀w,(underlying t).run P w= .ok (.map k e) w:=by
  obtain ⟨d,h1,h2,_⟩:=hi.mg;rw [hu] at h2;cases h2;exact h1
theorem Ai {fields:Array Field} {fs:List (Nat×TypeId)} (h:fields.toList.map (fun f=>(f.offset,f.type))=fs) {n off:Nat} {ft:TypeId}
    (hn:fs[n]? =some (off,ft)): ∃f,fields[n]? =some f∧f.offset=off∧f.type=ft:=by
  subst h;simp only [Wa,Wm] at hn;cases hf:fields[n]? with
  | none=>simp [hf] at hn
  | some f=>simp [hf] at hn;exact ⟨f,rfl,hn.1,hn.2⟩
theorem vW (hT:wA P T) {t:TypeId} {n:Nat} {a v:AV} {x:Value} (hp:fieldAddr T t a n= .ok v) (hx:R g a x) (h:Inv T A g st w):
    ba P T A g w v st (Instr.fieldAt t x n):=by
  simp only [fieldAddr,ae] at hp;obtain ⟨i,h1,h2⟩:=hp;have hi:=hT t i (cb.1 h1);split at h2
  · rename_i fs hu
    obtain ⟨fields,k1,k2⟩:=rM hi hu;split at h2
    · rename_i off ft hn
      obtain ⟨f,k3,rfl,rfl⟩:=Ai k2 hn;simp only [ae] at h2;obtain ⟨j,h3,h4⟩:=h2;have hj:=hT _ j (cb.1 h3);have hrun: ∀b o,x= .pointer (some ⟨b,o,none⟩)→j.size≠0→(Instr.fieldAt t x n).run P w= .ok (.pointer (some ⟨b,o+f.offset,none⟩)) w:=by
        rintro b o rfl hz;simp [Instr.fieldAt,k1,k3,Instr.sureAddr,fieldPlace,hj.cV,hz,Addr.eB]
      split at h4
      · cases h4
      · rename_i m hm
        split at h4
        · simp only [ak] at h4
          subst h4;simp only [R] at hx;obtain ⟨hb,b,o,hx,hr⟩:=hx;refine ba.of h (hrun b o hx (by omega)) ?_;simp only [R];exact ⟨sb _ hb,b,o+f.offset,rfl,AX _ hr⟩
        · simp only [ak] at h4
          subst h4;simp only [R] at hx;obtain ⟨b,hE,hx⟩:=hx;refine ba.of h (hrun b _ hx (by omega)) ?_;simp only [R];exact ⟨b,hE,rfl⟩
        · simp only [ak] at h4
          subst h4;simp only [R] at hx;obtain ⟨loc,b,cap,hE,hl,hx⟩:=hx;refine ba.of h (hrun b _ hx (by omega)) ?_;simp only [R];exact ⟨loc,b,cap,hE,hl,rfl⟩
        · cases h4
    · cases h2
  · cases h2
theorem ou {t:TypeId} {i:TI} (hi:iP P t i) {cs:List AV} {ys:Array Value} {off:Nat} {v:AV}
    (hp:cB i.size i.agg (cs.drop off)= .ok v) (hr:RL g cs ys.toList): ∃y,(part t ys off).run P w= .ok y w∧R g v y:=by
  obtain ⟨h1,h2⟩:=xu hp (iu off hr);cases ha:i.agg with
  | true=>
    obtain ⟨_,k2⟩:=h1 ha;refine ⟨_, ?_,k2⟩;simp only [part,Sem.run_bind,hi.wD,Result.andThen_ok,ha,if_true,hi.cV,Sem.run_pure];congr 2;apply Array.ext';simp [List.take_drop,Array.toList_extract]
  | false=>
    obtain ⟨y,l,k1,k2⟩:=h2 ha;refine ⟨y, ?_,k2⟩;have:ys[off]? =some y:=by
      rw [← Wm];have:=Wb (·[0]?) k1;simpa using this
    simp [part,hi.wD,ha,this]
theorem Eu (hT:wA P T) {t:TypeId} {n:Nat} {a v:AV} {x:Value} (hp:field T t a n= .ok v) (hx:R g a x) (h:Inv T A g st w):
    ba P T A g w v st (Instr.field t x n):=by
  simp only [field,ae] at hp;obtain ⟨i,h1,h2⟩:=hp;have hi:=hT t i (cb.1 h1);split at h2
  · rename_i fs cs hu
    obtain ⟨fields,k1,k2⟩:=rM hi hu;split at h2
    · rename_i off ft hn
      obtain ⟨f,k3,rfl,rfl⟩:=Ai k2 hn;simp only [ae] at h2;obtain ⟨j,h3,h4⟩:=h2;have hj:=hT _ j (cb.1 h3);simp only [R] at hx;obtain ⟨ys,rfl,hr⟩:=hx;obtain ⟨y,e1,e2⟩:=ou (w:=w) hj h4 hr;exact ba.of h (by simp [Instr.field,k1,k3,asAgg,e1]) e2
    · cases h2
  · cases h2
theorem wG {a:AV} {n:Int} {x:Value} (h:asInt a= .ok n) (hx:R g a x): ∃k,x= .int k n:=by
  cases a <;> simp [asInt] at h
  subst h;simp only [R] at hx;exact ⟨_,hx⟩
theorem iF {i:Int} {n k:Nat} (h:inside i n= .ok k):i=k∧k < n:=by
  unfold inside at h;split at h
  · split at h
    · rename_i hb
      rw [cH] at hb;simp only [Vi] at h;subst h;exact ⟨rfl,hb⟩
    · cases h
  · cases h
theorem ir {i:Int} {n k:Nat} (h:upto i n= .ok k):i=k∧k≤n:=by
  unfold upto at h;split at h
  · split at h
    · rename_i hb
      simp only [Vi] at h;subst h;exact ⟨rfl,VA hb⟩
    · cases h
  · cases h
theorem vU (hT:wA P T) {t:TypeId} {a ix v:AV} {x y:Value} (hp:indexAddr T t a ix= .ok v) (hx:R g a x) (hy:R g ix y) (h:Inv T A g st w):
    ba P T A g w v st (Instr.indexAt t x y):=by
  simp only [indexAddr,ae] at hp;obtain ⟨n,h0,i,h1,h2⟩:=hp;obtain ⟨kd,rfl⟩:=wG h0 hy;have hi:=hT t i (cb.1 h1);split at h2
  · rename_i e sz es p hu
    have k1:=eG hi hu;simp only [ae] at h2;obtain ⟨k,h3,j,h4,h5⟩:=h2;obtain ⟨rfl,hk⟩:=iF h3;have hj:=hT _ j (cb.1 h4);split at h5
    · rename_i hsz
      have hsz:=Vq hsz;simp only [ae,ak] at h5;obtain ⟨u,h6,rfl⟩:=h5;simp only [R] at hx;obtain ⟨hb,b,o,cap,rfl,hc,hz1,hr,_⟩:=hx;obtain ⟨e1,e2⟩:=xc hr h6;refine ba.of h (x:= .pointer (some ⟨b,o+k * sz,none⟩)) ?_ ?_
      · simp [Instr.indexAt,asIntOf,k1,hj.cV,Addr.eB,hsz]
        intro hh;omega
      · simp only [R]
        exact ⟨u6 (uQ hb h6),b,_,rfl,e2⟩
    · cases h5
  · rename_i e id off sz len cap hu
    have k1:=eG hi hu;simp only [ae] at h2;obtain ⟨k,h3,j,h4,h5⟩:=h2;obtain ⟨rfl,hk⟩:=iF h3;have hj:=hT _ j (cb.1 h4);split at h5
    · rename_i hsz
      have hsz:=Vq hsz;simp only [ak] at h5;subst h5;simp only [R] at hx;obtain ⟨b,o,hE,c,rfl,hc,hz1,ho,_⟩:=hx;have ho:=ho (by omega);subst ho;refine ba.of h (x:= .pointer (some ⟨b,o+k * sz,none⟩)) ?_ ?_
      · simp [Instr.indexAt,asIntOf,k1,hj.cV,Addr.eB,hsz]
        intro hh;omega
      · simp only [R]
        exact ⟨b,hE,rfl⟩
    · cases h5
  · rename_i len e id off hu
    have k1:=qt hi hu;simp only [ae,ak] at h2;obtain ⟨k,h3,j,h4,rfl⟩:=h2;obtain ⟨rfl,hk⟩:=iF h3;have hj:=hT _ j (cb.1 h4);simp only [R] at hx;obtain ⟨b,hE,rfl⟩:=hx;refine ba.of h (x:= .pointer (some ⟨b,off+k * j.size,none⟩)) ?_ ?_
    · simp [Instr.indexAt,Instr.sureAddr,asIntOf,k1,hj.cV,Addr.eB]
      intro hh;omega
    · simp only [R]
      exact ⟨b,hE,rfl⟩
  · rename_i len e cells hu
    have k1:=qt hi hu;simp only [ae,ak] at h2;obtain ⟨k,h3,j,h4,rfl⟩:=h2;obtain ⟨rfl,hk⟩:=iF h3;have hj:=hT _ j (cb.1 h4);simp only [R] at hx;obtain ⟨hb,b,o,rfl,hr⟩:=hx;refine ba.of h (x:= .pointer (some ⟨b,o+k * j.size,none⟩)) ?_ ?_
    · simp [Instr.indexAt,Instr.sureAddr,asIntOf,k1,hj.cV,Addr.eB]
      intro hh;omega
    · simp only [R]
      exact ⟨sb _ hb,b,_,rfl,AX _ hr⟩
  · rename_i len e id m off hu
    have k1:=qt hi hu;simp only [ae,ak] at h2;obtain ⟨k,h3,j,h4,rfl⟩:=h2;obtain ⟨rfl,hk⟩:=iF h3;have hj:=hT _ j (cb.1 h4);simp only [R] at hx;obtain ⟨loc,b,cap,hE,hl,rfl⟩:=hx;refine ba.of h (x:= .pointer (some ⟨b,off+k * j.size,none⟩)) ?_ ?_
    · simp [Instr.indexAt,Instr.sureAddr,asIntOf,k1,hj.cV,Addr.eB]
      intro hh;omega
    · simp only [R]
      exact ⟨loc,b,cap,hE,hl,rfl⟩
  · cases h2
end
section
variable {P:Program} {T:TT} {A:Nat→Prop} {g:Gh} {st:St} {w:World}
theorem L0 (s:List UInt8) (k:Nat):(⟨s.toArray⟩:ByteArray)[k]? =s[k]? :=by
 by_cases h:k < s.length
 ·rw [VG h,getElem?_pos (⟨s.toArray⟩:ByteArray) k (by simpa [ByteArray.size] using h)];simp [ByteArray.getElem_eq_getElem_data]
 ·rw [VW (Nat.le_of_not_lt h),getElem?_neg (⟨s.toArray⟩:ByteArray) k (by simpa [ByteArray.size] using h)]
theorem nD (s:List UInt8):(⟨s.toArray⟩:ByteArray).size=s.length:=by simp [ByteArray.size]
theorem DD (hT:wA P T) {t:TypeId} {a ix v:AV} {x y:Value} (hp:xg T t a ix= .ok v) (hx:R g a x) (hy:R g ix y) (h:Inv T A g st w):
  ba P T A g w v st (Instr.index t x y):=by
 simp only [xg,ae] at hp;obtain ⟨n,h0,i,h1,h2⟩:=hp;obtain ⟨kd,rfl⟩:=wG h0 hy;have hi:=hT t i (cb.1 h1);split at h2
 ·rename_i s hu;have k1:=tl hi hu;simp only [ae] at h2;obtain ⟨k,h3,h5⟩:=h2;obtain ⟨rfl,hk⟩:=iF h3;split at h5
  ·rename_i b hb;simp only [ak] at h5;subst h5;simp only [R] at hx;subst hx;refine ba.of h (x:= .int .u8 b.toNat) ?_ (by simp only [R]);simp [Instr.index,asIntOf,k1,L0,hb]
  ·cases h5
 ·rename_i len e cs hu;have k1:=qt hi hu;simp only [ae] at h2;obtain ⟨k,h3,j,h4,h5⟩:=h2;obtain ⟨rfl,hk⟩:=iF h3;have hj:=hT _ j (cb.1 h4);simp only [R] at hx;obtain ⟨ys,rfl,hr⟩:=hx;obtain ⟨y,e1,e2⟩:=ou (w:=w) hj h5 hr;refine ba.of h (x:=y) ?_ e2;have hkn:¬ (len≤k):=by omega
  simp [Instr.index,asIntOf,k1,hkn,hj.cV,e1]
 ·cases h2
def I5 (n:Option Int) (x:Option Value):Prop:=match n,x with | none,none=>True | some n,some y=> ∃k,y= .int k n | _,_=>False
def Ko (g:Gh) (a:Option AV) (x:Option Value):Prop:=match a,x with | none,none=>True | some v,some y=>R g v y | _,_=>False
theorem pP {a:Option AV} {n:Option Int} {x:Option Value} (h:kN a= .ok n) (hx:Ko g a x):I5 n x:=by
 cases a with
 | none=>
  cases x with
  | none=>simp only [kN,Vi] at h;subst h;trivial
  | some y=>exact hx.elim
 | some v=>
  cases x with
  | none=>exact hx.elim
  | some y=>
   simp only [kN,ae,ak] at h;obtain ⟨m,h1,rfl⟩:=h;exact wG h1 hx
theorem run_sliceBound {k:IntKind} {n m:Nat} {code:BoundsCode} (h:n≤m):(Instr.sliceBound (.int k n) m code).run P w= .ok n w:=by
 simp [Instr.sliceBound,asIntOf,h]
theorem jK {isSlice:Bool} {len cap dflt:Nat} {lo hi mx:Option Int} {xl xh xm:Option Value} {l hh m:Nat} (hl:I5 lo xl) (hhi:I5 hi xh) (hm:I5 mx xm)
  (h1:kU mx cap cap= .ok m) (h2:kU hi m dflt= .ok hh) (hd:mx=none→dflt=len) (h3:qY lo hh= .ok l) (hmx:mx≠none→hi≠none):
  (Instr.sliceBounds isSlice len cap xl xh xm).run P w= .ok (l,hh,m) w:=by
 have b1: ∀{k:IntKind} {n m:Nat} {code:BoundsCode},n≤m→(Instr.sliceBound (.int k n) m code).run P w= .ok n w:=fun h=>run_sliceBound h;cases xm <;> cases mx <;> first | exact hm.elim | skip
 ·have hd:=hd rfl;subst hd;simp only [kU,Vi] at h1;subst h1;cases xh <;> cases hi <;> first | exact hhi.elim | skip
  ·simp only [kU,Vi] at h2;subst h2;cases xl <;> cases lo <;> first | exact hl.elim | skip
   ·simp only [qY,Vi] at h3;subst h3;simp [Instr.sliceBounds]
   ·obtain ⟨k,rfl⟩:=hl;obtain ⟨rfl,hle⟩:=ir h3;simp [Instr.sliceBounds,b1 hle]
  ·obtain ⟨k,rfl⟩:=hhi;obtain ⟨rfl,hle2⟩:=ir h2;cases xl <;> cases lo <;> first | exact hl.elim | skip
   ·simp only [qY,Vi] at h3;subst h3;simp [Instr.sliceBounds,b1 hle2]
   ·obtain ⟨k,rfl⟩:=hl;obtain ⟨rfl,hle⟩:=ir h3;simp [Instr.sliceBounds,b1 hle,b1 hle2]
 ·obtain ⟨k0,rfl⟩:=hm;obtain ⟨rfl,hle1⟩:=ir h1;cases xh <;> cases hi <;> first | exact hhi.elim | skip
  ·exact absurd rfl (hmx (by simp))
  ·obtain ⟨k,rfl⟩:=hhi;obtain ⟨rfl,hle2⟩:=ir h2;cases xl <;> cases lo <;> first | exact hl.elim | skip
   ·simp only [qY,Vi] at h3;subst h3;simp [Instr.sliceBounds,b1 hle1,b1 hle2]
   ·obtain ⟨k,rfl⟩:=hl;obtain ⟨rfl,hle⟩:=ir h3;simp [Instr.sliceBounds,b1 hle1,b1 hle,b1 hle2]
theorem EA (s:List UInt8) (l h:Nat):(⟨s.toArray⟩:ByteArray).extract l h=⟨((s.take h).drop l).toArray⟩:=by
 apply ByteArray.ext;simp [ByteArray.data_extract,List.drop_take]
theorem vZ {t:TypeId} {i:TI} (hi:iP P t i) (hu:i.und= .str) {s:List UInt8} {lo hh:Option Int} {xl xh:Option Value} {l m:Nat} (hl:I5 lo xl) (hhi:I5 hh xh)
  (h2:kU hh s.length s.length= .ok m) (h3:qY lo m= .ok l):
  (Instr.sliceAt t (.string ⟨s.toArray⟩) xl xh none).run P w= .ok (.string ⟨((s.take m).drop l).toArray⟩) w:=by
 have k1:=tl hi hu;have hb:=jK (P:=P) (w:=w) (isSlice:=false) (len:=s.length) (cap:=s.length) (mx:=none) (xm:=none) hl hhi trivial (m:=s.length) (dflt:=s.length) rfl h2 (fun _=>rfl) h3 (by simp);simp [Instr.sliceAt,Instr.slice,k1,nD,hb,EA]
theorem nk {t e:TypeId} (k1: ∀w,(underlying t).run P w= .ok (.slice e) w) (a:Option Addr) (len cap:Nat) (xl xh xm:Option Value) {l hh m sz:Nat}
  (hb:(Instr.sliceBounds true len cap xl xh xm).run P w= .ok (l,hh,m) w) (hs:(sizeOf e).run P w= .ok sz w):
  (Instr.sliceAt t (.slice a len cap) xl xh xm).run P w= .ok (.slice (if m=l then a else a.map (·.add (l * sz))) (hh - l) (m - l)) w:=by
 simp [Instr.sliceAt,Instr.slice,k1,hb,hs]
theorem wu {k n:Nat} (h:k≤n):upto (k:Int) n= .ok k:=by
 have:k.ble n=true:=VS h;show (match k.ble n with | true=>Except.ok k | false=>Except.error _)= _;rw [this]
theorem mG {hi:Option Int} {m d h:Nat} (e:kU hi m d= .ok h) (hd:d≤m):h≤m:=by
 cases hi with
 | none=>simp only [kU,Vi] at e;omega
 | some n=>exact (ir e).2
theorem tQ {lo:Option Int} {h l:Nat} (e:qY lo h= .ok l):l≤h:=by
 cases lo with
 | none=>simp only [qY,Vi] at e;omega
 | some n=>exact (ir e).2
theorem Bn {z b o:Nat} {l:List AV} (h:l=[]):gJ g z l b o:=by subst h;simp [gJ]
theorem xN {z:Nat} {es:List AV} {b o l hh m:Nat} (hb:bx es=true) (hz:1≤z) (hr:gJ g z es b o) (hlh:l≤hh) (hhe:hh≤es.length) (hhm:hh≤m) {p:Perm}
  (hp:(m≠l→sU g p (hh - l) b (o+l * z) (m - l))∧(m=l→sU g p (hh - l) b o (m - l))):
  R g (.sl z ((es.take hh).drop l) p) (.slice (if m=l then some ⟨b,o,none⟩ else (some (⟨b,o,none⟩:Addr)).map (·.add (l * z))) (hh - l) (m - l)):=by
 have hlen:((es.take hh).drop l).length=hh - l:=by simp;omega
 simp only [R,hlen];refine ⟨sb _ (FH _ hb), ?_⟩;by_cases hml:m=l
 ·rw [if_pos hml];refine ⟨b,o,m - l,rfl,by omega,hz,Bn ?_,hp.2 hml⟩;apply V8;omega
 ·rw [if_neg hml];refine ⟨b,o+l * z,m - l,by simp [Addr.eB],by omega,hz, ?_,hp.1 hml⟩;exact I3 _ (Ip _ hr) (by simp;omega)
theorem DF (hT:wA P T) {t:TypeId} {a v:AV} {x:Value} {lo hi mx:Option AV} {xl xh xm:Option Value} (hp:lJ T t a lo hi mx= .ok v) (hx:R g a x)
  (hl:Ko g lo xl) (hhi:Ko g hi xh) (hm:Ko g mx xm) (h:Inv T A g st w) (hmx:mx≠none→hi≠none):ba P T A g w v st (Instr.sliceAt t x xl xh xm):=by
 simp only [lJ,ae] at hp;obtain ⟨nl,e1,nh,e2,nm,e3,i,e4,h2⟩:=hp;have hi':=hT t i (cb.1 e4);have ol:=pP e1 hl;have oh:=pP e2 hhi;have om:=pP e3 hm;have hmx':nm≠none→nh≠none:=fun hn=>by
  have:mx≠none:=fun e=>by subst e;simp only [kN,Vi] at e3;exact hn e3.symm
  have:=hmx this;cases hi with
  | none=>exact absurd rfl this
  | some y=>
   simp only [kN,ae,ak] at e2;obtain ⟨_,_,rfl⟩:=e2;simp
 split at h2
 ·rename_i s hu;simp only [ae,ak] at h2;obtain ⟨m,f1,l,f2,rfl⟩:=h2;simp only [R] at hx;subst hx;cases xm with
  | some y=>exact om.elim
  | none=>exact ba.of h (vZ hi' hu ol oh f1 f2) (by simp only [R])
 ·rename_i nm _ _ _ e hu;simp only [ae,ak] at h2;obtain ⟨j,f0,m,f1,hh,f2,l,f3,rfl⟩:=h2;have hj:=hT _ j (cb.1 f0);simp only [R] at hx;subst hx;have hm0:=mG f1 (Vn _);have hh0:=mG f2 (Wc _);have hl0:=tQ f3;have hb:=jK (P:=P) (w:=w) (isSlice:=true) (len:=0) (cap:=0) (dflt:=0) ol oh om f1 f2 (fun _=>rfl) f3 hmx';have:=nk (eG hi' hu) none 0 0 xl xh xm hb (hj.cV w);refine ba.of h (x:= .slice none 0 0) ?_ (by simp only [R]);rw [this];have h0:m - l=0:=by omega
  have h1:hh - l=0:=by omega
  simp [h0,h1]
 ·rename_i nm _ _ _ e hu;simp only [ae,ak] at h2;obtain ⟨j,f0,m,f1,hh,f2,l,f3,rfl⟩:=h2;have hj:=hT _ j (cb.1 f0);simp only [R] at hx;obtain ⟨a,rfl⟩:=hx;have hm0:=mG f1 (Vn _);have hh0:=mG f2 (Wc _);have hl0:=tQ f3;have hb:=jK (P:=P) (w:=w) (isSlice:=true) (len:=0) (cap:=0) (dflt:=0) ol oh om f1 f2 (fun _=>rfl) f3 hmx';have:=nk (eG hi' hu) (some a) 0 0 xl xh xm hb (hj.cV w);refine ba.of h (x:= .slice (some a) 0 0) ?_ (by simp only [R];exact ⟨a,rfl⟩);rw [this];have h2:l=0:=by omega
  have h3:m=0:=by omega
  have h4:hh=0:=by omega
  subst h2 h3 h4;rfl
 ·rename_i nm _ _ _ e id off sz len cap hu;simp only [ae] at h2;obtain ⟨j,f0,h3⟩:=h2;split at h3
  ·cases h3
  ·rename_i hsz;have hsz:=Vq hsz;have hj:=hT _ j (cb.1 f0);simp only [ae] at h3;obtain ⟨m,f1,hh,f2,l,f3,h4⟩:=h3;split at h4
   ·rename_i hle;have hle:=VA hle;simp only [ak] at h4;subst h4;simp only [R] at hx;obtain ⟨b,o,hE,c,rfl,hc,hz1,ho,hcc⟩:=hx;have hmm: ∃m',kU nm c c= .ok m'∧kU nh m' len= .ok hh∧hh≤m'∧m'≤c∧(m - l=m' - l∨m - l=0):=by
     rcases hcc with rfl | rfl
     ·exact ⟨m,f1,f2,hle,mG f1 (Vn _),.inl rfl⟩
     ·have hm0:m≤0:=mG f1 (Vn _);cases nm with
      | none=>
       refine ⟨c,rfl, ?_,by omega,Vn _,.inr (by omega)⟩;cases nh with
       | none=>exact f2
       | some n=>
        obtain ⟨rfl,hq⟩:=ir f2;exact wu (by omega)
      | some y=>
       obtain ⟨q1,q2⟩:=ir (show upto y 0= .ok m from f1);subst q1;exact ⟨m,wu (by omega),f2,hle,by omega,.inl rfl⟩
    obtain ⟨m',f1,f2,hle,hmc,hcm⟩:=hmm;have hb:=jK (P:=P) (w:=w) (isSlice:=true) (len:=len) (cap:=c) (dflt:=len) ol oh om f1 f2 (fun _=>rfl) f3 hmx';have:=nk (eG hi' hu) (some ⟨b,o,none⟩) len c xl xh xm hb (hj.cV w);refine ba.of h this ?_;have hl0:=tQ f3;simp only [R];by_cases hml:m'=l
    ·rw [if_pos hml];exact ⟨b,o,hE,m' - l,rfl,by omega,hz1,fun hne=>absurd (by omega:m' - l=0) hne,hcm⟩
    ·rw [if_neg hml];have hcap:c≠0:=fun e=>by omega
     refine ⟨b,o+l * j.size,hE,m' - l,by simp [Addr.eB],by omega,hz1,fun _=>by rw [ho hcap,hsz],hcm⟩
   ·cases h4
 ·rename_i e sz es p hu;simp only [ae] at h2;obtain ⟨j,f0,h3⟩:=h2;split at h3
  ·cases h3
  ·rename_i hsz;have hsz:=Vq hsz;have hj:=hT _ j (cb.1 f0);simp only [ae] at h3;obtain ⟨hh,f2,l,f3,h4⟩:=h3;simp only [R] at hx;obtain ⟨hb0,b,o,cap,rfl,hc,hz1,hr,hperm⟩:=hx;cases xm with
   | some y=>exact om.elim
   | none=>
    have f2':kU nh cap es.length= .ok hh:=by
     cases nh with
     | none=>exact f2
     | some n=>
      obtain ⟨rfl,hq⟩:=ir f2;exact wu (by omega)
    have hb:=jK (P:=P) (w:=w) (isSlice:=true) (len:=es.length) (cap:=cap) (mx:=none) (xm:=none) (dflt:=es.length) (m:=cap) ol oh trivial rfl f2' (fun _=>rfl) f3 (by simp);have hrun:=nk (eG hi' hu) (some ⟨b,o,none⟩) es.length cap xl xh none hb (hj.cV w);have hhe:=mG f2 (Vn _);have hl0:=tQ f3;rw [← hsz] at hrun;refine ba.of h hrun ?_;have wide:R g (.sl sz ((es.take hh).drop l) .wide) (.slice (if cap=l then some ⟨b,o,none⟩ else (some (⟨b,o,none⟩:Addr)).map (·.add (l * sz))) (hh - l) (cap - l)):=
     xN hb0 hz1 hr hl0 hhe (by omega) ⟨fun _=>trivial,fun _=>trivial⟩
    split at h4
    ·rename_i hq;have hq:=Vq hq;simp only [ak] at h4;subst h4;have hcap:cap=es.length:=hperm;have:=xN (m:=cap) (p:= .shut) hb0 hz1 hr hl0 hhe (by omega) ⟨fun _=>by show cap - l=hh - l;omega,fun _=>by show cap - l=hh - l;omega⟩
     rwa [List.take_of_length_le (by omega)] at this
    ·rename_i k hq;have hq:=Vq hq;split at h4
     ·rename_i hl;have hl:=Vq hl;subst hl;simp only [ak] at h4;subst h4;obtain ⟨ho0,hloc⟩:=hperm;subst ho0;have hx:(if cap=0 then some (⟨b,0,none⟩:Addr) else (some (⟨b,0,none⟩:Addr)).map (·.add (0 * sz)))=some ⟨b,0,none⟩:=by
       split <;> simp [Addr.eB]
      simp only [R];refine ⟨hb0,b,0,cap, ?_,hc,hz1,hr,rfl,hloc⟩;rw [hx];simp [hq]
     ·simp only [ak] at h4;subst h4
      rwa [List.take_of_length_le (by omega)] at wide
    ·simp only [ak] at h4;subst h4;exact wide
 ·rename_i e sz es p m0 hu;simp only [ae] at h2;obtain ⟨j,f0,h3⟩:=h2;split at h3
  ·cases h3
  ·rename_i hsz;have hsz:=Vq hsz;have hj:=hT _ j (cb.1 f0);simp only [ae,ak] at h3;obtain ⟨m,f1,hh,f2,l,f3,rfl⟩:=h3;simp only [R] at hx;obtain ⟨hb0,b,o,cap,rfl,hc,hz1,hr,hperm⟩:=hx;obtain ⟨rfl,hmle⟩:=ir f1;have f1':kU (some (m:Int)) cap cap= .ok m:=by
    exact wu (by omega)
   have hb:=jK (P:=P) (w:=w) (isSlice:=true) (len:=es.length) (cap:=cap) (mx:=some (m:Int)) (dflt:=m) ol oh om f1' f2 (by simp) f3 hmx';have hrun:=nk (eG hi' hu) (some ⟨b,o,none⟩) es.length cap xl xh xm hb (hj.cV w);have hhe:=mG f2 (Vn _);have hl0:=tQ f3;rw [← hsz] at hrun;refine ba.of h hrun ?_;refine xN hb0 hz1 hr hl0 (by omega) hhe ?_;cases hq:m.beq hh with
   | true=>
    have hq:=Vq hq;exact ⟨fun _=>by show m - l=hh - l;omega,fun _=>by show m - l=hh - l;omega⟩
   | false=>exact ⟨fun _=>trivial,fun _=>trivial⟩
 ·cases h2
end
end Go.VM
