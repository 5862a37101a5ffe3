/-
  A part of the proof.
-/
import Derived.Test.YtkpeicabocpbkaaGreatDoorVmAH
import Derived.Laws.MakeOwn
import Derived.OrdersIn
import Derived.RangeFuncIn
import Derived.LoopNIn
set_option linter.all false
namespace Go.VM
def lM (T:TT) (A:Nat->Prop) (g:Gh) (st':St) (w:World) (v:AV) (x:Value) (w':World):Prop:= ∃g',R g' v x/\Inv T A g' st' w'/\Kp A g w g' w'
def wR (P:Program) (f:FuncId) (args:Array Value) (w:World) (post:Value->World->Prop):Prop:=
 (∃x w',(callFunc f args).run P w= .ok (.value x) w'/\post x w')\/
 ((callFunc f args).run P w= .ok (.enter f args) w/\Calls P f args w fun e w'=> ∃x,e= .returned x/\post x w')
def DZ (P:Program) (l:Nat) (args:Array Value) (w:World) (post:Value->World->Prop):Prop:=
 ∃fn tmps a c,(Instr.yield l args).run P w= .ok (.round l fn tmps a c) w/\RoundIn Fence.wide 0 P l fn tmps a c w fun e w'=> ∃x,e= .returned x/\post x w'
structure Ao (P:Program) (T:TT) (G:Nat->Oq LA) (C:dh):Prop where
 bare: ∀f args v,C.bare f args= .ok v-> ∀A g st w xs,GR g G->bN args=true->RL g args xs->Inv T A g st w->wR P f xs.toArray w (lM T A g st w v)
 wide: ∀f args st v st',C.wide f args st= .ok (v,st')-> ∀A g w xs,GR g G->RL g args xs->Inv T A g st w->
  (callFunc f xs.toArray).run P w= .ok (.enter f xs.toArray) w/\Calls P f xs.toArray w fun e w'=> ∃x,e= .returned x/\lM T A g st' w v x w'
 look: ∀f args st v,C.look f args st= .ok v-> ∀A g w xs,GR g G->RL g args xs->Inv T A g st w->wR P f xs.toArray w (lM T A g st w v)
 round: ∀k args st v st',C.round k args st= .ok (v,st')-> ∀A g w xs l,GR g G->RL g args xs->Inv T A g st w->g.E k=some (.cw l)->DZ P l xs.toArray w (lM T A g st' w v)
def EL (P:Program) (T:TT) (G:Nat->Oq LA) (prim:FuncId->Oq Prim):Prop:=
 ∀f q,prim f=some q-> ∀C args p v a st A g w xs,GR g G->dy q args= .ok p->aE C st p= .ok (v,a)->RL g args xs->Inv T A g st w->wR P f xs.toArray w (lM T A g (a.did.app st) w v)
section
variable {P:Program} {T:TT} {A:Nat->Prop} {g:Gh} {st:St} {w:World}
theorem LU (hT:yp P T) {C:dh} {t:Td} {ts:Array Td} {ty:Td} {x v:AV} {xv:Value} {p:dI} {D:Fx} (j:ts[0]? =some t) (y:BU T t x= .ok p) (hrun:aE C st p= .ok (v,D)) (hx:R g x xv) (h:Inv T A g st w):
  bn P T A g w v (D.did.app st) (Builtin.len_ ts ty #[xv]):=by
 simp only [BU,ah] at y;obtain ⟨i,h1,f⟩:=y;have hi:=hT t i (cy.1 h1);have plain: ∀{n:Int},p= .val (.int .i64 n)->(Builtin.len_ ts ty #[xv]).run P w= .ok (goInt n) w->bn P T A g w v (D.did.app st) (Builtin.len_ ts ty #[xv]):=fun y E=>by
  subst y;simp only [aE,aac,aag] at hrun;obtain ⟨rfl,rfl⟩:=hrun;exact bn.of h E (by simp only [R];rfl)
 split at f
 .rename_i n e _ q;simp only [au] at f;exact plain f.symm (by simp [Builtin.len_,j,sb hi q])
 .rename_i s q;simp only [au] at f;simp only [R] at hx;subst hx;exact plain f.symm (by simp [Builtin.len_,j,uN hi q,nY])
 .rename_i e q;simp only [au] at f;simp only [R] at hx;subst hx;exact plain f.symm (by simp [Builtin.len_,j,eW hi q])
 .rename_i e z es S q;simp only [au] at f;simp only [R] at hx;obtain ⟨_,b,o,cap,rfl,_⟩:=hx;exact plain f.symm (by simp [Builtin.len_,j,eW hi q])
 .rename_i e U V W X Y q;simp only [au] at f;simp only [R] at hx;obtain ⟨b,o,_,c,rfl,_⟩:=hx;exact plain f.symm (by simp [Builtin.len_,j,eW hi q])
 .rename_i e k z n q;simp only [au] at f;simp only [R] at hx;obtain ⟨_,b,cap,_,_,rfl,_⟩:=hx;exact plain f.symm (by simp [Builtin.len_,j,eW hi q])
 .rename_i e q;simp only [au] at f;simp only [R] at hx;obtain ⟨a,rfl⟩:=hx;exact plain f.symm (by simp [Builtin.len_,j,eW hi q])
 .rename_i k e q;simp only [au] at f;simp only [R] at hx;subst hx;exact plain f.symm (by simp [Builtin.len_,j,uq hi q])
 .rename_i k e es q;simp only [au] at f;simp only [R] at hx;obtain ⟨b,ents,clk,F,rfl,G⟩:=hx;have r:=h.M b ents clk F;have u:(getObj b).run P w= .ok (.map ents.toArray clk) w:=by simp [getObj,Sem.run,r]
  have hl:ents.length=es.length:=d G;exact plain f.symm (by simp [Builtin.len_,j,uq hi q,u,hl])
 .rename_i k e m q;simp only [au] at f;subst f;simp only [iV,aE,ah,au] at hrun;obtain ⟨o,I,⟨v',o'⟩,⟨J,B,g4⟩,dd,g5,g6⟩:=hrun;simp only [aag] at g4 g6;obtain ⟨rfl,rfl⟩:=g4;simp only [fK,aac] at g5;subst g5;obtain ⟨rfl,rfl⟩:=g6;split at B
  .rename_i es;simp only [aac] at B;subst B;simp only [R] at hx;obtain ⟨b,hE,rfl⟩:=hx;obtain ⟨b',ents,clk,K,L,N,Z⟩:=h.H m _ I;have O:b'=b:=by have:=K.symm.trans hE;simpa using this
   subst O;have u:(getObj b').run P w= .ok (.map ents clk) w:=by simp [getObj,Sem.run,L]
   have hl:=d N;simp only [abK] at hl;exact bn.of h (x:=goInt ents.size) (by simp [Builtin.len_,j,uq hi q,u]) (by simp only [R,hl];rfl)
  .cases B
 .cases f
 where
 d: ∀{es:List (AV×AV)} {ents:List MapEntry},rG g es ents->ents.length=es.length
  | [],_,h=>by simp only [rG] at h;subst h;rfl
  | (_,_)::es,_,h=>by
   simp only [rG] at h;obtain ⟨e,l,rfl,_,_,Q⟩:=h;simp [d Q]
theorem oN {lower:Bool}: ∀{l:LA} {ls:List Value} {a v:AV} {x:Value},vB lower a l= .ok v->R g a x->RL g l ls->
  ∃z,(ls.foldlM (if lower then Builtin.min2 else Builtin.max2) x).run P w= .ok z w/\R g v z
 | [],_,a,v,x,h,hx,hl=>by
  simp only [vB,aac] at h;subst h;simp only [RL] at hl;subst hl;exact ⟨x,rfl,hx⟩
 | b::l,_,a,v,x,h,hx,hl=>by
  simp only [RL] at hl;obtain ⟨y,ys,rfl,h1,f⟩:=hl;simp only [vB,ah] at h;obtain ⟨c,i,h4⟩:=h;obtain ⟨z,d,j⟩:=IW (P:=P) (w:=w) i hx h1;obtain ⟨k,e,m⟩:=oN h4 j f;refine ⟨k, ?_,m⟩;rw [List.foldlM_cons];cases lower <;> simp only [aaB,if_false,if_true] at d e ⊢ <;> simp only [Sem.run_bind,d,Result.andThen_ok,e]
def _root_.Go.Oper.KU (P:Program) (o:Oper) (a:Act) (w:World) (K:Act->World->Prop):Prop:=
 match (execOp a.eval o).run P w with
 | .ok (.value v) w'=>K (a.put o.dst v) w'
 | .ok .skip w'=>K (a.put o.dst Go.undef) w'
 | .ok (.enter f args) w'=>Calls P f args w' fun e b=> ∃x,e= .returned x/\K (a.put o.dst x) b
 | .ok (.round l f tmps x c) w'=>RoundIn Fence.wide 0 P l f tmps x c w' fun e b=> ∃x,e= .returned x/\K (a.put o.dst x) b
 | _=>False
def fe (ro:Oq Nat):Fence:={Fence.wide with round:=ro}
theorem O0 {o:Oper} {a:Act} {K:Act->World->Prop} {Q:Exit->Act->World->Prop} {ro:Oq Nat} (h:o.KU P a w K) (hd: ∀c,o.op≠ .defer c):o.wpIn (fe ro) 0 P a w K Q:=by
 refine ⟨fun _ _=>trivial, ?_⟩;show o.uponIn (fe ro) 0 P a K Q ((o.semAt ro a.eval).run P w);rw [Oper.semAt_eq ro a.eval o hd];unfold Go.Oper.KU at h;generalize (execOp a.eval o).run P w=r at h;cases r with
 | halt x w'=>exact h.elim
 | ok x w'=>
  cases x <;> first | exact h | exact h.elim | skip
  .refine ⟨fun e=>by simp [fe,Fence.wide] at e, ?_⟩;have h:CallsIn Fence.wide 0 P _ _ w' fun e b=> ∃x,e= .returned x/\K (a.put o.dst x) b:=callsIn_wide.2 h;refine CallsIn.mono h ?_;rintro e b ⟨x,rfl,d⟩;exact d
  .refine ⟨fun e=>by simp [fe,Fence.wide] at e, ?_⟩;refine RoundIn.mono h ?_;rintro e b ⟨x,rfl,d⟩;exact d
theorem fH {o:Oper} {a:Act} {K:Act->World->Prop} {s:Sem Value} {v:AV} {st':St} (b:execOp a.eval o=(do pure (.value (<- s)))) (c:bn P T A g w v st' s)
  (hK: ∀x w',lM T A g st' w v x w'->K (a.put o.dst x) w'):o.KU P a w K:=by
 obtain ⟨x,g',w',h1,d,e,h4⟩:=c;unfold Go.Oper.KU;rw [b];simp only [Sem.run_bind,h1,Result.andThen_ok,Sem.run_pure];exact hK x w' ⟨g',d,e,h4⟩
theorem yu {o:Oper} {a:Act} {K:Act->World->Prop} {s:Sem Unit} {st':St} (b:execOp a.eval o=(do s;pure .skip)) (c:DP P T A g w st' s)
  (hK: ∀x w',lM T A g st' w undef x w'->K (a.put o.dst x) w'):o.KU P a w K:=by
 obtain ⟨g',w',h1,d,h4⟩:=c;unfold Go.Oper.KU;rw [b];simp only [Sem.run_bind,h1,Result.andThen_ok,Sem.run_pure];exact hK Go.undef w' ⟨g',DH,d,h4⟩
theorem Nz {o:Oper} {a:Act} {K:Act->World->Prop} {l:Nat} {args:Array Value} {v:AV} {st':St} (b:execOp a.eval o=Instr.yield l args) (d:DZ P l args w (lM T A g st' w v))
  (hK: ∀x w',lM T A g st' w v x w'->K (a.put o.dst x) w'):o.KU P a w K:=by
 unfold Go.Oper.KU;rw [b];obtain ⟨fn,tmps,x,c,h1,f⟩:=d;rw [h1];refine RoundIn.mono f ?_;rintro e w' ⟨y,rfl,h⟩;exact ⟨y,rfl,hK y w' h⟩
theorem yE {o:Oper} {a:Act} {K:Act->World->Prop} {f:FuncId} {args:Array Value} {v:AV} {st':St} (c:execOp a.eval o=callFunc f args) (d:wR P f args w (lM T A g st' w v))
  (hK: ∀x w',lM T A g st' w v x w'->K (a.put o.dst x) w'):o.KU P a w K:=by
 unfold Go.Oper.KU;rw [c];rcases d with ⟨x,w',h1,b⟩ | ⟨h1,b⟩
 .rw [h1];exact hK x w' b
 .rw [h1];refine b.mono ?_;rintro e w' ⟨x,rfl,h⟩;exact ⟨x,rfl,hK x w' h⟩
theorem ud {X:cY AV} {p:dI} (h:(do pure (dI.val (<- X)):cY dI)= .ok p): ∃v,X= .ok v/\p= .val v:=by
 simp only [ah,au] at h;obtain ⟨v,h1,a⟩:=h;exact ⟨v,h1,a.symm⟩
theorem Ap (zs:Array Value): ∀(c:Nat),(madeCells zs (c * zs.size)).toList=(List.replicate c zs.toList).flatten
 | 0=>by simp [madeCells]
 | c+1=>by
  have ih:=Ap zs c;simp only [madeCells,Array.toList_map,Array.toList_range] at ih ⊢;rw [show (c+1) * zs.size=zs.size+c * zs.size by rw [Nat.add_mul,Nat.one_mul,abC],List.range_add,aaK,List.replicate_succ,List.flatten_cons, <- ih,List.map_map];congr 1
  .apply List.ext_getElem?
   intro k;rw [abc];by_cases a:k < zs.size
   .rw [List.getElem?_range a,abn,Array.getElem?_eq_getElem a];simp [Nat.mod_eq_of_lt a,a]
   .rw [aaX (by simp;omega),aaX (by simp;omega)];rfl
  .apply List.map_congr_left;intro k _;simp
theorem ni (l:List Value): ∀c,kO l c=(List.replicate c l).flatten
 | 0=>rfl
 | c+1=>by rw [kO,ni l c,List.replicate_succ,List.flatten_cons]
theorem xY (hT:yp P T) {C:dh} {t:Td} {l c v:AV} {D E:Value} {p:dI} {F:Fx} (G:pJ T t l c= .ok p) (hrun:aE C st p= .ok (v,F)) (hl:R g l D) (H:R g c E) (h:Inv T A g st w):
  bn P T A g w v (F.did.app st) (Instr.makeSlice t D E):=by
 simp only [pJ,ah] at G;obtain ⟨it,h1,r⟩:=G;rw [cy] at h1;split at r
 .rename_i e Q I kc b k;simp only [ah] at r;obtain ⟨i,s,h4⟩:=r;rw [cy] at s;split at h4
  .rename_i m;simp only [aaf,Nat.ble_eq] at m;obtain ⟨⟨⟨⟨J,c2⟩,S⟩,U⟩,K⟩:=m;simp only [R] at hl H;subst hl H;obtain ⟨d,V,L,_⟩:=(hT t it h1).und;rw [k] at L;have W:P.underlying t=some (.slice e):=by rw [V,L]
   obtain ⟨f,X,Y,Z,z,i4,M,i6,i7,i8,i9⟩:=(hT e i s).info;have o:=run_make (P:=P) w t e f z W X i4 Q kc (.ofNat I) (.ofNat b) (Int.natCast_nonneg I) (Int.ofNat_le.2 J) (by rw [Z];exact Int.ofNat_le.2 S) (Int.ofNat_le.2 U);have N:(madeCells z.cells (b * z.cells.size)).toList=(List.replicate b z.cells.toList).flatten:=Ap z.cells b;have q: ∀x∈kO z.cells.toList b,x.oneCell'=true:=fun x hx=>by
    rw [ni] at hx;obtain ⟨l',u,y⟩:=List.mem_flatten.1 hx;have:=List.eq_of_mem_replicate u;subst this;exact i7 x (by simpa using y)
   have a:(madeCells z.cells ((Int.ofNat b).toNat * f.size))=(kO z.cells.toList b).toArray:=by
    rw [ni, <- N,Y, <- M];simp
   split at h4
   .rename_i j;have j:=aan j;subst j;simp only [au] at h4;subst h4;simp only [aE,aac,aag] at hrun;obtain ⟨rfl,rfl⟩:=hrun;obtain ⟨g',k1,B,O⟩:=h.RF (els:=[]) (vals:=[]) (rest:=kO z.cells.toList b) (cap:=b) (n:=0) s K rfl (by simp) rfl (by simp [flat,RL]) (by simp) (by rw [aae,aau,ni, <- N,abK,size_madeCells,M]) (aba _);refine ⟨_,g',_,o,O, ?_, ?_⟩
    .rw [a];exact k1
    .rw [a];exact B
   simp only [au] at h4;subst h4;simp only [aE,aac,aag] at hrun;obtain ⟨rfl,rfl⟩:=hrun;obtain ⟨k1,B,O⟩:=h.zp e (AP (i9 g) b) q;refine ⟨_,g.dP st.h (.cw w.heap.size),_,o, ?_, ?_, ?_⟩
   .simp only [R];exact ⟨w.heap.size,0,Gh.bJ _ _ _,_,rfl,J,K,fun _=>rfl,.inl rfl⟩
   .rw [a];exact k1
   .rw [a];exact B
  .cases h4
 .cases r
theorem rz {C:dh} {u v:AV} {a:Fx} (h:aE C st (.val u)= .ok (v,a)):u=v/\a=⟨[],.kept⟩:=by
 simp only [aE,aac,aag] at h;exact ⟨h.1,h.2.symm⟩
theorem Io (X:Cx) (hT:yp P X.T) (hC:Ao P X.T X.G X.C) (a8:EL P X.T X.G X.prim) {o:Oper} {fr:Fr} {a:Act} {p:dI} {v:AV} {fx:Fx} {K:Act->World->Prop}
  (n:eY X.T X.prim X.imm X.G fr o.op= .ok p) (hrun:aE X.C st p= .ok (v,fx)) (D:GR g X.G) (hf:yx g fr a.tmps) (h:Inv X.T A g st w)
  (hK: ∀x w',lM X.T A g (fx.did.app st) w v x w'->K (a.put o.dst x) w'):o.KU P a w K:=by
 obtain ⟨dst,op,type,pos,after,guard⟩:=o;have val: ∀{Y:cY AV} {s:Sem Value},(do pure (dI.val (<- Y)):cY dI)= .ok p->execOp a.eval ⟨dst,op,type,pos,after,guard⟩=(do pure (.value (<- s)))->
   (∀u,Y= .ok u->bn P X.T A g w u st s)->Oper.KU P ⟨dst,op,type,pos,after,guard⟩ a w K:=fun hY J Z=>by
  obtain ⟨u,h1,rfl⟩:=ud hY;obtain ⟨rfl,rfl⟩:=rz hrun;exact fH J (Z u h1) hK
 cases op <;> simp only [eY] at n <;> (try (cases n;done))
 case move x=>exact val n (s:=pure (a.eval x)) (by simp [execOp]) fun u E=>bn.of h rfl (aS D hf E)
 case assign x=>exact val n (s:=pure (a.eval x)) (by simp [execOp]) fun u E=>bn.of h rfl (aS D hf E)
 case pick c x y=>
  refine val n (s:=do pure (if <- Go.asBool (a.eval c) then a.eval x else a.eval y)) (by simp [execOp]) fun u E=> ?_;simp only [ah] at E;obtain ⟨cv,h1,b,j,B⟩:=E;have hc:=aS D hf h1;cases cv <;> simp only [VM.asBool,aac] at j <;> (try (cases j;done))
  subst j;simp only [R] at hc;rename_i b;cases b with
  | true=>exact bn.of h (by simp [hc,Go.asBool]) (aS D hf B)
  | false=>exact bn.of h (by simp [hc,Go.asBool]) (aS D hf B)
 case alloc t=>
  simp only [ah,au] at n;obtain ⟨i,h1,rfl⟩:=n;simp only [aE,aac,aag] at hrun;obtain ⟨rfl,rfl⟩:=hrun;exact fH (s:=Instr.alloc t true (.tuple #[])) (by simp [execOp]) (FH (hT t i (cy.1 h1)) h _) hK
 case box t x=>
  simp only [ah] at n;obtain ⟨i,h1,u,j,B⟩:=n;exact fH (s:=Instr.box t (a.eval x)) (by simp [execOp]) (Lk B hrun (aS D hf j) h) hK
 case build t parts=>
  refine val n (s:=Instr.build t (parts.map fun (i,x)=>(i,a.eval x))) (by simp [execOp]) fun u E=> ?_;simp only [ah] at E;obtain ⟨ps,h1,j⟩:=E;exact Gu hT j (by simpa using lG D hf h1) h
 case buildSlice t len parts=>
  refine val n (s:=Instr.buildSlice t len (parts.map fun (i,x)=>(i,a.eval x))) (by simp [execOp]) fun u E=> ?_;simp only [ah] at E;obtain ⟨ps,h1,j⟩:=E;exact wQ hT j (by simpa using lG D hf h1) h
 case makeSlice t x y=>
  simp only [ah] at n;obtain ⟨u1,h1,u2,j,B⟩:=n;exact fH (s:=Instr.makeSlice t (a.eval x) (a.eval y)) (by simp [execOp]) (xY hT B hrun (aS D hf h1) (aS D hf j) h) hK
 case load t x=>
  simp only [ah] at n;obtain ⟨i,h1,u,j,B⟩:=n;exact fH (s:=Instr.loadAt t (a.eval x)) (by simp [execOp]) (Hj (hT t i (cy.1 h1)) B hrun (aS D hf j) h) hK
 case store t x y=>
  simp only [ah] at n;obtain ⟨i,h1,u,j,n⟩:=n;split at n
  .simp only [ah] at n;obtain ⟨u',B,h4⟩:=n;obtain ⟨rfl,Z⟩:=BI (hT t i (cy.1 h1)) h4 hrun (aS D hf j) (aS D hf B) h;exact yu (s:=Instr.storeAt t (a.eval x) (a.eval y)) (by simp [execOp]) Z hK
  .simp only [ah] at n;obtain ⟨u',B,h4⟩:=n;obtain ⟨rfl,Z⟩:=F9 (hT t i (cy.1 h1)) h4 hrun (aS D hf j) (aS D hf B) h;exact yu (s:=Instr.storeAt t (a.eval x) (a.eval y)) (by simp [execOp]) Z hK
 case nilCheck x=>
  obtain ⟨u,h1,rfl⟩:=ud n;obtain ⟨rfl,rfl⟩:=rz hrun;simp only [ah] at h1;obtain ⟨u',j,B⟩:=h1;have O:=aS D hf j;split at B <;> (try (cases B;done)) <;> simp only [au] at B <;> subst B
  .have H:=O;simp only [R] at H;obtain ⟨_,b,o,hx,_⟩:=H;exact fH (s:=pure (a.eval x)) (by simp [execOp,hx]) (bn.of h rfl O) hK
  .have H:=O;simp only [R] at H;obtain ⟨b,_,hx⟩:=H;exact fH (s:=pure (a.eval x)) (by simp [execOp,hx]) (bn.of h rfl O) hK
  .have H:=O;simp only [R] at H;obtain ⟨_,b,_,_,_,hx⟩:=H;exact fH (s:=pure (a.eval x)) (by simp [execOp,hx]) (bn.of h rfl O) hK
  .have H:=O;simp only [R] at H;obtain ⟨a',c',hx,_⟩:=H;exact fH (s:=pure (a.eval x)) (by simp [execOp,hx]) (bn.of h rfl O) hK
 case binOp op t x y yt=>
  refine val n (s:=do eqGuard op t x y (a.eval x) (a.eval y);Go.binOp op t (a.eval x) (a.eval y)) (by simp [execOp]) fun u E=> ?_;simp only [ah] at E;obtain ⟨x',h1,y',j,B⟩:=E;exact EK hT B (aS D hf h1) (aS D hf j) h
 case unOp op t x=>
  refine val n (s:=Op.unary op (a.eval x)) (by simp [execOp]) fun u E=> ?_;simp only [ah] at E;obtain ⟨x',h1,B⟩:=E;exact IV B (aS D hf h1) h
 case convert s d x=>
  simp only [ah] at n;obtain ⟨u,j,B⟩:=n;exact fH (s:=Go.convert s d (a.eval x)) (by simp [execOp]) (BE hT B hrun (aS D hf j) h) hK
 case makeInterface t x=>
  refine val n (s:=Instr.makeInterface t (a.eval x)) (by simp [execOp]) fun u E=> ?_;simp only [ah] at E;obtain ⟨i,h1,j⟩:=E;have hi:=hT t i (cy.1 h1);obtain ⟨d,d1,d2,_⟩:=hi.nH;have fin:(∀ms,d≠ .interface ms)->(do pure (AV.iface t (<- ch X.G fr x)):cY AV)= .ok u->bn P X.T A g w u st (Instr.makeInterface t (a.eval x)):=fun hd J=>by
   simp only [ah,au] at J;obtain ⟨x',h1,rfl⟩:=J;refine bn.of h (x:= .iface t (a.eval x)) ?_ (by simp only [R];exact ⟨_,rfl,aS D hf h1⟩);simp only [Instr.makeInterface,Sem.run_bind,d1,Result.andThen_ok];cases d <;> first | rfl | exact absurd rfl (hd _)
  split at j
  .cases j
  .cases j
  .rename_i n1 n2;refine fin (fun ms b5=> ?_) j;subst b5;cases E:i.und <;> rw [E] at d2 n1 n2 <;> simp only [Ae] at d2 <;> (try (cases d2;done)) <;> first
    | exact n1 _ rfl
    | exact n2 rfl
    | (obtain ⟨_,e,_⟩:=d2;cases e;done)
    | (obtain ⟨_,_,_,e⟩:=d2;cases e;done)
 case makeFunc f first cap=>
  refine val n (s:=Instr.makeFunc f (first.map a.eval) (cap.map a.eval)) (by simp [execOp]) fun u E=> ?_;simp only [ah,au] at E;obtain ⟨l1,h1,l2,j,rfl⟩:=E;refine bn.of h (x:= .func f (first.map a.eval) (cap.map a.eval)) rfl ?_;simp only [R];exact ⟨_,_,rfl,by simpa using nE D hf h1,by simpa using nE D hf j⟩
 case makeMap t r=>
  cases r with
  | some r=>simp at n
  | none=>
   simp only [aac] at n;subst n;simp only [aE,aac,aag] at hrun;obtain ⟨rfl,rfl⟩:=hrun;exact fH (s:=Instr.makeMap t none) (by simp [execOp]) (BB t h) hK
 case slice t x lo hi mx=>
  have bt:mx≠none->hi≠none:=by
   intro h1 j;subst j;cases mx with
   | none=>exact h1 rfl
   | some m=>simp at n
  have b6:(do pure (dI.val (<- (do mS X.T t (<- ch X.G fr x) (<- ej X.G fr lo) (<- ej X.G fr hi) (<- ej X.G fr mx)))):cY dI)= .ok p:=by
   cases mx <;> cases hi <;> first | exact n | exact absurd rfl (bt (by simp))
  refine val b6 (s:=Instr.sliceAt t (a.eval x) (lo.map a.eval) (hi.map a.eval) (mx.map a.eval)) (by simp [execOp]) fun u E=> ?_;simp only [ah] at E;obtain ⟨x',h1,l',j,i',B,m',h4,Q⟩:=E;refine Gp hT Q (aS D hf h1) (nN D hf j) (nN D hf B) (nN D hf h4) h fun hm hh=> ?_;subst hh;have hh:hi≠none:=bt fun e=>by
   subst e;simp only [ej,aac] at h4;exact hm h4.symm
  cases hi with
  | none=>exact hh rfl
  | some q=>
   simp only [ej,ah,au] at B;obtain ⟨_,_,e⟩:=B;cases e
 case fieldAddr t x f=>
  refine val n (s:=Instr.fieldAt t (a.eval x) f) (by simp [execOp]) fun u E=> ?_;simp only [ah] at E;obtain ⟨x',h1,B⟩:=E;exact ya hT B (aS D hf h1) h
 case field t x f=>
  refine val n (s:=Instr.field t (a.eval x) f) (by simp [execOp]) fun u E=> ?_;simp only [ah] at E;obtain ⟨x',h1,B⟩:=E;exact F2 hT B (aS D hf h1) h
 case indexAddr t x i=>
  simp only [ah] at n;obtain ⟨x',h1,n⟩:=n;split at n
  .simp only [ah] at n;obtain ⟨i',j,B⟩:=n;exact fH (s:=Instr.indexAt t (a.eval x) (a.eval i)) (by simp [execOp]) (BS hT B hrun (aS D hf h1) (aS D hf j) h) hK
  .refine val n (s:=Instr.indexAt t (a.eval x) (a.eval i)) (by simp [execOp]) fun u E=> ?_;simp only [ah] at E;obtain ⟨i',j,B⟩:=E;exact xS hT B (aS D hf h1) (aS D hf j) h
 case index t x i=>
  refine val n (s:=Instr.index t (a.eval x) (a.eval i)) (by simp [execOp]) fun u E=> ?_;simp only [ah] at E;obtain ⟨x',h1,i',j,B⟩:=E;exact Fk hT B (aS D hf h1) (aS D hf j) h
 case lookup t x k ok=>
  simp only [ah] at n;obtain ⟨x',h1,k',j,B⟩:=n;exact fH (s:=Instr.lookup t (a.eval x) (a.eval k) ok) (by simp [execOp]) (Ej hT B hrun (aS D hf h1) (aS D hf j) h) hK
 case mapUpdate t m k x=>
  simp only [ah] at n;obtain ⟨m',h1,k',j,x',B,h4⟩:=n;obtain ⟨rfl,Z⟩:=pV hT h4 hrun (aS D hf h1) (aS D hf j) (aS D hf B) h;exact yu (s:=Instr.mapUpdate t (a.eval m) (a.eval k) (a.eval x)) (by simp [execOp]) Z hK
 case insert t m k x=>
  simp only [ah] at n;obtain ⟨m',h1,k',j,x',B,h4⟩:=n;obtain ⟨rfl,Z⟩:=pV hT h4 hrun (aS D hf h1) (aS D hf j) (aS D hf B) h;exact yu (s:=Instr.mapUpdate t (a.eval m) (a.eval k) (a.eval x)) (by simp [execOp]) Z hK
 case range t x=>
  simp only [ah] at n;obtain ⟨i,h1,x',j,B⟩:=n;split at B
  .rename_i s E;simp only [au] at B;subst B;simp only [aE,aac,aag] at hrun;obtain ⟨rfl,rfl⟩:=hrun;have O:=aS D hf j;simp only [R] at O;exact fH (s:=Instr.range t (a.eval x)) (by simp [execOp]) (by rw [O];exact EY (hT t i (cy.1 h1)) E h) hK
  .cases B
 case next x b=>
  cases b with
  | false=>simp at n
  | true=>
   simp only [ah] at n;obtain ⟨x',h1,j⟩:=n;exact fH (s:=Instr.next (a.eval x) true type) (by simp [execOp]) (IQ j hrun (aS D hf h1) h) hK
 case extract x i=>
  refine val n (s:=Instr.extract (a.eval x) i) (by simp [execOp]) fun u E=> ?_;simp only [ah] at E;obtain ⟨x',h1,j⟩:=E;have O:=aS D hf h1;split at j
  .simp only [R] at O;obtain ⟨ys,hx,hl⟩:=O;obtain ⟨y,e1,e2⟩:=ON hl j;exact bn.of h (by rw [hx];simp only [Instr.extract];rw [show ys[i]? =some y by simpa using e1];rfl) e2
  .cases j
 case call c=>
  simp only [ah] at n;obtain ⟨args,h1,j⟩:=n;have F:=nE D hf h1;split at j
  .rename_i b S;have J: ∀s:Sem Value,Go.builtin b c.argTypes type (c.args.map fun | .const _=>true | _=>false) (c.args.map a.eval)=(do pure (.value (<- s)))->execOp a.eval ⟨dst,.call c,type,pos,after,guard⟩=(do pure (.value (<- s))):=fun s hs=>by
    simp only [execOp,resolve,S,pure_bind,invoke];exact hs
   have L:(c.args.map a.eval).toList=c.args.toList.map a.eval:=by simp
   unfold fO at j;split at j
   .rename_i t xt sv xv M;simp only [RL] at F;obtain ⟨y1,l1,e1,W,y2,l2,rfl,r2,rfl⟩:=F;have I:c.args.map a.eval= #[y1,y2]:=by apply Array.ext';rw [L,e1]
    have N:c.argTypes= #[t,xt]:=by apply Array.ext';rw [M]
    simp only [ah] at j;obtain ⟨i,B,ix,h4,Q⟩:=j;have hi:=hT t i (cy.1 B);have b7:=hT xt ix (cy.1 h4);split at Q
    .rename_i e E b4;simp only [ah] at Q;obtain ⟨ei,V,h7⟩:=Q;have av:=hT e ei (cy.1 V);obtain ⟨d,d1,d2,_⟩:=hi.und;rw [E] at d2;simp only [Ae] at d2;subst d2;obtain ⟨dx,x1,x2,_⟩:=b7.und;have a1: ∀k,dx≠ .int k:=fun k hk=>by
      subst hk;cases b8:ix.und <;> rw [b8] at x2 b4 <;> simp only [Ae] at x2 <;> (try (cases x2;done)) <;> (try (simp [I2] at b4;done))
     split at h7
     .rename_i new a6;split at h7
      .exact fH (J (Builtin.append_ c.argTypes type (c.args.map a.eval)) rfl) (by rw [I,N];exact yP ⟨d1,⟨dx,x1,a1⟩,cy.1 V,av⟩ a6 h7 hrun W r2 h) hK
      split at h7
      .exact fH (J (Builtin.append_ c.argTypes type (c.args.map a.eval)) rfl) (by rw [I,N];exact Bf ⟨d1,⟨dx,x1,a1⟩,cy.1 V,av⟩ a6 h7 hrun W r2 h) hK
      split at h7
      .exact fH (J (Builtin.append_ c.argTypes type (c.args.map a.eval)) rfl) (by rw [I,N];exact yb ⟨d1,⟨dx,x1,a1⟩,cy.1 V,av⟩ a6 h7 hrun W r2 h) hK
      .exact fH (J (Builtin.append_ c.argTypes type (c.args.map a.eval)) rfl) (by rw [I,N];exact uT ⟨d1,⟨dx,x1,a1⟩,cy.1 V,av⟩ a6 h7 hrun W r2 h) hK
     .cases h7
    .cases Q
   .rename_i t l xv M;simp only [RL] at F;obtain ⟨y1,l1,e1,W,rfl⟩:=F;have I:c.args.map a.eval= #[y1]:=by apply Array.ext';rw [L,e1]
    have b9:c.argTypes[0]? =some t:=by rw [<- abn,M];rfl
    exact fH (J (Builtin.len_ c.argTypes type (c.args.map a.eval)) rfl) (by rw [I];exact LU hT b9 j hrun W h) hK
   .rename_i xv l;obtain ⟨u,B,rfl⟩:=ud j;obtain ⟨rfl,rfl⟩:=rz hrun;simp only [RL] at F;obtain ⟨y1,l1,e1,W,r2⟩:=F;obtain ⟨z,e2,e3⟩:=oN (P:=P) (w:=w) B W r2;exact fH (J (Builtin.min_ c.argTypes type (c.args.map a.eval)) rfl) (bn.of h (by simp only [Builtin.min_];rw [L,e1];exact e2) e3) hK
   .rename_i xv l;obtain ⟨u,B,rfl⟩:=ud j;obtain ⟨rfl,rfl⟩:=rz hrun;simp only [RL] at F;obtain ⟨y1,l1,e1,W,r2⟩:=F;obtain ⟨z,e2,e3⟩:=oN (P:=P) (w:=w) B W r2;exact fH (J (Builtin.max_ c.argTypes type (c.args.map a.eval)) rfl) (bn.of h (by simp only [Builtin.max_];rw [L,e1];exact e2) e3) hK
   .cases j
  .rename_i f S;simp only [ah] at j;obtain ⟨fv,B,h4⟩:=j;have a7:=aS D hf B;split at h4
   .rename_i gid first cap
    simp only [R] at a7;obtain ⟨a',c',bb,cb,cc⟩:=a7;have U:RL g (first++args++cap) (a'.toList++c.args.toList.map a.eval++c'.toList):=gY (gY cb F) cc;have J:execOp a.eval ⟨dst,.call c,type,pos,after,guard⟩=callFunc gid (a'.toList++c.args.toList.map a.eval++c'.toList).toArray:=by
     simp only [execOp,resolve,S,bb,Deferred.ofValue,pure_bind,invoke];congr 1;apply Array.ext';simp
    split at h4
    .rename_i q hq;exact yE J (a8 gid q hq X.C _ p v fx st A g w _ D h4 hrun U h) hK
    .simp only [au] at h4;subst h4;simp only [aE] at hrun;split at hrun
     .rename_i hb;simp only [ah,au,aag] at hrun;obtain ⟨v',Q,rfl,rfl⟩:=hrun;simp only [aaf] at hb;exact yE J (hC.bare _ _ _ Q A g st w _ D hb.1 (nZ U) h) hK
     .split at hrun
      .simp only [ah,au,aag] at hrun;obtain ⟨v',Q,rfl,rfl⟩:=hrun;exact yE J (hC.look _ _ _ _ Q A g w _ D (nZ U) h) hK
      .simp only [ah,au] at hrun;obtain ⟨⟨v',s'⟩,Q,V⟩:=hrun;simp only [aag] at V;obtain ⟨rfl,rfl⟩:=V;exact yE J (.inr (hC.wide _ _ _ _ _ Q A g w _ D U h)) hK
   .rename_i k;simp only [R] at a7;obtain ⟨l,hl,bb⟩:=a7;simp only [au] at h4;subst h4;simp only [aE,ah,au] at hrun;obtain ⟨⟨v',s'⟩,Q,V⟩:=hrun;simp only [aag] at V;obtain ⟨rfl,rfl⟩:=V;have J:execOp a.eval ⟨dst,.call c,type,pos,after,guard⟩=Instr.yield l (c.args.toList.map a.eval).toArray:=by
     simp only [execOp,resolve,S,bb,Deferred.ofValue,pure_bind,invoke];congr 1;apply Array.ext';simp
    exact Nz J (hC.round _ _ _ _ _ Q A g w _ l D F h hl) hK
   .cases h4
  .cases j
end
section
variable {P:Program} {T:TT} {A:Nat->Prop} {g:Gh} {st:St} {w:World}
theorem Inv.AF (h:Inv T A g st w):Inv T A g (st.new .AF).2 w where
 F:=h.F
 M:=h.M
 E id d:=h.E id (Nat.le_of_succ_le d)
 H id o ho:=by
  rcases St.gz.1 ho with ⟨rfl,rfl⟩ | ⟨_,a⟩
  .exact h.E _ (aah _)
  .exact h.H id o a
 D id id' i j b h1 k c f:=by
  rcases St.gz.1 h1 with ⟨rfl,rfl⟩ | ⟨_,e⟩
  .exact c.elim
  .rcases St.gz.1 k with ⟨rfl,rfl⟩ | ⟨_,l⟩
   .exact f.elim
   .exact h.D id id' i j b e l c f
 own id o b h1 c m:=by
  rcases St.gz.1 h1 with ⟨rfl,rfl⟩ | ⟨_,e⟩
  .exact c.elim
  .exact h.own id o b e c m
 up:=h.up
theorem Inv.lay: ∀{l:Ln} {st:St},Inv T A g st w->Inv T A g (st.lay l) w
 | [],_,h=>h
 | _::l,st,h=>Inv.lay (l:=l) (st:=(st.new .AF).2) (Inv.AF h)
theorem Inv.xI (h:Inv T A g st w) {nm:Nat} (hn:st.get nm= .ok .AF) (o:Obj) (e:tz) (b:Nat)
  (n: ∀id o',st.get id= .ok o'->¬ At g id o' b) (hA:A b) (i: ∀b',At (g.dP nm e) nm o b'->b'=b)
  (ho:Holds T (g.dP nm e) w nm o):Inv T A (g.dP nm e) (st.put nm o) w:=by
 have c:=(St.cZ.1 hn).1;have hE:g.E nm=none:=h.H nm _ hn;refine ⟨h.F,h.M,fun id m=> ?_,fun id o' d=> ?_,fun id id' p q b' h1 j f k=> ?_,fun id o' b' h1 f r=> ?_,h.up⟩
 .have l:st.h<=id:=m;rw [Gh.dM _ _ (by omega)];exact h.E id l
 .by_cases hi:id=nm
  .subst hi;rw [St.bx c] at d;cases d;exact ho
  .rw [St.bD (fun e=>hi e.symm)] at d;exact mz (h.H id o' d) (Le.dP hE) (Gh.dM _ _ hi) fun _ _=>⟨fun _=>rfl,rfl⟩
 .by_cases hi:id=nm <;> by_cases a:id'=nm
  .rw [hi,a]
  .subst hi;rw [St.bx c] at h1;cases h1;rw [St.bD (fun e=>a e.symm)] at j;rw [uu (Gh.dM _ _ a)] at k;have:=i b' f;subst this;exact absurd k (n _ _ j)
  .subst a;rw [St.bx c] at j;cases j;rw [St.bD (fun e=>hi e.symm)] at h1;rw [uu (Gh.dM _ _ hi)] at f;have:=i b' k;subst this;exact absurd f (n _ _ h1)
  .rw [St.bD (fun e=>hi e.symm)] at h1;rw [St.bD (fun e=>a e.symm)] at j;rw [uu (Gh.dM _ _ hi)] at f;rw [uu (Gh.dM _ _ a)] at k;exact h.D id id' p q b' h1 j f k
 .by_cases hi:id=nm
  .subst hi;rw [St.bx c] at h1;cases h1;rw [i b' f];exact hA
  .rw [St.bD (fun e=>hi e.symm)] at h1;rw [uu (Gh.dM _ _ hi)] at f;exact h.own id o' b' h1 f r
theorem HW (h:Inv T A g st w) {nm:Nat} (hn:st.get nm= .ok .AF) {cs:LA} {xs:List Value} (ty:Td) (d:RL g cs xs) (h1: ∀x∈xs,x.oneCell'=true):
  Inv T A (g.dP nm (.cw w.heap.size)) (st.put nm (.cells ty cs)) (w.alloc (.cells xs.toArray ty))/\Kp A g w (g.dP nm (.cw w.heap.size)) (w.alloc (.cells xs.toArray ty))/\
  R (g.dP nm (.cw w.heap.size)) (.mp nm 0) (.pointer (some ⟨w.heap.size,0,none⟩)):=by
 have hE:g.E nm=none:=h.H nm _ hn;have a:Le g (g.dP nm (.cw w.heap.size)):=Le.dP hE;refine ⟨(h.alloc _).xI hn (.cells ty cs) (.cw w.heap.size) w.heap.size (fun id o' b=>h.kU (aah _) id o' b) (h.up _ (aah _)) (fun b' c=>by
  have:(g.dP nm (.cw w.heap.size)).E nm=some (.cw b'):=c;rw [Gh.bJ] at this;simpa using this.symm) ⟨w.heap.size,xs.toArray, #[],ty,Gh.bJ _ _ _,by simpa using World.heap_alloc_new,by simpa using gj a _ _ d,by simpa using h1,fun o=>h.rj (aah _) o,fun _=>⟨rfl,rfl⟩⟩,
  (Kp.alloc _ h).trans (Kp.dP hE),by simp only [R];exact ⟨_,Gh.bJ _ _ _,rfl⟩⟩
theorem F4 {t:Td} {i:TI} (hi:jX P t i) {nm:Nat} (hn:st.get nm= .ok .AF) (h:Inv T A g st w) (old:Value):
  bn P T A g w (.mp nm 0) (st.put nm (.cells t i.zero)) (Instr.alloc t true old):=by
 obtain ⟨z,h1,d,e,h4,f,a⟩:=hi.qB;obtain ⟨k1,b,c⟩:=HW h hn t (a g) (by simpa using h4);refine ⟨_,_,_, ?_,c,k1,b⟩;simp [Instr.alloc,h1,newVar,kI]
theorem qZ {T:TT} {t:Td} {nm:Nat} {v:AV} {b:Fx} (h:VM.xI T t nm st= .ok (v,b)): ∃i,T.get t=some i/\st.get nm= .ok .AF/\st.ro<=nm/\v= .mp nm 0/\b=⟨[nm],.wrote nm (.cells t i.zero)⟩:=by
 simp only [VM.xI,ah] at h;obtain ⟨i,h1,o,c,a⟩:=h;cases o with
 | AF=>
  dsimp only at a;split at a
  .rename_i d;simp only [aac,aag] at a;exact ⟨i,cy.1 h1,c,aaq d,a.1.symm,a.2.symm⟩
  .cases a
 | _=>cases a
theorem Fu {T:TT} {t:Td} {i:TI} {nm:Nat} (h1:T.get t=some i) (a:st.get nm= .ok .AF) (b:st.ro<=nm):VM.xI T t nm st= .ok (.mp nm 0,⟨[nm],.wrote nm (.cells t i.zero)⟩):=by
 refine ah.2 ⟨i,cy.2 h1,ah.2 ⟨.AF,a, ?_⟩⟩;dsimp only;rw [aaI b]
theorem Aa {e:Nat->Oq Nat} {o:Oper} {t:Td} {nm:Nat} (h:sn e o=some (t,nm)):o.op= .alloc t:=by
 unfold sn at h;split at h
 .cases h
 .split at h
  .cases h
  .split at h
   .rename_i h1;cases h;exact h1
   .cases h
theorem A0 (X:Cx) (all:List Oper) (fr:Fr) (st:St) (o:Oper):gn X (fun _=>none) all fr st o=oper X all fr st o:=by
 have h:sn (fun _=>none) o=none:=by
  unfold sn;cases o.dst <;> rfl
 unfold gn oper;rw [h]
theorem OH (X:Cx) (hT:yp P X.T) {o:Oper} {a:Act} {t:Td} {nm:Nat} {v:AV} {b:Fx} {K:Act->World->Prop}
  (ho:o.op= .alloc t) (c:VM.xI X.T t nm st= .ok (v,b)) (h:Inv X.T A g st w)
  (hK: ∀x w',lM X.T A g (b.did.app st) w v x w'->K (a.put o.dst x) w'):o.KU P a w K:=by
 obtain ⟨i,h1,d,_,rfl,rfl⟩:=qZ c;obtain ⟨dst,op,type,pos,after,guard⟩:=o;obtain rfl:op= .alloc t:=ho;exact fH (s:=Instr.alloc t true (.tuple #[])) (by simp [execOp]) (F4 (hT t i h1) d h _) hK
end
namespace Tr
variable {α:Type}
theorem set_comm: ∀(j k:Nat) (t:Tr α) (a b:Nat) (x y:α),a≠b->set j (set k t a x) b y=set k (set j t b y) a x
 | 0,_,_,_,_,_,_,_=>rfl
 | _+1,0,_,_,_,_,_,_=>rfl
 | j+1,k+1,t,a,b,x,y,h=>by
  cases d:a.beq 0 with
  | true=>
   have l:=aan d;have c:b.beq 0=false:=by
    cases c:b.beq 0 with
    | false=>rfl
    | true=>exact absurd (l.trans (aan c).symm) h
   cases hm:(b % 2).beq 1 <;> cases t <;> simp [set,d,c,hm]
  | false=>
   have l:a≠0:=by intro e;subst e;simp at d
   cases c:b.beq 0 with
   | true=>cases hm:(a % 2).beq 1 <;> cases t <;> simp [set,d,c,hm]
   | false=>
    have o:b≠0:=by intro e;subst e;simp at c
    cases g:(a % 2).beq 1 with
    | true=>
     have m:=aan g;cases f:(b % 2).beq 1 with
     | true=>
      have n:=aan f;have i:a / 2≠b / 2:=by omega
      cases t <;> simp [set,d,c,g,f,set_comm j k _ _ _ x y i]
     | false=>cases t <;> simp [set,d,c,g,f]
    | false=>
     have m:a % 2≠1:=by intro e;rw [e] at g;simp at g
     cases f:(b % 2).beq 1 with
     | true=>cases t <;> simp [set,d,c,g,f]
     | false=>
      have n:b % 2≠1:=by intro e;rw [e] at f;simp at f
      have i:a / 2 - 1≠b / 2 - 1:=by omega
      cases t <;> simp [set,d,c,g,f,set_comm j k _ _ _ x y i]
theorem put_comm (t:Tr α) (a b:Nat) (x y:α) (h:a≠b):(t.put a x).put b y=(t.put b y).put a x:=set_comm _ _ _ _ _ _ _ h
end Tr
section
variable {P:Program} {A:Nat->Prop} {g:Gh} {st:St} {w:World}
theorem Mo {ops:Array Oper} {fr:Fr} {a:Act} (o:Oper) (hf:yx g fr a.tmps) (e:o.guard=none\/fr.strict=false):wanted ops.toList fr o.guard=Region.wanted o (yielded ops a.tmps):=by
 unfold wanted Region.wanted;cases f:o.guard with
 | none=>rfl
 | some p=>
  have hs:fr.strict=false:=by
   rcases e with e | e
   .rw [f] at e;cases e
   .exact e
  obtain ⟨j,want⟩:=p;simp only [yielded,abn];cases hd:(ops[j]?).bind (·.dst) with
  | none=>cases want <;> rfl
  | some d=>
   simp only [Option.bind_some];have c:=hf.at hs d;cases h:fr.get d with
   | bool b=>
    rw [h] at c;simp only [R] at c;have:a.tmps[d]? =some (.bool b):=by
     simp only [Array.getD_eq_getD_getElem?] at c;cases hx:a.tmps[d]? with
     | none=>rw [hx] at c;simp [Go.undef] at c
     | some x=>rw [hx] at c;simpa using c
    rw [this];cases b <;> cases want <;> rfl
   | _=>
    have: ∀b,a.tmps[d]? ≠some (.bool b):=fun b i=>by
     rw [h] at c;simp only [Array.getD_eq_getD_getElem?,i,Option.getD_some,R] at c
     first
      | (rcases c with ⟨_,c | ⟨_,_,c⟩⟩ | ⟨_,_,c⟩ <;> cases c;done)
      | (cases c;done)
      | (rcases c with ⟨_,c⟩;injection c;done)
      | (rcases c with ⟨_,⟨⟩⟩;done)
      | (obtain ⟨_,_,_,c,_⟩:=c;cases c;done)
      | (obtain ⟨_,_,c⟩:=c;cases c;done)
      | (obtain ⟨_,_,_,_,c,_⟩:=c;cases c;done)
      | (obtain ⟨_,_,c,_⟩:=c;cases c;done)
      | (obtain ⟨_,c,_⟩:=c;cases c;done)
      | (obtain ⟨_,_,_,_,_,c,_⟩:=c;cases c;done)
      | (obtain ⟨_,_,_,_,_,c⟩:=c;cases c;done)
    cases hx:a.tmps[d]? with
    | none=>cases want <;> rfl
    | some x=>cases x <;> first | (cases want <;> rfl) | exact absurd hx (this _)
theorem Ag {fr:Fr} {a:Act} (hf:yx g fr a.tmps) {v:AV} {x:Value} (hx:R g v x) (d:Oq Tmp):yx g (fr.put d v) (a.put d x).tmps:=by
 cases d with
 | none=>exact hf
 | some d=>exact hf.put hx (some d)
theorem put_defers (a:Act) (d:Oq Tmp) (x:Value):(a.put d x).defers=a.defers:=by cases d <;> rfl
structure Good (P:Program) (X:Cx):Prop where
 T:yp P X.T
 C:Ao P X.T X.G X.C
 prim:EL P X.T X.G X.prim
def mark (D:Nat):Deferred:={target:= .collected D,args:= #[]}
def Marks (A:Nat->Prop) (ds:List Deferred) (w:World):Prop:= ∃a:Ln,ds=a.map mark/\a.Nodup/\ ∀D∈a,¬ A D/\w.heap[D]? =some (.deferred (some []))
theorem Marks.G0 {A:Nat->Prop} {ds:List Deferred} {g g':Gh} {w w':World} (h:Marks A ds w) (k:Kp A g w g' w'):Marks A ds w':=by
 obtain ⟨c,h1,d,a⟩:=h;exact ⟨c,h1,d,fun D b=>⟨(a D b).1,by rw [k.heap D (a D b).1];exact (a D b).2⟩⟩
theorem iH (fr:Fr) (d:Oq Tmp) (v:AV):(fr.put d v).strict=fr.strict:=by
 cases d with
 | none=>rfl
 | some d=>simp only [Fr.put];split <;> rfl
structure Rel (X:Cx) (A:Nat->Prop) (ro:Oq Nat) (g:Gh) (fr:Fr) (st:St) (a:Act) (w:World):Prop where
 mode:fr.strict=ro.isSome
 fr:yx g fr a.tmps
 inv:Inv X.T A g st w
 G:GR g X.G
 marks:Marks A a.defers w
theorem C8: ∀{l:List Oper} {o:Oper},iU l=true->o∈l->o.guard=none
 | [],_,_,h=>by cases h
 | a::l,o,h,hm=>by
  unfold iU at h;cases b:a.guard with
  | some x=>rw [b] at h;cases h
  | none=>
   rw [b] at h;rcases aam.1 hm with rfl | hm
   .exact b
   .exact C8 h hm
theorem Ho {T:TT} {prim:FuncId->Oq Prim} {imm:Td->Bool} {G:Nat->Oq LA} {fr:Fr} {o:Op} {p:dI} (h:eY T prim imm G fr o= .ok p): ∀c,o≠ .defer c:=by
 rintro c rfl;cases h
theorem Ar {X:Cx} {e:Nat->Oq Nat} {ro:Oq Nat} (j:Good P X) {ops:Array Oper} (k:ro.isSome=true->iU ops.toList=true) {i:Nat} {o:Oper} (ho:ops[i]? =some o) {fr:Fr} {a:Act} {v:AV} {s:Fx} {K:Act->World->Prop} {Q:Exit->Act->World->Prop}
  (h:gn X e ops.toList fr st o= .ok (v,s)) (b:Rel X A ro g fr st a w)
  (hK: ∀a' g' w',Rel X A ro g' (fr.put o.dst v) (s.did.app st) a' w'->a'.defers=a.defers->Kp A g w g' w'->K a' w'):wpOpIn (fe ro) 0 P ops Q i K a w:=by
 have z:o.guard=none\/fr.strict=false:=by
  cases f:ro.isSome with
  | false=>exact .inr (by rw [b.mode,f])
  | true=>exact .inl (C8 (k f) (aaJ (l:=ops.toList) (i:=i) (by simpa using ho)))
 unfold gn at h;unfold wpOpIn;simp only [ho];rw [<- Mo o b.fr z];split at h
 .rename_i m;rw [m,if_pos rfl];split at h
  .rename_i t nm u;refine O0 (OH X j.T (Aa u) h b.inv fun x w' n=> ?_) (fun c y=>by rw [Aa u] at y;cases y);obtain ⟨g',q,r,d⟩:=n;exact hK _ g' w' ⟨by rw [iH];exact b.mode,Ag (b.fr.mono d.le) q _,r,b.G.mono d.le,by rw [put_defers];exact b.marks.G0 d⟩ (put_defers _ _ _) d
  .simp only [ah] at h;obtain ⟨p,h1,B⟩:=h;refine O0 (Io X j.T j.C j.prim h1 B b.G b.fr b.inv fun x w' n=> ?_) (Ho h1);obtain ⟨g',q,r,d⟩:=n;exact hK _ g' w' ⟨by rw [iH];exact b.mode,Ag (b.fr.mono d.le) q _,r,b.G.mono d.le,by rw [put_defers];exact b.marks.G0 d⟩ (put_defers _ _ _) d
 .rename_i m;rw [m,if_neg (by simp)];simp only [aac,aag] at h;obtain ⟨rfl,rfl⟩:=h;exact ⟨fun _ _=>trivial,hK _ g w ⟨by rw [iH];exact b.mode,Ag b.fr DH _,b.inv,b.G,by rw [put_defers];exact b.marks⟩ (put_defers _ _ _) (Kp.refl _ _ _)⟩
inductive Bl (X:Cx) (e:Nat->Oq Nat) (all:List Oper):List (Nat×AV×Fx)->Fr->St->Fr->St->Prop
 | nil {fr:Fr} {st:St}:Bl X e all [] fr st fr st
 | cons {j:Nat} {v:AV} {x:Fx} {o:Oper} {l:List (Nat×AV×Fx)} {fr fr':Fr} {st st':St} (ho:all[j]? =some o) (h:gn X e all fr st o= .ok (v,x))
  (t:Bl X e all l (fr.put o.dst v) (x.did.app st) fr' st'):Bl X e all ((j,v,x)::l) fr st fr' st'
theorem sK {X:Cx} {e:Nat->Oq Nat} {ro:Oq Nat} (r:Good P X) {ops:Array Oper} (b:ro.isSome=true->iU ops.toList=true) {Q:Exit->Act->World->Prop}: ∀{l:List (Nat×AV×Fx)} {fr fr':Fr} {st st':St},Bl X e ops.toList l fr st fr' st'->
  ∀{g:Gh} {a:Act} {w:World},Rel X A ro g fr st a w->(∀a' g' w',Rel X A ro g' fr' st' a' w'->a'.defers=a.defers->Kp A g w g' w'->Q .normal a' w')->wpOpsIn (fe ro) 0 P ops Q (l.map (·.1)) a w
 | _,_,_,_,_,.nil,g,a,w,d,f=>f a g w d rfl (Kp.refl _ _ _)
 | _,_,_,_,_,.cons (j:=j) (o:=o) ho h t,g,a,w,d,f=>by
  simp only [aal];rw [wpOpsIn_cons];exact Ar r b (by simpa using ho) h d fun a' g' w' i hd s=>sK r b t i fun k m n c p q=>f k m n c (p.trans hd) (s.trans q)
end
end Go.VM
namespace Go.VM
theorem FY {G:Nat->Oq LA} {fr a:Fr} {x:Operand} (hs:fr.strict=a.strict) (h: ∀t,x= .tmp t->fr.t.get t=a.t.get t):ch G fr x=ch G a x:=by
 cases x with
 | tmp t=>simp only [ch,Fr.get,hs,h t rfl]
 | _=>rfl
theorem ny {G:Nat->Oq LA} {fr a:Fr}: ∀{xs:List Operand},(∀x∈xs,ch G fr x=ch G a x)->nv G fr xs=nv G a xs
 | [],_=>rfl
 | x::xs,h=>by simp only [nv,h x (by simp),ny (xs:=xs) fun y hy=>h y (by simp [hy])]
theorem nT {G:Nat->Oq LA} {fr a:Fr} {x:Oq Operand} (h: ∀y,x=some y->ch G fr y=ch G a y):ej G fr x=ej G a x:=by
 cases x with
 | none=>rfl
 | some y=>simp only [ej,h y rfl]
theorem lN {G:Nat->Oq LA} {fr a:Fr}: ∀{xs:List (Nat×Operand)},(∀x∈xs,ch G fr x.2=ch G a x.2)->gL G fr xs=gL G a xs
 | [],_=>rfl
 | (i,x)::xs,h=>by simp only [gL,h (i,x) (by simp),lN (xs:=xs) fun y hy=>h y (by simp [hy])]
theorem I3 {T:TT} {prim:FuncId->Oq Prim} {imm:Td->Bool} {G:Nat->Oq LA} {fr e:Fr} {op:Op} (h: ∀x∈op.operands,ch G fr x=ch G e x):
  eY T prim imm G fr op=eY T prim imm G e op:=by
 cases op <;> simp only [eY] <;> simp only [Op.operands] at h
 case move x=>rw [h x (by simp)]
 case assign x=>rw [h x (by simp)]
 case pick c x y=>rw [h c (by simp),h x (by simp),h y (by simp)]
 case box t x=>rw [h x (by simp)]
 case build t ps=>rw [lN fun x hx=>h x.2 (by simp only [List.mem_toArray,abf];exact ⟨x,hx,rfl⟩)]
 case buildSlice t n ps=>rw [lN fun x hx=>h x.2 (by simp only [List.mem_toArray,abf];exact ⟨x,hx,rfl⟩)]
 case makeSlice t x y=>rw [h x (by simp),h y (by simp)]
 case load t x=>rw [h x (by simp)]
 case store t x y=>rw [h x (by simp),h y (by simp)]
 case nilCheck x=>rw [h x (by simp)]
 case binOp op t x y _=>rw [h x (by simp),h y (by simp)]
 case unOp op t x=>rw [h x (by simp)]
 case convert s d x=>rw [h x (by simp)]
 case makeInterface t x=>rw [h x (by simp)]
 case makeFunc f a b=>
  rw [ny fun x hx=>h x (by simp only [Array.mem_append];exact .inl (by simpa using hx)),ny (xs:=b.toList) fun x hx=>h x (by simp only [Array.mem_append];exact .inr (by simpa using hx))]
 case slice t x lo hi mx=>
  have hx:=h x (by simp);have hl:ej G fr lo=ej G e lo:=nT fun y hy=>h y (by subst hy;simp);have g:ej G fr hi=ej G e hi:=nT fun y hy=>h y (by subst hy;simp);have hm:ej G fr mx=ej G e mx:=nT fun y hy=>h y (by subst hy;simp);rw [hx,hl,g,hm]
 case fieldAddr t x f=>rw [h x (by simp)]
 case field t x f=>rw [h x (by simp)]
 case indexAddr t x y=>rw [h x (by simp),h y (by simp)]
 case index t x y=>rw [h x (by simp),h y (by simp)]
 case lookup t x y ok=>rw [h x (by simp),h y (by simp)]
 case mapUpdate t m k v=>rw [h m (by simp),h k (by simp),h v (by simp)]
 case insert t m k v=>rw [h m (by simp),h k (by simp),h v (by simp)]
 case range t x=>rw [h x (by simp)]
 case next x b=>
  cases b with
  | true=>show (do B5 (<- ch G fr x))=(do B5 (<- ch G e x));rw [h x (by simp)]
  | false=>rfl
 case extract x i=>rw [h x (by simp)]
 case makeMap t r=>cases r <;> rfl
 case call c=>
  have j:nv G fr c.args.toList=nv G e c.args.toList:=ny fun x hx=>h x (by simp only [Call.operands,Array.mem_append];exact .inr (by simpa using hx));rw [j];cases l:c.callee with
  | value f=>simp only [h f (by simp [Call.operands,l])]
  | builtin b=>rfl
  | invoke r m=>rfl
theorem Fr.bD {fr:Fr} {d:Oq Tmp} {v:AV} {t:Nat} (h:d≠some t):(fr.put d v).t.get t=fr.t.get t:=by
 cases d with
 | none=>rfl
 | some d=>
  simp only [Fr.put];split
  .have:d≠t:=fun e=>h (by rw [e]);simp [Tr.la,this]
  .rfl
theorem Fr.put_comm {fr:Fr} {d e:Oq Tmp} {v u:AV} (h: ∀t,d=some t->e≠some t):(fr.put d v).put e u=(fr.put e u).put d v:=by
 cases d with
 | none=>rfl
 | some d=>
  cases e with
  | none=>rfl
  | some e=>
   have a:d≠e:=fun k=>h d rfl (by rw [k]);simp only [Fr.put];cases hd:d.blt fr.n <;> cases e.blt fr.n <;> simp [hd,Tr.put_comm _ _ _ _ _ a]
theorem AR {X:Cx} {e:Nat->Oq Nat} {ops:Array Oper} {fr a:Fr} {st:St} {o:Oper} (hs:fr.strict=a.strict) (h: ∀t∈o.looksAt ops,fr.t.get t=a.t.get t):gn X e ops.toList fr st o=gn X e ops.toList a st o:=by
 have b:wanted ops.toList fr o.guard=wanted ops.toList a o.guard:=by
  unfold wanted;cases c:o.guard with
  | none=>rfl
  | some p=>
   obtain ⟨j,want⟩:=p;simp only [abn];cases hd:(ops[j]?).bind (·.dst) with
   | none=>rfl
   | some d=>
    simp only [Fr.get];rw [h d (by simp [Oper.looksAt,c,hd])]
 unfold gn;rw [b,I3 fun x hx=>FY hs fun t f=>h t (by
  subst f;simp only [Oper.looksAt,aaA,List.mem_filterMap];exact .inl ⟨.tmp t,by simpa using hx,rfl⟩)]
theorem St.P9 {st:St} {i j:Nat} {a b:Obj} (h:i≠j):(st.put i a).put j b=(st.put j b).put i a:=by
 simp only [St.put,Tr.put_comm _ _ _ _ _ h]
theorem St.JP {st:St} {i:Nat} {a b:Obj} (h:i≠st.h):((st.put i a).new b).2=((st.new b).2).put i a:=by
 simp only [St.put,St.new,Tr.put_comm _ _ _ _ _ h]
theorem St.oM {st:St} {o:Obj} {r:Nat} (h:r≠st.h):(st.new o).2.get r=st.get r:=by
 simp only [St.get,St.new];cases h1:r.blt (st.h+1) <;> cases a:r.blt st.h <;> simp only [Tr.la]
 .rw [eG] at h1;rw [cS] at a;omega
 .rw [cS] at h1;rw [eG] at a;omega
 .rw [if_neg (fun e=>h e.symm)]
theorem yZ: ∀{a b:LB},nj a b=true->a=b
 | [],[],_=>rfl
 | a::l,b::m,h=>by
  unfold nj at h;split at h
  .rename_i e;rw [abE.1 (aan e),yZ h]
  .cases h
 | [],_:: _,h=>by simp [nj] at h
 | _:: _,[],h=>by simp [nj] at h
theorem kA {g:AV->AV->Bool} (c: ∀a b,g a b=true->a=b): ∀{a b:LA},fu g a b=true->a=b
 | [],[],_=>rfl
 | a::l,b::m,h=>by
  unfold fu at h;split at h
  .rename_i e;rw [c _ _ e,kA c h]
  .cases h
 | [],_:: _,h=>by simp [fu] at h
 | _:: _,[],h=>by simp [fu] at h
theorem mj: ∀(f:Nat) (a b:AV),ia f a b=true->a=b
 | 0,_,_,h=>by simp [ia] at h
 | f+1,a,b,h=>by
  have ih:=fun {l m:LA} (h:fu (ia f) l m=true)=>kA (mj f) h;unfold ia at h;split at h
  .rw [eq_of_beq h]
  .simp only [aaf,aaT] at h;rw [h.1,h.2]
  .rw [yZ h]
  .rfl
  .rfl
  .rfl
  .rfl
  .rfl
  .rfl
  .rw [ih h]
  .simp only [aaf,Nat.beq_eq] at h;rw [h.1,h.2]
  .rw [aan h]
  .simp only [aaf,Nat.beq_eq] at h;rw [h.1.1,h.1.2,h.2]
  .simp only [aaf,Nat.beq_eq] at h;rw [h.1.1,h.1.2,h.2]
  .simp only [aaf,Nat.beq_eq] at h;obtain ⟨⟨⟨⟨rfl,rfl⟩,rfl⟩,rfl⟩,rfl⟩:=h;rfl
  .simp only [aaf,Nat.beq_eq,aaT] at h;rw [h.1.1,h.1.2,ih h.2]
  .simp only [aaf,Nat.beq_eq] at h;rw [h.1,mj f _ _ h.2]
  .rw [ih h]
  .rw [ih h]
  .cases h
theorem HP {a b:Obj} (h:Dr a b=true):a=b:=by
 unfold Dr at h;split at h
 .simp only [aaf,Nat.beq_eq] at h;rw [h.1,kA (mj _) h.2]
 .simp only [aaf,Nat.beq_eq] at h;rw [h.1,h.2]
 .simp only [aaf,Nat.beq_eq] at h;rw [h.1.1.1,h.1.1.2,h.1.2,kA (mj _) h.2]
 .simp only [aaf,Nat.beq_eq] at h;rw [h.1.1.1,h.1.1.2,h.1.2,kA (mj _) h.2]
 .cases h
theorem Ct {s t:St} {i:Nat} (h:sameAt s t i=true):t.get i=s.get i:=by
 unfold sameAt at h;split at h
 .rename_i a b h1 c;rw [h1,c,HP h]
 .cases h
def jZ (x:Fx) (st st2:St):Prop:=
 match x.did with
 | .kept=> ∀r∈x.reads,st2.get r=st.get r
 | .wrote _ _=>st2.ro=st.ro/\ ∀r∈x.reads,st2.get r=st.get r
 | .made _ _=>st2.h=st.h
 | .looked=>st2=st
 | .all _ _=>st2=st
theorem BZ {X:Cx} {e:Nat->Oq Nat} {all:List Oper} {fr:Fr} {st st2:St} {o:Oper} {v:AV} {x:Fx} (h:gn X e all fr st o= .ok (v,x)) (hs:jZ x st st2):gn X e all fr st2 o= .ok (v,x):=by
 unfold gn at h ⊢;split at h
 .split at h
  .rename_i t nm w;obtain ⟨i,h1,a,b,rfl,rfl⟩:=qZ h;obtain ⟨m,n⟩:=hs;exact Fu h1 (by rw [n nm (by simp)];exact a) (by rw [m];exact b)
  simp only [ah] at h ⊢;obtain ⟨p,h1,a⟩:=h;refine ⟨p,h1, ?_⟩;cases p with
  | val u=>exact a
  | obj id f=>
   simp only [aE,ah,au] at a ⊢;obtain ⟨l,b,⟨v',o'⟩,h4,d,c,s⟩:=a;simp only [aag] at s;obtain ⟨rfl,rfl⟩:=s;cases o' with
   | none=>
    simp only [fK,aac] at c;subst c;refine ⟨l,by rw [hs id (by simp)];exact b,⟨v',none⟩,h4,.kept,rfl,rfl⟩
   | some g=>
    simp only [fK] at c;split at c
    .cases c
    .rename_i q;simp only [aac] at c;subst c;obtain ⟨m,n⟩:=hs;refine ⟨l,by rw [n id (by simp)];exact b,⟨v',some g⟩,h4,.wrote id g, ?_,rfl⟩;simp only [fK,m,q]
  | both id k f=>
   have:x.did= .looked:=by
    simp only [aE,ah] at a;obtain ⟨l,_,r,_,b⟩:=a;cases r with
    | none=>
     simp only [ah,au,aag] at b;obtain ⟨_,_,_,rfl⟩:=b;rfl
    | some j=>
     dsimp only at b;split at b
     .simp only [ah,au,aag] at b;obtain ⟨_,_,_,_,_,rfl⟩:=b;rfl
     .cases b
   rw [jZ,this] at hs;have hs:st2=st:=hs;rw [hs];exact a
  | new l f=>
   simp only [aE,aac,aag] at a ⊢;obtain ⟨rfl,rfl⟩:=a;have:st2.h=st.h:=hs;rw [this];simp
  | call f args=>
   simp only [aE] at a ⊢;split at a
   .exact a
   .split at a
    .simp only [ah,au,aag] at a;obtain ⟨v',b,rfl,rfl⟩:=a;have:st2=st:=hs;rw [this];simp only [ah,au];exact ⟨v',b,rfl⟩
    .simp only [ah,au] at a;obtain ⟨⟨v',s'⟩,b,h4⟩:=a;simp only [aag] at h4;obtain ⟨rfl,rfl⟩:=h4;have:st2=st:=hs;rw [this];simp only [ah,au];exact ⟨(v',s'),b,rfl⟩
  | yield k args=>
   simp only [aE,ah,au] at a ⊢;obtain ⟨⟨v',s'⟩,b,h4⟩:=a;simp only [aag] at h4;obtain ⟨rfl,rfl⟩:=h4;have:st2=st:=hs;rw [this];exact ⟨(v',s'),b,rfl⟩
 .exact h
theorem E7 {X:Cx} {e:Nat->Oq Nat} {all:List Oper} {fr:Fr} {st s0 m:St} {o:Oper} {v:AV} {rs:Ln} (h:gn X e all fr st o= .ok (v,⟨rs,.all s0 m⟩)):s0=st:=by
 unfold gn at h;split at h
 .split at h
  .obtain ⟨i,h1,b,a,h4,c⟩:=qZ h;simp at c
  simp only [ah] at h;obtain ⟨p,h1,b⟩:=h;cases p with
  | val u=>simp [aE] at b
  | obj id f=>
   simp only [aE,ah,au] at b;obtain ⟨g,a,⟨v',o'⟩,h4,d,c,l⟩:=b;simp only [aag,Fx.mk.injEq] at l;obtain ⟨_,_,rfl⟩:=l;cases o' with
   | none=>simp [fK] at c
   | some _=>simp only [fK] at c;split at c <;> simp at c
  | both id k f=>
   simp only [aE,ah] at b;obtain ⟨g,_,r,_,a⟩:=b;cases r with
   | none=>
    simp only [ah,au,aag] at a;obtain ⟨_,_,_,a⟩:=a;simp at a
   | some j=>
    dsimp only at a;split at a
    .simp only [ah,au,aag] at a;obtain ⟨_,_,_,_,_,a⟩:=a;simp at a
    .cases a
  | new g f=>
   simp only [aE,aac,aag,Fx.mk.injEq] at b;have:=b.2.2;simp at this
  | call f args=>
   simp only [aE] at b;split at b
   .simp only [ah,au] at b;obtain ⟨_,_,a⟩:=b;simp at a
   .split at b
    .simp only [ah,au] at b;obtain ⟨_,_,a⟩:=b;simp at a
    .simp only [ah,au] at b;obtain ⟨_,_,a⟩:=b;simp only [aag,Fx.mk.injEq,du.all.injEq] at a;exact a.2.2.1.symm
  | yield k args=>
   simp only [aE,ah,au] at b;obtain ⟨_,_,a⟩:=b;simp only [aag,Fx.mk.injEq,du.all.injEq] at a;exact a.2.2.1.symm
 .simp at h
theorem vo {X:Cx} {e:Nat->Oq Nat} {all:List Oper} {fr:Fr} {st:St} {o:Oper} {v:AV} {rs:Ln} {n:Nat} {g:Obj} (h:gn X e all fr st o= .ok (v,⟨rs,.made n g⟩)):n=st.h/\rs=[]:=by
 unfold gn at h;split at h
 .split at h
  .obtain ⟨i,h1,b,a,h4,c⟩:=qZ h;simp at c
  simp only [ah] at h;obtain ⟨p,h1,b⟩:=h;cases p with
  | val u=>simp [aE] at b
  | obj id f=>
   simp only [aE,ah,au] at b;obtain ⟨g,a,⟨v',o'⟩,h4,d,c,l⟩:=b;simp only [aag,Fx.mk.injEq] at l;obtain ⟨_,_,rfl⟩:=l;cases o' with
   | none=>simp [fK] at c
   | some _=>simp only [fK] at c;split at c <;> simp at c
  | both id k f=>
   simp only [aE,ah] at b;obtain ⟨g,_,r,_,a⟩:=b;cases r with
   | none=>
    simp only [ah,au,aag] at a;obtain ⟨_,_,_,a⟩:=a;simp at a
   | some j=>
    dsimp only at a;split at a
    .simp only [ah,au,aag] at a;obtain ⟨_,_,_,_,_,a⟩:=a;simp at a
    .cases a
  | new g f=>
   simp only [aE,aac,aag,Fx.mk.injEq,du.made.injEq] at b;exact ⟨b.2.2.1.symm,b.2.1.symm⟩
  | call f args=>
   simp only [aE] at b;split at b
   .simp only [ah,au] at b;obtain ⟨_,_,a⟩:=b;simp at a
   .split at b <;> simp only [ah,au] at b <;> obtain ⟨_,_,a⟩:=b <;> simp at a
  | yield k args=>
   simp only [aE,ah,au] at b;obtain ⟨_,_,a⟩:=b;simp at a
 .simp at h
theorem gP {l:Ln} {i:Nat} (h:l.contains i=false): ∀r∈l,i≠r:=fun r a e=>by
 subst e;have:l.contains i=true:=by simpa using a
 rw [this] at h;cases h
theorem H9 {X:Cx} {e:Nat->Oq Nat} {all:List Oper} {n q:Fr} {st:St} {w x:Oper} {v1 y:AV} {d f:Fx} (h1:gn X e all n st w= .ok (v1,d)) (t:gn X e all q (d.did.app st) x= .ok (y,f))
  (a:quiet d=true\/quiet f=true\/apart d f=true):
  jZ f (d.did.app st) st/\jZ d st (f.did.app st)/\d.did.app (f.did.app st)=f.did.app (d.did.app st):=by
 obtain ⟨v,d1⟩:=d;obtain ⟨r2,d2⟩:=f;have u:(d1= .kept/\v=[])\/(d2= .kept/\r2=[])\/apart ⟨v,d1⟩ ⟨r2,d2⟩=true:=by
  rcases a with a | a | a
  .left;cases d1 <;> simp [quiet] at a;exact ⟨rfl,a⟩
  .right;left;cases d2 <;> simp [quiet] at a;exact ⟨rfl,a⟩
  .exact .inr (.inr a)
 rcases u with ⟨rfl,rfl⟩ | ⟨rfl,rfl⟩ | a
 .refine ⟨?_,by simp [jZ],rfl⟩;cases d2 <;> simp [jZ,du.app]
 .refine ⟨by simp [jZ], ?_,rfl⟩;cases d1 <;> simp [jZ,du.app]
 .cases d1 with
  | kept=>
   cases d2 with
   | kept=>exact ⟨by simp [jZ,du.app],by simp [jZ,du.app],rfl⟩
   | looked=>exact ⟨by simp [jZ,du.app],by simp [jZ,du.app],rfl⟩
   | wrote i o=>
    simp only [apart,Bool.not_eq_true'] at a;refine ⟨by simp [jZ,du.app], ?_,rfl⟩;simp only [jZ,du.app];exact fun r b=>St.bD (gP a r b)
   | made i o=>
    simp only [apart,Bool.not_eq_true'] at a;obtain ⟨hi,_⟩:=vo t;refine ⟨by simp [jZ,du.app], ?_,rfl⟩;simp only [jZ,du.app];intro r b;exact St.oM fun e=>gP a r b (by rw [hi,e];rfl)
   | all s0 s=>
    simp only [apart,abd] at a;obtain rfl:s0=st:=E7 t;refine ⟨by simp [jZ,du.app], ?_,rfl⟩;simp only [jZ,du.app];exact fun r b=>Ct (a r b)
  | wrote i o=>
   cases d2 with
   | kept=>
    simp only [apart,Bool.not_eq_true'] at a;refine ⟨?_,by simp [jZ,du.app],rfl⟩;simp only [jZ,du.app];exact fun r b=>(St.bD (gP a r b)).symm
   | looked=>simp [apart,du.wD] at a
   | wrote j p=>
    simp only [apart,aaf,Bool.not_eq_true'] at a;obtain ⟨⟨g,k⟩,l⟩:=a;have c:i≠j:=fun e=>by subst e;simp at g
    refine ⟨⟨rfl,fun r b=>(St.bD (gP k r b)).symm⟩,⟨rfl,fun r b=>St.bD (gP l r b)⟩, ?_⟩;simp only [du.app];exact St.P9 fun e=>c e.symm
   | made j p=>
    simp only [apart,aaf,Bool.not_eq_true'] at a;obtain ⟨⟨g,k⟩,l⟩:=a;have c:i≠j:=fun e=>by subst e;simp at g
    obtain ⟨m,_⟩:=vo t;have m:j=st.h:=m;refine ⟨rfl,⟨rfl,fun r b=>St.oM fun e=>gP l r b (by rw [m,e])⟩, ?_⟩;simp only [du.app];exact (St.JP (by rw [<- m];exact c)).symm
   | all s0 s=>simp [apart] at a
  | made i o=>
   obtain ⟨hi,z⟩:=vo h1;cases d2 with
   | kept=>
    simp only [apart,Bool.not_eq_true'] at a;refine ⟨?_,by simp [jZ,du.app],rfl⟩;simp only [jZ,du.app];exact fun r b=>(St.oM fun e=>gP a r b (by rw [hi,e])).symm
   | looked=>simp [apart,du.wD] at a
   | wrote j p=>
    simp only [apart,aaf,Bool.not_eq_true'] at a;obtain ⟨⟨g,k⟩,l⟩:=a;have c:i≠j:=fun e=>by subst e;simp at g
    refine ⟨⟨rfl,fun r b=>(St.oM fun e=>gP k r b (by rw [hi,e])).symm⟩,rfl, ?_⟩;simp only [du.app];exact St.JP fun e=>c (by rw [hi,e])
   | made j p=>simp [apart] at a
   | all s0 s=>simp [apart] at a
  | looked=>
   cases d2 with
   | kept=>exact ⟨by simp [jZ,du.app],by simp [jZ,du.app],rfl⟩
   | looked=>exact ⟨by simp [jZ,du.app],by simp [jZ,du.app],rfl⟩
   | wrote j p=>simp [apart,du.wD] at a
   | made j p=>simp [apart,du.wD] at a
   | all s0 s=>simp [apart] at a
  | all s0 s=>
   cases d2 with
   | kept=>
    simp only [apart,abd] at a;obtain rfl:s0=st:=E7 h1;refine ⟨?_,by simp [jZ,du.app],rfl⟩;simp only [jZ,du.app];exact fun r b=>(Ct (a r b)).symm
   | _=>simp [apart] at a
def TH (ops:Array Oper) (p q:Nat×AV×Fx):Prop:=
 (quiet p.2.2=true\/quiet q.2.2=true\/apart p.2.2 q.2.2=true)/\ ∀a b,ops[p.1]? =some a->ops[q.1]? =some b->a.apart ops b=true
theorem LZ {X:Cx} {e:Nat->Oq Nat} {ops:Array Oper} {p q:Nat×AV×Fx} {l:List (Nat×AV×Fx)} {fr fr':Fr} {st st':St} (h:Bl X e ops.toList (p::q::l) fr st fr' st') (a:TH ops p q):Bl X e ops.toList (q::p::l) fr st fr' st':=by
 obtain ⟨i,v1,s⟩:=p;obtain ⟨j,m,n⟩:=q;cases h with
 | cons b h1 t=>
  cases t with
  | cons c o t=>
   rename_i r d;obtain ⟨u,v⟩:=a;have f:=v r d (by simpa using b) (by simpa using c);obtain ⟨w,x,y⟩:=Oper.apart_spec f;obtain ⟨z,A,B⟩:=H9 h1 o u;have g:gn X e ops.toList fr st d= .ok (m,n):=by
    have:=BZ o z;rw [<- this];exact AR (iH _ _ _).symm fun t a=>(Fr.bD fun e=>w t e a).symm
   have k:gn X e ops.toList (fr.put d.dst m) (n.did.app st) r= .ok (v1,s):=by
    have:=BZ h1 A;rw [<- this];exact AR (iH _ _ _) fun t a=>Fr.bD fun e=>y t e a
   refine .cons c g (.cons b k ?_);rw [B,Fr.put_comm (fun t C D=>x t D C)];exact t
theorem zE {X:Cx} {e:Nat->Oq Nat} {ops:Array Oper} {q:Nat×AV×Fx} {l2:List (Nat×AV×Fx)} {fr':Fr} {st':St}: ∀{l1:List (Nat×AV×Fx)} {fr:Fr} {st:St},Bl X e ops.toList (l1++q::l2) fr st fr' st'->(∀p∈l1,TH ops p q)->Bl X e ops.toList (q::(l1++l2)) fr st fr' st'
 | [],_,_,h,_=>h
 | p::l1,fr,st,h,a=>by
  cases h with
  | cons ho h t=>
   have ih:=zE t fun p b=>a p (by simp [b]);exact LZ (.cons ho h ih) (a _ (by simp))
theorem BL {ops:Array Oper} (h:lD ops.toList=true) {j:Nat} {o:Oper} {e:Edge} (ho:ops[j]? =some o) (a:e∈o.after) (b:Region.binds .any e=true):e.on < j:=by
 simp only [lD,aaf,abd] at h;have:=h.1 (o,j) (by
  rw [List.mem_zipIdx_iff_getElem?];simpa using ho)
 simp only at this;have:=this e (by simpa using a);rw [b] at this;simpa [cS] using this
theorem Bz {ops:Array Oper} (h:lD ops.toList=true) {i j:Nat} {o o':Oper} (a:i < j) (ho:ops[j]? =some o) (b:ops[i]? =some o'):o'.apart ops o=true\/behind ops.toList (j+1) j i=true:=by
 simp only [lD,aaf,abd] at h;have:=h.2 (o,j) (by
  rw [List.mem_zipIdx_iff_getElem?];simpa using ho)
 simp only at this;have:=this (o',i) (by
  rw [List.mem_iff_getElem?];refine ⟨i, ?_⟩;rw [List.getElem?_take,if_pos a,List.getElem?_zipIdx];simp [b])
 simpa using this
def Cm (ops:List Oper) (p q:Nat×AV×Fx):Prop:=quiet p.2.2=true\/quiet q.2.2=true\/apart p.2.2 q.2.2=true\/behind ops (q.1+1) q.1 p.1=true
theorem oL {ops:List Oper} {j:Nat} {x:Fx}: ∀{seen:List (Nat×Fx)},py ops j x seen=true-> ∀p∈seen,apart p.2 x=true\/behind ops (j+1) j p.1=true
 | [],_,p,a=>by cases a
 | (i,y)::l,h,p,a=>by
  simp only [py,aaf,aaP] at h;rcases aam.1 a with rfl | a
  .exact h.1
  .exact oL h.2 p a
theorem oK {X:Cx} {all:List Oper} {draw:Bool}: ∀{l:List Oper} {j:Nat} {seen:List (Nat×Fx)} {fr fr':Fr} {st st':St},dO X all draw j seen l fr st= .ok (fr',st')->l=all.drop j->
  ∃L,Bl X (fun _=>none) all L fr st fr' st'/\L.map (·.1)=List.range' j l.length/\(draw=true->L.Pairwise (Cm all)/\ ∀s∈seen,∀q∈L,quiet q.2.2=true\/apart s.2 q.2.2=true\/behind all (q.1+1) q.1 s.1=true)
 | [],j,seen,fr,fr',st,st',h,hl=>by
  simp only [dO,aac,aag] at h;obtain ⟨rfl,rfl⟩:=h;exact ⟨[],.nil,rfl,fun _=>⟨.nil,by simp⟩⟩
 | o::l,j,seen,fr,fr',st,st',h,hl=>by
  simp only [dO,ah] at h;obtain ⟨⟨v,x⟩,h1,c⟩:=h;have ho:all[j]? =some o:=by
   have:=aaY (·[0]?) hl;simpa using this.symm
  have d:l=all.drop (j+1):=by
   have:=aaY List.tail hl;simpa [List.tail_drop] using this
  split at c
  .rename_i hd;obtain ⟨L,k1,g,i⟩:=oK c d;refine ⟨(j,v,x)::L,.cons ho ((A0 X all fr st o).trans h1) k1,by simp [g,List.range'_succ],fun b=> ?_⟩;have e:quiet x=true:=by rw [b] at hd;simpa using hd
   obtain ⟨k,f⟩:=i b;refine ⟨.cons (fun q _=> .inl e) k,fun s hs q a=> ?_⟩;rcases aam.1 a with rfl | a
   .exact .inl e
   .exact f s hs q a
  .rename_i hd;split at c
   .rename_i m;obtain ⟨L,k1,g,i⟩:=oK c d;refine ⟨(j,v,x)::L,.cons ho ((A0 X all fr st o).trans h1) k1,by simp [g,List.range'_succ],fun b=> ?_⟩;obtain ⟨k,f⟩:=i b;refine ⟨.cons (fun q e=> ?_) k,fun s hs q a=> ?_⟩
    .rcases f (j,x) (by simp) q e with h | h | h
     .exact .inr (.inl h)
     .exact .inr (.inr (.inl h))
     .exact .inr (.inr (.inr h))
    .rcases aam.1 a with rfl | a
     .exact .inr (oL m s hs)
     .exact f s (by simp [hs]) q a
   .cases c
theorem nO {X:Cx} {e:Nat->Oq Nat} {all:List Oper}: ∀{l:List Oper} {j:Nat} {seen:List (Nat×Fx)} {fr fr':Fr} {st st':St},db X e all j seen l fr st= .ok (fr',st')->l=all.drop j->
  ∃L,Bl X e all L fr st fr' st'/\L.map (·.1)=List.range' j l.length/\L.Pairwise (Cm all)/\ ∀s∈seen,∀q∈L,quiet q.2.2=true\/apart s.2 q.2.2=true\/behind all (q.1+1) q.1 s.1=true
 | [],j,seen,fr,fr',st,st',h,hl=>by
  simp only [db,aac,aag] at h;obtain ⟨rfl,rfl⟩:=h;exact ⟨[],.nil,rfl,.nil,by simp⟩
 | o::l,j,seen,fr,fr',st,st',h,hl=>by
  simp only [db,ah] at h;obtain ⟨⟨v,x⟩,h1,b⟩:=h;have ho:all[j]? =some o:=by
   have:=aaY (·[0]?) hl;simpa using this.symm
  have c:l=all.drop (j+1):=by
   have:=aaY List.tail hl;simpa [List.tail_drop] using this
  split at b
  .rename_i hd;obtain ⟨L,k1,g,i⟩:=nO b c;refine ⟨(j,v,x)::L,.cons ho h1 k1,by simp [g,List.range'_succ], ?_⟩;have d:quiet x=true:=by simpa using hd
   obtain ⟨k,f⟩:=i;refine ⟨.cons (fun q _=> .inl d) k,fun s hs q a=> ?_⟩;rcases aam.1 a with rfl | a
   .exact .inl d
   .exact f s hs q a
  .rename_i hd;split at b
   .rename_i m;obtain ⟨L,k1,g,i⟩:=nO b c;refine ⟨(j,v,x)::L,.cons ho h1 k1,by simp [g,List.range'_succ], ?_⟩;obtain ⟨k,f⟩:=i;refine ⟨.cons (fun q d=> ?_) k,fun s hs q a=> ?_⟩
    .rcases f (j,x) (by simp) q d with h | h | h
     .exact .inr (.inl h)
     .exact .inr (.inr (.inl h))
     .exact .inr (.inr (.inr h))
    .rcases aam.1 a with rfl | a
     .exact .inr (oL m s hs)
     .exact f s (by simp [hs]) q a
   .cases b
structure XE (ops:Array Oper) (listed:Array Bool) (L:List (Nat×AV×Fx)):Prop where
 left: ∀k,k < ops.size->(listed.getD k true=false↔k∈L.map (·.1))
 lt: ∀k∈L.map (·.1),k < ops.size
 sorted:(L.map (·.1)).Pairwise (· < ·)
 closed: ∀k o e,ops[k]? =some o->listed.getD k true=true->e∈o.after->Region.binds .any e=true->listed.getD e.on false=true
 size:listed.size=ops.size
 cm:L.Pairwise (Cm ops.toList)
theorem CL {l:Array Bool} {k:Nat}:l.getD k false=true->l.getD k true=true:=by
 simp only [Array.getD_eq_getD_getElem?];cases l[k]? <;> simp
theorem sH {ops:Array Oper} {listed:Array Bool} {L:List (Nat×AV×Fx)} (g:XE ops listed L): ∀(f j i:Nat),behind ops.toList f j i=true->
  (∀o e,ops[j]? =some o->e∈o.after->Region.binds .any e=true->listed.getD e.on false=true)->listed.getD i true=true
 | 0,_,_,h,_=>by simp [behind] at h
 | f+1,j,i,h,k=>by
  simp only [behind,abn] at h;split at h
  .rename_i o ho;simp only [List.any_eq_true,aaf,aaP] at h;obtain ⟨e,l,m,a⟩:=h;have hl:=k o e ho (by simpa using l) m;rcases a with a | ⟨_,a⟩
   .rw [<- aan a];exact CL hl
   .exact sH g f e.on i a fun o' n b c d=>g.closed e.on o' n b (CL hl) c d
  .cases h
theorem mem_ready {ops:Array Oper} {listed:Array Bool} {i:Nat}:i∈Region.ready .any ops listed↔i < ops.size/\listed.getD i true=false/\ ∀o e,ops[i]? =some o->e∈o.after->Region.binds .any e=true->listed.getD e.on false=true:=by
 simp only [Region.ready,List.mem_filter,List.mem_range,aaf,Bool.not_eq_true'];constructor
 .rintro ⟨h1,b,a⟩;refine ⟨h1,b,fun o e ho c d=> ?_⟩;rw [ho] at a;simp only [Option.map_some,Option.getD_some,Array.all_eq_true'] at a;have:=a e c;rw [d] at this;simpa using this
 .rintro ⟨h1,b,a⟩;refine ⟨h1,b, ?_⟩;rw [Array.getElem?_eq_getElem h1];simp only [Option.map_some,Option.getD_some,Array.all_eq_true'];intro e c;cases d:Region.binds .any e with
  | false=>rfl
  | true=>simpa using a _ e (Array.getElem?_eq_getElem h1) c d
section
variable {P:Program} {A:Nat->Prop}
theorem Ah {X:Cx} {e0:Nat->Oq Nat} {ro:Oq Nat} (hX:Good P X) {ops:Array Oper} (E:ro.isSome=true->iU ops.toList=true) (r:lD ops.toList=true) {Q:Exit->Act->World->Prop} {fr':Fr} {st':St}: ∀(fuel:Nat) (listed:Array Bool) (L:List (Nat×AV×Fx)) (fr:Fr) (st:St) (g:Gh) (a:Act) (w:World),
  L.length=fuel->XE ops listed L->Bl X e0 ops.toList L fr st fr' st'->Rel X A ro g fr st a w->(∀a' g' w',Rel X A ro g' fr' st' a' w'->a'.defers=a.defers->Kp A g w g' w'->Q .normal a' w')->wpAnyIn (fe ro) 0 P .any ops Q fuel listed a w
 | 0,listed,L,fr,st,g,a,w,hl,d,S,hrel,T=>by
  have:L=[]:=aaZ hl;subst this;cases S;refine ⟨?_,T a g w hrel rfl (Kp.refl _ _ _)⟩;apply List.eq_nil_iff_forall_not_mem.2;intro i hi;obtain ⟨h1,U,_⟩:=mem_ready.1 hi;have:=(d.left i h1).1 U;cases this
 | fuel+1,listed,L,fr,st,g,a,w,hl,d,S,hrel,T=>by
  refine ⟨fun F=> ?_,fun i hi=> ?_⟩
  .exfalso;cases L with
   | nil=>simp at hl
   | cons p L=>
    have C:=d.lt p.1 (by simp);have:p.1∈Region.ready .any ops listed:=mem_ready.2 ⟨C,(d.left p.1 C).2 (by simp),fun o e ho R D=>by
     have G:=BL r ho R D;have H:e.on < ops.size:=by omega
     have I:e.on∉(p::L).map (·.1):=by
      intro hm;simp only [aal,aam] at hm;rcases hm with hm | hm
      .omega
      .have:=d.sorted;simp only [aal,abx] at this;have:=this.1 _ hm;omega
     have:=mt (d.left e.on H).1 I;have s:e.on < listed.size:=by rw [d.size];exact H
     simp only [Array.getD_eq_getD_getElem?,Array.getElem?_eq_getElem s,Option.getD_some] at this ⊢;simpa using this⟩
    rw [F] at this;cases this
  .obtain ⟨h1,U,h3⟩:=mem_ready.1 hi;have hm:=(d.left i h1).1 U;obtain ⟨q,hq,V⟩:=abf.1 hm;subst V;obtain ⟨L1,L2,rfl⟩:=List.append_of_mem hq;have u: ∀p∈L1,TH ops p q:=fun p C=>by
    have G:p.1 < q.1:=by
     have:=d.sorted;rw [aaK,List.pairwise_append] at this;exact this.2.2 p.1 (abf.2 ⟨p,C,rfl⟩) q.1 (by simp)
    have J: ∀f,behind ops.toList f q.1 p.1=true->False:=fun f D=>by
     have:=sH d f q.1 p.1 D h3;have K:=(d.left p.1 (by omega)).2 (by simp only [aaK,aaA,abf];exact .inl ⟨p,C,rfl⟩);rw [this] at K;cases K
    refine ⟨?_,fun o1 o2 e1 e2=> ?_⟩
    .have:=d.cm;rw [List.pairwise_append] at this;rcases this.2.2 p C q (by simp) with h | h | h | h
     .exact .inl h
     .exact .inr (.inl h)
     .exact .inr (.inr h)
     .exact (J _ h).elim
    .rcases Bz r G e2 e1 with h | h
     .exact h
     .exact (J _ h).elim
   have W:=zE S u;cases W with
   | cons ho h t=>
    rename_i j v x o;refine Ar hX E (by simpa using ho) h hrel fun a' g' w' z hd m=> ?_;refine Ah hX E r fuel _ (L1++L2) _ _ g' a' w' (by simp at hl ⊢;omega) ?_ t z fun Y Z av M a1 a6=>T Y Z av M (a1.trans hd) (m.trans a6);have s:j < listed.size:=by rw [d.size];exact h1
    have n: ∀k b,(listed.setIfInBounds j true).getD k b=if k=j then true else listed.getD k b:=fun k b=>by
     simp only [Array.getD_eq_getD_getElem?,Array.getElem?_setIfInBounds];by_cases m:j=k
     .subst m;simp [s]
     .rw [if_neg m,if_neg (fun e=>m e.symm)]
    have c:=d.sorted;rw [aaK,aal,List.pairwise_append,abx] at c;refine ⟨fun k m=> ?_,fun k m=>d.lt k ?_, ?_,fun k o' e N B R D=> ?_,by simp [d.size], ?_⟩
    .rw [n];by_cases l:k=j
     .subst l;simp only [if_true,Bool.true_eq_false,false_iff];intro hm;simp only [aaK,aaA] at hm;rcases hm with hm | hm
      .have:=c.2.2 k hm k (by simp);omega
      .have:=c.2.1.1 k hm;omega
     .rw [if_neg l,d.left k m];simp only [aaK,aal,aaA,aam];constructor
      .rintro (h | h | h)
       .exact .inl h
       .exact absurd h l
       .exact .inr h
      .rintro (h | h)
       .exact .inl h
       .exact .inr (.inr h)
    .simp only [aaK,aal,aaA,aam] at m ⊢;rcases m with h | h
     .exact .inl h
     .exact .inr (.inr h)
    .rw [aaK,List.pairwise_append];exact ⟨c.1,c.2.1.2,fun x hx y hy=>c.2.2 x hx y (by simp [hy])⟩
    .rw [n] at B ⊢;by_cases O:e.on=j
     .rw [if_pos O]
     .rw [if_neg O];by_cases l:k=j
      .subst l;exact h3 o' e N R D
      .rw [if_neg l] at B;exact d.closed k o' e N B R D
    .have:=d.cm;rw [List.pairwise_append,abx] at this;rw [List.pairwise_append];exact ⟨this.1,this.2.1.2,fun x hx y hy=>this.2.2 x hx y (by simp [hy])⟩
theorem Rel.drew {X:Cx} {ro:Oq Nat} {g:Gh} {fr:Fr} {st:St} {a:Act} {w:World} (h:Rel X A ro g fr st a w):Rel X A ro g fr st a w.drew:=⟨h.mode,h.fr,h.inv.drew,h.G,h.marks⟩
theorem D5 {X:Cx} {ro:Oq Nat} (f:Good P X) (hm:P.follows .mixedOrders=true) {id:Nat} {ops:Array Oper} (c:ro.isSome=true->iU ops.toList=true) {draw:Bool} (d:draw=true->lD ops.toList=true) {fr fr':Fr} {st st':St} {g:Gh} {a:Act} {w:World} {Q:Exit->Act->World->Prop}
  (h:dO X ops.toList draw 0 [] ops.toList fr st= .ok (fr',st')) (hrel:Rel X A ro g fr st a w) (i: ∀a' g' w',Rel X A ro g' fr' st' a' w'->a'.defers=a.defers->Kp A g w g' w'->Q .normal a' w'):(Code.region id ops draw).wpIn (fe ro) 0 P Q a w:=by
 obtain ⟨L,k1,j,l⟩:=oK h (by simp);have hlen:L.map (·.1)=List.range ops.size:=by rw [j,List.range_eq_range'];simp
 cases draw with
 | false=>
  refine wpIn_region ?_;have:=sK f c k1 hrel i
  rwa [hlen] at this
 | true=>
  obtain ⟨m,_⟩:=l rfl;refine wpIn_region_any hm ?_;refine Ah f c (d rfl) ops.size _ L fr st g a w.drew ?_ ?_ k1 hrel.drew fun a' g' w' n hd b=>i a' g' w' n hd ((Kp.drew A g w).trans b)
  .have:=aaY List.length hlen;simpa using this
  .refine ⟨fun k b=> ?_,fun k b=> ?_, ?_,fun k o e ho hl=> ?_,by simp,m⟩
   .rw [hlen];simp [b]
   .rw [hlen] at b;simpa using b
   .rw [hlen];exact List.pairwise_lt_range
   .have b:k < ops.size:=by
     rcases Nat.lt_or_ge k ops.size with q | q
     .exact q
     .rw [Array.getElem?_eq_none q] at ho;cases ho
    simp [b] at hl
theorem BR {X:Cx} {ro:Oq Nat} (f:Good P X) (hm:P.follows .mixedOrders=true) {id:Nat} {ops:Array Oper} (c:ro.isSome=true->iU ops.toList=true) {i:Nat->Oq Nat} (d:lD ops.toList=true) {fr fr':Fr} {st st':St} {g:Gh} {a:Act} {w:World} {Q:Exit->Act->World->Prop}
  (h:db X i ops.toList 0 [] ops.toList fr st= .ok (fr',st')) (hrel:Rel X A ro g fr st a w) (j: ∀a' g' w',Rel X A ro g' fr' st' a' w'->a'.defers=a.defers->Kp A g w g' w'->Q .normal a' w'):(Code.region id ops true).wpIn (fe ro) 0 P Q a w:=by
 obtain ⟨L,k1,l,m⟩:=nO h (by simp);have hlen:L.map (·.1)=List.range ops.size:=by rw [l,List.range_eq_range'];simp
 obtain ⟨n,_⟩:=m;refine wpIn_region_any hm ?_;refine Ah f c d ops.size _ L fr st g a w.drew ?_ ?_ k1 hrel.drew fun a' g' w' p hd b=>j a' g' w' p hd ((Kp.drew A g w).trans b)
 .have:=aaY List.length hlen;simpa using this
 .refine ⟨fun k b=> ?_,fun k b=> ?_, ?_,fun k o e ho hl=> ?_,by simp,n⟩
  .rw [hlen];simp [b]
  .rw [hlen] at b;simpa using b
  .rw [hlen];exact List.pairwise_lt_range
  .have b:k < ops.size:=by
    rcases Nat.lt_or_ge k ops.size with q | q
    .exact q
    .rw [Array.getElem?_eq_none q] at ho;cases ho
   simp [b] at hl
end
end Go.VM
