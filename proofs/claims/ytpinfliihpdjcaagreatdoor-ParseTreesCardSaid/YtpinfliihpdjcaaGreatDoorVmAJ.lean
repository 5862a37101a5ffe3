/-
  A part of the proof.
-/
import Derived.Test.YtpinfliihpdjcaaGreatDoorVmAI
import Derived.Laws.MakeOwn
import Derived.OrdersIn
import Derived.RangeFuncIn
import Derived.LoopNIn
set_option linter.all false
namespace Go.VM
def ik (T:TT) (A:Nat->Prop) (g:Gh) (st':St) (w:World) (v:AV) (x:Value) (w':World):Prop:= ∃g',R g' v x/\Inv T A g' st' w'/\Kp A g w g' w'
def pN (P:Program) (f:FuncId) (args:Array Value) (w:World) (post:Value->World->Prop):Prop:=
 (∃x w',(callFunc f args).run P w= .ok (.value x) w'/\post x w')\/
 ((callFunc f args).run P w= .ok (.enter f args) w/\Calls P f args w fun e w'=> ∃x,e= .returned x/\post x w')
def wm (P:Program) (l:Nat) (args:Array Value) (w:World) (post:Value->World->Prop):Prop:=
 ∃fn tmps a c,(Instr.yield l args).run P w= .ok (.round l fn tmps a c) w/\RoundIn Fence.wide 0 P l fn tmps a c w fun e w'=> ∃x,e= .returned x/\post x w'
structure tb (P:Program) (T:TT) (G:Nat->Option (List AV)) (C:cp):Prop where
 bare: ∀f args v,C.bare f args= .ok v-> ∀A g st w xs,GR g G->bx args=true->RL g args xs->Inv T A g st w->pN P f xs.toArray w (ik T A g st w v)
 wide: ∀f args st v st',C.wide f args st= .ok (v,st')-> ∀A g w xs,GR g G->RL g args xs->Inv T A g st w->
  (callFunc f xs.toArray).run P w= .ok (.enter f xs.toArray) w/\Calls P f xs.toArray w fun e w'=> ∃x,e= .returned x/\ik T A g st' w v x w'
 look: ∀f args st v,C.look f args st= .ok v-> ∀A g w xs,GR g G->RL g args xs->Inv T A g st w->pN P f xs.toArray w (ik T A g st w v)
 round: ∀k args st v st',C.round k args st= .ok (v,st')-> ∀A g w xs l,GR g G->RL g args xs->Inv T A g st w->g.E k=some (.blk l)->wm P l xs.toArray w (ik T A g st' w v)
def wQ (P:Program) (T:TT) (G:Nat->Option (List AV)) (prim:FuncId->Option Prim):Prop:=
 ∀f q,prim f=some q-> ∀C args p v a st A g w xs,GR g G->gT q args= .ok p->az C st p= .ok (v,a)->RL g args xs->Inv T A g st w->pN P f xs.toArray w (ik T A g (a.did.app st) w v)
section
variable {P:Program} {T:TT} {A:Nat->Prop} {g:Gh} {st:St} {w:World}
theorem CQ (hT:qW P T) {C:cp} {t:TypeId} {ts:Array TypeId} {ty:TypeId} {x v:AV} {xv:Value} {p:cV} {F:Fx} (j:ts[0]? =some t) (D:tT T t x= .ok p) (u:az C st p= .ok (v,F)) (r:R g x xv) (h:Inv T A g st w):
  aS P T A g w v (F.did.app st) (Builtin.len_ ts ty #[xv]):=by
 simp only [tT,ad] at D;obtain ⟨i,h1,f⟩:=D;have hi:=hT t i (bO.1 h1);have plain: ∀{n:Int},p= .val (.int .i64 n)->(Builtin.len_ ts ty #[xv]).run P w= .ok (goInt n) w->aS P T A g w v (F.did.app st) (Builtin.len_ ts ty #[xv]):=fun D G=>by
  subst D;simp only [az,NT,NU] at u;obtain ⟨rfl,rfl⟩:=u;exact aS.of h G (by simp only [R];rfl)
 split at f
 .rename_i n e _ q;simp only [aj] at f;exact plain f.symm (by simp [Builtin.len_,j,mh hi q])
 .rename_i s q;simp only [aj] at f;simp only [R] at r;subst r;exact plain f.symm (by simp [Builtin.len_,j,oB hi q,jS])
 .rename_i e q;simp only [aj] at f;simp only [R] at r;subst r;exact plain f.symm (by simp [Builtin.len_,j,dz hi q])
 .rename_i e z es W q;simp only [aj] at f;simp only [R] at r;obtain ⟨_,b,o,cap,rfl,_⟩:=r;exact plain f.symm (by simp [Builtin.len_,j,dz hi q])
 .rename_i e X Y Z a4 a5 q;simp only [aj] at f;simp only [R] at r;obtain ⟨b,o,_,c,rfl,_⟩:=r;exact plain f.symm (by simp [Builtin.len_,j,dz hi q])
 .rename_i e k z n q;simp only [aj] at f;simp only [R] at r;obtain ⟨_,b,cap,_,_,rfl,_⟩:=r;exact plain f.symm (by simp [Builtin.len_,j,dz hi q])
 .rename_i e q;simp only [aj] at f;simp only [R] at r;obtain ⟨a,rfl⟩:=r;exact plain f.symm (by simp [Builtin.len_,j,dz hi q])
 .rename_i k e q;simp only [aj] at f;simp only [R] at r;subst r;exact plain f.symm (by simp [Builtin.len_,j,oA hi q])
 .rename_i k e es q;simp only [aj] at f;simp only [R] at r;obtain ⟨b,ents,clk,I,rfl,J⟩:=r;have y:=h.M b ents clk I;have B:(getObj b).run P w= .ok (.map ents.toArray clk) w:=by simp [getObj,Sem.run,y]
  have hl:ents.length=es.length:=d J;exact plain f.symm (by simp [Builtin.len_,j,oA hi q,B,hl])
 .rename_i k e m q;simp only [aj] at f;subst f;simp only [fD,az,ad,aj] at u;obtain ⟨o,K,⟨v',o'⟩,⟨L,E,g4⟩,dd,g5,g6⟩:=u;simp only [NU] at g4 g6;obtain ⟨rfl,rfl⟩:=g4;simp only [dv,NT] at g5;subst g5;obtain ⟨rfl,rfl⟩:=g6;split at E
  .rename_i es;simp only [NT] at E;subst E;simp only [R] at r;obtain ⟨b,N,rfl⟩:=r;obtain ⟨b',ents,clk,O,Q,S,q4⟩:=h.H m _ K;have U:b'=b:=by have:=O.symm.trans N;simpa using this
   subst U;have B:(getObj b').run P w= .ok (.map ents clk) w:=by simp [getObj,Sem.run,Q]
   have hl:=d S;simp only [OK] at hl;exact aS.of h (x:=goInt ents.size) (by simp [Builtin.len_,j,oA hi q,B]) (by simp only [R,hl];rfl)
  .cases E
 .cases f
 where
 d: ∀{es:List (AV×AV)} {ents:List MapEntry},mi g es ents->ents.length=es.length
  | [],_,h=>by simp only [mi] at h;subst h;rfl
  | (_,_)::es,_,h=>by
   simp only [mi] at h;obtain ⟨e,l,rfl,_,_,V⟩:=h;simp [d V]
theorem kR {lower:Bool}: ∀{l:List AV} {ls:List Value} {a v:AV} {x:Value},pM lower a l= .ok v->R g a x->RL g l ls->
  ∃z,(ls.foldlM (if lower then Builtin.min2 else Builtin.max2) x).run P w= .ok z w/\R g v z
 | [],_,a,v,x,h,d,hl=>by
  simp only [pM,NT] at h;subst h;simp only [RL] at hl;subst hl;exact ⟨x,rfl,d⟩
 | b::l,_,a,v,x,h,d,hl=>by
  simp only [RL] at hl;obtain ⟨y,ys,rfl,h1,i⟩:=hl;simp only [pM,ad] at h;obtain ⟨c,j,h4⟩:=h;obtain ⟨z,e,k⟩:=zY (P:=P) (w:=w) j d h1;obtain ⟨z',f,m⟩:=kR h4 k i;refine ⟨z', ?_,m⟩;rw [List.foldlM_cons];cases lower <;> simp only [Oi,if_false,if_true] at e f ⊢ <;> simp only [Sem.run_bind,e,Result.andThen_ok,f]
def _root_.Go.Oper.CF (P:Program) (o:Oper) (a:Act) (w:World) (K:Act->World->Prop):Prop:=
 match (execOp a.eval o).run P w with
 | .ok (.value v) w'=>K (a.put o.dst v) w'
 | .ok .skip w'=>K (a.put o.dst Go.undef) w'
 | .ok (.enter f args) w'=>Calls P f args w' fun e b=> ∃x,e= .returned x/\K (a.put o.dst x) b
 | .ok (.round l f tmps x c) w'=>RoundIn Fence.wide 0 P l f tmps x c w' fun e b=> ∃x,e= .returned x/\K (a.put o.dst x) b
 | _=>False
def fe (ro:Option Nat):Fence:={Fence.wide with round:=ro}
theorem ES {o:Oper} {a:Act} {K:Act->World->Prop} {Q:Exit->Act->World->Prop} {ro:Option Nat} (h:o.CF P a w K) (hd: ∀c,o.op≠ .defer c):o.wpIn (fe ro) 0 P a w K Q:=by
 refine ⟨fun _ _=>trivial, ?_⟩;show o.uponIn (fe ro) 0 P a K Q ((o.semAt ro a.eval).run P w);rw [Oper.semAt_eq ro a.eval o hd];unfold Go.Oper.CF at h;generalize (execOp a.eval o).run P w=r at h;cases r with
 | halt x w'=>exact h.elim
 | ok x w'=>
  cases x <;> first | exact h | exact h.elim | skip
  .refine ⟨fun e=>by simp [fe,Fence.wide] at e, ?_⟩;have h:CallsIn Fence.wide 0 P _ _ w' fun e b=> ∃x,e= .returned x/\K (a.put o.dst x) b:=callsIn_wide.2 h;refine CallsIn.mono h ?_;rintro e b ⟨x,rfl,d⟩;exact d
  .refine ⟨fun e=>by simp [fe,Fence.wide] at e, ?_⟩;refine RoundIn.mono h ?_;rintro e b ⟨x,rfl,d⟩;exact d
theorem dR {o:Oper} {a:Act} {K:Act->World->Prop} {s:Sem Value} {v:AV} {st':St} (b:execOp a.eval o=(do pure (.value (<- s)))) (c:aS P T A g w v st' s)
  (hK: ∀x w',ik T A g st' w v x w'->K (a.put o.dst x) w'):o.CF P a w K:=by
 obtain ⟨x,g',w',h1,d,e,h4⟩:=c;unfold Go.Oper.CF;rw [b];simp only [Sem.run_bind,h1,Result.andThen_ok,Sem.run_pure];exact hK x w' ⟨g',d,e,h4⟩
theorem rb {o:Oper} {a:Act} {K:Act->World->Prop} {s:Sem Unit} {st':St} (b:execOp a.eval o=(do s;pure .skip)) (c:vN P T A g w st' s)
  (hK: ∀x w',ik T A g st' w undef x w'->K (a.put o.dst x) w'):o.CF P a w K:=by
 obtain ⟨g',w',h1,d,h4⟩:=c;unfold Go.Oper.CF;rw [b];simp only [Sem.run_bind,h1,Result.andThen_ok,Sem.run_pure];exact hK Go.undef w' ⟨g',wi,d,h4⟩
theorem Eh {o:Oper} {a:Act} {K:Act->World->Prop} {l:Nat} {args:Array Value} {v:AV} {st':St} (b:execOp a.eval o=Instr.yield l args) (d:wm P l args w (ik T A g st' w v))
  (hK: ∀x w',ik T A g st' w v x w'->K (a.put o.dst x) w'):o.CF P a w K:=by
 unfold Go.Oper.CF;rw [b];obtain ⟨fn,tmps,x,c,h1,f⟩:=d;rw [h1];refine RoundIn.mono f ?_;rintro e w' ⟨y,rfl,h⟩;exact ⟨y,rfl,hK y w' h⟩
theorem qP {o:Oper} {a:Act} {K:Act->World->Prop} {f:FuncId} {args:Array Value} {v:AV} {st':St} (c:execOp a.eval o=callFunc f args) (d:pN P f args w (ik T A g st' w v))
  (hK: ∀x w',ik T A g st' w v x w'->K (a.put o.dst x) w'):o.CF P a w K:=by
 unfold Go.Oper.CF;rw [c];rcases d with ⟨x,w',h1,b⟩ | ⟨h1,b⟩
 .rw [h1];exact hK x w' b
 .rw [h1];refine b.mono ?_;rintro e w' ⟨x,rfl,h⟩;exact ⟨x,rfl,hK x w' h⟩
theorem oz {X:cl AV} {p:cV} (h:(do pure (cV.val (<- X)):cl cV)= .ok p): ∃v,X= .ok v/\p= .val v:=by
 simp only [ad,aj] at h;obtain ⟨v,h1,a⟩:=h;exact ⟨v,h1,a.symm⟩
theorem rU (zs:Array Value): ∀(c:Nat),(madeCells zs (c * zs.size)).toList=(List.replicate c zs.toList).flatten
 | 0=>by simp [madeCells]
 | c+1=>by
  have ih:=rU zs c;simp only [madeCells,Array.toList_map,Array.toList_range] at ih ⊢;rw [show (c+1) * zs.size=zs.size+c * zs.size by rw [Nat.add_mul,Nat.one_mul,Pb],List.range_add,OJ,List.replicate_succ,List.flatten_cons, <- ih,List.map_map];congr 1
  .apply List.ext_getElem?
   intro k;rw [OM];by_cases a:k < zs.size
   .rw [List.getElem?_range a,OE,Array.getElem?_eq_getElem a];simp [Nat.mod_eq_of_lt a,a]
   .rw [Og (by simp;omega),Og (by simp;omega)];rfl
  .apply List.map_congr_left;intro k _;simp
theorem jl (l:List Value): ∀c,gu l c=(List.replicate c l).flatten
 | 0=>rfl
 | c+1=>by rw [gu,jl l c,List.replicate_succ,List.flatten_cons]
theorem qI (hT:qW P T) {C:cp} {t:TypeId} {l c v:AV} {F G:Value} {p:cV} {H:Fx} (I:kL T t l c= .ok p) (b:az C st p= .ok (v,H)) (hl:R g l F) (J:R g c G) (h:Inv T A g st w):
  aS P T A g w v (H.did.app st) (Instr.makeSlice t F G):=by
 simp only [kL,ad] at I;obtain ⟨it,h1,s⟩:=I;rw [bO] at h1;split at s
 .rename_i e U K kc j m;simp only [ad] at s;obtain ⟨i,u,h4⟩:=s;rw [bO] at u;split at h4
  .rename_i o;simp only [N0,Nat.ble_eq] at o;obtain ⟨⟨⟨⟨c1,c2⟩,c3⟩,V⟩,L⟩:=o;simp only [R] at hl J;subst hl J;obtain ⟨d,W,M,_⟩:=(hT t it h1).und;rw [m] at M;have X:P.underlying t=some (.slice e):=by rw [W,M]
   obtain ⟨f,Y,Z,i3,z,i4,N,i6,i7,i8,i9⟩:=(hT e i u).info;have q:=run_make (P:=P) w t e f z X Y i4 U kc (.ofNat K) (.ofNat j) (Int.natCast_nonneg K) (Int.ofNat_le.2 c1) (by rw [i3];exact Int.ofNat_le.2 c3) (Int.ofNat_le.2 V);have O:(madeCells z.cells (j * z.cells.size)).toList=(List.replicate j z.cells.toList).flatten:=rU z.cells j;have r: ∀x∈gu z.cells.toList j,x.oneCell'=true:=fun x Q=>by
    rw [jl] at Q;obtain ⟨l',y,B⟩:=List.mem_flatten.1 Q;have:=List.eq_of_mem_replicate y;subst this;exact i7 x (by simpa using B)
   have a:(madeCells z.cells ((Int.ofNat j).toNat * f.size))=(gu z.cells.toList j).toArray:=by
    rw [jl, <- O,Z, <- N];simp
   split at h4
   .rename_i k;have k:=NZ k;subst k;simp only [aj] at h4;subst h4;simp only [az,NT,NU] at b;obtain ⟨rfl,rfl⟩:=b;obtain ⟨g',D,E,S⟩:=h.Fe (els:=[]) (vals:=[]) (rest:=gu z.cells.toList j) (cap:=j) (n:=0) u L rfl (by simp) rfl (by simp [flat,RL]) (by simp) (by rw [OO,N5,jl, <- O,OK,size_madeCells,N]) (O4 _);refine ⟨_,g',_,q,S, ?_, ?_⟩
    .rw [a];exact D
    .rw [a];exact E
   simp only [aj] at h4;subst h4;simp only [az,NT,NU] at b;obtain ⟨rfl,rfl⟩:=b;obtain ⟨D,E,S⟩:=h.sd e (td (i9 g) j) r;refine ⟨_,g.cg st.h (.blk w.heap.size),_,q, ?_, ?_, ?_⟩
   .simp only [R];exact ⟨w.heap.size,0,Gh.aF _ _ _,_,rfl,c1,L,fun _=>rfl,.inl rfl⟩
   .rw [a];exact D
   .rw [a];exact E
  .cases h4
 .cases s
theorem mC {C:cp} {u v:AV} {a:Fx} (h:az C st (.val u)= .ok (v,a)):u=v/\a=⟨[],.kept⟩:=by
 simp only [az,NT,NU] at h;exact ⟨h.1,h.2.symm⟩
theorem zF (X:Cx) (hT:qW P X.T) (hC:tb P X.T X.G X.C) (a8:wQ P X.T X.G X.prim) {o:Oper} {fr:Fr} {a:Act} {p:cV} {v:AV} {fx:Fx} {K:Act->World->Prop}
  (B:dG X.T X.prim X.imm X.G fr o.op= .ok p) (j:az X.C st p= .ok (v,fx)) (hG:GR g X.G) (hf:ra g fr a.tmps) (h:Inv X.T A g st w)
  (hK: ∀x w',ik X.T A g (fx.did.app st) w v x w'->K (a.put o.dst x) w'):o.CF P a w K:=by
 obtain ⟨dst,op,type,pos,after,guard⟩:=o;have val: ∀{Y:cl AV} {s:Sem Value},(do pure (cV.val (<- Y)):cl cV)= .ok p->execOp a.eval ⟨dst,op,type,pos,after,guard⟩=(do pure (.value (<- s)))->
   (∀u,Y= .ok u->aS P X.T A g w u st s)->Oper.CF P ⟨dst,op,type,pos,after,guard⟩ a w K:=fun hY J hg=>by
  obtain ⟨u,h1,rfl⟩:=oz hY;obtain ⟨rfl,rfl⟩:=mC j;exact dR J (hg u h1) hK
 cases op <;> simp only [dG] at B <;> (try (cases B;done))
 case move x=>exact val B (s:=pure (a.eval x)) (by simp [execOp]) fun u E=>aS.of h rfl (aH hG hf E)
 case assign x=>exact val B (s:=pure (a.eval x)) (by simp [execOp]) fun u E=>aS.of h rfl (aH hG hf E)
 case pick c x y=>
  refine val B (s:=do pure (if <- Go.asBool (a.eval c) then a.eval x else a.eval y)) (by simp [execOp]) fun u E=> ?_;simp only [ad] at E;obtain ⟨cv,h1,b,n,D⟩:=E;have hc:=aH hG hf h1;cases cv <;> simp only [VM.asBool,NT] at n <;> (try (cases n;done))
  subst n;simp only [R] at hc;rename_i b;cases b with
  | true=>exact aS.of h (by simp [hc,Go.asBool]) (aH hG hf D)
  | false=>exact aS.of h (by simp [hc,Go.asBool]) (aH hG hf D)
 case alloc t=>
  simp only [ad,aj] at B;obtain ⟨i,h1,rfl⟩:=B;simp only [az,NT,NU] at j;obtain ⟨rfl,rfl⟩:=j;exact dR (s:=Instr.alloc t true (.tuple #[])) (by simp [execOp]) (yS (hT t i (bO.1 h1)) h _) hK
 case box t x=>
  simp only [ad] at B;obtain ⟨i,h1,u,n,D⟩:=B;exact dR (s:=Instr.box t (a.eval x)) (by simp [execOp]) (BK D j (aH hG hf n) h) hK
 case build t parts=>
  refine val B (s:=Instr.build t (parts.map fun (i,x)=>(i,a.eval x))) (by simp [execOp]) fun u E=> ?_;simp only [ad] at E;obtain ⟨ps,h1,n⟩:=E;exact yx hT n (by simpa using gZ hG hf h1) h
 case buildSlice t len parts=>
  refine val B (s:=Instr.buildSlice t len (parts.map fun (i,x)=>(i,a.eval x))) (by simp [execOp]) fun u E=> ?_;simp only [ad] at E;obtain ⟨ps,h1,n⟩:=E;exact pf hT n (by simpa using gZ hG hf h1) h
 case makeSlice t x y=>
  simp only [ad] at B;obtain ⟨u1,h1,u2,n,D⟩:=B;exact dR (s:=Instr.makeSlice t (a.eval x) (a.eval y)) (by simp [execOp]) (qI hT D j (aH hG hf h1) (aH hG hf n) h) hK
 case load t x=>
  simp only [ad] at B;obtain ⟨i,h1,u,n,D⟩:=B;exact dR (s:=Instr.loadAt t (a.eval x)) (by simp [execOp]) (zW (hT t i (bO.1 h1)) D j (aH hG hf n) h) hK
 case store t x y=>
  simp only [ad] at B;obtain ⟨i,h1,u,n,B⟩:=B;split at B
  .simp only [ad] at B;obtain ⟨u',D,h4⟩:=B;obtain ⟨rfl,hg⟩:=ua (hT t i (bO.1 h1)) h4 j (aH hG hf n) (aH hG hf D) h;exact rb (s:=Instr.storeAt t (a.eval x) (a.eval y)) (by simp [execOp]) hg hK
  .simp only [ad] at B;obtain ⟨u',D,h4⟩:=B;obtain ⟨rfl,hg⟩:=zb (hT t i (bO.1 h1)) h4 j (aH hG hf n) (aH hG hf D) h;exact rb (s:=Instr.storeAt t (a.eval x) (a.eval y)) (by simp [execOp]) hg hK
 case nilCheck x=>
  obtain ⟨u,h1,rfl⟩:=oz B;obtain ⟨rfl,rfl⟩:=mC j;simp only [ad] at h1;obtain ⟨u',n,D⟩:=h1;have O:=aH hG hf n;split at D <;> (try (cases D;done)) <;> simp only [aj] at D <;> subst D
  .have H:=O;simp only [R] at H;obtain ⟨_,b,o,hx,_⟩:=H;exact dR (s:=pure (a.eval x)) (by simp [execOp,hx]) (aS.of h rfl O) hK
  .have H:=O;simp only [R] at H;obtain ⟨b,_,hx⟩:=H;exact dR (s:=pure (a.eval x)) (by simp [execOp,hx]) (aS.of h rfl O) hK
  .have H:=O;simp only [R] at H;obtain ⟨_,b,_,_,_,hx⟩:=H;exact dR (s:=pure (a.eval x)) (by simp [execOp,hx]) (aS.of h rfl O) hK
  .have H:=O;simp only [R] at H;obtain ⟨a',c',hx,_⟩:=H;exact dR (s:=pure (a.eval x)) (by simp [execOp,hx]) (aS.of h rfl O) hK
 case binOp op t x y yt=>
  refine val B (s:=do eqGuard op t x y (a.eval x) (a.eval y);Go.binOp op t (a.eval x) (a.eval y)) (by simp [execOp]) fun u E=> ?_;simp only [ad] at E;obtain ⟨V,h1,y',n,D⟩:=E;exact wu hT D (aH hG hf h1) (aH hG hf n) h
 case unOp op t x=>
  refine val B (s:=Op.unary op (a.eval x)) (by simp [execOp]) fun u E=> ?_;simp only [ad] at E;obtain ⟨V,h1,D⟩:=E;exact zT D (aH hG hf h1) h
 case convert s d x=>
  simp only [ad] at B;obtain ⟨u,n,D⟩:=B;exact dR (s:=Go.convert s d (a.eval x)) (by simp [execOp]) (tO hT D j (aH hG hf n) h) hK
 case makeInterface t x=>
  refine val B (s:=Instr.makeInterface t (a.eval x)) (by simp [execOp]) fun u E=> ?_;simp only [ad] at E;obtain ⟨i,h1,n⟩:=E;have hi:=hT t i (bO.1 h1);obtain ⟨d,d1,d2,_⟩:=hi.jr;have fin:(∀ms,d≠ .interface ms)->(do pure (AV.iface t (<- bD X.G fr x)):cl AV)= .ok u->aS P X.T A g w u st (Instr.makeInterface t (a.eval x)):=fun hd J=>by
   simp only [ad,aj] at J;obtain ⟨V,h1,rfl⟩:=J;refine aS.of h (x:= .iface t (a.eval x)) ?_ (by simp only [R];exact ⟨_,rfl,aH hG hf h1⟩);simp only [Instr.makeInterface,Sem.run_bind,d1,Result.andThen_ok];cases d <;> first | rfl | exact absurd rfl (hd _)
  split at n
  .cases n
  .cases n
  .rename_i n1 n2;refine fin (fun ms b6=> ?_) n;subst b6;cases E:i.und <;> rw [E] at d2 n1 n2 <;> simp only [rZ] at d2 <;> (try (cases d2;done)) <;> first
    | exact n1 _ rfl
    | exact n2 rfl
    | (obtain ⟨_,e,_⟩:=d2;cases e;done)
    | (obtain ⟨_,_,_,e⟩:=d2;cases e;done)
 case makeFunc f first cap=>
  refine val B (s:=Instr.makeFunc f (first.map a.eval) (cap.map a.eval)) (by simp [execOp]) fun u E=> ?_;simp only [ad,aj] at E;obtain ⟨l1,h1,l2,n,rfl⟩:=E;refine aS.of h (x:= .func f (first.map a.eval) (cap.map a.eval)) rfl ?_;simp only [R];exact ⟨_,_,rfl,by simpa using ji hG hf h1,by simpa using ji hG hf n⟩
 case makeMap t r=>
  cases r with
  | some r=>simp at B
  | none=>
   simp only [NT] at B;subst B;simp only [az,NT,NU] at j;obtain ⟨rfl,rfl⟩:=j;exact dR (s:=Instr.makeMap t none) (by simp [execOp]) (tS t h) hK
 case slice t x lo hi mx=>
  have b4:mx≠none->hi≠none:=by
   intro h1 n;subst n;cases mx with
   | none=>exact h1 rfl
   | some m=>simp at B
  have b7:(do pure (cV.val (<- (do iV X.T t (<- bD X.G fr x) (<- dj X.G fr lo) (<- dj X.G fr hi) (<- dj X.G fr mx)))):cl cV)= .ok p:=by
   cases mx <;> cases hi <;> first | exact B | exact absurd rfl (b4 (by simp))
  refine val b7 (s:=Instr.sliceAt t (a.eval x) (lo.map a.eval) (hi.map a.eval) (mx.map a.eval)) (by simp [execOp]) fun u E=> ?_;simp only [ad] at E;obtain ⟨V,h1,l',n,i',D,m',h4,Q⟩:=E;refine zw hT Q (aH hG hf h1) (jI hG hf n) (jI hG hf D) (jI hG hf h4) h fun hm hh=> ?_;subst hh;have hh:hi≠none:=b4 fun e=>by
   subst e;simp only [dj,NT] at h4;exact hm h4.symm
  cases hi with
  | none=>exact hh rfl
  | some q=>
   simp only [dj,ad,aj] at D;obtain ⟨_,_,e⟩:=D;cases e
 case fieldAddr t x f=>
  refine val B (s:=Instr.fieldAt t (a.eval x) f) (by simp [execOp]) fun u E=> ?_;simp only [ad] at E;obtain ⟨V,h1,D⟩:=E;exact qD hT D (aH hG hf h1) h
 case field t x f=>
  refine val B (s:=Instr.field t (a.eval x) f) (by simp [execOp]) fun u E=> ?_;simp only [ad] at E;obtain ⟨V,h1,D⟩:=E;exact yJ hT D (aH hG hf h1) h
 case indexAddr t x i=>
  simp only [ad] at B;obtain ⟨V,h1,B⟩:=B;split at B
  .simp only [ad] at B;obtain ⟨i',n,D⟩:=B;exact dR (s:=Instr.indexAt t (a.eval x) (a.eval i)) (by simp [execOp]) (uh hT D j (aH hG hf h1) (aH hG hf n) h) hK
  .refine val B (s:=Instr.indexAt t (a.eval x) (a.eval i)) (by simp [execOp]) fun u E=> ?_;simp only [ad] at E;obtain ⟨i',n,D⟩:=E;exact qG hT D (aH hG hf h1) (aH hG hf n) h
 case index t x i=>
  refine val B (s:=Instr.index t (a.eval x) (a.eval i)) (by simp [execOp]) fun u E=> ?_;simp only [ad] at E;obtain ⟨V,h1,i',n,D⟩:=E;exact yC hT D (aH hG hf h1) (aH hG hf n) h
 case lookup t x k ok=>
  simp only [ad] at B;obtain ⟨V,h1,k',n,D⟩:=B;exact dR (s:=Instr.lookup t (a.eval x) (a.eval k) ok) (by simp [execOp]) (vM hT D j (aH hG hf h1) (aH hG hf n) h) hK
 case mapUpdate t m k x=>
  simp only [ad] at B;obtain ⟨m',h1,k',n,V,D,h4⟩:=B;obtain ⟨rfl,hg⟩:=lk hT h4 j (aH hG hf h1) (aH hG hf n) (aH hG hf D) h;exact rb (s:=Instr.mapUpdate t (a.eval m) (a.eval k) (a.eval x)) (by simp [execOp]) hg hK
 case insert t m k x=>
  simp only [ad] at B;obtain ⟨m',h1,k',n,V,D,h4⟩:=B;obtain ⟨rfl,hg⟩:=lk hT h4 j (aH hG hf h1) (aH hG hf n) (aH hG hf D) h;exact rb (s:=Instr.mapUpdate t (a.eval m) (a.eval k) (a.eval x)) (by simp [execOp]) hg hK
 case range t x=>
  simp only [ad] at B;obtain ⟨i,h1,V,n,D⟩:=B;split at D
  .rename_i s E;simp only [aj] at D;subst D;simp only [az,NT,NU] at j;obtain ⟨rfl,rfl⟩:=j;have O:=aH hG hf n;simp only [R] at O;exact dR (s:=Instr.range t (a.eval x)) (by simp [execOp]) (by rw [O];exact yT (hT t i (bO.1 h1)) E h) hK
  .cases D
 case next x b=>
  cases b with
  | false=>simp at B
  | true=>
   simp only [ad] at B;obtain ⟨V,h1,n⟩:=B;exact dR (s:=Instr.next (a.eval x) true type) (by simp [execOp]) (zQ n j (aH hG hf h1) h) hK
 case extract x i=>
  refine val B (s:=Instr.extract (a.eval x) i) (by simp [execOp]) fun u E=> ?_;simp only [ad] at E;obtain ⟨V,h1,n⟩:=E;have O:=aH hG hf h1;split at n
  .simp only [R] at O;obtain ⟨ys,hx,hl⟩:=O;obtain ⟨y,e1,e2⟩:=DW hl n;exact aS.of h (by rw [hx];simp only [Instr.extract];rw [show ys[i]? =some y by simpa using e1];rfl) e2
  .cases n
 case call c=>
  simp only [ad] at B;obtain ⟨args,h1,n⟩:=B;have F:=ji hG hf h1;split at n
  .rename_i b S;have J: ∀s:Sem Value,Go.builtin b c.argTypes type (c.args.map fun | .const _=>true | _=>false) (c.args.map a.eval)=(do pure (.value (<- s)))->execOp a.eval ⟨dst,.call c,type,pos,after,guard⟩=(do pure (.value (<- s))):=fun s hs=>by
    simp only [execOp,resolve,S,pure_bind,invoke];exact hs
   have L:(c.args.map a.eval).toList=c.args.toList.map a.eval:=by simp
   unfold dS at n;split at n
   .rename_i t xt sv xv M;simp only [RL] at F;obtain ⟨y1,l1,e1,Z,y2,l2,rfl,r2,rfl⟩:=F;have I:c.args.map a.eval= #[y1,y2]:=by apply Array.ext';rw [L,e1]
    have N:c.argTypes= #[t,xt]:=by apply Array.ext';rw [M]
    simp only [ad] at n;obtain ⟨i,D,ix,h4,Q⟩:=n;have hi:=hT t i (bO.1 D);have b8:=hT xt ix (bO.1 h4);split at Q
    .rename_i e E b5;simp only [ad] at Q;obtain ⟨ei,W,h7⟩:=Q;have av:=hT e ei (bO.1 W);obtain ⟨d,d1,d2,_⟩:=hi.und;rw [E] at d2;simp only [rZ] at d2;subst d2;obtain ⟨dx,x1,x2,_⟩:=b8.und;have a1: ∀k,dx≠ .int k:=fun k hk=>by
      subst hk;cases b9:ix.und <;> rw [b9] at x2 b5 <;> simp only [rZ] at x2 <;> (try (cases x2;done)) <;> (try (simp [AE] at b5;done))
     split at h7
     .rename_i new a6;split at h7
      .exact dR (J (Builtin.append_ c.argTypes type (c.args.map a.eval)) rfl) (by rw [I,N];exact ta ⟨d1,⟨dx,x1,a1⟩,bO.1 W,av⟩ a6 h7 j Z r2 h) hK
      split at h7
      .exact dR (J (Builtin.append_ c.argTypes type (c.args.map a.eval)) rfl) (by rw [I,N];exact r7 ⟨d1,⟨dx,x1,a1⟩,bO.1 W,av⟩ a6 h7 j Z r2 h) hK
      split at h7
      .exact dR (J (Builtin.append_ c.argTypes type (c.args.map a.eval)) rfl) (by rw [I,N];exact qK ⟨d1,⟨dx,x1,a1⟩,bO.1 W,av⟩ a6 h7 j Z r2 h) hK
      .exact dR (J (Builtin.append_ c.argTypes type (c.args.map a.eval)) rfl) (by rw [I,N];exact oy ⟨d1,⟨dx,x1,a1⟩,bO.1 W,av⟩ a6 h7 j Z r2 h) hK
     .cases h7
    .cases Q
   .rename_i t l xv M;simp only [RL] at F;obtain ⟨y1,l1,e1,Z,rfl⟩:=F;have I:c.args.map a.eval= #[y1]:=by apply Array.ext';rw [L,e1]
    have cc:c.argTypes[0]? =some t:=by rw [<- OE,M];rfl
    exact dR (J (Builtin.len_ c.argTypes type (c.args.map a.eval)) rfl) (by rw [I];exact CQ hT cc n j Z h) hK
   .rename_i xv l;obtain ⟨u,D,rfl⟩:=oz n;obtain ⟨rfl,rfl⟩:=mC j;simp only [RL] at F;obtain ⟨y1,l1,e1,Z,r2⟩:=F;obtain ⟨z,e2,e3⟩:=kR (P:=P) (w:=w) D Z r2;exact dR (J (Builtin.min_ c.argTypes type (c.args.map a.eval)) rfl) (aS.of h (by simp only [Builtin.min_];rw [L,e1];exact e2) e3) hK
   .rename_i xv l;obtain ⟨u,D,rfl⟩:=oz n;obtain ⟨rfl,rfl⟩:=mC j;simp only [RL] at F;obtain ⟨y1,l1,e1,Z,r2⟩:=F;obtain ⟨z,e2,e3⟩:=kR (P:=P) (w:=w) D Z r2;exact dR (J (Builtin.max_ c.argTypes type (c.args.map a.eval)) rfl) (aS.of h (by simp only [Builtin.max_];rw [L,e1];exact e2) e3) hK
   .cases n
  .rename_i f S;simp only [ad] at n;obtain ⟨fv,D,h4⟩:=n;have a7:=aH hG hf D;split at h4
   .rename_i gid first cap
    simp only [R] at a7;obtain ⟨a',c',bb,cd,cn⟩:=a7;have U:RL g (first++args++cap) (a'.toList++c.args.toList.map a.eval++c'.toList):=df (df cd F) cn;have J:execOp a.eval ⟨dst,.call c,type,pos,after,guard⟩=callFunc gid (a'.toList++c.args.toList.map a.eval++c'.toList).toArray:=by
     simp only [execOp,resolve,S,bb,Deferred.ofValue,pure_bind,invoke];congr 1;apply Array.ext';simp
    split at h4
    .rename_i q hq;exact qP J (a8 gid q hq X.C _ p v fx st A g w _ hG h4 j U h) hK
    .simp only [aj] at h4;subst h4;simp only [az] at j;split at j
     .rename_i hb;simp only [ad,aj,NU] at j;obtain ⟨v',Q,rfl,rfl⟩:=j;simp only [N0] at hb;exact qP J (hC.bare _ _ _ Q A g st w _ hG hb.1 (jW U) h) hK
     .split at j
      .simp only [ad,aj,NU] at j;obtain ⟨v',Q,rfl,rfl⟩:=j;exact qP J (hC.look _ _ _ _ Q A g w _ hG (jW U) h) hK
      .simp only [ad,aj] at j;obtain ⟨⟨v',s'⟩,Q,W⟩:=j;simp only [NU] at W;obtain ⟨rfl,rfl⟩:=W;exact qP J (.inr (hC.wide _ _ _ _ _ Q A g w _ hG U h)) hK
   .rename_i k;simp only [R] at a7;obtain ⟨l,hl,bb⟩:=a7;simp only [aj] at h4;subst h4;simp only [az,ad,aj] at j;obtain ⟨⟨v',s'⟩,Q,W⟩:=j;simp only [NU] at W;obtain ⟨rfl,rfl⟩:=W;have J:execOp a.eval ⟨dst,.call c,type,pos,after,guard⟩=Instr.yield l (c.args.toList.map a.eval).toArray:=by
     simp only [execOp,resolve,S,bb,Deferred.ofValue,pure_bind,invoke];congr 1;apply Array.ext';simp
    exact Eh J (hC.round _ _ _ _ _ Q A g w _ l hG F h hl) hK
   .cases h4
  .cases n
end
section
variable {P:Program} {T:TT} {A:Nat->Prop} {g:Gh} {st:St} {w:World}
theorem Inv.tG (h:Inv T A g st w):Inv T A g (st.new .tG).2 w where
 F:=h.F
 M:=h.M
 E id f:=h.E id (Nat.le_of_succ_le f)
 H id o ho:=by
  rcases St.dE.1 ho with ⟨rfl,rfl⟩ | ⟨_,d⟩
  .exact h.E _ (NX _)
  .exact h.H id o d
 D id id' o1 j b h1 k a i:=by
  rcases St.dE.1 h1 with ⟨rfl,rfl⟩ | ⟨_,e⟩
  .exact a.elim
  .rcases St.dE.1 k with ⟨rfl,rfl⟩ | ⟨_,l⟩
   .exact i.elim
   .exact h.D id id' o1 j b e l a i
 own id o b h1 a m:=by
  rcases St.dE.1 h1 with ⟨rfl,rfl⟩ | ⟨_,e⟩
  .exact a.elim
  .exact h.own id o b e a m
 up:=h.up
 C c:=⟨(h.C c).1,fun id o b h1 a=>by
  rcases St.dE.1 h1 with ⟨rfl,rfl⟩ | ⟨_,e⟩
  .exact a.elim
  .exact (h.C c).2 id o b e a⟩
theorem Inv.lay: ∀{l:List Nat} {st:St},Inv T A g st w->Inv T A g (st.lay l) w
 | [],_,h=>h
 | _::l,st,h=>Inv.lay (l:=l) (st:=(st.new .tG).2) (Inv.tG h)
theorem Inv.qo (h:Inv T A g st w) {nm:Nat} (p:st.get nm= .ok .tG) (o:Obj) (e:jo) (b:Nat)
  (q: ∀id o',st.get id= .ok o'->¬ At g id o' b) (hA:A b) (i: ∀b',At (g.cg nm e) nm o b'->b'=b)
  (ho:Holds T (g.cg nm e) w nm o) (hU:g.C->mQ w b:=by exact fun _=>mQ.D8):Inv T A (g.cg nm e) (st.put nm o) w:=by
 have f:=(St.cA.1 p).1;have r:g.E nm=none:=h.H nm _ p;refine ⟨h.F,h.M,fun id n=> ?_,fun id o' j=> ?_,fun id id' o1 s b' h1 k a l=> ?_,fun id o' b' h1 a t=> ?_,h.up,fun c=>⟨(h.C c).1,fun id o' b' h1 a=> ?_⟩⟩
 .have m:st.h<=id:=n;rw [Gh.bm _ _ (by omega)];exact h.E id m
 .by_cases hi:id=nm
  .subst hi;rw [St.aP f] at j;cases j;exact ho
  .rw [St.aQ (fun e=>hi e.symm)] at j;exact gA (h.H id o' j) (Le.cg r) (Gh.bm _ _ hi) fun _ _=>⟨fun _=>rfl,rfl⟩
 .by_cases hi:id=nm <;> by_cases d:id'=nm
  .rw [hi,d]
  .subst hi;rw [St.aP f] at h1;cases h1;rw [St.aQ (fun e=>d e.symm)] at k;rw [iU (Gh.bm _ _ d)] at l;have:=i b' a;subst this;exact absurd l (q _ _ k)
  .subst d;rw [St.aP f] at k;cases k;rw [St.aQ (fun e=>hi e.symm)] at h1;rw [iU (Gh.bm _ _ hi)] at a;have:=i b' l;subst this;exact absurd a (q _ _ h1)
  .rw [St.aQ (fun e=>hi e.symm)] at h1;rw [St.aQ (fun e=>d e.symm)] at k;rw [iU (Gh.bm _ _ hi)] at a;rw [iU (Gh.bm _ _ d)] at l;exact h.D id id' o1 s b' h1 k a l
 .by_cases hi:id=nm
  .subst hi;rw [St.aP f] at h1;cases h1;rw [i b' a];exact hA
  .rw [St.aQ (fun e=>hi e.symm)] at h1;rw [iU (Gh.bm _ _ hi)] at a;exact h.own id o' b' h1 a t
 .by_cases hi:id=nm
  .subst hi;rw [St.aP f] at h1;cases h1;rw [i b' a];exact hU c
  .rw [St.aQ (fun e=>hi e.symm)] at h1;rw [iU (Gh.bm _ _ hi)] at a;exact (h.C c).2 id o' b' h1 a
theorem Af (h:Inv T A g st w) {nm:Nat} (d:st.get nm= .ok .tG) {cs:List AV} {xs:List Value} (ty:TypeId) (f:RL g cs xs) (h1: ∀x∈xs,x.oneCell'=true):
  Inv T A (g.cg nm (.blk w.heap.size)) (st.put nm (.cells ty cs)) (w.alloc (.cells xs.toArray ty))/\Kp A g w (g.cg nm (.blk w.heap.size)) (w.alloc (.cells xs.toArray ty))/\
  R (g.cg nm (.blk w.heap.size)) (.mp nm 0) (.pointer (some ⟨w.heap.size,0,none⟩)):=by
 have e:g.E nm=none:=h.H nm _ d;have a:Le g (g.cg nm (.blk w.heap.size)):=Le.cg e;refine ⟨(h.alloc _).qo d (.cells ty cs) (.blk w.heap.size) w.heap.size (fun id o' b=>h.eQ (NX _) id o' b) (h.up _ (NX _)) (fun b' c=>by
  have:(g.cg nm (.blk w.heap.size)).E nm=some (.blk b'):=c;rw [Gh.aF] at this;simpa using this.symm) ⟨w.heap.size,xs.toArray, #[],ty,Gh.aF _ _ _,by simpa using World.heap_alloc_new,by simpa using cT a _ _ f,by simpa using h1,fun o=>h.fy (NX _) o,fun _=>⟨rfl,rfl⟩⟩,
  (Kp.alloc _ h).trans (Kp.cg e),by simp only [R];exact ⟨_,Gh.aF _ _ _,rfl⟩⟩
theorem yk {t:TypeId} {i:TI} (hi:gf P t i) {nm:Nat} (a:st.get nm= .ok .tG) (h:Inv T A g st w) (old:Value):
  aS P T A g w (.mp nm 0) (st.put nm (.cells t i.zero)) (Instr.alloc t true old):=by
 obtain ⟨z,h1,f,j,h4,k,b⟩:=hi.lR;obtain ⟨c,d,e⟩:=Af h a t (b g) (by simpa using h4);refine ⟨_,_,_, ?_,e,c,d⟩;simp [Instr.alloc,h1,newVar,gq]
theorem l8 {T:TT} {t:TypeId} {nm:Nat} {v:AV} {b:Fx} (h:VM.qo T t nm st= .ok (v,b)): ∃i,T.get t=some i/\st.get nm= .ok .tG/\st.ro<=nm/\v= .mp nm 0/\b=⟨[nm],.wrote nm (.cells t i.zero)⟩:=by
 simp only [VM.qo,ad] at h;obtain ⟨i,h1,o,c,a⟩:=h;cases o with
 | tG=>
  dsimp only at a;split at a
  .rename_i d;simp only [NT,NU] at a;exact ⟨i,bO.1 h1,c,N4 d,a.1.symm,a.2.symm⟩
  .cases a
 | _=>cases a
theorem xB {T:TT} {t:TypeId} {i:TI} {nm:Nat} (h1:T.get t=some i) (a:st.get nm= .ok .tG) (b:st.ro<=nm):VM.qo T t nm st= .ok (.mp nm 0,⟨[nm],.wrote nm (.cells t i.zero)⟩):=by
 refine ad.2 ⟨i,bO.2 h1,ad.2 ⟨.tG,a, ?_⟩⟩;dsimp only;rw [Oz b]
theorem sq {e:Nat->Option Nat} {o:Oper} {t:TypeId} {nm:Nat} (h:mG e o=some (t,nm)):o.op= .alloc t:=by
 unfold mG at h;split at h
 .cases h
 .split at h
  .cases h
  .split at h
   .rename_i h1;cases h;exact h1
   .cases h
theorem tn (X:Cx) (all:List Oper) (fr:Fr) (st:St) (o:Oper):dZ X (fun _=>none) all fr st o=oper X all fr st o:=by
 have h:mG (fun _=>none) o=none:=by
  unfold mG;cases o.dst <;> rfl
 unfold dZ oper;rw [h]
theorem Ej (X:Cx) (hT:qW P X.T) {o:Oper} {a:Act} {t:TypeId} {nm:Nat} {v:AV} {b:Fx} {K:Act->World->Prop}
  (ho:o.op= .alloc t) (c:VM.qo X.T t nm st= .ok (v,b)) (h:Inv X.T A g st w)
  (hK: ∀x w',ik X.T A g (b.did.app st) w v x w'->K (a.put o.dst x) w'):o.CF P a w K:=by
 obtain ⟨i,h1,d,_,rfl,rfl⟩:=l8 c;obtain ⟨dst,op,type,pos,after,guard⟩:=o;obtain rfl:op= .alloc t:=ho;exact dR (s:=Instr.alloc t true (.tuple #[])) (by simp [execOp]) (yk (hT t i h1) d h _) hK
end
namespace Tr
variable {α:Type}
theorem set_comm: ∀(j k:Nat) (t:Tr α) (a b:Nat) (x y:α),a≠b->set j (set k t a x) b y=set k (set j t b y) a x
 | 0,_,_,_,_,_,_,_=>rfl
 | _+1,0,_,_,_,_,_,_=>rfl
 | j+1,k+1,t,a,b,x,y,h=>by
  cases d:a.beq 0 with
  | true=>
   have l:=NZ d;have c:b.beq 0=false:=by
    cases c:b.beq 0 with
    | false=>rfl
    | true=>exact absurd (l.trans (NZ c).symm) h
   cases m:(b % 2).beq 1 <;> cases t <;> simp [set,d,c,m]
  | false=>
   have l:a≠0:=by intro e;subst e;simp at d
   cases c:b.beq 0 with
   | true=>cases m:(a % 2).beq 1 <;> cases t <;> simp [set,d,c,m]
   | false=>
    have p:b≠0:=by intro e;subst e;simp at c
    cases g:(a % 2).beq 1 with
    | true=>
     have n:=NZ g;cases f:(b % 2).beq 1 with
     | true=>
      have o:=NZ f;have i:a / 2≠b / 2:=by omega
      cases t <;> simp [set,d,c,g,f,set_comm j k _ _ _ x y i]
     | false=>cases t <;> simp [set,d,c,g,f]
    | false=>
     have n:a % 2≠1:=by intro e;rw [e] at g;simp at g
     cases f:(b % 2).beq 1 with
     | true=>cases t <;> simp [set,d,c,g,f]
     | false=>
      have o:b % 2≠1:=by intro e;rw [e] at f;simp at f
      have i:a / 2 - 1≠b / 2 - 1:=by omega
      cases t <;> simp [set,d,c,g,f,set_comm j k _ _ _ x y i]
theorem put_comm (t:Tr α) (a b:Nat) (x y:α) (h:a≠b):(t.put a x).put b y=(t.put b y).put a x:=set_comm _ _ _ _ _ _ _ h
end Tr
section
variable {P:Program} {A:Nat->Prop} {g:Gh} {st:St} {w:World}
theorem Cv {ops:Array Oper} {fr:Fr} {a:Act} (o:Oper) (hf:ra g fr a.tmps) (e:o.guard=none\/fr.strict=false):wanted ops.toList fr o.guard=Region.wanted o (yielded ops a.tmps):=by
 unfold wanted Region.wanted;cases h:o.guard with
 | none=>rfl
 | some p=>
  have hs:fr.strict=false:=by
   rcases e with e | e
   .rw [h] at e;cases e
   .exact e
  obtain ⟨j,want⟩:=p;simp only [yielded,OE];cases hd:(ops[j]?).bind (·.dst) with
  | none=>cases want <;> rfl
  | some d=>
   simp only [Option.bind_some];have c:=hf.at hs d;cases i:fr.get d with
   | bool b=>
    rw [i] at c;simp only [R] at c;have:a.tmps[d]? =some (.bool b):=by
     simp only [Array.getD_eq_getD_getElem?] at c;cases f:a.tmps[d]? with
     | none=>rw [f] at c;simp [Go.undef] at c
     | some x=>rw [f] at c;simpa using c
    rw [this];cases b <;> cases want <;> rfl
   | _=>
    have: ∀b,a.tmps[d]? ≠some (.bool b):=fun b k=>by
     rw [i] at c;simp only [Array.getD_eq_getD_getElem?,k,Option.getD_some,R] at c
     first
      | (rcases c with ⟨_,c | ⟨_,_,c⟩⟩ | ⟨_,_,c⟩ <;> cases c;done)
      | (cases c;done)
      | (rcases c with ⟨_,c⟩;injection c;done)
      | (rcases c with ⟨_,⟨⟩⟩;done)
      | (obtain ⟨_,_,_,c,_⟩:=c;cases c;done)
      | (obtain ⟨_,_,c⟩:=c;cases c;done)
      | (obtain ⟨_,_,_,_,c,_⟩:=c;cases c;done)
      | (obtain ⟨_,_,c,_⟩:=c;cases c;done)
      | (obtain ⟨_,c,_⟩:=c;cases c;done)
      | (obtain ⟨_,_,_,_,_,c,_⟩:=c;cases c;done)
      | (obtain ⟨_,_,_,_,_,c⟩:=c;cases c;done)
    cases f:a.tmps[d]? with
    | none=>cases want <;> rfl
    | some x=>cases x <;> first | (cases want <;> rfl) | exact absurd f (this _)
theorem rm {fr:Fr} {a:Act} (hf:ra g fr a.tmps) {v:AV} {x:Value} (b:R g v x) (d:Option Tmp):ra g (fr.put d v) (a.put d x).tmps:=by
 cases d with
 | none=>exact hf
 | some d=>exact hf.put b (some d)
theorem put_defers (a:Act) (d:Option Tmp) (x:Value):(a.put d x).defers=a.defers:=by cases d <;> rfl
structure Good (P:Program) (X:Cx):Prop where
 T:qW P X.T
 C:tb P X.T X.G X.C
 prim:wQ P X.T X.G X.prim
def mark (D:Nat):Deferred:={target:= .collected D,args:= #[]}
def Marks (A:Nat->Prop) (ds:List Deferred) (w:World):Prop:= ∃a:List Nat,ds=a.map mark/\a.Nodup/\ ∀D∈a,¬ A D/\w.heap[D]? =some (.deferred (some []))
theorem Marks.tZ {A:Nat->Prop} {ds:List Deferred} {g g':Gh} {w w':World} (h:Marks A ds w) (k:Kp A g w g' w'):Marks A ds w':=by
 obtain ⟨c,h1,d,a⟩:=h;exact ⟨c,h1,d,fun D b=>⟨(a D b).1,by rw [k.heap D (a D b).1];exact (a D b).2⟩⟩
theorem fg (fr:Fr) (d:Option Tmp) (v:AV):(fr.put d v).strict=fr.strict:=by
 cases d with
 | none=>rfl
 | some d=>simp only [Fr.put];split <;> rfl
structure Rel (X:Cx) (A:Nat->Prop) (sb:Bool) (g:Gh) (fr:Fr) (st:St) (a:Act) (w:World):Prop where
 mode:fr.strict=sb
 fr:ra g fr a.tmps
 inv:Inv X.T A g st w
 G:GR g X.G
 marks:Marks A a.defers w
theorem uH: ∀{l:List Oper} {o:Oper},fE l=true->o∈l->o.guard=none
 | [],_,_,h=>by cases h
 | a::l,o,h,b=>by
  unfold fE at h;cases c:a.guard with
  | some x=>rw [c] at h;cases h
  | none=>
   rw [c] at h;rcases Oc.1 b with rfl | b
   .exact c
   .exact uH h b
theorem Ak {T:TT} {prim:FuncId->Option Prim} {imm:TypeId->Bool} {G:Nat->Option (List AV)} {fr:Fr} {o:Op} {p:cV} (h:dG T prim imm G fr o= .ok p): ∀c,o≠ .defer c:=by
 rintro c rfl;cases h
theorem tF {X:Cx} {e:Nat->Option Nat} {ro:Option Nat} {sb:Bool} (j:Good P X) {ops:Array Oper} (k:sb=true->fE ops.toList=true) {i:Nat} {o:Oper} (ho:ops[i]? =some o) {fr:Fr} {a:Act} {v:AV} {s:Fx} {K:Act->World->Prop} {Q:Exit->Act->World->Prop}
  (h:dZ X e ops.toList fr st o= .ok (v,s)) (b:Rel X A sb g fr st a w)
  (hK: ∀a' g' w',Rel X A sb g' (fr.put o.dst v) (s.did.app st) a' w'->a'.defers=a.defers->Kp A g w g' w'->K a' w'):wpOpIn (fe ro) 0 P ops Q i K a w:=by
 have z:o.guard=none\/fr.strict=false:=by
  cases f:sb with
  | false=>exact .inr (by rw [b.mode,f])
  | true=>exact .inl (uH (k f) (Ob (l:=ops.toList) (i:=i) (by simpa using ho)))
 unfold dZ at h;unfold wpOpIn;simp only [ho];rw [<- Cv o b.fr z];split at h
 .rename_i m;rw [m,if_pos rfl];split at h
  .rename_i t nm u;refine ES (Ej X j.T (sq u) h b.inv fun x w' n=> ?_) (fun c y=>by rw [sq u] at y;cases y);obtain ⟨g',q,r,d⟩:=n;exact hK _ g' w' ⟨by rw [fg];exact b.mode,rm (b.fr.mono d.le) q _,r,b.G.mono d.le,by rw [put_defers];exact b.marks.tZ d⟩ (put_defers _ _ _) d
  .simp only [ad] at h;obtain ⟨p,h1,B⟩:=h;refine ES (zF X j.T j.C j.prim h1 B b.G b.fr b.inv fun x w' n=> ?_) (Ak h1);obtain ⟨g',q,r,d⟩:=n;exact hK _ g' w' ⟨by rw [fg];exact b.mode,rm (b.fr.mono d.le) q _,r,b.G.mono d.le,by rw [put_defers];exact b.marks.tZ d⟩ (put_defers _ _ _) d
 .rename_i m;rw [m,if_neg (by simp)];simp only [NT,NU] at h;obtain ⟨rfl,rfl⟩:=h;exact ⟨fun _ _=>trivial,hK _ g w ⟨by rw [fg];exact b.mode,rm b.fr wi _,b.inv,b.G,by rw [put_defers];exact b.marks⟩ (put_defers _ _ _) (Kp.refl _ _ _)⟩
inductive sf (X:Cx) (e:Nat->Option Nat) (all:List Oper):List (Nat×AV×Fx)->Fr->St->Fr->St->Prop
 | nil {fr:Fr} {st:St}:sf X e all [] fr st fr st
 | cons {j:Nat} {v:AV} {x:Fx} {o:Oper} {l:List (Nat×AV×Fx)} {fr fr':Fr} {st st':St} (ho:all[j]? =some o) (h:dZ X e all fr st o= .ok (v,x))
  (t:sf X e all l (fr.put o.dst v) (x.did.app st) fr' st'):sf X e all ((j,v,x)::l) fr st fr' st'
theorem nb {X:Cx} {e:Nat->Option Nat} {ro:Option Nat} {sb:Bool} (r:Good P X) {ops:Array Oper} (b:sb=true->fE ops.toList=true) {Q:Exit->Act->World->Prop}: ∀{l:List (Nat×AV×Fx)} {fr fr':Fr} {st st':St},sf X e ops.toList l fr st fr' st'->
  ∀{g:Gh} {a:Act} {w:World},Rel X A sb g fr st a w->(∀a' g' w',Rel X A sb g' fr' st' a' w'->a'.defers=a.defers->Kp A g w g' w'->Q .normal a' w')->wpOpsIn (fe ro) 0 P ops Q (l.map (·.1)) a w
 | _,_,_,_,_,.nil,g,a,w,d,f=>f a g w d rfl (Kp.refl _ _ _)
 | _,_,_,_,_,.cons (j:=j) (o:=o) ho h t,g,a,w,d,f=>by
  simp only [Od];rw [wpOpsIn_cons];exact tF r b (by simpa using ho) h d fun a' g' w' i hd s=>nb r b t i fun k m n c p q=>f k m n c (p.trans hd) (s.trans q)
end
end Go.VM
namespace Go.VM
theorem zh {G:Nat->Option (List AV)} {fr a:Fr} {x:Operand} (hs:fr.strict=a.strict) (h: ∀t,x= .tmp t->fr.t.get t=a.t.get t):bD G fr x=bD G a x:=by
 cases x with
 | tmp t=>simp only [bD,Fr.get,hs,h t rfl]
 | _=>rfl
theorem jc {G:Nat->Option (List AV)} {fr a:Fr}: ∀{xs:List Operand},(∀x∈xs,bD G fr x=bD G a x)->jt G fr xs=jt G a xs
 | [],_=>rfl
 | x::xs,h=>by simp only [jt,h x (by simp),jc (xs:=xs) fun y hy=>h y (by simp [hy])]
theorem jx {G:Nat->Option (List AV)} {fr a:Fr} {x:Option Operand} (h: ∀y,x=some y->bD G fr y=bD G a y):dj G fr x=dj G a x:=by
 cases x with
 | none=>rfl
 | some y=>simp only [dj,h y rfl]
theorem hH {G:Nat->Option (List AV)} {fr a:Fr}: ∀{xs:List (Nat×Operand)},(∀x∈xs,bD G fr x.2=bD G a x.2)->eD G fr xs=eD G a xs
 | [],_=>rfl
 | (i,x)::xs,h=>by simp only [eD,h (i,x) (by simp),hH (xs:=xs) fun y hy=>h y (by simp [hy])]
theorem Aa {T:TT} {prim:FuncId->Option Prim} {imm:TypeId->Bool} {G:Nat->Option (List AV)} {fr e:Fr} {op:Op} (h: ∀x∈op.operands,bD G fr x=bD G e x):
  dG T prim imm G fr op=dG T prim imm G e op:=by
 cases op <;> simp only [dG] <;> simp only [Op.operands] at h
 case move x=>rw [h x (by simp)]
 case assign x=>rw [h x (by simp)]
 case pick c x y=>rw [h c (by simp),h x (by simp),h y (by simp)]
 case box t x=>rw [h x (by simp)]
 case build t ps=>rw [hH fun x g=>h x.2 (by simp only [List.mem_toArray,OQ];exact ⟨x,g,rfl⟩)]
 case buildSlice t n ps=>rw [hH fun x g=>h x.2 (by simp only [List.mem_toArray,OQ];exact ⟨x,g,rfl⟩)]
 case makeSlice t x y=>rw [h x (by simp),h y (by simp)]
 case load t x=>rw [h x (by simp)]
 case store t x y=>rw [h x (by simp),h y (by simp)]
 case nilCheck x=>rw [h x (by simp)]
 case binOp op t x y _=>rw [h x (by simp),h y (by simp)]
 case unOp op t x=>rw [h x (by simp)]
 case convert s d x=>rw [h x (by simp)]
 case makeInterface t x=>rw [h x (by simp)]
 case makeFunc f a b=>
  rw [jc fun x g=>h x (by simp only [Array.mem_append];exact .inl (by simpa using g)),jc (xs:=b.toList) fun x g=>h x (by simp only [Array.mem_append];exact .inr (by simpa using g))]
 case slice t x lo hi mx=>
  have g:=h x (by simp);have hl:dj G fr lo=dj G e lo:=jx fun y hy=>h y (by subst hy;simp);have j:dj G fr hi=dj G e hi:=jx fun y hy=>h y (by subst hy;simp);have l:dj G fr mx=dj G e mx:=jx fun y hy=>h y (by subst hy;simp);rw [g,hl,j,l]
 case fieldAddr t x f=>rw [h x (by simp)]
 case field t x f=>rw [h x (by simp)]
 case indexAddr t x y=>rw [h x (by simp),h y (by simp)]
 case index t x y=>rw [h x (by simp),h y (by simp)]
 case lookup t x y ok=>rw [h x (by simp),h y (by simp)]
 case mapUpdate t m k v=>rw [h m (by simp),h k (by simp),h v (by simp)]
 case insert t m k v=>rw [h m (by simp),h k (by simp),h v (by simp)]
 case range t x=>rw [h x (by simp)]
 case next x b=>
  cases b with
  | true=>show (do vy (<- bD G fr x))=(do vy (<- bD G e x));rw [h x (by simp)]
  | false=>rfl
 case extract x i=>rw [h x (by simp)]
 case makeMap t r=>cases r <;> rfl
 case call c=>
  have o:jt G fr c.args.toList=jt G e c.args.toList:=jc fun x g=>h x (by simp only [Call.operands,Array.mem_append];exact .inr (by simpa using g));rw [o];cases p:c.callee with
  | value f=>simp only [h f (by simp [Call.operands,p])]
  | builtin b=>rfl
  | invoke r m=>rfl
theorem Fr.aQ {fr:Fr} {d:Option Tmp} {v:AV} {t:Nat} (h:d≠some t):(fr.put d v).t.get t=fr.t.get t:=by
 cases d with
 | none=>rfl
 | some d=>
  simp only [Fr.put];split
  .have:d≠t:=fun e=>h (by rw [e]);simp [Tr.gI,this]
  .rfl
theorem Fr.put_comm {fr:Fr} {d e:Option Tmp} {v u:AV} (h: ∀t,d=some t->e≠some t):(fr.put d v).put e u=(fr.put e u).put d v:=by
 cases d with
 | none=>rfl
 | some d=>
  cases e with
  | none=>rfl
  | some e=>
   have a:d≠e:=fun k=>h d rfl (by rw [k]);simp only [Fr.put];cases hd:d.blt fr.n <;> cases e.blt fr.n <;> simp [hd,Tr.put_comm _ _ _ _ _ a]
theorem su {X:Cx} {e:Nat->Option Nat} {ops:Array Oper} {fr a:Fr} {st:St} {o:Oper} (hs:fr.strict=a.strict) (h: ∀t∈o.looksAt ops,fr.t.get t=a.t.get t):dZ X e ops.toList fr st o=dZ X e ops.toList a st o:=by
 have b:wanted ops.toList fr o.guard=wanted ops.toList a o.guard:=by
  unfold wanted;cases c:o.guard with
  | none=>rfl
  | some p=>
   obtain ⟨j,want⟩:=p;simp only [OE];cases hd:(ops[j]?).bind (·.dst) with
   | none=>rfl
   | some d=>
    simp only [Fr.get];rw [h d (by simp [Oper.looksAt,c,hd])]
 unfold dZ;rw [b,Aa fun x f=>zh hs fun t g=>h t (by
  subst g;simp only [Oper.looksAt,N9,List.mem_filterMap];exact .inl ⟨.tmp t,by simpa using f,rfl⟩)]
theorem St.GO {st:St} {i j:Nat} {a b:Obj} (h:i≠j):(st.put i a).put j b=(st.put j b).put i a:=by
 simp only [St.put,Tr.put_comm _ _ _ _ _ h]
theorem St.Bi {st:St} {i:Nat} {a b:Obj} (h:i≠st.h):((st.put i a).new b).2=((st.new b).2).put i a:=by
 simp only [St.put,St.new,Tr.put_comm _ _ _ _ _ h]
theorem St.kP {st:St} {o:Obj} {r:Nat} (h:r≠st.h):(st.new o).2.get r=st.get r:=by
 simp only [St.get,St.new];cases h1:r.blt (st.h+1) <;> cases a:r.blt st.h <;> simp only [Tr.gI]
 .rw [cB] at h1;rw [dM] at a;omega
 .rw [dM] at h1;rw [cB] at a;omega
 .rw [if_neg (fun e=>h e.symm)]
theorem sT: ∀{a b:List UInt8},jm a b=true->a=b
 | [],[],_=>rfl
 | a::l,b::m,h=>by
  unfold jm at h;split at h
  .rename_i e;rw [Pp.1 (NZ e),sT h]
  .cases h
 | [],_:: _,h=>by simp [jm] at h
 | _:: _,[],h=>by simp [jm] at h
theorem gy {g:AV->AV->Bool} (c: ∀a b,g a b=true->a=b): ∀{a b:List AV},dJ g a b=true->a=b
 | [],[],_=>rfl
 | a::l,b::m,h=>by
  unfold dJ at h;split at h
  .rename_i e;rw [c _ _ e,gy c h]
  .cases h
 | [],_:: _,h=>by simp [dJ] at h
 | _:: _,[],h=>by simp [dJ] at h
theorem iz: ∀(f:Nat) (a b:AV),eV f a b=true->a=b
 | 0,_,_,h=>by simp [eV] at h
 | f+1,a,b,h=>by
  have ih:=fun {l m:List AV} (h:dJ (eV f) l m=true)=>gy (iz f) h;unfold eV at h;split at h
  .rw [eq_of_beq h]
  .simp only [N0,OI] at h;rw [h.1,h.2]
  .rw [sT h]
  .rfl
  .rfl
  .rfl
  .rfl
  .rfl
  .rfl
  .rw [ih h]
  .simp only [N0,Nat.beq_eq] at h;rw [h.1,h.2]
  .rw [NZ h]
  .simp only [N0,Nat.beq_eq] at h;rw [h.1.1,h.1.2,h.2]
  .simp only [N0,Nat.beq_eq] at h;rw [h.1.1,h.1.2,h.2]
  .simp only [N0,Nat.beq_eq] at h;obtain ⟨⟨⟨⟨rfl,rfl⟩,rfl⟩,rfl⟩,rfl⟩:=h;rfl
  .simp only [N0,Nat.beq_eq,OI] at h;rw [h.1.1,h.1.2,ih h.2]
  .simp only [N0,Nat.beq_eq] at h;rw [h.1,iz f _ _ h.2]
  .rw [ih h]
  .rw [ih h]
  .cases h
theorem zE {a b:Obj} (h:wE a b=true):a=b:=by
 unfold wE at h;split at h
 .simp only [N0,Nat.beq_eq] at h;rw [h.1,gy (iz _) h.2]
 .simp only [N0,Nat.beq_eq] at h;rw [h.1,h.2]
 .simp only [N0,Nat.beq_eq] at h;rw [h.1.1.1,h.1.1.2,h.1.2,gy (iz _) h.2]
 .simp only [N0,Nat.beq_eq] at h;rw [h.1.1.1,h.1.1.2,h.1.2,gy (iz _) h.2]
 .cases h
theorem vf {s t:St} {i:Nat} (h:sameAt s t i=true):t.get i=s.get i:=by
 unfold sameAt at h;split at h
 .rename_i a b h1 c;rw [h1,c,zE h]
 .cases h
def gm (x:Fx) (st a:St):Prop:=
 match x.did with
 | .kept=> ∀r∈x.reads,a.get r=st.get r
 | .wrote _ _=>a.ro=st.ro/\ ∀r∈x.reads,a.get r=st.get r
 | .made _ _=>a.h=st.h
 | .looked=>a=st
 | .all _ _=>a=st
theorem uo {X:Cx} {e:Nat->Option Nat} {all:List Oper} {fr:Fr} {st c:St} {o:Oper} {v:AV} {x:Fx} (h:dZ X e all fr st o= .ok (v,x)) (hs:gm x st c):dZ X e all fr c o= .ok (v,x):=by
 unfold dZ at h ⊢;split at h
 .split at h
  .rename_i t nm y;obtain ⟨i,h1,a,b,rfl,rfl⟩:=l8 h;obtain ⟨n,q⟩:=hs;exact xB h1 (by rw [q nm (by simp)];exact a) (by rw [n];exact b)
  simp only [ad] at h ⊢;obtain ⟨p,h1,a⟩:=h;refine ⟨p,h1, ?_⟩;cases p with
  | val u=>exact a
  | obj id f=>
   simp only [az,ad,aj] at a ⊢;obtain ⟨m,b,⟨v',o'⟩,h4,d,g,w⟩:=a;simp only [NU] at w;obtain ⟨rfl,rfl⟩:=w;cases o' with
   | none=>
    simp only [dv,NT] at g;subst g;refine ⟨m,by rw [hs id (by simp)];exact b,⟨v',none⟩,h4,.kept,rfl,rfl⟩
   | some l=>
    simp only [dv] at g;split at g
    .cases g
    .rename_i s;simp only [NT] at g;subst g;obtain ⟨n,q⟩:=hs;refine ⟨m,by rw [q id (by simp)];exact b,⟨v',some l⟩,h4,.wrote id l, ?_,rfl⟩;simp only [dv,n,s]
  | both id k f=>
   have:x.did= .looked:=by
    simp only [az,ad] at a;obtain ⟨m,_,r,_,b⟩:=a;cases r with
    | none=>
     simp only [ad,aj,NU] at b;obtain ⟨_,_,_,rfl⟩:=b;rfl
    | some j=>
     dsimp only at b;split at b
     .simp only [ad,aj,NU] at b;obtain ⟨_,_,_,_,_,rfl⟩:=b;rfl
     .cases b
   rw [gm,this] at hs;have hs:c=st:=hs;rw [hs];exact a
  | new m f=>
   simp only [az,NT,NU] at a ⊢;obtain ⟨rfl,rfl⟩:=a;have:c.h=st.h:=hs;rw [this];simp
  | call f args=>
   simp only [az] at a ⊢;split at a
   .exact a
   .split at a
    .simp only [ad,aj,NU] at a;obtain ⟨v',b,rfl,rfl⟩:=a;have:c=st:=hs;rw [this];simp only [ad,aj];exact ⟨v',b,rfl⟩
    .simp only [ad,aj] at a;obtain ⟨⟨v',s'⟩,b,h4⟩:=a;simp only [NU] at h4;obtain ⟨rfl,rfl⟩:=h4;have:c=st:=hs;rw [this];simp only [ad,aj];exact ⟨(v',s'),b,rfl⟩
  | yield k args=>
   simp only [az,ad,aj] at a ⊢;obtain ⟨⟨v',s'⟩,b,h4⟩:=a;simp only [NU] at h4;obtain ⟨rfl,rfl⟩:=h4;have:c=st:=hs;rw [this];exact ⟨(v',s'),b,rfl⟩
 .exact h
theorem zj {X:Cx} {e:Nat->Option Nat} {all:List Oper} {fr:Fr} {st s0 m:St} {o:Oper} {v:AV} {rs:List Nat} (h:dZ X e all fr st o= .ok (v,⟨rs,.all s0 m⟩)):s0=st:=by
 unfold dZ at h;split at h
 .split at h
  .obtain ⟨i,h1,b,a,h4,c⟩:=l8 h;simp at c
  simp only [ad] at h;obtain ⟨p,h1,b⟩:=h;cases p with
  | val u=>simp [az] at b
  | obj id f=>
   simp only [az,ad,aj] at b;obtain ⟨g,a,⟨v',o'⟩,h4,d,c,l⟩:=b;simp only [NU,Fx.mk.injEq] at l;obtain ⟨_,_,rfl⟩:=l;cases o' with
   | none=>simp [dv] at c
   | some _=>simp only [dv] at c;split at c <;> simp at c
  | both id k f=>
   simp only [az,ad] at b;obtain ⟨g,_,r,_,a⟩:=b;cases r with
   | none=>
    simp only [ad,aj,NU] at a;obtain ⟨_,_,_,a⟩:=a;simp at a
   | some j=>
    dsimp only at a;split at a
    .simp only [ad,aj,NU] at a;obtain ⟨_,_,_,_,_,a⟩:=a;simp at a
    .cases a
  | new g f=>
   simp only [az,NT,NU,Fx.mk.injEq] at b;have:=b.2.2;simp at this
  | call f args=>
   simp only [az] at b;split at b
   .simp only [ad,aj] at b;obtain ⟨_,_,a⟩:=b;simp at a
   .split at b
    .simp only [ad,aj] at b;obtain ⟨_,_,a⟩:=b;simp at a
    .simp only [ad,aj] at b;obtain ⟨_,_,a⟩:=b;simp only [NU,Fx.mk.injEq,dL.all.injEq] at a;exact a.2.2.1.symm
  | yield k args=>
   simp only [az,ad,aj] at b;obtain ⟨_,_,a⟩:=b;simp only [NU,Fx.mk.injEq,dL.all.injEq] at a;exact a.2.2.1.symm
 .simp at h
theorem pL {X:Cx} {e:Nat->Option Nat} {all:List Oper} {fr:Fr} {st:St} {o:Oper} {v:AV} {rs:List Nat} {n:Nat} {g:Obj} (h:dZ X e all fr st o= .ok (v,⟨rs,.made n g⟩)):n=st.h/\rs=[]:=by
 unfold dZ at h;split at h
 .split at h
  .obtain ⟨i,h1,b,a,h4,c⟩:=l8 h;simp at c
  simp only [ad] at h;obtain ⟨p,h1,b⟩:=h;cases p with
  | val u=>simp [az] at b
  | obj id f=>
   simp only [az,ad,aj] at b;obtain ⟨g,a,⟨v',o'⟩,h4,d,c,l⟩:=b;simp only [NU,Fx.mk.injEq] at l;obtain ⟨_,_,rfl⟩:=l;cases o' with
   | none=>simp [dv] at c
   | some _=>simp only [dv] at c;split at c <;> simp at c
  | both id k f=>
   simp only [az,ad] at b;obtain ⟨g,_,r,_,a⟩:=b;cases r with
   | none=>
    simp only [ad,aj,NU] at a;obtain ⟨_,_,_,a⟩:=a;simp at a
   | some j=>
    dsimp only at a;split at a
    .simp only [ad,aj,NU] at a;obtain ⟨_,_,_,_,_,a⟩:=a;simp at a
    .cases a
  | new g f=>
   simp only [az,NT,NU,Fx.mk.injEq,dL.made.injEq] at b;exact ⟨b.2.2.1.symm,b.2.1.symm⟩
  | call f args=>
   simp only [az] at b;split at b
   .simp only [ad,aj] at b;obtain ⟨_,_,a⟩:=b;simp at a
   .split at b <;> simp only [ad,aj] at b <;> obtain ⟨_,_,a⟩:=b <;> simp at a
  | yield k args=>
   simp only [az,ad,aj] at b;obtain ⟨_,_,a⟩:=b;simp at a
 .simp at h
theorem eK {l:List Nat} {i:Nat} (h:l.contains i=false): ∀r∈l,i≠r:=fun r a e=>by
 subst e;have:l.contains i=true:=by simpa using a
 rw [this] at h;cases h
theorem Ag {X:Cx} {e:Nat->Option Nat} {all:List Oper} {t u:Fr} {st:St} {o1 z:Oper} {v1 A:AV} {d g:Fx} (h1:dZ X e all t st o1= .ok (v1,d)) (v:dZ X e all u (d.did.app st) z= .ok (A,g))
  (a:quiet d=true\/quiet g=true\/apart d g=true):
  gm g (d.did.app st) st/\gm d st (g.did.app st)/\d.did.app (g.did.app st)=g.did.app (d.did.app st):=by
 obtain ⟨x,k⟩:=d;obtain ⟨y,f⟩:=g;have w:(k= .kept/\x=[])\/(f= .kept/\y=[])\/apart ⟨x,k⟩ ⟨y,f⟩=true:=by
  rcases a with a | a | a
  .left;cases k <;> simp [quiet] at a;exact ⟨rfl,a⟩
  .right;left;cases f <;> simp [quiet] at a;exact ⟨rfl,a⟩
  .exact .inr (.inr a)
 rcases w with ⟨rfl,rfl⟩ | ⟨rfl,rfl⟩ | a
 .refine ⟨?_,by simp [gm],rfl⟩;cases f <;> simp [gm,dL.app]
 .refine ⟨by simp [gm], ?_,rfl⟩;cases k <;> simp [gm,dL.app]
 .cases k with
  | kept=>
   cases f with
   | kept=>exact ⟨by simp [gm,dL.app],by simp [gm,dL.app],rfl⟩
   | looked=>exact ⟨by simp [gm,dL.app],by simp [gm,dL.app],rfl⟩
   | wrote i o=>
    simp only [apart,Bool.not_eq_true'] at a;refine ⟨by simp [gm,dL.app], ?_,rfl⟩;simp only [gm,dL.app];exact fun r b=>St.aQ (eK a r b)
   | made i o=>
    simp only [apart,Bool.not_eq_true'] at a;obtain ⟨hi,_⟩:=pL v;refine ⟨by simp [gm,dL.app], ?_,rfl⟩;simp only [gm,dL.app];intro r b;exact St.kP fun e=>eK a r b (by rw [hi,e];rfl)
   | all s0 s=>
    simp only [apart,Ox] at a;obtain rfl:s0=st:=zj v;refine ⟨by simp [gm,dL.app], ?_,rfl⟩;simp only [gm,dL.app];exact fun r b=>vf (a r b)
  | wrote i o=>
   cases f with
   | kept=>
    simp only [apart,Bool.not_eq_true'] at a;refine ⟨?_,by simp [gm,dL.app],rfl⟩;simp only [gm,dL.app];exact fun r b=>(St.aQ (eK a r b)).symm
   | looked=>simp [apart,dL.pn] at a
   | wrote j p=>
    simp only [apart,N0,Bool.not_eq_true'] at a;obtain ⟨⟨l,m⟩,n⟩:=a;have c:i≠j:=fun e=>by subst e;simp at l
    refine ⟨⟨rfl,fun r b=>(St.aQ (eK m r b)).symm⟩,⟨rfl,fun r b=>St.aQ (eK n r b)⟩, ?_⟩;simp only [dL.app];exact St.GO fun e=>c e.symm
   | made j p=>
    simp only [apart,N0,Bool.not_eq_true'] at a;obtain ⟨⟨l,m⟩,n⟩:=a;have c:i≠j:=fun e=>by subst e;simp at l
    obtain ⟨q,_⟩:=pL v;have q:j=st.h:=q;refine ⟨rfl,⟨rfl,fun r b=>St.kP fun e=>eK n r b (by rw [q,e])⟩, ?_⟩;simp only [dL.app];exact (St.Bi (by rw [<- q];exact c)).symm
   | all s0 s=>simp [apart] at a
  | made i o=>
   obtain ⟨hi,B⟩:=pL h1;cases f with
   | kept=>
    simp only [apart,Bool.not_eq_true'] at a;refine ⟨?_,by simp [gm,dL.app],rfl⟩;simp only [gm,dL.app];exact fun r b=>(St.kP fun e=>eK a r b (by rw [hi,e])).symm
   | looked=>simp [apart,dL.pn] at a
   | wrote j p=>
    simp only [apart,N0,Bool.not_eq_true'] at a;obtain ⟨⟨l,m⟩,n⟩:=a;have c:i≠j:=fun e=>by subst e;simp at l
    refine ⟨⟨rfl,fun r b=>(St.kP fun e=>eK m r b (by rw [hi,e])).symm⟩,rfl, ?_⟩;simp only [dL.app];exact St.Bi fun e=>c (by rw [hi,e])
   | made j p=>simp [apart] at a
   | all s0 s=>simp [apart] at a
  | looked=>
   cases f with
   | kept=>exact ⟨by simp [gm,dL.app],by simp [gm,dL.app],rfl⟩
   | looked=>exact ⟨by simp [gm,dL.app],by simp [gm,dL.app],rfl⟩
   | wrote j p=>simp [apart,dL.pn] at a
   | made j p=>simp [apart,dL.pn] at a
   | all s0 s=>simp [apart] at a
  | all s0 s=>
   cases f with
   | kept=>
    simp only [apart,Ox] at a;obtain rfl:s0=st:=zj h1;refine ⟨?_,by simp [gm,dL.app],rfl⟩;simp only [gm,dL.app];exact fun r b=>(vf (a r b)).symm
   | _=>simp [apart] at a
def Iy (ops:Array Oper) (p q:Nat×AV×Fx):Prop:=
 (quiet p.2.2=true\/quiet q.2.2=true\/apart p.2.2 q.2.2=true)/\ ∀o1 a,ops[p.1]? =some o1->ops[q.1]? =some a->o1.apart ops a=true
theorem BZ {X:Cx} {e:Nat->Option Nat} {ops:Array Oper} {p q:Nat×AV×Fx} {l:List (Nat×AV×Fx)} {fr fr':Fr} {st st':St} (h:sf X e ops.toList (p::q::l) fr st fr' st') (a:Iy ops p q):sf X e ops.toList (q::p::l) fr st fr' st':=by
 obtain ⟨i,v1,r⟩:=p;obtain ⟨j,m,n⟩:=q;cases h with
 | cons b h1 t=>
  cases t with
  | cons c o t=>
   rename_i o1 d;obtain ⟨s,u⟩:=a;have f:=u o1 d (by simpa using b) (by simpa using c);obtain ⟨v,w,x⟩:=Oper.apart_spec f;obtain ⟨y,z,A⟩:=Ag h1 o s;have g:dZ X e ops.toList fr st d= .ok (m,n):=by
    have:=uo o y;rw [<- this];exact su (fg _ _ _).symm fun t a=>(Fr.aQ fun e=>v t e a).symm
   have k:dZ X e ops.toList (fr.put d.dst m) (n.did.app st) o1= .ok (v1,r):=by
    have:=uo h1 z;rw [<- this];exact su (fg _ _ _) fun t a=>Fr.aQ fun e=>x t e a
   refine .cons c g (.cons b k ?_);rw [A,Fr.put_comm (fun t B C=>w t C B)];exact t
theorem tc {X:Cx} {e:Nat->Option Nat} {ops:Array Oper} {q:Nat×AV×Fx} {l2:List (Nat×AV×Fx)} {fr':Fr} {st':St}: ∀{l1:List (Nat×AV×Fx)} {fr:Fr} {st:St},sf X e ops.toList (l1++q::l2) fr st fr' st'->(∀p∈l1,Iy ops p q)->sf X e ops.toList (q::(l1++l2)) fr st fr' st'
 | [],_,_,h,_=>h
 | p::l1,fr,st,h,a=>by
  cases h with
  | cons ho h t=>
   have ih:=tc t fun p b=>a p (by simp [b]);exact BZ (.cons ho h ih) (a _ (by simp))
theorem tV {ops:Array Oper} (h:gS ops.toList=true) {j:Nat} {o:Oper} {e:Edge} (ho:ops[j]? =some o) (a:e∈o.after) (b:Region.binds .any e=true):e.on < j:=by
 simp only [gS,N0,Ox] at h;have:=h.1 (o,j) (by
  rw [List.mem_zipIdx_iff_getElem?];simpa using ho)
 simp only at this;have:=this e (by simpa using a);rw [b] at this;simpa [dM] using this
theorem ug {ops:Array Oper} (h:gS ops.toList=true) {i j:Nat} {o o':Oper} (a:i < j) (ho:ops[j]? =some o) (b:ops[i]? =some o'):o'.apart ops o=true\/behind ops.toList (j+1) j i=true:=by
 simp only [gS,N0,Ox] at h;have:=h.2 (o,j) (by
  rw [List.mem_zipIdx_iff_getElem?];simpa using ho)
 simp only at this;have:=this (o',i) (by
  rw [List.mem_iff_getElem?];refine ⟨i, ?_⟩;rw [List.getElem?_take,if_pos a,List.getElem?_zipIdx];simp [b])
 simpa using this
def Cm (ops:List Oper) (p q:Nat×AV×Fx):Prop:=quiet p.2.2=true\/quiet q.2.2=true\/apart p.2.2 q.2.2=true\/behind ops (q.1+1) q.1 p.1=true
theorem kX {ops:List Oper} {j:Nat} {x:Fx}: ∀{seen:List (Nat×Fx)},la ops j x seen=true-> ∀p∈seen,apart p.2 x=true\/behind ops (j+1) j p.1=true
 | [],_,p,a=>by cases a
 | (i,y)::l,h,p,a=>by
  simp only [la,N0,OW] at h;rcases Oc.1 a with rfl | a
  .exact h.1
  .exact kX h.2 p a
theorem kD {X:Cx} {all:List Oper} {draw:Bool}: ∀{l:List Oper} {j:Nat} {seen:List (Nat×Fx)} {fr fr':Fr} {st st':St},cS X all draw j seen l fr st= .ok (fr',st')->l=all.drop j->
  ∃L,sf X (fun _=>none) all L fr st fr' st'/\L.map (·.1)=List.range' j l.length/\(draw=true->L.Pairwise (Cm all)/\ ∀s∈seen,∀q∈L,quiet q.2.2=true\/apart s.2 q.2.2=true\/behind all (q.1+1) q.1 s.1=true)
 | [],j,seen,fr,fr',st,st',h,hl=>by
  simp only [cS,NT,NU] at h;obtain ⟨rfl,rfl⟩:=h;exact ⟨[],.nil,rfl,fun _=>⟨.nil,by simp⟩⟩
 | o::l,j,seen,fr,fr',st,st',h,hl=>by
  simp only [cS,ad] at h;obtain ⟨⟨v,x⟩,h1,c⟩:=h;have ho:all[j]? =some o:=by
   have:=OC (·[0]?) hl;simpa using this.symm
  have d:l=all.drop (j+1):=by
   have:=OC List.tail hl;simpa [List.tail_drop] using this
  split at c
  .rename_i hd;obtain ⟨L,g,i,k⟩:=kD c d;refine ⟨(j,v,x)::L,.cons ho ((tn X all fr st o).trans h1) g,by simp [i,List.range'_succ],fun b=> ?_⟩;have e:quiet x=true:=by rw [b] at hd;simpa using hd
   obtain ⟨m,f⟩:=k b;refine ⟨.cons (fun q _=> .inl e) m,fun s hs q a=> ?_⟩;rcases Oc.1 a with rfl | a
   .exact .inl e
   .exact f s hs q a
  .rename_i hd;split at c
   .rename_i n;obtain ⟨L,g,i,k⟩:=kD c d;refine ⟨(j,v,x)::L,.cons ho ((tn X all fr st o).trans h1) g,by simp [i,List.range'_succ],fun b=> ?_⟩;obtain ⟨m,f⟩:=k b;refine ⟨.cons (fun q e=> ?_) m,fun s hs q a=> ?_⟩
    .rcases f (j,x) (by simp) q e with h | h | h
     .exact .inr (.inl h)
     .exact .inr (.inr (.inl h))
     .exact .inr (.inr (.inr h))
    .rcases Oc.1 a with rfl | a
     .exact .inr (kX n s hs)
     .exact f s (by simp [hs]) q a
   .cases c
theorem jC {X:Cx} {e:Nat->Option Nat} {all:List Oper}: ∀{l:List Oper} {j:Nat} {seen:List (Nat×Fx)} {fr fr':Fr} {st st':St},cw X e all j seen l fr st= .ok (fr',st')->l=all.drop j->
  ∃L,sf X e all L fr st fr' st'/\L.map (·.1)=List.range' j l.length/\L.Pairwise (Cm all)/\ ∀s∈seen,∀q∈L,quiet q.2.2=true\/apart s.2 q.2.2=true\/behind all (q.1+1) q.1 s.1=true
 | [],j,seen,fr,fr',st,st',h,hl=>by
  simp only [cw,NT,NU] at h;obtain ⟨rfl,rfl⟩:=h;exact ⟨[],.nil,rfl,.nil,by simp⟩
 | o::l,j,seen,fr,fr',st,st',h,hl=>by
  simp only [cw,ad] at h;obtain ⟨⟨v,x⟩,h1,b⟩:=h;have ho:all[j]? =some o:=by
   have:=OC (·[0]?) hl;simpa using this.symm
  have c:l=all.drop (j+1):=by
   have:=OC List.tail hl;simpa [List.tail_drop] using this
  split at b
  .rename_i hd;obtain ⟨L,g,i,k⟩:=jC b c;refine ⟨(j,v,x)::L,.cons ho h1 g,by simp [i,List.range'_succ], ?_⟩;have d:quiet x=true:=by simpa using hd
   obtain ⟨m,f⟩:=k;refine ⟨.cons (fun q _=> .inl d) m,fun s hs q a=> ?_⟩;rcases Oc.1 a with rfl | a
   .exact .inl d
   .exact f s hs q a
  .rename_i hd;split at b
   .rename_i n;obtain ⟨L,g,i,k⟩:=jC b c;refine ⟨(j,v,x)::L,.cons ho h1 g,by simp [i,List.range'_succ], ?_⟩;obtain ⟨m,f⟩:=k;refine ⟨.cons (fun q d=> ?_) m,fun s hs q a=> ?_⟩
    .rcases f (j,x) (by simp) q d with h | h | h
     .exact .inr (.inl h)
     .exact .inr (.inr (.inl h))
     .exact .inr (.inr (.inr h))
    .rcases Oc.1 a with rfl | a
     .exact .inr (kX n s hs)
     .exact f s (by simp [hs]) q a
   .cases b
structure KV (ops:Array Oper) (listed:Array Bool) (L:List (Nat×AV×Fx)):Prop where
 left: ∀k,k < ops.size->(listed.getD k true=false↔k∈L.map (·.1))
 lt: ∀k∈L.map (·.1),k < ops.size
 sorted:(L.map (·.1)).Pairwise (· < ·)
 closed: ∀k o e,ops[k]? =some o->listed.getD k true=true->e∈o.after->Region.binds .any e=true->listed.getD e.on false=true
 size:listed.size=ops.size
 cm:L.Pairwise (Cm ops.toList)
theorem vp {l:Array Bool} {k:Nat}:l.getD k false=true->l.getD k true=true:=by
 simp only [Array.getD_eq_getD_getElem?];cases l[k]? <;> simp
theorem mW {ops:Array Oper} {listed:Array Bool} {L:List (Nat×AV×Fx)} (g:KV ops listed L): ∀(f j i:Nat),behind ops.toList f j i=true->
  (∀o e,ops[j]? =some o->e∈o.after->Region.binds .any e=true->listed.getD e.on false=true)->listed.getD i true=true
 | 0,_,_,h,_=>by simp [behind] at h
 | f+1,j,i,h,k=>by
  simp only [behind,OE] at h;split at h
  .rename_i o ho;simp only [List.any_eq_true,N0,OW] at h;obtain ⟨e,l,m,a⟩:=h;have hl:=k o e ho (by simpa using l) m;rcases a with a | ⟨_,a⟩
   .rw [<- NZ a];exact vp hl
   .exact mW g f e.on i a fun o' n b c d=>g.closed e.on o' n b (vp hl) c d
  .cases h
theorem mem_ready {ops:Array Oper} {listed:Array Bool} {i:Nat}:i∈Region.ready .any ops listed↔i < ops.size/\listed.getD i true=false/\ ∀o e,ops[i]? =some o->e∈o.after->Region.binds .any e=true->listed.getD e.on false=true:=by
 simp only [Region.ready,List.mem_filter,List.mem_range,N0,Bool.not_eq_true'];constructor
 .rintro ⟨h1,b,a⟩;refine ⟨h1,b,fun o e ho c d=> ?_⟩;rw [ho] at a;simp only [Option.map_some,Option.getD_some,Array.all_eq_true'] at a;have:=a e c;rw [d] at this;simpa using this
 .rintro ⟨h1,b,a⟩;refine ⟨h1,b, ?_⟩;rw [Array.getElem?_eq_getElem h1];simp only [Option.map_some,Option.getD_some,Array.all_eq_true'];intro e c;cases d:Region.binds .any e with
  | false=>rfl
  | true=>simpa using a _ e (Array.getElem?_eq_getElem h1) c d
section
variable {P:Program} {A:Nat->Prop}
theorem rF {X:Cx} {e0:Nat->Option Nat} {ro:Option Nat} {sb:Bool} (hX:Good P X) {ops:Array Oper} (F:sb=true->fE ops.toList=true) (s:gS ops.toList=true) {Q:Exit->Act->World->Prop} {fr':Fr} {st':St}: ∀(fuel:Nat) (listed:Array Bool) (L:List (Nat×AV×Fx)) (fr:Fr) (st:St) (g:Gh) (a:Act) (w:World),
  L.length=fuel->KV ops listed L->sf X e0 ops.toList L fr st fr' st'->Rel X A sb g fr st a w->(∀a' g' w',Rel X A sb g' fr' st' a' w'->a'.defers=a.defers->Kp A g w g' w'->Q .normal a' w')->wpAnyIn (fe ro) 0 P .any ops Q fuel listed a w
 | 0,listed,L,fr,st,g,a,w,hl,d,T,hrel,U=>by
  have:L=[]:=Oo hl;subst this;cases T;refine ⟨?_,U a g w hrel rfl (Kp.refl _ _ _)⟩;apply List.eq_nil_iff_forall_not_mem.2;intro i hi;obtain ⟨h1,V,_⟩:=mem_ready.1 hi;have:=(d.left i h1).1 V;cases this
 | fuel+1,listed,L,fr,st,g,a,w,hl,d,T,hrel,U=>by
  refine ⟨fun G=> ?_,fun i hi=> ?_⟩
  .exfalso;cases L with
   | nil=>simp at hl
   | cons p L=>
    have D:=d.lt p.1 (by simp);have:p.1∈Region.ready .any ops listed:=mem_ready.2 ⟨D,(d.left p.1 D).2 (by simp),fun o e ho S E=>by
     have H:=tV s ho S E;have I:e.on < ops.size:=by omega
     have J:e.on∉(p::L).map (·.1):=by
      intro l;simp only [Od,Oc] at l;rcases l with l | l
      .omega
      .have:=d.sorted;simp only [Od,OP] at this;have:=this.1 _ l;omega
     have:=mt (d.left e.on I).1 J;have u:e.on < listed.size:=by rw [d.size];exact I
     simp only [Array.getD_eq_getD_getElem?,Array.getElem?_eq_getElem u,Option.getD_some] at this ⊢;simpa using this⟩
    rw [G] at this;cases this
  .obtain ⟨h1,V,h3⟩:=mem_ready.1 hi;have l:=(d.left i h1).1 V;obtain ⟨q,hq,W⟩:=OQ.1 l;subst W;obtain ⟨L1,L2,rfl⟩:=List.append_of_mem hq;have z: ∀p∈L1,Iy ops p q:=fun p D=>by
    have H:p.1 < q.1:=by
     have:=d.sorted;rw [OJ,List.pairwise_append] at this;exact this.2.2 p.1 (OQ.2 ⟨p,D,rfl⟩) q.1 (by simp)
    have K: ∀f,behind ops.toList f q.1 p.1=true->False:=fun f E=>by
     have:=mW d f q.1 p.1 E h3;have M:=(d.left p.1 (by omega)).2 (by simp only [OJ,N9,OQ];exact .inl ⟨p,D,rfl⟩);rw [this] at M;cases M
    refine ⟨?_,fun o1 o2 e1 e2=> ?_⟩
    .have:=d.cm;rw [List.pairwise_append] at this;rcases this.2.2 p D q (by simp) with h | h | h | h
     .exact .inl h
     .exact .inr (.inl h)
     .exact .inr (.inr h)
     .exact (K _ h).elim
    .rcases ug s H e2 e1 with h | h
     .exact h
     .exact (K _ h).elim
   have Y:=tc T z;cases Y with
   | cons ho h t=>
    rename_i j v x o;refine tF hX F (by simpa using ho) h hrel fun a' g' w' B hd n=> ?_;refine rF hX F s fuel _ (L1++L2) _ _ g' a' w' (by simp at hl ⊢;omega) ?_ t B fun Z av a1 N a6 a7=>U Z av a1 N (a6.trans hd) (n.trans a7);have u:j < listed.size:=by rw [d.size];exact h1
    have r: ∀k b,(listed.setIfInBounds j true).getD k b=if k=j then true else listed.getD k b:=fun k b=>by
     simp only [Array.getD_eq_getD_getElem?,Array.getElem?_setIfInBounds];by_cases n:j=k
     .subst n;simp [u]
     .rw [if_neg n,if_neg (fun e=>n e.symm)]
    have c:=d.sorted;rw [OJ,Od,List.pairwise_append,OP] at c;refine ⟨fun k n=> ?_,fun k n=>d.lt k ?_, ?_,fun k o' e O C S E=> ?_,by simp [d.size], ?_⟩
    .rw [r];by_cases m:k=j
     .subst m;simp only [if_true,Bool.true_eq_false,false_iff];intro l;simp only [OJ,N9] at l;rcases l with l | l
      .have:=c.2.2 k l k (by simp);omega
      .have:=c.2.1.1 k l;omega
     .rw [if_neg m,d.left k n];simp only [OJ,Od,N9,Oc];constructor
      .rintro (h | h | h)
       .exact .inl h
       .exact absurd h m
       .exact .inr h
      .rintro (h | h)
       .exact .inl h
       .exact .inr (.inr h)
    .simp only [OJ,Od,N9,Oc] at n ⊢;rcases n with h | h
     .exact .inl h
     .exact .inr (.inr h)
    .rw [OJ,List.pairwise_append];exact ⟨c.1,c.2.1.2,fun x hx y hy=>c.2.2 x hx y (by simp [hy])⟩
    .rw [r] at C ⊢;by_cases R:e.on=j
     .rw [if_pos R]
     .rw [if_neg R];by_cases m:k=j
      .subst m;exact h3 o' e O S E
      .rw [if_neg m] at C;exact d.closed k o' e O C S E
    .have:=d.cm;rw [List.pairwise_append,OP] at this;rw [List.pairwise_append];exact ⟨this.1,this.2.1.2,fun x hx y hy=>this.2.2 x hx y (by simp [hy])⟩
theorem Rel.drew {X:Cx} {sb:Bool} {g:Gh} {fr:Fr} {st:St} {a:Act} {w:World} (h:Rel X A sb g fr st a w):Rel X A sb g fr st a w.drew:=⟨h.mode,h.fr,h.inv.drew,h.G,h.marks⟩
theorem wO {X:Cx} {ro:Option Nat} {sb:Bool} (f:Good P X) (l:P.follows .mixedOrders=true) {id:Nat} {ops:Array Oper} (c:sb=true->fE ops.toList=true) {draw:Bool} (d:draw=true->gS ops.toList=true) {fr fr':Fr} {st st':St} {g:Gh} {a:Act} {w:World} {Q:Exit->Act->World->Prop}
  (h:cS X ops.toList draw 0 [] ops.toList fr st= .ok (fr',st')) (hrel:Rel X A sb g fr st a w) (i: ∀a' g' w',Rel X A sb g' fr' st' a' w'->a'.defers=a.defers->Kp A g w g' w'->Q .normal a' w'):(Code.region id ops draw).wpIn (fe ro) 0 P Q a w:=by
 obtain ⟨L,j,m,n⟩:=kD h (by simp);have hlen:L.map (·.1)=List.range ops.size:=by rw [m,List.range_eq_range'];simp
 cases draw with
 | false=>
  refine wpIn_region ?_;have:=nb (ro:=ro) f c j hrel i
  rwa [hlen] at this
 | true=>
  obtain ⟨p,_⟩:=n rfl;refine wpIn_region_any l ?_;refine rF f c (d rfl) ops.size _ L fr st g a w.drew ?_ ?_ j hrel.drew fun a' g' w' r hd b=>i a' g' w' r hd ((Kp.drew A g w).trans b)
  .have:=OC List.length hlen;simpa using this
  .refine ⟨fun k b=> ?_,fun k b=> ?_, ?_,fun k o e ho hl=> ?_,by simp,p⟩
   .rw [hlen];simp [b]
   .rw [hlen] at b;simpa using b
   .rw [hlen];exact List.pairwise_lt_range
   .have b:k < ops.size:=by
     rcases Nat.lt_or_ge k ops.size with q | q
     .exact q
     .rw [Array.getElem?_eq_none q] at ho;cases ho
    simp [b] at hl
theorem tU {X:Cx} {ro:Option Nat} {sb:Bool} (f:Good P X) (i:P.follows .mixedOrders=true) {id:Nat} {ops:Array Oper} (c:sb=true->fE ops.toList=true) {j:Nat->Option Nat} (d:gS ops.toList=true) {fr fr':Fr} {st st':St} {g:Gh} {a:Act} {w:World} {Q:Exit->Act->World->Prop}
  (h:cw X j ops.toList 0 [] ops.toList fr st= .ok (fr',st')) (hrel:Rel X A sb g fr st a w) (l: ∀a' g' w',Rel X A sb g' fr' st' a' w'->a'.defers=a.defers->Kp A g w g' w'->Q .normal a' w'):(Code.region id ops true).wpIn (fe ro) 0 P Q a w:=by
 obtain ⟨L,m,n,p⟩:=jC h (by simp);have hlen:L.map (·.1)=List.range ops.size:=by rw [n,List.range_eq_range'];simp
 obtain ⟨r,_⟩:=p;refine wpIn_region_any i ?_;refine rF f c d ops.size _ L fr st g a w.drew ?_ ?_ m hrel.drew fun a' g' w' s hd b=>l a' g' w' s hd ((Kp.drew A g w).trans b)
 .have:=OC List.length hlen;simpa using this
 .refine ⟨fun k b=> ?_,fun k b=> ?_, ?_,fun k o e ho hl=> ?_,by simp,r⟩
  .rw [hlen];simp [b]
  .rw [hlen] at b;simpa using b
  .rw [hlen];exact List.pairwise_lt_range
  .have b:k < ops.size:=by
    rcases Nat.lt_or_ge k ops.size with q | q
    .exact q
    .rw [Array.getElem?_eq_none q] at ho;cases ho
   simp [b] at hl
end
end Go.VM
