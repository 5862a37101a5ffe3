/-
  A part of the proof.
-/
import Derived.Test.YtkbkbndajpbcjaaGreatDoorVmAH
import Derived.Laws.MakeOwn
import Derived.OrdersIn
import Derived.RangeFuncIn
import Derived.LoopNIn
set_option linter.all false
namespace Go.VM
def mP (T:TT) (A:Nat->Prop) (g:Gh) (st':St) (w:World) (v:AV) (x:Value) (w':World):Prop:= ∃g',R g' v x/\Inv T A g' st' w'/\Kp A g w g' w'
def xH (P:Program) (f:FuncId) (args:Array Value) (w:World) (post:Value->World->Prop):Prop:=
 (∃x w',(callFunc f args).run P w= .ok (.value x) w'/\post x w')\/
 ((callFunc f args).run P w= .ok (.enter f args) w/\Calls P f args w fun e w'=> ∃x,e= .returned x/\post x w')
def EN (P:Program) (l:Nat) (args:Array Value) (w:World) (post:Value->World->Prop):Prop:=
 ∃fn tmps a c,(Instr.yield l args).run P w= .ok (.round l fn tmps a c) w/\RoundIn Fence.wide 0 P l fn tmps a c w fun e w'=> ∃x,e= .returned x/\post x w'
structure BF (P:Program) (T:TT) (G:Nat->Oq LA) (C:dt):Prop where
 bare: ∀f args v,C.bare f args= .ok v-> ∀A g st w xs,GR g G->bH args=true->RL g args xs->Inv T A g st w->xH P f xs.toArray w (mP T A g st w v)
 wide: ∀f args st v st',C.wide f args st= .ok (v,st')-> ∀A g w xs,GR g G->RL g args xs->Inv T A g st w->
  (callFunc f xs.toArray).run P w= .ok (.enter f xs.toArray) w/\Calls P f xs.toArray w fun e w'=> ∃x,e= .returned x/\mP T A g st' w v x w'
 look: ∀f args st v,C.look f args st= .ok v-> ∀A g w xs,GR g G->RL g args xs->Inv T A g st w->xH P f xs.toArray w (mP T A g st w v)
 round: ∀k args st v st',C.round k args st= .ok (v,st')-> ∀A g w xs l,GR g G->RL g args xs->Inv T A g st w->g.E k=some (.cG l)->EN P l xs.toArray w (mP T A g st' w v)
def ER (P:Program) (T:TT) (G:Nat->Oq LA) (prim:FuncId->Oq Prim):Prop:=
 ∀f q,prim f=some q-> ∀C args p v a st A g w xs,GR g G->dK q args= .ok p->aE C st p= .ok (v,a)->RL g args xs->Inv T A g st w->xH P f xs.toArray w (mP T A g (a.did.app st) w v)
section
variable {P:Program} {T:TT} {A:Nat->Prop} {g:Gh} {st:St} {w:World}
theorem Mo (hT:zm P T) {C:dt} {t:Td} {ts:Array Td} {ty:Td} {x v:AV} {xv:Value} {p:dY} {B:Fx} (j:ts[0]? =some t) (hp:Cv T t x= .ok p) (hrun:aE C st p= .ok (v,B)) (hx:R g x xv) (h:Inv T A g st w):
  bh P T A g w v (B.did.app st) (Builtin.len_ ts ty #[xv]):=by
 simp only [Cv,ag] at hp;obtain ⟨i,h1,f⟩:=hp;have hi:=hT t i (cH.1 h1);have plain: ∀{n:Int},p= .val (.int .i64 n)->(Builtin.len_ ts ty #[xv]).run P w= .ok (goInt n) w->bh P T A g w v (B.did.app st) (Builtin.len_ ts ty #[xv]):=fun hp D=>by
  subst hp;simp only [aE,aaf,aaj] at hrun;obtain ⟨rfl,rfl⟩:=hrun;exact bh.of h D (by simp only [R];rfl)
 split at f
 .rename_i n e _ q;simp only [aj] at f;exact plain f.symm (by simp [Builtin.len_,j,sU hi q])
 .rename_i s q;simp only [aj] at f;simp only [R] at hx;subst hx;exact plain f.symm (by simp [Builtin.len_,j,wB hi q,qb])
 .rename_i e q;simp only [aj] at f;simp only [R] at hx;subst hx;exact plain f.symm (by simp [Builtin.len_,j,fu hi q])
 .rename_i e z es Q q;simp only [aj] at f;simp only [R] at hx;obtain ⟨_,b,o,cap,rfl,_⟩:=hx;exact plain f.symm (by simp [Builtin.len_,j,fu hi q])
 .rename_i e S U V W X q;simp only [aj] at f;simp only [R] at hx;obtain ⟨b,o,_,c,rfl,_⟩:=hx;exact plain f.symm (by simp [Builtin.len_,j,fu hi q])
 .rename_i e k z n q;simp only [aj] at f;simp only [R] at hx;obtain ⟨_,b,cap,_,_,rfl,_⟩:=hx;exact plain f.symm (by simp [Builtin.len_,j,fu hi q])
 .rename_i e q;simp only [aj] at f;simp only [R] at hx;obtain ⟨a,rfl⟩:=hx;exact plain f.symm (by simp [Builtin.len_,j,fu hi q])
 .rename_i k e q;simp only [aj] at f;simp only [R] at hx;subst hx;exact plain f.symm (by simp [Builtin.len_,j,wL hi q])
 .rename_i k e es q;simp only [aj] at f;simp only [R] at hx;obtain ⟨b,ents,clk,E,rfl,F⟩:=hx;have r:=h.M b ents clk E;have u:(getObj b).run P w= .ok (.map ents.toArray clk) w:=by simp [getObj,Sem.run,r]
  have hl:ents.length=es.length:=d F;exact plain f.symm (by simp [Builtin.len_,j,wL hi q,u,hl])
 .rename_i k e m q;simp only [aj] at f;subst f;simp only [jD,aE,ag,aj] at hrun;obtain ⟨o,G,⟨v',o'⟩,⟨I,y,g4⟩,dd,g5,g6⟩:=hrun;simp only [aaj] at g4 g6;obtain ⟨rfl,rfl⟩:=g4;simp only [fh,aaf] at g5;subst g5;obtain ⟨rfl,rfl⟩:=g6;split at y
  .rename_i es;simp only [aaf] at y;subst y;simp only [R] at hx;obtain ⟨b,hE,rfl⟩:=hx;obtain ⟨b',ents,clk,J,K,L,Y⟩:=h.H m _ G;have N:b'=b:=by have:=J.symm.trans hE;simpa using this
   subst N;have u:(getObj b').run P w= .ok (.map ents clk) w:=by simp [getObj,Sem.run,K]
   have hl:=d L;simp only [abj] at hl;exact bh.of h (x:=goInt ents.size) (by simp [Builtin.len_,j,wL hi q,u]) (by simp only [R,hl];rfl)
  .cases y
 .cases f
 where
 d: ∀{es:List (AV×AV)} {ents:List MapEntry},tI g es ents->ents.length=es.length
  | [],_,h=>by simp only [tI] at h;subst h;rfl
  | (_,_)::es,_,h=>by
   simp only [tI] at h;obtain ⟨e,l,rfl,_,_,O⟩:=h;simp [d O]
theorem qv {lower:Bool}: ∀{l:LA} {ls:List Value} {a v:AV} {x:Value},xz lower a l= .ok v->R g a x->RL g l ls->
  ∃z,(ls.foldlM (if lower then Builtin.min2 else Builtin.max2) x).run P w= .ok z w/\R g v z
 | [],_,a,v,x,h,hx,hl=>by
  simp only [xz,aaf] at h;subst h;simp only [RL] at hl;subst hl;exact ⟨x,rfl,hx⟩
 | b::l,_,a,v,x,h,hx,hl=>by
  simp only [RL] at hl;obtain ⟨y,ys,rfl,h1,f⟩:=hl;simp only [xz,ag] at h;obtain ⟨c,i,j⟩:=h;obtain ⟨z,d,k⟩:=IX (P:=P) (w:=w) i hx h1;obtain ⟨z',e,m⟩:=qv j k f;refine ⟨z', ?_,m⟩;rw [List.foldlM_cons];cases lower <;> simp only [aaT,if_false,if_true] at d e ⊢ <;> simp only [Sem.run_bind,d,Result.andThen_ok,e]
def _root_.Go.Oper.M1 (P:Program) (o:Oper) (a:Act) (w:World) (K:Act->World->Prop):Prop:=
 match (execOp a.eval o).run P w with
 | .ok (.value v) w'=>K (a.put o.dst v) w'
 | .ok .skip w'=>K (a.put o.dst Go.undef) w'
 | .ok (.enter f args) w'=>Calls P f args w' fun e b=> ∃x,e= .returned x/\K (a.put o.dst x) b
 | .ok (.round l f tmps x c) w'=>RoundIn Fence.wide 0 P l f tmps x c w' fun e b=> ∃x,e= .returned x/\K (a.put o.dst x) b
 | _=>False
def fe (ro:Oq Nat):Fence:={Fence.wide with round:=ro}
theorem PK {o:Oper} {a:Act} {K:Act->World->Prop} {Q:Exit->Act->World->Prop} {ro:Oq Nat} (h:o.M1 P a w K) (f: ∀c,o.op≠ .defer c):o.wpIn (fe ro) 0 P a w K Q:=by
 refine ⟨fun _ _=>trivial, ?_⟩;show o.uponIn (fe ro) 0 P a K Q ((o.semAt ro a.eval).run P w);rw [Oper.semAt_eq ro a.eval o f];unfold Go.Oper.M1 at h;generalize (execOp a.eval o).run P w=r at h;cases r with
 | halt x w'=>exact h.elim
 | ok x w'=>
  cases x <;> first | exact h | exact h.elim | skip
  .refine ⟨fun e=>by simp [fe,Fence.wide] at e, ?_⟩;have h:CallsIn Fence.wide 0 P _ _ w' fun e b=> ∃x,e= .returned x/\K (a.put o.dst x) b:=callsIn_wide.2 h;refine CallsIn.mono h ?_;rintro e b ⟨x,rfl,d⟩;exact d
  .refine ⟨fun e=>by simp [fe,Fence.wide] at e, ?_⟩;refine RoundIn.mono h ?_;rintro e b ⟨x,rfl,d⟩;exact d
theorem fW {o:Oper} {a:Act} {K:Act->World->Prop} {s:Sem Value} {v:AV} {st':St} (he:execOp a.eval o=(do pure (.value (<- s)))) (b:bh P T A g w v st' s)
  (hK: ∀x w',mP T A g st' w v x w'->K (a.put o.dst x) w'):o.M1 P a w K:=by
 obtain ⟨x,g',w',h1,c,d,e⟩:=b;unfold Go.Oper.M1;rw [he];simp only [Sem.run_bind,h1,Result.andThen_ok,Sem.run_pure];exact hK x w' ⟨g',c,d,e⟩
theorem zt {o:Oper} {a:Act} {K:Act->World->Prop} {s:Sem Unit} {st':St} (he:execOp a.eval o=(do s;pure .skip)) (b:Fq P T A g w st' s)
  (hK: ∀x w',mP T A g st' w undef x w'->K (a.put o.dst x) w'):o.M1 P a w K:=by
 obtain ⟨g',w',h1,c,d⟩:=b;unfold Go.Oper.M1;rw [he];simp only [Sem.run_bind,h1,Result.andThen_ok,Sem.run_pure];exact hK Go.undef w' ⟨g',Fp,c,d⟩
theorem ON {o:Oper} {a:Act} {K:Act->World->Prop} {l:Nat} {args:Array Value} {v:AV} {st':St} (he:execOp a.eval o=Instr.yield l args) (b:EN P l args w (mP T A g st' w v))
  (hK: ∀x w',mP T A g st' w v x w'->K (a.put o.dst x) w'):o.M1 P a w K:=by
 unfold Go.Oper.M1;rw [he];obtain ⟨fn,tmps,x,c,h1,d⟩:=b;rw [h1];refine RoundIn.mono d ?_;rintro e w' ⟨y,rfl,f⟩;exact ⟨y,rfl,hK y w' f⟩
theorem zG {o:Oper} {a:Act} {K:Act->World->Prop} {f:FuncId} {args:Array Value} {v:AV} {st':St} (he:execOp a.eval o=callFunc f args) (c:xH P f args w (mP T A g st' w v))
  (hK: ∀x w',mP T A g st' w v x w'->K (a.put o.dst x) w'):o.M1 P a w K:=by
 unfold Go.Oper.M1;rw [he];rcases c with ⟨x,w',h1,b⟩ | ⟨h1,b⟩
 .rw [h1];exact hK x w' b
 .rw [h1];refine b.mono ?_;rintro e w' ⟨x,rfl,d⟩;exact ⟨x,rfl,hK x w' d⟩
theorem vg {X:df AV} {p:dY} (h:(do pure (dY.val (<- X)):df dY)= .ok p): ∃v,X= .ok v/\p= .val v:=by
 simp only [ag,aj] at h;obtain ⟨v,h1,a⟩:=h;exact ⟨v,h1,a.symm⟩
theorem Bm (zs:Array Value): ∀(c:Nat),(madeCells zs (c * zs.size)).toList=(List.replicate c zs.toList).flatten
 | 0=>by simp [madeCells]
 | c+1=>by
  have ih:=Bm zs c;simp only [madeCells,Array.toList_map,Array.toList_range] at ih ⊢;rw [show (c+1) * zs.size=zs.size+c * zs.size by rw [Nat.add_mul,Nat.one_mul,abv],List.range_add,aaG,List.replicate_succ,List.flatten_cons, <- ih,List.map_map];congr 1
  .apply List.ext_getElem?
   intro k;rw [aaW];by_cases a:k < zs.size
   .rw [List.getElem?_range a,abg,Array.getElem?_eq_getElem a];simp [Nat.mod_eq_of_lt a,a]
   .rw [aaS (by simp;omega),aaS (by simp;omega)];rfl
  .apply List.map_congr_left;intro k _;simp
theorem oA (l:List Value): ∀c,lC l c=(List.replicate c l).flatten
 | 0=>rfl
 | c+1=>by rw [lC,oA l c,List.replicate_succ,List.flatten_cons]
theorem zi (hT:zm P T) {C:dt} {t:Td} {l c v:AV} {D E:Value} {p:dY} {F:Fx} (hp:qj T t l c= .ok p) (hrun:aE C st p= .ok (v,F)) (hl:R g l D) (G:R g c E) (h:Inv T A g st w):
  bh P T A g w v (F.did.app st) (Instr.makeSlice t D E):=by
 simp only [qj,ag] at hp;obtain ⟨it,h1,s⟩:=hp;rw [cH] at h1;split at s
 .rename_i e O H kc b m;simp only [ag] at s;obtain ⟨i,u,j⟩:=s;rw [cH] at u;split at j
  .rename_i o;simp only [aak,Nat.ble_eq] at o;obtain ⟨⟨⟨⟨I,c2⟩,Q⟩,S⟩,J⟩:=o;simp only [R] at hl G;subst hl G;obtain ⟨d,U,K,_⟩:=(hT t it h1).und;rw [m] at K;have V:P.underlying t=some (.slice e):=by rw [U,K]
   obtain ⟨f,W,X,Y,z,Z,L,i6,i7,i8,i9⟩:=(hT e i u).info;have q:=run_make (P:=P) w t e f z V W Z O kc (.ofNat H) (.ofNat b) (Int.natCast_nonneg H) (Int.ofNat_le.2 I) (by rw [Y];exact Int.ofNat_le.2 Q) (Int.ofNat_le.2 S);have M:(madeCells z.cells (b * z.cells.size)).toList=(List.replicate b z.cells.toList).flatten:=Bm z.cells b;have r: ∀x∈lC z.cells.toList b,x.oneCell'=true:=fun x hx=>by
    rw [oA] at hx;obtain ⟨l',y,B⟩:=List.mem_flatten.1 hx;have:=List.eq_of_mem_replicate y;subst this;exact i7 x (by simpa using B)
   have a:(madeCells z.cells ((Int.ofNat b).toNat * f.size))=(lC z.cells.toList b).toArray:=by
    rw [oA, <- M,X, <- L];simp
   split at j
   .rename_i k;have k:=aap k;subst k;simp only [aj] at j;subst j;simp only [aE,aaf,aaj] at hrun;obtain ⟨rfl,rfl⟩:=hrun;obtain ⟨g',k1,k2,N⟩:=h.RY (els:=[]) (vals:=[]) (rest:=lC z.cells.toList b) (cap:=b) (n:=0) u J rfl (by simp) rfl (by simp [flat,RL]) (by simp) (by rw [aai,aax,oA, <- M,abj,size_madeCells,L]) (aaO _);refine ⟨_,g',_,q,N, ?_, ?_⟩
    .rw [a];exact k1
    .rw [a];exact k2
   simp only [aj] at j;subst j;simp only [aE,aaf,aaj] at hrun;obtain ⟨rfl,rfl⟩:=hrun;obtain ⟨k1,k2,N⟩:=h.zU e (Bz (i9 g) b) r;refine ⟨_,g.dB st.h (.cG w.heap.size),_,q, ?_, ?_, ?_⟩
   .simp only [R];exact ⟨w.heap.size,0,Gh.aX _ _ _,_,rfl,I,J,fun _=>rfl,.inl rfl⟩
   .rw [a];exact k1
   .rw [a];exact k2
  .cases j
 .cases s
theorem tV {C:dt} {u v:AV} {a:Fx} (h:aE C st (.val u)= .ok (v,a)):u=v/\a=⟨[],.kept⟩:=by
 simp only [aE,aaf,aaj] at h;exact ⟨h.1,h.2.symm⟩
theorem IA (X:Cx) (hT:zm P X.T) (hC:BF P X.T X.G X.C) (a6:ER P X.T X.G X.prim) {o:Oper} {fr:Fr} {a:Act} {p:dY} {v:AV} {fx:Fx} {K:Act->World->Prop}
  (hp:fF X.T X.prim X.imm X.G fr o.op= .ok p) (hrun:aE X.C st p= .ok (v,fx)) (B:GR g X.G) (hf:zo g fr a.tmps) (h:Inv X.T A g st w)
  (hK: ∀x w',mP X.T A g (fx.did.app st) w v x w'->K (a.put o.dst x) w'):o.M1 P a w K:=by
 obtain ⟨dst,op,type,pos,after,guard⟩:=o;have val: ∀{Y:df AV} {s:Sem Value},(do pure (dY.val (<- Y)):df dY)= .ok p->execOp a.eval ⟨dst,op,type,pos,after,guard⟩=(do pure (.value (<- s)))->
   (∀u,Y= .ok u->bh P X.T A g w u st s)->Oper.M1 P ⟨dst,op,type,pos,after,guard⟩ a w K:=fun hY he W=>by
  obtain ⟨u,h1,rfl⟩:=vg hY;obtain ⟨rfl,rfl⟩:=tV hrun;exact fW he (W u h1) hK
 cases op <;> simp only [fF] at hp <;> (try (cases hp;done))
 case move x=>exact val hp (s:=pure (a.eval x)) (by simp [execOp]) fun u D=>bh.of h rfl (aM B hf D)
 case assign x=>exact val hp (s:=pure (a.eval x)) (by simp [execOp]) fun u D=>bh.of h rfl (aM B hf D)
 case pick c x y=>
  refine val hp (s:=do pure (if <- Go.asBool (a.eval c) then a.eval x else a.eval y)) (by simp [execOp]) fun u D=> ?_;simp only [ag] at D;obtain ⟨cv,h1,b,j,n⟩:=D;have hc:=aM B hf h1;cases cv <;> simp only [VM.asBool,aaf] at j <;> (try (cases j;done))
  subst j;simp only [R] at hc;rename_i b;cases b with
  | true=>exact bh.of h (by simp [hc,Go.asBool]) (aM B hf n)
  | false=>exact bh.of h (by simp [hc,Go.asBool]) (aM B hf n)
 case alloc t=>
  simp only [ag,aj] at hp;obtain ⟨i,h1,rfl⟩:=hp;simp only [aE,aaf,aaj] at hrun;obtain ⟨rfl,rfl⟩:=hrun;exact fW (s:=Instr.alloc t true (.tuple #[])) (by simp [execOp]) (GJ (hT t i (cH.1 h1)) h _) hK
 case box t x=>
  simp only [ag] at hp;obtain ⟨i,h1,u,j,n⟩:=hp;exact fW (s:=Instr.box t (a.eval x)) (by simp [execOp]) (MX n hrun (aM B hf j) h) hK
 case build t parts=>
  refine val hp (s:=Instr.build t (parts.map fun (i,x)=>(i,a.eval x))) (by simp [execOp]) fun u D=> ?_;simp only [ag] at D;obtain ⟨ps,h1,j⟩:=D;exact F5 hT j (by simpa using mQ B hf h1) h
 case buildSlice t len parts=>
  refine val hp (s:=Instr.buildSlice t len (parts.map fun (i,x)=>(i,a.eval x))) (by simp [execOp]) fun u D=> ?_;simp only [ag] at D;obtain ⟨ps,h1,j⟩:=D;exact xw hT j (by simpa using mQ B hf h1) h
 case makeSlice t x y=>
  simp only [ag] at hp;obtain ⟨u1,h1,u2,j,n⟩:=hp;exact fW (s:=Instr.makeSlice t (a.eval x) (a.eval y)) (by simp [execOp]) (zi hT n hrun (aM B hf h1) (aM B hf j) h) hK
 case load t x=>
  simp only [ag] at hp;obtain ⟨i,h1,u,j,n⟩:=hp;exact fW (s:=Instr.loadAt t (a.eval x)) (by simp [execOp]) (H6 (hT t i (cH.1 h1)) n hrun (aM B hf j) h) hK
 case store t x y=>
  simp only [ag] at hp;obtain ⟨i,h1,u,j,hp⟩:=hp;split at hp
  .simp only [ag] at hp;obtain ⟨u',n,H⟩:=hp;obtain ⟨rfl,W⟩:=Ck (hT t i (cH.1 h1)) H hrun (aM B hf j) (aM B hf n) h;exact zt (s:=Instr.storeAt t (a.eval x) (a.eval y)) (by simp [execOp]) W hK
  .simp only [ag] at hp;obtain ⟨u',n,H⟩:=hp;obtain ⟨rfl,W⟩:=Hq (hT t i (cH.1 h1)) H hrun (aM B hf j) (aM B hf n) h;exact zt (s:=Instr.storeAt t (a.eval x) (a.eval y)) (by simp [execOp]) W hK
 case nilCheck x=>
  obtain ⟨u,h1,rfl⟩:=vg hp;obtain ⟨rfl,rfl⟩:=tV hrun;simp only [ag] at h1;obtain ⟨u',j,n⟩:=h1;have N:=aM B hf j;split at n <;> (try (cases n;done)) <;> simp only [aj] at n <;> subst n
  .have F:=N;simp only [R] at F;obtain ⟨_,b,o,hx,_⟩:=F;exact fW (s:=pure (a.eval x)) (by simp [execOp,hx]) (bh.of h rfl N) hK
  .have F:=N;simp only [R] at F;obtain ⟨b,_,hx⟩:=F;exact fW (s:=pure (a.eval x)) (by simp [execOp,hx]) (bh.of h rfl N) hK
  .have F:=N;simp only [R] at F;obtain ⟨_,b,_,_,_,hx⟩:=F;exact fW (s:=pure (a.eval x)) (by simp [execOp,hx]) (bh.of h rfl N) hK
  .have F:=N;simp only [R] at F;obtain ⟨a',c',hx,_⟩:=F;exact fW (s:=pure (a.eval x)) (by simp [execOp,hx]) (bh.of h rfl N) hK
 case binOp op t x y yt=>
  refine val hp (s:=do eqGuard op t x y (a.eval x) (a.eval y);Go.binOp op t (a.eval x) (a.eval y)) (by simp [execOp]) fun u D=> ?_;simp only [ag] at D;obtain ⟨x',h1,y',j,n⟩:=D;exact DV hT n (aM B hf h1) (aM B hf j) h
 case unOp op t x=>
  refine val hp (s:=Op.unary op (a.eval x)) (by simp [execOp]) fun u D=> ?_;simp only [ag] at D;obtain ⟨x',h1,n⟩:=D;exact JA n (aM B hf h1) h
 case convert s d x=>
  simp only [ag] at hp;obtain ⟨u,j,n⟩:=hp;exact fW (s:=Go.convert s d (a.eval x)) (by simp [execOp]) (Co hT n hrun (aM B hf j) h) hK
 case makeInterface t x=>
  refine val hp (s:=Instr.makeInterface t (a.eval x)) (by simp [execOp]) fun u D=> ?_;simp only [ag] at D;obtain ⟨i,h1,j⟩:=D;have hi:=hT t i (cH.1 h1);obtain ⟨d,d1,d2,_⟩:=hi.oH;have fin:(∀ms,d≠ .interface ms)->(do pure (AV.iface t (<- cq X.G fr x)):df AV)= .ok u->bh P X.T A g w u st (Instr.makeInterface t (a.eval x)):=fun hd he=>by
   simp only [ag,aj] at he;obtain ⟨x',h1,rfl⟩:=he;refine bh.of h (x:= .iface t (a.eval x)) ?_ (by simp only [R];exact ⟨_,rfl,aM B hf h1⟩);simp only [Instr.makeInterface,Sem.run_bind,d1,Result.andThen_ok];cases d <;> first | rfl | exact absurd rfl (hd _)
  split at j
  .cases j
  .cases j
  .rename_i n1 n2;refine fin (fun ms bt=> ?_) j;subst bt;cases D:i.und <;> rw [D] at d2 n1 n2 <;> simp only [Ax] at d2 <;> (try (cases d2;done)) <;> first
    | exact n1 _ rfl
    | exact n2 rfl
    | (obtain ⟨_,e,_⟩:=d2;cases e;done)
    | (obtain ⟨_,_,_,e⟩:=d2;cases e;done)
 case makeFunc f first cap=>
  refine val hp (s:=Instr.makeFunc f (first.map a.eval) (cap.map a.eval)) (by simp [execOp]) fun u D=> ?_;simp only [ag,aj] at D;obtain ⟨l1,h1,l2,j,rfl⟩:=D;refine bh.of h (x:= .func f (first.map a.eval) (cap.map a.eval)) rfl ?_;simp only [R];exact ⟨_,_,rfl,by simpa using oT B hf h1,by simpa using oT B hf j⟩
 case makeMap t r=>
  cases r with
  | some r=>simp at hp
  | none=>
   simp only [aaf] at hp;subst hp;simp only [aE,aaf,aaj] at hrun;obtain ⟨rfl,rfl⟩:=hrun;exact fW (s:=Instr.makeMap t none) (by simp [execOp]) (Cf t h) hK
 case slice t x lo hi mx=>
  have a8:mx≠none->hi≠none:=by
   intro h1 j;subst j;cases mx with
   | none=>exact h1 rfl
   | some m=>simp at hp
  have b4:(do pure (dY.val (<- (do ow X.T t (<- cq X.G fr x) (<- eQ X.G fr lo) (<- eQ X.G fr hi) (<- eQ X.G fr mx)))):df dY)= .ok p:=by
   cases mx <;> cases hi <;> first | exact hp | exact absurd rfl (a8 (by simp))
  refine val b4 (s:=Instr.sliceAt t (a.eval x) (lo.map a.eval) (hi.map a.eval) (mx.map a.eval)) (by simp [execOp]) fun u D=> ?_;simp only [ag] at D;obtain ⟨x',h1,l',j,i',n,m',H,O⟩:=D;refine GD hT O (aM B hf h1) (pc B hf j) (pc B hf n) (pc B hf H) h fun hm hh=> ?_;subst hh;have hh:hi≠none:=a8 fun e=>by
   subst e;simp only [eQ,aaf] at H;exact hm H.symm
  cases hi with
  | none=>exact hh rfl
  | some q=>
   simp only [eQ,ag,aj] at n;obtain ⟨_,_,e⟩:=n;cases e
 case fieldAddr t x f=>
  refine val hp (s:=Instr.fieldAt t (a.eval x) f) (by simp [execOp]) fun u D=> ?_;simp only [ag] at D;obtain ⟨x',h1,n⟩:=D;exact zh hT n (aM B hf h1) h
 case field t x f=>
  refine val hp (s:=Instr.field t (a.eval x) f) (by simp [execOp]) fun u D=> ?_;simp only [ag] at D;obtain ⟨x',h1,n⟩:=D;exact Gg hT n (aM B hf h1) h
 case indexAddr t x i=>
  simp only [ag] at hp;obtain ⟨x',h1,hp⟩:=hp;split at hp
  .simp only [ag] at hp;obtain ⟨i',j,n⟩:=hp;exact fW (s:=Instr.indexAt t (a.eval x) (a.eval i)) (by simp [execOp]) (Cj hT n hrun (aM B hf h1) (aM B hf j) h) hK
  .refine val hp (s:=Instr.indexAt t (a.eval x) (a.eval i)) (by simp [execOp]) fun u D=> ?_;simp only [ag] at D;obtain ⟨i',j,n⟩:=D;exact zj hT n (aM B hf h1) (aM B hf j) h
 case index t x i=>
  refine val hp (s:=Instr.index t (a.eval x) (a.eval i)) (by simp [execOp]) fun u D=> ?_;simp only [ag] at D;obtain ⟨x',h1,i',j,n⟩:=D;exact G7 hT n (aM B hf h1) (aM B hf j) h
 case lookup t x k ok=>
  simp only [ag] at hp;obtain ⟨x',h1,k',j,n⟩:=hp;exact fW (s:=Instr.lookup t (a.eval x) (a.eval k) ok) (by simp [execOp]) (D3 hT n hrun (aM B hf h1) (aM B hf j) h) hK
 case mapUpdate t m k x=>
  simp only [ag] at hp;obtain ⟨m',h1,k',j,x',n,H⟩:=hp;obtain ⟨rfl,W⟩:=ru hT H hrun (aM B hf h1) (aM B hf j) (aM B hf n) h;exact zt (s:=Instr.mapUpdate t (a.eval m) (a.eval k) (a.eval x)) (by simp [execOp]) W hK
 case insert t m k x=>
  simp only [ag] at hp;obtain ⟨m',h1,k',j,x',n,H⟩:=hp;obtain ⟨rfl,W⟩:=ru hT H hrun (aM B hf h1) (aM B hf j) (aM B hf n) h;exact zt (s:=Instr.mapUpdate t (a.eval m) (a.eval k) (a.eval x)) (by simp [execOp]) W hK
 case range t x=>
  simp only [ag] at hp;obtain ⟨i,h1,x',j,n⟩:=hp;split at n
  .rename_i s D;simp only [aj] at n;subst n;simp only [aE,aaf,aaj] at hrun;obtain ⟨rfl,rfl⟩:=hrun;have N:=aM B hf j;simp only [R] at N;exact fW (s:=Instr.range t (a.eval x)) (by simp [execOp]) (by rw [N];exact FU (hT t i (cH.1 h1)) D h) hK
  .cases n
 case next x b=>
  cases b with
  | false=>simp at hp
  | true=>
   simp only [ag] at hp;obtain ⟨x',h1,j⟩:=hp;exact fW (s:=Instr.next (a.eval x) true type) (by simp [execOp]) (IP j hrun (aM B hf h1) h) hK
 case extract x i=>
  refine val hp (s:=Instr.extract (a.eval x) i) (by simp [execOp]) fun u D=> ?_;simp only [ag] at D;obtain ⟨x',h1,j⟩:=D;have N:=aM B hf h1;split at j
  .simp only [R] at N;obtain ⟨ys,hx,hl⟩:=N;obtain ⟨y,Z,e2⟩:=PL hl j;exact bh.of h (by rw [hx];simp only [Instr.extract];rw [show ys[i]? =some y by simpa using Z];rfl) e2
  .cases j
 case call c=>
  simp only [ag] at hp;obtain ⟨args,h1,j⟩:=hp;have E:=oT B hf h1;split at j
  .rename_i b Q;have he: ∀s:Sem Value,Go.builtin b c.argTypes type (c.args.map fun | .const _=>true | _=>false) (c.args.map a.eval)=(do pure (.value (<- s)))->execOp a.eval ⟨dst,.call c,type,pos,after,guard⟩=(do pure (.value (<- s))):=fun s hs=>by
    simp only [execOp,resolve,Q,pure_bind,invoke];exact hs
   have J:(c.args.map a.eval).toList=c.args.toList.map a.eval:=by simp
   unfold fZ at j;split at j
   .rename_i t xt sv xv L;simp only [RL] at E;obtain ⟨y1,l1,Z,V,y2,l2,rfl,r2,rfl⟩:=E;have I:c.args.map a.eval= #[y1,y2]:=by apply Array.ext';rw [J,Z]
    have M:c.argTypes= #[t,xt]:=by apply Array.ext';rw [L]
    simp only [ag] at j;obtain ⟨i,n,ix,H,O⟩:=j;have hi:=hT t i (cH.1 n);have b5:=hT xt ix (cH.1 H);split at O
    .rename_i e D bb;simp only [ag] at O;obtain ⟨ei,U,h7⟩:=O;have ar:=hT e ei (cH.1 U);obtain ⟨d,d1,d2,_⟩:=hi.und;rw [D] at d2;simp only [Ax] at d2;subst d2;obtain ⟨dx,x1,x2,_⟩:=b5.und;have av: ∀k,dx≠ .int k:=fun k hk=>by
      subst hk;cases b6:ix.und <;> rw [b6] at x2 bb <;> simp only [Ax] at x2 <;> (try (cases x2;done)) <;> (try (simp [Je] at bb;done))
     split at h7
     .rename_i new aw;split at h7
      .exact fW (he (Builtin.append_ c.argTypes type (c.args.map a.eval)) rfl) (by rw [I,M];exact AY ⟨d1,⟨dx,x1,av⟩,cH.1 U,ar⟩ aw h7 hrun V r2 h) hK
      split at h7
      .exact fW (he (Builtin.append_ c.argTypes type (c.args.map a.eval)) rfl) (by rw [I,M];exact BC ⟨d1,⟨dx,x1,av⟩,cH.1 U,ar⟩ aw h7 hrun V r2 h) hK
      split at h7
      .exact fW (he (Builtin.append_ c.argTypes type (c.args.map a.eval)) rfl) (by rw [I,M];exact za ⟨d1,⟨dx,x1,av⟩,cH.1 U,ar⟩ aw h7 hrun V r2 h) hK
      .exact fW (he (Builtin.append_ c.argTypes type (c.args.map a.eval)) rfl) (by rw [I,M];exact vB ⟨d1,⟨dx,x1,av⟩,cH.1 U,ar⟩ aw h7 hrun V r2 h) hK
     .cases h7
    .cases O
   .rename_i t l xv L;simp only [RL] at E;obtain ⟨y1,l1,Z,V,rfl⟩:=E;have I:c.args.map a.eval= #[y1]:=by apply Array.ext';rw [J,Z]
    have b7:c.argTypes[0]? =some t:=by rw [<- abg,L];rfl
    exact fW (he (Builtin.len_ c.argTypes type (c.args.map a.eval)) rfl) (by rw [I];exact Mo hT b7 j hrun V h) hK
   .rename_i xv l;obtain ⟨u,n,rfl⟩:=vg j;obtain ⟨rfl,rfl⟩:=tV hrun;simp only [RL] at E;obtain ⟨y1,l1,Z,V,r2⟩:=E;obtain ⟨z,e2,e3⟩:=qv (P:=P) (w:=w) n V r2;exact fW (he (Builtin.min_ c.argTypes type (c.args.map a.eval)) rfl) (bh.of h (by simp only [Builtin.min_];rw [J,Z];exact e2) e3) hK
   .rename_i xv l;obtain ⟨u,n,rfl⟩:=vg j;obtain ⟨rfl,rfl⟩:=tV hrun;simp only [RL] at E;obtain ⟨y1,l1,Z,V,r2⟩:=E;obtain ⟨z,e2,e3⟩:=qv (P:=P) (w:=w) n V r2;exact fW (he (Builtin.max_ c.argTypes type (c.args.map a.eval)) rfl) (bh.of h (by simp only [Builtin.max_];rw [J,Z];exact e2) e3) hK
   .cases j
  .rename_i f Q;simp only [ag] at j;obtain ⟨fv,n,H⟩:=j;have a1:=aM B hf n;split at H
   .rename_i gid first cap
    simp only [R] at a1;obtain ⟨a',c',a7,b8,b9⟩:=a1;have S:RL g (first++args++cap) (a'.toList++c.args.toList.map a.eval++c'.toList):=fk (fk b8 E) b9;have he:execOp a.eval ⟨dst,.call c,type,pos,after,guard⟩=callFunc gid (a'.toList++c.args.toList.map a.eval++c'.toList).toArray:=by
     simp only [execOp,resolve,Q,a7,Deferred.ofValue,pure_bind,invoke];congr 1;apply Array.ext';simp
    split at H
    .rename_i q hq;exact zG he (a6 gid q hq X.C _ p v fx st A g w _ B H hrun S h) hK
    .simp only [aj] at H;subst H;simp only [aE] at hrun;split at hrun
     .rename_i hb;simp only [ag,aj,aaj] at hrun;obtain ⟨v',O,rfl,rfl⟩:=hrun;simp only [aak] at hb;exact zG he (hC.bare _ _ _ O A g st w _ B hb.1 (pW S) h) hK
     .split at hrun
      .simp only [ag,aj,aaj] at hrun;obtain ⟨v',O,rfl,rfl⟩:=hrun;exact zG he (hC.look _ _ _ _ O A g w _ B (pW S) h) hK
      .simp only [ag,aj] at hrun;obtain ⟨⟨v',s'⟩,O,U⟩:=hrun;simp only [aaj] at U;obtain ⟨rfl,rfl⟩:=U;exact zG he (.inr (hC.wide _ _ _ _ _ O A g w _ B S h)) hK
   .rename_i k;simp only [R] at a1;obtain ⟨l,hl,a7⟩:=a1;simp only [aj] at H;subst H;simp only [aE,ag,aj] at hrun;obtain ⟨⟨v',s'⟩,O,U⟩:=hrun;simp only [aaj] at U;obtain ⟨rfl,rfl⟩:=U;have he:execOp a.eval ⟨dst,.call c,type,pos,after,guard⟩=Instr.yield l (c.args.toList.map a.eval).toArray:=by
     simp only [execOp,resolve,Q,a7,Deferred.ofValue,pure_bind,invoke];congr 1;apply Array.ext';simp
    exact ON he (hC.round _ _ _ _ _ O A g w _ l B E h hl) hK
   .cases H
  .cases j
end
section
variable {P:Program} {T:TT} {A:Nat->Prop} {g:Gh} {st:St} {w:World}
theorem Inv.Bc (h:Inv T A g st w):Inv T A g (st.new .Bc).2 w where
 F:=h.F
 M:=h.M
 E id d:=h.E id (Nat.le_of_succ_le d)
 H id o ho:=by
  rcases St.gK.1 ho with ⟨rfl,rfl⟩ | ⟨_,a⟩
  .exact h.E _ (aal _)
  .exact h.H id o a
 D id id' o1 i b h1 j c f:=by
  rcases St.gK.1 h1 with ⟨rfl,rfl⟩ | ⟨_,e⟩
  .exact c.elim
  .rcases St.gK.1 j with ⟨rfl,rfl⟩ | ⟨_,k⟩
   .exact f.elim
   .exact h.D id id' o1 i b e k c f
 own id o b h1 c l:=by
  rcases St.gK.1 h1 with ⟨rfl,rfl⟩ | ⟨_,e⟩
  .exact c.elim
  .exact h.own id o b e c l
 up:=h.up
theorem Inv.lay: ∀{l:Ln} {st:St},Inv T A g st w->Inv T A g (st.lay l) w
 | [],_,h=>h
 | _::l,st,h=>Inv.lay (l:=l) (st:=(st.new .Bc).2) (Inv.Bc h)
theorem Inv.yj (h:Inv T A g st w) {nm:Nat} (hn:st.get nm= .ok .Bc) (o:Obj) (e:pq) (b:Nat)
  (n: ∀id o',st.get id= .ok o'->¬ At g id o' b) (hA:A b) (i: ∀b',At (g.dB nm e) nm o b'->b'=b)
  (ho:Holds T (g.dB nm e) w nm o):Inv T A (g.dB nm e) (st.put nm o) w:=by
 have c:=(St.ca.1 hn).1;have hE:g.E nm=none:=h.H nm _ hn;refine ⟨h.F,h.M,fun id m=> ?_,fun id o' d=> ?_,fun id id' o1 p b' h1 j f k=> ?_,fun id o' b' h1 f q=> ?_,h.up⟩
 .have l:st.h<=id:=m;rw [Gh.cj _ _ (by omega)];exact h.E id l
 .by_cases hi:id=nm
  .subst hi;rw [St.aN c] at d;cases d;exact ho
  .rw [St.aT (fun e=>hi e.symm)] at d;exact lG (h.H id o' d) (Le.dB hE) (Gh.cj _ _ hi) fun _ _=>⟨fun _=>rfl,rfl⟩
 .by_cases hi:id=nm <;> by_cases a:id'=nm
  .rw [hi,a]
  .subst hi;rw [St.aN c] at h1;cases h1;rw [St.aT (fun e=>a e.symm)] at j;rw [qN (Gh.cj _ _ a)] at k;have:=i b' f;subst this;exact absurd k (n _ _ j)
  .subst a;rw [St.aN c] at j;cases j;rw [St.aT (fun e=>hi e.symm)] at h1;rw [qN (Gh.cj _ _ hi)] at f;have:=i b' k;subst this;exact absurd f (n _ _ h1)
  .rw [St.aT (fun e=>hi e.symm)] at h1;rw [St.aT (fun e=>a e.symm)] at j;rw [qN (Gh.cj _ _ hi)] at f;rw [qN (Gh.cj _ _ a)] at k;exact h.D id id' o1 p b' h1 j f k
 .by_cases hi:id=nm
  .subst hi;rw [St.aN c] at h1;cases h1;rw [i b' f];exact hA
  .rw [St.aT (fun e=>hi e.symm)] at h1;rw [qN (Gh.cj _ _ hi)] at f;exact h.own id o' b' h1 f q
theorem Jx (h:Inv T A g st w) {nm:Nat} (hn:st.get nm= .ok .Bc) {cs:LA} {xs:List Value} (ty:Td) (d:RL g cs xs) (h1: ∀x∈xs,x.oneCell'=true):
  Inv T A (g.dB nm (.cG w.heap.size)) (st.put nm (.cells ty cs)) (w.alloc (.cells xs.toArray ty))/\Kp A g w (g.dB nm (.cG w.heap.size)) (w.alloc (.cells xs.toArray ty))/\
  R (g.dB nm (.cG w.heap.size)) (.mp nm 0) (.pointer (some ⟨w.heap.size,0,none⟩)):=by
 have hE:g.E nm=none:=h.H nm _ hn;have a:Le g (g.dB nm (.cG w.heap.size)):=Le.dB hE;refine ⟨(h.alloc _).yj hn (.cells ty cs) (.cG w.heap.size) w.heap.size (fun id o' b=>h.js (aal _) id o' b) (h.up _ (aal _)) (fun b' c=>by
  have:(g.dB nm (.cG w.heap.size)).E nm=some (.cG b'):=c;rw [Gh.aX] at this;simpa using this.symm) ⟨w.heap.size,xs.toArray, #[],ty,Gh.aX _ _ _,by simpa using World.heap_alloc_new,by simpa using eZ a _ _ d,by simpa using h1,fun o=>h.mZ (aal _) o,fun _=>⟨rfl,rfl⟩⟩,
  (Kp.alloc _ h).trans (Kp.dB hE),by simp only [R];exact ⟨_,Gh.aX _ _ _,rfl⟩⟩
theorem Hx {t:Td} {i:TI} (hi:kP P t i) {nm:Nat} (hn:st.get nm= .ok .Bc) (h:Inv T A g st w) (old:Value):
  bh P T A g w (.mp nm 0) (st.put nm (.cells t i.zero)) (Instr.alloc t true old):=by
 obtain ⟨z,h1,d,e,a,f,b⟩:=hi.rQ;obtain ⟨k1,k2,c⟩:=Jx h hn t (b g) (by simpa using a);refine ⟨_,_,_, ?_,c,k1,k2⟩;simp [Instr.alloc,h1,newVar,lH]
theorem sH {T:TT} {t:Td} {nm:Nat} {v:AV} {b:Fx} (h:VM.yj T t nm st= .ok (v,b)): ∃i,T.get t=some i/\st.get nm= .ok .Bc/\st.ro<=nm/\v= .mp nm 0/\b=⟨[nm],.wrote nm (.cells t i.zero)⟩:=by
 simp only [VM.yj,ag] at h;obtain ⟨i,h1,o,c,a⟩:=h;cases o with
 | Bc=>
  dsimp only at a;split at a
  .rename_i d;simp only [aaf,aaj] at a;exact ⟨i,cH.1 h1,c,aah d,a.1.symm,a.2.symm⟩
  .cases a
 | _=>cases a
theorem FG {T:TT} {t:Td} {i:TI} {nm:Nat} (h1:T.get t=some i) (a:st.get nm= .ok .Bc) (b:st.ro<=nm):VM.yj T t nm st= .ok (.mp nm 0,⟨[nm],.wrote nm (.cells t i.zero)⟩):=by
 refine ag.2 ⟨i,cH.2 h1,ag.2 ⟨.Bc,a, ?_⟩⟩;dsimp only;rw [aaL b]
theorem Bw {e:Nat->Oq Nat} {o:Oper} {t:Td} {nm:Nat} (h:tb e o=some (t,nm)):o.op= .alloc t:=by
 unfold tb at h;split at h
 .cases h
 .split at h
  .cases h
  .split at h
   .rename_i h1;cases h;exact h1
   .cases h
theorem BP (X:Cx) (all:List Oper) (fr:Fr) (st:St) (o:Oper):gC X (fun _=>none) all fr st o=oper X all fr st o:=by
 have h:tb (fun _=>none) o=none:=by
  unfold tb;cases o.dst <;> rfl
 unfold gC oper;rw [h]
theorem NH (X:Cx) (hT:zm P X.T) {o:Oper} {a:Act} {t:Td} {nm:Nat} {v:AV} {b:Fx} {K:Act->World->Prop}
  (ho:o.op= .alloc t) (hp:VM.yj X.T t nm st= .ok (v,b)) (h:Inv X.T A g st w)
  (hK: ∀x w',mP X.T A g (b.did.app st) w v x w'->K (a.put o.dst x) w'):o.M1 P a w K:=by
 obtain ⟨i,h1,c,_,rfl,rfl⟩:=sH hp;obtain ⟨dst,op,type,pos,after,guard⟩:=o;obtain rfl:op= .alloc t:=ho;exact fW (s:=Instr.alloc t true (.tuple #[])) (by simp [execOp]) (Hx (hT t i h1) c h _) hK
end
namespace Tr
variable {α:Type}
theorem set_comm: ∀(i j:Nat) (t:Tr α) (a b:Nat) (x y:α),a≠b->set i (set j t a x) b y=set j (set i t b y) a x
 | 0,_,_,_,_,_,_,_=>rfl
 | _+1,0,_,_,_,_,_,_=>rfl
 | i+1,j+1,t,a,b,x,y,h=>by
  cases d:a.beq 0 with
  | true=>
   have k:=aap d;have c:b.beq 0=false:=by
    cases c:b.beq 0 with
    | false=>rfl
    | true=>exact absurd (k.trans (aap c).symm) h
   cases hm:(b % 2).beq 1 <;> cases t <;> simp [set,d,c,hm]
  | false=>
   have k:a≠0:=by intro e;subst e;simp at d
   cases c:b.beq 0 with
   | true=>cases hm:(a % 2).beq 1 <;> cases t <;> simp [set,d,c,hm]
   | false=>
    have n:b≠0:=by intro e;subst e;simp at c
    cases hp:(a % 2).beq 1 with
    | true=>
     have l:=aap hp;cases f:(b % 2).beq 1 with
     | true=>
      have m:=aap f;have g:a / 2≠b / 2:=by omega
      cases t <;> simp [set,d,c,hp,f,set_comm i j _ _ _ x y g]
     | false=>cases t <;> simp [set,d,c,hp,f]
    | false=>
     have l:a % 2≠1:=by intro e;rw [e] at hp;simp at hp
     cases f:(b % 2).beq 1 with
     | true=>cases t <;> simp [set,d,c,hp,f]
     | false=>
      have m:b % 2≠1:=by intro e;rw [e] at f;simp at f
      have g:a / 2 - 1≠b / 2 - 1:=by omega
      cases t <;> simp [set,d,c,hp,f,set_comm i j _ _ _ x y g]
theorem put_comm (t:Tr α) (a b:Nat) (x y:α) (h:a≠b):(t.put a x).put b y=(t.put b y).put a x:=set_comm _ _ _ _ _ _ _ h
end Tr
section
variable {P:Program} {A:Nat->Prop} {g:Gh} {st:St} {w:World}
theorem L4 {ops:Array Oper} {fr:Fr} {a:Act} (o:Oper) (hf:zo g fr a.tmps) (e:o.guard=none\/fr.strict=false):wanted ops.toList fr o.guard=Region.wanted o (yielded ops a.tmps):=by
 unfold wanted Region.wanted;cases f:o.guard with
 | none=>rfl
 | some p=>
  have hs:fr.strict=false:=by
   rcases e with e | e
   .rw [f] at e;cases e
   .exact e
  obtain ⟨j,want⟩:=p;simp only [yielded,abg];cases k:(ops[j]?).bind (·.dst) with
  | none=>cases want <;> rfl
  | some d=>
   simp only [Option.bind_some];have c:=hf.at hs d;cases h:fr.get d with
   | bool b=>
    rw [h] at c;simp only [R] at c;have:a.tmps[d]? =some (.bool b):=by
     simp only [Array.getD_eq_getD_getElem?] at c;cases hx:a.tmps[d]? with
     | none=>rw [hx] at c;simp [Go.undef] at c
     | some x=>rw [hx] at c;simpa using c
    rw [this];cases b <;> cases want <;> rfl
   | _=>
    have: ∀b,a.tmps[d]? ≠some (.bool b):=fun b i=>by
     rw [h] at c;simp only [Array.getD_eq_getD_getElem?,i,Option.getD_some,R] at c
     first
      | (rcases c with ⟨_,c | ⟨_,_,c⟩⟩ | ⟨_,_,c⟩ <;> cases c;done)
      | (cases c;done)
      | (rcases c with ⟨_,c⟩;injection c;done)
      | (rcases c with ⟨_,⟨⟩⟩;done)
      | (obtain ⟨_,_,_,c,_⟩:=c;cases c;done)
      | (obtain ⟨_,_,c⟩:=c;cases c;done)
      | (obtain ⟨_,_,_,_,c,_⟩:=c;cases c;done)
      | (obtain ⟨_,_,c,_⟩:=c;cases c;done)
      | (obtain ⟨_,c,_⟩:=c;cases c;done)
      | (obtain ⟨_,_,_,_,_,c,_⟩:=c;cases c;done)
      | (obtain ⟨_,_,_,_,_,c⟩:=c;cases c;done)
    cases hx:a.tmps[d]? with
    | none=>cases want <;> rfl
    | some x=>cases x <;> first | (cases want <;> rfl) | exact absurd hx (this _)
theorem zS {fr:Fr} {a:Act} (hf:zo g fr a.tmps) {v:AV} {x:Value} (hx:R g v x) (d:Oq Tmp):zo g (fr.put d v) (a.put d x).tmps:=by
 cases d with
 | none=>exact hf
 | some d=>exact hf.put hx (some d)
theorem put_defers (a:Act) (d:Oq Tmp) (x:Value):(a.put d x).defers=a.defers:=by cases d <;> rfl
structure Good (P:Program) (X:Cx):Prop where
 T:zm P X.T
 C:BF P X.T X.G X.C
 prim:ER P X.T X.G X.prim
def mark (D:Nat):Deferred:={target:= .collected D,args:= #[]}
def Marks (A:Nat->Prop) (ds:List Deferred) (w:World):Prop:= ∃a:Ln,ds=a.map mark/\a.Nodup/\ ∀D∈a,¬ A D/\w.heap[D]? =some (.deferred (some []))
theorem Marks.BI {A:Nat->Prop} {ds:List Deferred} {g g':Gh} {w w':World} (h:Marks A ds w) (k:Kp A g w g' w'):Marks A ds w':=by
 obtain ⟨c,h1,d,a⟩:=h;exact ⟨c,h1,d,fun D b=>⟨(a D b).1,by rw [k.heap D (a D b).1];exact (a D b).2⟩⟩
theorem jg (fr:Fr) (d:Oq Tmp) (v:AV):(fr.put d v).strict=fr.strict:=by
 cases d with
 | none=>rfl
 | some d=>simp only [Fr.put];split <;> rfl
structure Rel (X:Cx) (A:Nat->Prop) (ro:Oq Nat) (g:Gh) (fr:Fr) (st:St) (a:Act) (w:World):Prop where
 mode:fr.strict=ro.isSome
 fr:zo g fr a.tmps
 inv:Inv X.T A g st w
 G:GR g X.G
 marks:Marks A a.defers w
theorem CX: ∀{l:List Oper} {o:Oper},jF l=true->o∈l->o.guard=none
 | [],_,_,h=>by cases h
 | a::l,o,h,hm=>by
  unfold jF at h;cases b:a.guard with
  | some x=>rw [b] at h;cases h
  | none=>
   rw [b] at h;rcases aao.1 hm with rfl | hm
   .exact b
   .exact CX h hm
theorem HW {T:TT} {prim:FuncId->Oq Prim} {imm:Td->Bool} {G:Nat->Oq LA} {fr:Fr} {o:Op} {p:dY} (h:fF T prim imm G fr o= .ok p): ∀c,o≠ .defer c:=by
 rintro c rfl;cases h
theorem Be {X:Cx} {e:Nat->Oq Nat} {ro:Oq Nat} (j:Good P X) {ops:Array Oper} (k:ro.isSome=true->jF ops.toList=true) {i:Nat} {o:Oper} (ho:ops[i]? =some o) {fr:Fr} {a:Act} {v:AV} {q:Fx} {K:Act->World->Prop} {Q:Exit->Act->World->Prop}
  (h:gC X e ops.toList fr st o= .ok (v,q)) (b:Rel X A ro g fr st a w)
  (hK: ∀a' g' w',Rel X A ro g' (fr.put o.dst v) (q.did.app st) a' w'->a'.defers=a.defers->Kp A g w g' w'->K a' w'):wpOpIn (fe ro) 0 P ops Q i K a w:=by
 have u:o.guard=none\/fr.strict=false:=by
  cases f:ro.isSome with
  | false=>exact .inr (by rw [b.mode,f])
  | true=>exact .inl (CX (k f) (aaK (l:=ops.toList) (i:=i) (by simpa using ho)))
 unfold gC at h;unfold wpOpIn;simp only [ho];rw [<- L4 o b.fr u];split at h
 .rename_i m;rw [m,if_pos rfl];split at h
  .rename_i t nm r;refine PK (NH X j.T (Bw r) h b.inv fun x w' hp=> ?_) (fun c s=>by rw [Bw r] at s;cases s);obtain ⟨g',p1,n,d⟩:=hp;exact hK _ g' w' ⟨by rw [jg];exact b.mode,zS (b.fr.mono d.le) p1 _,n,b.G.mono d.le,by rw [put_defers];exact b.marks.BI d⟩ (put_defers _ _ _) d
  .simp only [ag] at h;obtain ⟨p,h1,y⟩:=h;refine PK (IA X j.T j.C j.prim h1 y b.G b.fr b.inv fun x w' hp=> ?_) (HW h1);obtain ⟨g',p1,n,d⟩:=hp;exact hK _ g' w' ⟨by rw [jg];exact b.mode,zS (b.fr.mono d.le) p1 _,n,b.G.mono d.le,by rw [put_defers];exact b.marks.BI d⟩ (put_defers _ _ _) d
 .rename_i m;rw [m,if_neg (by simp)];simp only [aaf,aaj] at h;obtain ⟨rfl,rfl⟩:=h;exact ⟨fun _ _=>trivial,hK _ g w ⟨by rw [jg];exact b.mode,zS b.fr Fp _,b.inv,b.G,by rw [put_defers];exact b.marks⟩ (put_defers _ _ _) (Kp.refl _ _ _)⟩
inductive Ar (X:Cx) (e:Nat->Oq Nat) (all:List Oper):List (Nat×AV×Fx)->Fr->St->Fr->St->Prop
 | nil {fr:Fr} {st:St}:Ar X e all [] fr st fr st
 | cons {j:Nat} {v:AV} {x:Fx} {o:Oper} {l:List (Nat×AV×Fx)} {fr fr':Fr} {st st':St} (ho:all[j]? =some o) (h:gC X e all fr st o= .ok (v,x))
  (t:Ar X e all l (fr.put o.dst v) (x.did.app st) fr' st'):Ar X e all ((j,v,x)::l) fr st fr' st'
theorem uh {X:Cx} {e:Nat->Oq Nat} {ro:Oq Nat} (r:Good P X) {ops:Array Oper} (b:ro.isSome=true->jF ops.toList=true) {Q:Exit->Act->World->Prop}: ∀{l:List (Nat×AV×Fx)} {fr fr':Fr} {st st':St},Ar X e ops.toList l fr st fr' st'->
  ∀{g:Gh} {a:Act} {w:World},Rel X A ro g fr st a w->(∀a' g' w',Rel X A ro g' fr' st' a' w'->a'.defers=a.defers->Kp A g w g' w'->Q .normal a' w')->wpOpsIn (fe ro) 0 P ops Q (l.map (·.1)) a w
 | _,_,_,_,_,.nil,g,a,w,d,f=>f a g w d rfl (Kp.refl _ _ _)
 | _,_,_,_,_,.cons (j:=j) (o:=o) ho h t,g,a,w,d,f=>by
  simp only [aan];rw [wpOpsIn_cons];exact Be r b (by simpa using ho) h d fun a' g' w' i s u=>uh r b t i fun k m n c p q=>f k m n c (p.trans s) (u.trans q)
end
end Go.VM
namespace Go.VM
theorem GQ {G:Nat->Oq LA} {fr a:Fr} {x:Operand} (hs:fr.strict=a.strict) (h: ∀t,x= .tmp t->fr.t.get t=a.t.get t):cq G fr x=cq G a x:=by
 cases x with
 | tmp t=>simp only [cq,Fr.get,hs,h t rfl]
 | _=>rfl
theorem oB {G:Nat->Oq LA} {fr a:Fr}: ∀{xs:List Operand},(∀x∈xs,cq G fr x=cq G a x)->oR G fr xs=oR G a xs
 | [],_=>rfl
 | x::xs,h=>by simp only [oR,h x (by simp),oB (xs:=xs) fun y hy=>h y (by simp [hy])]
theorem pg {G:Nat->Oq LA} {fr a:Fr} {x:Oq Operand} (h: ∀y,x=some y->cq G fr y=cq G a y):eQ G fr x=eQ G a x:=by
 cases x with
 | none=>rfl
 | some y=>simp only [eQ,h y rfl]
theorem mT {G:Nat->Oq LA} {fr a:Fr}: ∀{xs:List (Nat×Operand)},(∀x∈xs,cq G fr x.2=cq G a x.2)->gS G fr xs=gS G a xs
 | [],_=>rfl
 | (i,x)::xs,h=>by simp only [gS,h (i,x) (by simp),mT (xs:=xs) fun y hy=>h y (by simp [hy])]
theorem ID {T:TT} {prim:FuncId->Oq Prim} {imm:Td->Bool} {G:Nat->Oq LA} {fr e:Fr} {op:Op} (h: ∀x∈op.operands,cq G fr x=cq G e x):
  fF T prim imm G fr op=fF T prim imm G e op:=by
 cases op <;> simp only [fF] <;> simp only [Op.operands] at h
 case move x=>rw [h x (by simp)]
 case assign x=>rw [h x (by simp)]
 case pick c x y=>rw [h c (by simp),h x (by simp),h y (by simp)]
 case box t x=>rw [h x (by simp)]
 case build t ps=>rw [mT fun x hx=>h x.2 (by simp only [List.mem_toArray,aa8];exact ⟨x,hx,rfl⟩)]
 case buildSlice t n ps=>rw [mT fun x hx=>h x.2 (by simp only [List.mem_toArray,aa8];exact ⟨x,hx,rfl⟩)]
 case makeSlice t x y=>rw [h x (by simp),h y (by simp)]
 case load t x=>rw [h x (by simp)]
 case store t x y=>rw [h x (by simp),h y (by simp)]
 case nilCheck x=>rw [h x (by simp)]
 case binOp op t x y _=>rw [h x (by simp),h y (by simp)]
 case unOp op t x=>rw [h x (by simp)]
 case convert s d x=>rw [h x (by simp)]
 case makeInterface t x=>rw [h x (by simp)]
 case makeFunc f a b=>
  rw [oB fun x hx=>h x (by simp only [Array.mem_append];exact .inl (by simpa using hx)),oB (xs:=b.toList) fun x hx=>h x (by simp only [Array.mem_append];exact .inr (by simpa using hx))]
 case slice t x lo hi mx=>
  have hx:=h x (by simp);have hl:eQ G fr lo=eQ G e lo:=pg fun y hy=>h y (by subst hy;simp);have g:eQ G fr hi=eQ G e hi:=pg fun y hy=>h y (by subst hy;simp);have hm:eQ G fr mx=eQ G e mx:=pg fun y hy=>h y (by subst hy;simp);rw [hx,hl,g,hm]
 case fieldAddr t x f=>rw [h x (by simp)]
 case field t x f=>rw [h x (by simp)]
 case indexAddr t x y=>rw [h x (by simp),h y (by simp)]
 case index t x y=>rw [h x (by simp),h y (by simp)]
 case lookup t x y ok=>rw [h x (by simp),h y (by simp)]
 case mapUpdate t m k v=>rw [h m (by simp),h k (by simp),h v (by simp)]
 case insert t m k v=>rw [h m (by simp),h k (by simp),h v (by simp)]
 case range t x=>rw [h x (by simp)]
 case next x b=>
  cases b with
  | true=>show (do Dj (<- cq G fr x))=(do Dj (<- cq G e x));rw [h x (by simp)]
  | false=>rfl
 case extract x i=>rw [h x (by simp)]
 case makeMap t r=>cases r <;> rfl
 case call c=>
  have j:oR G fr c.args.toList=oR G e c.args.toList:=oB fun x hx=>h x (by simp only [Call.operands,Array.mem_append];exact .inr (by simpa using hx));rw [j];cases l:c.callee with
  | value f=>simp only [h f (by simp [Call.operands,l])]
  | builtin b=>rfl
  | invoke r m=>rfl
theorem Fr.aT {fr:Fr} {d:Oq Tmp} {v:AV} {t:Nat} (h:d≠some t):(fr.put d v).t.get t=fr.t.get t:=by
 cases d with
 | none=>rfl
 | some d=>
  simp only [Fr.put];split
  .have:d≠t:=fun e=>h (by rw [e]);simp [Tr.lY,this]
  .rfl
theorem Fr.put_comm {fr:Fr} {d e:Oq Tmp} {v u:AV} (h: ∀t,d=some t->e≠some t):(fr.put d v).put e u=(fr.put e u).put d v:=by
 cases d with
 | none=>rfl
 | some d=>
  cases e with
  | none=>rfl
  | some e=>
   have a:d≠e:=fun k=>h d rfl (by rw [k]);simp only [Fr.put];cases b:d.blt fr.n <;> cases e.blt fr.n <;> simp [b,Tr.put_comm _ _ _ _ _ a]
theorem B5 {X:Cx} {e:Nat->Oq Nat} {ops:Array Oper} {fr a:Fr} {st:St} {o:Oper} (hs:fr.strict=a.strict) (h: ∀t∈o.looksAt ops,fr.t.get t=a.t.get t):gC X e ops.toList fr st o=gC X e ops.toList a st o:=by
 have b:wanted ops.toList fr o.guard=wanted ops.toList a o.guard:=by
  unfold wanted;cases c:o.guard with
  | none=>rfl
  | some p=>
   obtain ⟨j,want⟩:=p;simp only [abg];cases f:(ops[j]?).bind (·.dst) with
   | none=>rfl
   | some d=>
    simp only [Fr.get];rw [h d (by simp [Oper.looksAt,c,f])]
 unfold gC;rw [b,ID fun x hx=>GQ hs fun t g=>h t (by
  subst g;simp only [Oper.looksAt,aaC,List.mem_filterMap];exact .inl ⟨.tmp t,by simpa using hx,rfl⟩)]
theorem St.Rx {st:St} {i j:Nat} {a b:Obj} (h:i≠j):(st.put i a).put j b=(st.put j b).put i a:=by
 simp only [St.put,Tr.put_comm _ _ _ _ _ h]
theorem St.KA {st:St} {i:Nat} {a b:Obj} (h:i≠st.h):((st.put i a).new b).2=((st.new b).2).put i a:=by
 simp only [St.put,St.new,Tr.put_comm _ _ _ _ _ h]
theorem St.qW {st:St} {o:Obj} {r:Nat} (h:r≠st.h):(st.new o).2.get r=st.get r:=by
 simp only [St.get,St.new];cases h1:r.blt (st.h+1) <;> cases a:r.blt st.h <;> simp only [Tr.lY]
 .rw [da] at h1;rw [cZ] at a;omega
 .rw [cZ] at h1;rw [da] at a;omega
 .rw [if_neg (fun e=>h e.symm)]
theorem Bj: ∀{a b:LB},oF a b=true->a=b
 | [],[],_=>rfl
 | a::l,b::m,h=>by
  unfold oF at h;split at h
  .rename_i e;rw [abt.1 (aap e),Bj h]
  .cases h
 | [],_:: _,h=>by simp [oF] at h
 | _:: _,[],h=>by simp [oF] at h
theorem lQ {g:AV->AV->Bool} (c: ∀a b,g a b=true->a=b): ∀{a b:LA},fK g a b=true->a=b
 | [],[],_=>rfl
 | a::l,b::m,h=>by
  unfold fK at h;split at h
  .rename_i e;rw [c _ _ e,lQ c h]
  .cases h
 | [],_:: _,h=>by simp [fK] at h
 | _:: _,[],h=>by simp [fK] at h
theorem nG: ∀(f:Nat) (a b:AV),iC f a b=true->a=b
 | 0,_,_,h=>by simp [iC] at h
 | f+1,a,b,h=>by
  have ih:=fun {l m:LA} (h:fK (iC f) l m=true)=>lQ (nG f) h;unfold iC at h;split at h
  .rw [eq_of_beq h]
  .simp only [aak,aaZ] at h;rw [h.1,h.2]
  .rw [Bj h]
  .rfl
  .rfl
  .rfl
  .rfl
  .rfl
  .rfl
  .rw [ih h]
  .simp only [aak,Nat.beq_eq] at h;rw [h.1,h.2]
  .rw [aap h]
  .simp only [aak,Nat.beq_eq] at h;rw [h.1.1,h.1.2,h.2]
  .simp only [aak,Nat.beq_eq] at h;rw [h.1.1,h.1.2,h.2]
  .simp only [aak,Nat.beq_eq] at h;obtain ⟨⟨⟨⟨rfl,rfl⟩,rfl⟩,rfl⟩,rfl⟩:=h;rfl
  .simp only [aak,Nat.beq_eq,aaZ] at h;rw [h.1.1,h.1.2,ih h.2]
  .simp only [aak,Nat.beq_eq] at h;rw [h.1,nG f _ _ h.2]
  .rw [ih h]
  .rw [ih h]
  .cases h
theorem Ii {a b:Obj} (h:Ey a b=true):a=b:=by
 unfold Ey at h;split at h
 .simp only [aak,Nat.beq_eq] at h;rw [h.1,lQ (nG _) h.2]
 .simp only [aak,Nat.beq_eq] at h;rw [h.1,h.2]
 .simp only [aak,Nat.beq_eq] at h;rw [h.1.1.1,h.1.1.2,h.1.2,lQ (nG _) h.2]
 .simp only [aak,Nat.beq_eq] at h;rw [h.1.1.1,h.1.1.2,h.1.2,lQ (nG _) h.2]
 .cases h
theorem Di {s t:St} {i:Nat} (h:sameAt s t i=true):t.get i=s.get i:=by
 unfold sameAt at h;split at h
 .rename_i a b h1 c;rw [h1,c,Ii h]
 .cases h
def lj (x:Fx) (st a:St):Prop:=
 match x.did with
 | .kept=> ∀r∈x.reads,a.get r=st.get r
 | .wrote _ _=>a.ro=st.ro/\ ∀r∈x.reads,a.get r=st.get r
 | .made _ _=>a.h=st.h
 | .looked=>a=st
 | .all _ _=>a=st
theorem DH {X:Cx} {e:Nat->Oq Nat} {all:List Oper} {fr:Fr} {st c:St} {o:Oper} {v:AV} {x:Fx} (h:gC X e all fr st o= .ok (v,x)) (hs:lj x st c):gC X e all fr c o= .ok (v,x):=by
 unfold gC at h ⊢;split at h
 .split at h
  .rename_i t nm z;obtain ⟨i,h1,a,b,rfl,rfl⟩:=sH h;obtain ⟨q,s⟩:=hs;exact FG h1 (by rw [s nm (by simp)];exact a) (by rw [q];exact b)
  simp only [ag] at h ⊢;obtain ⟨p,h1,a⟩:=h;refine ⟨p,h1, ?_⟩;cases p with
  | val u=>exact a
  | obj id f=>
   simp only [aE,ag,aj] at a ⊢;obtain ⟨n,b,⟨v',o'⟩,g,d,l,y⟩:=a;simp only [aaj] at y;obtain ⟨rfl,rfl⟩:=y;cases o' with
   | none=>
    simp only [fh,aaf] at l;subst l;refine ⟨n,by rw [hs id (by simp)];exact b,⟨v',none⟩,g,.kept,rfl,rfl⟩
   | some m=>
    simp only [fh] at l;split at l
    .cases l
    .rename_i w;simp only [aaf] at l;subst l;obtain ⟨q,s⟩:=hs;refine ⟨n,by rw [s id (by simp)];exact b,⟨v',some m⟩,g,.wrote id m, ?_,rfl⟩;simp only [fh,q,w]
  | both id k f=>
   have:x.did= .looked:=by
    simp only [aE,ag] at a;obtain ⟨n,_,r,_,b⟩:=a;cases r with
    | none=>
     simp only [ag,aj,aaj] at b;obtain ⟨_,_,_,rfl⟩:=b;rfl
    | some j=>
     dsimp only at b;split at b
     .simp only [ag,aj,aaj] at b;obtain ⟨_,_,_,_,_,rfl⟩:=b;rfl
     .cases b
   rw [lj,this] at hs;have hs:c=st:=hs;rw [hs];exact a
  | new n f=>
   simp only [aE,aaf,aaj] at a ⊢;obtain ⟨rfl,rfl⟩:=a;have:c.h=st.h:=hs;rw [this];simp
  | call f args=>
   simp only [aE] at a ⊢;split at a
   .exact a
   .split at a
    .simp only [ag,aj,aaj] at a;obtain ⟨v',b,rfl,rfl⟩:=a;have:c=st:=hs;rw [this];simp only [ag,aj];exact ⟨v',b,rfl⟩
    .simp only [ag,aj] at a;obtain ⟨⟨v',s'⟩,b,g⟩:=a;simp only [aaj] at g;obtain ⟨rfl,rfl⟩:=g;have:c=st:=hs;rw [this];simp only [ag,aj];exact ⟨(v',s'),b,rfl⟩
  | yield k args=>
   simp only [aE,ag,aj] at a ⊢;obtain ⟨⟨v',s'⟩,b,g⟩:=a;simp only [aaj] at g;obtain ⟨rfl,rfl⟩:=g;have:c=st:=hs;rw [this];exact ⟨(v',s'),b,rfl⟩
 .exact h
theorem Fy {X:Cx} {e:Nat->Oq Nat} {all:List Oper} {fr:Fr} {st g n:St} {o:Oper} {v:AV} {rs:Ln} (h:gC X e all fr st o= .ok (v,⟨rs,.all g n⟩)):g=st:=by
 unfold gC at h;split at h
 .split at h
  .obtain ⟨i,h1,b,a,q,c⟩:=sH h;simp at c
  simp only [ag] at h;obtain ⟨p,h1,b⟩:=h;cases p with
  | val u=>simp [aE] at b
  | obj id f=>
   simp only [aE,ag,aj] at b;obtain ⟨l,a,⟨v',o'⟩,q,d,c,m⟩:=b;simp only [aaj,Fx.mk.injEq] at m;obtain ⟨_,_,rfl⟩:=m;cases o' with
   | none=>simp [fh] at c
   | some _=>simp only [fh] at c;split at c <;> simp at c
  | both id k f=>
   simp only [aE,ag] at b;obtain ⟨l,_,r,_,a⟩:=b;cases r with
   | none=>
    simp only [ag,aj,aaj] at a;obtain ⟨_,_,_,a⟩:=a;simp at a
   | some j=>
    dsimp only at a;split at a
    .simp only [ag,aj,aaj] at a;obtain ⟨_,_,_,_,_,a⟩:=a;simp at a
    .cases a
  | new l f=>
   simp only [aE,aaf,aaj,Fx.mk.injEq] at b;have:=b.2.2;simp at this
  | call f args=>
   simp only [aE] at b;split at b
   .simp only [ag,aj] at b;obtain ⟨_,_,a⟩:=b;simp at a
   .split at b
    .simp only [ag,aj] at b;obtain ⟨_,_,a⟩:=b;simp at a
    .simp only [ag,aj] at b;obtain ⟨_,_,a⟩:=b;simp only [aaj,Fx.mk.injEq,eS.all.injEq] at a;exact a.2.2.1.symm
  | yield k args=>
   simp only [aE,ag,aj] at b;obtain ⟨_,_,a⟩:=b;simp only [aaj,Fx.mk.injEq,eS.all.injEq] at a;exact a.2.2.1.symm
 .simp at h
theorem ye {X:Cx} {e:Nat->Oq Nat} {all:List Oper} {fr:Fr} {st:St} {o:Oper} {v:AV} {rs:Ln} {n:Nat} {g:Obj} (h:gC X e all fr st o= .ok (v,⟨rs,.made n g⟩)):n=st.h/\rs=[]:=by
 unfold gC at h;split at h
 .split at h
  .obtain ⟨i,h1,b,a,m,c⟩:=sH h;simp at c
  simp only [ag] at h;obtain ⟨p,h1,b⟩:=h;cases p with
  | val u=>simp [aE] at b
  | obj id f=>
   simp only [aE,ag,aj] at b;obtain ⟨g,a,⟨v',o'⟩,m,d,c,l⟩:=b;simp only [aaj,Fx.mk.injEq] at l;obtain ⟨_,_,rfl⟩:=l;cases o' with
   | none=>simp [fh] at c
   | some _=>simp only [fh] at c;split at c <;> simp at c
  | both id k f=>
   simp only [aE,ag] at b;obtain ⟨g,_,r,_,a⟩:=b;cases r with
   | none=>
    simp only [ag,aj,aaj] at a;obtain ⟨_,_,_,a⟩:=a;simp at a
   | some j=>
    dsimp only at a;split at a
    .simp only [ag,aj,aaj] at a;obtain ⟨_,_,_,_,_,a⟩:=a;simp at a
    .cases a
  | new g f=>
   simp only [aE,aaf,aaj,Fx.mk.injEq,eS.made.injEq] at b;exact ⟨b.2.2.1.symm,b.2.1.symm⟩
  | call f args=>
   simp only [aE] at b;split at b
   .simp only [ag,aj] at b;obtain ⟨_,_,a⟩:=b;simp at a
   .split at b <;> simp only [ag,aj] at b <;> obtain ⟨_,_,a⟩:=b <;> simp at a
  | yield k args=>
   simp only [aE,ag,aj] at b;obtain ⟨_,_,a⟩:=b;simp at a
 .simp at h
theorem ik {l:Ln} {i:Nat} (h:l.contains i=false): ∀r∈l,i≠r:=fun r a e=>by
 subst e;have:l.contains i=true:=by simpa using a
 rw [this] at h;cases h
theorem I0 {X:Cx} {e:Nat->Oq Nat} {all:List Oper} {q t:Fr} {st:St} {o1 x:Oper} {v1 y:AV} {d f:Fx} (h1:gC X e all q st o1= .ok (v1,d)) (u:gC X e all t (d.did.app st) x= .ok (y,f))
  (a:quiet d=true\/quiet f=true\/apart d f=true):
  lj f (d.did.app st) st/\lj d st (f.did.app st)/\d.did.app (f.did.app st)=f.did.app (d.did.app st):=by
 obtain ⟨w,d1⟩:=d;obtain ⟨r2,d2⟩:=f;have v:(d1= .kept/\w=[])\/(d2= .kept/\r2=[])\/apart ⟨w,d1⟩ ⟨r2,d2⟩=true:=by
  rcases a with a | a | a
  .left;cases d1 <;> simp [quiet] at a;exact ⟨rfl,a⟩
  .right;left;cases d2 <;> simp [quiet] at a;exact ⟨rfl,a⟩
  .exact .inr (.inr a)
 rcases v with ⟨rfl,rfl⟩ | ⟨rfl,rfl⟩ | a
 .refine ⟨?_,by simp [lj],rfl⟩;cases d2 <;> simp [lj,eS.app]
 .refine ⟨by simp [lj], ?_,rfl⟩;cases d1 <;> simp [lj,eS.app]
 .cases d1 with
  | kept=>
   cases d2 with
   | kept=>exact ⟨by simp [lj,eS.app],by simp [lj,eS.app],rfl⟩
   | looked=>exact ⟨by simp [lj,eS.app],by simp [lj,eS.app],rfl⟩
   | wrote i o=>
    simp only [apart,Bool.not_eq_true'] at a;refine ⟨by simp [lj,eS.app], ?_,rfl⟩;simp only [lj,eS.app];exact fun r b=>St.aT (ik a r b)
   | made i o=>
    simp only [apart,Bool.not_eq_true'] at a;obtain ⟨hi,_⟩:=ye u;refine ⟨by simp [lj,eS.app], ?_,rfl⟩;simp only [lj,eS.app];intro r b;exact St.qW fun e=>ik a r b (by rw [hi,e];rfl)
   | all g s=>
    simp only [apart,aa7] at a;obtain rfl:g=st:=Fy u;refine ⟨by simp [lj,eS.app], ?_,rfl⟩;simp only [lj,eS.app];exact fun r b=>Di (a r b)
  | wrote i o=>
   cases d2 with
   | kept=>
    simp only [apart,Bool.not_eq_true'] at a;refine ⟨?_,by simp [lj,eS.app],rfl⟩;simp only [lj,eS.app];exact fun r b=>(St.aT (ik a r b)).symm
   | looked=>simp [apart,eS.xU] at a
   | wrote j p=>
    simp only [apart,aak,Bool.not_eq_true'] at a;obtain ⟨⟨k,l⟩,m⟩:=a;have c:i≠j:=fun e=>by subst e;simp at k
    refine ⟨⟨rfl,fun r b=>(St.aT (ik l r b)).symm⟩,⟨rfl,fun r b=>St.aT (ik m r b)⟩, ?_⟩;simp only [eS.app];exact St.Rx fun e=>c e.symm
   | made j p=>
    simp only [apart,aak,Bool.not_eq_true'] at a;obtain ⟨⟨k,l⟩,m⟩:=a;have c:i≠j:=fun e=>by subst e;simp at k
    obtain ⟨n,_⟩:=ye u;have n:j=st.h:=n;refine ⟨rfl,⟨rfl,fun r b=>St.qW fun e=>ik m r b (by rw [n,e])⟩, ?_⟩;simp only [eS.app];exact (St.KA (by rw [<- n];exact c)).symm
   | all g s=>simp [apart] at a
  | made i o=>
   obtain ⟨hi,z⟩:=ye h1;cases d2 with
   | kept=>
    simp only [apart,Bool.not_eq_true'] at a;refine ⟨?_,by simp [lj,eS.app],rfl⟩;simp only [lj,eS.app];exact fun r b=>(St.qW fun e=>ik a r b (by rw [hi,e])).symm
   | looked=>simp [apart,eS.xU] at a
   | wrote j p=>
    simp only [apart,aak,Bool.not_eq_true'] at a;obtain ⟨⟨k,l⟩,m⟩:=a;have c:i≠j:=fun e=>by subst e;simp at k
    refine ⟨⟨rfl,fun r b=>(St.qW fun e=>ik l r b (by rw [hi,e])).symm⟩,rfl, ?_⟩;simp only [eS.app];exact St.KA fun e=>c (by rw [hi,e])
   | made j p=>simp [apart] at a
   | all g s=>simp [apart] at a
  | looked=>
   cases d2 with
   | kept=>exact ⟨by simp [lj,eS.app],by simp [lj,eS.app],rfl⟩
   | looked=>exact ⟨by simp [lj,eS.app],by simp [lj,eS.app],rfl⟩
   | wrote j p=>simp [apart,eS.xU] at a
   | made j p=>simp [apart,eS.xU] at a
   | all g s=>simp [apart] at a
  | all g s=>
   cases d2 with
   | kept=>
    simp only [apart,aa7] at a;obtain rfl:g=st:=Fy h1;refine ⟨?_,by simp [lj,eS.app],rfl⟩;simp only [lj,eS.app];exact fun r b=>(Di (a r b)).symm
   | _=>simp [apart] at a
def UJ (ops:Array Oper) (p q:Nat×AV×Fx):Prop:=
 (quiet p.2.2=true\/quiet q.2.2=true\/apart p.2.2 q.2.2=true)/\ ∀o1 a,ops[p.1]? =some o1->ops[q.1]? =some a->o1.apart ops a=true
theorem Lg {X:Cx} {e:Nat->Oq Nat} {ops:Array Oper} {p q:Nat×AV×Fx} {l:List (Nat×AV×Fx)} {fr fr':Fr} {st st':St} (h:Ar X e ops.toList (p::q::l) fr st fr' st') (a:UJ ops p q):Ar X e ops.toList (q::p::l) fr st fr' st':=by
 obtain ⟨i,v1,r⟩:=p;obtain ⟨j,m,n⟩:=q;cases h with
 | cons b h1 t=>
  cases t with
  | cons c o t=>
   rename_i o1 d;obtain ⟨s,u⟩:=a;have f:=u o1 d (by simpa using b) (by simpa using c);obtain ⟨v,w,x⟩:=Oper.apart_spec f;obtain ⟨y,z,A⟩:=I0 h1 o s;have g:gC X e ops.toList fr st d= .ok (m,n):=by
    have:=DH o y;rw [<- this];exact B5 (jg _ _ _).symm fun t a=>(Fr.aT fun e=>v t e a).symm
   have k:gC X e ops.toList (fr.put d.dst m) (n.did.app st) o1= .ok (v1,r):=by
    have:=DH h1 z;rw [<- this];exact B5 (jg _ _ _) fun t a=>Fr.aT fun e=>x t e a
   refine .cons c g (.cons b k ?_);rw [A,Fr.put_comm (fun t B C=>w t C B)];exact t
theorem B2 {X:Cx} {e:Nat->Oq Nat} {ops:Array Oper} {q:Nat×AV×Fx} {l2:List (Nat×AV×Fx)} {fr':Fr} {st':St}: ∀{l1:List (Nat×AV×Fx)} {fr:Fr} {st:St},Ar X e ops.toList (l1++q::l2) fr st fr' st'->(∀p∈l1,UJ ops p q)->Ar X e ops.toList (q::(l1++l2)) fr st fr' st'
 | [],_,_,h,_=>h
 | p::l1,fr,st,h,a=>by
  cases h with
  | cons ho h t=>
   have ih:=B2 t fun p hp=>a p (by simp [hp]);exact Lg (.cons ho h ih) (a _ (by simp))
theorem Cu {ops:Array Oper} (h:ml ops.toList=true) {j:Nat} {o:Oper} {e:Edge} (ho:ops[j]? =some o) (he:e∈o.after) (a:Region.binds .any e=true):e.on < j:=by
 simp only [ml,aak,aa7] at h;have:=h.1 (o,j) (by
  rw [List.mem_zipIdx_iff_getElem?];simpa using ho)
 simp only at this;have:=this e (by simpa using he);rw [a] at this;simpa [cZ] using this
theorem Cn {ops:Array Oper} (h:ml ops.toList=true) {i j:Nat} {o o':Oper} (a:i < j) (ho:ops[j]? =some o) (b:ops[i]? =some o'):o'.apart ops o=true\/behind ops.toList (j+1) j i=true:=by
 simp only [ml,aak,aa7] at h;have:=h.2 (o,j) (by
  rw [List.mem_zipIdx_iff_getElem?];simpa using ho)
 simp only at this;have:=this (o',i) (by
  rw [List.mem_iff_getElem?];refine ⟨i, ?_⟩;rw [List.getElem?_take,if_pos a,List.getElem?_zipIdx];simp [b])
 simpa using this
def Cm (ops:List Oper) (p q:Nat×AV×Fx):Prop:=quiet p.2.2=true\/quiet q.2.2=true\/apart p.2.2 q.2.2=true\/behind ops (q.1+1) q.1 p.1=true
theorem qP {ops:List Oper} {j:Nat} {x:Fx}: ∀{seen:List (Nat×Fx)},rp ops j x seen=true-> ∀p∈seen,apart p.2 x=true\/behind ops (j+1) j p.1=true
 | [],_,p,hp=>by cases hp
 | (i,y)::l,h,p,hp=>by
  simp only [rp,aak,aa0] at h;rcases aao.1 hp with rfl | hp
  .exact h.1
  .exact qP h.2 p hp
theorem qA {X:Cx} {all:List Oper} {draw:Bool}: ∀{l:List Oper} {j:Nat} {seen:List (Nat×Fx)} {fr fr':Fr} {st st':St},eD X all draw j seen l fr st= .ok (fr',st')->l=all.drop j->
  ∃L,Ar X (fun _=>none) all L fr st fr' st'/\L.map (·.1)=List.range' j l.length/\(draw=true->L.Pairwise (Cm all)/\ ∀s∈seen,∀q∈L,quiet q.2.2=true\/apart s.2 q.2.2=true\/behind all (q.1+1) q.1 s.1=true)
 | [],j,seen,fr,fr',st,st',h,hl=>by
  simp only [eD,aaf,aaj] at h;obtain ⟨rfl,rfl⟩:=h;exact ⟨[],.nil,rfl,fun _=>⟨.nil,by simp⟩⟩
 | o::l,j,seen,fr,fr',st,st',h,hl=>by
  simp only [eD,ag] at h;obtain ⟨⟨v,x⟩,h1,c⟩:=h;have ho:all[j]? =some o:=by
   have:=aaU (·[0]?) hl;simpa using this.symm
  have d:l=all.drop (j+1):=by
   have:=aaU List.tail hl;simpa [List.tail_drop] using this
  split at c
  .rename_i g;obtain ⟨L,k1,k2,i⟩:=qA c d;refine ⟨(j,v,x)::L,.cons ho ((BP X all fr st o).trans h1) k1,by simp [k2,List.range'_succ],fun b=> ?_⟩;have e:quiet x=true:=by rw [b] at g;simpa using g
   obtain ⟨k,f⟩:=i b;refine ⟨.cons (fun q _=> .inl e) k,fun s hs q a=> ?_⟩;rcases aao.1 a with rfl | a
   .exact .inl e
   .exact f s hs q a
  .rename_i g;split at c
   .rename_i m;obtain ⟨L,k1,k2,i⟩:=qA c d;refine ⟨(j,v,x)::L,.cons ho ((BP X all fr st o).trans h1) k1,by simp [k2,List.range'_succ],fun b=> ?_⟩;obtain ⟨k,f⟩:=i b;refine ⟨.cons (fun q e=> ?_) k,fun s hs q a=> ?_⟩
    .rcases f (j,x) (by simp) q e with h | h | h
     .exact .inr (.inl h)
     .exact .inr (.inr (.inl h))
     .exact .inr (.inr (.inr h))
    .rcases aao.1 a with rfl | a
     .exact .inr (qP m s hs)
     .exact f s (by simp [hs]) q a
   .cases c
theorem pf {X:Cx} {e:Nat->Oq Nat} {all:List Oper}: ∀{l:List Oper} {j:Nat} {seen:List (Nat×Fx)} {fr fr':Fr} {st st':St},dz X e all j seen l fr st= .ok (fr',st')->l=all.drop j->
  ∃L,Ar X e all L fr st fr' st'/\L.map (·.1)=List.range' j l.length/\L.Pairwise (Cm all)/\ ∀s∈seen,∀q∈L,quiet q.2.2=true\/apart s.2 q.2.2=true\/behind all (q.1+1) q.1 s.1=true
 | [],j,seen,fr,fr',st,st',h,hl=>by
  simp only [dz,aaf,aaj] at h;obtain ⟨rfl,rfl⟩:=h;exact ⟨[],.nil,rfl,.nil,by simp⟩
 | o::l,j,seen,fr,fr',st,st',h,hl=>by
  simp only [dz,ag] at h;obtain ⟨⟨v,x⟩,h1,b⟩:=h;have ho:all[j]? =some o:=by
   have:=aaU (·[0]?) hl;simpa using this.symm
  have c:l=all.drop (j+1):=by
   have:=aaU List.tail hl;simpa [List.tail_drop] using this
  split at b
  .rename_i m;obtain ⟨L,k1,k2,g⟩:=pf b c;refine ⟨(j,v,x)::L,.cons ho h1 k1,by simp [k2,List.range'_succ], ?_⟩;have d:quiet x=true:=by simpa using m
   obtain ⟨i,f⟩:=g;refine ⟨.cons (fun q _=> .inl d) i,fun s hs q a=> ?_⟩;rcases aao.1 a with rfl | a
   .exact .inl d
   .exact f s hs q a
  .rename_i m;split at b
   .rename_i k;obtain ⟨L,k1,k2,g⟩:=pf b c;refine ⟨(j,v,x)::L,.cons ho h1 k1,by simp [k2,List.range'_succ], ?_⟩;obtain ⟨i,f⟩:=g;refine ⟨.cons (fun q d=> ?_) i,fun s hs q a=> ?_⟩
    .rcases f (j,x) (by simp) q d with h | h | h
     .exact .inr (.inl h)
     .exact .inr (.inr (.inl h))
     .exact .inr (.inr (.inr h))
    .rcases aao.1 a with rfl | a
     .exact .inr (qP k s hs)
     .exact f s (by simp [hs]) q a
   .cases b
structure WX (ops:Array Oper) (listed:Array Bool) (L:List (Nat×AV×Fx)):Prop where
 left: ∀k,k < ops.size->(listed.getD k true=false↔k∈L.map (·.1))
 lt: ∀k∈L.map (·.1),k < ops.size
 sorted:(L.map (·.1)).Pairwise (· < ·)
 closed: ∀k o e,ops[k]? =some o->listed.getD k true=true->e∈o.after->Region.binds .any e=true->listed.getD e.on false=true
 size:listed.size=ops.size
 cm:L.Pairwise (Cm ops.toList)
theorem CH {l:Array Bool} {k:Nat}:l.getD k false=true->l.getD k true=true:=by
 simp only [Array.getD_eq_getD_getElem?];cases l[k]? <;> simp
theorem uv {ops:Array Oper} {listed:Array Bool} {L:List (Nat×AV×Fx)} (g:WX ops listed L): ∀(f j i:Nat),behind ops.toList f j i=true->
  (∀o e,ops[j]? =some o->e∈o.after->Region.binds .any e=true->listed.getD e.on false=true)->listed.getD i true=true
 | 0,_,_,h,_=>by simp [behind] at h
 | f+1,j,i,h,k=>by
  simp only [behind,abg] at h;split at h
  .rename_i o ho;simp only [List.any_eq_true,aak,aa0] at h;obtain ⟨e,he,l,a⟩:=h;have hl:=k o e ho (by simpa using he) l;rcases a with a | ⟨_,a⟩
   .rw [<- aap a];exact CH hl
   .exact uv g f e.on i a fun o' m b c d=>g.closed e.on o' m b (CH hl) c d
  .cases h
theorem mem_ready {ops:Array Oper} {listed:Array Bool} {i:Nat}:i∈Region.ready .any ops listed↔i < ops.size/\listed.getD i true=false/\ ∀o e,ops[i]? =some o->e∈o.after->Region.binds .any e=true->listed.getD e.on false=true:=by
 simp only [Region.ready,List.mem_filter,List.mem_range,aak,Bool.not_eq_true'];constructor
 .rintro ⟨h1,b,a⟩;refine ⟨h1,b,fun o e ho he c=> ?_⟩;rw [ho] at a;simp only [Option.map_some,Option.getD_some,Array.all_eq_true'] at a;have:=a e he;rw [c] at this;simpa using this
 .rintro ⟨h1,b,a⟩;refine ⟨h1,b, ?_⟩;rw [Array.getElem?_eq_getElem h1];simp only [Option.map_some,Option.getD_some,Array.all_eq_true'];intro e he;cases c:Region.binds .any e with
  | false=>rfl
  | true=>simpa using a _ e (Array.getElem?_eq_getElem h1) he c
section
variable {P:Program} {A:Nat->Prop}
theorem AQ {X:Cx} {e0:Nat->Oq Nat} {ro:Oq Nat} (hX:Good P X) {ops:Array Oper} (D:ro.isSome=true->jF ops.toList=true) (r:ml ops.toList=true) {Q:Exit->Act->World->Prop} {fr':Fr} {st':St}: ∀(fuel:Nat) (listed:Array Bool) (L:List (Nat×AV×Fx)) (fr:Fr) (st:St) (g:Gh) (a:Act) (w:World),
  L.length=fuel->WX ops listed L->Ar X e0 ops.toList L fr st fr' st'->Rel X A ro g fr st a w->(∀a' g' w',Rel X A ro g' fr' st' a' w'->a'.defers=a.defers->Kp A g w g' w'->Q .normal a' w')->wpAnyIn (fe ro) 0 P .any ops Q fuel listed a w
 | 0,listed,L,fr,st,g,a,w,hl,d,O,hrel,R=>by
  have:L=[]:=aa6 hl;subst this;cases O;refine ⟨?_,R a g w hrel rfl (Kp.refl _ _ _)⟩;apply List.eq_nil_iff_forall_not_mem.2;intro i hi;obtain ⟨h1,S,_⟩:=mem_ready.1 hi;have:=(d.left i h1).1 S;cases this
 | fuel+1,listed,L,fr,st,g,a,w,hl,d,O,hrel,R=>by
  refine ⟨fun E=> ?_,fun i hi=> ?_⟩
  .exfalso;cases L with
   | nil=>simp at hl
   | cons p L=>
    have hp:=d.lt p.1 (by simp);have:p.1∈Region.ready .any ops listed:=mem_ready.2 ⟨hp,(d.left p.1 hp).2 (by simp),fun o e ho he C=>by
     have F:=Cu r ho he C;have G:e.on < ops.size:=by omega
     have H:e.on∉(p::L).map (·.1):=by
      intro hm;simp only [aan,aao] at hm;rcases hm with hm | hm
      .omega
      .have:=d.sorted;simp only [aan,abm] at this;have:=this.1 _ hm;omega
     have:=mt (d.left e.on G).1 H;have s:e.on < listed.size:=by rw [d.size];exact G
     simp only [Array.getD_eq_getD_getElem?,Array.getElem?_eq_getElem s,Option.getD_some] at this ⊢;simpa using this⟩
    rw [E] at this;cases this
  .obtain ⟨h1,S,h3⟩:=mem_ready.1 hi;have hm:=(d.left i h1).1 S;obtain ⟨q,hq,T⟩:=aa8.1 hm;subst T;obtain ⟨L1,L2,rfl⟩:=List.append_of_mem hq;have u: ∀p∈L1,UJ ops p q:=fun p hp=>by
    have F:p.1 < q.1:=by
     have:=d.sorted;rw [aaG,List.pairwise_append] at this;exact this.2.2 p.1 (aa8.2 ⟨p,hp,rfl⟩) q.1 (by simp)
    have I: ∀f,behind ops.toList f q.1 p.1=true->False:=fun f C=>by
     have:=uv d f q.1 p.1 C h3;have J:=(d.left p.1 (by omega)).2 (by simp only [aaG,aaC,aa8];exact .inl ⟨p,hp,rfl⟩);rw [this] at J;cases J
    refine ⟨?_,fun o1 o2 e1 e2=> ?_⟩
    .have:=d.cm;rw [List.pairwise_append] at this;rcases this.2.2 p hp q (by simp) with h | h | h | h
     .exact .inl h
     .exact .inr (.inl h)
     .exact .inr (.inr h)
     .exact (I _ h).elim
    .rcases Cn r F e2 e1 with h | h
     .exact h
     .exact (I _ h).elim
   have U:=B2 O u;cases U with
   | cons ho h t=>
    rename_i j v x o;refine Be hX D (by simpa using ho) h hrel fun a' g' w' z hd m=> ?_;refine AQ hX D r fuel _ (L1++L2) _ _ g' a' w' (by simp at hl ⊢;omega) ?_ t z fun V W Y K Z ar=>R V W Y K (Z.trans hd) (m.trans ar);have s:j < listed.size:=by rw [d.size];exact h1
    have n: ∀k b,(listed.setIfInBounds j true).getD k b=if k=j then true else listed.getD k b:=fun k b=>by
     simp only [Array.getD_eq_getD_getElem?,Array.getElem?_setIfInBounds];by_cases m:j=k
     .subst m;simp [s]
     .rw [if_neg m,if_neg (fun e=>m e.symm)]
    have c:=d.sorted;rw [aaG,aan,List.pairwise_append,abm] at c;refine ⟨fun k m=> ?_,fun k m=>d.lt k ?_, ?_,fun k o' e M B he C=> ?_,by simp [d.size], ?_⟩
    .rw [n];by_cases l:k=j
     .subst l;simp only [if_true,Bool.true_eq_false,false_iff];intro hm;simp only [aaG,aaC] at hm;rcases hm with hm | hm
      .have:=c.2.2 k hm k (by simp);omega
      .have:=c.2.1.1 k hm;omega
     .rw [if_neg l,d.left k m];simp only [aaG,aan,aaC,aao];constructor
      .rintro (h | h | h)
       .exact .inl h
       .exact absurd h l
       .exact .inr h
      .rintro (h | h)
       .exact .inl h
       .exact .inr (.inr h)
    .simp only [aaG,aan,aaC,aao] at m ⊢;rcases m with h | h
     .exact .inl h
     .exact .inr (.inr h)
    .rw [aaG,List.pairwise_append];exact ⟨c.1,c.2.1.2,fun x hx y hy=>c.2.2 x hx y (by simp [hy])⟩
    .rw [n] at B ⊢;by_cases N:e.on=j
     .rw [if_pos N]
     .rw [if_neg N];by_cases l:k=j
      .subst l;exact h3 o' e M he C
      .rw [if_neg l] at B;exact d.closed k o' e M B he C
    .have:=d.cm;rw [List.pairwise_append,abm] at this;rw [List.pairwise_append];exact ⟨this.1,this.2.1.2,fun x hx y hy=>this.2.2 x hx y (by simp [hy])⟩
theorem Rel.drew {X:Cx} {ro:Oq Nat} {g:Gh} {fr:Fr} {st:St} {a:Act} {w:World} (h:Rel X A ro g fr st a w):Rel X A ro g fr st a w.drew:=⟨h.mode,h.fr,h.inv.drew,h.G,h.marks⟩
theorem EO {X:Cx} {ro:Oq Nat} (f:Good P X) (hm:P.follows .mixedOrders=true) {id:Nat} {ops:Array Oper} (c:ro.isSome=true->jF ops.toList=true) {draw:Bool} (d:draw=true->ml ops.toList=true) {fr fr':Fr} {st st':St} {g:Gh} {a:Act} {w:World} {Q:Exit->Act->World->Prop}
  (h:eD X ops.toList draw 0 [] ops.toList fr st= .ok (fr',st')) (hrel:Rel X A ro g fr st a w) (i: ∀a' g' w',Rel X A ro g' fr' st' a' w'->a'.defers=a.defers->Kp A g w g' w'->Q .normal a' w'):(Code.region id ops draw).wpIn (fe ro) 0 P Q a w:=by
 obtain ⟨L,k1,k2,j⟩:=qA h (by simp);have hlen:L.map (·.1)=List.range ops.size:=by rw [k2,List.range_eq_range'];simp
 cases draw with
 | false=>
  refine wpIn_region ?_;have:=uh f c k1 hrel i
  rwa [hlen] at this
 | true=>
  obtain ⟨l,_⟩:=j rfl;refine wpIn_region_any hm ?_;refine AQ f c (d rfl) ops.size _ L fr st g a w.drew ?_ ?_ k1 hrel.drew fun a' g' w' m n b=>i a' g' w' m n ((Kp.drew A g w).trans b)
  .have:=aaU List.length hlen;simpa using this
  .refine ⟨fun k b=> ?_,fun k b=> ?_, ?_,fun k o e ho hl=> ?_,by simp,l⟩
   .rw [hlen];simp [b]
   .rw [hlen] at b;simpa using b
   .rw [hlen];exact List.pairwise_lt_range
   .have b:k < ops.size:=by
     rcases Nat.lt_or_ge k ops.size with q | q
     .exact q
     .rw [Array.getElem?_eq_none q] at ho;cases ho
    simp [b] at hl
theorem Ch {X:Cx} {ro:Oq Nat} (f:Good P X) (hm:P.follows .mixedOrders=true) {id:Nat} {ops:Array Oper} (c:ro.isSome=true->jF ops.toList=true) {i:Nat->Oq Nat} (d:ml ops.toList=true) {fr fr':Fr} {st st':St} {g:Gh} {a:Act} {w:World} {Q:Exit->Act->World->Prop}
  (h:dz X i ops.toList 0 [] ops.toList fr st= .ok (fr',st')) (hrel:Rel X A ro g fr st a w) (j: ∀a' g' w',Rel X A ro g' fr' st' a' w'->a'.defers=a.defers->Kp A g w g' w'->Q .normal a' w'):(Code.region id ops true).wpIn (fe ro) 0 P Q a w:=by
 obtain ⟨L,k1,k2,l⟩:=pf h (by simp);have hlen:L.map (·.1)=List.range ops.size:=by rw [k2,List.range_eq_range'];simp
 obtain ⟨m,_⟩:=l;refine wpIn_region_any hm ?_;refine AQ f c d ops.size _ L fr st g a w.drew ?_ ?_ k1 hrel.drew fun a' g' w' n p b=>j a' g' w' n p ((Kp.drew A g w).trans b)
 .have:=aaU List.length hlen;simpa using this
 .refine ⟨fun k b=> ?_,fun k b=> ?_, ?_,fun k o e ho hl=> ?_,by simp,m⟩
  .rw [hlen];simp [b]
  .rw [hlen] at b;simpa using b
  .rw [hlen];exact List.pairwise_lt_range
  .have b:k < ops.size:=by
    rcases Nat.lt_or_ge k ops.size with q | q
    .exact q
    .rw [Array.getElem?_eq_none q] at ho;cases ho
   simp [b] at hl
end
end Go.VM
