/-
  (A part of the proof: Ops12, OpsE, Reg, Reg2, Reg3.)
-/
import Derived.Test.YtgecmbapkplklaaGreatDoorVmAA
import Derived.Test.YtgecmbapkplklaaGreatDoorVmAH
import Derived.Laws.MakeOwn
import Derived.OrdersIn
import Derived.RangeFuncIn
import Derived.LoopNIn
import Derived.Orders
set_option linter.unusedSimpArgs false
namespace Go.VM
def la (T:TT) (A:Nat->Prop) (g:Gh) (st':St) (w:World) (v:AV) (x:Value) (w':World):Prop:= ∃g',R g' v x/\Inv T A g' st' w'/\Kp A g w g' w'
def uA (P:Program) (f:FuncId) (args:Array Value) (w:World) (post:Value->World->Prop):Prop:=
 (∃x w',(callFunc f args).run P w= .ok (.value x) w'/\post x w')\/
 ((callFunc f args).run P w= .ok (.enter f args) w/\Calls P f args w fun e w'=> ∃x,e= .returned x/\post x w')
def CM (P:Program) (l:Nat) (args:Array Value) (w:World) (post:Value->World->Prop):Prop:=
 ∃fn tmps a c,(Instr.yield l args).run P w= .ok (.round l fn tmps a c) w/\RoundIn Fence.wide 0 P l fn tmps a c w fun e w'=> ∃x,e= .returned x/\post x w'
structure yj (P:Program) (T:TT) (G:Nat->Option (List AV)) (C:df):Prop where
 bare: ∀f args v,C.bare f args= .ok v-> ∀A g st w xs,GR g G->bL args=true->RL g args xs->Inv T A g st w->uA P f xs.toArray w (la T A g st w v)
 wide: ∀f args st v st',C.wide f args st= .ok (v,st')-> ∀A g w xs,GR g G->RL g args xs->Inv T A g st w->
  (callFunc f xs.toArray).run P w= .ok (.enter f xs.toArray) w/\Calls P f xs.toArray w fun e w'=> ∃x,e= .returned x/\la T A g st' w v x w'
 look: ∀f args st v,C.look f args st= .ok v-> ∀A g w xs,GR g G->RL g args xs->Inv T A g st w->uA P f xs.toArray w (la T A g st w v)
 round: ∀k args st v st',C.round k args st= .ok (v,st')-> ∀A g w xs l,GR g G->RL g args xs->Inv T A g st w->g.E k=some (.gf l)->CM P l xs.toArray w (la T A g st' w v)
def CJ (P:Program) (T:TT) (G:Nat->Option (List AV)) (prim:FuncId->Option Prim):Prop:=
 ∀f q,prim f=some q-> ∀C args p v a st A g w xs,GR g G->fO q args= .ok p->aC C st p= .ok (v,a)->RL g args xs->Inv T A g st w->uA P f xs.toArray w (la T A g (a.did.app st) w v)
section
variable {P:Program} {T:TT} {A:Nat->Prop} {g:Gh} {st:St} {w:World}
theorem H6 (hT:wW P T) {C:df} {t:TypeId} {ts:Array TypeId} {ty:TypeId} {x v:AV} {xv:Value} {p:dG} {r:Fx} (f:ts[0]? =some t) (hp:zK T t x= .ok p) (hrun:aC C st p= .ok (v,r)) (hx:R g x xv) (h:Inv T A g st w):
  bl P T A g w v (r.did.app st) (Builtin.len_ ts ty #[xv]):=by
 simp only [zK,ag] at hp;obtain ⟨i,h1,h2⟩:=hp;have hi:=hT t i (cB.1 h1);have plain: ∀{n:Int},p= .val (.int .i64 n)->(Builtin.len_ ts ty #[xv]).run P w= .ok (goInt n) w->bl P T A g w v (r.did.app st) (Builtin.len_ ts ty #[xv]):=fun hp hr=>by
  subst hp;simp only [aC,WT,WV] at hrun;obtain ⟨rfl,rfl⟩:=hrun;exact bl.of h hr (by simp only [R];rfl)
 split at h2
 .rename_i n e _ hu;simp only [au] at h2;exact plain h2.symm (by simp [Builtin.len_,f,qG hi hu])
 .rename_i s hu;simp only [au] at h2;simp only [R] at hx;subst hx;exact plain h2.symm (by simp [Builtin.len_,f,sU hi hu,nv])
 .rename_i e hu;simp only [au] at h2;simp only [R] at hx;subst hx;exact plain h2.symm (by simp [Builtin.len_,f,eJ hi hu])
 .rename_i e z es y hu;simp only [au] at h2;simp only [R] at hx;obtain ⟨_,b,o,cap,rfl,_⟩:=hx;exact plain h2.symm (by simp [Builtin.len_,f,eJ hi hu])
 .rename_i e B a2 a3 a4 a5 hu;simp only [au] at h2;simp only [R] at hx;obtain ⟨b,o,_,c,rfl,_⟩:=hx;exact plain h2.symm (by simp [Builtin.len_,f,eJ hi hu])
 .rename_i e k z n hu;simp only [au] at h2;simp only [R] at hx;obtain ⟨_,b,cap,_,_,rfl,_⟩:=hx;exact plain h2.symm (by simp [Builtin.len_,f,eJ hi hu])
 .rename_i e hu;simp only [au] at h2;simp only [R] at hx;obtain ⟨a,rfl⟩:=hx;exact plain h2.symm (by simp [Builtin.len_,f,eJ hi hu])
 .rename_i k e hu;simp only [au] at h2;simp only [R] at hx;subst hx;exact plain h2.symm (by simp [Builtin.len_,f,tu hi hu])
 .rename_i k e es hu;simp only [au] at h2;simp only [R] at hx;obtain ⟨b,ents,clk,m1,rfl,m2⟩:=hx;have j:=h.M b ents clk m1;have q:(getObj b).run P w= .ok (.map ents.toArray clk) w:=by simp [getObj,Sem.run,j]
  have hl:ents.length=es.length:=d m2;exact plain h2.symm (by simp [Builtin.len_,f,tu hi hu,q,hl])
 .rename_i k e m hu;simp only [au] at h2;subst h2;simp only [iN,aC,ag,au] at hrun;obtain ⟨o,g1,⟨v',o'⟩,⟨u,g2,g4⟩,dd,g5,g6⟩:=hrun;simp only [WV] at g4 g6;obtain ⟨rfl,rfl⟩:=g4;simp only [eG,WT] at g5;subst g5;obtain ⟨rfl,rfl⟩:=g6;split at g2
  .rename_i es;simp only [WT] at g2;subst g2;simp only [R] at hx;obtain ⟨b,hE,rfl⟩:=hx;obtain ⟨b',ents,clk,q1,q2,q3,D⟩:=h.H m _ g1;have hb:b'=b:=by have:=q1.symm.trans hE;simpa using this
   subst hb;have q:(getObj b').run P w= .ok (.map ents clk) w:=by simp [getObj,Sem.run,q2]
   have hl:=d q3;simp only [XX] at hl;exact bl.of h (x:=goInt ents.size) (by simp [Builtin.len_,f,tu hi hu,q]) (by simp only [R,hl];rfl)
  .cases g2
 .cases h2
 where
 d: ∀{es:List (AV×AV)} {ents:List MapEntry},rb g es ents->ents.length=es.length
  | [],_,h=>by simp only [rb] at h;subst h;rfl
  | (_,_)::es,_,h=>by
   simp only [rb] at h;obtain ⟨e,l,rfl,_,_,h3⟩:=h;simp [d h3]
theorem ou {lower:Bool}: ∀{l:List AV} {ls:List Value} {a v:AV} {x:Value},uZ lower a l= .ok v->R g a x->RL g l ls->
  ∃z,(ls.foldlM (if lower then Builtin.min2 else Builtin.max2) x).run P w= .ok z w/\R g v z
 | [],_,a,v,x,h,hx,hl=>by
  simp only [uZ,WT] at h;subst h;simp only [RL] at hl;subst hl;exact ⟨x,rfl,hx⟩
 | b::l,_,a,v,x,h,hx,hl=>by
  simp only [RL] at hl;obtain ⟨y,ys,rfl,h1,h2⟩:=hl;simp only [uZ,ag] at h;obtain ⟨c,h3,h4⟩:=h;obtain ⟨z,d,f⟩:=E8 (P:=P) (w:=w) h3 hx h1;obtain ⟨z',e,i⟩:=ou h4 f h2;refine ⟨z', ?_,i⟩;rw [List.foldlM_cons];cases lower <;> simp only [Xw,if_false,if_true] at d e ⊢ <;> simp only [Sem.run_bind,d,Result.andThen_ok,e]
def _root_.Go.Oper.I5 (P:Program) (o:Oper) (a:Act) (w:World) (K:Act->World->Prop):Prop:=
 match (execOp a.eval o).run P w with
 | .ok (.value v) w'=>K (a.put o.dst v) w'
 | .ok .skip w'=>K (a.put o.dst Go.undef) w'
 | .ok (.enter f args) w'=>Calls P f args w' fun e b=> ∃x,e= .returned x/\K (a.put o.dst x) b
 | .ok (.round l f tmps x c) w'=>RoundIn Fence.wide 0 P l f tmps x c w' fun e b=> ∃x,e= .returned x/\K (a.put o.dst x) b
 | _=>False
def fe (ro:Option Nat):Fence:={Fence.wide with round:=ro}
theorem LY {o:Oper} {a:Act} {K:Act->World->Prop} {Q:Exit->Act->World->Prop} {ro:Option Nat} (h:o.I5 P a w K) (hd: ∀c,o.op≠ .defer c):o.wpIn (fe ro) 0 P a w K Q:=by
 refine ⟨fun _ _=>trivial, ?_⟩;show o.uponIn (fe ro) 0 P a K Q ((o.semAt ro a.eval).run P w);rw [Oper.semAt_eq ro a.eval o hd];unfold Go.Oper.I5 at h;generalize (execOp a.eval o).run P w=r at h;cases r with
 | halt x w'=>exact h.elim
 | ok x w'=>
  cases x <;> first | exact h | exact h.elim | skip
  .refine ⟨fun e=>by simp [fe,Fence.wide] at e, ?_⟩;have h:CallsIn Fence.wide 0 P _ _ w' fun e b=> ∃x,e= .returned x/\K (a.put o.dst x) b:=callsIn_wide.2 h;refine CallsIn.mono h ?_;rintro e b ⟨x,rfl,hk⟩;exact hk
  .refine ⟨fun e=>by simp [fe,Fence.wide] at e, ?_⟩;refine RoundIn.mono h ?_;rintro e b ⟨x,rfl,hk⟩;exact hk
theorem fo {o:Oper} {a:Act} {K:Act->World->Prop} {s:Sem Value} {v:AV} {st':St} (he:execOp a.eval o=(do pure (.value (<- s)))) (hg:bl P T A g w v st' s)
  (b: ∀x w',la T A g st' w v x w'->K (a.put o.dst x) w'):o.I5 P a w K:=by
 obtain ⟨x,g',w',h1,h2,h3,h4⟩:=hg;unfold Go.Oper.I5;rw [he];simp only [Sem.run_bind,h1,Result.andThen_ok,Sem.run_pure];exact b x w' ⟨g',h2,h3,h4⟩
theorem wR {o:Oper} {a:Act} {K:Act->World->Prop} {s:Sem Unit} {st':St} (he:execOp a.eval o=(do s;pure .skip)) (hg:BC P T A g w st' s)
  (b: ∀x w',la T A g st' w undef x w'->K (a.put o.dst x) w'):o.I5 P a w K:=by
 obtain ⟨g',w',h1,h3,h4⟩:=hg;unfold Go.Oper.I5;rw [he];simp only [Sem.run_bind,h1,Result.andThen_ok,Sem.run_pure];exact b Go.undef w' ⟨g',B6,h3,h4⟩
theorem Ld {o:Oper} {a:Act} {K:Act->World->Prop} {l:Nat} {args:Array Value} {v:AV} {st':St} (he:execOp a.eval o=Instr.yield l args) (hc:CM P l args w (la T A g st' w v))
  (b: ∀x w',la T A g st' w v x w'->K (a.put o.dst x) w'):o.I5 P a w K:=by
 unfold Go.Oper.I5;rw [he];obtain ⟨fn,tmps,x,c,h1,h2⟩:=hc;rw [h1];refine RoundIn.mono h2 ?_;rintro e w' ⟨y,rfl,h3⟩;exact ⟨y,rfl,b y w' h3⟩
theorem wO {o:Oper} {a:Act} {K:Act->World->Prop} {f:FuncId} {args:Array Value} {v:AV} {st':St} (he:execOp a.eval o=callFunc f args) (hc:uA P f args w (la T A g st' w v))
  (b: ∀x w',la T A g st' w v x w'->K (a.put o.dst x) w'):o.I5 P a w K:=by
 unfold Go.Oper.I5;rw [he];rcases hc with ⟨x,w',h1,h2⟩ | ⟨h1,h2⟩
 .rw [h1];exact b x w' h2
 .rw [h1];refine h2.mono ?_;rintro e w' ⟨x,rfl,h3⟩;exact ⟨x,rfl,b x w' h3⟩
theorem tU {X:db AV} {p:dG} (h:(do pure (dG.val (<- X)):db dG)= .ok p): ∃v,X= .ok v/\p= .val v:=by
 simp only [ag,au] at h;obtain ⟨v,h1,h2⟩:=h;exact ⟨v,h1,h2.symm⟩
theorem xn (zs:Array Value): ∀(c:Nat),(madeCells zs (c * zs.size)).toList=(List.replicate c zs.toList).flatten
 | 0=>by simp [madeCells]
 | c+1=>by
  have ih:=xn zs c;simp only [madeCells,Array.toList_map,Array.toList_range] at ih ⊢;rw [show (c+1) * zs.size=zs.size+c * zs.size by rw [Nat.add_mul,Nat.one_mul,Yh],List.range_add,Xh,List.replicate_succ,List.flatten_cons, <- ih,List.map_map];congr 1
  .apply List.ext_getElem?
   intro k;rw [XG];by_cases hk:k < zs.size
   .rw [List.getElem?_range hk,XT,Array.getElem?_eq_getElem hk];simp [Nat.mod_eq_of_lt hk,hk]
   .rw [Xu (by simp;omega),Xu (by simp;omega)];rfl
  .apply List.map_congr_left;intro k _;simp
theorem mr (l:List Value): ∀c,jX l c=(List.replicate c l).flatten
 | 0=>rfl
 | c+1=>by rw [jX,mr l c,List.replicate_succ,List.flatten_cons]
theorem wy (hT:wW P T) {C:df} {t:TypeId} {l c v:AV} {u y:Value} {p:dG} {B:Fx} (hp:oa T t l c= .ok p) (hrun:aC C st p= .ok (v,B)) (hl:R g l u) (hc:R g c y) (h:Inv T A g st w):
  bl P T A g w v (B.did.app st) (Instr.makeSlice t u y):=by
 simp only [oa,ag] at hp;obtain ⟨it,h1,h2⟩:=hp;rw [cB] at h1;split at h2
 .rename_i e G D kc b k;simp only [ag] at h2;obtain ⟨i,h3,h4⟩:=h2;rw [cB] at h3;split at h4
  .rename_i m;simp only [WY,Nat.ble_eq] at m;obtain ⟨⟨⟨⟨c1,c2⟩,c3⟩,c4⟩,c5⟩:=m;simp only [R] at hl hc;subst hl hc;obtain ⟨d,H,E,_⟩:=(hT t it h1).und;rw [k] at E;have ht:P.underlying t=some (.slice e):=by rw [H,E]
   obtain ⟨f,I,i2,i3,z,i4,i5,K,J,i8,i9⟩:=(hT e i h3).info;have o:=run_make (P:=P) w t e f z ht I i4 G kc (.ofNat D) (.ofNat b) (Int.natCast_nonneg D) (Int.ofNat_le.2 c1) (by rw [i3];exact Int.ofNat_le.2 c3) (Int.ofNat_le.2 c4);have hz:(madeCells z.cells (b * z.cells.size)).toList=(List.replicate b z.cells.toList).flatten:=xn z.cells b;have q: ∀x∈jX z.cells.toList b,x.oneCell'=true:=fun x hx=>by
    rw [mr] at hx;obtain ⟨L,r,s⟩:=List.mem_flatten.1 hx;have:=List.eq_of_mem_replicate r;subst this;exact J x (by simpa using s)
   have a:(madeCells z.cells ((Int.ofNat b).toNat * f.size))=(jX z.cells.toList b).toArray:=by
    rw [mr, <- hz,i2, <- i5];simp
   split at h4
   .rename_i j;have j:=W2 j;subst j;simp only [au] at h4;subst h4;simp only [aC,WT,WV] at hrun;obtain ⟨rfl,rfl⟩:=hrun;obtain ⟨g',k1,k2,F⟩:=h.Oh (els:=[]) (vals:=[]) (rest:=jX z.cells.toList b) (cap:=b) (n:=0) h3 c5 rfl (by simp) rfl (by simp [flat,RL]) (by simp) (by rw [XI,Xd,mr, <- hz,XX,size_madeCells,i5]) (XC _);refine ⟨_,g',_,o,F, ?_, ?_⟩
    .rw [a];exact k1
    .rw [a];exact k2
   simp only [au] at h4;subst h4;simp only [aC,WT,WV] at hrun;obtain ⟨rfl,rfl⟩:=hrun;obtain ⟨k1,k2,F⟩:=h.yN e (zC (i9 g) b) q;refine ⟨_,g.dm st.h (.gf w.heap.size),_,o, ?_, ?_, ?_⟩
   .simp only [R];exact ⟨w.heap.size,0,Gh.aZ _ _ _,_,rfl,c1,c5,fun _=>rfl,.inl rfl⟩
   .rw [a];exact k1
   .rw [a];exact k2
  .cases h4
 .cases h2
theorem qK {C:df} {u v:AV} {a:Fx} (h:aC C st (.val u)= .ok (v,a)):u=v/\a=⟨[],.kept⟩:=by
 simp only [aC,WT,WV] at h;exact ⟨h.1,h.2.symm⟩
theorem F9 (X:Cx) (hT:wW P X.T) (hC:yj P X.T X.G X.C) (Z:CJ P X.T X.G X.prim) {o:Oper} {fr:Fr} {a:Act} {p:dG} {v:AV} {fx:Fx} {K:Act->World->Prop}
  (hp:eR X.T X.prim X.imm X.G fr o.op= .ok p) (hrun:aC X.C st p= .ok (v,fx)) (j:GR g X.G) (hf:wP g fr a.tmps) (h:Inv X.T A g st w)
  (B: ∀x w',la X.T A g (fx.did.app st) w v x w'->K (a.put o.dst x) w'):o.I5 P a w K:=by
 obtain ⟨dst,op,type,pos,after,guard⟩:=o;have val: ∀{Y:db AV} {s:Sem Value},(do pure (dG.val (<- Y)):db dG)= .ok p->execOp a.eval ⟨dst,op,type,pos,after,guard⟩=(do pure (.value (<- s)))->
   (∀u,Y= .ok u->bl P X.T A g w u st s)->Oper.I5 P ⟨dst,op,type,pos,after,guard⟩ a w K:=fun hY he hg=>by
  obtain ⟨u,h1,rfl⟩:=tU hY;obtain ⟨rfl,rfl⟩:=qK hrun;exact fo he (hg u h1) B
 cases op <;> simp only [eR] at hp <;> (try (cases hp;done))
 case move x=>exact val hp (s:=pure (a.eval x)) (by simp [execOp]) fun u hu=>bl.of h rfl (aO j hf hu)
 case assign x=>exact val hp (s:=pure (a.eval x)) (by simp [execOp]) fun u hu=>bl.of h rfl (aO j hf hu)
 case pick c x y=>
  refine val hp (s:=do pure (if <- Go.asBool (a.eval c) then a.eval x else a.eval y)) (by simp [execOp]) fun u hu=> ?_;simp only [ag] at hu;obtain ⟨cv,h1,b,h2,h3⟩:=hu;have hc:=aO j hf h1;cases cv <;> simp only [VM.asBool,WT] at h2 <;> (try (cases h2;done))
  subst h2;simp only [R] at hc;rename_i b;cases b with
  | true=>exact bl.of h (by simp [hc,Go.asBool]) (aO j hf h3)
  | false=>exact bl.of h (by simp [hc,Go.asBool]) (aO j hf h3)
 case alloc t=>
  simp only [ag,au] at hp;obtain ⟨i,h1,rfl⟩:=hp;simp only [aC,WT,WV] at hrun;obtain ⟨rfl,rfl⟩:=hrun;exact fo (s:=Instr.alloc t true (.tuple #[])) (by simp [execOp]) (ER (hT t i (cB.1 h1)) h _) B
 case box t x=>
  simp only [ag] at hp;obtain ⟨i,h1,u,h2,h3⟩:=hp;exact fo (s:=Instr.box t (a.eval x)) (by simp [execOp]) (Ix h3 hrun (aO j hf h2) h) B
 case build t parts=>
  refine val hp (s:=Instr.build t (parts.map fun (i,x)=>(i,a.eval x))) (by simp [execOp]) fun u hu=> ?_;simp only [ag] at hu;obtain ⟨ps,h1,h2⟩:=hu;exact D2 hT h2 (by simpa using lb j hf h1) h
 case buildSlice t len parts=>
  refine val hp (s:=Instr.buildSlice t len (parts.map fun (i,x)=>(i,a.eval x))) (by simp [execOp]) fun u hu=> ?_;simp only [ag] at hu;obtain ⟨ps,h1,h2⟩:=hu;exact uM hT h2 (by simpa using lb j hf h1) h
 case makeSlice t x y=>
  simp only [ag] at hp;obtain ⟨u1,h1,u2,h2,h3⟩:=hp;exact fo (s:=Instr.makeSlice t (a.eval x) (a.eval y)) (by simp [execOp]) (wy hT h3 hrun (aO j hf h1) (aO j hf h2) h) B
 case load t x=>
  simp only [ag] at hp;obtain ⟨i,h1,u,h2,h3⟩:=hp;exact fo (s:=Instr.loadAt t (a.eval x)) (by simp [execOp]) (Fk (hT t i (cB.1 h1)) h3 hrun (aO j hf h2) h) B
 case store t x y=>
  simp only [ag] at hp;obtain ⟨i,h1,u,h2,hp⟩:=hp;split at hp
  .simp only [ag] at hp;obtain ⟨u',h3,h4⟩:=hp;obtain ⟨rfl,hg⟩:=zW (hT t i (cB.1 h1)) h4 hrun (aO j hf h2) (aO j hf h3) h;exact wR (s:=Instr.storeAt t (a.eval x) (a.eval y)) (by simp [execOp]) hg B
  .simp only [ag] at hp;obtain ⟨u',h3,h4⟩:=hp;obtain ⟨rfl,hg⟩:=EU (hT t i (cB.1 h1)) h4 hrun (aO j hf h2) (aO j hf h3) h;exact wR (s:=Instr.storeAt t (a.eval x) (a.eval y)) (by simp [execOp]) hg B
 case nilCheck x=>
  obtain ⟨u,h1,rfl⟩:=tU hp;obtain ⟨rfl,rfl⟩:=qK hrun;simp only [ag] at h1;obtain ⟨u',h2,h3⟩:=h1;have hr:=aO j hf h2;split at h3 <;> (try (cases h3;done)) <;> simp only [au] at h3 <;> subst h3
  .have D:=hr;simp only [R] at D;obtain ⟨_,b,o,hx,_⟩:=D;exact fo (s:=pure (a.eval x)) (by simp [execOp,hx]) (bl.of h rfl hr) B
  .have D:=hr;simp only [R] at D;obtain ⟨b,_,hx⟩:=D;exact fo (s:=pure (a.eval x)) (by simp [execOp,hx]) (bl.of h rfl hr) B
  .have D:=hr;simp only [R] at D;obtain ⟨_,b,_,_,_,hx⟩:=D;exact fo (s:=pure (a.eval x)) (by simp [execOp,hx]) (bl.of h rfl hr) B
  .have D:=hr;simp only [R] at D;obtain ⟨a',c',hx,_⟩:=D;exact fo (s:=pure (a.eval x)) (by simp [execOp,hx]) (bl.of h rfl hr) B
 case binOp op t x y yt=>
  refine val hp (s:=do eqGuard op t x y (a.eval x) (a.eval y);Go.binOp op t (a.eval x) (a.eval y)) (by simp [execOp]) fun u hu=> ?_;simp only [ag] at hu;obtain ⟨x',h1,y',h2,h3⟩:=hu;exact Cb hT h3 (aO j hf h1) (aO j hf h2) h
 case unOp op t x=>
  refine val hp (s:=Op.unary op (a.eval x)) (by simp [execOp]) fun u hu=> ?_;simp only [ag] at hu;obtain ⟨x',h1,h3⟩:=hu;exact FV h3 (aO j hf h1) h
 case convert s d x=>
  simp only [ag] at hp;obtain ⟨u,h2,h3⟩:=hp;exact fo (s:=Go.convert s d (a.eval x)) (by simp [execOp]) (zV hT h3 hrun (aO j hf h2) h) B
 case makeInterface t x=>
  refine val hp (s:=Instr.makeInterface t (a.eval x)) (by simp [execOp]) fun u hu=> ?_;simp only [ag] at hu;obtain ⟨i,h1,h2⟩:=hu;have hi:=hT t i (cB.1 h1);obtain ⟨d,d1,d2,_⟩:=hi.mL;have fin:(∀ms,d≠ .interface ms)->(do pure (AV.iface t (<- cj X.G fr x)):db AV)= .ok u->bl P X.T A g w u st (Instr.makeInterface t (a.eval x)):=fun hd he=>by
   simp only [ag,au] at he;obtain ⟨x',h1,rfl⟩:=he;refine bl.of h (x:= .iface t (a.eval x)) ?_ (by simp only [R];exact ⟨_,rfl,aO j hf h1⟩);simp only [Instr.makeInterface,Sem.run_bind,d1,Result.andThen_ok];cases d <;> first | rfl | exact absurd rfl (hd _)
  split at h2
  .cases h2
  .cases h2
  .rename_i n1 n2;refine fin (fun ms a1=> ?_) h2;subst a1;cases hu:i.und <;> rw [hu] at d2 n1 n2 <;> simp only [xR] at d2 <;> (try (cases d2;done)) <;> first
    | exact n1 _ rfl
    | exact n2 rfl
    | (obtain ⟨_,e,_⟩:=d2;cases e;done)
    | (obtain ⟨_,_,_,e⟩:=d2;cases e;done)
 case makeFunc f first cap=>
  refine val hp (s:=Instr.makeFunc f (first.map a.eval) (cap.map a.eval)) (by simp [execOp]) fun u hu=> ?_;simp only [ag,au] at hu;obtain ⟨l1,h1,l2,h2,rfl⟩:=hu;refine bl.of h (x:= .func f (first.map a.eval) (cap.map a.eval)) rfl ?_;simp only [R];exact ⟨_,_,rfl,by simpa using mJ j hf h1,by simpa using mJ j hf h2⟩
 case makeMap t r=>
  cases r with
  | some r=>simp at hp
  | none=>
   simp only [WT] at hp;subst hp;simp only [aC,WT,WV] at hrun;obtain ⟨rfl,rfl⟩:=hrun;exact fo (s:=Instr.makeMap t none) (by simp [execOp]) (zN t h) B
 case slice t x lo hi mx=>
  have av:mx≠none->hi≠none:=by
   intro h1 h2;subst h2;cases mx with
   | none=>exact h1 rfl
   | some m=>simp at hp
  have a6:(do pure (dG.val (<- (do mj X.T t (<- cj X.G fr x) (<- dY X.G fr lo) (<- dY X.G fr hi) (<- dY X.G fr mx)))):db dG)= .ok p:=by
   cases mx <;> cases hi <;> first | exact hp | exact absurd rfl (av (by simp))
  refine val a6 (s:=Instr.sliceAt t (a.eval x) (lo.map a.eval) (hi.map a.eval) (mx.map a.eval)) (by simp [execOp]) fun u hu=> ?_;simp only [ag] at hu;obtain ⟨x',h1,l',h2,i',h3,m',h4,J⟩:=hu;refine Er hT J (aO j hf h1) (mW j hf h2) (mW j hf h3) (mW j hf h4) h fun hm hh=> ?_;subst hh;have hh:hi≠none:=av fun e=>by
   subst e;simp only [dY,WT] at h4;exact hm h4.symm
  cases hi with
  | none=>exact hh rfl
  | some q=>
   simp only [dY,ag,au] at h3;obtain ⟨_,_,e⟩:=h3;cases e
 case fieldAddr t x f=>
  refine val hp (s:=Instr.fieldAt t (a.eval x) f) (by simp [execOp]) fun u hu=> ?_;simp only [ag] at hu;obtain ⟨x',h1,h3⟩:=hu;exact wz hT h3 (aO j hf h1) h
 case field t x f=>
  refine val hp (s:=Instr.field t (a.eval x) f) (by simp [execOp]) fun u hu=> ?_;simp only [ag] at hu;obtain ⟨x',h1,h3⟩:=hu;exact C4 hT h3 (aO j hf h1) h
 case indexAddr t x i=>
  simp only [ag] at hp;obtain ⟨x',h1,hp⟩:=hp;split at hp
  .simp only [ag] at hp;obtain ⟨i',h2,h3⟩:=hp;exact fo (s:=Instr.indexAt t (a.eval x) (a.eval i)) (by simp [execOp]) (zI hT h3 hrun (aO j hf h1) (aO j hf h2) h) B
  .refine val hp (s:=Instr.indexAt t (a.eval x) (a.eval i)) (by simp [execOp]) fun u hu=> ?_;simp only [ag] at hu;obtain ⟨i',h2,h3⟩:=hu;exact wC hT h3 (aO j hf h1) (aO j hf h2) h
 case index t x i=>
  refine val hp (s:=Instr.index t (a.eval x) (a.eval i)) (by simp [execOp]) fun u hu=> ?_;simp only [ag] at hu;obtain ⟨x',h1,i',h2,h3⟩:=hu;exact Dp hT h3 (aO j hf h1) (aO j hf h2) h
 case lookup t x k ok=>
  simp only [ag] at hp;obtain ⟨x',h1,k',h2,h3⟩:=hp;exact fo (s:=Instr.lookup t (a.eval x) (a.eval k) ok) (by simp [execOp]) (CI hT h3 hrun (aO j hf h1) (aO j hf h2) h) B
 case mapUpdate t m k x=>
  simp only [ag] at hp;obtain ⟨m',h1,k',h2,x',h3,h4⟩:=hp;obtain ⟨rfl,hg⟩:=pB hT h4 hrun (aO j hf h1) (aO j hf h2) (aO j hf h3) h;exact wR (s:=Instr.mapUpdate t (a.eval m) (a.eval k) (a.eval x)) (by simp [execOp]) hg B
 case insert t m k x=>
  simp only [ag] at hp;obtain ⟨m',h1,k',h2,x',h3,h4⟩:=hp;obtain ⟨rfl,hg⟩:=pB hT h4 hrun (aO j hf h1) (aO j hf h2) (aO j hf h3) h;exact wR (s:=Instr.mapUpdate t (a.eval m) (a.eval k) (a.eval x)) (by simp [execOp]) hg B
 case range t x=>
  simp only [ag] at hp;obtain ⟨i,h1,x',h2,h3⟩:=hp;split at h3
  .rename_i s hu;simp only [au] at h3;subst h3;simp only [aC,WT,WV] at hrun;obtain ⟨rfl,rfl⟩:=hrun;have hr:=aO j hf h2;simp only [R] at hr;exact fo (s:=Instr.range t (a.eval x)) (by simp [execOp]) (by rw [hr];exact DX (hT t i (cB.1 h1)) hu h) B
  .cases h3
 case next x b=>
  cases b with
  | false=>simp at hp
  | true=>
   simp only [ag] at hp;obtain ⟨x',h1,h2⟩:=hp;exact fo (s:=Instr.next (a.eval x) true type) (by simp [execOp]) (Fw h2 hrun (aO j hf h1) h) B
 case extract x i=>
  refine val hp (s:=Instr.extract (a.eval x) i) (by simp [execOp]) fun u hu=> ?_;simp only [ag] at hu;obtain ⟨x',h1,h2⟩:=hu;have hr:=aO j hf h1;split at h2
  .simp only [R] at hr;obtain ⟨ys,hx,hl⟩:=hr;obtain ⟨y,Q,e2⟩:=KK hl h2;exact bl.of h (by rw [hx];simp only [Instr.extract];rw [show ys[i]? =some y by simpa using Q];rfl) e2
  .cases h2
 case call c=>
  simp only [ag] at hp;obtain ⟨args,h1,h2⟩:=hp;have n:=mJ j hf h1;split at h2
  .rename_i b L;have he: ∀s:Sem Value,Go.builtin b c.argTypes type (c.args.map fun | .const _=>true | _=>false) (c.args.map a.eval)=(do pure (.value (<- s)))->execOp a.eval ⟨dst,.call c,type,pos,after,guard⟩=(do pure (.value (<- s))):=fun s hs=>by
    simp only [execOp,resolve,L,pure_bind,invoke];exact hs
   have F:(c.args.map a.eval).toList=c.args.toList.map a.eval:=by simp
   unfold fk at h2;split at h2
   .rename_i t xt sv xv H;simp only [RL] at n;obtain ⟨y1,l1,Q,O,y2,l2,rfl,r2,rfl⟩:=n;have E:c.args.map a.eval= #[y1,y2]:=by apply Array.ext';rw [F,Q]
    have I:c.argTypes= #[t,xt]:=by apply Array.ext';rw [H]
    simp only [ag] at h2;obtain ⟨i,h3,ix,h4,J⟩:=h2;have hi:=hT t i (cB.1 h3);have a7:=hT xt ix (cB.1 h4);split at J
    .rename_i e hu aw;simp only [ag] at J;obtain ⟨ei,N,S⟩:=J;have U:=hT e ei (cB.1 N);obtain ⟨d,d1,d2,_⟩:=hi.und;rw [hu] at d2;simp only [xR] at d2;subst d2;obtain ⟨dx,x1,x2,_⟩:=a7.und;have V: ∀k,dx≠ .int k:=fun k hk=>by
      subst hk;cases a8:ix.und <;> rw [a8] at x2 aw <;> simp only [xR] at x2 <;> (try (cases x2;done)) <;> (try (simp [FH] at aw;done))
     split at S
     .rename_i new hev;split at S
      .exact fo (he (Builtin.append_ c.argTypes type (c.args.map a.eval)) rfl) (by rw [E,I];exact xD ⟨d1,⟨dx,x1,V⟩,cB.1 N,U⟩ hev S hrun O r2 h) B
      split at S
      .exact fo (he (Builtin.append_ c.argTypes type (c.args.map a.eval)) rfl) (by rw [E,I];exact xx ⟨d1,⟨dx,x1,V⟩,cB.1 N,U⟩ hev S hrun O r2 h) B
      split at S
      .exact fo (he (Builtin.append_ c.argTypes type (c.args.map a.eval)) rfl) (by rw [E,I];exact wm ⟨d1,⟨dx,x1,V⟩,cB.1 N,U⟩ hev S hrun O r2 h) B
      .exact fo (he (Builtin.append_ c.argTypes type (c.args.map a.eval)) rfl) (by rw [E,I];exact tD ⟨d1,⟨dx,x1,V⟩,cB.1 N,U⟩ hev S hrun O r2 h) B
     .cases S
    .cases J
   .rename_i t l xv H;simp only [RL] at n;obtain ⟨y1,l1,Q,O,rfl⟩:=n;have E:c.args.map a.eval= #[y1]:=by apply Array.ext';rw [F,Q]
    have bb:c.argTypes[0]? =some t:=by rw [<- XT,H];rfl
    exact fo (he (Builtin.len_ c.argTypes type (c.args.map a.eval)) rfl) (by rw [E];exact H6 hT bb h2 hrun O h) B
   .rename_i xv l;obtain ⟨u,h3,rfl⟩:=tU h2;obtain ⟨rfl,rfl⟩:=qK hrun;simp only [RL] at n;obtain ⟨y1,l1,Q,O,r2⟩:=n;obtain ⟨z,e2,e3⟩:=ou (P:=P) (w:=w) h3 O r2;exact fo (he (Builtin.min_ c.argTypes type (c.args.map a.eval)) rfl) (bl.of h (by simp only [Builtin.min_];rw [F,Q];exact e2) e3) B
   .rename_i xv l;obtain ⟨u,h3,rfl⟩:=tU h2;obtain ⟨rfl,rfl⟩:=qK hrun;simp only [RL] at n;obtain ⟨y1,l1,Q,O,r2⟩:=n;obtain ⟨z,e2,e3⟩:=ou (P:=P) (w:=w) h3 O r2;exact fo (he (Builtin.max_ c.argTypes type (c.args.map a.eval)) rfl) (bl.of h (by simp only [Builtin.max_];rw [F,Q];exact e2) e3) B
   .cases h2
  .rename_i f L;simp only [ag] at h2;obtain ⟨fv,h3,h4⟩:=h2;have W:=aO j hf h3;split at h4
   .rename_i gid first cap
    simp only [R] at W;obtain ⟨a',c',ar,bt,b4⟩:=W;have M:RL g (first++args++cap) (a'.toList++c.args.toList.map a.eval++c'.toList):=eN (eN bt n) b4;have he:execOp a.eval ⟨dst,.call c,type,pos,after,guard⟩=callFunc gid (a'.toList++c.args.toList.map a.eval++c'.toList).toArray:=by
     simp only [execOp,resolve,L,ar,Deferred.ofValue,pure_bind,invoke];congr 1;apply Array.ext';simp
    split at h4
    .rename_i q hq;exact wO he (Z gid q hq X.C _ p v fx st A g w _ j h4 hrun M h) B
    .simp only [au] at h4;subst h4;simp only [aC] at hrun;split at hrun
     .rename_i hb;simp only [ag,au,WV] at hrun;obtain ⟨v',J,rfl,rfl⟩:=hrun;simp only [WY] at hb;exact wO he (hC.bare _ _ _ J A g st w _ j hb.1 (nY M) h) B
     .split at hrun
      .simp only [ag,au,WV] at hrun;obtain ⟨v',J,rfl,rfl⟩:=hrun;exact wO he (hC.look _ _ _ _ J A g w _ j (nY M) h) B
      .simp only [ag,au] at hrun;obtain ⟨⟨v',s'⟩,J,N⟩:=hrun;simp only [WV] at N;obtain ⟨rfl,rfl⟩:=N;exact wO he (.inr (hC.wide _ _ _ _ _ J A g w _ j M h)) B
   .rename_i k;simp only [R] at W;obtain ⟨l,hl,ar⟩:=W;simp only [au] at h4;subst h4;simp only [aC,ag,au] at hrun;obtain ⟨⟨v',s'⟩,J,N⟩:=hrun;simp only [WV] at N;obtain ⟨rfl,rfl⟩:=N;have he:execOp a.eval ⟨dst,.call c,type,pos,after,guard⟩=Instr.yield l (c.args.toList.map a.eval).toArray:=by
     simp only [execOp,resolve,L,ar,Deferred.ofValue,pure_bind,invoke];congr 1;apply Array.ext';simp
    exact Ld he (hC.round _ _ _ _ _ J A g w _ l j n h hl) B
   .cases h4
  .cases h2
end
section
variable {P:Program} {T:TT} {A:Nat->Prop} {g:Gh} {st:St} {w:World}
theorem Inv.yZ (h:Inv T A g st w):Inv T A g (st.new .yZ).2 w where
 F:=h.F
 M:=h.M
 E id hid:=h.E id (Nat.le_of_succ_le hid)
 H id o ho:=by
  rcases St.fV.1 ho with ⟨rfl,rfl⟩ | ⟨_,a⟩
  .exact h.E _ (WW _)
  .exact h.H id o a
 D id id' o1 d b h1 h2 c a2:=by
  rcases St.fV.1 h1 with ⟨rfl,rfl⟩ | ⟨_,g1⟩
  .exact c.elim
  .rcases St.fV.1 h2 with ⟨rfl,rfl⟩ | ⟨_,g2⟩
   .exact a2.elim
   .exact h.D id id' o1 d b g1 g2 c a2
 own id o b h1 c hr:=by
  rcases St.fV.1 h1 with ⟨rfl,rfl⟩ | ⟨_,g1⟩
  .exact c.elim
  .exact h.own id o b g1 c hr
 up:=h.up
theorem Inv.lay: ∀{l:List Nat} {st:St},Inv T A g st w->Inv T A g (st.lay l) w
 | [],_,h=>h
 | _::l,st,h=>Inv.lay (l:=l) (st:=(st.new .yZ).2) (Inv.yZ h)
theorem Inv.vY (h:Inv T A g st w) {nm:Nat} (hn:st.get nm= .ok .yZ) (o:Obj) (e:nt) (b:Nat)
  (hb: ∀id o',st.get id= .ok o'->¬ At g id o' b) (hA:A b) (i: ∀b',At (g.dm nm e) nm o b'->b'=b)
  (ho:Holds T (g.dm nm e) w nm o):Inv T A (g.dm nm e) (st.put nm o) w:=by
 have c:=(St.ch.1 hn).1;have hE:g.E nm=none:=h.H nm _ hn;refine ⟨h.F,h.M,fun id hid=> ?_,fun id o' d=> ?_,fun id id' o1 k b' h1 h2 f a2=> ?_,fun id o' b' h1 f hr=> ?_,h.up⟩
 .have j:st.h<=id:=hid;rw [Gh.ca _ _ (by omega)];exact h.E id j
 .by_cases hi:id=nm
  .subst hi;rw [St.aQ c] at d;cases d;exact ho
  .rw [St.aY (fun e=>hi e.symm)] at d;exact jQ (h.H id o' d) (Le.dm hE) (Gh.ca _ _ hi) fun _ _=>⟨fun _=>rfl,rfl⟩
 .by_cases hi:id=nm <;> by_cases a:id'=nm
  .rw [hi,a]
  .subst hi;rw [St.aQ c] at h1;cases h1;rw [St.aY (fun e=>a e.symm)] at h2;rw [oI (Gh.ca _ _ a)] at a2;have:=i b' f;subst this;exact absurd a2 (hb _ _ h2)
  .subst a;rw [St.aQ c] at h2;cases h2;rw [St.aY (fun e=>hi e.symm)] at h1;rw [oI (Gh.ca _ _ hi)] at f;have:=i b' a2;subst this;exact absurd f (hb _ _ h1)
  .rw [St.aY (fun e=>hi e.symm)] at h1;rw [St.aY (fun e=>a e.symm)] at h2;rw [oI (Gh.ca _ _ hi)] at f;rw [oI (Gh.ca _ _ a)] at a2;exact h.D id id' o1 k b' h1 h2 f a2
 .by_cases hi:id=nm
  .subst hi;rw [St.aQ c] at h1;cases h1;rw [i b' f];exact hA
  .rw [St.aY (fun e=>hi e.symm)] at h1;rw [oI (Gh.ca _ _ hi)] at f;exact h.own id o' b' h1 f hr
theorem Fq (h:Inv T A g st w) {nm:Nat} (hn:st.get nm= .ok .yZ) {cs:List AV} {xs:List Value} (ty:TypeId) (hr:RL g cs xs) (h1: ∀x∈xs,x.oneCell'=true):
  Inv T A (g.dm nm (.gf w.heap.size)) (st.put nm (.cells ty cs)) (w.alloc (.cells xs.toArray ty))/\Kp A g w (g.dm nm (.gf w.heap.size)) (w.alloc (.cells xs.toArray ty))/\
  R (g.dm nm (.gf w.heap.size)) (.mp nm 0) (.pointer (some ⟨w.heap.size,0,none⟩)):=by
 have hE:g.E nm=none:=h.H nm _ hn;have hle:Le g (g.dm nm (.gf w.heap.size)):=Le.dm hE;refine ⟨(h.alloc _).vY hn (.cells ty cs) (.gf w.heap.size) w.heap.size (fun id o' a=>h.ib (WW _) id o' a) (h.up _ (WW _)) (fun b' b=>by
  have:(g.dm nm (.gf w.heap.size)).E nm=some (.gf b'):=b;rw [Gh.aZ] at this;simpa using this.symm) ⟨w.heap.size,xs.toArray, #[],ty,Gh.aZ _ _ _,by simpa using World.heap_alloc_new,by simpa using eA hle _ _ hr,by simpa using h1,fun o=>h.lh (WW _) o,fun _=>⟨rfl,rfl⟩⟩,
  (Kp.alloc _ h).trans (Kp.dm hE),by simp only [R];exact ⟨_,Gh.aZ _ _ _,rfl⟩⟩
theorem Eb {t:TypeId} {i:TI} (hi:jD P t i) {nm:Nat} (hn:st.get nm= .ok .yZ) (h:Inv T A g st w) (old:Value):
  bl P T A g w (.mp nm 0) (st.put nm (.cells t i.zero)) (Instr.alloc t true old):=by
 obtain ⟨z,h1,h2,h3,h4,c,a⟩:=hi.qo;obtain ⟨k1,k2,b⟩:=Fq h hn t (a g) (by simpa using h4);refine ⟨_,_,_, ?_,b,k1,k2⟩;simp [Instr.alloc,h1,newVar,jY]
theorem qk {T:TT} {t:TypeId} {nm:Nat} {v:AV} {a:Fx} (h:VM.vY T t nm st= .ok (v,a)): ∃i,T.get t=some i/\st.get nm= .ok .yZ/\st.ro<=nm/\v= .mp nm 0/\a=⟨[nm],.wrote nm (.cells t i.zero)⟩:=by
 simp only [VM.vY,ag] at h;obtain ⟨i,h1,o,h2,h3⟩:=h;cases o with
 | yZ=>
  dsimp only at h3;split at h3
  .rename_i hr;simp only [WT,WV] at h3;exact ⟨i,cB.1 h1,h2,WU hr,h3.1.symm,h3.2.symm⟩
  .cases h3
 | _=>cases h3
theorem Dv {T:TT} {t:TypeId} {i:TI} {nm:Nat} (h1:T.get t=some i) (h2:st.get nm= .ok .yZ) (h3:st.ro<=nm):VM.vY T t nm st= .ok (.mp nm 0,⟨[nm],.wrote nm (.cells t i.zero)⟩):=by
 refine ag.2 ⟨i,cB.2 h1,ag.2 ⟨.yZ,h2, ?_⟩⟩;dsimp only;rw [Xx h3]
theorem yb {e:Nat->Option Nat} {o:Oper} {t:TypeId} {nm:Nat} (h:qZ e o=some (t,nm)):o.op= .alloc t:=by
 unfold qZ at h;split at h
 .cases h
 .split at h
  .cases h
  .split at h
   .rename_i h1;cases h;exact h1
   .cases h
theorem zD (X:Cx) (all:List Oper) (fr:Fr) (st:St) (o:Oper):fE X (fun _=>none) all fr st o=oper X all fr st o:=by
 have h:qZ (fun _=>none) o=none:=by
  unfold qZ;cases o.dst <;> rfl
 unfold fE oper;rw [h]
theorem Ki (X:Cx) (hT:wW P X.T) {o:Oper} {a:Act} {t:TypeId} {nm:Nat} {v:AV} {b:Fx} {K:Act->World->Prop}
  (ho:o.op= .alloc t) (hp:VM.vY X.T t nm st= .ok (v,b)) (h:Inv X.T A g st w)
  (c: ∀x w',la X.T A g (b.did.app st) w v x w'->K (a.put o.dst x) w'):o.I5 P a w K:=by
 obtain ⟨i,h1,h2,_,rfl,rfl⟩:=qk hp;obtain ⟨dst,op,type,pos,after,guard⟩:=o;obtain rfl:op= .alloc t:=ho;exact fo (s:=Instr.alloc t true (.tuple #[])) (by simp [execOp]) (Eb (hT t i h1) h2 h _) c
end
namespace Tr
variable {α:Type}
theorem set_comm: ∀(f1 f2:Nat) (t:Tr α) (a b:Nat) (x y:α),a≠b->set f1 (set f2 t a x) b y=set f2 (set f1 t b y) a x
 | 0,_,_,_,_,_,_,_=>rfl
 | _+1,0,_,_,_,_,_,_=>rfl
 | f1+1,f2+1,t,a,b,x,y,h=>by
  cases ha:a.beq 0 with
  | true=>
   have d:=W2 ha;have hb:b.beq 0=false:=by
    cases hb:b.beq 0 with
    | false=>rfl
    | true=>exact absurd (d.trans (W2 hb).symm) h
   cases hm:(b % 2).beq 1 <;> cases t <;> simp [set,ha,hb,hm]
  | false=>
   have d:a≠0:=by intro e;subst e;simp at ha
   cases hb:b.beq 0 with
   | true=>cases hm:(a % 2).beq 1 <;> cases t <;> simp [set,ha,hb,hm]
   | false=>
    have i:b≠0:=by intro e;subst e;simp at hb
    cases hp:(a % 2).beq 1 with
    | true=>
     have f:=W2 hp;cases c:(b % 2).beq 1 with
     | true=>
      have g:=W2 c;have hne:a / 2≠b / 2:=by omega
      cases t <;> simp [set,ha,hb,hp,c,set_comm f1 f2 _ _ _ x y hne]
     | false=>cases t <;> simp [set,ha,hb,hp,c]
    | false=>
     have f:a % 2≠1:=by intro e;rw [e] at hp;simp at hp
     cases c:(b % 2).beq 1 with
     | true=>cases t <;> simp [set,ha,hb,hp,c]
     | false=>
      have g:b % 2≠1:=by intro e;rw [e] at c;simp at c
      have hne:a / 2 - 1≠b / 2 - 1:=by omega
      cases t <;> simp [set,ha,hb,hp,c,set_comm f1 f2 _ _ _ x y hne]
theorem put_comm (t:Tr α) (a b:Nat) (x y:α) (h:a≠b):(t.put a x).put b y=(t.put b y).put a x:=set_comm _ _ _ _ _ _ _ h
end Tr
section
variable {P:Program} {A:Nat->Prop} {g:Gh} {st:St} {w:World}
theorem HY {ops:Array Oper} {fr:Fr} {a:Act} (o:Oper) (hf:wP g fr a.tmps) (hg:o.guard=none\/fr.strict=false):wanted ops.toList fr o.guard=Region.wanted o (yielded ops a.tmps):=by
 unfold wanted Region.wanted;cases c:o.guard with
 | none=>rfl
 | some p=>
  have hs:fr.strict=false:=by
   rcases hg with hg | hg
   .rw [c] at hg;cases hg
   .exact hg
  obtain ⟨j,want⟩:=p;simp only [yielded,XT];cases hd:(ops[j]?).bind (·.dst) with
  | none=>cases want <;> rfl
  | some d=>
   simp only [Option.bind_some];have hr:=hf.at hs d;cases hv:fr.get d with
   | bool b=>
    rw [hv] at hr;simp only [R] at hr;have:a.tmps[d]? =some (.bool b):=by
     simp only [Array.getD_eq_getD_getElem?] at hr;cases hx:a.tmps[d]? with
     | none=>rw [hx] at hr;simp [Go.undef] at hr
     | some x=>rw [hx] at hr;simpa using hr
    rw [this];cases b <;> cases want <;> rfl
   | _=>
    have: ∀b,a.tmps[d]? ≠some (.bool b):=fun b hb=>by
     rw [hv] at hr;simp only [Array.getD_eq_getD_getElem?,hb,Option.getD_some,R] at hr
     first
      | (rcases hr with ⟨_,hr | ⟨_,_,hr⟩⟩ | ⟨_,_,hr⟩ <;> cases hr;done)
      | (cases hr;done)
      | (rcases hr with ⟨_,hr⟩;injection hr;done)
      | (rcases hr with ⟨_,⟨⟩⟩;done)
      | (obtain ⟨_,_,_,hr,_⟩:=hr;cases hr;done)
      | (obtain ⟨_,_,hr⟩:=hr;cases hr;done)
      | (obtain ⟨_,_,_,_,hr,_⟩:=hr;cases hr;done)
      | (obtain ⟨_,_,hr,_⟩:=hr;cases hr;done)
      | (obtain ⟨_,hr,_⟩:=hr;cases hr;done)
      | (obtain ⟨_,_,_,_,_,hr,_⟩:=hr;cases hr;done)
      | (obtain ⟨_,_,_,_,_,hr⟩:=hr;cases hr;done)
    cases hx:a.tmps[d]? with
    | none=>cases want <;> rfl
    | some x=>cases x <;> first | (cases want <;> rfl) | exact absurd hx (this _)
theorem xf {fr:Fr} {a:Act} (hf:wP g fr a.tmps) {v:AV} {x:Value} (hx:R g v x) (d:Option Tmp):wP g (fr.put d v) (a.put d x).tmps:=by
 cases d with
 | none=>exact hf
 | some d=>exact hf.put hx (some d)
theorem put_defers (a:Act) (d:Option Tmp) (x:Value):(a.put d x).defers=a.defers:=by cases d <;> rfl
structure Good (P:Program) (X:Cx):Prop where
 T:wW P X.T
 C:yj P X.T X.G X.C
 prim:CJ P X.T X.G X.prim
def mark (D:Nat):Deferred:={target:= .collected D,args:= #[]}
def Marks (A:Nat->Prop) (ds:List Deferred) (w:World):Prop:= ∃a:List Nat,ds=a.map mark/\a.Nodup/\ ∀D∈a,¬ A D/\w.heap[D]? =some (.deferred (some []))
theorem Marks.CZ {A:Nat->Prop} {ds:List Deferred} {g g':Gh} {w w':World} (h:Marks A ds w) (k:Kp A g w g' w'):Marks A ds w':=by
 obtain ⟨b,h1,h2,h3⟩:=h;exact ⟨b,h1,h2,fun D a=>⟨(h3 D a).1,by rw [k.heap D (h3 D a).1];exact (h3 D a).2⟩⟩
theorem gW (fr:Fr) (d:Option Tmp) (v:AV):(fr.put d v).strict=fr.strict:=by
 cases d with
 | none=>rfl
 | some d=>simp only [Fr.put];split <;> rfl
structure Rel (X:Cx) (A:Nat->Prop) (ro:Option Nat) (g:Gh) (fr:Fr) (st:St) (a:Act) (w:World):Prop where
 mode:fr.strict=ro.isSome
 fr:wP g fr a.tmps
 inv:Inv X.T A g st w
 G:GR g X.G
 marks:Marks A a.defers w
theorem Bq: ∀{l:List Oper} {o:Oper},iJ l=true->o∈l->o.guard=none
 | [],_,_,h=>by cases h
 | a::l,o,h,hm=>by
  unfold iJ at h;cases ha:a.guard with
  | some x=>rw [ha] at h;cases h
  | none=>
   rw [ha] at h;rcases Xb.1 hm with rfl | hm
   .exact ha
   .exact Bq h hm
theorem FI {T:TT} {prim:FuncId->Option Prim} {imm:TypeId->Bool} {G:Nat->Option (List AV)} {fr:Fr} {o:Op} {p:dG} (h:eR T prim imm G fr o= .ok p): ∀c,o≠ .defer c:=by
 rintro c rfl;cases h
theorem yr {X:Cx} {e:Nat->Option Nat} {ro:Option Nat} (d:Good P X) {ops:Array Oper} (f:ro.isSome=true->iJ ops.toList=true) {i:Nat} {o:Oper} (ho:ops[i]? =some o) {fr:Fr} {a:Act} {v:AV} {k:Fx} {K:Act->World->Prop} {Q:Exit->Act->World->Prop}
  (h:fE X e ops.toList fr st o= .ok (v,k)) (hr:Rel X A ro g fr st a w)
  (j: ∀a' g' w',Rel X A ro g' (fr.put o.dst v) (k.did.app st) a' w'->a'.defers=a.defers->Kp A g w g' w'->K a' w'):wpOpIn (fe ro) 0 P ops Q i K a w:=by
 have hg:o.guard=none\/fr.strict=false:=by
  cases b:ro.isSome with
  | false=>exact .inr (by rw [hr.mode,b])
  | true=>exact .inl (Bq (f b) (Xo (l:=ops.toList) (i:=i) (by simpa using ho)))
 unfold fE at h;unfold wpOpIn;simp only [ho];rw [<- HY o hr.fr hg];split at h
 .rename_i hw;rw [hw,if_pos rfl];split at h
  .rename_i t nm m;refine LY (Ki X d.T (yb m) h hr.inv fun x w' hp=> ?_) (fun c hc=>by rw [yb m] at hc;cases hc);obtain ⟨g',p1,p2,p3⟩:=hp;exact j _ g' w' ⟨by rw [gW];exact hr.mode,xf (hr.fr.mono p3.le) p1 _,p2,hr.G.mono p3.le,by rw [put_defers];exact hr.marks.CZ p3⟩ (put_defers _ _ _) p3
  .simp only [ag] at h;obtain ⟨p,h1,h2⟩:=h;refine LY (F9 X d.T d.C d.prim h1 h2 hr.G hr.fr hr.inv fun x w' hp=> ?_) (FI h1);obtain ⟨g',p1,p2,p3⟩:=hp;exact j _ g' w' ⟨by rw [gW];exact hr.mode,xf (hr.fr.mono p3.le) p1 _,p2,hr.G.mono p3.le,by rw [put_defers];exact hr.marks.CZ p3⟩ (put_defers _ _ _) p3
 .rename_i hw;rw [hw,if_neg (by simp)];simp only [WT,WV] at h;obtain ⟨rfl,rfl⟩:=h;exact ⟨fun _ _=>trivial,j _ g w ⟨by rw [gW];exact hr.mode,xf hr.fr B6 _,hr.inv,hr.G,by rw [put_defers];exact hr.marks⟩ (put_defers _ _ _) (Kp.refl _ _ _)⟩
inductive yW (X:Cx) (e:Nat->Option Nat) (all:List Oper):List (Nat×AV×Fx)->Fr->St->Fr->St->Prop
 | nil {fr:Fr} {st:St}:yW X e all [] fr st fr st
 | cons {j:Nat} {v:AV} {x:Fx} {o:Oper} {l:List (Nat×AV×Fx)} {fr fr':Fr} {st st':St} (ho:all[j]? =some o) (h:fE X e all fr st o= .ok (v,x))
   (t:yW X e all l (fr.put o.dst v) (x.did.app st) fr' st'):yW X e all ((j,v,x)::l) fr st fr' st'
theorem rH {X:Cx} {e:Nat->Option Nat} {ro:Option Nat} (q:Good P X) {ops:Array Oper} (b:ro.isSome=true->iJ ops.toList=true) {Q:Exit->Act->World->Prop}: ∀{l:List (Nat×AV×Fx)} {fr fr':Fr} {st st':St},yW X e ops.toList l fr st fr' st'->
  ∀{g:Gh} {a:Act} {w:World},Rel X A ro g fr st a w->(∀a' g' w',Rel X A ro g' fr' st' a' w'->a'.defers=a.defers->Kp A g w g' w'->Q .normal a' w')->wpOpsIn (fe ro) 0 P ops Q (l.map (·.1)) a w
 | _,_,_,_,_,.nil,g,a,w,hr,d=>d a g w hr rfl (Kp.refl _ _ _)
 | _,_,_,_,_,.cons (j:=j) (o:=o) ho h t,g,a,w,hr,d=>by
  simp only [W8];rw [wpOpsIn_cons];exact yr q b (by simpa using ho) h hr fun a' g' w' f hd hk=>rH q b t f fun i k m c n p=>d i k m c (n.trans hd) (hk.trans p)
end
end Go.VM
namespace Go.VM
theorem D5 {G:Nat->Option (List AV)} {fr a:Fr} {x:Operand} (hs:fr.strict=a.strict) (h: ∀t,x= .tmp t->fr.t.get t=a.t.get t):cj G fr x=cj G a x:=by
 cases x with
 | tmp t=>simp only [cj,Fr.get,hs,h t rfl]
 | _=>rfl
theorem my {G:Nat->Option (List AV)} {fr a:Fr}: ∀{xs:List Operand},(∀x∈xs,cj G fr x=cj G a x)->mG G fr xs=mG G a xs
 | [],_=>rfl
 | x::xs,h=>by simp only [mG,h x (by simp),my (xs:=xs) fun y hy=>h y (by simp [hy])]
theorem nr {G:Nat->Option (List AV)} {fr a:Fr} {x:Option Operand} (h: ∀y,x=some y->cj G fr y=cj G a y):dY G fr x=dY G a x:=by
 cases x with
 | none=>rfl
 | some y=>simp only [dY,h y rfl]
theorem kU {G:Nat->Option (List AV)} {fr a:Fr}: ∀{xs:List (Nat×Operand)},(∀x∈xs,cj G fr x.2=cj G a x.2)->gn G fr xs=gn G a xs
 | [],_=>rfl
 | (i,x)::xs,h=>by simp only [gn,h (i,x) (by simp),kU (xs:=xs) fun y hy=>h y (by simp [hy])]
theorem FK {T:TT} {prim:FuncId->Option Prim} {imm:TypeId->Bool} {G:Nat->Option (List AV)} {fr e:Fr} {op:Op} (h: ∀x∈op.operands,cj G fr x=cj G e x):
  eR T prim imm G fr op=eR T prim imm G e op:=by
 cases op <;> simp only [eR] <;> simp only [Op.operands] at h
 case move x=>rw [h x (by simp)]
 case assign x=>rw [h x (by simp)]
 case pick c x y=>rw [h c (by simp),h x (by simp),h y (by simp)]
 case box t x=>rw [h x (by simp)]
 case build t ps=>rw [kU fun x hx=>h x.2 (by simp only [List.mem_toArray,XY];exact ⟨x,hx,rfl⟩)]
 case buildSlice t n ps=>rw [kU fun x hx=>h x.2 (by simp only [List.mem_toArray,XY];exact ⟨x,hx,rfl⟩)]
 case makeSlice t x y=>rw [h x (by simp),h y (by simp)]
 case load t x=>rw [h x (by simp)]
 case store t x y=>rw [h x (by simp),h y (by simp)]
 case nilCheck x=>rw [h x (by simp)]
 case binOp op t x y _=>rw [h x (by simp),h y (by simp)]
 case unOp op t x=>rw [h x (by simp)]
 case convert s d x=>rw [h x (by simp)]
 case makeInterface t x=>rw [h x (by simp)]
 case makeFunc f a b=>
  rw [my fun x hx=>h x (by simp only [Array.mem_append];exact .inl (by simpa using hx)),my (xs:=b.toList) fun x hx=>h x (by simp only [Array.mem_append];exact .inr (by simpa using hx))]
 case slice t x lo hi mx=>
  have hx:=h x (by simp);have hl:dY G fr lo=dY G e lo:=nr fun y hy=>h y (by subst hy;simp);have g:dY G fr hi=dY G e hi:=nr fun y hy=>h y (by subst hy;simp);have hm:dY G fr mx=dY G e mx:=nr fun y hy=>h y (by subst hy;simp);rw [hx,hl,g,hm]
 case fieldAddr t x f=>rw [h x (by simp)]
 case field t x f=>rw [h x (by simp)]
 case indexAddr t x y=>rw [h x (by simp),h y (by simp)]
 case index t x y=>rw [h x (by simp),h y (by simp)]
 case lookup t x y ok=>rw [h x (by simp),h y (by simp)]
 case mapUpdate t m k v=>rw [h m (by simp),h k (by simp),h v (by simp)]
 case insert t m k v=>rw [h m (by simp),h k (by simp),h v (by simp)]
 case range t x=>rw [h x (by simp)]
 case next x b=>
  cases b with
  | true=>show (do Ad (<- cj G fr x))=(do Ad (<- cj G e x));rw [h x (by simp)]
  | false=>rfl
 case extract x i=>rw [h x (by simp)]
 case makeMap t r=>cases r <;> rfl
 case call c=>
  have ha:mG G fr c.args.toList=mG G e c.args.toList:=my fun x hx=>h x (by simp only [Call.operands,Array.mem_append];exact .inr (by simpa using hx));rw [ha];cases hc:c.callee with
  | value f=>simp only [h f (by simp [Call.operands,hc])]
  | builtin b=>rfl
  | invoke r m=>rfl
theorem Fr.aY {fr:Fr} {d:Option Tmp} {v:AV} {t:Nat} (h:d≠some t):(fr.put d v).t.get t=fr.t.get t:=by
 cases d with
 | none=>rfl
 | some d=>
  simp only [Fr.put];split
  .have:d≠t:=fun e=>h (by rw [e]);simp [Tr.ko,this]
  .rfl
theorem Fr.put_comm {fr:Fr} {d e:Option Tmp} {v u:AV} (h: ∀t,d=some t->e≠some t):(fr.put d v).put e u=(fr.put e u).put d v:=by
 cases d with
 | none=>rfl
 | some d=>
  cases e with
  | none=>rfl
  | some e=>
   have hne:d≠e:=fun k=>h d rfl (by rw [k]);simp only [Fr.put];cases hd:d.blt fr.n <;> cases e.blt fr.n <;> simp [hd,Tr.put_comm _ _ _ _ _ hne]
theorem yw {X:Cx} {e:Nat->Option Nat} {ops:Array Oper} {fr a:Fr} {st:St} {o:Oper} (hs:fr.strict=a.strict) (h: ∀t∈o.looksAt ops,fr.t.get t=a.t.get t):fE X e ops.toList fr st o=fE X e ops.toList a st o:=by
 have hw:wanted ops.toList fr o.guard=wanted ops.toList a o.guard:=by
  unfold wanted;cases hg:o.guard with
  | none=>rfl
  | some p=>
   obtain ⟨j,want⟩:=p;simp only [XT];cases hd:(ops[j]?).bind (·.dst) with
   | none=>rfl
   | some d=>
    simp only [Fr.get];rw [h d (by simp [Oper.looksAt,hg,hd])]
 unfold fE;rw [hw,FK fun x hx=>D5 hs fun t ht=>h t (by
  subst ht;simp only [Oper.looksAt,Xj,List.mem_filterMap];exact .inl ⟨.tmp t,by simpa using hx,rfl⟩)]
theorem St.Ny {st:St} {i j:Nat} {a b:Obj} (h:i≠j):(st.put i a).put j b=(st.put j b).put i a:=by
 simp only [St.put,Tr.put_comm _ _ _ _ _ h]
theorem St.HD {st:St} {i:Nat} {a b:Obj} (h:i≠st.h):((st.put i a).new b).2=((st.new b).2).put i a:=by
 simp only [St.put,St.new,Tr.put_comm _ _ _ _ _ h]
theorem St.oo {st:St} {o:Obj} {r:Nat} (h:r≠st.h):(st.new o).2.get r=st.get r:=by
 simp only [St.get,St.new];cases h1:r.blt (st.h+1) <;> cases h2:r.blt st.h <;> simp only [Tr.ko]
 .rw [cW] at h1;rw [dD] at h2;omega
 .rw [dD] at h1;rw [cW] at h2;omega
 .rw [if_neg (fun e=>h e.symm)]
theorem zA: ∀{a b:List UInt8},mM a b=true->a=b
 | [],[],_=>rfl
 | a::l,b::m,h=>by
  unfold mM at h;split at h
  .rename_i e;rw [Yr.1 (W2 e),zA h]
  .cases h
 | [],_:: _,h=>by simp [mM] at h
 | _:: _,[],h=>by simp [mM] at h
theorem jN {g:AV->AV->Bool} (hg: ∀a b,g a b=true->a=b): ∀{a b:List AV},eX g a b=true->a=b
 | [],[],_=>rfl
 | a::l,b::m,h=>by
  unfold eX at h;split at h
  .rename_i e;rw [hg _ _ e,jN hg h]
  .cases h
 | [],_:: _,h=>by simp [eX] at h
 | _:: _,[],h=>by simp [eX] at h
theorem lS: ∀(f:Nat) (a b:AV),gE f a b=true->a=b
 | 0,_,_,h=>by simp [gE] at h
 | f+1,a,b,h=>by
  have ih:=fun {l m:List AV} (h:eX (gE f) l m=true)=>jN (lS f) h;unfold gE at h;split at h
  .rw [eq_of_beq h]
  .simp only [WY,XU] at h;rw [h.1,h.2]
  .rw [zA h]
  .rfl
  .rfl
  .rfl
  .rfl
  .rfl
  .rfl
  .rw [ih h]
  .simp only [WY,Nat.beq_eq] at h;rw [h.1,h.2]
  .rw [W2 h]
  .simp only [WY,Nat.beq_eq] at h;rw [h.1.1,h.1.2,h.2]
  .simp only [WY,Nat.beq_eq] at h;rw [h.1.1,h.1.2,h.2]
  .simp only [WY,Nat.beq_eq] at h;obtain ⟨⟨⟨⟨rfl,rfl⟩,rfl⟩,rfl⟩,rfl⟩:=h;rfl
  .simp only [WY,Nat.beq_eq,XU] at h;rw [h.1.1,h.1.2,ih h.2]
  .simp only [WY,Nat.beq_eq] at h;rw [h.1,lS f _ _ h.2]
  .rw [ih h]
  .rw [ih h]
  .cases h
theorem FD {a b:Obj} (h:B8 a b=true):a=b:=by
 unfold B8 at h;split at h
 .simp only [WY,Nat.beq_eq] at h;rw [h.1,jN (lS _) h.2]
 .simp only [WY,Nat.beq_eq] at h;rw [h.1,h.2]
 .simp only [WY,Nat.beq_eq] at h;rw [h.1.1.1,h.1.1.2,h.1.2,jN (lS _) h.2]
 .simp only [WY,Nat.beq_eq] at h;rw [h.1.1.1,h.1.1.2,h.1.2,jN (lS _) h.2]
 .cases h
theorem Bu {s t:St} {i:Nat} (h:sameAt s t i=true):t.get i=s.get i:=by
 unfold sameAt at h;split at h
 .rename_i a b h1 h2;rw [h1,h2,FD h]
 .cases h
def jH (x:Fx) (st a:St):Prop:=
 match x.did with
 | .kept=> ∀r∈x.reads,a.get r=st.get r
 | .wrote _ _=>a.ro=st.ro/\ ∀r∈x.reads,a.get r=st.get r
 | .made _ _=>a.h=st.h
 | .looked=>a=st
 | .all _ _=>a=st
theorem AF {X:Cx} {e:Nat->Option Nat} {all:List Oper} {fr:Fr} {st a:St} {o:Oper} {v:AV} {x:Fx} (h:fE X e all fr st o= .ok (v,x)) (hs:jH x st a):fE X e all fr a o= .ok (v,x):=by
 unfold fE at h ⊢;split at h
 .split at h
  .rename_i t nm n;obtain ⟨i,h1,h2,h3,rfl,rfl⟩:=qk h;obtain ⟨s1,s2⟩:=hs;exact Dv h1 (by rw [s2 nm (by simp)];exact h2) (by rw [s1];exact h3)
  simp only [ag] at h ⊢;obtain ⟨p,h1,h2⟩:=h;refine ⟨p,h1, ?_⟩;cases p with
  | val u=>exact h2
  | obj id f=>
   simp only [aC,ag,au] at h2 ⊢;obtain ⟨g,h3,⟨v',o'⟩,h4,d,b,m⟩:=h2;simp only [WV] at m;obtain ⟨rfl,rfl⟩:=m;cases o' with
   | none=>
    simp only [eG,WT] at b;subst b;refine ⟨g,by rw [hs id (by simp)];exact h3,⟨v',none⟩,h4,.kept,rfl,rfl⟩
   | some c=>
    simp only [eG] at b;split at b
    .cases b
    .rename_i l;simp only [WT] at b;subst b;obtain ⟨s1,s2⟩:=hs;refine ⟨g,by rw [s2 id (by simp)];exact h3,⟨v',some c⟩,h4,.wrote id c, ?_,rfl⟩;simp only [eG,s1,l]
  | both id k f=>
   have:x.did= .looked:=by
    simp only [aC,ag] at h2;obtain ⟨g,_,r,_,h3⟩:=h2;cases r with
    | none=>
     simp only [ag,au,WV] at h3;obtain ⟨_,_,_,rfl⟩:=h3;rfl
    | some j=>
     dsimp only at h3;split at h3
     .simp only [ag,au,WV] at h3;obtain ⟨_,_,_,_,_,rfl⟩:=h3;rfl
     .cases h3
   rw [jH,this] at hs;have hs:a=st:=hs;rw [hs];exact h2
  | new g f=>
   simp only [aC,WT,WV] at h2 ⊢;obtain ⟨rfl,rfl⟩:=h2;have:a.h=st.h:=hs;rw [this];simp
  | call f args=>
   simp only [aC] at h2 ⊢;split at h2
   .exact h2
   .split at h2
    .simp only [ag,au,WV] at h2;obtain ⟨v',h3,rfl,rfl⟩:=h2;have:a=st:=hs;rw [this];simp only [ag,au];exact ⟨v',h3,rfl⟩
    .simp only [ag,au] at h2;obtain ⟨⟨v',s'⟩,h3,h4⟩:=h2;simp only [WV] at h4;obtain ⟨rfl,rfl⟩:=h4;have:a=st:=hs;rw [this];simp only [ag,au];exact ⟨(v',s'),h3,rfl⟩
  | yield k args=>
   simp only [aC,ag,au] at h2 ⊢;obtain ⟨⟨v',s'⟩,h3,h4⟩:=h2;simp only [WV] at h4;obtain ⟨rfl,rfl⟩:=h4;have:a=st:=hs;rw [this];exact ⟨(v',s'),h3,rfl⟩
 .exact h
theorem Dy {X:Cx} {e:Nat->Option Nat} {all:List Oper} {fr:Fr} {st s0 s1:St} {o:Oper} {v:AV} {rs:List Nat} (h:fE X e all fr st o= .ok (v,⟨rs,.all s0 s1⟩)):s0=st:=by
 unfold fE at h;split at h
 .split at h
  .obtain ⟨i,h1,h2,h3,h4,a⟩:=qk h;simp at a
  simp only [ag] at h;obtain ⟨p,h1,h2⟩:=h;cases p with
  | val u=>simp [aC] at h2
  | obj id f=>
   simp only [aC,ag,au] at h2;obtain ⟨b,h3,⟨v',o'⟩,h4,d,a,c⟩:=h2;simp only [WV,Fx.mk.injEq] at c;obtain ⟨_,_,rfl⟩:=c;cases o' with
   | none=>simp [eG] at a
   | some _=>simp only [eG] at a;split at a <;> simp at a
  | both id k f=>
   simp only [aC,ag] at h2;obtain ⟨b,_,r,_,h3⟩:=h2;cases r with
   | none=>
    simp only [ag,au,WV] at h3;obtain ⟨_,_,_,h3⟩:=h3;simp at h3
   | some j=>
    dsimp only at h3;split at h3
    .simp only [ag,au,WV] at h3;obtain ⟨_,_,_,_,_,h3⟩:=h3;simp at h3
    .cases h3
  | new b f=>
   simp only [aC,WT,WV,Fx.mk.injEq] at h2;have:=h2.2.2;simp at this
  | call f args=>
   simp only [aC] at h2;split at h2
   .simp only [ag,au] at h2;obtain ⟨_,_,h3⟩:=h2;simp at h3
   .split at h2
    .simp only [ag,au] at h2;obtain ⟨_,_,h3⟩:=h2;simp at h3
    .simp only [ag,au] at h2;obtain ⟨_,_,h3⟩:=h2;simp only [WV,Fx.mk.injEq,dO.all.injEq] at h3;exact h3.2.2.1.symm
  | yield k args=>
   simp only [aC,ag,au] at h2;obtain ⟨_,_,h3⟩:=h2;simp only [WV,Fx.mk.injEq,dO.all.injEq] at h3;exact h3.2.2.1.symm
 .simp at h
theorem uJ {X:Cx} {e:Nat->Option Nat} {all:List Oper} {fr:Fr} {st:St} {o:Oper} {v:AV} {rs:List Nat} {n:Nat} {b:Obj} (h:fE X e all fr st o= .ok (v,⟨rs,.made n b⟩)):n=st.h/\rs=[]:=by
 unfold fE at h;split at h
 .split at h
  .obtain ⟨i,h1,h2,h3,h4,a⟩:=qk h;simp at a
  simp only [ag] at h;obtain ⟨p,h1,h2⟩:=h;cases p with
  | val u=>simp [aC] at h2
  | obj id f=>
   simp only [aC,ag,au] at h2;obtain ⟨b,h3,⟨v',o'⟩,h4,d,a,c⟩:=h2;simp only [WV,Fx.mk.injEq] at c;obtain ⟨_,_,rfl⟩:=c;cases o' with
   | none=>simp [eG] at a
   | some _=>simp only [eG] at a;split at a <;> simp at a
  | both id k f=>
   simp only [aC,ag] at h2;obtain ⟨b,_,r,_,h3⟩:=h2;cases r with
   | none=>
    simp only [ag,au,WV] at h3;obtain ⟨_,_,_,h3⟩:=h3;simp at h3
   | some j=>
    dsimp only at h3;split at h3
    .simp only [ag,au,WV] at h3;obtain ⟨_,_,_,_,_,h3⟩:=h3;simp at h3
    .cases h3
  | new b f=>
   simp only [aC,WT,WV,Fx.mk.injEq,dO.made.injEq] at h2;exact ⟨h2.2.2.1.symm,h2.2.1.symm⟩
  | call f args=>
   simp only [aC] at h2;split at h2
   .simp only [ag,au] at h2;obtain ⟨_,_,h3⟩:=h2;simp at h3
   .split at h2 <;> simp only [ag,au] at h2 <;> obtain ⟨_,_,h3⟩:=h2 <;> simp at h3
  | yield k args=>
   simp only [aC,ag,au] at h2;obtain ⟨_,_,h3⟩:=h2;simp at h3
 .simp at h
theorem gy {l:List Nat} {i:Nat} (h:l.contains i=false): ∀r∈l,i≠r:=fun r hr e=>by
 subst e;have:l.contains i=true:=by simpa using hr
 rw [this] at h;cases h
theorem FL {X:Cx} {e:Nat->Option Nat} {all:List Oper} {d f:Fr} {st:St} {o1 l:Oper} {v1 v2:AV} {x1 c:Fx} (h1:fE X e all d st o1= .ok (v1,x1)) (h2:fE X e all f (x1.did.app st) l= .ok (v2,c))
  (a:quiet x1=true\/quiet c=true\/apart x1 c=true):
  jH c (x1.did.app st) st/\jH x1 st (c.did.app st)/\x1.did.app (c.did.app st)=c.did.app (x1.did.app st):=by
 obtain ⟨k,d1⟩:=x1;obtain ⟨r2,d2⟩:=c;have g:(d1= .kept/\k=[])\/(d2= .kept/\r2=[])\/apart ⟨k,d1⟩ ⟨r2,d2⟩=true:=by
  rcases a with a | a | a
  .left;cases d1 <;> simp [quiet] at a;exact ⟨rfl,a⟩
  .right;left;cases d2 <;> simp [quiet] at a;exact ⟨rfl,a⟩
  .exact .inr (.inr a)
 rcases g with ⟨rfl,rfl⟩ | ⟨rfl,rfl⟩ | a
 .refine ⟨?_,by simp [jH],rfl⟩;cases d2 <;> simp [jH,dO.app]
 .refine ⟨by simp [jH], ?_,rfl⟩;cases d1 <;> simp [jH,dO.app]
 .cases d1 with
  | kept=>
   cases d2 with
   | kept=>exact ⟨by simp [jH,dO.app],by simp [jH,dO.app],rfl⟩
   | looked=>exact ⟨by simp [jH,dO.app],by simp [jH,dO.app],rfl⟩
   | wrote i o=>
    simp only [apart,Bool.not_eq_true'] at a;refine ⟨by simp [jH,dO.app], ?_,rfl⟩;simp only [jH,dO.app];exact fun r hr=>St.aY (gy a r hr)
   | made i o=>
    simp only [apart,Bool.not_eq_true'] at a;obtain ⟨hi,_⟩:=uJ h2;refine ⟨by simp [jH,dO.app], ?_,rfl⟩;simp only [jH,dO.app];intro r hr;exact St.oo fun e=>gy a r hr (by rw [hi,e];rfl)
   | all s0 s=>
    simp only [apart,XH] at a;obtain rfl:s0=st:=Dy h2;refine ⟨by simp [jH,dO.app], ?_,rfl⟩;simp only [jH,dO.app];exact fun r hr=>Bu (a r hr)
  | wrote i o=>
   cases d2 with
   | kept=>
    simp only [apart,Bool.not_eq_true'] at a;refine ⟨?_,by simp [jH,dO.app],rfl⟩;simp only [jH,dO.app];exact fun r hr=>(St.aY (gy a r hr)).symm
   | looked=>simp [apart,dO.vg] at a
   | wrote j p=>
    simp only [apart,WY,Bool.not_eq_true'] at a;obtain ⟨⟨q1,q2⟩,q3⟩:=a;have b:i≠j:=fun e=>by subst e;simp at q1
    refine ⟨⟨rfl,fun r hr=>(St.aY (gy q2 r hr)).symm⟩,⟨rfl,fun r hr=>St.aY (gy q3 r hr)⟩, ?_⟩;simp only [dO.app];exact St.Ny fun e=>b e.symm
   | made j p=>
    simp only [apart,WY,Bool.not_eq_true'] at a;obtain ⟨⟨q1,q2⟩,q3⟩:=a;have b:i≠j:=fun e=>by subst e;simp at q1
    obtain ⟨hj,_⟩:=uJ h2;have hj:j=st.h:=hj;refine ⟨rfl,⟨rfl,fun r hr=>St.oo fun e=>gy q3 r hr (by rw [hj,e])⟩, ?_⟩;simp only [dO.app];exact (St.HD (by rw [<- hj];exact b)).symm
   | all s0 s=>simp [apart] at a
  | made i o=>
   obtain ⟨hi,m⟩:=uJ h1;cases d2 with
   | kept=>
    simp only [apart,Bool.not_eq_true'] at a;refine ⟨?_,by simp [jH,dO.app],rfl⟩;simp only [jH,dO.app];exact fun r hr=>(St.oo fun e=>gy a r hr (by rw [hi,e])).symm
   | looked=>simp [apart,dO.vg] at a
   | wrote j p=>
    simp only [apart,WY,Bool.not_eq_true'] at a;obtain ⟨⟨q1,q2⟩,q3⟩:=a;have b:i≠j:=fun e=>by subst e;simp at q1
    refine ⟨⟨rfl,fun r hr=>(St.oo fun e=>gy q2 r hr (by rw [hi,e])).symm⟩,rfl, ?_⟩;simp only [dO.app];exact St.HD fun e=>b (by rw [hi,e])
   | made j p=>simp [apart] at a
   | all s0 s=>simp [apart] at a
  | looked=>
   cases d2 with
   | kept=>exact ⟨by simp [jH,dO.app],by simp [jH,dO.app],rfl⟩
   | looked=>exact ⟨by simp [jH,dO.app],by simp [jH,dO.app],rfl⟩
   | wrote j p=>simp [apart,dO.vg] at a
   | made j p=>simp [apart,dO.vg] at a
   | all s0 s=>simp [apart] at a
  | all s0 s=>
   cases d2 with
   | kept=>
    simp only [apart,XH] at a;obtain rfl:s0=st:=Dy h1;refine ⟨?_,by simp [jH,dO.app],rfl⟩;simp only [jH,dO.app];exact fun r hr=>(Bu (a r hr)).symm
   | _=>simp [apart] at a
def QP (ops:Array Oper) (p q:Nat×AV×Fx):Prop:=
 (quiet p.2.2=true\/quiet q.2.2=true\/apart p.2.2 q.2.2=true)/\ ∀o1 a,ops[p.1]? =some o1->ops[q.1]? =some a->o1.apart ops a=true
theorem HS {X:Cx} {e:Nat->Option Nat} {ops:Array Oper} {p q:Nat×AV×Fx} {l:List (Nat×AV×Fx)} {fr fr':Fr} {st st':St} (h:yW X e ops.toList (p::q::l) fr st fr' st') (ht:QP ops p q):yW X e ops.toList (q::p::l) fr st fr' st':=by
 obtain ⟨i,v1,x1⟩:=p;obtain ⟨j,v2,k⟩:=q;cases h with
 | cons a h1 t=>
  cases t with
  | cons b h2 t=>
   rename_i o1 c;obtain ⟨t1,t2⟩:=ht;have d:=t2 o1 c (by simpa using a) (by simpa using b);obtain ⟨m,a2,a3⟩:=Oper.apart_spec d;obtain ⟨s1,s2,n⟩:=FL h1 h2 t1;have f:fE X e ops.toList fr st c= .ok (v2,k):=by
    have:=AF h2 s1;rw [<- this];exact yw (gW _ _ _).symm fun t ht=>(Fr.aY fun e=>m t e ht).symm
   have g:fE X e ops.toList (fr.put c.dst v2) (k.did.app st) o1= .ok (v1,x1):=by
    have:=AF h1 s2;rw [<- this];exact yw (gW _ _ _) fun t ht=>Fr.aY fun e=>a3 t e ht
   refine .cons b f (.cons a g ?_);rw [n,Fr.put_comm (fun t o r=>a2 t r o)];exact t
theorem zu {X:Cx} {e:Nat->Option Nat} {ops:Array Oper} {q:Nat×AV×Fx} {l2:List (Nat×AV×Fx)} {fr':Fr} {st':St}: ∀{l1:List (Nat×AV×Fx)} {fr:Fr} {st:St},yW X e ops.toList (l1++q::l2) fr st fr' st'->(∀p∈l1,QP ops p q)->yW X e ops.toList (q::(l1++l2)) fr st fr' st'
 | [],_,_,h,_=>h
 | p::l1,fr,st,h,ht=>by
  cases h with
  | cons ho h t=>
   have ih:=zu t fun p hp=>ht p (by simp [hp]);exact HS (.cons ho h ih) (ht _ (by simp))
theorem zT {ops:Array Oper} (h:kE ops.toList=true) {j:Nat} {o:Oper} {e:Edge} (ho:ops[j]? =some o) (he:e∈o.after) (hb:Region.binds .any e=true):e.on < j:=by
 simp only [kE,WY,XH] at h;have:=h.1 (o,j) (by
  rw [List.mem_zipIdx_iff_getElem?];simpa using ho)
 simp only at this;have:=this e (by simpa using he);rw [hb] at this;simpa [dD] using this
theorem zX {ops:Array Oper} (h:kE ops.toList=true) {i j:Nat} {o o':Oper} (a:i < j) (ho:ops[j]? =some o) (b:ops[i]? =some o'):o'.apart ops o=true\/behind ops.toList (j+1) j i=true:=by
 simp only [kE,WY,XH] at h;have:=h.2 (o,j) (by
  rw [List.mem_zipIdx_iff_getElem?];simpa using ho)
 simp only at this;have:=this (o',i) (by
  rw [List.mem_iff_getElem?];refine ⟨i, ?_⟩;rw [List.getElem?_take,if_pos a,List.getElem?_zipIdx];simp [b])
 simpa using this
def Cm (ops:List Oper) (p q:Nat×AV×Fx):Prop:=quiet p.2.2=true\/quiet q.2.2=true\/apart p.2.2 q.2.2=true\/behind ops (q.1+1) q.1 p.1=true
theorem oM {ops:List Oper} {j:Nat} {x:Fx}: ∀{seen:List (Nat×Fx)},nZ ops j x seen=true-> ∀p∈seen,apart p.2 x=true\/behind ops (j+1) j p.1=true
 | [],_,p,hp=>by cases hp
 | (i,y)::l,h,p,hp=>by
  simp only [nZ,WY,XL] at h;rcases Xb.1 hp with rfl | hp
  .exact h.1
  .exact oM h.2 p hp
theorem oA {X:Cx} {all:List Oper} {draw:Bool}: ∀{l:List Oper} {j:Nat} {seen:List (Nat×Fx)} {fr fr':Fr} {st st':St},dM X all draw j seen l fr st= .ok (fr',st')->l=all.drop j->
  ∃L,yW X (fun _=>none) all L fr st fr' st'/\L.map (·.1)=List.range' j l.length/\(draw=true->L.Pairwise (Cm all)/\ ∀s∈seen,∀q∈L,quiet q.2.2=true\/apart s.2 q.2.2=true\/behind all (q.1+1) q.1 s.1=true)
 | [],j,seen,fr,fr',st,st',h,hl=>by
  simp only [dM,WT,WV] at h;obtain ⟨rfl,rfl⟩:=h;exact ⟨[],.nil,rfl,fun _=>⟨.nil,by simp⟩⟩
 | o::l,j,seen,fr,fr',st,st',h,hl=>by
  simp only [dM,ag] at h;obtain ⟨⟨v,x⟩,h1,h2⟩:=h;have ho:all[j]? =some o:=by
   have:=Xy (·[0]?) hl;simpa using this.symm
  have c:l=all.drop (j+1):=by
   have:=Xy List.tail hl;simpa [List.tail_drop] using this
  split at h2
  .rename_i hd;obtain ⟨L,k1,k2,e⟩:=oA h2 c;refine ⟨(j,v,x)::L,.cons ho ((zD X all fr st o).trans h1) k1,by simp [k2,List.range'_succ],fun b=> ?_⟩;have d:quiet x=true:=by rw [b] at hd;simpa using hd
   obtain ⟨m1,m2⟩:=e b;refine ⟨.cons (fun q _=> .inl d) m1,fun s hs q a=> ?_⟩;rcases Xb.1 a with rfl | a
   .exact .inl d
   .exact m2 s hs q a
  .rename_i hd;split at h2
   .rename_i f;obtain ⟨L,k1,k2,e⟩:=oA h2 c;refine ⟨(j,v,x)::L,.cons ho ((zD X all fr st o).trans h1) k1,by simp [k2,List.range'_succ],fun b=> ?_⟩;obtain ⟨m1,m2⟩:=e b;refine ⟨.cons (fun q d=> ?_) m1,fun s hs q a=> ?_⟩
    .rcases m2 (j,x) (by simp) q d with h | h | h
     .exact .inr (.inl h)
     .exact .inr (.inr (.inl h))
     .exact .inr (.inr (.inr h))
    .rcases Xb.1 a with rfl | a
     .exact .inr (oM f s hs)
     .exact m2 s (by simp [hs]) q a
   .cases h2
theorem ni {X:Cx} {e:Nat->Option Nat} {all:List Oper}: ∀{l:List Oper} {j:Nat} {seen:List (Nat×Fx)} {fr fr':Fr} {st st':St},di X e all j seen l fr st= .ok (fr',st')->l=all.drop j->
  ∃L,yW X e all L fr st fr' st'/\L.map (·.1)=List.range' j l.length/\L.Pairwise (Cm all)/\ ∀s∈seen,∀q∈L,quiet q.2.2=true\/apart s.2 q.2.2=true\/behind all (q.1+1) q.1 s.1=true
 | [],j,seen,fr,fr',st,st',h,hl=>by
  simp only [di,WT,WV] at h;obtain ⟨rfl,rfl⟩:=h;exact ⟨[],.nil,rfl,.nil,by simp⟩
 | o::l,j,seen,fr,fr',st,st',h,hl=>by
  simp only [di,ag] at h;obtain ⟨⟨v,x⟩,h1,h2⟩:=h;have ho:all[j]? =some o:=by
   have:=Xy (·[0]?) hl;simpa using this.symm
  have b:l=all.drop (j+1):=by
   have:=Xy List.tail hl;simpa [List.tail_drop] using this
  split at h2
  .rename_i hd;obtain ⟨L,k1,k2,d⟩:=ni h2 b;refine ⟨(j,v,x)::L,.cons ho h1 k1,by simp [k2,List.range'_succ], ?_⟩;have c:quiet x=true:=by simpa using hd
   obtain ⟨m1,m2⟩:=d;refine ⟨.cons (fun q _=> .inl c) m1,fun s hs q a=> ?_⟩;rcases Xb.1 a with rfl | a
   .exact .inl c
   .exact m2 s hs q a
  .rename_i hd;split at h2
   .rename_i f;obtain ⟨L,k1,k2,d⟩:=ni h2 b;refine ⟨(j,v,x)::L,.cons ho h1 k1,by simp [k2,List.range'_succ], ?_⟩;obtain ⟨m1,m2⟩:=d;refine ⟨.cons (fun q c=> ?_) m1,fun s hs q a=> ?_⟩
    .rcases m2 (j,x) (by simp) q c with h | h | h
     .exact .inr (.inl h)
     .exact .inr (.inr (.inl h))
     .exact .inr (.inr (.inr h))
    .rcases Xb.1 a with rfl | a
     .exact .inr (oM f s hs)
     .exact m2 s (by simp [hs]) q a
   .cases h2
structure Ud (ops:Array Oper) (listed:Array Bool) (L:List (Nat×AV×Fx)):Prop where
 left: ∀k,k < ops.size->(listed.getD k true=false↔k∈L.map (·.1))
 lt: ∀k∈L.map (·.1),k < ops.size
 sorted:(L.map (·.1)).Pairwise (· < ·)
 closed: ∀k o e,ops[k]? =some o->listed.getD k true=true->e∈o.after->Region.binds .any e=true->listed.getD e.on false=true
 size:listed.size=ops.size
 cm:L.Pairwise (Cm ops.toList)
theorem Be {l:Array Bool} {k:Nat}:l.getD k false=true->l.getD k true=true:=by
 simp only [Array.getD_eq_getD_getElem?];cases l[k]? <;> simp
theorem rQ {ops:Array Oper} {listed:Array Bool} {L:List (Nat×AV×Fx)} (hc:Ud ops listed L): ∀(f j i:Nat),behind ops.toList f j i=true->
  (∀o e,ops[j]? =some o->e∈o.after->Region.binds .any e=true->listed.getD e.on false=true)->listed.getD i true=true
 | 0,_,_,h,_=>by simp [behind] at h
 | f+1,j,i,h,hr=>by
  simp only [behind,XT] at h;split at h
  .rename_i o ho;simp only [List.any_eq_true,WY,XL] at h;obtain ⟨e,he,hb,h2⟩:=h;have hl:=hr o e ho (by simpa using he) hb;rcases h2 with h2 | ⟨_,h2⟩
   .rw [<- W2 h2];exact Be hl
   .exact rQ hc f e.on i h2 fun o' d a b c=>hc.closed e.on o' d a (Be hl) b c
  .cases h
theorem mem_ready {ops:Array Oper} {listed:Array Bool} {i:Nat}:i∈Region.ready .any ops listed↔i < ops.size/\listed.getD i true=false/\ ∀o e,ops[i]? =some o->e∈o.after->Region.binds .any e=true->listed.getD e.on false=true:=by
 simp only [Region.ready,List.mem_filter,List.mem_range,WY,Bool.not_eq_true'];constructor
 .rintro ⟨h1,h2,h3⟩;refine ⟨h1,h2,fun o e ho he hb=> ?_⟩;rw [ho] at h3;simp only [Option.map_some,Option.getD_some,Array.all_eq_true'] at h3;have:=h3 e he;rw [hb] at this;simpa using this
 .rintro ⟨h1,h2,h3⟩;refine ⟨h1,h2, ?_⟩;rw [Array.getElem?_eq_getElem h1];simp only [Option.map_some,Option.getD_some,Array.all_eq_true'];intro e he;cases hb:Region.binds .any e with
  | false=>rfl
  | true=>simpa using h3 _ e (Array.getElem?_eq_getElem h1) he hb
section
variable {P:Program} {A:Nat->Prop}
theorem zq {X:Cx} {Z:Nat->Option Nat} {ro:Option Nat} (W:Good P X) {ops:Array Oper} (B:ro.isSome=true->iJ ops.toList=true) (n:kE ops.toList=true) {Q:Exit->Act->World->Prop} {fr':Fr} {st':St}: ∀(fuel:Nat) (listed:Array Bool) (L:List (Nat×AV×Fx)) (fr:Fr) (st:St) (g:Gh) (a:Act) (w:World),
  L.length=fuel->Ud ops listed L->yW X Z ops.toList L fr st fr' st'->Rel X A ro g fr st a w->(∀a' g' w',Rel X A ro g' fr' st' a' w'->a'.defers=a.defers->Kp A g w g' w'->Q .normal a' w')->wpAnyIn (fe ro) 0 P .any ops Q fuel listed a w
 | 0,listed,L,fr,st,g,a,w,hl,hc,hr,l,M=>by
  have:L=[]:=XF hl;subst this;cases hr;refine ⟨?_,M a g w l rfl (Kp.refl _ _ _)⟩;apply List.eq_nil_iff_forall_not_mem.2;intro i hi;obtain ⟨h1,h2,_⟩:=mem_ready.1 hi;have:=(hc.left i h1).1 h2;cases this
 | fuel+1,listed,L,fr,st,g,a,w,hl,hc,hr,l,M=>by
  refine ⟨fun C=> ?_,fun i hi=> ?_⟩
  .exfalso;cases L with
   | nil=>simp at hl
   | cons p L=>
    have hp:=hc.lt p.1 (by simp);have:p.1∈Region.ready .any ops listed:=mem_ready.2 ⟨hp,(hc.left p.1 hp).2 (by simp),fun o e ho he hb=>by
     have D:=zT n ho he hb;have E:e.on < ops.size:=by omega
     have F:e.on∉(p::L).map (·.1):=by
      intro hm;simp only [W8,Xb] at hm;rcases hm with hm | hm
      .omega
      .have:=hc.sorted;simp only [W8,XZ] at this;have:=this.1 _ hm;omega
     have:=mt (hc.left e.on E).1 F;have r:e.on < listed.size:=by rw [hc.size];exact E
     simp only [Array.getD_eq_getD_getElem?,Array.getElem?_eq_getElem r,Option.getD_some] at this ⊢;simpa using this⟩
    rw [C] at this;cases this
  .obtain ⟨h1,h2,h3⟩:=mem_ready.1 hi;have hm:=(hc.left i h1).1 h2;obtain ⟨q,hq,N⟩:=XY.1 hm;subst N;obtain ⟨Y,L2,rfl⟩:=List.append_of_mem hq;have s: ∀p∈Y,QP ops p q:=fun p hp=>by
    have D:p.1 < q.1:=by
     have:=hc.sorted;rw [Xh,List.pairwise_append] at this;exact this.2.2 p.1 (XY.2 ⟨p,hp,rfl⟩) q.1 (by simp)
    have G: ∀f,behind ops.toList f q.1 p.1=true->False:=fun f hb=>by
     have:=rQ hc f q.1 p.1 hb h3;have H:=(hc.left p.1 (by omega)).2 (by simp only [Xh,Xj,XY];exact .inl ⟨p,hp,rfl⟩);rw [this] at H;cases H
    refine ⟨?_,fun o1 o2 e1 e2=> ?_⟩
    .have:=hc.cm;rw [List.pairwise_append] at this;rcases this.2.2 p hp q (by simp) with h | h | h | h
     .exact .inl h
     .exact .inr (.inl h)
     .exact .inr (.inr h)
     .exact (G _ h).elim
    .rcases zX n D e2 e1 with h | h
     .exact h
     .exact (G _ h).elim
   have O:=zu hr s;cases O with
   | cons ho h t=>
    rename_i j v x o;refine yr W B (by simpa using ho) h l fun a' g' w' u hd hk=> ?_;refine zq W B n fuel _ (Y++L2) _ _ g' a' w' (by simp at hl ⊢;omega) ?_ t u fun R S T I U V=>M R S T I (U.trans hd) (hk.trans V);have r:j < listed.size:=by rw [hc.size];exact h1
    have m: ∀k b,(listed.setIfInBounds j true).getD k b=if k=j then true else listed.getD k b:=fun k b=>by
     simp only [Array.getD_eq_getD_getElem?,Array.getElem?_setIfInBounds];by_cases hk:j=k
     .subst hk;simp [r]
     .rw [if_neg hk,if_neg (fun e=>hk e.symm)]
    have c:=hc.sorted;rw [Xh,W8,List.pairwise_append,XZ] at c;refine ⟨fun k hk=> ?_,fun k hk=>hc.lt k ?_, ?_,fun k o' e J z he hb=> ?_,by simp [hc.size], ?_⟩
    .rw [m];by_cases d:k=j
     .subst d;simp only [if_true,Bool.true_eq_false,false_iff];intro hm;simp only [Xh,Xj] at hm;rcases hm with hm | hm
      .have:=c.2.2 k hm k (by simp);omega
      .have:=c.2.1.1 k hm;omega
     .rw [if_neg d,hc.left k hk];simp only [Xh,W8,Xj,Xb];constructor
      .rintro (h | h | h)
       .exact .inl h
       .exact absurd h d
       .exact .inr h
      .rintro (h | h)
       .exact .inl h
       .exact .inr (.inr h)
    .simp only [Xh,W8,Xj,Xb] at hk ⊢;rcases hk with h | h
     .exact .inl h
     .exact .inr (.inr h)
    .rw [Xh,List.pairwise_append];exact ⟨c.1,c.2.1.2,fun x hx y hy=>c.2.2 x hx y (by simp [hy])⟩
    .rw [m] at z ⊢;by_cases K:e.on=j
     .rw [if_pos K]
     .rw [if_neg K];by_cases d:k=j
      .subst d;exact h3 o' e J he hb
      .rw [if_neg d] at z;exact hc.closed k o' e J z he hb
    .have:=hc.cm;rw [List.pairwise_append,XZ] at this;rw [List.pairwise_append];exact ⟨this.1,this.2.1.2,fun x hx y hy=>this.2.2 x hx y (by simp [hy])⟩
theorem Rel.drew {X:Cx} {ro:Option Nat} {g:Gh} {fr:Fr} {st:St} {a:Act} {w:World} (h:Rel X A ro g fr st a w):Rel X A ro g fr st a w.drew:=⟨h.mode,h.fr,h.inv.drew,h.G,h.marks⟩
theorem BK {X:Cx} {ro:Option Nat} (f:Good P X) (hm:P.follows .mixedOrders=true) {id:Nat} {ops:Array Oper} (c:ro.isSome=true->iJ ops.toList=true) {draw:Bool} (d:draw=true->kE ops.toList=true) {fr fr':Fr} {st st':St} {g:Gh} {a:Act} {w:World} {Q:Exit->Act->World->Prop}
  (h:dM X ops.toList draw 0 [] ops.toList fr st= .ok (fr',st')) (b:Rel X A ro g fr st a w) (i: ∀a' g' w',Rel X A ro g' fr' st' a' w'->a'.defers=a.defers->Kp A g w g' w'->Q .normal a' w'):(Code.region id ops draw).wpIn (fe ro) 0 P Q a w:=by
 obtain ⟨L,k1,k2,j⟩:=oA h (by simp);have hlen:L.map (·.1)=List.range ops.size:=by rw [k2,List.range_eq_range'];simp
 cases draw with
 | false=>
  refine wpIn_region ?_;have:=rH f c k1 b i
  rwa [hlen] at this
 | true=>
  obtain ⟨m1,_⟩:=j rfl;refine wpIn_region_any hm ?_;refine zq f c (d rfl) ops.size _ L fr st g a w.drew ?_ ?_ k1 b.drew fun a' g' w' hr hd hk=>i a' g' w' hr hd ((Kp.drew A g w).trans hk)
  .have:=Xy List.length hlen;simpa using this
  .refine ⟨fun k hk=> ?_,fun k hk=> ?_, ?_,fun k o e ho hl=> ?_,by simp,m1⟩
   .rw [hlen];simp [hk]
   .rw [hlen] at hk;simpa using hk
   .rw [hlen];exact List.pairwise_lt_range
   .have hk:k < ops.size:=by
     rcases Nat.lt_or_ge k ops.size with q | q
     .exact q
     .rw [Array.getElem?_eq_none q] at ho;cases ho
    simp [hk] at hl
theorem zP {X:Cx} {ro:Option Nat} (f:Good P X) (hm:P.follows .mixedOrders=true) {id:Nat} {ops:Array Oper} (c:ro.isSome=true->iJ ops.toList=true) {i:Nat->Option Nat} (d:kE ops.toList=true) {fr fr':Fr} {st st':St} {g:Gh} {a:Act} {w:World} {Q:Exit->Act->World->Prop}
  (h:di X i ops.toList 0 [] ops.toList fr st= .ok (fr',st')) (b:Rel X A ro g fr st a w) (j: ∀a' g' w',Rel X A ro g' fr' st' a' w'->a'.defers=a.defers->Kp A g w g' w'->Q .normal a' w'):(Code.region id ops true).wpIn (fe ro) 0 P Q a w:=by
 obtain ⟨L,k1,k2,l⟩:=ni h (by simp);have hlen:L.map (·.1)=List.range ops.size:=by rw [k2,List.range_eq_range'];simp
 obtain ⟨m1,_⟩:=l;refine wpIn_region_any hm ?_;refine zq f c d ops.size _ L fr st g a w.drew ?_ ?_ k1 b.drew fun a' g' w' hr hd hk=>j a' g' w' hr hd ((Kp.drew A g w).trans hk)
 .have:=Xy List.length hlen;simpa using this
 .refine ⟨fun k hk=> ?_,fun k hk=> ?_, ?_,fun k o e ho hl=> ?_,by simp,m1⟩
  .rw [hlen];simp [hk]
  .rw [hlen] at hk;simpa using hk
  .rw [hlen];exact List.pairwise_lt_range
  .have hk:k < ops.size:=by
    rcases Nat.lt_or_ge k ops.size with q | q
    .exact q
    .rw [Array.getElem?_eq_none q] at ho;cases ho
   simp [hk] at hl
end
end Go.VM
