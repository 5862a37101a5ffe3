/-
  (A part of the proof: Ops12, OpsE, Reg, Reg2, Reg3.)
-/
import Derived.Test.YtmngkfmgnkeclaaGreatDoorVmAH
import Derived.Laws.MakeOwn
import Derived.OrdersIn
import Derived.RangeFuncIn
import Derived.LoopNIn
import Derived.Orders
namespace Go.VM
def ku (T:TT) (A:Nat→Prop) (g:Gh) (st':St) (w:World) (v:AV) (x:Value) (w':World):Prop:= ∃g',R g' v x∧Inv T A g' st' w'∧Kp A g w g' w'
def uA (P:Program) (f:FuncId) (args:Array Value) (w:World) (post:Value→World→Prop):Prop:=
 (∃x w',(callFunc f args).run P w= .ok (.value x) w'∧post x w')∨
 ((callFunc f args).run P w= .ok (.enter f args) w∧Calls P f args w fun e w'=> ∃x,e= .returned x∧post x w')
def A0 (P:Program) (l:Nat) (args:Array Value) (w:World) (post:Value→World→Prop):Prop:=
 ∃fn tmps a c,(Instr.yield l args).run P w= .ok (.round l fn tmps a c) w∧RoundIn Fence.wide 0 P l fn tmps a c w fun e w'=> ∃x,e= .returned x∧post x w'
structure xU (P:Program) (T:TT) (G:Nat→Option (List AV)) (C:cW):Prop where
 bare: ∀f args v,C.bare f args= .ok v→ ∀A g st w xs,GR g G→bz args=true→RL g args xs→Inv T A g st w→uA P f xs.toArray w (ku T A g st w v)
 wide: ∀f args st v st',C.wide f args st= .ok (v,st')→ ∀A g w xs,GR g G→RL g args xs→Inv T A g st w→
  (callFunc f xs.toArray).run P w= .ok (.enter f xs.toArray) w∧Calls P f xs.toArray w fun e w'=> ∃x,e= .returned x∧ku T A g st' w v x w'
 look: ∀f args st v,C.look f args st= .ok v→ ∀A g w xs,GR g G→RL g args xs→Inv T A g st w→uA P f xs.toArray w (ku T A g st w v)
 round: ∀k args st v st',C.round k args st= .ok (v,st')→ ∀A g w xs l,GR g G→RL g args xs→Inv T A g st w→g.E k=some (.blk l)→A0 P l xs.toArray w (ku T A g st' w v)
def Ax (P:Program) (T:TT) (G:Nat→Option (List AV)) (prim:FuncId→Option Prim):Prop:=
 ∀f q,prim f=some q→ ∀C args p v fx st A g w xs,GR g G→fu q args= .ok p→aD C st p= .ok (v,fx)→RL g args xs→Inv T A g st w→uA P f xs.toArray w (ku T A g (fx.did.app st) w v)
section
variable {P:Program} {T:TT} {A:Nat→Prop} {g:Gh} {st:St} {w:World}
theorem He (hT:vy P T) {C:cW} {t:TypeId} {ts:Array TypeId} {ty:TypeId} {x v:AV} {xv:Value} {p:dH} {fx:Fx} (hts:ts[0]? =some t) (hp:yf T t x= .ok p) (hrun:aD C st p= .ok (v,fx)) (hx:R g x xv) (h:Inv T A g st w):
  bc P T A g w v (fx.did.app st) (Builtin.len_ ts ty #[xv]):=by
 simp only [yf,ae] at hp
 obtain ⟨i,h1,h2⟩:=hp
 have hi:=hT t i (ck.1 h1)
 have plain: ∀{n:Int},p= .val (.int .i64 n)→(Builtin.len_ ts ty #[xv]).run P w= .ok (goInt n) w→bc P T A g w v (fx.did.app st) (Builtin.len_ ts ty #[xv]):=fun hp hr=>by
  subst hp
  simp only [aD,Except.ok.injEq,Prod.mk.injEq] at hrun
  obtain ⟨rfl,rfl⟩:=hrun
  exact bc.of h hr (by simp only [R];rfl)
 split at h2
 ·rename_i n e _ hu
  simp only [ai] at h2
  exact plain h2.symm (by simp [Builtin.len_,hts,qw hi hu])
 ·rename_i s hu
  simp only [ai] at h2
  simp only [R] at hx
  subst hx
  exact plain h2.symm (by simp [Builtin.len_,hts,sU hi hu,nB])
 ·rename_i e hu
  simp only [ai] at h2
  simp only [R] at hx
  subst hx
  exact plain h2.symm (by simp [Builtin.len_,hts,eC hi hu])
 ·rename_i e z es p' hu
  simp only [ai] at h2
  simp only [R] at hx
  obtain ⟨_,b,o,cap,rfl,_⟩:=hx
  exact plain h2.symm (by simp [Builtin.len_,hts,eC hi hu])
 ·rename_i e a1 a2 a3 a4 a5 hu
  simp only [ai] at h2
  simp only [R] at hx
  obtain ⟨b,o,_,c,rfl,_⟩:=hx
  exact plain h2.symm (by simp [Builtin.len_,hts,eC hi hu])
 ·rename_i e k z n hu
  simp only [ai] at h2
  simp only [R] at hx
  obtain ⟨_,b,cap,_,_,rfl,_⟩:=hx
  exact plain h2.symm (by simp [Builtin.len_,hts,eC hi hu])
 ·rename_i e hu
  simp only [ai] at h2
  simp only [R] at hx
  obtain ⟨a,rfl⟩:=hx
  exact plain h2.symm (by simp [Builtin.len_,hts,eC hi hu])
 ·rename_i k e hu
  simp only [ai] at h2
  simp only [R] at hx
  subst hx
  exact plain h2.symm (by simp [Builtin.len_,hts,sM hi hu])
 ·rename_i k e es hu
  simp only [ai] at h2
  simp only [R] at hx
  obtain ⟨b,ents,clk,m1,rfl,m2⟩:=hx
  have hheap:=h.M b ents clk m1
  have hgo:(getObj b).run P w= .ok (.map ents.toArray clk) w:=by simp [getObj,Sem.run,hheap]
  have hl:ents.length=es.length:=REs_len m2
  exact plain h2.symm (by simp [Builtin.len_,hts,sM hi hu,hgo,hl])
 ·rename_i k e m hu
  simp only [ai] at h2
  subst h2
  simp only [ib,aD,ae,ai] at hrun
  obtain ⟨o,g1,⟨v',o'⟩,⟨v'',g2,g4⟩,dd,g5,g6⟩:=hrun
  simp only [Prod.mk.injEq] at g4 g6
  obtain ⟨rfl,rfl⟩:=g4
  simp only [dZ,Except.ok.injEq] at g5
  subst g5
  obtain ⟨rfl,rfl⟩:=g6
  split at g2
  ·rename_i es
   simp only [Except.ok.injEq] at g2
   subst g2
   simp only [R] at hx
   obtain ⟨b,hE,rfl⟩:=hx
   obtain ⟨b',ents,clk,q1,q2,q3,q4⟩:=h.H m _ g1
   have hb:b'=b:=by have:=q1.symm.trans hE;simpa using this
   subst hb
   have hgo:(getObj b').run P w= .ok (.map ents clk) w:=by simp [getObj,Sem.run,q2]
   have hl:=REs_len q3
   simp only [Array.length_toList] at hl
   exact bc.of h (x:=goInt ents.size) (by simp [Builtin.len_,hts,sM hi hu,hgo]) (by simp only [R,hl];rfl)
  ·cases g2
 ·cases h2
 where
 REs_len: ∀{es:List (AV×AV)} {ents:List MapEntry},pY g es ents→ents.length=es.length
  | [],_,h=>by simp only [pY] at h;subst h;rfl
  | (_,_)::es,_,h=>by
   simp only [pY] at h
   obtain ⟨e,l,rfl,_,_,h3⟩:=h
   simp [REs_len h3]
theorem nY {lower:Bool}: ∀{l:List AV} {ls:List Value} {a v:AV} {x:Value},tE lower a l= .ok v→R g a x→RL g l ls→
  ∃z,(ls.foldlM (if lower then Builtin.min2 else Builtin.max2) x).run P w= .ok z w∧R g v z
 | [],_,a,v,x,h,hx,hl=>by
  simp only [tE,Except.ok.injEq] at h
  subst h
  simp only [RL] at hl
  subst hl
  exact ⟨x,rfl,hx⟩
 | b::l,_,a,v,x,h,hx,hl=>by
  simp only [RL] at hl
  obtain ⟨y,ys,rfl,h1,h2⟩:=hl
  simp only [tE,ae] at h
  obtain ⟨c,h3,h4⟩:=h
  obtain ⟨z,e1,e2⟩:=D5 (P:=P) (w:=w) h3 hx h1
  obtain ⟨z',e3,e4⟩:=nY h4 e2 h2
  refine ⟨z', ?_,e4⟩
  rw [List.foldlM_cons]
  cases lower <;> simp only [Bool.false_eq_true,if_false,if_true] at e1 e3 ⊢ <;> simp only [Sem.run_bind,e1,Result.andThen_ok,e3]
def _root_.Go.Oper.Gu (P:Program) (o:Oper) (a:Act) (w:World) (K:Act→World→Prop):Prop:=
 match (execOp a.eval o).run P w with
 | .ok (.value v) w'=>K (a.put o.dst v) w'
 | .ok .skip w'=>K (a.put o.dst Go.undef) w'
 | .ok (.enter f args) w'=>Calls P f args w' fun e w''=> ∃x,e= .returned x∧K (a.put o.dst x) w''
 | .ok (.round l f tmps x c) w'=>RoundIn Fence.wide 0 P l f tmps x c w' fun e w''=> ∃x,e= .returned x∧K (a.put o.dst x) w''
 | _=>False
def fe (ro:Option Nat):Fence:={Fence.wide with round:=ro}
theorem I4 {o:Oper} {a:Act} {K:Act→World→Prop} {Q:Exit→Act→World→Prop} {ro:Option Nat} (h:o.Gu P a w K) (hd: ∀c,o.op≠ .defer c):o.wpIn (fe ro) 0 P a w K Q:=by
 refine ⟨fun _ _=>trivial, ?_⟩
 show o.uponIn (fe ro) 0 P a K Q ((o.semAt ro a.eval).run P w)
 rw [Oper.semAt_eq ro a.eval o hd]
 unfold Go.Oper.Gu at h
 generalize (execOp a.eval o).run P w=r at h
 cases r with
 | halt x w'=>exact h.elim
 | ok x w'=>
  cases x <;> first | exact h | exact h.elim | skip
  ·refine ⟨fun e=>by simp [fe,Fence.wide] at e, ?_⟩
   have h:CallsIn Fence.wide 0 P _ _ w' fun e w''=> ∃x,e= .returned x∧K (a.put o.dst x) w'':=callsIn_wide.2 h
   refine CallsIn.mono h ?_
   rintro e w'' ⟨x,rfl,hk⟩
   exact hk
  ·refine ⟨fun e=>by simp [fe,Fence.wide] at e, ?_⟩
   refine RoundIn.mono h ?_
   rintro e w'' ⟨x,rfl,hk⟩
   exact hk
theorem eT {o:Oper} {a:Act} {K:Act→World→Prop} {s:Sem Value} {v:AV} {st':St} (he:execOp a.eval o=(do pure (.value (← s)))) (hg:bc P T A g w v st' s)
  (hK: ∀x w',ku T A g st' w v x w'→K (a.put o.dst x) w'):o.Gu P a w K:=by
 obtain ⟨x,g',w',h1,h2,h3,h4⟩:=hg
 unfold Go.Oper.Gu
 rw [he]
 simp only [Sem.run_bind,h1,Result.andThen_ok,Sem.run_pure]
 exact hK x w' ⟨g',h2,h3,h4⟩
theorem vl {o:Oper} {a:Act} {K:Act→World→Prop} {s:Sem Unit} {st':St} (he:execOp a.eval o=(do s;pure .skip)) (hg:AK P T A g w st' s)
  (hK: ∀x w',ku T A g st' w undef x w'→K (a.put o.dst x) w'):o.Gu P a w K:=by
 obtain ⟨g',w',h1,h3,h4⟩:=hg
 unfold Go.Oper.Gu
 rw [he]
 simp only [Sem.run_bind,h1,Result.andThen_ok,Sem.run_pure]
 exact hK Go.undef w' ⟨g',Am,h3,h4⟩
theorem I8 {o:Oper} {a:Act} {K:Act→World→Prop} {l:Nat} {args:Array Value} {v:AV} {st':St} (he:execOp a.eval o=Instr.yield l args) (hc:A0 P l args w (ku T A g st' w v))
  (hK: ∀x w',ku T A g st' w v x w'→K (a.put o.dst x) w'):o.Gu P a w K:=by
 unfold Go.Oper.Gu
 rw [he]
 obtain ⟨fn,tmps,x,c,h1,h2⟩:=hc
 rw [h1]
 refine RoundIn.mono h2 ?_
 rintro e w' ⟨y,rfl,h3⟩
 exact ⟨y,rfl,hK y w' h3⟩
theorem vN {o:Oper} {a:Act} {K:Act→World→Prop} {f:FuncId} {args:Array Value} {v:AV} {st':St} (he:execOp a.eval o=callFunc f args) (hc:uA P f args w (ku T A g st' w v))
  (hK: ∀x w',ku T A g st' w v x w'→K (a.put o.dst x) w'):o.Gu P a w K:=by
 unfold Go.Oper.Gu
 rw [he]
 rcases hc with ⟨x,w',h1,h2⟩ | ⟨h1,h2⟩
 ·rw [h1]
  exact hK x w' h2
 ·rw [h1]
  refine h2.mono ?_
  rintro e w' ⟨x,rfl,h3⟩
  exact ⟨x,rfl,hK x w' h3⟩
theorem sq {X:cV AV} {p:dH} (h:(do pure (dH.val (← X)):cV dH)= .ok p): ∃v,X= .ok v∧p= .val v:=by
 simp only [ae,ai] at h
 obtain ⟨v,h1,h2⟩:=h
 exact ⟨v,h1,h2.symm⟩
theorem xq (zs:Array Value): ∀(c:Nat),(madeCells zs (c * zs.size)).toList=(List.replicate c zs.toList).flatten
 | 0=>by simp [madeCells]
 | c+1=>by
  have ih:=xq zs c
  simp only [madeCells,Array.toList_map,Array.toList_range] at ih ⊢
  rw [show (c+1) * zs.size=zs.size+c * zs.size by rw [Nat.add_mul,Nat.one_mul,Nat.add_comm],List.range_add,List.map_append,List.replicate_succ,List.flatten_cons, ← ih,List.map_map]
  congr 1
  ·apply List.ext_getElem?
   intro k
   rw [List.getElem?_map]
   by_cases hk:k < zs.size
   ·rw [List.getElem?_range hk,Array.getElem?_toList,Array.getElem?_eq_getElem hk]
    simp [Nat.mod_eq_of_lt hk,hk]
   ·rw [List.getElem?_eq_none (by simp;omega),List.getElem?_eq_none (by simp;omega)];rfl
  ·apply List.map_congr_left
   intro k _
   simp
theorem mr (l:List Value): ∀c,jo l c=(List.replicate c l).flatten
 | 0=>rfl
 | c+1=>by rw [jo,mr l c,List.replicate_succ,List.flatten_cons]
theorem va (hT:vy P T) {C:cW} {t:TypeId} {l c v:AV} {lv cv:Value} {p:dH} {fx:Fx} (hp:oE T t l c= .ok p) (hrun:aD C st p= .ok (v,fx)) (hl:R g l lv) (hc:R g c cv) (h:Inv T A g st w):
  bc P T A g w v (fx.did.app st) (Instr.makeSlice t lv cv):=by
 simp only [oE,ae] at hp
 obtain ⟨it,h1,h2⟩:=hp
 rw [ck] at h1
 split at h2
 ·rename_i e kl ln kc cn hund
  simp only [ae] at h2
  obtain ⟨i,h3,h4⟩:=h2
  rw [ck] at h3
  split at h4
  ·rename_i hch
   simp only [Bool.and_eq_true,Nat.ble_eq] at hch
   obtain ⟨⟨⟨⟨c1,c2⟩,c3⟩,c4⟩,c5⟩:=hch
   simp only [R] at hl hc
   subst hl hc
   obtain ⟨d,u1,u2,_⟩:=(hT t it h1).und
   rw [hund] at u2
   have ht:P.underlying t=some (.slice e):=by rw [u1,u2]
   obtain ⟨f,i1,i2,i3,z,i4,i5,i6,i7,i8,i9⟩:=(hT e i h3).info
   have hmk:=run_make (P:=P) w t e f z ht i1 i4 kl kc (.ofNat ln) (.ofNat cn) (Int.natCast_nonneg ln) (Int.ofNat_le.2 c1) (by rw [i3];exact Int.ofNat_le.2 c3) (Int.ofNat_le.2 c4)
   have hz:(madeCells z.cells (cn * z.cells.size)).toList=(List.replicate cn z.cells.toList).flatten:=xq z.cells cn
   have hone: ∀x∈jo z.cells.toList cn,x.oneCell'=true:=fun x hx=>by
    rw [mr] at hx
    obtain ⟨l',hl',hx'⟩:=List.mem_flatten.1 hx
    have:=List.eq_of_mem_replicate hl'
    subst this
    exact i7 x (by simpa using hx')
   have hcells:(madeCells z.cells ((Int.ofNat cn).toNat * f.size))=(jo z.cells.toList cn).toArray:=by
    rw [mr, ← hz,i2, ← i5];simp
   split at h4
   ·rename_i hl0
    have hl0:=Nat.eq_of_beq_eq_true hl0
    subst hl0
    simp only [ai] at h4
    subst h4
    simp only [aD,Except.ok.injEq,Prod.mk.injEq] at hrun
    obtain ⟨rfl,rfl⟩:=hrun
    obtain ⟨g',k1,k2,k3⟩:=h.Lx (els:=[]) (vals:=[]) (rest:=jo z.cells.toList cn) (cap:=cn) (n:=0) h3 c5 rfl (by simp) rfl (by simp [flat,RL]) (by simp) (by rw [List.length_nil,Nat.zero_add,mr, ← hz,Array.length_toList,size_madeCells,i5]) (Nat.zero_le _)
    refine ⟨_,g',_,hmk,k3, ?_, ?_⟩
    ·rw [hcells];exact k1
    ·rw [hcells];exact k2
   simp only [ai] at h4
   subst h4
   simp only [aD,Except.ok.injEq,Prod.mk.injEq] at hrun
   obtain ⟨rfl,rfl⟩:=hrun
   obtain ⟨k1,k2,k3⟩:=h.xf e (wa (i9 g) cn) hone
   refine ⟨_,g.cS st.h (.blk w.heap.size),_,hmk, ?_, ?_, ?_⟩
   ·simp only [R]
    exact ⟨w.heap.size,0,Gh.aM _ _ _,_,rfl,c1,c5,fun _=>rfl,.inl rfl⟩
   ·rw [hcells];exact k1
   ·rw [hcells];exact k2
  ·cases h4
 ·cases h2
theorem qB {C:cW} {u v:AV} {fx:Fx} (h:aD C st (.val u)= .ok (v,fx)):u=v∧fx=⟨[],.kept⟩:=by
 simp only [aD,Except.ok.injEq,Prod.mk.injEq] at h
 exact ⟨h.1,h.2.symm⟩
theorem Dg (X:Cx) (hT:vy P X.T) (hC:xU P X.T X.G X.C) (hprim:Ax P X.T X.G X.prim) {o:Oper} {fr:Fr} {a:Act} {p:dH} {v:AV} {fx:Fx} {K:Act→World→Prop}
  (hp:eG X.T X.prim X.imm X.G fr o.op= .ok p) (hrun:aD X.C st p= .ok (v,fx)) (hG:GR g X.G) (hf:vh g fr a.tmps) (h:Inv X.T A g st w)
  (hK: ∀x w',ku X.T A g (fx.did.app st) w v x w'→K (a.put o.dst x) w'):o.Gu P a w K:=by
 obtain ⟨dst,op,type,pos,after,guard⟩:=o
 have val: ∀{Y:cV AV} {s:Sem Value},(do pure (dH.val (← Y)):cV dH)= .ok p→execOp a.eval ⟨dst,op,type,pos,after,guard⟩=(do pure (.value (← s)))→
   (∀u,Y= .ok u→bc P X.T A g w u st s)→Oper.Gu P ⟨dst,op,type,pos,after,guard⟩ a w K:=fun hY he hg=>by
  obtain ⟨u,h1,rfl⟩:=sq hY
  obtain ⟨rfl,rfl⟩:=qB hrun
  exact eT he (hg u h1) hK
 cases op <;> simp only [eG] at hp <;> (try (cases hp;done))
 case move x=>exact val hp (s:=pure (a.eval x)) (by simp [execOp]) fun u hu=>bc.of h rfl (aP hG hf hu)
 case assign x=>exact val hp (s:=pure (a.eval x)) (by simp [execOp]) fun u hu=>bc.of h rfl (aP hG hf hu)
 case pick c x y=>
  refine val hp (s:=do pure (if ← Go.asBool (a.eval c) then a.eval x else a.eval y)) (by simp [execOp]) fun u hu=> ?_
  simp only [ae] at hu
  obtain ⟨cv,h1,b,h2,h3⟩:=hu
  have hc:=aP hG hf h1
  cases cv <;> simp only [VM.asBool,Except.ok.injEq] at h2 <;> (try (cases h2;done))
  subst h2
  simp only [R] at hc
  rename_i b
  cases b with
  | true=>exact bc.of h (by simp [hc,Go.asBool]) (aP hG hf h3)
  | false=>exact bc.of h (by simp [hc,Go.asBool]) (aP hG hf h3)
 case alloc t=>
  simp only [ae,ai] at hp
  obtain ⟨i,h1,rfl⟩:=hp
  simp only [aD,Except.ok.injEq,Prod.mk.injEq] at hrun
  obtain ⟨rfl,rfl⟩:=hrun
  exact eT (s:=Instr.alloc t true (.tuple #[])) (by simp [execOp]) (C0 (hT t i (ck.1 h1)) h _) hK
 case box t x=>
  simp only [ae] at hp
  obtain ⟨i,h1,u,h2,h3⟩:=hp
  exact eT (s:=Instr.box t (a.eval x)) (by simp [execOp]) (Gn h3 hrun (aP hG hf h2) h) hK
 case build t parts=>
  refine val hp (s:=Instr.build t (parts.map fun (i,x)=>(i,a.eval x))) (by simp [execOp]) fun u hu=> ?_
  simp only [ae] at hu
  obtain ⟨ps,h1,h2⟩:=hu
  exact C2 hT h2 (by simpa using kA hG hf h1) h
 case buildSlice t len parts=>
  refine val hp (s:=Instr.buildSlice t len (parts.map fun (i,x)=>(i,a.eval x))) (by simp [execOp]) fun u hu=> ?_
  simp only [ae] at hu
  obtain ⟨ps,h1,h2⟩:=hu
  exact ug hT h2 (by simpa using kA hG hf h1) h
 case makeSlice t x y=>
  simp only [ae] at hp
  obtain ⟨u1,h1,u2,h2,h3⟩:=hp
  exact eT (s:=Instr.makeSlice t (a.eval x) (a.eval y)) (by simp [execOp]) (va hT h3 hrun (aP hG hf h1) (aP hG hf h2) h) hK
 case load t x=>
  simp only [ae] at hp
  obtain ⟨i,h1,u,h2,h3⟩:=hp
  exact eT (s:=Instr.loadAt t (a.eval x)) (by simp [execOp]) (D3 (hT t i (ck.1 h1)) h3 hrun (aP hG hf h2) h) hK
 case store t x y=>
  simp only [ae] at hp
  obtain ⟨i,h1,u,h2,hp⟩:=hp
  split at hp
  ·simp only [ae] at hp
   obtain ⟨u',h3,h4⟩:=hp
   obtain ⟨rfl,hg⟩:=yg (hT t i (ck.1 h1)) h4 hrun (aP hG hf h2) (aP hG hf h3) h
   exact vl (s:=Instr.storeAt t (a.eval x) (a.eval y)) (by simp [execOp]) hg hK
  ·simp only [ae] at hp
   obtain ⟨u',h3,h4⟩:=hp
   obtain ⟨rfl,hg⟩:=CF (hT t i (ck.1 h1)) h4 hrun (aP hG hf h2) (aP hG hf h3) h
   exact vl (s:=Instr.storeAt t (a.eval x) (a.eval y)) (by simp [execOp]) hg hK
 case nilCheck x=>
  obtain ⟨u,h1,rfl⟩:=sq hp
  obtain ⟨rfl,rfl⟩:=qB hrun
  simp only [ae] at h1
  obtain ⟨u',h2,h3⟩:=h1
  have hr:=aP hG hf h2
  split at h3 <;> (try (cases h3;done)) <;> simp only [ai] at h3 <;> subst h3
  ·have hr':=hr
   simp only [R] at hr'
   obtain ⟨_,b,o,hx,_⟩:=hr'
   exact eT (s:=pure (a.eval x)) (by simp [execOp,hx]) (bc.of h rfl hr) hK
  ·have hr':=hr
   simp only [R] at hr'
   obtain ⟨b,_,hx⟩:=hr'
   exact eT (s:=pure (a.eval x)) (by simp [execOp,hx]) (bc.of h rfl hr) hK
  ·have hr':=hr
   simp only [R] at hr'
   obtain ⟨_,b,_,_,_,hx⟩:=hr'
   exact eT (s:=pure (a.eval x)) (by simp [execOp,hx]) (bc.of h rfl hr) hK
  ·have hr':=hr
   simp only [R] at hr'
   obtain ⟨a',c',hx,_⟩:=hr'
   exact eT (s:=pure (a.eval x)) (by simp [execOp,hx]) (bc.of h rfl hr) hK
 case binOp op t x y yt=>
  refine val hp (s:=do eqGuard op t x y (a.eval x) (a.eval y);Go.binOp op t (a.eval x) (a.eval y)) (by simp [execOp]) fun u hu=> ?_
  simp only [ae] at hu
  obtain ⟨x',h1,y',h2,h3⟩:=hu
  exact zW hT h3 (aP hG hf h1) (aP hG hf h2) h
 case unOp op t x=>
  refine val hp (s:=Op.unary op (a.eval x)) (by simp [execOp]) fun u hu=> ?_
  simp only [ae] at hu
  obtain ⟨x',h1,h3⟩:=hu
  exact Df h3 (aP hG hf h1) h
 case convert s d x=>
  simp only [ae] at hp
  obtain ⟨u,h2,h3⟩:=hp
  exact eT (s:=Go.convert s d (a.eval x)) (by simp [execOp]) (yk hT h3 hrun (aP hG hf h2) h) hK
 case makeInterface t x=>
  refine val hp (s:=Instr.makeInterface t (a.eval x)) (by simp [execOp]) fun u hu=> ?_
  simp only [ae] at hu
  obtain ⟨i,h1,h2⟩:=hu
  have hi:=hT t i (ck.1 h1)
  obtain ⟨d,d1,d2,_⟩:=hi.me
  have fin:(∀ms,d≠ .interface ms)→(do pure (AV.iface t (← bQ X.G fr x)):cV AV)= .ok u→bc P X.T A g w u st (Instr.makeInterface t (a.eval x)):=fun hd he=>by
   simp only [ae,ai] at he
   obtain ⟨x',h1,rfl⟩:=he
   refine bc.of h (x:= .iface t (a.eval x)) ?_ (by simp only [R];exact ⟨_,rfl,aP hG hf h1⟩)
   simp only [Instr.makeInterface,Sem.run_bind,d1,Result.andThen_ok]
   cases d <;> first | rfl | exact absurd rfl (hd _)
  split at h2
  ·cases h2
  ·cases h2
  ·rename_i n1 n2
   refine fin (fun ms hms=> ?_) h2
   subst hms
   cases hu:i.und <;> rw [hu] at d2 n1 n2 <;> simp only [x6] at d2 <;> (try (cases d2;done)) <;> first
    | exact n1 _ rfl
    | exact n2 rfl
    | (obtain ⟨_,e,_⟩:=d2;cases e;done)
    | (obtain ⟨_,_,_,e⟩:=d2;cases e;done)
 case makeFunc f first cap=>
  refine val hp (s:=Instr.makeFunc f (first.map a.eval) (cap.map a.eval)) (by simp [execOp]) fun u hu=> ?_
  simp only [ae,ai] at hu
  obtain ⟨l1,h1,l2,h2,rfl⟩:=hu
  refine bc.of h (x:= .func f (first.map a.eval) (cap.map a.eval)) rfl ?_
  simp only [R]
  exact ⟨_,_,rfl,by simpa using mi hG hf h1,by simpa using mi hG hf h2⟩
 case makeMap t r=>
  cases r with
  | some r=>simp at hp
  | none=>
   simp only [Except.ok.injEq] at hp
   subst hp
   simp only [aD,Except.ok.injEq,Prod.mk.injEq] at hrun
   obtain ⟨rfl,rfl⟩:=hrun
   exact eT (s:=Instr.makeMap t none) (by simp [execOp]) (yA t h) hK
 case slice t x lo hi mx=>
  have hmx:mx≠none→hi≠none:=by
   intro h1 h2
   subst h2
   cases mx with
   | none=>exact h1 rfl
   | some m=>simp at hp
  have hp':(do pure (dH.val (← (do lD X.T t (← bQ X.G fr x) (← dV X.G fr lo) (← dV X.G fr hi) (← dV X.G fr mx)))):cV dH)= .ok p:=by
   cases mx <;> cases hi <;> first | exact hp | exact absurd rfl (hmx (by simp))
  refine val hp' (s:=Instr.sliceAt t (a.eval x) (lo.map a.eval) (hi.map a.eval) (mx.map a.eval)) (by simp [execOp]) fun u hu=> ?_
  simp only [ae] at hu
  obtain ⟨x',h1,l',h2,i',h3,m',h4,h5⟩:=hu
  refine CX hT h5 (aP hG hf h1) (mN hG hf h2) (mN hG hf h3) (mN hG hf h4) h fun hm hh=> ?_
  subst hh
  have hh:hi≠none:=hmx fun e=>by
   subst e
   simp only [dV,Except.ok.injEq] at h4
   exact hm h4.symm
  cases hi with
  | none=>exact hh rfl
  | some q=>
   simp only [dV,ae,ai] at h3
   obtain ⟨_,_,e⟩:=h3
   cases e
 case fieldAddr t x f=>
  refine val hp (s:=Instr.fieldAt t (a.eval x) f) (by simp [execOp]) fun u hu=> ?_
  simp only [ae] at hu
  obtain ⟨x',h1,h3⟩:=hu
  exact vd hT h3 (aP hG hf h1) h
 case field t x f=>
  refine val hp (s:=Instr.field t (a.eval x) f) (by simp [execOp]) fun u hu=> ?_
  simp only [ae] at hu
  obtain ⟨x',h1,h3⟩:=hu
  exact CQ hT h3 (aP hG hf h1) h
 case indexAddr t x i=>
  simp only [ae] at hp
  obtain ⟨x',h1,hp⟩:=hp
  split at hp
  ·simp only [ae] at hp
   obtain ⟨i',h2,h3⟩:=hp
   exact eT (s:=Instr.indexAt t (a.eval x) (a.eval i)) (by simp [execOp]) (yn hT h3 hrun (aP hG hf h1) (aP hG hf h2) h) hK
  ·refine val hp (s:=Instr.indexAt t (a.eval x) (a.eval i)) (by simp [execOp]) fun u hu=> ?_
   simp only [ae] at hu
   obtain ⟨i',h2,h3⟩:=hu
   exact ve hT h3 (aP hG hf h1) (aP hG hf h2) h
 case index t x i=>
  refine val hp (s:=Instr.index t (a.eval x) (a.eval i)) (by simp [execOp]) fun u hu=> ?_
  simp only [ae] at hu
  obtain ⟨x',h1,i',h2,h3⟩:=hu
  exact CS hT h3 (aP hG hf h1) (aP hG hf h2) h
 case lookup t x k ok=>
  simp only [ae] at hp
  obtain ⟨x',h1,k',h2,h3⟩:=hp
  exact eT (s:=Instr.lookup t (a.eval x) (a.eval k) ok) (by simp [execOp]) (zV hT h3 hrun (aP hG hf h1) (aP hG hf h2) h) hK
 case mapUpdate t m k x=>
  simp only [ae] at hp
  obtain ⟨m',h1,k',h2,x',h3,h4⟩:=hp
  obtain ⟨rfl,hg⟩:=oV hT h4 hrun (aP hG hf h1) (aP hG hf h2) (aP hG hf h3) h
  exact vl (s:=Instr.mapUpdate t (a.eval m) (a.eval k) (a.eval x)) (by simp [execOp]) hg hK
 case insert t m k x=>
  simp only [ae] at hp
  obtain ⟨m',h1,k',h2,x',h3,h4⟩:=hp
  obtain ⟨rfl,hg⟩:=oV hT h4 hrun (aP hG hf h1) (aP hG hf h2) (aP hG hf h3) h
  exact vl (s:=Instr.mapUpdate t (a.eval m) (a.eval k) (a.eval x)) (by simp [execOp]) hg hK
 case range t x=>
  simp only [ae] at hp
  obtain ⟨i,h1,x',h2,h3⟩:=hp
  split at h3
  ·rename_i s hu
   simp only [ai] at h3
   subst h3
   simp only [aD,Except.ok.injEq,Prod.mk.injEq] at hrun
   obtain ⟨rfl,rfl⟩:=hrun
   have hr:=aP hG hf h2
   simp only [R] at hr
   exact eT (s:=Instr.range t (a.eval x)) (by simp [execOp]) (by rw [hr];exact CL (hT t i (ck.1 h1)) hu h) hK
  ·cases h3
 case next x b=>
  cases b with
  | false=>simp at hp
  | true=>
   simp only [ae] at hp
   obtain ⟨x',h1,h2⟩:=hp
   exact eT (s:=Instr.next (a.eval x) true type) (by simp [execOp]) (Eu h2 hrun (aP hG hf h1) h) hK
 case extract x i=>
  refine val hp (s:=Instr.extract (a.eval x) i) (by simp [execOp]) fun u hu=> ?_
  simp only [ae] at hu
  obtain ⟨x',h1,h2⟩:=hu
  have hr:=aP hG hf h1
  split at h2
  ·simp only [R] at hr
   obtain ⟨ys,hx,hl⟩:=hr
   obtain ⟨y,e1,e2⟩:=It hl h2
   exact bc.of h (by rw [hx];simp only [Instr.extract];rw [show ys[i]? =some y by simpa using e1];rfl) e2
  ·cases h2
 case call c=>
  simp only [ae] at hp
  obtain ⟨args,h1,h2⟩:=hp
  have hargs:=mi hG hf h1
  split at h2
  ·rename_i b hcal
   have he: ∀s:Sem Value,Go.builtin b c.argTypes type (c.args.map fun | .const _=>true | _=>false) (c.args.map a.eval)=(do pure (.value (← s)))→execOp a.eval ⟨dst,.call c,type,pos,after,guard⟩=(do pure (.value (← s))):=fun s hs=>by
    simp only [execOp,resolve,hcal,pure_bind,invoke]
    exact hs
   have hlist:(c.args.map a.eval).toList=c.args.toList.map a.eval:=by simp
   unfold eV at h2
   split at h2
   ·rename_i t xt sv xv htypes
    simp only [RL] at hargs
    obtain ⟨y1,l1,e1,r1,y2,l2,rfl,r2,rfl⟩:=hargs
    have harr:c.args.map a.eval= #[y1,y2]:=by apply Array.ext';rw [hlist,e1]
    have htarr:c.argTypes= #[t,xt]:=by apply Array.ext';rw [htypes]
    simp only [ae] at h2
    obtain ⟨i,h3,ix,h4,h5⟩:=h2
    have hi:=hT t i (ck.1 h3)
    have hix:=hT xt ix (ck.1 h4)
    split at h5
    ·rename_i e hu hni
     simp only [ae] at h5
     obtain ⟨ei,h6,h7⟩:=h5
     have hei:=hT e ei (ck.1 h6)
     obtain ⟨d,d1,d2,_⟩:=hi.und
     rw [hu] at d2
     simp only [x6] at d2
     subst d2
     obtain ⟨dx,x1,x2,_⟩:=hix.und
     have hdx: ∀k,dx≠ .int k:=fun k hk=>by
      subst hk
      cases hux:ix.und <;> rw [hux] at x2 hni <;> simp only [x6] at x2 <;> (try (cases x2;done)) <;> (try (simp [DF] at hni;done))
     split at h7
     ·rename_i new hev
      split at h7
      ·exact eT (he (Builtin.append_ c.argTypes type (c.args.map a.eval)) rfl) (by rw [harr,htarr];exact vQ ⟨d1,⟨dx,x1,hdx⟩,ck.1 h6,hei⟩ hev h7 hrun r1 r2 h) hK
      split at h7
      ·exact eT (he (Builtin.append_ c.argTypes type (c.args.map a.eval)) rfl) (by rw [harr,htarr];exact xI ⟨d1,⟨dx,x1,hdx⟩,ck.1 h6,hei⟩ hev h7 hrun r1 r2 h) hK
      split at h7
      ·exact eT (he (Builtin.append_ c.argTypes type (c.args.map a.eval)) rfl) (by rw [harr,htarr];exact vf ⟨d1,⟨dx,x1,hdx⟩,ck.1 h6,hei⟩ hev h7 hrun r1 r2 h) hK
      ·exact eT (he (Builtin.append_ c.argTypes type (c.args.map a.eval)) rfl) (by rw [harr,htarr];exact sO ⟨d1,⟨dx,x1,hdx⟩,ck.1 h6,hei⟩ hev h7 hrun r1 r2 h) hK
     ·cases h7
    ·cases h5
   ·rename_i t l xv htypes
    simp only [RL] at hargs
    obtain ⟨y1,l1,e1,r1,rfl⟩:=hargs
    have harr:c.args.map a.eval= #[y1]:=by apply Array.ext';rw [hlist,e1]
    have hts:c.argTypes[0]? =some t:=by rw [← Array.getElem?_toList,htypes];rfl
    exact eT (he (Builtin.len_ c.argTypes type (c.args.map a.eval)) rfl) (by rw [harr];exact He hT hts h2 hrun r1 h) hK
   ·rename_i xv l
    obtain ⟨u,h3,rfl⟩:=sq h2
    obtain ⟨rfl,rfl⟩:=qB hrun
    simp only [RL] at hargs
    obtain ⟨y1,l1,e1,r1,r2⟩:=hargs
    obtain ⟨z,e2,e3⟩:=nY (P:=P) (w:=w) h3 r1 r2
    exact eT (he (Builtin.min_ c.argTypes type (c.args.map a.eval)) rfl) (bc.of h (by simp only [Builtin.min_];rw [hlist,e1];exact e2) e3) hK
   ·rename_i xv l
    obtain ⟨u,h3,rfl⟩:=sq h2
    obtain ⟨rfl,rfl⟩:=qB hrun
    simp only [RL] at hargs
    obtain ⟨y1,l1,e1,r1,r2⟩:=hargs
    obtain ⟨z,e2,e3⟩:=nY (P:=P) (w:=w) h3 r1 r2
    exact eT (he (Builtin.max_ c.argTypes type (c.args.map a.eval)) rfl) (bc.of h (by simp only [Builtin.max_];rw [hlist,e1];exact e2) e3) hK
   ·cases h2
  ·rename_i f hcal
   simp only [ae] at h2
   obtain ⟨fv,h3,h4⟩:=h2
   have hfv:=aP hG hf h3
   split at h4
   ·rename_i gid first cap
    simp only [R] at hfv
    obtain ⟨a',c',hfx,ha',hc'⟩:=hfv
    have hall:RL g (first++args++cap) (a'.toList++c.args.toList.map a.eval++c'.toList):=dP (dP ha' hargs) hc'
    have he:execOp a.eval ⟨dst,.call c,type,pos,after,guard⟩=callFunc gid (a'.toList++c.args.toList.map a.eval++c'.toList).toArray:=by
     simp only [execOp,resolve,hcal,hfx,Deferred.ofValue,pure_bind,invoke]
     congr 1
     apply Array.ext'
     simp
    split at h4
    ·rename_i q hq
     exact vN he (hprim gid q hq X.C _ p v fx st A g w _ hG h4 hrun hall h) hK
    ·simp only [ai] at h4
     subst h4
     simp only [aD] at hrun
     split at hrun
     ·rename_i hb
      simp only [ae,ai,Prod.mk.injEq] at hrun
      obtain ⟨v',h5,rfl,rfl⟩:=hrun
      simp only [Bool.and_eq_true] at hb
      exact vN he (hC.bare _ _ _ h5 A g st w _ hG hb.1 (mU hall) h) hK
     ·split at hrun
      ·simp only [ae,ai,Prod.mk.injEq] at hrun
       obtain ⟨v',h5,rfl,rfl⟩:=hrun
       exact vN he (hC.look _ _ _ _ h5 A g w _ hG (mU hall) h) hK
      ·simp only [ae,ai] at hrun
       obtain ⟨⟨v',s'⟩,h5,h6⟩:=hrun
       simp only [Prod.mk.injEq] at h6
       obtain ⟨rfl,rfl⟩:=h6
       exact vN he (.inr (hC.wide _ _ _ _ _ h5 A g w _ hG hall h)) hK
   ·rename_i k
    simp only [R] at hfv
    obtain ⟨l,hl,hfx⟩:=hfv
    simp only [ai] at h4
    subst h4
    simp only [aD,ae,ai] at hrun
    obtain ⟨⟨v',s'⟩,h5,h6⟩:=hrun
    simp only [Prod.mk.injEq] at h6
    obtain ⟨rfl,rfl⟩:=h6
    have he:execOp a.eval ⟨dst,.call c,type,pos,after,guard⟩=Instr.yield l (c.args.toList.map a.eval).toArray:=by
     simp only [execOp,resolve,hcal,hfx,Deferred.ofValue,pure_bind,invoke]
     congr 1
     apply Array.ext'
     simp
    exact I8 he (hC.round _ _ _ _ _ h5 A g w _ l hG hargs h hl) hK
   ·cases h4
  ·cases h2
end
section
variable {P:Program} {T:TT} {A:Nat→Prop} {g:Gh} {st:St} {w:World}
theorem Inv.xx (h:Inv T A g st w):Inv T A g (st.new .xx).2 w where
 F:=h.F
 M:=h.M
 E id hid:=h.E id (Nat.le_of_succ_le hid)
 H id o ho:=by
  rcases St.fF.1 ho with ⟨rfl,rfl⟩ | ⟨_,hget⟩
  ·exact h.E _ (Nat.le_refl _)
  ·exact h.H id o hget
 D id id' o1 o2 b h1 h2 a1 a2:=by
  rcases St.fF.1 h1 with ⟨rfl,rfl⟩ | ⟨_,g1⟩
  ·exact a1.elim
  ·rcases St.fF.1 h2 with ⟨rfl,rfl⟩ | ⟨_,g2⟩
   ·exact a2.elim
   ·exact h.D id id' o1 o2 b g1 g2 a1 a2
 own id o b h1 a1 hr:=by
  rcases St.fF.1 h1 with ⟨rfl,rfl⟩ | ⟨_,g1⟩
  ·exact a1.elim
  ·exact h.own id o b g1 a1 hr
 up:=h.up
theorem Inv.lay: ∀{l:List Nat} {st:St},Inv T A g st w→Inv T A g (st.lay l) w
 | [],_,h=>h
 | _::l,st,h=>Inv.lay (l:=l) (st:=(st.new .xx).2) (Inv.xx h)
theorem Inv.uV (h:Inv T A g st w) {nm:Nat} (hn:st.get nm= .ok .xx) (o:Obj) (e:lY) (b:Nat)
  (hb: ∀id o',st.get id= .ok o'→¬ At g id o' b) (hA:A b) (hat: ∀b',At (g.cS nm e) nm o b'→b'=b)
  (ho:Holds T (g.cS nm e) w nm o):Inv T A (g.cS nm e) (st.put nm o) w:=by
 have hlt:=(St.bM.1 hn).1
 have hE:g.E nm=none:=h.H nm _ hn
 refine ⟨h.F,h.M,fun id hid=> ?_,fun id o' ho'=> ?_,fun id id' o1 o2 b' h1 h2 a1 a2=> ?_,fun id o' b' h1 a1 hr=> ?_,h.up⟩
 ·have hid':st.h≤id:=hid
  rw [Gh.bB _ _ (by omega)];exact h.E id hid'
 ·by_cases hi:id=nm
  ·subst hi
   rw [St.aR hlt] at ho'
   cases ho';exact ho
  ·rw [St.aU (fun e=>hi e.symm)] at ho'
   exact jt (h.H id o' ho') (Le.cS hE) (Gh.bB _ _ hi) fun _ _=>⟨fun _=>rfl,rfl⟩
 ·by_cases hi:id=nm <;> by_cases hi':id'=nm
  ·rw [hi,hi']
  ·subst hi
   rw [St.aR hlt] at h1
   cases h1
   rw [St.aU (fun e=>hi' e.symm)] at h2
   rw [nQ (Gh.bB _ _ hi')] at a2
   have:=hat b' a1;subst this
   exact absurd a2 (hb _ _ h2)
  ·subst hi'
   rw [St.aR hlt] at h2
   cases h2
   rw [St.aU (fun e=>hi e.symm)] at h1
   rw [nQ (Gh.bB _ _ hi)] at a1
   have:=hat b' a2;subst this
   exact absurd a1 (hb _ _ h1)
  ·rw [St.aU (fun e=>hi e.symm)] at h1
   rw [St.aU (fun e=>hi' e.symm)] at h2
   rw [nQ (Gh.bB _ _ hi)] at a1
   rw [nQ (Gh.bB _ _ hi')] at a2
   exact h.D id id' o1 o2 b' h1 h2 a1 a2
 ·by_cases hi:id=nm
  ·subst hi
   rw [St.aR hlt] at h1
   cases h1
   rw [hat b' a1];exact hA
  ·rw [St.aU (fun e=>hi e.symm)] at h1
   rw [nQ (Gh.bB _ _ hi)] at a1
   exact h.own id o' b' h1 a1 hr
theorem DJ (h:Inv T A g st w) {nm:Nat} (hn:st.get nm= .ok .xx) {cs:List AV} {xs:List Value} (ty:TypeId) (hr:RL g cs xs) (h1: ∀x∈xs,x.oneCell'=true):
  Inv T A (g.cS nm (.blk w.heap.size)) (st.put nm (.cells ty cs)) (w.alloc (.cells xs.toArray ty))∧Kp A g w (g.cS nm (.blk w.heap.size)) (w.alloc (.cells xs.toArray ty))∧
  R (g.cS nm (.blk w.heap.size)) (.mp nm 0) (.pointer (some ⟨w.heap.size,0,none⟩)):=by
 have hE:g.E nm=none:=h.H nm _ hn
 have hle:Le g (g.cS nm (.blk w.heap.size)):=Le.cS hE
 refine ⟨(h.alloc _).uV hn (.cells ty cs) (.blk w.heap.size) w.heap.size (fun id o' ho'=>h.gh (Nat.le_refl _) id o' ho') (h.up _ (Nat.le_refl _)) (fun b' hb'=>by
  have:(g.cS nm (.blk w.heap.size)).E nm=some (.blk b'):=hb'
  rw [Gh.aM] at this
  simpa using this.symm) ⟨w.heap.size,xs.toArray, #[],ty,Gh.aM _ _ _,by simpa using World.heap_alloc_new,by simpa using dI hle _ _ hr,by simpa using h1,fun o=>h.jk (Nat.le_refl _) o,fun _=>⟨rfl,rfl⟩⟩,
  (Kp.alloc _ h).trans (Kp.cS hE),by simp only [R];exact ⟨_,Gh.aM _ _ _,rfl⟩⟩
theorem BV {t:TypeId} {i:TI} (hi:iV P t i) {nm:Nat} (hn:st.get nm= .ok .xx) (h:Inv T A g st w) (old:Value):
  bc P T A g w (.mp nm 0) (st.put nm (.cells t i.zero)) (Instr.alloc t true old):=by
 obtain ⟨z,h1,h2,h3,h4,h5,h6⟩:=hi.pM
 obtain ⟨k1,k2,k3⟩:=DJ h hn t (h6 g) (by simpa using h4)
 refine ⟨_,_,_, ?_,k3,k1,k2⟩
 simp [Instr.alloc,h1,newVar,jq]
theorem pQ {T:TT} {t:TypeId} {nm:Nat} {v:AV} {fx:Fx} (h:VM.uV T t nm st= .ok (v,fx)): ∃i,T.get t=some i∧st.get nm= .ok .xx∧st.ro≤nm∧v= .mp nm 0∧fx=⟨[nm],.wrote nm (.cells t i.zero)⟩:=by
 simp only [VM.uV,ae] at h
 obtain ⟨i,h1,o,h2,h3⟩:=h
 cases o with
 | xx=>
  dsimp only at h3
  split at h3
  ·rename_i hr
   simp only [Except.ok.injEq,Prod.mk.injEq] at h3
   exact ⟨i,ck.1 h1,h2,Nat.le_of_ble_eq_true hr,h3.1.symm,h3.2.symm⟩
  ·cases h3
 | _=>cases h3
theorem BX {T:TT} {t:TypeId} {i:TI} {nm:Nat} (h1:T.get t=some i) (h2:st.get nm= .ok .xx) (h3:st.ro≤nm):VM.uV T t nm st= .ok (.mp nm 0,⟨[nm],.wrote nm (.cells t i.zero)⟩):=by
 refine ae.2 ⟨i,ck.2 h1,ae.2 ⟨.xx,h2, ?_⟩⟩
 dsimp only
 rw [Nat.ble_eq_true_of_le h3]
theorem xG {e:Nat→Option Nat} {o:Oper} {t:TypeId} {nm:Nat} (h:qE e o=some (t,nm)):o.op= .alloc t:=by
 unfold qE at h
 split at h
 ·cases h
 ·split at h
  ·cases h
  ·split at h
   ·rename_i h1
    cases h
    exact h1
   ·cases h
theorem wP (X:Cx) (all:List Oper) (fr:Fr) (st:St) (o:Oper):fm X (fun _=>none) all fr st o=oper X all fr st o:=by
 have h:qE (fun _=>none) o=none:=by
  unfold qE
  cases o.dst <;> rfl
 unfold fm oper
 rw [h]
theorem HL (X:Cx) (hT:vy P X.T) {o:Oper} {a:Act} {t:TypeId} {nm:Nat} {v:AV} {fx:Fx} {K:Act→World→Prop}
  (ho:o.op= .alloc t) (hp:VM.uV X.T t nm st= .ok (v,fx)) (h:Inv X.T A g st w)
  (hK: ∀x w',ku X.T A g (fx.did.app st) w v x w'→K (a.put o.dst x) w'):o.Gu P a w K:=by
 obtain ⟨i,h1,h2,_,rfl,rfl⟩:=pQ hp
 obtain ⟨dst,op,type,pos,after,guard⟩:=o
 obtain rfl:op= .alloc t:=ho
 exact eT (s:=Instr.alloc t true (.tuple #[])) (by simp [execOp]) (BV (hT t i h1) h2 h _) hK
end
namespace Tr
variable {α:Type}
theorem set_comm: ∀(f1 f2:Nat) (t:Tr α) (a b:Nat) (x y:α),a≠b→set f1 (set f2 t a x) b y=set f2 (set f1 t b y) a x
 | 0,_,_,_,_,_,_,_=>rfl
 | _+1,0,_,_,_,_,_,_=>rfl
 | f1+1,f2+1,t,a,b,x,y,h=>by
  cases ha:a.beq 0 with
  | true=>
   have ha0:=Nat.eq_of_beq_eq_true ha
   have hb:b.beq 0=false:=by
    cases hb:b.beq 0 with
    | false=>rfl
    | true=>exact absurd (ha0.trans (Nat.eq_of_beq_eq_true hb).symm) h
   cases hm:(b % 2).beq 1 <;> cases t <;> simp [set,ha,hb,hm]
  | false=>
   have ha0:a≠0:=by intro e;subst e;simp at ha
   cases hb:b.beq 0 with
   | true=>cases hm:(a % 2).beq 1 <;> cases t <;> simp [set,ha,hb,hm]
   | false=>
    have hb0:b≠0:=by intro e;subst e;simp at hb
    cases hp:(a % 2).beq 1 with
    | true=>
     have hp':=Nat.eq_of_beq_eq_true hp
     cases hq:(b % 2).beq 1 with
     | true=>
      have hq':=Nat.eq_of_beq_eq_true hq
      have hne:a / 2≠b / 2:=by omega
      cases t <;> simp [set,ha,hb,hp,hq,set_comm f1 f2 _ _ _ x y hne]
     | false=>cases t <;> simp [set,ha,hb,hp,hq]
    | false=>
     have hp':a % 2≠1:=by intro e;rw [e] at hp;simp at hp
     cases hq:(b % 2).beq 1 with
     | true=>cases t <;> simp [set,ha,hb,hp,hq]
     | false=>
      have hq':b % 2≠1:=by intro e;rw [e] at hq;simp at hq
      have hne:a / 2 - 1≠b / 2 - 1:=by omega
      cases t <;> simp [set,ha,hb,hp,hq,set_comm f1 f2 _ _ _ x y hne]
theorem put_comm (t:Tr α) (a b:Nat) (x y:α) (h:a≠b):(t.put a x).put b y=(t.put b y).put a x:=set_comm _ _ _ _ _ _ _ h
end Tr
section
variable {P:Program} {A:Nat→Prop} {g:Gh} {st:St} {w:World}
theorem Gy {ops:Array Oper} {fr:Fr} {a:Act} (o:Oper) (hf:vh g fr a.tmps) (hg:o.guard=none∨fr.strict=false):wanted ops.toList fr o.guard=Region.wanted o (yielded ops a.tmps):=by
 unfold wanted Region.wanted
 cases hgg:o.guard with
 | none=>rfl
 | some p=>
  have hs:fr.strict=false:=by
   rcases hg with hg | hg
   ·rw [hgg] at hg;cases hg
   ·exact hg
  obtain ⟨j,want⟩:=p
  simp only [yielded,Array.getElem?_toList]
  cases hd:(ops[j]?).bind (·.dst) with
  | none=>cases want <;> rfl
  | some d=>
   simp only [Option.bind_some]
   have hr:=hf.at hs d
   cases hv:fr.get d with
   | bool b=>
    rw [hv] at hr
    simp only [R] at hr
    have:a.tmps[d]? =some (.bool b):=by
     simp only [Array.getD_eq_getD_getElem?] at hr
     cases hx:a.tmps[d]? with
     | none=>rw [hx] at hr;simp [Go.undef] at hr
     | some x=>rw [hx] at hr;simpa using hr
    rw [this]
    cases b <;> cases want <;> rfl
   | _=>
    have: ∀b,a.tmps[d]? ≠some (.bool b):=fun b hb=>by
     rw [hv] at hr
     simp only [Array.getD_eq_getD_getElem?,hb,Option.getD_some,R] at hr
     first
      | (rcases hr with ⟨_,hr | ⟨_,_,hr⟩⟩ | ⟨_,_,hr⟩ <;> cases hr;done)
      | (cases hr;done)
      | (rcases hr with ⟨_,hr⟩;injection hr;done)
      | (rcases hr with ⟨_,⟨⟩⟩;done)
      | (obtain ⟨_,_,_,hr,_⟩:=hr;cases hr;done)
      | (obtain ⟨_,_,hr⟩:=hr;cases hr;done)
      | (obtain ⟨_,_,_,_,hr,_⟩:=hr;cases hr;done)
      | (obtain ⟨_,_,hr,_⟩:=hr;cases hr;done)
      | (obtain ⟨_,hr,_⟩:=hr;cases hr;done)
      | (obtain ⟨_,_,_,_,_,hr,_⟩:=hr;cases hr;done)
      | (obtain ⟨_,_,_,_,_,hr⟩:=hr;cases hr;done)
    cases hx:a.tmps[d]? with
    | none=>cases want <;> rfl
    | some x=>cases x <;> first | (cases want <;> rfl) | exact absurd hx (this _)
theorem wJ {fr:Fr} {a:Act} (hf:vh g fr a.tmps) {v:AV} {x:Value} (hx:R g v x) (d:Option Tmp):vh g (fr.put d v) (a.put d x).tmps:=by
 cases d with
 | none=>exact hf
 | some d=>exact hf.put hx (some d)
theorem put_defers (a:Act) (d:Option Tmp) (x:Value):(a.put d x).defers=a.defers:=by cases d <;> rfl
structure Good (P:Program) (X:Cx):Prop where
 T:vy P X.T
 C:xU P X.T X.G X.C
 prim:Ax P X.T X.G X.prim
def mark (D:Nat):Deferred:={target:= .collected D,args:= #[]}
def Marks (A:Nat→Prop) (ds:List Deferred) (w:World):Prop:= ∃Ds:List Nat,ds=Ds.map mark∧Ds.Nodup∧ ∀D∈Ds,¬ A D∧w.heap[D]? =some (.deferred (some []))
theorem Marks.As {A:Nat→Prop} {ds:List Deferred} {g g':Gh} {w w':World} (h:Marks A ds w) (k:Kp A g w g' w'):Marks A ds w':=by
 obtain ⟨Ds,h1,h2,h3⟩:=h
 exact ⟨Ds,h1,h2,fun D hD=>⟨(h3 D hD).1,by rw [k.heap D (h3 D hD).1];exact (h3 D hD).2⟩⟩
theorem gI (fr:Fr) (d:Option Tmp) (v:AV):(fr.put d v).strict=fr.strict:=by
 cases d with
 | none=>rfl
 | some d=>simp only [Fr.put];split <;> rfl
structure Rel (X:Cx) (A:Nat→Prop) (ro:Option Nat) (g:Gh) (fr:Fr) (st:St) (a:Act) (w:World):Prop where
 mode:fr.strict=ro.isSome
 fr:vh g fr a.tmps
 inv:Inv X.T A g st w
 G:GR g X.G
 marks:Marks A a.defers w
theorem yH: ∀{l:List Oper} {o:Oper},ig l=true→o∈l→o.guard=none
 | [],_,_,h=>by cases h
 | a::l,o,h,hm=>by
  unfold ig at h
  cases ha:a.guard with
  | some x=>rw [ha] at h;cases h
  | none=>
   rw [ha] at h
   rcases List.mem_cons.1 hm with rfl | hm
   ·exact ha
   ·exact yH h hm
theorem El {T:TT} {prim:FuncId→Option Prim} {imm:TypeId→Bool} {G:Nat→Option (List AV)} {fr:Fr} {o:Op} {p:dH} (h:eG T prim imm G fr o= .ok p): ∀c,o≠ .defer c:=by
 rintro c rfl
 cases h
theorem xA {X:Cx} {e:Nat→Option Nat} {ro:Option Nat} (hX:Good P X) {ops:Array Oper} (hpl:ro.isSome=true→ig ops.toList=true) {i:Nat} {o:Oper} (ho:ops[i]? =some o) {fr:Fr} {a:Act} {v:AV} {fx:Fx} {K:Act→World→Prop} {Q:Exit→Act→World→Prop}
  (h:fm X e ops.toList fr st o= .ok (v,fx)) (hr:Rel X A ro g fr st a w)
  (hK: ∀a' g' w',Rel X A ro g' (fr.put o.dst v) (fx.did.app st) a' w'→a'.defers=a.defers→Kp A g w g' w'→K a' w'):wpOpIn (fe ro) 0 P ops Q i K a w:=by
 have hg:o.guard=none∨fr.strict=false:=by
  cases hro:ro.isSome with
  | false=>exact .inr (by rw [hr.mode,hro])
  | true=>exact .inl (yH (hpl hro) (List.mem_of_getElem? (l:=ops.toList) (i:=i) (by simpa using ho)))
 unfold fm at h
 unfold wpOpIn
 simp only [ho]
 rw [← Gy o hr.fr hg]
 split at h
 ·rename_i hw
  rw [hw,if_pos rfl]
  split at h
  ·rename_i t nm hh
   refine I4 (HL X hX.T (xG hh) h hr.inv fun x w' hp=> ?_) (fun c hc=>by rw [xG hh] at hc;cases hc)
   obtain ⟨g',p1,p2,p3⟩:=hp
   exact hK _ g' w' ⟨by rw [gI];exact hr.mode,wJ (hr.fr.mono p3.le) p1 _,p2,hr.G.mono p3.le,by rw [put_defers];exact hr.marks.As p3⟩ (put_defers _ _ _) p3
  ·simp only [ae] at h
   obtain ⟨p,h1,h2⟩:=h
   refine I4 (Dg X hX.T hX.C hX.prim h1 h2 hr.G hr.fr hr.inv fun x w' hp=> ?_) (El h1)
   obtain ⟨g',p1,p2,p3⟩:=hp
   exact hK _ g' w' ⟨by rw [gI];exact hr.mode,wJ (hr.fr.mono p3.le) p1 _,p2,hr.G.mono p3.le,by rw [put_defers];exact hr.marks.As p3⟩ (put_defers _ _ _) p3
 ·rename_i hw
  rw [hw,if_neg (by simp)]
  simp only [Except.ok.injEq,Prod.mk.injEq] at h
  obtain ⟨rfl,rfl⟩:=h
  exact ⟨fun _ _=>trivial,hK _ g w ⟨by rw [gI];exact hr.mode,wJ hr.fr Am _,hr.inv,hr.G,by rw [put_defers];exact hr.marks⟩ (put_defers _ _ _) (Kp.refl _ _ _)⟩
inductive wg (X:Cx) (e:Nat→Option Nat) (all:List Oper):List (Nat×AV×Fx)→Fr→St→Fr→St→Prop
 | nil {fr:Fr} {st:St}:wg X e all [] fr st fr st
 | cons {j:Nat} {v:AV} {x:Fx} {o:Oper} {l:List (Nat×AV×Fx)} {fr fr':Fr} {st st':St} (ho:all[j]? =some o) (h:fm X e all fr st o= .ok (v,x))
   (t:wg X e all l (fr.put o.dst v) (x.did.app st) fr' st'):wg X e all ((j,v,x)::l) fr st fr' st'
theorem qX {X:Cx} {e:Nat→Option Nat} {ro:Option Nat} (hX:Good P X) {ops:Array Oper} (hpl:ro.isSome=true→ig ops.toList=true) {Q:Exit→Act→World→Prop}: ∀{l:List (Nat×AV×Fx)} {fr fr':Fr} {st st':St},wg X e ops.toList l fr st fr' st'→
  ∀{g:Gh} {a:Act} {w:World},Rel X A ro g fr st a w→(∀a' g' w',Rel X A ro g' fr' st' a' w'→a'.defers=a.defers→Kp A g w g' w'→Q .normal a' w')→wpOpsIn (fe ro) 0 P ops Q (l.map (·.1)) a w
 | _,_,_,_,_,.nil,g,a,w,hr,hQ=>hQ a g w hr rfl (Kp.refl _ _ _)
 | _,_,_,_,_,.cons (j:=j) (o:=o) ho h t,g,a,w,hr,hQ=>by
  simp only [List.map_cons]
  rw [wpOpsIn_cons]
  exact xA hX hpl (by simpa using ho) h hr fun a' g' w' hr' hd hk=>qX hX hpl t hr' fun a'' g'' w'' hr'' hd' hk'=>hQ a'' g'' w'' hr'' (hd'.trans hd) (hk.trans hk')
end
end Go.VM
namespace Go.VM
theorem Cf {G:Nat→Option (List AV)} {fr fr2:Fr} {x:Operand} (hs:fr.strict=fr2.strict) (h: ∀t,x= .tmp t→fr.t.get t=fr2.t.get t):bQ G fr x=bQ G fr2 x:=by
 cases x with
 | tmp t=>simp only [bQ,Fr.get,hs,h t rfl]
 | _=>rfl
theorem l8 {G:Nat→Option (List AV)} {fr fr2:Fr}: ∀{xs:List Operand},(∀x∈xs,bQ G fr x=bQ G fr2 x)→ma G fr xs=ma G fr2 xs
 | [],_=>rfl
 | x::xs,h=>by simp only [ma,h x (by simp),l8 (xs:=xs) fun y hy=>h y (by simp [hy])]
theorem mF {G:Nat→Option (List AV)} {fr fr2:Fr} {x:Option Operand} (h: ∀y,x=some y→bQ G fr y=bQ G fr2 y):dV G fr x=dV G fr2 x:=by
 cases x with
 | none=>rfl
 | some y=>simp only [dV,h y rfl]
theorem kG {G:Nat→Option (List AV)} {fr fr2:Fr}: ∀{xs:List (Nat×Operand)},(∀x∈xs,bQ G fr x.2=bQ G fr2 x.2)→fT G fr xs=fT G fr2 xs
 | [],_=>rfl
 | (i,x)::xs,h=>by simp only [fT,h (i,x) (by simp),kG (xs:=xs) fun y hy=>h y (by simp [hy])]
theorem EI {T:TT} {prim:FuncId→Option Prim} {imm:TypeId→Bool} {G:Nat→Option (List AV)} {fr fr2:Fr} {op:Op} (h: ∀x∈op.operands,bQ G fr x=bQ G fr2 x):
  eG T prim imm G fr op=eG T prim imm G fr2 op:=by
 cases op <;> simp only [eG] <;> simp only [Op.operands] at h
 case move x=>rw [h x (by simp)]
 case assign x=>rw [h x (by simp)]
 case pick c x y=>rw [h c (by simp),h x (by simp),h y (by simp)]
 case box t x=>rw [h x (by simp)]
 case build t ps=>rw [kG fun x hx=>h x.2 (by simp only [List.mem_toArray,List.mem_map];exact ⟨x,hx,rfl⟩)]
 case buildSlice t n ps=>rw [kG fun x hx=>h x.2 (by simp only [List.mem_toArray,List.mem_map];exact ⟨x,hx,rfl⟩)]
 case makeSlice t x y=>rw [h x (by simp),h y (by simp)]
 case load t x=>rw [h x (by simp)]
 case store t x y=>rw [h x (by simp),h y (by simp)]
 case nilCheck x=>rw [h x (by simp)]
 case binOp op t x y _=>rw [h x (by simp),h y (by simp)]
 case unOp op t x=>rw [h x (by simp)]
 case convert s d x=>rw [h x (by simp)]
 case makeInterface t x=>rw [h x (by simp)]
 case makeFunc f a b=>
  rw [l8 fun x hx=>h x (by simp only [Array.mem_append];exact .inl (by simpa using hx)),l8 (xs:=b.toList) fun x hx=>h x (by simp only [Array.mem_append];exact .inr (by simpa using hx))]
 case slice t x lo hi mx=>
  have hx:=h x (by simp)
  have hl:dV G fr lo=dV G fr2 lo:=mF fun y hy=>h y (by subst hy;simp)
  have hh:dV G fr hi=dV G fr2 hi:=mF fun y hy=>h y (by subst hy;simp)
  have hm:dV G fr mx=dV G fr2 mx:=mF fun y hy=>h y (by subst hy;simp)
  rw [hx,hl,hh,hm]
 case fieldAddr t x f=>rw [h x (by simp)]
 case field t x f=>rw [h x (by simp)]
 case indexAddr t x y=>rw [h x (by simp),h y (by simp)]
 case index t x y=>rw [h x (by simp),h y (by simp)]
 case lookup t x y ok=>rw [h x (by simp),h y (by simp)]
 case mapUpdate t m k v=>rw [h m (by simp),h k (by simp),h v (by simp)]
 case insert t m k v=>rw [h m (by simp),h k (by simp),h v (by simp)]
 case range t x=>rw [h x (by simp)]
 case next x b=>
  cases b with
  | true=>show (do yP (← bQ G fr x))=(do yP (← bQ G fr2 x));rw [h x (by simp)]
  | false=>rfl
 case extract x i=>rw [h x (by simp)]
 case makeMap t r=>cases r <;> rfl
 case call c=>
  have ha:ma G fr c.args.toList=ma G fr2 c.args.toList:=l8 fun x hx=>h x (by simp only [Call.operands,Array.mem_append];exact .inr (by simpa using hx))
  rw [ha]
  cases hc:c.callee with
  | value f=>simp only [h f (by simp [Call.operands,hc])]
  | builtin b=>rfl
  | invoke r m=>rfl
theorem Fr.aU {fr:Fr} {d:Option Tmp} {v:AV} {t:Nat} (h:d≠some t):(fr.put d v).t.get t=fr.t.get t:=by
 cases d with
 | none=>rfl
 | some d=>
  simp only [Fr.put]
  split
  ·have:d≠t:=fun e=>h (by rw [e])
   simp [Tr.iA,this]
  ·rfl
theorem Fr.put_comm {fr:Fr} {d e:Option Tmp} {v u:AV} (h: ∀t,d=some t→e≠some t):(fr.put d v).put e u=(fr.put e u).put d v:=by
 cases d with
 | none=>rfl
 | some d=>
  cases e with
  | none=>rfl
  | some e=>
   have hne:d≠e:=fun k=>h d rfl (by rw [k])
   simp only [Fr.put]
   cases hd:d.blt fr.n <;> cases e.blt fr.n <;> simp [hd,Tr.put_comm _ _ _ _ _ hne]
theorem wR {X:Cx} {e:Nat→Option Nat} {ops:Array Oper} {fr fr2:Fr} {st:St} {o:Oper} (hs:fr.strict=fr2.strict) (h: ∀t∈o.looksAt ops,fr.t.get t=fr2.t.get t):fm X e ops.toList fr st o=fm X e ops.toList fr2 st o:=by
 have hw:wanted ops.toList fr o.guard=wanted ops.toList fr2 o.guard:=by
  unfold wanted
  cases hg:o.guard with
  | none=>rfl
  | some p=>
   obtain ⟨j,want⟩:=p
   simp only [Array.getElem?_toList]
   cases hd:(ops[j]?).bind (·.dst) with
   | none=>rfl
   | some d=>
    simp only [Fr.get]
    rw [h d (by simp [Oper.looksAt,hg,hd])]
 unfold fm
 rw [hw,EI fun x hx=>Cf hs fun t ht=>h t (by
  subst ht
  simp only [Oper.looksAt,List.mem_append,List.mem_filterMap]
  exact .inl ⟨.tmp t,by simpa using hx,rfl⟩)]
theorem St.KQ {st:St} {i j:Nat} {a b:Obj} (h:i≠j):(st.put i a).put j b=(st.put j b).put i a:=by
 simp only [St.put,Tr.put_comm _ _ _ _ _ h]
theorem St.E5 {st:St} {i:Nat} {a b:Obj} (h:i≠st.h):((st.put i a).new b).2=((st.new b).2).put i a:=by
 simp only [St.put,St.new,Tr.put_comm _ _ _ _ _ h]
theorem St.oJ {st:St} {o:Obj} {r:Nat} (h:r≠st.h):(st.new o).2.get r=st.get r:=by
 simp only [St.get,St.new]
 cases h1:r.blt (st.h+1) <;> cases h2:r.blt st.h <;> simp only [Tr.iA]
 ·rw [cL] at h1;rw [cY] at h2;omega
 ·rw [cY] at h1;rw [cL] at h2;omega
 ·rw [if_neg (fun e=>h e.symm)]
theorem vW: ∀{a b:List UInt8},mc a b=true→a=b
 | [],[],_=>rfl
 | a::l,b::m,h=>by
  unfold mc at h
  split at h
  ·rename_i e
   rw [UInt8.toNat_inj.1 (Nat.eq_of_beq_eq_true e),vW h]
  ·cases h
 | [],_:: _,h=>by simp [mc] at h
 | _:: _,[],h=>by simp [mc] at h
theorem jB {g:AV→AV→Bool} (hg: ∀a b,g a b=true→a=b): ∀{a b:List AV},eJ g a b=true→a=b
 | [],[],_=>rfl
 | a::l,b::m,h=>by
  unfold eJ at h
  split at h
  ·rename_i e
   rw [hg _ _ e,jB hg h]
  ·cases h
 | [],_:: _,h=>by simp [eJ] at h
 | _:: _,[],h=>by simp [eJ] at h
theorem lr: ∀(f:Nat) (a b:AV),gi f a b=true→a=b
 | 0,_,_,h=>by simp [gi] at h
 | f+1,a,b,h=>by
  have ih:=fun {l m:List AV} (h:eJ (gi f) l m=true)=>jB (lr f) h
  unfold gi at h
  split at h
  ·rw [eq_of_beq h]
  ·simp only [Bool.and_eq_true,decide_eq_true_eq] at h
   rw [h.1,h.2]
  ·rw [vW h]
  ·rfl
  ·rfl
  ·rfl
  ·rfl
  ·rfl
  ·rfl
  ·rw [ih h]
  ·simp only [Bool.and_eq_true,Nat.beq_eq] at h
   rw [h.1,h.2]
  ·rw [Nat.eq_of_beq_eq_true h]
  ·simp only [Bool.and_eq_true,Nat.beq_eq] at h
   rw [h.1.1,h.1.2,h.2]
  ·simp only [Bool.and_eq_true,Nat.beq_eq] at h
   rw [h.1.1,h.1.2,h.2]
  ·simp only [Bool.and_eq_true,Nat.beq_eq] at h
   obtain ⟨⟨⟨⟨rfl,rfl⟩,rfl⟩,rfl⟩,rfl⟩:=h
   rfl
  ·simp only [Bool.and_eq_true,Nat.beq_eq,decide_eq_true_eq] at h
   rw [h.1.1,h.1.2,ih h.2]
  ·simp only [Bool.and_eq_true,Nat.beq_eq] at h
   rw [h.1,lr f _ _ h.2]
  ·rw [ih h]
  ·rw [ih h]
  ·cases h
theorem Dl {a b:Obj} (h:AO a b=true):a=b:=by
 unfold AO at h
 split at h
 ·simp only [Bool.and_eq_true,Nat.beq_eq] at h
  rw [h.1,jB (lr _) h.2]
 ·simp only [Bool.and_eq_true,Nat.beq_eq] at h
  rw [h.1,h.2]
 ·simp only [Bool.and_eq_true,Nat.beq_eq] at h
  rw [h.1.1.1,h.1.1.2,h.1.2,jB (lr _) h.2]
 ·simp only [Bool.and_eq_true,Nat.beq_eq] at h
  rw [h.1.1.1,h.1.1.2,h.1.2,jB (lr _) h.2]
 ·cases h
theorem yL {s t:St} {i:Nat} (h:sameAt s t i=true):t.get i=s.get i:=by
 unfold sameAt at h
 split at h
 ·rename_i a b h1 h2
  rw [h1,h2,Dl h]
 ·cases h
def jg (x:Fx) (st st2:St):Prop:=
 match x.did with
 | .kept=> ∀r∈x.reads,st2.get r=st.get r
 | .wrote _ _=>st2.ro=st.ro∧ ∀r∈x.reads,st2.get r=st.get r
 | .made _ _=>st2.h=st.h
 | .looked=>st2=st
 | .all _ _=>st2=st
theorem ze {X:Cx} {e:Nat→Option Nat} {all:List Oper} {fr:Fr} {st st2:St} {o:Oper} {v:AV} {x:Fx} (h:fm X e all fr st o= .ok (v,x)) (hs:jg x st st2):fm X e all fr st2 o= .ok (v,x):=by
 unfold fm at h ⊢
 split at h
 ·split at h
  ·rename_i t nm hh
   obtain ⟨i,h1,h2,h3,rfl,rfl⟩:=pQ h
   obtain ⟨s1,s2⟩:=hs
   exact BX h1 (by rw [s2 nm (by simp)];exact h2) (by rw [s1];exact h3)
  simp only [ae] at h ⊢
  obtain ⟨p,h1,h2⟩:=h
  refine ⟨p,h1, ?_⟩
  cases p with
  | val u=>exact h2
  | obj id f=>
   simp only [aD,ae,ai] at h2 ⊢
   obtain ⟨ob,h3,⟨v',o'⟩,h4,d,h5,h6⟩:=h2
   simp only [Prod.mk.injEq] at h6
   obtain ⟨rfl,rfl⟩:=h6
   cases o' with
   | none=>
    simp only [dZ,Except.ok.injEq] at h5
    subst h5
    refine ⟨ob,by rw [hs id (by simp)];exact h3,⟨v',none⟩,h4,.kept,rfl,rfl⟩
   | some ob'=>
    simp only [dZ] at h5
    split at h5
    ·cases h5
    ·rename_i hro
     simp only [Except.ok.injEq] at h5
     subst h5
     obtain ⟨s1,s2⟩:=hs
     refine ⟨ob,by rw [s2 id (by simp)];exact h3,⟨v',some ob'⟩,h4,.wrote id ob', ?_,rfl⟩
     simp only [dZ,s1,hro]
  | both id k f=>
   have:x.did= .looked:=by
    simp only [aD,ae] at h2
    obtain ⟨ob,_,r,_,h3⟩:=h2
    cases r with
    | none=>
     simp only [ae,ai,Prod.mk.injEq] at h3
     obtain ⟨_,_,_,rfl⟩:=h3;rfl
    | some j=>
     dsimp only at h3
     split at h3
     ·simp only [ae,ai,Prod.mk.injEq] at h3
      obtain ⟨_,_,_,_,_,rfl⟩:=h3;rfl
     ·cases h3
   rw [jg,this] at hs
   have hs:st2=st:=hs
   rw [hs];exact h2
  | new ob f=>
   simp only [aD,Except.ok.injEq,Prod.mk.injEq] at h2 ⊢
   obtain ⟨rfl,rfl⟩:=h2
   have:st2.h=st.h:=hs
   rw [this]
   simp
  | call f args=>
   simp only [aD] at h2 ⊢
   split at h2
   ·exact h2
   ·split at h2
    ·simp only [ae,ai,Prod.mk.injEq] at h2
     obtain ⟨v',h3,rfl,rfl⟩:=h2
     have:st2=st:=hs
     rw [this]
     simp only [ae,ai]
     exact ⟨v',h3,rfl⟩
    ·simp only [ae,ai] at h2
     obtain ⟨⟨v',s'⟩,h3,h4⟩:=h2
     simp only [Prod.mk.injEq] at h4
     obtain ⟨rfl,rfl⟩:=h4
     have:st2=st:=hs
     rw [this]
     simp only [ae,ai]
     exact ⟨(v',s'),h3,rfl⟩
  | yield k args=>
   simp only [aD,ae,ai] at h2 ⊢
   obtain ⟨⟨v',s'⟩,h3,h4⟩:=h2
   simp only [Prod.mk.injEq] at h4
   obtain ⟨rfl,rfl⟩:=h4
   have:st2=st:=hs
   rw [this]
   exact ⟨(v',s'),h3,rfl⟩
 ·exact h
theorem Cv {X:Cx} {e:Nat→Option Nat} {all:List Oper} {fr:Fr} {st s0 s1:St} {o:Oper} {v:AV} {rs:List Nat} (h:fm X e all fr st o= .ok (v,⟨rs,.all s0 s1⟩)):s0=st:=by
 unfold fm at h
 split at h
 ·split at h
  ·obtain ⟨i,h1,h2,h3,h4,h5⟩:=pQ h
   simp at h5
  simp only [ae] at h
  obtain ⟨p,h1,h2⟩:=h
  cases p with
  | val u=>simp [aD] at h2
  | obj id f=>
   simp only [aD,ae,ai] at h2
   obtain ⟨ob,h3,⟨v',o'⟩,h4,d,h5,h6⟩:=h2
   simp only [Prod.mk.injEq,Fx.mk.injEq] at h6
   obtain ⟨_,_,rfl⟩:=h6
   cases o' with
   | none=>simp [dZ] at h5
   | some _=>simp only [dZ] at h5;split at h5 <;> simp at h5
  | both id k f=>
   simp only [aD,ae] at h2
   obtain ⟨ob,_,r,_,h3⟩:=h2
   cases r with
   | none=>
    simp only [ae,ai,Prod.mk.injEq] at h3
    obtain ⟨_,_,_,h3⟩:=h3;simp at h3
   | some j=>
    dsimp only at h3
    split at h3
    ·simp only [ae,ai,Prod.mk.injEq] at h3
     obtain ⟨_,_,_,_,_,h3⟩:=h3;simp at h3
    ·cases h3
  | new ob f=>
   simp only [aD,Except.ok.injEq,Prod.mk.injEq,Fx.mk.injEq] at h2
   have:=h2.2.2;simp at this
  | call f args=>
   simp only [aD] at h2
   split at h2
   ·simp only [ae,ai] at h2
    obtain ⟨_,_,h3⟩:=h2
    simp at h3
   ·split at h2
    ·simp only [ae,ai] at h2
     obtain ⟨_,_,h3⟩:=h2
     simp at h3
    ·simp only [ae,ai] at h2
     obtain ⟨_,_,h3⟩:=h2
     simp only [Prod.mk.injEq,Fx.mk.injEq,gg.all.injEq] at h3
     exact h3.2.2.1.symm
  | yield k args=>
   simp only [aD,ae,ai] at h2
   obtain ⟨_,_,h3⟩:=h2
   simp only [Prod.mk.injEq,Fx.mk.injEq,gg.all.injEq] at h3
   exact h3.2.2.1.symm
 ·simp at h
theorem tB {X:Cx} {e:Nat→Option Nat} {all:List Oper} {fr:Fr} {st:St} {o:Oper} {v:AV} {rs:List Nat} {n:Nat} {ob:Obj} (h:fm X e all fr st o= .ok (v,⟨rs,.made n ob⟩)):n=st.h∧rs=[]:=by
 unfold fm at h
 split at h
 ·split at h
  ·obtain ⟨i,h1,h2,h3,h4,h5⟩:=pQ h
   simp at h5
  simp only [ae] at h
  obtain ⟨p,h1,h2⟩:=h
  cases p with
  | val u=>simp [aD] at h2
  | obj id f=>
   simp only [aD,ae,ai] at h2
   obtain ⟨ob,h3,⟨v',o'⟩,h4,d,h5,h6⟩:=h2
   simp only [Prod.mk.injEq,Fx.mk.injEq] at h6
   obtain ⟨_,_,rfl⟩:=h6
   cases o' with
   | none=>simp [dZ] at h5
   | some _=>simp only [dZ] at h5;split at h5 <;> simp at h5
  | both id k f=>
   simp only [aD,ae] at h2
   obtain ⟨ob,_,r,_,h3⟩:=h2
   cases r with
   | none=>
    simp only [ae,ai,Prod.mk.injEq] at h3
    obtain ⟨_,_,_,h3⟩:=h3;simp at h3
   | some j=>
    dsimp only at h3
    split at h3
    ·simp only [ae,ai,Prod.mk.injEq] at h3
     obtain ⟨_,_,_,_,_,h3⟩:=h3;simp at h3
    ·cases h3
  | new ob f=>
   simp only [aD,Except.ok.injEq,Prod.mk.injEq,Fx.mk.injEq,gg.made.injEq] at h2
   exact ⟨h2.2.2.1.symm,h2.2.1.symm⟩
  | call f args=>
   simp only [aD] at h2
   split at h2
   ·simp only [ae,ai] at h2
    obtain ⟨_,_,h3⟩:=h2
    simp at h3
   ·split at h2 <;> simp only [ae,ai] at h2 <;> obtain ⟨_,_,h3⟩:=h2 <;> simp at h3
  | yield k args=>
   simp only [aD,ae,ai] at h2
   obtain ⟨_,_,h3⟩:=h2
   simp at h3
 ·simp at h
theorem fX {l:List Nat} {i:Nat} (h:l.contains i=false): ∀r∈l,i≠r:=fun r hr e=>by
 subst e
 have:l.contains i=true:=by simpa using hr
 rw [this] at h;cases h
theorem EG {X:Cx} {e:Nat→Option Nat} {all:List Oper} {fr1 fr2:Fr} {st:St} {o1 o2:Oper} {v1 v2:AV} {x1 x2:Fx} (h1:fm X e all fr1 st o1= .ok (v1,x1)) (h2:fm X e all fr2 (x1.did.app st) o2= .ok (v2,x2))
  (hq:quiet x1=true∨quiet x2=true∨apart x1 x2=true):
  jg x2 (x1.did.app st) st∧jg x1 st (x2.did.app st)∧x1.did.app (x2.did.app st)=x2.did.app (x1.did.app st):=by
 obtain ⟨r1,d1⟩:=x1
 obtain ⟨r2,d2⟩:=x2
 have hq':(d1= .kept∧r1=[])∨(d2= .kept∧r2=[])∨apart ⟨r1,d1⟩ ⟨r2,d2⟩=true:=by
  rcases hq with hq | hq | hq
  ·left;cases d1 <;> simp [quiet] at hq;exact ⟨rfl,hq⟩
  ·right;left;cases d2 <;> simp [quiet] at hq;exact ⟨rfl,hq⟩
  ·exact .inr (.inr hq)
 rcases hq' with ⟨rfl,rfl⟩ | ⟨rfl,rfl⟩ | hq
 ·refine ⟨?_,by simp [jg],rfl⟩
  cases d2 <;> simp [jg,gg.app]
 ·refine ⟨by simp [jg], ?_,rfl⟩
  cases d1 <;> simp [jg,gg.app]
 ·cases d1 with
  | kept=>
   cases d2 with
   | kept=>exact ⟨by simp [jg,gg.app],by simp [jg,gg.app],rfl⟩
   | looked=>exact ⟨by simp [jg,gg.app],by simp [jg,gg.app],rfl⟩
   | wrote i o=>
    simp only [apart,Bool.not_eq_true'] at hq
    refine ⟨by simp [jg,gg.app], ?_,rfl⟩
    simp only [jg,gg.app]
    exact fun r hr=>St.aU (fX hq r hr)
   | made i o=>
    simp only [apart,Bool.not_eq_true'] at hq
    obtain ⟨hi,_⟩:=tB h2
    refine ⟨by simp [jg,gg.app], ?_,rfl⟩
    simp only [jg,gg.app]
    intro r hr
    exact St.oJ fun e=>fX hq r hr (by rw [hi,e];rfl)
   | all s0 s=>
    simp only [apart,List.all_eq_true] at hq
    obtain rfl:s0=st:=Cv h2
    refine ⟨by simp [jg,gg.app], ?_,rfl⟩
    simp only [jg,gg.app]
    exact fun r hr=>yL (hq r hr)
  | wrote i o=>
   cases d2 with
   | kept=>
    simp only [apart,Bool.not_eq_true'] at hq
    refine ⟨?_,by simp [jg,gg.app],rfl⟩
    simp only [jg,gg.app]
    exact fun r hr=>(St.aU (fX hq r hr)).symm
   | looked=>simp [apart,gg.uw] at hq
   | wrote j p=>
    simp only [apart,Bool.and_eq_true,Bool.not_eq_true'] at hq
    obtain ⟨⟨q1,q2⟩,q3⟩:=hq
    have hij:i≠j:=fun e=>by subst e;simp at q1
    refine ⟨⟨rfl,fun r hr=>(St.aU (fX q2 r hr)).symm⟩,⟨rfl,fun r hr=>St.aU (fX q3 r hr)⟩, ?_⟩
    simp only [gg.app]
    exact St.KQ fun e=>hij e.symm
   | made j p=>
    simp only [apart,Bool.and_eq_true,Bool.not_eq_true'] at hq
    obtain ⟨⟨q1,q2⟩,q3⟩:=hq
    have hij:i≠j:=fun e=>by subst e;simp at q1
    obtain ⟨hj,_⟩:=tB h2
    have hj:j=st.h:=hj
    refine ⟨rfl,⟨rfl,fun r hr=>St.oJ fun e=>fX q3 r hr (by rw [hj,e])⟩, ?_⟩
    simp only [gg.app]
    exact (St.E5 (by rw [← hj];exact hij)).symm
   | all s0 s=>simp [apart] at hq
  | made i o=>
   obtain ⟨hi,hr1⟩:=tB h1
   cases d2 with
   | kept=>
    simp only [apart,Bool.not_eq_true'] at hq
    refine ⟨?_,by simp [jg,gg.app],rfl⟩
    simp only [jg,gg.app]
    exact fun r hr=>(St.oJ fun e=>fX hq r hr (by rw [hi,e])).symm
   | looked=>simp [apart,gg.uw] at hq
   | wrote j p=>
    simp only [apart,Bool.and_eq_true,Bool.not_eq_true'] at hq
    obtain ⟨⟨q1,q2⟩,q3⟩:=hq
    have hij:i≠j:=fun e=>by subst e;simp at q1
    refine ⟨⟨rfl,fun r hr=>(St.oJ fun e=>fX q2 r hr (by rw [hi,e])).symm⟩,rfl, ?_⟩
    simp only [gg.app]
    exact St.E5 fun e=>hij (by rw [hi,e])
   | made j p=>simp [apart] at hq
   | all s0 s=>simp [apart] at hq
  | looked=>
   cases d2 with
   | kept=>exact ⟨by simp [jg,gg.app],by simp [jg,gg.app],rfl⟩
   | looked=>exact ⟨by simp [jg,gg.app],by simp [jg,gg.app],rfl⟩
   | wrote j p=>simp [apart,gg.uw] at hq
   | made j p=>simp [apart,gg.uw] at hq
   | all s0 s=>simp [apart] at hq
  | all s0 s=>
   cases d2 with
   | kept=>
    simp only [apart,List.all_eq_true] at hq
    obtain rfl:s0=st:=Cv h1
    refine ⟨?_,by simp [jg,gg.app],rfl⟩
    simp only [jg,gg.app]
    exact fun r hr=>(yL (hq r hr)).symm
   | _=>simp [apart] at hq
def Ot (ops:Array Oper) (p q:Nat×AV×Fx):Prop:=
 (quiet p.2.2=true∨quiet q.2.2=true∨apart p.2.2 q.2.2=true)∧ ∀o1 o2,ops[p.1]? =some o1→ops[q.1]? =some o2→o1.apart ops o2=true
theorem Hm {X:Cx} {e:Nat→Option Nat} {ops:Array Oper} {p q:Nat×AV×Fx} {l:List (Nat×AV×Fx)} {fr fr':Fr} {st st':St} (h:wg X e ops.toList (p::q::l) fr st fr' st') (ht:Ot ops p q):wg X e ops.toList (q::p::l) fr st fr' st':=by
 obtain ⟨i,v1,x1⟩:=p
 obtain ⟨j,v2,x2⟩:=q
 cases h with
 | cons ho1 h1 t=>
  cases t with
  | cons ho2 h2 t=>
   rename_i o1 o2
   obtain ⟨t1,t2⟩:=ht
   have hap:=t2 o1 o2 (by simpa using ho1) (by simpa using ho2)
   obtain ⟨a1,a2,a3⟩:=Oper.apart_spec hap
   obtain ⟨s1,s2,s3⟩:=EG h1 h2 t1
   have h2':fm X e ops.toList fr st o2= .ok (v2,x2):=by
    have:=ze h2 s1
    rw [← this]
    exact wR (gI _ _ _).symm fun t ht=>(Fr.aU fun e=>a1 t e ht).symm
   have h1':fm X e ops.toList (fr.put o2.dst v2) (x2.did.app st) o1= .ok (v1,x1):=by
    have:=ze h1 s2
    rw [← this]
    exact wR (gI _ _ _) fun t ht=>Fr.aU fun e=>a3 t e ht
   refine .cons ho2 h2' (.cons ho1 h1' ?_)
   rw [s3,Fr.put_comm (fun t e1 e2=>a2 t e2 e1)]
   exact t
theorem wA {X:Cx} {e:Nat→Option Nat} {ops:Array Oper} {q:Nat×AV×Fx} {l2:List (Nat×AV×Fx)} {fr':Fr} {st':St}: ∀{l1:List (Nat×AV×Fx)} {fr:Fr} {st:St},wg X e ops.toList (l1++q::l2) fr st fr' st'→(∀p∈l1,Ot ops p q)→wg X e ops.toList (q::(l1++l2)) fr st fr' st'
 | [],_,_,h,_=>h
 | p::l1,fr,st,h,ht=>by
  cases h with
  | cons ho h t=>
   have ih:=wA t fun p hp=>ht p (by simp [hp])
   exact Hm (.cons ho h ih) (ht _ (by simp))
theorem yp {ops:Array Oper} (h:kg ops.toList=true) {j:Nat} {o:Oper} {e:Edge} (ho:ops[j]? =some o) (he:e∈o.after) (hb:Region.binds .any e=true):e.on < j:=by
 simp only [kg,Bool.and_eq_true,List.all_eq_true] at h
 have:=h.1 (o,j) (by
  rw [List.mem_zipIdx_iff_getElem?]
  simpa using ho)
 simp only at this
 have:=this e (by simpa using he)
 rw [hb] at this
 simpa [cY] using this
theorem yh {ops:Array Oper} (h:kg ops.toList=true) {i j:Nat} {o o':Oper} (hij:i < j) (ho:ops[j]? =some o) (ho':ops[i]? =some o'):o'.apart ops o=true∨behind ops.toList (j+1) j i=true:=by
 simp only [kg,Bool.and_eq_true,List.all_eq_true] at h
 have:=h.2 (o,j) (by
  rw [List.mem_zipIdx_iff_getElem?]
  simpa using ho)
 simp only at this
 have:=this (o',i) (by
  rw [List.mem_iff_getElem?]
  refine ⟨i, ?_⟩
  rw [List.getElem?_take,if_pos hij,List.getElem?_zipIdx]
  simp [ho'])
 simpa using this
def Cm (ops:List Oper) (p q:Nat×AV×Fx):Prop:=quiet p.2.2=true∨quiet q.2.2=true∨apart p.2.2 q.2.2=true∨behind ops (q.1+1) q.1 p.1=true
theorem oo {ops:List Oper} {j:Nat} {x:Fx}: ∀{seen:List (Nat×Fx)},oD ops j x seen=true→ ∀p∈seen,apart p.2 x=true∨behind ops (j+1) j p.1=true
 | [],_,p,hp=>by cases hp
 | (i,y)::l,h,p,hp=>by
  simp only [oD,Bool.and_eq_true,Bool.or_eq_true] at h
  rcases List.mem_cons.1 hp with rfl | hp
  ·exact h.1
  ·exact oo h.2 p hp
theorem oB {X:Cx} {all:List Oper} {draw:Bool}: ∀{l:List Oper} {j:Nat} {seen:List (Nat×Fx)} {fr fr':Fr} {st st':St},dJ X all draw j seen l fr st= .ok (fr',st')→l=all.drop j→
  ∃L,wg X (fun _=>none) all L fr st fr' st'∧L.map (·.1)=List.range' j l.length∧(draw=true→L.Pairwise (Cm all)∧ ∀s∈seen,∀q∈L,quiet q.2.2=true∨apart s.2 q.2.2=true∨behind all (q.1+1) q.1 s.1=true)
 | [],j,seen,fr,fr',st,st',h,hl=>by
  simp only [dJ,Except.ok.injEq,Prod.mk.injEq] at h
  obtain ⟨rfl,rfl⟩:=h
  exact ⟨[],.nil,rfl,fun _=>⟨.nil,by simp⟩⟩
 | o::l,j,seen,fr,fr',st,st',h,hl=>by
  simp only [dJ,ae] at h
  obtain ⟨⟨v,x⟩,h1,h2⟩:=h
  have ho:all[j]? =some o:=by
   have:=congrArg (·[0]?) hl
   simpa using this.symm
  have hl':l=all.drop (j+1):=by
   have:=congrArg List.tail hl
   simpa [List.tail_drop] using this
  split at h2
  ·rename_i hd
   obtain ⟨L,k1,k2,k3⟩:=oB h2 hl'
   refine ⟨(j,v,x)::L,.cons ho ((wP X all fr st o).trans h1) k1,by simp [k2,List.range'_succ],fun hdr=> ?_⟩
   have hq:quiet x=true:=by rw [hdr] at hd;simpa using hd
   obtain ⟨m1,m2⟩:=k3 hdr
   refine ⟨.cons (fun q _=> .inl hq) m1,fun s hs q hq'=> ?_⟩
   rcases List.mem_cons.1 hq' with rfl | hq'
   ·exact .inl hq
   ·exact m2 s hs q hq'
  ·rename_i hd
   split at h2
   ·rename_i hor
    obtain ⟨L,k1,k2,k3⟩:=oB h2 hl'
    refine ⟨(j,v,x)::L,.cons ho ((wP X all fr st o).trans h1) k1,by simp [k2,List.range'_succ],fun hdr=> ?_⟩
    obtain ⟨m1,m2⟩:=k3 hdr
    refine ⟨.cons (fun q hq=> ?_) m1,fun s hs q hq'=> ?_⟩
    ·rcases m2 (j,x) (by simp) q hq with h | h | h
     ·exact .inr (.inl h)
     ·exact .inr (.inr (.inl h))
     ·exact .inr (.inr (.inr h))
    ·rcases List.mem_cons.1 hq' with rfl | hq'
     ·exact .inr (oo hor s hs)
     ·exact m2 s (by simp [hs]) q hq'
   ·cases h2
theorem mL {X:Cx} {e:Nat→Option Nat} {all:List Oper}: ∀{l:List Oper} {j:Nat} {seen:List (Nat×Fx)} {fr fr':Fr} {st st':St},cX X e all j seen l fr st= .ok (fr',st')→l=all.drop j→
  ∃L,wg X e all L fr st fr' st'∧L.map (·.1)=List.range' j l.length∧L.Pairwise (Cm all)∧ ∀s∈seen,∀q∈L,quiet q.2.2=true∨apart s.2 q.2.2=true∨behind all (q.1+1) q.1 s.1=true
 | [],j,seen,fr,fr',st,st',h,hl=>by
  simp only [cX,Except.ok.injEq,Prod.mk.injEq] at h
  obtain ⟨rfl,rfl⟩:=h
  exact ⟨[],.nil,rfl,.nil,by simp⟩
 | o::l,j,seen,fr,fr',st,st',h,hl=>by
  simp only [cX,ae] at h
  obtain ⟨⟨v,x⟩,h1,h2⟩:=h
  have ho:all[j]? =some o:=by
   have:=congrArg (·[0]?) hl
   simpa using this.symm
  have hl':l=all.drop (j+1):=by
   have:=congrArg List.tail hl
   simpa [List.tail_drop] using this
  split at h2
  ·rename_i hd
   obtain ⟨L,k1,k2,k3⟩:=mL h2 hl'
   refine ⟨(j,v,x)::L,.cons ho h1 k1,by simp [k2,List.range'_succ], ?_⟩
   have hq:quiet x=true:=by simpa using hd
   obtain ⟨m1,m2⟩:=k3
   refine ⟨.cons (fun q _=> .inl hq) m1,fun s hs q hq'=> ?_⟩
   rcases List.mem_cons.1 hq' with rfl | hq'
   ·exact .inl hq
   ·exact m2 s hs q hq'
  ·rename_i hd
   split at h2
   ·rename_i hor
    obtain ⟨L,k1,k2,k3⟩:=mL h2 hl'
    refine ⟨(j,v,x)::L,.cons ho h1 k1,by simp [k2,List.range'_succ], ?_⟩
    obtain ⟨m1,m2⟩:=k3
    refine ⟨.cons (fun q hq=> ?_) m1,fun s hs q hq'=> ?_⟩
    ·rcases m2 (j,x) (by simp) q hq with h | h | h
     ·exact .inr (.inl h)
     ·exact .inr (.inr (.inl h))
     ·exact .inr (.inr (.inr h))
    ·rcases List.mem_cons.1 hq' with rfl | hq'
     ·exact .inr (oo hor s hs)
     ·exact m2 s (by simp [hs]) q hq'
   ·cases h2
structure Qf (ops:Array Oper) (listed:Array Bool) (L:List (Nat×AV×Fx)):Prop where
 left: ∀k,k < ops.size→(listed.getD k true=false↔k∈L.map (·.1))
 lt: ∀k∈L.map (·.1),k < ops.size
 sorted:(L.map (·.1)).Pairwise (· < ·)
 closed: ∀k o e,ops[k]? =some o→listed.getD k true=true→e∈o.after→Region.binds .any e=true→listed.getD e.on false=true
 size:listed.size=ops.size
 cm:L.Pairwise (Cm ops.toList)
theorem zf {l:Array Bool} {k:Nat}:l.getD k false=true→l.getD k true=true:=by
 simp only [Array.getD_eq_getD_getElem?]
 cases l[k]? <;> simp
theorem qU {ops:Array Oper} {listed:Array Bool} {L:List (Nat×AV×Fx)} (hc:Qf ops listed L): ∀(f j i:Nat),behind ops.toList f j i=true→
  (∀o e,ops[j]? =some o→e∈o.after→Region.binds .any e=true→listed.getD e.on false=true)→listed.getD i true=true
 | 0,_,_,h,_=>by simp [behind] at h
 | f+1,j,i,h,hr=>by
  simp only [behind,Array.getElem?_toList] at h
  split at h
  ·rename_i o ho
   simp only [List.any_eq_true,Bool.and_eq_true,Bool.or_eq_true] at h
   obtain ⟨e,he,hb,h2⟩:=h
   have hl:=hr o e ho (by simpa using he) hb
   rcases h2 with h2 | ⟨_,h2⟩
   ·rw [← Nat.eq_of_beq_eq_true h2];exact zf hl
   ·exact qU hc f e.on i h2 fun o' e' ho' he' hb'=>hc.closed e.on o' e' ho' (zf hl) he' hb'
  ·cases h
theorem mem_ready {ops:Array Oper} {listed:Array Bool} {i:Nat}:i∈Region.ready .any ops listed↔i < ops.size∧listed.getD i true=false∧ ∀o e,ops[i]? =some o→e∈o.after→Region.binds .any e=true→listed.getD e.on false=true:=by
 simp only [Region.ready,List.mem_filter,List.mem_range,Bool.and_eq_true,Bool.not_eq_true']
 constructor
 ·rintro ⟨h1,h2,h3⟩
  refine ⟨h1,h2,fun o e ho he hb=> ?_⟩
  rw [ho] at h3
  simp only [Option.map_some,Option.getD_some,Array.all_eq_true'] at h3
  have:=h3 e he
  rw [hb] at this
  simpa using this
 ·rintro ⟨h1,h2,h3⟩
  refine ⟨h1,h2, ?_⟩
  rw [Array.getElem?_eq_getElem h1]
  simp only [Option.map_some,Option.getD_some,Array.all_eq_true']
  intro e he
  cases hb:Region.binds .any e with
  | false=>rfl
  | true=>simpa using h3 _ e (Array.getElem?_eq_getElem h1) he hb
section
variable {P:Program} {A:Nat→Prop}
theorem xP {X:Cx} {e0:Nat→Option Nat} {ro:Option Nat} (hX:Good P X) {ops:Array Oper} (hpl:ro.isSome=true→ig ops.toList=true) (hok:kg ops.toList=true) {Q:Exit→Act→World→Prop} {fr':Fr} {st':St}: ∀(fuel:Nat) (listed:Array Bool) (L:List (Nat×AV×Fx)) (fr:Fr) (st:St) (g:Gh) (a:Act) (w:World),
  L.length=fuel→Qf ops listed L→wg X e0 ops.toList L fr st fr' st'→Rel X A ro g fr st a w→(∀a' g' w',Rel X A ro g' fr' st' a' w'→a'.defers=a.defers→Kp A g w g' w'→Q .normal a' w')→wpAnyIn (fe ro) 0 P .any ops Q fuel listed a w
 | 0,listed,L,fr,st,g,a,w,hl,hc,hr,hrel,hQ=>by
  have:L=[]:=List.eq_nil_of_length_eq_zero hl
  subst this
  cases hr
  refine ⟨?_,hQ a g w hrel rfl (Kp.refl _ _ _)⟩
  apply List.eq_nil_iff_forall_not_mem.2
  intro i hi
  obtain ⟨h1,h2,_⟩:=mem_ready.1 hi
  have:=(hc.left i h1).1 h2
  cases this
 | fuel+1,listed,L,fr,st,g,a,w,hl,hc,hr,hrel,hQ=>by
  refine ⟨fun hnil=> ?_,fun i hi=> ?_⟩
  ·exfalso
   cases L with
   | nil=>simp at hl
   | cons p L=>
    have hp:=hc.lt p.1 (by simp)
    have:p.1∈Region.ready .any ops listed:=mem_ready.2 ⟨hp,(hc.left p.1 hp).2 (by simp),fun o e ho he hb=>by
     have hlt:=yp hok ho he hb
     have hes:e.on < ops.size:=by omega
     have hnot:e.on∉(p::L).map (·.1):=by
      intro hm
      simp only [List.map_cons,List.mem_cons] at hm
      rcases hm with hm | hm
      ·omega
      ·have:=hc.sorted
       simp only [List.map_cons,List.pairwise_cons] at this
       have:=this.1 _ hm
       omega
     have:=mt (hc.left e.on hes).1 hnot
     have hsz:e.on < listed.size:=by rw [hc.size];exact hes
     simp only [Array.getD_eq_getD_getElem?,Array.getElem?_eq_getElem hsz,Option.getD_some] at this ⊢
     simpa using this⟩
    rw [hnil] at this
    cases this
  ·obtain ⟨h1,h2,h3⟩:=mem_ready.1 hi
   have hm:=(hc.left i h1).1 h2
   obtain ⟨q,hq,hqi⟩:=List.mem_map.1 hm
   subst hqi
   obtain ⟨L1,L2,rfl⟩:=List.append_of_mem hq
   have hturn: ∀p∈L1,Ot ops p q:=fun p hp=>by
    have hlt:p.1 < q.1:=by
     have:=hc.sorted
     rw [List.map_append,List.pairwise_append] at this
     exact this.2.2 p.1 (List.mem_map.2 ⟨p,hp,rfl⟩) q.1 (by simp)
    have hnb: ∀f,behind ops.toList f q.1 p.1=true→False:=fun f hb=>by
     have:=qU hc f q.1 p.1 hb h3
     have hp':=(hc.left p.1 (by omega)).2 (by simp only [List.map_append,List.mem_append,List.mem_map];exact .inl ⟨p,hp,rfl⟩)
     rw [this] at hp';cases hp'
    refine ⟨?_,fun o1 o2 e1 e2=> ?_⟩
    ·have:=hc.cm
     rw [List.pairwise_append] at this
     rcases this.2.2 p hp q (by simp) with h | h | h | h
     ·exact .inl h
     ·exact .inr (.inl h)
     ·exact .inr (.inr h)
     ·exact (hnb _ h).elim
    ·rcases yh hok hlt e2 e1 with h | h
     ·exact h
     ·exact (hnb _ h).elim
   have hr':=wA hr hturn
   cases hr' with
   | cons ho h t=>
    rename_i j v x o
    refine xA hX hpl (by simpa using ho) h hrel fun a' g' w' hrel' hd hk=> ?_
    refine xP hX hpl hok fuel _ (L1++L2) _ _ g' a' w' (by simp at hl ⊢;omega) ?_ t hrel' fun a'' g'' w'' hr'' hd' hk'=>hQ a'' g'' w'' hr'' (hd'.trans hd) (hk.trans hk')
    have hsz:j < listed.size:=by rw [hc.size];exact h1
    have hget: ∀k b,(listed.setIfInBounds j true).getD k b=if k=j then true else listed.getD k b:=fun k b=>by
     simp only [Array.getD_eq_getD_getElem?,Array.getElem?_setIfInBounds]
     by_cases hk:j=k
     ·subst hk;simp [hsz]
     ·rw [if_neg hk,if_neg (fun e=>hk e.symm)]
    have hsort:=hc.sorted
    rw [List.map_append,List.map_cons,List.pairwise_append,List.pairwise_cons] at hsort
    refine ⟨fun k hk=> ?_,fun k hk=>hc.lt k ?_, ?_,fun k o' e ho' hl' he hb=> ?_,by simp [hc.size], ?_⟩
    ·rw [hget]
     by_cases hkj:k=j
     ·subst hkj
      simp only [if_true,Bool.true_eq_false,false_iff]
      intro hm
      simp only [List.map_append,List.mem_append] at hm
      rcases hm with hm | hm
      ·have:=hsort.2.2 k hm k (by simp);omega
      ·have:=hsort.2.1.1 k hm;omega
     ·rw [if_neg hkj,hc.left k hk]
      simp only [List.map_append,List.map_cons,List.mem_append,List.mem_cons]
      constructor
      ·rintro (h | h | h)
       ·exact .inl h
       ·exact absurd h hkj
       ·exact .inr h
      ·rintro (h | h)
       ·exact .inl h
       ·exact .inr (.inr h)
    ·simp only [List.map_append,List.map_cons,List.mem_append,List.mem_cons] at hk ⊢
     rcases hk with h | h
     ·exact .inl h
     ·exact .inr (.inr h)
    ·rw [List.map_append,List.pairwise_append]
     exact ⟨hsort.1,hsort.2.1.2,fun x hx y hy=>hsort.2.2 x hx y (by simp [hy])⟩
    ·rw [hget] at hl' ⊢
     by_cases hej:e.on=j
     ·rw [if_pos hej]
     ·rw [if_neg hej]
      by_cases hkj:k=j
      ·subst hkj;exact h3 o' e ho' he hb
      ·rw [if_neg hkj] at hl';exact hc.closed k o' e ho' hl' he hb
    ·have:=hc.cm
     rw [List.pairwise_append,List.pairwise_cons] at this
     rw [List.pairwise_append]
     exact ⟨this.1,this.2.1.2,fun x hx y hy=>this.2.2 x hx y (by simp [hy])⟩
theorem Rel.drew {X:Cx} {ro:Option Nat} {g:Gh} {fr:Fr} {st:St} {a:Act} {w:World} (h:Rel X A ro g fr st a w):Rel X A ro g fr st a w.drew:=⟨h.mode,h.fr,h.inv.drew,h.G,h.marks⟩
theorem AG {X:Cx} {ro:Option Nat} (hX:Good P X) (hm:P.follows .mixedOrders=true) {id:Nat} {ops:Array Oper} (hpl:ro.isSome=true→ig ops.toList=true) {draw:Bool} (hok:draw=true→kg ops.toList=true) {fr fr':Fr} {st st':St} {g:Gh} {a:Act} {w:World} {Q:Exit→Act→World→Prop}
  (h:dJ X ops.toList draw 0 [] ops.toList fr st= .ok (fr',st')) (hrel:Rel X A ro g fr st a w) (hQ: ∀a' g' w',Rel X A ro g' fr' st' a' w'→a'.defers=a.defers→Kp A g w g' w'→Q .normal a' w'):(Code.region id ops draw).wpIn (fe ro) 0 P Q a w:=by
 obtain ⟨L,k1,k2,k3⟩:=oB h (by simp)
 have hlen:L.map (·.1)=List.range ops.size:=by rw [k2,List.range_eq_range'];simp
 cases draw with
 | false=>
  refine wpIn_region ?_
  have:=qX hX hpl k1 hrel hQ
  rwa [hlen] at this
 | true=>
  obtain ⟨m1,_⟩:=k3 rfl
  refine wpIn_region_any hm ?_
  refine xP hX hpl (hok rfl) ops.size _ L fr st g a w.drew ?_ ?_ k1 hrel.drew fun a' g' w' hr hd hk=>hQ a' g' w' hr hd ((Kp.drew A g w).trans hk)
  ·have:=congrArg List.length hlen
   simpa using this
  ·refine ⟨fun k hk=> ?_,fun k hk=> ?_, ?_,fun k o e ho hl=> ?_,by simp,m1⟩
   ·rw [hlen];simp [hk]
   ·rw [hlen] at hk;simpa using hk
   ·rw [hlen];exact List.pairwise_lt_range
   ·have hk:k < ops.size:=by
     rcases Nat.lt_or_ge k ops.size with q | q
     ·exact q
     ·rw [Array.getElem?_eq_none q] at ho;cases ho
    simp [hk] at hl
theorem yq {X:Cx} {ro:Option Nat} (hX:Good P X) (hm:P.follows .mixedOrders=true) {id:Nat} {ops:Array Oper} (hpl:ro.isSome=true→ig ops.toList=true) {e0:Nat→Option Nat} (hok:kg ops.toList=true) {fr fr':Fr} {st st':St} {g:Gh} {a:Act} {w:World} {Q:Exit→Act→World→Prop}
  (h:cX X e0 ops.toList 0 [] ops.toList fr st= .ok (fr',st')) (hrel:Rel X A ro g fr st a w) (hQ: ∀a' g' w',Rel X A ro g' fr' st' a' w'→a'.defers=a.defers→Kp A g w g' w'→Q .normal a' w'):(Code.region id ops true).wpIn (fe ro) 0 P Q a w:=by
 obtain ⟨L,k1,k2,k3⟩:=mL h (by simp)
 have hlen:L.map (·.1)=List.range ops.size:=by rw [k2,List.range_eq_range'];simp
 obtain ⟨m1,_⟩:=k3
 refine wpIn_region_any hm ?_
 refine xP hX hpl hok ops.size _ L fr st g a w.drew ?_ ?_ k1 hrel.drew fun a' g' w' hr hd hk=>hQ a' g' w' hr hd ((Kp.drew A g w).trans hk)
 ·have:=congrArg List.length hlen
  simpa using this
 ·refine ⟨fun k hk=> ?_,fun k hk=> ?_, ?_,fun k o e ho hl=> ?_,by simp,m1⟩
  ·rw [hlen];simp [hk]
  ·rw [hlen] at hk;simpa using hk
  ·rw [hlen];exact List.pairwise_lt_range
  ·have hk:k < ops.size:=by
    rcases Nat.lt_or_ge k ops.size with q | q
    ·exact q
    ·rw [Array.getElem?_eq_none q] at ho;cases ho
   simp [hk] at hl
end
end Go.VM
