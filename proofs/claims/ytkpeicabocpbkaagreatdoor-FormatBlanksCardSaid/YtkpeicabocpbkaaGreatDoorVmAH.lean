/-
  A part of the proof.
-/
import Derived.Test.YtkpeicabocpbkaaGreatDoorVmAG
import Derived.Laws.Build
set_option linter.all false
namespace Go.VM
section
variable {P:Program} {T:TT} {A:Nat->Prop} {g:Gh} {st:St} {w:World}
theorem Cv (off:Nat): ∀(new:List Value) (k:Nat) (cells:Array Value),off+k+new.length<=cells.size->
  ((new.zipIdx k).foldl (fun cs (x:Value×Nat)=>cs.setIfInBounds (off+x.2) x.1) cells).toList=cells.toList.take (off+k)++new++cells.toList.drop (off+k+new.length)
 | [],k,cells,_=>by simp
 | v::new,k,cells,h=>by
  simp only [aab] at h;rw [List.zipIdx_cons,acp,Cv off new (k+1) _ (by simp;omega)];have e:=list_seg_step cells.toList (off+k) v new (by simp;omega);simpa [Array.toList_setIfInBounds,acr,abC 1] using e
theorem Lu {v:Value} {off:Nat} {cells:Array Value} (h:off+v.cells.size<=cells.size):
  (v.cells.zipIdx.foldl (fun cs (x:Value×Nat)=>cs.setIfInBounds (off+x.2) x.1) cells).toList=cells.toList.take off++v.cells.toList++cells.toList.drop (off+v.cells.size):=by
 rw [<- Array.foldl_toList];have:=Cv off v.cells.toList 0 cells (by simpa using h);simpa [Array.toList_zipIdx] using this
inductive sW (g:Gh):List (Nat×AV)->List (Nat×Value)->Prop
 | nil:sW g [] []
 | cons {i:Nat} {v:AV} {x:Value} {l:List (Nat×AV)} {m:List (Nat×Value)} (h:R g v x) (t:sW g l m):sW g ((i,v)::l) ((i,x)::m)
theorem KX {v:AV} {x:Value} (h:R g v x):x.cells.size=v.cells.length/\(RL g v.cells x.cells.toList):=by
 cases v with
 | agg cs=>
  simp only [R] at h;obtain ⟨ys,rfl,a⟩:=h;exact ⟨by simpa [AV.cells,Value.cells] using fp a,a⟩
 | opq i=>
  have hx:x.cells= #[x]:=by
   simp only [R] at h;rcases h with ⟨_,rfl | ⟨_,_,rfl⟩⟩ | ⟨_,_,rfl⟩ <;> rfl
  rw [hx];exact ⟨rfl,cA h gF⟩
 | _=>
  have hx:x.cells= #[x]:=by
   simp only [R] at h
   first
    | (obtain ⟨_,_,_,_,_,rfl,_⟩:=h;rfl)
    | (obtain ⟨_,_,_,_,_,rfl⟩:=h;rfl)
    | (subst h;rfl)
    | (obtain ⟨_,_,_,rfl,_⟩:=h;rfl)
    | (obtain ⟨_,_,rfl⟩:=h;rfl)
    | (obtain ⟨_,_,_,_,rfl,_⟩:=h;rfl)
    | (obtain ⟨_,_,rfl,_⟩:=h;rfl)
    | (obtain ⟨_,rfl,_⟩:=h;rfl)
    | (obtain ⟨_,_,_,rfl,_⟩:=h;rfl)
  rw [hx];exact ⟨rfl,cA h gF⟩
theorem lY {place place':Nat->Oq (Nat×Nat)} (a: ∀k p,place k=some p->place' k=some p): ∀{parts:List (Nat×AV)} {parts':List (Nat×Value)} {cells cs:LA} {xs:Array Value},
  sW g parts parts'->RL g cells xs.toList->lF place cells parts= .ok cs-> ∃ys,Instr.fill place' xs parts'=some ys/\RL g cs ys.toList
 | _,_,_,_,_,.nil,b,h=>by
  simp only [lF,aac] at h;subst h;exact ⟨_,rfl,b⟩
 | _,_,cells,cs,xs,.cons (i:=i) (v:=v) (x:=x) j l,b,h=>by
  simp only [lF] at h;split at h
  .cases h
  .rename_i off size m;split at h
   .rename_i c;simp only [aaf] at c;have h1:=aan c.1;have q:=aaq c.2;obtain ⟨r,n⟩:=KX j;have d:=fp b;simp only [abK] at d;have e:(x.cells.zipIdx.foldl (fun cs (y:Value×Nat)=>cs.setIfInBounds (off+y.2) y.1) xs).toList=xs.toList.take off++x.cells.toList++xs.toList.drop (off+x.cells.size):=Lu (by omega);have f:RL g (dj cells off v.cells) (x.cells.zipIdx.foldl (fun cs (y:Value×Nat)=>cs.setIfInBounds (off+y.2) y.1) xs).toList:=by
     rw [e];have:=vJ off b n;simpa using this
    obtain ⟨ys,k1,o⟩:=lY a l f h;refine ⟨ys, ?_,o⟩;simp only [Instr.fill,a _ _ m];rw [if_neg (by simp;omega)];exact k1
   .cases h
theorem sM (hT:yp P T) {w:World}: ∀{fields:List Field} {ps:List (Nat×Nat)},pj T (fields.map fun f=>(f.offset,f.type))= .ok ps->
  (fields.mapM fun f=>do pure (f.offset, <- sizeOf f.type):Sem (List (Nat×Nat))).run P w= .ok ps w
 | [],_,h=>by
  simp only [aaN,pj,aac] at h;subst h;rfl
 | f::l,_,h=>by
  simp only [aal,pj,ah,au] at h;obtain ⟨i,h1,ps,a,rfl⟩:=h;have hi:=hT _ i (cy.1 h1);have ih:=sM hT (w:=w) a;rw [List.mapM_cons];simp only [Sem.run_bind,hi.dt,Result.andThen_ok,Sem.run_pure,ih]
theorem Gu (hT:yp P T) {t:Td} {parts:List (Nat×AV)} {parts':Array (Nat×Value)} {v:AV} (q:build T t parts= .ok v) (r:sW g parts parts'.toList) (h:Inv T A g st w):
  bn P T A g w v st (Instr.build t parts'):=by
 simp only [build,ah] at q;obtain ⟨i,h1,a⟩:=q;have hi:=hT t i (cy.1 h1);obtain ⟨z,s,C,D,z4,E,u⟩:=hi.qB;split at a
 .rename_i fs c;obtain ⟨fields,k1,y⟩:=sX hi c;simp only [ah,au] at a;obtain ⟨ps,b,cs,h4,rfl⟩:=a;rw [<- y] at b;have hm:=sM hT (w:=w) b;obtain ⟨ys,d,l⟩:=lY (place':=fun k=>ps.toArray[k]?) (fun k p m=>by simpa using m) r (u g) h4;refine bn.of h (x:= .agg ys) ?_ (by simp only [R];exact ⟨ys,rfl,l⟩);have o:(fields.mapM fun f=>do pure (f.offset, <- sizeOf f.type):Sem (Array (Nat×Nat))).run P w= .ok ps.toArray w:=by
   rw [Array.mapM_eq_mapM_toList];simp only [Sem.run_map,hm,Result.andThen_ok]
  simp only [Instr.build,Sem.run_bind,s,Result.andThen_ok,k1,o,d,Sem.run_pure]
 .rename_i n e c;have k1:=sb hi c;simp only [ah,au] at a;obtain ⟨j,b,cs,h4,rfl⟩:=a;have B:=hT _ j (cy.1 b);obtain ⟨ys,d,l⟩:=lY (place':=fun k=>some (k * j.size,j.size)) (fun k p m=>m) r (u g) h4;refine bn.of h (x:= .agg ys) ?_ (by simp only [R];exact ⟨ys,rfl,l⟩);simp only [Instr.build,Sem.run_bind,s,Result.andThen_ok,k1,B.dt,d,Sem.run_pure]
 .cases a
theorem Lj {v:AV} (h:one v=true):v.cells=[v]:=by cases v <;> first | rfl | simp [one] at h
theorem Mr {l:LA} (n:Nat) (h:iw l=true):iw (l.drop n)=true:=by
 induction n generalizing l with
 | zero=>exact h
 | succ n ih=>
  cases l with
  | nil=>rfl
  | cons v l=>
   simp only [iw,aaf] at h;exact ih h.2
theorem ta {sz:Nat} {agg:Bool} (b:agg=false->sz=1): ∀{n:Nat} {cs els:LA},iw cs=true->group sz agg n cs= .ok els->flat els=cs.take (n * sz)/\(∀e∈els,e.cells.length=sz)/\els.length=n
 | 0,cs,els,_,h=>by
  simp only [group,aac] at h;subst h;simp [flat]
 | n+1,cs,els,ho,h=>by
  simp only [group,ah,au] at h;obtain ⟨v,h1,l,f,rfl⟩:=h;obtain ⟨k1,g,i⟩:=ta b (Mr sz ho) f;have key:v.cells=cs.take sz/\v.cells.length=sz:=by
   cases agg with
   | true=>
    simp only [cM] at h1;split at h1
    .rename_i a;have a:=aaq a;simp only [aac] at h1;subst h1;exact ⟨rfl,by simp [AV.cells];omega⟩
    .cases h1
   | false=>
    have b:=b rfl;subst b;simp only [cM] at h1;cases cs with
    | nil=>cases h1
    | cons c cs=>
     simp only [aac] at h1;subst h1;simp only [iw,aaf] at ho;rw [Lj ho.1];exact ⟨rfl,rfl⟩
  refine ⟨?_, ?_,by simp [i]⟩
  .rw [hH,k1,key.1,Nat.add_mul,Nat.one_mul,abC,List.take_add]
  .intro e d;rcases aam.1 d with rfl | d
   .exact key.2
   .exact g e d
def kO (z:List Value):Nat->List Value
 | 0=>[]
 | n+1=>z++kO z n
theorem AP {z:LA} {zs:List Value} (h:RL g z zs): ∀n,RL g (zeros z n) (kO zs n)
 | 0=>gF
 | n+1=>gY h (AP h n)
theorem AL (z:List Value): ∀(n j:Nat),j < n * z.length->(kO z n)[j]? =z[j % z.length]?
 | 0,j,h=>by omega
 | n+1,j,h=>by
  simp only [kO];have a:0 < z.length:=by
   rcases Nat.eq_zero_or_pos z.length with q | q
   .rw [q] at h;omega
   .exact q
  rw [Nat.add_mul,Nat.one_mul] at h;rcases Nat.lt_or_ge j z.length with q | q
  .rw [abi q,Nat.mod_eq_of_lt q]
  .rw [abg q,AL z n _ (by omega),Nat.mod_eq_sub_mod q]
theorem sG (z:List Value): ∀n,(kO z n).length=n * z.length
 | 0=>by simp [kO]
 | n+1=>by simp only [kO,aaa,sG z n,Nat.add_mul];omega
theorem Ft (z:Array Value) (n:Nat):((Array.range (n * z.size)).map fun i=>z[i % z.size]!).toList=kO z.toList n:=by
 apply List.ext_getElem?
 intro j;rcases Nat.lt_or_ge j (n * z.size) with q | q
 .rw [AL _ _ _ (by simpa using q)];have a:0 < z.size:=by
   rcases Nat.eq_zero_or_pos z.size with r | r
   .rw [r] at q;omega
   .exact r
  have hm:j % z.size < z.size:=Nat.mod_lt _ a;simp [q,hm]
 .rw [aaX (by simpa using q),aaX (by rw [sG];simpa using q)]
theorem Pn {t:Td} {i:TI} (hi:jX P t i):i.agg=false->i.size=1:=by
 obtain ⟨f,h1,d,e,z,h4,a,b,_⟩:=hi.info;intro c;have:=b c;rw [<- a];cases z <;> first | rfl | simp [Value.oneCell'] at this
theorem BO {cs new:LA} {off:Nat} (h:off+new.length<=cs.length):(dj cs off new).length=cs.length:=by
 simp [dj];omega
theorem zj {place:Nat->Oq (Nat×Nat)}: ∀{parts:List (Nat×AV)} {cells cs:LA},lF place cells parts= .ok cs->cs.length=cells.length
 | [],_,_,h=>by
  simp only [lF,aac] at h;rw [h]
 | (i,v)::l,cells,cs,h=>by
  simp only [lF] at h;split at h
  .cases h
  .split at h
   .rename_i a;simp only [aaf] at a;have h1:=aan a.1;have b:=aaq a.2;rw [zj h,BO (by omega)]
   .cases h
theorem uJ (z:LA): ∀n,(zeros z n).length=n * z.length
 | 0=>by simp [zeros]
 | n+1=>by simp only [zeros,aaa,uJ z n,Nat.add_mul];omega
theorem wQ (hT:yp P T) {t:Td} {len:Nat} {parts:List (Nat×AV)} {parts':Array (Nat×Value)} {v:AV} (H:buildSlice T t len parts= .ok v) (M:sW g parts parts'.toList) (h:Inv T A g st w):
  bn P T A g w v st (Instr.buildSlice t len parts'):=by
 simp only [buildSlice,ah] at H;obtain ⟨i,h1,l⟩:=H;have hi:=hT t i (cy.1 h1);split at l
 .rename_i e x;have k1:=eW hi x;simp only [ah] at l;obtain ⟨j,N,h4⟩:=l;have y:=hT _ j (cy.1 N);split at h4
  .rename_i B;simp only [aaf] at B;have c1:=aaq B.1;have O:=aaq B.2;simp only [ah] at h4;obtain ⟨cs,I,m⟩:=h4;split at m
   .rename_i a;simp only [ah,au] at m;obtain ⟨els,Q,b,S,rfl⟩:=m;obtain ⟨z,U,n,z3,z4,z5,J⟩:=y.qB;have C:RL g (zeros j.zero len) ((Array.range (len * z.cells.size)).map fun i=>z.cells[i % z.cells.size]!).toList:=by
     rw [Ft];exact AP (J g) len
    obtain ⟨ys,o,q⟩:=lY (place':=fun k=>some (k * j.size,j.size)) (fun k p V=>V) M C I;have D:ys.size=len * j.size:=by
     have r:=zj I;rw [uJ] at r;have s:=fp (J g);have d:=fp q;simp only [abK] at s d;rw [d,r, <- s,n]
    obtain ⟨K,W,E⟩:=ta (Pn y) a Q;have L:cs.length=len * j.size:=by rw [<- fp q];simpa using D
    rw [List.take_of_length_le (by omega)] at K;have F:RL g (flat els) ys.toList:=by rw [K];exact q
    obtain ⟨r,s,d,X⟩:=ox S F;have f:=yh a q;obtain ⟨Y,Z,n3⟩:=h.He e r f;refine ⟨.slice (some ⟨w.heap.size,0,none⟩) len len,_,_, ?_, ?_,Y,Z⟩
    .simp only [Instr.buildSlice,Sem.run_bind,k1,Result.andThen_ok,y.dt,Sem.run_ite];rw [if_neg (by omega)];by_cases c:len * j.size=0
     .rw [n,c] at o;simp only [c,if_true,Sem.run_pure,Result.andThen_ok];have:(Array.range 0).map (fun i=>(#[]:Array Value)[i % (#[]:Array Value).size]!)=(Array.range 0).map fun i=>z.cells[i % j.size]! :=by simp
      rw [this,o];simp only [Sem.run_bind,kI,Result.andThen_ok,Sem.run_pure]
     .rw [n] at o;simp only [c,if_false,Sem.run_bind,U,Result.andThen_ok,Sem.run_pure,n,o,kI]
    .simp only [R];refine ⟨s,w.heap.size,0,len,by rw [d,E],by rw [d,E];omega,O, ?_,by show len=b.length;rw [d,E]⟩;rw [gi];refine ⟨?_,n3⟩;intro u x;have:u.cells.length∈b.map (·.cells.length):=abf.2 ⟨u,x,rfl⟩;rw [X] at this;obtain ⟨u',G,e⟩:=abf.1 this;rw [<- e];exact W u' G
   .cases m
  .cases h4
 .cases l
end
section
variable {P:Program} {T:TT} {A:Nat->Prop} {g:Gh} {st:St} {w:World}
mutual
theorem nM (g:Gh): ∀(x:Value) (v:AV),ofConst x= .ok v->R g v x
  | .bool _,v,h | .int _ _,v,h | .float _ _,v,h | .nilFunc,v,h | .nilIface,v,h=>by
    unfold ofConst at h;simp only [aac] at h;subst h;simp only [R]
  | .string s,v,h=>by
    unfold ofConst at h;simp only [aac] at h;subst h;simp only [R]
  | .pointer a,v,h=>by
    cases a with
    | none=>unfold ofConst at h;simp only [aac] at h;subst h;simp only [R]
    | some _=>unfold ofConst at h;cases h
  | .slice a l c,v,h=>by
    unfold ofConst at h;split at h <;> rename_i heq <;> (try (cases heq;done)) <;> (try (cases h;done))
    cases heq;simp only [aac] at h;subst h;simp only [R]
  | .map a,v,h=>by
    cases a with
    | none=>unfold ofConst at h;simp only [aac] at h;subst h;simp only [R]
    | some _=>unfold ofConst at h;cases h
  | .agg cs,v,h=>by
    unfold ofConst at h;simp only [ah,au] at h;obtain ⟨vs,h1,rfl⟩:=h;simp only [R];exact ⟨cs,rfl,nf g cs.toList vs h1⟩
  | .tuple cs,v,h=>by
    unfold ofConst at h;simp only [ah,au] at h;obtain ⟨vs,h1,rfl⟩:=h;simp only [R];exact ⟨cs,rfl,nf g cs.toList vs h1⟩
  | .complex _ _ _,v,h | .chan _,v,h | .func _ _ _,v,h | .iface _ _,v,h=>by
    unfold ofConst at h;cases h
theorem nf (g:Gh): ∀(xs:List Value) (vs:LA),ofConst.ofAll xs= .ok vs->RL g vs xs
  | [],vs,h=>by
    unfold ofConst.ofAll at h;simp only [aac] at h;subst h;exact gF
  | x::xs,vs,h=>by
    unfold ofConst.ofAll at h;simp only [ah,au] at h;obtain ⟨v,h1,l,h2,rfl⟩:=h;exact cA (nM g x v h1) (nf g xs l h2)
end
theorem DH:R g undef Go.undef:=by
  simp only [undef,R];exact ⟨#[],rfl,by simp [RL]⟩
theorem yx.put {fr:Fr} {tmps:Array Value} (h:yx g fr tmps) {v:AV} {x:Value} (hx:R g v x) (d:Oq Tmp):
    yx g (fr.put d v) (match d with | some d=>tmps.setIfInBounds d x | none=>tmps):=by
  cases d with
  | none=>exact h
  | some d=>
    simp only [Fr.put];split
    · rename_i hd
      rw [cS, <- h.size] at hd;refine ⟨by simp [h.size],fun t=> ?_⟩;simp only [Fr.get,Tr.la];by_cases a:d=t
      · subst a
        right;simpa [hd] using hx
      · have:=h.at' t
        simp only [Fr.get] at this;simpa [a,Array.getElem?_setIfInBounds_ne a] using this
    · rename_i hd
      rw [eG, <- h.size] at hd;rw [Array.setIfInBounds_eq_of_size_le (by simpa using hd)];exact h
def GR (g:Gh) (G:Nat->Oq LA):Prop:= ∀k cs,G k=some cs->bN cs=true/\oH g cs k 0
theorem GR.mono {g g':Gh} {G:Nat->Oq LA} (h:GR g G) (le:Le g g'):GR g' G:=fun k cs a=>⟨(h k cs a).1,uo le _ _ _ (h k cs a).2⟩
theorem aS {G:Nat->Oq LA} {fr:Fr} {a:Act} {x:Operand} {v:AV} (e:GR g G) (hf:yx g fr a.tmps) (h:ch G fr x= .ok v):R g v (a.eval x):=by
  cases x with
  | tmp t=>
    simp only [ch] at h;split at h
    · rename_i hs
      simp only [aac] at h;subst h;exact hf.at hs t
    · split at h
      · rename_i u d
        simp only [aac] at h;subst h;rcases hf.at' t with ⟨_,b⟩ | b
        · rw [d] at b;cases b
        · rw [Fr.get,d] at b;exact b
      · cases h
  | const c=>exact nM g c v h
  | global k=>
    simp only [ch] at h;split at h
    · rename_i cs i
      simp only [aac] at h;subst h;obtain ⟨h1,b⟩:=e k cs i;simp only [R,Act.eval];exact ⟨h1,k,0,rfl,b⟩
    · cases h
  | func f=>
    simp only [ch,aac] at h;subst h;simp only [R,Act.eval];exact ⟨#[], #[],rfl,by simp [RL],by simp [RL]⟩
theorem nE {G:Nat->Oq LA} {fr:Fr} {a:Act} (b:GR g G) (hf:yx g fr a.tmps): ∀{xs:List Operand} {vs:LA},nv G fr xs= .ok vs->RL g vs (xs.map a.eval)
  | [],_,h=>by simp only [nv,aac] at h;subst h;exact gF
  | x::xs,_,h=>by
    simp only [nv,ah,au] at h;obtain ⟨v,h1,l,c,rfl⟩:=h;exact cA (aS b hf h1) (nE b hf c)
theorem nN {G:Nat->Oq LA} {fr:Fr} {a:Act} (b:GR g G) (hf:yx g fr a.tmps) {x:Oq Operand} {v:Oq AV} (h:ej G fr x= .ok v):Ou g v (x.map a.eval):=by
  cases x with
  | none=>simp only [ej,aac] at h;subst h;trivial
  | some x=>
    simp only [ej,ah,au] at h;obtain ⟨u,h1,rfl⟩:=h;exact aS b hf h1
theorem lG {G:Nat->Oq LA} {fr:Fr} {a:Act} (b:GR g G) (hf:yx g fr a.tmps): ∀{xs:List (Nat×Operand)} {vs:List (Nat×AV)},gL G fr xs= .ok vs->sW g vs (xs.map fun (i,x)=>(i,a.eval x))
  | [],_,h=>by simp only [gL,aac] at h;subst h;exact .nil
  | (i,x)::xs,_,h=>by
    simp only [gL,ah,au] at h;obtain ⟨v,h1,l,c,rfl⟩:=h;exact .cons (aS b hf h1) (lG b hf c)
theorem xD {d:TypeDesc} {u:U} {a b:AV} {r:Bool} {x y:Value} (c:Ae d u) (e:pZ u a=true) (h:sI a b= .ok r) (hx:R g a x) (hy:R g b y):Instr.sameNow d x y=some r:=by
  unfold sI at h;split at h
  · simp only [aac] at h
    subst h;simp only [R] at hx hy;subst hx hy;cases u <;> simp [pZ] at e
    simp only [Ae] at c;subst c;rfl
  · rename_i j a k b
    split at h
    · rename_i f
      subst f;simp only [aac] at h;subst h;simp only [R] at hx hy;subst hx hy;cases u <;> simp [pZ] at e
      simp only [Ae] at c;subst c;simp [Instr.sameNow]
    · cases h
  · simp only [aac] at h
    subst h;simp only [R] at hx hy;subst hx hy;cases u <;> simp [pZ] at e
    simp only [Ae] at c;subst c;simp [Instr.sameNow,H8]
  · cases h
theorem qc {d:TypeDesc} {u:U} {k:AV} {f:Value} (n:Ae d u) (o:pZ u k=true) (hx:R g k f): ∀{es:List (AV×AV)} {ents:List MapEntry} {r:Oq AV} (i:Nat),iK k es= .ok r->rG g es ents->
    match r with
    | none=>Instr.findNow d f ents i=some none
    | some v=> ∃j y,Instr.findNow d f ents i=some (some (j,y))/\R g v y
  | [],_,_,i,h,c=>by
    simp only [iK,aac] at h;subst h;simp only [rG] at c;subst c;rfl
  | (a,v)::es,_,r,i,h,c=>by
    simp only [rG] at c;obtain ⟨e,l,rfl,p,r2,q⟩:=c;simp only [iK,ah] at h;obtain ⟨b,h1,m⟩:=h;have hs:=xD n o h1 hx p;cases b with
    | true=>
      simp only [au] at m;subst m;exact ⟨i,e.val,by simp [Instr.findNow,hs],r2⟩
    | false=>
      have ih:=qc n o hx (i+1) m q;cases r with
      | none=>simp only [Instr.findNow,hs];exact ih
      | some v'=>
        obtain ⟨j,y,s,h4⟩:=ih;exact ⟨j,y,by simp only [Instr.findNow,hs];exact s,h4⟩
theorem run_checkKey {a:Td} {d:TypeDesc} {u:U} {k:AV} {c:Value} (hd:P.underlying a=some d) (e:Ae d u) (f:pZ u k=true) (hx:R g k c) (b:Bool) (n:Nat):
    (Instr.checkKey b (n+1) a c).run P w= .ok () w:=by
  cases u <;> cases k <;> simp [pZ] at f <;> simp only [Ae] at e <;> simp only [R] at hx <;> subst e hx <;> simp [Instr.checkKey,gD hd]
theorem run_findKey {a:Td} {d:TypeDesc} {b:Value} {ents:List MapEntry} {r:Oq (Nat×Value)} (hd:P.underlying a=some d) (h:Instr.findNow d b ents 0=some r):
    (Instr.findKey a b ents).run P w= .ok r w:=by
  simp [Instr.findKey,gD hd,h]
theorem FE {t:Td} {i:TI} (hi:jX P t i): ∃z,(∀w,(zeroValue t).run P w= .ok z w)/\R g (zeroV i) z:=by
  obtain ⟨z,h,o,j,z4,k,c⟩:=hi.qB;refine ⟨z,h, ?_⟩;cases b:i.agg with
  | true=>
    obtain ⟨cs,rfl⟩:=k b;simp only [zeroV,b,R];exact ⟨cs,rfl,c g⟩
  | false=>
    have h1:=j b;have m:z.cells= #[z]:=by cases z <;> first | rfl | simp [Value.oneCell'] at h1
    have a:=c g;rw [m] at a;cases hl:i.zero with
    | nil=>rw [hl] at a;simp only [RL] at a;cases a
    | cons v l=>
      rw [hl] at a;simp only [RL] at a;obtain ⟨x,xs,d,n,f⟩:=a;simp only [abo] at d;obtain ⟨rfl,rfl⟩:=d;cases l with
      | nil=>simp only [zeroV,b,hl];exact n
      | cons u l=>simp only [RL] at f;obtain ⟨_,_,e,_⟩:=f;cases e
theorem qH {h c:Td} {i:TI} {d:TypeDesc} {u:U} {ok:Bool} {k v:AV} {e:Value} {es:List (AV×AV)} {ents:Array MapEntry} (hi:jX P h i) (hd:P.underlying c=some d) (l:Ae d u) (m:pZ u k=true) (hx:R g k e)
    (hf:found i ok k es= .ok v) (n:rG g es ents.toList):(Instr.checkKey ents.isEmpty 10000 c e).run P w= .ok () w/\
      ((∃j y,(Instr.findKey c e ents.toList).run P w= .ok (some (j,y)) w/\R g v (if ok then Value.tuple #[y,.bool true] else y))\/
       ((Instr.findKey c e ents.toList).run P w= .ok none w/\ ∃z,(zeroValue h).run P w= .ok z w/\R g v (if ok then Value.tuple #[z,.bool false] else z))):=by
  simp only [found,ah] at hf;obtain ⟨fr,o,h4⟩:=hf;have a:=qc l m hx 0 o n;obtain ⟨z,p,q⟩:=FE (g:=g) hi;have fin: ∀(b:Bool) (v':AV) (y:Value),R g v' y->R g (okV ok b v') (if ok then Value.tuple #[y,.bool b] else y):=fun b v' y hy=>by
    cases ok with
    | true=>simp only [okV,if_true,R];exact ⟨_,rfl,cA hy (cA (by simp only [R]) gF)⟩
    | false=>simpa [okV] using hy
  have f:=run_checkKey (w:=w) hd l m hx ents.isEmpty 9999;refine ⟨f, ?_⟩;cases fr with
  | none=>
    simp only [au] at h4;subst h4;exact .inr ⟨run_findKey hd a,z,p w,fin false _ z q⟩
  | some t=>
    simp only [au] at h4;subst h4;obtain ⟨j,y,r,s⟩:=a;exact .inl ⟨j,y,run_findKey hd r,fin true _ y s⟩
theorem Ej (hT:yp P T) {C:dh} {t:Td} {x k v:AV} {xv I:Value} {ok:Bool} {p:dI} {J:Fx} (K:jM T t x k ok= .ok p) (hrun:aE C st p= .ok (v,J)) (hx:R g x xv) (D:R g k I) (h:Inv T A g st w):
    bn P T A g w v (J.did.app st) (Instr.lookup t xv I ok):=by
  simp only [jM,ah] at K;obtain ⟨i,h1,B⟩:=K;have hi:=hT t i (cy.1 h1);split at B
  · rename_i kt et L
    have k1:=uq hi L;simp only [ah] at B;obtain ⟨N,O,Q,h4,l⟩:=B;have n:=hT _ N (cy.1 O);have E:=hT _ Q (cy.1 h4);obtain ⟨d,d1,d2,_⟩:=E.und;split at l
    · cases l
    · rename_i q
      split at l
      · simp only [ah,au] at l
        obtain ⟨u,F,rfl⟩:=l;simp only [aE,aac,aag] at hrun;obtain ⟨rfl,rfl⟩:=hrun;simp only [R] at hx;subst hx;obtain ⟨c,⟨j,y,a,e⟩ | ⟨a,z,e,s⟩⟩:=qH (P:=P) (w:=w) (ents:= #[]) n d1 d2 q D F (by simp [rG])
        · simp only [List.isEmpty_toArray,List.isEmpty_nil] at c
          exact bn.of h (by simp [Instr.lookup,k1,c,a]) e
        · simp only [List.isEmpty_toArray,List.isEmpty_nil] at c
          exact bn.of h (by simp [Instr.lookup,k1,c,a,e]) s
      · rename_i es
        simp only [ah,au] at l;obtain ⟨u,F,rfl⟩:=l;simp only [aE,aac,aag] at hrun;obtain ⟨rfl,rfl⟩:=hrun;simp only [R] at hx;obtain ⟨b,ents,clk,S,rfl,U⟩:=hx;have r:=h.M b ents clk S;have f:(getObj b).run P w= .ok (.map ents.toArray clk) w:=by simp [getObj,Sem.run,r]
        obtain ⟨c,⟨j,y,a,e⟩ | ⟨a,z,e,s⟩⟩:=qH (P:=P) (w:=w) (ents:=ents.toArray) n d1 d2 q D F (by simpa using U)
        · exact bn.of h (by simp only [Instr.lookup,Sem.run_bind,k1,Result.andThen_ok,f,Sem.run_pure,c,a]) e
        · exact bn.of h (by simp only [Instr.lookup,Sem.run_bind,k1,Result.andThen_ok,f,Sem.run_pure,c,a,e]) s
      · rename_i m
        simp only [au] at l;subst l;simp only [iV,aE,ah,au] at hrun;obtain ⟨o,V,⟨v',o'⟩,⟨W,G,g4⟩,dd,g5,g6⟩:=hrun;simp only [aag] at g4 g6;obtain ⟨rfl,rfl⟩:=g4;simp only [fK,aac] at g5;subst g5;obtain ⟨rfl,rfl⟩:=g6;split at G
        · rename_i es
          simp only [R] at hx;obtain ⟨b,hE,rfl⟩:=hx;obtain ⟨b',ents,clk,X,Y,Z,q4⟩:=h.H m _ V;have hb:b'=b:=by have:=X.symm.trans hE;simpa using this
          subst hb;have f:(getObj b').run P w= .ok (.map ents clk) w:=by simp [getObj,Sem.run,Y]
          obtain ⟨c,⟨j,y,a,e⟩ | ⟨a,z,e,s⟩⟩:=qH (P:=P) (w:=w) (ents:=ents) n d1 d2 q D G Z
          · exact bn.of h (by simp only [Instr.lookup,Sem.run_bind,k1,Result.andThen_ok,f,Sem.run_pure,c,a]) e
          · exact bn.of h (by simp only [Instr.lookup,Sem.run_bind,k1,Result.andThen_ok,f,Sem.run_pure,c,a,e]) s
        · cases G
      · cases l
  · cases B
end
section
variable {P:Program} {T:TT} {A:Nat->Prop} {g:Gh} {st:St} {w:World}
theorem NY {a b:AV} (h:sI a b= .ok true):a=b:=by
 unfold sI at h;split at h
 .simp only [aac,aaM] at h;subst h;rfl
 .split at h
  .rename_i c;subst c;simp only [aac,aaM] at h;subst h;rfl
  .cases h
 .simp only [aac,aaM] at h;subst h;rfl
 .cases h
theorem IA {a b:AV} {x y:Value} (h:sI a b= .ok true) (hx:R g a x) (hy:R g b y) (n:Nat):Instr.sameBits n y x=true:=by
 unfold sI at h;split at h
 .simp only [aac,aaM] at h;subst h;simp only [R] at hx hy;subst hx hy;cases n <;> simp [Instr.sameBits]
 .split at h
  .rename_i c;subst c;simp only [aac,aaM] at h;subst h;simp only [R] at hx hy;subst hx hy;cases n <;> simp [Instr.sameBits]
  .cases h
 .simp only [aac,aaM] at h;subst h;simp only [R] at hx hy;subst hx hy;have:=fun s:LB=>H8 s s;cases n <;> simp [Instr.sameBits,this]
 .cases h
theorem qj {d:TypeDesc} {u:U} {k v:AV} {m r:Value} (x:Ae d u) (z:pZ u k=true) (hx:R g k m) (s:R g v r): ∀{es f:List (AV×AV)} {ents:List MapEntry} (i:Nat),qy k v es= .ok f->rG g es ents->
  (Instr.findNow d m ents i=some none/\ ∀n,rG g f (ents++[{key:=m,val:=r,born:=n}]))\/
  (∃j y e,Instr.findNow d m ents i=some (some (i+j,y))/\ents[j]? =some e/\Instr.sameBits 10000 e.key m=true/\rG g f (ents.modify j fun e=>{e with key:=m,val:=r}))
 | [],_,_,i,h,o=>by
  simp only [qy,aac] at h;subst h;simp only [rG] at o;subst o;exact .inl ⟨rfl,fun n=>by simp only [rG];exact ⟨_,_,rfl,hx,s,rfl⟩⟩
 | (a,b)::es,_,_,i,h,o=>by
  simp only [rG] at o;obtain ⟨e,l,rfl,p,r2,A⟩:=o;simp only [qy,ah] at h;obtain ⟨c,h1,q⟩:=h;have hs:=xD x z h1 hx p;cases c with
  | true=>
   simp only [au] at q;subst q;refine .inr ⟨0,e.val,e,by simp [Instr.findNow,hs],rfl,IA h1 hx p _, ?_⟩;simp only [List.modify_zero_cons,rG];have:=NY h1;subst this;exact ⟨_,_,rfl,hx,s,A⟩
  | false=>
   simp only [ah,au] at q;obtain ⟨F,B,rfl⟩:=q;rcases qj x z hx s (i+1) B A with ⟨t,w⟩ | ⟨j,y,C,t,w,D,E⟩
   .refine .inl ⟨by simp only [Instr.findNow,hs];exact t,fun n=> ?_⟩;simp only [aap,rG];exact ⟨_,_,rfl,p,r2,w n⟩
   .refine .inr ⟨j+1,y,C, ?_,by simpa using w,D, ?_⟩
    .simp only [Instr.findNow,hs];rw [show i+(j+1)=i+1+j by omega];exact t
    .simp only [List.modify_succ_cons,rG];exact ⟨_,_,rfl,p,r2,E⟩
theorem uv {w:World} {b:Nat} {o o':Go.Obj} (h:w.heap[b]? =some o):({w with heap:=w.heap.setIfInBounds b o'}:World).heap[b]? =some o':=by
 have:=lt_of_heap h;simp [this]
theorem oV {w:World} {b b':Nat} {o':Go.Obj} (h:b'≠b):({w with heap:=w.heap.setIfInBounds b o'}:World).heap[b']? =w.heap[b']? :=by
 simp [Array.getElem?_setIfInBounds_ne (fun e=>h e.symm)]
theorem xK (h:Inv T A g st w) {b:Nat} {o:Go.Obj} (c:w.heap[b]? =some o) (hn: ∀vs ty fz,o≠ .cells vs ty fz) (k:Nat):g.F b k=none:=by
 cases hf:g.F b k with
 | none=>rfl
 | some v=>
  obtain ⟨vs,ty,fz,a,_⟩:=og (h.F b k v hf);rw [c] at a;cases a;exact absurd rfl (hn vs ty fz)
theorem pV (hT:yp P T) {C:dh} {t:Td} {m k v r:AV} {X l G:Value} {p:dI} {Y:Fx} (Z:pc T t m k v= .ok p) (hrun:aE C st p= .ok (r,Y)) (hm:R g m X) (hk:R g k l) (hv:R g v G) (h:Inv T A g st w):
  r=undef/\DP P T A g w (Y.did.app st) (Instr.mapUpdate t X l G):=by
 simp only [pc,ah] at Z;obtain ⟨i,h1,I⟩:=Z;have hi:=hT t i (cy.1 h1);split at I
 .rename_i kt et J;have k1:=uq hi J;simp only [ah] at I;obtain ⟨ki,h3,h4⟩:=I;have N:=hT _ ki (cy.1 h3);obtain ⟨d,d1,d2,_⟩:=N.und;split at h4
  .rename_i id n;simp only [au] at h4;subst h4;simp only [aE,ah,au] at hrun;obtain ⟨o,O,⟨v',o'⟩,K,dd,g5,g6⟩:=hrun;split at K
   .rename_i es;simp only [ah,au,aag] at K;obtain ⟨f,g3,rfl,rfl⟩:=K;simp only [fK] at g5;split at g5
    .cases g5
    .rename_i q;rw [eG] at q;simp only [aac] at g5;subst g5;simp only [aag] at g6;obtain ⟨rfl,rfl⟩:=g6;refine ⟨rfl, ?_⟩;simp only [R] at hm;obtain ⟨b,hE,rfl⟩:=hm;obtain ⟨b',ents,clk,s,L,q3,q4⟩:=h.H id _ O;have x:b'=b:=by have:=s.symm.trans hE;simpa using this
     subst x;have z:(getObj b').run P w= .ok (.map ents clk) w:=by simp [getObj,Sem.run,L]
     have B:=run_checkKey (w:=w) d1 d2 n hk false 9999;have hF:=fun kk=>xK h L (by simp) kk;have fin: ∀a c,rG g f a.toList->(setObj b' (.map a c)).run P w= .ok () {w with heap:=w.heap.setIfInBounds b' (.map a c)}/\
       Inv T A g (st.put id (.map f)) {w with heap:=w.heap.setIfInBounds b' (.map a c)}/\Kp A g w g {w with heap:=w.heap.setIfInBounds b' (.map a c)}:=fun a c hr=>by
      refine ⟨by simp [setObj,Sem.run,L],h.write O (o:= .map es) (b:=b') s (.map f) (by simp) (fun _ x=>oV x) (fun kk u J=>by rw [hF kk] at J;cases J) q4 (fun Q D=>by
       have:g.E id=some (.cw Q):=D;have:=s.symm.trans this;simpa using this.symm) ⟨b',a,c,s,uv L,hr,q4⟩,Kp.write (h.own id _ b' O s q) (by simp) (fun _ x=>oV x)⟩
     rcases qj d2 n hk hv 0 g3 q3 with ⟨M,S⟩ | ⟨j,y,e,M,S,e3,e4⟩
     .obtain ⟨U,V,W⟩:=fin (ents.push {key:=l,val:=G,born:=clk}) (clk+1) (by simpa using S clk);refine ⟨g,_, ?_,V,W⟩;simp only [Instr.mapUpdate,Sem.run_bind,k1,Result.andThen_ok,z,B,run_findKey d1 M,U]
     .rw [aau] at M;obtain ⟨U,V,W⟩:=fin (ents.modify j fun e=>{e with key:=l,val:=G}) clk (by simpa [Array.toList_modify] using e4);refine ⟨g,_, ?_,V,W⟩;have F:((ents[j]?).map (·.key)).getD l=e.key:=by
       have:ents[j]? =some e:=by simpa using S
       simp [this]
      simp only [Instr.mapUpdate,Sem.run_bind,k1,Result.andThen_ok,z,B,run_findKey d1 M,F,Instr.keyThatStays,e3,if_true,Sem.run_pure,U]
   .cases K
  .cases h4
 .cases I
theorem BB (t:Td) (h:Inv T A g st w):bn P T A g w (.mm st.h) (st.new (.map [])).2 (Instr.makeMap t none):=by
 obtain ⟨k1,b⟩:=h.newObj (.map []) (.map #[] 0) (fun b' a=>by
  have:(g.dP st.h (.cw w.heap.size)).E st.h=some (.cw b'):=a;rw [Gh.bJ] at this;simpa using this.symm) ⟨w.heap.size, #[],0,Gh.bJ _ _ _,World.heap_alloc_new,by simp [rG],h.WN (aah _)⟩
 exact ⟨.map (some w.heap.size),_,_,by simp [Instr.makeMap],by simp only [R];exact ⟨_,Gh.bJ _ _ _,rfl⟩,k1,b⟩
theorem EY {t:Td} {i:TI} (hi:jX P t i) (b:i.und= .str) {s:LB} (h:Inv T A g st w):bn P T A g w (.mp st.h 0) (st.new (.sit s 0)).2 (Instr.range t (.string ⟨s.toArray⟩)):=by
 obtain ⟨k1,c⟩:=h.newObj (.sit s 0) (.stringIter ⟨s.toArray⟩ 0) (fun b' a=>by
  have:(g.dP st.h (.cw w.heap.size)).E st.h=some (.cw b'):=a;rw [Gh.bJ] at this;simpa using this.symm) ⟨w.heap.size,Gh.bJ _ _ _,World.heap_alloc_new⟩
 exact ⟨.pointer (some ⟨w.heap.size,0,none⟩),_,_,by simp [Instr.range,uN hi b],by simp only [R];exact ⟨_,Gh.bJ _ _ _,rfl⟩,k1,c⟩
theorem IQ {C:dh} {x v:AV} {xv:Value} {ty:Td} {p:dI} {r:Fx} (e:B5 x= .ok p) (hrun:aE C st p= .ok (v,r)) (hx:R g x xv) (h:Inv T A g st w):
  bn P T A g w v (r.did.app st) (Instr.next xv true ty):=by
 unfold B5 at e;split at e
 .rename_i id;simp only [aac] at e;subst e;simp only [aE,ah,au] at hrun;obtain ⟨o,n,⟨v',o'⟩,d,dd,g5,g6⟩:=hrun;split at d
  .rename_i s pos;simp only [R] at hx;obtain ⟨b,hE,rfl⟩:=hx;obtain ⟨b',f,i⟩:=h.H id _ n;have j:b'=b:=by have:=f.symm.trans hE;simpa using this
   subst j;have k:(getObj b').run P w= .ok (.stringIter ⟨s.toArray⟩ pos) w:=by simp [getObj,Sem.run,i]
   split at d
   .rename_i c;rw [cS] at c;simp only [aac,aag] at d;obtain ⟨rfl,rfl⟩:=d;simp only [fK] at g5;split at g5
    .cases g5
    .rename_i l;rw [eG] at l;simp only [aac] at g5;subst g5;simp only [aag] at g6;obtain ⟨rfl,rfl⟩:=g6;have z:=fun kk=>xK h i (by simp) kk;have B:g.M b'=none:=by
      cases hm:g.M b' with
      | none=>rfl
      | some t=>have:=h.M b' t.1 t.2 hm;rw [i] at this;cases this
     refine ⟨.tuple #[.bool true,goInt pos,.int .i32 (uS s pos).1],g,{w with heap:=w.heap.setIfInBounds b' (.stringIter ⟨s.toArray⟩ (pos+(uS s pos).2))}, ?_, ?_, ?_, ?_⟩
     .have a:pos < (⟨s.toArray⟩:ByteArray).size:=by rw [nY];exact c
      simp [Instr.next,k,a,setObj,Sem.run,i,uS]
     .simp only [R];exact ⟨_,rfl,cA (by simp only [R]) (cA (by simp only [R];rfl) (cA (by simp only [R]) gF))⟩
     .exact h.write n (o:= .sit s pos) (b:=b') f _ (by simp) (fun _ j=>oV j) (fun kk u y=>by rw [z kk] at y;cases y) B (fun q m=>by
       have:g.E id=some (.cw q):=m;have:=f.symm.trans this;simpa using this.symm) ⟨b',f,uv i⟩
     .exact Kp.write (h.own id _ b' n f l) (by simp) (fun _ j=>oV j)
   .rename_i c;rw [eG] at c;simp only [aac,aag] at d;obtain ⟨rfl,rfl⟩:=d;simp only [fK,aac] at g5;subst g5;simp only [aag] at g6;obtain ⟨rfl,rfl⟩:=g6;have a:¬ pos < (⟨s.toArray⟩:ByteArray).size:=by rw [nY];omega
    refine bn.of h (x:= .tuple #[.bool false]) (by simp [Instr.next,k,a]) ?_;simp only [R];exact ⟨_,rfl,cA (by simp only [R]) gF⟩
  .cases d
 .cases e
end
section
variable {P:Program} {T:TT} {A:Nat->Prop} {g:Gh} {st:St} {w:World}
structure AQ (g:Gh) (size c:Nat) (kn:LA) (news vals:List Value):Prop where
 pre: ∃rest,news=vals++rest
 len:kn.length<=c
 cells: ∀v∈kn,v.cells.length=size
 bare:bN kn=true
 rl:RL g (flat kn) vals
 iw: ∀v∈news,v.oneCell'=true
theorem AQ.all {size c:Nat} {new:LA} {news:List Value} (hn:new.length=c) (a: ∀v∈new,v.cells.length=size) (b:bN new=true) (d:RL g (flat new) news) (ho: ∀v∈news,v.oneCell'=true):AQ g size c new news news:=
 ⟨⟨[],by simp⟩,by omega,a,b,d,ho⟩
theorem AQ.none {size c:Nat} {news:List Value} (ho: ∀v∈news,v.oneCell'=true):AQ g size c [] news []:=
 ⟨⟨news,rfl⟩,by simp,fun _ h=>(by cases h),rfl,gF,ho⟩
structure Slot (T:TT) (g:Gh) (w:World) (k:Nat) (o:Obj) (e:Td) (i:TI) (loc:Nat->Oq (Nat×Nat)) (b cap:Nat) (vs:Array Value) (fz:Nat×Nat) (es:LA):Prop where
 s_E:g.E k=some (.tok loc)
 s_loc:loc es.length=some (b,cap)
 s_top: ∀m,es.length < m->loc m=none
 s_get:T.get e=some i
 s_size:1<=i.size
 s_le:es.length<=cap
 s_heap:w.heap[b]? =some (.cells vs e fz)
 s_sz:vs.size=cap * i.size
 s_fz:fz.2<=es.length * i.size
 s_F: ∀o,es.length * i.size<=o->g.F b o=none
 s_bare:bN es=true
 s_atR:iD g i.size es b 0
 s_At:At g k o b
 s_uniq: ∀b',At g k o b'->b'=b
 s_holds: ∀(w':World) (vs':Array Value),w'.heap[b]? =some (.cells vs' e fz)->vs'.size=cap * i.size->Holds T g w' k o
end
section
variable {P:Program} {T:TT} {A:Nat->Prop} {g:Gh} {st:St} {w:World}
theorem xG {C:dh} {t xt ty e:Td} {i:TI} (k:Bx P T t xt e i) {s r:AV} {a x:Value} {c:Nat} {kn:LA} {news vals:List Value} {p:dI} {b:Fx}
 (d:IX i e s c kn= .ok p) (hrun:aE C st p= .ok (r,b)) (hs:R g s a) (hx:Src P i.size x c news w) (f:0 < c) (j:AQ g i.size c kn news vals) (h:Inv T A g st w):
 bn P T A g w r (b.did.app st) (Builtin.append_ #[t,xt] ty #[a,x]):=by cases d
theorem yP {C:dh} {t xt ty e:Td} {i:TI} (f:Bx P T t xt e i) {s x r:AV} {j xv:Value} {new:LA} {p:dI} {k:Fx} (d:oT x=some new)
  (a:si i e s new= .ok p) (hrun:aE C st p= .ok (r,k)) (hs:R g s j) (hx:R g x xv) (h:Inv T A g st w):
  bn P T A g w r (k.did.app st) (Builtin.append_ #[t,xt] ty #[j,xv]):=by
 unfold si at a;split at a
 .cases a
 .rename_i v l;simp only [ah] at a;obtain ⟨b,hf,a⟩:=a;split at a
  .cases a
  .rename_i c;have m:=Dt c;obtain ⟨news,n,q,u,o,y⟩:=vM (P:=P) hx d hf m (by simp) h;have hpos:0 < b.length:=by rw [y];simp
   split at a
   .exact xG f a hrun hs n hpos (AQ.none o) h
   .exact xG f a hrun hs n hpos (AQ.all rfl m u q o) h
theorem yY {t xt ty e:Td} {i:TI} (k:Bx P T t xt e i) {base:Oq Addr} {n:Nat} {news:List Value} {x:Value} {els:LA}
  (hs:Src P i.size (.slice base 0 0) 0 [] w) (hx:Src P i.size x n news w) (D:0 < n) (a:fo n i=true)
  (h:Inv T A g st w) (r:RL g (flat els) news) (ho: ∀v∈news,v.oneCell'=true):
  bn P T A g w (.ms st.h 0 i.size n 0) (st.new (.cells (1000000+e) (flat els))).2 (Builtin.append_ #[t,xt] ty #[.slice base 0 0,x]):=by
 obtain ⟨f,z,s,q,u,y,F⟩:=k.info;obtain ⟨d,d1,d2⟩:=k.xt;obtain ⟨G,r2,H⟩:=wN a;have b:Builtin.nextslicecap (0+n) 0 * f.bytes<=281474976710656:=growslice_fits (by omega) (by rw [aau,u];omega);have hrun:=zw (ty:=ty) k.t d1 d2 s y (by rw [q];exact hs) (by rw [q];exact hx) (by omega) (by omega) b;have B:=grownCap_ge (w:=w) (n:=0+n) (c:=0) (e:=e);have hE:g.E st.h=none:=h.E _ (aah _);have l:Le g (g.dP st.h (.cw w.heap.size)):=Le.dP hE;obtain ⟨k1,C⟩:=h.drew.newObj (.cells (1000000+e) (flat els)) (.cells (news.toArray++Builtin.zeroCells z.cells (grownCap w (0+n) 0 e - (0+n))) e) (fun b' m=>by
  have:(g.dP st.h (.cw w.heap.size)).E st.h=some (.cw b'):=m;rw [Gh.bJ] at this;simpa using this.symm) ⟨w.heap.size,news.toArray,Builtin.zeroCells z.cells (grownCap w (0+n) 0 e - (0+n)),e,Gh.bJ _ _ _,World.heap_alloc_new (w:=w.drew),by simpa using gj l _ _ r,by simpa using ho,fun o=>h.rj (aah _) o,fun p=>absurd p (Nat.not_lt.2 (Nat.le_add_right _ _))⟩
 have j:([]:List Value).toArray++news.toArray=news.toArray:=by simp
 rw [j] at hrun;refine ⟨_,g.dP st.h (.cw w.heap.size),_,hrun, ?_,k1,(Kp.drew A g w).trans C⟩;simp only [R];exact ⟨w.heap.size,0,Gh.bJ _ _ _,grownCap w (0+n) 0 e,by simp,by omega,r2,fun _=>rfl,.inr trivial⟩
theorem Bf {C:dh} {t xt ty e:Td} {i:TI} (k:Bx P T t xt e i) {s x r:AV} {u xv:Value} {new:LA} {p:dI} {y:Fx} (f:oT x=some new)
  (c:sf i e s new= .ok p) (hrun:aE C st p= .ok (r,y)) (hs:R g s u) (hx:R g x xv) (h:Inv T A g st w):
  bn P T A g w r (y.did.app st) (Builtin.append_ #[t,xt] ty #[u,xv]):=by
 unfold sf at c;split at c
 .exact uT k f c hrun hs hx h
 .rename_i v l;simp only [ah] at c;obtain ⟨j,hf,c⟩:=c;split at c
  .cases c
  .rename_i d;simp only [aaf] at d;have z:=Dt d.1;obtain ⟨news,m,n,D,q,B⟩:=vM (P:=P) hx f hf z (by simp) h;have hpos:0 < j.length:=by rw [B];simp
   split at c
   .simp only [aac] at c;subst c;simp only [aE,aac,aag] at hrun;obtain ⟨rfl,rfl⟩:=hrun;simp only [R] at hs;subst hs;exact yY k ⟨by simp [Builtin.lenOf],by simp [Builtin.firstCells],by simp [Builtin.firstCells],by simp⟩ m hpos d.2 h n q
   .simp only [aac] at c;subst c;simp only [aE,aac,aag] at hrun;obtain ⟨rfl,rfl⟩:=hrun;simp only [R] at hs;obtain ⟨a,rfl⟩:=hs;exact yY k ⟨by simp [Builtin.lenOf],by simp [Builtin.firstCells,loadCells,loadCellsFrom],by simp [Builtin.firstCells,loadCells,loadCellsFrom],by simp⟩ m hpos d.2 h n q
   .simp only [aac] at c;subst c;simp only [aE,aac,aag] at hrun;obtain ⟨rfl,rfl⟩:=hrun;simp only [R] at hs;obtain ⟨_,b,o,cap,rfl,_,_,_,c⟩:=hs;simp only [uF,aae] at c;subst c;exact yY k ⟨by simp [Builtin.lenOf],by simp [Builtin.firstCells,loadCells,loadCellsFrom],by simp [Builtin.firstCells,loadCells,loadCellsFrom],by simp⟩ m hpos d.2 h n q
   .cases c
theorem BS (hT:yp P T) {C:dh} {t:Td} {k z n:Nat} {i r:AV} {K L:Value} {p:dI} {M:Fx} (N:lC T t k z n i= .ok p) (hrun:aE C st p= .ok (r,M))
  (hs:R g (.gs k z n) K) (hy:R g i L) (h:Inv T A g st w):bn P T A g w r (M.did.app st) (Instr.indexAt t K L):=by
 simp only [lC,ah] at N;obtain ⟨j,Y,E,F,it,h1,v⟩:=N;obtain ⟨kd,rfl⟩:=yj Y hy;obtain ⟨rfl,Z⟩:=jn F;have G:=hT t it (cy.1 h1);split at v
 .rename_i e l;have k1:=eW G l;simp only [ah] at v;obtain ⟨ie,h3,h4⟩:=v;have d:=hT _ ie (cy.1 h3);split at h4
  .rename_i o;have o:=aan o;cases h4;simp only [iV,aE,ah,au] at hrun;obtain ⟨ob,h5,⟨v',o'⟩,⟨v2,c,y⟩,dd,O,h9⟩:=hrun;cases y;simp only [fK,aac] at O;subst O;cases h9;simp only [R] at hs;obtain ⟨loc,b,cap,hE,hl,rfl,Q,av⟩:=hs;split at c
   .rename_i m e' B es;split at c
    .rename_i a;simp only [aaf] at a;have hm:=aan a.1;have f:=aan a.2;subst hm f;obtain ⟨q,D,s,i2,vs,fz,S,U,q3,q4,q5,q6,q7,q8,q9,a1,a6,a7,I,J⟩:=h.H k _ h5;have V:=S.symm.trans hE;simp only [aav,tz.tok.injEq] at V;subst V;have W:=U.symm.trans hl;simp only [aav,aag] at W;obtain ⟨rfl,rfl⟩:=W;split at c
     .simp only [ah,au] at c;obtain ⟨u,y,rfl⟩:=c;obtain ⟨d1,d2⟩:=Az J y;refine bn.of h (x:= .pointer (some ⟨D,0+E * B,none⟩)) ?_ ?_
      .simp [Instr.indexAt,asIntOf,k1,d.dt,Addr.gx,o];intro X;omega
      .simp only [R];exact ⟨xa (wm I y),D,_,rfl,d2⟩
     .cases c;refine bn.of h (x:= .pointer (some ⟨D,0+E * B,none⟩)) ?_ ?_
      .simp [Instr.indexAt,asIntOf,k1,d.dt,Addr.gx,o];intro X;omega
      .simp only [R];exact ⟨q,D,s,S,U,by rw [aau]⟩
    .cases c
   .rename_i m e' B cs;split at c
    .rename_i a;simp only [aaf] at a;have hm:=aan a.1;have f:=aan a.2;subst hm f;cases c;refine bn.of h (x:= .pointer (some ⟨b,0+E * B,none⟩)) ?_ ?_
     .simp [Instr.indexAt,asIntOf,k1,d.dt,Addr.gx,o];intro X;omega
     .simp only [R];exact ⟨loc,b,cap,hE,hl,by rw [aau]⟩
    .cases c
   .cases c
  .cases h4
 .cases v
theorem BI {C:dh} {t:Td} {i:TI} (hi:jX P t i) {k m off:Nat} {v r:AV} {x y:Value} {p:dI} {a:Fx} (b:vb i k m off v= .ok p) (hrun:aE C st p= .ok (r,a))
 (hx:R g (.gp k m off) x) (hy:R g v y) (h:Inv T A g st w):r=undef/\DP P T A g w (a.did.app st) (Instr.storeAt t x y):=by cases b
end
section
variable {P:Program} {T:TT} {A:Nat->Prop} {g:Gh} {st:St} {w:World}
theorem yb {C:dh} {t xt ty e:Td} {i:TI} (_he:Bx P T t xt e i) {s x r:AV} {a xv:Value} {new:LA} {p:dI} {b:Fx} (_hev:oT x=some new)
 (c:tJ i e s new= .ok p) (_hrun:aE C st p= .ok (r,b)) (_hs:R g s a) (_hx:R g x xv) (_h:Inv T A g st w):
 bn P T A g w r (b.did.app st) (Builtin.append_ #[t,xt] ty #[a,xv]):=by cases c
end
end Go.VM
