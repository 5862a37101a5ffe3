/-
  A part of the proof.
-/
import Derived.Test.YtkbkbndajpbcjaaGreatDoorVmAG
import Derived.Laws.Build
set_option linter.all false
namespace Go.VM
section
variable {P:Program} {T:TT} {A:Nat->Prop} {g:Gh} {st:St} {w:World}
theorem C7 (off:Nat): ∀(new:List Value) (k:Nat) (cells:Array Value),off+k+new.length<=cells.size->
  ((new.zipIdx k).foldl (fun cs (x:Value×Nat)=>cs.setIfInBounds (off+x.2) x.1) cells).toList=cells.toList.take (off+k)++new++cells.toList.drop (off+k+new.length)
 | [],k,cells,_=>by simp
 | v::new,k,cells,h=>by
  simp only [aae] at h;rw [List.zipIdx_cons,ab5,C7 off new (k+1) _ (by simp;omega)];have e:=list_seg_step cells.toList (off+k) v new (by simp;omega);simpa [Array.toList_setIfInBounds,abH,abv 1] using e
theorem Ll {v:Value} {off:Nat} {cells:Array Value} (h:off+v.cells.size<=cells.size):
  (v.cells.zipIdx.foldl (fun cs (x:Value×Nat)=>cs.setIfInBounds (off+x.2) x.1) cells).toList=cells.toList.take off++v.cells.toList++cells.toList.drop (off+v.cells.size):=by
 rw [<- Array.foldl_toList];have:=C7 off v.cells.toList 0 cells (by simpa using h);simpa [Array.toList_zipIdx] using this
inductive uI (g:Gh):List (Nat×AV)->List (Nat×Value)->Prop
 | nil:uI g [] []
 | cons {i:Nat} {v:AV} {x:Value} {l:List (Nat×AV)} {m:List (Nat×Value)} (h:R g v x) (t:uI g l m):uI g ((i,v)::l) ((i,x)::m)
theorem Mf {v:AV} {x:Value} (h:R g v x):x.cells.size=v.cells.length/\(RL g v.cells x.cells.toList):=by
 cases v with
 | agg cs=>
  simp only [R] at h;obtain ⟨ys,rfl,a⟩:=h;exact ⟨by simpa [AV.cells,Value.cells] using dQ a,a⟩
 | opq i=>
  have hx:x.cells= #[x]:=by
   simp only [R] at h;rcases h with ⟨_,rfl | ⟨_,_,rfl⟩⟩ | ⟨_,_,rfl⟩ <;> rfl
  rw [hx];exact ⟨rfl,cL h gJ⟩
 | _=>
  have hx:x.cells= #[x]:=by
   simp only [R] at h
   first
    | (obtain ⟨_,_,_,_,_,rfl,_⟩:=h;rfl)
    | (obtain ⟨_,_,_,_,_,rfl⟩:=h;rfl)
    | (subst h;rfl)
    | (obtain ⟨_,_,_,rfl,_⟩:=h;rfl)
    | (obtain ⟨_,_,rfl⟩:=h;rfl)
    | (obtain ⟨_,_,_,_,rfl,_⟩:=h;rfl)
    | (obtain ⟨_,_,rfl,_⟩:=h;rfl)
    | (obtain ⟨_,rfl,_⟩:=h;rfl)
    | (obtain ⟨_,_,_,rfl,_⟩:=h;rfl)
  rw [hx];exact ⟨rfl,cL h gJ⟩
theorem nf {place place':Nat->Oq (Nat×Nat)} (a: ∀k p,place k=some p->place' k=some p): ∀{parts:List (Nat×AV)} {parts':List (Nat×Value)} {cells cs:LA} {xs:Array Value},
  uI g parts parts'->RL g cells xs.toList->mM place cells parts= .ok cs-> ∃ys,Instr.fill place' xs parts'=some ys/\RL g cs ys.toList
 | _,_,_,_,_,.nil,b,h=>by
  simp only [mM,aaf] at h;subst h;exact ⟨_,rfl,b⟩
 | _,_,cells,cs,xs,.cons (i:=i) (v:=v) (x:=x) j l,b,h=>by
  simp only [mM] at h;split at h
  .cases h
  .rename_i off size hp;split at h
   .rename_i c;simp only [aak] at c;have h1:=aap c.1;have n:=aah c.2;obtain ⟨o,m⟩:=Mf j;have d:=dQ b;simp only [abj] at d;have e:(x.cells.zipIdx.foldl (fun cs (y:Value×Nat)=>cs.setIfInBounds (off+y.2) y.1) xs).toList=xs.toList.take off++x.cells.toList++xs.toList.drop (off+x.cells.size):=Ll (by omega);have f:RL g (cO cells off v.cells) (x.cells.zipIdx.foldl (fun cs (y:Value×Nat)=>cs.setIfInBounds (off+y.2) y.1) xs).toList:=by
     rw [e];have:=xk off b m;simpa using this
    obtain ⟨ys,k1,k2⟩:=nf a l f h;refine ⟨ys, ?_,k2⟩;simp only [Instr.fill,a _ _ hp];rw [if_neg (by simp;omega)];exact k1
   .cases h
theorem uf (hT:zm P T) {w:World}: ∀{fields:List Field} {ps:List (Nat×Nat)},qJ T (fields.map fun f=>(f.offset,f.type))= .ok ps->
  (fields.mapM fun f=>do pure (f.offset, <- sizeOf f.type):Sem (List (Nat×Nat))).run P w= .ok ps w
 | [],_,h=>by
  simp only [aaH,qJ,aaf] at h;subst h;rfl
 | f::l,_,h=>by
  simp only [aan,qJ,ag,aj] at h;obtain ⟨i,h1,ps,a,rfl⟩:=h;have hi:=hT _ i (cH.1 h1);have ih:=uf hT (w:=w) a;rw [List.mapM_cons];simp only [Sem.run_bind,hi.dw,Result.andThen_ok,Sem.run_pure,ih]
theorem F5 (hT:zm P T) {t:Td} {parts:List (Nat×AV)} {parts':Array (Nat×Value)} {v:AV} (hp:build T t parts= .ok v) (r:uI g parts parts'.toList) (h:Inv T A g st w):
  bh P T A g w v st (Instr.build t parts'):=by
 simp only [build,ag] at hp;obtain ⟨i,h1,a⟩:=hp;have hi:=hT t i (cH.1 h1);obtain ⟨z,s,y,B,z4,C,z6⟩:=hi.rQ;split at a
 .rename_i fs c;obtain ⟨fields,k1,k2⟩:=u9 hi c;simp only [ag,aj] at a;obtain ⟨ps,b,cs,d,rfl⟩:=a;rw [<- k2] at b;have hm:=uf hT (w:=w) b;obtain ⟨ys,l,m⟩:=nf (place':=fun k=>ps.toArray[k]?) (fun k p o=>by simpa using o) r (z6 g) d;refine bh.of h (x:= .agg ys) ?_ (by simp only [R];exact ⟨ys,rfl,m⟩);have q:(fields.mapM fun f=>do pure (f.offset, <- sizeOf f.type):Sem (Array (Nat×Nat))).run P w= .ok ps.toArray w:=by
   rw [Array.mapM_eq_mapM_toList];simp only [Sem.run_map,hm,Result.andThen_ok]
  simp only [Instr.build,Sem.run_bind,s,Result.andThen_ok,k1,q,l,Sem.run_pure]
 .rename_i n e c;have k1:=sU hi c;simp only [ag,aj] at a;obtain ⟨j,b,cs,d,rfl⟩:=a;have u:=hT _ j (cH.1 b);obtain ⟨ys,l,m⟩:=nf (place':=fun k=>some (k * j.size,j.size)) (fun k p o=>o) r (z6 g) d;refine bh.of h (x:= .agg ys) ?_ (by simp only [R];exact ⟨ys,rfl,m⟩);simp only [Instr.build,Sem.run_bind,s,Result.andThen_ok,k1,u.dw,l,Sem.run_pure]
 .cases a
theorem M7 {v:AV} (h:one v=true):v.cells=[v]:=by cases v <;> first | rfl | simp [one] at h
theorem MU {l:LA} (n:Nat) (h:gh l=true):gh (l.drop n)=true:=by
 induction n generalizing l with
 | zero=>exact h
 | succ n ih=>
  cases l with
  | nil=>rfl
  | cons v l=>
   simp only [gh,aak] at h;exact ih h.2
theorem uF {sz:Nat} {agg:Bool} (b:agg=false->sz=1): ∀{n:Nat} {cs els:LA},gh cs=true->group sz agg n cs= .ok els->flat els=cs.take (n * sz)/\(∀e∈els,e.cells.length=sz)/\els.length=n
 | 0,cs,els,_,h=>by
  simp only [group,aaf] at h;subst h;simp [flat]
 | n+1,cs,els,ho,h=>by
  simp only [group,ag,aj] at h;obtain ⟨v,h1,l,d,rfl⟩:=h;obtain ⟨k1,k2,f⟩:=uF b (MU sz ho) d;have key:v.cells=cs.take sz/\v.cells.length=sz:=by
   cases agg with
   | true=>
    simp only [cV] at h1;split at h1
    .rename_i a;have a:=aah a;simp only [aaf] at h1;subst h1;exact ⟨rfl,by simp [AV.cells];omega⟩
    .cases h1
   | false=>
    have b:=b rfl;subst b;simp only [cV] at h1;cases cs with
    | nil=>cases h1
    | cons c cs=>
     simp only [aaf] at h1;subst h1;simp only [gh,aak] at ho;rw [M7 ho.1];exact ⟨rfl,rfl⟩
  refine ⟨?_, ?_,by simp [f]⟩
  .rw [iO,k1,key.1,Nat.add_mul,Nat.one_mul,abv,List.take_add]
  .intro e he;rcases aao.1 he with rfl | he
   .exact key.2
   .exact k2 e he
def lC (z:List Value):Nat->List Value
 | 0=>[]
 | n+1=>z++lC z n
theorem Bz {z:LA} {zs:List Value} (h:RL g z zs): ∀n,RL g (zeros z n) (lC zs n)
 | 0=>gJ
 | n+1=>fk h (Bz h n)
theorem Ae (z:List Value): ∀(n j:Nat),j < n * z.length->(lC z n)[j]? =z[j % z.length]?
 | 0,j,h=>by omega
 | n+1,j,h=>by
  simp only [lC];have a:0 < z.length:=by
   rcases Nat.eq_zero_or_pos z.length with q | q
   .rw [q] at h;omega
   .exact q
  rw [Nat.add_mul,Nat.one_mul] at h;rcases Nat.lt_or_ge j z.length with q | q
  .rw [aaP q,Nat.mod_eq_of_lt q]
  .rw [aaM q,Ae z n _ (by omega),Nat.mod_eq_sub_mod q]
theorem ue (z:List Value): ∀n,(lC z n).length=n * z.length
 | 0=>by simp [lC]
 | n+1=>by simp only [lC,aad,ue z n,Nat.add_mul];omega
theorem HP (z:Array Value) (n:Nat):((Array.range (n * z.size)).map fun i=>z[i % z.size]!).toList=lC z.toList n:=by
 apply List.ext_getElem?
 intro j;rcases Nat.lt_or_ge j (n * z.size) with q | q
 .rw [Ae _ _ _ (by simpa using q)];have a:0 < z.size:=by
   rcases Nat.eq_zero_or_pos z.size with r | r
   .rw [r] at q;omega
   .exact r
  have hm:j % z.size < z.size:=Nat.mod_lt _ a;simp [q,hm]
 .rw [aaS (by simpa using q),aaS (by rw [ue];simpa using q)]
theorem RO {t:Td} {i:TI} (hi:kP P t i):i.agg=false->i.size=1:=by
 obtain ⟨f,h1,d,e,z,g,a,b,_⟩:=hi.info;intro c;have:=b c;rw [<- a];cases z <;> first | rfl | simp [Value.oneCell'] at this
theorem Cl {cs new:LA} {off:Nat} (h:off+new.length<=cs.length):(cO cs off new).length=cs.length:=by
 simp [cO];omega
theorem Ca {place:Nat->Oq (Nat×Nat)}: ∀{parts:List (Nat×AV)} {cells cs:LA},mM place cells parts= .ok cs->cs.length=cells.length
 | [],_,_,h=>by
  simp only [mM,aaf] at h;rw [h]
 | (i,v)::l,cells,cs,h=>by
  simp only [mM] at h;split at h
  .cases h
  .split at h
   .rename_i a;simp only [aak] at a;have h1:=aap a.1;have b:=aah a.2;rw [Ca h,Cl (by omega)]
   .cases h
theorem vj (z:LA): ∀n,(zeros z n).length=n * z.length
 | 0=>by simp [zeros]
 | n+1=>by simp only [zeros,aad,vj z n,Nat.add_mul];omega
theorem xw (hT:zm P T) {t:Td} {len:Nat} {parts:List (Nat×AV)} {parts':Array (Nat×Value)} {v:AV} (hp:buildSlice T t len parts= .ok v) (L:uI g parts parts'.toList) (h:Inv T A g st w):
  bh P T A g w v st (Instr.buildSlice t len parts'):=by
 simp only [buildSlice,ag] at hp;obtain ⟨i,h1,l⟩:=hp;have hi:=hT t i (cH.1 h1);split at l
 .rename_i e y;have k1:=fu hi y;simp only [ag] at l;obtain ⟨j,M,m⟩:=l;have B:=hT _ j (cH.1 M);split at m
  .rename_i C;simp only [aak] at C;have c1:=aah C.1;have N:=aah C.2;simp only [ag] at m;obtain ⟨cs,I,n⟩:=m;split at n
   .rename_i a;simp only [ag,aj] at n;obtain ⟨els,O,b,Q,rfl⟩:=n;obtain ⟨z,S,o,z3,z4,z5,z6⟩:=B.rQ;have D:RL g (zeros j.zero len) ((Array.range (len * z.cells.size)).map fun i=>z.cells[i % z.cells.size]!).toList:=by
     rw [HP];exact Bz (z6 g) len
    obtain ⟨ys,q,r⟩:=nf (place':=fun k=>some (k * j.size,j.size)) (fun k p U=>U) L D I;have E:ys.size=len * j.size:=by
     have s:=Ca I;rw [vj] at s;have x:=dQ (z6 g);have d:=dQ r;simp only [abj] at x d;rw [d,s, <- x,o]
    obtain ⟨J,V,F⟩:=uF (RO B) a O;have K:cs.length=len * j.size:=by rw [<- dQ r];simpa using E
    rw [List.take_of_length_le (by omega)] at J;have G:RL g (flat els) ys.toList:=by rw [J];exact r
    obtain ⟨s,x,d,W⟩:=pC Q G;have f:=th a r;obtain ⟨X,Y,Z⟩:=h.GN e s f;refine ⟨.slice (some ⟨w.heap.size,0,none⟩) len len,_,_, ?_, ?_,X,Y⟩
    .simp only [Instr.buildSlice,Sem.run_bind,k1,Result.andThen_ok,B.dw,Sem.run_ite];rw [if_neg (by omega)];by_cases c:len * j.size=0
     .rw [o,c] at q;simp only [c,if_true,Sem.run_pure,Result.andThen_ok];have:(Array.range 0).map (fun i=>(#[]:Array Value)[i % (#[]:Array Value).size]!)=(Array.range 0).map fun i=>z.cells[i % j.size]! :=by simp
      rw [this,q];simp only [Sem.run_bind,lH,Result.andThen_ok,Sem.run_pure]
     .rw [o] at q;simp only [c,if_false,Sem.run_bind,S,Result.andThen_ok,Sem.run_pure,o,q,lH]
    .simp only [R];refine ⟨x,w.heap.size,0,len,by rw [d,F],by rw [d,F];omega,N, ?_,by show len=b.length;rw [d,F]⟩;rw [en];refine ⟨?_,Z⟩;intro u y;have:u.cells.length∈b.map (·.cells.length):=aa8.2 ⟨u,y,rfl⟩;rw [W] at this;obtain ⟨u',H,e⟩:=aa8.1 this;rw [<- e];exact V u' H
   .cases n
  .cases m
 .cases l
end
section
variable {P:Program} {T:TT} {A:Nat->Prop} {g:Gh} {st:St} {w:World}
mutual
theorem oZ (g:Gh): ∀(x:Value) (v:AV),ofConst x= .ok v->R g v x
  | .bool _,v,h | .int _ _,v,h | .float _ _,v,h | .nilFunc,v,h | .nilIface,v,h=>by
    unfold ofConst at h;simp only [aaf] at h;subst h;simp only [R]
  | .string s,v,h=>by
    unfold ofConst at h;simp only [aaf] at h;subst h;simp only [R]
  | .pointer a,v,h=>by
    cases a with
    | none=>unfold ofConst at h;simp only [aaf] at h;subst h;simp only [R]
    | some _=>unfold ofConst at h;cases h
  | .slice a l c,v,h=>by
    unfold ofConst at h;split at h <;> rename_i heq <;> (try (cases heq;done)) <;> (try (cases h;done))
    cases heq;simp only [aaf] at h;subst h;simp only [R]
  | .map a,v,h=>by
    cases a with
    | none=>unfold ofConst at h;simp only [aaf] at h;subst h;simp only [R]
    | some _=>unfold ofConst at h;cases h
  | .agg cs,v,h=>by
    unfold ofConst at h;simp only [ag,aj] at h;obtain ⟨vs,h1,rfl⟩:=h;simp only [R];exact ⟨cs,rfl,oD g cs.toList vs h1⟩
  | .tuple cs,v,h=>by
    unfold ofConst at h;simp only [ag,aj] at h;obtain ⟨vs,h1,rfl⟩:=h;simp only [R];exact ⟨cs,rfl,oD g cs.toList vs h1⟩
  | .complex _ _ _,v,h | .chan _,v,h | .func _ _ _,v,h | .iface _ _,v,h=>by
    unfold ofConst at h;cases h
theorem oD (g:Gh): ∀(xs:List Value) (vs:LA),ofConst.ofAll xs= .ok vs->RL g vs xs
  | [],vs,h=>by
    unfold ofConst.ofAll at h;simp only [aaf] at h;subst h;exact gJ
  | x::xs,vs,h=>by
    unfold ofConst.ofAll at h;simp only [ag,aj] at h;obtain ⟨v,h1,l,h2,rfl⟩:=h;exact cL (oZ g x v h1) (oD g xs l h2)
end
theorem Fp:R g undef Go.undef:=by
  simp only [undef,R];exact ⟨#[],rfl,by simp [RL]⟩
theorem zo.put {fr:Fr} {tmps:Array Value} (h:zo g fr tmps) {v:AV} {x:Value} (hx:R g v x) (d:Oq Tmp):
    zo g (fr.put d v) (match d with | some d=>tmps.setIfInBounds d x | none=>tmps):=by
  cases d with
  | none=>exact h
  | some d=>
    simp only [Fr.put];split
    · rename_i a
      rw [cZ, <- h.size] at a;refine ⟨by simp [h.size],fun t=> ?_⟩;simp only [Fr.get,Tr.lY];by_cases b:d=t
      · subst b
        right;simpa [a] using hx
      · have:=h.at' t
        simp only [Fr.get] at this;simpa [b,Array.getElem?_setIfInBounds_ne b] using this
    · rename_i a
      rw [da, <- h.size] at a;rw [Array.setIfInBounds_eq_of_size_le (by simpa using a)];exact h
def GR (g:Gh) (G:Nat->Oq LA):Prop:= ∀k cs,G k=some cs->bH cs=true/\pt g cs k 0
theorem GR.mono {g g':Gh} {G:Nat->Oq LA} (h:GR g G) (le:Le g g'):GR g' G:=fun k cs a=>⟨(h k cs a).1,vq le _ _ _ (h k cs a).2⟩
theorem aM {G:Nat->Oq LA} {fr:Fr} {a:Act} {x:Operand} {v:AV} (e:GR g G) (hf:zo g fr a.tmps) (h:cq G fr x= .ok v):R g v (a.eval x):=by
  cases x with
  | tmp t=>
    simp only [cq] at h;split at h
    · rename_i hs
      simp only [aaf] at h;subst h;exact hf.at hs t
    · split at h
      · rename_i u d
        simp only [aaf] at h;subst h;rcases hf.at' t with ⟨_,b⟩ | b
        · rw [d] at b;cases b
        · rw [Fr.get,d] at b;exact b
      · cases h
  | const c=>exact oZ g c v h
  | global k=>
    simp only [cq] at h;split at h
    · rename_i cs i
      simp only [aaf] at h;subst h;obtain ⟨h1,b⟩:=e k cs i;simp only [R,Act.eval];exact ⟨h1,k,0,rfl,b⟩
    · cases h
  | func f=>
    simp only [cq,aaf] at h;subst h;simp only [R,Act.eval];exact ⟨#[], #[],rfl,by simp [RL],by simp [RL]⟩
theorem oT {G:Nat->Oq LA} {fr:Fr} {a:Act} (b:GR g G) (hf:zo g fr a.tmps): ∀{xs:List Operand} {vs:LA},oR G fr xs= .ok vs->RL g vs (xs.map a.eval)
  | [],_,h=>by simp only [oR,aaf] at h;subst h;exact gJ
  | x::xs,_,h=>by
    simp only [oR,ag,aj] at h;obtain ⟨v,h1,l,c,rfl⟩:=h;exact cL (aM b hf h1) (oT b hf c)
theorem pc {G:Nat->Oq LA} {fr:Fr} {a:Act} (b:GR g G) (hf:zo g fr a.tmps) {x:Oq Operand} {v:Oq AV} (h:eQ G fr x= .ok v):N5 g v (x.map a.eval):=by
  cases x with
  | none=>simp only [eQ,aaf] at h;subst h;trivial
  | some x=>
    simp only [eQ,ag,aj] at h;obtain ⟨u,h1,rfl⟩:=h;exact aM b hf h1
theorem mQ {G:Nat->Oq LA} {fr:Fr} {a:Act} (b:GR g G) (hf:zo g fr a.tmps): ∀{xs:List (Nat×Operand)} {vs:List (Nat×AV)},gS G fr xs= .ok vs->uI g vs (xs.map fun (i,x)=>(i,a.eval x))
  | [],_,h=>by simp only [gS,aaf] at h;subst h;exact .nil
  | (i,x)::xs,_,h=>by
    simp only [gS,ag,aj] at h;obtain ⟨v,h1,l,c,rfl⟩:=h;exact .cons (aM b hf h1) (mQ b hf c)
theorem yz {d:TypeDesc} {u:U} {a b:AV} {r:Bool} {x y:Value} (c:Ax d u) (e:rv u a=true) (h:uA a b= .ok r) (hx:R g a x) (hy:R g b y):Instr.sameNow d x y=some r:=by
  unfold uA at h;split at h
  · simp only [aaf] at h
    subst h;simp only [R] at hx hy;subst hx hy;cases u <;> simp [rv] at e
    simp only [Ax] at c;subst c;rfl
  · rename_i j a k b
    split at h
    · rename_i f
      subst f;simp only [aaf] at h;subst h;simp only [R] at hx hy;subst hx hy;cases u <;> simp [rv] at e
      simp only [Ax] at c;subst c;simp [Instr.sameNow]
    · cases h
  · simp only [aaf] at h
    subst h;simp only [R] at hx hy;subst hx hy;cases u <;> simp [rv] at e
    simp only [Ax] at c;subst c;simp [Instr.sameNow,I4]
  · cases h
theorem rD {d:TypeDesc} {u:U} {k:AV} {f:Value} (n:Ax d u) (o:rv u k=true) (hx:R g k f): ∀{es:List (AV×AV)} {ents:List MapEntry} {r:Oq AV} (i:Nat),jt k es= .ok r->tI g es ents->
    match r with
    | none=>Instr.findNow d f ents i=some none
    | some v=> ∃j y,Instr.findNow d f ents i=some (some (j,y))/\R g v y
  | [],_,_,i,h,c=>by
    simp only [jt,aaf] at h;subst h;simp only [tI] at c;subst c;rfl
  | (a,v)::es,_,r,i,h,c=>by
    simp only [tI] at c;obtain ⟨e,l,rfl,p,r2,q⟩:=c;simp only [jt,ag] at h;obtain ⟨b,h1,m⟩:=h;have hs:=yz n o h1 hx p;cases b with
    | true=>
      simp only [aj] at m;subst m;exact ⟨i,e.val,by simp [Instr.findNow,hs],r2⟩
    | false=>
      have ih:=rD n o hx (i+1) m q;cases r with
      | none=>simp only [Instr.findNow,hs];exact ih
      | some v'=>
        obtain ⟨j,y,s,t⟩:=ih;exact ⟨j,y,by simp only [Instr.findNow,hs];exact s,t⟩
theorem run_checkKey {a:Td} {d:TypeDesc} {u:U} {k:AV} {c:Value} (f:P.underlying a=some d) (e:Ax d u) (h:rv u k=true) (hx:R g k c) (b:Bool) (n:Nat):
    (Instr.checkKey b (n+1) a c).run P w= .ok () w:=by
  cases u <;> cases k <;> simp [rv] at h <;> simp only [Ax] at e <;> simp only [R] at hx <;> subst e hx <;> simp [Instr.checkKey,gQ f]
theorem run_findKey {a:Td} {d:TypeDesc} {b:Value} {ents:List MapEntry} {r:Oq (Nat×Value)} (c:P.underlying a=some d) (h:Instr.findNow d b ents 0=some r):
    (Instr.findKey a b ents).run P w= .ok r w:=by
  simp [Instr.findKey,gQ c,h]
theorem HK {t:Td} {i:TI} (hi:kP P t i): ∃z,(∀w,(zeroValue t).run P w= .ok z w)/\R g (zeroV i) z:=by
  obtain ⟨z,f,n,h,z4,j,z6⟩:=hi.rQ;refine ⟨z,f, ?_⟩;cases b:i.agg with
  | true=>
    obtain ⟨cs,rfl⟩:=j b;simp only [zeroV,b,R];exact ⟨cs,rfl,z6 g⟩
  | false=>
    have h1:=h b;have k:z.cells= #[z]:=by cases z <;> first | rfl | simp [Value.oneCell'] at h1
    have a:=z6 g;rw [k] at a;cases hl:i.zero with
    | nil=>rw [hl] at a;simp only [RL] at a;cases a
    | cons v l=>
      rw [hl] at a;simp only [RL] at a;obtain ⟨x,xs,c,m,d⟩:=a;simp only [abx] at c;obtain ⟨rfl,rfl⟩:=c;cases l with
      | nil=>simp only [zeroV,b,hl];exact m
      | cons u l=>simp only [RL] at d;obtain ⟨_,_,e,_⟩:=d;cases e
theorem sr {m c:Td} {i:TI} {d:TypeDesc} {u:U} {ok:Bool} {k v:AV} {e:Value} {es:List (AV×AV)} {ents:Array MapEntry} (hi:kP P m i) (h:P.underlying c=some d) (n:Ax d u) (o:rv u k=true) (hx:R g k e)
    (hf:found i ok k es= .ok v) (p:tI g es ents.toList):(Instr.checkKey ents.isEmpty 10000 c e).run P w= .ok () w/\
      ((∃j y,(Instr.findKey c e ents.toList).run P w= .ok (some (j,y)) w/\R g v (if ok then Value.tuple #[y,.bool true] else y))\/
       ((Instr.findKey c e ents.toList).run P w= .ok none w/\ ∃z,(zeroValue m).run P w= .ok z w/\R g v (if ok then Value.tuple #[z,.bool false] else z))):=by
  simp only [found,ag] at hf;obtain ⟨fr,q,f⟩:=hf;have a:=rD n o hx 0 q p;obtain ⟨z,r,s⟩:=HK (g:=g) hi;have fin: ∀(b:Bool) (v':AV) (y:Value),R g v' y->R g (okV ok b v') (if ok then Value.tuple #[y,.bool b] else y):=fun b v' y hy=>by
    cases ok with
    | true=>simp only [okV,if_true,R];exact ⟨_,rfl,cL hy (cL (by simp only [R]) gJ)⟩
    | false=>simpa [okV] using hy
  have l:=run_checkKey (w:=w) h n o hx ents.isEmpty 9999;refine ⟨l, ?_⟩;cases fr with
  | none=>
    simp only [aj] at f;subst f;exact .inr ⟨run_findKey h a,z,r w,fin false _ z s⟩
  | some A=>
    simp only [aj] at f;subst f;obtain ⟨j,y,t,x⟩:=a;exact .inl ⟨j,y,run_findKey h t,fin true _ y x⟩
theorem D3 (hT:zm P T) {C:dt} {t:Td} {x k v:AV} {xv I:Value} {ok:Bool} {p:dY} {J:Fx} (hp:iT T t x k ok= .ok p) (hrun:aE C st p= .ok (v,J)) (hx:R g x xv) (D:R g k I) (h:Inv T A g st w):
    bh P T A g w v (J.did.app st) (Instr.lookup t xv I ok):=by
  simp only [iT,ag] at hp;obtain ⟨i,h1,B⟩:=hp;have hi:=hT t i (cH.1 h1);split at B
  · rename_i kt et K
    have k1:=wL hi K;simp only [ag] at B;obtain ⟨L,N,O,Q,l⟩:=B;have n:=hT _ L (cH.1 N);have E:=hT _ O (cH.1 Q);obtain ⟨d,d1,d2,_⟩:=E.und;split at l
    · cases l
    · rename_i q
      split at l
      · simp only [ag,aj] at l
        obtain ⟨u,F,rfl⟩:=l;simp only [aE,aaf,aaj] at hrun;obtain ⟨rfl,rfl⟩:=hrun;simp only [R] at hx;subst hx;obtain ⟨c,⟨j,y,a,e⟩ | ⟨a,z,e,s⟩⟩:=sr (P:=P) (w:=w) (ents:= #[]) n d1 d2 q D F (by simp [tI])
        · simp only [List.isEmpty_toArray,List.isEmpty_nil] at c
          exact bh.of h (by simp [Instr.lookup,k1,c,a]) e
        · simp only [List.isEmpty_toArray,List.isEmpty_nil] at c
          exact bh.of h (by simp [Instr.lookup,k1,c,a,e]) s
      · rename_i es
        simp only [ag,aj] at l;obtain ⟨u,F,rfl⟩:=l;simp only [aE,aaf,aaj] at hrun;obtain ⟨rfl,rfl⟩:=hrun;simp only [R] at hx;obtain ⟨b,ents,clk,S,rfl,U⟩:=hx;have r:=h.M b ents clk S;have f:(getObj b).run P w= .ok (.map ents.toArray clk) w:=by simp [getObj,Sem.run,r]
        obtain ⟨c,⟨j,y,a,e⟩ | ⟨a,z,e,s⟩⟩:=sr (P:=P) (w:=w) (ents:=ents.toArray) n d1 d2 q D F (by simpa using U)
        · exact bh.of h (by simp only [Instr.lookup,Sem.run_bind,k1,Result.andThen_ok,f,Sem.run_pure,c,a]) e
        · exact bh.of h (by simp only [Instr.lookup,Sem.run_bind,k1,Result.andThen_ok,f,Sem.run_pure,c,a,e]) s
      · rename_i m
        simp only [aj] at l;subst l;simp only [jD,aE,ag,aj] at hrun;obtain ⟨o,V,⟨v',o'⟩,⟨W,G,g4⟩,dd,g5,g6⟩:=hrun;simp only [aaj] at g4 g6;obtain ⟨rfl,rfl⟩:=g4;simp only [fh,aaf] at g5;subst g5;obtain ⟨rfl,rfl⟩:=g6;split at G
        · rename_i es
          simp only [R] at hx;obtain ⟨b,hE,rfl⟩:=hx;obtain ⟨b',ents,clk,X,Y,Z,q4⟩:=h.H m _ V;have hb:b'=b:=by have:=X.symm.trans hE;simpa using this
          subst hb;have f:(getObj b').run P w= .ok (.map ents clk) w:=by simp [getObj,Sem.run,Y]
          obtain ⟨c,⟨j,y,a,e⟩ | ⟨a,z,e,s⟩⟩:=sr (P:=P) (w:=w) (ents:=ents) n d1 d2 q D G Z
          · exact bh.of h (by simp only [Instr.lookup,Sem.run_bind,k1,Result.andThen_ok,f,Sem.run_pure,c,a]) e
          · exact bh.of h (by simp only [Instr.lookup,Sem.run_bind,k1,Result.andThen_ok,f,Sem.run_pure,c,a,e]) s
        · cases G
      · cases l
  · cases B
end
section
variable {P:Program} {T:TT} {A:Nat->Prop} {g:Gh} {st:St} {w:World}
theorem PR {a b:AV} (h:uA a b= .ok true):a=b:=by
 unfold uA at h;split at h
 .simp only [aaf,aaX] at h;subst h;rfl
 .split at h
  .rename_i c;subst c;simp only [aaf,aaX] at h;subst h;rfl
  .cases h
 .simp only [aaf,aaX] at h;subst h;rfl
 .cases h
theorem I5 {a b:AV} {x y:Value} (h:uA a b= .ok true) (hx:R g a x) (hy:R g b y) (n:Nat):Instr.sameBits n y x=true:=by
 unfold uA at h;split at h
 .simp only [aaf,aaX] at h;subst h;simp only [R] at hx hy;subst hx hy;cases n <;> simp [Instr.sameBits]
 .split at h
  .rename_i c;subst c;simp only [aaf,aaX] at h;subst h;simp only [R] at hx hy;subst hx hy;cases n <;> simp [Instr.sameBits]
  .cases h
 .simp only [aaf,aaX] at h;subst h;simp only [R] at hx hy;subst hx hy;have:=fun s:LB=>I4 s s;cases n <;> simp [Instr.sameBits,this]
 .cases h
theorem sb {d:TypeDesc} {u:U} {k v:AV} {f q:Value} (w:Ax d u) (x:rv u k=true) (hx:R g k f) (r:R g v q): ∀{es es':List (AV×AV)} {ents:List MapEntry} (i:Nat),sd k v es= .ok es'->tI g es ents->
  (Instr.findNow d f ents i=some none/\ ∀n,tI g es' (ents++[{key:=f,val:=q,born:=n}]))\/
  (∃j y e,Instr.findNow d f ents i=some (some (i+j,y))/\ents[j]? =some e/\Instr.sameBits 10000 e.key f=true/\tI g es' (ents.modify j fun e=>{e with key:=f,val:=q}))
 | [],_,_,i,h,m=>by
  simp only [sd,aaf] at h;subst h;simp only [tI] at m;subst m;exact .inl ⟨rfl,fun n=>by simp only [tI];exact ⟨_,_,rfl,hx,r,rfl⟩⟩
 | (a,b)::es,_,_,i,h,m=>by
  simp only [tI] at m;obtain ⟨e,l,rfl,o,r2,z⟩:=m;simp only [sd,ag] at h;obtain ⟨c,h1,p⟩:=h;have hs:=yz w x h1 hx o;cases c with
  | true=>
   simp only [aj] at p;subst p;refine .inr ⟨0,e.val,e,by simp [Instr.findNow,hs],rfl,I5 h1 hx o _, ?_⟩;simp only [List.modify_zero_cons,tI];have:=PR h1;subst this;exact ⟨_,_,rfl,hx,r,z⟩
  | false=>
   simp only [ag,aj] at p;obtain ⟨E,A,rfl⟩:=p;rcases sb w x hx r (i+1) A z with ⟨s,t⟩ | ⟨j,y,B,s,t,C,D⟩
   .refine .inl ⟨by simp only [Instr.findNow,hs];exact s,fun n=> ?_⟩;simp only [aat,tI];exact ⟨_,_,rfl,o,r2,t n⟩
   .refine .inr ⟨j+1,y,B, ?_,by simpa using t,C, ?_⟩
    .simp only [Instr.findNow,hs];rw [show i+(j+1)=i+1+j by omega];exact s
    .simp only [List.modify_succ_cons,tI];exact ⟨_,_,rfl,o,r2,D⟩
theorem vD {w:World} {b:Nat} {o o':Go.Obj} (h:w.heap[b]? =some o):({w with heap:=w.heap.setIfInBounds b o'}:World).heap[b]? =some o':=by
 have:=lt_of_heap h;simp [this]
theorem qk {w:World} {b b':Nat} {o':Go.Obj} (h:b'≠b):({w with heap:=w.heap.setIfInBounds b o'}:World).heap[b']? =w.heap[b']? :=by
 simp [Array.getElem?_setIfInBounds_ne (fun e=>h e.symm)]
theorem yq (h:Inv T A g st w) {b:Nat} {o:Go.Obj} (c:w.heap[b]? =some o) (hn: ∀vs ty fz,o≠ .cells vs ty fz) (k:Nat):g.F b k=none:=by
 cases hf:g.F b k with
 | none=>rfl
 | some v=>
  obtain ⟨vs,ty,fz,a,_⟩:=qe (h.F b k v hf);rw [c] at a;cases a;exact absurd rfl (hn vs ty fz)
theorem ru (hT:zm P T) {C:dt} {t:Td} {m k v r:AV} {X f F:Value} {p:dY} {Y:Fx} (hp:qL T t m k v= .ok p) (hrun:aE C st p= .ok (r,Y)) (hm:R g m X) (Z:R g k f) (hv:R g v F) (h:Inv T A g st w):
  r=undef/\Fq P T A g w (Y.did.app st) (Instr.mapUpdate t X f F):=by
 simp only [qL,ag] at hp;obtain ⟨i,h1,G⟩:=hp;have hi:=hT t i (cH.1 h1);split at G
 .rename_i kt et I;have k1:=wL hi I;simp only [ag] at G;obtain ⟨ki,h3,J⟩:=G;have N:=hT _ ki (cH.1 h3);obtain ⟨d,d1,d2,_⟩:=N.und;split at J
  .rename_i id l;simp only [aj] at J;subst J;simp only [aE,ag,aj] at hrun;obtain ⟨o,O,⟨v',o'⟩,K,dd,g5,g6⟩:=hrun;split at K
   .rename_i es;simp only [ag,aj,aaj] at K;obtain ⟨es',g3,rfl,rfl⟩:=K;simp only [fh] at g5;split at g5
    .cases g5
    .rename_i n;rw [da] at n;simp only [aaf] at g5;subst g5;simp only [aaj] at g6;obtain ⟨rfl,rfl⟩:=g6;refine ⟨rfl, ?_⟩;simp only [R] at hm;obtain ⟨b,hE,rfl⟩:=hm;obtain ⟨b',ents,clk,q,L,q3,q4⟩:=h.H id _ O;have s:b'=b:=by have:=q.symm.trans hE;simpa using this
     subst s;have x:(getObj b').run P w= .ok (.map ents clk) w:=by simp [getObj,Sem.run,L]
     have z:=run_checkKey (w:=w) d1 d2 l Z false 9999;have hF:=fun kk=>yq h L (by simp) kk;have fin: ∀a c,tI g es' a.toList->(setObj b' (.map a c)).run P w= .ok () {w with heap:=w.heap.setIfInBounds b' (.map a c)}/\
       Inv T A g (st.put id (.map es')) {w with heap:=w.heap.setIfInBounds b' (.map a c)}/\Kp A g w g {w with heap:=w.heap.setIfInBounds b' (.map a c)}:=fun a c hr=>by
      refine ⟨by simp [setObj,Sem.run,L],h.write O (o:= .map es) (b:=b') q (.map es') (by simp) (fun _ s=>qk s) (fun kk u I=>by rw [hF kk] at I;cases I) q4 (fun Q B=>by
       have:g.E id=some (.cG Q):=B;have:=q.symm.trans this;simpa using this.symm) ⟨b',a,c,q,vD L,hr,q4⟩,Kp.write (h.own id _ b' O q n) (by simp) (fun _ s=>qk s)⟩
     rcases sb d2 l Z hv 0 g3 q3 with ⟨M,S⟩ | ⟨j,y,e,M,S,e3,e4⟩
     .obtain ⟨U,V,W⟩:=fin (ents.push {key:=f,val:=F,born:=clk}) (clk+1) (by simpa using S clk);refine ⟨g,_, ?_,V,W⟩;simp only [Instr.mapUpdate,Sem.run_bind,k1,Result.andThen_ok,x,z,run_findKey d1 M,U]
     .rw [aax] at M;obtain ⟨U,V,W⟩:=fin (ents.modify j fun e=>{e with key:=f,val:=F}) clk (by simpa [Array.toList_modify] using e4);refine ⟨g,_, ?_,V,W⟩;have D:((ents[j]?).map (·.key)).getD f=e.key:=by
       have:ents[j]? =some e:=by simpa using S
       simp [this]
      simp only [Instr.mapUpdate,Sem.run_bind,k1,Result.andThen_ok,x,z,run_findKey d1 M,D,Instr.keyThatStays,e3,if_true,Sem.run_pure,U]
   .cases K
  .cases J
 .cases G
theorem Cf (t:Td) (h:Inv T A g st w):bh P T A g w (.mm st.h) (st.new (.map [])).2 (Instr.makeMap t none):=by
 obtain ⟨k1,k2⟩:=h.newObj (.map []) (.map #[] 0) (fun b' a=>by
  have:(g.dB st.h (.cG w.heap.size)).E st.h=some (.cG b'):=a;rw [Gh.aX] at this;simpa using this.symm) ⟨w.heap.size, #[],0,Gh.aX _ _ _,World.heap_alloc_new,by simp [tI],h.W5 (aal _)⟩
 exact ⟨.map (some w.heap.size),_,_,by simp [Instr.makeMap],by simp only [R];exact ⟨_,Gh.aX _ _ _,rfl⟩,k1,k2⟩
theorem FU {t:Td} {i:TI} (hi:kP P t i) (b:i.und= .str) {s:LB} (h:Inv T A g st w):bh P T A g w (.mp st.h 0) (st.new (.sit s 0)).2 (Instr.range t (.string ⟨s.toArray⟩)):=by
 obtain ⟨k1,k2⟩:=h.newObj (.sit s 0) (.stringIter ⟨s.toArray⟩ 0) (fun b' a=>by
  have:(g.dB st.h (.cG w.heap.size)).E st.h=some (.cG b'):=a;rw [Gh.aX] at this;simpa using this.symm) ⟨w.heap.size,Gh.aX _ _ _,World.heap_alloc_new⟩
 exact ⟨.pointer (some ⟨w.heap.size,0,none⟩),_,_,by simp [Instr.range,wB hi b],by simp only [R];exact ⟨_,Gh.aX _ _ _,rfl⟩,k1,k2⟩
theorem IP {C:dt} {x v:AV} {xv:Value} {ty:Td} {p:dY} {q:Fx} (hp:Dj x= .ok p) (hrun:aE C st p= .ok (v,q)) (hx:R g x xv) (h:Inv T A g st w):
  bh P T A g w v (q.did.app st) (Instr.next xv true ty):=by
 unfold Dj at hp;split at hp
 .rename_i id;simp only [aaf] at hp;subst hp;simp only [aE,ag,aj] at hrun;obtain ⟨o,m,⟨v',o'⟩,d,dd,g5,g6⟩:=hrun;split at d
  .rename_i s pos;simp only [R] at hx;obtain ⟨b,hE,rfl⟩:=hx;obtain ⟨b',e,f⟩:=h.H id _ m;have i:b'=b:=by have:=e.symm.trans hE;simpa using this
   subst i;have j:(getObj b').run P w= .ok (.stringIter ⟨s.toArray⟩ pos) w:=by simp [getObj,Sem.run,f]
   split at d
   .rename_i c;rw [cZ] at c;simp only [aaf,aaj] at d;obtain ⟨rfl,rfl⟩:=d;simp only [fh] at g5;split at g5
    .cases g5
    .rename_i k;rw [da] at k;simp only [aaf] at g5;subst g5;simp only [aaj] at g6;obtain ⟨rfl,rfl⟩:=g6;have y:=fun kk=>yq h f (by simp) kk;have z:g.M b'=none:=by
      cases hm:g.M b' with
      | none=>rfl
      | some r=>have:=h.M b' r.1 r.2 hm;rw [f] at this;cases this
     refine ⟨.tuple #[.bool true,goInt pos,.int .i32 (wz s pos).1],g,{w with heap:=w.heap.setIfInBounds b' (.stringIter ⟨s.toArray⟩ (pos+(wz s pos).2))}, ?_, ?_, ?_, ?_⟩
     .have a:pos < (⟨s.toArray⟩:ByteArray).size:=by rw [qb];exact c
      simp [Instr.next,j,a,setObj,Sem.run,f,wz]
     .simp only [R];exact ⟨_,rfl,cL (by simp only [R]) (cL (by simp only [R];rfl) (cL (by simp only [R]) gJ))⟩
     .exact h.write m (o:= .sit s pos) (b:=b') e _ (by simp) (fun _ i=>qk i) (fun kk u t=>by rw [y kk] at t;cases t) z (fun n l=>by
       have:g.E id=some (.cG n):=l;have:=e.symm.trans this;simpa using this.symm) ⟨b',e,vD f⟩
     .exact Kp.write (h.own id _ b' m e k) (by simp) (fun _ i=>qk i)
   .rename_i c;rw [da] at c;simp only [aaf,aaj] at d;obtain ⟨rfl,rfl⟩:=d;simp only [fh,aaf] at g5;subst g5;simp only [aaj] at g6;obtain ⟨rfl,rfl⟩:=g6;have a:¬ pos < (⟨s.toArray⟩:ByteArray).size:=by rw [qb];omega
    refine bh.of h (x:= .tuple #[.bool false]) (by simp [Instr.next,j,a]) ?_;simp only [R];exact ⟨_,rfl,cL (by simp only [R]) gJ⟩
  .cases d
 .cases hp
end
section
variable {P:Program} {T:TT} {A:Nat->Prop} {g:Gh} {st:St} {w:World}
theorem Inv.IJ (h:Inv T A g st w) {k:Nat} {L o1:Obj} {loc loc':Nat->Oq (Nat×Nat)} (b' lo:Nat) (vals:List Value)
  (N:st.get k= .ok L) (hE:g.E k=some (.tok loc)) (z: ∀m x,loc m=some x->loc' m=some x)
  (r: ∀o,lo<=o->o < lo+vals.length->g.F b' o=none) (s: ∀i v,vals[i]? =some v->w.cell? ⟨b',lo+i,none⟩=some v)
  (f: ∀id o,st.get id= .ok o->id≠k->¬ At g id o b') (hA:A b') (t: ∀b,At ((g.cU b' lo vals).dB k (.tok loc')) k o1 b->b=b')
  (ho:Holds T ((g.cU b' lo vals).dB k (.tok loc')) w k o1):
  Inv T A ((g.cU b' lo vals).dB k (.tok loc')) (st.put k o1) w/\Kp A g w ((g.cU b' lo vals).dB k (.tok loc')) w:=by
 have n:=(St.ca.1 N).1;have G:Le g (g.cU b' lo vals):=Le.cU r;have I:Le (g.cU b' lo vals) ((g.cU b' lo vals).dB k (.tok loc')):=by
  refine ⟨fun _ _ _ x=>x,fun _ _ x=>x,fun j b x=> ?_,fun j l x=> ?_⟩
  .have:j≠k:=fun e=>by subst e;have:=hE.symm.trans x;cases this
   rw [Gh.cj _ _ this];exact x
  .by_cases u:j=k
   .subst u;have x':g.E j=some (.tok l):=x;have:=hE.symm.trans x';simp only [aas,pq.tok.injEq] at this;subst this;exact ⟨loc',Gh.aX _ _ _,z⟩
   .exact ⟨l,by rw [Gh.cj _ _ u];exact x,fun _ _ y=>y⟩
 have le:=G.trans I;refine ⟨⟨?_,h.M, ?_, ?_, ?_, ?_,h.up⟩,⟨aal _,fun _ _=>rfl,fun b J o=>Gh.dh _ _ _ _ (.inl fun e=>J (e ▸ hA)),fun _ _=>rfl,le,rfl,rfl,rfl⟩⟩
 .intro b o v K;by_cases O:b=b'/\lo<=o/\o < lo+vals.length
  .obtain ⟨rfl,h1,q⟩:=O;have d:(g.cU b lo vals).F b o=some v:=K;simp only [Gh.cU] at d;rw [if_pos ⟨trivial,h1,q⟩] at d;have:=s _ _ d
   rwa [show lo+(o - lo)=o by omega] at this
  .have d:(g.cU b' lo vals).F b o=some v:=K;rw [Gh.dh _ _ _ _ (by omega)] at d;exact h.F b o v d
 .intro id a;have B:st.h<=id:=a;rw [Gh.cj _ _ (by omega)];exact h.E id B
 .intro id o a;by_cases u:id=k
  .subst u;rw [St.aN n] at a;cases a;exact ho
  .rw [St.aT (fun e=>u e.symm)] at a;exact lG (h.H id o a) le (Gh.cj _ _ u) fun b J=>⟨fun _=>Gh.dh _ _ _ _ (.inl fun e=>f id o a u (e ▸ J)),rfl⟩
 .intro id id' o o' b h1 q p C;by_cases hi:id=k <;> by_cases c:id'=k
  .rw [hi,c]
  .subst hi;rw [St.aN n] at h1;cases h1;rw [St.aT (fun e=>c e.symm)] at q;rw [qN (Gh.cj _ _ c)] at C;have:=t b p;subst this;exact absurd C (f id' o' q c)
  .subst c;rw [St.aN n] at q;cases q;rw [St.aT (fun e=>hi e.symm)] at h1;rw [qN (Gh.cj _ _ hi)] at p;have:=t b C;subst this;exact absurd p (f id o h1 hi)
  .rw [St.aT (fun e=>hi e.symm)] at h1;rw [St.aT (fun e=>c e.symm)] at q;rw [qN (Gh.cj _ _ hi)] at p;rw [qN (Gh.cj _ _ c)] at C;exact h.D id id' o o' b h1 q p C
 .intro id o b h1 p P;by_cases hi:id=k
  .subst hi;rw [St.aN n] at h1;cases h1;have:=t b p;subst this;exact hA
  .rw [St.aT (fun e=>hi e.symm)] at h1;rw [qN (Gh.cj _ _ hi)] at p;exact h.own id o b h1 p P
theorem tq {loc:Nat->Oq (Nat×Nat)} {k n b cap:Nat} {e:Td} {z:Nat} {es:LA} {b':Nat} (hE:g.E k=some (.tok loc)) (hl:loc n=some (b,cap)) (h:At g k (.grow n e z es) b'):b'=b:=by
 obtain ⟨l,c,f,i⟩:=h;have a:=f.symm.trans hE;simp only [aas,pq.tok.injEq] at a;subst a;have d:=i.symm.trans hl;simp only [aas,aaj] at d;exact d.1
theorem Inv.Rr (h:Inv T A g st w) {e:Td} {i:TI} (hi:T.get e=some i) (h1:1<=i.size) {els:LA} {vals rest:List Value} {cap n:Nat} (hn:els.length<=n)
  (p: ∀v∈els,v.cells.length=i.size) (u:bH els=true) (r:RL g (flat els) vals) (ho: ∀v∈vals,v.oneCell'=true) (d:vals.length+rest.length=cap * i.size) (a:n<=cap):
  ∃g',Inv T A g' (st.new (.grow n e i.size els)).2 (w.drew.alloc (.cells (vals++rest).toArray e))/\Kp A g w g' (w.drew.alloc (.cells (vals++rest).toArray e))/\
   R g' (.gs st.h i.size n) (.slice (some ⟨w.heap.size,0,none⟩) n cap):=by
 have s:=h.drew;have f: ∀o,0<=o->o < 0+vals.length->g.F w.heap.size o=none:=fun o _ _=>h.mZ (aal _) o;have y:vals.length=els.length * i.size:=by rw [dQ r,eB p]
 have z:Inv T A g st (w.drew.alloc (.cells (vals++rest).toArray e)):=s.alloc _;have B:Inv T A (g.cU w.heap.size 0 vals) st (w.drew.alloc (.cells (vals++rest).toArray e)):=z.cU _ 0 vals f (fun k v t=>by
   have:(w.drew.alloc (.cells (vals++rest).toArray e)).heap[w.heap.size]? =some (.cells (vals++rest).toArray e):=World.heap_alloc_new (w:=w.drew);rw [cell_of this];have C:k < vals.length:=by
    rcases Nat.lt_or_ge k vals.length with q | q
    .exact q
    .simp [aaS q] at t
   simp only [aax,abc];rw [aaP C];exact t) fun id o b=>h.js (aal _) id o b
 have c:(g.cU w.heap.size 0 vals).E st.h=none:=h.E _ (aal _);have j:Le g (g.cU w.heap.size 0 vals):=Le.cU f;refine ⟨(g.cU w.heap.size 0 vals).dB st.h (.tok fun m=>if m=n then some (w.heap.size,cap) else none), ?_, ?_, ?_⟩
 .refine B.name (.grow n e i.size els) _ w.heap.size (fun id o b=> ?_) (h.up _ (aal _)) ?_ ?_
  .exact h.js (aal _) id o b
  .exact fun b' l=>tq (Gh.aX _ _ _) (by simp;rfl) l
  .refine ⟨_,w.heap.size,cap,i,(vals++rest).toArray,(0,0),Gh.aX _ _ _,by simp,fun m hm=> ?_,hi,h1,a,World.heap_alloc_new (w:=w.drew),by simpa using d,by simp,fun o D=> ?_,rfl,hn,u, ?_⟩
   .rw [if_neg (by omega)]
   .show (g.cU w.heap.size 0 vals).F w.heap.size o=none;rw [Gh.dh _ _ _ _ (by omega)];exact h.mZ (aal _) o
   .refine gV (Le.dB c) _ _ _ _ ?_;rw [en];refine ⟨p,dN (eZ j _ _ r) fun k x hx=>⟨Gh.l3 g _ 0 vals k x hx,ho x (aaK hx)⟩⟩
 .exact ((Kp.drew A g w).trans (Kp.alloc _ s)).trans ((Kp.cU (h.up _ (aal _)) f).trans (Kp.dB c))
 .simp only [R];exact ⟨_,w.heap.size,cap,Gh.aX _ _ _,by simp,rfl,a,h1⟩
structure vz (g:Gh) (size c:Nat) (kn:LA) (news vals:List Value):Prop where
 pre: ∃rest,news=vals++rest
 len:kn.length<=c
 cells: ∀v∈kn,v.cells.length=size
 bare:bH kn=true
 rl:RL g (flat kn) vals
 gh: ∀v∈news,v.oneCell'=true
theorem vz.all {size c:Nat} {new:LA} {news:List Value} (hn:new.length=c) (a: ∀v∈new,v.cells.length=size) (b:bH new=true) (d:RL g (flat new) news) (ho: ∀v∈news,v.oneCell'=true):vz g size c new news news:=
 ⟨⟨[],by simp⟩,by omega,a,b,d,ho⟩
theorem vz.none {size c:Nat} {news:List Value} (ho: ∀v∈news,v.oneCell'=true):vz g size c [] news []:=
 ⟨⟨news,rfl⟩,by simp,fun _ h=>(by cases h),rfl,gJ,ho⟩
theorem HB {t xt ty e:Td} {i:TI} (he:y8 P T t xt e i) {base:Oq Addr} {a b n:Nat} {j news vals:List Value} {x:Value} {es kn:LA}
  (hs:Src P i.size (.slice base a b) a j w) (hx:Src P i.size x n news w) (s:b < a+n) (p:dn (a+n) i=true)
  (h:Inv T A g st w) (hn:es.length=a) (u: ∀v∈es,v.cells.length=i.size) (C:bH es=true) (y:RL g (flat es) j) (ho: ∀v∈j,v.oneCell'=true)
  (m:vz g i.size n kn news vals):
  bh P T A g w (.gs st.h i.size (a+n)) (st.new (.grow (a+n) e i.size (es++kn))).2 (Builtin.append_ #[t,xt] ty #[.slice base a b,x]):=by
 obtain ⟨f,z,D,B,E,F,G⟩:=he.info;obtain ⟨d,d1,d2⟩:=he.xt;obtain ⟨L,r2,M⟩:=qa p;have q:Builtin.nextslicecap (a+n) b * f.bytes<=281474976710656:=growslice_fits s (by rw [E];omega);have hrun:=rT (ty:=ty) he.t d1 d2 D F (by rw [B];exact hs) (by rw [B];exact hx) s (by omega) q;have r:=grownCap_ge (w:=w) (n:=a+n) (c:=b) (e:=e);have H:j.length=a * i.size:=by rw [dQ y,eB u,hn]
 have I:news.length=n * i.size:=hx.l;obtain ⟨rest,k⟩:=m.pre;have hlen:=aaU List.length k;rw [aad] at hlen;obtain ⟨g',k1,k2,J⟩:=h.Rr (els:=es++kn) (vals:=j++vals) (rest:=rest++(Builtin.zeroCells z.cells (grownCap w (a+n) b e - (a+n))).toList) (cap:=grownCap w (a+n) b e) (n:=a+n) he.get r2
  (by rw [aad];have:=m.len;omega)
  (fun v o=>by
   rcases aaC.1 o with o | o
   .exact u v o
   .exact m.cells v o)
  (by rw [gw,C,m.bare];rfl) (by rw [oL];exact fk y m.rl)
  (fun v o=>by
   rcases aaC.1 o with o | o
   .exact ho v o
   .exact m.gh v (by rw [k];exact List.mem_append_left _ o))
  (by
   rw [aad,aad,jo,G];have:(a+n) * i.size+(grownCap w (a+n) b e - (a+n)) * i.size=grownCap w (a+n) b e * i.size:=by
    rw [<- Nat.add_mul];congr 1;omega
   rw [Nat.add_mul] at this;omega) r
 have K:j.toArray++news.toArray++Builtin.zeroCells z.cells (grownCap w (a+n) b e - (a+n))=(j++vals++(rest++(Builtin.zeroCells z.cells (grownCap w (a+n) b e - (a+n))).toList)).toArray:=by
  apply Array.ext';simp [k,aar]
 rw [K] at hrun;exact ⟨_,g',_,hrun,J,k1,k2⟩
structure Slot (T:TT) (g:Gh) (w:World) (k:Nat) (o:Obj) (e:Td) (i:TI) (loc:Nat->Oq (Nat×Nat)) (b cap:Nat) (vs:Array Value) (fz:Nat×Nat) (es:LA):Prop where
 s_E:g.E k=some (.tok loc)
 s_loc:loc es.length=some (b,cap)
 s_top: ∀m,es.length < m->loc m=none
 s_get:T.get e=some i
 s_size:1<=i.size
 s_le:es.length<=cap
 s_heap:w.heap[b]? =some (.cells vs e fz)
 s_sz:vs.size=cap * i.size
 s_fz:fz.2<=es.length * i.size
 s_F: ∀o,es.length * i.size<=o->g.F b o=none
 s_bare:bH es=true
 s_atR:iW g i.size es b 0
 s_At:At g k o b
 s_uniq: ∀b',At g k o b'->b'=b
 s_holds: ∀(w':World) (vs':Array Value),w'.heap[b]? =some (.cells vs' e fz)->vs'.size=cap * i.size->Holds T g w' k o
theorem NA {k:Nat} {e:Td} {i:TI} {es:LA} {loc:Nat->Oq (Nat×Nat)} {b cap:Nat} (h:Inv T A g st w) (y:st.get k= .ok (.tok es.length e)) (hi:T.get e=some i)
  (hE:g.E k=some (.tok loc)) (hl:loc es.length=some (b,cap)) (z:bH es=true) (p:iW g i.size es b 0): ∃vs fz,Slot T g w k (.tok es.length e) e i loc b cap vs fz es:=by
 obtain ⟨a,B,d,C,vs,fz,f,j,s,q,t,u,D,F,v,m⟩:=h.H k _ y;have n:=f.symm.trans hE;simp only [aas,pq.tok.injEq] at n;subst n;have o:=j.symm.trans hl;simp only [aas,aaj] at o;obtain ⟨rfl,rfl⟩:=o;have x:=q.symm.trans hi;simp only [aas] at x;subst x;refine ⟨vs,fz,f,j,s,q,t,u,D,F,v,m,z,p,⟨a,d,f,j⟩,fun b' r=> ?_,fun w' vs' h1 G=>⟨a,B,d,C,vs',fz,f,j,s,q,t,u,h1,G,v,m⟩⟩;obtain ⟨l,c,p1,I⟩:=r;have n:=p1.symm.trans f;simp only [aas,pq.tok.injEq] at n;subst n;have o:=I.symm.trans j;simp only [aas,aaj] at o;exact o.1
theorem Lu {k:Nat} {e:Td} {i:TI} {z:Nat} {es:LA} (h:Inv T A g st w) (u:st.get k= .ok (.grow es.length e z es)) (hi:T.get e=some i):
  z=i.size/\ ∃loc b cap vs fz,Slot T g w k (.grow es.length e z es) e i loc b cap vs fz es:=by
 obtain ⟨loc,b,cap,v,vs,fz,f,j,p,l,q,r,x,y,s,a,m,n,c,d⟩:=h.H k _ u;have t:=l.symm.trans hi;simp only [aas] at t;subst t;subst m;exact ⟨rfl,loc,b,cap,vs,fz,f,j,p,l,q,r,x,y,s,a,c,d,⟨loc,cap,f,j⟩,fun b' o=>tq f j o,
  fun w' vs' h1 B=>⟨loc,b,cap,v,vs',fz,f,j,p,l,q,r,h1,B,s,a,rfl,n,c,d⟩⟩
theorem HC {t xt ty e:Td} {i:TI} (he:y8 P T t xt e i) {k b cap n:Nat} {o:Obj} {loc:Nat->Oq (Nat×Nat)} {vs:Array Value} {fz:Nat×Nat} {es kn:LA} {news vals:List Value} {x:Value}
  (hk:st.get k= .ok o) (b4:st.ro<=k) (hS:Slot T g w k o e i loc b cap vs fz es)
  (hx:Src P i.size x n news w) (de:0 < n) (C:vz g i.size n kn news vals) (ar:dn (es.length+n) i=true) (h:Inv T A g st w):
  bh P T A g w (.gs k i.size (es.length+n)) (st.put k (.grow (es.length+n) e i.size (es++kn))) (Builtin.append_ #[t,xt] ty #[.slice (some ⟨b,0,none⟩) es.length cap,x]):=by
 obtain ⟨f,z,f1,f2,f3,f4,f5⟩:=he.info;obtain ⟨d,d1,d2⟩:=he.xt;obtain ⟨r1,r2,r3⟩:=qa ar;obtain ⟨q1,q2,q3,q4,q5,q6,q7,q8,q9,Q,cv,b5,I,av,hO⟩:=hS;have X:=b5;rw [en] at X;obtain ⟨Y,b6⟩:=X;obtain ⟨p,o1,o2⟩:=jC b6;have aw:p.length=es.length * i.size:=by rw [dQ o1,eB Y]
 have b7:news.length=n * i.size:=hx.l;obtain ⟨H,B⟩:=C.pre;have b8:vals.length=kn.length * i.size:=by rw [dQ C.rl,eB C.cells]
 have c8:=C.len;have dk:vals.length<=news.length:=by rw [B,aad];omega
 have a1: ∀v∈es++kn,v.cells.length=i.size:=fun v u=>by
  rcases aaC.1 u with u | u
  .exact Y v u
  .exact C.cells v u
 have K:bH (es++kn)=true:=by rw [gw,cv,C.bare];rfl
 have G:(es++kn).length=es.length+kn.length:=aad;by_cases L:es.length+n<=cap
 ·-- in place
  have b9:=gr (P:=P) b (es.length * i.size) e fz news 0 vs w q7 (by
   rw [q8,b7];simp only [abf];rw [<- Nat.add_mul];exact Nat.mul_le_mul_right _ L) (by simpa using q9) C.gh
  simp only [abf] at b9;have hrun:=F8 (ty:=ty) (a:=⟨b,0,none⟩) he.t d1 d2 f1 (by rw [f2];exact hx) L (by rw [f2,Addr.fL,aax];exact b9);generalize N:vs.toList.take (es.length * i.size)++news++vs.toList.drop (es.length * i.size+news.length)=row at hrun;have O:row.length=vs.size:=by
   rw [<- N];have:es.length * i.size+news.length<=vs.size:=by rw [q8,b7, <- Nat.add_mul];exact Nat.mul_le_mul_right _ L
   simp;omega
  have cc: ∀j,j < es.length * i.size->row[j]? =vs[j]? :=fun j J=>by
   rw [<- N,aar,aaP (by simp;have:=Nat.mul_le_mul_right i.size q6;omega),List.getElem?_take,if_pos J];simp
  have cd: ∀j v,news[j]? =some v->row[es.length * i.size+j]? =some v:=fun j v u=>by
   have J:j < news.length:=by
    rcases Nat.lt_or_ge j news.length with q | q
    .exact q
    .simp [aaS q] at u
   have cg:(vs.toList.take (es.length * i.size)).length=es.length * i.size:=by
    have h1:vs.toList.length=cap * i.size:=q8;have h2:es.length * i.size<=cap * i.size:=Nat.mul_le_mul_right _ q6;rw [aau,h1];omega
   rw [<- N,aar,aaM (by rw [cg];omega),cg,aaP (by omega)];rw [show es.length * i.size+j - es.length * i.size=j by omega];exact u
  have s:(w.setRow b row.toArray).heap[b]? =some (.cells row.toArray e fz):=setRow_heap _ _ _ _ _ _ q7;have cy:g.M b=none:=by
   cases hm:g.M b with
   | none=>rfl
   | some ee=>
    have:=h.M b ee.1 ee.2 hm;rw [q7] at this;cases this
  have i1:Inv T A g (st.put k o) (w.setRow b row.toArray):=h.write hk I o (setRow_size _ _ _) (fun _ hb=>iN _ _ _ hb)
   (fun j v u=>by
    have J:j < es.length * i.size:=by
     rcases Nat.lt_or_ge j (es.length * i.size) with q | q
     .exact q
     .rw [Q j q] at u;cases u
    have:=h.F b j v u;rw [cell_of q7] at this;rw [cell_of s,abc,cc j J];exact this) cy av
   (hO _ _ s (by simpa [O] using q8))
  have a6:Kp A g w g (w.setRow b row.toArray):=Kp.write (h.own k _ b hk I b4) (setRow_size _ _ _) (fun _ hb=>iN _ _ _ hb);have cz:(st.put k o).get k= .ok o:=St.aN (St.ca.1 hk).1;obtain ⟨S,a7⟩:=i1.IJ (o1:= .grow (es.length+n) e i.size (es++kn)) (loc':=fun m=>if m=es.length+n then some (b,cap) else loc m) b (es.length * i.size) vals cz q1
   (fun m y hy=>by
    by_cases hm:m=es.length+n
    .have:=q3 m (by omega);rw [this] at hy;cases hy
    .rw [if_neg hm];exact hy) (fun o ho _=>Q o ho)
   (fun j v u=>by
    rw [cell_of s,abc];refine cd j v ?_;rw [B,aaP (by
     rcases Nat.lt_or_ge j vals.length with q | q
     .exact q
     .simp [aaS q] at u)]
    exact u)
   (fun id o' U cl ha=>by
    rw [St.aT (fun e=>cl e.symm)] at U;exact cl (h.D id k o' _ b U hk ha I)) (h.own k _ b hk I b4)
   (fun b' a8=>tq (Gh.aX _ _ _) (by simp;rfl) a8)
   ⟨_,b,cap,i,row.toArray,fz,Gh.aX _ _ _,by simp,fun m hm=>by rw [if_neg (by omega)];exact q3 m (by omega),q4,q5,L,s,by simpa [O] using q8,
    aaR q9 (Nat.mul_le_mul_right _ (by rw [G];omega)),fun o' V=>by
     show (g.cU b (es.length * i.size) vals).F b o'=none;rw [G,Nat.add_mul] at V;rw [Gh.dh _ _ _ _ (by omega)];exact Q o' (by omega),rfl,by rw [G];omega,K,by
     have W:Le g ((g.cU b (es.length * i.size) vals).dB k (.tok fun m=>if m=es.length+n then some (b,cap) else loc m)):=by
      refine (Le.cU fun o' V _=>Q o' V).trans ⟨fun _ _ _ x=>x,fun _ _ x=>x,fun j b x=> ?_,fun j l x=> ?_⟩
      .have:j≠k:=fun e=>by subst e;have:=q1.symm.trans x;cases this
       rw [Gh.cj _ _ this];exact x
      .by_cases J:j=k
       .subst J;have x':g.E j=some (.tok l):=x;have:=q1.symm.trans x';simp only [aas,pq.tok.injEq] at this;subst this;exact ⟨_,Gh.aX _ _ _,fun m y hy=>by
         by_cases hm:m=es.length+n
         .have:=q3 m (by omega);rw [this] at hy;cases hy
         .rw [if_neg hm];exact hy⟩
       .exact ⟨l,by rw [Gh.cj _ _ J];exact x,fun _ _ y=>y⟩
     rw [oE];refine ⟨gV W _ _ _ _ b5, ?_⟩;rw [en];refine ⟨C.cells,dN (eZ W _ _ C.rl) fun j v u=>⟨?_,C.gh v (by rw [B];exact List.mem_append_left _ (aaK u))⟩⟩;rw [aax];exact Gh.l3 g b (es.length * i.size) vals j v u⟩
  have cn:(st.put k o).put k (.grow (es.length+n) e i.size (es++kn))=st.put k (.grow (es.length+n) e i.size (es++kn)):=by
   simp only [St.put,Tr.put,Tr.set_set]
  rw [cn] at S;refine ⟨_,_,_,hrun, ?_,S,a6.trans a7⟩;simp only [R];exact ⟨_,b,cap,Gh.aX _ _ _,by simp,rfl,L,q5⟩
 ·-- in a new array
  have Z: ∀w':World,(∀b o,w'.cell? ⟨b,o,none⟩=w.cell? ⟨b,o,none⟩)->(Builtin.firstCells i.size es.length (.slice (some ⟨b,0,none⟩) es.length cap)).run P w'= .ok p.toArray w':=fun w' cF=>
   run_firstCells_some (P:=P) w' i.size es.length ⟨b,0,none⟩ es.length cap p aw (fun j v u=>by
    rw [Addr.fL,cF];exact h.F _ _ _ (o2 j v u).1)
  have hs:Src P i.size (.slice (some ⟨b,0,none⟩) es.length cap) es.length p w:=⟨by simp [Builtin.lenOf],Z w fun _ _=>rfl,Z w.drew fun _ _=>rfl,aw⟩;have hg:cap < es.length+n:=by omega
  have cp:Builtin.nextslicecap (es.length+n) cap * f.bytes<=281474976710656:=growslice_fits hg (by rw [f3];omega);have hrun:=rT (ty:=ty) he.t d1 d2 f1 f4 (by rw [f2];exact hs) (by rw [f2];exact hx) hg (by omega) cp;have bb:=grownCap_ge (w:=w) (n:=es.length+n) (c:=cap) (e:=e);generalize grownCap w (es.length+n) cap e=r at hrun bb;have hw:p.toArray++news.toArray++Builtin.zeroCells z.cells (r - (es.length+n))=(p++vals++(H++(Builtin.zeroCells z.cells (r - (es.length+n))).toList)).toArray:=by
   apply Array.ext';simp [B,aar]
  rw [hw] at hrun;have c6:(H++(Builtin.zeroCells z.cells (r - (es.length+n))).toList).length+(p++vals).length=r * i.size:=by
   have hlen:=aaU List.length B;rw [aad] at hlen;rw [aad,aad,jo,f5];have:(es.length+n) * i.size+(r - (es.length+n)) * i.size=r * i.size:=by
    rw [<- Nat.add_mul];congr 1;omega
   rw [Nat.add_mul] at this;omega
  generalize H++(Builtin.zeroCells z.cells (r - (es.length+n))).toList=rest at hrun c6;have hd:=h.drew;have i1:Inv T A g st (w.drew.alloc (.cells (p++vals++rest).toArray e)):=hd.alloc _;have a6:Kp A g w g (w.drew.alloc (.cells (p++vals++rest).toArray e)):=(Kp.drew A g w).trans (Kp.alloc _ hd);have s:(w.drew.alloc (.cells (p++vals++rest).toArray e)).heap[w.heap.size]? =some (.cells (p++vals++rest).toArray e):=World.heap_alloc_new (w:=w.drew);have dv:(p++vals).length=(es++kn).length * i.size:=by rw [aad,G,aw,b8,Nat.add_mul]
  have bt: ∀v∈p++vals,v.oneCell'=true:=fun v u=>by
   rcases aaC.1 u with hm | hm
   .obtain ⟨jj,c7⟩:=List.getElem?_of_mem hm;exact (o2 jj v c7).2
   .exact C.gh v (by rw [B];exact List.mem_append_left _ hm)
  have W:Le g ((g.cU w.heap.size 0 (p++vals)).dB k (.tok fun m=>if m=es.length+n then some (w.heap.size,r) else loc m)):=by
   refine (Le.cU fun o' _ _=>h.mZ (aal _) o').trans ⟨fun _ _ _ x=>x,fun _ _ x=>x,fun j b x=> ?_,fun j l x=> ?_⟩
   .have:j≠k:=fun e=>by subst e;have:=q1.symm.trans x;cases this
    rw [Gh.cj _ _ this];exact x
   .by_cases J:j=k
    .subst J;have x':g.E j=some (.tok l):=x;have:=q1.symm.trans x';simp only [aas,pq.tok.injEq] at this;subst this;exact ⟨_,Gh.aX _ _ _,fun m y hy=>by
      by_cases hm:m=es.length+n
      .have:=q3 m (by omega);rw [this] at hy;cases hy
      .rw [if_neg hm];exact hy⟩
    .exact ⟨l,by rw [Gh.cj _ _ J];exact x,fun _ _ y=>y⟩
  obtain ⟨S,a7⟩:=i1.IJ (o1:= .grow (es.length+n) e i.size (es++kn)) (loc':=fun m=>if m=es.length+n then some (w.heap.size,r) else loc m) w.heap.size 0 (p++vals) hk q1
   (fun m y hy=>by
    by_cases hm:m=es.length+n
    .have:=q3 m (by omega);rw [this] at hy;cases hy
    .rw [if_neg hm];exact hy) (fun o' _ _=>h.mZ (aal _) o')
   (fun j v u=>by
    have J:j < (p++vals).length:=by
     rcases Nat.lt_or_ge j (p++vals).length with q | q
     .exact q
     .rw [aaS q] at u;cases u
    rw [cell_of s,abc,aax,aaP J];exact u)
   (fun id o' U _=>h.js (aal _) id o' U) (h.up _ (aal _))
   (fun b' a8=>tq (Gh.aX _ _ _) (by simp;rfl) a8)
   ⟨_,w.heap.size,r,i,(p++vals++rest).toArray,(0,0),Gh.aX _ _ _,by simp,fun m hm=>by rw [if_neg (by omega)];exact q3 m (by omega),q4,q5,bb,s,by
     simp only [ab1];rw [aad];omega,by simp,fun o' V=>by
     show (g.cU w.heap.size 0 (p++vals)).F w.heap.size o'=none;rw [Gh.dh _ _ _ _ (by omega)];exact h.mZ (aal _) o',rfl,by rw [G];omega,K,by
     rw [en];refine ⟨a1, ?_⟩;rw [oL];exact dN (eZ W _ _ (fk o1 C.rl)) fun j v u=>⟨Gh.l3 g w.heap.size 0 (p++vals) j v u,bt v (aaK u)⟩⟩
  refine ⟨_,_,_,hrun, ?_,S,a6.trans a7⟩;simp only [R];exact ⟨_,w.heap.size,r,Gh.aX _ _ _,by simp,rfl,bb,q5⟩
end
section
variable {P:Program} {T:TT} {A:Nat->Prop} {g:Gh} {st:St} {w:World}
theorem yU {C:dt} {t xt ty e:Td} {i:TI} (he:y8 P T t xt e i) {s r:AV} {W x:Value} {c:Nat} {kn:LA} {news vals:List Value} {p:dY} {X:Fx}
  (hp:rn i e s c kn= .ok p) (hrun:aE C st p= .ok (r,X)) (hs:R g s W) (hx:Src P i.size x c news w) (L:0 < c) (y:vz g i.size c kn news vals) (h:Inv T A g st w):
  bh P T A g w r (X.did.app st) (Builtin.append_ #[t,xt] ty #[W,x]):=by
 unfold rn at hp;split at hp
 ·-- to nil
  split at hp
  .rename_i a;cases hp;simp only [aE,aaf,aaj] at hrun;obtain ⟨rfl,rfl⟩:=hrun;simp only [R] at hs;subst hs;have M:Src P i.size (.slice none 0 0) 0 [] w:=⟨by simp [Builtin.lenOf],by simp [Builtin.firstCells],by simp [Builtin.firstCells],by simp⟩;have:=HB (ty:=ty) (es:=[]) he M hx (by omega) (by rw [aax];exact a) h rfl (fun _ h=>by cases h) rfl gJ (fun _ h=>by cases h) y;rw [aax] at this;exact this
  .cases hp
 .rename_i z es;split at hp
  .rename_i a;simp only [aak] at a;obtain ⟨a,f⟩:=a;have f:=aap f;subst f;cases hp;simp only [aE,aaf,aaj] at hrun;obtain ⟨rfl,rfl⟩:=hrun;simp only [R] at hs;obtain ⟨E,b,o,cap,rfl,D,N,G,H⟩:=hs;have I:cap=es.length:=H;subst I;have l:=G;rw [en] at l;obtain ⟨xs,Y,Z⟩:=jC l.2;have hl:xs.length=es.length * i.size:=by rw [dQ Y,eB l.1]
   have q: ∀w':World,(∀b o,w'.cell? ⟨b,o,none⟩=w.cell? ⟨b,o,none⟩)->(Builtin.firstCells i.size es.length (.slice (some ⟨b,o,none⟩) es.length es.length)).run P w'= .ok xs.toArray w':=fun w' S=>
    run_firstCells_some (P:=P) w' i.size es.length ⟨b,o,none⟩ es.length es.length xs hl (fun j v U=>by
     rw [Addr.fL,S];exact h.F _ _ _ (Z j v U).1)
   have O:Src P i.size (.slice (some ⟨b,o,none⟩) es.length es.length) es.length xs w:=⟨by simp [Builtin.lenOf],q w fun _ _=>rfl,q w.drew fun _ _=>rfl,hl⟩;exact HB (ty:=ty) he O hx (by omega) a h rfl l.1 E Y (fun v U=>by
    obtain ⟨j,hj⟩:=List.getElem?_of_mem U;exact (Z j v hj).2) y
  .cases hp
 .rename_i z es k;split at hp
  .rename_i a;simp only [aak] at a;obtain ⟨a,f⟩:=a;have f:=aap f;subst f;cases hp;simp only [aE,ag,aj] at hrun;obtain ⟨ob,h1,⟨v',o'⟩,u,dd,B,V⟩:=hrun;split at u
   .rename_i n e';split at u
    .rename_i d;simp only [aak] at d;have hn:=aap d.1;have J:=aap d.2;subst hn J;cases u;simp only [fh] at B;split at B
     .cases B
     .rename_i K;cases B;cases V;rw [da] at K;simp only [R] at hs;obtain ⟨E,b,o,cap,rfl,D,N,G,rfl,loc,hE,hl⟩:=hs;obtain ⟨vs,fz,Q⟩:=NA h h1 he.get hE hl E G;exact HC (ty:=ty) he h1 (by omega) Q hx L y a h
    .cases u
   .cases u
  .cases hp
 .rename_i k z n;split at hp
  .rename_i a;simp only [aak] at a;obtain ⟨a,f⟩:=a;have f:=aap f;subst f;cases hp;simp only [aE,ag,aj] at hrun;obtain ⟨ob,h1,⟨v',o'⟩,u,dd,B,V⟩:=hrun;split at u
   .rename_i m e' z' es;split at u
    .rename_i d;simp only [aak] at d;have hm:=aap d.1.1;have hn:=aap d.1.2;have J:=aap d.2.1;subst hm hn J;cases u;simp only [fh] at B;split at B
     .cases B
     .rename_i K;cases B;cases V;rw [da] at K;simp only [R] at hs;obtain ⟨loc',b',ar,hE,hl,rfl,D,N⟩:=hs;obtain ⟨rfl,loc,b,cap,vs,fz,Q⟩:=Lu h h1 he.get;have e1:=Q.s_E.symm.trans hE;simp only [aas,pq.tok.injEq] at e1;subst e1;have e2:=Q.s_loc.symm.trans hl;simp only [aas,aaj] at e2;obtain ⟨rfl,rfl⟩:=e2;exact HC (ty:=ty) he h1 (by omega) Q hx L y a h
    .cases u
   .cases u
  .cases hp
 .cases hp
theorem AY {C:dt} {t xt ty e:Td} {i:TI} (he:y8 P T t xt e i) {s x r:AV} {d xv:Value} {new:LA} {p:dY} {f:Fx} (c:qT x=some new)
  (hp:jn i e s new= .ok p) (hrun:aE C st p= .ok (r,f)) (hs:R g s d) (hx:R g x xv) (h:Inv T A g st w):
  bh P T A g w r (f.did.app st) (Builtin.append_ #[t,xt] ty #[d,xv]):=by
 unfold jn at hp;split at hp
 .cases hp
 .rename_i v l;simp only [ag] at hp;obtain ⟨a,hf,hp⟩:=hp;split at hp
  .cases hp
  .rename_i b;have j:=EV b;obtain ⟨news,k,n,o,m,q⟩:=xV (P:=P) hx c hf j (by simp) h;have hpos:0 < a.length:=by rw [q];simp
   split at hp
   .exact yU he hp hrun hs k hpos (vz.none m) h
   .exact yU he hp hrun hs k hpos (vz.all rfl j o n m) h
theorem Ao {t xt ty e:Td} {i:TI} (he:y8 P T t xt e i) {base:Oq Addr} {n:Nat} {news:List Value} {x:Value} {els:LA}
  (hs:Src P i.size (.slice base 0 0) 0 [] w) (hx:Src P i.size x n news w) (B:0 < n) (a:dn n i=true)
  (h:Inv T A g st w) (q:RL g (flat els) news) (ho: ∀v∈news,v.oneCell'=true):
  bh P T A g w (.ms st.h 0 i.size n 0) (st.new (.cells (1000000+e) (flat els))).2 (Builtin.append_ #[t,xt] ty #[.slice base 0 0,x]):=by
 obtain ⟨f,z,r,p,s,u,C⟩:=he.info;obtain ⟨d,d1,d2⟩:=he.xt;obtain ⟨D,r2,F⟩:=qa a;have b:Builtin.nextslicecap (0+n) 0 * f.bytes<=281474976710656:=growslice_fits (by omega) (by rw [aax,s];omega);have hrun:=rT (ty:=ty) he.t d1 d2 r u (by rw [p];exact hs) (by rw [p];exact hx) (by omega) (by omega) b;have y:=grownCap_ge (w:=w) (n:=0+n) (c:=0) (e:=e);have hE:g.E st.h=none:=h.E _ (aal _);have k:Le g (g.dB st.h (.cG w.heap.size)):=Le.dB hE;obtain ⟨k1,k2⟩:=h.drew.newObj (.cells (1000000+e) (flat els)) (.cells (news.toArray++Builtin.zeroCells z.cells (grownCap w (0+n) 0 e - (0+n))) e) (fun b' l=>by
  have:(g.dB st.h (.cG w.heap.size)).E st.h=some (.cG b'):=l;rw [Gh.aX] at this;simpa using this.symm) ⟨w.heap.size,news.toArray,Builtin.zeroCells z.cells (grownCap w (0+n) 0 e - (0+n)),e,Gh.aX _ _ _,World.heap_alloc_new (w:=w.drew),by simpa using eZ k _ _ q,by simpa using ho,fun o=>h.mZ (aal _) o,fun m=>absurd m (Nat.not_lt.2 (Nat.le_add_right _ _))⟩
 have j:([]:List Value).toArray++news.toArray=news.toArray:=by simp
 rw [j] at hrun;refine ⟨_,g.dB st.h (.cG w.heap.size),_,hrun, ?_,k1,(Kp.drew A g w).trans k2⟩;simp only [R];exact ⟨w.heap.size,0,Gh.aX _ _ _,grownCap w (0+n) 0 e,by simp,by omega,r2,fun _=>rfl,.inr trivial⟩
theorem BC {C:dt} {t xt ty e:Td} {i:TI} (he:y8 P T t xt e i) {s x r:AV} {n xv:Value} {new:LA} {p:dY} {q:Fx} (d:qT x=some new)
  (hp:tn i e s new= .ok p) (hrun:aE C st p= .ok (r,q)) (hs:R g s n) (hx:R g x xv) (h:Inv T A g st w):
  bh P T A g w r (q.did.app st) (Builtin.append_ #[t,xt] ty #[n,xv]):=by
 unfold tn at hp;split at hp
 .exact vB he d hp hrun hs hx h
 .rename_i v l;simp only [ag] at hp;obtain ⟨f,hf,hp⟩:=hp;split at hp
  .cases hp
  .rename_i c;simp only [aak] at c;have u:=EV c.1;obtain ⟨news,j,k,z,m,y⟩:=xV (P:=P) hx d hf u (by simp) h;have hpos:0 < f.length:=by rw [y];simp
   split at hp
   .simp only [aaf] at hp;subst hp;simp only [aE,aaf,aaj] at hrun;obtain ⟨rfl,rfl⟩:=hrun;simp only [R] at hs;subst hs;exact Ao he ⟨by simp [Builtin.lenOf],by simp [Builtin.firstCells],by simp [Builtin.firstCells],by simp⟩ j hpos c.2 h k m
   .simp only [aaf] at hp;subst hp;simp only [aE,aaf,aaj] at hrun;obtain ⟨rfl,rfl⟩:=hrun;simp only [R] at hs;obtain ⟨a,rfl⟩:=hs;exact Ao he ⟨by simp [Builtin.lenOf],by simp [Builtin.firstCells,loadCells,loadCellsFrom],by simp [Builtin.firstCells,loadCells,loadCellsFrom],by simp⟩ j hpos c.2 h k m
   .simp only [aaf] at hp;subst hp;simp only [aE,aaf,aaj] at hrun;obtain ⟨rfl,rfl⟩:=hrun;simp only [R] at hs;obtain ⟨_,b,o,cap,rfl,_,_,_,hp⟩:=hs;simp only [wI,aai] at hp;subst hp;exact Ao he ⟨by simp [Builtin.lenOf],by simp [Builtin.firstCells,loadCells,loadCellsFrom],by simp [Builtin.firstCells,loadCells,loadCellsFrom],by simp⟩ j hpos c.2 h k m
   .cases hp
theorem Cj (hT:zm P T) {C:dt} {t:Td} {k z n:Nat} {i r:AV} {K L:Value} {p:dY} {M:Fx} (hp:mz T t k z n i= .ok p) (hrun:aE C st p= .ok (r,M))
  (hs:R g (.gs k z n) K) (hy:R g i L) (h:Inv T A g st w):bh P T A g w r (M.did.app st) (Instr.indexAt t K L):=by
 simp only [mz,ag] at hp;obtain ⟨j,X,D,E,it,h1,v⟩:=hp;obtain ⟨kd,rfl⟩:=zq X hy;obtain ⟨rfl,Y⟩:=kB E;have F:=hT t it (cH.1 h1);split at v
 .rename_i e l;have k1:=fu F l;simp only [ag] at v;obtain ⟨Z,h3,G⟩:=v;have d:=hT _ Z (cH.1 h3);split at G
  .rename_i o;have o:=aap o;cases G;simp only [jD,aE,ag,aj] at hrun;obtain ⟨ob,h5,⟨v',o'⟩,⟨v2,c,y⟩,dd,N,h9⟩:=hrun;cases y;simp only [fh,aaf] at N;subst N;cases h9;simp only [R] at hs;obtain ⟨loc,b,cap,hE,hl,rfl,O,ar⟩:=hs;split at c
   .rename_i m e' z' es;split at c
    .rename_i a;simp only [aak] at a;have hm:=aap a.1;have f:=aap a.2;subst hm f;obtain ⟨q,B,s,i2,vs,fz,Q,S,q3,q4,q5,q6,q7,q8,q9,av,aw,a1,I,J⟩:=h.H k _ h5;have U:=Q.symm.trans hE;simp only [aas,pq.tok.injEq] at U;subst U;have V:=S.symm.trans hl;simp only [aas,aaj] at V;obtain ⟨rfl,rfl⟩:=V;split at c
     .simp only [ag,aj] at c;obtain ⟨u,y,rfl⟩:=c;obtain ⟨d1,d2⟩:=Ad J y;refine bh.of h (x:= .pointer (some ⟨B,0+D * z',none⟩)) ?_ ?_
      .simp [Instr.indexAt,asIntOf,k1,d.dw,Addr.fL,o];intro W;omega
      .simp only [R];exact ⟨yT (wY I y),B,_,rfl,d2⟩
     .cases c;refine bh.of h (x:= .pointer (some ⟨B,0+D * z',none⟩)) ?_ ?_
      .simp [Instr.indexAt,asIntOf,k1,d.dw,Addr.fL,o];intro W;omega
      .simp only [R];exact ⟨q,B,s,Q,S,by rw [aax]⟩
    .cases c
   .rename_i m e' z' cs;split at c
    .rename_i a;simp only [aak] at a;have hm:=aap a.1;have f:=aap a.2;subst hm f;cases c;refine bh.of h (x:= .pointer (some ⟨b,0+D * z',none⟩)) ?_ ?_
     .simp [Instr.indexAt,asIntOf,k1,d.dw,Addr.fL,o];intro W;omega
     .simp only [R];exact ⟨loc,b,cap,hE,hl,by rw [aax]⟩
    .cases c
   .cases c
  .cases G
 .cases v
theorem Ck {C:dt} {t:Td} {i:TI} (hi:kP P t i) {k m off:Nat} {v r:AV} {x y:Value} {p:dY} {fx:Fx} (hp:kY i k m off v= .ok p) (hrun:aE C st p= .ok (r,fx))
  (hx:R g (.gp k m off) x) (hy:R g v y) (h:Inv T A g st w):r=undef/\Fq P T A g w (fx.did.app st) (Instr.storeAt t x y):=by
 unfold kY at hp;split at hp
 .rename_i hc;simp only [aak] at hc;have hlen:=aap hc.1;simp only [ag,aj] at hp;obtain ⟨v',hf,rfl⟩:=hp;simp only [aE,ag,aj] at hrun;obtain ⟨ob,h1,⟨u,o'⟩,h2,dd,h5,h6⟩:=hrun;split at h2
  .rename_i n e z es;split at h2
   .rename_i a;simp only [aak] at a;have c1:=aap a.1.1;have c2:=aap a.1.2;have c3:=aap a.2.1;have c4:=aap a.2.2;subst c1 c3;cases h2;simp only [fh] at h5;split at h5
    .cases h5
    .rename_i aw;cases h5;cases h6;rw [da] at aw;refine ⟨rfl, ?_⟩;simp only [R] at hx;obtain ⟨loc,b,cap,hE,hl,rfl⟩:=hx;obtain ⟨s,d,B,f,vs,fz,S,U,q3,q4,q5,q6,q7,q8,q9,L,V,av,a1,a8⟩:=h.H k _ h1;have e1:=S.symm.trans hE;simp only [aas,pq.tok.injEq] at e1;subst e1;have e2:=U.symm.trans hl;simp only [aas,aaj] at e2;obtain ⟨rfl,rfl⟩:=e2;subst V;have J:=zA hy hc.2;obtain ⟨ys,N⟩: ∃ys,y.cells.toList=ys:=⟨_,rfl⟩;rw [N] at J;have W:=dQ J;have X:=th hc.2 J;obtain ⟨cg,cl,cn⟩:=CD hf J;have Y:es.length * f.size+ys.length<=vs.size:=by
      rw [q8,W,hlen, <- c4];have:=Nat.mul_le_mul_right f.size (show es.length+1<=B by omega);rw [Nat.add_mul,Nat.one_mul] at this;exact this
     have G:At g k (.grow n e f.size es) d:=⟨s,B,S,U⟩;have O:=gr (P:=P) d (es.length * f.size) e fz ys 0 vs w q7 (by simpa using Y) (by simpa using q9) X;simp only [abf] at O;generalize K:vs.toList.take (es.length * f.size)++ys++vs.toList.drop (es.length * f.size+ys.length)=row at O;have Z:row.length=vs.size:=by
      rw [<- K];simp;omega
     have bb: ∀j,j < es.length * f.size->row[j]? =vs[j]? :=fun j hj=>by
      rw [<- K,aar,aaP (by simp;omega),List.getElem?_take,if_pos hj];simp
     have bt: ∀j v,ys[j]? =some v->row[es.length * f.size+j]? =some v:=fun j v hv=>by
      have hj:j < ys.length:=by
       rcases Nat.lt_or_ge j ys.length with q | q
       .exact q
       .simp [aaS q] at hv
      have b4:(vs.toList.take (es.length * f.size)).length=es.length * f.size:=by
       have cp:vs.toList.length=vs.size:=rfl;rw [aau,cp];omega
      rw [<- K,aar,aaM (by rw [b4];omega),b4,aaP (by omega)];rw [show es.length * f.size+j - es.length * f.size=j by omega];exact hv
     have o:(w.setRow d row.toArray).heap[d]? =some (.cells row.toArray e fz):=setRow_heap _ _ _ _ _ _ q7;have a6:g.M d=none:=by
      cases hm:g.M d with
      | none=>rfl
      | some ee=>
       have:=h.M d ee.1 ee.2 hm;rw [q7] at this;cases this
     have i1:Inv T A g (st.put k (.grow n e f.size es)) (w.setRow d row.toArray):=h.write h1 G (.grow n e f.size es) (setRow_size _ _ _) (fun _ hb=>iN _ _ _ hb)
      (fun j v hv=>by
       have hj:j < es.length * f.size:=by
        rcases Nat.lt_or_ge j (es.length * f.size) with q | q
        .exact q
        .rw [L j q] at hv;cases hv
       have:=h.F d j v hv;rw [cell_of q7] at this;rw [cell_of o,abc,bb j hj];exact this) a6 (fun b' ar=>tq S U ar)
      ⟨s,d,B,f,row.toArray,fz,S,U,q3,q4,q5,q6,o,by simpa [Z] using q8,q9,L,rfl,av,a1,a8⟩
     have a7:Kp A g w g (w.setRow d row.toArray):=Kp.write (h.own k _ d h1 G (by omega)) (setRow_size _ _ _) (fun _ hb=>iN _ _ _ hb);have cv:(st.put k (.grow n e f.size es)).get k= .ok (.grow n e f.size es):=St.aN (St.ca.1 h1).1;have b5:Le g ((g.cU d (es.length * f.size) ys).dB k (.tok s)):=by
      refine (Le.cU fun o' Q _=>L o' Q).trans ⟨fun _ _ _ x=>x,fun _ _ x=>x,fun j b x=> ?_,fun j l x=> ?_⟩
      .have:j≠k:=fun e=>by subst e;have:=S.symm.trans x;cases this
       rw [Gh.cj _ _ this];exact x
      .by_cases hj:j=k
       .subst hj;have x':g.E j=some (.tok l):=x;have:=S.symm.trans x';simp only [aas,pq.tok.injEq] at this;subst this;exact ⟨_,Gh.aX _ _ _,fun _ _ hy=>hy⟩
       .exact ⟨l,by rw [Gh.cj _ _ hj];exact x,fun _ _ y=>y⟩
     have cy:v'.cells.length=f.size:=by rw [cn,hlen,c4]
     obtain ⟨b6,cz⟩:=i1.IJ (o1:= .grow n e f.size (es++[v'])) (loc':=s) d (es.length * f.size) ys cv S (fun _ _ hy=>hy) (fun o' Q _=>L o' Q)
      (fun j u I=>by
       rw [cell_of o,abc];exact bt j u I)
      (fun id o' b7 b8 ha=>by
       rw [St.aT (fun e=>b8 e.symm)] at b7;exact b8 (h.D id k o' _ d b7 h1 ha G)) (h.own k _ d h1 G (by omega))
      (fun b' ar=>tq (Gh.aX _ _ _) U ar)
      ⟨s,d,B,f,row.toArray,fz,Gh.aX _ _ _,U,q3,q4,q5,q6,o,by simpa [Z] using q8,
       aaR q9 (Nat.mul_le_mul_right _ (by simp)),fun o' Q=>by
        show (g.cU d (es.length * f.size) ys).F d o'=none;simp only [aad,aae,aai,aax] at Q;rw [Nat.add_mul,Nat.one_mul] at Q;rw [Gh.dh _ _ _ _ (by rw [W,hlen, <- c4];omega)];exact L o' (by omega),rfl,by simp;omega,by rw [gw,a1];show (VM.bare v'&&true)=true;rw [cl];rfl,by
        rw [oE];refine ⟨gV b5 _ _ _ _ a8, ?_⟩;rw [en];refine ⟨fun u I=>by simp only [aaQ] at I;subst I;exact cy, ?_⟩;rw [show flat [v']=v'.cells by simp [flat]];exact dN (eZ b5 _ _ cg) fun j u I=>⟨by rw [aax];exact Gh.l3 g d (es.length * f.size) ys j u I,X u (aaK I)⟩⟩
     have b9:(st.put k (.grow n e f.size es)).put k (.grow n e f.size (es++[v']))=st.put k (.grow n e f.size (es++[v'])):=by
      simp only [St.put,Tr.put,Tr.set_set]
     rw [b9] at b6;refine ⟨_,_, ?_,b6,a7.trans cz⟩;simp only [Instr.storeAt,Instr.sureAddr,Sem.run_bind,Sem.run_pure,Result.andThen_ok,storeVar,hi.dw,Sem.run_ite];have cc:y.cells.size=ys.length:=by rw [<- N];exact (abj).symm
     rw [if_neg (by omega)];show (storeCells _ y.cells.toList).run P w= _;rw [N];exact O
   .cases h2
  .rename_i c7;unfold tB at h2;split at h2
   .rename_i n e z old;split at h2
    .rename_i a;simp only [aak] at a;have c1:=aap a.1;have c2:=aah a.2;subst c1;cases h2;simp only [fh] at h5;split at h5
     .cases h5
     .rename_i aw;cases h5;cases h6;rw [da] at aw;refine ⟨rfl, ?_⟩;simp only [R] at hx;obtain ⟨loc,b,cap,hE,hl,rfl⟩:=hx;obtain ⟨s,d,B,f,pre,rest,S,U,q3,q4,q5,q6,q7,q8,q9,L,V,av,a1⟩:=h.H k _ h1;have e1:=S.symm.trans hE;simp only [aas,pq.tok.injEq] at e1;subst e1;have e2:=U.symm.trans hl;simp only [aas,aaj] at e2;obtain ⟨rfl,rfl⟩:=e2;have J:=zA hy hc.2;obtain ⟨ys,N⟩: ∃ys,y.cells.toList=ys:=⟨_,rfl⟩;rw [N] at J;have W:=dQ J;have X:=th hc.2 J;have c8:=dQ V;have c6:pre.toList.length=pre.size:=rfl;have Y:off+ys.length<=(pre++rest).size:=by
       rw [Array.size_append,W];omega
      have G:At g k (.row n e z old) d:=⟨s,B,S,U⟩;have O:=gr (P:=P) d off e (0,0) ys 0 (pre++rest) w q7 (by simpa using Y) (by simp) X;simp only [abf] at O;have K:(pre++rest).toList.take off++ys++(pre++rest).toList.drop (off+ys.length)=((pre.toList.take off++ys++pre.toList.drop (off+ys.length)).toArray++rest).toList:=by
       rw [Array.toList_append,Array.toList_append,List.take_append_of_le_length (by omega),List.drop_append_of_le_length (by omega)];simp [aar]
      rw [K] at O;have o:(w.setRow d ((pre.toList.take off++ys++pre.toList.drop (off+ys.length)).toArray++rest).toList.toArray).heap[d]? =some (.cells ((pre.toList.take off++ys++pre.toList.drop (off+ys.length)).toArray++rest) e (0,0)):=by
       rw [setRow_heap _ _ _ _ _ _ q7]
      have a6:g.M d=none:=by
       cases hm:g.M d with
       | none=>rfl
       | some ee=>
        have:=h.M d ee.1 ee.2 hm;rw [q7] at this;cases this
      have cF:(pre.toList.take off++ys++pre.toList.drop (off+ys.length)).length=pre.size:=by
       simp only [aad,aau,aaz];omega
      have i1:Inv T A g (st.put k (.row n e z (cO old off v.cells))) (w.setRow d ((pre.toList.take off++ys++pre.toList.drop (off+ys.length)).toArray++rest).toList.toArray):=h.write h1 G _ (setRow_size _ _ _) (fun _ hb=>iN _ _ _ hb)
       (fun j u I=>by rw [q9 j] at I;cases I) a6 (fun b' ar=>by
        obtain ⟨l,c,p1,p2⟩:=ar;have e1:=p1.symm.trans S;simp only [aas,pq.tok.injEq] at e1;subst e1;have e2:=p2.symm.trans U;simp only [aas,aaj] at e2;exact e2.1)
       ⟨s,d,B,f,_,rest,S,U,q3,q4,q5,q6,o,by rw [Array.size_append,ab1,cF, <- Array.size_append];exact q8,q9,L,by
        rw [List.toList_toArray];unfold cO;have cd:v.cells.length=ys.length:=W.symm;rw [cd];exact fk (fk (oM off V) J) (jM _ V),by
        intro u I;rw [List.toList_toArray] at I;simp only [aaC] at I;rcases I with (I | I) | I
        .exact av u (List.mem_of_mem_take I)
        .exact X u I
        .exact av u (List.mem_of_mem_drop I),by
        unfold cO;simp only [aad,aau,aaz];omega⟩
      have a7:Kp A g w g (w.setRow d ((pre.toList.take off++ys++pre.toList.drop (off+ys.length)).toArray++rest).toList.toArray):=Kp.write (h.own k _ d h1 G (by omega)) (setRow_size _ _ _) (fun _ hb=>iN _ _ _ hb);refine ⟨_,_, ?_,i1,a7⟩;simp only [Instr.storeAt,Instr.sureAddr,Sem.run_bind,Sem.run_pure,Result.andThen_ok,storeVar,hi.dw,Sem.run_ite];have cc:y.cells.size=ys.length:=by rw [<- N];exact (abj).symm
      rw [if_neg (by omega)];show (storeCells _ y.cells.toList).run P w= _;rw [N];exact O
    .cases h2
   .cases h2
 .cases hp
end
section
variable {P:Program} {T:TT} {A:Nat->Prop} {g:Gh} {st:St} {w:World}
theorem za {C:dt} {t xt ty e:Td} {i:TI} (_he:y8 P T t xt e i) {s x r:AV} {a xv:Value} {new:LA} {p:dY} {b:Fx} (_hev:qT x=some new)
 (hp:u5 i e s new= .ok p) (_hrun:aE C st p= .ok (r,b)) (_hs:R g s a) (_hx:R g x xv) (_h:Inv T A g st w):
 bh P T A g w r (b.did.app st) (Builtin.append_ #[t,xt] ty #[a,xv]):=by cases hp
end
end Go.VM
