/-
  A part of the proof.
-/
import Derived.Test.YtpinfliihpdjcaaGreatDoorVmAH
import Derived.Laws.Build
set_option linter.all false
namespace Go.VM
section
variable {P:Program} {T:TT} {A:Nat->Prop} {g:Gh} {st:St} {w:World}
theorem uO (off:Nat): ∀(new:List Value) (k:Nat) (cells:Array Value),off+k+new.length<=cells.size->
  ((new.zipIdx k).foldl (fun cs (x:Value×Nat)=>cs.setIfInBounds (off+x.2) x.1) cells).toList=cells.toList.take (off+k)++new++cells.toList.drop (off+k+new.length)
 | [],k,cells,_=>by simp
 | v::new,k,cells,h=>by
  simp only [Om] at h;rw [List.zipIdx_cons,PL,uO off new (k+1) _ (by simp;omega)];have e:=list_seg_step cells.toList (off+k) v new (by simp;omega);simpa [Array.toList_setIfInBounds,PO,Pb 1] using e
theorem CS {v:Value} {off:Nat} {cells:Array Value} (h:off+v.cells.size<=cells.size):
  (v.cells.zipIdx.foldl (fun cs (x:Value×Nat)=>cs.setIfInBounds (off+x.2) x.1) cells).toList=cells.toList.take off++v.cells.toList++cells.toList.drop (off+v.cells.size):=by
 rw [<- Array.foldl_toList];have:=uO off v.cells.toList 0 cells (by simpa using h);simpa [Array.toList_zipIdx] using this
inductive nL (g:Gh):List (Nat×AV)->List (Nat×Value)->Prop
 | nil:nL g [] []
 | cons {i:Nat} {v:AV} {x:Value} {l:List (Nat×AV)} {m:List (Nat×Value)} (h:R g v x) (t:nL g l m):nL g ((i,v)::l) ((i,x)::m)
theorem C4 {v:AV} {x:Value} (h:R g v x):x.cells.size=v.cells.length/\(RL g v.cells x.cells.toList):=by
 cases v with
 | agg cs=>
  simp only [R] at h;obtain ⟨ys,rfl,b⟩:=h;exact ⟨by simpa [AV.cells,Value.cells] using cD b,b⟩
 | opq i=>
  have a:x.cells= #[x]:=by
   simp only [R] at h;rcases h with ⟨_,rfl | ⟨_,_,rfl⟩⟩ | ⟨_,_,rfl⟩ <;> rfl
  rw [a];exact ⟨rfl,bJ h dF⟩
 | _=>
  have a:x.cells= #[x]:=by
   simp only [R] at h
   first
    | (obtain ⟨_,_,_,_,_,rfl,_⟩:=h;rfl)
    | (obtain ⟨_,_,_,_,_,rfl⟩:=h;rfl)
    | (subst h;rfl)
    | (obtain ⟨_,_,_,rfl,_⟩:=h;rfl)
    | (obtain ⟨_,_,rfl⟩:=h;rfl)
    | (obtain ⟨_,_,_,_,rfl,_⟩:=h;rfl)
    | (obtain ⟨_,_,rfl,_⟩:=h;rfl)
    | (obtain ⟨_,rfl,_⟩:=h;rfl)
    | (obtain ⟨_,_,_,rfl,_⟩:=h;rfl)
  rw [a];exact ⟨rfl,bJ h dF⟩
theorem iq {place place':Nat->Option (Nat×Nat)} (a: ∀k p,place k=some p->place' k=some p): ∀{parts:List (Nat×AV)} {parts':List (Nat×Value)} {cells cs:List AV} {xs:Array Value},
  nL g parts parts'->RL g cells xs.toList->gY place cells parts= .ok cs-> ∃ys,Instr.fill place' xs parts'=some ys/\RL g cs ys.toList
 | _,_,_,_,_,.nil,b,h=>by
  simp only [gY,NT] at h;subst h;exact ⟨_,rfl,b⟩
 | _,_,cells,cs,xs,.cons (i:=i) (v:=v) (x:=x) j l,b,h=>by
  simp only [gY] at h;split at h
  .cases h
  .rename_i off size m;split at h
   .rename_i c;simp only [N0] at c;have h1:=NZ c.1;have q:=N4 c.2;obtain ⟨c1,c2⟩:=C4 j;have d:=cD b;simp only [OK] at d;have e:(x.cells.zipIdx.foldl (fun cs (y:Value×Nat)=>cs.setIfInBounds (off+y.2) y.1) xs).toList=xs.toList.take off++x.cells.toList++xs.toList.drop (off+x.cells.size):=CS (by omega);have f:RL g (cJ cells off v.cells) (x.cells.zipIdx.foldl (fun cs (y:Value×Nat)=>cs.setIfInBounds (off+y.2) y.1) xs).toList:=by
     rw [e];have:=uq off b c2;simpa using this
    obtain ⟨ys,n,o⟩:=iq a l f h;refine ⟨ys, ?_,o⟩;simp only [Instr.fill,a _ _ m];rw [if_neg (by simp;omega)];exact n
   .cases h
theorem mV (hT:qW P T) {w:World}: ∀{fields:List Field} {ps:List (Nat×Nat)},kC T (fields.map fun f=>(f.offset,f.type))= .ok ps->
  (fields.mapM fun f=>do pure (f.offset, <- sizeOf f.type):Sem (List (Nat×Nat))).run P w= .ok ps w
 | [],_,h=>by
  simp only [O5,kC,NT] at h;subst h;rfl
 | f::l,_,h=>by
  simp only [Od,kC,ad,aj] at h;obtain ⟨i,h1,ps,a,rfl⟩:=h;have hi:=hT _ i (bO.1 h1);have ih:=mV hT (w:=w) a;rw [List.mapM_cons];simp only [Sem.run_bind,hi.cr,Result.andThen_ok,Sem.run_pure,ih]
theorem yx (hT:qW P T) {t:TypeId} {parts:List (Nat×AV)} {parts':Array (Nat×Value)} {v:AV} (r:build T t parts= .ok v) (s:nL g parts parts'.toList) (h:Inv T A g st w):
  aS P T A g w v st (Instr.build t parts'):=by
 simp only [build,ad] at r;obtain ⟨i,h1,a⟩:=r;have hi:=hT t i (bO.1 h1);obtain ⟨z,u,z2,E,z4,F,y⟩:=hi.lR;split at a
 .rename_i fs c;obtain ⟨fields,d,B⟩:=nM hi c;simp only [ad,aj] at a;obtain ⟨ps,b,cs,h4,rfl⟩:=a;rw [<- B] at b;have C:=mV hT (w:=w) b;obtain ⟨ys,l,m⟩:=iq (place':=fun k=>ps.toArray[k]?) (fun k p o=>by simpa using o) s (y g) h4;refine aS.of h (x:= .agg ys) ?_ (by simp only [R];exact ⟨ys,rfl,m⟩);have q:(fields.mapM fun f=>do pure (f.offset, <- sizeOf f.type):Sem (Array (Nat×Nat))).run P w= .ok ps.toArray w:=by
   rw [Array.mapM_eq_mapM_toList];simp only [Sem.run_map,C,Result.andThen_ok]
  simp only [Instr.build,Sem.run_bind,u,Result.andThen_ok,d,q,l,Sem.run_pure]
 .rename_i n e c;have d:=mh hi c;simp only [ad,aj] at a;obtain ⟨j,b,cs,h4,rfl⟩:=a;have D:=hT _ j (bO.1 b);obtain ⟨ys,l,m⟩:=iq (place':=fun k=>some (k * j.size,j.size)) (fun k p o=>o) s (y g) h4;refine aS.of h (x:= .agg ys) ?_ (by simp only [R];exact ⟨ys,rfl,m⟩);simp only [Instr.build,Sem.run_bind,u,Result.andThen_ok,d,D.cr,l,Sem.run_pure]
 .cases a
theorem Cs {v:AV} (h:one v=true):v.cells=[v]:=by cases v <;> first | rfl | simp [one] at h
theorem CJ {l:List AV} (n:Nat) (h:eI l=true):eI (l.drop n)=true:=by
 induction n generalizing l with
 | zero=>exact h
 | succ n ih=>
  cases l with
  | nil=>rfl
  | cons v l=>
   simp only [eI,N0] at h;exact ih h.2
theorem nw {sz:Nat} {agg:Bool} (b:agg=false->sz=1): ∀{n:Nat} {cs els:List AV},eI cs=true->group sz agg n cs= .ok els->flat els=cs.take (n * sz)/\(∀e∈els,e.cells.length=sz)/\els.length=n
 | 0,cs,els,_,h=>by
  simp only [group,NT] at h;subst h;simp [flat]
 | n+1,cs,els,ho,h=>by
  simp only [group,ad,aj] at h;obtain ⟨v,h1,l,f,rfl⟩:=h;obtain ⟨g,i,j⟩:=nw b (CJ sz ho) f;have key:v.cells=cs.take sz/\v.cells.length=sz:=by
   cases agg with
   | true=>
    simp only [bX] at h1;split at h1
    .rename_i a;have a:=N4 a;simp only [NT] at h1;subst h1;exact ⟨rfl,by simp [AV.cells];omega⟩
    .cases h1
   | false=>
    have b:=b rfl;subst b;simp only [bX] at h1;cases cs with
    | nil=>cases h1
    | cons c cs=>
     simp only [NT] at h1;subst h1;simp only [eI,N0] at ho;rw [Cs ho.1];exact ⟨rfl,rfl⟩
  refine ⟨?_, ?_,by simp [j]⟩
  .rw [fk,g,key.1,Nat.add_mul,Nat.one_mul,Pb,List.take_add]
  .intro e d;rcases Oc.1 d with rfl | d
   .exact key.2
   .exact i e d
def gu (z:List Value):Nat->List Value
 | 0=>[]
 | n+1=>z++gu z n
theorem td {z:List AV} {zs:List Value} (h:RL g z zs): ∀n,RL g (zeros z n) (gu zs n)
 | 0=>dF
 | n+1=>df h (td h n)
theorem sc (z:List Value): ∀(n j:Nat),j < n * z.length->(gu z n)[j]? =z[j % z.length]?
 | 0,j,h=>by omega
 | n+1,j,h=>by
  simp only [gu];have a:0 < z.length:=by
   rcases Nat.eq_zero_or_pos z.length with q | q
   .rw [q] at h;omega
   .exact q
  rw [Nat.add_mul,Nat.one_mul] at h;rcases Nat.lt_or_ge j z.length with q | q
  .rw [Oh q,Nat.mod_eq_of_lt q]
  .rw [OV q,sc z n _ (by omega),Nat.mod_eq_sub_mod q]
theorem mS (z:List Value): ∀n,(gu z n).length=n * z.length
 | 0=>by simp [gu]
 | n+1=>by simp only [gu,N8,mS z n,Nat.add_mul];omega
theorem zp (z:Array Value) (n:Nat):((Array.range (n * z.size)).map fun i=>z[i % z.size]!).toList=gu z.toList n:=by
 apply List.ext_getElem?
 intro j;rcases Nat.lt_or_ge j (n * z.size) with q | q
 .rw [sc _ _ _ (by simpa using q)];have a:0 < z.size:=by
   rcases Nat.eq_zero_or_pos z.size with r | r
   .rw [r] at q;omega
   .exact r
  have b:j % z.size < z.size:=Nat.mod_lt _ a;simp [q,b]
 .rw [Og (by simpa using q),Og (by rw [mS];simpa using q)]
theorem GH {t:TypeId} {i:TI} (hi:gf P t i):i.agg=false->i.size=1:=by
 obtain ⟨f,h1,d,e,z,h4,a,b,_⟩:=hi.info;intro c;have:=b c;rw [<- a];cases z <;> first | rfl | simp [Value.oneCell'] at this
theorem ud {cs new:List AV} {off:Nat} (h:off+new.length<=cs.length):(cJ cs off new).length=cs.length:=by
 simp [cJ];omega
theorem tK {place:Nat->Option (Nat×Nat)}: ∀{parts:List (Nat×AV)} {cells cs:List AV},gY place cells parts= .ok cs->cs.length=cells.length
 | [],_,_,h=>by
  simp only [gY,NT] at h;rw [h]
 | (i,v)::l,cells,cs,h=>by
  simp only [gY] at h;split at h
  .cases h
  .split at h
   .rename_i a;simp only [N0] at a;have h1:=NZ a.1;have b:=N4 a.2;rw [tK h,ud (by omega)]
   .cases h
theorem oD (z:List AV): ∀n,(zeros z n).length=n * z.length
 | 0=>by simp [zeros]
 | n+1=>by simp only [zeros,N8,oD z n,Nat.add_mul];omega
theorem pf (hT:qW P T) {t:TypeId} {len:Nat} {parts:List (Nat×AV)} {parts':Array (Nat×Value)} {v:AV} (G:buildSlice T t len parts= .ok v) (L:nL g parts parts'.toList) (h:Inv T A g st w):
  aS P T A g w v st (Instr.buildSlice t len parts'):=by
 simp only [buildSlice,ad] at G;obtain ⟨i,h1,l⟩:=G;have hi:=hT t i (bO.1 h1);split at l
 .rename_i e s;have M:=dz hi s;simp only [ad] at l;obtain ⟨j,N,h4⟩:=l;have x:=hT _ j (bO.1 N);split at h4
  .rename_i y;simp only [N0] at y;have c1:=N4 y.1;have c2:=N4 y.2;simp only [ad] at h4;obtain ⟨cs,H,m⟩:=h4;split at m
   .rename_i a;simp only [ad,aj] at m;obtain ⟨els,O,b,Q,rfl⟩:=m;obtain ⟨z,S,z2,z3,z4,z5,I⟩:=x.lR;have B:RL g (zeros j.zero len) ((Array.range (len * z.cells.size)).map fun i=>z.cells[i % z.cells.size]!).toList:=by
     rw [zp];exact td (I g) len
    obtain ⟨ys,n,o⟩:=iq (place':=fun k=>some (k * j.size,j.size)) (fun k p U=>U) L B H;have C:ys.size=len * j.size:=by
     have q:=tK H;rw [oD] at q;have r:=cD (I g);have d:=cD o;simp only [OK] at r d;rw [d,q, <- r,z2]
    obtain ⟨J,V,D⟩:=nw (GH x) a O;have K:cs.length=len * j.size:=by rw [<- cD o];simpa using C
    rw [List.take_of_length_le (by omega)] at J;have E:RL g (flat els) ys.toList:=by rw [J];exact o
    obtain ⟨q,r,d,W⟩:=jU Q E;have f:=mw a o;obtain ⟨X,Y,Z⟩:=h.yZ e q f;refine ⟨.slice (some ⟨w.heap.size,0,none⟩) len len,_,_, ?_, ?_,X,Y⟩
    .simp only [Instr.buildSlice,Sem.run_bind,M,Result.andThen_ok,x.cr,Sem.run_ite];rw [if_neg (by omega)];by_cases c:len * j.size=0
     .rw [z2,c] at n;simp only [c,if_true,Sem.run_pure,Result.andThen_ok];have:(Array.range 0).map (fun i=>(#[]:Array Value)[i % (#[]:Array Value).size]!)=(Array.range 0).map fun i=>z.cells[i % j.size]! :=by simp
      rw [this,n];simp only [Sem.run_bind,gq,Result.andThen_ok,Sem.run_pure]
     .rw [z2] at n;simp only [c,if_false,Sem.run_bind,S,Result.andThen_ok,Sem.run_pure,z2,n,gq]
    .simp only [R];refine ⟨r,w.heap.size,0,len,by rw [d,D],by rw [d,D];omega,c2, ?_,by show len=b.length;rw [d,D]⟩;rw [da];refine ⟨?_,Z⟩;intro u s;have:u.cells.length∈b.map (·.cells.length):=OQ.2 ⟨u,s,rfl⟩;rw [W] at this;obtain ⟨u',F,e⟩:=OQ.1 this;rw [<- e];exact V u' F
   .cases m
  .cases h4
 .cases l
end
section
variable {P:Program} {T:TT} {A:Nat->Prop} {g:Gh} {st:St} {w:World}
mutual
theorem jy (g:Gh): ∀(x:Value) (v:AV),ofConst x= .ok v->R g v x
  | .bool _,v,h | .int _ _,v,h | .float _ _,v,h | .nilFunc,v,h | .nilIface,v,h=>by
    unfold ofConst at h;simp only [NT] at h;subst h;simp only [R]
  | .string s,v,h=>by
    unfold ofConst at h;simp only [NT] at h;subst h;simp only [R]
  | .pointer a,v,h=>by
    cases a with
    | none=>unfold ofConst at h;simp only [NT] at h;subst h;simp only [R]
    | some _=>unfold ofConst at h;cases h
  | .slice a l c,v,h=>by
    unfold ofConst at h;split at h <;> rename_i heq <;> (try (cases heq;done)) <;> (try (cases h;done))
    cases heq;simp only [NT] at h;subst h;simp only [R]
  | .map a,v,h=>by
    cases a with
    | none=>unfold ofConst at h;simp only [NT] at h;subst h;simp only [R]
    | some _=>unfold ofConst at h;cases h
  | .agg cs,v,h=>by
    unfold ofConst at h;simp only [ad,aj] at h;obtain ⟨vs,h1,rfl⟩:=h;simp only [R];exact ⟨cs,rfl,jg g cs.toList vs h1⟩
  | .tuple cs,v,h=>by
    unfold ofConst at h;simp only [ad,aj] at h;obtain ⟨vs,h1,rfl⟩:=h;simp only [R];exact ⟨cs,rfl,jg g cs.toList vs h1⟩
  | .complex _ _ _,v,h | .chan _,v,h | .func _ _ _,v,h | .iface _ _,v,h=>by
    unfold ofConst at h;cases h
theorem jg (g:Gh): ∀(xs:List Value) (vs:List AV),ofConst.ofAll xs= .ok vs->RL g vs xs
  | [],vs,h=>by
    unfold ofConst.ofAll at h;simp only [NT] at h;subst h;exact dF
  | x::xs,vs,h=>by
    unfold ofConst.ofAll at h;simp only [ad,aj] at h;obtain ⟨v,h1,l,h2,rfl⟩:=h;exact bJ (jy g x v h1) (jg g xs l h2)
end
theorem wi:R g undef Go.undef:=by
  simp only [undef,R];exact ⟨#[],rfl,by simp [RL]⟩
theorem ra.put {fr:Fr} {tmps:Array Value} (h:ra g fr tmps) {v:AV} {x:Value} (b:R g v x) (d:Option Tmp):
    ra g (fr.put d v) (match d with | some d=>tmps.setIfInBounds d x | none=>tmps):=by
  cases d with
  | none=>exact h
  | some d=>
    simp only [Fr.put];split
    · rename_i hd
      rw [dM, <- h.size] at hd;refine ⟨by simp [h.size],fun t=> ?_⟩;simp only [Fr.get,Tr.gI];by_cases a:d=t
      · subst a
        right;simpa [hd] using b
      · have:=h.at' t
        simp only [Fr.get] at this;simpa [a,Array.getElem?_setIfInBounds_ne a] using this
    · rename_i hd
      rw [cB, <- h.size] at hd;rw [Array.setIfInBounds_eq_of_size_le (by simpa using hd)];exact h
abbrev Ea:Nat:=1000003
def GR (g:Gh) (G:Nat->Option (List AV)):Prop:= ∀k cs,G k=some cs->bx cs=true/\ig g cs k 0/\(k=Ea->¬ g.C)
theorem GR.mono {g g':Gh} {G:Nat->Option (List AV)} (h:GR g G) (le:Le g g'):GR g' G:=fun k cs a=>⟨(h k cs a).1,nY le _ _ _ (h k cs a).2.1,fun e c=>(h k cs a).2.2 e (le.C.1 c)⟩
theorem aH {G:Nat->Option (List AV)} {fr:Fr} {a:Act} {x:Operand} {v:AV} (hG:GR g G) (hf:ra g fr a.tmps) (h:bD G fr x= .ok v):R g v (a.eval x):=by
  cases x with
  | tmp t=>
    simp only [bD] at h;split at h
    · rename_i hs
      simp only [NT] at h;subst h;exact hf.at hs t
    · split at h
      · rename_i u d
        simp only [NT] at h;subst h;rcases hf.at' t with ⟨_,b⟩ | b
        · rw [d] at b;cases b
        · rw [Fr.get,d] at b;exact b
      · cases h
  | const c=>exact jy g c v h
  | global k=>
    simp only [bD] at h;split at h
    · rename_i cs e
      simp only [NT] at h;subst h;obtain ⟨h1,b,_⟩:=hG k cs e;simp only [R,Act.eval];exact ⟨h1,k,0,rfl,b⟩
    · cases h
  | func f=>
    simp only [bD,NT] at h;subst h;simp only [R,Act.eval];exact ⟨#[], #[],rfl,by simp [RL],by simp [RL]⟩
theorem ji {G:Nat->Option (List AV)} {fr:Fr} {a:Act} (hG:GR g G) (hf:ra g fr a.tmps): ∀{xs:List Operand} {vs:List AV},jt G fr xs= .ok vs->RL g vs (xs.map a.eval)
  | [],_,h=>by simp only [jt,NT] at h;subst h;exact dF
  | x::xs,_,h=>by
    simp only [jt,ad,aj] at h;obtain ⟨v,h1,l,b,rfl⟩:=h;exact bJ (aH hG hf h1) (ji hG hf b)
theorem jI {G:Nat->Option (List AV)} {fr:Fr} {a:Act} (hG:GR g G) (hf:ra g fr a.tmps) {x:Option Operand} {v:Option AV} (h:dj G fr x= .ok v):Ev g v (x.map a.eval):=by
  cases x with
  | none=>simp only [dj,NT] at h;subst h;trivial
  | some x=>
    simp only [dj,ad,aj] at h;obtain ⟨u,h1,rfl⟩:=h;exact aH hG hf h1
theorem gZ {G:Nat->Option (List AV)} {fr:Fr} {a:Act} (hG:GR g G) (hf:ra g fr a.tmps): ∀{xs:List (Nat×Operand)} {vs:List (Nat×AV)},eD G fr xs= .ok vs->nL g vs (xs.map fun (i,x)=>(i,a.eval x))
  | [],_,h=>by simp only [eD,NT] at h;subst h;exact .nil
  | (i,x)::xs,_,h=>by
    simp only [eD,ad,aj] at h;obtain ⟨v,h1,l,b,rfl⟩:=h;exact .cons (aH hG hf h1) (gZ hG hf b)
theorem qn {d:TypeDesc} {u:U} {a b:AV} {r:Bool} {x y:Value} (c:rZ d u) (f:lj u a=true) (h:nf a b= .ok r) (e:R g a x) (hy:R g b y):Instr.sameNow d x y=some r:=by
  unfold nf at h;split at h
  · simp only [NT] at h
    subst h;simp only [R] at e hy;subst e hy;cases u <;> simp [lj] at f
    simp only [rZ] at c;subst c;rfl
  · rename_i j a k b
    split at h
    · rename_i i
      subst i;simp only [NT] at h;subst h;simp only [R] at e hy;subst e hy;cases u <;> simp [lj] at f
      simp only [rZ] at c;subst c;simp [Instr.sameNow]
    · cases h
  · simp only [NT] at h
    subst h;simp only [R] at e hy;subst e hy;cases u <;> simp [lj] at f
    simp only [rZ] at c;subst c;simp [Instr.sameNow,zP]
  · cases h
theorem lr {d:TypeDesc} {u:U} {k:AV} {f:Value} (n:rZ d u) (o:lj u k=true) (p:R g k f): ∀{es:List (AV×AV)} {ents:List MapEntry} {r:Option AV} (i:Nat),fp k es= .ok r->mi g es ents->
    match r with
    | none=>Instr.findNow d f ents i=some none
    | some v=> ∃j y,Instr.findNow d f ents i=some (some (j,y))/\R g v y
  | [],_,_,i,h,c=>by
    simp only [fp,NT] at h;subst h;simp only [mi] at c;subst c;rfl
  | (a,v)::es,_,r,i,h,c=>by
    simp only [mi] at c;obtain ⟨e,l,rfl,q,s,t⟩:=c;simp only [fp,ad] at h;obtain ⟨b,h1,m⟩:=h;have hs:=qn n o h1 p q;cases b with
    | true=>
      simp only [aj] at m;subst m;exact ⟨i,e.val,by simp [Instr.findNow,hs],s⟩
    | false=>
      have ih:=lr n o p (i+1) m t;cases r with
      | none=>simp only [Instr.findNow,hs];exact ih
      | some v'=>
        obtain ⟨j,y,w,h4⟩:=ih;exact ⟨j,y,by simp only [Instr.findNow,hs];exact w,h4⟩
theorem run_checkKey {a:TypeId} {d:TypeDesc} {u:U} {k:AV} {c:Value} (hd:P.underlying a=some d) (e:rZ d u) (h:lj u k=true) (f:R g k c) (b:Bool) (n:Nat):
    (Instr.checkKey b (n+1) a c).run P w= .ok () w:=by
  cases u <;> cases k <;> simp [lj] at h <;> simp only [rZ] at e <;> simp only [R] at f <;> subst e f <;> simp [Instr.checkKey,eC hd]
theorem run_findKey {a:TypeId} {d:TypeDesc} {b:Value} {ents:List MapEntry} {r:Option (Nat×Value)} (hd:P.underlying a=some d) (h:Instr.findNow d b ents 0=some r):
    (Instr.findKey a b ents).run P w= .ok r w:=by
  simp [Instr.findKey,eC hd,h]
theorem yU {t:TypeId} {i:TI} (hi:gf P t i): ∃z,(∀w,(zeroValue t).run P w= .ok z w)/\R g (zeroV i) z:=by
  obtain ⟨z,h,z2,j,z4,k,c⟩:=hi.lR;refine ⟨z,h, ?_⟩;cases b:i.agg with
  | true=>
    obtain ⟨cs,rfl⟩:=k b;simp only [zeroV,b,R];exact ⟨cs,rfl,c g⟩
  | false=>
    have h1:=j b;have m:z.cells= #[z]:=by cases z <;> first | rfl | simp [Value.oneCell'] at h1
    have a:=c g;rw [m] at a;cases hl:i.zero with
    | nil=>rw [hl] at a;simp only [RL] at a;cases a
    | cons v l=>
      rw [hl] at a;simp only [RL] at a;obtain ⟨x,xs,d,n,f⟩:=a;simp only [OT] at d;obtain ⟨rfl,rfl⟩:=d;cases l with
      | nil=>simp only [zeroV,b,hl];exact n
      | cons u l=>simp only [RL] at f;obtain ⟨_,_,e,_⟩:=f;cases e
theorem l9 {h c:TypeId} {i:TI} {d:TypeDesc} {u:U} {ok:Bool} {k v:AV} {e:Value} {es:List (AV×AV)} {ents:Array MapEntry} (hi:gf P h i) (hd:P.underlying c=some d) (l:rZ d u) (m:lj u k=true) (n:R g k e)
    (hf:found i ok k es= .ok v) (o:mi g es ents.toList):(Instr.checkKey ents.isEmpty 10000 c e).run P w= .ok () w/\
      ((∃j y,(Instr.findKey c e ents.toList).run P w= .ok (some (j,y)) w/\R g v (if ok then Value.tuple #[y,.bool true] else y))\/
       ((Instr.findKey c e ents.toList).run P w= .ok none w/\ ∃z,(zeroValue h).run P w= .ok z w/\R g v (if ok then Value.tuple #[z,.bool false] else z))):=by
  simp only [found,ad] at hf;obtain ⟨fr,p,h4⟩:=hf;have a:=lr l m n 0 p o;obtain ⟨z,q,z2⟩:=yU (g:=g) hi;have fin: ∀(b:Bool) (v':AV) (y:Value),R g v' y->R g (okV ok b v') (if ok then Value.tuple #[y,.bool b] else y):=fun b v' y hy=>by
    cases ok with
    | true=>simp only [okV,if_true,R];exact ⟨_,rfl,bJ hy (bJ (by simp only [R]) dF)⟩
    | false=>simpa [okV] using hy
  have f:=run_checkKey (w:=w) hd l m n ents.isEmpty 9999;refine ⟨f, ?_⟩;cases fr with
  | none=>
    simp only [aj] at h4;subst h4;exact .inr ⟨run_findKey hd a,z,q w,fin false _ z z2⟩
  | some t=>
    simp only [aj] at h4;subst h4;obtain ⟨j,y,r,s⟩:=a;exact .inl ⟨j,y,run_findKey hd r,fin true _ y s⟩
theorem vM (hT:qW P T) {C:cp} {t:TypeId} {x k v:AV} {xv O:Value} {ok:Bool} {p:cV} {Q:Fx} (S:jk T t x k ok= .ok p) (a:az C st p= .ok (v,Q)) (B:R g x xv) (G:R g k O) (h:Inv T A g st w):
    aS P T A g w v (Q.did.app st) (Instr.lookup t xv O ok):=by
  simp only [jk,ad] at S;obtain ⟨i,h1,F⟩:=S;have hi:=hT t i (bO.1 h1);split at F
  · rename_i kt et U
    have D:=oA hi U;simp only [ad] at F;obtain ⟨V,W,X,h4,n⟩:=F;have q:=hT _ V (bO.1 W);have I:=hT _ X (bO.1 h4);obtain ⟨d,J,K,_⟩:=I.und;split at n
    · cases n
    · rename_i r
      split at n
      · simp only [ad,aj] at n
        obtain ⟨u,L,rfl⟩:=n;simp only [az,NT,NU] at a;obtain ⟨rfl,rfl⟩:=a;simp only [R] at B;subst B;obtain ⟨c,⟨j,y,e,f⟩ | ⟨e,z,f,E⟩⟩:=l9 (P:=P) (w:=w) (ents:= #[]) q J K r G L (by simp [mi])
        · simp only [List.isEmpty_toArray,List.isEmpty_nil] at c
          exact aS.of h (by simp [Instr.lookup,D,c,e]) f
        · simp only [List.isEmpty_toArray,List.isEmpty_nil] at c
          exact aS.of h (by simp [Instr.lookup,D,c,e,f]) E
      · rename_i es
        simp only [ad,aj] at n;obtain ⟨u,L,rfl⟩:=n;simp only [az,NT,NU] at a;obtain ⟨rfl,rfl⟩:=a;simp only [R] at B;obtain ⟨b,ents,clk,Y,rfl,Z⟩:=B;have s:=h.M b ents clk Y;have l:(getObj b).run P w= .ok (.map ents.toArray clk) w:=by simp [getObj,Sem.run,s]
        obtain ⟨c,⟨j,y,e,f⟩ | ⟨e,z,f,E⟩⟩:=l9 (P:=P) (w:=w) (ents:=ents.toArray) q J K r G L (by simpa using Z)
        · exact aS.of h (by simp only [Instr.lookup,Sem.run_bind,D,Result.andThen_ok,l,Sem.run_pure,c,e]) f
        · exact aS.of h (by simp only [Instr.lookup,Sem.run_bind,D,Result.andThen_ok,l,Sem.run_pure,c,e,f]) E
      · rename_i m
        simp only [aj] at n;subst n;simp only [fD,az,ad,aj] at a;obtain ⟨o,g1,⟨v',o'⟩,⟨av,N,g4⟩,dd,g5,g6⟩:=a;simp only [NU] at g4 g6;obtain ⟨rfl,rfl⟩:=g4;simp only [dv,NT] at g5;subst g5;obtain ⟨rfl,rfl⟩:=g6;split at N
        · rename_i es
          simp only [R] at B;obtain ⟨b,hE,rfl⟩:=B;obtain ⟨b',ents,clk,q1,q2,q3,q4⟩:=h.H m _ g1;have hb:b'=b:=by have:=q1.symm.trans hE;simpa using this
          subst hb;have l:(getObj b').run P w= .ok (.map ents clk) w:=by simp [getObj,Sem.run,q2]
          obtain ⟨c,⟨j,y,e,f⟩ | ⟨e,z,f,E⟩⟩:=l9 (P:=P) (w:=w) (ents:=ents) q J K r G N q3
          · exact aS.of h (by simp only [Instr.lookup,Sem.run_bind,D,Result.andThen_ok,l,Sem.run_pure,c,e]) f
          · exact aS.of h (by simp only [Instr.lookup,Sem.run_bind,D,Result.andThen_ok,l,Sem.run_pure,c,e,f]) E
        · cases N
      · cases n
  · cases F
end
section
variable {P:Program} {T:TT} {A:Nat->Prop} {g:Gh} {st:St} {w:World}
theorem Ey {a b:AV} (h:nf a b= .ok true):a=b:=by
 unfold nf at h;split at h
 .simp only [NT,OL] at h;subst h;rfl
 .split at h
  .rename_i c;subst c;simp only [NT,OL] at h;subst h;rfl
  .cases h
 .simp only [NT,OL] at h;subst h;rfl
 .cases h
theorem Aj {a b:AV} {x y:Value} (h:nf a b= .ok true) (c:R g a x) (hy:R g b y) (n:Nat):Instr.sameBits n y x=true:=by
 unfold nf at h;split at h
 .simp only [NT,OL] at h;subst h;simp only [R] at c hy;subst c hy;cases n <;> simp [Instr.sameBits]
 .split at h
  .rename_i d;subst d;simp only [NT,OL] at h;subst h;simp only [R] at c hy;subst c hy;cases n <;> simp [Instr.sameBits]
  .cases h
 .simp only [NT,OL] at h;subst h;simp only [R] at c hy;subst c hy;have:=fun s:List UInt8=>zP s s;cases n <;> simp [Instr.sameBits,this]
 .cases h
theorem mc {d:TypeDesc} {u:U} {k v:AV} {m s:Value} (z:rZ d u) (A:lj u k=true) (o:R g k m) (t:R g v s): ∀{es f:List (AV×AV)} {ents:List MapEntry} (i:Nat),lO k v es= .ok f->mi g es ents->
  (Instr.findNow d m ents i=some none/\ ∀n,mi g f (ents++[{key:=m,val:=s,born:=n}]))\/
  (∃j y e,Instr.findNow d m ents i=some (some (i+j,y))/\ents[j]? =some e/\Instr.sameBits 10000 e.key m=true/\mi g f (ents.modify j fun e=>{e with key:=m,val:=s}))
 | [],_,_,i,h,p=>by
  simp only [lO,NT] at h;subst h;simp only [mi] at p;subst p;exact .inl ⟨rfl,fun n=>by simp only [mi];exact ⟨_,_,rfl,o,t,rfl⟩⟩
 | (a,b)::es,_,_,i,h,p=>by
  simp only [mi] at p;obtain ⟨e,l,rfl,q,B,C⟩:=p;simp only [lO,ad] at h;obtain ⟨c,h1,r⟩:=h;have hs:=qn z A h1 o q;cases c with
  | true=>
   simp only [aj] at r;subst r;refine .inr ⟨0,e.val,e,by simp [Instr.findNow,hs],rfl,Aj h1 o q _, ?_⟩;simp only [List.modify_zero_cons,mi];have:=Ey h1;subst this;exact ⟨_,_,rfl,o,t,C⟩
  | false=>
   simp only [ad,aj] at r;obtain ⟨H,D,rfl⟩:=r;rcases mc z A o t (i+1) D C with ⟨w,x⟩ | ⟨j,y,E,w,x,F,G⟩
   .refine .inl ⟨by simp only [Instr.findNow,hs];exact w,fun n=> ?_⟩;simp only [Pu,mi];exact ⟨_,_,rfl,q,B,x n⟩
   .refine .inr ⟨j+1,y,E, ?_,by simpa using x,F, ?_⟩
    .simp only [Instr.findNow,hs];rw [show i+(j+1)=i+1+j by omega];exact w
    .simp only [List.modify_succ_cons,mi];exact ⟨_,_,rfl,q,B,G⟩
theorem oY {w:World} {b:Nat} {o o':Go.Obj} (h:w.heap[b]? =some o):({w with heap:=w.heap.setIfInBounds b o'}:World).heap[b]? =some o':=by
 have:=lt_of_heap h;simp [this]
theorem kz {w:World} {b b':Nat} {o':Go.Obj} (h:b'≠b):({w with heap:=w.heap.setIfInBounds b o'}:World).heap[b']? =w.heap[b']? :=by
 simp [Array.getElem?_setIfInBounds_ne (fun e=>h e.symm)]
theorem qv (h:Inv T A g st w) {b:Nat} {o:Go.Obj} (c:w.heap[b]? =some o) (d: ∀vs ty fz,o≠ .cells vs ty fz) (k:Nat):g.F b k=none:=by
 cases hf:g.F b k with
 | none=>rfl
 | some v=>
  obtain ⟨vs,ty,fz,a,_⟩:=cQ (h.F b k v hf);rw [c] at a;cases a;exact absurd rfl (d vs ty fz)
theorem lk (hT:qW P T) {C:cp} {t:TypeId} {m k v r:AV} {Z n I:Value} {p:cV} {fx:Fx} (hp:kK T t m k v= .ok p) (f:az C st p= .ok (r,fx)) (hm:R g m Z) (hk:R g k n) (hv:R g v I) (h:Inv T A g st w):
  r=undef/\vN P T A g w (fx.did.app st) (Instr.mapUpdate t Z n I):=by
 simp only [kK,ad] at hp;obtain ⟨i,h1,J⟩:=hp;have hi:=hT t i (bO.1 h1);split at J
 .rename_i kt et K;have k1:=oA hi K;simp only [ad] at J;obtain ⟨ki,h3,h4⟩:=J;have O:=hT _ ki (bO.1 h3);obtain ⟨d,Q,d2,_⟩:=O.und;split at h4
  .rename_i id q;simp only [aj] at h4;subst h4;simp only [az,ad,aj] at f;obtain ⟨o,S,⟨v',o'⟩,L,dd,g5,g6⟩:=f;split at L
   .rename_i es;simp only [ad,aj,NU] at L;obtain ⟨l,g3,rfl,rfl⟩:=L;simp only [dv] at g5;split at g5
    .cases g5
    .rename_i s;rw [cB] at s;simp only [NT] at g5;subst g5;simp only [NU] at g6;obtain ⟨rfl,rfl⟩:=g6;refine ⟨rfl, ?_⟩;simp only [R] at hm;obtain ⟨b,hE,rfl⟩:=hm;obtain ⟨b',ents,clk,x,M,q3,q4⟩:=h.H id _ S;have z:b'=b:=by have:=x.symm.trans hE;simpa using this
     subst z;have B:(getObj b').run P w= .ok (.map ents clk) w:=by simp [getObj,Sem.run,M]
     have D:=run_checkKey (w:=w) Q d2 q hk false 9999;have hF:=fun kk=>qv h M (by simp) kk;have fin: ∀a c,mi g l a.toList->(setObj b' (.map a c)).run P w= .ok () {w with heap:=w.heap.setIfInBounds b' (.map a c)}/\
       Inv T A g (st.put id (.map l)) {w with heap:=w.heap.setIfInBounds b' (.map a c)}/\Kp A g w g {w with heap:=w.heap.setIfInBounds b' (.map a c)}:=fun a c hr=>by
      refine ⟨by simp [setObj,Sem.run,M],h.write S (o:= .map es) (b:=b') x (.map l) (by simp) (fun _ z=>kz z) (fun kk u K=>by rw [hF kk] at K;cases K) q4 (fun U F=>by
       have:g.E id=some (.blk U):=F;have:=x.symm.trans this;simpa using this.symm) ⟨b',a,c,x,oY M,hr,q4⟩,Kp.write (h.own id _ b' S x s) (by simp) (fun _ z=>kz z)⟩
     rcases mc d2 q hk hv 0 g3 q3 with ⟨N,V⟩ | ⟨j,y,e,N,V,e3,e4⟩
     .obtain ⟨W,X,Y⟩:=fin (ents.push {key:=n,val:=I,born:=clk}) (clk+1) (by simpa using V clk);refine ⟨g,_, ?_,X,Y⟩;simp only [Instr.mapUpdate,Sem.run_bind,k1,Result.andThen_ok,B,D,run_findKey Q N,W]
     .rw [N5] at N;obtain ⟨W,X,Y⟩:=fin (ents.modify j fun e=>{e with key:=n,val:=I}) clk (by simpa [Array.toList_modify] using e4);refine ⟨g,_, ?_,X,Y⟩;have G:((ents[j]?).map (·.key)).getD n=e.key:=by
       have:ents[j]? =some e:=by simpa using V
       simp [this]
      simp only [Instr.mapUpdate,Sem.run_bind,k1,Result.andThen_ok,B,D,run_findKey Q N,G,Instr.keyThatStays,e3,if_true,Sem.run_pure,W]
   .cases L
  .cases h4
 .cases J
theorem tS (t:TypeId) (h:Inv T A g st w):aS P T A g w (.mm st.h) (st.new (.map [])).2 (Instr.makeMap t none):=by
 obtain ⟨b,c⟩:=h.newObj (.map []) (.map #[] 0) (fun b' a=>by
  have:(g.cg st.h (.blk w.heap.size)).E st.h=some (.blk b'):=a;rw [Gh.aF] at this;simpa using this.symm) ⟨w.heap.size, #[],0,Gh.aF _ _ _,World.heap_alloc_new,by simp [mi],h.Ky (NX _)⟩
 exact ⟨.map (some w.heap.size),_,_,by simp [Instr.makeMap],by simp only [R];exact ⟨_,Gh.aF _ _ _,rfl⟩,b,c⟩
theorem yT {t:TypeId} {i:TI} (hi:gf P t i) (b:i.und= .str) {s:List UInt8} (h:Inv T A g st w):aS P T A g w (.mp st.h 0) (st.new (.sit s 0)).2 (Instr.range t (.string ⟨s.toArray⟩)):=by
 obtain ⟨c,d⟩:=h.newObj (.sit s 0) (.stringIter ⟨s.toArray⟩ 0) (fun b' a=>by
  have:(g.cg st.h (.blk w.heap.size)).E st.h=some (.blk b'):=a;rw [Gh.aF] at this;simpa using this.symm) ⟨w.heap.size,Gh.aF _ _ _,World.heap_alloc_new⟩
 exact ⟨.pointer (some ⟨w.heap.size,0,none⟩),_,_,by simp [Instr.range,oB hi b],by simp only [R];exact ⟨_,Gh.aF _ _ _,rfl⟩,c,d⟩
theorem zQ {C:cp} {x v:AV} {xv:Value} {ty:TypeId} {p:cV} {t:Fx} (f:vy x= .ok p) (d:az C st p= .ok (v,t)) (y:R g x xv) (h:Inv T A g st w):
  aS P T A g w v (t.did.app st) (Instr.next xv true ty):=by
 unfold vy at f;split at f
 .rename_i id;simp only [NT] at f;subst f;simp only [az,ad,aj] at d;obtain ⟨o,q,⟨v',o'⟩,e,dd,g5,g6⟩:=d;split at e
  .rename_i s pos;simp only [R] at y;obtain ⟨b,D,rfl⟩:=y;obtain ⟨b',i,j⟩:=h.H id _ q;have k:b'=b:=by have:=i.symm.trans D;simpa using this
   subst k;have l:(getObj b').run P w= .ok (.stringIter ⟨s.toArray⟩ pos) w:=by simp [getObj,Sem.run,j]
   split at e
   .rename_i c;rw [dM] at c;simp only [NT,NU] at e;obtain ⟨rfl,rfl⟩:=e;simp only [dv] at g5;split at g5
    .cases g5
    .rename_i m;rw [cB] at m;simp only [NT] at g5;subst g5;simp only [NU] at g6;obtain ⟨rfl,rfl⟩:=g6;have F:=fun kk=>qv h j (by simp) kk;have G:g.M b'=none:=by
      cases I:g.M b' with
      | none=>rfl
      | some z=>have:=h.M b' z.1 z.2 I;rw [j] at this;cases this
     refine ⟨.tuple #[.bool true,goInt pos,.int .i32 (oq s pos).1],g,{w with heap:=w.heap.setIfInBounds b' (.stringIter ⟨s.toArray⟩ (pos+(oq s pos).2))}, ?_, ?_, ?_, ?_⟩
     .have a:pos < (⟨s.toArray⟩:ByteArray).size:=by rw [jS];exact c
      simp [Instr.next,l,a,setObj,Sem.run,j,oq]
     .simp only [R];exact ⟨_,rfl,bJ (by simp only [R]) (bJ (by simp only [R];rfl) (bJ (by simp only [R]) dF))⟩
     .exact h.write q (o:= .sit s pos) (b:=b') i _ (by simp) (fun _ k=>kz k) (fun kk u B=>by rw [F kk] at B;cases B) G (fun r n=>by
       have:g.E id=some (.blk r):=n;have:=i.symm.trans this;simpa using this.symm) ⟨b',i,oY j⟩
     .exact Kp.write (h.own id _ b' q i m) (by simp) (fun _ k=>kz k)
   .rename_i c;rw [cB] at c;simp only [NT,NU] at e;obtain ⟨rfl,rfl⟩:=e;simp only [dv,NT] at g5;subst g5;simp only [NU] at g6;obtain ⟨rfl,rfl⟩:=g6;have a:¬ pos < (⟨s.toArray⟩:ByteArray).size:=by rw [jS];omega
    refine aS.of h (x:= .tuple #[.bool false]) (by simp [Instr.next,l,a]) ?_;simp only [R];exact ⟨_,rfl,bJ (by simp only [R]) dF⟩
  .cases e
 .cases f
end
section
variable {P:Program} {T:TT} {A:Nat->Prop} {g:Gh} {st:St} {w:World}
theorem Inv.rP (h:Inv T A g st w) {k:Nat} {Q o1:Obj} {loc loc':Nat->Option (Nat×Nat)} (b' lo:Nat) (vals:List Value)
  (R:st.get k= .ok Q) (P:g.E k=some (.tok loc)) (B: ∀m x,loc m=some x->loc' m=some x)
  (t: ∀o,lo<=o->o < lo+vals.length->g.F b' o=none) (u: ∀i v,vals[i]? =some v->w.cell? ⟨b',lo+i,none⟩=some v)
  (p: ∀id o,st.get id= .ok o->id≠k->¬ At g id o b') (hA:A b') (r: ∀b,At ((g.bN b' lo vals).cg k (.tok loc')) k o1 b->b=b')
  (ho:Holds T ((g.bN b' lo vals).cg k (.tok loc')) w k o1) (hU:g.C->mQ w b':=by exact fun _=>mQ.D8):
  Inv T A ((g.bN b' lo vals).cg k (.tok loc')) (st.put k o1) w/\Kp A g w ((g.bN b' lo vals).cg k (.tok loc')) w:=by
 have q:=(St.cA.1 R).1;have K:Le g (g.bN b' lo vals):=Le.bN t;have L:Le (g.bN b' lo vals) ((g.bN b' lo vals).cg k (.tok loc')):=by
  refine ⟨fun _ _ _ x=>x,fun _ _ x=>x,fun j b x=> ?_,fun j l x=> ?_,Iff.rfl⟩
  .have:j≠k:=fun e=>by subst e;have:=P.symm.trans x;cases this
   rw [Gh.bm _ _ this];exact x
  .by_cases z:j=k
   .subst z;have S:g.E j=some (.tok l):=x;have:=P.symm.trans S;simp only [N1,jo.tok.injEq] at this;subst this;exact ⟨loc',Gh.aF _ _ _,B⟩
   .exact ⟨l,by rw [Gh.bm _ _ z];exact x,fun _ _ y=>y⟩
 have le:=K.trans L;refine ⟨⟨?_,h.M, ?_, ?_, ?_, ?_,h.up, ?_⟩,⟨NX _,fun _ _=>rfl,fun b N o=>Gh.bH _ _ _ _ (.inl fun e=>N (e ▸ hA)),fun _ _=>rfl,le,rfl,rfl,rfl⟩⟩
 .intro b o v J;by_cases O:b=b'/\lo<=o/\o < lo+vals.length
  .obtain ⟨rfl,h1,s⟩:=O;have a:(g.bN b lo vals).F b o=some v:=J;simp only [Gh.bN] at a;rw [if_pos ⟨trivial,h1,s⟩] at a;have:=u _ _ a
   rwa [show lo+(o - lo)=o by omega] at this
  .have a:(g.bN b' lo vals).F b o=some v:=J;rw [Gh.bH _ _ _ _ (by omega)] at a;exact h.F b o v a
 .intro id d;have G:st.h<=id:=d;rw [Gh.bm _ _ (by omega)];exact h.E id G
 .intro id o d;by_cases z:id=k
  .subst z;rw [St.aP q] at d;cases d;exact ho
  .rw [St.aQ (fun e=>z e.symm)] at d;exact gA (h.H id o d) le (Gh.bm _ _ z) fun b N=>⟨fun _=>Gh.bH _ _ _ _ (.inl fun e=>p id o d z (e ▸ N)),rfl⟩
 .intro id id' o o' b h1 s n I;by_cases hi:id=k <;> by_cases f:id'=k
  .rw [hi,f]
  .subst hi;rw [St.aP q] at h1;cases h1;rw [St.aQ (fun e=>f e.symm)] at s;rw [iU (Gh.bm _ _ f)] at I;have:=r b n;subst this;exact absurd I (p id' o' s f)
  .subst f;rw [St.aP q] at s;cases s;rw [St.aQ (fun e=>hi e.symm)] at h1;rw [iU (Gh.bm _ _ hi)] at n;have:=r b I;subst this;exact absurd n (p id o h1 hi)
  .rw [St.aQ (fun e=>hi e.symm)] at h1;rw [St.aQ (fun e=>f e.symm)] at s;rw [iU (Gh.bm _ _ hi)] at n;rw [iU (Gh.bm _ _ f)] at I;exact h.D id id' o o' b h1 s n I
 .intro id o b h1 n U;by_cases hi:id=k
  .subst hi;rw [St.aP q] at h1;cases h1;have:=r b n;subst this;exact hA
  .rw [St.aQ (fun e=>hi e.symm)] at h1;rw [iU (Gh.bm _ _ hi)] at n;exact h.own id o b h1 n U
 .intro c;refine ⟨fun b o v V J=> ?_,fun id o b h1 n=> ?_⟩
  .by_cases O:b=b'/\lo<=o/\o < lo+vals.length
   .rw [O.1];exact (hU c).KY o
   .have a:(g.bN b' lo vals).F b o=some v:=J;rw [Gh.bH _ _ _ _ (by omega)] at a;exact (h.C c).1 b o v V a
  .by_cases hi:id=k
   .subst hi;rw [St.aP q] at h1;cases h1;rw [r b n];exact hU c
   .rw [St.aQ (fun e=>hi e.symm)] at h1;rw [iU (Gh.bm _ _ hi)] at n;exact (h.C c).2 id o b h1 n
theorem mz {loc:Nat->Option (Nat×Nat)} {k n b cap:Nat} {e:TypeId} {z:Nat} {es:List AV} {b':Nat} (f:g.E k=some (.tok loc)) (hl:loc n=some (b,cap)) (h:At g k (.grow n e z es) b'):b'=b:=by
 obtain ⟨l,c,i,j⟩:=h;have a:=i.symm.trans f;simp only [N1,jo.tok.injEq] at a;subst a;have d:=j.symm.trans hl;simp only [N1,NU] at d;exact d.1
theorem Inv.F9 (h:Inv T A g st w) {e:TypeId} {i:TI} (hi:T.get e=some i) (h1:1<=i.size) {els:List AV} {vals rest:List Value} {cap n:Nat} (t:els.length<=n)
  (l: ∀v∈els,v.cells.length=i.size) (u:bx els=true) (p:RL g (flat els) vals) (ho: ∀v∈vals,v.oneCell'=true) (c:vals.length+rest.length=cap * i.size) (hcap:n<=cap):
  ∃g',Inv T A g' (st.new (.grow n e i.size els)).2 (w.drew.alloc (.cells (vals++rest).toArray e))/\Kp A g w g' (w.drew.alloc (.cells (vals++rest).toArray e))/\
   R g' (.gs st.h i.size n) (.slice (some ⟨w.heap.size,0,none⟩) n cap):=by
 have hd:=h.drew;have d: ∀o,0<=o->o < 0+vals.length->g.F w.heap.size o=none:=fun o _ _=>h.fy (NX _) o;have y:vals.length=els.length * i.size:=by rw [cD p,cM l]
 have z:Inv T A g st (w.drew.alloc (.cells (vals++rest).toArray e)):=hd.alloc _;have B:Inv T A (g.bN w.heap.size 0 vals) st (w.drew.alloc (.cells (vals++rest).toArray e)):=z.bN _ 0 vals d (fun k v r=>by
   have:(w.drew.alloc (.cells (vals++rest).toArray e)).heap[w.heap.size]? =some (.cells (vals++rest).toArray e):=World.heap_alloc_new (w:=w.drew);rw [cell_of this];have C:k < vals.length:=by
    rcases Nat.lt_or_ge k vals.length with q | q
    .exact q
    .simp [Og q] at r
   simp only [N5,OA];rw [Oh C];exact r) fun id o a=>h.eQ (NX _) id o a
 have b:(g.bN w.heap.size 0 vals).E st.h=none:=h.E _ (NX _);have f:Le g (g.bN w.heap.size 0 vals):=Le.bN d;refine ⟨(g.bN w.heap.size 0 vals).cg st.h (.tok fun m=>if m=n then some (w.heap.size,cap) else none), ?_, ?_, ?_⟩
 .refine B.name (.grow n e i.size els) _ w.heap.size (fun id o a=> ?_) (h.up _ (NX _)) ?_ ?_
  .exact h.eQ (NX _) id o a
  .exact fun b' j=>mz (Gh.aF _ _ _) (by simp;rfl) j
  .refine ⟨_,w.heap.size,cap,i,(vals++rest).toArray,(0,0),Gh.aF _ _ _,by simp,fun m G=> ?_,hi,h1,hcap,World.heap_alloc_new (w:=w.drew),by simpa using c,by simp,fun o D=> ?_,rfl,t,u, ?_⟩
   .rw [if_neg (by omega)]
   .show (g.bN w.heap.size 0 vals).F w.heap.size o=none;rw [Gh.bH _ _ _ _ (by omega)];exact h.fy (NX _) o
   .refine eG (Le.cg b) _ _ _ _ ?_;rw [da];refine ⟨l,cF (cT f _ _ p) fun k x s=>⟨Gh.gF g _ 0 vals k x s,ho x (Ob s)⟩⟩
 .exact ((Kp.drew A g w).trans (Kp.alloc _ hd)).trans ((Kp.bN (h.up _ (NX _)) d).trans (Kp.cg b))
 .simp only [R];exact ⟨_,w.heap.size,cap,Gh.aF _ _ _,by simp,rfl,hcap,h1⟩
structure nZ (g:Gh) (size c:Nat) (kn:List AV) (news vals:List Value):Prop where
 pre: ∃rest,news=vals++rest
 len:kn.length<=c
 cells: ∀v∈kn,v.cells.length=size
 bare:bx kn=true
 rl:RL g (flat kn) vals
 eI: ∀v∈news,v.oneCell'=true
theorem nZ.all {size c:Nat} {new:List AV} {news:List Value} (e:new.length=c) (a: ∀v∈new,v.cells.length=size) (b:bx new=true) (d:RL g (flat new) news) (ho: ∀v∈news,v.oneCell'=true):nZ g size c new news news:=
 ⟨⟨[],by simp⟩,by omega,a,b,d,ho⟩
theorem nZ.none {size c:Nat} {news:List Value} (ho: ∀v∈news,v.oneCell'=true):nZ g size c [] news []:=
 ⟨⟨news,rfl⟩,by simp,fun _ h=>(by cases h),rfl,dF,ho⟩
theorem yD {t xt ty e:TypeId} {i:TI} (s:oX P T t xt e i) {base:Option Addr} {a b n:Nat} {j news vals:List Value} {x:Value} {es kn:List AV}
  (hs:Src P i.size (.slice base a b) a j w) (y:Src P i.size x n news w) (B:b < a+n) (q:cU (a+n) i=true)
  (h:Inv T A g st w) (F:es.length=a) (C: ∀v∈es,v.cells.length=i.size) (G:bx es=true) (D:RL g (flat es) j) (ho: ∀v∈j,v.oneCell'=true)
  (m:nZ g i.size n kn news vals):
  aS P T A g w (.gs st.h i.size (a+n)) (st.new (.grow (a+n) e i.size (es++kn))).2 (Builtin.append_ #[t,xt] ty #[.slice base a b,x]):=by
 obtain ⟨f,z,H,E,I,J,K⟩:=s.info;obtain ⟨d,L,M⟩:=s.xt;obtain ⟨W,N,X⟩:=gw q;have r:Builtin.nextslicecap (a+n) b * f.bytes<=281474976710656:=growslice_fits B (by rw [I];omega);have p:=iG (ty:=ty) s.t L M H J (by rw [E];exact hs) (by rw [E];exact y) B (by omega) r;have u:=grownCap_ge (w:=w) (n:=a+n) (c:=b) (e:=e);have O:j.length=a * i.size:=by rw [cD D,cM C,F]
 have Q:news.length=n * i.size:=y.l;obtain ⟨rest,k⟩:=m.pre;have hlen:=OC List.length k;rw [N8] at hlen;obtain ⟨g',R,S,U⟩:=h.F9 (els:=es++kn) (vals:=j++vals) (rest:=rest++(Builtin.zeroCells z.cells (grownCap w (a+n) b e - (a+n))).toList) (cap:=grownCap w (a+n) b e) (n:=a+n) s.get N
  (by rw [N8];have:=m.len;omega)
  (fun v o=>by
   rcases N9.1 o with o | o
   .exact C v o
   .exact m.cells v o)
  (by rw [eu,G,m.bare];rfl) (by rw [jv];exact df D m.rl)
  (fun v o=>by
   rcases N9.1 o with o | o
   .exact ho v o
   .exact m.eI v (by rw [k];exact List.mem_append_left _ o))
  (by
   rw [N8,N8,dK,K];have:(a+n) * i.size+(grownCap w (a+n) b e - (a+n)) * i.size=grownCap w (a+n) b e * i.size:=by
    rw [<- Nat.add_mul];congr 1;omega
   rw [Nat.add_mul] at this;omega) u
 have V:j.toArray++news.toArray++Builtin.zeroCells z.cells (grownCap w (a+n) b e - (a+n))=(j++vals++(rest++(Builtin.zeroCells z.cells (grownCap w (a+n) b e - (a+n))).toList)).toArray:=by
  apply Array.ext';simp [k,On]
 rw [V] at p;exact ⟨_,g',_,p,U,R,S⟩
structure Slot (T:TT) (g:Gh) (w:World) (k:Nat) (o:Obj) (e:TypeId) (i:TI) (loc:Nat->Option (Nat×Nat)) (b cap:Nat) (vs:Array Value) (fz:Nat×Nat) (es:List AV):Prop where
 s_E:g.E k=some (.tok loc)
 s_loc:loc es.length=some (b,cap)
 s_top: ∀m,es.length < m->loc m=none
 s_get:T.get e=some i
 s_size:1<=i.size
 s_le:es.length<=cap
 s_heap:w.heap[b]? =some (.cells vs e fz)
 s_sz:vs.size=cap * i.size
 s_fz:fz.2<=es.length * i.size
 s_F: ∀o,es.length * i.size<=o->g.F b o=none
 s_bare:bx es=true
 s_atR:eR g i.size es b 0
 s_At:At g k o b
 s_uniq: ∀b',At g k o b'->b'=b
 s_holds: ∀(w':World) (vs':Array Value),w'.heap[b]? =some (.cells vs' e fz)->vs'.size=cap * i.size->Holds T g w' k o
theorem EB {k:Nat} {e:TypeId} {i:TI} {es:List AV} {loc:Nat->Option (Nat×Nat)} {b cap:Nat} (h:Inv T A g st w) (y:st.get k= .ok (.tok es.length e)) (hi:T.get e=some i)
  (z:g.E k=some (.tok loc)) (hl:loc es.length=some (b,cap)) (B:bx es=true) (p:eR g i.size es b 0): ∃vs fz,Slot T g w k (.tok es.length e) e i loc b cap vs fz es:=by
 obtain ⟨a,C,d,D,vs,fz,f,j,s,q,t,u,F,G,v,m⟩:=h.H k _ y;have n:=f.symm.trans z;simp only [N1,jo.tok.injEq] at n;subst n;have o:=j.symm.trans hl;simp only [N1,NU] at o;obtain ⟨rfl,rfl⟩:=o;have x:=q.symm.trans hi;simp only [N1] at x;subst x;refine ⟨vs,fz,f,j,s,q,t,u,F,G,v,m,B,p,⟨a,d,f,j⟩,fun b' r=> ?_,fun w' vs' h1 I=>⟨a,C,d,D,vs',fz,f,j,s,q,t,u,h1,I,v,m⟩⟩;obtain ⟨l,c,J,K⟩:=r;have n:=J.symm.trans f;simp only [N1,jo.tok.injEq] at n;subst n;have o:=K.symm.trans j;simp only [N1,NU] at o;exact o.1
theorem CG {k:Nat} {e:TypeId} {i:TI} {z:Nat} {es:List AV} (h:Inv T A g st w) (u:st.get k= .ok (.grow es.length e z es)) (hi:T.get e=some i):
  z=i.size/\ ∃loc b cap vs fz,Slot T g w k (.grow es.length e z es) e i loc b cap vs fz es:=by
 obtain ⟨loc,b,cap,v,vs,fz,f,j,p,l,q,r,x,y,s,a,m,n,c,d⟩:=h.H k _ u;have t:=l.symm.trans hi;simp only [N1] at t;subst t;subst m;exact ⟨rfl,loc,b,cap,vs,fz,f,j,p,l,q,r,x,y,s,a,c,d,⟨loc,cap,f,j⟩,fun b' o=>mz f j o,
  fun w' vs' h1 B=>⟨loc,b,cap,v,vs',fz,f,j,p,l,q,r,h1,B,s,a,rfl,n,c,d⟩⟩
theorem yI {t xt ty e:TypeId} {i:TI} (he:oX P T t xt e i) {k b cap n:Nat} {o:Obj} {loc:Nat->Option (Nat×Nat)} {vs:Array Value} {fz:Nat×Nat} {es kn:List AV} {news vals:List Value} {x:Value}
  (hk:st.get k= .ok o) (cc:st.ro<=k) (hS:Slot T g w k o e i loc b cap vs fz es)
  (hx:Src P i.size x n news w) (ez:0 < n) (G:nZ g i.size n kn news vals) (a7:cU (es.length+n) i=true) (h:Inv T A g st w):
  aS P T A g w (.gs k i.size (es.length+n)) (st.put k (.grow (es.length+n) e i.size (es++kn))) (Builtin.append_ #[t,xt] ty #[.slice (some ⟨b,0,none⟩) es.length cap,x]):=by
 obtain ⟨f,z,f1,f2,f3,f4,f5⟩:=he.info;obtain ⟨d,d1,d2⟩:=he.xt;obtain ⟨r1,r2,r3⟩:=gw a7;obtain ⟨q1,q2,q3,q4,q5,q6,q7,q8,q9,V,eg,cd,J,a8,hO⟩:=hS;have av:=cd;rw [da] at av;obtain ⟨a1,cn⟩:=av;obtain ⟨p,o1,o2⟩:=fZ cn;have bb:p.length=es.length * i.size:=by rw [cD o1,cM a1]
 have cv:news.length=n * i.size:=hx.l;obtain ⟨K,B⟩:=G.pre;have cz:vals.length=kn.length * i.size:=by rw [cD G.rl,cM G.cells]
 have et:=G.len;have eF:vals.length<=news.length:=by rw [B,N8];omega
 have b4: ∀v∈es++kn,v.cells.length=i.size:=fun v u=>by
  rcases N9.1 u with u | u
  .exact a1 v u
  .exact G.cells v u
 have O:bx (es++kn)=true:=by rw [eu,eg,G.bare];rfl
 have H:(es++kn).length=es.length+kn.length:=N8;by_cases Q:es.length+n<=cap
 ·-- in place
  have c6:=dw (P:=P) b (es.length * i.size) e fz news 0 vs w q7 (by
   rw [q8,cv];simp only [Ow];rw [<- Nat.add_mul];exact Nat.mul_le_mul_right _ Q) (by simpa using q9) G.eI
  simp only [Ow] at c6;have I:=rK (ty:=ty) (a:=⟨b,0,none⟩) he.t d1 d2 f1 (by rw [f2];exact hx) Q (by rw [f2,Addr.dt,N5];exact c6);generalize S:vs.toList.take (es.length * i.size)++news++vs.toList.drop (es.length * i.size+news.length)=row at I;have U:row.length=vs.size:=by
   rw [<- S];have:es.length * i.size+news.length<=vs.size:=by rw [q8,cv, <- Nat.add_mul];exact Nat.mul_le_mul_right _ Q
   simp;omega
  have c7: ∀j,j < es.length * i.size->row[j]? =vs[j]? :=fun j N=>by
   rw [<- S,On,Oh (by simp;have:=Nat.mul_le_mul_right i.size q6;omega),List.getElem?_take,if_pos N];simp
  have c8: ∀j v,news[j]? =some v->row[es.length * i.size+j]? =some v:=fun j v u=>by
   have N:j < news.length:=by
    rcases Nat.lt_or_ge j news.length with q | q
    .exact q
    .simp [Og q] at u
   have de:(vs.toList.take (es.length * i.size)).length=es.length * i.size:=by
    have h1:vs.toList.length=cap * i.size:=q8;have h2:es.length * i.size<=cap * i.size:=Nat.mul_le_mul_right _ q6;rw [Oa,h1];omega
   rw [<- S,On,OV (by rw [de];omega),de,Oh (by omega)];rw [show es.length * i.size+j - es.length * i.size=j by omega];exact u
  have s:(w.setRow b row.toArray).heap[b]? =some (.cells row.toArray e fz):=setRow_heap _ _ _ _ _ _ q7;have ei:g.M b=none:=by
   cases L:g.M b with
   | none=>rfl
   | some ee=>
    have:=h.M b ee.1 ee.2 L;rw [q7] at this;cases this
  have i1:Inv T A g (st.put k o) (w.setRow b row.toArray):=h.write hk J o (setRow_size _ _ _) (fun _ hb=>dW _ _ _ hb)
   (fun j v u=>by
    have N:j < es.length * i.size:=by
     rcases Nat.lt_or_ge j (es.length * i.size) with q | q
     .exact q
     .rw [V j q] at u;cases u
    have:=h.F b j v u;rw [cell_of q7] at this;rw [cell_of s,OA,c7 j N];exact this) ei a8
   (hO _ _ s (by simpa [U] using q8))
  have b5:Kp A g w g (w.setRow b row.toArray):=Kp.write (h.own k _ b hk J cc) (setRow_size _ _ _) (fun _ hb=>dW _ _ _ hb);have dk:(st.put k o).get k= .ok o:=St.aP (St.cA.1 hk).1;obtain ⟨W,b6⟩:=i1.rP (hU:=fun c=>(i1.C c).2 k _ b dk J) (o1:= .grow (es.length+n) e i.size (es++kn)) (loc':=fun m=>if m=es.length+n then some (b,cap) else loc m) b (es.length * i.size) vals dk q1
   (fun m y hy=>by
    by_cases L:m=es.length+n
    .have:=q3 m (by omega);rw [this] at hy;cases hy
    .rw [if_neg L];exact hy) (fun o ho _=>V o ho)
   (fun j v u=>by
    rw [cell_of s,OA];refine c8 j v ?_;rw [B,Oh (by
     rcases Nat.lt_or_ge j vals.length with q | q
     .exact q
     .simp [Og q] at u)]
    exact u)
   (fun id o' X dx ha=>by
    rw [St.aQ (fun e=>dx e.symm)] at X;exact dx (h.D id k o' _ b X hk ha J)) (h.own k _ b hk J cc)
   (fun b' b7=>mz (Gh.aF _ _ _) (by simp;rfl) b7)
   ⟨_,b,cap,i,row.toArray,fz,Gh.aF _ _ _,by simp,fun m L=>by rw [if_neg (by omega)];exact q3 m (by omega),q4,q5,Q,s,by simpa [U] using q8,
    Oe q9 (Nat.mul_le_mul_right _ (by rw [H];omega)),fun o' Y=>by
     show (g.bN b (es.length * i.size) vals).F b o'=none;rw [H,Nat.add_mul] at Y;rw [Gh.bH _ _ _ _ (by omega)];exact V o' (by omega),rfl,by rw [H];omega,O,by
     have Z:Le g ((g.bN b (es.length * i.size) vals).cg k (.tok fun m=>if m=es.length+n then some (b,cap) else loc m)):=by
      refine (Le.bN fun o' Y _=>V o' Y).trans ⟨fun _ _ _ x=>x,fun _ _ x=>x,fun j b x=> ?_,fun j l x=> ?_,Iff.rfl⟩
      .have:j≠k:=fun e=>by subst e;have:=q1.symm.trans x;cases this
       rw [Gh.bm _ _ this];exact x
      .by_cases N:j=k
       .subst N;have x':g.E j=some (.tok l):=x;have:=q1.symm.trans x';simp only [N1,jo.tok.injEq] at this;subst this;exact ⟨_,Gh.aF _ _ _,fun m y hy=>by
         by_cases L:m=es.length+n
         .have:=q3 m (by omega);rw [this] at hy;cases hy
         .rw [if_neg L];exact hy⟩
       .exact ⟨l,by rw [Gh.bm _ _ N];exact x,fun _ _ y=>y⟩
     rw [jd];refine ⟨eG Z _ _ _ _ cd, ?_⟩;rw [da];refine ⟨G.cells,cF (cT Z _ _ G.rl) fun j v u=>⟨?_,G.eI v (by rw [B];exact List.mem_append_left _ (Ob u))⟩⟩;rw [N5];exact Gh.gF g b (es.length * i.size) vals j v u⟩
  have ea:(st.put k o).put k (.grow (es.length+n) e i.size (es++kn))=st.put k (.grow (es.length+n) e i.size (es++kn)):=by
   simp only [St.put,Tr.put,Tr.set_set]
  rw [ea] at W;refine ⟨_,_,_,I, ?_,W,b5.trans b6⟩;simp only [R];exact ⟨_,b,cap,Gh.aF _ _ _,by simp,rfl,Q,q5⟩
 ·-- in a new array
  have a6: ∀w':World,(∀b o,w'.cell? ⟨b,o,none⟩=w.cell? ⟨b,o,none⟩)->(Builtin.firstCells i.size es.length (.slice (some ⟨b,0,none⟩) es.length cap)).run P w'= .ok p.toArray w':=fun w' ej=>
   run_firstCells_some (P:=P) w' i.size es.length ⟨b,0,none⟩ es.length cap p bb (fun j v u=>by
    rw [Addr.dt,ej];exact h.F _ _ _ (o2 j v u).1)
  have hs:Src P i.size (.slice (some ⟨b,0,none⟩) es.length cap) es.length p w:=⟨by simp [Builtin.lenOf],a6 w fun _ _=>rfl,a6 w.drew fun _ _=>rfl,bb⟩;have hg:cap < es.length+n:=by omega
  have ed:Builtin.nextslicecap (es.length+n) cap * f.bytes<=281474976710656:=growslice_fits hg (by rw [f3];omega);have I:=iG (ty:=ty) he.t d1 d2 f1 f4 (by rw [f2];exact hs) (by rw [f2];exact hx) hg (by omega) ed;have b8:=grownCap_ge (w:=w) (n:=es.length+n) (c:=cap) (e:=e);generalize grownCap w (es.length+n) cap e=r at I b8;have hw:p.toArray++news.toArray++Builtin.zeroCells z.cells (r - (es.length+n))=(p++vals++(K++(Builtin.zeroCells z.cells (r - (es.length+n))).toList)).toArray:=by
   apply Array.ext';simp [B,On]
  rw [hw] at I;have ek:(K++(Builtin.zeroCells z.cells (r - (es.length+n))).toList).length+(p++vals).length=r * i.size:=by
   have hlen:=OC List.length B;rw [N8] at hlen;rw [N8,N8,dK,f5];have:(es.length+n) * i.size+(r - (es.length+n)) * i.size=r * i.size:=by
    rw [<- Nat.add_mul];congr 1;omega
   rw [Nat.add_mul] at this;omega
  generalize K++(Builtin.zeroCells z.cells (r - (es.length+n))).toList=rest at I ek;have hd:=h.drew;have i1:Inv T A g st (w.drew.alloc (.cells (p++vals++rest).toArray e)):=hd.alloc _;have b5:Kp A g w g (w.drew.alloc (.cells (p++vals++rest).toArray e)):=(Kp.drew A g w).trans (Kp.alloc _ hd);have s:(w.drew.alloc (.cells (p++vals++rest).toArray e)).heap[w.heap.size]? =some (.cells (p++vals++rest).toArray e):=World.heap_alloc_new (w:=w.drew);have eT:(p++vals).length=(es++kn).length * i.size:=by rw [N8,H,bb,cz,Nat.add_mul]
  have b9: ∀v∈p++vals,v.oneCell'=true:=fun v u=>by
   rcases N9.1 u with L | L
   .obtain ⟨jj,eo⟩:=List.getElem?_of_mem L;exact (o2 jj v eo).2
   .exact G.eI v (by rw [B];exact List.mem_append_left _ L)
  have Z:Le g ((g.bN w.heap.size 0 (p++vals)).cg k (.tok fun m=>if m=es.length+n then some (w.heap.size,r) else loc m)):=by
   refine (Le.bN fun o' _ _=>h.fy (NX _) o').trans ⟨fun _ _ _ x=>x,fun _ _ x=>x,fun j b x=> ?_,fun j l x=> ?_,Iff.rfl⟩
   .have:j≠k:=fun e=>by subst e;have:=q1.symm.trans x;cases this
    rw [Gh.bm _ _ this];exact x
   .by_cases N:j=k
    .subst N;have x':g.E j=some (.tok l):=x;have:=q1.symm.trans x';simp only [N1,jo.tok.injEq] at this;subst this;exact ⟨_,Gh.aF _ _ _,fun m y hy=>by
      by_cases L:m=es.length+n
      .have:=q3 m (by omega);rw [this] at hy;cases hy
      .rw [if_neg L];exact hy⟩
    .exact ⟨l,by rw [Gh.bm _ _ N];exact x,fun _ _ y=>y⟩
  obtain ⟨W,b6⟩:=i1.rP (o1:= .grow (es.length+n) e i.size (es++kn)) (loc':=fun m=>if m=es.length+n then some (w.heap.size,r) else loc m) w.heap.size 0 (p++vals) hk q1
   (fun m y hy=>by
    by_cases L:m=es.length+n
    .have:=q3 m (by omega);rw [this] at hy;cases hy
    .rw [if_neg L];exact hy) (fun o' _ _=>h.fy (NX _) o')
   (fun j v u=>by
    have N:j < (p++vals).length:=by
     rcases Nat.lt_or_ge j (p++vals).length with q | q
     .exact q
     .rw [Og q] at u;cases u
    rw [cell_of s,OA,N5,Oh N];exact u)
   (fun id o' X _=>h.eQ (NX _) id o' X) (h.up _ (NX _))
   (fun b' b7=>mz (Gh.aF _ _ _) (by simp;rfl) b7)
   ⟨_,w.heap.size,r,i,(p++vals++rest).toArray,(0,0),Gh.aF _ _ _,by simp,fun m L=>by rw [if_neg (by omega)];exact q3 m (by omega),q4,q5,b8,s,by
     simp only [Pf];rw [N8];omega,by simp,fun o' Y=>by
     show (g.bN w.heap.size 0 (p++vals)).F w.heap.size o'=none;rw [Gh.bH _ _ _ _ (by omega)];exact h.fy (NX _) o',rfl,by rw [H];omega,O,by
     rw [da];refine ⟨b4, ?_⟩;rw [jv];exact cF (cT Z _ _ (df o1 G.rl)) fun j v u=>⟨Gh.gF g w.heap.size 0 (p++vals) j v u,b9 v (Ob u)⟩⟩
  refine ⟨_,_,_,I, ?_,W,b5.trans b6⟩;simp only [R];exact ⟨_,w.heap.size,r,Gh.aF _ _ _,by simp,rfl,b8,q5⟩
end
section
variable {P:Program} {T:TT} {A:Nat->Prop} {g:Gh} {st:St} {w:World}
theorem qw {C:cp} {t xt ty e:TypeId} {i:TI} (M:oX P T t xt e i) {s r:AV} {sv x:Value} {c:Nat} {kn:List AV} {news vals:List Value} {p:cV} {fx:Fx}
  (q:wx i e s c kn= .ok p) (f:az C st p= .ok (r,fx)) (hs:R g s sv) (U:Src P i.size x c news w) (N:0 < c) (D:nZ g i.size c kn news vals) (h:Inv T A g st w):
  aS P T A g w r (fx.did.app st) (Builtin.append_ #[t,xt] ty #[sv,x]):=by
 unfold wx at q;split at q
 ·-- to nil
  split at q
  .rename_i a;cases q;simp only [az,NT,NU] at f;obtain ⟨rfl,rfl⟩:=f;simp only [R] at hs;subst hs;have O:Src P i.size (.slice none 0 0) 0 [] w:=⟨by simp [Builtin.lenOf],by simp [Builtin.firstCells],by simp [Builtin.firstCells],by simp⟩;have:=yD (ty:=ty) (es:=[]) M O U (by omega) (by rw [N5];exact a) h rfl (fun _ h=>by cases h) rfl dF (fun _ h=>by cases h) D;rw [N5] at this;exact this
  .cases q
 .rename_i z es;split at q
  .rename_i a;simp only [N0] at a;obtain ⟨a,l⟩:=a;have l:=NZ l;subst l;cases q;simp only [az,NT,NU] at f;obtain ⟨rfl,rfl⟩:=f;simp only [R] at hs;obtain ⟨G,b,o,cap,rfl,hcap,Q,H,I⟩:=hs;have J:cap=es.length:=I;subst J;have u:=H;rw [da] at u;obtain ⟨xs,x1,x2⟩:=fZ u.2;have hl:xs.length=es.length * i.size:=by rw [cD x1,cM u.1]
   have y: ∀w':World,(∀b o,w'.cell? ⟨b,o,none⟩=w.cell? ⟨b,o,none⟩)->(Builtin.firstCells i.size es.length (.slice (some ⟨b,o,none⟩) es.length es.length)).run P w'= .ok xs.toArray w':=fun w' V=>
    run_firstCells_some (P:=P) w' i.size es.length ⟨b,o,none⟩ es.length es.length xs hl (fun j v W=>by
     rw [Addr.dt,V];exact h.F _ _ _ (x2 j v W).1)
   have S:Src P i.size (.slice (some ⟨b,o,none⟩) es.length es.length) es.length xs w:=⟨by simp [Builtin.lenOf],y w fun _ _=>rfl,y w.drew fun _ _=>rfl,hl⟩;exact yD (ty:=ty) M S U (by omega) a h rfl u.1 G x1 (fun v W=>by
    obtain ⟨j,hj⟩:=List.getElem?_of_mem W;exact (x2 j v hj).2) D
  .cases q
 .rename_i z es k;split at q
  .rename_i a;simp only [N0] at a;obtain ⟨a,l⟩:=a;have l:=NZ l;subst l;cases q;simp only [az,ad,aj] at f;obtain ⟨ob,h1,⟨v',o'⟩,B,dd,E,X⟩:=f;split at B
   .rename_i n e';split at B
    .rename_i d;simp only [N0] at d;have Y:=NZ d.1;have K:=NZ d.2;subst Y K;cases B;simp only [dv] at E;split at E
     .cases E
     .rename_i L;cases E;cases X;rw [cB] at L;simp only [R] at hs;obtain ⟨G,b,o,cap,rfl,hcap,Q,H,rfl,loc,Z,hl⟩:=hs;obtain ⟨vs,fz,hS⟩:=EB h h1 M.get Z hl G H;exact yI (ty:=ty) M h1 (by omega) hS U N D a h
    .cases B
   .cases B
  .cases q
 .rename_i k z n;split at q
  .rename_i a;simp only [N0] at a;obtain ⟨a,l⟩:=a;have l:=NZ l;subst l;cases q;simp only [az,ad,aj] at f;obtain ⟨ob,h1,⟨v',o'⟩,B,dd,E,X⟩:=f;split at B
   .rename_i m e' z' es;split at B
    .rename_i d;simp only [N0] at d;have hm:=NZ d.1.1;have Y:=NZ d.1.2;have K:=NZ d.2.1;subst hm Y K;cases B;simp only [dv] at E;split at E
     .cases E
     .rename_i L;cases E;cases X;rw [cB] at L;simp only [R] at hs;obtain ⟨loc',b',cap',Z,hl,rfl,hcap,Q⟩:=hs;obtain ⟨rfl,loc,b,cap,vs,fz,hS⟩:=CG h h1 M.get;have e1:=hS.s_E.symm.trans Z;simp only [N1,jo.tok.injEq] at e1;subst e1;have e2:=hS.s_loc.symm.trans hl;simp only [N1,NU] at e2;obtain ⟨rfl,rfl⟩:=e2;exact yI (ty:=ty) M h1 (by omega) hS U N D a h
    .cases B
   .cases B
  .cases q
 .cases q
theorem ta {C:cp} {t xt ty e:TypeId} {i:TI} (k:oX P T t xt e i) {s x r:AV} {m xv:Value} {new:List AV} {p:cV} {n:Fx} (j:kH x=some new)
  (a:mH i e s new= .ok p) (b:az C st p= .ok (r,n)) (hs:R g s m) (y:R g x xv) (h:Inv T A g st w):
  aS P T A g w r (n.did.app st) (Builtin.append_ #[t,xt] ty #[m,xv]):=by
 unfold mH at a;split at a
 .cases a
 .rename_i v l;simp only [ad] at a;obtain ⟨d,hf,a⟩:=a;split at a
  .cases a
  .rename_i f;have o:=qN f;obtain ⟨news,q,z,B,u,D⟩:=mq (P:=P) y j hf o (by simp) h;have c:0 < d.length:=by rw [D];simp
   split at a
   .exact qw k a b hs q c (nZ.none u) h
   .exact qw k a b hs q c (nZ.all rfl o B z u) h
theorem tD {t xt ty e:TypeId} {i:TI} (l:oX P T t xt e i) {base:Option Addr} {n:Nat} {news:List Value} {x:Value} {els:List AV}
  (hs:Src P i.size (.slice base 0 0) 0 [] w) (s:Src P i.size x n news w) (L:0 < n) (b:cU n i=true)
  (h:Inv T A g st w) (u:RL g (flat els) news) (ho: ∀v∈news,v.oneCell'=true):
  aS P T A g w (.ms st.h 0 i.size n 0) (st.new (.cells (1000000+e) (flat els))).2 (Builtin.append_ #[t,xt] ty #[.slice base 0 0,x]):=by
 obtain ⟨f,z,y,r,B,C,M⟩:=l.info;obtain ⟨d,D,F⟩:=l.xt;obtain ⟨N,G,O⟩:=gw b;have j:Builtin.nextslicecap (0+n) 0 * f.bytes<=281474976710656:=growslice_fits (by omega) (by rw [N5,B];omega);have a:=iG (ty:=ty) l.t D F y C (by rw [r];exact hs) (by rw [r];exact s) (by omega) (by omega) j;have H:=grownCap_ge (w:=w) (n:=0+n) (c:=0) (e:=e);have I:g.E st.h=none:=h.E _ (NX _);have m:Le g (g.cg st.h (.blk w.heap.size)):=Le.cg I;obtain ⟨J,K⟩:=h.drew.newObj (.cells (1000000+e) (flat els)) (.cells (news.toArray++Builtin.zeroCells z.cells (grownCap w (0+n) 0 e - (0+n))) e) (fun b' p=>by
  have:(g.cg st.h (.blk w.heap.size)).E st.h=some (.blk b'):=p;rw [Gh.aF] at this;simpa using this.symm) ⟨w.heap.size,news.toArray,Builtin.zeroCells z.cells (grownCap w (0+n) 0 e - (0+n)),e,Gh.aF _ _ _,World.heap_alloc_new (w:=w.drew),by simpa using cT m _ _ u,by simpa using ho,fun o=>h.fy (NX _) o,fun q=>absurd q (Nat.not_lt.2 (Nat.le_add_right _ _))⟩
 have k:([]:List Value).toArray++news.toArray=news.toArray:=by simp
 rw [k] at a;refine ⟨_,g.cg st.h (.blk w.heap.size),_,a, ?_,J,(Kp.drew A g w).trans K⟩;simp only [R];exact ⟨w.heap.size,0,Gh.aF _ _ _,grownCap w (0+n) 0 e,by simp,by omega,G,fun _=>rfl,.inr trivial⟩
theorem r7 {C:cp} {t xt ty e:TypeId} {i:TI} (n:oX P T t xt e i) {s x r:AV} {z xv:Value} {new:List AV} {p:cV} {B:Fx} (k:kH x=some new)
  (d:mg i e s new= .ok p) (c:az C st p= .ok (r,B)) (hs:R g s z) (D:R g x xv) (h:Inv T A g st w):
  aS P T A g w r (B.did.app st) (Builtin.append_ #[t,xt] ty #[z,xv]):=by
 unfold mg at d;split at d
 .exact oy n k d c hs D h
 .rename_i v l;simp only [ad] at d;obtain ⟨m,hf,d⟩:=d;split at d
  .cases d
  .rename_i f;simp only [N0] at f;have E:=qN f.1;obtain ⟨news,q,u,G,y,F⟩:=mq (P:=P) D k hf E (by simp) h;have j:0 < m.length:=by rw [F];simp
   split at d
   .simp only [NT] at d;subst d;simp only [az,NT,NU] at c;obtain ⟨rfl,rfl⟩:=c;simp only [R] at hs;subst hs;exact tD n ⟨by simp [Builtin.lenOf],by simp [Builtin.firstCells],by simp [Builtin.firstCells],by simp⟩ q j f.2 h u y
   .simp only [NT] at d;subst d;simp only [az,NT,NU] at c;obtain ⟨rfl,rfl⟩:=c;simp only [R] at hs;obtain ⟨a,rfl⟩:=hs;exact tD n ⟨by simp [Builtin.lenOf],by simp [Builtin.firstCells,loadCells,loadCellsFrom],by simp [Builtin.firstCells,loadCells,loadCellsFrom],by simp⟩ q j f.2 h u y
   .simp only [NT] at d;subst d;simp only [az,NT,NU] at c;obtain ⟨rfl,rfl⟩:=c;simp only [R] at hs;obtain ⟨_,b,o,cap,rfl,_,_,_,d⟩:=hs;simp only [oH,OO] at d;subst d;exact tD n ⟨by simp [Builtin.lenOf],by simp [Builtin.firstCells,loadCells,loadCellsFrom],by simp [Builtin.firstCells,loadCells,loadCellsFrom],by simp⟩ q j f.2 h u y
   .cases d
theorem uh (hT:qW P T) {C:cp} {t:TypeId} {k z n:Nat} {i r:AV} {M N:Value} {p:cV} {O:Fx} (Q:gQ T t k z n i= .ok p) (d:az C st p= .ok (r,O))
  (hs:R g (.gs k z n) M) (hy:R g i N) (h:Inv T A g st w):aS P T A g w r (O.did.app st) (Instr.indexAt t M N):=by
 simp only [gQ,ad] at Q;obtain ⟨j,hj,E,F,it,h1,y⟩:=Q;obtain ⟨kd,rfl⟩:=qY hj hy;obtain ⟨rfl,av⟩:=fT F;have G:=hT t it (bO.1 h1);split at y
 .rename_i e o;have I:=dz G o;simp only [ad] at y;obtain ⟨ie,h3,h4⟩:=y;have f:=hT _ ie (bO.1 h3);split at h4
  .rename_i q;have q:=NZ q;cases h4;simp only [fD,az,ad,aj] at d;obtain ⟨ob,h5,⟨v',o'⟩,⟨v2,c,B⟩,dd,S,h9⟩:=d;cases B;simp only [dv,NT] at S;subst S;cases h9;simp only [R] at hs;obtain ⟨loc,b,cap,U,hl,rfl,hcap,a1⟩:=hs;split at c
   .rename_i m e' z' es;split at c
    .rename_i a;simp only [N0] at a;have J:=NZ a.1;have l:=NZ a.2;subst J l;obtain ⟨s,D,v,i2,vs,fz,V,W,q3,q4,q5,q6,q7,q8,q9,a6,a7,a8,K,L⟩:=h.H k _ h5;have X:=V.symm.trans U;simp only [N1,jo.tok.injEq] at X;subst X;have Y:=W.symm.trans hl;simp only [N1,NU] at Y;obtain ⟨rfl,rfl⟩:=Y;split at c
     .simp only [ad,aj] at c;obtain ⟨u,B,rfl⟩:=c;obtain ⟨d1,d2⟩:=sC L B;refine aS.of h (x:= .pointer (some ⟨D,0+E * z',none⟩)) ?_ ?_
      .simp [Instr.indexAt,asIntOf,I,f.cr,Addr.dt,q];intro Z;omega
      .simp only [R];exact ⟨qg (pG K B),D,_,rfl,d2⟩
     .cases c;refine aS.of h (x:= .pointer (some ⟨D,0+E * z',none⟩)) ?_ ?_
      .simp [Instr.indexAt,asIntOf,I,f.cr,Addr.dt,q];intro Z;omega
      .simp only [R];exact ⟨s,D,v,V,W,by rw [N5]⟩
    .cases c
   .rename_i m e' z' cs;split at c
    .rename_i a;simp only [N0] at a;have J:=NZ a.1;have l:=NZ a.2;subst J l;cases c;refine aS.of h (x:= .pointer (some ⟨b,0+E * z',none⟩)) ?_ ?_
     .simp [Instr.indexAt,asIntOf,I,f.cr,Addr.dt,q];intro Z;omega
     .simp only [R];exact ⟨loc,b,cap,U,hl,by rw [N5]⟩
    .cases c
   .cases c
  .cases h4
 .cases y
theorem ua {C:cp} {t:TypeId} {i:TI} (hi:gf P t i) {k m off:Nat} {v r:AV} {x y:Value} {p:cV} {fx:Fx} (hp:lZ i k m off v= .ok p) (a6:az C st p= .ok (r,fx))
  (hx:R g (.gp k m off) x) (hy:R g v y) (h:Inv T A g st w):r=undef/\vN P T A g w (fx.did.app st) (Instr.storeAt t x y):=by
 unfold lZ at hp;split at hp
 .rename_i hc;simp only [N0] at hc;have hlen:=NZ hc.1;simp only [ad,aj] at hp;obtain ⟨v',hf,rfl⟩:=hp;simp only [az,ad,aj] at a6;obtain ⟨ob,h1,⟨u,o'⟩,h2,dd,h5,h6⟩:=a6;split at h2
  .rename_i n e z es;split at h2
   .rename_i a;simp only [N0] at a;have c1:=NZ a.1.1;have c2:=NZ a.1.2;have c3:=NZ a.2.1;have c4:=NZ a.2.2;subst c1 c3;cases h2;simp only [dv] at h5;split at h5
    .cases h5
    .rename_i a7;cases h5;cases h6;rw [cB] at a7;refine ⟨rfl, ?_⟩;simp only [R] at hx;obtain ⟨loc,b,cap,hE,hl,rfl⟩:=hx;obtain ⟨s,d,G,f,vs,fz,S,U,q3,q4,q5,q6,q7,q8,q9,L,V,a1,a8,b5⟩:=h.H k _ h1;have e1:=S.symm.trans hE;simp only [N1,jo.tok.injEq] at e1;subst e1;have e2:=U.symm.trans hl;simp only [N1,NU] at e2;obtain ⟨rfl,rfl⟩:=e2;subst V;have J:=ri hy hc.2;obtain ⟨ys,N⟩: ∃ys,y.cells.toList=ys:=⟨_,rfl⟩;rw [N] at J;have W:=cD J;have X:=mw hc.2 J;obtain ⟨c8,de,dk⟩:=uP hf J;have Y:es.length * f.size+ys.length<=vs.size:=by
      rw [q8,W,hlen, <- c4];have:=Nat.mul_le_mul_right f.size (show es.length+1<=G by omega);rw [Nat.add_mul,Nat.one_mul] at this;exact this
     have B:At g k (.grow n e f.size es) d:=⟨s,G,S,U⟩;have O:=dw (P:=P) d (es.length * f.size) e fz ys 0 vs w q7 (by simpa using Y) (by simpa using q9) X;simp only [Ow] at O;generalize K:vs.toList.take (es.length * f.size)++ys++vs.toList.drop (es.length * f.size+ys.length)=row at O;have Z:row.length=vs.size:=by
      rw [<- K];simp;omega
     have b6: ∀j,j < es.length * f.size->row[j]? =vs[j]? :=fun j hj=>by
      rw [<- K,On,Oh (by simp;omega),List.getElem?_take,if_pos hj];simp
     have b7: ∀j v,ys[j]? =some v->row[es.length * f.size+j]? =some v:=fun j v hv=>by
      have hj:j < ys.length:=by
       rcases Nat.lt_or_ge j ys.length with q | q
       .exact q
       .simp [Og q] at hv
      have b8:(vs.toList.take (es.length * f.size)).length=es.length * f.size:=by
       have dx:vs.toList.length=vs.size:=rfl;rw [Oa,dx];omega
      rw [<- K,On,OV (by rw [b8];omega),b8,Oh (by omega)];rw [show es.length * f.size+j - es.length * f.size=j by omega];exact hv
     have o:(w.setRow d row.toArray).heap[d]? =some (.cells row.toArray e fz):=setRow_heap _ _ _ _ _ _ q7;have bb:g.M d=none:=by
      cases hm:g.M d with
      | none=>rfl
      | some ee=>
       have:=h.M d ee.1 ee.2 hm;rw [q7] at this;cases this
     have i1:Inv T A g (st.put k (.grow n e f.size es)) (w.setRow d row.toArray):=h.write h1 B (.grow n e f.size es) (setRow_size _ _ _) (fun _ hb=>dW _ _ _ hb)
      (fun j v hv=>by
       have hj:j < es.length * f.size:=by
        rcases Nat.lt_or_ge j (es.length * f.size) with q | q
        .exact q
        .rw [L j q] at hv;cases hv
       have:=h.F d j v hv;rw [cell_of q7] at this;rw [cell_of o,OA,b6 j hj];exact this) bb (fun b' av=>mz S U av)
      ⟨s,d,G,f,row.toArray,fz,S,U,q3,q4,q5,q6,o,by simpa [Z] using q8,q9,L,rfl,a1,a8,b5⟩
     have b4:Kp A g w g (w.setRow d row.toArray):=Kp.write (h.own k _ d h1 B (by omega)) (setRow_size _ _ _) (fun _ hb=>dW _ _ _ hb);have b9:(st.put k (.grow n e f.size es)).get k= .ok (.grow n e f.size es):=St.aP (St.cA.1 h1).1;have cc:Le g ((g.bN d (es.length * f.size) ys).cg k (.tok s)):=by
      refine (Le.bN fun o' Q _=>L o' Q).trans ⟨fun _ _ _ x=>x,fun _ _ x=>x,fun j b x=> ?_,fun j l x=> ?_,Iff.rfl⟩
      .have:j≠k:=fun e=>by subst e;have:=S.symm.trans x;cases this
       rw [Gh.bm _ _ this];exact x
      .by_cases hj:j=k
       .subst hj;have x':g.E j=some (.tok l):=x;have:=S.symm.trans x';simp only [N1,jo.tok.injEq] at this;subst this;exact ⟨_,Gh.aF _ _ _,fun _ _ hy=>hy⟩
       .exact ⟨l,by rw [Gh.bm _ _ hj];exact x,fun _ _ y=>y⟩
     have ea:v'.cells.length=f.size:=by rw [dk,hlen,c4]
     obtain ⟨cd,ed⟩:=i1.rP (hU:=fun c=>(i1.C c).2 k _ d b9 B) (o1:= .grow n e f.size (es++[v'])) (loc':=s) d (es.length * f.size) ys b9 S (fun _ _ hy=>hy) (fun o' Q _=>L o' Q)
      (fun j u I=>by
       rw [cell_of o,OA];exact b7 j u I)
      (fun id o' cn cv ha=>by
       rw [St.aQ (fun e=>cv e.symm)] at cn;exact cv (h.D id k o' _ d cn h1 ha B)) (h.own k _ d h1 B (by omega))
      (fun b' av=>mz (Gh.aF _ _ _) U av)
      ⟨s,d,G,f,row.toArray,fz,Gh.aF _ _ _,U,q3,q4,q5,q6,o,by simpa [Z] using q8,
       Oe q9 (Nat.mul_le_mul_right _ (by simp)),fun o' Q=>by
        show (g.bN d (es.length * f.size) ys).F d o'=none;simp only [N8,Om,OO,N5] at Q;rw [Nat.add_mul,Nat.one_mul] at Q;rw [Gh.bH _ _ _ _ (by rw [W,hlen, <- c4];omega)];exact L o' (by omega),rfl,by simp;omega,by rw [eu,a8];show (VM.bare v'&&true)=true;rw [de];rfl,by
        rw [jd];refine ⟨eG cc _ _ _ _ b5, ?_⟩;rw [da];refine ⟨fun u I=>by simp only [Pw] at I;subst I;exact ea, ?_⟩;rw [show flat [v']=v'.cells by simp [flat]];exact cF (cT cc _ _ c8) fun j u I=>⟨by rw [N5];exact Gh.gF g d (es.length * f.size) ys j u I,X u (Ob I)⟩⟩
     have cz:(st.put k (.grow n e f.size es)).put k (.grow n e f.size (es++[v']))=st.put k (.grow n e f.size (es++[v'])):=by
      simp only [St.put,Tr.put,Tr.set_set]
     rw [cz] at cd;refine ⟨_,_, ?_,cd,b4.trans ed⟩;simp only [Instr.storeAt,Instr.sureAddr,Sem.run_bind,Sem.run_pure,Result.andThen_ok,storeVar,hi.cr,Sem.run_ite];have c6:y.cells.size=ys.length:=by rw [<- N];exact (OK).symm
     rw [if_neg (by omega)];show (storeCells _ y.cells.toList).run P w= _;rw [N];exact O
   .cases h2
  .rename_i ej;unfold vt at h2;split at h2
   .rename_i n e z old;split at h2
    .rename_i a;simp only [N0] at a;have c1:=NZ a.1;have c2:=N4 a.2;subst c1;cases h2;simp only [dv] at h5;split at h5
     .cases h5
     .rename_i a7;cases h5;cases h6;rw [cB] at a7;refine ⟨rfl, ?_⟩;simp only [R] at hx;obtain ⟨loc,b,cap,hE,hl,rfl⟩:=hx;obtain ⟨s,d,G,f,pre,rest,S,U,q3,q4,q5,q6,q7,q8,q9,L,V,a1,a8⟩:=h.H k _ h1;have e1:=S.symm.trans hE;simp only [N1,jo.tok.injEq] at e1;subst e1;have e2:=U.symm.trans hl;simp only [N1,NU] at e2;obtain ⟨rfl,rfl⟩:=e2;have J:=ri hy hc.2;obtain ⟨ys,N⟩: ∃ys,y.cells.toList=ys:=⟨_,rfl⟩;rw [N] at J;have W:=cD J;have X:=mw hc.2 J;have ek:=cD V;have ei:pre.toList.length=pre.size:=rfl;have Y:off+ys.length<=(pre++rest).size:=by
       rw [Array.size_append,W];omega
      have B:At g k (.row n e z old) d:=⟨s,G,S,U⟩;have O:=dw (P:=P) d off e (0,0) ys 0 (pre++rest) w q7 (by simpa using Y) (by simp) X;simp only [Ow] at O;have K:(pre++rest).toList.take off++ys++(pre++rest).toList.drop (off+ys.length)=((pre.toList.take off++ys++pre.toList.drop (off+ys.length)).toArray++rest).toList:=by
       rw [Array.toList_append,Array.toList_append,List.take_append_of_le_length (by omega),List.drop_append_of_le_length (by omega)];simp [On]
      rw [K] at O;have o:(w.setRow d ((pre.toList.take off++ys++pre.toList.drop (off+ys.length)).toArray++rest).toList.toArray).heap[d]? =some (.cells ((pre.toList.take off++ys++pre.toList.drop (off+ys.length)).toArray++rest) e (0,0)):=by
       rw [setRow_heap _ _ _ _ _ _ q7]
      have bb:g.M d=none:=by
       cases hm:g.M d with
       | none=>rfl
       | some ee=>
        have:=h.M d ee.1 ee.2 hm;rw [q7] at this;cases this
      have eg:(pre.toList.take off++ys++pre.toList.drop (off+ys.length)).length=pre.size:=by
       simp only [N8,Oa,N3];omega
      have i1:Inv T A g (st.put k (.row n e z (cJ old off v.cells))) (w.setRow d ((pre.toList.take off++ys++pre.toList.drop (off+ys.length)).toArray++rest).toList.toArray):=h.write h1 B _ (setRow_size _ _ _) (fun _ hb=>dW _ _ _ hb)
       (fun j u I=>by rw [q9 j] at I;cases I) bb (fun b' av=>by
        obtain ⟨l,c,p1,p2⟩:=av;have e1:=p1.symm.trans S;simp only [N1,jo.tok.injEq] at e1;subst e1;have e2:=p2.symm.trans U;simp only [N1,NU] at e2;exact e2.1)
       ⟨s,d,G,f,_,rest,S,U,q3,q4,q5,q6,o,by rw [Array.size_append,Pf,eg, <- Array.size_append];exact q8,q9,L,by
        rw [List.toList_toArray];unfold cJ;have c7:v.cells.length=ys.length:=W.symm;rw [c7];exact df (df (jw off V) J) (fK _ V),by
        intro u I;rw [List.toList_toArray] at I;simp only [N9] at I;rcases I with (I | I) | I
        .exact a1 u (List.mem_of_mem_take I)
        .exact X u I
        .exact a1 u (List.mem_of_mem_drop I),by
        unfold cJ;simp only [N8,Oa,N3];omega⟩
      have b4:Kp A g w g (w.setRow d ((pre.toList.take off++ys++pre.toList.drop (off+ys.length)).toArray++rest).toList.toArray):=Kp.write (h.own k _ d h1 B (by omega)) (setRow_size _ _ _) (fun _ hb=>dW _ _ _ hb);refine ⟨_,_, ?_,i1,b4⟩;simp only [Instr.storeAt,Instr.sureAddr,Sem.run_bind,Sem.run_pure,Result.andThen_ok,storeVar,hi.cr,Sem.run_ite];have c6:y.cells.size=ys.length:=by rw [<- N];exact (OK).symm
      rw [if_neg (by omega)];show (storeCells _ y.cells.toList).run P w= _;rw [N];exact O
    .cases h2
   .cases h2
 .cases hp
end
section
variable {P:Program} {T:TT} {A:Nat->Prop} {g:Gh} {st:St} {w:World}
theorem wP {loc:Nat->Option (Nat×Nat)} {k n b cap:Nat} {e:TypeId} {z:Nat} {cs:List AV} {b':Nat} (f:g.E k=some (.tok loc)) (hl:loc n=some (b,cap)) (h:At g k (.row n e z cs) b'):b'=b:=by
 obtain ⟨l,c,i,j⟩:=h;have a:=i.symm.trans f;simp only [N1,jo.tok.injEq] at a;subst a;have d:=j.symm.trans hl;simp only [N1,NU] at d;exact d.1
theorem Inv.newRow (h:Inv T A g st w) {e:TypeId} {i:TI} (hi:T.get e=some i) (h1:1<=i.size) {cs:List AV} {vals rest:List Value} {cap n:Nat} (f:cs.length=n * i.size)
  (j:RL g cs vals) (ho: ∀v∈vals,v.oneCell'=true) (b:vals.length+rest.length=cap * i.size) (hcap:n<=cap):
  ∃g',Inv T A g' (st.new (.row n e i.size cs)).2 (w.drew.alloc (.cells (vals++rest).toArray e))/\Kp A g w g' (w.drew.alloc (.cells (vals++rest).toArray e))/\
   R g' (.gs st.h i.size n) (.slice (some ⟨w.heap.size,0,none⟩) n cap):=by
 have hd:=h.drew;have k:Inv T A g st (w.drew.alloc (.cells (vals++rest).toArray e)):=hd.alloc _;have a:g.E st.h=none:=h.E _ (NX _);refine ⟨g.cg st.h (.tok fun m=>if m=n then some (w.heap.size,cap) else none), ?_, ?_, ?_⟩
 .refine k.name (.row n e i.size cs) _ w.heap.size (fun id o c=> ?_) (h.up _ (NX _)) ?_ ?_
  .exact h.eQ (NX _) id o c
  .exact fun b' d=>wP (Gh.aF _ _ _) (by simp;rfl) d
  .refine ⟨_,w.heap.size,cap,i,vals.toArray,rest.toArray,Gh.aF _ _ _,by simp,fun m l=> ?_,hi,h1,hcap, ?_,by simp;exact b,fun o=>h.fy (NX _) o,rfl, ?_, ?_,f⟩
   .rw [if_neg (by omega)]
   .have:=World.heap_alloc_new (w:=w.drew) (o:= .cells (vals++rest).toArray e);rw [show vals.toArray++rest.toArray=(vals++rest).toArray by simp];exact this
   .rw [List.toList_toArray];exact cT (Le.cg a) _ _ j
   .rw [List.toList_toArray];exact ho
 .exact ((Kp.drew A g w).trans (Kp.alloc _ hd)).trans (Kp.cg a)
 .simp only [R];exact ⟨_,w.heap.size,cap,Gh.aF _ _ _,by simp,rfl,hcap,h1⟩
theorem Gp {t xt ty e:TypeId} {i:TI} (m:oX P T t xt e i) {n:Nat} {news:List Value} {x:Value} {els:List AV}
  (o:Src P i.size x n news w) (J:0 < n) (b:cU n i=true) (h:Inv T A g st w) (p:RL g (flat els) news) (ho: ∀v∈news,v.oneCell'=true):
  aS P T A g w (.gs st.h i.size n) (st.new (.row n e i.size (flat els))).2 (Builtin.append_ #[t,xt] ty #[.slice none 0 0,x]):=by
 obtain ⟨f,z,y,q,B,C,D⟩:=m.info;obtain ⟨d,E,F⟩:=m.xt;obtain ⟨K,G,L⟩:=gw b;have hs:Src P i.size (.slice none 0 0) 0 [] w:=⟨by simp [Builtin.lenOf],by simp [Builtin.firstCells],by simp [Builtin.firstCells],by simp⟩;have j:Builtin.nextslicecap (0+n) 0 * f.bytes<=281474976710656:=growslice_fits (by omega) (by rw [N5,B];omega);have a:=iG (ty:=ty) m.t E F y C (by rw [q];exact hs) (by rw [q];exact o) (by omega) (by omega) j;have H:=grownCap_ge (w:=w) (n:=0+n) (c:=0) (e:=e);have k:news.length=n * i.size:=o.l;obtain ⟨g',r,s,u⟩:=h.newRow (cs:=flat els) (vals:=news) (rest:=(Builtin.zeroCells z.cells (grownCap w (0+n) 0 e - (0+n))).toList) (cap:=grownCap w (0+n) 0 e) (n:=n) m.get G
  (by rw [<- cD p];exact k) p ho (by
   rw [dK,D,k, <- Nat.add_mul];congr 1;omega) (by omega)
 have I:([]:List Value).toArray++news.toArray++Builtin.zeroCells z.cells (grownCap w (0+n) 0 e - (0+n))=(news++(Builtin.zeroCells z.cells (grownCap w (0+n) 0 e - (0+n))).toList).toArray:=by
  apply Array.ext';simp
 rw [I,N5] at a;rw [N5] at r s u;exact ⟨_,g',_,a,u,r,s⟩
theorem GW {t xt ty e:TypeId} {i:TI} (he:oX P T t xt e i) {k n m:Nat} {cs:List AV} {els:List AV} {news:List Value} {x:Value} {b cap:Nat} {loc:Nat->Option (Nat×Nat)}
  (Y:st.get k= .ok (.row m e i.size cs)) (b6:st.ro<=k) (hE:g.E k=some (.tok loc)) (hl:loc m=some (b,cap))
  (hx:Src P i.size x n news w) (dx:0 < n) (Z:cU (m+n) i=true) (hr:RL g (flat els) news) (ho: ∀v∈news,v.oneCell'=true) (h:Inv T A g st w):
  aS P T A g w (.gs k i.size (m+n)) (st.put k (.row (m+n) e i.size (cs++flat els))) (Builtin.append_ #[t,xt] ty #[.slice (some ⟨b,0,none⟩) m cap,x]):=by
 obtain ⟨f,z,f1,f2,f3,f4,f5⟩:=he.info;obtain ⟨d,d1,d2⟩:=he.xt;obtain ⟨r1,r2,r3⟩:=gw Z;obtain ⟨J,B,p,r,pre,rest,S,q2,q3,q4,q5,q6,q7,q8,q9,ea,U,av,a1⟩:=h.H k _ Y;have e1:=S.symm.trans hE;simp only [N1,jo.tok.injEq] at e1;subst e1;have e2:=q2.symm.trans hl;simp only [N1,NU] at e2;obtain ⟨rfl,rfl⟩:=e2;have e3:=q4.symm.trans he.get;simp only [N1] at e3;subst e3;have a6:news.length=n * r.size:=hx.l;have c7:pre.size=m * r.size:=by have:=cD U;rw [<- a1, <- this];rfl
 have L:pre.toList.length=m * r.size:=c7;have N:At g k (.row m e r.size cs) B:=⟨J,p,S,q2⟩;have b7:(cs++flat els).length=(m+n) * r.size:=by
  rw [N8,a1,Nat.add_mul, <- a6,cD hr]
 by_cases O:m+n<=p
 ·-- in place
  have b8:=dw (P:=P) B (m * r.size) e (0,0) news 0 (pre++rest) w q7 (by
   rw [q8,a6];simp only [Ow];rw [<- Nat.add_mul];exact Nat.mul_le_mul_right _ O) (by simp) ho
  simp only [Ow] at b8;have I:=rK (ty:=ty) (a:=⟨B,0,none⟩) he.t d1 d2 f1 (by rw [f2];exact hx) O (by rw [f2,Addr.dt,N5];exact b8);have c8:n * r.size<=rest.size:=by
   have h1:pre.size+rest.size=p * r.size:=by rw [<- Array.size_append];exact q8
   have h2:=Nat.mul_le_mul_right r.size O;rw [Nat.add_mul] at h2;omega
  have b9:(pre++rest).toList.take (m * r.size)++news++(pre++rest).toList.drop (m * r.size+news.length)=((pre++news.toArray)++(rest.toList.drop news.length).toArray).toList:=by
   rw [Array.toList_append,Array.toList_append,Array.toList_append,List.take_left' L,List.drop_append,List.drop_eq_nil_of_le (by omega),L,show m * r.size+news.length - m * r.size=news.length by omega];simp
  rw [b9] at I;have K:(w.setRow B ((pre++news.toArray)++(rest.toList.drop news.length).toArray).toList.toArray).heap[B]? =some (.cells ((pre++news.toArray)++(rest.toList.drop news.length).toArray) e (0,0)):=by
   rw [setRow_heap _ _ _ _ _ _ q7]
  have cc:((pre++news.toArray)++(rest.toList.drop news.length).toArray).size=p * r.size:=by
   rw [<- q8];simp only [Array.size_append,Pf,N3,OK];omega
  have de:g.M B=none:=by
   cases hm:g.M B with
   | none=>rfl
   | some ee=>
    have:=h.M B ee.1 ee.2 hm;rw [q7] at this;cases this
  have i1:Inv T A g (st.put k (.row m e r.size cs)) (w.setRow B ((pre++news.toArray)++(rest.toList.drop news.length).toArray).toList.toArray):=h.write Y N _ (setRow_size _ _ _) (fun _ hb=>dW _ _ _ hb)
   (fun j u G=>by rw [q9 j] at G;cases G) de (fun b' Q=>wP S q2 Q)
   ⟨J,B,p,r,pre,news.toArray++(rest.toList.drop news.length).toArray,S,q2,q3,q4,q5,q6,by rw [<- Array.append_assoc];exact K,by rw [<- Array.append_assoc];exact cc,q9,rfl,U,av,a1⟩
  have a7:Kp A g w g (w.setRow B ((pre++news.toArray)++(rest.toList.drop news.length).toArray).toList.toArray):=Kp.write (h.own k _ B Y N b6) (setRow_size _ _ _) (fun _ hb=>dW _ _ _ hb);have cd:(st.put k (.row m e r.size cs)).get k= .ok (.row m e r.size cs):=St.aP (St.cA.1 Y).1;have a8:Le g ((g.bN B 0 []).cg k (.tok fun u=>if u=m+n then some (B,p) else J u)):=by
   refine (Le.bN fun o' _ _=>q9 o').trans ⟨fun _ _ _ x=>x,fun _ _ x=>x,fun j b x=> ?_,fun j l x=> ?_,Iff.rfl⟩
   .have:j≠k:=fun e=>by subst e;have:=S.symm.trans x;cases this
    rw [Gh.bm _ _ this];exact x
   .by_cases hj:j=k
    .subst hj;have x':g.E j=some (.tok l):=x;have:=S.symm.trans x';simp only [N1,jo.tok.injEq] at this;subst this;exact ⟨_,Gh.aF _ _ _,fun u y hy=>by
      by_cases G:u=m+n
      .have:=q3 u (by omega);rw [this] at hy;cases hy
      .rw [if_neg G];exact hy⟩
    .exact ⟨l,by rw [Gh.bm _ _ hj];exact x,fun _ _ y=>y⟩
  obtain ⟨V,bb⟩:=i1.rP (hU:=fun c=>(i1.C c).2 k _ B cd N) (o1:= .row (m+n) e r.size (cs++flat els)) (loc':=fun u=>if u=m+n then some (B,p) else J u) B 0 [] cd S
   (fun u y hy=>by
    by_cases G:u=m+n
    .have:=q3 u (by omega);rw [this] at hy;cases hy
    .rw [if_neg G];exact hy) (fun o _ _=>q9 o) (fun j v hv=>by simp at hv)
   (fun id o' W cn ha=>by
    rw [St.aQ (fun e=>cn e.symm)] at W;exact cn (h.D id k o' _ B W Y ha N)) (h.own k _ B Y N b6)
   (fun b' Q=>wP (Gh.aF _ _ _) (by simp;rfl) Q)
   ⟨_,B,p,r,pre++news.toArray,(rest.toList.drop news.length).toArray,Gh.aF _ _ _,by simp,fun u G=>by rw [if_neg (by omega)];exact q3 u (by omega),q4,q5,O,K,cc,fun o=>by
     show (g.bN B 0 []).F B o=none;rw [Gh.bH _ _ _ _ (by simp)];exact q9 o,rfl,by
     rw [Array.toList_append,List.toList_toArray];exact cT a8 _ _ (df U hr),by
     intro u G;rw [Array.toList_append,List.toList_toArray] at G;rcases N9.1 G with G | G
     .exact av u G
     .exact ho u G,b7⟩
  have cv:(st.put k (.row m e r.size cs)).put k (.row (m+n) e r.size (cs++flat els))=st.put k (.row (m+n) e r.size (cs++flat els)):=by
   simp only [St.put,Tr.put,Tr.set_set]
  rw [cv] at V;refine ⟨_,_,_,I, ?_,V,a7.trans bb⟩;simp only [R];exact ⟨_,B,p,Gh.aF _ _ _,by simp,rfl,O,q5⟩
 ·-- in a new array
  have X: ∀w':World,(∀b o,w'.cell? ⟨b,o,none⟩=w.cell? ⟨b,o,none⟩)->(Builtin.firstCells r.size m (.slice (some ⟨B,0,none⟩) m p)).run P w'= .ok pre w':=fun w' dk=>by
   have:=run_firstCells_some (P:=P) w' r.size m ⟨B,0,none⟩ m p pre.toList L (fun j v hv=>by
    rw [Addr.dt,dk,N5];exact gO q7 (by simpa using hv))
   simpa using this
  have hs:Src P r.size (.slice (some ⟨B,0,none⟩) m p) m pre.toList w:=⟨by simp [Builtin.lenOf],by simpa using X w fun _ _=>rfl,by simpa using X w.drew fun _ _=>rfl,L⟩;have hg:p < m+n:=by omega
  have cz:Builtin.nextslicecap (m+n) p * f.bytes<=281474976710656:=growslice_fits hg (by rw [f3];omega);have I:=iG (ty:=ty) he.t d1 d2 f1 f4 (by rw [f2];exact hs) (by rw [f2];exact hx) hg (by omega) cz;have b4:=grownCap_ge (w:=w) (n:=m+n) (c:=p) (e:=e);generalize grownCap w (m+n) p e=s at I b4;have hw:pre.toList.toArray++news.toArray++Builtin.zeroCells z.cells (s - (m+n))=(pre.toList++news++(Builtin.zeroCells z.cells (s - (m+n))).toList).toArray:=by
   apply Array.ext';simp [On]
  rw [hw] at I;have c6:(pre.toList++news).length+(Builtin.zeroCells z.cells (s - (m+n))).toList.length=s * r.size:=by
   rw [N8,dK,f5,L,a6, <- Nat.add_mul, <- Nat.add_mul];congr 1;omega
  generalize (Builtin.zeroCells z.cells (s - (m+n))).toList=q at I c6;have hd:=h.drew;have i1:Inv T A g st (w.drew.alloc (.cells (pre.toList++news++q).toArray e)):=hd.alloc _;have a7:Kp A g w g (w.drew.alloc (.cells (pre.toList++news++q).toArray e)):=(Kp.drew A g w).trans (Kp.alloc _ hd);have K:(w.drew.alloc (.cells (pre.toList++news++q).toArray e)).heap[w.heap.size]? =some (.cells ((pre.toList++news).toArray++q.toArray) e (0,0)):=by
   have:=World.heap_alloc_new (w:=w.drew) (o:= .cells (pre.toList++news++q).toArray e);rw [show (pre.toList++news).toArray++q.toArray=(pre.toList++news++q).toArray by simp];exact this
  have b5: ∀o,g.F w.heap.size o=none:=fun o=>h.fy (NX _) o;have a8:Le g ((g.bN w.heap.size 0 []).cg k (.tok fun u=>if u=m+n then some (w.heap.size,s) else J u)):=by
   refine (Le.bN fun o' _ _=>b5 o').trans ⟨fun _ _ _ x=>x,fun _ _ x=>x,fun j b x=> ?_,fun j l x=> ?_,Iff.rfl⟩
   .have:j≠k:=fun e=>by subst e;have:=S.symm.trans x;cases this
    rw [Gh.bm _ _ this];exact x
   .by_cases hj:j=k
    .subst hj;have x':g.E j=some (.tok l):=x;have:=S.symm.trans x';simp only [N1,jo.tok.injEq] at this;subst this;exact ⟨_,Gh.aF _ _ _,fun u y hy=>by
      by_cases G:u=m+n
      .have:=q3 u (by omega);rw [this] at hy;cases hy
      .rw [if_neg G];exact hy⟩
    .exact ⟨l,by rw [Gh.bm _ _ hj];exact x,fun _ _ y=>y⟩
  obtain ⟨V,bb⟩:=i1.rP (o1:= .row (m+n) e r.size (cs++flat els)) (loc':=fun u=>if u=m+n then some (w.heap.size,s) else J u) w.heap.size 0 [] Y S
   (fun u y hy=>by
    by_cases G:u=m+n
    .have:=q3 u (by omega);rw [this] at hy;cases hy
    .rw [if_neg G];exact hy) (fun o _ _=>b5 o) (fun j v hv=>by simp at hv)
   (fun id o' W _=>h.eQ (NX _) id o' W) (h.up _ (NX _))
   (fun b' Q=>wP (Gh.aF _ _ _) (by simp;rfl) Q)
   ⟨_,w.heap.size,s,r,(pre.toList++news).toArray,q.toArray,Gh.aF _ _ _,by simp,fun u G=>by rw [if_neg (by omega)];exact q3 u (by omega),q4,q5,b4,K,by
     simp only [Array.size_append,Pf];exact c6,fun o=>by
     show (g.bN w.heap.size 0 []).F w.heap.size o=none;rw [Gh.bH _ _ _ _ (by simp)];exact b5 o,rfl,by
     rw [List.toList_toArray];exact cT a8 _ _ (df U hr),by
     intro u G;rw [List.toList_toArray] at G;rcases N9.1 G with G | G
     .exact av u G
     .exact ho u G,b7⟩
  refine ⟨_,_,_,I, ?_,V,a7.trans bb⟩;simp only [R];exact ⟨_,w.heap.size,s,Gh.aF _ _ _,by simp,rfl,b4,q5⟩
theorem qK {C:cp} {t xt ty e:TypeId} {i:TI} (H:oX P T t xt e i) {s x r:AV} {I xv:Value} {new:List AV} {p:cV} {J:Fx} (D:kH x=some new)
  (d:kj i e s new= .ok p) (f:az C st p= .ok (r,J)) (hs:R g s I) (N:R g x xv) (h:Inv T A g st w):
  aS P T A g w r (J.did.app st) (Builtin.append_ #[t,xt] ty #[I,xv]):=by
 unfold kj at d;split at d
 .cases d
 .rename_i v l;simp only [ad] at d;obtain ⟨q,hf,d⟩:=d;split at d
  .cases d
  .rename_i u;have O:=qN u;obtain ⟨news,K,L,X,M,Q⟩:=mq (P:=P) N D hf O (by simp) h;have j:0 < q.length:=by rw [Q];simp
   split at d
   .split at d
    .rename_i a;simp only [NT] at d;subst d;simp only [az,NT,NU] at f;obtain ⟨rfl,rfl⟩:=f;simp only [R] at hs;subst hs;exact Gp H K j a h L M
    .cases d
   .rename_i k z n;split at d
    .rename_i a;simp only [N0] at a;obtain ⟨a,o⟩:=a;have o:=NZ o;subst o;simp only [NT] at d;subst d;simp only [az,ad,aj] at f;obtain ⟨Y,h1,⟨v',o'⟩,y,dd,B,S⟩:=f;split at y
     .rename_i m Z z' cs;split at y
      .rename_i c;simp only [N0] at c;have U:=NZ c.1;have E:=NZ c.2.1;have F:=NZ c.2.2;subst U E F;cases y;simp only [dv] at B;split at B
       .cases B
       .rename_i G;cases B;cases S;rw [cB] at G;simp only [R] at hs;obtain ⟨loc,b,cap,V,hl,rfl,hcap,W⟩:=hs;exact GW H h1 (by omega) V hl K j a L M h
      .cases y
     .cases y
    .cases d
   .cases d
end
end Go.VM
