/-
  (A part of the proof: Ops9, Ops10, Ops11, OpsG, OpsG2, OpsW.)
-/
import Derived.Test.YtgecmbapkplklaaGreatDoorVmAA
import Derived.Test.YtgecmbapkplklaaGreatDoorVmAG
import Derived.Laws.Build
set_option linter.unusedSimpArgs false
namespace Go.VM
section
variable {P:Program} {T:TT} {A:Nat->Prop} {g:Gh} {st:St} {w:World}
theorem Az (off:Nat): ∀(new:List Value) (k:Nat) (cells:Array Value),off+k+new.length<=cells.size->
  ((new.zipIdx k).foldl (fun cs (x:Value×Nat)=>cs.setIfInBounds (off+x.2) x.1) cells).toList=cells.toList.take (off+k)++new++cells.toList.drop (off+k+new.length)
 | [],k,cells,_=>by simp
 | v::new,k,cells,h=>by
  simp only [Xk] at h;rw [List.zipIdx_cons,YJ,Az off new (k+1) _ (by simp;omega)];have e:=list_seg_step cells.toList (off+k) v new (by simp;omega);simpa [Array.toList_setIfInBounds,Yl,Yh 1] using e
theorem Im {v:Value} {off:Nat} {cells:Array Value} (h:off+v.cells.size<=cells.size):
  (v.cells.zipIdx.foldl (fun cs (x:Value×Nat)=>cs.setIfInBounds (off+x.2) x.1) cells).toList=cells.toList.take off++v.cells.toList++cells.toList.drop (off+v.cells.size):=by
 rw [<- Array.foldl_toList];have:=Az off v.cells.toList 0 cells (by simpa using h);simpa [Array.toList_zipIdx] using this
inductive sf (g:Gh):List (Nat×AV)->List (Nat×Value)->Prop
 | nil:sf g [] []
 | cons {i:Nat} {v:AV} {x:Value} {l:List (Nat×AV)} {m:List (Nat×Value)} (h:R g v x) (t:sf g l m):sf g ((i,v)::l) ((i,x)::m)
theorem I0 {v:AV} {x:Value} (h:R g v x):x.cells.size=v.cells.length/\(RL g v.cells x.cells.toList):=by
 cases v with
 | agg cs=>
  simp only [R] at h;obtain ⟨ys,rfl,h2⟩:=h;exact ⟨by simpa [AV.cells,Value.cells] using dB h2,h2⟩
 | opq i=>
  have hx:x.cells= #[x]:=by
   simp only [R] at h;rcases h with ⟨_,rfl | ⟨_,_,rfl⟩⟩ | ⟨_,_,rfl⟩ <;> rfl
  rw [hx];exact ⟨rfl,cH h fQ⟩
 | _=>
  have hx:x.cells= #[x]:=by
   simp only [R] at h
   first
    | (obtain ⟨_,_,_,_,_,rfl,_⟩:=h;rfl)
    | (obtain ⟨_,_,_,_,_,rfl⟩:=h;rfl)
    | (subst h;rfl)
    | (obtain ⟨_,_,_,rfl,_⟩:=h;rfl)
    | (obtain ⟨_,_,rfl⟩:=h;rfl)
    | (obtain ⟨_,_,_,_,rfl,_⟩:=h;rfl)
    | (obtain ⟨_,_,rfl,_⟩:=h;rfl)
    | (obtain ⟨_,rfl,_⟩:=h;rfl)
    | (obtain ⟨_,_,_,rfl,_⟩:=h;rfl)
  rw [hx];exact ⟨rfl,cH h fQ⟩
theorem ly {place place':Nat->Option (Nat×Nat)} (a: ∀k p,place k=some p->place' k=some p): ∀{parts:List (Nat×AV)} {parts':List (Nat×Value)} {cells cs:List AV} {xs:Array Value},
  sf g parts parts'->RL g cells xs.toList->ld place cells parts= .ok cs-> ∃ys,Instr.fill place' xs parts'=some ys/\RL g cs ys.toList
 | _,_,_,_,_,.nil,hr,h=>by
  simp only [ld,WT] at h;subst h;exact ⟨_,rfl,hr⟩
 | _,_,cells,cs,xs,.cons (i:=i) (v:=v) (x:=x) hv ht,hr,h=>by
  simp only [ld] at h;split at h
  .cases h
  .rename_i off size hp;split at h
   .rename_i hc;simp only [WY] at hc;have h1:=W2 hc.1;have h2:=WU hc.2;obtain ⟨c1,c2⟩:=I0 hv;have b:=dB hr;simp only [XX] at b;have c:(x.cells.zipIdx.foldl (fun cs (y:Value×Nat)=>cs.setIfInBounds (off+y.2) y.1) xs).toList=xs.toList.take off++x.cells.toList++xs.toList.drop (off+x.cells.size):=Im (by omega);have d:RL g (cJ cells off v.cells) (x.cells.zipIdx.foldl (fun cs (y:Value×Nat)=>cs.setIfInBounds (off+y.2) y.1) xs).toList:=by
     rw [c];have:=uP off hr c2;simpa using this
    obtain ⟨ys,k1,k2⟩:=ly a ht d h;refine ⟨ys, ?_,k2⟩;simp only [Instr.fill,a _ _ hp];rw [if_neg (by simp;omega)];exact k1
   .cases h
theorem rU (hT:wW P T) {w:World}: ∀{fields:List Field} {ps:List (Nat×Nat)},oF T (fields.map fun f=>(f.offset,f.type))= .ok ps->
  (fields.mapM fun f=>do pure (f.offset, <- sizeOf f.type):Sem (List (Nat×Nat))).run P w= .ok ps w
 | [],_,h=>by
  simp only [Xm,oF,WT] at h;subst h;rfl
 | f::l,_,h=>by
  simp only [W8,oF,ag,au] at h;obtain ⟨i,h1,ps,h2,rfl⟩:=h;have hi:=hT _ i (cB.1 h1);have ih:=rU hT (w:=w) h2;rw [List.mapM_cons];simp only [Sem.run_bind,hi.dh,Result.andThen_ok,Sem.run_pure,ih]
theorem D2 (hT:wW P T) {t:TypeId} {parts:List (Nat×AV)} {parts':Array (Nat×Value)} {v:AV} (hp:build T t parts= .ok v) (hr:sf g parts parts'.toList) (h:Inv T A g st w):
  bl P T A g w v st (Instr.build t parts'):=by
 simp only [build,ag] at hp;obtain ⟨i,h1,h2⟩:=hp;have hi:=hT t i (cB.1 h1);obtain ⟨z,d,z2,z3,z4,z5,z6⟩:=hi.qo;split at h2
 .rename_i fs hu;obtain ⟨fields,k1,k2⟩:=sL hi hu;simp only [ag,au] at h2;obtain ⟨ps,h3,cs,h4,rfl⟩:=h2;rw [<- k2] at h3;have hm:=rU hT (w:=w) h3;obtain ⟨ys,a,b⟩:=ly (place':=fun k=>ps.toArray[k]?) (fun k p hk=>by simpa using hk) hr (z6 g) h4;refine bl.of h (x:= .agg ys) ?_ (by simp only [R];exact ⟨ys,rfl,b⟩);have c:(fields.mapM fun f=>do pure (f.offset, <- sizeOf f.type):Sem (Array (Nat×Nat))).run P w= .ok ps.toArray w:=by
   rw [Array.mapM_eq_mapM_toList];simp only [Sem.run_map,hm,Result.andThen_ok]
  simp only [Instr.build,Sem.run_bind,d,Result.andThen_ok,k1,c,a,Sem.run_pure]
 .rename_i n e hu;have k1:=qG hi hu;simp only [ag,au] at h2;obtain ⟨j,h3,cs,h4,rfl⟩:=h2;have hj:=hT _ j (cB.1 h3);obtain ⟨ys,a,b⟩:=ly (place':=fun k=>some (k * j.size,j.size)) (fun k p hk=>hk) hr (z6 g) h4;refine bl.of h (x:= .agg ys) ?_ (by simp only [R];exact ⟨ys,rfl,b⟩);simp only [Instr.build,Sem.run_bind,d,Result.andThen_ok,k1,hj.dh,a,Sem.run_pure]
 .cases h2
theorem Ie {v:AV} (h:one v=true):v.cells=[v]:=by cases v <;> first | rfl | simp [one] at h
theorem IX {l:List AV} (n:Nat) (h:fw l=true):fw (l.drop n)=true:=by
 induction n generalizing l with
 | zero=>exact h
 | succ n ih=>
  cases l with
  | nil=>rfl
  | cons v l=>
   simp only [fw,WY] at h;exact ih h.2
theorem sM {sz:Nat} {agg:Bool} (hz:agg=false->sz=1): ∀{n:Nat} {cs els:List AV},fw cs=true->group sz agg n cs= .ok els->flat els=cs.take (n * sz)/\(∀e∈els,e.cells.length=sz)/\els.length=n
 | 0,cs,els,_,h=>by
  simp only [group,WT] at h;subst h;simp [flat]
 | n+1,cs,els,ho,h=>by
  simp only [group,ag,au] at h;obtain ⟨v,h1,l,h2,rfl⟩:=h;obtain ⟨k1,k2,a⟩:=sM hz (IX sz ho) h2;have key:v.cells=cs.take sz/\v.cells.length=sz:=by
   cases agg with
   | true=>
    simp only [cR] at h1;split at h1
    .rename_i hle;have hle:=WU hle;simp only [WT] at h1;subst h1;exact ⟨rfl,by simp [AV.cells];omega⟩
    .cases h1
   | false=>
    have hz:=hz rfl;subst hz;simp only [cR] at h1;cases cs with
    | nil=>cases h1
    | cons c cs=>
     simp only [WT] at h1;subst h1;simp only [fw,WY] at ho;rw [Ie ho.1];exact ⟨rfl,rfl⟩
  refine ⟨?_, ?_,by simp [a]⟩
  .rw [gL,k1,key.1,Nat.add_mul,Nat.one_mul,Yh,List.take_add]
  .intro e he;rcases Xb.1 he with rfl | he
   .exact key.2
   .exact k2 e he
def jX (z:List Value):Nat->List Value
 | 0=>[]
 | n+1=>z++jX z n
theorem zC {z:List AV} {zs:List Value} (h:RL g z zs): ∀n,RL g (zeros z n) (jX zs n)
 | 0=>fQ
 | n+1=>eN h (zC h n)
theorem yM (z:List Value): ∀(n j:Nat),j < n * z.length->(jX z n)[j]? =z[j % z.length]?
 | 0,j,h=>by omega
 | n+1,j,h=>by
  simp only [jX];have hz:0 < z.length:=by
   rcases Nat.eq_zero_or_pos z.length with q | q
   .rw [q] at h;omega
   .exact q
  rw [Nat.add_mul,Nat.one_mul] at h;rcases Nat.lt_or_ge j z.length with q | q
  .rw [Xr q,Nat.mod_eq_of_lt q]
  .rw [XB q,yM z n _ (by omega),Nat.mod_eq_sub_mod q]
theorem rO (z:List Value): ∀n,(jX z n).length=n * z.length
 | 0=>by simp [jX]
 | n+1=>by simp only [jX,W9,rO z n,Nat.add_mul];omega
theorem En (z:Array Value) (n:Nat):((Array.range (n * z.size)).map fun i=>z[i % z.size]!).toList=jX z.toList n:=by
 apply List.ext_getElem?
 intro j;rcases Nat.lt_or_ge j (n * z.size) with q | q
 .rw [yM _ _ _ (by simpa using q)];have hz:0 < z.size:=by
   rcases Nat.eq_zero_or_pos z.size with r | r
   .rw [r] at q;omega
   .exact r
  have hm:j % z.size < z.size:=Nat.mod_lt _ hz;simp [q,hm]
 .rw [Xu (by simpa using q),Xu (by rw [rO];simpa using q)]
theorem NA {t:TypeId} {i:TI} (hi:jD P t i):i.agg=false->i.size=1:=by
 obtain ⟨f,h1,h2,h3,z,h4,a,b,_⟩:=hi.info;intro ha;have:=b ha;rw [<- a];cases z <;> first | rfl | simp [Value.oneCell'] at this
theorem zR {cs new:List AV} {off:Nat} (h:off+new.length<=cs.length):(cJ cs off new).length=cs.length:=by
 simp [cJ];omega
theorem yB {place:Nat->Option (Nat×Nat)}: ∀{parts:List (Nat×AV)} {cells cs:List AV},ld place cells parts= .ok cs->cs.length=cells.length
 | [],_,_,h=>by
  simp only [ld,WT] at h;rw [h]
 | (i,v)::l,cells,cs,h=>by
  simp only [ld] at h;split at h
  .cases h
  .split at h
   .rename_i hc;simp only [WY] at hc;have h1:=W2 hc.1;have h2:=WU hc.2;rw [yB h,zR (by omega)]
   .cases h
theorem tS (z:List AV): ∀n,(zeros z n).length=n * z.length
 | 0=>by simp [zeros]
 | n+1=>by simp only [zeros,W9,tS z n,Nat.add_mul];omega
theorem uM (hT:wW P T) {t:TypeId} {len:Nat} {parts:List (Nat×AV)} {parts':Array (Nat×Value)} {v:AV} (hp:buildSlice T t len parts= .ok v) (hr:sf g parts parts'.toList) (h:Inv T A g st w):
  bl P T A g w v st (Instr.buildSlice t len parts'):=by
 simp only [buildSlice,ag] at hp;obtain ⟨i,h1,h2⟩:=hp;have hi:=hT t i (cB.1 h1);split at h2
 .rename_i e hu;have k1:=eJ hi hu;simp only [ag] at h2;obtain ⟨j,h3,h4⟩:=h2;have hj:=hT _ j (cB.1 h3);split at h4
  .rename_i hc;simp only [WY] at hc;have c1:=WU hc.1;have c2:=WU hc.2;simp only [ag] at h4;obtain ⟨cs,s,f⟩:=h4;split at f
   .rename_i a;simp only [ag,au] at f;obtain ⟨els,y,b,B,rfl⟩:=f;obtain ⟨z,C,z2,z3,z4,z5,z6⟩:=hj.qo;have n:RL g (zeros j.zero len) ((Array.range (len * z.cells.size)).map fun i=>z.cells[i % z.cells.size]!).toList:=by
     rw [En];exact zC (z6 g) len
    obtain ⟨ys,l,m⟩:=ly (place':=fun k=>some (k * j.size,j.size)) (fun k p hk=>hk) hr n s;have o:ys.size=len * j.size:=by
     have q1:=yB s;rw [tS] at q1;have q2:=dB (z6 g);have q3:=dB m;simp only [XX] at q2 q3;rw [q3,q1, <- q2,z2]
    obtain ⟨f1,f2,f3⟩:=sM (NA hj) a y;have x:cs.length=len * j.size:=by rw [<- dB m];simpa using o
    rw [List.take_of_length_le (by omega)] at f1;have q:RL g (flat els) ys.toList:=by rw [f1];exact m
    obtain ⟨q1,q2,q3,D⟩:=nT B q;have d:=qM a m;obtain ⟨n1,E,n3⟩:=h.Dk e q1 d;refine ⟨.slice (some ⟨w.heap.size,0,none⟩) len len,_,_, ?_, ?_,n1,E⟩
    .simp only [Instr.buildSlice,Sem.run_bind,k1,Result.andThen_ok,hj.dh,Sem.run_ite];rw [if_neg (by omega)];by_cases c:len * j.size=0
     .rw [z2,c] at l;simp only [c,if_true,Sem.run_pure,Result.andThen_ok];have:(Array.range 0).map (fun i=>(#[]:Array Value)[i % (#[]:Array Value).size]!)=(Array.range 0).map fun i=>z.cells[i % j.size]! :=by simp
      rw [this,l];simp only [Sem.run_bind,jY,Result.andThen_ok,Sem.run_pure]
     .rw [z2] at l;simp only [c,if_false,Sem.run_bind,C,Result.andThen_ok,Sem.run_pure,z2,l,jY]
    .simp only [R];refine ⟨q2,w.heap.size,0,len,by rw [q3,f3],by rw [q3,f3];omega,c2, ?_,by show len=b.length;rw [q3,f3]⟩;rw [dL];refine ⟨?_,n3⟩;intro u hu;have:u.cells.length∈b.map (·.cells.length):=XY.2 ⟨u,hu,rfl⟩;rw [D] at this;obtain ⟨F,r,e⟩:=XY.1 this;rw [<- e];exact f2 F r
   .cases f
  .cases h4
 .cases h2
end
section
variable {P:Program} {T:TT} {A:Nat->Prop} {g:Gh} {st:St} {w:World}
mutual
theorem nq (g:Gh): ∀(x:Value) (v:AV),ofConst x= .ok v->R g v x
  | .bool _,v,h | .int _ _,v,h | .float _ _,v,h | .nilFunc,v,h | .nilIface,v,h=>by
    unfold ofConst at h;simp only [WT] at h;subst h;simp only [R]
  | .string s,v,h=>by
    unfold ofConst at h;simp only [WT] at h;subst h;simp only [R]
  | .pointer a,v,h=>by
    cases a with
    | none=>unfold ofConst at h;simp only [WT] at h;subst h;simp only [R]
    | some _=>unfold ofConst at h;cases h
  | .slice a l c,v,h=>by
    unfold ofConst at h;split at h <;> rename_i heq <;> (try (cases heq;done)) <;> (try (cases h;done))
    cases heq;simp only [WT] at h;subst h;simp only [R]
  | .map a,v,h=>by
    cases a with
    | none=>unfold ofConst at h;simp only [WT] at h;subst h;simp only [R]
    | some _=>unfold ofConst at h;cases h
  | .agg cs,v,h=>by
    unfold ofConst at h;simp only [ag,au] at h;obtain ⟨vs,h1,rfl⟩:=h;simp only [R];exact ⟨cs,rfl,mw g cs.toList vs h1⟩
  | .tuple cs,v,h=>by
    unfold ofConst at h;simp only [ag,au] at h;obtain ⟨vs,h1,rfl⟩:=h;simp only [R];exact ⟨cs,rfl,mw g cs.toList vs h1⟩
  | .complex _ _ _,v,h | .chan _,v,h | .func _ _ _,v,h | .iface _ _,v,h=>by
    unfold ofConst at h;cases h
theorem mw (g:Gh): ∀(xs:List Value) (vs:List AV),ofConst.ofAll xs= .ok vs->RL g vs xs
  | [],vs,h=>by
    unfold ofConst.ofAll at h;simp only [WT] at h;subst h;exact fQ
  | x::xs,vs,h=>by
    unfold ofConst.ofAll at h;simp only [ag,au] at h;obtain ⟨v,h1,l,h2,rfl⟩:=h;exact cH (nq g x v h1) (mw g xs l h2)
end
theorem B6:R g undef Go.undef:=by
  simp only [undef,R];exact ⟨#[],rfl,by simp [RL]⟩
theorem wP.put {fr:Fr} {tmps:Array Value} (h:wP g fr tmps) {v:AV} {x:Value} (hx:R g v x) (d:Option Tmp):
    wP g (fr.put d v) (match d with | some d=>tmps.setIfInBounds d x | none=>tmps):=by
  cases d with
  | none=>exact h
  | some d=>
    simp only [Fr.put];split
    · rename_i hd
      rw [dD, <- h.size] at hd;refine ⟨by simp [h.size],fun t=> ?_⟩;simp only [Fr.get,Tr.ko];by_cases ht:d=t
      · subst ht
        right;simpa [hd] using hx
      · have:=h.at' t
        simp only [Fr.get] at this;simpa [ht,Array.getElem?_setIfInBounds_ne ht] using this
    · rename_i hd
      rw [cW, <- h.size] at hd;rw [Array.setIfInBounds_eq_of_size_le (by simpa using hd)];exact h
def GR (g:Gh) (G:Nat->Option (List AV)):Prop:= ∀k cs,G k=some cs->bL cs=true/\nI g cs k 0
theorem GR.mono {g g':Gh} {G:Nat->Option (List AV)} (h:GR g G) (le:Le g g'):GR g' G:=fun k cs hk=>⟨(h k cs hk).1,tI le _ _ _ (h k cs hk).2⟩
theorem aO {G:Nat->Option (List AV)} {fr:Fr} {a:Act} {x:Operand} {v:AV} (b:GR g G) (hf:wP g fr a.tmps) (h:cj G fr x= .ok v):R g v (a.eval x):=by
  cases x with
  | tmp t=>
    simp only [cj] at h;split at h
    · rename_i hs
      simp only [WT] at h;subst h;exact hf.at hs t
    · split at h
      · rename_i u hu
        simp only [WT] at h;subst h;rcases hf.at' t with ⟨_,h2⟩ | h2
        · rw [hu] at h2;cases h2
        · rw [Fr.get,hu] at h2;exact h2
      · cases h
  | const c=>exact nq g c v h
  | global k=>
    simp only [cj] at h;split at h
    · rename_i cs hk
      simp only [WT] at h;subst h;obtain ⟨h1,h2⟩:=b k cs hk;simp only [R,Act.eval];exact ⟨h1,k,0,rfl,h2⟩
    · cases h
  | func f=>
    simp only [cj,WT] at h;subst h;simp only [R,Act.eval];exact ⟨#[], #[],rfl,by simp [RL],by simp [RL]⟩
theorem mJ {G:Nat->Option (List AV)} {fr:Fr} {a:Act} (b:GR g G) (hf:wP g fr a.tmps): ∀{xs:List Operand} {vs:List AV},mG G fr xs= .ok vs->RL g vs (xs.map a.eval)
  | [],_,h=>by simp only [mG,WT] at h;subst h;exact fQ
  | x::xs,_,h=>by
    simp only [mG,ag,au] at h;obtain ⟨v,h1,l,h2,rfl⟩:=h;exact cH (aO b hf h1) (mJ b hf h2)
theorem mW {G:Nat->Option (List AV)} {fr:Fr} {a:Act} (b:GR g G) (hf:wP g fr a.tmps) {x:Option Operand} {v:Option AV} (h:dY G fr x= .ok v):Lt g v (x.map a.eval):=by
  cases x with
  | none=>simp only [dY,WT] at h;subst h;trivial
  | some x=>
    simp only [dY,ag,au] at h;obtain ⟨u,h1,rfl⟩:=h;exact aO b hf h1
theorem lb {G:Nat->Option (List AV)} {fr:Fr} {a:Act} (b:GR g G) (hf:wP g fr a.tmps): ∀{xs:List (Nat×Operand)} {vs:List (Nat×AV)},gn G fr xs= .ok vs->sf g vs (xs.map fun (i,x)=>(i,a.eval x))
  | [],_,h=>by simp only [gn,WT] at h;subst h;exact .nil
  | (i,x)::xs,_,h=>by
    simp only [gn,ag,au] at h;obtain ⟨v,h1,l,h2,rfl⟩:=h;exact .cons (aO b hf h1) (lb b hf h2)
theorem we {d:TypeDesc} {u:U} {a b:AV} {r:Bool} {x y:Value} (hu:xR d u) (ha:pk u a=true) (h:rR a b= .ok r) (hx:R g a x) (hy:R g b y):Instr.sameNow d x y=some r:=by
  unfold rR at h;split at h
  · simp only [WT] at h
    subst h;simp only [R] at hx hy;subst hx hy;cases u <;> simp [pk] at ha
    simp only [xR] at hu;subst hu;rfl
  · rename_i j a k b
    split at h
    · rename_i hjk
      subst hjk;simp only [WT] at h;subst h;simp only [R] at hx hy;subst hx hy;cases u <;> simp [pk] at ha
      simp only [xR] at hu;subst hu;simp [Instr.sameNow]
    · cases h
  · simp only [WT] at h
    subst h;simp only [R] at hx hy;subst hx hy;cases u <;> simp [pk] at ha
    simp only [xR] at hu;subst hu;simp [Instr.sameNow,E9]
  · cases h
theorem pn {d:TypeDesc} {u:U} {k:AV} {c:Value} (hu:xR d u) (hk:pk u k=true) (hx:R g k c): ∀{es:List (AV×AV)} {ents:List MapEntry} {r:Option AV} (i:Nat),ig k es= .ok r->rb g es ents->
    match r with
    | none=>Instr.findNow d c ents i=some none
    | some v=> ∃j y,Instr.findNow d c ents i=some (some (j,y))/\R g v y
  | [],_,_,i,h,hr=>by
    simp only [ig,WT] at h;subst h;simp only [rb] at hr;subst hr;rfl
  | (a,v)::es,_,r,i,h,hr=>by
    simp only [rb] at hr;obtain ⟨e,l,rfl,f,r2,m⟩:=hr;simp only [ig,ag] at h;obtain ⟨b,h1,h2⟩:=h;have hs:=we hu hk h1 hx f;cases b with
    | true=>
      simp only [au] at h2;subst h2;exact ⟨i,e.val,by simp [Instr.findNow,hs],r2⟩
    | false=>
      have ih:=pn hu hk hx (i+1) h2 m;cases r with
      | none=>simp only [Instr.findNow,hs];exact ih
      | some v'=>
        obtain ⟨j,y,h3,h4⟩:=ih;exact ⟨j,y,by simp only [Instr.findNow,hs];exact h3,h4⟩
theorem run_checkKey {a:TypeId} {d:TypeDesc} {u:U} {k:AV} {c:Value} (hd:P.underlying a=some d) (hu:xR d u) (hk:pk u k=true) (hx:R g k c) (b:Bool) (n:Nat):
    (Instr.checkKey b (n+1) a c).run P w= .ok () w:=by
  cases u <;> cases k <;> simp [pk] at hk <;> simp only [xR] at hu <;> simp only [R] at hx <;> subst hu hx <;> simp [Instr.checkKey,gd hd]
theorem run_findKey {a:TypeId} {d:TypeDesc} {b:Value} {ents:List MapEntry} {r:Option (Nat×Value)} (hd:P.underlying a=some d) (h:Instr.findNow d b ents 0=some r):
    (Instr.findKey a b ents).run P w= .ok r w:=by
  simp [Instr.findKey,gd hd,h]
theorem DK {t:TypeId} {i:TI} (hi:jD P t i): ∃z,(∀w,(zeroValue t).run P w= .ok z w)/\R g (zeroV i) z:=by
  obtain ⟨z,d,z2,z3,z4,z5,z6⟩:=hi.qo;refine ⟨z,d, ?_⟩;cases ha:i.agg with
  | true=>
    obtain ⟨cs,rfl⟩:=z5 ha;simp only [zeroV,ha,R];exact ⟨cs,rfl,z6 g⟩
  | false=>
    have h1:=z3 ha;have hz:z.cells= #[z]:=by cases z <;> first | rfl | simp [Value.oneCell'] at h1
    have a:=z6 g;rw [hz] at a;cases hl:i.zero with
    | nil=>rw [hl] at a;simp only [RL] at a;cases a
    | cons v l=>
      rw [hl] at a;simp only [RL] at a;obtain ⟨x,xs,b,f,c⟩:=a;simp only [XV] at b;obtain ⟨rfl,rfl⟩:=b;cases l with
      | nil=>simp only [zeroV,ha,hl];exact f
      | cons u l=>simp only [RL] at c;obtain ⟨_,_,e,_⟩:=c;cases e
theorem pW {h c:TypeId} {i:TI} {d:TypeDesc} {u:U} {ok:Bool} {k v:AV} {e:Value} {es:List (AV×AV)} {ents:Array MapEntry} (hi:jD P h i) (hd:P.underlying c=some d) (hu:xR d u) (hk:pk u k=true) (hx:R g k e)
    (hf:found i ok k es= .ok v) (hr:rb g es ents.toList):(Instr.checkKey ents.isEmpty 10000 c e).run P w= .ok () w/\
      ((∃j y,(Instr.findKey c e ents.toList).run P w= .ok (some (j,y)) w/\R g v (if ok then Value.tuple #[y,.bool true] else y))\/
       ((Instr.findKey c e ents.toList).run P w= .ok none w/\ ∃z,(zeroValue h).run P w= .ok z w/\R g v (if ok then Value.tuple #[z,.bool false] else z))):=by
  simp only [found,ag] at hf;obtain ⟨fr,h3,h4⟩:=hf;have a:=pn hu hk hx 0 h3 hr;obtain ⟨z,l,z2⟩:=DK (g:=g) hi;have fin: ∀(b:Bool) (v':AV) (y:Value),R g v' y->R g (okV ok b v') (if ok then Value.tuple #[y,.bool b] else y):=fun b v' y hy=>by
    cases ok with
    | true=>simp only [okV,if_true,R];exact ⟨_,rfl,cH hy (cH (by simp only [R]) fQ)⟩
    | false=>simpa [okV] using hy
  have f:=run_checkKey (w:=w) hd hu hk hx ents.isEmpty 9999;refine ⟨f, ?_⟩;cases fr with
  | none=>
    simp only [au] at h4;subst h4;exact .inr ⟨run_findKey hd a,z,l w,fin false _ z z2⟩
  | some o=>
    simp only [au] at h4;subst h4;obtain ⟨j,y,m,n⟩:=a;exact .inl ⟨j,y,run_findKey hd m,fin true _ y n⟩
theorem CI (hT:wW P T) {C:df} {t:TypeId} {x k v:AV} {xv E:Value} {ok:Bool} {p:dG} {F:Fx} (hp:js T t x k ok= .ok p) (hrun:aC C st p= .ok (v,F)) (hx:R g x xv) (hk:R g k E) (h:Inv T A g st w):
    bl P T A g w v (F.did.app st) (Instr.lookup t xv E ok):=by
  simp only [js,ag] at hp;obtain ⟨i,h1,h2⟩:=hp;have hi:=hT t i (cB.1 h1);split at h2
  · rename_i K L hu
    have k1:=tu hi hu;simp only [ag] at h2;obtain ⟨G,h3,I,h4,l⟩:=h2;have n:=hT _ G (cB.1 h3);have B:=hT _ I (cB.1 h4);obtain ⟨d,d1,d2,_⟩:=B.und;split at l
    · cases l
    · rename_i q
      split at l
      · simp only [ag,au] at l
        obtain ⟨u,D,rfl⟩:=l;simp only [aC,WT,WV] at hrun;obtain ⟨rfl,rfl⟩:=hrun;simp only [R] at hx;subst hx;obtain ⟨c,⟨j,y,a,e⟩ | ⟨a,z,e,s⟩⟩:=pW (P:=P) (w:=w) (ents:= #[]) n d1 d2 q hk D (by simp [rb])
        · simp only [List.isEmpty_toArray,List.isEmpty_nil] at c
          exact bl.of h (by simp [Instr.lookup,k1,c,a]) e
        · simp only [List.isEmpty_toArray,List.isEmpty_nil] at c
          exact bl.of h (by simp [Instr.lookup,k1,c,a,e]) s
      · rename_i es
        simp only [ag,au] at l;obtain ⟨u,D,rfl⟩:=l;simp only [aC,WT,WV] at hrun;obtain ⟨rfl,rfl⟩:=hrun;simp only [R] at hx;obtain ⟨b,ents,clk,m1,rfl,m2⟩:=hx;have r:=h.M b ents clk m1;have f:(getObj b).run P w= .ok (.map ents.toArray clk) w:=by simp [getObj,Sem.run,r]
        obtain ⟨c,⟨j,y,a,e⟩ | ⟨a,z,e,s⟩⟩:=pW (P:=P) (w:=w) (ents:=ents.toArray) n d1 d2 q hk D (by simpa using m2)
        · exact bl.of h (by simp only [Instr.lookup,Sem.run_bind,k1,Result.andThen_ok,f,Sem.run_pure,c,a]) e
        · exact bl.of h (by simp only [Instr.lookup,Sem.run_bind,k1,Result.andThen_ok,f,Sem.run_pure,c,a,e]) s
      · rename_i m
        simp only [au] at l;subst l;simp only [iN,aC,ag,au] at hrun;obtain ⟨o,g1,⟨v',o'⟩,⟨J,g2,g4⟩,dd,g5,g6⟩:=hrun;simp only [WV] at g4 g6;obtain ⟨rfl,rfl⟩:=g4;simp only [eG,WT] at g5;subst g5;obtain ⟨rfl,rfl⟩:=g6;split at g2
        · rename_i es
          simp only [R] at hx;obtain ⟨b,hE,rfl⟩:=hx;obtain ⟨b',ents,clk,q1,q2,q3,N⟩:=h.H m _ g1;have hb:b'=b:=by have:=q1.symm.trans hE;simpa using this
          subst hb;have f:(getObj b').run P w= .ok (.map ents clk) w:=by simp [getObj,Sem.run,q2]
          obtain ⟨c,⟨j,y,a,e⟩ | ⟨a,z,e,s⟩⟩:=pW (P:=P) (w:=w) (ents:=ents) n d1 d2 q hk g2 q3
          · exact bl.of h (by simp only [Instr.lookup,Sem.run_bind,k1,Result.andThen_ok,f,Sem.run_pure,c,a]) e
          · exact bl.of h (by simp only [Instr.lookup,Sem.run_bind,k1,Result.andThen_ok,f,Sem.run_pure,c,a,e]) s
        · cases g2
      · cases l
  · cases h2
end
section
variable {P:Program} {T:TT} {A:Nat->Prop} {g:Gh} {st:St} {w:World}
theorem Ks {a b:AV} (h:rR a b= .ok true):a=b:=by
 unfold rR at h;split at h
 .simp only [WT,XA] at h;subst h;rfl
 .split at h
  .rename_i hjk;subst hjk;simp only [WT,XA] at h;subst h;rfl
  .cases h
 .simp only [WT,XA] at h;subst h;rfl
 .cases h
theorem Gn {a b:AV} {x y:Value} (h:rR a b= .ok true) (hx:R g a x) (hy:R g b y) (n:Nat):Instr.sameBits n y x=true:=by
 unfold rR at h;split at h
 .simp only [WT,XA] at h;subst h;simp only [R] at hx hy;subst hx hy;cases n <;> simp [Instr.sameBits]
 .split at h
  .rename_i hjk;subst hjk;simp only [WT,XA] at h;subst h;simp only [R] at hx hy;subst hx hy;cases n <;> simp [Instr.sameBits]
  .cases h
 .simp only [WT,XA] at h;subst h;simp only [R] at hx hy;subst hx hy;have:=fun s:List UInt8=>E9 s s;cases n <;> simp [Instr.sameBits,this]
 .cases h
theorem qc {d:TypeDesc} {u:U} {k v:AV} {f o:Value} (hu:xR d u) (hk:pk u k=true) (hx:R g k f) (hv:R g v o): ∀{es es':List (AV×AV)} {ents:List MapEntry} (i:Nat),pE k v es= .ok es'->rb g es ents->
  (Instr.findNow d f ents i=some none/\ ∀n,rb g es' (ents++[{key:=f,val:=o,born:=n}]))\/
  (∃j y e,Instr.findNow d f ents i=some (some (i+j,y))/\ents[j]? =some e/\Instr.sameBits 10000 e.key f=true/\rb g es' (ents.modify j fun e=>{e with key:=f,val:=o}))
 | [],_,_,i,h,hr=>by
  simp only [pE,WT] at h;subst h;simp only [rb] at hr;subst hr;exact .inl ⟨rfl,fun n=>by simp only [rb];exact ⟨_,_,rfl,hx,hv,rfl⟩⟩
 | (a,b)::es,_,_,i,h,hr=>by
  simp only [rb] at hr;obtain ⟨e,l,rfl,m,r2,p⟩:=hr;simp only [pE,ag] at h;obtain ⟨c,h1,h2⟩:=h;have hs:=we hu hk h1 hx m;cases c with
  | true=>
   simp only [au] at h2;subst h2;refine .inr ⟨0,e.val,e,by simp [Instr.findNow,hs],rfl,Gn h1 hx m _, ?_⟩;simp only [List.modify_zero_cons,rb];have:=Ks h1;subst this;exact ⟨_,_,rfl,hx,hv,p⟩
  | false=>
   simp only [ag,au] at h2;obtain ⟨s,h3,rfl⟩:=h2;rcases qc hu hk hx hv (i+1) h3 p with ⟨q1,q2⟩ | ⟨j,y,q,q1,q2,q3,r⟩
   .refine .inl ⟨by simp only [Instr.findNow,hs];exact q1,fun n=> ?_⟩;simp only [Xf,rb];exact ⟨_,_,rfl,m,r2,q2 n⟩
   .refine .inr ⟨j+1,y,q, ?_,by simpa using q2,q3, ?_⟩
    .simp only [Instr.findNow,hs];rw [show i+(j+1)=i+1+j by omega];exact q1
    .simp only [List.modify_succ_cons,rb];exact ⟨_,_,rfl,m,r2,r⟩
theorem sY {w:World} {b:Nat} {o o':Go.Obj} (h:w.heap[b]? =some o):({w with heap:=w.heap.setIfInBounds b o'}:World).heap[b]? =some o':=by
 have:=lt_of_heap h;simp [this]
theorem oQ {w:World} {b b':Nat} {o':Go.Obj} (h:b'≠b):({w with heap:=w.heap.setIfInBounds b o'}:World).heap[b']? =w.heap[b']? :=by
 simp [Array.getElem?_setIfInBounds_ne (fun e=>h e.symm)]
theorem wi (h:Inv T A g st w) {b:Nat} {o:Go.Obj} (hb:w.heap[b]? =some o) (hn: ∀vs ty fz,o≠ .cells vs ty fz) (k:Nat):g.F b k=none:=by
 cases hf:g.F b k with
 | none=>rfl
 | some v=>
  obtain ⟨vs,ty,fz,h2,_⟩:=nQ (h.F b k v hf);rw [hb] at h2;cases h2;exact absurd rfl (hn vs ty fz)
theorem pB (hT:wW P T) {C:df} {t:TypeId} {m k v r:AV} {J f B:Value} {p:dG} {K:Fx} (hp:oq T t m k v= .ok p) (hrun:aC C st p= .ok (r,K)) (hm:R g m J) (hk:R g k f) (hv:R g v B) (h:Inv T A g st w):
  r=undef/\BC P T A g w (K.did.app st) (Instr.mapUpdate t J f B):=by
 simp only [oq,ag] at hp;obtain ⟨i,h1,h2⟩:=hp;have hi:=hT t i (cB.1 h1);split at h2
 .rename_i S U hu;have k1:=tu hi hu;simp only [ag] at h2;obtain ⟨M,h3,h4⟩:=h2;have F:=hT _ M (cB.1 h3);obtain ⟨d,d1,d2,_⟩:=F.und;split at h4
  .rename_i id l;simp only [au] at h4;subst h4;simp only [aC,ag,au] at hrun;obtain ⟨o,g1,⟨v',o'⟩,g2,dd,g5,g6⟩:=hrun;split at g2
   .rename_i es;simp only [ag,au,WV] at g2;obtain ⟨es',g3,rfl,rfl⟩:=g2;simp only [eG] at g5;split at g5
    .cases g5
    .rename_i n;rw [cW] at n;simp only [WT] at g5;subst g5;simp only [WV] at g6;obtain ⟨rfl,rfl⟩:=g6;refine ⟨rfl, ?_⟩;simp only [R] at hm;obtain ⟨b,hE,rfl⟩:=hm;obtain ⟨b',ents,clk,q1,q2,q3,L⟩:=h.H id _ g1;have hb:b'=b:=by have:=q1.symm.trans hE;simpa using this
     subst hb;have q:(getObj b').run P w= .ok (.map ents clk) w:=by simp [getObj,Sem.run,q2]
     have s:=run_checkKey (w:=w) d1 d2 l hk false 9999;have N:=fun kk=>wi h q2 (by simp) kk;have fin: ∀a c,rb g es' a.toList->(setObj b' (.map a c)).run P w= .ok () {w with heap:=w.heap.setIfInBounds b' (.map a c)}/\
       Inv T A g (st.put id (.map es')) {w with heap:=w.heap.setIfInBounds b' (.map a c)}/\Kp A g w g {w with heap:=w.heap.setIfInBounds b' (.map a c)}:=fun a c hr=>by
      refine ⟨by simp [setObj,Sem.run,q2],h.write g1 (o:= .map es) (b:=b') q1 (.map es') (by simp) (fun _ hb=>oQ hb) (fun kk u hu=>by rw [N kk] at hu;cases hu) L (fun G x=>by
       have:g.E id=some (.gf G):=x;have:=q1.symm.trans this;simpa using this.symm) ⟨b',a,c,q1,sY q2,hr,L⟩,Kp.write (h.own id _ b' g1 q1 n) (by simp) (fun _ hb=>oQ hb)⟩
     rcases qc d2 l hk hv 0 g3 q3 with ⟨D,I⟩ | ⟨j,y,e,D,I,O,Q⟩
     .obtain ⟨f1,f2,f3⟩:=fin (ents.push {key:=f,val:=B,born:=clk}) (clk+1) (by simpa using I clk);refine ⟨g,_, ?_,f2,f3⟩;simp only [Instr.mapUpdate,Sem.run_bind,k1,Result.andThen_ok,q,s,run_findKey d1 D,f1]
     .rw [Xd] at D;obtain ⟨f1,f2,f3⟩:=fin (ents.modify j fun e=>{e with key:=f,val:=B}) clk (by simpa [Array.toList_modify] using Q);refine ⟨g,_, ?_,f2,f3⟩;have z:((ents[j]?).map (·.key)).getD f=e.key:=by
       have:ents[j]? =some e:=by simpa using I
       simp [this]
      simp only [Instr.mapUpdate,Sem.run_bind,k1,Result.andThen_ok,q,s,run_findKey d1 D,z,Instr.keyThatStays,O,if_true,Sem.run_pure,f1]
   .cases g2
  .cases h4
 .cases h2
theorem zN (t:TypeId) (h:Inv T A g st w):bl P T A g w (.mm st.h) (st.new (.map [])).2 (Instr.makeMap t none):=by
 obtain ⟨k1,k2⟩:=h.newObj (.map []) (.map #[] 0) (fun b' a=>by
  have:(g.dm st.h (.gf w.heap.size)).E st.h=some (.gf b'):=a;rw [Gh.aZ] at this;simpa using this.symm) ⟨w.heap.size, #[],0,Gh.aZ _ _ _,World.heap_alloc_new,by simp [rb],h.S6 (WW _)⟩
 exact ⟨.map (some w.heap.size),_,_,by simp [Instr.makeMap],by simp only [R];exact ⟨_,Gh.aZ _ _ _,rfl⟩,k1,k2⟩
theorem DX {t:TypeId} {i:TI} (hi:jD P t i) (hu:i.und= .str) {s:List UInt8} (h:Inv T A g st w):bl P T A g w (.mp st.h 0) (st.new (.sit s 0)).2 (Instr.range t (.string ⟨s.toArray⟩)):=by
 obtain ⟨k1,k2⟩:=h.newObj (.sit s 0) (.stringIter ⟨s.toArray⟩ 0) (fun b' a=>by
  have:(g.dm st.h (.gf w.heap.size)).E st.h=some (.gf b'):=a;rw [Gh.aZ] at this;simpa using this.symm) ⟨w.heap.size,Gh.aZ _ _ _,World.heap_alloc_new⟩
 exact ⟨.pointer (some ⟨w.heap.size,0,none⟩),_,_,by simp [Instr.range,sU hi hu],by simp only [R];exact ⟨_,Gh.aZ _ _ _,rfl⟩,k1,k2⟩
theorem Fw {C:df} {x v:AV} {xv:Value} {ty:TypeId} {p:dG} {j:Fx} (hp:Ad x= .ok p) (hrun:aC C st p= .ok (v,j)) (hx:R g x xv) (h:Inv T A g st w):
  bl P T A g w v (j.did.app st) (Instr.next xv true ty):=by
 unfold Ad at hp;split at hp
 .rename_i id;simp only [WT] at hp;subst hp;simp only [aC,ag,au] at hrun;obtain ⟨o,g1,⟨v',o'⟩,g2,dd,g5,g6⟩:=hrun;split at g2
  .rename_i s pos;simp only [R] at hx;obtain ⟨b,hE,rfl⟩:=hx;obtain ⟨b',q1,q2⟩:=h.H id _ g1;have hb:b'=b:=by have:=q1.symm.trans hE;simpa using this
   subst hb;have d:(getObj b').run P w= .ok (.stringIter ⟨s.toArray⟩ pos) w:=by simp [getObj,Sem.run,q2]
   split at g2
   .rename_i c;rw [dD] at c;simp only [WT,WV] at g2;obtain ⟨rfl,rfl⟩:=g2;simp only [eG] at g5;split at g5
    .cases g5
    .rename_i e;rw [cW] at e;simp only [WT] at g5;subst g5;simp only [WV] at g6;obtain ⟨rfl,rfl⟩:=g6;have l:=fun kk=>wi h q2 (by simp) kk;have m:g.M b'=none:=by
      cases hm:g.M b' with
      | none=>rfl
      | some k=>have:=h.M b' k.1 k.2 hm;rw [q2] at this;cases this
     refine ⟨.tuple #[.bool true,goInt pos,.int .i32 (tX s pos).1],g,{w with heap:=w.heap.setIfInBounds b' (.stringIter ⟨s.toArray⟩ (pos+(tX s pos).2))}, ?_, ?_, ?_, ?_⟩
     .have a:pos < (⟨s.toArray⟩:ByteArray).size:=by rw [nv];exact c
      simp [Instr.next,d,a,setObj,Sem.run,q2,tX]
     .simp only [R];exact ⟨_,rfl,cH (by simp only [R]) (cH (by simp only [R];rfl) (cH (by simp only [R]) fQ))⟩
     .exact h.write g1 (o:= .sit s pos) (b:=b') q1 _ (by simp) (fun _ hb=>oQ hb) (fun kk u hu=>by rw [l kk] at hu;cases hu) m (fun i f=>by
       have:g.E id=some (.gf i):=f;have:=q1.symm.trans this;simpa using this.symm) ⟨b',q1,sY q2⟩
     .exact Kp.write (h.own id _ b' g1 q1 e) (by simp) (fun _ hb=>oQ hb)
   .rename_i c;rw [cW] at c;simp only [WT,WV] at g2;obtain ⟨rfl,rfl⟩:=g2;simp only [eG,WT] at g5;subst g5;simp only [WV] at g6;obtain ⟨rfl,rfl⟩:=g6;have a:¬ pos < (⟨s.toArray⟩:ByteArray).size:=by rw [nv];omega
    refine bl.of h (x:= .tuple #[.bool false]) (by simp [Instr.next,d,a]) ?_;simp only [R];exact ⟨_,rfl,cH (by simp only [R]) fQ⟩
  .cases g2
 .cases hp
end
section
variable {P:Program} {T:TT} {A:Nat->Prop} {g:Gh} {st:St} {w:World}
theorem Inv.FF (h:Inv T A g st w) {k:Nat} {B o1:Obj} {loc loc':Nat->Option (Nat×Nat)} (b' lo:Nat) (vals:List Value)
  (hk:st.get k= .ok B) (hE:g.E k=some (.tok loc)) (s: ∀m x,loc m=some x->loc' m=some x)
  (p: ∀o,lo<=o->o < lo+vals.length->g.F b' o=none) (q: ∀i v,vals[i]? =some v->w.cell? ⟨b',lo+i,none⟩=some v)
  (d: ∀id o,st.get id= .ok o->id≠k->¬ At g id o b') (hA:A b') (r: ∀b,At ((g.cP b' lo vals).dm k (.tok loc')) k o1 b->b=b')
  (ho:Holds T ((g.cP b' lo vals).dm k (.tok loc')) w k o1):
  Inv T A ((g.cP b' lo vals).dm k (.tok loc')) (st.put k o1) w/\Kp A g w ((g.cP b' lo vals).dm k (.tok loc')) w:=by
 have f:=(St.ch.1 hk).1;have u:Le g (g.cP b' lo vals):=Le.cP p;have z:Le (g.cP b' lo vals) ((g.cP b' lo vals).dm k (.tok loc')):=by
  refine ⟨fun _ _ _ x=>x,fun _ _ x=>x,fun j b x=> ?_,fun j l x=> ?_⟩
  .have:j≠k:=fun e=>by subst e;have:=hE.symm.trans x;cases this
   rw [Gh.ca _ _ this];exact x
  .by_cases hj:j=k
   .subst hj;have x':g.E j=some (.tok l):=x;have:=hE.symm.trans x';simp only [W7,nt.tok.injEq] at this;subst this;exact ⟨loc',Gh.aZ _ _ _,s⟩
   .exact ⟨l,by rw [Gh.ca _ _ hj];exact x,fun _ _ y=>y⟩
 have le:=u.trans z;refine ⟨⟨?_,h.M, ?_, ?_, ?_, ?_,h.up⟩,⟨WW _,fun _ _=>rfl,fun b hb o=>Gh.cX _ _ _ _ (.inl fun e=>hb (e ▸ hA)),fun _ _=>rfl,le,rfl,rfl,rfl⟩⟩
 .intro b o v hv;by_cases hc:b=b'/\lo<=o/\o < lo+vals.length
  .obtain ⟨rfl,h1,h2⟩:=hc;have c:(g.cP b lo vals).F b o=some v:=hv;simp only [Gh.cP] at c;rw [if_pos ⟨trivial,h1,h2⟩] at c;have:=q _ _ c
   rwa [show lo+(o - lo)=o by omega] at this
  .have c:(g.cP b' lo vals).F b o=some v:=hv;rw [Gh.cX _ _ _ _ (by omega)] at c;exact h.F b o v c
 .intro id hid;have t:st.h<=id:=hid;rw [Gh.ca _ _ (by omega)];exact h.E id t
 .intro id o hid;by_cases hj:id=k
  .subst hj;rw [St.aQ f] at hid;cases hid;exact ho
  .rw [St.aY (fun e=>hj e.symm)] at hid;exact jQ (h.H id o hid) le (Gh.ca _ _ hj) fun b hb=>⟨fun _=>Gh.cX _ _ _ _ (.inl fun e=>d id o hid hj (e ▸ hb)),rfl⟩
 .intro id id' o o' b h1 h2 n a2;by_cases hi:id=k <;> by_cases a:id'=k
  .rw [hi,a]
  .subst hi;rw [St.aQ f] at h1;cases h1;rw [St.aY (fun e=>a e.symm)] at h2;rw [oI (Gh.ca _ _ a)] at a2;have:=r b n;subst this;exact absurd a2 (d id' o' h2 a)
  .subst a;rw [St.aQ f] at h2;cases h2;rw [St.aY (fun e=>hi e.symm)] at h1;rw [oI (Gh.ca _ _ hi)] at n;have:=r b a2;subst this;exact absurd n (d id o h1 hi)
  .rw [St.aY (fun e=>hi e.symm)] at h1;rw [St.aY (fun e=>a e.symm)] at h2;rw [oI (Gh.ca _ _ hi)] at n;rw [oI (Gh.ca _ _ a)] at a2;exact h.D id id' o o' b h1 h2 n a2
 .intro id o b h1 n hr;by_cases hi:id=k
  .subst hi;rw [St.aQ f] at h1;cases h1;have:=r b n;subst this;exact hA
  .rw [St.aY (fun e=>hi e.symm)] at h1;rw [oI (Gh.ca _ _ hi)] at n;exact h.own id o b h1 n hr
theorem qI {loc:Nat->Option (Nat×Nat)} {k n b cap:Nat} {e:TypeId} {z:Nat} {es:List AV} {b':Nat} (hE:g.E k=some (.tok loc)) (hl:loc n=some (b,cap)) (h:At g k (.grow n e z es) b'):b'=b:=by
 obtain ⟨l,c,q1,q2⟩:=h;have a:=q1.symm.trans hE;simp only [W7,nt.tok.injEq] at a;subst a;have d:=q2.symm.trans hl;simp only [W7,WV] at d;exact d.1
theorem Inv.Nl (h:Inv T A g st w) {e:TypeId} {i:TI} (hi:T.get e=some i) (h1:1<=i.size) {els:List AV} {vals rest:List Value} {cap n:Nat} (hn:els.length<=n)
  (hc: ∀v∈els,v.cells.length=i.size) (hb:bL els=true) (hr:RL g (flat els) vals) (ho: ∀v∈vals,v.oneCell'=true) (c:vals.length+rest.length=cap * i.size) (a:n<=cap):
  ∃g',Inv T A g' (st.new (.grow n e i.size els)).2 (w.drew.alloc (.cells (vals++rest).toArray e))/\Kp A g w g' (w.drew.alloc (.cells (vals++rest).toArray e))/\
   R g' (.gs st.h i.size n) (.slice (some ⟨w.heap.size,0,none⟩) n cap):=by
 have hd:=h.drew;have d: ∀o,0<=o->o < 0+vals.length->g.F w.heap.size o=none:=fun o _ _=>h.lh (WW _) o;have l:vals.length=els.length * i.size:=by rw [dB hr,dF hc]
 have p:Inv T A g st (w.drew.alloc (.cells (vals++rest).toArray e)):=hd.alloc _;have i2:Inv T A (g.cP w.heap.size 0 vals) st (w.drew.alloc (.cells (vals++rest).toArray e)):=p.cP _ 0 vals d (fun k v hv=>by
   have:(w.drew.alloc (.cells (vals++rest).toArray e)).heap[w.heap.size]? =some (.cells (vals++rest).toArray e):=World.heap_alloc_new (w:=w.drew);rw [cell_of this];have hk:k < vals.length:=by
    rcases Nat.lt_or_ge k vals.length with q | q
    .exact q
    .simp [Xu q] at hv
   simp only [Xd,XP];rw [Xr hk];exact hv) fun id o hid=>h.ib (WW _) id o hid
 have b:(g.cP w.heap.size 0 vals).E st.h=none:=h.E _ (WW _);have f:Le g (g.cP w.heap.size 0 vals):=Le.cP d;refine ⟨(g.cP w.heap.size 0 vals).dm st.h (.tok fun m=>if m=n then some (w.heap.size,cap) else none), ?_, ?_, ?_⟩
 .refine i2.name (.grow n e i.size els) _ w.heap.size (fun id o hid=> ?_) (h.up _ (WW _)) ?_ ?_
  .exact h.ib (WW _) id o hid
  .exact fun b' j=>qI (Gh.aZ _ _ _) (by simp;rfl) j
  .refine ⟨_,w.heap.size,cap,i,(vals++rest).toArray,(0,0),Gh.aZ _ _ _,by simp,fun m hm=> ?_,hi,h1,a,World.heap_alloc_new (w:=w.drew),by simpa using c,by simp,fun o r=> ?_,rfl,hn,hb, ?_⟩
   .rw [if_neg (by omega)]
   .show (g.cP w.heap.size 0 vals).F w.heap.size o=none;rw [Gh.cX _ _ _ _ (by omega)];exact h.lh (WW _) o
   .refine gq (Le.dm b) _ _ _ _ ?_;rw [dL];refine ⟨hc,dv (eA f _ _ hr) fun k x hx=>⟨Gh.kg g _ 0 vals k x hx,ho x (Xo hx)⟩⟩
 .exact ((Kp.drew A g w).trans (Kp.alloc _ hd)).trans ((Kp.cP (h.up _ (WW _)) d).trans (Kp.dm b))
 .simp only [R];exact ⟨_,w.heap.size,cap,Gh.aZ _ _ _,by simp,rfl,a,h1⟩
structure ua (g:Gh) (size c:Nat) (kn:List AV) (news vals:List Value):Prop where
 pre: ∃rest,news=vals++rest
 len:kn.length<=c
 cells: ∀v∈kn,v.cells.length=size
 bare:bL kn=true
 rl:RL g (flat kn) vals
 fw: ∀v∈news,v.oneCell'=true
theorem ua.all {size c:Nat} {new:List AV} {news:List Value} (hn:new.length=c) (hc: ∀v∈new,v.cells.length=size) (hb:bL new=true) (hr:RL g (flat new) news) (ho: ∀v∈news,v.oneCell'=true):ua g size c new news news:=
 ⟨⟨[],by simp⟩,by omega,hc,hb,hr,ho⟩
theorem ua.none {size c:Nat} {news:List Value} (ho: ∀v∈news,v.oneCell'=true):ua g size c [] news []:=
 ⟨⟨news,rfl⟩,by simp,fun _ h=>(by cases h),rfl,fQ,ho⟩
theorem C1 {t xt ty e:TypeId} {i:TI} (he:wA P T t xt e i) {base:Option Addr} {a b n:Nat} {j news vals:List Value} {x:Value} {es kn:List AV}
  (hs:Src P i.size (.slice base a b) a j w) (hx:Src P i.size x n news w) (hg:b < a+n) (o:dp (a+n) i=true)
  (h:Inv T A g st w) (hn:es.length=a) (hc: ∀v∈es,v.cells.length=i.size) (hb:bL es=true) (hr:RL g (flat es) j) (ho: ∀v∈j,v.oneCell'=true)
  (m:ua g i.size n kn news vals):
  bl P T A g w (.gs st.h i.size (a+n)) (st.new (.grow (a+n) e i.size (es++kn))).2 (Builtin.append_ #[t,xt] ty #[.slice base a b,x]):=by
 obtain ⟨f,z,f1,f2,f3,f4,f5⟩:=he.info;obtain ⟨d,d1,d2⟩:=he.xt;obtain ⟨y,r2,B⟩:=nz o;have p:Builtin.nextslicecap (a+n) b * f.bytes<=281474976710656:=growslice_fits hg (by rw [f3];omega);have hrun:=pT (ty:=ty) he.t d1 d2 f1 f4 (by rw [f2];exact hs) (by rw [f2];exact hx) hg (by omega) p;have q:=grownCap_ge (w:=w) (n:=a+n) (c:=b) (e:=e);have r:j.length=a * i.size:=by rw [dB hr,dF hc,hn]
 have s:news.length=n * i.size:=hx.l;obtain ⟨rest,k⟩:=m.pre;have hlen:=Xy List.length k;rw [W9] at hlen;obtain ⟨g',k1,k2,u⟩:=h.Nl (els:=es++kn) (vals:=j++vals) (rest:=rest++(Builtin.zeroCells z.cells (grownCap w (a+n) b e - (a+n))).toList) (cap:=grownCap w (a+n) b e) (n:=a+n) he.get r2
  (by rw [W9];have:=m.len;omega)
  (fun v hv=>by
   rcases Xj.1 hv with hv | hv
   .exact hc v hv
   .exact m.cells v hv)
  (by rw [fK,hb,m.bare];rfl) (by rw [mQ];exact eN hr m.rl)
  (fun v hv=>by
   rcases Xj.1 hv with hv | hv
   .exact ho v hv
   .exact m.fw v (by rw [k];exact List.mem_append_left _ hv))
  (by
   rw [W9,W9,ik,f5];have:(a+n) * i.size+(grownCap w (a+n) b e - (a+n)) * i.size=grownCap w (a+n) b e * i.size:=by
    rw [<- Nat.add_mul];congr 1;omega
   rw [Nat.add_mul] at this;omega) q
 have hw:j.toArray++news.toArray++Builtin.zeroCells z.cells (grownCap w (a+n) b e - (a+n))=(j++vals++(rest++(Builtin.zeroCells z.cells (grownCap w (a+n) b e - (a+n))).toList)).toArray:=by
  apply Array.ext';simp [k,W6]
 rw [hw] at hrun;exact ⟨_,g',_,hrun,u,k1,k2⟩
structure Slot (T:TT) (g:Gh) (w:World) (k:Nat) (o:Obj) (e:TypeId) (i:TI) (loc:Nat->Option (Nat×Nat)) (b cap:Nat) (vs:Array Value) (fz:Nat×Nat) (es:List AV):Prop where
 s_E:g.E k=some (.tok loc)
 s_loc:loc es.length=some (b,cap)
 s_top: ∀m,es.length < m->loc m=none
 s_get:T.get e=some i
 s_size:1<=i.size
 s_le:es.length<=cap
 s_heap:w.heap[b]? =some (.cells vs e fz)
 s_sz:vs.size=cap * i.size
 s_fz:fz.2<=es.length * i.size
 s_F: ∀o,es.length * i.size<=o->g.F b o=none
 s_bare:bL es=true
 s_atR:gS g i.size es b 0
 s_At:At g k o b
 s_uniq: ∀b',At g k o b'->b'=b
 s_holds: ∀(w':World) (vs':Array Value),w'.heap[b]? =some (.cells vs' e fz)->vs'.size=cap * i.size->Holds T g w' k o
theorem KL {k:Nat} {e:TypeId} {i:TI} {es:List AV} {loc:Nat->Option (Nat×Nat)} {b cap:Nat} (h:Inv T A g st w) (hk:st.get k= .ok (.tok es.length e)) (hi:T.get e=some i)
  (hE:g.E k=some (.tok loc)) (hl:loc es.length=some (b,cap)) (hb:bL es=true) (n:gS g i.size es b 0): ∃vs fz,Slot T g w k (.tok es.length e) e i loc b cap vs fz es:=by
 obtain ⟨a,b2,d,i2,vs,fz,q1,q2,q3,o,q,r,u,v,s,f⟩:=h.H k _ hk;have j:=q1.symm.trans hE;simp only [W7,nt.tok.injEq] at j;subst j;have m:=q2.symm.trans hl;simp only [W7,WV] at m;obtain ⟨rfl,rfl⟩:=m;have t:=o.symm.trans hi;simp only [W7] at t;subst t;refine ⟨vs,fz,q1,q2,q3,o,q,r,u,v,s,f,hb,n,⟨a,d,q1,q2⟩,fun b' p=> ?_,fun w' vs' h1 h2=>⟨a,b2,d,i2,vs',fz,q1,q2,q3,o,q,r,h1,h2,s,f⟩⟩;obtain ⟨l,c,p1,p2⟩:=p;have j:=p1.symm.trans q1;simp only [W7,nt.tok.injEq] at j;subst j;have m:=p2.symm.trans q2;simp only [W7,WV] at m;exact m.1
theorem HT {k:Nat} {e:TypeId} {i:TI} {z:Nat} {es:List AV} (h:Inv T A g st w) (hk:st.get k= .ok (.grow es.length e z es)) (hi:T.get e=some i):
  z=i.size/\ ∃loc b cap vs fz,Slot T g w k (.grow es.length e z es) e i loc b cap vs fz es:=by
 obtain ⟨loc,b,cap,i2,vs,fz,q1,q2,q3,f,n,o,r,s,p,a,j,l,c,d⟩:=h.H k _ hk;have q:=f.symm.trans hi;simp only [W7] at q;subst q;subst j;exact ⟨rfl,loc,b,cap,vs,fz,q1,q2,q3,f,n,o,r,s,p,a,c,d,⟨loc,cap,q1,q2⟩,fun b' m=>qI q1 q2 m,
  fun w' vs' h1 h2=>⟨loc,b,cap,i2,vs',fz,q1,q2,q3,f,n,o,h1,h2,p,a,rfl,l,c,d⟩⟩
theorem EX {t xt ty e:TypeId} {i:TI} (he:wA P T t xt e i) {k b cap n:Nat} {o:Obj} {loc:Nat->Option (Nat×Nat)} {vs:Array Value} {fz:Nat×Nat} {es kn:List AV} {news vals:List Value} {x:Value}
  (hk:st.get k= .ok o) (a7:st.ro<=k) (hS:Slot T g w k o e i loc b cap vs fz es)
  (hx:Src P i.size x n news w) (cz:0 < n) (B:ua g i.size n kn news vals) (W:dp (es.length+n) i=true) (h:Inv T A g st w):
  bl P T A g w (.gs k i.size (es.length+n)) (st.put k (.grow (es.length+n) e i.size (es++kn))) (Builtin.append_ #[t,xt] ty #[.slice (some ⟨b,0,none⟩) es.length cap,x]):=by
 obtain ⟨f,z,f1,f2,f3,f4,f5⟩:=he.info;obtain ⟨d,d1,d2⟩:=he.xt;obtain ⟨r1,r2,r3⟩:=nz W;obtain ⟨q1,q2,q3,q4,q5,q6,q7,q8,q9,N,cc,a8,H,X,hO⟩:=hS;have S:=a8;rw [dL] at S;obtain ⟨U,bb⟩:=S;obtain ⟨p,o1,o2⟩:=iF bb;have Y:p.length=es.length * i.size:=by rw [dB o1,dF U]
 have bt:news.length=n * i.size:=hx.l;obtain ⟨G,u⟩:=B.pre;have b4:vals.length=kn.length * i.size:=by rw [dB B.rl,dF B.cells]
 have cv:=B.len;have c6:vals.length<=news.length:=by rw [u,W9];omega
 have Z: ∀v∈es++kn,v.cells.length=i.size:=fun v hv=>by
  rcases Xj.1 hv with hv | hv
  .exact U v hv
  .exact B.cells v hv
 have I:bL (es++kn)=true:=by rw [fK,cc,B.bare];rfl
 have C:(es++kn).length=es.length+kn.length:=W9;by_cases J:es.length+n<=cap
 ·-- in place
  have b5:=fJ (P:=P) b (es.length * i.size) e fz news 0 vs w q7 (by
   rw [q8,bt];simp only [XO];rw [<- Nat.add_mul];exact Nat.mul_le_mul_right _ J) (by simpa using q9) B.fw
  simp only [XO] at b5;have hrun:=Ev (ty:=ty) (a:=⟨b,0,none⟩) he.t d1 d2 f1 (by rw [f2];exact hx) J (by rw [f2,Addr.eY,Xd];exact b5);generalize K:vs.toList.take (es.length * i.size)++news++vs.toList.drop (es.length * i.size+news.length)=row at hrun;have L:row.length=vs.size:=by
   rw [<- K];have:es.length * i.size+news.length<=vs.size:=by rw [q8,bt, <- Nat.add_mul];exact Nat.mul_le_mul_right _ J
   simp;omega
  have b6: ∀j,j < es.length * i.size->row[j]? =vs[j]? :=fun j hj=>by
   rw [<- K,W6,Xr (by simp;have:=Nat.mul_le_mul_right i.size q6;omega),List.getElem?_take,if_pos hj];simp
  have b7: ∀j v,news[j]? =some v->row[es.length * i.size+j]? =some v:=fun j v hv=>by
   have hj:j < news.length:=by
    rcases Nat.lt_or_ge j news.length with q | q
    .exact q
    .simp [Xu q] at hv
   have b8:(vs.toList.take (es.length * i.size)).length=es.length * i.size:=by
    have h1:vs.toList.length=cap * i.size:=q8;have h2:es.length * i.size<=cap * i.size:=Nat.mul_le_mul_right _ q6;rw [Xg,h1];omega
   rw [<- K,W6,XB (by rw [b8];omega),b8,Xr (by omega)];rw [show es.length * i.size+j - es.length * i.size=j by omega];exact hv
  have s:(w.setRow b row.toArray).heap[b]? =some (.cells row.toArray e fz):=setRow_heap _ _ _ _ _ _ q7;have cd:g.M b=none:=by
   cases hm:g.M b with
   | none=>rfl
   | some ee=>
    have:=h.M b ee.1 ee.2 hm;rw [q7] at this;cases this
  have i1:Inv T A g (st.put k o) (w.setRow b row.toArray):=h.write hk H o (setRow_size _ _ _) (fun _ hb=>gJ _ _ _ hb)
   (fun j v hv=>by
    have hj:j < es.length * i.size:=by
     rcases Nat.lt_or_ge j (es.length * i.size) with q | q
     .exact q
     .rw [N j q] at hv;cases hv
    have:=h.F b j v hv;rw [cell_of q7] at this;rw [cell_of s,XP,b6 j hj];exact this) cd X
   (hO _ _ s (by simpa [L] using q8))
  have ar:Kp A g w g (w.setRow b row.toArray):=Kp.write (h.own k _ b hk H a7) (setRow_size _ _ _) (fun _ hb=>gJ _ _ _ hb);have cg:(st.put k o).get k= .ok o:=St.aQ (St.ch.1 hk).1;obtain ⟨O,av⟩:=i1.FF (o1:= .grow (es.length+n) e i.size (es++kn)) (loc':=fun m=>if m=es.length+n then some (b,cap) else loc m) b (es.length * i.size) vals cg q1
   (fun m y hy=>by
    by_cases hm:m=es.length+n
    .have:=q3 m (by omega);rw [this] at hy;cases hy
    .rw [if_neg hm];exact hy) (fun o ho _=>N o ho)
   (fun j v hv=>by
    rw [cell_of s,XP];refine b7 j v ?_;rw [u,Xr (by
     rcases Nat.lt_or_ge j vals.length with q | q
     .exact q
     .simp [Xu q] at hv)]
    exact hv)
   (fun id o' hid hne ha=>by
    rw [St.aY (fun e=>hne e.symm)] at hid;exact hne (h.D id k o' _ b hid hk ha H)) (h.own k _ b hk H a7)
   (fun b' aw=>qI (Gh.aZ _ _ _) (by simp;rfl) aw)
   ⟨_,b,cap,i,row.toArray,fz,Gh.aZ _ _ _,by simp,fun m hm=>by rw [if_neg (by omega)];exact q3 m (by omega),q4,q5,J,s,by simpa [L] using q8,
    Xs q9 (Nat.mul_le_mul_right _ (by rw [C];omega)),fun o' Q=>by
     show (g.cP b (es.length * i.size) vals).F b o'=none;rw [C,Nat.add_mul] at Q;rw [Gh.cX _ _ _ _ (by omega)];exact N o' (by omega),rfl,by rw [C];omega,I,by
     have hle:Le g ((g.cP b (es.length * i.size) vals).dm k (.tok fun m=>if m=es.length+n then some (b,cap) else loc m)):=by
      refine (Le.cP fun o' Q _=>N o' Q).trans ⟨fun _ _ _ x=>x,fun _ _ x=>x,fun j b x=> ?_,fun j l x=> ?_⟩
      .have:j≠k:=fun e=>by subst e;have:=q1.symm.trans x;cases this
       rw [Gh.ca _ _ this];exact x
      .by_cases hj:j=k
       .subst hj;have x':g.E j=some (.tok l):=x;have:=q1.symm.trans x';simp only [W7,nt.tok.injEq] at this;subst this;exact ⟨_,Gh.aZ _ _ _,fun m y hy=>by
         by_cases hm:m=es.length+n
         .have:=q3 m (by omega);rw [this] at hy;cases hy
         .rw [if_neg hm];exact hy⟩
       .exact ⟨l,by rw [Gh.ca _ _ hj];exact x,fun _ _ y=>y⟩
     rw [mE];refine ⟨gq hle _ _ _ _ a8, ?_⟩;rw [dL];refine ⟨B.cells,dv (eA hle _ _ B.rl) fun j v hv=>⟨?_,B.fw v (by rw [u];exact List.mem_append_left _ (Xo hv))⟩⟩;rw [Xd];exact Gh.kg g b (es.length * i.size) vals j v hv⟩
  have b9:(st.put k o).put k (.grow (es.length+n) e i.size (es++kn))=st.put k (.grow (es.length+n) e i.size (es++kn)):=by
   simp only [St.put,Tr.put,Tr.set_set]
  rw [b9] at O;refine ⟨_,_,_,hrun, ?_,O,ar.trans av⟩;simp only [R];exact ⟨_,b,cap,Gh.aZ _ _ _,by simp,rfl,J,q5⟩
 ·-- in a new array
  have V: ∀w':World,(∀b o,w'.cell? ⟨b,o,none⟩=w.cell? ⟨b,o,none⟩)->(Builtin.firstCells i.size es.length (.slice (some ⟨b,0,none⟩) es.length cap)).run P w'= .ok p.toArray w':=fun w' cl=>
   run_firstCells_some (P:=P) w' i.size es.length ⟨b,0,none⟩ es.length cap p Y (fun j v hv=>by
    rw [Addr.eY,cl];exact h.F _ _ _ (o2 j v hv).1)
  have hs:Src P i.size (.slice (some ⟨b,0,none⟩) es.length cap) es.length p w:=⟨by simp [Builtin.lenOf],V w fun _ _=>rfl,V w.drew fun _ _=>rfl,Y⟩;have hg:cap < es.length+n:=by omega
  have cb:Builtin.nextslicecap (es.length+n) cap * f.bytes<=281474976710656:=growslice_fits hg (by rw [f3];omega);have hrun:=pT (ty:=ty) he.t d1 d2 f1 f4 (by rw [f2];exact hs) (by rw [f2];exact hx) hg (by omega) cb;have a1:=grownCap_ge (w:=w) (n:=es.length+n) (c:=cap) (e:=e);generalize grownCap w (es.length+n) cap e=r at hrun a1;have hw:p.toArray++news.toArray++Builtin.zeroCells z.cells (r - (es.length+n))=(p++vals++(G++(Builtin.zeroCells z.cells (r - (es.length+n))).toList)).toArray:=by
   apply Array.ext';simp [u,W6]
  rw [hw] at hrun;have cn:(G++(Builtin.zeroCells z.cells (r - (es.length+n))).toList).length+(p++vals).length=r * i.size:=by
   have hlen:=Xy List.length u;rw [W9] at hlen;rw [W9,W9,ik,f5];have:(es.length+n) * i.size+(r - (es.length+n)) * i.size=r * i.size:=by
    rw [<- Nat.add_mul];congr 1;omega
   rw [Nat.add_mul] at this;omega
  generalize G++(Builtin.zeroCells z.cells (r - (es.length+n))).toList=rest at hrun cn;have hd:=h.drew;have i1:Inv T A g st (w.drew.alloc (.cells (p++vals++rest).toArray e)):=hd.alloc _;have ar:Kp A g w g (w.drew.alloc (.cells (p++vals++rest).toArray e)):=(Kp.drew A g w).trans (Kp.alloc _ hd);have s:(w.drew.alloc (.cells (p++vals++rest).toArray e)).heap[w.heap.size]? =some (.cells (p++vals++rest).toArray e):=World.heap_alloc_new (w:=w.drew);have c7:(p++vals).length=(es++kn).length * i.size:=by rw [W9,C,Y,b4,Nat.add_mul]
  have a6: ∀v∈p++vals,v.oneCell'=true:=fun v hv=>by
   rcases Xj.1 hv with hm | hm
   .obtain ⟨jj,cp⟩:=List.getElem?_of_mem hm;exact (o2 jj v cp).2
   .exact B.fw v (by rw [u];exact List.mem_append_left _ hm)
  have hle:Le g ((g.cP w.heap.size 0 (p++vals)).dm k (.tok fun m=>if m=es.length+n then some (w.heap.size,r) else loc m)):=by
   refine (Le.cP fun o' _ _=>h.lh (WW _) o').trans ⟨fun _ _ _ x=>x,fun _ _ x=>x,fun j b x=> ?_,fun j l x=> ?_⟩
   .have:j≠k:=fun e=>by subst e;have:=q1.symm.trans x;cases this
    rw [Gh.ca _ _ this];exact x
   .by_cases hj:j=k
    .subst hj;have x':g.E j=some (.tok l):=x;have:=q1.symm.trans x';simp only [W7,nt.tok.injEq] at this;subst this;exact ⟨_,Gh.aZ _ _ _,fun m y hy=>by
      by_cases hm:m=es.length+n
      .have:=q3 m (by omega);rw [this] at hy;cases hy
      .rw [if_neg hm];exact hy⟩
    .exact ⟨l,by rw [Gh.ca _ _ hj];exact x,fun _ _ y=>y⟩
  obtain ⟨O,av⟩:=i1.FF (o1:= .grow (es.length+n) e i.size (es++kn)) (loc':=fun m=>if m=es.length+n then some (w.heap.size,r) else loc m) w.heap.size 0 (p++vals) hk q1
   (fun m y hy=>by
    by_cases hm:m=es.length+n
    .have:=q3 m (by omega);rw [this] at hy;cases hy
    .rw [if_neg hm];exact hy) (fun o' _ _=>h.lh (WW _) o')
   (fun j v hv=>by
    have hj:j < (p++vals).length:=by
     rcases Nat.lt_or_ge j (p++vals).length with q | q
     .exact q
     .rw [Xu q] at hv;cases hv
    rw [cell_of s,XP,Xd,Xr hj];exact hv)
   (fun id o' hid _=>h.ib (WW _) id o' hid) (h.up _ (WW _))
   (fun b' aw=>qI (Gh.aZ _ _ _) (by simp;rfl) aw)
   ⟨_,w.heap.size,r,i,(p++vals++rest).toArray,(0,0),Gh.aZ _ _ _,by simp,fun m hm=>by rw [if_neg (by omega)];exact q3 m (by omega),q4,q5,a1,s,by
     simp only [YF];rw [W9];omega,by simp,fun o' Q=>by
     show (g.cP w.heap.size 0 (p++vals)).F w.heap.size o'=none;rw [Gh.cX _ _ _ _ (by omega)];exact h.lh (WW _) o',rfl,by rw [C];omega,I,by
     rw [dL];refine ⟨Z, ?_⟩;rw [mQ];exact dv (eA hle _ _ (eN o1 B.rl)) fun j v hv=>⟨Gh.kg g w.heap.size 0 (p++vals) j v hv,a6 v (Xo hv)⟩⟩
  refine ⟨_,_,_,hrun, ?_,O,ar.trans av⟩;simp only [R];exact ⟨_,w.heap.size,r,Gh.aZ _ _ _,by simp,rfl,a1,q5⟩
end
section
variable {P:Program} {T:TT} {A:Nat->Prop} {g:Gh} {st:St} {w:World}
theorem wj {C:df} {t xt ty e:TypeId} {i:TI} (he:wA P T t xt e i) {s r:AV} {U x:Value} {c:Nat} {kn:List AV} {news vals:List Value} {p:dG} {V:Fx}
  (hp:oj i e s c kn= .ok p) (hrun:aC C st p= .ok (r,V)) (hs:R g s U) (hx:Src P i.size x c news w) (K:0 < c) (u:ua g i.size c kn news vals) (h:Inv T A g st w):
  bl P T A g w r (V.did.app st) (Builtin.append_ #[t,xt] ty #[U,x]):=by
 unfold oj at hp;split at hp
 ·-- to nil
  split at hp
  .rename_i a;cases hp;simp only [aC,WT,WV] at hrun;obtain ⟨rfl,rfl⟩:=hrun;simp only [R] at hs;subst hs;have L:Src P i.size (.slice none 0 0) 0 [] w:=⟨by simp [Builtin.lenOf],by simp [Builtin.firstCells],by simp [Builtin.firstCells],by simp⟩;have:=C1 (ty:=ty) (es:=[]) he L hx (by omega) (by rw [Xd];exact a) h rfl (fun _ h=>by cases h) rfl fQ (fun _ h=>by cases h) u;rw [Xd] at this;exact this
  .cases hp
 .rename_i z es;split at hp
  .rename_i a;simp only [WY] at a;obtain ⟨a,f⟩:=a;have f:=W2 f;subst f;cases hp;simp only [aC,WT,WV] at hrun;obtain ⟨rfl,rfl⟩:=hrun;simp only [R] at hs;obtain ⟨D,b,o,cap,rfl,B,M,E,G⟩:=hs;have H:cap=es.length:=G;subst H;have l:=E;rw [dL] at l;obtain ⟨xs,x1,W⟩:=iF l.2;have hl:xs.length=es.length * i.size:=by rw [dB x1,dF l.1]
   have q: ∀w':World,(∀b o,w'.cell? ⟨b,o,none⟩=w.cell? ⟨b,o,none⟩)->(Builtin.firstCells i.size es.length (.slice (some ⟨b,o,none⟩) es.length es.length)).run P w'= .ok xs.toArray w':=fun w' Q=>
    run_firstCells_some (P:=P) w' i.size es.length ⟨b,o,none⟩ es.length es.length xs hl (fun j v hv=>by
     rw [Addr.eY,Q];exact h.F _ _ _ (W j v hv).1)
   have N:Src P i.size (.slice (some ⟨b,o,none⟩) es.length es.length) es.length xs w:=⟨by simp [Builtin.lenOf],q w fun _ _=>rfl,q w.drew fun _ _=>rfl,hl⟩;exact C1 (ty:=ty) he N hx (by omega) a h rfl l.1 D x1 (fun v hv=>by
    obtain ⟨j,hj⟩:=List.getElem?_of_mem hv;exact (W j v hj).2) u
  .cases hp
 .rename_i z es k;split at hp
  .rename_i a;simp only [WY] at a;obtain ⟨a,f⟩:=a;have f:=W2 f;subst f;cases hp;simp only [aC,ag,au] at hrun;obtain ⟨ob,h1,⟨v',o'⟩,h2,dd,y,S⟩:=hrun;split at h2
   .rename_i n e';split at h2
    .rename_i d;simp only [WY] at d;have hn:=W2 d.1;have I:=W2 d.2;subst hn I;cases h2;simp only [eG] at y;split at y
     .cases y
     .rename_i J;cases y;cases S;rw [cW] at J;simp only [R] at hs;obtain ⟨D,b,o,cap,rfl,B,M,E,rfl,loc,hE,hl⟩:=hs;obtain ⟨vs,fz,O⟩:=KL h h1 he.get hE hl D E;exact EX (ty:=ty) he h1 (by omega) O hx K u a h
    .cases h2
   .cases h2
  .cases hp
 .rename_i k z n;split at hp
  .rename_i a;simp only [WY] at a;obtain ⟨a,f⟩:=a;have f:=W2 f;subst f;cases hp;simp only [aC,ag,au] at hrun;obtain ⟨ob,h1,⟨v',o'⟩,h2,dd,y,S⟩:=hrun;split at h2
   .rename_i m e' z' es;split at h2
    .rename_i d;simp only [WY] at d;have hm:=W2 d.1.1;have hn:=W2 d.1.2;have I:=W2 d.2.1;subst hm hn I;cases h2;simp only [eG] at y;split at y
     .cases y
     .rename_i J;cases y;cases S;rw [cW] at J;simp only [R] at hs;obtain ⟨loc',b',X,hE,hl,rfl,B,M⟩:=hs;obtain ⟨rfl,loc,b,cap,vs,fz,O⟩:=HT h h1 he.get;have Y:=O.s_E.symm.trans hE;simp only [W7,nt.tok.injEq] at Y;subst Y;have Z:=O.s_loc.symm.trans hl;simp only [W7,WV] at Z;obtain ⟨rfl,rfl⟩:=Z;exact EX (ty:=ty) he h1 (by omega) O hx K u a h
    .cases h2
   .cases h2
  .cases hp
 .cases hp
theorem xD {C:df} {t xt ty e:TypeId} {i:TI} (he:wA P T t xt e i) {s x r:AV} {c xv:Value} {new:List AV} {p:dG} {d:Fx} (hev:oP x=some new)
  (hp:ia i e s new= .ok p) (hrun:aC C st p= .ok (r,d)) (hs:R g s c) (hx:R g x xv) (h:Inv T A g st w):
  bl P T A g w r (d.did.app st) (Builtin.append_ #[t,xt] ty #[c,xv]):=by
 unfold ia at hp;split at hp
 .cases hp
 .rename_i v l;simp only [ag] at hp;obtain ⟨a,hf,hp⟩:=hp;split at hp
  .cases hp
  .rename_i b;have hc:=Ce b;obtain ⟨news,s1,s2,j,f,k⟩:=vr (P:=P) hx hev hf hc (by simp) h;have hpos:0 < a.length:=by rw [k];simp
   split at hp
   .exact wj he hp hrun hs s1 hpos (ua.none f) h
   .exact wj he hp hrun hs s1 hpos (ua.all rfl hc j s2 f) h
theorem yC {t xt ty e:TypeId} {i:TI} (he:wA P T t xt e i) {base:Option Addr} {n:Nat} {news:List Value} {x:Value} {els:List AV}
  (hs:Src P i.size (.slice base 0 0) 0 [] w) (hx:Src P i.size x n news w) (hg:0 < n) (a:dp n i=true)
  (h:Inv T A g st w) (hr:RL g (flat els) news) (ho: ∀v∈news,v.oneCell'=true):
  bl P T A g w (.ms st.h 0 i.size n 0) (st.new (.cells (1000000+e) (flat els))).2 (Builtin.append_ #[t,xt] ty #[.slice base 0 0,x]):=by
 obtain ⟨f,z,f1,f2,f3,f4,f5⟩:=he.info;obtain ⟨d,d1,d2⟩:=he.xt;obtain ⟨p,r2,q⟩:=nz a;have b:Builtin.nextslicecap (0+n) 0 * f.bytes<=281474976710656:=growslice_fits (by omega) (by rw [Xd,f3];omega);have hrun:=pT (ty:=ty) he.t d1 d2 f1 f4 (by rw [f2];exact hs) (by rw [f2];exact hx) (by omega) (by omega) b;have m:=grownCap_ge (w:=w) (n:=0+n) (c:=0) (e:=e);have hE:g.E st.h=none:=h.E _ (WW _);have hle:Le g (g.dm st.h (.gf w.heap.size)):=Le.dm hE;obtain ⟨k1,k2⟩:=h.drew.newObj (.cells (1000000+e) (flat els)) (.cells (news.toArray++Builtin.zeroCells z.cells (grownCap w (0+n) 0 e - (0+n))) e) (fun b' k=>by
  have:(g.dm st.h (.gf w.heap.size)).E st.h=some (.gf b'):=k;rw [Gh.aZ] at this;simpa using this.symm) ⟨w.heap.size,news.toArray,Builtin.zeroCells z.cells (grownCap w (0+n) 0 e - (0+n)),e,Gh.aZ _ _ _,World.heap_alloc_new (w:=w.drew),by simpa using eA hle _ _ hr,by simpa using ho,fun o=>h.lh (WW _) o,fun l=>absurd l (Nat.not_lt.2 (Nat.le_add_right _ _))⟩
 have j:([]:List Value).toArray++news.toArray=news.toArray:=by simp
 rw [j] at hrun;refine ⟨_,g.dm st.h (.gf w.heap.size),_,hrun, ?_,k1,(Kp.drew A g w).trans k2⟩;simp only [R];exact ⟨w.heap.size,0,Gh.aZ _ _ _,grownCap w (0+n) 0 e,by simp,by omega,r2,fun _=>rfl,.inr trivial⟩
theorem xx {C:df} {t xt ty e:TypeId} {i:TI} (he:wA P T t xt e i) {s x r:AV} {j xv:Value} {new:List AV} {p:dG} {k:Fx} (hev:oP x=some new)
  (hp:rv i e s new= .ok p) (hrun:aC C st p= .ok (r,k)) (hs:R g s j) (hx:R g x xv) (h:Inv T A g st w):
  bl P T A g w r (k.did.app st) (Builtin.append_ #[t,xt] ty #[j,xv]):=by
 unfold rv at hp;split at hp
 .exact tD he hev hp hrun hs hx h
 .rename_i v l;simp only [ag] at hp;obtain ⟨d,hf,hp⟩:=hp;split at hp
  .cases hp
  .rename_i c;simp only [WY] at c;have hc:=Ce c.1;obtain ⟨news,s1,s2,n,f,m⟩:=vr (P:=P) hx hev hf hc (by simp) h;have hpos:0 < d.length:=by rw [m];simp
   split at hp
   .simp only [WT] at hp;subst hp;simp only [aC,WT,WV] at hrun;obtain ⟨rfl,rfl⟩:=hrun;simp only [R] at hs;subst hs;exact yC he ⟨by simp [Builtin.lenOf],by simp [Builtin.firstCells],by simp [Builtin.firstCells],by simp⟩ s1 hpos c.2 h s2 f
   .simp only [WT] at hp;subst hp;simp only [aC,WT,WV] at hrun;obtain ⟨rfl,rfl⟩:=hrun;simp only [R] at hs;obtain ⟨a,rfl⟩:=hs;exact yC he ⟨by simp [Builtin.lenOf],by simp [Builtin.firstCells,loadCells,loadCellsFrom],by simp [Builtin.firstCells,loadCells,loadCellsFrom],by simp⟩ s1 hpos c.2 h s2 f
   .simp only [WT] at hp;subst hp;simp only [aC,WT,WV] at hrun;obtain ⟨rfl,rfl⟩:=hrun;simp only [R] at hs;obtain ⟨_,b,o,cap,rfl,_,_,_,hp⟩:=hs;simp only [tY,XI] at hp;subst hp;exact yC he ⟨by simp [Builtin.lenOf],by simp [Builtin.firstCells,loadCells,loadCellsFrom],by simp [Builtin.firstCells,loadCells,loadCellsFrom],by simp⟩ s1 hpos c.2 h s2 f
   .cases hp
theorem zI (hT:wW P T) {C:df} {t:TypeId} {k z n:Nat} {i r:AV} {E F:Value} {p:dG} {G:Fx} (hp:kN T t k z n i= .ok p) (hrun:aC C st p= .ok (r,G))
  (hs:R g (.gs k z n) E) (hy:R g i F) (h:Inv T A g st w):bl P T A g w r (G.did.app st) (Instr.indexAt t E F):=by
 simp only [kN,ag] at hp;obtain ⟨j,hj,v,y,it,h1,h2⟩:=hp;obtain ⟨Z,rfl⟩:=wZ hj hy;obtain ⟨rfl,N⟩:=jb y;have hit:=hT t it (cB.1 h1);split at h2
 .rename_i e l;have k1:=eJ hit l;simp only [ag] at h2;obtain ⟨O,h3,h4⟩:=h2;have d:=hT _ O (cB.1 h3);split at h4
  .rename_i hz;have hz:=W2 hz;cases h4;simp only [iN,aC,ag,au] at hrun;obtain ⟨ob,Q,⟨v',o'⟩,⟨v2,c,s⟩,dd,I,S⟩:=hrun;cases s;simp only [eG,WT] at I;subst I;cases S;simp only [R] at hs;obtain ⟨loc,b,cap,hE,hl,rfl,J,U⟩:=hs;split at c
   .rename_i m V z' es;split at c
    .rename_i a;simp only [WY] at a;have hm:=W2 a.1;have f:=W2 a.2;subst hm f;obtain ⟨o,b2,q,i2,vs,fz,q1,q2,q3,q4,q5,q6,q7,q8,q9,W,X,Y,B,D⟩:=h.H k _ Q;have K:=q1.symm.trans hE;simp only [W7,nt.tok.injEq] at K;subst K;have L:=q2.symm.trans hl;simp only [W7,WV] at L;obtain ⟨rfl,rfl⟩:=L;split at c
     .simp only [ag,au] at c;obtain ⟨u,s,rfl⟩:=c;obtain ⟨d1,d2⟩:=zv D s;refine bl.of h (x:= .pointer (some ⟨b2,0+v * z',none⟩)) ?_ ?_
      .simp [Instr.indexAt,asIntOf,k1,d.dh,Addr.eY,hz];intro M;omega
      .simp only [R];exact ⟨wk (uX B s),b2,_,rfl,d2⟩
     .cases c;refine bl.of h (x:= .pointer (some ⟨b2,0+v * z',none⟩)) ?_ ?_
      .simp [Instr.indexAt,asIntOf,k1,d.dh,Addr.eY,hz];intro M;omega
      .simp only [R];exact ⟨o,b2,q,q1,q2,by rw [Xd]⟩
    .cases c
   .rename_i m V z' cs;split at c
    .rename_i a;simp only [WY] at a;have hm:=W2 a.1;have f:=W2 a.2;subst hm f;cases c;refine bl.of h (x:= .pointer (some ⟨b,0+v * z',none⟩)) ?_ ?_
     .simp [Instr.indexAt,asIntOf,k1,d.dh,Addr.eY,hz];intro M;omega
     .simp only [R];exact ⟨loc,b,cap,hE,hl,by rw [Xd]⟩
    .cases c
   .cases c
  .cases h4
 .cases h2
theorem zW {C:df} {t:TypeId} {i:TI} (hi:jD P t i) {k m off:Nat} {v r:AV} {x y:Value} {p:dG} {fx:Fx} (hp:jw i k m off v= .ok p) (hrun:aC C st p= .ok (r,fx))
  (hx:R g (.gp k m off) x) (hy:R g v y) (h:Inv T A g st w):r=undef/\BC P T A g w (fx.did.app st) (Instr.storeAt t x y):=by
 unfold jw at hp;split at hp
 .rename_i hc;simp only [WY] at hc;have hlen:=W2 hc.1;simp only [ag,au] at hp;obtain ⟨v',hf,rfl⟩:=hp;simp only [aC,ag,au] at hrun;obtain ⟨ob,h1,⟨u,o'⟩,h2,dd,X,h6⟩:=hrun;split at h2
  .rename_i n e z es;split at h2
   .rename_i a;simp only [WY] at a;have c1:=W2 a.1.1;have c2:=W2 a.1.2;have c3:=W2 a.2.1;have c4:=W2 a.2.2;subst c1 c3;cases h2;simp only [eG] at X;split at X
    .cases X
    .rename_i ar;cases X;cases h6;rw [cW] at ar;refine ⟨rfl, ?_⟩;simp only [R] at hx;obtain ⟨loc,b,cap,hE,hl,rfl⟩:=hx;obtain ⟨f,b2,o,i2,vs,fz,q1,q2,q3,q4,q5,q6,Y,q8,q9,I,N,W,av,a6⟩:=h.H k _ h1;have Z:=q1.symm.trans hE;simp only [W7,nt.tok.injEq] at Z;subst Z;have e2:=q2.symm.trans hl;simp only [W7,WV] at e2;obtain ⟨rfl,rfl⟩:=e2;subst N;have B:=wY hy hc.2;obtain ⟨ys,J⟩: ∃ys,y.cells.toList=ys:=⟨_,rfl⟩;rw [J] at B;have O:=dB B;have Q:=qM hc.2 B;obtain ⟨b7,b8,b9⟩:=Bc hf B;have S:es.length * i2.size+ys.length<=vs.size:=by
      rw [q8,O,hlen, <- c4];have:=Nat.mul_le_mul_right i2.size (show es.length+1<=o by omega);rw [Nat.add_mul,Nat.one_mul] at this;exact this
     have s:At g k (.grow n e i2.size es) b2:=⟨f,o,q1,q2⟩;have K:=fJ (P:=P) b2 (es.length * i2.size) e fz ys 0 vs w Y (by simpa using S) (by simpa using q9) Q;simp only [XO] at K;generalize G:vs.toList.take (es.length * i2.size)++ys++vs.toList.drop (es.length * i2.size+ys.length)=row at K;have U:row.length=vs.size:=by
      rw [<- G];simp;omega
     have a7: ∀j,j < es.length * i2.size->row[j]? =vs[j]? :=fun j hj=>by
      rw [<- G,W6,Xr (by simp;omega),List.getElem?_take,if_pos hj];simp
     have a8: ∀j v,ys[j]? =some v->row[es.length * i2.size+j]? =some v:=fun j v hv=>by
      have hj:j < ys.length:=by
       rcases Nat.lt_or_ge j ys.length with q | q
       .exact q
       .simp [Xu q] at hv
      have bb:(vs.toList.take (es.length * i2.size)).length=es.length * i2.size:=by
       have cb:vs.toList.length=vs.size:=rfl;rw [Xg,cb];omega
      rw [<- G,W6,XB (by rw [bb];omega),bb,Xr (by omega)];rw [show es.length * i2.size+j - es.length * i2.size=j by omega];exact hv
     have d:(w.setRow b2 row.toArray).heap[b2]? =some (.cells row.toArray e fz):=setRow_heap _ _ _ _ _ _ Y;have aw:g.M b2=none:=by
      cases hm:g.M b2 with
      | none=>rfl
      | some ee=>
       have:=h.M b2 ee.1 ee.2 hm;rw [Y] at this;cases this
     have i1:Inv T A g (st.put k (.grow n e i2.size es)) (w.setRow b2 row.toArray):=h.write h1 s (.grow n e i2.size es) (setRow_size _ _ _) (fun _ hb=>gJ _ _ _ hb)
      (fun j v hv=>by
       have hj:j < es.length * i2.size:=by
        rcases Nat.lt_or_ge j (es.length * i2.size) with q | q
        .exact q
        .rw [I j q] at hv;cases hv
       have:=h.F b2 j v hv;rw [cell_of Y] at this;rw [cell_of d,XP,a7 j hj];exact this) aw (fun b' V=>qI q1 q2 V)
      ⟨f,b2,o,i2,row.toArray,fz,q1,q2,q3,q4,q5,q6,d,by simpa [U] using q8,q9,I,rfl,W,av,a6⟩
     have a1:Kp A g w g (w.setRow b2 row.toArray):=Kp.write (h.own k _ b2 h1 s (by omega)) (setRow_size _ _ _) (fun _ hb=>gJ _ _ _ hb);have cc:(st.put k (.grow n e i2.size es)).get k= .ok (.grow n e i2.size es):=St.aQ (St.ch.1 h1).1;have hle:Le g ((g.cP b2 (es.length * i2.size) ys).dm k (.tok f)):=by
      refine (Le.cP fun o' L _=>I o' L).trans ⟨fun _ _ _ x=>x,fun _ _ x=>x,fun j b x=> ?_,fun j l x=> ?_⟩
      .have:j≠k:=fun e=>by subst e;have:=q1.symm.trans x;cases this
       rw [Gh.ca _ _ this];exact x
      .by_cases hj:j=k
       .subst hj;have x':g.E j=some (.tok l):=x;have:=q1.symm.trans x';simp only [W7,nt.tok.injEq] at this;subst this;exact ⟨_,Gh.aZ _ _ _,fun _ _ hy=>hy⟩
       .exact ⟨l,by rw [Gh.ca _ _ hj];exact x,fun _ _ y=>y⟩
     have cd:v'.cells.length=i2.size:=by rw [b9,hlen,c4]
     obtain ⟨bt,cg⟩:=i1.FF (o1:= .grow n e i2.size (es++[v'])) (loc':=f) b2 (es.length * i2.size) ys cc q1 (fun _ _ hy=>hy) (fun o' L _=>I o' L)
      (fun j u hu=>by
       rw [cell_of d,XP];exact a8 j u hu)
      (fun id o' hid hne ha=>by
       rw [St.aY (fun e=>hne e.symm)] at hid;exact hne (h.D id k o' _ b2 hid h1 ha s)) (h.own k _ b2 h1 s (by omega))
      (fun b' V=>qI (Gh.aZ _ _ _) q2 V)
      ⟨f,b2,o,i2,row.toArray,fz,Gh.aZ _ _ _,q2,q3,q4,q5,q6,d,by simpa [U] using q8,
       Xs q9 (Nat.mul_le_mul_right _ (by simp)),fun o' L=>by
        show (g.cP b2 (es.length * i2.size) ys).F b2 o'=none;simp only [W9,Xk,XI,Xd] at L;rw [Nat.add_mul,Nat.one_mul] at L;rw [Gh.cX _ _ _ _ (by rw [O,hlen, <- c4];omega)];exact I o' (by omega),rfl,by simp;omega,by rw [fK,av];show (VM.bare v'&&true)=true;rw [b8];rfl,by
        rw [mE];refine ⟨gq hle _ _ _ _ a6, ?_⟩;rw [dL];refine ⟨fun u hu=>by simp only [Yj] at hu;subst hu;exact cd, ?_⟩;rw [show flat [v']=v'.cells by simp [flat]];exact dv (eA hle _ _ b7) fun j u hu=>⟨by rw [Xd];exact Gh.kg g b2 (es.length * i2.size) ys j u hu,Q u (Xo hu)⟩⟩
     have b4:(st.put k (.grow n e i2.size es)).put k (.grow n e i2.size (es++[v']))=st.put k (.grow n e i2.size (es++[v'])):=by
      simp only [St.put,Tr.put,Tr.set_set]
     rw [b4] at bt;refine ⟨_,_, ?_,bt,a1.trans cg⟩;simp only [Instr.storeAt,Instr.sureAddr,Sem.run_bind,Sem.run_pure,Result.andThen_ok,storeVar,hi.dh,Sem.run_ite];have b5:y.cells.size=ys.length:=by rw [<- J];exact (XX).symm
     rw [if_neg (by omega)];show (storeCells _ y.cells.toList).run P w= _;rw [J];exact K
   .cases h2
  .rename_i cp;unfold qN at h2;split at h2
   .rename_i n e z old;split at h2
    .rename_i a;simp only [WY] at a;have c1:=W2 a.1;have c2:=WU a.2;subst c1;cases h2;simp only [eG] at X;split at X
     .cases X
     .rename_i ar;cases X;cases h6;rw [cW] at ar;refine ⟨rfl, ?_⟩;simp only [R] at hx;obtain ⟨loc,b,cap,hE,hl,rfl⟩:=hx;obtain ⟨f,b2,o,i2,pre,rest,q1,q2,q3,q4,q5,q6,Y,q8,q9,I,N,W,av⟩:=h.H k _ h1;have Z:=q1.symm.trans hE;simp only [W7,nt.tok.injEq] at Z;subst Z;have e2:=q2.symm.trans hl;simp only [W7,WV] at e2;obtain ⟨rfl,rfl⟩:=e2;have B:=wY hy hc.2;obtain ⟨ys,J⟩: ∃ys,y.cells.toList=ys:=⟨_,rfl⟩;rw [J] at B;have O:=dB B;have Q:=qM hc.2 B;have cv:=dB N;have cn:pre.toList.length=pre.size:=rfl;have S:off+ys.length<=(pre++rest).size:=by
       rw [Array.size_append,O];omega
      have s:At g k (.row n e z old) b2:=⟨f,o,q1,q2⟩;have K:=fJ (P:=P) b2 off e (0,0) ys 0 (pre++rest) w Y (by simpa using S) (by simp) Q;simp only [XO] at K;have G:(pre++rest).toList.take off++ys++(pre++rest).toList.drop (off+ys.length)=((pre.toList.take off++ys++pre.toList.drop (off+ys.length)).toArray++rest).toList:=by
       rw [Array.toList_append,Array.toList_append,List.take_append_of_le_length (by omega),List.drop_append_of_le_length (by omega)];simp [W6]
      rw [G] at K;have d:(w.setRow b2 ((pre.toList.take off++ys++pre.toList.drop (off+ys.length)).toArray++rest).toList.toArray).heap[b2]? =some (.cells ((pre.toList.take off++ys++pre.toList.drop (off+ys.length)).toArray++rest) e (0,0)):=by
       rw [setRow_heap _ _ _ _ _ _ Y]
      have aw:g.M b2=none:=by
       cases hm:g.M b2 with
       | none=>rfl
       | some ee=>
        have:=h.M b2 ee.1 ee.2 hm;rw [Y] at this;cases this
      have cl:(pre.toList.take off++ys++pre.toList.drop (off+ys.length)).length=pre.size:=by
       simp only [W9,Xg,Xa];omega
      have i1:Inv T A g (st.put k (.row n e z (cJ old off v.cells))) (w.setRow b2 ((pre.toList.take off++ys++pre.toList.drop (off+ys.length)).toArray++rest).toList.toArray):=h.write h1 s _ (setRow_size _ _ _) (fun _ hb=>gJ _ _ _ hb)
       (fun j u hu=>by rw [q9 j] at hu;cases hu) aw (fun b' V=>by
        obtain ⟨l,c,p1,p2⟩:=V;have Z:=p1.symm.trans q1;simp only [W7,nt.tok.injEq] at Z;subst Z;have e2:=p2.symm.trans q2;simp only [W7,WV] at e2;exact e2.1)
       ⟨f,b2,o,i2,_,rest,q1,q2,q3,q4,q5,q6,d,by rw [Array.size_append,YF,cl, <- Array.size_append];exact q8,q9,I,by
        rw [List.toList_toArray];unfold cJ;have b6:v.cells.length=ys.length:=O.symm;rw [b6];exact eN (eN (mR off N) B) (iP _ N),by
        intro u hu;rw [List.toList_toArray] at hu;simp only [Xj] at hu;rcases hu with (hu | hu) | hu
        .exact W u (List.mem_of_mem_take hu)
        .exact Q u hu
        .exact W u (List.mem_of_mem_drop hu),by
        unfold cJ;simp only [W9,Xg,Xa];omega⟩
      have a1:Kp A g w g (w.setRow b2 ((pre.toList.take off++ys++pre.toList.drop (off+ys.length)).toArray++rest).toList.toArray):=Kp.write (h.own k _ b2 h1 s (by omega)) (setRow_size _ _ _) (fun _ hb=>gJ _ _ _ hb);refine ⟨_,_, ?_,i1,a1⟩;simp only [Instr.storeAt,Instr.sureAddr,Sem.run_bind,Sem.run_pure,Result.andThen_ok,storeVar,hi.dh,Sem.run_ite];have b5:y.cells.size=ys.length:=by rw [<- J];exact (XX).symm
      rw [if_neg (by omega)];show (storeCells _ y.cells.toList).run P w= _;rw [J];exact K
    .cases h2
   .cases h2
 .cases hp
end
section
variable {P:Program} {T:TT} {A:Nat->Prop} {g:Gh} {st:St} {w:World}
theorem wm {C:df} {t xt ty e:TypeId} {i:TI} (_he:wA P T t xt e i) {s x r:AV} {a xv:Value} {new:List AV} {p:dG} {b:Fx} (_hev:oP x=some new)
  (hp:sk i e s new= .ok p) (_hrun:aC C st p= .ok (r,b)) (_hs:R g s a) (_hx:R g x xv) (_h:Inv T A g st w):
  bl P T A g w r (b.did.app st) (Builtin.append_ #[t,xt] ty #[a,xv]):=by cases hp
end
end Go.VM
