/-
  (A part of the proof: Ops9, Ops10, Ops11, OpsG, OpsG2, OpsW.)
-/
import Derived.Test.YtmhofncehlaamaaGreatDoorVmAA
import Derived.Test.YtmhofncehlaamaaGreatDoorVmAG
import Derived.Laws.Build
set_option linter.unusedSimpArgs false
namespace Go.VM
section
variable {P:Program} {T:TT} {A:Nat→Prop} {g:Gh} {st:St} {w:World}
theorem AP (off:Nat): ∀(new:List Value) (k:Nat) (cells:Array Value),off+k+new.length≤cells.size→
  ((new.zipIdx k).foldl (fun cs (x:Value×Nat)=>cs.setIfInBounds (off+x.2) x.1) cells).toList=cells.toList.take (off+k)++new++cells.toList.drop (off+k+new.length)
 | [],k,cells,_=>by simp
 | v::new,k,cells,h=>by
  simp only [Vh] at h;rw [List.zipIdx_cons,Xl,AP off new (k+1) _ (by simp;omega)];have e:=list_seg_step cells.toList (off+k) v new (by simp;omega);simpa [Array.toList_setIfInBounds,Xn,WE 1] using e
theorem IC {v:Value} {off:Nat} {cells:Array Value} (h:off+v.cells.size≤cells.size):
  (v.cells.zipIdx.foldl (fun cs (x:Value×Nat)=>cs.setIfInBounds (off+x.2) x.1) cells).toList=cells.toList.take off++v.cells.toList++cells.toList.drop (off+v.cells.size):=by
 rw [← Array.foldl_toList];have:=AP off v.cells.toList 0 cells (by simpa using h);simpa [Array.toList_zipIdx] using this
inductive rW (g:Gh):List (Nat×AV)→List (Nat×Value)→Prop
 | nil:rW g [] []
 | cons {i:Nat} {v:AV} {x:Value} {l:List (Nat×AV)} {m:List (Nat×Value)} (h:R g v x) (t:rW g l m):rW g ((i,v)::l) ((i,x)::m)
theorem IY {v:AV} {x:Value} (h:R g v x):x.cells.size=v.cells.length∧(RL g v.cells x.cells.toList):=by
 cases v with
 | agg cs=>
  simp only [R] at h;obtain ⟨ys,rfl,h2⟩:=h;exact ⟨by simpa [AV.cells,Value.cells] using cW h2,h2⟩
 | opq i=>
  have hx:x.cells= #[x]:=by
   simp only [R] at h;rcases h with ⟨_,rfl | ⟨_,_,rfl⟩⟩ | ⟨_,_,rfl⟩ <;> rfl
  rw [hx];exact ⟨rfl,cp h fP⟩
 | _=>
  have hx:x.cells= #[x]:=by
   simp only [R] at h
   first
    | (obtain ⟨_,_,_,_,_,rfl,_⟩:=h;rfl)
    | (obtain ⟨_,_,_,_,_,rfl⟩:=h;rfl)
    | (subst h;rfl)
    | (obtain ⟨_,_,_,rfl,_⟩:=h;rfl)
    | (obtain ⟨_,_,rfl⟩:=h;rfl)
    | (obtain ⟨_,_,_,_,rfl,_⟩:=h;rfl)
    | (obtain ⟨_,_,rfl,_⟩:=h;rfl)
    | (obtain ⟨_,rfl,_⟩:=h;rfl)
    | (obtain ⟨_,_,_,rfl,_⟩:=h;rfl)
  rw [hx];exact ⟨rfl,cp h fP⟩
theorem lk {place place':Nat→Option (Nat×Nat)} (hpl: ∀k p,place k=some p→place' k=some p): ∀{parts:List (Nat×AV)} {parts':List (Nat×Value)} {cells cs:List AV} {xs:Array Value},
  rW g parts parts'→RL g cells xs.toList→kT place cells parts= .ok cs→ ∃ys,Instr.fill place' xs parts'=some ys∧RL g cs ys.toList
 | _,_,_,_,_,.nil,hr,h=>by
  simp only [kT,Vi] at h;subst h;exact ⟨_,rfl,hr⟩
 | _,_,cells,cs,xs,.cons (i:=i) (v:=v) (x:=x) hv ht,hr,h=>by
  simp only [kT] at h;split at h
  ·cases h
  ·rename_i off size hp;split at h
   ·rename_i hc;simp only [Vl] at hc;have h1:=Vq hc.1;have h2:=VA hc.2;obtain ⟨c1,c2⟩:=IY hv;have hxl:=cW hr;simp only [Wn] at hxl;have hst:(x.cells.zipIdx.foldl (fun cs (y:Value×Nat)=>cs.setIfInBounds (off+y.2) y.1) xs).toList=xs.toList.take off++x.cells.toList++xs.toList.drop (off+x.cells.size):=IC (by omega);have hrl:RL g (cO cells off v.cells) (x.cells.zipIdx.foldl (fun cs (y:Value×Nat)=>cs.setIfInBounds (off+y.2) y.1) xs).toList:=by
     rw [hst];have:=uw off hr c2;simpa using this
    obtain ⟨ys,k1,k2⟩:=lk hpl ht hrl h;refine ⟨ys, ?_,k2⟩;simp only [Instr.fill,hpl _ _ hp];rw [if_neg (by simp;omega)];exact k1
   ·cases h
theorem re (hT:wA P T) {w:World}: ∀{fields:List Field} {ps:List (Nat×Nat)},oI T (fields.map fun f=>(f.offset,f.type))= .ok ps→
  (fields.mapM fun f=>do pure (f.offset, ← sizeOf f.type):Sem (List (Nat×Nat))).run P w= .ok ps w
 | [],_,h=>by
  simp only [VY,oI,Vi] at h;subst h;rfl
 | f::l,_,h=>by
  simp only [Vu,oI,ae,ak] at h;obtain ⟨i,h1,ps,h2,rfl⟩:=h;have hi:=hT _ i (cb.1 h1);have ih:=re hT (w:=w) h2;rw [List.mapM_cons];simp only [Sem.run_bind,hi.cV,Result.andThen_ok,Sem.run_pure,ih]
theorem D5 (hT:wA P T) {t:TypeId} {parts:List (Nat×AV)} {parts':Array (Nat×Value)} {v:AV} (hp:build T t parts= .ok v) (hr:rW g parts parts'.toList) (h:Inv T A g st w):
  ba P T A g w v st (Instr.build t parts'):=by
 simp only [build,ae] at hp;obtain ⟨i,h1,h2⟩:=hp;have hi:=hT t i (cb.1 h1);obtain ⟨z,z1,z2,z3,z4,z5,z6⟩:=hi.pV;split at h2
 ·rename_i fs hu;obtain ⟨fields,k1,k2⟩:=rM hi hu;simp only [ae,ak] at h2;obtain ⟨ps,h3,cs,h4,rfl⟩:=h2;rw [← k2] at h3;have hm:=re hT (w:=w) h3;obtain ⟨ys,e1,e2⟩:=lk (place':=fun k=>ps.toArray[k]?) (fun k p hk=>by simpa using hk) hr (z6 g) h4;refine ba.of h (x:= .agg ys) ?_ (by simp only [R];exact ⟨ys,rfl,e2⟩);have hm':(fields.mapM fun f=>do pure (f.offset, ← sizeOf f.type):Sem (Array (Nat×Nat))).run P w= .ok ps.toArray w:=by
   rw [Array.mapM_eq_mapM_toList];simp only [Sem.run_map,hm,Result.andThen_ok]
  simp only [Instr.build,Sem.run_bind,z1,Result.andThen_ok,k1,hm',e1,Sem.run_pure]
 ·rename_i n e hu;have k1:=qt hi hu;simp only [ae,ak] at h2;obtain ⟨j,h3,cs,h4,rfl⟩:=h2;have hj:=hT _ j (cb.1 h3);obtain ⟨ys,e1,e2⟩:=lk (place':=fun k=>some (k * j.size,j.size)) (fun k p hk=>hk) hr (z6 g) h4;refine ba.of h (x:= .agg ys) ?_ (by simp only [R];exact ⟨ys,rfl,e2⟩);simp only [Instr.build,Sem.run_bind,z1,Result.andThen_ok,k1,hj.cV,e1,Sem.run_pure]
 ·cases h2
theorem Ir {v:AV} (h:one v=true):v.cells=[v]:=by cases v <;> first | rfl | simp [one] at h
theorem IA {l:List AV} (n:Nat) (h:gj l=true):gj (l.drop n)=true:=by
 induction n generalizing l with
 | zero=>exact h
 | succ n ih=>
  cases l with
  | nil=>rfl
  | cons v l=>
   simp only [gj,Vl] at h;exact ih h.2
theorem rR {sz:Nat} {agg:Bool} (hz:agg=false→sz=1): ∀{n:Nat} {cs els:List AV},gj cs=true→group sz agg n cs= .ok els→flat els=cs.take (n * sz)∧(∀e∈els,e.cells.length=sz)∧els.length=n
 | 0,cs,els,_,h=>by
  simp only [group,Vi] at h;subst h;simp [flat]
 | n+1,cs,els,ho,h=>by
  simp only [group,ae,ak] at h;obtain ⟨v,h1,l,h2,rfl⟩:=h;obtain ⟨k1,k2,k3⟩:=rR hz (IA sz ho) h2;have key:v.cells=cs.take sz∧v.cells.length=sz:=by
   cases agg with
   | true=>
    simp only [cB] at h1;split at h1
    ·rename_i hle;have hle:=VA hle;simp only [Vi] at h1;subst h1;exact ⟨rfl,by simp [AV.cells];omega⟩
    ·cases h1
   | false=>
    have hz:=hz rfl;subst hz;simp only [cB] at h1;cases cs with
    | nil=>cases h1
    | cons c cs=>
     simp only [Vi] at h1;subst h1;simp only [gj,Vl] at ho;rw [Ir ho.1];exact ⟨rfl,rfl⟩
  refine ⟨?_, ?_,by simp [k3]⟩
  ·rw [gy,k1,key.1,Nat.add_mul,Nat.one_mul,WE,List.take_add]
  ·intro e he;rcases Vv.1 he with rfl | he
   ·exact key.2
   ·exact k2 e he
def jF (z:List Value):Nat→List Value
 | 0=>[]
 | n+1=>z++jF z n
theorem xL {z:List AV} {zs:List Value} (h:RL g z zs): ∀n,RL g (zeros z n) (jF zs n)
 | 0=>fP
 | n+1=>dN h (xL h n)
theorem xz (z:List Value): ∀(n j:Nat),j < n * z.length→(jF z n)[j]? =z[j % z.length]?
 | 0,j,h=>by omega
 | n+1,j,h=>by
  simp only [jF];have hz:0 < z.length:=by
   rcases Nat.eq_zero_or_pos z.length with q | q
   ·rw [q] at h;omega
   ·exact q
  rw [Nat.add_mul,Nat.one_mul] at h;rcases Nat.lt_or_ge j z.length with q | q
  ·rw [VU q,Nat.mod_eq_of_lt q]
  ·rw [V5 q,xz z n _ (by omega),Nat.mod_eq_sub_mod q]
theorem ru (z:List Value): ∀n,(jF z n).length=n * z.length
 | 0=>by simp [jF]
 | n+1=>by simp only [jF,Vg,ru z n,Nat.add_mul];omega
theorem ED (z:Array Value) (n:Nat):((Array.range (n * z.size)).map fun i=>z[i % z.size]!).toList=jF z.toList n:=by
 apply List.ext_getElem?
 intro j;rcases Nat.lt_or_ge j (n * z.size) with q | q
 ·rw [xz _ _ _ (by simpa using q)];have hz:0 < z.size:=by
   rcases Nat.eq_zero_or_pos z.size with r | r
   ·rw [r] at q;omega
   ·exact r
  have hm:j % z.size < z.size:=Nat.mod_lt _ hz;simp [q,hm]
 ·rw [VW (by simpa using q),VW (by rw [ru];simpa using q)]
theorem NY {t:TypeId} {i:TI} (hi:iP P t i):i.agg=false→i.size=1:=by
 obtain ⟨f,h1,h2,h3,z,h4,h5,h6,_⟩:=hi.info;intro ha;have:=h6 ha;rw [← h5];cases z <;> first | rfl | simp [Value.oneCell'] at this
theorem zD {cs new:List AV} {off:Nat} (h:off+new.length≤cs.length):(cO cs off new).length=cs.length:=by
 simp [cO];omega
theorem wY {place:Nat→Option (Nat×Nat)}: ∀{parts:List (Nat×AV)} {cells cs:List AV},kT place cells parts= .ok cs→cs.length=cells.length
 | [],_,_,h=>by
  simp only [kT,Vi] at h;rw [h]
 | (i,v)::l,cells,cs,h=>by
  simp only [kT] at h;split at h
  ·cases h
  ·split at h
   ·rename_i hc;simp only [Vl] at hc;have h1:=Vq hc.1;have h2:=VA hc.2;rw [wY h,zD (by omega)]
   ·cases h
theorem sO (z:List AV): ∀n,(zeros z n).length=n * z.length
 | 0=>by simp [zeros]
 | n+1=>by simp only [zeros,Vg,sO z n,Nat.add_mul];omega
theorem uq (hT:wA P T) {t:TypeId} {len:Nat} {parts:List (Nat×AV)} {parts':Array (Nat×Value)} {v:AV} (hp:buildSlice T t len parts= .ok v) (hr:rW g parts parts'.toList) (h:Inv T A g st w):
  ba P T A g w v st (Instr.buildSlice t len parts'):=by
 simp only [buildSlice,ae] at hp;obtain ⟨i,h1,h2⟩:=hp;have hi:=hT t i (cb.1 h1);split at h2
 ·rename_i e hu;have k1:=eG hi hu;simp only [ae] at h2;obtain ⟨j,h3,h4⟩:=h2;have hj:=hT _ j (cb.1 h3);split at h4
  ·rename_i hc;simp only [Vl] at hc;have c1:=VA hc.1;have c2:=VA hc.2;simp only [ae] at h4;obtain ⟨cs,h5,h6⟩:=h4;split at h6
   ·rename_i hones;simp only [ae,ak] at h6;obtain ⟨els,h7,els',h8,rfl⟩:=h6;obtain ⟨z,z1,z2,z3,z4,z5,z6⟩:=hj.pV;have hzl:RL g (zeros j.zero len) ((Array.range (len * z.cells.size)).map fun i=>z.cells[i % z.cells.size]!).toList:=by
     rw [ED];exact xL (z6 g) len
    obtain ⟨ys,e1,e2⟩:=lk (place':=fun k=>some (k * j.size,j.size)) (fun k p hk=>hk) hr hzl h5;have hcl:ys.size=len * j.size:=by
     have q1:=wY h5;rw [sO] at q1;have q2:=cW (z6 g);have q3:=cW e2;simp only [Wn] at q2 q3;rw [q3,q1, ← q2,z2]
    obtain ⟨f1,f2,f3⟩:=rR (NY hj) hones h7;have hcsl:cs.length=len * j.size:=by rw [← cW e2];simpa using hcl
    rw [List.take_of_length_le (by omega)] at f1;have e2':RL g (flat els) ys.toList:=by rw [f1];exact e2
    obtain ⟨q1,q2,q3,q4⟩:=nG h8 e2';have hone:=qp hones e2;obtain ⟨n1,n2,n3⟩:=h.CW e q1 hone;refine ⟨.slice (some ⟨w.heap.size,0,none⟩) len len,_,_, ?_, ?_,n1,n2⟩
    ·simp only [Instr.buildSlice,Sem.run_bind,k1,Result.andThen_ok,hj.cV,Sem.run_ite];rw [if_neg (by omega)];by_cases hz0:len * j.size=0
     ·rw [z2,hz0] at e1;simp only [hz0,if_true,Sem.run_pure,Result.andThen_ok];have:(Array.range 0).map (fun i=>(#[]:Array Value)[i % (#[]:Array Value).size]!)=(Array.range 0).map fun i=>z.cells[i % j.size]! :=by simp
      rw [this,e1];simp only [Sem.run_bind,jP,Result.andThen_ok,Sem.run_pure]
     ·rw [z2] at e1;simp only [hz0,if_false,Sem.run_bind,z1,Result.andThen_ok,Sem.run_pure,z2,e1,jP]
    ·simp only [R];refine ⟨q2,w.heap.size,0,len,by rw [q3,f3],by rw [q3,f3];omega,c2, ?_,by show len=els'.length;rw [q3,f3]⟩;rw [dE];refine ⟨?_,n3⟩;intro u hu;have:u.cells.length∈els'.map (·.cells.length):=We.2 ⟨u,hu,rfl⟩;rw [q4] at this;obtain ⟨u',hu',e⟩:=We.1 this;rw [← e];exact f2 u' hu'
   ·cases h6
  ·cases h4
 ·cases h2
end
section
variable {P:Program} {T:TT} {A:Nat→Prop} {g:Gh} {st:St} {w:World}
mutual
theorem mS (g:Gh): ∀(x:Value) (v:AV),ofConst x= .ok v→R g v x
  | .bool _,v,h | .int _ _,v,h | .float _ _,v,h | .nilFunc,v,h | .nilIface,v,h=>by
    unfold ofConst at h;simp only [Vi] at h;subst h;simp only [R]
  | .string s,v,h=>by
    unfold ofConst at h;simp only [Vi] at h;subst h;simp only [R]
  | .pointer a,v,h=>by
    cases a with
    | none=>unfold ofConst at h;simp only [Vi] at h;subst h;simp only [R]
    | some _=>unfold ofConst at h;cases h
  | .slice a l c,v,h=>by
    unfold ofConst at h;split at h <;> rename_i heq <;> (try (cases heq;done)) <;> (try (cases h;done))
    cases heq;simp only [Vi] at h;subst h;simp only [R]
  | .map a,v,h=>by
    cases a with
    | none=>unfold ofConst at h;simp only [Vi] at h;subst h;simp only [R]
    | some _=>unfold ofConst at h;cases h
  | .agg cs,v,h=>by
    unfold ofConst at h;simp only [ae,ak] at h;obtain ⟨vs,h1,rfl⟩:=h;simp only [R];exact ⟨cs,rfl,mj g cs.toList vs h1⟩
  | .tuple cs,v,h=>by
    unfold ofConst at h;simp only [ae,ak] at h;obtain ⟨vs,h1,rfl⟩:=h;simp only [R];exact ⟨cs,rfl,mj g cs.toList vs h1⟩
  | .complex _ _ _,v,h | .chan _,v,h | .func _ _ _,v,h | .iface _ _,v,h=>by
    unfold ofConst at h;cases h
theorem mj (g:Gh): ∀(xs:List Value) (vs:List AV),ofConst.ofAll xs= .ok vs→RL g vs xs
  | [],vs,h=>by
    unfold ofConst.ofAll at h;simp only [Vi] at h;subst h;exact fP
  | x::xs,vs,h=>by
    unfold ofConst.ofAll at h;simp only [ae,ak] at h;obtain ⟨v,h1,l,h2,rfl⟩:=h;exact cp (mS g x v h1) (mj g xs l h2)
end
theorem CI:R g undef Go.undef:=by
  simp only [undef,R];exact ⟨#[],rfl,by simp [RL]⟩
theorem wi.put {fr:Fr} {tmps:Array Value} (h:wi g fr tmps) {v:AV} {x:Value} (hx:R g v x) (d:Option Tmp):
    wi g (fr.put d v) (match d with | some d=>tmps.setIfInBounds d x | none=>tmps):=by
  cases d with
  | none=>exact h
  | some d=>
    simp only [Fr.put];split
    · rename_i hd
      rw [cH, ← h.size] at hd;refine ⟨by simp [h.size],fun t=> ?_⟩;simp only [Fr.get,Tr.jX];by_cases ht:d=t
      · subst ht
        right;simpa [hd] using hx
      · have:=h.at' t
        simp only [Fr.get] at this;simpa [ht,Array.getElem?_setIfInBounds_ne ht] using this
    · rename_i hd
      rw [cP, ← h.size] at hd;rw [Array.setIfInBounds_eq_of_size_le (by simpa using hd)];exact h
def GR (g:Gh) (G:Nat→Option (List AV)):Prop:= ∀k cs,G k=some cs→bx cs=true∧mi g cs k 0
theorem GR.mono {g g':Gh} {G:Nat→Option (List AV)} (h:GR g G) (le:Le g g'):GR g' G:=fun k cs hk=>⟨(h k cs hk).1,tC le _ _ _ (h k cs hk).2⟩
theorem aN {G:Nat→Option (List AV)} {fr:Fr} {a:Act} {x:Operand} {v:AV} (hG:GR g G) (hf:wi g fr a.tmps) (h:bS G fr x= .ok v):R g v (a.eval x):=by
  cases x with
  | tmp t=>
    simp only [bS] at h;split at h
    · rename_i hs
      simp only [Vi] at h;subst h;exact hf.at hs t
    · split at h
      · rename_i u hu
        simp only [Vi] at h;subst h;rcases hf.at' t with ⟨_,h2⟩ | h2
        · rw [hu] at h2;cases h2
        · rw [Fr.get,hu] at h2;exact h2
      · cases h
  | const c=>exact mS g c v h
  | global k=>
    simp only [bS] at h;split at h
    · rename_i cs hk
      simp only [Vi] at h;subst h;obtain ⟨h1,h2⟩:=hG k cs hk;simp only [R,Act.eval];exact ⟨h1,k,0,rfl,h2⟩
    · cases h
  | func f=>
    simp only [bS,Vi] at h;subst h;simp only [R,Act.eval];exact ⟨#[], #[],rfl,by simp [RL],by simp [RL]⟩
theorem mz {G:Nat→Option (List AV)} {fr:Fr} {a:Act} (hG:GR g G) (hf:wi g fr a.tmps): ∀{xs:List Operand} {vs:List AV},ml G fr xs= .ok vs→RL g vs (xs.map a.eval)
  | [],_,h=>by simp only [ml,Vi] at h;subst h;exact fP
  | x::xs,_,h=>by
    simp only [ml,ae,ak] at h;obtain ⟨v,h1,l,h2,rfl⟩:=h;exact cp (aN hG hf h1) (mz hG hf h2)
theorem mR {G:Nat→Option (List AV)} {fr:Fr} {a:Act} (hG:GR g G) (hf:wi g fr a.tmps) {x:Option Operand} {v:Option AV} (h:dU G fr x= .ok v):Ko g v (x.map a.eval):=by
  cases x with
  | none=>simp only [dU,Vi] at h;subst h;trivial
  | some x=>
    simp only [dU,ae,ak] at h;obtain ⟨u,h1,rfl⟩:=h;exact aN hG hf h1
theorem kQ {G:Nat→Option (List AV)} {fr:Fr} {a:Act} (hG:GR g G) (hf:wi g fr a.tmps): ∀{xs:List (Nat×Operand)} {vs:List (Nat×AV)},fZ G fr xs= .ok vs→rW g vs (xs.map fun (i,x)=>(i,a.eval x))
  | [],_,h=>by simp only [fZ,Vi] at h;subst h;exact .nil
  | (i,x)::xs,_,h=>by
    simp only [fZ,ae,ak] at h;obtain ⟨v,h1,l,h2,rfl⟩:=h;exact .cons (aN hG hf h1) (kQ hG hf h2)
theorem vw {d:TypeDesc} {u:U} {a b:AV} {r:Bool} {x y:Value} (hu:zc d u) (ha:pb u a=true) (h:rB a b= .ok r) (hx:R g a x) (hy:R g b y):Instr.sameNow d x y=some r:=by
  unfold rB at h;split at h
  · simp only [Vi] at h
    subst h;simp only [R] at hx hy;subst hx hy;cases u <;> simp [pb] at ha
    simp only [zc] at hu;subst hu;rfl
  · rename_i j a k b
    split at h
    · rename_i hjk
      subst hjk;simp only [Vi] at h;subst h;simp only [R] at hx hy;subst hx hy;cases u <;> simp [pb] at ha
      simp only [zc] at hu;subst hu;simp [Instr.sameNow]
    · cases h
  · simp only [Vi] at h
    subst h;simp only [R] at hx hy;subst hx hy;cases u <;> simp [pb] at ha
    simp only [zc] at hu;subst hu;simp [Instr.sameNow,FM]
  · cases h
theorem pg {d:TypeDesc} {u:U} {k:AV} {kx:Value} (hu:zc d u) (hk:pb u k=true) (hx:R g k kx): ∀{es:List (AV×AV)} {ents:List MapEntry} {r:Option AV} (i:Nat),gX k es= .ok r→qV g es ents→
    match r with
    | none=>Instr.findNow d kx ents i=some none
    | some v=> ∃j y,Instr.findNow d kx ents i=some (some (j,y))∧R g v y
  | [],_,_,i,h,hr=>by
    simp only [gX,Vi] at h;subst h;simp only [qV] at hr;subst hr;rfl
  | (a,v)::es,_,r,i,h,hr=>by
    simp only [qV] at hr;obtain ⟨e,l,rfl,r1,r2,r3⟩:=hr;simp only [gX,ae] at h;obtain ⟨b,h1,h2⟩:=h;have hs:=vw hu hk h1 hx r1;cases b with
    | true=>
      simp only [ak] at h2;subst h2;exact ⟨i,e.val,by simp [Instr.findNow,hs],r2⟩
    | false=>
      have ih:=pg hu hk hx (i+1) h2 r3;cases r with
      | none=>simp only [Instr.findNow,hs];exact ih
      | some v'=>
        obtain ⟨j,y,h3,h4⟩:=ih;exact ⟨j,y,by simp only [Instr.findNow,hs];exact h3,h4⟩
theorem run_checkKey {kt:TypeId} {d:TypeDesc} {u:U} {k:AV} {kx:Value} (hd:P.underlying kt=some d) (hu:zc d u) (hk:pb u k=true) (hx:R g k kx) (b:Bool) (n:Nat):
    (Instr.checkKey b (n+1) kt kx).run P w= .ok () w:=by
  cases u <;> cases k <;> simp [pb] at hk <;> simp only [zc] at hu <;> simp only [R] at hx <;> subst hu hx <;> simp [Instr.checkKey,fW hd]
theorem run_findKey {kt:TypeId} {d:TypeDesc} {kx:Value} {ents:List MapEntry} {r:Option (Nat×Value)} (hd:P.underlying kt=some d) (h:Instr.findNow d kx ents 0=some r):
    (Instr.findKey kt kx ents).run P w= .ok r w:=by
  simp [Instr.findKey,fW hd,h]
theorem Dw {t:TypeId} {i:TI} (hi:iP P t i): ∃z,(∀w,(zeroValue t).run P w= .ok z w)∧R g (zeroV i) z:=by
  obtain ⟨z,z1,z2,z3,z4,z5,z6⟩:=hi.pV;refine ⟨z,z1, ?_⟩;cases ha:i.agg with
  | true=>
    obtain ⟨cs,rfl⟩:=z5 ha;simp only [zeroV,ha,R];exact ⟨cs,rfl,z6 g⟩
  | false=>
    have h1:=z3 ha;have hz:z.cells= #[z]:=by cases z <;> first | rfl | simp [Value.oneCell'] at h1
    have h6:=z6 g;rw [hz] at h6;cases hl:i.zero with
    | nil=>rw [hl] at h6;simp only [RL] at h6;cases h6
    | cons v l=>
      rw [hl] at h6;simp only [RL] at h6;obtain ⟨x,xs,e1,e2,e3⟩:=h6;simp only [WG] at e1;obtain ⟨rfl,rfl⟩:=e1;cases l with
      | nil=>simp only [zeroV,ha,hl];exact e2
      | cons u l=>simp only [RL] at e3;obtain ⟨_,_,e,_⟩:=e3;cases e
theorem qf {et kt:TypeId} {i:TI} {d:TypeDesc} {u:U} {ok:Bool} {k v:AV} {kx:Value} {es:List (AV×AV)} {ents:Array MapEntry} (hi:iP P et i) (hd:P.underlying kt=some d) (hu:zc d u) (hk:pb u k=true) (hx:R g k kx)
    (hf:found i ok k es= .ok v) (hr:qV g es ents.toList):(Instr.checkKey ents.isEmpty 10000 kt kx).run P w= .ok () w∧
      ((∃j y,(Instr.findKey kt kx ents.toList).run P w= .ok (some (j,y)) w∧R g v (if ok then Value.tuple #[y,.bool true] else y))∨
       ((Instr.findKey kt kx ents.toList).run P w= .ok none w∧ ∃z,(zeroValue et).run P w= .ok z w∧R g v (if ok then Value.tuple #[z,.bool false] else z))):=by
  simp only [found,ae] at hf;obtain ⟨fr,h3,h4⟩:=hf;have hfe:=pg hu hk hx 0 h3 hr;obtain ⟨z,z1,z2⟩:=Dw (g:=g) hi;have fin: ∀(b:Bool) (v':AV) (y:Value),R g v' y→R g (okV ok b v') (if ok then Value.tuple #[y,.bool b] else y):=fun b v' y hy=>by
    cases ok with
    | true=>simp only [okV,if_true,R];exact ⟨_,rfl,cp hy (cp (by simp only [R]) fP)⟩
    | false=>simpa [okV] using hy
  have hck:=run_checkKey (w:=w) hd hu hk hx ents.isEmpty 9999;refine ⟨hck, ?_⟩;cases fr with
  | none=>
    simp only [ak] at h4;subst h4;exact .inr ⟨run_findKey hd hfe,z,z1 w,fin false _ z z2⟩
  | some u'=>
    simp only [ak] at h4;subst h4;obtain ⟨j,y,h5,h6⟩:=hfe;exact .inl ⟨j,y,run_findKey hd h5,fin true _ y h6⟩
theorem BJ (hT:wA P T) {C:cX} {t:TypeId} {x k v:AV} {xv kv:Value} {ok:Bool} {p:dF} {fx:Fx} (hp:iR T t x k ok= .ok p) (hrun:aC C st p= .ok (v,fx)) (hx:R g x xv) (hk:R g k kv) (h:Inv T A g st w):
    ba P T A g w v (fx.did.app st) (Instr.lookup t xv kv ok):=by
  simp only [iR,ae] at hp;obtain ⟨i,h1,h2⟩:=hp;have hi:=hT t i (cb.1 h1);split at h2
  · rename_i kt et hu
    have k1:=tU hi hu;simp only [ae] at h2;obtain ⟨ei,h3,ki,h4,h5⟩:=h2;have hei:=hT _ ei (cb.1 h3);have hki:=hT _ ki (cb.1 h4);obtain ⟨d,d1,d2,_⟩:=hki.und;split at h5
    · cases h5
    · rename_i hok
      split at h5
      · simp only [ae,ak] at h5
        obtain ⟨u,h6,rfl⟩:=h5;simp only [aC,Vi,Vk] at hrun;obtain ⟨rfl,rfl⟩:=hrun;simp only [R] at hx;subst hx;obtain ⟨c,⟨j,y,e1,e2⟩ | ⟨e1,z,e2,e3⟩⟩:=qf (P:=P) (w:=w) (ents:= #[]) hei d1 d2 hok hk h6 (by simp [qV])
        · simp only [List.isEmpty_toArray,List.isEmpty_nil] at c
          exact ba.of h (by simp [Instr.lookup,k1,c,e1]) e2
        · simp only [List.isEmpty_toArray,List.isEmpty_nil] at c
          exact ba.of h (by simp [Instr.lookup,k1,c,e1,e2]) e3
      · rename_i es
        simp only [ae,ak] at h5;obtain ⟨u,h6,rfl⟩:=h5;simp only [aC,Vi,Vk] at hrun;obtain ⟨rfl,rfl⟩:=hrun;simp only [R] at hx;obtain ⟨b,ents,clk,m1,rfl,m2⟩:=hx;have hheap:=h.M b ents clk m1;have hgo:(getObj b).run P w= .ok (.map ents.toArray clk) w:=by simp [getObj,Sem.run,hheap]
        obtain ⟨c,⟨j,y,e1,e2⟩ | ⟨e1,z,e2,e3⟩⟩:=qf (P:=P) (w:=w) (ents:=ents.toArray) hei d1 d2 hok hk h6 (by simpa using m2)
        · exact ba.of h (by simp only [Instr.lookup,Sem.run_bind,k1,Result.andThen_ok,hgo,Sem.run_pure,c,e1]) e2
        · exact ba.of h (by simp only [Instr.lookup,Sem.run_bind,k1,Result.andThen_ok,hgo,Sem.run_pure,c,e1,e2]) e3
      · rename_i m
        simp only [ak] at h5;subst h5;simp only [ij,aC,ae,ak] at hrun;obtain ⟨o,g1,⟨v',o'⟩,⟨v'',g2,g4⟩,dd,g5,g6⟩:=hrun;simp only [Vk] at g4 g6;obtain ⟨rfl,rfl⟩:=g4;simp only [ej,Vi] at g5;subst g5;obtain ⟨rfl,rfl⟩:=g6;split at g2
        · rename_i es
          simp only [R] at hx;obtain ⟨b,hE,rfl⟩:=hx;obtain ⟨b',ents,clk,q1,q2,q3,q4⟩:=h.H m _ g1;have hb:b'=b:=by have:=q1.symm.trans hE;simpa using this
          subst hb;have hgo:(getObj b').run P w= .ok (.map ents clk) w:=by simp [getObj,Sem.run,q2]
          obtain ⟨c,⟨j,y,e1,e2⟩ | ⟨e1,z,e2,e3⟩⟩:=qf (P:=P) (w:=w) (ents:=ents) hei d1 d2 hok hk g2 q3
          · exact ba.of h (by simp only [Instr.lookup,Sem.run_bind,k1,Result.andThen_ok,hgo,Sem.run_pure,c,e1]) e2
          · exact ba.of h (by simp only [Instr.lookup,Sem.run_bind,k1,Result.andThen_ok,hgo,Sem.run_pure,c,e1,e2]) e3
        · cases g2
      · cases h5
  · cases h2
end
section
variable {P:Program} {T:TT} {A:Nat→Prop} {g:Gh} {st:St} {w:World}
theorem K6 {a b:AV} (h:rB a b= .ok true):a=b:=by
 unfold rB at h;split at h
 ·simp only [Vi,V4] at h;subst h;rfl
 ·split at h
  ·rename_i hjk;subst hjk;simp only [Vi,V4] at h;subst h;rfl
  ·cases h
 ·simp only [Vi,V4] at h;subst h;rfl
 ·cases h
theorem FO {a b:AV} {x y:Value} (h:rB a b= .ok true) (hx:R g a x) (hy:R g b y) (n:Nat):Instr.sameBits n y x=true:=by
 unfold rB at h;split at h
 ·simp only [Vi,V4] at h;subst h;simp only [R] at hx hy;subst hx hy;cases n <;> simp [Instr.sameBits]
 ·split at h
  ·rename_i hjk;subst hjk;simp only [Vi,V4] at h;subst h;simp only [R] at hx hy;subst hx hy;cases n <;> simp [Instr.sameBits]
  ·cases h
 ·simp only [Vi,V4] at h;subst h;simp only [R] at hx hy;subst hx hy;have:=fun s:List UInt8=>FM s s;cases n <;> simp [Instr.sameBits,this]
 ·cases h
theorem pX {d:TypeDesc} {u:U} {k v:AV} {kx vx:Value} (hu:zc d u) (hk:pb u k=true) (hx:R g k kx) (hv:R g v vx): ∀{es es':List (AV×AV)} {ents:List MapEntry} (i:Nat),pw k v es= .ok es'→qV g es ents→
  (Instr.findNow d kx ents i=some none∧ ∀n,qV g es' (ents++[{key:=kx,val:=vx,born:=n}]))∨
  (∃j y e,Instr.findNow d kx ents i=some (some (i+j,y))∧ents[j]? =some e∧Instr.sameBits 10000 e.key kx=true∧qV g es' (ents.modify j fun e=>{e with key:=kx,val:=vx}))
 | [],_,_,i,h,hr=>by
  simp only [pw,Vi] at h;subst h;simp only [qV] at hr;subst hr;exact .inl ⟨rfl,fun n=>by simp only [qV];exact ⟨_,_,rfl,hx,hv,rfl⟩⟩
 | (a,b)::es,_,_,i,h,hr=>by
  simp only [qV] at hr;obtain ⟨e,l,rfl,r1,r2,r3⟩:=hr;simp only [pw,ae] at h;obtain ⟨c,h1,h2⟩:=h;have hs:=vw hu hk h1 hx r1;cases c with
  | true=>
   simp only [ak] at h2;subst h2;refine .inr ⟨0,e.val,e,by simp [Instr.findNow,hs],rfl,FO h1 hx r1 _, ?_⟩;simp only [List.modify_zero_cons,qV];have:=K6 h1;subst this;exact ⟨_,_,rfl,hx,hv,r3⟩
  | false=>
   simp only [ae,ak] at h2;obtain ⟨l',h3,rfl⟩:=h2;rcases pX hu hk hx hv (i+1) h3 r3 with ⟨q1,q2⟩ | ⟨j,y,e',q1,q2,q3,q4⟩
   ·refine .inl ⟨by simp only [Instr.findNow,hs];exact q1,fun n=> ?_⟩;simp only [Vz,qV];exact ⟨_,_,rfl,r1,r2,q2 n⟩
   ·refine .inr ⟨j+1,y,e', ?_,by simpa using q2,q3, ?_⟩
    ·simp only [Instr.findNow,hs];rw [show i+(j+1)=i+1+j by omega];exact q1
    ·simp only [List.modify_succ_cons,qV];exact ⟨_,_,rfl,r1,r2,q4⟩
theorem sC {w:World} {b:Nat} {o o':Go.Obj} (h:w.heap[b]? =some o):({w with heap:=w.heap.setIfInBounds b o'}:World).heap[b]? =some o':=by
 have:=lt_of_heap h;simp [this]
theorem oR {w:World} {b b':Nat} {o':Go.Obj} (h:b'≠b):({w with heap:=w.heap.setIfInBounds b o'}:World).heap[b']? =w.heap[b']? :=by
 simp [Array.getElem?_setIfInBounds_ne (fun e=>h e.symm)]
theorem vu (h:Inv T A g st w) {b:Nat} {o:Go.Obj} (hb:w.heap[b]? =some o) (hn: ∀vs ty fz,o≠ .cells vs ty fz) (k:Nat):g.F b k=none:=by
 cases hf:g.F b k with
 | none=>rfl
 | some v=>
  obtain ⟨vs,ty,fz,h2,_⟩:=nJ (h.F b k v hf);rw [hb] at h2;cases h2;exact absurd rfl (hn vs ty fz)
theorem oZ (hT:wA P T) {C:cX} {t:TypeId} {m k v r:AV} {mv kv vv:Value} {p:dF} {fx:Fx} (hp:oD T t m k v= .ok p) (hrun:aC C st p= .ok (r,fx)) (hm:R g m mv) (hk:R g k kv) (hv:R g v vv) (h:Inv T A g st w):
  r=undef∧B9 P T A g w (fx.did.app st) (Instr.mapUpdate t mv kv vv):=by
 simp only [oD,ae] at hp;obtain ⟨i,h1,h2⟩:=hp;have hi:=hT t i (cb.1 h1);split at h2
 ·rename_i kt et hu;have k1:=tU hi hu;simp only [ae] at h2;obtain ⟨ki,h3,h4⟩:=h2;have hki:=hT _ ki (cb.1 h3);obtain ⟨d,d1,d2,_⟩:=hki.und;split at h4
  ·rename_i id hok;simp only [ak] at h4;subst h4;simp only [aC,ae,ak] at hrun;obtain ⟨o,g1,⟨v',o'⟩,g2,dd,g5,g6⟩:=hrun;split at g2
   ·rename_i es;simp only [ae,ak,Vk] at g2;obtain ⟨es',g3,rfl,rfl⟩:=g2;simp only [ej] at g5;split at g5
    ·cases g5
    ·rename_i hro;rw [cP] at hro;simp only [Vi] at g5;subst g5;simp only [Vk] at g6;obtain ⟨rfl,rfl⟩:=g6;refine ⟨rfl, ?_⟩;simp only [R] at hm;obtain ⟨b,hE,rfl⟩:=hm;obtain ⟨b',ents,clk,q1,q2,q3,q4⟩:=h.H id _ g1;have hb:b'=b:=by have:=q1.symm.trans hE;simpa using this
     subst hb;have hgo:(getObj b').run P w= .ok (.map ents clk) w:=by simp [getObj,Sem.run,q2]
     have hck:=run_checkKey (w:=w) d1 d2 hok hk false 9999;have hF:=fun kk=>vu h q2 (by simp) kk;have fin: ∀ents' clk',qV g es' ents'.toList→(setObj b' (.map ents' clk')).run P w= .ok () {w with heap:=w.heap.setIfInBounds b' (.map ents' clk')}∧
       Inv T A g (st.put id (.map es')) {w with heap:=w.heap.setIfInBounds b' (.map ents' clk')}∧Kp A g w g {w with heap:=w.heap.setIfInBounds b' (.map ents' clk')}:=fun ents' clk' hr=>by
      refine ⟨by simp [setObj,Sem.run,q2],h.write g1 (o:= .map es) (b:=b') q1 (.map es') (by simp) (fun _ hb=>oR hb) (fun kk u hu=>by rw [hF kk] at hu;cases hu) q4 (fun b'' hb''=>by
       have:g.E id=some (.cf b''):=hb'';have:=q1.symm.trans this;simpa using this.symm) ⟨b',ents',clk',q1,sC q2,hr,q4⟩,Kp.write (h.own id _ b' g1 q1 hro) (by simp) (fun _ hb=>oR hb)⟩
     rcases pX d2 hok hk hv 0 g3 q3 with ⟨e1,e2⟩ | ⟨j,y,e,e1,e2,e3,e4⟩
     ·obtain ⟨f1,f2,f3⟩:=fin (ents.push {key:=kv,val:=vv,born:=clk}) (clk+1) (by simpa using e2 clk);refine ⟨g,_, ?_,f2,f3⟩;simp only [Instr.mapUpdate,Sem.run_bind,k1,Result.andThen_ok,hgo,hck,run_findKey d1 e1,f1]
     ·rw [VC] at e1;obtain ⟨f1,f2,f3⟩:=fin (ents.modify j fun e=>{e with key:=kv,val:=vv}) clk (by simpa [Array.toList_modify] using e4);refine ⟨g,_, ?_,f2,f3⟩;have hkey:((ents[j]?).map (·.key)).getD kv=e.key:=by
       have:ents[j]? =some e:=by simpa using e2
       simp [this]
      simp only [Instr.mapUpdate,Sem.run_bind,k1,Result.andThen_ok,hgo,hck,run_findKey d1 e1,hkey,Instr.keyThatStays,e3,if_true,Sem.run_pure,f1]
   ·cases g2
  ·cases h4
 ·cases h2
theorem zE (t:TypeId) (h:Inv T A g st w):ba P T A g w (.mm st.h) (st.new (.map [])).2 (Instr.makeMap t none):=by
 obtain ⟨k1,k2⟩:=h.newObj (.map []) (.map #[] 0) (fun b' hb'=>by
  have:(g.cN st.h (.cf w.heap.size)).E st.h=some (.cf b'):=hb';rw [Gh.aL] at this;simpa using this.symm) ⟨w.heap.size, #[],0,Gh.aL _ _ _,World.heap_alloc_new,by simp [qV],h.SR (Vn _)⟩
 exact ⟨.map (some w.heap.size),_,_,by simp [Instr.makeMap],by simp only [R];exact ⟨_,Gh.aL _ _ _,rfl⟩,k1,k2⟩
theorem Dg {t:TypeId} {i:TI} (hi:iP P t i) (hu:i.und= .str) {s:List UInt8} (h:Inv T A g st w):ba P T A g w (.mp st.h 0) (st.new (.sit s 0)).2 (Instr.range t (.string ⟨s.toArray⟩)):=by
 obtain ⟨k1,k2⟩:=h.newObj (.sit s 0) (.stringIter ⟨s.toArray⟩ 0) (fun b' hb'=>by
  have:(g.cN st.h (.cf w.heap.size)).E st.h=some (.cf b'):=hb';rw [Gh.aL] at this;simpa using this.symm) ⟨w.heap.size,Gh.aL _ _ _,World.heap_alloc_new⟩
 exact ⟨.pointer (some ⟨w.heap.size,0,none⟩),_,_,by simp [Instr.range,tl hi hu],by simp only [R];exact ⟨_,Gh.aL _ _ _,rfl⟩,k1,k2⟩
theorem FL {C:cX} {x v:AV} {xv:Value} {ty:TypeId} {p:dF} {fx:Fx} (hp:An x= .ok p) (hrun:aC C st p= .ok (v,fx)) (hx:R g x xv) (h:Inv T A g st w):
  ba P T A g w v (fx.did.app st) (Instr.next xv true ty):=by
 unfold An at hp;split at hp
 ·rename_i id;simp only [Vi] at hp;subst hp;simp only [aC,ae,ak] at hrun;obtain ⟨o,g1,⟨v',o'⟩,g2,dd,g5,g6⟩:=hrun;split at g2
  ·rename_i s pos;simp only [R] at hx;obtain ⟨b,hE,rfl⟩:=hx;obtain ⟨b',q1,q2⟩:=h.H id _ g1;have hb:b'=b:=by have:=q1.symm.trans hE;simpa using this
   subst hb;have hgo:(getObj b').run P w= .ok (.stringIter ⟨s.toArray⟩ pos) w:=by simp [getObj,Sem.run,q2]
   split at g2
   ·rename_i hlt;rw [cH] at hlt;simp only [Vi,Vk] at g2;obtain ⟨rfl,rfl⟩:=g2;simp only [ej] at g5;split at g5
    ·cases g5
    ·rename_i hro;rw [cP] at hro;simp only [Vi] at g5;subst g5;simp only [Vk] at g6;obtain ⟨rfl,rfl⟩:=g6;have hF:=fun kk=>vu h q2 (by simp) kk;have hM:g.M b'=none:=by
      cases hm:g.M b' with
      | none=>rfl
      | some ee=>have:=h.M b' ee.1 ee.2 hm;rw [q2] at this;cases this
     refine ⟨.tuple #[.bool true,goInt pos,.int .i32 (ta s pos).1],g,{w with heap:=w.heap.setIfInBounds b' (.stringIter ⟨s.toArray⟩ (pos+(ta s pos).2))}, ?_, ?_, ?_, ?_⟩
     ·have hlt':pos < (⟨s.toArray⟩:ByteArray).size:=by rw [nD];exact hlt
      simp [Instr.next,hgo,hlt',setObj,Sem.run,q2,ta]
     ·simp only [R];exact ⟨_,rfl,cp (by simp only [R]) (cp (by simp only [R];rfl) (cp (by simp only [R]) fP))⟩
     ·exact h.write g1 (o:= .sit s pos) (b:=b') q1 _ (by simp) (fun _ hb=>oR hb) (fun kk u hu=>by rw [hF kk] at hu;cases hu) hM (fun b'' hb''=>by
       have:g.E id=some (.cf b''):=hb'';have:=q1.symm.trans this;simpa using this.symm) ⟨b',q1,sC q2⟩
     ·exact Kp.write (h.own id _ b' g1 q1 hro) (by simp) (fun _ hb=>oR hb)
   ·rename_i hlt;rw [cP] at hlt;simp only [Vi,Vk] at g2;obtain ⟨rfl,rfl⟩:=g2;simp only [ej,Vi] at g5;subst g5;simp only [Vk] at g6;obtain ⟨rfl,rfl⟩:=g6;have hlt':¬ pos < (⟨s.toArray⟩:ByteArray).size:=by rw [nD];omega
    refine ba.of h (x:= .tuple #[.bool false]) (by simp [Instr.next,hgo,hlt']) ?_;simp only [R];exact ⟨_,rfl,cp (by simp only [R]) fP⟩
  ·cases g2
 ·cases hp
end
section
variable {P:Program} {T:TT} {A:Nat→Prop} {g:Gh} {st:St} {w:World}
theorem Inv.yp (h:Inv T A g st w) {k:Nat} {o0 o1:Obj} {loc loc':Nat→Option (Nat×Nat)} (b' lo:Nat) (vals:List Value)
  (hk:st.get k= .ok o0) (hE:g.E k=some (.tok loc)) (hloc: ∀m x,loc m=some x→loc' m=some x)
  (hnone: ∀o,lo≤o→o < lo+vals.length→g.F b' o=none) (hcell: ∀i v,vals[i]? =some v→w.cell? ⟨b',lo+i,none⟩=some v)
  (hown: ∀id o,st.get id= .ok o→id≠k→¬ At g id o b') (hA:A b') (hat: ∀b,At ((g.ch b' lo vals).cN k (.tok loc')) k o1 b→b=b')
  (ho:Holds T ((g.ch b' lo vals).cN k (.tok loc')) w k o1):
  Inv T A ((g.ch b' lo vals).cN k (.tok loc')) (st.put k o1) w∧Kp A g w ((g.ch b' lo vals).cN k (.tok loc')) w:=by
 have hlt:=(St.cC.1 hk).1;have le1:Le g (g.ch b' lo vals):=Le.ch hnone;have le2:Le (g.ch b' lo vals) ((g.ch b' lo vals).cN k (.tok loc')):=by
  refine ⟨fun _ _ _ x=>x,fun _ _ x=>x,fun j b x=> ?_,fun j l x=> ?_⟩
  ·have:j≠k:=fun e=>by subst e;have:=hE.symm.trans x;cases this
   rw [Gh.bF _ _ this];exact x
  ·by_cases hj:j=k
   ·subst hj;have x':g.E j=some (.tok l):=x;have:=hE.symm.trans x';simp only [Vt,mc.tok.injEq] at this;subst this;exact ⟨loc',Gh.aL _ _ _,hloc⟩
   ·exact ⟨l,by rw [Gh.bF _ _ hj];exact x,fun _ _ y=>y⟩
 have le:=le1.trans le2;refine ⟨⟨?_,h.M, ?_, ?_, ?_, ?_,h.up⟩,⟨Vn _,fun _ _=>rfl,fun b hb o=>Gh.cq _ _ _ _ (.inl fun e=>hb (e ▸ hA)),fun _ _=>rfl,le,rfl,rfl,rfl⟩⟩
 ·intro b o v hv;by_cases hc:b=b'∧lo≤o∧o < lo+vals.length
  ·obtain ⟨rfl,h1,h2⟩:=hc;have hv':(g.ch b lo vals).F b o=some v:=hv;simp only [Gh.ch] at hv';rw [if_pos ⟨trivial,h1,h2⟩] at hv';have:=hcell _ _ hv'
   rwa [show lo+(o - lo)=o by omega] at this
  ·have hv':(g.ch b' lo vals).F b o=some v:=hv;rw [Gh.cq _ _ _ _ (by omega)] at hv';exact h.F b o v hv'
 ·intro id hid;have hid':st.h≤id:=hid;rw [Gh.bF _ _ (by omega)];exact h.E id hid'
 ·intro id o hid;by_cases hj:id=k
  ·subst hj;rw [St.aS hlt] at hid;cases hid;exact ho
  ·rw [St.aW (fun e=>hj e.symm)] at hid;exact jw (h.H id o hid) le (Gh.bF _ _ hj) fun b hb=>⟨fun _=>Gh.cq _ _ _ _ (.inl fun e=>hown id o hid hj (e ▸ hb)),rfl⟩
 ·intro id id' o o' b h1 h2 a1 a2;by_cases hi:id=k <;> by_cases hi':id'=k
  ·rw [hi,hi']
  ·subst hi;rw [St.aS hlt] at h1;cases h1;rw [St.aW (fun e=>hi' e.symm)] at h2;rw [oo (Gh.bF _ _ hi')] at a2;have:=hat b a1;subst this;exact absurd a2 (hown id' o' h2 hi')
  ·subst hi';rw [St.aS hlt] at h2;cases h2;rw [St.aW (fun e=>hi e.symm)] at h1;rw [oo (Gh.bF _ _ hi)] at a1;have:=hat b a2;subst this;exact absurd a1 (hown id o h1 hi)
  ·rw [St.aW (fun e=>hi e.symm)] at h1;rw [St.aW (fun e=>hi' e.symm)] at h2;rw [oo (Gh.bF _ _ hi)] at a1;rw [oo (Gh.bF _ _ hi')] at a2;exact h.D id id' o o' b h1 h2 a1 a2
 ·intro id o b h1 a1 hr;by_cases hi:id=k
  ·subst hi;rw [St.aS hlt] at h1;cases h1;have:=hat b a1;subst this;exact hA
  ·rw [St.aW (fun e=>hi e.symm)] at h1;rw [oo (Gh.bF _ _ hi)] at a1;exact h.own id o b h1 a1 hr
theorem qG {loc:Nat→Option (Nat×Nat)} {k n b cap:Nat} {e:TypeId} {z:Nat} {es:List AV} {b':Nat} (hE:g.E k=some (.tok loc)) (hl:loc n=some (b,cap)) (h:At g k (.grow n e z es) b'):b'=b:=by
 obtain ⟨l,c,q1,q2⟩:=h;have e1:=q1.symm.trans hE;simp only [Vt,mc.tok.injEq] at e1;subst e1;have e2:=q2.symm.trans hl;simp only [Vt,Vk] at e2;exact e2.1
theorem Inv.NJ (h:Inv T A g st w) {e:TypeId} {i:TI} (hi:T.get e=some i) (h1:1≤i.size) {els:List AV} {vals rest:List Value} {cap n:Nat} (hn:els.length≤n)
  (hc: ∀v∈els,v.cells.length=i.size) (hb:bx els=true) (hr:RL g (flat els) vals) (ho: ∀v∈vals,v.oneCell'=true) (hsz:vals.length+rest.length=cap * i.size) (hcap:n≤cap):
  ∃g',Inv T A g' (st.new (.grow n e i.size els)).2 (w.drew.alloc (.cells (vals++rest).toArray e))∧Kp A g w g' (w.drew.alloc (.cells (vals++rest).toArray e))∧
   R g' (.gs st.h i.size n) (.slice (some ⟨w.heap.size,0,none⟩) n cap):=by
 have hd:=h.drew;have hF: ∀o,0≤o→o < 0+vals.length→g.F w.heap.size o=none:=fun o _ _=>h.js (Vn _) o;have hvl:vals.length=els.length * i.size:=by rw [cW hr,dz hc]
 have i1:Inv T A g st (w.drew.alloc (.cells (vals++rest).toArray e)):=hd.alloc _;have i2:Inv T A (g.ch w.heap.size 0 vals) st (w.drew.alloc (.cells (vals++rest).toArray e)):=i1.ch _ 0 vals hF (fun k v hv=>by
   have:(w.drew.alloc (.cells (vals++rest).toArray e)).heap[w.heap.size]? =some (.cells (vals++rest).toArray e):=World.heap_alloc_new (w:=w.drew);rw [cell_of this];have hk:k < vals.length:=by
    rcases Nat.lt_or_ge k vals.length with q | q
    ·exact q
    ·simp [VW q] at hv
   simp only [VC,Wi];rw [VU hk];exact hv) fun id o hid=>h.gm (Vn _) id o hid
 have hE0:(g.ch w.heap.size 0 vals).E st.h=none:=h.E _ (Vn _);have le1:Le g (g.ch w.heap.size 0 vals):=Le.ch hF;refine ⟨(g.ch w.heap.size 0 vals).cN st.h (.tok fun m=>if m=n then some (w.heap.size,cap) else none), ?_, ?_, ?_⟩
 ·refine i2.name (.grow n e i.size els) _ w.heap.size (fun id o hid=> ?_) (h.up _ (Vn _)) ?_ ?_
  ·exact h.gm (Vn _) id o hid
  ·exact fun b' hb'=>qG (Gh.aL _ _ _) (by simp;rfl) hb'
  ·refine ⟨_,w.heap.size,cap,i,(vals++rest).toArray,(0,0),Gh.aL _ _ _,by simp,fun m hm=> ?_,hi,h1,hcap,World.heap_alloc_new (w:=w.drew),by simpa using hsz,by simp,fun o hof=> ?_,rfl,hn,hb, ?_⟩
   ·rw [if_neg (by omega)]
   ·show (g.ch w.heap.size 0 vals).F w.heap.size o=none;rw [Gh.cq _ _ _ _ (by omega)];exact h.js (Vn _) o
   ·refine gd (Le.cN hE0) _ _ _ _ ?_;rw [dE];refine ⟨hc,dj (dI le1 _ _ hr) fun k x hx=>⟨Gh.jS g _ 0 vals k x hx,ho x (VQ hx)⟩⟩
 ·exact ((Kp.drew A g w).trans (Kp.alloc _ hd)).trans ((Kp.ch (h.up _ (Vn _)) hF).trans (Kp.cN hE0))
 ·simp only [R];exact ⟨_,w.heap.size,cap,Gh.aL _ _ _,by simp,rfl,hcap,h1⟩
structure sD (g:Gh) (size c:Nat) (kn:List AV) (news vals:List Value):Prop where
 pre: ∃rest,news=vals++rest
 len:kn.length≤c
 cells: ∀v∈kn,v.cells.length=size
 bare:bx kn=true
 rl:RL g (flat kn) vals
 gj: ∀v∈news,v.oneCell'=true
theorem sD.all {size c:Nat} {new:List AV} {news:List Value} (hn:new.length=c) (hc: ∀v∈new,v.cells.length=size) (hb:bx new=true) (hr:RL g (flat new) news) (ho: ∀v∈news,v.oneCell'=true):sD g size c new news news:=
 ⟨⟨[],by simp⟩,by omega,hc,hb,hr,ho⟩
theorem sD.none {size c:Nat} {news:List Value} (ho: ∀v∈news,v.oneCell'=true):sD g size c [] news []:=
 ⟨⟨news,rfl⟩,by simp,fun _ h=>(by cases h),rfl,fP,ho⟩
theorem Ei {t xt ty e:TypeId} {i:TI} (he:tq P T t xt e i) {base:Option Addr} {sLen sCap n:Nat} {olds news vals:List Value} {x:Value} {es kn:List AV}
  (hs:Src P i.size (.slice base sLen sCap) sLen olds w) (hx:Src P i.size x n news w) (hg:sCap < sLen+n) (hroom:cZ (sLen+n) i=true)
  (h:Inv T A g st w) (hn:es.length=sLen) (hc: ∀v∈es,v.cells.length=i.size) (hb:bx es=true) (hr:RL g (flat es) olds) (ho: ∀v∈olds,v.oneCell'=true)
  (hkn:sD g i.size n kn news vals):
  ba P T A g w (.gs st.h i.size (sLen+n)) (st.new (.grow (sLen+n) e i.size (es++kn))).2 (Builtin.append_ #[t,xt] ty #[.slice base sLen sCap,x]):=by
 obtain ⟨f,z,f1,f2,f3,f4,f5⟩:=he.info;obtain ⟨d,d1,d2⟩:=he.xt;obtain ⟨r1,r2,r3⟩:=jB hroom;have hfit:Builtin.nextslicecap (sLen+n) sCap * f.bytes≤281474976710656:=growslice_fits hg (by rw [f3];omega);have hrun:=lX (ty:=ty) he.t d1 d2 f1 f4 (by rw [f2];exact hs) (by rw [f2];exact hx) hg (by omega) hfit;have hge:=grownCap_ge (w:=w) (n:=sLen+n) (c:=sCap) (e:=e);have hol:olds.length=sLen * i.size:=by rw [cW hr,dz hc,hn]
 have hnl:news.length=n * i.size:=hx.l;obtain ⟨rest,hrest⟩:=hkn.pre;have hlen:=Wb List.length hrest;rw [Vg] at hlen;obtain ⟨g',k1,k2,k3⟩:=h.NJ (els:=es++kn) (vals:=olds++vals) (rest:=rest++(Builtin.zeroCells z.cells (grownCap w (sLen+n) sCap e - (sLen+n))).toList) (cap:=grownCap w (sLen+n) sCap e) (n:=sLen+n) he.get r2
  (by rw [Vg];have:=hkn.len;omega)
  (fun v hv=>by
   rcases VE.1 hv with hv | hv
   ·exact hc v hv
   ·exact hkn.cells v hv)
  (by rw [fH,hb,hkn.bare];rfl) (by rw [mH];exact dN hr hkn.rl)
  (fun v hv=>by
   rcases VE.1 hv with hv | hv
   ·exact ho v hv
   ·exact hkn.gj v (by rw [hrest];exact List.mem_append_left _ hv))
  (by
   rw [Vg,Vg,eW,f5];have:(sLen+n) * i.size+(grownCap w (sLen+n) sCap e - (sLen+n)) * i.size=grownCap w (sLen+n) sCap e * i.size:=by
    rw [← Nat.add_mul];congr 1;omega
   rw [Nat.add_mul] at this;omega) hge
 have hw:olds.toArray++news.toArray++Builtin.zeroCells z.cells (grownCap w (sLen+n) sCap e - (sLen+n))=(olds++vals++(rest++(Builtin.zeroCells z.cells (grownCap w (sLen+n) sCap e - (sLen+n))).toList)).toArray:=by
  apply Array.ext';simp [hrest,Vx]
 rw [hw] at hrun;exact ⟨_,g',_,hrun,k3,k1,k2⟩
structure Slot (T:TT) (g:Gh) (w:World) (k:Nat) (o:Obj) (e:TypeId) (i:TI) (loc:Nat→Option (Nat×Nat)) (b cap:Nat) (vs:Array Value) (fz:Nat×Nat) (es:List AV):Prop where
 s_E:g.E k=some (.tok loc)
 s_loc:loc es.length=some (b,cap)
 s_top: ∀m,es.length < m→loc m=none
 s_get:T.get e=some i
 s_size:1≤i.size
 s_le:es.length≤cap
 s_heap:w.heap[b]? =some (.cells vs e fz)
 s_sz:vs.size=cap * i.size
 s_fz:fz.2≤es.length * i.size
 s_F: ∀o,es.length * i.size≤o→g.F b o=none
 s_bare:bx es=true
 s_atR:gJ g i.size es b 0
 s_At:At g k o b
 s_uniq: ∀b',At g k o b'→b'=b
 s_holds: ∀(w':World) (vs':Array Value),w'.heap[b]? =some (.cells vs' e fz)→vs'.size=cap * i.size→Holds T g w' k o
theorem Ki {k:Nat} {e:TypeId} {i:TI} {es:List AV} {loc:Nat→Option (Nat×Nat)} {b cap:Nat} (h:Inv T A g st w) (hk:st.get k= .ok (.tok es.length e)) (hi:T.get e=some i)
  (hE:g.E k=some (.tok loc)) (hl:loc es.length=some (b,cap)) (hb:bx es=true) (hes:gJ g i.size es b 0): ∃vs fz,Slot T g w k (.tok es.length e) e i loc b cap vs fz es:=by
 obtain ⟨loc2,b2,cap2,i2,vs,fz,q1,q2,q3,q4,q5,q6,q7,q8,q9,q10⟩:=h.H k _ hk;have e1:=q1.symm.trans hE;simp only [Vt,mc.tok.injEq] at e1;subst e1;have e2:=q2.symm.trans hl;simp only [Vt,Vk] at e2;obtain ⟨rfl,rfl⟩:=e2;have e3:=q4.symm.trans hi;simp only [Vt] at e3;subst e3;refine ⟨vs,fz,q1,q2,q3,q4,q5,q6,q7,q8,q9,q10,hb,hes,⟨loc2,cap2,q1,q2⟩,fun b' hb'=> ?_,fun w' vs' h1 h2=>⟨loc2,b2,cap2,i2,vs',fz,q1,q2,q3,q4,q5,q6,h1,h2,q9,q10⟩⟩;obtain ⟨l,c,p1,p2⟩:=hb';have e1:=p1.symm.trans q1;simp only [Vt,mc.tok.injEq] at e1;subst e1;have e2:=p2.symm.trans q2;simp only [Vt,Vk] at e2;exact e2.1
theorem HK {k:Nat} {e:TypeId} {i:TI} {z:Nat} {es:List AV} (h:Inv T A g st w) (hk:st.get k= .ok (.grow es.length e z es)) (hi:T.get e=some i):
  z=i.size∧ ∃loc b cap vs fz,Slot T g w k (.grow es.length e z es) e i loc b cap vs fz es:=by
 obtain ⟨loc,b,cap,i2,vs,fz,q1,q2,q3,q4,q5,q6,q7,q8,q9,q10,q11,q12,q13,q14⟩:=h.H k _ hk;have e3:=q4.symm.trans hi;simp only [Vt] at e3;subst e3;subst q11;exact ⟨rfl,loc,b,cap,vs,fz,q1,q2,q3,q4,q5,q6,q7,q8,q9,q10,q13,q14,⟨loc,cap,q1,q2⟩,fun b' hb'=>qG q1 q2 hb',
  fun w' vs' h1 h2=>⟨loc,b,cap,i2,vs',fz,q1,q2,q3,q4,q5,q6,h1,h2,q9,q10,rfl,q12,q13,q14⟩⟩
theorem Dv {t xt ty e:TypeId} {i:TI} (he:tq P T t xt e i) {k b cap n:Nat} {o:Obj} {loc:Nat→Option (Nat×Nat)} {vs:Array Value} {fz:Nat×Nat} {es kn:List AV} {news vals:List Value} {x:Value}
  (hk:st.get k= .ok o) (hro:st.ro≤k) (hS:Slot T g w k o e i loc b cap vs fz es)
  (hx:Src P i.size x n news w) (hn0:0 < n) (hkn:sD g i.size n kn news vals) (hroom:cZ (es.length+n) i=true) (h:Inv T A g st w):
  ba P T A g w (.gs k i.size (es.length+n)) (st.put k (.grow (es.length+n) e i.size (es++kn))) (Builtin.append_ #[t,xt] ty #[.slice (some ⟨b,0,none⟩) es.length cap,x]):=by
 obtain ⟨f,z,f1,f2,f3,f4,f5⟩:=he.info;obtain ⟨d,d1,d2⟩:=he.xt;obtain ⟨r1,r2,r3⟩:=jB hroom;obtain ⟨q1,q2,q3,q4,q5,q6,q7,q8,q9,q10,hb0,hes,hat0,huniq,hO⟩:=hS;have hes':=hes;rw [dE] at hes';obtain ⟨hesc,hesr⟩:=hes';obtain ⟨olds,o1,o2⟩:=ic hesr;have hol:olds.length=es.length * i.size:=by rw [cW o1,dz hesc]
 have hnl:news.length=n * i.size:=hx.l;obtain ⟨rest0,hrest⟩:=hkn.pre;have hvl0:vals.length=kn.length * i.size:=by rw [cW hkn.rl,dz hkn.cells]
 have hknl:=hkn.len;have hvn:vals.length≤news.length:=by rw [hrest,Vg];omega
 have hcall: ∀v∈es++kn,v.cells.length=i.size:=fun v hv=>by
  rcases VE.1 hv with hv | hv
  ·exact hesc v hv
  ·exact hkn.cells v hv
 have hball:bx (es++kn)=true:=by rw [fH,hb0,hkn.bare];rfl
 have hlenA:(es++kn).length=es.length+kn.length:=Vg;by_cases hcp:es.length+n≤cap
 ·-- in place
  have hst:=eE (P:=P) b (es.length * i.size) e fz news 0 vs w q7 (by
   rw [q8,hnl];simp only [Wk];rw [← Nat.add_mul];exact Nat.mul_le_mul_right _ hcp) (by simpa using q9) hkn.gj
  simp only [Wk] at hst;have hrun:=ze (ty:=ty) (a:=⟨b,0,none⟩) he.t d1 d2 f1 (by rw [f2];exact hx) hcp (by rw [f2,Addr.eB,VC];exact hst);generalize hrow:vs.toList.take (es.length * i.size)++news++vs.toList.drop (es.length * i.size+news.length)=row at hrun;have hrowl:row.length=vs.size:=by
   rw [← hrow];have:es.length * i.size+news.length≤vs.size:=by rw [q8,hnl, ← Nat.add_mul];exact Nat.mul_le_mul_right _ hcp
   simp;omega
  have hpre: ∀j,j < es.length * i.size→row[j]? =vs[j]? :=fun j hj=>by
   rw [← hrow,Vx,VU (by simp;have:=Nat.mul_le_mul_right i.size q6;omega),List.getElem?_take,if_pos hj];simp
  have hmid: ∀j v,news[j]? =some v→row[es.length * i.size+j]? =some v:=fun j v hv=>by
   have hj:j < news.length:=by
    rcases Nat.lt_or_ge j news.length with q | q
    ·exact q
    ·simp [VW q] at hv
   have htl:(vs.toList.take (es.length * i.size)).length=es.length * i.size:=by
    have h1:vs.toList.length=cap * i.size:=q8;have h2:es.length * i.size≤cap * i.size:=Nat.mul_le_mul_right _ q6;rw [VB,h1];omega
   rw [← hrow,Vx,V5 (by rw [htl];omega),htl,VU (by omega)];rw [show es.length * i.size+j - es.length * i.size=j by omega];exact hv
  have hheap:(w.setRow b row.toArray).heap[b]? =some (.cells row.toArray e fz):=setRow_heap _ _ _ _ _ _ q7;have hMn:g.M b=none:=by
   cases hm:g.M b with
   | none=>rfl
   | some ee=>
    have:=h.M b ee.1 ee.2 hm;rw [q7] at this;cases this
  have i1:Inv T A g (st.put k o) (w.setRow b row.toArray):=h.write hk hat0 o (setRow_size _ _ _) (fun _ hb=>fw _ _ _ hb)
   (fun j v hv=>by
    have hj:j < es.length * i.size:=by
     rcases Nat.lt_or_ge j (es.length * i.size) with q | q
     ·exact q
     ·rw [q10 j q] at hv;cases hv
    have:=h.F b j v hv;rw [cell_of q7] at this;rw [cell_of hheap,Wi,hpre j hj];exact this) hMn huniq
   (hO _ _ hheap (by simpa [hrowl] using q8))
  have kp1:Kp A g w g (w.setRow b row.toArray):=Kp.write (h.own k _ b hk hat0 hro) (setRow_size _ _ _) (fun _ hb=>fw _ _ _ hb);have hk':(st.put k o).get k= .ok o:=St.aS (St.cC.1 hk).1;obtain ⟨i2',kp2⟩:=i1.yp (o1:= .grow (es.length+n) e i.size (es++kn)) (loc':=fun m=>if m=es.length+n then some (b,cap) else loc m) b (es.length * i.size) vals hk' q1
   (fun m y hy=>by
    by_cases hm:m=es.length+n
    ·have:=q3 m (by omega);rw [this] at hy;cases hy
    ·rw [if_neg hm];exact hy) (fun o ho _=>q10 o ho)
   (fun j v hv=>by
    rw [cell_of hheap,Wi];refine hmid j v ?_;rw [hrest,VU (by
     rcases Nat.lt_or_ge j vals.length with q | q
     ·exact q
     ·simp [VW q] at hv)]
    exact hv)
   (fun id o' hid hne ha=>by
    rw [St.aW (fun e=>hne e.symm)] at hid;exact hne (h.D id k o' _ b hid hk ha hat0)) (h.own k _ b hk hat0 hro)
   (fun b' hb'=>qG (Gh.aL _ _ _) (by simp;rfl) hb')
   ⟨_,b,cap,i,row.toArray,fz,Gh.aL _ _ _,by simp,fun m hm=>by rw [if_neg (by omega)];exact q3 m (by omega),q4,q5,hcp,hheap,by simpa [hrowl] using q8,
    VZ q9 (Nat.mul_le_mul_right _ (by rw [hlenA];omega)),fun o' ho'=>by
     show (g.ch b (es.length * i.size) vals).F b o'=none;rw [hlenA,Nat.add_mul] at ho';rw [Gh.cq _ _ _ _ (by omega)];exact q10 o' (by omega),rfl,by rw [hlenA];omega,hball,by
     have hle:Le g ((g.ch b (es.length * i.size) vals).cN k (.tok fun m=>if m=es.length+n then some (b,cap) else loc m)):=by
      refine (Le.ch fun o' ho' _=>q10 o' ho').trans ⟨fun _ _ _ x=>x,fun _ _ x=>x,fun j b x=> ?_,fun j l x=> ?_⟩
      ·have:j≠k:=fun e=>by subst e;have:=q1.symm.trans x;cases this
       rw [Gh.bF _ _ this];exact x
      ·by_cases hj:j=k
       ·subst hj;have x':g.E j=some (.tok l):=x;have:=q1.symm.trans x';simp only [Vt,mc.tok.injEq] at this;subst this;exact ⟨_,Gh.aL _ _ _,fun m y hy=>by
         by_cases hm:m=es.length+n
         ·have:=q3 m (by omega);rw [this] at hy;cases hy
         ·rw [if_neg hm];exact hy⟩
       ·exact ⟨l,by rw [Gh.bF _ _ hj];exact x,fun _ _ y=>y⟩
     rw [my];refine ⟨gd hle _ _ _ _ hes, ?_⟩;rw [dE];refine ⟨hkn.cells,dj (dI hle _ _ hkn.rl) fun j v hv=>⟨?_,hkn.gj v (by rw [hrest];exact List.mem_append_left _ (VQ hv))⟩⟩;rw [VC];exact Gh.jS g b (es.length * i.size) vals j v hv⟩
  have hput:(st.put k o).put k (.grow (es.length+n) e i.size (es++kn))=st.put k (.grow (es.length+n) e i.size (es++kn)):=by
   simp only [St.put,Tr.put,Tr.set_set]
  rw [hput] at i2';refine ⟨_,_,_,hrun, ?_,i2',kp1.trans kp2⟩;simp only [R];exact ⟨_,b,cap,Gh.aL _ _ _,by simp,rfl,hcp,q5⟩
 ·-- in a new array
  have hadd: ∀w':World,(∀b o,w'.cell? ⟨b,o,none⟩=w.cell? ⟨b,o,none⟩)→(Builtin.firstCells i.size es.length (.slice (some ⟨b,0,none⟩) es.length cap)).run P w'= .ok olds.toArray w':=fun w' hw'=>
   run_firstCells_some (P:=P) w' i.size es.length ⟨b,0,none⟩ es.length cap olds hol (fun j v hv=>by
    rw [Addr.eB,hw'];exact h.F _ _ _ (o2 j v hv).1)
  have hs:Src P i.size (.slice (some ⟨b,0,none⟩) es.length cap) es.length olds w:=⟨by simp [Builtin.lenOf],hadd w fun _ _=>rfl,hadd w.drew fun _ _=>rfl,hol⟩;have hg:cap < es.length+n:=by omega
  have hfit:Builtin.nextslicecap (es.length+n) cap * f.bytes≤281474976710656:=growslice_fits hg (by rw [f3];omega);have hrun:=lX (ty:=ty) he.t d1 d2 f1 f4 (by rw [f2];exact hs) (by rw [f2];exact hx) hg (by omega) hfit;have hge:=grownCap_ge (w:=w) (n:=es.length+n) (c:=cap) (e:=e);generalize grownCap w (es.length+n) cap e=cap3 at hrun hge;have hw:olds.toArray++news.toArray++Builtin.zeroCells z.cells (cap3 - (es.length+n))=(olds++vals++(rest0++(Builtin.zeroCells z.cells (cap3 - (es.length+n))).toList)).toArray:=by
   apply Array.ext';simp [hrest,Vx]
  rw [hw] at hrun;have hrl:(rest0++(Builtin.zeroCells z.cells (cap3 - (es.length+n))).toList).length+(olds++vals).length=cap3 * i.size:=by
   have hlen:=Wb List.length hrest;rw [Vg] at hlen;rw [Vg,Vg,eW,f5];have:(es.length+n) * i.size+(cap3 - (es.length+n)) * i.size=cap3 * i.size:=by
    rw [← Nat.add_mul];congr 1;omega
   rw [Nat.add_mul] at this;omega
  generalize rest0++(Builtin.zeroCells z.cells (cap3 - (es.length+n))).toList=rest at hrun hrl;have hd:=h.drew;have i1:Inv T A g st (w.drew.alloc (.cells (olds++vals++rest).toArray e)):=hd.alloc _;have kp1:Kp A g w g (w.drew.alloc (.cells (olds++vals++rest).toArray e)):=(Kp.drew A g w).trans (Kp.alloc _ hd);have hheap:(w.drew.alloc (.cells (olds++vals++rest).toArray e)).heap[w.heap.size]? =some (.cells (olds++vals++rest).toArray e):=World.heap_alloc_new (w:=w.drew);have hvl:(olds++vals).length=(es++kn).length * i.size:=by rw [Vg,hlenA,hol,hvl0,Nat.add_mul]
  have hones: ∀v∈olds++vals,v.oneCell'=true:=fun v hv=>by
   rcases VE.1 hv with hm | hm
   ·obtain ⟨jj,hjj⟩:=List.getElem?_of_mem hm;exact (o2 jj v hjj).2
   ·exact hkn.gj v (by rw [hrest];exact List.mem_append_left _ hm)
  have hle:Le g ((g.ch w.heap.size 0 (olds++vals)).cN k (.tok fun m=>if m=es.length+n then some (w.heap.size,cap3) else loc m)):=by
   refine (Le.ch fun o' _ _=>h.js (Vn _) o').trans ⟨fun _ _ _ x=>x,fun _ _ x=>x,fun j b x=> ?_,fun j l x=> ?_⟩
   ·have:j≠k:=fun e=>by subst e;have:=q1.symm.trans x;cases this
    rw [Gh.bF _ _ this];exact x
   ·by_cases hj:j=k
    ·subst hj;have x':g.E j=some (.tok l):=x;have:=q1.symm.trans x';simp only [Vt,mc.tok.injEq] at this;subst this;exact ⟨_,Gh.aL _ _ _,fun m y hy=>by
      by_cases hm:m=es.length+n
      ·have:=q3 m (by omega);rw [this] at hy;cases hy
      ·rw [if_neg hm];exact hy⟩
    ·exact ⟨l,by rw [Gh.bF _ _ hj];exact x,fun _ _ y=>y⟩
  obtain ⟨i2',kp2⟩:=i1.yp (o1:= .grow (es.length+n) e i.size (es++kn)) (loc':=fun m=>if m=es.length+n then some (w.heap.size,cap3) else loc m) w.heap.size 0 (olds++vals) hk q1
   (fun m y hy=>by
    by_cases hm:m=es.length+n
    ·have:=q3 m (by omega);rw [this] at hy;cases hy
    ·rw [if_neg hm];exact hy) (fun o' _ _=>h.js (Vn _) o')
   (fun j v hv=>by
    have hj:j < (olds++vals).length:=by
     rcases Nat.lt_or_ge j (olds++vals).length with q | q
     ·exact q
     ·rw [VW q] at hv;cases hv
    rw [cell_of hheap,Wi,VC,VU hj];exact hv)
   (fun id o' hid _=>h.gm (Vn _) id o' hid) (h.up _ (Vn _))
   (fun b' hb'=>qG (Gh.aL _ _ _) (by simp;rfl) hb')
   ⟨_,w.heap.size,cap3,i,(olds++vals++rest).toArray,(0,0),Gh.aL _ _ _,by simp,fun m hm=>by rw [if_neg (by omega)];exact q3 m (by omega),q4,q5,hge,hheap,by
     simp only [WY];rw [Vg];omega,by simp,fun o' ho'=>by
     show (g.ch w.heap.size 0 (olds++vals)).F w.heap.size o'=none;rw [Gh.cq _ _ _ _ (by omega)];exact h.js (Vn _) o',rfl,by rw [hlenA];omega,hball,by
     rw [dE];refine ⟨hcall, ?_⟩;rw [mH];exact dj (dI hle _ _ (dN o1 hkn.rl)) fun j v hv=>⟨Gh.jS g w.heap.size 0 (olds++vals) j v hv,hones v (VQ hv)⟩⟩
  refine ⟨_,_,_,hrun, ?_,i2',kp1.trans kp2⟩;simp only [R];exact ⟨_,w.heap.size,cap3,Gh.aL _ _ _,by simp,rfl,hge,q5⟩
end
section
variable {P:Program} {T:TT} {A:Nat→Prop} {g:Gh} {st:St} {w:World}
theorem vp {C:cX} {t xt ty e:TypeId} {i:TI} (he:tq P T t xt e i) {s r:AV} {sv x:Value} {c:Nat} {kn:List AV} {news vals:List Value} {p:dF} {fx:Fx}
  (hp:Ca i e s c kn= .ok p) (hrun:aC C st p= .ok (r,fx)) (hs:R g s sv) (hx:Src P i.size x c news w) (hc0:0 < c) (hkn:sD g i.size c kn news vals) (h:Inv T A g st w):
  ba P T A g w r (fx.did.app st) (Builtin.append_ #[t,xt] ty #[sv,x]):=by
 unfold Ca at hp;split at hp
 ·-- to nil
  split at hp
  ·rename_i hroom;cases hp;simp only [aC,Vi,Vk] at hrun;obtain ⟨rfl,rfl⟩:=hrun;simp only [R] at hs;subst hs;have hnil:Src P i.size (.slice none 0 0) 0 [] w:=⟨by simp [Builtin.lenOf],by simp [Builtin.firstCells],by simp [Builtin.firstCells],by simp⟩;have:=Ei (ty:=ty) (es:=[]) he hnil hx (by omega) (by rw [VC];exact hroom) h rfl (fun _ h=>by cases h) rfl fP (fun _ h=>by cases h) hkn;rw [VC] at this;exact this
  ·cases hp
 ·rename_i z es;split at hp
  ·rename_i hroom;simp only [Vl] at hroom;obtain ⟨hroom,hzz⟩:=hroom;have hzz:=Vq hzz;subst hzz;cases hp;simp only [aC,Vi,Vk] at hrun;obtain ⟨rfl,rfl⟩:=hrun;simp only [R] at hs;obtain ⟨hb0,b,o,cap,rfl,hcap,hz1,hes,hperm⟩:=hs;have hcap':cap=es.length:=hperm;subst hcap';have hes':=hes;rw [dE] at hes';obtain ⟨xs,x1,x2⟩:=ic hes'.2;have hl:xs.length=es.length * i.size:=by rw [cW x1,dz hes'.1]
   have hfirst: ∀w':World,(∀b o,w'.cell? ⟨b,o,none⟩=w.cell? ⟨b,o,none⟩)→(Builtin.firstCells i.size es.length (.slice (some ⟨b,o,none⟩) es.length es.length)).run P w'= .ok xs.toArray w':=fun w' hw'=>
    run_firstCells_some (P:=P) w' i.size es.length ⟨b,o,none⟩ es.length es.length xs hl (fun j v hv=>by
     rw [Addr.eB,hw'];exact h.F _ _ _ (x2 j v hv).1)
   have hsrc:Src P i.size (.slice (some ⟨b,o,none⟩) es.length es.length) es.length xs w:=⟨by simp [Builtin.lenOf],hfirst w fun _ _=>rfl,hfirst w.drew fun _ _=>rfl,hl⟩;exact Ei (ty:=ty) he hsrc hx (by omega) hroom h rfl hes'.1 hb0 x1 (fun v hv=>by
    obtain ⟨j,hj⟩:=List.getElem?_of_mem hv;exact (x2 j v hj).2) hkn
  ·cases hp
 ·rename_i z es k;split at hp
  ·rename_i hroom;simp only [Vl] at hroom;obtain ⟨hroom,hzz⟩:=hroom;have hzz:=Vq hzz;subst hzz;cases hp;simp only [aC,ae,ak] at hrun;obtain ⟨ob,h1,⟨v',o'⟩,h2,dd,h5,h6⟩:=hrun;split at h2
   ·rename_i n e';split at h2
    ·rename_i hcond;simp only [Vl] at hcond;have hn:=Vq hcond.1;have he':=Vq hcond.2;subst hn he';cases h2;simp only [ej] at h5;split at h5
     ·cases h5
     ·rename_i hro;cases h5;cases h6;rw [cP] at hro;simp only [R] at hs;obtain ⟨hb0,b,o,cap,rfl,hcap,hz1,hes,rfl,loc,hE,hl⟩:=hs;obtain ⟨vs,fz,hS⟩:=Ki h h1 he.get hE hl hb0 hes;exact Dv (ty:=ty) he h1 (by omega) hS hx hc0 hkn hroom h
    ·cases h2
   ·cases h2
  ·cases hp
 ·rename_i k z n;split at hp
  ·rename_i hroom;simp only [Vl] at hroom;obtain ⟨hroom,hzz⟩:=hroom;have hzz:=Vq hzz;subst hzz;cases hp;simp only [aC,ae,ak] at hrun;obtain ⟨ob,h1,⟨v',o'⟩,h2,dd,h5,h6⟩:=hrun;split at h2
   ·rename_i m e' z' es;split at h2
    ·rename_i hcond;simp only [Vl] at hcond;have hm:=Vq hcond.1.1;have hn:=Vq hcond.1.2;have he':=Vq hcond.2.1;subst hm hn he';cases h2;simp only [ej] at h5;split at h5
     ·cases h5
     ·rename_i hro;cases h5;cases h6;rw [cP] at hro;simp only [R] at hs;obtain ⟨loc',b',cap',hE,hl,rfl,hcap,hz1⟩:=hs;obtain ⟨rfl,loc,b,cap,vs,fz,hS⟩:=HK h h1 he.get;have e1:=hS.s_E.symm.trans hE;simp only [Vt,mc.tok.injEq] at e1;subst e1;have e2:=hS.s_loc.symm.trans hl;simp only [Vt,Vk] at e2;obtain ⟨rfl,rfl⟩:=e2;exact Dv (ty:=ty) he h1 (by omega) hS hx hc0 hkn hroom h
    ·cases h2
   ·cases h2
  ·cases hp
 ·cases hp
theorem ye {C:cX} {t xt ty e:TypeId} {i:TI} (he:tq P T t xt e i) {s x r:AV} {sv xv:Value} {new:List AV} {p:dF} {fx:Fx} (hev:og x=some new)
  (hp:qJ i e s new= .ok p) (hrun:aC C st p= .ok (r,fx)) (hs:R g s sv) (hx:R g x xv) (h:Inv T A g st w):
  ba P T A g w r (fx.did.app st) (Builtin.append_ #[t,xt] ty #[sv,xv]):=by
 unfold qJ at hp;split at hp
 ·cases hp
 ·rename_i v l;simp only [ae] at hp;obtain ⟨new',hf,hp⟩:=hp;split at hp
  ·cases hp
  ·rename_i hall;have hc:=wC hall;obtain ⟨news,s1,s2,s3,s4,s5⟩:=qQ (P:=P) hx hev hf hc (by simp) h;have hpos:0 < new'.length:=by rw [s5];simp
   split at hp
   ·exact vp he hp hrun hs s1 hpos (sD.none s4) h
   ·exact vp he hp hrun hs s1 hpos (sD.all rfl hc s3 s2 s4) h
theorem x8 {t xt ty e:TypeId} {i:TI} (he:tq P T t xt e i) {base:Option Addr} {n:Nat} {news:List Value} {x:Value} {els:List AV}
  (hs:Src P i.size (.slice base 0 0) 0 [] w) (hx:Src P i.size x n news w) (hg:0 < n) (hroom:cZ n i=true)
  (h:Inv T A g st w) (hr:RL g (flat els) news) (ho: ∀v∈news,v.oneCell'=true):
  ba P T A g w (.ms st.h 0 i.size n 0) (st.new (.cells (1000000+e) (flat els))).2 (Builtin.append_ #[t,xt] ty #[.slice base 0 0,x]):=by
 obtain ⟨f,z,f1,f2,f3,f4,f5⟩:=he.info;obtain ⟨d,d1,d2⟩:=he.xt;obtain ⟨r1,r2,r3⟩:=jB hroom;have hfit:Builtin.nextslicecap (0+n) 0 * f.bytes≤281474976710656:=growslice_fits (by omega) (by rw [VC,f3];omega);have hrun:=lX (ty:=ty) he.t d1 d2 f1 f4 (by rw [f2];exact hs) (by rw [f2];exact hx) (by omega) (by omega) hfit;have hge:=grownCap_ge (w:=w) (n:=0+n) (c:=0) (e:=e);have hE:g.E st.h=none:=h.E _ (Vn _);have hle:Le g (g.cN st.h (.cf w.heap.size)):=Le.cN hE;obtain ⟨k1,k2⟩:=h.drew.newObj (.cells (1000000+e) (flat els)) (.cells (news.toArray++Builtin.zeroCells z.cells (grownCap w (0+n) 0 e - (0+n))) e) (fun b' hb'=>by
  have:(g.cN st.h (.cf w.heap.size)).E st.h=some (.cf b'):=hb';rw [Gh.aL] at this;simpa using this.symm) ⟨w.heap.size,news.toArray,Builtin.zeroCells z.cells (grownCap w (0+n) 0 e - (0+n)),e,Gh.aL _ _ _,World.heap_alloc_new (w:=w.drew),by simpa using dI hle _ _ hr,by simpa using ho,fun o=>h.js (Vn _) o,fun hlt=>absurd hlt (Nat.not_lt.2 (Nat.le_add_right _ _))⟩
 have hnil:([]:List Value).toArray++news.toArray=news.toArray:=by simp
 rw [hnil] at hrun;refine ⟨_,g.cN st.h (.cf w.heap.size),_,hrun, ?_,k1,(Kp.drew A g w).trans k2⟩;simp only [R];exact ⟨w.heap.size,0,Gh.aL _ _ _,grownCap w (0+n) 0 e,by simp,by omega,r2,fun _=>rfl,.inr trivial⟩
theorem xd {C:cX} {t xt ty e:TypeId} {i:TI} (he:tq P T t xt e i) {s x r:AV} {sv xv:Value} {new:List AV} {p:dF} {fx:Fx} (hev:og x=some new)
  (hp:qz i e s new= .ok p) (hrun:aC C st p= .ok (r,fx)) (hs:R g s sv) (hx:R g x xv) (h:Inv T A g st w):
  ba P T A g w r (fx.did.app st) (Builtin.append_ #[t,xt] ty #[sv,xv]):=by
 unfold qz at hp;split at hp
 ·exact sE he hev hp hrun hs hx h
 ·rename_i v l;simp only [ae] at hp;obtain ⟨new',hf,hp⟩:=hp;split at hp
  ·cases hp
  ·rename_i hall;simp only [Vl] at hall;have hc:=wC hall.1;obtain ⟨news,s1,s2,s3,s4,s5⟩:=qQ (P:=P) hx hev hf hc (by simp) h;have hpos:0 < new'.length:=by rw [s5];simp
   split at hp
   ·simp only [Vi] at hp;subst hp;simp only [aC,Vi,Vk] at hrun;obtain ⟨rfl,rfl⟩:=hrun;simp only [R] at hs;subst hs;exact x8 he ⟨by simp [Builtin.lenOf],by simp [Builtin.firstCells],by simp [Builtin.firstCells],by simp⟩ s1 hpos hall.2 h s2 s4
   ·simp only [Vi] at hp;subst hp;simp only [aC,Vi,Vk] at hrun;obtain ⟨rfl,rfl⟩:=hrun;simp only [R] at hs;obtain ⟨a,rfl⟩:=hs;exact x8 he ⟨by simp [Builtin.lenOf],by simp [Builtin.firstCells,loadCells,loadCellsFrom],by simp [Builtin.firstCells,loadCells,loadCellsFrom],by simp⟩ s1 hpos hall.2 h s2 s4
   ·simp only [Vi] at hp;subst hp;simp only [aC,Vi,Vk] at hrun;obtain ⟨rfl,rfl⟩:=hrun;simp only [R] at hs;obtain ⟨_,b,o,cap,rfl,_,_,_,hp⟩:=hs;simp only [sU,Vj] at hp;subst hp;exact x8 he ⟨by simp [Builtin.lenOf],by simp [Builtin.firstCells,loadCells,loadCellsFrom],by simp [Builtin.firstCells,loadCells,loadCellsFrom],by simp⟩ s1 hpos hall.2 h s2 s4
   ·cases hp
theorem zu (hT:wA P T) {C:cX} {t:TypeId} {k z n:Nat} {i r:AV} {sv iv:Value} {p:dF} {fx:Fx} (hp:kz T t k z n i= .ok p) (hrun:aC C st p= .ok (r,fx))
  (hs:R g (.gs k z n) sv) (hy:R g i iv) (h:Inv T A g st w):ba P T A g w r (fx.did.app st) (Instr.indexAt t sv iv):=by
 simp only [kz,ae] at hp;obtain ⟨j,hj,j',hj',it,h1,h2⟩:=hp;obtain ⟨kd,rfl⟩:=wG hj hy;obtain ⟨rfl,hlt⟩:=iF hj';have hit:=hT t it (cb.1 h1);split at h2
 ·rename_i e hund;have k1:=eG hit hund;simp only [ae] at h2;obtain ⟨ie,h3,h4⟩:=h2;have hie:=hT _ ie (cb.1 h3);split at h4
  ·rename_i hz;have hz:=Vq hz;cases h4;simp only [ij,aC,ae,ak] at hrun;obtain ⟨ob,h5,⟨v',o'⟩,⟨v2,h6,h7⟩,dd,h8,h9⟩:=hrun;cases h7;simp only [ej,Vi] at h8;subst h8;cases h9;simp only [R] at hs;obtain ⟨loc,b,cap,hE,hl,rfl,hcap,hz1⟩:=hs;split at h6
   ·rename_i m e' z' es;split at h6
    ·rename_i hcond;simp only [Vl] at hcond;have hm:=Vq hcond.1;have hzz:=Vq hcond.2;subst hm hzz;obtain ⟨loc2,b2,cap2,i2,vs,fz,q1,q2,q3,q4,q5,q6,q7,q8,q9,q10,q11,q12,q13,q14⟩:=h.H k _ h5;have e1:=q1.symm.trans hE;simp only [Vt,mc.tok.injEq] at e1;subst e1;have e2:=q2.symm.trans hl;simp only [Vt,Vk] at e2;obtain ⟨rfl,rfl⟩:=e2;split at h6
     ·simp only [ae,ak] at h6;obtain ⟨u,h7,rfl⟩:=h6;obtain ⟨d1,d2⟩:=xc q14 h7;refine ba.of h (x:= .pointer (some ⟨b2,0+j' * z',none⟩)) ?_ ?_
      ·simp [Instr.indexAt,asIntOf,k1,hie.cV,Addr.eB,hz];intro hh;omega
      ·simp only [R];exact ⟨u6 (uQ q13 h7),b2,_,rfl,d2⟩
     ·cases h6;refine ba.of h (x:= .pointer (some ⟨b2,0+j' * z',none⟩)) ?_ ?_
      ·simp [Instr.indexAt,asIntOf,k1,hie.cV,Addr.eB,hz];intro hh;omega
      ·simp only [R];exact ⟨loc2,b2,cap2,q1,q2,by rw [VC]⟩
    ·cases h6
   ·rename_i m e' z' cs;split at h6
    ·rename_i hcond;simp only [Vl] at hcond;have hm:=Vq hcond.1;have hzz:=Vq hcond.2;subst hm hzz;cases h6;refine ba.of h (x:= .pointer (some ⟨b,0+j' * z',none⟩)) ?_ ?_
     ·simp [Instr.indexAt,asIntOf,k1,hie.cV,Addr.eB,hz];intro hh;omega
     ·simp only [R];exact ⟨loc,b,cap,hE,hl,by rw [VC]⟩
    ·cases h6
   ·cases h6
  ·cases h4
 ·cases h2
theorem zt {C:cX} {t:TypeId} {i:TI} (hi:iP P t i) {k m off:Nat} {v r:AV} {x y:Value} {p:dF} {fx:Fx} (hp:pT i k m off v= .ok p) (hrun:aC C st p= .ok (r,fx))
  (hx:R g (.gp k m off) x) (hy:R g v y) (h:Inv T A g st w):r=undef∧B9 P T A g w (fx.did.app st) (Instr.storeAt t x y):=by
 unfold pT at hp;split at hp
 ·rename_i hc;simp only [Vl] at hc;have hlen:=Vq hc.1;simp only [ae,ak] at hp;obtain ⟨v',hf,rfl⟩:=hp;simp only [aC,ae,ak] at hrun;obtain ⟨ob,h1,⟨u,o'⟩,h2,dd,h5,h6⟩:=hrun;split at h2
  ·rename_i n e z es;split at h2
   ·rename_i hcond;simp only [Vl] at hcond;have c1:=Vq hcond.1.1;have c2:=Vq hcond.1.2;have c3:=Vq hcond.2.1;have c4:=Vq hcond.2.2;subst c1 c3;cases h2;simp only [ej] at h5;split at h5
    ·cases h5
    ·rename_i hro;cases h5;cases h6;rw [cP] at hro;refine ⟨rfl, ?_⟩;simp only [R] at hx;obtain ⟨loc,b,cap,hE,hl,rfl⟩:=hx;obtain ⟨loc2,b2,cap2,i2,vs,fz,q1,q2,q3,q4,q5,q6,q7,q8,q9,q10,q11,q12,q13,q14⟩:=h.H k _ h1;have e1:=q1.symm.trans hE;simp only [Vt,mc.tok.injEq] at e1;subst e1;have e2:=q2.symm.trans hl;simp only [Vt,Vk] at e2;obtain ⟨rfl,rfl⟩:=e2;subst q11;have hyc:=wo hy hc.2;obtain ⟨ys,hys⟩: ∃ys,y.cells.toList=ys:=⟨_,rfl⟩;rw [hys] at hyc;have hyl:=cW hyc;have hyo:=qp hc.2 hyc;obtain ⟨fc1,fc2,fc3⟩:=zU hf hyc;have hbnd:es.length * i2.size+ys.length≤vs.size:=by
      rw [q8,hyl,hlen, ← c4];have:=Nat.mul_le_mul_right i2.size (show es.length+1≤cap2 by omega);rw [Nat.add_mul,Nat.one_mul] at this;exact this
     have hat0:At g k (.grow n e i2.size es) b2:=⟨loc2,cap2,q1,q2⟩;have hst:=eE (P:=P) b2 (es.length * i2.size) e fz ys 0 vs w q7 (by simpa using hbnd) (by simpa using q9) hyo;simp only [Wk] at hst;generalize hrow:vs.toList.take (es.length * i2.size)++ys++vs.toList.drop (es.length * i2.size+ys.length)=row at hst;have hrowl:row.length=vs.size:=by
      rw [← hrow];simp;omega
     have hpre: ∀j,j < es.length * i2.size→row[j]? =vs[j]? :=fun j hj=>by
      rw [← hrow,Vx,VU (by simp;omega),List.getElem?_take,if_pos hj];simp
     have hmid: ∀j v,ys[j]? =some v→row[es.length * i2.size+j]? =some v:=fun j v hv=>by
      have hj:j < ys.length:=by
       rcases Nat.lt_or_ge j ys.length with q | q
       ·exact q
       ·simp [VW q] at hv
      have htl:(vs.toList.take (es.length * i2.size)).length=es.length * i2.size:=by
       have hvs:vs.toList.length=vs.size:=rfl;rw [VB,hvs];omega
      rw [← hrow,Vx,V5 (by rw [htl];omega),htl,VU (by omega)];rw [show es.length * i2.size+j - es.length * i2.size=j by omega];exact hv
     have hheap:(w.setRow b2 row.toArray).heap[b2]? =some (.cells row.toArray e fz):=setRow_heap _ _ _ _ _ _ q7;have hMn:g.M b2=none:=by
      cases hm:g.M b2 with
      | none=>rfl
      | some ee=>
       have:=h.M b2 ee.1 ee.2 hm;rw [q7] at this;cases this
     have i1:Inv T A g (st.put k (.grow n e i2.size es)) (w.setRow b2 row.toArray):=h.write h1 hat0 (.grow n e i2.size es) (setRow_size _ _ _) (fun _ hb=>fw _ _ _ hb)
      (fun j v hv=>by
       have hj:j < es.length * i2.size:=by
        rcases Nat.lt_or_ge j (es.length * i2.size) with q | q
        ·exact q
        ·rw [q10 j q] at hv;cases hv
       have:=h.F b2 j v hv;rw [cell_of q7] at this;rw [cell_of hheap,Wi,hpre j hj];exact this) hMn (fun b' hb'=>qG q1 q2 hb')
      ⟨loc2,b2,cap2,i2,row.toArray,fz,q1,q2,q3,q4,q5,q6,hheap,by simpa [hrowl] using q8,q9,q10,rfl,q12,q13,q14⟩
     have kp1:Kp A g w g (w.setRow b2 row.toArray):=Kp.write (h.own k _ b2 h1 hat0 (by omega)) (setRow_size _ _ _) (fun _ hb=>fw _ _ _ hb);have hk':(st.put k (.grow n e i2.size es)).get k= .ok (.grow n e i2.size es):=St.aS (St.cC.1 h1).1;have hle:Le g ((g.ch b2 (es.length * i2.size) ys).cN k (.tok loc2)):=by
      refine (Le.ch fun o' ho' _=>q10 o' ho').trans ⟨fun _ _ _ x=>x,fun _ _ x=>x,fun j b x=> ?_,fun j l x=> ?_⟩
      ·have:j≠k:=fun e=>by subst e;have:=q1.symm.trans x;cases this
       rw [Gh.bF _ _ this];exact x
      ·by_cases hj:j=k
       ·subst hj;have x':g.E j=some (.tok l):=x;have:=q1.symm.trans x';simp only [Vt,mc.tok.injEq] at this;subst this;exact ⟨_,Gh.aL _ _ _,fun _ _ hy=>hy⟩
       ·exact ⟨l,by rw [Gh.bF _ _ hj];exact x,fun _ _ y=>y⟩
     have hvl:v'.cells.length=i2.size:=by rw [fc3,hlen,c4]
     obtain ⟨i2',kp2⟩:=i1.yp (o1:= .grow n e i2.size (es++[v'])) (loc':=loc2) b2 (es.length * i2.size) ys hk' q1 (fun _ _ hy=>hy) (fun o' ho' _=>q10 o' ho')
      (fun j u hu=>by
       rw [cell_of hheap,Wi];exact hmid j u hu)
      (fun id o' hid hne ha=>by
       rw [St.aW (fun e=>hne e.symm)] at hid;exact hne (h.D id k o' _ b2 hid h1 ha hat0)) (h.own k _ b2 h1 hat0 (by omega))
      (fun b' hb'=>qG (Gh.aL _ _ _) q2 hb')
      ⟨loc2,b2,cap2,i2,row.toArray,fz,Gh.aL _ _ _,q2,q3,q4,q5,q6,hheap,by simpa [hrowl] using q8,
       VZ q9 (Nat.mul_le_mul_right _ (by simp)),fun o' ho'=>by
        show (g.ch b2 (es.length * i2.size) ys).F b2 o'=none;simp only [Vg,Vh,Vj,VC] at ho';rw [Nat.add_mul,Nat.one_mul] at ho';rw [Gh.cq _ _ _ _ (by rw [hyl,hlen, ← c4];omega)];exact q10 o' (by omega),rfl,by simp;omega,by rw [fH,q13];show (VM.bare v'&&true)=true;rw [fc2];rfl,by
        rw [my];refine ⟨gd hle _ _ _ _ q14, ?_⟩;rw [dE];refine ⟨fun u hu=>by simp only [VR] at hu;subst hu;exact hvl, ?_⟩;rw [show flat [v']=v'.cells by simp [flat]];exact dj (dI hle _ _ fc1) fun j u hu=>⟨by rw [VC];exact Gh.jS g b2 (es.length * i2.size) ys j u hu,hyo u (VQ hu)⟩⟩
     have hput:(st.put k (.grow n e i2.size es)).put k (.grow n e i2.size (es++[v']))=st.put k (.grow n e i2.size (es++[v'])):=by
      simp only [St.put,Tr.put,Tr.set_set]
     rw [hput] at i2';refine ⟨_,_, ?_,i2',kp1.trans kp2⟩;simp only [Instr.storeAt,Instr.sureAddr,Sem.run_bind,Sem.run_pure,Result.andThen_ok,storeVar,hi.cV,Sem.run_ite];have hysz:y.cells.size=ys.length:=by rw [← hys];exact (Wn).symm
     rw [if_neg (by omega)];show (storeCells _ y.cells.toList).run P w= _;rw [hys];exact hst
   ·cases h2
  ·rename_i hno;unfold Az at h2;split at h2
   ·rename_i n e z old;split at h2
    ·rename_i hcond;simp only [Vl] at hcond;have c1:=Vq hcond.1;have c2:=VA hcond.2;subst c1;cases h2;simp only [ej] at h5;split at h5
     ·cases h5
     ·rename_i hro;cases h5;cases h6;rw [cP] at hro;refine ⟨rfl, ?_⟩;simp only [R] at hx;obtain ⟨loc,b,cap,hE,hl,rfl⟩:=hx;obtain ⟨loc2,b2,cap2,i2,pre,rest,q1,q2,q3,q4,q5,q6,q7,q8,q9,q10,q11,q12,q13⟩:=h.H k _ h1;have e1:=q1.symm.trans hE;simp only [Vt,mc.tok.injEq] at e1;subst e1;have e2:=q2.symm.trans hl;simp only [Vt,Vk] at e2;obtain ⟨rfl,rfl⟩:=e2;have hyc:=wo hy hc.2;obtain ⟨ys,hys⟩: ∃ys,y.cells.toList=ys:=⟨_,rfl⟩;rw [hys] at hyc;have hyl:=cW hyc;have hyo:=qp hc.2 hyc;have hpl:=cW q11;have hpsz:pre.toList.length=pre.size:=rfl;have hbnd:off+ys.length≤(pre++rest).size:=by
       rw [Array.size_append,hyl];omega
      have hat0:At g k (.row n e z old) b2:=⟨loc2,cap2,q1,q2⟩;have hst:=eE (P:=P) b2 off e (0,0) ys 0 (pre++rest) w q7 (by simpa using hbnd) (by simp) hyo;simp only [Wk] at hst;have hrow:(pre++rest).toList.take off++ys++(pre++rest).toList.drop (off+ys.length)=((pre.toList.take off++ys++pre.toList.drop (off+ys.length)).toArray++rest).toList:=by
       rw [Array.toList_append,Array.toList_append,List.take_append_of_le_length (by omega),List.drop_append_of_le_length (by omega)];simp [Vx]
      rw [hrow] at hst;have hheap:(w.setRow b2 ((pre.toList.take off++ys++pre.toList.drop (off+ys.length)).toArray++rest).toList.toArray).heap[b2]? =some (.cells ((pre.toList.take off++ys++pre.toList.drop (off+ys.length)).toArray++rest) e (0,0)):=by
       rw [setRow_heap _ _ _ _ _ _ q7]
      have hMn:g.M b2=none:=by
       cases hm:g.M b2 with
       | none=>rfl
       | some ee=>
        have:=h.M b2 ee.1 ee.2 hm;rw [q7] at this;cases this
      have hnl:(pre.toList.take off++ys++pre.toList.drop (off+ys.length)).length=pre.size:=by
       simp only [Vg,VB,VF];omega
      have i1:Inv T A g (st.put k (.row n e z (cO old off v.cells))) (w.setRow b2 ((pre.toList.take off++ys++pre.toList.drop (off+ys.length)).toArray++rest).toList.toArray):=h.write h1 hat0 _ (setRow_size _ _ _) (fun _ hb=>fw _ _ _ hb)
       (fun j u hu=>by rw [q9 j] at hu;cases hu) hMn (fun b' hb'=>by
        obtain ⟨l,c,p1,p2⟩:=hb';have e1:=p1.symm.trans q1;simp only [Vt,mc.tok.injEq] at e1;subst e1;have e2:=p2.symm.trans q2;simp only [Vt,Vk] at e2;exact e2.1)
       ⟨loc2,b2,cap2,i2,_,rest,q1,q2,q3,q4,q5,q6,hheap,by rw [Array.size_append,WY,hnl, ← Array.size_append];exact q8,q9,q10,by
        rw [List.toList_toArray];unfold cO;have hyl':v.cells.length=ys.length:=hyl.symm;rw [hyl'];exact dN (dN (mf off q11) hyc) (iu _ q11),by
        intro u hu;rw [List.toList_toArray] at hu;simp only [VE] at hu;rcases hu with (hu | hu) | hu
        ·exact q12 u (List.mem_of_mem_take hu)
        ·exact hyo u hu
        ·exact q12 u (List.mem_of_mem_drop hu),by
        unfold cO;simp only [Vg,VB,VF];omega⟩
      have kp1:Kp A g w g (w.setRow b2 ((pre.toList.take off++ys++pre.toList.drop (off+ys.length)).toArray++rest).toList.toArray):=Kp.write (h.own k _ b2 h1 hat0 (by omega)) (setRow_size _ _ _) (fun _ hb=>fw _ _ _ hb);refine ⟨_,_, ?_,i1,kp1⟩;simp only [Instr.storeAt,Instr.sureAddr,Sem.run_bind,Sem.run_pure,Result.andThen_ok,storeVar,hi.cV,Sem.run_ite];have hysz:y.cells.size=ys.length:=by rw [← hys];exact (Wn).symm
      rw [if_neg (by omega)];show (storeCells _ y.cells.toList).run P w= _;rw [hys];exact hst
    ·cases h2
   ·cases h2
 ·cases hp
end
section
variable {P:Program} {T:TT} {A:Nat→Prop} {g:Gh} {st:St} {w:World}
theorem CG {loc:Nat→Option (Nat×Nat)} {k n b cap:Nat} {e:TypeId} {z:Nat} {cs:List AV} {b':Nat} (hE:g.E k=some (.tok loc)) (hl:loc n=some (b,cap)) (h:At g k (.row n e z cs) b'):b'=b:=by
 obtain ⟨l,c,q1,q2⟩:=h;have e1:=q1.symm.trans hE;simp only [Vt,mc.tok.injEq] at e1;subst e1;have e2:=q2.symm.trans hl;simp only [Vt,Vk] at e2;exact e2.1
theorem Inv.newRow (h:Inv T A g st w) {e:TypeId} {i:TI} (hi:T.get e=some i) (h1:1≤i.size) {cs:List AV} {vals rest:List Value} {cap n:Nat} (hn:cs.length=n * i.size)
  (hr:RL g cs vals) (ho: ∀v∈vals,v.oneCell'=true) (hsz:vals.length+rest.length=cap * i.size) (hcap:n≤cap):
  ∃g',Inv T A g' (st.new (.row n e i.size cs)).2 (w.drew.alloc (.cells (vals++rest).toArray e))∧Kp A g w g' (w.drew.alloc (.cells (vals++rest).toArray e))∧
   R g' (.gs st.h i.size n) (.slice (some ⟨w.heap.size,0,none⟩) n cap):=by
 have hd:=h.drew;have i1:Inv T A g st (w.drew.alloc (.cells (vals++rest).toArray e)):=hd.alloc _;have hE0:g.E st.h=none:=h.E _ (Vn _);refine ⟨g.cN st.h (.tok fun m=>if m=n then some (w.heap.size,cap) else none), ?_, ?_, ?_⟩
 ·refine i1.name (.row n e i.size cs) _ w.heap.size (fun id o hid=> ?_) (h.up _ (Vn _)) ?_ ?_
  ·exact h.gm (Vn _) id o hid
  ·exact fun b' hb'=>CG (Gh.aL _ _ _) (by simp;rfl) hb'
  ·refine ⟨_,w.heap.size,cap,i,vals.toArray,rest.toArray,Gh.aL _ _ _,by simp,fun m hm=> ?_,hi,h1,hcap, ?_,by simp;exact hsz,fun o=>h.js (Vn _) o,rfl, ?_, ?_,hn⟩
   ·rw [if_neg (by omega)]
   ·have:=World.heap_alloc_new (w:=w.drew) (o:= .cells (vals++rest).toArray e);rw [show vals.toArray++rest.toArray=(vals++rest).toArray by simp];exact this
   ·rw [List.toList_toArray];exact dI (Le.cN hE0) _ _ hr
   ·rw [List.toList_toArray];exact ho
 ·exact ((Kp.drew A g w).trans (Kp.alloc _ hd)).trans (Kp.cN hE0)
 ·simp only [R];exact ⟨_,w.heap.size,cap,Gh.aL _ _ _,by simp,rfl,hcap,h1⟩
theorem NU {t xt ty e:TypeId} {i:TI} (he:tq P T t xt e i) {n:Nat} {news:List Value} {x:Value} {els:List AV}
  (hx:Src P i.size x n news w) (hg:0 < n) (hroom:cZ n i=true) (h:Inv T A g st w) (hr:RL g (flat els) news) (ho: ∀v∈news,v.oneCell'=true):
  ba P T A g w (.gs st.h i.size n) (st.new (.row n e i.size (flat els))).2 (Builtin.append_ #[t,xt] ty #[.slice none 0 0,x]):=by
 obtain ⟨f,z,f1,f2,f3,f4,f5⟩:=he.info;obtain ⟨d,d1,d2⟩:=he.xt;obtain ⟨r1,r2,r3⟩:=jB hroom;have hs:Src P i.size (.slice none 0 0) 0 [] w:=⟨by simp [Builtin.lenOf],by simp [Builtin.firstCells],by simp [Builtin.firstCells],by simp⟩;have hfit:Builtin.nextslicecap (0+n) 0 * f.bytes≤281474976710656:=growslice_fits (by omega) (by rw [VC,f3];omega);have hrun:=lX (ty:=ty) he.t d1 d2 f1 f4 (by rw [f2];exact hs) (by rw [f2];exact hx) (by omega) (by omega) hfit;have hge:=grownCap_ge (w:=w) (n:=0+n) (c:=0) (e:=e);have hnl:news.length=n * i.size:=hx.l;obtain ⟨g',k1,k2,k3⟩:=h.newRow (cs:=flat els) (vals:=news) (rest:=(Builtin.zeroCells z.cells (grownCap w (0+n) 0 e - (0+n))).toList) (cap:=grownCap w (0+n) 0 e) (n:=n) he.get r2
  (by rw [← cW hr];exact hnl) hr ho (by
   rw [eW,f5,hnl, ← Nat.add_mul];congr 1;omega) (by omega)
 have hw:([]:List Value).toArray++news.toArray++Builtin.zeroCells z.cells (grownCap w (0+n) 0 e - (0+n))=(news++(Builtin.zeroCells z.cells (grownCap w (0+n) 0 e - (0+n))).toList).toArray:=by
  apply Array.ext';simp
 rw [hw,VC] at hrun;rw [VC] at k1 k2 k3;exact ⟨_,g',_,hrun,k3,k1,k2⟩
theorem NS {t xt ty e:TypeId} {i:TI} (he:tq P T t xt e i) {k n m:Nat} {cs:List AV} {els:List AV} {news:List Value} {x:Value} {b cap:Nat} {loc:Nat→Option (Nat×Nat)}
  (hk:st.get k= .ok (.row m e i.size cs)) (hro:st.ro≤k) (hE:g.E k=some (.tok loc)) (hl:loc m=some (b,cap))
  (hx:Src P i.size x n news w) (hn0:0 < n) (hroom:cZ (m+n) i=true) (hr:RL g (flat els) news) (ho: ∀v∈news,v.oneCell'=true) (h:Inv T A g st w):
  ba P T A g w (.gs k i.size (m+n)) (st.put k (.row (m+n) e i.size (cs++flat els))) (Builtin.append_ #[t,xt] ty #[.slice (some ⟨b,0,none⟩) m cap,x]):=by
 obtain ⟨f,z,f1,f2,f3,f4,f5⟩:=he.info;obtain ⟨d,d1,d2⟩:=he.xt;obtain ⟨r1,r2,r3⟩:=jB hroom;obtain ⟨loc2,b2,cap2,i2,pre,rest,q1,q2,q3,q4,q5,q6,q7,q8,q9,q10,q11,q12,q13⟩:=h.H k _ hk;have e1:=q1.symm.trans hE;simp only [Vt,mc.tok.injEq] at e1;subst e1;have e2:=q2.symm.trans hl;simp only [Vt,Vk] at e2;obtain ⟨rfl,rfl⟩:=e2;have e3:=q4.symm.trans he.get;simp only [Vt] at e3;subst e3;have hnl:news.length=n * i2.size:=hx.l;have hpl:pre.size=m * i2.size:=by have:=cW q11;rw [← q13, ← this];rfl
 have hpl':pre.toList.length=m * i2.size:=hpl;have hat0:At g k (.row m e i2.size cs) b2:=⟨loc2,cap2,q1,q2⟩;have hcl:(cs++flat els).length=(m+n) * i2.size:=by
  rw [Vg,q13,Nat.add_mul, ← hnl,cW hr]
 by_cases hcp:m+n≤cap2
 ·-- in place
  have hst:=eE (P:=P) b2 (m * i2.size) e (0,0) news 0 (pre++rest) w q7 (by
   rw [q8,hnl];simp only [Wk];rw [← Nat.add_mul];exact Nat.mul_le_mul_right _ hcp) (by simp) ho
  simp only [Wk] at hst;have hrun:=ze (ty:=ty) (a:=⟨b2,0,none⟩) he.t d1 d2 f1 (by rw [f2];exact hx) hcp (by rw [f2,Addr.eB,VC];exact hst);have hrest:n * i2.size≤rest.size:=by
   have h1:pre.size+rest.size=cap2 * i2.size:=by rw [← Array.size_append];exact q8
   have h2:=Nat.mul_le_mul_right i2.size hcp;rw [Nat.add_mul] at h2;omega
  have hrow:(pre++rest).toList.take (m * i2.size)++news++(pre++rest).toList.drop (m * i2.size+news.length)=((pre++news.toArray)++(rest.toList.drop news.length).toArray).toList:=by
   rw [Array.toList_append,Array.toList_append,Array.toList_append,List.take_left' hpl',Xj,List.drop_eq_nil_of_le (by omega),hpl',show m * i2.size+news.length - m * i2.size=news.length by omega];simp
  rw [hrow] at hrun;have hheap:(w.setRow b2 ((pre++news.toArray)++(rest.toList.drop news.length).toArray).toList.toArray).heap[b2]? =some (.cells ((pre++news.toArray)++(rest.toList.drop news.length).toArray) e (0,0)):=by
   rw [setRow_heap _ _ _ _ _ _ q7]
  have hsz:((pre++news.toArray)++(rest.toList.drop news.length).toArray).size=cap2 * i2.size:=by
   rw [← q8];simp only [Array.size_append,WY,VF,Wn];omega
  have hMn:g.M b2=none:=by
   cases hm:g.M b2 with
   | none=>rfl
   | some ee=>
    have:=h.M b2 ee.1 ee.2 hm;rw [q7] at this;cases this
  have i1:Inv T A g (st.put k (.row m e i2.size cs)) (w.setRow b2 ((pre++news.toArray)++(rest.toList.drop news.length).toArray).toList.toArray):=h.write hk hat0 _ (setRow_size _ _ _) (fun _ hb=>fw _ _ _ hb)
   (fun j u hu=>by rw [q9 j] at hu;cases hu) hMn (fun b' hb'=>CG q1 q2 hb')
   ⟨loc2,b2,cap2,i2,pre,news.toArray++(rest.toList.drop news.length).toArray,q1,q2,q3,q4,q5,q6,by rw [← Array.append_assoc];exact hheap,by rw [← Array.append_assoc];exact hsz,q9,rfl,q11,q12,q13⟩
  have kp1:Kp A g w g (w.setRow b2 ((pre++news.toArray)++(rest.toList.drop news.length).toArray).toList.toArray):=Kp.write (h.own k _ b2 hk hat0 hro) (setRow_size _ _ _) (fun _ hb=>fw _ _ _ hb);have hk':(st.put k (.row m e i2.size cs)).get k= .ok (.row m e i2.size cs):=St.aS (St.cC.1 hk).1;have hle:Le g ((g.ch b2 0 []).cN k (.tok fun u=>if u=m+n then some (b2,cap2) else loc2 u)):=by
   refine (Le.ch fun o' _ _=>q9 o').trans ⟨fun _ _ _ x=>x,fun _ _ x=>x,fun j b x=> ?_,fun j l x=> ?_⟩
   ·have:j≠k:=fun e=>by subst e;have:=q1.symm.trans x;cases this
    rw [Gh.bF _ _ this];exact x
   ·by_cases hj:j=k
    ·subst hj;have x':g.E j=some (.tok l):=x;have:=q1.symm.trans x';simp only [Vt,mc.tok.injEq] at this;subst this;exact ⟨_,Gh.aL _ _ _,fun u y hy=>by
      by_cases hu:u=m+n
      ·have:=q3 u (by omega);rw [this] at hy;cases hy
      ·rw [if_neg hu];exact hy⟩
    ·exact ⟨l,by rw [Gh.bF _ _ hj];exact x,fun _ _ y=>y⟩
  obtain ⟨i2',kp2⟩:=i1.yp (o1:= .row (m+n) e i2.size (cs++flat els)) (loc':=fun u=>if u=m+n then some (b2,cap2) else loc2 u) b2 0 [] hk' q1
   (fun u y hy=>by
    by_cases hu:u=m+n
    ·have:=q3 u (by omega);rw [this] at hy;cases hy
    ·rw [if_neg hu];exact hy) (fun o _ _=>q9 o) (fun j v hv=>by simp at hv)
   (fun id o' hid hne ha=>by
    rw [St.aW (fun e=>hne e.symm)] at hid;exact hne (h.D id k o' _ b2 hid hk ha hat0)) (h.own k _ b2 hk hat0 hro)
   (fun b' hb'=>CG (Gh.aL _ _ _) (by simp;rfl) hb')
   ⟨_,b2,cap2,i2,pre++news.toArray,(rest.toList.drop news.length).toArray,Gh.aL _ _ _,by simp,fun u hu=>by rw [if_neg (by omega)];exact q3 u (by omega),q4,q5,hcp,hheap,hsz,fun o=>by
     show (g.ch b2 0 []).F b2 o=none;rw [Gh.cq _ _ _ _ (by simp)];exact q9 o,rfl,by
     rw [Array.toList_append,List.toList_toArray];exact dI hle _ _ (dN q11 hr),by
     intro u hu;rw [Array.toList_append,List.toList_toArray] at hu;rcases VE.1 hu with hu | hu
     ·exact q12 u hu
     ·exact ho u hu,hcl⟩
  have hput:(st.put k (.row m e i2.size cs)).put k (.row (m+n) e i2.size (cs++flat els))=st.put k (.row (m+n) e i2.size (cs++flat els)):=by
   simp only [St.put,Tr.put,Tr.set_set]
  rw [hput] at i2';refine ⟨_,_,_,hrun, ?_,i2',kp1.trans kp2⟩;simp only [R];exact ⟨_,b2,cap2,Gh.aL _ _ _,by simp,rfl,hcp,q5⟩
 ·-- in a new array
  have hadd: ∀w':World,(∀b o,w'.cell? ⟨b,o,none⟩=w.cell? ⟨b,o,none⟩)→(Builtin.firstCells i2.size m (.slice (some ⟨b2,0,none⟩) m cap2)).run P w'= .ok pre w':=fun w' hw'=>by
   have:=run_firstCells_some (P:=P) w' i2.size m ⟨b2,0,none⟩ m cap2 pre.toList hpl' (fun j v hv=>by
    rw [Addr.eB,hw',VC];exact jh q7 (by simpa using hv))
   simpa using this
  have hs:Src P i2.size (.slice (some ⟨b2,0,none⟩) m cap2) m pre.toList w:=⟨by simp [Builtin.lenOf],by simpa using hadd w fun _ _=>rfl,by simpa using hadd w.drew fun _ _=>rfl,hpl'⟩;have hg:cap2 < m+n:=by omega
  have hfit:Builtin.nextslicecap (m+n) cap2 * f.bytes≤281474976710656:=growslice_fits hg (by rw [f3];omega);have hrun:=lX (ty:=ty) he.t d1 d2 f1 f4 (by rw [f2];exact hs) (by rw [f2];exact hx) hg (by omega) hfit;have hge:=grownCap_ge (w:=w) (n:=m+n) (c:=cap2) (e:=e);generalize grownCap w (m+n) cap2 e=cap3 at hrun hge;have hw:pre.toList.toArray++news.toArray++Builtin.zeroCells z.cells (cap3 - (m+n))=(pre.toList++news++(Builtin.zeroCells z.cells (cap3 - (m+n))).toList).toArray:=by
   apply Array.ext';simp [Vx]
  rw [hw] at hrun;have hrl:(pre.toList++news).length+(Builtin.zeroCells z.cells (cap3 - (m+n))).toList.length=cap3 * i2.size:=by
   rw [Vg,eW,f5,hpl',hnl, ← Nat.add_mul, ← Nat.add_mul];congr 1;omega
  generalize (Builtin.zeroCells z.cells (cap3 - (m+n))).toList=rest3 at hrun hrl;have hd:=h.drew;have i1:Inv T A g st (w.drew.alloc (.cells (pre.toList++news++rest3).toArray e)):=hd.alloc _;have kp1:Kp A g w g (w.drew.alloc (.cells (pre.toList++news++rest3).toArray e)):=(Kp.drew A g w).trans (Kp.alloc _ hd);have hheap:(w.drew.alloc (.cells (pre.toList++news++rest3).toArray e)).heap[w.heap.size]? =some (.cells ((pre.toList++news).toArray++rest3.toArray) e (0,0)):=by
   have:=World.heap_alloc_new (w:=w.drew) (o:= .cells (pre.toList++news++rest3).toArray e);rw [show (pre.toList++news).toArray++rest3.toArray=(pre.toList++news++rest3).toArray by simp];exact this
  have hFn: ∀o,g.F w.heap.size o=none:=fun o=>h.js (Vn _) o;have hle:Le g ((g.ch w.heap.size 0 []).cN k (.tok fun u=>if u=m+n then some (w.heap.size,cap3) else loc2 u)):=by
   refine (Le.ch fun o' _ _=>hFn o').trans ⟨fun _ _ _ x=>x,fun _ _ x=>x,fun j b x=> ?_,fun j l x=> ?_⟩
   ·have:j≠k:=fun e=>by subst e;have:=q1.symm.trans x;cases this
    rw [Gh.bF _ _ this];exact x
   ·by_cases hj:j=k
    ·subst hj;have x':g.E j=some (.tok l):=x;have:=q1.symm.trans x';simp only [Vt,mc.tok.injEq] at this;subst this;exact ⟨_,Gh.aL _ _ _,fun u y hy=>by
      by_cases hu:u=m+n
      ·have:=q3 u (by omega);rw [this] at hy;cases hy
      ·rw [if_neg hu];exact hy⟩
    ·exact ⟨l,by rw [Gh.bF _ _ hj];exact x,fun _ _ y=>y⟩
  obtain ⟨i2',kp2⟩:=i1.yp (o1:= .row (m+n) e i2.size (cs++flat els)) (loc':=fun u=>if u=m+n then some (w.heap.size,cap3) else loc2 u) w.heap.size 0 [] hk q1
   (fun u y hy=>by
    by_cases hu:u=m+n
    ·have:=q3 u (by omega);rw [this] at hy;cases hy
    ·rw [if_neg hu];exact hy) (fun o _ _=>hFn o) (fun j v hv=>by simp at hv)
   (fun id o' hid _=>h.gm (Vn _) id o' hid) (h.up _ (Vn _))
   (fun b' hb'=>CG (Gh.aL _ _ _) (by simp;rfl) hb')
   ⟨_,w.heap.size,cap3,i2,(pre.toList++news).toArray,rest3.toArray,Gh.aL _ _ _,by simp,fun u hu=>by rw [if_neg (by omega)];exact q3 u (by omega),q4,q5,hge,hheap,by
     simp only [Array.size_append,WY];exact hrl,fun o=>by
     show (g.ch w.heap.size 0 []).F w.heap.size o=none;rw [Gh.cq _ _ _ _ (by simp)];exact hFn o,rfl,by
     rw [List.toList_toArray];exact dI hle _ _ (dN q11 hr),by
     intro u hu;rw [List.toList_toArray] at hu;rcases VE.1 hu with hu | hu
     ·exact q12 u hu
     ·exact ho u hu,hcl⟩
  refine ⟨_,_,_,hrun, ?_,i2',kp1.trans kp2⟩;simp only [R];exact ⟨_,w.heap.size,cap3,Gh.aL _ _ _,by simp,rfl,hge,q5⟩
theorem vR {C:cX} {t xt ty e:TypeId} {i:TI} (he:tq P T t xt e i) {s x r:AV} {sv xv:Value} {new:List AV} {p:dF} {fx:Fx} (hev:og x=some new)
  (hp:oe i e s new= .ok p) (hrun:aC C st p= .ok (r,fx)) (hs:R g s sv) (hx:R g x xv) (h:Inv T A g st w):
  ba P T A g w r (fx.did.app st) (Builtin.append_ #[t,xt] ty #[sv,xv]):=by
 unfold oe at hp;split at hp
 ·cases hp
 ·rename_i v l;simp only [ae] at hp;obtain ⟨new',hf,hp⟩:=hp;split at hp
  ·cases hp
  ·rename_i hall;have hc:=wC hall;obtain ⟨news,s1,s2,s3,s4,s5⟩:=qQ (P:=P) hx hev hf hc (by simp) h;have hpos:0 < new'.length:=by rw [s5];simp
   split at hp
   ·split at hp
    ·rename_i hroom;simp only [Vi] at hp;subst hp;simp only [aC,Vi,Vk] at hrun;obtain ⟨rfl,rfl⟩:=hrun;simp only [R] at hs;subst hs;exact NU he s1 hpos hroom h s2 s4
    ·cases hp
   ·rename_i k z n;split at hp
    ·rename_i hroom;simp only [Vl] at hroom;obtain ⟨hroom,hzz⟩:=hroom;have hzz:=Vq hzz;subst hzz;simp only [Vi] at hp;subst hp;simp only [aC,ae,ak] at hrun;obtain ⟨ob,h1,⟨v',o'⟩,h2,dd,h5,h6⟩:=hrun;split at h2
     ·rename_i m e' z' cs;split at h2
      ·rename_i hcond;simp only [Vl] at hcond;have hm:=Vq hcond.1;have he':=Vq hcond.2.1;have hz':=Vq hcond.2.2;subst hm he' hz';cases h2;simp only [ej] at h5;split at h5
       ·cases h5
       ·rename_i hro;cases h5;cases h6;rw [cP] at hro;simp only [R] at hs;obtain ⟨loc,b,cap,hE,hl,rfl,hcap,hz1⟩:=hs;exact NS he h1 (by omega) hE hl s1 hpos hroom s2 s4 h
      ·cases h2
     ·cases h2
    ·cases hp
   ·cases hp
end
end Go.VM
