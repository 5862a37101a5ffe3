/-
  A part of the proof.
-/
import Derived.Test.YtpinfliihpdjcaaGreatDoorVmBI
import Derived.DataShut
set_option linter.all false
namespace Go.VM
open Go.RowKit Go.ChangeShapes
section
variable {H:Type} {enc:TypeId×Value->H} {P:Program} {W W':World} {sp:Nat->Bool} {held:Bool} {S:List TypeId}
theorem B7 (hB:Below W.heap.size W W') {a:Addr} {v:Value} (h:W.cell? a=some v):W'.cell? a=some v:=by
 have b:a.block < W.heap.size:=by
  unfold World.cell? at h;split at h
  .rename_i e;exact (Array.getElem?_eq_some_iff.1 e).1
  .cases h
 unfold World.cell?
 rw [hB.block _ b];exact h
theorem AP (hB:Below W.heap.size W W') {a:Addr} {n:Nat} {cs:List Value} (h:W.cells? 0 a n=some cs):W'.cells? 0 a n=some cs:=by
 obtain ⟨h1,b,c⟩:=World.cells?_some h;refine World.cells?_of_each h1 b fun i hi=> ?_;have:=c i hi;rw [Oj (by omega)] at this ⊢;exact B7 hB this
theorem sj {n:Nat} (ih: ∀t cs d ps,xY S t=true->DataW.trod enc P W 0 (fun _=>true) held n t cs=some (d,ps)->(∀p∈ps,sp p.block=true)->DataW.trod enc P W' 0 sp held n t cs=some (d,ps)):
  ∀(fs:List Field) (cs:List Value) (xs:List (DataW H×List MemPlace)),(fs.all fun f=>xY S f.type)=true->
   (fs.mapM fun f=>DataW.trod enc P W 0 (fun _=>true) held n f.type ((cs.drop f.offset).take (P.cellsOf f.type)))=some xs->(∀p∈xs.flatMap (·.2),sp p.block=true)->
   (fs.mapM fun f=>DataW.trod enc P W' 0 sp held n f.type ((cs.drop f.offset).take (P.cellsOf f.type)))=some xs
 | [],cs,xs,_,h,_=>by simpa using h
 | f::fs,cs,xs,a,h,b=>by
  simp only [Pm,N0] at a;simp only [List.mapM_cons,Option.bind_eq_bind,OB,Option.pure_def,N1] at h ⊢;obtain ⟨⟨d,ps⟩,h1,ys,e,rfl⟩:=h;simp only [List.flatMap_cons,N9] at b;exact ⟨(d,ps),ih _ _ _ _ a.1 h1 fun p c=>b p (.inl c),ys,sj ih fs cs ys a.2 e fun p c=>b p (.inr c),rfl⟩
theorem nI (hB:Below W.heap.size W W') {n:Nat} {e:TypeId} {a:Addr} (ih: ∀cs d ps,DataW.trod enc P W 0 (fun _=>true) held n e cs=some (d,ps)->(∀p∈ps,sp p.block=true)->DataW.trod enc P W' 0 sp held n e cs=some (d,ps)) (off:Nat):
  ∀(l:List Nat) (xs:List (DataW H×List MemPlace)),(l.mapM fun i=>(W.cells? 0 (a.add ((off+i) * P.cellsOf e)) (P.cellsOf e)).bind (DataW.trod enc P W 0 (fun _=>true) held n e))=some xs->(∀p∈xs.flatMap (·.2),sp p.block=true)->
   (l.mapM fun i=>(W'.cells? 0 (a.add ((off+i) * P.cellsOf e)) (P.cellsOf e)).bind (DataW.trod enc P W' 0 sp held n e))=some xs
 | [],xs,h,_=>by simpa using h
 | i::l,xs,h,b=>by
  simp only [List.mapM_cons,Option.bind_eq_bind,OB,Option.pure_def,N1] at h ⊢;obtain ⟨⟨d,ps⟩,⟨cs,h0,h1⟩,ys,f,rfl⟩:=h;simp only [List.flatMap_cons,N9] at b;exact ⟨(d,ps),⟨cs,AP hB h0,ih _ _ _ h1 fun p c=>b p (.inl c)⟩,ys,nI hB ih off l ys f fun p c=>b p (.inr c),rfl⟩
theorem pP (hB:Below W.heap.size W W') (hS: ∀t,xY S t=true->wH P S t=true): ∀(n:Nat) (t:TypeId) (cs:List Value) (d:DataW H) (ps:List MemPlace),xY S t=true->
  DataW.trod enc P W 0 (fun _=>true) held n t cs=some (d,ps)->(∀p∈ps,sp p.block=true)->DataW.trod enc P W' 0 sp held n t cs=some (d,ps)
 | 0,_,_,_,_,_,h,_=>by simp [DataW.trod] at h
 | n+1,t,cs,d,ps,k,h,l=>by
  have b:=hS t k;unfold wH at b;simp only [DataW.trod] at h ⊢;split at h
  .exact h
  .exact h
  .rename_i f;rw [f] at b;cases b
  .exact h
  .rename_i f;rw [f] at b;cases b
  .rename_i f;rw [f] at b;cases b
  .exact h
  .rename_i e a len cap f;rw [f] at b;simp only [N0] at b;obtain ⟨x,v,m⟩:=b;have m:=N4 m;split at h
   .rename_i w;rw [if_pos w];simp only [OB,OD] at h ⊢;obtain ⟨elems,o,rest,c,hd⟩:=h;simp only [NU] at hd;obtain ⟨q,g⟩:=hd;have i: ∀p∈(elems++rest).flatMap (·.2),sp p.block=true:=fun p j=>l p (by rw [<- g];exact N9.2 (.inr j));simp only [List.flatMap_append,N9] at i;have ih:=fun cs d ps=>pP hB hS n e cs d ps v;have h1:=nI (sp:=sp) (W':=W') hB (e:=e) (a:=a) ih 0 (List.range len) elems (by simpa using o) (fun p j=>i p (.inl j));refine ⟨elems,by simpa using h1,rest, ?_,by rw [<- q, <- g]⟩;rw [if_pos trivial] at c;by_cases hcap:cap - len=0
    .rw [hcap] at c ⊢;have:rest=[]:=by simpa using c.symm
     subst this;split <;> simp
    .have r:sp a.block=true:=by
      have s:=mapM_some_length c;rw [List.length_range] at s;refine l (.cell a.block (a.off+0)) ?_;rw [<- g];refine N9.2 (.inl ?_);unfold MemPlace.row;refine OQ.2 ⟨0,List.mem_range.2 ?_,rfl⟩;exact Nat.mul_pos (by omega) m
     rw [r,if_pos rfl];exact nI (sp:=sp) (W':=W') hB (e:=e) (a:=a) ih len _ rest c (fun p j=>i p (.inr j))
   .cases h
  .rename_i _ fs f;rw [f] at b;simp only [N0] at b;split at h
   .rename_i hl;rw [if_pos hl];simp only [OD] at h ⊢;obtain ⟨xs,u,hd⟩:=h;simp only [NU] at hd;refine ⟨xs,sj (pP hB hS n) fs.toList _ xs b.1 u fun p j=>l p (by rw [<- hd.2];exact j),by rw [<- hd.1, <- hd.2]⟩
   .cases h
  all_goals first | (cases h;done) | skip
  all_goals (rename_i f;first | (rw [f] at b;cases b;done) | skip)
theorem oF (hB:Below W.heap.size W W') (hS: ∀t,xY S t=true->wH P S t=true): ∀{ts:List TypeId} {vs:List Value} {ds:List (DataW H)} {ps:List MemPlace},(ts.all fun t=>xY S t)=true->
  DataW.TrodAll enc P W 0 (fun _=>true) held ts vs ds ps->(∀p∈ps,sp p.block=true)->DataW.TrodAll enc P W' 0 sp held ts vs ds ps
 | [],[],[],ps,_,h,_=>h
 | t::ts,v::vs,d::ds,ps,a,h,c=>by
  simp only [Pm,N0] at a;obtain ⟨p,q,⟨fuel,h1⟩,e,rfl⟩:=h;exact ⟨p,q,⟨fuel,pP hB hS fuel t _ d p a.1 h1 fun x b=>c x (N9.2 (.inl b))⟩,oF hB hS a.2 e fun x b=>c x (N9.2 (.inr b)),rfl⟩
 | [],_:: _,_,_,_,h,_ | [],[],_:: _,_,_,h,_ | _:: _,[],_,_,_,h,_ | _:: _,_:: _,[],_,_,h,_=>by simp [DataW.TrodAll] at h
end
section
variable {H:Type} {enc:TypeId×Value->H} {P:Program} {w:World} {held:Bool} {S:List TypeId}
theorem Jf (hS: ∀t,xY S t=true->wH P S t=true) {t:TypeId} {v:Value} {d:DataW H} {p:List MemPlace} {r:Reach} {base:Nat} (l:xY S t=true) (f:Value.okWide P w r base t v)
  (h:DataW.Trod enc P w 0 (fun _=>true) held t v d p): ∃n as,lx P n t as/\R (eB w) (AJ (fV P t) as) v/\VM.bare (AJ (fV P t) as)=true/\strip (AJ (fV P t) as)=AJ (fV P t) as:=by
 obtain ⟨n,h⟩:=h;obtain ⟨as,hA,i⟩:=Es (fun _=>rfl) hS n t _ d p l h;have g:=xq (agg:=fV P t) i.bare i.agg;have c:=hS t l;unfold wH at c;unfold Value.okWide at f;have one:fV P t=false->(∀cs,v≠ .agg cs)-> ∃n as,lx P n t as/\R (eB w) (AJ (fV P t) as) v/\VM.bare (AJ (fV P t) as)=true/\strip (AJ (fV P t) as)=AJ (fV P t) as:=by
  intro b o;have s:v.cells.toList=[v]:=by
   cases v <;> first | rfl | exact absurd rfl (o _)
  have hl:=i.agg b
  match as,hl,hA,i,g with
  | [a],_,hA,i,g=>
   refine ⟨n,[a],hA, ?_,g, ?_⟩
   .have m:=i.rel;rw [s] at m;obtain ⟨x,xs,e,m,_⟩:=m;cases e;rw [b];exact m
   .rw [b] at g ⊢;show strip a=a;have g:VM.bare a=true:=g;cases a with
    | sl z e pm=>cases pm with
     | own k=>cases g
     | _=>rfl
    | _=>rfl
 split at f
 .rename_i fs j;obtain ⟨cs,rfl,_,_⟩:=f;have b:fV P t=true:=by simp [fV,j]
  refine ⟨n,as,hA, ?_,g, ?_⟩
  .rw [b];simp only [AJ,R];exact ⟨cs,rfl,i.rel⟩
  .rw [b];rfl
 .rename_i j;rw [j] at c;cases c
 .rename_i h1 u;have b:fV P t=false:=by
   unfold fV;split
   .rename_i fs j;exact absurd j (h1 fs)
   .rfl
  refine one b ?_;rintro cs rfl;unfold Cell.okWide at f;split at f
  all_goals first
   | (rename_i j;rw [j] at c;cases c;done)
   | (rename_i q;cases q;done)
   | skip
  all_goals (unfold Cell.ok at f;split at f)
  all_goals first
   | (cases f;done)
   | (rename_i q;cases q;done)
   | skip
end
theorem xL {H:Type} {enc:TypeId×Value->H} {P:Program} {w:World} {b:Nat} {sp:Nat->Bool} {held:Bool} {t:TypeId} {ts:List TypeId} {vs:List Value} {ds:List (DataW H)} {ps:List MemPlace} (h:DataW.TrodAll enc P w b sp held (t::ts) vs ds ps):
  ∃v vs' d a p q,vs=v::vs'/\ds=d::a/\DataW.Trod enc P w b sp held t v d p/\DataW.TrodAll enc P w b sp held ts vs' a q/\ps=p++q:=by
 match vs,ds,h with
 | v::vs',d::a,h=>
  obtain ⟨p,q,h1,c,rfl⟩:=h;exact ⟨v,vs',d,a,p,q,rfl,rfl,h1,c,rfl⟩
theorem yY {P:Program} {E:Env} (h:uF P E) {f:FuncId} {args:List AV} (b:(bc E).bare f args=some (.bool true))
  (a: ∀args w,(callFunc f args).run P w= .ok (.enter f args) w) {w:World} (hG:ca E.G w) {xs:Array Value} (i:bx args=true) (j:RL (eB w) args xs.toList):
  Calls P f xs w fun e w'=>e= .returned (.bool true)/\Below w.heap.size w w':=by
 obtain ⟨m,k⟩:=(tm E).bare _ _ _ b;refine (rD h (k m (NX _)) a hG i j).mono ?_;rintro e w' ⟨x,g,rfl,d,c⟩;simp only [R] at d;subst d;exact ⟨rfl,c⟩
end Go.VM
