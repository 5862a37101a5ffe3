/-
  A part of the proof.
-/
import Derived.Test.YtkbkbndajpbcjaaGreatDoorVmCA
import Derived.DataShut
set_option linter.all false
namespace Go.VM
open Go.RowKit Go.ChangeShapes
section
variable {H:Type} {enc:Td×Value->H} {P:Program} {W W':World} {sp:Nat->Bool} {held:Bool} {S:List Td}
theorem ML (c:Below W.heap.size W W') {a:Addr} {v:Value} (h:W.cell? a=some v):W'.cell? a=some v:=by
 have b:a.block < W.heap.size:=by
  unfold World.cell? at h;split at h
  .rename_i e;exact (ab0.1 e).1
  .cases h
 unfold World.cell?
 rw [c.block _ b];exact h
theorem IE (b:Below W.heap.size W W') {a:Addr} {n:Nat} {cs:List Value} (h:W.cells? 0 a n=some cs):W'.cells? 0 a n=some cs:=by
 obtain ⟨h1,c,d⟩:=World.cells?_some h;refine World.cells?_of_each h1 c fun i hi=> ?_;have:=d i hi;rw [aav (by omega)] at this ⊢;exact ML b this
theorem Ab {n:Nat} (ih: ∀t cs d ps,Fu S t=true->DataW.trod enc P W 0 (fun _=>true) held n t cs=some (d,ps)->(∀p∈ps,sp p.block=true)->DataW.trod enc P W' 0 sp held n t cs=some (d,ps)):
  ∀(fs:List Field) (cs:List Value) (xs:List (DataW H×List MemPlace)),(fs.all fun f=>Fu S f.type)=true->
   (fs.mapM fun f=>DataW.trod enc P W 0 (fun _=>true) held n f.type ((cs.drop f.offset).take (P.cellsOf f.type)))=some xs->(∀p∈xs.flatMap (·.2),sp p.block=true)->
   (fs.mapM fun f=>DataW.trod enc P W' 0 sp held n f.type ((cs.drop f.offset).take (P.cellsOf f.type)))=some xs
 | [],cs,xs,_,h,_=>by simpa using h
 | f::fs,cs,xs,a,h,hp=>by
  simp only [abI,aak] at a;simp only [List.mapM_cons,Option.bind_eq_bind,abq,Option.pure_def,aas] at h ⊢;obtain ⟨⟨d,ps⟩,h1,ys,b,rfl⟩:=h;simp only [aa4,aaC] at hp;exact ⟨(d,ps),ih _ _ _ _ a.1 h1 fun p hm=>hp p (.inl hm),ys,Ab ih fs cs ys a.2 b fun p hm=>hp p (.inr hm),rfl⟩
theorem uC (b:Below W.heap.size W W') {n:Nat} {e:Td} {a:Addr} (ih: ∀cs d ps,DataW.trod enc P W 0 (fun _=>true) held n e cs=some (d,ps)->(∀p∈ps,sp p.block=true)->DataW.trod enc P W' 0 sp held n e cs=some (d,ps)) (off:Nat):
  ∀(l:Ln) (xs:List (DataW H×List MemPlace)),(l.mapM fun i=>(W.cells? 0 (a.add ((off+i) * P.cellsOf e)) (P.cellsOf e)).bind (DataW.trod enc P W 0 (fun _=>true) held n e))=some xs->(∀p∈xs.flatMap (·.2),sp p.block=true)->
   (l.mapM fun i=>(W'.cells? 0 (a.add ((off+i) * P.cellsOf e)) (P.cellsOf e)).bind (DataW.trod enc P W' 0 sp held n e))=some xs
 | [],xs,h,_=>by simpa using h
 | i::l,xs,h,hp=>by
  simp only [List.mapM_cons,Option.bind_eq_bind,abq,Option.pure_def,aas] at h ⊢;obtain ⟨⟨d,ps⟩,⟨cs,h0,h1⟩,ys,c,rfl⟩:=h;simp only [aa4,aaC] at hp;exact ⟨(d,ps),⟨cs,IE b h0,ih _ _ _ h1 fun p hm=>hp p (.inl hm)⟩,ys,uC b ih off l ys c fun p hm=>hp p (.inr hm),rfl⟩
theorem xa (l:Below W.heap.size W W') (m: ∀t,Fu S t=true->D2 P S t=true): ∀(n:Nat) (t:Td) (cs:List Value) (d:DataW H) (ps:List MemPlace),Fu S t=true->
  DataW.trod enc P W 0 (fun _=>true) held n t cs=some (d,ps)->(∀p∈ps,sp p.block=true)->DataW.trod enc P W' 0 sp held n t cs=some (d,ps)
 | 0,_,_,_,_,_,h,_=>by simp [DataW.trod] at h
 | n+1,t,cs,d,ps,o,h,hp=>by
  have b:=m t o;unfold D2 at b;simp only [DataW.trod] at h ⊢;split at h
  .exact h
  .exact h
  .rename_i f;rw [f] at b;cases b
  .exact h
  .rename_i f;rw [f] at b;cases b
  .rename_i f;rw [f] at b;cases b
  .exact h
  .rename_i e a len cap f;rw [f] at b;simp only [aak] at b;obtain ⟨y,he,q⟩:=b;have q:=aah q;split at h
   .rename_i x;rw [if_pos x];simp only [abq,aaN] at h ⊢;obtain ⟨elems,r,rest,c,g⟩:=h;simp only [aaj] at g;obtain ⟨s,i⟩:=g;have j: ∀p∈(elems++rest).flatMap (·.2),sp p.block=true:=fun p hm=>hp p (by rw [<- i];exact aaC.2 (.inr hm));simp only [List.flatMap_append,aaC] at j;have ih:=fun cs d ps=>xa l m n e cs d ps he;have h1:=uC (sp:=sp) (W':=W') l (e:=e) (a:=a) ih 0 (List.range len) elems (by simpa using r) (fun p hm=>j p (.inl hm));refine ⟨elems,by simpa using h1,rest, ?_,by rw [<- s, <- i]⟩;rw [if_pos trivial] at c;by_cases k:cap - len=0
    .rw [k] at c ⊢;have:rest=[]:=by simpa using c.symm
     subst this;split <;> simp
    .have u:sp a.block=true:=by
      have v:=mapM_some_length c;rw [List.length_range] at v;refine hp (.cell a.block (a.off+0)) ?_;rw [<- i];refine aaC.2 (.inl ?_);unfold MemPlace.row;refine aa8.2 ⟨0,List.mem_range.2 ?_,rfl⟩;exact Nat.mul_pos (by omega) q
     rw [u,if_pos rfl];exact uC (sp:=sp) (W':=W') l (e:=e) (a:=a) ih len _ rest c (fun p hm=>j p (.inr hm))
   .cases h
  .rename_i _ fs f;rw [f] at b;simp only [aak] at b;split at h
   .rename_i hl;rw [if_pos hl];simp only [aaN] at h ⊢;obtain ⟨xs,w,g⟩:=h;simp only [aaj] at g;refine ⟨xs,Ab (xa l m n) fs.toList _ xs b.1 w fun p hm=>hp p (by rw [<- g.2];exact hm),by rw [<- g.1, <- g.2]⟩
   .cases h
  all_goals first | (cases h;done) | skip
  all_goals (rename_i f;first | (rw [f] at b;cases b;done) | skip)
theorem wy (b:Below W.heap.size W W') (c: ∀t,Fu S t=true->D2 P S t=true): ∀{ts:List Td} {vs:List Value} {ds:List (DataW H)} {ps:List MemPlace},(ts.all fun t=>Fu S t)=true->
  DataW.TrodAll enc P W 0 (fun _=>true) held ts vs ds ps->(∀p∈ps,sp p.block=true)->DataW.TrodAll enc P W' 0 sp held ts vs ds ps
 | [],[],[],ps,_,h,_=>h
 | t::ts,v::vs,d::ds,ps,a,h,hp=>by
  simp only [abI,aak] at a;obtain ⟨p,q,⟨fuel,h1⟩,e,rfl⟩:=h;exact ⟨p,q,⟨fuel,xa b c fuel t _ d p a.1 h1 fun x hx=>hp x (aaC.2 (.inl hx))⟩,wy b c a.2 e fun x hx=>hp x (aaC.2 (.inr hx)),rfl⟩
 | [],_:: _,_,_,_,h,_ | [],[],_:: _,_,_,h,_ | _:: _,[],_,_,_,h,_ | _:: _,_:: _,[],_,_,h,_=>by simp [DataW.TrodAll] at h
end
section
variable {H:Type} {enc:Td×Value->H} {P:Program} {w:World} {held:Bool} {S:List Td}
theorem Pg (q: ∀t,Fu S t=true->D2 P S t=true) {t:Td} {v:Value} {d:DataW H} {p:List MemPlace} {r:Reach} {base:Nat} (l:Fu S t=true) (f:Value.okWide P w r base t v)
  (h:DataW.Trod enc P w 0 (fun _=>true) held t v d p): ∃n as,pw P n t as/\R (mX w) (HT (fS P t) as) v/\VM.bare (HT (fS P t) as)=true/\strip (HT (fS P t) as)=HT (fS P t) as:=by
 obtain ⟨n,h⟩:=h;obtain ⟨as,hA,i⟩:=PD (fun _=>rfl) q n t _ d p l h;have g:=G5 (agg:=fS P t) i.bare i.agg;have c:=q t l;unfold D2 at c;unfold Value.okWide at f;have one:fS P t=false->(∀cs,v≠ .agg cs)-> ∃n as,pw P n t as/\R (mX w) (HT (fS P t) as) v/\VM.bare (HT (fS P t) as)=true/\strip (HT (fS P t) as)=HT (fS P t) as:=by
  intro b o;have s:v.cells.toList=[v]:=by
   cases v <;> first | rfl | exact absurd rfl (o _)
  have hl:=i.agg b
  match as,hl,hA,i,g with
  | [a],_,hA,i,g=>
   refine ⟨n,[a],hA, ?_,g, ?_⟩
   .have m:=i.rel;rw [s] at m;obtain ⟨x,xs,e,m,_⟩:=m;cases e;rw [b];exact m
   .rw [b] at g ⊢;show strip a=a;have g:VM.bare a=true:=g;cases a with
    | sl z e pm=>cases pm with
     | own k=>cases g
     | _=>rfl
    | _=>rfl
 split at f
 .rename_i fs j;obtain ⟨cs,rfl,_,_⟩:=f;have b:fS P t=true:=by simp [fS,j]
  refine ⟨n,as,hA, ?_,g, ?_⟩
  .rw [b];simp only [HT,R];exact ⟨cs,rfl,i.rel⟩
  .rw [b];rfl
 .rename_i j;rw [j] at c;cases c
 .rename_i h1 u;have b:fS P t=false:=by
   unfold fS;split
   .rename_i fs j;exact absurd j (h1 fs)
   .rfl
  refine one b ?_;rintro cs rfl;unfold Cell.okWide at f;split at f
  all_goals first
   | (rename_i j;rw [j] at c;cases c;done)
   | (rename_i hx;cases hx;done)
   | skip
  all_goals (unfold Cell.ok at f;split at f)
  all_goals first
   | (cases f;done)
   | (rename_i hx;cases hx;done)
   | skip
end
theorem yD {H:Type} {enc:Td×Value->H} {P:Program} {w:World} {b:Nat} {sp:Nat->Bool} {held:Bool} {t:Td} {ts:List Td} {vs:List Value} {ds:List (DataW H)} {ps:List MemPlace} (h:DataW.TrodAll enc P w b sp held (t::ts) vs ds ps):
  ∃v vs' d a p q,vs=v::vs'/\ds=d::a/\DataW.Trod enc P w b sp held t v d p/\DataW.TrodAll enc P w b sp held ts vs' a q/\ps=p++q:=by
 match vs,ds,h with
 | v::vs',d::a,h=>
  obtain ⟨p,q,h1,c,rfl⟩:=h;exact ⟨v,vs',d,a,p,q,rfl,rfl,h1,c,rfl⟩
theorem Ps {P:Program} {E:Env} (hE:Gw P E) {f:FuncId} {args:LA} (hrun:(aQ E).bare f args=some (.bool true))
  (a: ∀args w,(callFunc f args).run P w= .ok (.enter f args) w) {w:World} (c:vR E.G w) {xs:Array Value} (d:bH args=true) (h:RL (mX w) args xs.toList):
  Calls P f xs w fun e w'=>e= .returned (.bool true)/\Below w.heap.size w w':=by
 obtain ⟨m,hm⟩:=(HZ E).bare _ _ _ hrun;refine (JC hE (hm m (aal _)) a c d h).mono ?_;rintro e w' ⟨x,g,rfl,hx,b⟩;simp only [R] at hx;subst hx;exact ⟨rfl,b⟩
end Go.VM
