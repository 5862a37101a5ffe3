/-
  A part of the proof.
-/
import Derived.Test.YtkpeicabocpbkaaGreatDoorVmCA
import Derived.DataShut
set_option linter.all false
namespace Go.VM
open Go.RowKit Go.ChangeShapes
section
variable {H:Type} {enc:Td×Value->H} {P:Program} {W W':World} {sp:Nat->Bool} {held:Bool} {S:List Td}
theorem K1 (c:Below W.heap.size W W') {a:Addr} {v:Value} (h:W.cell? a=some v):W'.cell? a=some v:=by
 have b:a.block < W.heap.size:=by
  unfold World.cell? at h;split at h
  .rename_i e;exact (acm.1 e).1
  .cases h
 unfold World.cell?
 rw [c.block _ b];exact h
theorem Ii (b:Below W.heap.size W W') {a:Addr} {n:Nat} {cs:List Value} (h:W.cells? 0 a n=some cs):W'.cells? 0 a n=some cs:=by
 obtain ⟨h1,c,d⟩:=World.cells?_some h;refine World.cells?_of_each h1 c fun i hi=> ?_;have:=d i hi;rw [aax (by omega)] at this ⊢;exact K1 b this
theorem A9 {n:Nat} (ih: ∀t cs d ps,EV S t=true->DataW.trod enc P W 0 (fun _=>true) held n t cs=some (d,ps)->(∀p∈ps,sp p.block=true)->DataW.trod enc P W' 0 sp held n t cs=some (d,ps)):
  ∀(fs:List Field) (cs:List Value) (xs:List (DataW H×List MemPlace)),(fs.all fun f=>EV S f.type)=true->
   (fs.mapM fun f=>DataW.trod enc P W 0 (fun _=>true) held n f.type ((cs.drop f.offset).take (P.cellsOf f.type)))=some xs->(∀p∈xs.flatMap (·.2),sp p.block=true)->
   (fs.mapM fun f=>DataW.trod enc P W' 0 sp held n f.type ((cs.drop f.offset).take (P.cellsOf f.type)))=some xs
 | [],cs,xs,_,h,_=>by simpa using h
 | f::fs,cs,xs,a,h,b=>by
  simp only [abU,aaf] at a;simp only [List.mapM_cons,Option.bind_eq_bind,abH,Option.pure_def,aav] at h ⊢;obtain ⟨⟨d,ps⟩,h1,ys,c,rfl⟩:=h;simp only [abA,aaA] at b;exact ⟨(d,ps),ih _ _ _ _ a.1 h1 fun p hm=>b p (.inl hm),ys,A9 ih fs cs ys a.2 c fun p hm=>b p (.inr hm),rfl⟩
theorem sU (c:Below W.heap.size W W') {n:Nat} {e:Td} {a:Addr} (ih: ∀cs d ps,DataW.trod enc P W 0 (fun _=>true) held n e cs=some (d,ps)->(∀p∈ps,sp p.block=true)->DataW.trod enc P W' 0 sp held n e cs=some (d,ps)) (off:Nat):
  ∀(l:Ln) (xs:List (DataW H×List MemPlace)),(l.mapM fun i=>(W.cells? 0 (a.add ((off+i) * P.cellsOf e)) (P.cellsOf e)).bind (DataW.trod enc P W 0 (fun _=>true) held n e))=some xs->(∀p∈xs.flatMap (·.2),sp p.block=true)->
   (l.mapM fun i=>(W'.cells? 0 (a.add ((off+i) * P.cellsOf e)) (P.cellsOf e)).bind (DataW.trod enc P W' 0 sp held n e))=some xs
 | [],xs,h,_=>by simpa using h
 | i::l,xs,h,b=>by
  simp only [List.mapM_cons,Option.bind_eq_bind,abH,Option.pure_def,aav] at h ⊢;obtain ⟨⟨d,ps⟩,⟨cs,h0,h1⟩,ys,f,rfl⟩:=h;simp only [abA,aaA] at b;exact ⟨(d,ps),⟨cs,Ii c h0,ih _ _ _ h1 fun p hm=>b p (.inl hm)⟩,ys,sU c ih off l ys f fun p hm=>b p (.inr hm),rfl⟩
theorem wj (k:Below W.heap.size W W') (l: ∀t,EV S t=true->EE P S t=true): ∀(n:Nat) (t:Td) (cs:List Value) (d:DataW H) (ps:List MemPlace),EV S t=true->
  DataW.trod enc P W 0 (fun _=>true) held n t cs=some (d,ps)->(∀p∈ps,sp p.block=true)->DataW.trod enc P W' 0 sp held n t cs=some (d,ps)
 | 0,_,_,_,_,_,h,_=>by simp [DataW.trod] at h
 | n+1,t,cs,d,ps,m,h,o=>by
  have b:=l t m;unfold EE at b;simp only [DataW.trod] at h ⊢;split at h
  .exact h
  .exact h
  .rename_i f;rw [f] at b;cases b
  .exact h
  .rename_i f;rw [f] at b;cases b
  .rename_i f;rw [f] at b;cases b
  .exact h
  .rename_i e a len cap f;rw [f] at b;simp only [aaf] at b;obtain ⟨z,x,q⟩:=b;have q:=aaq q;split at h
   .rename_i y;rw [if_pos y];simp only [abH,aaF] at h ⊢;obtain ⟨elems,r,rest,c,hd⟩:=h;simp only [aag] at hd;obtain ⟨s,g⟩:=hd;have i: ∀p∈(elems++rest).flatMap (·.2),sp p.block=true:=fun p hm=>o p (by rw [<- g];exact aaA.2 (.inr hm));simp only [List.flatMap_append,aaA] at i;have ih:=fun cs d ps=>wj k l n e cs d ps x;have h1:=sU (sp:=sp) (W':=W') k (e:=e) (a:=a) ih 0 (List.range len) elems (by simpa using r) (fun p hm=>i p (.inl hm));refine ⟨elems,by simpa using h1,rest, ?_,by rw [<- s, <- g]⟩;rw [if_pos trivial] at c;by_cases j:cap - len=0
    .rw [j] at c ⊢;have:rest=[]:=by simpa using c.symm
     subst this;split <;> simp
    .have u:sp a.block=true:=by
      have v:=mapM_some_length c;rw [List.length_range] at v;refine o (.cell a.block (a.off+0)) ?_;rw [<- g];refine aaA.2 (.inl ?_);unfold MemPlace.row;refine abf.2 ⟨0,List.mem_range.2 ?_,rfl⟩;exact Nat.mul_pos (by omega) q
     rw [u,if_pos rfl];exact sU (sp:=sp) (W':=W') k (e:=e) (a:=a) ih len _ rest c (fun p hm=>i p (.inr hm))
   .cases h
  .rename_i _ fs f;rw [f] at b;simp only [aaf] at b;split at h
   .rename_i hl;rw [if_pos hl];simp only [aaF] at h ⊢;obtain ⟨xs,w,hd⟩:=h;simp only [aag] at hd;refine ⟨xs,A9 (wj k l n) fs.toList _ xs b.1 w fun p hm=>o p (by rw [<- hd.2];exact hm),by rw [<- hd.1, <- hd.2]⟩
   .cases h
  all_goals first | (cases h;done) | skip
  all_goals (rename_i f;first | (rw [f] at b;cases b;done) | skip)
theorem ua (b:Below W.heap.size W W') (c: ∀t,EV S t=true->EE P S t=true): ∀{ts:List Td} {vs:List Value} {ds:List (DataW H)} {ps:List MemPlace},(ts.all fun t=>EV S t)=true->
  DataW.TrodAll enc P W 0 (fun _=>true) held ts vs ds ps->(∀p∈ps,sp p.block=true)->DataW.TrodAll enc P W' 0 sp held ts vs ds ps
 | [],[],[],ps,_,h,_=>h
 | t::ts,v::vs,d::ds,ps,a,h,e=>by
  simp only [abU,aaf] at a;obtain ⟨p,q,⟨fuel,h1⟩,f,rfl⟩:=h;exact ⟨p,q,⟨fuel,wj b c fuel t _ d p a.1 h1 fun x hx=>e x (aaA.2 (.inl hx))⟩,ua b c a.2 f fun x hx=>e x (aaA.2 (.inr hx)),rfl⟩
 | [],_:: _,_,_,_,h,_ | [],[],_:: _,_,_,h,_ | _:: _,[],_,_,_,h,_ | _:: _,_:: _,[],_,_,h,_=>by simp [DataW.TrodAll] at h
end
section
variable {H:Type} {enc:Td×Value->H} {P:Program} {w:World} {held:Bool} {S:List Td}
theorem H6 (q: ∀t,EV S t=true->EE P S t=true) {t:Td} {v:Value} {d:DataW H} {p:List MemPlace} {r:Reach} {base:Nat} (l:EV S t=true) (f:Value.okWide P w r base t v)
  (h:DataW.Trod enc P w 0 (fun _=>true) held t v d p): ∃n as,na P n t as/\R (lf w) (Ir (fR P t) as) v/\VM.bare (Ir (fR P t) as)=true/\strip (Ir (fR P t) as)=Ir (fR P t) as:=by
 obtain ⟨n,h⟩:=h;obtain ⟨as,hA,i⟩:=N8 (fun _=>rfl) q n t _ d p l h;have g:=G5 (agg:=fR P t) i.bare i.agg;have c:=q t l;unfold EE at c;unfold Value.okWide at f;have one:fR P t=false->(∀cs,v≠ .agg cs)-> ∃n as,na P n t as/\R (lf w) (Ir (fR P t) as) v/\VM.bare (Ir (fR P t) as)=true/\strip (Ir (fR P t) as)=Ir (fR P t) as:=by
  intro b o;have s:v.cells.toList=[v]:=by
   cases v <;> first | rfl | exact absurd rfl (o _)
  have hl:=i.agg b
  match as,hl,hA,i,g with
  | [a],_,hA,i,g=>
   refine ⟨n,[a],hA, ?_,g, ?_⟩
   .have m:=i.rel;rw [s] at m;obtain ⟨x,xs,e,m,_⟩:=m;cases e;rw [b];exact m
   .rw [b] at g ⊢;show strip a=a;have g:VM.bare a=true:=g;cases a with
    | sl z e pm=>cases pm with
     | own k=>cases g
     | _=>rfl
    | _=>rfl
 split at f
 .rename_i fs j;obtain ⟨cs,rfl,_,_⟩:=f;have b:fR P t=true:=by simp [fR,j]
  refine ⟨n,as,hA, ?_,g, ?_⟩
  .rw [b];simp only [Ir,R];exact ⟨cs,rfl,i.rel⟩
  .rw [b];rfl
 .rename_i j;rw [j] at c;cases c
 .rename_i h1 u;have b:fR P t=false:=by
   unfold fR;split
   .rename_i fs j;exact absurd j (h1 fs)
   .rfl
  refine one b ?_;rintro cs rfl;unfold Cell.okWide at f;split at f
  all_goals first
   | (rename_i j;rw [j] at c;cases c;done)
   | (rename_i hx;cases hx;done)
   | skip
  all_goals (unfold Cell.ok at f;split at f)
  all_goals first
   | (cases f;done)
   | (rename_i hx;cases hx;done)
   | skip
end
theorem qi {H:Type} {enc:Td×Value->H} {P:Program} {w:World} {b:Nat} {sp:Nat->Bool} {held:Bool} {t:Td} {ts:List Td} {vs:List Value} {ds:List (DataW H)} {ps:List MemPlace} (h:DataW.TrodAll enc P w b sp held (t::ts) vs ds ps):
  ∃v vs' d a p q,vs=v::vs'/\ds=d::a/\DataW.Trod enc P w b sp held t v d p/\DataW.TrodAll enc P w b sp held ts vs' a q/\ps=p++q:=by
 match vs,ds,h with
 | v::vs',d::a,h=>
  obtain ⟨p,q,h1,c,rfl⟩:=h;exact ⟨v,vs',d,a,p,q,rfl,rfl,h1,c,rfl⟩
theorem Nr {P:Program} {E:Env} (hE:Hh P E) {f:FuncId} {args:LA} (hrun:(aY E).bare f args=some (.bool true))
  (a: ∀args w,(callFunc f args).run P w= .ok (.enter f args) w) {w:World} (c:uM E.G w) {xs:Array Value} (d:bN args=true) (h:RL (lf w) args xs.toList):
  Calls P f xs w fun e w'=>e= .returned (.bool true)/\Below w.heap.size w w':=by
 obtain ⟨m,hm⟩:=(Ja E).bare _ _ _ hrun;refine (Hv hE (hm m (aah _)) a c d h).mono ?_;rintro e w' ⟨x,g,rfl,hx,b⟩;simp only [R] at hx;subst hx;exact ⟨rfl,b⟩
end Go.VM
