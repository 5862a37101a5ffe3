/-
  (A part of the proof: ArgOut, ArgRun.)
-/
import Derived.Test.YtgecmbapkplklaaGreatDoorVmAA
import Derived.Test.YtgecmbapkplklaaGreatDoorVmBH
import Derived.Test.YtgecmbapkplklaaGreatDoorVmAJ
import Derived.Below
import Derived.DataShut
set_option linter.unusedSimpArgs false
namespace Go.VM
open Go.RowKit Go.ChangeShapes
section
variable {H:Type} {enc:TypeId×Value->H} {P:Program} {W W':World} {sp:Nat->Bool} {held:Bool} {S:List TypeId}
theorem IJ (c:Below W.heap.size W W') {a:Addr} {v:Value} (h:W.cell? a=some v):W'.cell? a=some v:=by
 have b:a.block < W.heap.size:=by
  unfold World.cell? at h;split at h
  .rename_i e;exact (Array.getElem?_eq_some_iff.1 e).1
  .cases h
 unfold World.cell?
 rw [c.block _ b];exact h
theorem Gr (b:Below W.heap.size W W') {a:Addr} {n:Nat} {cs:List Value} (h:W.cells? 0 a n=some cs):W'.cells? 0 a n=some cs:=by
 obtain ⟨h1,h2,h3⟩:=World.cells?_some h;refine World.cells?_of_each h1 h2 fun i hi=> ?_;have:=h3 i hi;rw [Xl (by omega)] at this ⊢;exact IJ b this
theorem xC {n:Nat} (ih: ∀t cs d ps,CV S t=true->DataW.trod enc P W 0 (fun _=>true) held n t cs=some (d,ps)->(∀p∈ps,sp p.block=true)->DataW.trod enc P W' 0 sp held n t cs=some (d,ps)):
  ∀(fs:List Field) (cs:List Value) (xs:List (DataW H×List MemPlace)),(fs.all fun f=>CV S f.type)=true->
   (fs.mapM fun f=>DataW.trod enc P W 0 (fun _=>true) held n f.type ((cs.drop f.offset).take (P.cellsOf f.type)))=some xs->(∀p∈xs.flatMap (·.2),sp p.block=true)->
   (fs.mapM fun f=>DataW.trod enc P W' 0 sp held n f.type ((cs.drop f.offset).take (P.cellsOf f.type)))=some xs
 | [],cs,xs,_,h,_=>by simpa using h
 | f::fs,cs,xs,a,h,hp=>by
  simp only [Yq,WY] at a;simp only [List.mapM_cons,Option.bind_eq_bind,X7,Option.pure_def,W7] at h ⊢;obtain ⟨⟨d,ps⟩,h1,ys,h2,rfl⟩:=h;simp only [X2,Xj] at hp;exact ⟨(d,ps),ih _ _ _ _ a.1 h1 fun p hm=>hp p (.inl hm),ys,xC ih fs cs ys a.2 h2 fun p hm=>hp p (.inr hm),rfl⟩
theorem sO (b:Below W.heap.size W W') {n:Nat} {e:TypeId} {a:Addr} (ih: ∀cs d ps,DataW.trod enc P W 0 (fun _=>true) held n e cs=some (d,ps)->(∀p∈ps,sp p.block=true)->DataW.trod enc P W' 0 sp held n e cs=some (d,ps)) (off:Nat):
  ∀(l:List Nat) (xs:List (DataW H×List MemPlace)),(l.mapM fun i=>(W.cells? 0 (a.add ((off+i) * P.cellsOf e)) (P.cellsOf e)).bind (DataW.trod enc P W 0 (fun _=>true) held n e))=some xs->(∀p∈xs.flatMap (·.2),sp p.block=true)->
   (l.mapM fun i=>(W'.cells? 0 (a.add ((off+i) * P.cellsOf e)) (P.cellsOf e)).bind (DataW.trod enc P W' 0 sp held n e))=some xs
 | [],xs,h,_=>by simpa using h
 | i::l,xs,h,hp=>by
  simp only [List.mapM_cons,Option.bind_eq_bind,X7,Option.pure_def,W7] at h ⊢;obtain ⟨⟨d,ps⟩,⟨cs,h0,h1⟩,ys,h2,rfl⟩:=h;simp only [X2,Xj] at hp;exact ⟨(d,ps),⟨cs,Gr b h0,ih _ _ _ h1 fun p hm=>hp p (.inl hm)⟩,ys,sO b ih off l ys h2 fun p hm=>hp p (.inr hm),rfl⟩
theorem uH (j:Below W.heap.size W W') (k: ∀t,CV S t=true->BV P S t=true): ∀(n:Nat) (t:TypeId) (cs:List Value) (d:DataW H) (ps:List MemPlace),CV S t=true->
  DataW.trod enc P W 0 (fun _=>true) held n t cs=some (d,ps)->(∀p∈ps,sp p.block=true)->DataW.trod enc P W' 0 sp held n t cs=some (d,ps)
 | 0,_,_,_,_,_,h,_=>by simp [DataW.trod] at h
 | n+1,t,cs,d,ps,l,h,hp=>by
  have b:=k t l;unfold BV at b;simp only [DataW.trod] at h ⊢;split at h
  .exact h
  .exact h
  .rename_i hu;rw [hu] at b;cases b
  .exact h
  .rename_i hu;rw [hu] at b;cases b
  .rename_i hu;rw [hu] at b;cases b
  .exact h
  .rename_i e a len cap hu;rw [hu] at b;simp only [WY] at b;obtain ⟨hc,he,hz⟩:=b;have hz:=WU hz;split at h
   .rename_i hb;rw [if_pos hb];simp only [X7,Xq] at h ⊢;obtain ⟨elems,m,rest,c,hd⟩:=h;simp only [WV] at hd;obtain ⟨hd1,f⟩:=hd;have g: ∀p∈(elems++rest).flatMap (·.2),sp p.block=true:=fun p hm=>hp p (by rw [<- f];exact Xj.2 (.inr hm));simp only [List.flatMap_append,Xj] at g;have ih:=fun cs d ps=>uH j k n e cs d ps he;have h1:=sO (sp:=sp) (W':=W') j (e:=e) (a:=a) ih 0 (List.range len) elems (by simpa using m) (fun p hm=>g p (.inl hm));refine ⟨elems,by simpa using h1,rest, ?_,by rw [<- hd1, <- f]⟩;rw [if_pos trivial] at c;by_cases i:cap - len=0
    .rw [i] at c ⊢;have:rest=[]:=by simpa using c.symm
     subst this;split <;> simp
    .have hsp:sp a.block=true:=by
      have o:=mapM_some_length c;rw [List.length_range] at o;refine hp (.cell a.block (a.off+0)) ?_;rw [<- f];refine Xj.2 (.inl ?_);unfold MemPlace.row;refine XY.2 ⟨0,List.mem_range.2 ?_,rfl⟩;exact Nat.mul_pos (by omega) hz
     rw [hsp,if_pos rfl];exact sO (sp:=sp) (W':=W') j (e:=e) (a:=a) ih len _ rest c (fun p hm=>g p (.inr hm))
   .cases h
  .rename_i _ fs hu;rw [hu] at b;simp only [WY] at b;split at h
   .rename_i hl;rw [if_pos hl];simp only [Xq] at h ⊢;obtain ⟨xs,q,hd⟩:=h;simp only [WV] at hd;refine ⟨xs,xC (uH j k n) fs.toList _ xs b.1 q fun p hm=>hp p (by rw [<- hd.2];exact hm),by rw [<- hd.1, <- hd.2]⟩
   .cases h
  all_goals first | (cases h;done) | skip
  all_goals (rename_i hu;first | (rw [hu] at b;cases b;done) | skip)
theorem td (b:Below W.heap.size W W') (c: ∀t,CV S t=true->BV P S t=true): ∀{ts:List TypeId} {vs:List Value} {ds:List (DataW H)} {ps:List MemPlace},(ts.all fun t=>CV S t)=true->
  DataW.TrodAll enc P W 0 (fun _=>true) held ts vs ds ps->(∀p∈ps,sp p.block=true)->DataW.TrodAll enc P W' 0 sp held ts vs ds ps
 | [],[],[],ps,_,h,_=>h
 | t::ts,v::vs,d::ds,ps,a,h,hp=>by
  simp only [Yq,WY] at a;obtain ⟨p,q,⟨fuel,h1⟩,h2,rfl⟩:=h;exact ⟨p,q,⟨fuel,uH b c fuel t _ d p a.1 h1 fun x hx=>hp x (Xj.2 (.inl hx))⟩,td b c a.2 h2 fun x hx=>hp x (Xj.2 (.inr hx)),rfl⟩
 | [],_:: _,_,_,_,h,_ | [],[],_:: _,_,_,h,_ | _:: _,[],_,_,_,h,_ | _:: _,_:: _,[],_,_,h,_=>by simp [DataW.TrodAll] at h
end
section
variable {H:Type} {enc:TypeId×Value->H} {P:Program} {w:World} {held:Bool} {S:List TypeId}
theorem J8 (j: ∀t,CV S t=true->BV P S t=true) {t:TypeId} {v:Value} {d:DataW H} {p:List MemPlace} {r:Reach} {base:Nat} (g:CV S t=true) (hv:Value.okWide P w r base t v)
  (h:DataW.Trod enc P w 0 (fun _=>true) held t v d p): ∃n as,nD P n t as/\R (lj w) (FX (iG P t) as) v/\VM.bare (FX (iG P t) as)=true/\strip (FX (iG P t) as)=FX (iG P t) as:=by
 obtain ⟨n,h⟩:=h;obtain ⟨as,hA,f⟩:=JX (fun _=>rfl) j n t _ d p g h;have hb:=Et (agg:=iG P t) f.bare f.agg;have c:=j t g;unfold BV at c;unfold Value.okWide at hv;have one:iG P t=false->(∀cs,v≠ .agg cs)-> ∃n as,nD P n t as/\R (lj w) (FX (iG P t) as) v/\VM.bare (FX (iG P t) as)=true/\strip (FX (iG P t) as)=FX (iG P t) as:=by
  intro b i;have hc:v.cells.toList=[v]:=by
   cases v <;> first | rfl | exact absurd rfl (i _)
  have hl:=f.agg b
  match as,hl,hA,f,hb with
  | [a],_,hA,f,hb=>
   refine ⟨n,[a],hA, ?_,hb, ?_⟩
   .have hr:=f.rel;rw [hc] at hr;obtain ⟨x,xs,e,hr,_⟩:=hr;cases e;rw [b];exact hr
   .rw [b] at hb ⊢;show strip a=a;have hb:VM.bare a=true:=hb;cases a with
    | sl z e pm=>cases pm with
     | own k=>cases hb
     | _=>rfl
    | _=>rfl
 split at hv
 .rename_i fs hu;obtain ⟨cs,rfl,_,_⟩:=hv;have b:iG P t=true:=by simp [iG,hu]
  refine ⟨n,as,hA, ?_,hb, ?_⟩
  .rw [b];simp only [FX,R];exact ⟨cs,rfl,f.rel⟩
  .rw [b];rfl
 .rename_i hu;rw [hu] at c;cases c
 .rename_i h1 h2;have b:iG P t=false:=by
   unfold iG;split
   .rename_i fs hu;exact absurd hu (h1 fs)
   .rfl
  refine one b ?_;rintro cs rfl;unfold Cell.okWide at hv;split at hv
  all_goals first
   | (rename_i hu;rw [hu] at c;cases c;done)
   | (rename_i hx;cases hx;done)
   | skip
  all_goals (unfold Cell.ok at hv;split at hv)
  all_goals first
   | (cases hv;done)
   | (rename_i hx;cases hx;done)
   | skip
end
theorem vJ {H:Type} {enc:TypeId×Value->H} {P:Program} {w:World} {b:Nat} {sp:Nat->Bool} {held:Bool} {t:TypeId} {ts:List TypeId} {vs:List Value} {ds:List (DataW H)} {ps:List MemPlace} (h:DataW.TrodAll enc P w b sp held (t::ts) vs ds ps):
  ∃v vs' d a p q,vs=v::vs'/\ds=d::a/\DataW.Trod enc P w b sp held t v d p/\DataW.TrodAll enc P w b sp held ts vs' a q/\ps=p++q:=by
 match vs,ds,h with
 | v::vs',d::a,h=>
  obtain ⟨p,q,h1,h2,rfl⟩:=h;exact ⟨v,vs',d,a,p,q,rfl,rfl,h1,h2,rfl⟩
theorem LH {P:Program} {E:Env} (hE:El P E) {f:FuncId} {args:List AV} (hrun:(aV E).bare f args=some (.bool true))
  (a: ∀args w,(callFunc f args).run P w= .ok (.enter f args) w) {w:World} (c:tL E.G w) {xs:Array Value} (hb:bL args=true) (hr:RL (lj w) args xs.toList):
  Calls P f xs w fun e w'=>e= .returned (.bool true)/\Below w.heap.size w w':=by
 obtain ⟨m,hm⟩:=(FM E).bare _ _ _ hrun;refine (Fb hE (hm m (WW _)) a c hb hr).mono ?_;rintro e w' ⟨x,g,rfl,hx,b⟩;simp only [R] at hx;subst hx;exact ⟨rfl,b⟩
end Go.VM
