/-
  (A part of the proof: ArgIn.)
-/
import Derived.Test.YtgecmbapkplklaaGreatDoorVmAA
import Derived.Test.YtgecmbapkplklaaGreatDoorVmBB
import Derived.DataReads
import Derived.DataElems
set_option linter.unusedSimpArgs false
namespace Go.VM
open Go.RowKit Go.ChangeShapes
def iG (P:Program) (t:TypeId):Bool:=
 match P.underlying t with
 | some (.struct _)=>true
 | _=>false
def FX (agg:Bool) (cs:List AV):AV:=
 match agg with
 | true=> .agg cs
 | false=>match cs with
  | [v]=>v
  | _=>undef
def Hf (P:Program) (n:Nat):Nat->List Field->Bool
 | off,[]=>off.beq n
 | off,f::fs=>f.offset.beq off&&Hf P n (off+P.cellsOf f.type) fs
def CV (S:List TypeId) (t:TypeId):Bool:=S.any fun u=>Nat.beq u t
def BV (P:Program) (S:List TypeId) (t:TypeId):Bool:=
 match P.underlying t with
 | some .bool=>(P.cellsOf t).beq 1
 | some (.int _)=>(P.cellsOf t).beq 1
 | some .string=>(P.cellsOf t).beq 1
 | some (.slice e)=>(P.cellsOf t).beq 1&&(CV S e&&Nat.ble 1 (P.cellsOf e))
 | some (.struct fs)=>fs.toList.all (fun f=>CV S f.type)&&Hf P (P.cellsOf t) 0 fs.toList
 | _=>false
def CK (A:TypeId->List AV->Prop):List Field->List AV->Prop
 | [],as=>as=[]
 | f::fs,as=> ∃a b,as=a++b/\A f.type a/\CK A fs b
def nD (P:Program):Nat->TypeId->List AV->Prop
 | 0,_,_=>False
 | n+1,t,as=>
  match P.underlying t with
  | some .bool=> ∃b,as=[.bool b]
  | some (.int k)=> ∃m,as=[.int k m]/\k.min<=m/\m<=k.max
  | some .string=> ∃s,as=[.str s]/\s.length<=maxLen
  | some (.slice e)=>as=[.ay]\/as=[.es]\/ ∃L:List (List AV),as=[.sl (P.cellsOf e) (L.map (FX (iG P e))) .wide]/\L.length<=maxLen/\ ∀a∈L,nD P n e a
  | some (.struct fs)=>CK (nD P n) fs.toList as
  | _=>False
structure N5 (P:Program) (w:World) (agg:Bool) (z:Nat) (as:List AV) (cs:List Value):Prop where
 rel:RL (lj w) as cs
 bare:bL as=true
 fw:fw as=true
 one: ∀x∈cs,x.oneCell'=true
 len:cs.length=z
 agg:agg=false->as.length=1
theorem PJ {g:Gh} {v:AV} {x:Value} (h:R g v x):RL g [v] [x]:=cH h fQ
theorem Ee (l m:List AV):fw (l++m)=(fw l&&fw m):=by
 induction l with
 | nil=>rfl
 | cons v l ih=>simp [fw,ih,Bool.and_assoc]
theorem vD {α:Type} {Q:Nat->α->Prop}: ∀(n:Nat),(∀i,i < n-> ∃a,Q i a)-> ∃L:List α,L.length=n/\ ∀i a,L[i]? =some a->Q i a
 | 0,_=>⟨[],rfl,fun _ _ h=>by simp at h⟩
 | n+1,h=>by
  obtain ⟨L,h1,h2⟩:=vD n fun i hi=>h i (by omega);obtain ⟨a,ha⟩:=h n (by omega);refine ⟨L++[a],by simp [h1],fun i b hb=> ?_⟩;by_cases hi:i < L.length
  .rw [Xr hi] at hb;exact h2 i b hb
  .rw [XB (by omega)] at hb;have:i - L.length=0:=by
    cases e:i - L.length with
    | zero=>rfl
    | succ k=>rw [e] at hb;simp at hb
   rw [this] at hb;simp at hb;subst hb;have:i=n:=by omega
   rw [this];exact ha
theorem Ik {agg:Bool} {cs:List AV} (ho:fw cs=true) (h:agg=false->cs.length=1):(FX agg cs).cells=cs:=by
 cases agg with
 | true=>rfl
 | false=>
  have h:=h rfl
  match cs,h,ho with
  | [v],_,ho=>
   simp only [VM.fw,Yg] at ho;show v.cells=[v];cases v <;> first | rfl | (cases ho;done)
theorem Et {agg:Bool} {cs:List AV} (hb:bL cs=true) (h:agg=false->cs.length=1):VM.bare (FX agg cs)=true:=by
 cases agg with
 | true=>exact hb
 | false=>
  have h:=h rfl
  match cs,h,hb with
  | [v],_,hb=>
   rw [bf] at hb;simp only [WY] at hb;exact hb.1
theorem Bl {g:Gh} {z b:Nat} {agg:Bool}: ∀(L:List (List AV)) (o:Nat),(∀i a,L[i]? =some a->a.length=z/\fw a=true/\(agg=false->a.length=1)/\nI g a b (o+i * z))->gS g z (L.map (FX agg)) b o
 | [],_,_=>by simp [gS]
 | a::L,o,h=>by
  have h0:=h 0 a rfl;rw [W8,lR,Ik h0.2.1 h0.2.2.1];refine ⟨h0.1,by simpa using h0.2.2.2,Bl L (o+z) fun i a' hi=> ?_⟩;have:=h (i+1) a' (by simpa using hi);refine ⟨this.1,this.2.1,this.2.2.1, ?_⟩;have e:o+(i+1) * z=o+z+i * z:=by rw [Nat.add_mul];omega
  rw [<- e];exact this.2.2.2
theorem zx {agg:Bool}: ∀(L:List (List AV)),(∀a∈L,bL a=true/\(agg=false->a.length=1))->bL (L.map (FX agg))=true
 | [],_=>rfl
 | a::L,h=>by
  rw [W8,bf,Et (h a (by simp)).1 (h a (by simp)).2,zx L fun a ha=>h a (by simp [ha])];rfl
section
variable {H:Type} {enc:TypeId×Value->H} {P:Program} {w:World} {sp:Nat->Bool} {held:Bool} {S:List TypeId}
theorem DW {n:Nat} (ih: ∀t cs d ps,CV S t=true->DataW.trod enc P w 0 sp held n t cs=some (d,ps)-> ∃as,nD P n t as/\N5 P w (iG P t) (P.cellsOf t) as cs):
  ∀(fs:List Field) (off:Nat) (cs:List Value) (xs:List (DataW H×List MemPlace)),(fs.all fun f=>CV S f.type)=true->Hf P cs.length off fs=true->
   (fs.mapM fun f=>DataW.trod enc P w 0 sp held n f.type ((cs.drop f.offset).take (P.cellsOf f.type)))=some xs->off<=cs.length->
   ∃as,CK (nD P n) fs as/\RL (lj w) as (cs.drop off)/\bL as=true/\fw as=true/\ ∀x∈cs.drop off,x.oneCell'=true
 | [],off,cs,xs,_,ht,_,hle=>by
  have:off=cs.length:=W2 ht;subst this;refine ⟨[],rfl, ?_,rfl,rfl, ?_⟩
  .simp [List.drop_length,RL]
  .simp [List.drop_length]
 | f::fs,off,cs,xs,e,ht,hm,hle=>by
  simp only [Yq,WY] at e;simp only [Hf,WY] at ht;have ho:f.offset=off:=W2 ht.1;subst ho;simp only [List.mapM_cons,Option.bind_eq_bind,X7] at hm;obtain ⟨⟨d,ps⟩,h1,ys,h2,_⟩:=hm;obtain ⟨a,ha,hA⟩:=ih _ _ _ _ e.1 h1;have hlen:f.offset+P.cellsOf f.type<=cs.length:=by
   have:=hA.len;rw [Xg,Xa] at this;omega
  obtain ⟨b,hb,hr,h,i,g⟩:=DW ih fs (f.offset+P.cellsOf f.type) cs ys e.2 ht.2 h2 hlen;have c:cs.drop f.offset=(cs.drop f.offset).take (P.cellsOf f.type)++cs.drop (f.offset+P.cellsOf f.type):=by
   rw [<- Ya];exact (XM _ _).symm
  refine ⟨a++b,⟨a,b,rfl,ha,hb⟩, ?_, ?_, ?_, ?_⟩
  .rw [c];exact eN hA.rel hr
  .rw [fK,hA.bare,h];rfl
  .rw [Ee,hA.fw,i];rfl
  .intro x hx;rw [c] at hx;rcases Xj.1 hx with hx | hx
   .exact hA.one x hx
   .exact g x hx
theorem JX (hsp: ∀b,sp b=true) (z: ∀t,CV S t=true->BV P S t=true): ∀(n:Nat) (t:TypeId) (cs:List Value) (d:DataW H) (ps:List MemPlace),CV S t=true->DataW.trod enc P w 0 sp held n t cs=some (d,ps)->
  ∃as,nD P n t as/\N5 P w (iG P t) (P.cellsOf t) as cs
 | 0,_,_,_,_,_,h=>by simp [DataW.trod] at h
 | n+1,t,cs,d,ps,A,h=>by
  have c:=z t A;unfold BV at c;have flat: ∀{v:AV} {x:Value},iG P t=false->(P.cellsOf t).beq 1=true->R (lj w) v x->VM.bare v=true->VM.one v=true->x.oneCell'=true->N5 P w (iG P t) (P.cellsOf t) [v] [x]:=fun p hc hr hb ho hx=>
   ⟨PJ hr,by simp [bf,hb];rfl,by simp [VM.fw,ho],by simpa using hx,(W2 hc).symm,fun _=>rfl⟩
  simp only [DataW.trod] at h;split at h
  .rename_i b hu;rw [hu] at c;exact ⟨[.bool b],by simp only [nD,hu];exact ⟨b,rfl⟩,flat (by simp [iG,hu]) c (by simp only [R]) rfl rfl rfl⟩
  .rename_i k D m hu;rw [hu] at c;split at h
   .rename_i hk;obtain ⟨rfl,r⟩:=hk;simp only [Lit.wf,WY,XU] at r;exact ⟨[.int D m],by simp only [nD,hu];exact ⟨m,rfl,r⟩,flat (by simp [iG,hu]) c (by simp only [R]) rfl rfl rfl⟩
   .cases h
  .rename_i hu;rw [hu] at c;cases c
  .rename_i s hu;rw [hu] at c;split at h
   .rename_i hl;refine ⟨[.str s.data.toList],by simp only [nD,hu];exact ⟨_,rfl,by rw [XX];exact hl⟩,flat (by simp [iG,hu]) c ?_ rfl rfl rfl⟩;simp only [R]
   .cases h
  .rename_i hu;rw [hu] at c;cases c
  .rename_i hu;rw [hu] at c;cases c
  .rename_i hu;rw [hu] at c;simp only [WY] at c;exact ⟨[.ay],by simp [nD,hu],flat (by simp [iG,hu]) c.1 (by simp only [R]) rfl rfl rfl⟩
  .rename_i e a len cap hu;rw [hu] at c;simp only [WY] at c;obtain ⟨hc,he,hz⟩:=c;have hz:=WU hz;have p:iG P t=false:=by simp [iG,hu]
   split at h
   .rename_i hb;simp only [X7,Xq] at h;obtain ⟨elems,u,rest,f,_⟩:=h;have key: ∀i,i < len-> ∃x cs',w.cells? 0 (a.add (i * P.cellsOf e)) (P.cellsOf e)=some cs'/\DataW.trod enc P w 0 sp held n e cs'=some x:=by
     intro i hi;have hl:=mapM_some_length u;rw [List.length_range] at hl;have:=mapM_some_get u i i (by simp [hi]);rw [Xl (by omega)] at this;simp only [X7] at this;obtain ⟨cs',h1,h2⟩:=this;exact ⟨_,cs',h1,h2⟩
    have spot: ∀x cs',w.cells? 0 (a.add (0 * P.cellsOf e)) (P.cellsOf e)=some cs'->DataW.trod enc P w 0 sp held n e cs'=some x->a.spot=none:=by
     intro x cs' h1 _;have h2:=World.cells?_some h1;have h3:=h2.2.2 0 (by omega);have E:(a.add (0 * P.cellsOf e)).add 0=a:=by simp [Addr.add]
     rw [E,Xl (by omega)] at h3;exact World.cell?_spot h3
    have sl:a.spot=none-> ∃as,nD P (n+1) t as/\N5 P w (iG P t) (P.cellsOf t) as [.slice (some a) len cap]:=by
     intro hs;obtain ⟨b,o,s⟩:=a;dsimp only at hs;subst hs;have each: ∀i,i < len-> ∃as,nD P n e as/\as.length=P.cellsOf e/\VM.fw as=true/\bL as=true/\(iG P e=false->as.length=1)/\nI (lj w) as b (o+i * P.cellsOf e):=by
      intro i hi;obtain ⟨x,cs',h1,h2⟩:=key i hi;obtain ⟨as,hA,q⟩:=JX hsp z n e cs' x.1 x.2 he h2;refine ⟨as,hA,by rw [<- dB q.rel,q.len],q.fw,q.bare,q.agg,dv q.rel fun j v hv=>⟨?_,q.one v (Xo hv)⟩⟩;have h3:=World.cells?_some h1;have hj:j < P.cellsOf e:=by
       have:=(Yb.1 hv).1;omega
      have h4:=h3.2.2 j hj;rw [Addr.eY,Addr.eY,hv] at h4;exact h4
     obtain ⟨L,hL,g⟩:=vD len each;have l: ∀a∈L,∃i:Nat,L[i]? =some a:=fun a ha=>List.getElem?_of_mem ha;refine ⟨[.sl (P.cellsOf e) (L.map (FX (iG P e))) .wide], ?_,flat p hc ?_ rfl rfl rfl⟩
     .simp only [nD,hu];refine .inr (.inr ⟨L,rfl,by omega,fun a ha=> ?_⟩);obtain ⟨i,hi⟩:=l a ha;exact (g i a hi).1
     .simp only [R,Xn,hL];refine ⟨zx L fun a ha=> ?_,b,o,cap,rfl,hb.2.1,hz,Bl L o fun i a hi=> ?_,trivial⟩
      .obtain ⟨i,hi⟩:=l a ha;exact ⟨(g i a hi).2.2.2.1,(g i a hi).2.2.2.2.1⟩
      .have:=g i a hi;exact ⟨this.2.1,this.2.2.1,this.2.2.2.2.1,this.2.2.2.2.2⟩
    by_cases y:len=0
    .by_cases B:cap=0
     .subst y B;exact ⟨[.es],by simp [nD,hu],flat p hc (by simp only [R];exact ⟨a,rfl⟩) rfl rfl rfl⟩
     .rw [hsp,if_pos rfl] at f;have hl:=mapM_some_length f;rw [List.length_range] at hl;have:=mapM_some_get f 0 0 (List.getElem?_range (by omega));rw [Xl (by omega)] at this;obtain ⟨cs',h1,h2⟩:=X7.1 this;subst y;exact sl (spot _ cs' h1 h2)
    .obtain ⟨x,cs',h1,h2⟩:=key 0 (by omega);exact sl (spot _ cs' h1 h2)
   .cases h
  .rename_i _ fs hu;rw [hu] at c;simp only [WY] at c;split at h
   .rename_i hl;simp only [Xq] at h;obtain ⟨xs,C,_⟩:=h;obtain ⟨as,h1,h2,h3,h4,F⟩:=DW (JX hsp z n) fs.toList 0 _ xs c.1 (by rw [hl];exact c.2) C (XC _);refine ⟨as,by simp only [nD,hu];exact h1,⟨by simpa using h2,h3,h4,by simpa using F,hl,fun hf=> ?_⟩⟩;simp [iG,hu] at hf
   .cases h
  all_goals first | (cases h;done) | skip
  all_goals (rename_i hu;first | (rw [hu] at c;cases c;done) | skip)
end
end Go.VM
