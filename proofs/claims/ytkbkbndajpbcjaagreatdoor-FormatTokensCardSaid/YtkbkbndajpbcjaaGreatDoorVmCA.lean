/-
  A part of the proof.
-/
import Derived.Test.YtkbkbndajpbcjaaGreatDoorVmBB
import Derived.DataReads
import Derived.DataElems
set_option linter.all false
namespace Go.VM
open Go.RowKit Go.ChangeShapes
def fS (P:Program) (t:Td):Bool:=
 match P.underlying t with
 | some (.struct _)=>true
 | _=>false
def HT (agg:Bool) (cs:LA):AV:=
 match agg with
 | true=> .agg cs
 | false=>match cs with
  | [v]=>v
  | _=>undef
def KP (P:Program) (n:Nat):Nat->List Field->Bool
 | off,[]=>off.beq n
 | off,f::fs=>f.offset.beq off&&KP P n (off+P.cellsOf f.type) fs
def Fu (S:List Td) (t:Td):Bool:=S.any fun u=>Nat.beq u t
def D2 (P:Program) (S:List Td) (t:Td):Bool:=
 match P.underlying t with
 | some .bool=>(P.cellsOf t).beq 1
 | some (.int _)=>(P.cellsOf t).beq 1
 | some .string=>(P.cellsOf t).beq 1
 | some (.slice e)=>(P.cellsOf t).beq 1&&(Fu S e&&Nat.ble 1 (P.cellsOf e))
 | some (.struct fs)=>fs.toList.all (fun f=>Fu S f.type)&&KP P (P.cellsOf t) 0 fs.toList
 | _=>false
def Fe (A:Td->LA->Prop):List Field->LA->Prop
 | [],as=>as=[]
 | f::fs,as=> ∃a b,as=a++b/\A f.type a/\Fe A fs b
def pw (P:Program):Nat->Td->LA->Prop
 | 0,_,_=>False
 | n+1,t,as=>
  match P.underlying t with
  | some .bool=> ∃b,as=[.bool b]
  | some (.int k)=> ∃m,as=[.int k m]/\k.min<=m/\m<=k.max
  | some .string=> ∃s,as=[.str s]/\s.length<=maxLen
  | some (.slice e)=>as=[.ax]\/as=[.es]\/ ∃L:List LA,as=[.sl (P.cellsOf e) (L.map (HT (fS P e))) .wide]/\L.length<=maxLen/\ ∀a∈L,pw P n e a
  | some (.struct fs)=>Fe (pw P n) fs.toList as
  | _=>False
structure Rt (P:Program) (w:World) (agg:Bool) (z:Nat) (as:LA) (cs:List Value):Prop where
 rel:RL (mX w) as cs
 bare:bH as=true
 gh:gh as=true
 one: ∀x∈cs,x.oneCell'=true
 len:cs.length=z
 agg:agg=false->as.length=1
theorem Vz {g:Gh} {v:AV} {x:Value} (h:R g v x):RL g [v] [x]:=cL h gJ
theorem GF (l m:LA):gh (l++m)=(gh l&&gh m):=by
 induction l with
 | nil=>rfl
 | cons v l ih=>simp [gh,ih,Bool.and_assoc]
theorem yh {α:Type} {Q:Nat->α->Prop}: ∀(n:Nat),(∀i,i < n-> ∃a,Q i a)-> ∃L:List α,L.length=n/\ ∀i a,L[i]? =some a->Q i a
 | 0,_=>⟨[],rfl,fun _ _ h=>by simp at h⟩
 | n+1,h=>by
  obtain ⟨L,h1,d⟩:=yh n fun i hi=>h i (by omega);obtain ⟨a,f⟩:=h n (by omega);refine ⟨L++[a],by simp [h1],fun i b c=> ?_⟩;by_cases hi:i < L.length
  .rw [aaP hi] at c;exact d i b c
  .rw [aaM (by omega)] at c;have:i - L.length=0:=by
    cases e:i - L.length with
    | zero=>rfl
    | succ k=>rw [e] at c;simp at c
   rw [this] at c;simp at c;subst c;have:i=n:=by omega
   rw [this];exact f
theorem Mj {agg:Bool} {cs:LA} (ho:gh cs=true) (h:agg=false->cs.length=1):(HT agg cs).cells=cs:=by
 cases agg with
 | true=>rfl
 | false=>
  have h:=h rfl
  match cs,h,ho with
  | [v],_,ho=>
   simp only [VM.gh,abh] at ho;show v.cells=[v];cases v <;> first | rfl | (cases ho;done)
theorem G5 {agg:Bool} {cs:LA} (a:bH cs=true) (h:agg=false->cs.length=1):VM.bare (HT agg cs)=true:=by
 cases agg with
 | true=>exact a
 | false=>
  have h:=h rfl
  match cs,h,a with
  | [v],_,a=>
   rw [aJ] at a;simp only [aak] at a;exact a.1
theorem Dl {g:Gh} {z b:Nat} {agg:Bool}: ∀(L:List LA) (o:Nat),(∀i a,L[i]? =some a->a.length=z/\gh a=true/\(agg=false->a.length=1)/\pt g a b (o+i * z))->iW g z (L.map (HT agg)) b o
 | [],_,_=>by simp [iW]
 | a::L,o,h=>by
  have h0:=h 0 a rfl;rw [aan,nH,Mj h0.2.1 h0.2.2.1];refine ⟨h0.1,by simpa using h0.2.2.2,Dl L (o+z) fun i a' hi=> ?_⟩;have:=h (i+1) a' (by simpa using hi);refine ⟨this.1,this.2.1,this.2.2.1, ?_⟩;have e:o+(i+1) * z=o+z+i * z:=by rw [Nat.add_mul];omega
  rw [<- e];exact this.2.2.2
theorem A4 {agg:Bool}: ∀(L:List LA),(∀a∈L,bH a=true/\(agg=false->a.length=1))->bH (L.map (HT agg))=true
 | [],_=>rfl
 | a::L,h=>by
  rw [aan,aJ,G5 (h a (by simp)).1 (h a (by simp)).2,A4 L fun a b=>h a (by simp [b])];rfl
section
variable {H:Type} {enc:Td×Value->H} {P:Program} {w:World} {sp:Nat->Bool} {held:Bool} {S:List Td}
theorem Ga {n:Nat} (ih: ∀t cs d ps,Fu S t=true->DataW.trod enc P w 0 sp held n t cs=some (d,ps)-> ∃as,pw P n t as/\Rt P w (fS P t) (P.cellsOf t) as cs):
  ∀(fs:List Field) (off:Nat) (cs:List Value) (xs:List (DataW H×List MemPlace)),(fs.all fun f=>Fu S f.type)=true->KP P cs.length off fs=true->
   (fs.mapM fun f=>DataW.trod enc P w 0 sp held n f.type ((cs.drop f.offset).take (P.cellsOf f.type)))=some xs->off<=cs.length->
   ∃as,Fe (pw P n) fs as/\RL (mX w) as (cs.drop off)/\bH as=true/\gh as=true/\ ∀x∈cs.drop off,x.oneCell'=true
 | [],off,cs,xs,_,g,_,i=>by
  have:off=cs.length:=aap g;subst this;refine ⟨[],rfl, ?_,rfl,rfl, ?_⟩
  .simp [List.drop_length,RL]
  .simp [List.drop_length]
 | f::fs,off,cs,xs,e,g,hm,i=>by
  simp only [abI,aak] at e;simp only [KP,aak] at g;have ho:f.offset=off:=aap g.1;subst ho;simp only [List.mapM_cons,Option.bind_eq_bind,abq] at hm;obtain ⟨⟨d,ps⟩,h1,ys,l,_⟩:=hm;obtain ⟨a,m,hA⟩:=ih _ _ _ _ e.1 h1;have hlen:f.offset+P.cellsOf f.type<=cs.length:=by
   have:=hA.len;rw [aau,aaz] at this;omega
  obtain ⟨b,o,p,j,k,h⟩:=Ga ih fs (f.offset+P.cellsOf f.type) cs ys e.2 g.2 l hlen;have c:cs.drop f.offset=(cs.drop f.offset).take (P.cellsOf f.type)++cs.drop (f.offset+P.cellsOf f.type):=by
   rw [<- abw];exact (abb _ _).symm
  refine ⟨a++b,⟨a,b,rfl,m,o⟩, ?_, ?_, ?_, ?_⟩
  .rw [c];exact fk hA.rel p
  .rw [gw,hA.bare,j];rfl
  .rw [GF,hA.gh,k];rfl
  .intro x hx;rw [c] at hx;rcases aaC.1 hx with hx | hx
   .exact hA.one x hx
   .exact h x hx
theorem PD (r: ∀b,sp b=true) (G: ∀t,Fu S t=true->D2 P S t=true): ∀(n:Nat) (t:Td) (cs:List Value) (d:DataW H) (ps:List MemPlace),Fu S t=true->DataW.trod enc P w 0 sp held n t cs=some (d,ps)->
  ∃as,pw P n t as/\Rt P w (fS P t) (P.cellsOf t) as cs
 | 0,_,_,_,_,_,h=>by simp [DataW.trod] at h
 | n+1,t,cs,d,ps,I,h=>by
  have c:=G t I;unfold D2 at c;have flat: ∀{v:AV} {x:Value},fS P t=false->(P.cellsOf t).beq 1=true->R (mX w) v x->VM.bare v=true->VM.one v=true->x.oneCell'=true->Rt P w (fS P t) (P.cellsOf t) [v] [x]:=fun u E Q J ho hx=>
   ⟨Vz Q,by simp [aJ,J];rfl,by simp [VM.gh,ho],by simpa using hx,(aap E).symm,fun _=>rfl⟩
  simp only [DataW.trod] at h;split at h
  .rename_i b f;rw [f] at c;exact ⟨[.bool b],by simp only [pw,f];exact ⟨b,rfl⟩,flat (by simp [fS,f]) c (by simp only [R]) rfl rfl rfl⟩
  .rename_i k T m f;rw [f] at c;split at h
   .rename_i U;obtain ⟨rfl,A⟩:=U;simp only [Lit.wf,aak,aaZ] at A;exact ⟨[.int T m],by simp only [pw,f];exact ⟨m,rfl,A⟩,flat (by simp [fS,f]) c (by simp only [R]) rfl rfl rfl⟩
   .cases h
  .rename_i f;rw [f] at c;cases c
  .rename_i s f;rw [f] at c;split at h
   .rename_i hl;refine ⟨[.str s.data.toList],by simp only [pw,f];exact ⟨_,rfl,by rw [abj];exact hl⟩,flat (by simp [fS,f]) c ?_ rfl rfl rfl⟩;simp only [R]
   .cases h
  .rename_i f;rw [f] at c;cases c
  .rename_i f;rw [f] at c;cases c
  .rename_i f;rw [f] at c;simp only [aak] at c;exact ⟨[.ax],by simp [pw,f],flat (by simp [fS,f]) c.1 (by simp only [R]) rfl rfl rfl⟩
  .rename_i e a len cap f;rw [f] at c;simp only [aak] at c;obtain ⟨E,he,K⟩:=c;have K:=aah K;have u:fS P t=false:=by simp [fS,f]
   split at h
   .rename_i J;simp only [abq,aaN] at h;obtain ⟨elems,B,rest,g,_⟩:=h;have key: ∀i,i < len-> ∃x cs',w.cells? 0 (a.add (i * P.cellsOf e)) (P.cellsOf e)=some cs'/\DataW.trod enc P w 0 sp held n e cs'=some x:=by
     intro i hi;have hl:=mapM_some_length B;rw [List.length_range] at hl;have:=mapM_some_get B i i (by simp [hi]);rw [aav (by omega)] at this;simp only [abq] at this;obtain ⟨cs',h1,l⟩:=this;exact ⟨_,cs',h1,l⟩
    have spot: ∀x cs',w.cells? 0 (a.add (0 * P.cellsOf e)) (P.cellsOf e)=some cs'->DataW.trod enc P w 0 sp held n e cs'=some x->a.spot=none:=by
     intro x cs' h1 _;have l:=World.cells?_some h1;have z:=l.2.2 0 (by omega);have V:(a.add (0 * P.cellsOf e)).add 0=a:=by simp [Addr.add]
     rw [V,aav (by omega)] at z;exact World.cell?_spot z
    have sl:a.spot=none-> ∃as,pw P (n+1) t as/\Rt P w (fS P t) (P.cellsOf t) as [.slice (some a) len cap]:=by
     intro hs;obtain ⟨b,o,s⟩:=a;dsimp only at hs;subst hs;have each: ∀i,i < len-> ∃as,pw P n e as/\as.length=P.cellsOf e/\VM.gh as=true/\bH as=true/\(fS P e=false->as.length=1)/\pt (mX w) as b (o+i * P.cellsOf e):=by
      intro i hi;obtain ⟨x,cs',h1,l⟩:=key i hi;obtain ⟨as,hA,y⟩:=PD r G n e cs' x.1 x.2 he l;refine ⟨as,hA,by rw [<- dQ y.rel,y.len],y.gh,y.bare,y.agg,dN y.rel fun j v M=>⟨?_,y.one v (aaK M)⟩⟩;have z:=World.cells?_some h1;have W:j < P.cellsOf e:=by
       have:=(abB.1 M).1;omega
      have F:=z.2.2 j W;rw [Addr.fL,Addr.fL,M] at F;exact F
     obtain ⟨L,hL,p⟩:=yh len each;have q: ∀a∈L,∃i:Nat,L[i]? =some a:=fun a C=>List.getElem?_of_mem C;refine ⟨[.sl (P.cellsOf e) (L.map (HT (fS P e))) .wide], ?_,flat u E ?_ rfl rfl rfl⟩
     .simp only [pw,f];refine .inr (.inr ⟨L,rfl,by omega,fun a C=> ?_⟩);obtain ⟨i,hi⟩:=q a C;exact (p i a hi).1
     .simp only [R,aaA,hL];refine ⟨A4 L fun a C=> ?_,b,o,cap,rfl,J.2.1,K,Dl L o fun i a hi=> ?_,trivial⟩
      .obtain ⟨i,hi⟩:=q a C;exact ⟨(p i a hi).2.2.2.1,(p i a hi).2.2.2.2.1⟩
      .have:=p i a hi;exact ⟨this.2.1,this.2.2.1,this.2.2.2.2.1,this.2.2.2.2.2⟩
    by_cases D:len=0
    .by_cases N:cap=0
     .subst D N;exact ⟨[.es],by simp [pw,f],flat u E (by simp only [R];exact ⟨a,rfl⟩) rfl rfl rfl⟩
     .rw [r,if_pos rfl] at g;have hl:=mapM_some_length g;rw [List.length_range] at hl;have:=mapM_some_get g 0 0 (List.getElem?_range (by omega));rw [aav (by omega)] at this;obtain ⟨cs',h1,l⟩:=abq.1 this;subst D;exact sl (spot _ cs' h1 l)
    .obtain ⟨x,cs',h1,l⟩:=key 0 (by omega);exact sl (spot _ cs' h1 l)
   .cases h
  .rename_i _ fs f;rw [f] at c;simp only [aak] at c;split at h
   .rename_i hl;simp only [aaN] at h;obtain ⟨xs,O,_⟩:=h;obtain ⟨as,h1,l,z,F,X⟩:=Ga (PD r G n) fs.toList 0 _ xs c.1 (by rw [hl];exact c.2) O (aaO _);refine ⟨as,by simp only [pw,f];exact h1,⟨by simpa using l,z,F,by simpa using X,hl,fun hf=> ?_⟩⟩;simp [fS,f] at hf
   .cases h
  all_goals first | (cases h;done) | skip
  all_goals (rename_i f;first | (rw [f] at c;cases c;done) | skip)
end
end Go.VM
