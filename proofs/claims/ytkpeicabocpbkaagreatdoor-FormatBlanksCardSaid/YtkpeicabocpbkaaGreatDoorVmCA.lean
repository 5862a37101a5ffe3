/-
  A part of the proof.
-/
import Derived.Test.YtkpeicabocpbkaaGreatDoorVmBB
import Derived.DataReads
import Derived.DataElems
set_option linter.all false
namespace Go.VM
open Go.RowKit Go.ChangeShapes
def fR (P:Program) (t:Td):Bool:=
 match P.underlying t with
 | some (.struct _)=>true
 | _=>false
def Ir (agg:Bool) (cs:LA):AV:=
 match agg with
 | true=> .agg cs
 | false=>match cs with
  | [v]=>v
  | _=>undef
def Jm (P:Program) (n:Nat):Nat->List Field->Bool
 | off,[]=>off.beq n
 | off,f::fs=>f.offset.beq off&&Jm P n (off+P.cellsOf f.type) fs
def EV (S:List Td) (t:Td):Bool:=S.any fun u=>Nat.beq u t
def EE (P:Program) (S:List Td) (t:Td):Bool:=
 match P.underlying t with
 | some .bool=>(P.cellsOf t).beq 1
 | some (.int _)=>(P.cellsOf t).beq 1
 | some .string=>(P.cellsOf t).beq 1
 | some (.slice e)=>(P.cellsOf t).beq 1&&(EV S e&&Nat.ble 1 (P.cellsOf e))
 | some (.struct fs)=>fs.toList.all (fun f=>EV S f.type)&&Jm P (P.cellsOf t) 0 fs.toList
 | _=>false
def EA (A:Td->LA->Prop):List Field->LA->Prop
 | [],as=>as=[]
 | f::fs,as=> ∃a b,as=a++b/\A f.type a/\EA A fs b
def na (P:Program):Nat->Td->LA->Prop
 | 0,_,_=>False
 | n+1,t,as=>
  match P.underlying t with
  | some .bool=> ∃b,as=[.bool b]
  | some (.int k)=> ∃m,as=[.int k m]/\k.min<=m/\m<=k.max
  | some .string=> ∃s,as=[.str s]/\s.length<=maxLen
  | some (.slice e)=>as=[.aD]\/as=[.es]\/ ∃L:List LA,as=[.sl (P.cellsOf e) (L.map (Ir (fR P e))) .wide]/\L.length<=maxLen/\ ∀a∈L,na P n e a
  | some (.struct fs)=>EA (na P n) fs.toList as
  | _=>False
structure PI (P:Program) (w:World) (agg:Bool) (z:Nat) (as:LA) (cs:List Value):Prop where
 rel:RL (lf w) as cs
 bare:bN as=true
 iw:iw as=true
 one: ∀x∈cs,x.oneCell'=true
 len:cs.length=z
 agg:agg=false->as.length=1
theorem Va {g:Gh} {v:AV} {x:Value} (h:R g v x):RL g [v] [x]:=cA h gF
theorem FK (l m:LA):iw (l++m)=(iw l&&iw m):=by
 induction l with
 | nil=>rfl
 | cons v l ih=>simp [iw,ih,Bool.and_assoc]
theorem xL {α:Type} {Q:Nat->α->Prop}: ∀(n:Nat),(∀i,i < n-> ∃a,Q i a)-> ∃L:List α,L.length=n/\ ∀i a,L[i]? =some a->Q i a
 | 0,_=>⟨[],rfl,fun _ _ h=>by simp at h⟩
 | n+1,h=>by
  obtain ⟨L,h1,d⟩:=xL n fun i hi=>h i (by omega);obtain ⟨a,f⟩:=h n (by omega);refine ⟨L++[a],by simp [h1],fun i b c=> ?_⟩;by_cases hi:i < L.length
  .rw [abi hi] at c;exact d i b c
  .rw [abg (by omega)] at c;have:i - L.length=0:=by
    cases e:i - L.length with
    | zero=>rfl
    | succ k=>rw [e] at c;simp at c
   rw [this] at c;simp at c;subst c;have:i=n:=by omega
   rw [this];exact f
theorem K3 {agg:Bool} {cs:LA} (ho:iw cs=true) (h:agg=false->cs.length=1):(Ir agg cs).cells=cs:=by
 cases agg with
 | true=>rfl
 | false=>
  have h:=h rfl
  match cs,h,ho with
  | [v],_,ho=>
   simp only [VM.iw,abv] at ho;show v.cells=[v];cases v <;> first | rfl | (cases ho;done)
theorem G5 {agg:Bool} {cs:LA} (a:bN cs=true) (h:agg=false->cs.length=1):VM.bare (Ir agg cs)=true:=by
 cases agg with
 | true=>exact a
 | false=>
  have h:=h rfl
  match cs,h,a with
  | [v],_,a=>
   rw [bf] at a;simp only [aaf] at a;exact a.1
theorem Cf {g:Gh} {z b:Nat} {agg:Bool}: ∀(L:List LA) (o:Nat),(∀i a,L[i]? =some a->a.length=z/\iw a=true/\(agg=false->a.length=1)/\oH g a b (o+i * z))->iD g z (L.map (Ir agg)) b o
 | [],_,_=>by simp [iD]
 | a::L,o,h=>by
  have h0:=h 0 a rfl;rw [aal,ml,K3 h0.2.1 h0.2.2.1];refine ⟨h0.1,by simpa using h0.2.2.2,Cf L (o+z) fun i a' hi=> ?_⟩;have:=h (i+1) a' (by simpa using hi);refine ⟨this.1,this.2.1,this.2.2.1, ?_⟩;have e:o+(i+1) * z=o+z+i * z:=by rw [Nat.add_mul];omega
  rw [<- e];exact this.2.2.2
theorem zk {agg:Bool}: ∀(L:List LA),(∀a∈L,bN a=true/\(agg=false->a.length=1))->bN (L.map (Ir agg))=true
 | [],_=>rfl
 | a::L,h=>by
  rw [aal,bf,G5 (h a (by simp)).1 (h a (by simp)).2,zk L fun a b=>h a (by simp [b])];rfl
section
variable {H:Type} {enc:Td×Value->H} {P:Program} {w:World} {sp:Nat->Bool} {held:Bool} {S:List Td}
theorem Fi {n:Nat} (ih: ∀t cs d ps,EV S t=true->DataW.trod enc P w 0 sp held n t cs=some (d,ps)-> ∃as,na P n t as/\PI P w (fR P t) (P.cellsOf t) as cs):
  ∀(fs:List Field) (off:Nat) (cs:List Value) (xs:List (DataW H×List MemPlace)),(fs.all fun f=>EV S f.type)=true->Jm P cs.length off fs=true->
   (fs.mapM fun f=>DataW.trod enc P w 0 sp held n f.type ((cs.drop f.offset).take (P.cellsOf f.type)))=some xs->off<=cs.length->
   ∃as,EA (na P n) fs as/\RL (lf w) as (cs.drop off)/\bN as=true/\iw as=true/\ ∀x∈cs.drop off,x.oneCell'=true
 | [],off,cs,xs,_,g,_,i=>by
  have:off=cs.length:=aan g;subst this;refine ⟨[],rfl, ?_,rfl,rfl, ?_⟩
  .simp [List.drop_length,RL]
  .simp [List.drop_length]
 | f::fs,off,cs,xs,e,g,hm,i=>by
  simp only [abU,aaf] at e;simp only [Jm,aaf] at g;have ho:f.offset=off:=aan g.1;subst ho;simp only [List.mapM_cons,Option.bind_eq_bind,abH] at hm;obtain ⟨⟨d,ps⟩,h1,ys,l,_⟩:=hm;obtain ⟨a,m,hA⟩:=ih _ _ _ _ e.1 h1;have hlen:f.offset+P.cellsOf f.type<=cs.length:=by
   have:=hA.len;rw [aat,aas] at this;omega
  obtain ⟨b,o,p,j,k,h⟩:=Fi ih fs (f.offset+P.cellsOf f.type) cs ys e.2 g.2 l hlen;have c:cs.drop f.offset=(cs.drop f.offset).take (P.cellsOf f.type)++cs.drop (f.offset+P.cellsOf f.type):=by
   rw [<- abD];exact (abk _ _).symm
  refine ⟨a++b,⟨a,b,rfl,m,o⟩, ?_, ?_, ?_, ?_⟩
  .rw [c];exact gY hA.rel p
  .rw [jY,hA.bare,j];rfl
  .rw [FK,hA.iw,k];rfl
  .intro x hx;rw [c] at hx;rcases aaA.1 hx with hx | hx
   .exact hA.one x hx
   .exact h x hx
theorem N8 (r: ∀b,sp b=true) (F: ∀t,EV S t=true->EE P S t=true): ∀(n:Nat) (t:Td) (cs:List Value) (d:DataW H) (ps:List MemPlace),EV S t=true->DataW.trod enc P w 0 sp held n t cs=some (d,ps)->
  ∃as,na P n t as/\PI P w (fR P t) (P.cellsOf t) as cs
 | 0,_,_,_,_,_,h=>by simp [DataW.trod] at h
 | n+1,t,cs,d,ps,G,h=>by
  have c:=F t G;unfold EE at c;have flat: ∀{v:AV} {x:Value},fR P t=false->(P.cellsOf t).beq 1=true->R (lf w) v x->VM.bare v=true->VM.one v=true->x.oneCell'=true->PI P w (fR P t) (P.cellsOf t) [v] [x]:=fun u E O I ho hx=>
   ⟨Va O,by simp [bf,I];rfl,by simp [VM.iw,ho],by simpa using hx,(aan E).symm,fun _=>rfl⟩
  simp only [DataW.trod] at h;split at h
  .rename_i b f;rw [f] at c;exact ⟨[.bool b],by simp only [na,f];exact ⟨b,rfl⟩,flat (by simp [fR,f]) c (by simp only [R]) rfl rfl rfl⟩
  .rename_i k Q m f;rw [f] at c;split at h
   .rename_i T;obtain ⟨rfl,A⟩:=T;simp only [Lit.wf,aaf,aaT] at A;exact ⟨[.int Q m],by simp only [na,f];exact ⟨m,rfl,A⟩,flat (by simp [fR,f]) c (by simp only [R]) rfl rfl rfl⟩
   .cases h
  .rename_i f;rw [f] at c;cases c
  .rename_i s f;rw [f] at c;split at h
   .rename_i hl;refine ⟨[.str s.data.toList],by simp only [na,f];exact ⟨_,rfl,by rw [abK];exact hl⟩,flat (by simp [fR,f]) c ?_ rfl rfl rfl⟩;simp only [R]
   .cases h
  .rename_i f;rw [f] at c;cases c
  .rename_i f;rw [f] at c;cases c
  .rename_i f;rw [f] at c;simp only [aaf] at c;exact ⟨[.aD],by simp [na,f],flat (by simp [fR,f]) c.1 (by simp only [R]) rfl rfl rfl⟩
  .rename_i e a len cap f;rw [f] at c;simp only [aaf] at c;obtain ⟨E,U,J⟩:=c;have J:=aaq J;have u:fR P t=false:=by simp [fR,f]
   split at h
   .rename_i I;simp only [abH,aaF] at h;obtain ⟨elems,B,rest,g,_⟩:=h;have key: ∀i,i < len-> ∃x cs',w.cells? 0 (a.add (i * P.cellsOf e)) (P.cellsOf e)=some cs'/\DataW.trod enc P w 0 sp held n e cs'=some x:=by
     intro i hi;have hl:=mapM_some_length B;rw [List.length_range] at hl;have:=mapM_some_get B i i (by simp [hi]);rw [aax (by omega)] at this;simp only [abH] at this;obtain ⟨cs',h1,l⟩:=this;exact ⟨_,cs',h1,l⟩
    have spot: ∀x cs',w.cells? 0 (a.add (0 * P.cellsOf e)) (P.cellsOf e)=some cs'->DataW.trod enc P w 0 sp held n e cs'=some x->a.spot=none:=by
     intro x cs' h1 _;have l:=World.cells?_some h1;have z:=l.2.2 0 (by omega);have V:(a.add (0 * P.cellsOf e)).add 0=a:=by simp [Addr.add]
     rw [V,aax (by omega)] at z;exact World.cell?_spot z
    have sl:a.spot=none-> ∃as,na P (n+1) t as/\PI P w (fR P t) (P.cellsOf t) as [.slice (some a) len cap]:=by
     intro hs;obtain ⟨b,o,s⟩:=a;dsimp only at hs;subst hs;have each: ∀i,i < len-> ∃as,na P n e as/\as.length=P.cellsOf e/\VM.iw as=true/\bN as=true/\(fR P e=false->as.length=1)/\oH (lf w) as b (o+i * P.cellsOf e):=by
      intro i hi;obtain ⟨x,cs',h1,l⟩:=key i hi;obtain ⟨as,hA,y⟩:=N8 r F n e cs' x.1 x.2 U l;refine ⟨as,hA,by rw [<- fp y.rel,y.len],y.iw,y.bare,y.agg,fB y.rel fun j v K=>⟨?_,y.one v (aaJ K)⟩⟩;have z:=World.cells?_some h1;have W:j < P.cellsOf e:=by
       have:=(abN.1 K).1;omega
      have h4:=z.2.2 j W;rw [Addr.gx,Addr.gx,K] at h4;exact h4
     obtain ⟨L,hL,p⟩:=xL len each;have q: ∀a∈L,∃i:Nat,L[i]? =some a:=fun a C=>List.getElem?_of_mem C;refine ⟨[.sl (P.cellsOf e) (L.map (Ir (fR P e))) .wide], ?_,flat u E ?_ rfl rfl rfl⟩
     .simp only [na,f];refine .inr (.inr ⟨L,rfl,by omega,fun a C=> ?_⟩);obtain ⟨i,hi⟩:=q a C;exact (p i a hi).1
     .simp only [R,aay,hL];refine ⟨zk L fun a C=> ?_,b,o,cap,rfl,I.2.1,J,Cf L o fun i a hi=> ?_,trivial⟩
      .obtain ⟨i,hi⟩:=q a C;exact ⟨(p i a hi).2.2.2.1,(p i a hi).2.2.2.2.1⟩
      .have:=p i a hi;exact ⟨this.2.1,this.2.2.1,this.2.2.2.2.1,this.2.2.2.2.2⟩
    by_cases D:len=0
    .by_cases M:cap=0
     .subst D M;exact ⟨[.es],by simp [na,f],flat u E (by simp only [R];exact ⟨a,rfl⟩) rfl rfl rfl⟩
     .rw [r,if_pos rfl] at g;have hl:=mapM_some_length g;rw [List.length_range] at hl;have:=mapM_some_get g 0 0 (List.getElem?_range (by omega));rw [aax (by omega)] at this;obtain ⟨cs',h1,l⟩:=abH.1 this;subst D;exact sl (spot _ cs' h1 l)
    .obtain ⟨x,cs',h1,l⟩:=key 0 (by omega);exact sl (spot _ cs' h1 l)
   .cases h
  .rename_i _ fs f;rw [f] at c;simp only [aaf] at c;split at h
   .rename_i hl;simp only [aaF] at h;obtain ⟨xs,N,_⟩:=h;obtain ⟨as,h1,l,z,h4,X⟩:=Fi (N8 r F n) fs.toList 0 _ xs c.1 (by rw [hl];exact c.2) N (aba _);refine ⟨as,by simp only [na,f];exact h1,⟨by simpa using l,z,h4,by simpa using X,hl,fun hf=> ?_⟩⟩;simp [fR,f] at hf
   .cases h
  all_goals first | (cases h;done) | skip
  all_goals (rename_i f;first | (rw [f] at c;cases c;done) | skip)
end
end Go.VM
