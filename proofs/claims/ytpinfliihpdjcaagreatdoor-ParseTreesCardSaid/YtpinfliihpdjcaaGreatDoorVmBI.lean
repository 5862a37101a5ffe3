/-
  A part of the proof.
-/
import Derived.Test.YtpinfliihpdjcaaGreatDoorVmBC
import Derived.DataReads
import Derived.DataElems
set_option linter.all false
namespace Go.VM
open Go.RowKit Go.ChangeShapes
def fV (P:Program) (t:TypeId):Bool:=
 match P.underlying t with
 | some (.struct _)=>true
 | _=>false
def AJ (agg:Bool) (cs:List AV):AV:=
 match agg with
 | true=> .agg cs
 | false=>match cs with
  | [v]=>v
  | _=>undef
def Bw (P:Program) (n:Nat):Nat->List Field->Bool
 | off,[]=>off.beq n
 | off,f::fs=>f.offset.beq off&&Bw P n (off+P.cellsOf f.type) fs
def xY (S:List TypeId) (t:TypeId):Bool:=S.any fun u=>Nat.beq u t
def wH (P:Program) (S:List TypeId) (t:TypeId):Bool:=
 match P.underlying t with
 | some .bool=>(P.cellsOf t).beq 1
 | some (.int _)=>(P.cellsOf t).beq 1
 | some .string=>(P.cellsOf t).beq 1
 | some (.slice e)=>(P.cellsOf t).beq 1&&(xY S e&&Nat.ble 1 (P.cellsOf e))
 | some (.struct fs)=>fs.toList.all (fun f=>xY S f.type)&&Bw P (P.cellsOf t) 0 fs.toList
 | _=>false
def wZ (A:TypeId->List AV->Prop):List Field->List AV->Prop
 | [],as=>as=[]
 | f::fs,as=> ∃a b,as=a++b/\A f.type a/\wZ A fs b
def lx (P:Program):Nat->TypeId->List AV->Prop
 | 0,_,_=>False
 | n+1,t,as=>
  match P.underlying t with
  | some .bool=> ∃b,as=[.bool b]
  | some (.int k)=> ∃m,as=[.int k m]/\k.min<=m/\m<=k.max
  | some .string=> ∃s,as=[.str s]/\s.length<=maxLen
  | some (.slice e)=>as=[.aG]\/as=[.es]\/ ∃L:List (List AV),as=[.sl (P.cellsOf e) (L.map (AJ (fV P e))) .wide]/\L.length<=maxLen/\ ∀a∈L,lx P n e a
  | some (.struct fs)=>wZ (lx P n) fs.toList as
  | _=>False
structure GK (P:Program) (w:World) (agg:Bool) (z:Nat) (as:List AV) (cs:List Value):Prop where
 rel:RL (eB w) as cs
 bare:bx as=true
 eI:eI as=true
 one: ∀x∈cs,x.oneCell'=true
 len:cs.length=z
 agg:agg=false->as.length=1
theorem IJ {g:Gh} {v:AV} {x:Value} (h:R g v x):RL g [v] [x]:=bJ h dF
theorem yq (l m:List AV):eI (l++m)=(eI l&&eI m):=by
 induction l with
 | nil=>rfl
 | cons v l ih=>simp [eI,ih,Bool.and_assoc]
theorem qp {α:Type} {Q:Nat->α->Prop}: ∀(n:Nat),(∀i,i < n-> ∃a,Q i a)-> ∃L:List α,L.length=n/\ ∀i a,L[i]? =some a->Q i a
 | 0,_=>⟨[],rfl,fun _ _ h=>by simp at h⟩
 | n+1,h=>by
  obtain ⟨L,h1,d⟩:=qp n fun i hi=>h i (by omega);obtain ⟨a,f⟩:=h n (by omega);refine ⟨L++[a],by simp [h1],fun i b c=> ?_⟩;by_cases hi:i < L.length
  .rw [Oh hi] at c;exact d i b c
  .rw [OV (by omega)] at c;have:i - L.length=0:=by
    cases e:i - L.length with
    | zero=>rfl
    | succ k=>rw [e] at c;simp at c
   rw [this] at c;simp at c;subst c;have:i=n:=by omega
   rw [this];exact f
theorem CL {agg:Bool} {cs:List AV} (ho:eI cs=true) (h:agg=false->cs.length=1):(AJ agg cs).cells=cs:=by
 cases agg with
 | true=>rfl
 | false=>
  have h:=h rfl
  match cs,h,ho with
  | [v],_,ho=>
   simp only [VM.eI,Bool.and_true] at ho;show v.cells=[v];cases v <;> first | rfl | (cases ho;done)
theorem xq {agg:Bool} {cs:List AV} (a:bx cs=true) (h:agg=false->cs.length=1):VM.bare (AJ agg cs)=true:=by
 cases agg with
 | true=>exact a
 | false=>
  have h:=h rfl
  match cs,h,a with
  | [v],_,a=>
   rw [bw] at a;simp only [N0] at a;exact a.1
theorem uw {g:Gh} {z b:Nat} {agg:Bool}: ∀(L:List (List AV)) (o:Nat),(∀i a,L[i]? =some a->a.length=z/\eI a=true/\(agg=false->a.length=1)/\ig g a b (o+i * z))->eR g z (L.map (AJ agg)) b o
 | [],_,_=>by simp [eR]
 | a::L,o,h=>by
  have h0:=h 0 a rfl;rw [Od,fS,CL h0.2.1 h0.2.2.1];refine ⟨h0.1,by simpa using h0.2.2.2,uw L (o+z) fun i a' hi=> ?_⟩;have:=h (i+1) a' (by simpa using hi);refine ⟨this.1,this.2.1,this.2.2.1, ?_⟩;have e:o+(i+1) * z=o+z+i * z:=by rw [Nat.add_mul];omega
  rw [<- e];exact this.2.2.2
theorem tH {agg:Bool}: ∀(L:List (List AV)),(∀a∈L,bx a=true/\(agg=false->a.length=1))->bx (L.map (AJ agg))=true
 | [],_=>rfl
 | a::L,h=>by
  rw [Od,bw,xq (h a (by simp)).1 (h a (by simp)).2,tH L fun a b=>h a (by simp [b])];rfl
section
variable {H:Type} {enc:TypeId×Value->H} {P:Program} {w:World} {sp:Nat->Bool} {held:Bool} {S:List TypeId}
theorem yH {n:Nat} (ih: ∀t cs d ps,xY S t=true->DataW.trod enc P w 0 sp held n t cs=some (d,ps)-> ∃as,lx P n t as/\GK P w (fV P t) (P.cellsOf t) as cs):
  ∀(fs:List Field) (off:Nat) (cs:List Value) (xs:List (DataW H×List MemPlace)),(fs.all fun f=>xY S f.type)=true->Bw P cs.length off fs=true->
   (fs.mapM fun f=>DataW.trod enc P w 0 sp held n f.type ((cs.drop f.offset).take (P.cellsOf f.type)))=some xs->off<=cs.length->
   ∃as,wZ (lx P n) fs as/\RL (eB w) as (cs.drop off)/\bx as=true/\eI as=true/\ ∀x∈cs.drop off,x.oneCell'=true
 | [],off,cs,xs,_,h,_,j=>by
  have:off=cs.length:=NZ h;subst this;refine ⟨[],rfl, ?_,rfl,rfl, ?_⟩
  .simp [List.drop_length,RL]
  .simp [List.drop_length]
 | f::fs,off,cs,xs,e,h,m,j=>by
  simp only [Pm,N0] at e;simp only [Bw,N0] at h;have ho:f.offset=off:=NZ h.1;subst ho;simp only [List.mapM_cons,Option.bind_eq_bind,OB] at m;obtain ⟨⟨d,ps⟩,h1,ys,o,_⟩:=m;obtain ⟨a,p,hA⟩:=ih _ _ _ _ e.1 h1;have hlen:f.offset+P.cellsOf f.type<=cs.length:=by
   have:=hA.len;rw [Oa,N3] at this;omega
  obtain ⟨b,q,r,k,l,i⟩:=yH ih fs (f.offset+P.cellsOf f.type) cs ys e.2 h.2 o hlen;have c:cs.drop f.offset=(cs.drop f.offset).take (P.cellsOf f.type)++cs.drop (f.offset+P.cellsOf f.type):=by
   rw [<- O8];exact (OY _ _).symm
  refine ⟨a++b,⟨a,b,rfl,p,q⟩, ?_, ?_, ?_, ?_⟩
  .rw [c];exact df hA.rel r
  .rw [eu,hA.bare,k];rfl
  .rw [yq,hA.eI,l];rfl
  .intro x g;rw [c] at g;rcases N9.1 g with g | g
   .exact hA.one x g
   .exact i x g
theorem Es (r: ∀b,sp b=true) (hS: ∀t,xY S t=true->wH P S t=true): ∀(n:Nat) (t:TypeId) (cs:List Value) (d:DataW H) (ps:List MemPlace),xY S t=true->DataW.trod enc P w 0 sp held n t cs=some (d,ps)->
  ∃as,lx P n t as/\GK P w (fV P t) (P.cellsOf t) as cs
 | 0,_,_,_,_,_,h=>by simp [DataW.trod] at h
 | n+1,t,cs,d,ps,F,h=>by
  have c:=hS t F;unfold wH at c;have flat: ∀{v:AV} {x:Value},fV P t=false->(P.cellsOf t).beq 1=true->R (eB w) v x->VM.bare v=true->VM.one v=true->x.oneCell'=true->GK P w (fV P t) (P.cellsOf t) [v] [x]:=fun u E N G ho O=>
   ⟨IJ N,by simp [bw,G];rfl,by simp [VM.eI,ho],by simpa using O,(NZ E).symm,fun _=>rfl⟩
  simp only [DataW.trod] at h;split at h
  .rename_i b f;rw [f] at c;exact ⟨[.bool b],by simp only [lx,f];exact ⟨b,rfl⟩,flat (by simp [fV,f]) c (by simp only [R]) rfl rfl rfl⟩
  .rename_i k Q m f;rw [f] at c;split at h
   .rename_i T;obtain ⟨rfl,A⟩:=T;simp only [Lit.wf,N0,OI] at A;exact ⟨[.int Q m],by simp only [lx,f];exact ⟨m,rfl,A⟩,flat (by simp [fV,f]) c (by simp only [R]) rfl rfl rfl⟩
   .cases h
  .rename_i f;rw [f] at c;cases c
  .rename_i s f;rw [f] at c;split at h
   .rename_i hl;refine ⟨[.str s.data.toList],by simp only [lx,f];exact ⟨_,rfl,by rw [OK];exact hl⟩,flat (by simp [fV,f]) c ?_ rfl rfl rfl⟩;simp only [R]
   .cases h
  .rename_i f;rw [f] at c;cases c
  .rename_i f;rw [f] at c;cases c
  .rename_i f;rw [f] at c;simp only [N0] at c;exact ⟨[.aG],by simp [lx,f],flat (by simp [fV,f]) c.1 (by simp only [R]) rfl rfl rfl⟩
  .rename_i e a len cap f;rw [f] at c;simp only [N0] at c;obtain ⟨E,U,I⟩:=c;have I:=N4 I;have u:fV P t=false:=by simp [fV,f]
   split at h
   .rename_i G;simp only [OB,OD] at h;obtain ⟨elems,B,rest,g,_⟩:=h;have key: ∀i,i < len-> ∃x cs',w.cells? 0 (a.add (i * P.cellsOf e)) (P.cellsOf e)=some cs'/\DataW.trod enc P w 0 sp held n e cs'=some x:=by
     intro i hi;have hl:=mapM_some_length B;rw [List.length_range] at hl;have:=mapM_some_get B i i (by simp [hi]);rw [Oj (by omega)] at this;simp only [OB] at this;obtain ⟨cs',h1,l⟩:=this;exact ⟨_,cs',h1,l⟩
    have spot: ∀x cs',w.cells? 0 (a.add (0 * P.cellsOf e)) (P.cellsOf e)=some cs'->DataW.trod enc P w 0 sp held n e cs'=some x->a.spot=none:=by
     intro x cs' h1 _;have l:=World.cells?_some h1;have z:=l.2.2 0 (by omega);have V:(a.add (0 * P.cellsOf e)).add 0=a:=by simp [Addr.add]
     rw [V,Oj (by omega)] at z;exact World.cell?_spot z
    have sl:a.spot=none-> ∃as,lx P (n+1) t as/\GK P w (fV P t) (P.cellsOf t) as [.slice (some a) len cap]:=by
     intro hs;obtain ⟨b,o,s⟩:=a;dsimp only at hs;subst hs;have each: ∀i,i < len-> ∃as,lx P n e as/\as.length=P.cellsOf e/\VM.eI as=true/\bx as=true/\(fV P e=false->as.length=1)/\ig (eB w) as b (o+i * P.cellsOf e):=by
      intro i hi;obtain ⟨x,cs',h1,l⟩:=key i hi;obtain ⟨as,hA,y⟩:=Es r hS n e cs' x.1 x.2 U l;refine ⟨as,hA,by rw [<- cD y.rel,y.len],y.eI,y.bare,y.agg,cF y.rel fun j v J=>⟨?_,y.one v (Ob J)⟩⟩;have z:=World.cells?_some h1;have W:j < P.cellsOf e:=by
       have:=(Ph.1 J).1;omega
      have h4:=z.2.2 j W;rw [Addr.dt,Addr.dt,J] at h4;exact h4
     obtain ⟨L,hL,p⟩:=qp len each;have q: ∀a∈L,∃i:Nat,L[i]? =some a:=fun a C=>List.getElem?_of_mem C;refine ⟨[.sl (P.cellsOf e) (L.map (AJ (fV P e))) .wide], ?_,flat u E ?_ rfl rfl rfl⟩
     .simp only [lx,f];refine .inr (.inr ⟨L,rfl,by omega,fun a C=> ?_⟩);obtain ⟨i,hi⟩:=q a C;exact (p i a hi).1
     .simp only [R,Ok,hL];refine ⟨tH L fun a C=> ?_,b,o,cap,rfl,G.2.1,I,uw L o fun i a hi=> ?_,trivial⟩
      .obtain ⟨i,hi⟩:=q a C;exact ⟨(p i a hi).2.2.2.1,(p i a hi).2.2.2.2.1⟩
      .have:=p i a hi;exact ⟨this.2.1,this.2.2.1,this.2.2.2.2.1,this.2.2.2.2.2⟩
    by_cases D:len=0
    .by_cases K:cap=0
     .subst D K;exact ⟨[.es],by simp [lx,f],flat u E (by simp only [R];exact ⟨a,rfl⟩) rfl rfl rfl⟩
     .rw [r,if_pos rfl] at g;have hl:=mapM_some_length g;rw [List.length_range] at hl;have:=mapM_some_get g 0 0 (List.getElem?_range (by omega));rw [Oj (by omega)] at this;obtain ⟨cs',h1,l⟩:=OB.1 this;subst D;exact sl (spot _ cs' h1 l)
    .obtain ⟨x,cs',h1,l⟩:=key 0 (by omega);exact sl (spot _ cs' h1 l)
   .cases h
  .rename_i _ fs f;rw [f] at c;simp only [N0] at c;split at h
   .rename_i hl;simp only [OD] at h;obtain ⟨xs,M,_⟩:=h;obtain ⟨as,h1,l,z,h4,X⟩:=yH (Es r hS n) fs.toList 0 _ xs c.1 (by rw [hl];exact c.2) M (O4 _);refine ⟨as,by simp only [lx,f];exact h1,⟨by simpa using l,z,h4,by simpa using X,hl,fun hf=> ?_⟩⟩;simp [fV,f] at hf
   .cases h
  all_goals first | (cases h;done) | skip
  all_goals (rename_i f;first | (rw [f] at c;cases c;done) | skip)
end
end Go.VM
