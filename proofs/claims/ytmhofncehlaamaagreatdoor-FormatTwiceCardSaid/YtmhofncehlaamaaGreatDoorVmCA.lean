/-
  (A part of the proof: ArgIn.)
-/
import Derived.Test.YtmhofncehlaamaaGreatDoorVmAA
import Derived.Test.YtmhofncehlaamaaGreatDoorVmBB
import Derived.DataReads
import Derived.DataElems
set_option linter.unusedSimpArgs false
namespace Go.VM
open Go.RowKit Go.ChangeShapes
def ff (P:Program) (t:TypeId):Bool:=
 match P.underlying t with
 | some (.struct _)=>true
 | _=>false
def Gb (agg:Bool) (cs:List AV):AV:=
 match agg with
 | true=> .agg cs
 | false=>match cs with
  | [v]=>v
  | _=>undef
def GX (P:Program) (n:Nat):Nat→List Field→Bool
 | off,[]=>off.beq n
 | off,f::fs=>f.offset.beq off&&GX P n (off+P.cellsOf f.type) fs
def CL (S:List TypeId) (t:TypeId):Bool:=S.any fun u=>Nat.beq u t
def CD (P:Program) (S:List TypeId) (t:TypeId):Bool:=
 match P.underlying t with
 | some .bool=>(P.cellsOf t).beq 1
 | some (.int _)=>(P.cellsOf t).beq 1
 | some .string=>(P.cellsOf t).beq 1
 | some (.slice e)=>(P.cellsOf t).beq 1&&(CL S e&&Nat.ble 1 (P.cellsOf e))
 | some (.struct fs)=>fs.toList.all (fun f=>CL S f.type)&&GX P (P.cellsOf t) 0 fs.toList
 | _=>false
def Cq (A:TypeId→List AV→Prop):List Field→List AV→Prop
 | [],as=>as=[]
 | f::fs,as=> ∃a b,as=a++b∧A f.type a∧Cq A fs b
def nA (P:Program):Nat→TypeId→List AV→Prop
 | 0,_,_=>False
 | n+1,t,as=>
  match P.underlying t with
  | some .bool=> ∃b,as=[.bool b]
  | some (.int k)=> ∃m,as=[.int k m]∧k.min≤m∧m≤k.max
  | some .string=> ∃s,as=[.str s]∧s.length≤maxLen
  | some (.slice e)=>as=[.aG]∨as=[.es]∨ ∃L:List (List AV),as=[.sl (P.cellsOf e) (L.map (Gb (ff P e))) .wide]∧L.length≤maxLen∧ ∀a∈L,nA P n e a
  | some (.struct fs)=>Cq (nA P n) fs.toList as
  | _=>False
structure Mq (P:Program) (w:World) (agg:Bool) (z:Nat) (as:List AV) (cs:List Value):Prop where
 rel:RL (kY w) as cs
 bare:bx as=true
 gj:gj as=true
 one: ∀x∈cs,x.oneCell'=true
 len:cs.length=z
 agg:agg=false→as.length=1
theorem QM {g:Gh} {v:AV} {x:Value} (h:R g v x):RL g [v] [x]:=cp h fP
theorem Et (l m:List AV):gj (l++m)=(gj l&&gj m):=by
 induction l with
 | nil=>rfl
 | cons v l ih=>simp [gj,ih,Bool.and_assoc]
theorem vt {α:Type} {Q:Nat→α→Prop}: ∀(n:Nat),(∀i,i < n→ ∃a,Q i a)→ ∃L:List α,L.length=n∧ ∀i a,L[i]? =some a→Q i a
 | 0,_=>⟨[],rfl,fun _ _ h=>by simp at h⟩
 | n+1,h=>by
  obtain ⟨L,h1,h2⟩:=vt n fun i hi=>h i (by omega);obtain ⟨a,ha⟩:=h n (by omega);refine ⟨L++[a],by simp [h1],fun i b hb=> ?_⟩;by_cases hi:i < L.length
  ·rw [VU hi] at hb;exact h2 i b hb
  ·rw [V5 (by omega)] at hb;have:i - L.length=0:=by
    cases e:i - L.length with
    | zero=>rfl
    | succ k=>rw [e] at hb;simp at hb
   rw [this] at hb;simp at hb;subst hb;have:i=n:=by omega
   rw [this];exact ha
theorem Il {agg:Bool} {cs:List AV} (ho:gj cs=true) (h:agg=false→cs.length=1):(Gb agg cs).cells=cs:=by
 cases agg with
 | true=>rfl
 | false=>
  have h:=h rfl
  match cs,h,ho with
  | [v],_,ho=>
   simp only [VM.gj,Wp] at ho;show v.cells=[v];cases v <;> first | rfl | (cases ho;done)
theorem C7 {agg:Bool} {cs:List AV} (hb:bx cs=true) (h:agg=false→cs.length=1):VM.bare (Gb agg cs)=true:=by
 cases agg with
 | true=>exact hb
 | false=>
  have h:=h rfl
  match cs,h,hb with
  | [v],_,hb=>
   rw [bf] at hb;simp only [Vl] at hb;exact hb.1
theorem Ae {g:Gh} {z b:Nat} {agg:Bool}: ∀(L:List (List AV)) (o:Nat),(∀i a,L[i]? =some a→a.length=z∧gj a=true∧(agg=false→a.length=1)∧mi g a b (o+i * z))→gJ g z (L.map (Gb agg)) b o
 | [],_,_=>by simp [gJ]
 | a::L,o,h=>by
  have h0:=h 0 a rfl;rw [Vu,lx,Il h0.2.1 h0.2.2.1];refine ⟨h0.1,by simpa using h0.2.2.2,Ae L (o+z) fun i a' hi=> ?_⟩;have:=h (i+1) a' (by simpa using hi);refine ⟨this.1,this.2.1,this.2.2.1, ?_⟩;have e:o+(i+1) * z=o+z+i * z:=by rw [Nat.add_mul];omega
  rw [← e];exact this.2.2.2
theorem zh {agg:Bool}: ∀(L:List (List AV)),(∀a∈L,bx a=true∧(agg=false→a.length=1))→bx (L.map (Gb agg))=true
 | [],_=>rfl
 | a::L,h=>by
  rw [Vu,bf,C7 (h a (by simp)).1 (h a (by simp)).2,zh L fun a ha=>h a (by simp [ha])];rfl
section
variable {H:Type} {enc:TypeId×Value→H} {P:Program} {w:World} {sp:Nat→Bool} {held:Bool} {S:List TypeId}
theorem CY {n:Nat} (ih: ∀t cs d ps,CL S t=true→DataW.trod enc P w 0 sp held n t cs=some (d,ps)→ ∃as,nA P n t as∧Mq P w (ff P t) (P.cellsOf t) as cs):
  ∀(fs:List Field) (off:Nat) (cs:List Value) (xs:List (DataW H×List MemPlace)),(fs.all fun f=>CL S f.type)=true→GX P cs.length off fs=true→
   (fs.mapM fun f=>DataW.trod enc P w 0 sp held n f.type ((cs.drop f.offset).take (P.cellsOf f.type)))=some xs→off≤cs.length→
   ∃as,Cq (nA P n) fs as∧RL (kY w) as (cs.drop off)∧bx as=true∧gj as=true∧ ∀x∈cs.drop off,x.oneCell'=true
 | [],off,cs,xs,_,ht,_,hle=>by
  have:off=cs.length:=Vq ht;subst this;refine ⟨[],rfl, ?_,rfl,rfl, ?_⟩
  ·simp [List.drop_length,RL]
  ·simp [List.drop_length]
 | f::fs,off,cs,xs,hin,ht,hm,hle=>by
  simp only [WO,Vl] at hin;simp only [GX,Vl] at ht;have ho:f.offset=off:=Vq ht.1;subst ho;simp only [List.mapM_cons,Option.bind_eq_bind,Ws] at hm;obtain ⟨⟨d,ps⟩,h1,ys,h2,_⟩:=hm;obtain ⟨a,ha,hA⟩:=ih _ _ _ _ hin.1 h1;have hlen:f.offset+P.cellsOf f.type≤cs.length:=by
   have:=hA.len;rw [VB,VF] at this;omega
  obtain ⟨b,hb,hr,hbb,hbo,hone⟩:=CY ih fs (f.offset+P.cellsOf f.type) cs ys hin.2 ht.2 h2 hlen;have hsplit:cs.drop f.offset=(cs.drop f.offset).take (P.cellsOf f.type)++cs.drop (f.offset+P.cellsOf f.type):=by
   rw [← WK];exact (Wl _ _).symm
  refine ⟨a++b,⟨a,b,rfl,ha,hb⟩, ?_, ?_, ?_, ?_⟩
  ·rw [hsplit];exact dN hA.rel hr
  ·rw [fH,hA.bare,hbb];rfl
  ·rw [Et,hA.gj,hbo];rfl
  ·intro x hx;rw [hsplit] at hx;rcases VE.1 hx with hx | hx
   ·exact hA.one x hx
   ·exact hone x hx
theorem Lz (hsp: ∀b,sp b=true) (hS: ∀t,CL S t=true→CD P S t=true): ∀(n:Nat) (t:TypeId) (cs:List Value) (d:DataW H) (ps:List MemPlace),CL S t=true→DataW.trod enc P w 0 sp held n t cs=some (d,ps)→
  ∃as,nA P n t as∧Mq P w (ff P t) (P.cellsOf t) as cs
 | 0,_,_,_,_,_,h=>by simp [DataW.trod] at h
 | n+1,t,cs,d,ps,hin,h=>by
  have hok:=hS t hin;unfold CD at hok;have flat: ∀{v:AV} {x:Value},ff P t=false→(P.cellsOf t).beq 1=true→R (kY w) v x→VM.bare v=true→VM.one v=true→x.oneCell'=true→Mq P w (ff P t) (P.cellsOf t) [v] [x]:=fun hst hc hr hb ho hx=>
   ⟨QM hr,by simp [bf,hb];rfl,by simp [VM.gj,ho],by simpa using hx,(Vq hc).symm,fun _=>rfl⟩
  simp only [DataW.trod] at h;split at h
  ·rename_i b hu;rw [hu] at hok;exact ⟨[.bool b],by simp only [nA,hu];exact ⟨b,rfl⟩,flat (by simp [ff,hu]) hok (by simp only [R]) rfl rfl rfl⟩
  ·rename_i k k' m hu;rw [hu] at hok;split at h
   ·rename_i hk;obtain ⟨rfl,hwf⟩:=hk;simp only [Lit.wf,Vl,V1] at hwf;exact ⟨[.int k' m],by simp only [nA,hu];exact ⟨m,rfl,hwf⟩,flat (by simp [ff,hu]) hok (by simp only [R]) rfl rfl rfl⟩
   ·cases h
  ·rename_i hu;rw [hu] at hok;cases hok
  ·rename_i s hu;rw [hu] at hok;split at h
   ·rename_i hl;refine ⟨[.str s.data.toList],by simp only [nA,hu];exact ⟨_,rfl,by rw [Wn];exact hl⟩,flat (by simp [ff,hu]) hok ?_ rfl rfl rfl⟩;simp only [R]
   ·cases h
  ·rename_i hu;rw [hu] at hok;cases hok
  ·rename_i hu;rw [hu] at hok;cases hok
  ·rename_i hu;rw [hu] at hok;simp only [Vl] at hok;exact ⟨[.aG],by simp [nA,hu],flat (by simp [ff,hu]) hok.1 (by simp only [R]) rfl rfl rfl⟩
  ·rename_i e a len cap hu;rw [hu] at hok;simp only [Vl] at hok;obtain ⟨hc,he,hz⟩:=hok;have hz:=VA hz;have hst:ff P t=false:=by simp [ff,hu]
   split at h
   ·rename_i hb;simp only [Ws,VO] at h;obtain ⟨elems,hel,rest,hrest,_⟩:=h;have key: ∀i,i < len→ ∃x cs',w.cells? 0 (a.add (i * P.cellsOf e)) (P.cellsOf e)=some cs'∧DataW.trod enc P w 0 sp held n e cs'=some x:=by
     intro i hi;have hl:=mapM_some_length hel;rw [List.length_range] at hl;have:=mapM_some_get hel i i (by simp [hi]);rw [VG (by omega)] at this;simp only [Ws] at this;obtain ⟨cs',h1,h2⟩:=this;exact ⟨_,cs',h1,h2⟩
    have spot: ∀x cs',w.cells? 0 (a.add (0 * P.cellsOf e)) (P.cellsOf e)=some cs'→DataW.trod enc P w 0 sp held n e cs'=some x→a.spot=none:=by
     intro x cs' h1 _;have h2:=World.cells?_some h1;have h3:=h2.2.2 0 (by omega);have e0:(a.add (0 * P.cellsOf e)).add 0=a:=by simp [Addr.add]
     rw [e0,VG (by omega)] at h3;exact World.cell?_spot h3
    have sl:a.spot=none→ ∃as,nA P (n+1) t as∧Mq P w (ff P t) (P.cellsOf t) as [.slice (some a) len cap]:=by
     intro hs;obtain ⟨b,o,s⟩:=a;dsimp only at hs;subst hs;have each: ∀i,i < len→ ∃as,nA P n e as∧as.length=P.cellsOf e∧VM.gj as=true∧bx as=true∧(ff P e=false→as.length=1)∧mi (kY w) as b (o+i * P.cellsOf e):=by
      intro i hi;obtain ⟨x,cs',h1,h2⟩:=key i hi;obtain ⟨as,hA,hI⟩:=Lz hsp hS n e cs' x.1 x.2 he h2;refine ⟨as,hA,by rw [← cW hI.rel,hI.len],hI.gj,hI.bare,hI.agg,dj hI.rel fun j v hv=>⟨?_,hI.one v (VQ hv)⟩⟩;have h3:=World.cells?_some h1;have hj:j < P.cellsOf e:=by
       have:=(WM.1 hv).1;omega
      have h4:=h3.2.2 j hj;rw [Addr.eB,Addr.eB,hv] at h4;exact h4
     obtain ⟨L,hL,hLa⟩:=vt len each;have hmem: ∀a∈L,∃i:Nat,L[i]? =some a:=fun a ha=>List.getElem?_of_mem ha;refine ⟨[.sl (P.cellsOf e) (L.map (Gb (ff P e))) .wide], ?_,flat hst hc ?_ rfl rfl rfl⟩
     ·simp only [nA,hu];refine .inr (.inr ⟨L,rfl,by omega,fun a ha=> ?_⟩);obtain ⟨i,hi⟩:=hmem a ha;exact (hLa i a hi).1
     ·simp only [R,VL,hL];refine ⟨zh L fun a ha=> ?_,b,o,cap,rfl,hb.2.1,hz,Ae L o fun i a hi=> ?_,trivial⟩
      ·obtain ⟨i,hi⟩:=hmem a ha;exact ⟨(hLa i a hi).2.2.2.1,(hLa i a hi).2.2.2.2.1⟩
      ·have:=hLa i a hi;exact ⟨this.2.1,this.2.2.1,this.2.2.2.2.1,this.2.2.2.2.2⟩
    by_cases hl0:len=0
    ·by_cases hc0:cap=0
     ·subst hl0 hc0;exact ⟨[.es],by simp [nA,hu],flat hst hc (by simp only [R];exact ⟨a,rfl⟩) rfl rfl rfl⟩
     ·rw [hsp,if_pos rfl] at hrest;have hl:=mapM_some_length hrest;rw [List.length_range] at hl;have:=mapM_some_get hrest 0 0 (List.getElem?_range (by omega));rw [VG (by omega)] at this;obtain ⟨cs',h1,h2⟩:=Ws.1 this;subst hl0;exact sl (spot _ cs' h1 h2)
    ·obtain ⟨x,cs',h1,h2⟩:=key 0 (by omega);exact sl (spot _ cs' h1 h2)
   ·cases h
  ·rename_i _ fs hu;rw [hu] at hok;simp only [Vl] at hok;split at h
   ·rename_i hl;simp only [VO] at h;obtain ⟨xs,hxs,_⟩:=h;obtain ⟨as,h1,h2,h3,h4,h5⟩:=CY (Lz hsp hS n) fs.toList 0 _ xs hok.1 (by rw [hl];exact hok.2) hxs (Wc _);refine ⟨as,by simp only [nA,hu];exact h1,⟨by simpa using h2,h3,h4,by simpa using h5,hl,fun hf=> ?_⟩⟩;simp [ff,hu] at hf
   ·cases h
  all_goals first | (cases h;done) | skip
  all_goals (rename_i hu;first | (rw [hu] at hok;cases hok;done) | skip)
end
end Go.VM
