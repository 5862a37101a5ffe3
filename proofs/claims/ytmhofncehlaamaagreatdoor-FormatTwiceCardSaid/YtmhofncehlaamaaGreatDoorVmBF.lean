/-
  (A part of the proof: Utf, Utf2, Kit3, Kit4, Kit5, LaySpec, LexSpec, ParseSpec, ParseTot, LexLoc, LexLoc2, LexLoc3, LexPre, RelexSpec, ParseText, ParseDep, RelexSpec2, TokLen, ParseTwo, ParseGlue, ParseNorm, AstTree, AstKit, FormatSpec, LexSw, LexSt, ParseShape, ParseClose, ParseHot, ParseMap, ParseGen, ParseBl, ParseGen2, ParseTwo2, ParseBrk, LexForm, FormIt, FormTok, FormTok2, FormTok3, FormTok4, FormSz, FormRec, FormMay, LayNes.)
-/
import Derived.Test.YtmhofncehlaamaaGreatDoorVmAA
import Derived.Test.YtmhofncehlaamaaGreatDoorVmBD
import Derived.Test.YtmhofncehlaamaaGreatDoorVmAJ
import Derived.Lib.TrimUEq
import Derived.Lib.ValidU
import Derived.Lib.AtoiAll
set_option linter.unusedSimpArgs false
namespace Go.VM
open Go.Lib
def mo (n b0 b1 b2 b3:Nat):Nat:=
 if b0 < 128 then 1
 else if 194≤b0∧b0≤223 then (if n < 2∨b1 < 128∨191 < b1 then 0 else 2)
 else if 224≤b0∧b0≤239 then (if n < 3∨b1 < 128∨191 < b1∨b2 < 128∨191 < b2∨(b0=224∧b1 < 160)∨(b0=237∧159 < b1) then 0 else 3)
 else if 240≤b0∧b0≤244 then (if n < 4∨b1 < 128∨191 < b1∨b2 < 128∨191 < b2∨b3 < 128∨191 < b3∨(b0=240∧b1 < 144)∨(b0=244∧143 < b1) then 0 else 4)
 else 0
set_option maxHeartbeats 2000000 in
theorem Gm {n b0 b1 b2 b3:Nat} (h0:b0 < 256) (h1:b1 < 256) (h2:b2 < 256) (h3:b3 < 256):
  (mo n b0 b1 b2 b3=0∧decodeN n b0 b1 b2 b3=(65533,1))∨(mo n b0 b1 b2 b3=1∧b0 < 128∧decodeN n b0 b1 b2 b3=(b0,1))∨(2≤mo n b0 b1 b2 b3∧(decodeN n b0 b1 b2 b3).2=mo n b0 b1 b2 b3):=by
 by_cases c0:b0 < 128
 ·refine .inr (.inl ⟨?_,c0, ?_⟩)
  ·unfold mo;rw [if_pos c0]
  ·unfold decodeN;rw [if_pos c0]
 by_cases z:mo n b0 b1 b2 b3=0
 ·refine .inl ⟨z, ?_⟩;unfold mo at z;unfold decodeN
  repeat' split
  all_goals first | rfl | (exfalso;(repeat' (split at z));all_goals omega)
 ·have hc:(mo n b0 b1 b2 b3=2∧(194≤b0∧b0≤223)∧¬ (n < 2∨b1 < 128∨191 < b1))∨
    (mo n b0 b1 b2 b3=3∧(224≤b0∧b0≤239)∧¬ (n < 3∨b1 < 128∨191 < b1∨b2 < 128∨191 < b2∨(b0=224∧b1 < 160)∨(b0=237∧159 < b1)))∨
    (mo n b0 b1 b2 b3=4∧(240≤b0∧b0≤244)∧¬ (n < 4∨b1 < 128∨191 < b1∨b2 < 128∨191 < b2∨b3 < 128∨191 < b3∨(b0=240∧b1 < 144)∨(b0=244∧143 < b1))):=by
   unfold mo at z ⊢;rw [if_neg c0] at z ⊢;by_cases c1:194≤b0∧b0≤223
   ·rw [if_pos c1] at z ⊢;by_cases d:n < 2∨b1 < 128∨191 < b1
    ·rw [if_pos d] at z;omega
    ·rw [if_neg d];exact .inl ⟨rfl,c1,d⟩
   rw [if_neg c1] at z ⊢;by_cases c2:224≤b0∧b0≤239
   ·rw [if_pos c2] at z ⊢;by_cases d:n < 3∨b1 < 128∨191 < b1∨b2 < 128∨191 < b2∨(b0=224∧b1 < 160)∨(b0=237∧159 < b1)
    ·rw [if_pos d] at z;omega
    ·rw [if_neg d];exact .inr (.inl ⟨rfl,c2,d⟩)
   rw [if_neg c2] at z ⊢;by_cases c3:240≤b0∧b0≤244
   ·rw [if_pos c3] at z ⊢;by_cases d:n < 4∨b1 < 128∨191 < b1∨b2 < 128∨191 < b2∨b3 < 128∨191 < b3∨(b0=240∧b1 < 144)∨(b0=244∧143 < b1)
    ·rw [if_pos d] at z;omega
    ·rw [if_neg d];exact .inr (.inr ⟨rfl,c3,d⟩)
   ·rw [if_neg c3] at z;omega
  refine .inr (.inr ?_);rcases hc with ⟨e,c,d⟩ | ⟨e,c,d⟩ | ⟨e,c,d⟩
  all_goals
   rw [e];refine ⟨by omega, ?_⟩;unfold decodeN
   repeat' split
   all_goals first | rfl | (exfalso;omega)
theorem Px {n b0 b1 b2 b3:Nat} (h:1≤n):mo n b0 b1 b2 b3≤n:=by
 unfold mo
 repeat' split
 all_goals omega
def gF (l:List UInt8):Nat:=mo l.length (l.getD 0 0).toNat (l.getD 1 0).toNat (l.getD 2 0).toNat (l.getD 3 0).toNat
theorem oq (l:List UInt8):(gF l=0∧decodeL l=(65533,1))∨(gF l=1∧(l.getD 0 0).toNat < 128∧decodeL l=((l.getD 0 0).toNat,1))∨(2≤gF l∧(decodeL l).2=gF l):=by
 unfold gF;rw [decodeL_N];exact Gm (UInt8.toNat_lt _) (UInt8.toNat_lt _) (UInt8.toNat_lt _) (UInt8.toNat_lt _)
theorem rQ {l:List UInt8} (h:l≠[]):gF l≤l.length:=Px (W6.2 h)
def ox:Nat→List UInt8→Bool
 | 0,_=>true
 | n+1,l=>if l=[] then true else if gF l=0 then false else ox n (l.drop (gF l))
theorem uD: ∀(n:Nat) (l:List UInt8),validGoD n l=ox n l
 | 0,_=>rfl
 | n+1,l=>by
  unfold validGoD ox;by_cases h:l=[]
  ·rw [if_pos h,if_pos h]
  rw [if_neg h,if_neg h];rcases oq l with ⟨h1,h2⟩ | ⟨h1,h2,h3⟩ | ⟨h1,h2⟩
  ·have hd:(decodeL l).1=65533∧(decodeL l).2=1:=by rw [h2];exact ⟨rfl,rfl⟩
   rw [if_pos hd,if_pos h1]
  ·have hd:¬ ((decodeL l).1=65533∧(decodeL l).2=1):=by rw [h3];show ¬ ((l.getD 0 0).toNat=65533∧ _);omega
   have hz:¬ gF l=0:=by omega
   rw [if_neg hd,if_neg hz,h3,h1];exact uD n _
  ·have hd:¬ ((decodeL l).1=65533∧(decodeL l).2=1):=by omega
   have hz:¬ gF l=0:=by omega
   rw [if_neg hd,if_neg hz,h2];exact uD n _
def bO (l:List UInt8):Bool:=ox l.length l
theorem Ig (l:List UInt8):validD l=bO l:=uD _ _
theorem vq: ∀(n m:Nat) (l:List UInt8),l.length≤n→l.length≤m→ox n l=ox m l
 | 0,0,_,_,_=>rfl
 | 0,m+1,l,h,_=>by
  have:l=[]:=V8 (by omega);subst this;simp [ox]
 | n+1,0,l,_,h=>by
  have:l=[]:=V8 (by omega);subst this;simp [ox]
 | n+1,m+1,l,hn,hm=>by
  unfold ox;by_cases h:l=[]
  ·rw [if_pos h,if_pos h]
  rw [if_neg h,if_neg h];by_cases hz:gF l=0
  ·rw [if_pos hz,if_pos hz]
  ·rw [if_neg hz,if_neg hz,vq n m _ (by rw [VF];omega) (by rw [VF];omega)]
theorem iN {l:List UInt8} (h:l≠[]):bO l=if gF l=0 then false else bO (l.drop (gF l)):=by
 unfold bO;have hl:0 < l.length:=W6.2 h;obtain ⟨n,hn⟩: ∃n,l.length=n+1:=⟨l.length - 1,by omega⟩;rw [hn];show (if l=[] then true else _)= _;rw [if_neg h];by_cases hz:gF l=0
 ·rw [if_pos hz,if_pos hz]
 ·rw [if_neg hz,if_neg hz];exact vq _ _ _ (by rw [VF];omega) (Vn _)
def dZ (b:UInt8):Bool:=decide (b.toNat < 128)||decide (b.toNat > 191)
def chars (s:List UInt8):Nat:=s.countP dZ
theorem wL (s:List UInt8):chars s≤s.length:=List.countP_le_length
theorem II {l:List UInt8} (h:l≠[]) (hz:gF l≠0):chars l=1+chars (l.drop (gF l)):=by
 have hle:=rQ h
 match l,h with
 | [b0],_=>
  have h1:gF [b0]=1:=by simp only [Wj] at hle;omega
  have hb:b0.toNat < 128:=by
   rcases oq [b0] with ⟨h2,_⟩ | ⟨_,h2,_⟩ | ⟨h2,_⟩
   ·omega
   ·exact h2
   ·omega
  rw [h1];simp [chars,dZ,hb]
 | b0::b1::l,_=>
  unfold gF at hz hle ⊢;unfold mo at hz hle ⊢;simp only [List.getD_cons_zero,List.getD_cons_succ] at hz hle ⊢;by_cases c0:b0.toNat < 128
  ·rw [if_pos c0];simp [chars,dZ,c0,WE]
  rw [if_neg c0] at hz hle ⊢;by_cases c1:194≤b0.toNat∧b0.toNat≤223
  ·rw [if_pos c1] at hz hle ⊢;by_cases d:(b0::b1::l).length < 2∨b1.toNat < 128∨191 < b1.toNat
   ·rw [if_pos d] at hz;omega
   rw [if_neg d];have e0:dZ b0=true:=by simp only [dZ,V2,V1];omega
   have e1:dZ b1=false:=by simp only [dZ,V0,Wt];omega
   simp [chars,e0,e1,WE]
  rw [if_neg c1] at hz hle ⊢
  match l with
  | []=>
   exfalso;simp only [Vh,Vj] at hz hle;revert hz
   repeat' split
   all_goals omega
  | [b2]=>
   simp only [Vh,Vj,List.getD_cons_zero] at hz hle ⊢;by_cases c2:224≤b0.toNat∧b0.toNat≤239
   ·rw [if_pos c2] at hz hle ⊢;by_cases d:0+1+1+1 < 3∨b1.toNat < 128∨191 < b1.toNat∨b2.toNat < 128∨191 < b2.toNat∨(b0.toNat=224∧b1.toNat < 160)∨(b0.toNat=237∧159 < b1.toNat)
    ·rw [if_pos d] at hz;omega
    rw [if_neg d];have e0:dZ b0=true:=by simp only [dZ,V2,V1];omega
    have e1:dZ b1=false:=by simp only [dZ,V0,Wt];omega
    have e2:dZ b2=false:=by simp only [dZ,V0,Wt];omega
    simp [chars,e0,e1,e2]
   rw [if_neg c2] at hz hle ⊢;exfalso;revert hz
   repeat' split
   all_goals omega
  | b2::b3::l=>
   simp only [List.getD_cons_zero,List.getD_cons_succ] at hz hle ⊢;by_cases c2:224≤b0.toNat∧b0.toNat≤239
   ·rw [if_pos c2] at hz hle ⊢;by_cases d:(b0::b1::b2::b3::l).length < 3∨b1.toNat < 128∨191 < b1.toNat∨b2.toNat < 128∨191 < b2.toNat∨(b0.toNat=224∧b1.toNat < 160)∨(b0.toNat=237∧159 < b1.toNat)
    ·rw [if_pos d] at hz;omega
    rw [if_neg d];have e0:dZ b0=true:=by simp only [dZ,V2,V1];omega
    have e1:dZ b1=false:=by simp only [dZ,V0,Wt];omega
    have e2:dZ b2=false:=by simp only [dZ,V0,Wt];omega
    simp [chars,e0,e1,e2,WE]
   rw [if_neg c2] at hz hle ⊢;by_cases c3:240≤b0.toNat∧b0.toNat≤244
   ·rw [if_pos c3] at hz hle ⊢;by_cases d:(b0::b1::b2::b3::l).length < 4∨b1.toNat < 128∨191 < b1.toNat∨b2.toNat < 128∨191 < b2.toNat∨b3.toNat < 128∨191 < b3.toNat∨(b0.toNat=240∧b1.toNat < 144)∨(b0.toNat=244∧143 < b1.toNat)
    ·rw [if_pos d] at hz;omega
    rw [if_neg d];have e0:dZ b0=true:=by simp only [dZ,V2,V1];omega
    have e1:dZ b1=false:=by simp only [dZ,V0,Wt];omega
    have e2:dZ b2=false:=by simp only [dZ,V0,Wt];omega
    have e3:dZ b3=false:=by simp only [dZ,V0,Wt];omega
    simp [chars,e0,e1,e2,e3,WE]
   ·rw [if_neg c3] at hz;omega
theorem x9: ∀(n:Nat) (s:ByteArray) (p:Nat),s.size≤p+n→bO (s.data.toList.drop p)=true→runeCountFrom s n p=chars (s.data.toList.drop p)
 | 0,s,p,h,_=>by
  have:s.data.toList.drop p=[]:=List.drop_eq_nil_of_le (by rw [← size_eq];omega);rw [this];rfl
 | n+1,s,p,h,hv=>by
  unfold runeCountFrom;by_cases hp:p < s.size
  ·rw [if_pos hp];have hne:s.data.toList.drop p≠[]:=by
    intro e;have:=Wb List.length e;rw [VF, ← size_eq] at this;simp at this;omega
   rw [iN hne] at hv;by_cases hz:gF (s.data.toList.drop p)=0
   ·rw [if_pos hz] at hv;cases hv
   rw [if_neg hz,WK] at hv;have hw:(Utf8.decode s p).2=gF (s.data.toList.drop p):=by
    rw [← decodeL_drop];rcases oq (s.data.toList.drop p) with ⟨h1,_⟩ | ⟨h1,_,h2⟩ | ⟨_,h2⟩
    ·exact absurd h1 hz
    ·rw [h1,h2]
    ·exact h2
   rw [hw,x9 n s _ (by omega) hv,II hne hz,WK]
  ·rw [if_neg hp];have:s.data.toList.drop p=[]:=List.drop_eq_nil_of_le (by rw [← size_eq];omega);rw [this];rfl
theorem vK {l:List UInt8} (h:bO l=true):runeCountL l=chars l:=by
 have:=x9 l.length ⟨l.toArray⟩ 0 (by simp [ByteArray.size]) (by simpa using h);simpa [runeCountL,runeCount,ByteArray.size] using this
section
variable {β:Type} {O:sy}
theorem eX {f:List AV→cM AV} {args:List AV} {v:AV} (h:f args= .ok v) (st:St) (K:Kv β):cK O (dm (.lib f) args) st K=K v st q0:=by
 simp only [cK,nN,dm,h,pZ,aq]
theorem vb {s:List UInt8} (h:s.length < 9223372036854775807):ik [.str s]= .ok (.int .i64 (runeCountL s)):=by
 simp only [ik,cH.2 h]
theorem u5 {s:List UInt8} (h:s.length≤9223372036854775807):iT [.str s]= .ok (.bool (bO s)):=by
 simp only [iT,VS h,Ig]
theorem CF {s:List UInt8} {n:Nat} (h:s.length * n≤140737488355328) (hn:n≤9223372036854775807):jR [.str s,.int .i64 (n:Int)]= .ok (.str (repeatL s n)):=by
 show (match (s.length * n).ble 140737488355328&&n.ble 9223372036854775807 with | true=> _ | false=> _)= _;rw [VS h,VS hn];rfl
theorem rk (c:UInt8): ∀(s:List UInt8),decide (0≤indexByte s c)=s.any fun b=>b==c
 | []=>rfl
 | b::l=>by
  have ih:=rk c l;unfold indexByte;rw [WH];cases b==c with
  | true=>rfl
  | false=>
   rw [if_neg (by simp),Wu, ← ih];by_cases h:(indexByte l c== -1)=true
   ·rw [if_pos h];have:=eq_of_beq h;rw [this]
   ·rw [if_neg h];have hn:indexByte l c≠ -1:=fun e=>h (by rw [e];rfl);by_cases h0:0≤indexByte l c
    ·rw [WJ h0,WJ (by omega)]
    ·rw [WD h0,WD (by omega)]
theorem wJ (s:List UInt8) (c:UInt8):fE [.str s,.str [c]]= .ok (.bool (s.any fun b=>b==c)):=by
 simp only [fE,rk]
theorem repeatL_one (c:UInt8): ∀(n:Nat),repeatL [c] n=List.replicate n c:=fun n=>by
 have:=repeatL_replicate c 1 n;simpa using this
end
end Go.VM
namespace Go.VM
open Go
@[simp] theorem uh (v:AV):oneOf [v]=v:=id rfl
@[simp] theorem RE (cs:List AV):notNil (.ip cs)=true:=id rfl
@[simp] theorem ju (i o:Nat):notNil (.mp i o)=true:=id rfl
@[simp] theorem ve (a:AV) (l:List AV):(a::l).drop 1=l:=id rfl
@[simp] theorem UQ (a b:AV) (l:List AV):(a::b::l).drop 2=l:=id rfl
@[simp] theorem RV (a b c:AV) (l:List AV):(a::b::c::l).drop 3=l:=id rfl
@[simp] theorem U4 (a b c d:AV) (l:List AV):(a::b::c::d::l).drop 4=l:=id rfl
@[simp] theorem UW (a b c d e:AV) (l:List AV):(a::b::c::d::e::l).drop 5=l:=id rfl
@[simp] theorem Ug (a:AV) (l:List AV):jd 1 true (a::l)=some (.agg [a]):=id rfl
@[simp] theorem uc (a b:AV) (l:List AV):jd 2 true (a::b::l)=some (.agg [a,b]):=id rfl
@[simp] theorem Uw (a b c:AV) (l:List AV):jd 3 true (a::b::c::l)=some (.agg [a,b,c]):=id rfl
@[simp] theorem Bl (a b c d:AV) (l:List AV):jd 4 true (a::b::c::d::l)=some (.agg [a,b,c,d]):=id rfl
@[simp] theorem HT (cs:List AV):AV.cells (.agg cs)=cs:=id rfl
@[simp] theorem RJ (s:List UInt8):AV.cells (.str s)=[.str s]:=id rfl
@[simp] theorem RI (k:IntKind) (n:Int):AV.cells (.int k n)=[.int k n]:=id rfl
@[simp] theorem SI (f:Fn) (a b:List AV):AV.cells (.fn f a b)=[.fn f a b]:=id rfl
@[simp] theorem OU (i:Nat) (o:VM.Obj):apart q0 ⟨[],.made i o⟩=true:=id rfl
@[simp] theorem O4 (i:Nat) (o:VM.Obj):apart ⟨[],.kept⟩ ⟨[],.made i o⟩=true:=id rfl
@[simp] theorem Mi (i:Nat) (o:VM.Obj):apart ⟨[],.kept⟩ ⟨[i],.wrote i o⟩=true:=id rfl
theorem wrapN {n:Nat} (h:n≤9223372036854775807):IntKind.wrap .i64 (n:Int)=(n:Int):=wrap_i64 (by omega) (by omega)
theorem wO {n m:Nat} (h:n+m≤9223372036854775807):IntKind.wrap .i64 ((n:Int)+(m:Int))=((n+m:Nat):Int):=by rw [← Int.natCast_add];exact wrapN h
theorem df {n:Nat} (h:n+1≤9223372036854775807):IntKind.wrap .i64 ((n:Int)+1)=((n+1:Nat):Int):=wO (m:=1) h
theorem Bx {n:Nat} (h:n+2≤9223372036854775807):IntKind.wrap .i64 ((n:Int)+2)=((n+2:Nat):Int):=wO (m:=2) h
theorem JV {n m:Nat} (h:m≤n) (hn:n≤9223372036854775807):IntKind.wrap .i64 ((n:Int) - (m:Int))=((n - m:Nat):Int):=by rw [← wrapN (n:=n - m) (by omega)];congr 1;omega
theorem mY {a b:Nat} (h:a≤b):Nat.ble a b=true:=VS h
theorem px {st st':St} {z:Nat} {e:TypeId} {v:AV} {es:List AV} {but:Nat→Prop} (h:jq st z e v es) (k:aX st st' but) (hb: ∀j,ew v j→¬ but j):jq st' z e v es:=by
 refine ⟨by rw [k.ro];exact VZ h.1 k.h,h.2.1, ?_⟩;rcases h.2.2 with h | h | ⟨j,hv,hg,hr⟩
 ·exact .inl h
 ·exact .inr (.inl h)
 ·exact .inr (.inr ⟨j,hv,k.old _ _ (hb j ⟨_,_,hv⟩) hg,by rw [k.ro];exact hr⟩)
theorem OJ {st:St} {z:Nat} {e:TypeId} {x:AV} {es:List AV} (h:jq st z e x es) {k:Nat} {v:AV} (hk:es[k]? =some v) {β:Type} (st':St) (K:AV→List Nat→Option β):eM z x (k:Int) st' K=K (.ip v.cells) []:=by
 have hlt:k < es.length:=(WM.1 hk).1;have hz:z.beq z=true:=Wx z;have hi:ow (k:Int) es.length=some k:=by
  show (match k.blt es.length with | true=>some k | false=>none)= _;rw [cH.2 hlt]
 have hn:B6 es k=some v:=Bq hk;rcases h.2.2 with ⟨rfl | rfl,rfl⟩ | rfl | ⟨j,rfl,_⟩
 ·simp at hlt
 ·simp at hlt
 ·simp only [eM,H7,hz,hi,hn,aq]
 ·simp only [eM,H7,hz,hi,hn,aq]
theorem Na {st:St} {z:Nat} {e:TypeId} {x:AV} {es:List AV} (h:jq st z e x es) {β:Type} (K:Nat→Option β):fJ x K=K es.length:=by
 rcases h.2.2 with ⟨rfl | rfl,rfl⟩ | rfl | ⟨k,rfl,_⟩ <;> rfl
theorem LV {st:St} {z b:Nat} {e:TypeId} {v:AV} {es:List AV} (w:AV) (h:jq st z e v es) (hr:cZ (es.length+1) ⟨.other,z,b,[],false,false⟩=true):
  ∃v' st',jq st' z e v' (es++[w])∧aX st st' (ew v)∧ ∃x,∀{β:Type} (K:Kv β),eD z b e v [w] st K=K v' st' x:=by
 obtain ⟨v',st',x,e1,e2,e3,_⟩:=qK (b:=b) (new:=[w]) h (by simp) hr;exact ⟨v',st',e2,e3,x,fun K=>mB e1 K⟩
theorem tJ {n z b:Nat} (hn:n≤1000000000) (hb:b≤1000) (hz:1≤z):cZ n ⟨.other,z,b,[],false,false⟩=true:=by
 have:n * b≤1000000000 * 1000:=Xm hn hb;simp only [cZ,mY (show n * b≤70368744177664 by omega),mY (show n≤70368744177664 by omega),mY hz];rfl
theorem xx {st:St} {z:Nat} {e:TypeId} {v:AV} {es:List AV} (h:jq st z e v es): ∃x,bu z x es∧ ∀n,freeze st 0 (n+1) v= .ok x:=by
 rcases h with ⟨_,hl,⟨rfl | rfl,rfl⟩ | rfl | ⟨k,rfl,_,_⟩⟩
 ·exact ⟨.aG,bu.aG,fun _=>rfl⟩
 ·exact ⟨.es,bu.emp,fun _=>rfl⟩
 ·exact ⟨.sl z es .shut,bu.shut hl,fun _=>rfl⟩
 ·exact ⟨.sl z es .wide,bu.wide hl,fun _=>rfl⟩
theorem Lw {st:St} {z:Nat} {e:TypeId} {v u:AV} {es:List AV} (h:jq st z e v es) (hu:Fz 1 u) (hb:bare u=true): ∃x,bu z x es∧ ∀{β:Type} (K:AV→Option β),eZ st 0 (.tup [v,u]) K=K (.tup [x,u]):=by
 obtain ⟨x,hx,e1⟩:=xx h;refine ⟨x,hx,fun K=> ?_⟩;have e2:freeze st 0 100 (.tup [v,u])= .ok (.tup [x,u]):=by
  show (do pure (.tup (← jD (freeze st 0 99) [v,u])):cM AV)= _;have e3:jD (freeze st 0 99) [v,u]= .ok [x,u]:=by
   simp only [jD,e1 98,hu st 0 99 (by omega),ax,aI]
  rw [e3];rfl
 have e3:bare (.tup [x,u])=true:=by
  show (bare x&&(bare u&&true))=true;rw [hx.bare,hb];rfl
 simp only [eZ,e2,e3,aV]
theorem sH {c d:UInt8} (h:c≠d):¬ ((c.toNat:Nat):Int)=(d.toNat:Int):=by
 intro k;have:c.toNat=d.toNat:=by omega
 exact h (WC.1 this)
theorem sw {s:List UInt8} {i:Nat} {c:UInt8} (hlt:i < s.length) (hg:s[i]? =some c):s[i]=c:=by
 have:=VG hlt;rw [hg] at this;exact (WA this).symm
theorem CR {agg:Bool} {β:Type}: ∀{l:List AV} (_: ∀v∈l,∀(K:AV→Option β),HM agg v K=K v) (K:List AV→Option β),lZ agg l K=K l
 | [],_,_=>rfl
 | v::l,h,K=>by
  show HM agg v (fun v'=>lZ agg l fun l'=>K (v'::l'))= _;rw [h v (by simp),CR fun u hu=>h u (Vy _ hu)]
theorem FT {z:Nat} {l:List AV} (h: ∀v∈l,v.cells.length=z):lb z l=true:=by
 refine Wf.2 fun v hv=> ?_;rw [h v hv];exact Wx z
theorem GZ {st:St} {base:Nat} {vs xs:List AV} (h:jD (freeze st base 99) vs= .ok xs) (hb:bx xs=true) {β:Type} (K:AV→Option β):eZ st base (.tup vs) K=K (.tup xs):=by
 have e:freeze st base 100 (.tup vs)= .ok (.tup xs):=by
  show (do pure (.tup (← jD (freeze st base 99) vs)):cM AV)= _;rw [h];rfl
 have e3:bare (.tup xs)=true:=hb;simp only [eZ,e,e3,aV]
theorem fy {g:AV→cM AV} {v x:AV} {vs xs:List AV} (h:g v= .ok x) (hs:jD g vs= .ok xs):jD g (v::vs)= .ok (x::xs):=by
 simp only [jD,h,hs,ax,aI]
theorem tK {g:AV→cM AV}:jD g []= .ok []:=rfl
theorem Is {β:Type} {O:sy} (v:AV) (st:St) (K:Kv β):cK O (.ok (.val v)) st K=K v st q0:=id rfl
theorem Hy {O:sy} {st:St} {id:Nat} {t:TypeId} {z:Nat} {old cs:List AV} (v:AV) (hg:st.get id= .ok (.cells t old)) (hl:old.length=z) (hc:cs.length=z) (hro:st.ro≤id):
  ∃st',st'.get id= .ok (.cells t cs)∧aX st st' (· =id)∧st'.h=st.h∧ ∃fx,∀{β:Type} (K:Kv β),aD O z (.mp id 0) v cs st K=K undef st' fx:=by
 refine ⟨st.put id (.cells t cs),St.aS (St.cC.1 hg).1,aX.put rfl,rfl,⟨[id],.wrote id (.cells t (cO old 0 cs))⟩,fun K=> ?_⟩;rw [eF hg hc (by omega) hro,jO (by omega)]
theorem Me {b:UInt8} (h:b.toNat < 128) (l:List UInt8):gF (b::l)=1:=by
 show mo _ b.toNat _ _ _=1;unfold mo;rw [if_pos h]
theorem AA: ∀(l:List UInt8),(∀b∈l,b.toNat < 128)→bO l=true
 | [],_=>rfl
 | b::l,h=>by
  rw [iN (by simp),Me (h b (by simp)),if_neg (by omega)];exact AA l fun c hc=>h c (Vy _ hc)
def Rf (d:Nat) (v:AV):Prop:= ∀f,d≤f→gE f v v=true
theorem Rf.mono {d e:Nat} {v:AV} (h:Rf d v) (hd:d≤e):Rf e v:=fun f hf=>h f (VZ hd hf)
theorem sG: ∀s:List UInt8,mq s s=true
 | []=>rfl
 | a::l=>by simp only [mq,Wx];exact sG l
theorem la {g:AV→AV→Bool}: ∀{l:List AV},(∀v∈l,g v v=true)→eQ g l l=true
 | [],_=>rfl
 | v::l,h=>by simp only [eQ,h v (by simp)];exact la fun u hu=>h u (Vy _ hu)
theorem ue (k:IntKind) (n:Int):Rf 1 (.int k n):=fun f hf=>by cases f with | zero=>omega | succ f=>show (decide (k=k)&&decide (n=n))=true;simp
theorem E6 (s:List UInt8):Rf 1 (.str s):=fun f hf=>by cases f with | zero=>omega | succ f=>exact sG s
theorem BE:Rf 1 .aG:=fun f hf=>by cases f with | zero=>omega | succ f=>rfl
theorem JR:Rf 1 .es:=fun f hf=>by cases f with | zero=>omega | succ f=>rfl
theorem Ro {d:Nat} {cs:List AV} (h: ∀c∈cs,Rf d c):Rf (d+1) (.agg cs):=fun f hf=>by
 cases f with
 | zero=>omega
 | succ f=>exact la fun v hv=>h v hv f (by omega)
theorem vm {d z:Nat} {p:Perm} {cs:List AV} (h: ∀c∈cs,Rf d c):Rf (d+1) (.sl z cs p):=fun f hf=>by
 cases f with
 | zero=>omega
 | succ f=>
  show (z.beq z&&decide (p=p)&&eQ (gE f) cs cs)=true;rw [la fun v hv=>h v hv f (by omega)];simp
theorem H9 {st st':St} {i:Nat} {t:TypeId} {cs:List AV} {d:Nat} (h1:st.get i= .ok (.cells t cs)) (h2:st'.get i= .ok (.cells t cs)) (h: ∀c∈cs,Rf d c) (hd:d≤1000000000000000000):sameAt st st' i=true:=by
 have e:eQ (gE 1000000000000000000) cs cs=true:=la fun v hv=>h v hv _ hd;unfold sameAt;rw [h1,h2];show (t.beq t&&eQ (gE 1000000000000000000) cs cs)=true;rw [e];simp
theorem IV {st st':St} {i:Nat} (h:sameAt st st' i=true):apart ⟨[i],.kept⟩ ⟨[],.all st st'⟩=true:=by
 show ([i].all (sameAt st st'))=true;simp [h]
theorem KP {O:sy} {st:St} {id:Nat} {t:TypeId} {z:Nat} {old cs:List AV} (v:AV) (hg:st.get id= .ok (.cells t old)) (hl:old.length=z) (hc:cs.length=z) (hro:st.ro≤id):
  ∃st' o,st'.get id= .ok (.cells t cs)∧aX st st' (· =id)∧st'.h=st.h∧ ∀{β:Type} (K:Kv β),aD O z (.mp id 0) v cs st K=K undef st' ⟨[id],.wrote id o⟩:=by
 refine ⟨st.put id (.cells t cs),.cells t (cO old 0 cs),St.aS (St.cC.1 hg).1,aX.put rfl,rfl,fun K=> ?_⟩;rw [eF hg hc (by omega) hro,jO (by omega)]
theorem KR {a i:Nat} {o:Obj} (h:a≠i):apart ⟨[a],.kept⟩ ⟨[i],.wrote i o⟩=true:=by
 show (![a].contains i)=true;simp [h.symm]
theorem IK {i:Nat} {o:Obj}:apart ⟨[],.kept⟩ ⟨[i],.wrote i o⟩=true:=id rfl
theorem aX.Aj {st st':St} {p:Nat} (k:aX st st' (· =p)) {j:Nat} {o:Obj} (hj:j≠p) (h:st.get j= .ok o):st'.get j= .ok o:=k.old j o hj h
theorem aX.Jj {st st':St} {p q:Nat→Prop} (k:aX st st' p) (h: ∀j,p j→q j):aX st st' q:=⟨k.ro,k.h,fun j o hj=>k.old j o fun hp=>hj (h j hp)⟩
theorem aX.fresh {a b c:St} {p:Nat→Prop} {i:Nat} (h:aX a b p) (k:aX b c (· =i)) (hi:a.h≤i):aX a c p:=
 ⟨k.ro.trans h.ro,VZ h.h k.h,fun j o hj hg=>k.old j o (fun e=>by
  have:=(St.cC.1 hg).1;omega) (h.old j o hj hg)⟩
def ad {β:Type} (e:Option β) (Q:β→Prop):Prop:= ∃b,e=some b∧Q b
section
variable {β:Type} {Q:β→Prop} {E:Env} {st:St}
theorem ad.step {e e':Option β} (h:e=e') (g:ad e' Q):ad e Q:=h ▸ g
theorem ad.some {b:β} (h:Q b):ad (.some b) Q:=⟨b,rfl,h⟩
theorem ad.mono {e:Option β} {Q':β→Prop} (h:ad e Q) (k: ∀b,Q b→Q' b):ad e Q':=by
 obtain ⟨b,e,h⟩:=h;exact ⟨b,e,k b h⟩
theorem ad.bind {α:Type} {e:Option α} {R:α→Prop} {K:α→Option β} (h:ad e R) (g: ∀a,R a→ad (K a) Q):ad (aH e K) Q:=by
 obtain ⟨a,e,h⟩:=h;rw [e];exact g a h
theorem ad.wide {F:FuncId} {args:List AV} {Q:AV×St→Prop} (h:ad (fT E F args st) Q):ad ((aA E).wide F args st) Q:=by
 obtain ⟨b,e,h⟩:=h;exact ⟨b,gG e,h⟩
theorem ad.bare {F:FuncId} {args:List AV} {Q:AV→Prop} (hm:(E.memo F,(E.rule F).isSome)=([],false)) (h:ad (bQ E F args) Q):ad ((aA E).bare F args) Q:=by
 obtain ⟨b,e,h⟩:=h;exact ⟨b,bh hm e,h⟩
theorem ad.mF {F:FuncId} {args:List AV} {R:AV×St→Prop} (h:ad ((aA E).wide F args st) R) (h1:E.isLook F=false) (h2:(bx (args.map strip)&& !E.full F)=false) {K:Kv β} (g: ∀v s,R (v,s)→ad (K v s ⟨[],.all st s⟩) Q):ad (al (aA E) F args st K) Q:=by
 obtain ⟨⟨v,s⟩,e,h⟩:=h;exact ad.step (fR (E:=E) K h1 h2 e) (g v s h)
theorem ad.one {v:AV} (h:VM.one v=true) {e:Option β} (g:ad e Q):ad (af v e) Q:=ad.step (iS h e) g
abbrev EH:=List (Nat×TypeId×List AV)
structure Vw (st:St) (l:EH):Prop where
 v: ∀q∈l,st.get q.1= .ok (.cells q.2.1 q.2.2)∧st.ro≤q.1
 nd:(l.map (·.1)).Nodup
 ro:st.ro≤st.h
variable {l l1 l2:EH}
theorem Vw.start (h:st.ro≤st.h):Vw st []:=⟨(fun _ h=>by cases h),List.nodup_nil,h⟩
theorem Vw.get (w:Vw st l) {a:Nat} {t:TypeId} {cs:List AV} (h:(a,t,cs)∈l):st.get a= .ok (.cells t cs):=(w.v _ h).1
theorem Vw.sub {l':EH} (w:Vw st l) (h:List.Sublist l' l):Vw st l':=⟨fun q hq=>w.v q (h.subset hq),(h.map _).nodup w.nd,w.ro⟩
theorem Vw.alloc (w:Vw st l) (t:TypeId) (cs:List AV):Vw (st.add (.cells t cs)) ((st.h,t,cs)::l):=by
 refine ⟨fun q hq=> ?_, ?_,Xi w.ro⟩
 ·rcases Vv.1 hq with rfl | hq
  ·exact ⟨St.ey,w.ro⟩
  ·exact ⟨St.mA (w.v q hq).1,(w.v q hq).2⟩
 ·rw [Vu,WX];refine ⟨fun hm=> ?_,w.nd⟩;obtain ⟨q,hq,e⟩:=We.1 hm;have h1:=(St.cC.1 (w.v q hq).1).1;simp only at e;omega
theorem Vw.putAt {a:Nat} {t t':TypeId} {old:List AV} (w:Vw st (l1++(a,t,old)::l2)) (cs:List AV):Vw (st.put a (.cells t' cs)) (l1++(a,t',cs)::l2):=by
 have hm:(a,t,old)∈l1++(a,t,old)::l2:=List.mem_append_right _ Vp;have hg:=w.get hm;have hnd:=w.nd;rw [VT,Vu] at hnd;refine ⟨fun q hq=> ?_,by rw [VT,Vu];exact hnd,w.ro⟩;have other: ∀q∈l1++(a,t,old)::l2,q.1≠a→(st.put a (.cells t' cs)).get q.1= .ok (.cells q.2.1 q.2.2)∧st.ro≤q.1:=fun q hq hne=>
  ⟨by rw [St.aW (fun e=>hne e.symm)];exact (w.v q hq).1,(w.v q hq).2⟩
 rcases VE.1 hq with hq | hq
 ·refine other q (List.mem_append_left _ hq) fun e=> ?_;have:=(List.nodup_append.1 hnd).2.2 q.1 (List.mem_map_of_mem hq) a Vp;exact this e
 ·rcases Vv.1 hq with rfl | hq
  ·exact ⟨St.aS (St.cC.1 hg).1,(w.v _ hm).2⟩
  ·refine other q (List.mem_append_right _ (Vy _ hq)) fun e=> ?_;have h1:=(WX.1 (List.nodup_append.1 hnd).2.1).1;have h2:q.1∈l2.map (·.1):=List.mem_map_of_mem hq;rw [e] at h2;exact h1 h2
theorem ad.Fp (w:Vw st l) {ty:TypeId} {cs:List AV} {K:St→Option β} (g: ∀s,s.h=st.h+1→Vw s ((st.h,ty,cs)::l)→ad (K s) Q):ad (bR (st.add (.cells ty cs)) K) Q:=g _ rfl (w.alloc ty cs)
theorem ad.yd {O:sy} (l1:EH) {a:Nat} {ty:TypeId} {old:List AV} (w:Vw st (l1++(a,ty,old)::l2)) {z:Nat} {v:AV} {cs:List AV} {K:Kv β}
  (g: ∀s fx,s.h=st.h→Vw s (l1++(a,ty,cs)::l2)→ad (K VM.undef s fx) Q) (hz:old.length=z:=by rfl) (hc:cs.length=z:=by rfl):ad (aD O z (.mp a 0) v cs st K) Q:=by
 have hm:(a,ty,old)∈l1++(a,ty,old)::l2:=List.mem_append_right _ Vp;have e:aD O z (.mp a 0) v cs st K=K VM.undef (st.put a (.cells ty cs)) ⟨[a],.wrote a (.cells ty cs)⟩:=by
  rw [eF (w.get hm) hc (by omega) (w.v _ hm).2,jO (by omega)]
 exact ad.step e (g _ _ rfl (w.putAt cs))
theorem ad.sj {a:Nat} {ty:TypeId} {cs:List AV} (hm:(a,ty,cs)∈l) (w:Vw st l) {o:Nat} {v:AV} {post:List AV} (hv:cs.drop o=v::post) {K:AV→List Nat→Option β} (g:ad (K v [a]) Q):ad (ay 1 false (.mp a o) st K) Q:=by
 refine ad.step (bm (w.get hm) _ _ _ _) ?_;rw [hv];exact g
theorem ad.nC {a:Nat} {ty:TypeId} {cs:List AV} (hm:(a,ty,cs)∈l) (w:Vw st l) {z:Nat} (hz:cs.length=z) {K:AV→List Nat→Option β} (g:ad (K (.agg cs) [a]) Q):ad (ay z true (.mp a 0) st K) Q:=by
 refine ad.step (bm (w.get hm) _ _ _ _) ?_;rw [VD,HL hz];exact g
theorem ad.eq {e:Option β} {b:β} (h:ad e (· =b)):e= .some b:=by
 obtain ⟨c,e,rfl⟩:=h;exact e
end
end Go.VM
namespace Go.Lay
open Go.VM Go.Lib
inductive Doc where
 | mk (kind:Int) (text:List UInt8) (n:Int) (kids:List Doc)
 deriving Inhabited
mutual
def pq:Doc→Bool
 | .mk k _ _ kids=>k==4||Bt kids
def Bt:List Doc→Bool
 | []=>false
 | d::l=>pq d||Bt l
end
mutual
def fV:Doc→Nat
 | .mk _ _ _ kids=>1+bG kids
def bG:List Doc→Nat
 | []=>0
 | d::l=>fV d+bG l
end
theorem tF: ∀(d:Doc),1≤fV d
 | .mk _ _ _ _=>by simp [fV]
abbrev iC:=Doc×Int×Bool
def qc:List iC→Nat
 | []=>0
 | t::l=>fV t.1+qc l
mutual
def vY:Doc→Nat
 | .mk _ s _ kids=>s.length+nv kids
def nv:List Doc→Nat
 | []=>0
 | d::l=>vY d+nv l
end
def cI:List iC→Nat
 | []=>0
 | t::l=>vY t.1+cI l
def dB (ks:List Doc) (i:Int) (f:Bool):List iC:=ks.map fun d=>(d,i,f)
theorem eN (ks:List Doc) (i:Int) (f:Bool) (l:List iC):qc (dB ks i f++l)=bG ks+qc l:=by
 induction ks with
 | nil=>simp [dB,bG]
 | cons d ks ih=>simp only [dB,Vu,Vz,qc,bG] at ih ⊢;rw [ih];omega
theorem gP (ks:List Doc) (i:Int) (f:Bool) (l:List iC):cI (dB ks i f++l)=nv ks+cI l:=by
 induction ks with
 | nil=>simp [dB,nv]
 | cons d ks ih=>simp only [dB,Vu,Vz,cI,nv] at ih ⊢;rw [ih];omega
theorem CA: ∀(l:List iC),l.length≤qc l
 | []=>Vn _
 | t::l=>by have:=CA l;have:=tF t.1;simp only [Vh,qc];omega
theorem wQ: ∀(l:List Doc),l.length≤bG l
 | []=>Vn _
 | t::l=>by have:=wQ l;have:=tF t;simp only [Vh,bG];omega
def qX (w:Int):Nat→List iC→Int→Bool
 | 0,_,c=>decide (c≤w)
 | _+1,[],c=>decide (c≤w)
 | n+1,(.mk k s _ kids,i,f)::l,c=>
  if c > w then false
  else if k=1 then qX w n l (c+chars s)
  else if k=2∨k=3 then (if f=false then true else qX w n l (if k=2 then c+1 else c))
  else if k=4 then true
  else qX w n (dB kids i (f||k==6)++l) c
def jm (w:Int):Nat→List iC→Int→List UInt8
 | 0,_,_=>[]
 | _+1,[],_=>[]
 | n+1,(.mk k s m kids,i,f)::l,c=>
  if k=1 then s++jm w n l (c+chars s)
  else if k=5 then jm w n (dB kids (i+m) f++l) c
  else if k=6 then
   let flat:=f||(!pq (.mk k s m kids)&&qX w (qc (dB kids i true++l)) (dB kids i true++l) c)
   jm w n (dB kids i flat++l) c
  else if k=7 then jm w n (dB kids i f++l) c
  else if f=true∧k≠4 then (if k=2 then 32::jm w n l (c+1) else jm w n l c)
  else 10::(List.replicate i.toNat 32++jm w n l i)
def Qa (k m:Int):Bool:=(k==1||k==2||k==3||k==4||k==6||k==7)&&m==0||k==5&&decide (0≤m)&&decide (m≤200)
def SZ (I:Int) (l:List iC):Prop:= ∀t∈l,0≤t.2.1∧t.2.1≤I
theorem wZ {I J i:Int} {ks:List Doc} {f:Bool} {l:List iC} (h:SZ I l) (hi:0≤i) (hi2:i≤J) (hJ:I≤J):SZ J (dB ks i f++l):=by
 intro t ht;rcases VE.1 ht with ht | ht
 ·obtain ⟨d,_,rfl⟩:=We.1 ht;exact ⟨hi,hi2⟩
 ·have:=h t ht;omega
def J6 (k:Int) (s:List UInt8) (m:Int) (none:Bool):Bool:=
 if k=1 then m==0&&none&&bO s&& !(s.any fun b=>b==10)&& !(s.any fun b=>b==13)
 else if k=2∨k=3∨k=4 then m==0&&none&&s==[]
 else if k=5 then decide (0≤m)&&decide (m≤200)&&s==[]
 else if k=6∨k=7 then m==0&&s==[]
 else false
mutual
def nz:Doc→Bool
 | .mk k s m kids=>J6 k s m kids.isEmpty&&pf kids
def pf:List Doc→Bool
 | []=>true
 | d::l=>nz d&&pf l
end
def xH:List iC→Bool
 | []=>true
 | t::l=>nz t.1&&xH l
theorem Mk {k:Int} {s:List UInt8} {m:Int} {b:Bool} (h:J6 k s m b=true):Qa k m=true:=by
 unfold J6 at h;unfold Qa;simp only [V2,Vl,V4,V1];split at h
 ·simp only [Vl,V4] at h;omega
 ·split at h
  ·simp only [Vl,V4] at h;omega
  ·split at h
   ·simp only [Vl,V1] at h;omega
   ·split at h
    ·simp only [Vl,V4] at h;omega
    ·cases h
theorem nM {ks:List Doc} {i:Int} {f:Bool} {l:List iC} (h1:pf ks=true) (h2:xH l=true):xH (dB ks i f++l)=true:=by
 induction ks with
 | nil=>simpa [dB] using h2
 | cons d ks ih=>
  simp only [pf,Vl] at h1;have:=ih h1.2;simp only [dB,Vu,Vz,xH,Vl] at this ⊢;exact ⟨h1.1,this⟩
def De (d:Doc) (w:Int):List UInt8×Int:=
 if w < 1∨w > 200 then ([],1) else if nz d=false then ([],4) else (jm w (fV d) [(d,0,false)] 0,0)
end Go.Lay
namespace Go.Lex
open Go.VM
def wh (p:UInt8→Bool) (s:List UInt8):Nat:=(s.takeWhile p).length
def bV (b:UInt8):Bool:=b==32||b==9||b==10||b==13
def iY (b:UInt8):Bool:=(decide (97≤b.toNat)&&decide (b.toNat≤122))||b==95
def aO (b:UInt8):Bool:=decide (48≤b.toNat)&&decide (b.toNat≤57)
def gx (b:UInt8):Bool:=iY b||aO b||(decide (65≤b.toNat)&&decide (b.toNat≤90))||b==39
def rem:List UInt8→Nat→Option Nat
 | [],_=>none
 | [_],_=>none
 | a::b::l,d=>
  if a=40∧b=42 then (rem l (d+1)).map (· +2)
  else if a=42∧b=41 then (if d=1 then some 2 else (rem l (d - 1)).map (· +2))
  else (rem (b::l) d).map (· +1)
def words:List (List UInt8):=[[108,101,116],[114,101,99],[105,110],[102,117,110],[105,102],[116,104,101,110],[101,108,115,101],[109,97,116,99,104],[119,105,116,104],[116,114,117,101],[102,97,108,115,101],[109,111,100]]
def rn (w:List UInt8):Nat:=if w=[95] then 8 else if words.contains w then 3 else 4
def u7 (a:Nat) (c:UInt8):Nat:=a * 10+(c.toNat - 48)
def lr (acc:Nat) (l:List UInt8):Nat:=l.foldl u7 acc
theorem DK (a:Nat):lr a []=a:=id rfl
theorem Am (a:Nat) (c:UInt8) (l:List UInt8):lr a (c::l)=lr (u7 a c) l:=id rfl
def yE (c:UInt8):Bool:=c==43||c==45
def gu:List UInt8→Nat
 | c:: _=>if yE c then 1 else 0
 | []=>0
def ia (s:List UInt8):Nat×Int:=
 match s with
 | []=>(0,0)
 | e::l=>
  if e=101∨e=69 then
   let d:=wh aO (l.drop (gu l))
   if d=0 then (0,0)
   else
    let x:Int:=((min (lr 0 ((l.drop (gu l)).take d)) 1000000:Nat):Int)
    (1+gu l+d,if l.head?=some 45 then -x else x)
  else (0,0)
def number (s:List UInt8):Nat×Nat:=
 let n:=wh aO s
 if (s.drop n).head?=some 46 then
  let k:=wh aO (s.drop (n+1))
  let x:=ia (s.drop (n+1+k))
  (if n+k > 15∨x.2 - (k:Int) < -22∨x.2 - (k:Int) > 22 then 9 else 6,n+1+k+x.1)
 else (5,n)
def fp:List UInt8→Nat
 | []=>0
 | c::l=>if c=10 then 0 else if c=34 then 1 else fp l+1
def yZ (c:UInt8):Bool:=c==110||c==116||c==92||c==34
def cI:List UInt8→Nat×Nat
 | []=>(9,0)
 | [c]=>if c=10 then (9,0) else if c=34 then (7,1) else (9,1)
 | c::d::l=>
  if c=10 then (9,0) else if c=34 then (7,1)
  else if c=92 then (if yZ d then ((cI l).1,(cI l).2+2) else (9,fp (d::l)+1))
  else ((cI (d::l)).1,(cI (d::l)).2+1)
def gw:List (List UInt8):=[[45,62],[58,58],[60,62],[60,61],[62,61],[43,46],[45,46],[42,46],[47,46],[38,38],[124,124]]
def O5:List UInt8:=[40,41,91,93,44,59,124,61,60,62,43,45,42,47,94,64]
def iQ (c:UInt8):Bool:=O5.contains c
def cut (s:List UInt8):Nat×Nat:=
 match s with
 | []=>(9,0)
 | c::l=>
  if bV c then (1,wh bV s)
  else if s.take 2=[40,42] then (match rem (s.drop 2) 1 with | some n=>(2,n+2) | none=>(9,s.length))
  else if iY c then (rn (s.takeWhile gx),wh gx s)
  else if aO c then number s
  else if c=34 then ((cI l).1,(cI l).2+1)
  else if gw.contains (s.take 2) then (8,2)
  else if iQ c then (8,1)
  else (9,if gF s=0 then 1 else gF s)
def eV:Nat→List UInt8→List (Nat×List UInt8)
 | 0,_=>[]
 | n+1,s=>match s with
  | []=>[]
  | _:: _=>((cut s).1,s.take (cut s).2)::eV n (s.drop (cut s).2)
def tokens (s:List UInt8):List (Nat×List UInt8):=eV s.length s
theorem ni (p:UInt8→Bool) (s:List UInt8):wh p s≤s.length:=(List.takeWhile_sublist p).length_le
theorem qw (p:UInt8→Bool) (s:List UInt8):s.take (wh p s)=s.takeWhile p:=by
 unfold wh
 induction s with
 | nil=>rfl
 | cons c l ih=>
  rw [V3];split
  ·simp [ih]
  ·simp
theorem MU (p:UInt8→Bool) (s:List UInt8):s.drop (wh p s)=s.dropWhile p:=by
 unfold wh
 induction s with
 | nil=>rfl
 | cons c l ih=>
  rw [V3,WB];split
  ·simp [ih]
  ·simp
theorem Qd (p:UInt8→Bool) (s:List UInt8):s.length=wh p s+(s.dropWhile p).length:=by
 rw [← MU,VF];have:=ni p s;omega
theorem fk (p:UInt8→Bool) (c:UInt8) (l:List UInt8):wh p (c::l)=if p c=true then wh p l+1 else 0:=by
 unfold wh;rw [V3];split <;> simp
theorem oM: ∀(s:List UInt8) (d n:Nat),rem s d=some n→2≤n∧n≤s.length
 | [],_,_,h=>by simp [rem] at h
 | [_],_,_,h=>by simp [rem] at h
 | a::b::l,d,n,h=>by
  simp only [rem] at h;split at h
  ·obtain ⟨m,hm,rfl⟩:=VO.1 h;have:=oM l (d+1) m hm;simp;omega
  ·split at h
   ·split at h
    ·cases h;simp
    ·obtain ⟨m,hm,rfl⟩:=VO.1 h;have:=oM l (d - 1) m hm;simp;omega
   ·obtain ⟨m,hm,rfl⟩:=VO.1 h;have:=oM (b::l) d m hm;simp at this ⊢;omega
theorem Bs: ∀(s:List UInt8),fp s≤s.length
 | []=>Vn _
 | c::l=>by
  have:=Bs l;simp only [fp];split
  ·omega
  ·split
   ·simp
   ·simp;exact this
theorem ud: ∀(s:List UInt8),(cI s).2≤s.length
 | []=>Vn _
 | [c]=>by
  simp only [cI];split
  ·simp
  ·split <;> simp
 | c::d::l=>by
  have h1:=ud l;have h2:=ud (d::l);have h3:=Bs (d::l);simp only [cI,Vh] at *;split
  ·simp
  ·split
   ·simp
   ·split
    ·split
     ·simp;omega
     ·simp;omega
    ·simp;omega
theorem E1 (l:List UInt8):gu l≤l.length:=by
 cases l with
 | nil=>exact Vn _
 | cons c l=>simp only [gu];split <;> simp
theorem M0 (s:List UInt8):(ia s).1≤s.length:=by
 unfold ia;cases s with
 | nil=>simp
 | cons e l=>
  dsimp only;split
  ·have hg:=E1 l;have hd:=ni aO (l.drop (gu l));rw [VF] at hd;split
   ·simp
   ·simp only [Vh];omega
  ·simp
theorem tW (s:List UInt8) (h:1≤wh aO s):1≤(number s).2∧(number s).2≤s.length:=by
 unfold number;have h1:=ni aO s;dsimp only;split
 ·rename_i hd;have hlt:wh aO s < s.length:=by
   rcases Nat.lt_or_ge (wh aO s) s.length with q | q
   ·exact q
   ·rw [List.drop_of_length_le q] at hd;cases hd
  have h2:=ni aO (s.drop (wh aO s+1));rw [VF] at h2;have h3:=M0 (s.drop (wh aO s+1+wh aO (s.drop (wh aO s+1))));rw [VF] at h3;dsimp only;omega
 ·exact ⟨h,h1⟩
theorem mQ {s:List UInt8} (h:s≠[]):1≤(cut s).2∧(cut s).2≤s.length:=by
 cases s with
 | nil=>exact absurd rfl h
 | cons c l=>
  unfold cut;dsimp only;split
  ·rename_i hb;exact ⟨by rw [fk,if_pos hb];omega,ni _ _⟩
  split
  ·rename_i h2;have hl:2≤(c::l).length:=by
    have:=Wb List.length h2;rw [VB] at this;simp at this;simp;omega
   cases hr:rem (List.drop 2 (c::l)) 1 with
   | some n=>
    have:=oM _ _ _ hr;rw [VF] at this;dsimp only;omega
   | none=>dsimp only;omega
  split
  ·rename_i hb;have hb':gx c=true:=by unfold gx;rw [hb];rfl
   exact ⟨by rw [fk,if_pos hb'];omega,ni _ _⟩
  split
  ·rename_i hb;exact tW _ (by rw [fk,if_pos hb];omega)
  split
  ·have:=ud l;simp;omega
  split
  ·rename_i h2;have hl:2≤(c::l).length:=by
    rcases Nat.lt_or_ge (c::l).length 2 with q | q
    ·exfalso;have:l=[]:=by
      cases l with
      | nil=>rfl
      | cons d l=>simp at q;omega
     subst this;simp [gw] at h2
    ·exact q
   dsimp only;omega
  split
  ·simp
  ·have:=rQ (l:=c::l) (by simp);dsimp only;split
   ·simp
   ·omega
theorem ur: ∀(n m:Nat) (s:List UInt8),s.length≤n→s.length≤m→eV n s=eV m s
 | 0,0,_,_,_=>rfl
 | 0,m+1,s,h,_=>by
  have:s=[]:=V8 (by omega);subst this;rfl
 | n+1,0,s,_,h=>by
  have:s=[]:=V8 (by omega);subst this;rfl
 | n+1,m+1,[],_,_=>rfl
 | n+1,m+1,c::l,hn,hm=>by
  have hc:=mQ (s:=c::l) (by simp);simp only [eV];rw [ur n m ((c::l).drop (cut (c::l)).2) (by rw [VF];omega) (by rw [VF];omega)]
theorem vA {s:List UInt8} (h:s≠[]):tokens s=((cut s).1,s.take (cut s).2)::tokens (s.drop (cut s).2):=by
 cases s with
 | nil=>exact absurd rfl h
 | cons c l=>
  have hc:=mQ (s:=c::l) (by simp);show eV (l.length+1) (c::l)= _;simp only [eV];congr 1;exact ur _ _ _ (by rw [VF];simp at hc ⊢;omega) (Vn _)
theorem E3:tokens []=[]:=rfl
end Go.Lex
namespace Go.Parse
open Go.VM Go.Lex
abbrev bc:=Nat×List UInt8
inductive T where
 | mk (k tk:Nat) (tx:List UInt8) (kids:List T)
 deriving Inhabited
def T.kids:T→List T | .mk _ _ _ l=>l
def T.kind:T→Nat | .mk k _ _ _=>k
def bl (t:bc):Bool:=t.1==1||t.1==2
def nx (r:List bc):bc:=
 match r.dropWhile bl with
 | []=>(0,[])
 | t:: _=>t
def leaf (t:bc) (ks:List T):T:= .mk 1 t.1 t.2 ks
def aT (t:bc):T:=leaf t []
def aR (r:List bc):T:=leaf (nx r) ((r.takeWhile bl).map aT)
def aQ (r:List bc):List bc:=(r.dropWhile bl).drop 1
def dV (s:List UInt8) (r:List bc):Bool:=((nx r).1==3||(nx r).1==8)&&(nx r).2==s
def isAny (l:List (List UInt8)) (r:List bc):Bool:=((nx r).1==3||(nx r).1==8)&&l.any fun s=>s==(nx r).2
def missing (s:List UInt8):T:= .mk 2 0 s []
def da (s:List UInt8) (r:List bc):T:=if dV s r then aR r else missing s
def bk (s:List UInt8) (r:List bc):List bc:=if dV s r then aQ r else r
abbrev node (k:Nat) (l:List T):T:= .mk k 0 [] l
def qZ:List UInt8:=[108,101,116]
def fM:List UInt8:=[114,101,99]
def QA:List UInt8:=[105,110]
def Pw:List UInt8:=[102,117,110]
def Ui:List UInt8:=[105,102]
def xY:List UInt8:=[116,104,101,110]
def xa:List UInt8:=[101,108,115,101]
def Fq:List UInt8:=[109,97,116,99,104]
def bX:List UInt8:=[119,105,116,104]
def qe:List UInt8:=[116,114,117,101]
def lI:List UInt8:=[102,97,108,115,101]
def vy:List UInt8:=[101,120,112,114]
def pF:List UInt8:=[112,97,116,116,101,114,110]
def zo:List UInt8:=[61]
def iB:List UInt8:=[45,62]
def gH:List UInt8:=[124]
def Dl:List UInt8:=[58,58]
def nf:List UInt8:=[40]
def KV:List UInt8:=[41]
def oE:List UInt8:=[91]
def NR:List UInt8:=[93]
def jz:List UInt8:=[44]
def nt:List UInt8:=[59]
def EU:List UInt8:=[95]
def opsOf:Nat→List (List UInt8)
 | 0=>[[124,124]]
 | 1=>[[38,38]]
 | 2=>[[61],[60,62],[60],[60,61],[62],[62,61]]
 | 3=>[[64],[94]]
 | 4=>[[58,58]]
 | 5=>[[43],[45],[43,46],[45,46]]
 | _=>[[42],[47],[42,46],[47,46],[109,111,100]]
def leftOf (k:Nat):Bool:=k==2||k==5||k==6
def dp (pat:Bool) (r:List bc):Bool:=
 (nx r).1==4||(nx r).1==5||(nx r).1==7||(nx r).1==9||(nx r).1==(if pat then 5 else 6)||isAny [qe,lI,nf,oE,if pat then EU else nf] r
inductive lC where
 | expr
 | whole
 | level (k:Nat)
 | ops (k:Nat) (acc:T)
 | neg
 | args (acc:T)
 | atom (pat:Bool)
 | closed (list pat:Bool)
 | items (list pat:Bool)
 | pattern
 | binding
 | params
 | arm
 | arms
def kZ (what:List UInt8) (r:List bc):T:=if (nx r).1=0 then missing what else node 3 [aR r]
def kW (r:List bc):List bc:=if (nx r).1=0 then r else aQ r
def kindOf:Bool→Bool→Nat
 | false,false=>14
 | true,false=>15
 | false,true=>17
 | true,true=>18
def uu (list:Bool):List UInt8:=if list then nt else jz
def je (list:Bool):List UInt8:=if list then NR else KV
abbrev R:=Option (List T×List bc)
def P:Nat→lC→Nat→List bc→R
 | 0,_,_,_=>none
 | n+1,.expr,d,r=>if d=64 then some ([kZ vy r],kW r) else P n .whole (d+1) r
 | n+1,.whole,d,r=>
  if dV qZ r then do
   let (bs,r2) ← P n .binding d (aQ r)
   let (es,r3) ← P n .expr d (bk QA r2)
   some ([node 6 (aR r::bs++[da QA r2]++es)],r3)
  else if dV Pw r then do
   let (a,r1) ← P n (.atom true) d (aQ r)
   let (ps,r2) ← P n .params d r1
   let (es,r3) ← P n .expr d (bk iB r2)
   some ([node 7 (aR r::a++ps++[da iB r2]++es)],r3)
  else if dV Ui r then do
   let (a,r1) ← P n .expr d (aQ r)
   let (b,r2) ← P n .expr d (bk xY r1)
   let (c,r3) ← P n .expr d (bk xa r2)
   some ([node 8 (aR r::a++[da xY r1]++b++[da xa r2]++c)],r3)
  else if dV Fq r then do
   let (a,r1) ← P n .expr d (aQ r)
   let r2:=bk bX r1
   let bar:=if dV gH r2 then [aR r2] else []
   let (b,r3) ← P n .arm d (if dV gH r2 then aQ r2 else r2)
   let (cs,r4) ← P n .arms d r3
   some ([node 9 (aR r::a++[da bX r1]++bar++b++cs)],r4)
  else P n (.level 0) d r
 | n+1,.level k,d,r=>
  if k=7 then P n .neg d r
  else do
   let (a,r1) ← P n (.level (k+1)) d r
   match a with
   | [t]=>P n (.ops k t) d r1
   | _=>none
 | n+1,.ops k acc,d,r=>
  if isAny (opsOf k) r then do
   let (b,r1) ← P n (.level (if leftOf k then k+1 else k)) d (aQ r)
   P n (.ops k (node 11 (acc::aR r::b))) d r1
  else some ([acc],r)
 | n+1,.neg,d,r=>
  if isAny [[45],[45,46]] r then
   if d=64 then some ([node 12 [aR r,kZ vy (aQ r)]],kW (aQ r))
   else do
    let (a,r1) ← P n .neg (d+1) (aQ r)
    some ([node 12 (aR r::a)],r1)
  else do
   let (a,r1) ← P n (.atom false) d r
   match a with
   | [t]=>P n (.args t) d r1
   | _=>none
 | n+1,.args acc,d,r=>
  if dp false r then do
   let (b,r1) ← P n (.atom false) d r
   P n (.args (node 13 (acc::b))) d r1
  else some ([acc],r)
 | n+1,.atom pat,d,r=>
  if dp pat r then
   if (nx r).1=9 then some ([node 3 [aR r]],aQ r)
   else if dV nf r then P n (.closed false pat) d r
   else if dV oE r then P n (.closed true pat) d r
   else some ([aR r],aQ r)
  else some ([missing (if pat then pF else vy)],r)
 | n+1,.closed list pat,d,r=>
  let r1:=aQ r
  if dV (je list) r1 then some ([node (kindOf list pat) [aR r,aR r1]],aQ r1)
  else do
   let (a,r2) ← P n (if pat then .pattern else .expr) d r1
   let (bs,r3) ← P n (.items list pat) d r2
   some ([node (kindOf list pat) (aR r::a++bs++[da (je list) r3])],bk (je list) r3)
 | n+1,.items list pat,d,r=>
  if dV (uu list) r then do
   let (a,r1) ← P n (if pat then .pattern else .expr) d (aQ r)
   let (bs,r2) ← P n (.items list pat) d r1
   some (aR r::a++bs,r2)
  else some ([],r)
 | n+1,.pattern,d,r=>
  if d=64 then some ([kZ pF r],kW r)
  else do
   let (a,r1) ← P n (.atom true) (d+1) r
   if dV Dl r1 then do
    let (b,r2) ← P n .pattern (d+1) (aQ r1)
    some ([node 16 (a++aR r1::b)],r2)
   else some (a,r1)
 | n+1,.binding,d,r=>do
  let rc:=if dV fM r then [aR r] else []
  let r0:=if dV fM r then aQ r else r
  let (xs,r1) ← if (nx r0).1=4 then (do
    let (ps,r1) ← P n .params d (aQ r0)
    some (aR r0::ps,r1))
   else P n (.atom true) d r0
  let (es,r2) ← P n .expr d (bk zo r1)
  some (rc++xs++[da zo r1]++es,r2)
 | n+1,.params,d,r=>
  if dp true r then do
   let (a,r1) ← P n (.atom true) d r
   let (bs,r2) ← P n .params d r1
   some (a++bs,r2)
  else some ([],r)
 | n+1,.arm,d,r=>do
  let (a,r1) ← P n .pattern d r
  let (es,r2) ← P n .expr d (bk iB r1)
  some ([node 10 (a++[da iB r1]++es)],r2)
 | n+1,.arms,d,r=>
  if dV gH r then do
   let (a,r1) ← P n .arm d (aQ r)
   let (bs,r2) ← P n .arms d r1
   some (aR r::a++bs,r2)
  else some ([],r)
def skip:Nat→List bc→List T×List bc
 | 0,r=>([],r)
 | n+1,r=>if (nx r).1≠0∧dV qZ r=false then ((aR r::(skip n (aQ r)).1),(skip n (aQ r)).2) else ([],r)
def decls:Nat→List bc→Option (List T)
 | 0,_=>none
 | n+1,r=>
  if (nx r).1=0 then some [aR r]
  else if dV qZ r then do
   let (bs,r1) ← P n .binding 0 (aQ r)
   let l ← decls n r1
   some (node 5 (aR r::bs)::l)
  else do
   let l ← decls n (skip r.length r).2
   some (node 3 (skip r.length r).1::l)
def fuel (r:List bc):Nat:=30 * (r.length+2)
def doc (r:List bc):T:=node 4 ((decls (fuel r) r).getD [])
theorem Em (r:List bc):(r.dropWhile bl).length≤r.length:=(WL _).length_le
theorem kB (r:List bc):(aQ r).length≤r.length:=by
 unfold aQ;rw [VF];have:=Em r;omega
theorem eA {r:List bc} (h:(nx r).1≠0):(aQ r).length < r.length:=by
 unfold aQ;rw [VF];have:=Em r;unfold nx at h;cases hd:r.dropWhile bl with
 | nil=>rw [hd] at h;exact absurd rfl h
 | cons t l=>rw [hd] at this;simp at this ⊢;omega
theorem pA {s:List UInt8} {r:List bc} (h:dV s r=true):(nx r).1≠0:=by
 intro e;simp [dV,e] at h
theorem yH {l:List (List UInt8)} {r:List bc} (h:isAny l r=true):(nx r).1≠0:=by
 intro e;simp [isAny,e] at h
theorem AM {pat:Bool} {r:List bc} (h:dp pat r=true):(nx r).1≠0:=by
 intro e;cases pat <;> simp [dp,isAny,e] at h
theorem jl (s:List UInt8) (r:List bc):(bk s r).length≤r.length:=by
 unfold bk;split
 ·exact kB r
 ·exact Vn _
theorem yM (r:List bc):(kW r).length≤r.length:=by
 unfold kW;split
 ·exact Vn _
 ·exact kB r
def dK:lC→Nat
 | .expr=>13
 | .whole=>12
 | .level k=>11 - k
 | .ops _ _=>0
 | .neg=>3
 | .args _=>2
 | .atom _=>1
 | .closed _ _=>0
 | .items _ _=>0
 | .pattern=>13
 | .binding=>14
 | .params=>2
 | .arm=>14
 | .arms=>0
def K0:lC→Prop
 | .level k=>k≤7
 | .ops k _=>k≤6
 | _=>True
def single:lC→Bool
 | .items _ _=>false
 | .binding=>false
 | .params=>false
 | .arms=>false
 | _=>true
def Ps:lC→List bc→Prop
 | .atom pat,r=>dp pat r=true
 | .closed _ _,r=>(nx r).1≠0
 | _,_=>False
def at':lC→List bc→Prop
 | .closed _ _,r=>(nx r).1≠0
 | _,_=>True
structure QX (job:lC) (r:List bc) (x:R):Prop where
 some: ∃l r',x=some (l,r')∧r'.length≤r.length∧(single job=true→ ∃t,l=[t])∧(Ps job r→r'.length < r.length)
theorem bZ {job:lC} {r r':List bc} {l:List T} {x:R} (h:x= .some (l,r')) (h1:r'.length≤r.length) (h2:single job=true→ ∃t,l=[t]) (h3:Ps job r→r'.length < r.length):QX job r x:=⟨⟨l,r',h,h1,h2,h3⟩⟩
theorem RZ: ∀(N:Nat) (job:lC) (d:Nat) (r:List bc),K0 job→at' job r→16 * r.length+dK job < N→QX job r (P N job d r):=by
 intro N
 induction N with
 | zero=>intro job d r _ _ h;omega
 | succ n ih=>
  intro job d r ho ha h;have one: ∀{job:lC} {d:Nat} {r:List bc},K0 job→at' job r→16 * r.length+dK job < n→single job=true→ ∃t r',P n job d r=some ([t],r')∧r'.length≤r.length∧(Ps job r→r'.length < r.length):=by
   intro job d r h1 h2 h3 h4;obtain ⟨l,r',e,k1,k2,k3⟩:=(ih job d r h1 h2 h3).some;obtain ⟨t,rfl⟩:=k2 h4;exact ⟨t,r',e,k1,k3⟩
  have many: ∀{job:lC} {d:Nat} {r:List bc},K0 job→at' job r→16 * r.length+dK job < n→ ∃l r',P n job d r=some (l,r')∧r'.length≤r.length:=by
   intro job d r h1 h2 h3;obtain ⟨l,r',e,k1,_,_⟩:=(ih job d r h1 h2 h3).some;exact ⟨l,r',e,k1⟩
  cases job with
  | expr=>
   simp only [P];by_cases hd:d=64
   ·rw [if_pos hd];exact bZ rfl (yM r) (fun _=>⟨_,rfl⟩) (fun f=>f.elim)
   ·rw [if_neg hd];simp only [dK] at h;obtain ⟨t,r',e,k1,_⟩:=one (job:= .whole) (d:=d+1) (r:=r) trivial trivial (by simp only [dK];omega) rfl;exact bZ e k1 (fun _=>⟨_,rfl⟩) (fun f=>f.elim)
  | whole=>
   simp only [dK] at h;simp only [P];by_cases h1:dV qZ r=true
   ·rw [if_pos h1];have ht:=eA (pA h1);obtain ⟨bs,r2,e2,k2⟩:=many (job:= .binding) (d:=d) (r:=aQ r) trivial trivial (by simp only [dK];omega);have hn:=jl QA r2;obtain ⟨t,r3,e3,k3,_⟩:=one (job:= .expr) (d:=d) (r:=bk QA r2) trivial trivial (by simp only [dK];omega) rfl;refine bZ (l:=[node 6 (aR r::bs++[da QA r2]++[t])]) (r':=r3) ?_ (by omega) (fun _=>⟨_,rfl⟩) (fun f=>f.elim);simp only [e2,e3,bind,Option.bind]
   rw [if_neg h1];by_cases h2:dV Pw r=true
   ·rw [if_pos h2];have ht:=eA (pA h2);obtain ⟨a,r1,e1,k1,_⟩:=one (job:= .atom true) (d:=d) (r:=aQ r) trivial trivial (by simp only [dK];omega) rfl;obtain ⟨ps,r2,e2,k2⟩:=many (job:= .params) (d:=d) (r:=r1) trivial trivial (by simp only [dK];omega);have hn:=jl iB r2;obtain ⟨t,r3,e3,k3,_⟩:=one (job:= .expr) (d:=d) (r:=bk iB r2) trivial trivial (by simp only [dK];omega) rfl;refine bZ (l:=[node 7 (aR r::[a]++ps++[da iB r2]++[t])]) (r':=r3) ?_ (by omega) (fun _=>⟨_,rfl⟩) (fun f=>f.elim);simp only [e1,e2,e3,bind,Option.bind]
   rw [if_neg h2];by_cases h3:dV Ui r=true
   ·rw [if_pos h3];have ht:=eA (pA h3);obtain ⟨a,r1,e1,k1,_⟩:=one (job:= .expr) (d:=d) (r:=aQ r) trivial trivial (by simp only [dK];omega) rfl;have hn1:=jl xY r1;obtain ⟨b,r2,e2,k2,_⟩:=one (job:= .expr) (d:=d) (r:=bk xY r1) trivial trivial (by simp only [dK];omega) rfl;have hn2:=jl xa r2;obtain ⟨c,r3,e3,k3,_⟩:=one (job:= .expr) (d:=d) (r:=bk xa r2) trivial trivial (by simp only [dK];omega) rfl;refine bZ (l:=[node 8 (aR r::[a]++[da xY r1]++[b]++[da xa r2]++[c])]) (r':=r3) ?_ (by omega) (fun _=>⟨_,rfl⟩) (fun f=>f.elim);simp only [e1,e2,e3,bind,Option.bind]
   rw [if_neg h3];by_cases h4:dV Fq r=true
   ·rw [if_pos h4];have ht:=eA (pA h4);obtain ⟨a,r1,e1,k1,_⟩:=one (job:= .expr) (d:=d) (r:=aQ r) trivial trivial (by simp only [dK];omega) rfl;have hn1:=jl bX r1;have hb:(if dV gH (bk bX r1) then aQ (bk bX r1) else bk bX r1).length≤r1.length:=by
     split
     ·have:=kB (bk bX r1);omega
     ·exact hn1
    obtain ⟨b,r3,e2,k2,_⟩:=one (job:= .arm) (d:=d) (r:=if dV gH (bk bX r1) then aQ (bk bX r1) else bk bX r1) trivial trivial (by simp only [dK];omega) rfl;obtain ⟨cs,r4,e3,k3⟩:=many (job:= .arms) (d:=d) (r:=r3) trivial trivial (by simp only [dK];omega);refine bZ (l:=[node 9 (aR r::[a]++[da bX r1]++(if dV gH (bk bX r1) then [aR (bk bX r1)] else [])++[b]++cs)]) (r':=r4) ?_ (by omega) (fun _=>⟨_,rfl⟩) (fun f=>f.elim);simp only [e1,e2,e3,bind,Option.bind]
   rw [if_neg h4];obtain ⟨t,r',e,k1,_⟩:=one (job:= .level 0) (d:=d) (r:=r) (Wc _) trivial (by simp only [dK];omega) rfl;exact bZ e k1 (fun _=>⟨_,rfl⟩) (fun f=>f.elim)
  | level k=>
   have hk:k≤7:=ho;simp only [dK] at h;simp only [P];by_cases h7:k=7
   ·rw [if_pos h7];obtain ⟨t,r',e,k1,_⟩:=one (job:= .neg) (d:=d) (r:=r) trivial trivial (by simp only [dK];omega) rfl;exact bZ e k1 (fun _=>⟨_,rfl⟩) (fun f=>f.elim)
   ·rw [if_neg h7];obtain ⟨t,r1,e1,k1,_⟩:=one (job:= .level (k+1)) (d:=d) (r:=r) (show k+1≤7 by omega) trivial (by simp only [dK];omega) rfl;obtain ⟨u,r2,e2,k2,_⟩:=one (job:= .ops k t) (d:=d) (r:=r1) (show k≤6 by omega) trivial (by simp only [dK];omega) rfl;refine bZ (l:=[u]) (r':=r2) ?_ (by omega) (fun _=>⟨_,rfl⟩) (fun f=>f.elim);simp only [e1,e2,bind,Option.bind]
  | ops k acc=>
   have hk:k≤6:=ho;simp only [dK] at h;simp only [P];by_cases h1:isAny (opsOf k) r=true
   ·rw [if_pos h1];have ht:=eA (yH h1);obtain ⟨b,r1,e1,k1,_⟩:=one (job:= .level (if leftOf k then k+1 else k)) (d:=d) (r:=aQ r) (show (if leftOf k then k+1 else k)≤7 by split <;> omega) trivial (by simp only [dK];omega) rfl;obtain ⟨u,r2,e2,k2,_⟩:=one (job:= .ops k (node 11 [acc,aR r,b])) (d:=d) (r:=r1) hk trivial (by simp only [dK];omega) rfl;refine bZ (l:=[u]) (r':=r2) ?_ (by omega) (fun _=>⟨_,rfl⟩) (fun f=>f.elim);simp only [e1,e2,bind,Option.bind]
   ·rw [if_neg h1];exact bZ rfl (Vn _) (fun _=>⟨_,rfl⟩) (fun f=>f.elim)
  | neg=>
   simp only [dK] at h;simp only [P];by_cases h1:isAny [[45],[45,46]] r=true
   ·rw [if_pos h1];have ht:=eA (yH h1);by_cases hd:d=64
    ·rw [if_pos hd];have:=yM (aQ r);exact bZ rfl (by omega) (fun _=>⟨_,rfl⟩) (fun f=>f.elim)
    ·rw [if_neg hd];obtain ⟨a,r1,e1,k1,_⟩:=one (job:= .neg) (d:=d+1) (r:=aQ r) trivial trivial (by simp only [dK];omega) rfl;refine bZ (l:=[node 12 [aR r,a]]) (r':=r1) ?_ (by omega) (fun _=>⟨_,rfl⟩) (fun f=>f.elim);simp only [e1,bind,Option.bind]
   ·rw [if_neg h1];obtain ⟨t,r1,e1,k1,_⟩:=one (job:= .atom false) (d:=d) (r:=r) trivial trivial (by simp only [dK];omega) rfl;obtain ⟨u,r2,e2,k2,_⟩:=one (job:= .args t) (d:=d) (r:=r1) trivial trivial (by simp only [dK];omega) rfl;refine bZ (l:=[u]) (r':=r2) ?_ (by omega) (fun _=>⟨_,rfl⟩) (fun f=>f.elim);simp only [e1,e2,bind,Option.bind]
  | args acc=>
   simp only [dK] at h;simp only [P];by_cases h1:dp false r=true
   ·rw [if_pos h1];obtain ⟨t,r1,e1,k1,f1⟩:=one (job:= .atom false) (d:=d) (r:=r) trivial trivial (by simp only [dK];omega) rfl;have ht:=f1 h1;obtain ⟨u,r2,e2,k2,_⟩:=one (job:= .args (node 13 [acc,t])) (d:=d) (r:=r1) trivial trivial (by simp only [dK];omega) rfl;refine bZ (l:=[u]) (r':=r2) ?_ (by omega) (fun _=>⟨_,rfl⟩) (fun f=>f.elim);simp only [e1,e2,bind,Option.bind]
   ·rw [if_neg h1];exact bZ rfl (Vn _) (fun _=>⟨_,rfl⟩) (fun f=>f.elim)
  | atom pat=>
   simp only [dK] at h;simp only [P];by_cases h1:dp pat r=true
   ·rw [if_pos h1];have hnx:=AM h1;have ht:=eA hnx;by_cases h9:(nx r).1=9
    ·rw [if_pos h9];exact bZ rfl (by omega) (fun _=>⟨_,rfl⟩) (fun _=>ht)
    rw [if_neg h9];by_cases h2:dV nf r=true
    ·rw [if_pos h2];obtain ⟨t,r1,e1,k1,f1⟩:=one (job:= .closed false pat) (d:=d) (r:=r) trivial hnx (by simp only [dK];omega) rfl;exact bZ e1 k1 (fun _=>⟨_,rfl⟩) (fun _=>f1 hnx)
    rw [if_neg h2];by_cases h3:dV oE r=true
    ·rw [if_pos h3];obtain ⟨t,r1,e1,k1,f1⟩:=one (job:= .closed true pat) (d:=d) (r:=r) trivial hnx (by simp only [dK];omega) rfl;exact bZ e1 k1 (fun _=>⟨_,rfl⟩) (fun _=>f1 hnx)
    rw [if_neg h3];exact bZ rfl (by omega) (fun _=>⟨_,rfl⟩) (fun _=>ht)
   ·rw [if_neg h1];exact bZ rfl (Vn _) (fun _=>⟨_,rfl⟩) (fun f=>absurd f h1)
  | closed list pat=>
   have hnx:(nx r).1≠0:=ha;have ht:=eA hnx;simp only [dK] at h;simp only [P];by_cases h1:dV (je list) (aQ r)=true
   ·rw [if_pos h1];have:=kB (aQ r);exact bZ rfl (by omega) (fun _=>⟨_,rfl⟩) (fun _=>by omega)
   ·rw [if_neg h1];obtain ⟨t,r2,e1,k1,_⟩:=one (job:=if pat then .pattern else .expr) (d:=d) (r:=aQ r) (by cases pat <;> trivial) (by cases pat <;> trivial) (by cases pat <;> simp only [dK,if_true,VP,if_false] <;> omega) (by cases pat <;> rfl);obtain ⟨bs,r3,e2,k2⟩:=many (job:= .items list pat) (d:=d) (r:=r2) trivial trivial (by simp only [dK];omega);have hn:=jl (je list) r3;refine bZ (l:=[node (kindOf list pat) (aR r::[t]++bs++[da (je list) r3])]) (r':=bk (je list) r3) ?_ (by omega) (fun _=>⟨_,rfl⟩) (fun _=>by omega);simp only [e1,e2,bind,Option.bind]
  | items list pat=>
   simp only [dK] at h;simp only [P];by_cases h1:dV (uu list) r=true
   ·rw [if_pos h1];have ht:=eA (pA h1);obtain ⟨t,r2,e1,k1,_⟩:=one (job:=if pat then .pattern else .expr) (d:=d) (r:=aQ r) (by cases pat <;> trivial) (by cases pat <;> trivial) (by cases pat <;> simp only [dK,if_true,VP,if_false] <;> omega) (by cases pat <;> rfl);obtain ⟨bs,r3,e2,k2⟩:=many (job:= .items list pat) (d:=d) (r:=r2) trivial trivial (by simp only [dK];omega);refine bZ (l:=aR r::[t]++bs) (r':=r3) ?_ (by omega) (fun f=>by cases f) (fun f=>f.elim);simp only [e1,e2,bind,Option.bind]
   ·rw [if_neg h1];exact bZ rfl (Vn _) (fun f=>by cases f) (fun f=>f.elim)
  | pattern=>
   simp only [dK] at h;simp only [P];by_cases hd:d=64
   ·rw [if_pos hd];exact bZ rfl (yM r) (fun _=>⟨_,rfl⟩) (fun f=>f.elim)
   ·rw [if_neg hd];obtain ⟨a,r1,e1,k1,_⟩:=one (job:= .atom true) (d:=d+1) (r:=r) trivial trivial (by simp only [dK];omega) rfl;by_cases h1:dV Dl r1=true
    ·have ht:=eA (pA h1);obtain ⟨b,r2,e2,k2,_⟩:=one (job:= .pattern) (d:=d+1) (r:=aQ r1) trivial trivial (by simp only [dK];omega) rfl;refine bZ (l:=[node 16 ([a]++aR r1::[b])]) (r':=r2) ?_ (by omega) (fun _=>⟨_,rfl⟩) (fun f=>f.elim);simp only [e1,e2,bind,Option.bind,if_pos h1]
    ·refine bZ (l:=[a]) (r':=r1) ?_ (by omega) (fun _=>⟨_,rfl⟩) (fun f=>f.elim);simp only [e1,bind,Option.bind,if_neg h1]
  | binding=>
   simp only [dK] at h;simp only [P];have h0:(if dV fM r then aQ r else r).length≤r.length:=by
    split
    ·exact kB r
    ·exact Vn _
   generalize (if dV fM r then aQ r else r)=r0 at h0;by_cases h4:(nx r0).1=4
   ·have ht:=eA (show (nx r0).1≠0 by omega);obtain ⟨ps,r1,e1,k1⟩:=many (job:= .params) (d:=d) (r:=aQ r0) trivial trivial (by simp only [dK];omega);have hn:=jl zo r1;obtain ⟨t,r2,e2,k2,_⟩:=one (job:= .expr) (d:=d) (r:=bk zo r1) trivial trivial (by simp only [dK];omega) rfl;refine bZ (l:=(if dV fM r then [aR r] else [])++(aR r0::ps)++[da zo r1]++[t]) (r':=r2) ?_ (by omega) (fun f=>by cases f) (fun f=>f.elim);simp only [if_pos h4,e1,e2,bind,Option.bind]
   ·obtain ⟨a,r1,e1,k1,_⟩:=one (job:= .atom true) (d:=d) (r:=r0) trivial trivial (by simp only [dK];omega) rfl;have hn:=jl zo r1;obtain ⟨t,r2,e2,k2,_⟩:=one (job:= .expr) (d:=d) (r:=bk zo r1) trivial trivial (by simp only [dK];omega) rfl;refine bZ (l:=(if dV fM r then [aR r] else [])++[a]++[da zo r1]++[t]) (r':=r2) ?_ (by omega) (fun f=>by cases f) (fun f=>f.elim);simp only [if_neg h4,e1,e2,bind,Option.bind]
  | params=>
   simp only [dK] at h;simp only [P];by_cases h1:dp true r=true
   ·rw [if_pos h1];obtain ⟨t,r1,e1,k1,f1⟩:=one (job:= .atom true) (d:=d) (r:=r) trivial trivial (by simp only [dK];omega) rfl;have ht:=f1 h1;obtain ⟨bs,r2,e2,k2⟩:=many (job:= .params) (d:=d) (r:=r1) trivial trivial (by simp only [dK];omega);refine bZ (l:=[t]++bs) (r':=r2) ?_ (by omega) (fun f=>by cases f) (fun f=>f.elim);simp only [e1,e2,bind,Option.bind]
   ·rw [if_neg h1];exact bZ rfl (Vn _) (fun f=>by cases f) (fun f=>f.elim)
  | arm=>
   simp only [dK] at h;simp only [P];obtain ⟨a,r1,e1,k1,_⟩:=one (job:= .pattern) (d:=d) (r:=r) trivial trivial (by simp only [dK];omega) rfl;have hn:=jl iB r1;obtain ⟨t,r2,e2,k2,_⟩:=one (job:= .expr) (d:=d) (r:=bk iB r1) trivial trivial (by simp only [dK];omega) rfl;refine bZ (l:=[node 10 ([a]++[da iB r1]++[t])]) (r':=r2) ?_ (by omega) (fun _=>⟨_,rfl⟩) (fun f=>f.elim);simp only [e1,e2,bind,Option.bind]
  | arms=>
   simp only [dK] at h;simp only [P];by_cases h1:dV gH r=true
   ·rw [if_pos h1];have ht:=eA (pA h1);obtain ⟨t,r1,e1,k1,_⟩:=one (job:= .arm) (d:=d) (r:=aQ r) trivial trivial (by simp only [dK];omega) rfl;obtain ⟨bs,r2,e2,k2⟩:=many (job:= .arms) (d:=d) (r:=r1) trivial trivial (by simp only [dK];omega);refine bZ (l:=aR r::[t]++bs) (r':=r2) ?_ (by omega) (fun f=>by cases f) (fun f=>f.elim);simp only [e1,e2,bind,Option.bind]
   ·rw [if_neg h1];exact bZ rfl (Vn _) (fun f=>by cases f) (fun f=>f.elim)
theorem BV: ∀(n:Nat) (r:List bc),(skip n r).2.length≤r.length
 | 0,_=>Vn _
 | n+1,r=>by
  simp only [skip];split
  ·have:=BV n (aQ r);have:=kB r;simp only;omega
  ·exact Vn _
theorem NX {r:List bc} (h0:(nx r).1≠0) (h1:dV qZ r=false):(skip r.length r).2.length < r.length:=by
 have ht:=eA h0;obtain ⟨n,hn⟩: ∃n,r.length=n+1:=⟨r.length - 1,by omega⟩;rw [hn];simp only [skip,if_pos (And.intro h0 h1)];have:=BV n (aQ r);omega
theorem H8: ∀(N:Nat) (r:List bc),17 * r.length+16 < N→ ∃l,decls N r=some l:=by
 intro N
 induction N with
 | zero=>intro r h;omega
 | succ n ih=>
  intro r h;simp only [decls];by_cases h0:(nx r).1=0
  ·rw [if_pos h0];exact ⟨_,rfl⟩
  rw [if_neg h0];by_cases h1:dV qZ r=true
  ·rw [if_pos h1];have ht:=eA h0;obtain ⟨bs,r1,e1,k1,_,_⟩:=(RZ n .binding 0 (aQ r) trivial trivial (by simp only [dK];omega)).some;obtain ⟨l,e2⟩:=ih r1 (by omega);exact ⟨node 5 (aR r::bs)::l,by simp only [e1,e2,bind,Option.bind]⟩
  ·rw [if_neg h1];have ht:=NX h0 (by simpa using h1);obtain ⟨l,e2⟩:=ih (skip r.length r).2 (by omega);exact ⟨node 3 (skip r.length r).1::l,by simp only [e2,bind,Option.bind]⟩
theorem mE (r:List bc): ∃l,decls (fuel r) r=some l∧doc r=node 4 l:=by
 obtain ⟨l,e⟩:=H8 (fuel r) r (by unfold fuel;omega);exact ⟨l,e,by unfold doc;rw [e];rfl⟩
end Go.Parse
namespace Go.Lex
open Go.VM
theorem J5 {n n' b0 b1 b2 b3 c1 c2 c3:Nat} (h0:mo n b0 b1 b2 b3≠0) (e1:1 < mo n b0 b1 b2 b3→c1=b1) (e2:2 < mo n b0 b1 b2 b3→c2=b2) (e3:3 < mo n b0 b1 b2 b3→c3=b3) (hl:mo n b0 b1 b2 b3≤n'):
  mo n' b0 c1 c2 c3=mo n b0 b1 b2 b3:=by
 by_cases a1:b0 < 128
 ·unfold mo;rw [if_pos a1,if_pos a1]
 by_cases a2:194≤b0∧b0≤223
 ·by_cases q:n < 2∨b1 < 128∨191 < b1
  ·exact absurd (by unfold mo;rw [if_neg a1,if_pos a2,if_pos q]) h0
  ·have e:mo n b0 b1 b2 b3=2:=by unfold mo;rw [if_neg a1,if_pos a2,if_neg q]
   rw [e] at e1 hl ⊢;have:=e1 (by omega);subst this;unfold mo;rw [if_neg a1,if_pos a2,if_neg (by omega)]
 by_cases a3:224≤b0∧b0≤239
 ·by_cases q:n < 3∨b1 < 128∨191 < b1∨b2 < 128∨191 < b2∨(b0=224∧b1 < 160)∨(b0=237∧159 < b1)
  ·exact absurd (by unfold mo;rw [if_neg a1,if_neg a2,if_pos a3,if_pos q]) h0
  ·have e:mo n b0 b1 b2 b3=3:=by unfold mo;rw [if_neg a1,if_neg a2,if_pos a3,if_neg q]
   rw [e] at e1 e2 hl ⊢;have:=e1 (by omega);have:=e2 (by omega)
   subst_vars
   unfold mo;rw [if_neg a1,if_neg a2,if_pos a3,if_neg (by omega)]
 by_cases a4:240≤b0∧b0≤244
 ·by_cases q:n < 4∨b1 < 128∨191 < b1∨b2 < 128∨191 < b2∨b3 < 128∨191 < b3∨(b0=240∧b1 < 144)∨(b0=244∧143 < b1)
  ·exact absurd (by unfold mo;rw [if_neg a1,if_neg a2,if_neg a3,if_pos a4,if_pos q]) h0
  ·have e:mo n b0 b1 b2 b3=4:=by unfold mo;rw [if_neg a1,if_neg a2,if_neg a3,if_pos a4,if_neg q]
   rw [e] at e1 e2 e3 hl ⊢;have:=e1 (by omega);have:=e2 (by omega);have:=e3 (by omega)
   subst_vars
   unfold mo;rw [if_neg a1,if_neg a2,if_neg a3,if_pos a4,if_neg (by omega)]
 ·exact absurd (by unfold mo;rw [if_neg a1,if_neg a2,if_neg a3,if_neg a4]) h0
theorem KD {n b0 b1 b2 b3:Nat} (h:2≤mo n b0 b1 b2 b3):128≤b0∧(128≤b1)∧(2 < mo n b0 b1 b2 b3→128≤b2)∧(3 < mo n b0 b1 b2 b3→128≤b3):=by
 unfold mo at *;by_cases a1:b0 < 128
 ·rw [if_pos a1] at h;omega
 rw [if_neg a1] at *;by_cases a2:194≤b0∧b0≤223
 ·rw [if_pos a2] at *;by_cases q:n < 2∨b1 < 128∨191 < b1
  ·rw [if_pos q] at h;omega
  ·rw [if_neg q] at *;omega
 rw [if_neg a2] at *;by_cases a3:224≤b0∧b0≤239
 ·rw [if_pos a3] at *;by_cases q:n < 3∨b1 < 128∨191 < b1∨b2 < 128∨191 < b2∨(b0=224∧b1 < 160)∨(b0=237∧159 < b1)
  ·rw [if_pos q] at h;omega
  ·rw [if_neg q] at *;omega
 rw [if_neg a3] at *;by_cases a4:240≤b0∧b0≤244
 ·rw [if_pos a4] at *;by_cases q:n < 4∨b1 < 128∨191 < b1∨b2 < 128∨191 < b2∨b3 < 128∨191 < b3∨(b0=240∧b1 < 144)∨(b0=244∧143 < b1)
  ·rw [if_pos q] at h;omega
  ·rw [if_neg q] at *;omega
 ·rw [if_neg a4] at h;omega
theorem LF (n b0 b1 b2 b3:Nat):mo n b0 b1 b2 b3≤4:=by
 unfold mo
 repeat' split
 all_goals omega
theorem C2 {s t:List UInt8} (h:gF s≠0) (he: ∀j,j < gF s→t.getD j 0=s.getD j 0) (hl:gF s≤t.length):gF t=gF s:=by
 have h0:=he 0 (by omega);unfold gF at h he hl ⊢;rw [h0];exact J5 h (fun k=>by rw [he 1 k]) (fun k=>by rw [he 2 k]) (fun k=>by rw [he 3 k]) hl
theorem getD_take {s:List UInt8} {n j:Nat} (h:j < n):(s.take n).getD j 0=s.getD j 0:=by
 rw [VI,VI,List.getElem?_take,if_pos h]
theorem qn (s:List UInt8) (n j:Nat):(s.drop n).getD j 0=s.getD (n+j) 0:=by
 rw [VI,VI,WI]
theorem LC {s x:List UInt8} {j:Nat} (h:j < s.length):(s++x).getD j 0=s.getD j 0:=by
 rw [VI,VI,VU h]
theorem yn {s:List UInt8} (hne:s≠[]) (h:gF s≠0) {n:Nat} (hn:gF s≤n):gF (s.take n)=gF s:=
 C2 h (fun j hj=>getD_take (by omega)) (by rw [VB];have:=rQ hne;omega)
theorem OA {s:List UInt8} (hne:s≠[]) (h:gF s≠0) (x:List UInt8):gF (s++x)=gF s:=by
 have:=rQ hne;exact C2 h (fun j hj=>LC (by omega)) (by rw [Vg];omega)
theorem DB {s:List UInt8} (h:2≤gF s) {j:Nat} (hj:j < gF s):128≤(s.getD j 0).toNat:=by
 have h4:=LF s.length (s.getD 0 0).toNat (s.getD 1 0).toNat (s.getD 2 0).toNat (s.getD 3 0).toNat
 unfold gF at h hj;have:=KD h;have hj4:j < 4:=by omega
 match j,hj4 with
 | 0,_=>exact this.1
 | 1,_=>exact this.2.1
 | 2,_=>exact this.2.2.1 hj
 | 3,_=>exact this.2.2.2 hj
theorem sL {s:List UInt8} (hne:s≠[]) (h:bO s=true):gF s≠0∧bO (s.drop (gF s))=true:=by
 rw [iN hne] at h;by_cases z:gF s=0
 ·rw [if_pos z] at h;cases h
 ·rw [if_neg z] at h;exact ⟨z,h⟩
theorem uz: ∀(n:Nat) (a b:List UInt8),a.length≤n→bO a=true→bO (a++b)=bO b
 | n,[],b,_,_=>rfl
 | 0,_:: _,_,h,_=>by simp at h
 | n+1,c::a,b,h,hv=>by
  obtain ⟨z,hz⟩:=sL (s:=c::a) (by simp) hv;have hle:=rQ (l:=c::a) (by simp);have hz2:=OA (s:=c::a) (by simp) z b;rw [iN (l:=c::a++b) (by simp),hz2,if_neg z,List.drop_append_of_le_length hle];exact uz n _ b (by rw [VF];simp at h ⊢;omega) hz
def Bd (s:List UInt8) (n:Nat):Prop:=n=0∨(s.getD n 0).toNat < 128∨(s.getD (n - 1) 0).toNat < 128
theorem vr: ∀(m:Nat) (s:List UInt8) (n:Nat),s.length≤m→bO s=true→n≤s.length→Bd s n→bO (s.take n)=true∧bO (s.drop n)=true
 | m,s,0,_,hv,_,_=>⟨rfl,hv⟩
 | m,[],n+1,_,_,h,_=>by simp at h
 | 0,_:: _,_,h,_,_,_=>by simp at h
 | m+1,c::l,n+1,hm,hv,hn,hb=>by
  obtain ⟨z,hz⟩:=sL (s:=c::l) (by simp) hv;have hle:=rQ (l:=c::l) (by simp);by_cases hzn:gF (c::l)≤n+1
  ·have hlen:((c::l).drop (gF (c::l))).length=(c::l).length - gF (c::l):=VF;have hb2:Bd ((c::l).drop (gF (c::l))) (n+1 - gF (c::l)):=by
    rcases hb with hb | hb | hb
    ·omega
    ·exact .inr (.inl (by rw [qn,show gF (c::l)+(n+1 - gF (c::l))=n+1 by omega];exact hb))
    ·by_cases e:n+1 - gF (c::l)=0
     ·exact .inl e
     ·exact .inr (.inr (by rw [qn,show gF (c::l)+(n+1 - gF (c::l) - 1)=n+1 - 1 by omega];exact hb))
   have ih:=vr m ((c::l).drop (gF (c::l))) (n+1 - gF (c::l)) (by simp at hm hlen ⊢;omega) hz (by omega) hb2;have h1:=yn (s:=c::l) (by simp) z hzn;have hne:(c::l).take (n+1)≠[]:=by simp
   constructor
   ·rw [iN hne,h1,if_neg z,List.drop_take];exact ih.1
   ·have e:(c::l).drop (n+1)=((c::l).drop (gF (c::l))).drop (n+1 - gF (c::l)):=by
     rw [WK];congr 1;omega
    rw [e];exact ih.2
  ·exfalso;have k1:=DB (s:=c::l) (by omega) (j:=n+1) (by omega);have k2:=DB (s:=c::l) (by omega) (j:=n+1 - 1) (by omega);rcases hb with hb | hb | hb <;> omega
def Asc (s:List UInt8) (n:Nat):Prop:= ∀j,j < n→(s.getD j 0).toNat < 128
theorem FI {s:List UInt8} {n:Nat} (h:Asc s n):Bd s n:=by
 cases n with
 | zero=>exact .inl rfl
 | succ n=>exact .inr (.inr (h n (Wq n)))
theorem asc_add {s:List UInt8} {a b:Nat} (h:Asc s a) (k:Asc (s.drop a) b):Asc s (a+b):=by
 intro j hj;by_cases q:j < a
 ·exact h j q
 ·have:=k (j - a) (by omega);rw [qn,show a+(j - a)=j by omega] at this;exact this
theorem uB {p:UInt8→Bool} (hp: ∀b,p b=true→b.toNat < 128): ∀s:List UInt8,Asc s (wh p s)
 | []=>fun j hj=>absurd hj (W8 j)
 | c::l=>by
  rw [fk];intro j hj;cases hc:p c with
  | false=>rw [hc] at hj;simp at hj
  | true=>
   rw [hc,if_pos rfl] at hj;cases j with
   | zero=>exact hp c hc
   | succ j=>exact uB hp l j (by omega)
theorem To {p:UInt8→Bool} (h:((List.range 256).all fun n=>p (UInt8.ofNat n))=true) (b:UInt8):p b=true:=by
 have:=Wf.1 h b.toNat (List.mem_range.2 (UInt8.toNat_lt b));simpa using this
theorem yx {p:UInt8→Bool} (h:((List.range 256).all fun n=> !(p (UInt8.ofNat n))||Nat.blt (UInt8.ofNat n).toNat 128)=true) (b:UInt8) (hb:p b=true):b.toNat < 128:=by
 have:=To (p:=fun b=> !(p b)||Nat.blt b.toNat 128) h b;simp only [hb,V9,Wu] at this;exact VA this
theorem Ix (b:UInt8) (hb:bV b=true):b.toNat < 128:=yx (by decide+kernel) b hb
theorem NM (b:UInt8) (hb:gx b=true):b.toNat < 128:=yx (by decide+kernel) b hb
theorem CE (b:UInt8) (hb:aO b=true):b.toNat < 128:=yx (by decide+kernel) b hb
theorem asc_one (b:UInt8) (hb:iQ b=true):b.toNat < 128:=yx (by decide+kernel) b hb
theorem Ob (b:UInt8) (hb:yE b=true):b.toNat < 128:=yx (by decide+kernel) b hb
theorem Lj (s:List UInt8):Asc s (ia s).1:=by
 unfold ia;cases s with
 | nil=>exact fun j hj=>absurd hj (W8 j)
 | cons e l=>
  dsimp only;split
  ·rename_i he;split
   ·exact fun j hj=>absurd hj (W8 j)
   ·dsimp only;have h1:Asc (e::l) 1:=by
     intro j hj;have:j=0:=by omega
     subst this;rcases he with rfl | rfl <;> exact VA rfl
    have h2:Asc l (gu l):=by
     cases l with
     | nil=>exact fun j hj=>absurd hj (W8 j)
     | cons d r=>
      intro j hj;simp only [gu] at hj;cases hd:yE d with
      | false=>rw [hd] at hj;simp at hj
      | true=>
       rw [hd,if_pos rfl] at hj;have:j=0:=by omega
       subst this;exact Ob d hd
    have h3:=uB CE (l.drop (gu l));refine asc_add (asc_add h1 h2) ?_;rw [show (e::l).drop (1+gu l)=l.drop (gu l) by rw [WE];rfl];exact h3
  ·exact fun j hj=>absurd hj (W8 j)
theorem HR {s:List UInt8} {c:UInt8} (h:s.head?=some c):s.getD 0 0=c:=by
 cases s with
 | nil=>cases h
 | cons d l=>cases h;rfl
theorem Gn (s:List UInt8):Asc s (number s).2:=by
 have h1:=uB CE s;unfold number;dsimp only;split
 ·rename_i h46;refine asc_add (asc_add (asc_add h1 ?_) ?_) ?_
  ·intro j hj;have:j=0:=by omega
   subst this;rw [HR h46];decide
  ·exact uB CE _
  ·exact Lj _
 ·exact h1
theorem tH: ∀(s:List UInt8) (d n:Nat),rem s d=some n→s.getD (n - 1) 0=41
 | [],_,_,h=>by simp [rem] at h
 | [_],_,_,h=>by simp [rem] at h
 | a::b::l,d,n,h=>by
  simp only [rem] at h;split at h
  ·obtain ⟨m,hm,rfl⟩:=VO.1 h;have h1:=oM l (d+1) m hm;have:=tH l (d+1) m hm;rw [show m+2 - 1=(m - 1)+2 by omega];exact this
  ·split at h
   ·rename_i hab;split at h
    ·cases h;exact hab.2
    ·obtain ⟨m,hm,rfl⟩:=VO.1 h;have h1:=oM l (d - 1) m hm;have:=tH l (d - 1) m hm;rw [show m+2 - 1=(m - 1)+2 by omega];exact this
   ·obtain ⟨m,hm,rfl⟩:=VO.1 h;have h1:=oM (b::l) d m hm;have:=tH (b::l) d m hm;rw [show m+1 - 1=(m - 1)+1 by omega];exact this
theorem Ez: ∀(s:List UInt8),(s.getD (fp s) 0).toNat < 128∨(1≤fp s∧s.getD (fp s - 1) 0=34)
 | []=> .inl (by decide)
 | c::l=>by
  simp only [fp];split
  ·rename_i h;subst h;exact .inl (VA rfl)
  ·split
   ·rename_i h;subst h;exact .inr ⟨Vn _,rfl⟩
   ·rcases Ez l with h | ⟨h1,h2⟩
    ·exact .inl h
    ·exact .inr ⟨by omega,by rw [show fp l+1 - 1=(fp l - 1)+1 by omega];exact h2⟩
theorem B1: ∀(s:List UInt8),(s.getD (cI s).2 0).toNat < 128∨(1≤(cI s).2∧s.getD ((cI s).2 - 1) 0=34)
 | []=> .inl (by decide)
 | [c]=>by
  simp only [cI];split
  ·rename_i h;subst h;exact .inl (VA rfl)
  ·split
   ·rename_i h;subst h;exact .inr ⟨Vn _,rfl⟩
   ·exact .inl (VA rfl)
 | c::d::l=>by
  simp only [cI];split
  ·rename_i h;subst h;exact .inl (VA rfl)
  ·split
   ·rename_i h;subst h;exact .inr ⟨Vn _,rfl⟩
   ·split
    ·split
     ·rcases B1 l with h | ⟨h1,h2⟩
      ·exact .inl h
      ·refine .inr ⟨by dsimp only;omega, ?_⟩;dsimp only;rw [show (cI l).2+2 - 1=((cI l).2 - 1)+2 by omega];exact h2
     ·rcases Ez (d::l) with h | ⟨h1,h2⟩
      ·exact .inl h
      ·refine .inr ⟨by dsimp only;omega, ?_⟩;dsimp only;rw [show fp (d::l)+1 - 1=(fp (d::l) - 1)+1 by omega];exact h2
    ·rcases B1 (d::l) with h | ⟨h1,h2⟩
     ·exact .inl h
     ·refine .inr ⟨by dsimp only;omega, ?_⟩;dsimp only;rw [show (cI (d::l)).2+1 - 1=((cI (d::l)).2 - 1)+1 by omega];exact h2
theorem QL {s:List UInt8} (hne:s≠[]):Bd s (cut s).2∨(cut s).2=if gF s=0 then 1 else gF s:=by
 cases s with
 | nil=>exact absurd rfl hne
 | cons c l=>
  unfold cut;dsimp only;split
  ·exact .inl (FI (uB Ix _))
  split
  ·cases hr:rem (List.drop 2 (c::l)) 1 with
   | some n=>
    have h1:=oM _ _ _ hr;have:=tH _ _ _ hr;rw [qn] at this;refine .inl (.inr (.inr ?_));dsimp only;rw [show n+2 - 1=2+(n - 1) by omega,this];decide
   | none=>
    refine .inl (.inr (.inl ?_));dsimp only;rw [VI,VW (Vn _)];decide
  split
  ·exact .inl (FI (uB NM _))
  split
  ·exact .inl (FI (Gn _))
  split
  ·rcases B1 l with h | ⟨h1,h2⟩
   ·exact .inl (.inr (.inl h))
   ·refine .inl (.inr (.inr ?_));dsimp only;rw [show (cI l).2+1 - 1=((cI l).2 - 1)+1 by omega];have h2:(c::l).getD ((cI l).2 - 1+1) 0=34:=h2;rw [h2];decide
  split
  ·rename_i h2;refine .inl (.inr (.inr ?_));have hm:(c::l).take 2∈gw:=List.contains_iff_mem.1 h2;have e:(c::l).getD (2 - 1) 0=((c::l).take 2).getD 1 0:=(getD_take (by omega)).symm;dsimp only;rw [e];generalize (c::l).take 2=w at hm;simp only [gw,Vv,List.not_mem_nil,or_false] at hm;rcases hm with rfl | rfl | rfl | rfl | rfl | rfl | rfl | rfl | rfl | rfl | rfl <;> decide
  split
  ·rename_i h1;exact .inl (.inr (.inr (asc_one c h1)))
  ·exact .inr rfl
theorem Jq {s:List UInt8} (hne:s≠[]) (hv:bO s=true):bO (s.take (cut s).2)=true∧bO (s.drop (cut s).2)=true:=by
 have hc:=mQ hne;rcases QL hne with h | h
 ·exact vr _ s _ (Vn _) hv hc.2 h
 ·obtain ⟨z,hz⟩:=sL hne hv;rw [if_neg z] at h;rw [h];refine ⟨?_,hz⟩;have hne2:s.take (gF s)≠[]:=by
   intro e;rw [List.take_eq_nil_iff] at e;rcases e with e | e
   ·exact z e
   ·exact hne e
  have hl:=rQ hne;rw [iN hne2,yn hne z (Vn _),if_neg z,List.drop_of_length_le (by rw [VB];omega)];rfl
theorem kD (p:UInt8→Bool): ∀(s:List UInt8) (n:Nat),wh p (s.take n)=min (wh p s) n
 | [],n=>by simp [wh]
 | c::l,0=>by simp [wh]
 | c::l,n+1=>by
  rw [W7,fk,fk,kD p l n];split <;> omega
theorem Kw (p:UInt8→Bool) (s:List UInt8):(s.take (wh p s)).takeWhile p=s.takeWhile p:=by
 rw [← qw p (s.take (wh p s)),kD,Nat.min_self,List.take_take,Nat.min_self,qw]
theorem nH: ∀(s:List UInt8) (d n:Nat),rem s d=some n→rem (s.take n) d=some n
 | [],_,_,h=>by simp [rem] at h
 | [_],_,_,h=>by simp [rem] at h
 | a::b::l,d,n,h=>by
  simp only [rem] at h;split at h
  ·rename_i c1;obtain ⟨m,hm,rfl⟩:=VO.1 h;show rem (a::b::l.take m) d= _;simp only [rem,if_pos c1,nH l (d+1) m hm];rfl
  ·rename_i c1;split at h
   ·rename_i c2;split at h
    ·rename_i c3;cases h;show rem [a,b] d= _;simp only [rem,if_neg c1,if_pos c2,if_pos c3]
    ·rename_i c3;obtain ⟨m,hm,rfl⟩:=VO.1 h;show rem (a::b::l.take m) d= _;simp only [rem,if_neg c1,if_pos c2,if_neg c3,nH l (d - 1) m hm];rfl
   ·rename_i c2;obtain ⟨m,hm,rfl⟩:=VO.1 h;have h2:=(oM (b::l) d m hm).1;have ih:=nH (b::l) d m hm;obtain ⟨k,rfl⟩: ∃k,m=k+1:=⟨m - 1,by omega⟩;have ih:rem (b::l.take k) d=some (k+1):=ih;show rem (a::b::l.take k) d= _;simp only [rem,if_neg c1,if_neg c2,ih];rfl
theorem wB (x:List UInt8): ∀(s:List UInt8) (d n:Nat),rem s d=some n→rem (s++x) d=some n
 | [],_,_,h=>by simp [rem] at h
 | [_],_,_,h=>by simp [rem] at h
 | a::b::l,d,n,h=>by
  simp only [rem] at h;show rem (a::b::(l++x)) d= _;split at h
  ·rename_i c1;obtain ⟨m,hm,rfl⟩:=VO.1 h;simp only [rem,if_pos c1,wB x l (d+1) m hm];rfl
  ·rename_i c1;split at h
   ·rename_i c2;split at h
    ·rename_i c3;cases h;simp only [rem,if_neg c1,if_pos c2,if_pos c3]
    ·rename_i c3;obtain ⟨m,hm,rfl⟩:=VO.1 h;simp only [rem,if_neg c1,if_pos c2,if_neg c3,wB x l (d - 1) m hm];rfl
   ·rename_i c2;obtain ⟨m,hm,rfl⟩:=VO.1 h;have ih:rem (b::(l++x)) d=some m:=wB x (b::l) d m hm;simp only [rem,if_neg c1,if_neg c2,ih];rfl
theorem Lh {l:List UInt8} {n:Nat} (h:gu l≤n) (hn:1≤n):gu (l.take n)=gu l:=by
 cases l with
 | nil=>rw [List.take_nil]
 | cons c l=>
  obtain ⟨m,rfl⟩: ∃m,n=m+1:=⟨n - 1,by omega⟩;rfl
theorem head_take {l:List UInt8} {n:Nat} (hn:1≤n):(l.take n).head?=l.head?:=by
 cases l with
 | nil=>rw [List.take_nil]
 | cons c l=>
  obtain ⟨m,rfl⟩: ∃m,n=m+1:=⟨n - 1,by omega⟩;rfl
theorem Iw (s:List UInt8):ia (s.take (ia s).1)=ia s:=by
 cases s with
 | nil=>rfl
 | cons e l=>
  by_cases he:e=101∨e=69
  ·by_cases hd:wh aO (l.drop (gu l))=0
   ·have h0:ia (e::l)=(0,0):=by unfold ia;dsimp only;rw [if_pos he,if_pos hd]
    rw [h0];rfl
   ·have h1:(ia (e::l)).1=1+gu l+wh aO (l.drop (gu l)):=by unfold ia;dsimp only;rw [if_pos he,if_neg hd]
    rw [h1];generalize hk:wh aO (l.drop (gu l))=k at hd;have ht:(e::l).take (1+gu l+k)=e::l.take (gu l+k):=by
     rw [show 1+gu l+k=(gu l+k)+1 by omega];rfl
    have hs:gu (l.take (gu l+k))=gu l:=Lh (by omega) (by omega);have hdr:(l.take (gu l+k)).drop (gu l)=(l.drop (gu l)).take k:=by
     rw [List.drop_take];congr 1;omega
    have hw:wh aO ((l.drop (gu l)).take k)=k:=by rw [kD,hk,Nat.min_self]
    have hh:(l.take (gu l+k)).head?=l.head?:=head_take (by omega);rw [ht];unfold ia;dsimp only;rw [if_pos he,if_pos he,hs,hdr,hw,hk,if_neg hd,if_neg hd,hh,List.take_take,Nat.min_self]
  ·have h0:ia (e::l)=(0,0):=by unfold ia;dsimp only;rw [if_neg he]
   rw [h0];rfl
theorem jL (s:List UInt8):number s=if (s.drop (wh aO s)).head?=some 46 then (if wh aO s+wh aO (s.drop (wh aO s+1)) > 15∨(ia (s.drop (wh aO s+1+wh aO (s.drop (wh aO s+1))))).2 - (wh aO (s.drop (wh aO s+1)):Int) < -22∨(ia (s.drop (wh aO s+1+wh aO (s.drop (wh aO s+1))))).2 - (wh aO (s.drop (wh aO s+1)):Int) > 22 then 9 else 6,wh aO s+1+wh aO (s.drop (wh aO s+1))+(ia (s.drop (wh aO s+1+wh aO (s.drop (wh aO s+1))))).1) else (5,wh aO s):=rfl
theorem DC (s:List UInt8):number (s.take (number s).2)=number s:=by
 by_cases h46:(s.drop (wh aO s)).head?=some 46
 ·have h2:(number s).2=wh aO s+1+wh aO (s.drop (wh aO s+1))+(ia (s.drop (wh aO s+1+wh aO (s.drop (wh aO s+1))))).1:=by rw [jL,if_pos h46]
  have hx:=Iw (s.drop (wh aO s+1+wh aO (s.drop (wh aO s+1))));rw [h2,jL (List.take _ _),jL s,if_pos h46];generalize hn:wh aO s=n at *;generalize hk:wh aO (s.drop (n+1))=k at *;generalize hr:s.drop (n+1+k)=r at *;generalize hm:(ia r).1=m at *;have w1:wh aO (s.take (n+1+k+m))=n:=by rw [kD,hn];omega
  have d1:(s.take (n+1+k+m)).drop n=(s.drop n).take (1+k+m):=by rw [List.drop_take];congr 1;omega
  have d2:(s.take (n+1+k+m)).drop (n+1)=(s.drop (n+1)).take (k+m):=by rw [List.drop_take];congr 1;omega
  have d3:(s.take (n+1+k+m)).drop (n+1+k)=r.take m:=by rw [List.drop_take,hr];congr 1;omega
  have w2:wh aO ((s.drop (n+1)).take (k+m))=k:=by rw [kD,hk];omega
  have hh:((s.drop n).take (1+k+m)).head?=some 46:=by rw [head_take (by omega)];exact h46
  rw [w1,d1,d2,w2,d3,hx,if_pos hh,hm]
 ·have h2:number s=(5,wh aO s):=by rw [jL,if_neg h46]
  rw [h2,jL (List.take _ _),kD,Nat.min_self];have hd:(s.take (wh aO s)).drop (wh aO s)=[]:=List.drop_of_length_le (by rw [VB];omega);rw [hd,if_neg (by simp)]
theorem AE: ∀s:List UInt8,fp (s.take (fp s))=fp s
 | []=>rfl
 | c::l=>by
  by_cases h1:c=10
  ·have h0:fp (c::l)=0:=by simp only [fp,if_pos h1]
   rw [h0];rfl
  ·by_cases h2:c=34
   ·have h0:fp (c::l)=1:=by simp only [fp,if_neg h1,if_pos h2]
    rw [h0];show fp [c]=1;simp only [fp,if_neg h1,if_pos h2]
   ·have h0:fp (c::l)=fp l+1:=by simp only [fp,if_neg h1,if_neg h2]
    rw [h0];show fp (c::l.take (fp l))= _;simp only [fp,if_neg h1,if_neg h2,AE l]
theorem nq (r:List UInt8): ∀s:List UInt8,fp (s++10::r)=fp s
 | []=>by
  show fp (10::r)=0;simp [fp]
 | c::l=>by
  show fp (c::(l++10::r))= _;simp only [fp,nq r l]
theorem tR {c:UInt8} (h1:c≠10) (h2:c≠34):cI [c]=(9,1):=by simp only [cI,if_neg h1,if_neg h2]
theorem yT: ∀s:List UInt8,cI (s.take (cI s).2)=cI s
 | []=>rfl
 | [c]=>by
  by_cases h1:c=10
  ·subst h1;rfl
  ·by_cases h2:c=34
   ·subst h2;rfl
   ·rw [tR h1 h2];exact tR h1 h2
 | c::d::l=>by
  by_cases h1:c=10
  ·have h0:cI (c::d::l)=(9,0):=by simp only [cI,if_pos h1]
   rw [h0];rfl
  by_cases h2:c=34
  ·have h0:cI (c::d::l)=(7,1):=by simp only [cI,if_neg h1,if_pos h2]
   rw [h0];show cI [c]= _;simp only [cI,if_neg h1,if_pos h2]
  by_cases h3:c=92
  ·cases he:yZ d with
   | true=>
    have h0:cI (c::d::l)=((cI l).1,(cI l).2+2):=by simp only [cI,if_neg h1,if_neg h2,if_pos h3,he,if_true]
    rw [h0];show cI (c::d::l.take (cI l).2)= _;simp only [cI,if_neg h1,if_neg h2,if_pos h3,he,if_true,yT l]
   | false=>
    have h0:cI (c::d::l)=(9,fp (d::l)+1):=by simp only [cI,if_neg h1,if_neg h2,if_pos h3,he,VP,if_false]
    rw [h0];show cI (c::(d::l).take (fp (d::l)))= _;have hb:=AE (d::l);cases ht:(d::l).take (fp (d::l)) with
    | nil=>
     rw [ht] at hb;rw [tR h1 h2, ← hb];rfl
    | cons e m=>
     rw [ht] at hb;have:e=d:=by
      cases hb0:fp (d::l) with
      | zero=>rw [hb0] at ht;cases ht
      | succ k=>rw [hb0] at ht;cases ht;rfl
     subst this;simp only [cI,if_neg h1,if_neg h2,if_pos h3,he,VP,if_false,hb]
  ·have h0:cI (c::d::l)=((cI (d::l)).1,(cI (d::l)).2+1):=by simp only [cI,if_neg h1,if_neg h2,if_neg h3]
   rw [h0];show cI (c::(d::l).take (cI (d::l)).2)= _;have hb:=yT (d::l);cases ht:(d::l).take (cI (d::l)).2 with
   | nil=>
    rw [ht] at hb;rw [tR h1 h2, ← hb];rfl
   | cons e m=>
    rw [ht] at hb;simp only [cI,if_neg h1,if_neg h2,if_neg h3,hb]
theorem lT (r:List UInt8): ∀s:List UInt8,cI (s++10::r)=cI s
 | []=>by
  show cI (10::r)=(9,0);cases r with
  | nil=>rfl
  | cons d r=>simp only [cI,if_true]
 | [c]=>by
  show cI (c::10::r)= _;by_cases h1:c=10
  ·subst h1;simp only [cI,if_true]
  by_cases h2:c=34
  ·simp only [cI,if_neg h1,if_pos h2]
  rw [tR h1 h2];by_cases h3:c=92
  ·simp only [cI,if_neg h1,if_neg h2,if_pos h3,show yZ 10=false from rfl,VP,if_false];simp [fp]
  ·have ih:=lT r [];have ih:cI (10::r)=(9,0):=ih;simp only [cI,if_neg h1,if_neg h2,if_neg h3,ih]
 | c::d::l=>by
  have ih1:=lT r l;have ih2:cI (d::(l++10::r))=cI (d::l):=lT r (d::l);have ih3:fp (d::(l++10::r))=fp (d::l):=nq r (d::l);show cI (c::d::(l++10::r))= _;simp only [cI,ih1,ih2,ih3]
def QI (c:UInt8) (l s:List UInt8):Nat×Nat:=
 if bV c then (1,wh bV s)
 else if s.take 2=[40,42] then (match rem (s.drop 2) 1 with | some n=>(2,n+2) | none=>(9,s.length))
 else if iY c then (rn (s.takeWhile gx),wh gx s)
 else if aO c then number s
 else if c=34 then ((cI l).1,(cI l).2+1)
 else if gw.contains (s.take 2) then (8,2)
 else if iQ c then (8,1)
 else (9,if gF s=0 then 1 else gF s)
theorem pK (c:UInt8) (l:List UInt8):cut (c::l)=QI c l (c::l):=rfl
theorem JG {c:UInt8} {l:List UInt8} (h:(c::l).take 2≠[40,42]) (n:Nat):(c::l.take n).take 2≠[40,42]:=by
 cases l with
 | nil=>rw [List.take_nil];exact h
 | cons d l=>
  cases n with
  | zero=>simp
  | succ n=>exact h
theorem KW {s:List UInt8} (hne:s≠[]) (hz:gF s≠0):cut (s.take (cut s).2)=cut s:=by
 cases s with
 | nil=>exact absurd rfl hne
 | cons c l=>
 have hle:=(mQ (s:=c::l) (by simp)).1;obtain ⟨m,hm⟩: ∃m,(cut (c::l)).2=m+1:=⟨(cut (c::l)).2 - 1,by omega⟩;have ht:(c::l).take (cut (c::l)).2=c::l.take m:=by rw [hm];rfl
 rw [ht,pK, ← ht];rw [hm];have ht:(c::l).take (m+1)=c::l.take m:=rfl;rw [pK c l] at hm ⊢;unfold QI at hm ⊢;cases hb:bV c with
 | true=>
  rw [hb] at hm;simp only [if_true] at hm ⊢;rw [kD,hm,Nat.min_self]
 | false=>
 rw [hb] at hm;simp only [VP,if_false] at hm ⊢;by_cases h2:(c::l).take 2=[40,42]
 ·rw [if_pos h2] at hm ⊢;have hl:2≤(c::l).length:=by
   have:=Wb List.length h2;rw [VB] at this;simp at this;simp;omega
  cases hr:rem ((c::l).drop 2) 1 with
  | none=>
   rw [hr] at hm;have hm:(c::l).length=m+1:=hm;have e:(c::l).take (m+1)=c::l:=List.take_of_length_le (by omega);rw [e,if_pos h2,hr]
  | some n=>
   rw [hr] at hm;have hm:n+2=m+1:=hm;have e:((c::l).take (m+1)).take 2=(c::l).take 2:=by
    rw [List.take_take];congr 1;omega
   have e2:((c::l).take (m+1)).drop 2=((c::l).drop 2).take n:=by
    rw [List.drop_take];congr 1;omega
   rw [e,if_pos h2,e2,nH _ _ _ hr]
 have h2':((c::l).take (m+1)).take 2≠[40,42]:=JG h2 m;rw [if_neg h2] at hm ⊢;rw [if_neg h2'];cases hlo:iY c with
 | true=>
  rw [hlo] at hm;simp only [if_true] at hm ⊢;have hm:wh gx (c::l)=m+1:=hm;rw [← hm,kD,Nat.min_self,Kw]
 | false=>
 rw [hlo] at hm;simp only [VP,if_false] at hm ⊢;cases hdi:aO c with
 | true=>
  rw [hdi] at hm;simp only [if_true] at hm ⊢;rw [← hm];exact DC _
 | false=>
 rw [hdi] at hm;simp only [VP,if_false] at hm ⊢;by_cases hq:c=34
 ·rw [if_pos hq] at hm ⊢;rw [if_pos hq];have hm:(cI l).2+1=m+1:=hm;have e:m=(cI l).2:=by omega
  rw [e,yT]
 rw [if_neg hq] at hm ⊢;rw [if_neg hq];cases htw:gw.contains ((c::l).take 2) with
 | true=>
  rw [htw] at hm;simp only [if_true] at hm ⊢;have hm:2=m+1:=hm;rw [← hm,List.take_take,Nat.min_self,htw];rfl
 | false=>
 rw [htw] at hm;simp only [VP,if_false] at hm ⊢;cases ho:iQ c with
 | true=>
  rw [ho] at hm;simp only [if_true] at hm ⊢;have hm:1=m+1:=hm;have:m=0:=by omega
  subst this;have e:gw.contains (((c::l).take (0+1)).take 2)=false:=by
   show gw.contains [c]=false;simp [gw]
  rw [e];rfl
 | false=>
 rw [ho] at hm;simp only [VP,if_false] at hm ⊢;have hm:(if gF (c::l)=0 then 1 else gF (c::l))=m+1:=hm;rw [if_neg hz] at hm ⊢;have e:gF ((c::l).take (m+1))=gF (c::l):=yn hne hz (by omega);have e2:gw.contains (((c::l).take (m+1)).take 2)=false:=by
  cases l with
  | nil=>show gw.contains ((c::[].take m).take 2)=false;rw [List.take_nil];exact htw
  | cons d l=>
   cases m with
   | zero=>show gw.contains [c]=false;simp [gw]
   | succ m=>exact htw
 rw [e2,e,if_neg hz];rfl
def behind (s:List UInt8):Nat→List UInt8
 | 0=>s
 | n+1=>(behind s n).drop (cut (behind s n)).2
theorem qj: ∀(n:Nat) (s:List UInt8),s.length≤n→(((tokens s).map (·.2)).flatten)=s
 | n,[],_=>rfl
 | 0,_:: _,h=>by simp at h
 | n+1,c::l,h=>by
  have hc:=mQ (s:=c::l) (by simp);rw [vA (by simp),Vu,List.flatten_cons,qj n _ (by rw [VF];simp at h ⊢;omega),Wl]
theorem LS {p y y':List UInt8} {d m:Nat} (h:rem (p++y) d=some m) (hm:m≤p.length):rem (p++y') d=some m:=by
 have h1:=nH _ _ _ h;rw [List.take_append_of_le_length hm] at h1;have h2:=wB (p.drop m++y') _ _ _ h1;rw [← Vx,Wl] at h2;exact h2
def dT (l:List (Nat×List UInt8)):List UInt8:=(l.map (·.2)).flatten
def keeps:Nat→List (Nat×List UInt8)→Nat
 | _,[]=>0
 | r,p::l=>if p.2.length+2 < r then keeps (r - p.2.length) l+1 else 0
def alike:List (Nat×List UInt8)→List (Nat×List UInt8)→Nat
 | a::l,b::m=>if a=b then alike l m+1 else 0
 | _,_=>0
end Go.Lex
namespace Go.Parse
open Go.VM Go.Lex
mutual
def eh:T→List UInt8
 | .mk k _ tx l=>ck l++(if k=1 then tx else [])
def ck:List T→List UInt8
 | []=>[]
 | t::l=>eh t++ck l
end
theorem eI: ∀(l m:List T),ck (l++m)=ck l++ck m
 | [],m=>by simp [ck]
 | t::l,m=>by simp only [Vz,ck,eI l m,Vx]
theorem bT (t:T):ck [t]=eh t:=by simp [ck]
theorem oL (s:List UInt8):eh (missing s)=[]:=rfl
theorem dG {k:Nat} (h:k≠1) (l:List T):eh (node k l)=ck l:=by simp [eh,h]
theorem Gf (l m:List bc):dT (l++m)=dT l++dT m:=by simp [dT]
theorem vo: ∀(l:List bc),ck (l.map aT)=dT l
 | []=>rfl
 | t::l=>by
  show eh (aT t)++ck (l.map aT)=t.2++dT l;rw [vo l];rfl
theorem gA (r:List bc):eh (aR r)++dT (aQ r)=dT r:=by
 have h:=WN (p:=bl) (l:=r);have e:eh (aR r)=dT (r.takeWhile bl)++(nx r).2:=by
  show ck ((r.takeWhile bl).map aT)++(nx r).2= _;rw [vo]
 rw [e]
 conv=>rhs;rw [← h,Gf]
 unfold aQ nx;cases r.dropWhile bl with
 | nil=>simp [dT]
 | cons t l=>simp [dT]
theorem iG (s:List UInt8) (r:List bc):eh (da s r)++dT (bk s r)=dT r:=by
 unfold da bk;split
 ·exact gA r
 ·rw [oL];rfl
theorem uX (s:List UInt8) (r:List bc):eh (kZ s r)++dT (kW r)=dT r:=by
 unfold kZ kW;split
 ·rw [oL];rfl
 ·rw [dG (by decide),bT];exact gA r
def yh:lC→List UInt8
 | .ops _ acc=>eh acc
 | .args acc=>eh acc
 | _=>[]
theorem bind_some {α β:Type} {x:Option α} {f:α→Option β} {b:β} (h:(x >>= f)=some b): ∃a,x=some a∧f a=some b:=by
 cases x with
 | none=>cases h
 | some a=>exact ⟨a,rfl,h⟩
theorem qU (a b:Bool):kindOf a b≠1:=by cases a <;> cases b <;> decide
theorem Pj: ∀(N:Nat) (job:lC) (d:Nat) (r:List bc) (l:List T) (r':List bc),P N job d r=some (l,r')→ck l++dT r'=yh job++dT r:=by
 intro N
 induction N with
 | zero=>intro job d r l r' h;cases h
 | succ n ih=>
  intro job d r l r' h;have tk:=gA r;cases job with
  | expr=>
   simp only [P] at h;split at h
   ·cases h;rw [bT,uX];rfl
   ·have k:=ih _ _ _ _ _ h;exact k
  | whole=>
   simp only [P] at h;split at h
   ·obtain ⟨⟨bs,r2⟩,e1,h⟩:=bind_some h;obtain ⟨⟨es,r3⟩,e2,h⟩:=bind_some h;cases h;have k1:=ih _ _ _ _ _ e1;have k2:=ih _ _ _ _ _ e2;simp only [yh,Vs] at k1 k2 ⊢;rw [bT,dG (by decide)];simp only [eI,ck,Vs,VH,Vx,Vz,k2,iG,k1,tk]
   split at h
   ·obtain ⟨⟨a,r1⟩,e1,h⟩:=bind_some h;obtain ⟨⟨ps,r2⟩,e2,h⟩:=bind_some h;obtain ⟨⟨es,r3⟩,e3,h⟩:=bind_some h;cases h;have k1:=ih _ _ _ _ _ e1;have k2:=ih _ _ _ _ _ e2;have k3:=ih _ _ _ _ _ e3;simp only [yh,Vs] at k1 k2 k3 ⊢;rw [bT,dG (by decide)];simp only [eI,ck,Vs,VH,Vx,Vz,k3,iG,k2,k1,tk]
   split at h
   ·obtain ⟨⟨a,r1⟩,e1,h⟩:=bind_some h;obtain ⟨⟨b,r2⟩,e2,h⟩:=bind_some h;obtain ⟨⟨c,r3⟩,e3,h⟩:=bind_some h;cases h;have k1:=ih _ _ _ _ _ e1;have k2:=ih _ _ _ _ _ e2;have k3:=ih _ _ _ _ _ e3;simp only [yh,Vs] at k1 k2 k3 ⊢;rw [bT,dG (by decide)];simp only [eI,ck,Vs,VH,Vx,Vz,k3,iG,k2,k1,tk]
   split at h
   ·obtain ⟨⟨a,r1⟩,e1,h⟩:=bind_some h;obtain ⟨⟨b,r3⟩,e2,h⟩:=bind_some h;obtain ⟨⟨cs,r4⟩,e3,h⟩:=bind_some h;cases h;have k1:=ih _ _ _ _ _ e1;have k2:=ih _ _ _ _ _ e2;have k3:=ih _ _ _ _ _ e3;simp only [yh,Vs] at k1 k2 k3 ⊢;have kb:ck (if dV gH (bk bX r1) then [aR (bk bX r1)] else [])++dT (if dV gH (bk bX r1) then aQ (bk bX r1) else bk bX r1)=dT (bk bX r1):=by
     split
     ·rw [bT];exact gA _
     ·rfl
    rw [bT,dG (by decide)];simp only [eI,ck,Vs,VH,Vx,Vz,k3,k2,kb,iG,k1,tk]
   ·have k:=ih _ _ _ _ _ h;exact k
  | level k=>
   simp only [P] at h;split at h
   ·have k:=ih _ _ _ _ _ h;exact k
   ·obtain ⟨⟨a,r1⟩,e1,h⟩:=bind_some h;dsimp only at h;split at h
    ·have k1:=ih _ _ _ _ _ e1;have k2:=ih _ _ _ _ _ h;simp only [yh,Vs,bT] at k1 k2 ⊢;rw [k2,k1]
    ·cases h
  | ops k acc=>
   simp only [P] at h;split at h
   ·obtain ⟨⟨b,r1⟩,e1,h⟩:=bind_some h;have k1:=ih _ _ _ _ _ e1;have k2:=ih _ _ _ _ _ h;simp only [yh,Vs] at k1 k2 ⊢;rw [k2,dG (by decide)];simp only [ck,Vs,Vx,k1,tk]
   ·cases h;rw [bT];rfl
  | neg=>
   simp only [P] at h;split at h
   ·split at h
    ·cases h;rw [bT,dG (by decide)];simp only [ck,Vs,VH,Vx,yh,Vs,uX,tk]
    ·obtain ⟨⟨a,r1⟩,e1,h⟩:=bind_some h;cases h;have k1:=ih _ _ _ _ _ e1;simp only [yh,Vs] at k1 ⊢;rw [bT,dG (by decide)];simp only [ck,Vs,Vx,k1,tk]
   ·obtain ⟨⟨a,r1⟩,e1,h⟩:=bind_some h;dsimp only at h;split at h
    ·have k1:=ih _ _ _ _ _ e1;have k2:=ih _ _ _ _ _ h;simp only [yh,Vs,bT] at k1 k2 ⊢;rw [k2,k1]
    ·cases h
  | args acc=>
   simp only [P] at h;split at h
   ·obtain ⟨⟨b,r1⟩,e1,h⟩:=bind_some h;have k1:=ih _ _ _ _ _ e1;have k2:=ih _ _ _ _ _ h;simp only [yh,Vs] at k1 k2 ⊢;rw [k2,dG (by decide)];simp only [ck,Vs,Vx,k1]
   ·cases h;rw [bT];rfl
  | atom pat=>
   simp only [P] at h;split at h
   ·split at h
    ·cases h;rw [bT,dG (by decide),bT];exact tk
    split at h
    ·have k:=ih _ _ _ _ _ h;exact k
    split at h
    ·have k:=ih _ _ _ _ _ h;exact k
    ·cases h;rw [bT];exact tk
   ·cases h;rw [bT,oL];rfl
  | closed list pat=>
   simp only [P] at h;split at h
   ·cases h;have tk2:=gA (aQ r);rw [bT,dG (qU _ _)];simp only [ck,Vs,VH,Vx,yh,Vs,tk2,tk]
   ·obtain ⟨⟨a,r2⟩,e1,h⟩:=bind_some h;obtain ⟨⟨bs,r3⟩,e2,h⟩:=bind_some h;cases h;have k1:=ih _ _ _ _ _ e1;have k2:=ih _ _ _ _ _ e2;have hd:yh (if pat then lC.pattern else lC.expr)=[]:=by cases pat <;> rfl
    rw [hd] at k1;simp only [yh,Vs] at k1 k2 ⊢;rw [bT,dG (qU _ _)];simp only [eI,ck,Vs,VH,Vx,Vz,iG,k2,k1,tk]
  | items list pat=>
   simp only [P] at h;split at h
   ·obtain ⟨⟨a,r2⟩,e1,h⟩:=bind_some h;obtain ⟨⟨bs,r3⟩,e2,h⟩:=bind_some h;cases h;have k1:=ih _ _ _ _ _ e1;have k2:=ih _ _ _ _ _ e2;have hd:yh (if pat then lC.pattern else lC.expr)=[]:=by cases pat <;> rfl
    rw [hd] at k1;simp only [yh,Vs] at k1 k2 ⊢;simp only [eI,ck,Vs,Vx,Vz,k2,k1,tk]
   ·cases h;rfl
  | pattern=>
   simp only [P] at h;split at h
   ·cases h;rw [bT,uX];rfl
   ·obtain ⟨⟨a,r1⟩,e1,h⟩:=bind_some h;have k1:=ih _ _ _ _ _ e1;dsimp only at h;split at h
    ·obtain ⟨⟨b,r2⟩,e2,h⟩:=bind_some h;cases h;have k2:=ih _ _ _ _ _ e2;simp only [yh,Vs] at k1 k2 ⊢;rw [bT,dG (by decide)];simp only [eI,ck,Vs,Vx,k2,gA,k1]
    ·cases h;exact k1
  | binding=>
   simp only [P] at h;have k0:ck (if dV fM r then [aR r] else [])++dT (if dV fM r then aQ r else r)=dT r:=by
    split
    ·rw [bT];exact tk
    ·rfl
   generalize (if dV fM r then [aR r] else [])=rc at h k0;generalize (if dV fM r then aQ r else r)=r0 at h k0;split at h
   ·obtain ⟨⟨xs,r1⟩,e1,h⟩:=bind_some h;obtain ⟨⟨ps,r3⟩,e3,e1⟩:=bind_some e1;cases e1;obtain ⟨⟨es,r2⟩,e2,h⟩:=bind_some h;cases h;have k3:=ih _ _ _ _ _ e3;have k2:=ih _ _ _ _ _ e2;simp only [yh,Vs] at k2 k3 ⊢;simp only [eI,ck,Vs,bT,Vx,Vz,k2,iG,k3,gA,k0]
   ·obtain ⟨⟨xs,r1⟩,e1,h⟩:=bind_some h;obtain ⟨⟨es,r2⟩,e2,h⟩:=bind_some h;cases h;have k1:=ih _ _ _ _ _ e1;have k2:=ih _ _ _ _ _ e2;simp only [yh,Vs] at k1 k2 ⊢;simp only [eI,bT,Vx,k2,iG,k1,k0]
  | params=>
   simp only [P] at h;split at h
   ·obtain ⟨⟨a,r1⟩,e1,h⟩:=bind_some h;obtain ⟨⟨bs,r2⟩,e2,h⟩:=bind_some h;cases h;have k1:=ih _ _ _ _ _ e1;have k2:=ih _ _ _ _ _ e2;simp only [yh,Vs] at k1 k2 ⊢;simp only [eI,Vx,k2,k1]
   ·cases h;rfl
  | arm=>
   simp only [P] at h;obtain ⟨⟨a,r1⟩,e1,h⟩:=bind_some h;obtain ⟨⟨es,r2⟩,e2,h⟩:=bind_some h;cases h;have k1:=ih _ _ _ _ _ e1;have k2:=ih _ _ _ _ _ e2;simp only [yh,Vs] at k1 k2 ⊢;rw [bT,dG (by decide)];simp only [eI,bT,Vx,k2,iG,k1]
  | arms=>
   simp only [P] at h;split at h
   ·obtain ⟨⟨a,r1⟩,e1,h⟩:=bind_some h;obtain ⟨⟨bs,r2⟩,e2,h⟩:=bind_some h;cases h;have k1:=ih _ _ _ _ _ e1;have k2:=ih _ _ _ _ _ e2;simp only [yh,Vs] at k1 k2 ⊢;simp only [eI,ck,Vs,Vx,Vz,k2,k1,tk]
   ·cases h;rfl
theorem Dh {Q:List bc→Prop} (hQ: ∀r,Q r→Q (aQ r)): ∀(N:Nat) (job:lC) (d:Nat) (r:List bc) (l:List T) (r':List bc),P N job d r=some (l,r')→Q r→Q r':=by
 have hn: ∀s r,Q r→Q (bk s r):=fun s r h=>by
  unfold bk;split
  ·exact hQ r h
  ·exact h
 have hd: ∀r,Q r→Q (kW r):=fun r h=>by
  unfold kW;split
  ·exact h
  ·exact hQ r h
 intro N
 induction N with
 | zero=>intro job d r l r' h;cases h
 | succ n ih=>
  intro job d r l r' h q;cases job with
  | expr=>
   simp only [P] at h;split at h
   ·cases h;exact hd _ q
   ·exact ih _ _ _ _ _ h q
  | whole=>
   simp only [P] at h;split at h
   ·obtain ⟨⟨bs,r2⟩,e1,h⟩:=bind_some h;obtain ⟨⟨es,r3⟩,e2,h⟩:=bind_some h;cases h;exact ih _ _ _ _ _ e2 (hn _ _ (ih _ _ _ _ _ e1 (hQ _ q)))
   split at h
   ·obtain ⟨⟨a,r1⟩,e1,h⟩:=bind_some h;obtain ⟨⟨ps,r2⟩,e2,h⟩:=bind_some h;obtain ⟨⟨es,r3⟩,e3,h⟩:=bind_some h;cases h;exact ih _ _ _ _ _ e3 (hn _ _ (ih _ _ _ _ _ e2 (ih _ _ _ _ _ e1 (hQ _ q))))
   split at h
   ·obtain ⟨⟨a,r1⟩,e1,h⟩:=bind_some h;obtain ⟨⟨b,r2⟩,e2,h⟩:=bind_some h;obtain ⟨⟨c,r3⟩,e3,h⟩:=bind_some h;cases h;exact ih _ _ _ _ _ e3 (hn _ _ (ih _ _ _ _ _ e2 (hn _ _ (ih _ _ _ _ _ e1 (hQ _ q)))))
   split at h
   ·obtain ⟨⟨a,r1⟩,e1,h⟩:=bind_some h;obtain ⟨⟨b,r3⟩,e2,h⟩:=bind_some h;obtain ⟨⟨cs,r4⟩,e3,h⟩:=bind_some h;cases h;have k1:=hn bX _ (ih _ _ _ _ _ e1 (hQ _ q));refine ih _ _ _ _ _ e3 (ih _ _ _ _ _ e2 ?_);dsimp only;split
    ·exact hQ _ k1
    ·exact k1
   ·exact ih _ _ _ _ _ h q
  | level k=>
   simp only [P] at h;split at h
   ·exact ih _ _ _ _ _ h q
   ·obtain ⟨⟨a,r1⟩,e1,h⟩:=bind_some h;dsimp only at h;split at h
    ·exact ih _ _ _ _ _ h (ih _ _ _ _ _ e1 q)
    ·cases h
  | ops k acc=>
   simp only [P] at h;split at h
   ·obtain ⟨⟨b,r1⟩,e1,h⟩:=bind_some h;exact ih _ _ _ _ _ h (ih _ _ _ _ _ e1 (hQ _ q))
   ·cases h;exact q
  | neg=>
   simp only [P] at h;split at h
   ·split at h
    ·cases h;exact hd _ (hQ _ q)
    ·obtain ⟨⟨a,r1⟩,e1,h⟩:=bind_some h;cases h;exact ih _ _ _ _ _ e1 (hQ _ q)
   ·obtain ⟨⟨a,r1⟩,e1,h⟩:=bind_some h;dsimp only at h;split at h
    ·exact ih _ _ _ _ _ h (ih _ _ _ _ _ e1 q)
    ·cases h
  | args acc=>
   simp only [P] at h;split at h
   ·obtain ⟨⟨b,r1⟩,e1,h⟩:=bind_some h;exact ih _ _ _ _ _ h (ih _ _ _ _ _ e1 q)
   ·cases h;exact q
  | atom pat=>
   simp only [P] at h;split at h
   ·split at h
    ·cases h;exact hQ _ q
    split at h
    ·exact ih _ _ _ _ _ h q
    split at h
    ·exact ih _ _ _ _ _ h q
    ·cases h;exact hQ _ q
   ·cases h;exact q
  | closed list pat=>
   simp only [P] at h;split at h
   ·cases h;exact hQ _ (hQ _ q)
   ·obtain ⟨⟨a,r2⟩,e1,h⟩:=bind_some h;obtain ⟨⟨bs,r3⟩,e2,h⟩:=bind_some h;cases h;exact hn _ _ (ih _ _ _ _ _ e2 (ih _ _ _ _ _ e1 (hQ _ q)))
  | items list pat=>
   simp only [P] at h;split at h
   ·obtain ⟨⟨a,r2⟩,e1,h⟩:=bind_some h;obtain ⟨⟨bs,r3⟩,e2,h⟩:=bind_some h;cases h;exact ih _ _ _ _ _ e2 (ih _ _ _ _ _ e1 (hQ _ q))
   ·cases h;exact q
  | pattern=>
   simp only [P] at h;split at h
   ·cases h;exact hd _ q
   ·obtain ⟨⟨a,r1⟩,e1,h⟩:=bind_some h;have k1:=ih _ _ _ _ _ e1 q;dsimp only at h;split at h
    ·obtain ⟨⟨b,r2⟩,e2,h⟩:=bind_some h;cases h;exact ih _ _ _ _ _ e2 (hQ _ k1)
    ·cases h;exact k1
  | binding=>
   simp only [P] at h;have k0:Q (if dV fM r then aQ r else r):=by
    split
    ·exact hQ _ q
    ·exact q
   generalize (if dV fM r then [aR r] else [])=rc at h;generalize (if dV fM r then aQ r else r)=r0 at h k0;split at h
   ·obtain ⟨⟨xs,r1⟩,e1,h⟩:=bind_some h;obtain ⟨⟨ps,r3⟩,e3,e1⟩:=bind_some e1;cases e1;obtain ⟨⟨es,r2⟩,e2,h⟩:=bind_some h;cases h;exact ih _ _ _ _ _ e2 (hn _ _ (ih _ _ _ _ _ e3 (hQ _ k0)))
   ·obtain ⟨⟨xs,r1⟩,e1,h⟩:=bind_some h;obtain ⟨⟨es,r2⟩,e2,h⟩:=bind_some h;cases h;exact ih _ _ _ _ _ e2 (hn _ _ (ih _ _ _ _ _ e1 k0))
  | params=>
   simp only [P] at h;split at h
   ·obtain ⟨⟨a,r1⟩,e1,h⟩:=bind_some h;obtain ⟨⟨bs,r2⟩,e2,h⟩:=bind_some h;cases h;exact ih _ _ _ _ _ e2 (ih _ _ _ _ _ e1 q)
   ·cases h;exact q
  | arm=>
   simp only [P] at h;obtain ⟨⟨a,r1⟩,e1,h⟩:=bind_some h;obtain ⟨⟨es,r2⟩,e2,h⟩:=bind_some h;cases h;exact ih _ _ _ _ _ e2 (hn _ _ (ih _ _ _ _ _ e1 q))
  | arms=>
   simp only [P] at h;split at h
   ·obtain ⟨⟨a,r1⟩,e1,h⟩:=bind_some h;obtain ⟨⟨bs,r2⟩,e2,h⟩:=bind_some h;cases h;exact ih _ _ _ _ _ e2 (ih _ _ _ _ _ e1 (hQ _ q))
   ·cases h;exact q
theorem yw {Q:List bc→Prop} (hQ: ∀r,Q r→Q (aQ r)): ∀(n:Nat) (r:List bc),Q r→Q (skip n r).2
 | 0,_,q=>q
 | n+1,r,q=>by
  simp only [skip];split
  ·exact yw hQ n _ (hQ _ q)
  ·exact q
def Mc (r:List bc):Prop:= ∀t∈r,t.1≠0
theorem kh (r:List bc) (h:Mc r):Mc (aQ r):=fun t ht=>h t ((WL bl).subset (List.mem_of_mem_drop ht))
theorem Ax: ∀(n:Nat) (r:List bc),ck (skip n r).1++dT (skip n r).2=dT r
 | 0,_=>rfl
 | n+1,r=>by
  simp only [skip];split
  ·simp only [ck,Vs,Vx,Ax n,gA]
  ·rfl
theorem HC: ∀{r:List bc},(∀t∈r,t.1≠0)→(nx r).1=0→aQ r=[]:=by
 intro r h h0;unfold nx at h0;unfold aQ;cases hd:r.dropWhile bl with
 | nil=>rfl
 | cons t l=>
  rw [hd] at h0;have:t∈r:=(WL bl).subset (by rw [hd];simp);exact absurd h0 (h t this)
theorem rK: ∀(n:Nat) (r:List bc) (l:List T),decls n r=some l→Mc r→ck l=dT r
 | 0,_,_,h,_=>by cases h
 | n+1,r,l,h,hz=>by
  simp only [decls] at h;split at h
  ·rename_i h0;cases h;rw [bT];have:=gA r;rw [HC hz h0] at this;simpa [dT] using this
  split at h
  ·obtain ⟨⟨bs,r1⟩,e1,h⟩:=bind_some h;obtain ⟨m,e2,h⟩:=bind_some h;cases h;have k1:=Pj _ _ _ _ _ _ e1;have k2:=rK n r1 m e2 (Dh kh _ _ _ _ _ _ e1 (kh _ hz));simp only [yh,Vs] at k1;simp only [ck,dG (show (5:Nat)≠1 by decide),Vx,k2,k1,gA]
  ·obtain ⟨m,e2,h⟩:=bind_some h;cases h;have k2:=rK n _ m e2 (yw kh _ _ hz);simp only [ck,dG (show (3:Nat)≠1 by decide),k2,Ax]
theorem DN (r:List bc) (h:Mc r):eh (doc r)=dT r:=by
 obtain ⟨l,e1,e2⟩:=mE r;rw [e2,dG (by decide),rK _ _ _ e1 h]
mutual
def dW:T→Bool
 | .mk k tk _ l=>k != 2&&k != 3&&(k != 1||tk != 9)&&cY l
def cY:List T→Bool
 | []=>true
 | t::l=>dW t&&cY l
end
mutual
def gv:T→Nat
 | .mk _ _ _ l=>fq l+1
def fq:List T→Nat
 | []=>0
 | t::l=>max (gv t) (fq l)
end
theorem cU: ∀(l m:List T),fq (l++m)=max (fq l) (fq m)
 | [],m=>by simp [fq]
 | t::l,m=>by simp only [Vz,fq,cU l m];omega
theorem bp (t:T):fq [t]=gv t:=by simp [fq]
theorem cu (k:Nat) (l:List T):gv (node k l)=fq l+1:=by simp [gv]
theorem x6: ∀(l:List bc),fq (l.map aT)≤1
 | []=>by simp [fq]
 | t::l=>by
  have:=x6 l;simp only [Vu,fq,aT,leaf,gv];omega
theorem db (r:List bc):gv (aR r)≤2:=by
 have:=x6 (r.takeWhile bl);unfold aR leaf;simp only [gv];omega
theorem kg (s:List UInt8):gv (missing s)=1:=by simp [missing,gv,fq]
theorem gf (s:List UInt8) (r:List bc):gv (da s r)≤2:=by
 unfold da;split
 ·exact db r
 ·rw [kg];omega
theorem tG (s:List UInt8) (r:List bc):gv (kZ s r)≤3:=by
 unfold kZ;have:=db r;split
 ·rw [kg];omega
 ·rw [cu,bp];omega
def lg:lC→List T
 | .ops _ acc=>[acc]
 | .args acc=>[acc]
 | _=>[]
theorem bg:fq []=0:=by simp [fq]
theorem bY (t:T) (l:List T):fq (t::l)=max (gv t) (fq l):=by simp [fq]
theorem uL (b:Bool):lg (if b then lC.pattern else lC.expr)=[]:=by cases b <;> rfl
theorem O2: ∀(N:Nat) (job:lC) (d:Nat) (r:List bc) (l:List T) (r':List bc),P N job d r=some (l,r')→fq l≤max (fq (lg job)) (N * N+4)+N:=by
 intro N
 induction N with
 | zero=>intro job d r l r' h;cases h
 | succ n ih=>
  intro job d r l r' h;have hm:(n+1) * (n+1)=n * n+2 * n+1:=by rw [Nat.add_mul,Nat.mul_add];omega
  rw [hm];clear hm;generalize n * n=q at ih ⊢;have tk:=db r;have fin: ∀{job:lC} {d:Nat} {r:List bc} {l:List T} {r':List bc},lg job=[]→P n job d r=some (l,r')→fq l≤q+4+n:=fun ha he=>by
   have:=ih _ _ _ _ _ he;rw [ha,bg] at this;omega
  cases job with
  | expr=>
   simp only [P] at h;simp only [lg,bg];split at h
   ·cases h;rw [bp];have:=tG vy r;omega
   ·have k:=fin rfl h;omega
  | whole=>
   simp only [P] at h;simp only [lg,bg];split at h
   ·obtain ⟨⟨bs,r2⟩,e1,h⟩:=bind_some h;obtain ⟨⟨es,r3⟩,e2,h⟩:=bind_some h;cases h;have k1:=fin rfl e1;have k2:=fin rfl e2;have:=gf QA r2;simp only [bp,cu,cU,bY,bg];omega
   split at h
   ·obtain ⟨⟨a,r1⟩,e1,h⟩:=bind_some h;obtain ⟨⟨ps,r2⟩,e2,h⟩:=bind_some h;obtain ⟨⟨es,r3⟩,e3,h⟩:=bind_some h;cases h;have k1:=fin rfl e1;have k2:=fin rfl e2;have k3:=fin rfl e3;have:=gf iB r2;simp only [bp,cu,cU,bY,bg];omega
   split at h
   ·obtain ⟨⟨a,r1⟩,e1,h⟩:=bind_some h;obtain ⟨⟨b,r2⟩,e2,h⟩:=bind_some h;obtain ⟨⟨c,r3⟩,e3,h⟩:=bind_some h;cases h;have k1:=fin rfl e1;have k2:=fin rfl e2;have k3:=fin rfl e3;have:=gf xY r1;have:=gf xa r2;simp only [bp,cu,cU,bY,bg];omega
   split at h
   ·obtain ⟨⟨a,r1⟩,e1,h⟩:=bind_some h;obtain ⟨⟨b,r3⟩,e2,h⟩:=bind_some h;obtain ⟨⟨cs,r4⟩,e3,h⟩:=bind_some h;cases h;have k1:=fin rfl e1;have k2:=fin rfl e2;have k3:=fin rfl e3;have:=gf bX r1;have kb:fq (if dV gH (bk bX r1) then [aR (bk bX r1)] else [])≤2:=by
     split
     ·rw [bp];exact db _
     ·rw [bg];omega
    simp only [bp,cu,cU,bY,bg];omega
   ·have k:=fin rfl h;omega
  | level k=>
   simp only [P] at h;simp only [lg,bg];split at h
   ·have k:=fin rfl h;omega
   ·obtain ⟨⟨a,r1⟩,e1,h⟩:=bind_some h;dsimp only at h;split at h
    ·rename_i t;have k1:=fin rfl e1;have k2:=ih _ _ _ _ _ h;simp only [lg,bp] at k1 k2;omega
    ·cases h
  | ops k acc=>
   simp only [P] at h;simp only [lg,bp];split at h
   ·obtain ⟨⟨b,r1⟩,e1,h⟩:=bind_some h;have k1:=fin rfl e1;have k2:=ih _ _ _ _ _ h;simp only [lg,bp,cu,bY,bg] at k2;omega
   ·cases h;rw [bp];omega
  | neg=>
   simp only [P] at h;simp only [lg,bg];split at h
   ·split at h
    ·cases h;have:=tG vy (aQ r);simp only [bp,cu,bY,bg];omega
    ·obtain ⟨⟨a,r1⟩,e1,h⟩:=bind_some h;cases h;have k1:=fin rfl e1;simp only [bp,cu,bY,bg];omega
   ·obtain ⟨⟨a,r1⟩,e1,h⟩:=bind_some h;dsimp only at h;split at h
    ·have k1:=fin rfl e1;have k2:=ih _ _ _ _ _ h;simp only [lg,bp] at k1 k2;omega
    ·cases h
  | args acc=>
   simp only [P] at h;simp only [lg,bp];split at h
   ·obtain ⟨⟨b,r1⟩,e1,h⟩:=bind_some h;have k1:=fin rfl e1;have k2:=ih _ _ _ _ _ h;simp only [lg,bp,cu,bY,bg] at k2;omega
   ·cases h;rw [bp];omega
  | atom pat=>
   simp only [P] at h;simp only [lg,bg];split at h
   ·split at h
    ·cases h;simp only [bp,cu];omega
    split at h
    ·have k:=fin rfl h;omega
    split at h
    ·have k:=fin rfl h;omega
    ·cases h;rw [bp];omega
   ·cases h;rw [bp,kg];omega
  | closed list pat=>
   simp only [P] at h;simp only [lg,bg];split at h
   ·cases h;have tk2:=db (aQ r);simp only [bp,cu,bY,bg];omega
   ·obtain ⟨⟨a,r2⟩,e1,h⟩:=bind_some h;obtain ⟨⟨bs,r3⟩,e2,h⟩:=bind_some h;cases h;have k1:=fin (uL pat) e1;have k2:=fin rfl e2;have:=gf (je list) r3;simp only [bp,cu,cU,bY,bg];omega
  | items list pat=>
   simp only [P] at h;simp only [lg,bg];split at h
   ·obtain ⟨⟨a,r1⟩,e1,h⟩:=bind_some h;obtain ⟨⟨bs,r2⟩,e2,h⟩:=bind_some h;cases h;have k1:=fin (uL pat) e1;have k2:=fin rfl e2;simp only [cU,bY];omega
   ·cases h;rw [bg];omega
  | pattern=>
   simp only [P] at h;simp only [lg,bg];split at h
   ·cases h;rw [bp];have:=tG pF r;omega
   ·obtain ⟨⟨a,r1⟩,e1,h⟩:=bind_some h;have k1:=fin rfl e1;dsimp only at h;split at h
    ·obtain ⟨⟨b,r2⟩,e2,h⟩:=bind_some h;cases h;have k2:=fin rfl e2;have:=db r1;simp only [bp,cu,cU,bY,bg];omega
    ·cases h;omega
  | binding=>
   simp only [P] at h;simp only [lg,bg];have kr:fq (if dV fM r then [aR r] else [])≤2:=by
    split
    ·rw [bp];exact tk
    ·rw [bg];omega
   generalize (if dV fM r then [aR r] else [])=rc at h kr;generalize (if dV fM r then aQ r else r)=r0 at h;split at h
   ·obtain ⟨⟨xs,r1⟩,e1,h⟩:=bind_some h;obtain ⟨⟨ps,r3⟩,e3,e1⟩:=bind_some e1;cases e1;obtain ⟨⟨es,r2⟩,e2,h⟩:=bind_some h;cases h;have k3:=fin rfl e3;have k2:=fin rfl e2;have:=db r0;have:=gf zo r3;simp only [cU,bp,bY,bg];omega
   ·obtain ⟨⟨xs,r1⟩,e1,h⟩:=bind_some h;obtain ⟨⟨es,r2⟩,e2,h⟩:=bind_some h;cases h;have k1:=fin rfl e1;have k2:=fin rfl e2;have:=gf zo r1;simp only [cU,bp];omega
  | params=>
   simp only [P] at h;simp only [lg,bg];split at h
   ·obtain ⟨⟨a,r1⟩,e1,h⟩:=bind_some h;obtain ⟨⟨bs,r2⟩,e2,h⟩:=bind_some h;cases h;have k1:=fin rfl e1;have k2:=fin rfl e2;simp only [cU];omega
   ·cases h;rw [bg];omega
  | arm=>
   simp only [P] at h;simp only [lg,bg];obtain ⟨⟨a,r1⟩,e1,h⟩:=bind_some h;obtain ⟨⟨es,r2⟩,e2,h⟩:=bind_some h;cases h;have k1:=fin rfl e1;have k2:=fin rfl e2;have:=gf iB r1;simp only [bp,cu,cU];omega
  | arms=>
   simp only [P] at h;simp only [lg,bg];split at h
   ·obtain ⟨⟨a,r1⟩,e1,h⟩:=bind_some h;obtain ⟨⟨bs,r2⟩,e2,h⟩:=bind_some h;cases h;have k1:=fin rfl e1;have k2:=fin rfl e2;simp only [cU,bY];omega
   ·cases h;rw [bg];omega
theorem fY: ∀(N:Nat) (job:lC) (d:Nat) (r:List bc) (l:List T) (r':List bc),P N job d r=some (l,r')→single job=true→ ∃t,l=[t]:=by
 intro N
 induction N with
 | zero=>intro job d r l r' h;cases h
 | succ n ih=>
  intro job d r l r' h hs;cases job with
  | expr=>
   simp only [P] at h;split at h
   ·cases h;exact ⟨_,rfl⟩
   ·exact ih _ _ _ _ _ h rfl
  | whole=>
   simp only [P] at h;split at h
   ·obtain ⟨⟨bs,r2⟩,e1,h⟩:=bind_some h;obtain ⟨⟨es,r3⟩,e2,h⟩:=bind_some h;cases h;exact ⟨_,rfl⟩
   split at h
   ·obtain ⟨⟨a,r1⟩,e1,h⟩:=bind_some h;obtain ⟨⟨ps,r2⟩,e2,h⟩:=bind_some h;obtain ⟨⟨es,r3⟩,e3,h⟩:=bind_some h;cases h;exact ⟨_,rfl⟩
   split at h
   ·obtain ⟨⟨a,r1⟩,e1,h⟩:=bind_some h;obtain ⟨⟨b,r2⟩,e2,h⟩:=bind_some h;obtain ⟨⟨c,r3⟩,e3,h⟩:=bind_some h;cases h;exact ⟨_,rfl⟩
   split at h
   ·obtain ⟨⟨a,r1⟩,e1,h⟩:=bind_some h;obtain ⟨⟨b,r3⟩,e2,h⟩:=bind_some h;obtain ⟨⟨cs,r4⟩,e3,h⟩:=bind_some h;cases h;exact ⟨_,rfl⟩
   ·exact ih _ _ _ _ _ h rfl
  | level k=>
   simp only [P] at h;split at h
   ·exact ih _ _ _ _ _ h rfl
   ·obtain ⟨⟨a,r1⟩,e1,h⟩:=bind_some h;dsimp only at h;split at h
    ·exact ih _ _ _ _ _ h rfl
    ·cases h
  | ops k acc=>
   simp only [P] at h;split at h
   ·obtain ⟨⟨b,r1⟩,e1,h⟩:=bind_some h;exact ih _ _ _ _ _ h rfl
   ·cases h;exact ⟨_,rfl⟩
  | neg=>
   simp only [P] at h;split at h
   ·split at h
    ·cases h;exact ⟨_,rfl⟩
    ·obtain ⟨⟨a,r1⟩,e1,h⟩:=bind_some h;cases h;exact ⟨_,rfl⟩
   ·obtain ⟨⟨a,r1⟩,e1,h⟩:=bind_some h;dsimp only at h;split at h
    ·exact ih _ _ _ _ _ h rfl
    ·cases h
  | args acc=>
   simp only [P] at h;split at h
   ·obtain ⟨⟨b,r1⟩,e1,h⟩:=bind_some h;exact ih _ _ _ _ _ h rfl
   ·cases h;exact ⟨_,rfl⟩
  | atom pat=>
   simp only [P] at h;split at h
   ·split at h
    ·cases h;exact ⟨_,rfl⟩
    split at h
    ·exact ih _ _ _ _ _ h rfl
    split at h
    ·exact ih _ _ _ _ _ h rfl
    ·cases h;exact ⟨_,rfl⟩
   ·cases h;exact ⟨_,rfl⟩
  | closed list pat=>
   simp only [P] at h;split at h
   ·cases h;exact ⟨_,rfl⟩
   ·obtain ⟨⟨a,r2⟩,e1,h⟩:=bind_some h;obtain ⟨⟨bs,r3⟩,e2,h⟩:=bind_some h;cases h;exact ⟨_,rfl⟩
  | items list pat=>cases hs
  | pattern=>
   simp only [P] at h;split at h
   ·cases h;exact ⟨_,rfl⟩
   ·obtain ⟨⟨a,r1⟩,e1,h⟩:=bind_some h;dsimp only at h;split at h
    ·obtain ⟨⟨b,r2⟩,e2,h⟩:=bind_some h;cases h;exact ⟨_,rfl⟩
    ·cases h;exact ih _ _ _ _ _ e1 rfl
  | binding=>cases hs
  | params=>cases hs
  | arm=>
   simp only [P] at h;obtain ⟨⟨a,r1⟩,e1,h⟩:=bind_some h;obtain ⟨⟨es,r2⟩,e2,h⟩:=bind_some h;cases h;exact ⟨_,rfl⟩
  | arms=>cases hs
theorem oJ {N:Nat} {job:lC} {d:Nat} {r:List bc} {l:List T} {r':List bc} (h:P N job d r=some (l,r')) (hs:single job=true):l.length=1:=by
 obtain ⟨t,rfl⟩:=fY N job d r l r' h hs;rfl
theorem FU (b:Bool):single (if b then lC.pattern else .expr)=true:=by cases b <;> rfl
theorem I7: ∀(N:Nat) (list pat:Bool) (d:Nat) (r:List bc) (l:List T) (r':List bc),P N (.items list pat) d r=some (l,r')→l.length≤2 * N:=by
 intro N
 induction N with
 | zero=>intro list pat d r l r' h;cases h
 | succ n ih=>
  intro list pat d r l r' h;simp only [P] at h;split at h
  ·obtain ⟨⟨a,r1⟩,e1,h⟩:=bind_some h;obtain ⟨⟨bs,r2⟩,e2,h⟩:=bind_some h;cases h;have:=oJ e1 (FU pat);have:=ih _ _ _ _ _ _ e2;simp only [Vg,Vh];omega
  ·cases h;simp
theorem r8: ∀(N:Nat) (d:Nat) (r:List bc) (l:List T) (r':List bc),P N .params d r=some (l,r')→l.length≤N:=by
 intro N
 induction N with
 | zero=>intro d r l r' h;cases h
 | succ n ih=>
  intro d r l r' h;simp only [P] at h;split at h
  ·obtain ⟨⟨a,r1⟩,e1,h⟩:=bind_some h;obtain ⟨⟨bs,r2⟩,e2,h⟩:=bind_some h;cases h;have:=oJ e1 rfl;have:=ih _ _ _ _ e2;simp only [Vg];omega
  ·cases h;simp
theorem Lb: ∀(N:Nat) (d:Nat) (r:List bc) (l:List T) (r':List bc),P N .arms d r=some (l,r')→l.length≤2 * N:=by
 intro N
 induction N with
 | zero=>intro d r l r' h;cases h
 | succ n ih=>
  intro d r l r' h;simp only [P] at h;split at h
  ·obtain ⟨⟨a,r1⟩,e1,h⟩:=bind_some h;obtain ⟨⟨bs,r2⟩,e2,h⟩:=bind_some h;cases h;have:=oJ e1 rfl;have:=ih _ _ _ _ e2;simp only [Vg,Vh];omega
  ·cases h;simp
theorem u4: ∀(N:Nat) (d:Nat) (r:List bc) (l:List T) (r':List bc),P N .binding d r=some (l,r')→l.length≤N+4∧l≠[]:=by
 intro N d r l r' h;cases N with
 | zero=>cases h
 | succ n=>
  simp only [P] at h;have kr:(if dV fM r then [aR r] else []).length≤1:=by split <;> simp
  generalize (if dV fM r then [aR r] else [])=rc at h kr;generalize (if dV fM r then aQ r else r)=r0 at h;split at h
  ·obtain ⟨⟨xs,r1⟩,e1,h⟩:=bind_some h;obtain ⟨⟨ps,r3⟩,e3,e1⟩:=bind_some e1;cases e1;obtain ⟨⟨es,r2⟩,e2,h⟩:=bind_some h;cases h;have:=r8 _ _ _ _ _ e3;have:=oJ e2 rfl;refine ⟨?_,by simp⟩;simp only [Vg,Vh,Vj];omega
  ·obtain ⟨⟨xs,r1⟩,e1,h⟩:=bind_some h;obtain ⟨⟨es,r2⟩,e2,h⟩:=bind_some h;cases h;have:=oJ e1 rfl;have:=oJ e2 rfl;refine ⟨?_,by simp⟩;simp only [Vg,Vh,Vj];omega
end Go.Parse
namespace Go.Lex
open Go.VM
def zn (s:List UInt8):Int:=if 65536 < s.length then 40 else if bO s=false then 4 else 0
theorem J9 {s:List UInt8} (h:zn s=0):s.length≤65536∧bO s=true:=by
 unfold zn at h;by_cases h1:65536 < s.length
 ·rw [if_pos h1] at h;exact absurd h (by decide)
 ·rw [if_neg h1] at h;cases hv:bO s with
  | false=>rw [hv,if_pos rfl] at h;exact absurd h (by decide)
  | true=>exact ⟨by omega,rfl⟩
theorem P5 {s:List UInt8} (h1:s.length≤65536) (h2:bO s=true):zn s=0:=by
 unfold zn;rw [if_neg (by omega),h2,if_neg (by simp)]
theorem GU: ∀(n:Nat) (s:List UInt8),s.length≤n→(eV n s).length≤s.length
 | 0,_,_=>by simp [eV]
 | n+1,[],_=>by simp [eV]
 | n+1,c::l,h=>by
  have hc:=mQ (s:=c::l) (by simp);have ih:=GU n ((c::l).drop (cut (c::l)).2) (by rw [VF];simp at h ⊢;omega);rw [VF] at ih;simp only [eV,Vh] at ih ⊢;omega
theorem Ap (s:List UInt8):(tokens s).length≤s.length:=GU _ _ (Vn _)
end Go.Lex
namespace Go.Parse
open Go.VM Go.Lex
theorem ca {α β:Type} {x:Option α} {f:α→Option β} {a:α} (h:x=some a):(x >>= f)=f a:=by rw [h];rfl
theorem Rm: ∀(N:Nat) (job:lC) (d:Nat) (r:List bc) (x:List T×List bc),P N job d r=some x→ ∀M,N≤M→P M job d r=some x:=by
 intro N
 induction N with
 | zero=>intro job d r x h;cases h
 | succ n ih=>
  intro job d r x h M hM;obtain ⟨m,rfl⟩: ∃m,M=m+1:=⟨M - 1,by omega⟩;have up: ∀{job:lC} {d:Nat} {r:List bc} {x:List T×List bc},P n job d r=some x→P m job d r=some x:=fun h=>ih _ _ _ _ h m (by omega);cases job with
  | expr=>
   simp only [P] at h ⊢;split at h
   ·rename_i hc;rw [if_pos hc];exact h
   ·rename_i hc;rw [if_neg hc];exact up h
  | whole=>
   simp only [P] at h ⊢;split at h
   ·rename_i hc;rw [if_pos hc];obtain ⟨⟨bs,r2⟩,e1,h⟩:=bind_some h;obtain ⟨⟨es,r3⟩,e2,h⟩:=bind_some h;rw [ca (up e1),ca (up e2)];exact h
   rename_i hc;rw [if_neg hc];split at h
   ·rename_i hc;rw [if_pos hc];obtain ⟨⟨a,r1⟩,e1,h⟩:=bind_some h;obtain ⟨⟨ps,r2⟩,e2,h⟩:=bind_some h;obtain ⟨⟨es,r3⟩,e3,h⟩:=bind_some h;rw [ca (up e1),ca (up e2),ca (up e3)];exact h
   rename_i hc;rw [if_neg hc];split at h
   ·rename_i hc;rw [if_pos hc];obtain ⟨⟨a,r1⟩,e1,h⟩:=bind_some h;obtain ⟨⟨b,r2⟩,e2,h⟩:=bind_some h;obtain ⟨⟨c,r3⟩,e3,h⟩:=bind_some h;rw [ca (up e1),ca (up e2),ca (up e3)];exact h
   rename_i hc;rw [if_neg hc];split at h
   ·rename_i hc;rw [if_pos hc];obtain ⟨⟨a,r1⟩,e1,h⟩:=bind_some h;obtain ⟨⟨b,r3⟩,e2,h⟩:=bind_some h;obtain ⟨⟨cs,r4⟩,e3,h⟩:=bind_some h;rw [ca (up e1),ca (up e2),ca (up e3)];exact h
   rename_i hc;rw [if_neg hc];exact up h
  | level k=>
   simp only [P] at h ⊢;split at h
   ·rename_i hc;rw [if_pos hc];exact up h
   ·rename_i hc;rw [if_neg hc];obtain ⟨⟨a,r1⟩,e1,h⟩:=bind_some h;rw [ca (up e1)];dsimp only at h ⊢;split at h
    ·exact up h
    ·cases h
  | ops k acc=>
   simp only [P] at h ⊢;split at h
   ·rename_i hc;rw [if_pos hc];obtain ⟨⟨b,r1⟩,e1,h⟩:=bind_some h;rw [ca (up e1)];exact up h
   ·rename_i hc;rw [if_neg hc];exact h
  | neg=>
   simp only [P] at h ⊢;split at h
   ·rename_i hc;rw [if_pos hc];split at h
    ·rename_i hc;rw [if_pos hc];exact h
    ·rename_i hc;rw [if_neg hc];obtain ⟨⟨a,r1⟩,e1,h⟩:=bind_some h;rw [ca (up e1)];exact h
   ·rename_i hc;rw [if_neg hc];obtain ⟨⟨a,r1⟩,e1,h⟩:=bind_some h;rw [ca (up e1)];dsimp only at h ⊢;split at h
    ·exact up h
    ·cases h
  | args acc=>
   simp only [P] at h ⊢;split at h
   ·rename_i hc;rw [if_pos hc];obtain ⟨⟨b,r1⟩,e1,h⟩:=bind_some h;rw [ca (up e1)];exact up h
   ·rename_i hc;rw [if_neg hc];exact h
  | atom pat=>
   simp only [P] at h ⊢;split at h
   ·rename_i hc;rw [if_pos hc];split at h
    ·rename_i hc;rw [if_pos hc];exact h
    rename_i hc;rw [if_neg hc];split at h
    ·rename_i hc;rw [if_pos hc];exact up h
    rename_i hc;rw [if_neg hc];split at h
    ·rename_i hc;rw [if_pos hc];exact up h
    ·rename_i hc;rw [if_neg hc];exact h
   ·rename_i hc;rw [if_neg hc];exact h
  | closed list pat=>
   simp only [P] at h ⊢;split at h
   ·rename_i hc;rw [if_pos hc];exact h
   ·rename_i hc;rw [if_neg hc];obtain ⟨⟨a,r2⟩,e1,h⟩:=bind_some h;obtain ⟨⟨bs,r3⟩,e2,h⟩:=bind_some h;rw [ca (up e1),ca (up e2)];exact h
  | items list pat=>
   simp only [P] at h ⊢;split at h
   ·rename_i hc;rw [if_pos hc];obtain ⟨⟨a,r2⟩,e1,h⟩:=bind_some h;obtain ⟨⟨bs,r3⟩,e2,h⟩:=bind_some h;rw [ca (up e1),ca (up e2)];exact h
   ·rename_i hc;rw [if_neg hc];exact h
  | pattern=>
   simp only [P] at h ⊢;split at h
   ·rename_i hc;rw [if_pos hc];exact h
   ·rename_i hc;rw [if_neg hc];obtain ⟨⟨a,r1⟩,e1,h⟩:=bind_some h;rw [ca (up e1)];dsimp only at h ⊢;split at h
    ·rename_i hc;rw [if_pos hc];obtain ⟨⟨b,r2⟩,e2,h⟩:=bind_some h;rw [ca (up e2)];exact h
    ·rename_i hc;rw [if_neg hc];exact h
  | binding=>
   simp only [P] at h ⊢;generalize (if dV fM r then [aR r] else [])=rc at h ⊢;generalize (if dV fM r then aQ r else r)=r0 at h ⊢;split at h
   ·rename_i hc;rw [if_pos hc];obtain ⟨⟨xs,r1⟩,e1,h⟩:=bind_some h;obtain ⟨⟨ps,r3⟩,e3,e1⟩:=bind_some e1;cases e1;obtain ⟨⟨es,r2⟩,e2,h⟩:=bind_some h;rw [ca (up e3)];show (P m .expr d (bk zo r3) >>= _)= _;rw [ca (up e2)];exact h
   ·rename_i hc;rw [if_neg hc];obtain ⟨⟨xs,r1⟩,e1,h⟩:=bind_some h;obtain ⟨⟨es,r2⟩,e2,h⟩:=bind_some h;rw [ca (up e1),ca (up e2)];exact h
  | params=>
   simp only [P] at h ⊢;split at h
   ·rename_i hc;rw [if_pos hc];obtain ⟨⟨a,r1⟩,e1,h⟩:=bind_some h;obtain ⟨⟨bs,r2⟩,e2,h⟩:=bind_some h;rw [ca (up e1),ca (up e2)];exact h
   ·rename_i hc;rw [if_neg hc];exact h
  | arm=>
   simp only [P] at h ⊢;obtain ⟨⟨a,r1⟩,e1,h⟩:=bind_some h;obtain ⟨⟨es,r2⟩,e2,h⟩:=bind_some h;rw [ca (up e1),ca (up e2)];exact h
  | arms=>
   simp only [P] at h ⊢;split at h
   ·rename_i hc;rw [if_pos hc];obtain ⟨⟨a,r1⟩,e1,h⟩:=bind_some h;obtain ⟨⟨bs,r2⟩,e2,h⟩:=bind_some h;rw [ca (up e1),ca (up e2)];exact h
   ·rename_i hc;rw [if_neg hc];exact h
theorem oO: ∀(N:Nat) (r:List bc) (l:List T),decls N r=some l→ ∀M,N≤M→decls M r=some l
 | 0,_,_,h,_,_=>by cases h
 | n+1,r,l,h,M,hM=>by
  obtain ⟨m,rfl⟩: ∃m,M=m+1:=⟨M - 1,by omega⟩;simp only [decls] at h ⊢;split at h
  ·rename_i hc;rw [if_pos hc];exact h
  rename_i hc;rw [if_neg hc];split at h
  ·rename_i hc;rw [if_pos hc];obtain ⟨⟨bs,r1⟩,e1,h⟩:=bind_some h;obtain ⟨k,e2,h⟩:=bind_some h;rw [ca (Rm _ _ _ _ _ e1 m (by omega)),ca (oO n _ _ e2 m (by omega))];exact h
  ·rename_i hc;rw [if_neg hc];obtain ⟨k,e2,h⟩:=bind_some h;rw [ca (oO n _ _ e2 m (by omega))];exact h
theorem Ik {N:Nat} {r:List bc} {l:List T} (h:decls N r=some l):doc r=node 4 l:=by
 obtain ⟨m,e1,e2⟩:=mE r;have h1:=oO _ _ _ h (N+fuel r) (by omega);have h2:=oO _ _ _ e1 (N+fuel r) (by omega);rw [h1] at h2;rw [e2,WA h2]
structure Ext (f:List bc→List bc):Prop where
 nx: ∀r,(nx r).1≠0→Parse.nx (f r)=Parse.nx r
 tk: ∀r,(Parse.nx r).1≠0→aR (f r)=aR r
 tr: ∀r,(Parse.nx r).1≠0→aQ (f r)=f (aQ r)
 nd: ∀r,(Parse.nx r).1=0→Parse.nx (f r)=(3,qZ)
section
variable {f:List bc→List bc} (hf:Ext f)
include hf
end
theorem fA: ∀(l m:List T),cY (l++m)=(cY l&&cY m)
 | [],m=>by simp [cY]
 | t::l,m=>by simp only [Vz,cY,fA l m,Bool.and_assoc]
theorem sM (s:List UInt8):dW (missing s)=false:=rfl
theorem Jk {s:List UInt8} {r:List bc} (h:dW (da s r)=true):dV s r=true:=by
 unfold da at h;split at h
 ·assumption
 ·rw [sM] at h;cases h
theorem uJ (s:List UInt8) (r:List bc):dW (kZ s r)=false:=by
 unfold kZ;split
 ·rfl
 ·rfl
theorem dY {t:T}:cY [t]=dW t:=by simp [cY]
theorem dD {k:Nat} {l:List T} (h:dW (node k l)=true):cY l=true:=by
 simp only [dW,Vl] at h;exact h.2
def dQ:lC→List T
 | .ops _ acc=>[acc]
 | .args acc=>[acc]
 | _=>[]
theorem GC: ∀(N:Nat) (job:lC) (d:Nat) (r:List bc) (l:List T) (r':List bc),P N job d r=some (l,r')→cY l=true→cY (dQ job)=true:=by
 intro N
 induction N with
 | zero=>intro job d r l r' h;cases h
 | succ n ih=>
  intro job d r l r' h hg;cases job with
  | ops k acc=>
   simp only [P] at h;split at h
   ·obtain ⟨⟨b,r1⟩,e1,h⟩:=bind_some h;have:=ih _ _ _ _ _ h hg;simp only [dQ,dY] at this ⊢;have:=dD this;simp only [cY,Vl] at this;exact this.1
   ·cases h;exact hg
  | args acc=>
   simp only [P] at h;split at h
   ·obtain ⟨⟨b,r1⟩,e1,h⟩:=bind_some h;have:=ih _ _ _ _ _ h hg;simp only [dQ,dY] at this ⊢;have:=dD this;simp only [cY,Vl] at this;exact this.1
   ·cases h;exact hg
  | _=>rfl
end Go.Parse
namespace Go.Lex
open Go.VM
end Go.Lex
namespace Go.Parse
open Go.VM Go.Lex
theorem JH {p:bc→Bool} {l:List bc} {x:bc} (h:x∈l.takeWhile p):p x=true:=Wf.1 List.all_takeWhile x h
def S6 (t:bc):Bool:=t.1 != 1
def nb (r:List bc):List bc:=r.filter S6
theorem gV (t:bc) (r:List bc):nb (t::r)=if t.1=1 then nb r else t::nb r:=by
 unfold nb;rw [W5];by_cases h:t.1=1
 ·have:S6 t=false:=by simp [S6,h]
  rw [this,if_pos h];rfl
 ·have:S6 t=true:=by simp [S6,h]
  rw [this,if_neg h];rfl
def ec:T→Bool
 | .mk k tk _ l=>k==1&&(tk==1&&l.isEmpty)
mutual
def cG:T→T
 | .mk k tk tx l=> .mk k tk tx (if k=1 then l.filter (fun t=> !ec t) else pE l)
def pE:List T→List T
 | []=>[]
 | t::l=>cG t::pE l
end
theorem lz: ∀(l:List T),pE l=l.map cG
 | []=>rfl
 | t::l=>by rw [pE,lz l];rfl
theorem dy {k:Nat} (h:k≠1) (l:List T):cG (node k l)=node k (l.map cG):=by
 unfold node;rw [cG,if_neg h,lz]
theorem nW (s:List UInt8):cG (missing s)=missing s:=by
 unfold missing;rw [cG,if_neg (by decide)];rfl
theorem wy: ∀(r:List bc),(nb r).dropWhile bl=nb (r.dropWhile bl)
 | []=>rfl
 | t::r=>by
  rw [gV];by_cases h:t.1=1
  ·have ht:bl t=true:=by simp [bl,h]
   rw [if_pos h,WB,if_pos ht];exact wy r
  ·rw [if_neg h,WB,WB];cases ht:bl t with
   | true=>rw [if_pos rfl,if_pos rfl];exact wy r
   | false=>
    rw [if_neg (by decide),if_neg (by decide),gV,if_neg h]
theorem Cs: ∀(r:List bc),(nb r).takeWhile bl=nb (r.takeWhile bl)
 | []=>rfl
 | t::r=>by
  rw [gV];by_cases h:t.1=1
  ·have ht:bl t=true:=by simp [bl,h]
   rw [if_pos h,V3,if_pos ht,gV,if_pos h];exact Cs r
  ·rw [if_neg h,V3,V3];cases ht:bl t with
   | true=>rw [if_pos rfl,if_pos rfl,gV,if_neg h,Cs r]
   | false=>rw [if_neg (by decide),if_neg (by decide)];rfl
theorem zJ {r:List bc} {t:bc} {l:List bc} (h:r.dropWhile bl=t::l):t.1≠1:=by
 have:=List.head?_dropWhile_not bl r;rw [h] at this;intro e;simp [bl,e] at this
theorem pc (r:List bc):nx (nb r)=nx r:=by
 unfold nx;rw [wy];cases h:r.dropWhile bl with
 | nil=>rfl
 | cons t l=>
  rw [gV,if_neg (zJ h)]
theorem eO (r:List bc):aQ (nb r)=nb (aQ r):=by
 unfold aQ;rw [wy];cases h:r.dropWhile bl with
 | nil=>rfl
 | cons t l=>rw [gV,if_neg (zJ h)];rfl
theorem z8: ∀(l:List bc),((l.map aT).filter fun t=> !ec t)=(nb l).map aT
 | []=>rfl
 | t::l=>by
  rw [Vu,W5,gV,z8 l];by_cases h:t.1=1
  ·simp [aT,leaf,ec,h]
  ·simp [aT,leaf,ec,h]
theorem fg (r:List bc):aR (nb r)=cG (aR r):=by
 unfold aR;rw [pc,Cs,leaf,leaf,cG,if_pos rfl,z8]
theorem kP (s:List UInt8) (r:List bc):dV s (nb r)=dV s r:=by unfold dV;rw [pc]
theorem yi (l:List (List UInt8)) (r:List bc):isAny l (nb r)=isAny l r:=by unfold isAny;rw [pc]
theorem uG (p:Bool) (r:List bc):dp p (nb r)=dp p r:=by unfold dp;rw [pc,yi]
theorem kC (s:List UInt8) (r:List bc):da s (nb r)=cG (da s r):=by
 unfold da;rw [kP];split
 ·exact fg r
 ·exact (nW s).symm
theorem ku (s:List UInt8) (r:List bc):bk s (nb r)=nb (bk s r):=by
 unfold bk;rw [kP,eO];split <;> rfl
theorem xF (s:List UInt8) (r:List bc):kZ s (nb r)=cG (kZ s r):=by
 unfold kZ;rw [pc,fg];split
 ·exact (nW s).symm
 ·rw [dy (by decide)];rfl
theorem xG (r:List bc):kW (nb r)=nb (kW r):=by
 unfold kW;rw [pc,eO];split <;> rfl
def nR (x:List T×List bc):List T×List bc:=(x.1.map cG,nb x.2)
def jr:lC→lC
 | .ops k t=> .ops k (cG t)
 | .args t=> .args (cG t)
 | j=>j
theorem bind_map {α β γ δ:Type} {f:α→γ} {h:β→δ} {x:Option α} {y:Option γ} {g:α→Option β} {g':γ→Option δ} (hx:y=x.map f) (hg: ∀a,g' (f a)=(g a).map h):(y >>= g')=(x >>= g).map h:=by
 subst hx;cases x with
 | none=>rfl
 | some a=>exact hg a
theorem fj {α β:Type} {c:Prop} [Decidable c] {f:α→β} {a b:Option α} {a' b':Option β} (h1:c→a'=a.map f) (h2:¬ c→b'=b.map f):(if c then a' else b')=(if c then a else b).map f:=by
 split
 ·rename_i h;exact h1 h
 ·rename_i h;exact h2 h
theorem D4 (a b:Bool):kindOf a b≠1:=by cases a <;> cases b <;> decide
theorem TY: ∀(N:Nat) (job:lC) (d:Nat) (r:List bc),P N (jr job) d (nb r)=(P N job d r).map nR:=by
 intro N
 induction N with
 | zero=>intro job d r;rfl
 | succ n ih=>
  intro job d r;have go: ∀(job:lC) (d:Nat) (r:List bc),jr job=job→P n job d (nb r)=(P n job d r).map nR:=fun job d r h=>by
   have:=ih job d r
   rwa [h] at this
  have fin: ∀{l l':List T} {r r':List bc},l'=l.map cG→r'=nb r→(some (l',r'):R)=(some (l,r):R).map nR:=fun h1 h2=>by rw [h1,h2];rfl
  cases job with
  | expr=>
   simp only [jr,P];refine fj (fun _=>fin ?_ (xG r)) fun _=>go _ _ _ rfl;rw [xF];rfl
  | whole=>
   simp only [jr,P,kP,eO,fg];refine fj (fun _=> ?_) fun _=>fj (fun _=> ?_) fun _=>fj (fun _=> ?_) fun _=>fj (fun _=> ?_) fun _=>go _ _ _ rfl
   ·refine bind_map (go _ _ _ rfl) fun ⟨bs,r2⟩=> ?_;simp only [nR,ku,kC];refine bind_map (go _ _ _ rfl) fun ⟨es,r3⟩=>fin ?_ rfl;simp only [nR,Vu,VT,VY,dy (show (6:Nat)≠1 by decide)]
   ·refine bind_map (go _ _ _ rfl) fun ⟨a,r1⟩=> ?_;refine bind_map (go _ _ _ rfl) fun ⟨ps,r2⟩=> ?_;simp only [nR,ku,kC];refine bind_map (go _ _ _ rfl) fun ⟨es,r3⟩=>fin ?_ rfl;simp only [nR,Vu,VT,VY,dy (show (7:Nat)≠1 by decide)]
   ·refine bind_map (go _ _ _ rfl) fun ⟨a,r1⟩=> ?_;simp only [nR,ku,kC];refine bind_map (go _ _ _ rfl) fun ⟨b,r2⟩=> ?_;simp only [nR,ku,kC];refine bind_map (go _ _ _ rfl) fun ⟨c,r3⟩=>fin ?_ rfl;simp only [nR,Vu,VT,VY,dy (show (8:Nat)≠1 by decide)]
   ·refine bind_map (go _ _ _ rfl) fun ⟨a,r1⟩=> ?_;simp only [nR,ku,kC,kP,fg,eO];have e:(if dV gH (bk bX r1)=true then nb (aQ (bk bX r1)) else nb (bk bX r1))=nb (if dV gH (bk bX r1)=true then aQ (bk bX r1) else bk bX r1):=by split <;> rfl
    rw [e];refine bind_map (go _ _ _ rfl) fun ⟨b,r3⟩=> ?_;refine bind_map (go _ _ _ rfl) fun ⟨cs,r4⟩=>fin ?_ rfl;have e2:(if dV gH (bk bX r1)=true then [cG (aR (bk bX r1))] else [])=(if dV gH (bk bX r1)=true then [aR (bk bX r1)] else []).map cG:=by split <;> rfl
    rw [e2];simp only [nR,Vu,VT,VY,dy (show (9:Nat)≠1 by decide)]
  | level k=>
   simp only [jr,P];refine fj (fun _=>go _ _ _ rfl) fun _=> ?_;refine bind_map (go _ _ _ rfl) fun ⟨a,r1⟩=> ?_;simp only [nR];cases a with
   | nil=>rfl
   | cons t l=>
    cases l with
    | nil=>exact ih (.ops k t) d r1
    | cons u l=>rfl
  | ops k acc=>
   simp only [jr,P,yi,eO,fg];refine fj (fun _=> ?_) fun _=>fin rfl rfl;refine bind_map (go _ _ _ rfl) fun ⟨b,r1⟩=> ?_;have:=ih (.ops k (node 11 (acc::aR r::b))) d r1;rw [jr,dy (by decide)] at this;exact this
  | neg=>
   simp only [jr,P,yi,eO,fg];refine fj (fun _=>fj (fun _=>fin ?_ ?_) fun _=> ?_) fun _=> ?_
   ·rw [xF,Vu,dy (by decide)];rfl
   ·rw [xG]
   ·refine bind_map (go _ _ _ rfl) fun ⟨a,r1⟩=>fin ?_ rfl;simp only [nR,Vu,VY,dy (show (12:Nat)≠1 by decide)]
   ·refine bind_map (go _ _ _ rfl) fun ⟨a,r1⟩=> ?_;simp only [nR];cases a with
    | nil=>rfl
    | cons t l=>
     cases l with
     | nil=>exact ih (.args t) d r1
     | cons u l=>rfl
  | args acc=>
   simp only [jr,P,uG];refine fj (fun _=> ?_) fun _=>fin rfl rfl;refine bind_map (go _ _ _ rfl) fun ⟨b,r1⟩=> ?_;have:=ih (.args (node 13 (acc::b))) d r1;rw [jr,dy (by decide)] at this;exact this
  | atom pat=>
   simp only [jr,P,uG,pc,kP,eO,fg];refine fj (fun _=>fj (fun _=>fin ?_ rfl) fun _=>fj (fun _=>go _ _ _ rfl) fun _=>fj (fun _=>go _ _ _ rfl) fun _=>fin rfl rfl) fun _=>fin ?_ rfl
   ·simp only [Vu,VY,dy (show (3:Nat)≠1 by decide)]
   ·simp only [Vu,VY,nW]
  | closed list pat=>
   simp only [jr,P,kP,eO,fg];refine fj (fun _=>fin ?_ rfl) fun _=> ?_
   ·simp only [Vu,VY,dy (D4 list pat)]
   ·refine bind_map (go _ _ _ (by cases pat <;> rfl)) fun ⟨a,r2⟩=> ?_;refine bind_map (go _ _ _ rfl) fun ⟨bs,r3⟩=>fin ?_ ?_
    ·simp only [nR,kC,Vu,VT,VY,dy (D4 list pat)]
    ·simp only [nR,ku]
  | items list pat=>
   simp only [jr,P,kP,eO,fg];refine fj (fun _=> ?_) fun _=>fin rfl rfl;refine bind_map (go _ _ _ (by cases pat <;> rfl)) fun ⟨a,r1⟩=> ?_;refine bind_map (go _ _ _ rfl) fun ⟨bs,r2⟩=>fin ?_ rfl;simp only [nR,Vu,VT]
  | pattern=>
   simp only [jr,P];refine fj (fun _=>fin ?_ (xG r)) fun _=> ?_
   ·rw [xF];rfl
   ·refine bind_map (go _ _ _ rfl) fun ⟨a,r1⟩=> ?_;simp only [nR,kP,eO,fg];refine fj (fun _=> ?_) fun _=>fin rfl rfl;refine bind_map (go _ _ _ rfl) fun ⟨b,r2⟩=>fin ?_ rfl;simp only [nR,Vu,VT,VY,dy (show (16:Nat)≠1 by decide)]
  | binding=>
   simp only [jr,P,kP,eO,fg];have e0:(if dV fM r=true then nb (aQ r) else nb r)=nb (if dV fM r=true then aQ r else r):=by split <;> rfl
   rw [e0];generalize (if dV fM r=true then aQ r else r)=r0;have e2:(if dV fM r=true then [cG (aR r)] else [])=(if dV fM r=true then [aR r] else []).map cG:=by split <;> rfl
   rw [e2];generalize (if dV fM r=true then [aR r] else [])=rc;have last: ∀(xs:List T) (r1:List bc),(do
     let (es,r2) ← P n .expr d (bk zo (nb r1))
     some (rc.map cG++xs.map cG++[da zo (nb r1)]++es,r2):R)=(do
     let (es,r2) ← P n .expr d (bk zo r1)
     some (rc++xs++[da zo r1]++es,r2):R).map nR:=fun xs r1=>by
    simp only [ku,kC];refine bind_map (go _ _ _ rfl) fun ⟨es,r2⟩=>fin ?_ rfl;simp only [nR,VT,Vu,VY]
   rw [pc];refine fj (fun _=> ?_) fun _=> ?_
   ·rw [eO,fg];refine bind_map (f:=nR) ?_ fun ⟨xs,r1⟩=>last xs r1;refine bind_map (go _ _ _ rfl) fun ⟨ps,r1⟩=>fin ?_ rfl;simp only [nR,Vu]
   ·exact bind_map (go _ _ _ rfl) fun ⟨xs,r1⟩=>last xs r1
  | params=>
   simp only [jr,P,uG];refine fj (fun _=> ?_) fun _=>fin rfl rfl;refine bind_map (go _ _ _ rfl) fun ⟨a,r1⟩=> ?_;refine bind_map (go _ _ _ rfl) fun ⟨bs,r2⟩=>fin ?_ rfl;simp only [nR,VT]
  | arm=>
   simp only [jr,P];refine bind_map (go _ _ _ rfl) fun ⟨a,r1⟩=> ?_;simp only [nR,ku,kC];refine bind_map (go _ _ _ rfl) fun ⟨es,r2⟩=>fin ?_ rfl;simp only [nR,VT,Vu,VY,dy (show (10:Nat)≠1 by decide)]
  | arms=>
   simp only [jr,P,kP,eO,fg];refine fj (fun _=> ?_) fun _=>fin rfl rfl;refine bind_map (go _ _ _ rfl) fun ⟨a,r1⟩=> ?_;refine bind_map (go _ _ _ rfl) fun ⟨bs,r2⟩=>fin ?_ rfl;simp only [nR,Vu,VT]
theorem G2: ∀(n m:Nat) (r:List bc),r.length≤n→(nb r).length≤m→(skip m (nb r)).1=(skip n r).1.map cG∧(skip m (nb r)).2=nb (skip n r).2
 | 0,m,r,h,_=>by
  have:r=[]:=List.length_eq_zero_iff.1 (by omega);subst this;cases m with
  | zero=>exact ⟨rfl,rfl⟩
  | succ m=>exact ⟨rfl,rfl⟩
 | n+1,0,r,h,h2=>by
  have h0:nb r=[]:=List.length_eq_zero_iff.1 (by omega);have hx:nx r=(0,[]):=by rw [← pc,h0];rfl
  simp only [skip,hx];exact ⟨rfl,rfl⟩
 | n+1,m+1,r,h,h2=>by
  simp only [skip,pc,kP,eO,fg];split
  ·rename_i hc;have l1:=eA hc.1;have l2:=eA (r:=nb r) (by rw [pc];exact hc.1);rw [eO] at l2;obtain ⟨a,b⟩:=G2 n m (aQ r) (by omega) (by omega);rw [a,b];exact ⟨rfl,rfl⟩
  ·exact ⟨rfl,rfl⟩
theorem xW: ∀(N:Nat) (r:List bc),decls N (nb r)=(decls N r).map fun l=>l.map cG
 | 0,r=>rfl
 | n+1,r=>by
  obtain ⟨k1,k2⟩:=G2 r.length (nb r).length r (Vn _) (Vn _);simp only [decls,pc,kP,eO,fg,k1,k2];refine fj (fun _=>rfl) fun _=>fj (fun _=> ?_) fun _=> ?_
  ·refine bind_map (f:=nR) ?_ fun ⟨bs,r1⟩=> ?_
   ·exact TY n .binding 0 (aQ r)
   ·refine bind_map (xW n r1) fun l=> ?_;simp only [nR,Option.map_some,Vu,dy (show (5:Nat)≠1 by decide)]
  ·refine bind_map (xW n _) fun l=> ?_;simp only [Option.map_some,Vu,dy (show (3:Nat)≠1 by decide)]
theorem Kk (r:List bc):doc (nb r)=cG (doc r):=by
 obtain ⟨l,e1,e2⟩:=mE r;have h:=xW (fuel r) r;rw [e1] at h;rw [Ik (N:=fuel r) (l:=l.map cG) h,e2,dy (by decide)]
theorem zf {r s:List bc} (h:nb r=nb s):cG (doc r)=cG (doc s):=by rw [← Kk, ← Kk,h]
theorem Fe {t:T} (h:ec t=true):dW t=true:=by
 cases t with
 | mk k tk tx l=>
  simp only [ec,Vl,V4,List.isEmpty_iff] at h;obtain ⟨rfl,rfl,rfl⟩:=h;rfl
theorem pI: ∀(l:List T),cY (l.filter fun t=> !ec t)=cY l
 | []=>rfl
 | t::l=>by
  rw [W5];cases h:ec t with
  | true=>
   simp only [V9,VP,if_false,cY,Fe h,WW];exact pI l
  | false=>simp only [Wg,if_true,cY,pI l]
mutual
theorem uZ: ∀(t:T),dW (cG t)=dW t
 | .mk k tk tx l=>by
  rw [cG];by_cases h:k=1
  ·subst h;rw [if_pos rfl];simp only [dW,pI]
  ·rw [if_neg h];simp only [dW,yU l]
theorem yU: ∀(l:List T),cY (pE l)=cY l
 | []=>rfl
 | t::l=>by simp only [pE,cY,uZ t,yU l]
end
end Go.Parse
namespace Go.Ast
open Go.VM Go.Lex Go.Parse Go.Scope
def LM:List UInt8→List UInt8
 | []=>[]
 | [c]=>[c]
 | c::d::l=>if c=92 then (if d=110 then 10 else if d=116 then 9 else d)::LM l else c::LM (d::l)
def told (s:List UInt8):List UInt8:=LM ((s.drop 1).take (s.length - 2))
end Go.Ast
namespace Go.VM
open Go
section
variable {β:Type} {Q:β→Prop} {st st0:St} {l:EH} {z:Nat} {e:TypeId} {v:AV} {ws:List AV}
theorem Vw.keeps {s:St} {but:Nat→Prop} (w:Vw st l) (k:aX st s but) (h: ∀q∈l,¬ but q.1):Vw s l:=
 ⟨fun q hq=>⟨k.old _ _ (h q hq) (w.v q hq).1,by rw [k.ro];exact (w.v q hq).2⟩,w.nd,by rw [k.ro];exact VZ w.ro k.h⟩
theorem pQ {a b c:St} {p:Nat→Prop} (h:aX a b (fun _=>False)) (k:aX b c p) (hp: ∀j,p j→a.h≤j):aX a c (fun _=>False):=
 ⟨k.ro.trans h.ro,VZ h.h k.h,fun j o _ hg=>k.old j o (fun f=>by
  have h1:=hp j f;have h2:=(St.cC.1 hg).1;omega) (h.old j o (fun f=>f) hg)⟩
structure Wv (st0 st:St) (l:EH) (z:Nat) (e:TypeId) (v:AV) (ws:List AV):Prop where
 w:Vw st l
 o:jq st z e v ws
 nw: ∀j,ew v j→st0.h≤j
 k:aX st0 st (fun _=>False)
 ge: ∀q∈l,st0.h≤q.1
theorem Wv.start (h:st.ro≤st.h) (z:Nat) (e:TypeId):Wv st st [] z e .aG []:=⟨Vw.start h,jq.aG h z e,(fun j hj=>by obtain ⟨_,_,h⟩:=hj;cases h),aX.refl _ _,fun q hq=>by cases hq⟩
theorem Wv.sub {l':EH} (w:Wv st0 st l z e v ws) (h:List.Sublist l' l):Wv st0 st l' z e v ws:=⟨w.w.sub h,w.o,w.nw,w.k,fun q hq=>w.ge q (h.subset hq)⟩
theorem Wv.none (w:Wv st0 st l z e v ws):Wv st0 st [] z e v ws:=w.sub (List.nil_sublist _)
theorem Wv.keeps {s:St} (w:Wv st0 st l z e v ws) (k:aX st s (fun _=>False)):Wv st0 s l z e v ws:=
 ⟨w.w.keeps k (fun _ _ f=>f),px w.o k (fun _ _ f=>f),w.nw,w.k.trans k,w.ge⟩
theorem ad.sn (w:Wv st0 st l z e v ws) {ty:TypeId} {cs:List AV} {K:St→Option β} (g: ∀s,s.h=st.h+1→Wv st0 s ((st.h,ty,cs)::l) z e v ws→ad (K s) Q):ad (bR (st.add (.cells ty cs)) K) Q:=by
 refine g _ rfl ⟨w.w.alloc ty cs,px w.o (aX.add _ _ (fun _=>False)) (fun _ _ f=>f),w.nw,w.k.trans (aX.add _ _ _),fun q hq=> ?_⟩;rcases Vv.1 hq with rfl | hq
 ·exact w.k.h
 ·exact w.ge q hq
theorem Wv.putAt {a:Nat} {t t':TypeId} {old cs:List AV} {l1 l2:EH} (w:Wv st0 st (l1++(a,t,old)::l2) z e v ws):Wv st0 (st.put a (.cells t' cs)) (l1++(a,t',cs)::l2) z e v ws:=by
 have hm:(a,t,old)∈l1++(a,t,old)::l2:=List.mem_append_right _ Vp;have hg:=w.w.get hm;refine ⟨w.w.putAt cs,w.o.put hg,w.nw,pQ w.k (aX.put (but:=(· =a)) rfl) (fun j hj=>by rw [hj];exact w.ge _ hm),fun q hq=> ?_⟩;rcases VE.1 hq with h | h
 ·exact w.ge q (List.mem_append_left _ h)
 ·rcases Vv.1 h with rfl | h
  ·have h1:=w.ge (a,t,old) hm;exact h1
  ·exact w.ge q (List.mem_append_right _ (Vy _ h))
theorem ad.pU {O:sy} (l1:EH) {l2:EH} {a:Nat} {ty:TypeId} {old:List AV} (w:Wv st0 st (l1++(a,ty,old)::l2) z e v ws) {y:Nat} {u:AV} {cs:List AV} {K:Kv β}
  (g: ∀s fx,s.h=st.h→Wv st0 s (l1++(a,ty,cs)::l2) z e v ws→ad (K VM.undef s fx) Q) (hz:old.length=y:=by rfl) (hc:cs.length=y:=by rfl):ad (aD O y (.mp a 0) u cs st K) Q:=by
 have hm:(a,ty,old)∈l1++(a,ty,old)::l2:=List.mem_append_right _ Vp;have e1:aD O y (.mp a 0) u cs st K=K VM.undef (st.put a (.cells ty cs)) ⟨[a],.wrote a (.cells ty cs)⟩:=by
  rw [eF (w.w.get hm) hc (by omega) (w.w.v _ hm).2,jO (by omega)]
 exact ad.step e1 (g _ _ rfl w.putAt)
theorem ad.Uz {O:sy} (l1:EH) {l2:EH} {a:Nat} {ty:TypeId} {old:List AV} (w:Wv st0 st (l1++(a,ty,old)::l2) z e v ws) {off y:Nat} {u:AV} {cs:List AV} {K:Kv β} (hl:off+cs.length≤old.length)
  (g: ∀s o,s.h=st.h→Wv st0 s (l1++(a,ty,cO old off cs)::l2) z e v ws→ad (K VM.undef s ⟨[a],.wrote a o⟩) Q) (hc:cs.length=y:=by rfl):ad (aD O y (.mp a off) u cs st K) Q:=by
 have hm:(a,ty,old)∈l1++(a,ty,old)::l2:=List.mem_append_right _ Vp;exact ad.step (eF (w.w.get hm) hc hl (w.w.v _ hm).2 K) (g _ _ rfl w.putAt)
theorem ad.wM (w:Wv st0 st l z e v ws) {b:Nat} {x:AV} (hr:ws.length+1≤1000000000) (hb:b≤1000) (hz:1≤z) {K:Kv β} (g: ∀v' s fx,Wv st0 s l z e v' (ws++[x])→ad (K v' s fx) Q):ad (eD z b e v [x] st K) Q:=by
 obtain ⟨v',s,fx,e1,o1,k1,n1⟩:=qK (b:=b) (new:=[x]) w.o (by simp) (tJ (by simpa using hr) hb hz);refine ad.step (mB e1 K) (g v' s fx ⟨w.w.keeps k1 (fun q hq h=>w.o.not (w.w.v q hq).1 h),o1,fun j hj=> ?_,pQ w.k k1 w.nw,w.ge⟩);rcases n1 j hj with h | h
 ·exact w.nw j h
 ·exact VZ w.k.h h
theorem ad.Uu (w:Wv st0 st l z e v ws) {K:AV→Option β} (g: ∀x,bu z x ws→ad (K x) Q):ad (eZ st 0 v K) Q:=by
 obtain ⟨x,hx,e1⟩:=Md (β:=β) w.o;exact ad.step (e1 K) (g x hx)
structure Vo (st:St) (l:EH) (z:Nat) (e:TypeId) (v:AV) (ws:List AV):Prop where
 w:Vw st l
 o:jq st z e v ws
theorem ad.Ve {O:sy} (l1:EH) {l2:EH} {a:Nat} {ty:TypeId} {old:List AV} (w:Vo st (l1++(a,ty,old)::l2) z e v ws) {off y:Nat} {u:AV} {cs:List AV} {K:Kv β} (hl:off+cs.length≤old.length)
  (g: ∀s o,s.h=st.h→Vo s (l1++(a,ty,cO old off cs)::l2) z e v ws→ad (K VM.undef s ⟨[a],.wrote a o⟩) Q) (hc:cs.length=y:=by rfl):ad (aD O y (.mp a off) u cs st K) Q:=by
 have hm:(a,ty,old)∈l1++(a,ty,old)::l2:=List.mem_append_right _ Vp;have hg:=w.w.get hm;exact ad.step (eF hg hc hl (w.w.v _ hm).2 K) (g _ _ rfl ⟨w.w.putAt _,w.o.put hg⟩)
theorem N7 {base:Nat} {vs xs:List AV} (h:jD (freeze st base 99) vs= .ok xs) (hb:bx xs=true) (K:AV→Option β):eZ st base (.agg vs) K=K (.agg xs):=by
 have e2:freeze st base 100 (.agg vs)= .ok (.agg xs):=by
  show (do pure (.agg (← jD (freeze st base 99) vs)):cM AV)= _;rw [h];rfl
 have e3:bare (.agg xs)=true:=hb;simp only [eZ,e2,e3,aV]
end
end Go.VM
namespace Go.Format
open Go.VM Go.Lex Go.Parse
abbrev B:=List UInt8
abbrev Doc:=Go.Lay.Doc
def tx (s:B):Doc:= .mk 1 s 0 []
def iD:Doc:= .mk 2 [] 0 []
def KE:Doc:= .mk 4 [] 0 []
def zy (n:Int) (l:List Doc):Doc:= .mk 5 [] n l
def sk (l:List Doc):Doc:= .mk 6 [] 0 l
def row (l:List Doc):Doc:= .mk 7 [] 0 l
def cf:Doc:=tx [32]
def bI (ahead:List Doc):Nat→List Doc→List Doc
 | _,[]=>[]
 | i,d::l=>(if i=0 then [] else [ahead.getD (min (i - 1) (ahead.length - 1)) cf])++d::bI ahead (i+1) l
def jQ (ss:List B):T→Bool
 | .mk k tk s _=>k==1&&(tk==8&&ss.contains s)
def iE:T→Option B
 | .mk _ tk s _=>if tk=2 then some s else none
def dP (ks:List T):List B:=ks.filterMap iE
def AL (s:B) (ks:List T):Doc:=row ((dP ks).flatMap (fun r=>[tx r,iD])++[tx s])
def kV (D:List Doc):List Doc:=bI [cf] 0 (D.take (D.length - 1))++[zy 2 [iD,D.getD (D.length - 1) cf]]
def kX:List T→List Doc→List Doc
 | t::ks,d::D=>d::(if jQ [jz,nt] t then iD::kX ks D else kX ks D)
 | _,_=>[]
def fb:T→List T→List Doc→List Doc
 | p,t::ks,d::D=>(if jQ [gH] p then cf else iD)::d::fb t ks D
 | _,_,_=>[]
def dr (k:Nat) (ks:List T) (D:List Doc):Doc:=
 if k=5∨k=7 then sk (kV D)
 else if k=6 then sk (kV (D.take (D.length - 2))++[iD,D.getD (D.length - 2) cf,iD,D.getD (D.length - 1) cf])
 else if k=8 then sk (bI [cf,iD,cf,iD,cf] 0 D)
 else if k=9 then sk (bI [cf] 0 (D.take 3)++fb (ks.getD 2 default) (ks.drop 3) (D.drop 3))
 else if k=10 then sk (bI [cf] 0 (D.take 2)++[zy 4 [iD,D.getD 2 cf]])
 else if k=11 then sk (bI [iD,cf] 0 D)
 else if k=12∨k=16 then row (bI [cf] 0 D)
 else if k=13 then sk [D.getD 0 cf,zy 2 [iD,D.getD 1 cf]]
 else sk [D.getD 0 cf,zy 1 (kX ((ks.drop 1).take (ks.length - 2)) ((D.drop 1).take (D.length - 2))),D.getD (D.length - 1) cf]
mutual
def au:T→Doc
 | .mk k _ s l=>if k=1 then AL s l else dr k l (lO l)
def lO:List T→List Doc
 | []=>[]
 | t::l=>au t::lO l
end
theorem oF: ∀(l:List T),lO l=l.map au
 | []=>rfl
 | t::l=>by rw [lO,oF l];rfl
mutual
def dn:T→Bool
 | .mk k tk s l=>(k==1&&((tk==2||tk==7)&&s.any fun c=>c==10||c==13))||fu l
def fu:List T→Bool
 | []=>false
 | t::l=>dn t||fu l
end
def cA:Nat→List Doc→List Doc
 | _,[]=>[]
 | i,d::l=>(if i=0 then [] else [KE])++d::KE::cA (i+1) l
def dw (l:List T):List Doc:=lO (l.take (l.length - 1))++(dP (l.getD (l.length - 1) default).kids).map tx
def qW (s:B):Except Nat Doc:=
 if 65536 < s.length then .error 40
 else if bO s=true then
  (if dW (doc (tokens s))=true then (if dn (doc (tokens s))=true then .error 4 else .ok (row (cA 0 (dw (doc (tokens s)).kids)))) else .error 50)
 else .error 4
theorem Bu: ∀(ks:List T),dP (ks.filter fun t=> !ec t)=dP ks
 | []=>rfl
 | t::ks=>by
  have ih:=Bu ks;unfold dP at ih ⊢;rw [W5];cases h:ec t with
  | true=>
   have hr:iE t=none:=by
    cases t with
    | mk k tk s l=>
     simp only [ec,Vl,V4] at h;simp [iE,h.2.1]
   simp only [V9,VP,if_false,ih,Wr,hr]
  | false=>simp only [Wg,if_true,Wr,ih]
theorem Ah (ss:List B) (t:T):jQ ss (cG t)=jQ ss t:=by
 cases t with
 | mk k tk s l=>rw [cG];rfl
theorem CQ: ∀(ks:List T) (D:List Doc),kX (ks.map cG) D=kX ks D
 | [],_=>rfl
 | t::ks,[]=>rfl
 | t::ks,d::D=>by
  simp only [Vu,kX,Ah,CQ ks D]
theorem xA: ∀(p:T) (ks:List T) (D:List Doc),fb (cG p) (ks.map cG) D=fb p ks D
 | _,[],_=>rfl
 | _,t::ks,[]=>rfl
 | p,t::ks,d::D=>by
  simp only [Vu,fb,Ah,xA t ks D]
theorem getD_map (l:List T) (i:Nat):(l.map cG).getD i default=cG (l.getD i default):=by
 rw [VI,VI,Wa];cases l[i]? <;> rfl
theorem EY (k:Nat) (ks:List T) (D:List Doc):dr k (ks.map cG) D=dr k ks D:=by
 unfold dr;rw [getD_map, ← List.map_drop,xA, ← List.map_drop, ← List.map_take,CQ,VL]
mutual
theorem Fs: ∀(t:T),au (cG t)=au t
 | .mk k tk s l=>by
  rw [cG];by_cases h:k=1
  ·rw [if_pos h,au,au,if_pos h,if_pos h,AL,AL,Bu]
  ·rw [if_neg h,au,au,if_neg h,if_neg h,pn,lz,EY]
theorem pn: ∀(l:List T),lO (pE l)=lO l
 | []=>rfl
 | t::l=>by rw [pE,lO,lO,Fs,pn]
end
theorem nP: ∀(l:List T),fu (l.filter fun t=> !ec t)=fu l
 | []=>rfl
 | t::l=>by
  rw [W5];cases h:ec t with
  | true=>
   have ht:dn t=false:=by
    cases t with
    | mk k tk s l=>
     simp only [ec,Vl,V4,List.isEmpty_iff] at h;obtain ⟨rfl,rfl,rfl⟩:=h;rfl
   simp only [V9,VP,if_false,fu,ht,Wu,nP l]
  | false=>simp only [Wg,if_true,fu,nP l]
mutual
theorem sf: ∀(t:T),dn (cG t)=dn t
 | .mk k tk s l=>by
  rw [cG];by_cases h:k=1
  ·simp only [if_pos h,dn,nP]
  ·simp only [if_neg h,dn,vh l]
theorem vh: ∀(l:List T),fu (pE l)=fu l
 | []=>rfl
 | t::l=>by simp only [pE,fu,sf t,vh l]
end
theorem zN {t:T} (h:t.kind≠1):(cG t).kids=t.kids.map cG:=by
 cases t with
 | mk k tk s l=>
  have h:k≠1:=h;rw [cG,if_neg h,lz];rfl
theorem Dd (r:List bc):(doc r).kind=4:=rfl
end Go.Format
namespace Go.Lex
open Go.VM
def Stop (x:List UInt8):Prop:=x=[]∨ ∃c r,x=c::r∧bV c=true
theorem nY {c:UInt8} (h:bV c=true):c=32∨c=9∨c=10∨c=13:=by
 simp only [bV,V2,V4] at h;rcases h with ((h | h) | h) | h
 ·exact .inl h
 ·exact .inr (.inl h)
 ·exact .inr (.inr (.inl h))
 ·exact .inr (.inr (.inr h))
theorem G3: ∀(s:List UInt8),(cI s).1=7→1≤(cI s).2
 | [],h=>by cases h
 | [c],h=>by
  simp only [cI] at h ⊢;split at h
  ·cases h
  split at h
  ·rename_i h1 h2;rw [if_neg h1,if_pos h2];exact Vn _
  ·cases h
 | c::d::l,h=>by
  simp only [cI] at h ⊢;split at h
  ·cases h
  rename_i h1;rw [if_neg h1];split at h
  ·rename_i h2;rw [if_pos h2];exact Vn _
  rename_i h2;rw [if_neg h2];split at h
  ·rename_i h3;rw [if_pos h3];split at h
   ·rename_i h4;rw [if_pos h4];dsimp only;omega
   ·cases h
  ·rename_i h3;rw [if_neg h3];dsimp only;omega
theorem rS: ∀{q x x':List UInt8},(cI (q++x)).1=7→(cI (q++x)).2≤q.length→cI (q++x')=cI (q++x)
 | [],x,x',h,h2=>by
  have:=G3 _ h;simp only [Vj] at h2;omega
 | [c],x,x',h,h2=>by
  have hc:c=34:=by
   cases x with
   | nil=>
    simp only [VH,cI] at h;split at h
    ·cases h
    split at h
    ·assumption
    ·cases h
   | cons d l=>
    simp only [Vz,Vs,cI,Vh,Vj] at h h2;split at h
    ·cases h
    rename_i h1;rw [if_neg h1] at h2;split at h
    ·assumption
    rename_i h3;rw [if_neg h3] at h2;split at h
    ·rename_i h4;rw [if_pos h4] at h2;split at h
     ·rename_i h5;rw [if_pos h5] at h2;dsimp only at h2;omega
     ·cases h
    ·rename_i h4;rw [if_neg h4] at h2;have:=G3 _ h;dsimp only at h2;omega
  subst hc;have e: ∀y:List UInt8,cI (34::y)=(7,1):=fun y=>by
   cases y with
   | nil=>rfl
   | cons d l=>
    simp only [cI];rw [if_neg (by decide),if_true]
  show cI (34::x')=cI (34::x);rw [e,e]
 | c::d::p,x,x',h,h2=>by
  have h:(cI (c::d::(p++x))).1=7:=h;have h2:(cI (c::d::(p++x))).2≤p.length+2:=h2;show cI (c::d::(p++x'))=cI (c::d::(p++x));simp only [cI] at h h2 ⊢;by_cases h1:c=10
  ·rw [if_pos h1,if_pos h1]
  rw [if_neg h1] at h h2;rw [if_neg h1,if_neg h1];by_cases h4:c=34
  ·rw [if_pos h4,if_pos h4]
  rw [if_neg h4] at h h2;rw [if_neg h4,if_neg h4];by_cases h3:c=92
  ·rw [if_pos h3] at h h2;rw [if_pos h3,if_pos h3];cases he:yZ d with
   | true=>
    rw [he,if_pos rfl] at h h2;simp only [if_true];dsimp only at h h2;rw [rS (q:=p) (x:=x) (x':=x') h (by omega)]
   | false=>
    rw [he,if_neg (by simp)] at h;cases h
  ·rw [if_neg h3] at h h2;rw [if_neg h3,if_neg h3];dsimp only at h h2;have:=rS (q:=d::p) (x:=x) (x':=x') h (by
    show (cI (d::(p++x))).2≤p.length+1;omega)
   have this:cI (d::(p++x'))=cI (d::(p++x)):=this;rw [this]
theorem ig: ∀(s:List UInt8),(cI s).1=7∨(cI s).1=9
 | []=> .inr rfl
 | [c]=>by
  simp only [cI];split
  ·exact .inr rfl
  split
  ·exact .inl rfl
  ·exact .inr rfl
 | c::d::l=>by
  simp only [cI];split
  ·exact .inr rfl
  split
  ·exact .inl rfl
  split
  ·split
   ·exact ig l
   ·exact .inr rfl
  ·exact ig (d::l)
def ff (b:UInt8):Bool:=b==32||b==9||b==10||b==13||b==40||b==41||b==44||b==59||b==91||b==93
def pJ (x:List UInt8):Prop:=x=[]∨ ∃c r,x=c::r∧ff c=true
theorem rN {c:UInt8} (h:ff c=true):c=32∨c=9∨c=10∨c=13∨c=40∨c=41∨c=44∨c=59∨c=91∨c=93:=by
 simp only [ff,V2,V4] at h;simpa only [or_assoc] using h
theorem F3 (c:UInt8) (h:ff c=true):aO c=false:=by rcases rN h with rfl | rfl | rfl | rfl | rfl | rfl | rfl | rfl | rfl | rfl <;> rfl
theorem Br (c:UInt8) (h:ff c=true):gx c=false:=by rcases rN h with rfl | rfl | rfl | rfl | rfl | rfl | rfl | rfl | rfl | rfl <;> rfl
theorem Ao {p:UInt8→Bool} (hp: ∀c,ff c=true→p c=false) {x:List UInt8} (hx:pJ x): ∀s:List UInt8,wh p (s++x)=wh p s
 | []=>by
  rcases hx with rfl | ⟨c,r,rfl,h⟩
  ·rfl
  ·rw [Vs,fk,hp c h];rfl
 | c::s=>by
  rw [Vz,fk,fk,Ao hp hx s]
theorem K9 {p:UInt8→Bool} (hp: ∀c,ff c=true→p c=false) {x:List UInt8} (hx:pJ x): ∀s:List UInt8,(s++x).takeWhile p=s.takeWhile p
 | []=>by
  rcases hx with rfl | ⟨c,r,rfl,h⟩
  ·rfl
  ·rw [Vs,V3,hp c h];rfl
 | c::s=>by
  rw [Vz,V3,V3,K9 hp hx s]
theorem OD {x:List UInt8} (hx:pJ x) (s:List UInt8):ia (s++x)=ia s:=by
 cases s with
 | nil=>
  rcases hx with rfl | ⟨c,r,rfl,h⟩
  ·rfl
  ·show ia (c::r)=ia [];have hc:¬ (c=101∨c=69):=by rcases rN h with rfl | rfl | rfl | rfl | rfl | rfl | rfl | rfl | rfl | rfl <;> decide
   unfold ia;dsimp only;rw [if_neg hc]
 | cons e l=>
  show ia (e::(l++x))= _;have hs:gu (l++x)=gu l:=by
   cases l with
   | nil=>
    rcases hx with rfl | ⟨c,r,rfl,h⟩
    ·rfl
    ·rcases rN h with rfl | rfl | rfl | rfl | rfl | rfl | rfl | rfl | rfl | rfl <;> rfl
   | cons c l=>rfl
  have hd:(l++x).drop (gu l)=l.drop (gu l)++x:=List.drop_append_of_le_length (E1 l);have hw:=Ao (p:=aO) F3 hx (l.drop (gu l));have ht:(l.drop (gu l)++x).take (wh aO (l.drop (gu l)))=(l.drop (gu l)).take (wh aO (l.drop (gu l))):=List.take_append_of_le_length (ni _ _);have hh:((l++x).head?=some 45)=(l.head?=some 45):=by
   cases l with
   | nil=>
    rcases hx with rfl | ⟨c,r,rfl,h⟩
    ·rfl
    ·rcases rN h with rfl | rfl | rfl | rfl | rfl | rfl | rfl | rfl | rfl | rfl <;> simp
   | cons c l=>rfl
  unfold ia;dsimp only;simp only [hs,hd,hw,ht,hh]
theorem uA {x:List UInt8} (hx:pJ x) (s:List UInt8):number (s++x)=number s:=by
 have w1:=Ao (p:=aO) F3 hx s;have d1:(s++x).drop (wh aO s)=s.drop (wh aO s)++x:=List.drop_append_of_le_length (ni _ _);have hh:((s.drop (wh aO s)++x).head?=some 46)=((s.drop (wh aO s)).head?=some 46):=by
  cases s.drop (wh aO s) with
  | nil=>
   rcases hx with rfl | ⟨c,r,rfl,h⟩
   ·rfl
   ·rcases rN h with rfl | rfl | rfl | rfl | rfl | rfl | rfl | rfl | rfl | rfl <;> simp
  | cons c l=>rfl
 rw [jL (s++ _),jL s,w1,d1];simp only [hh];by_cases h46:(s.drop (wh aO s)).head?=some 46
 ·rw [if_pos h46,if_pos h46];have hlt:wh aO s < s.length:=by
   rcases Nat.lt_or_ge (wh aO s) s.length with q | q
   ·exact q
   ·rw [List.drop_of_length_le q] at h46;cases h46
  have d2:(s++x).drop (wh aO s+1)=s.drop (wh aO s+1)++x:=List.drop_append_of_le_length (by omega);have w2:=Ao (p:=aO) F3 hx (s.drop (wh aO s+1));have hk:=ni aO (s.drop (wh aO s+1));rw [VF] at hk;have d3:(s++x).drop (wh aO s+1+wh aO (s.drop (wh aO s+1)))=s.drop (wh aO s+1+wh aO (s.drop (wh aO s+1)))++x:=List.drop_append_of_le_length (by omega);rw [d2,w2,d3,OD hx]
 ·rw [if_neg h46,if_neg h46]
theorem PJ {p x x':List UInt8} (hp:p≠[]) (hx:pJ x) (hx':pJ x') (h1:(cut (p++x)).1≠1) (h9:(cut (p++x)).1≠9) (hn:(cut (p++x)).2≤p.length):cut (p++x')=cut (p++x):=by
 cases p with
 | nil=>exact absurd rfl hp
 | cons c l=>
  rw [Vz,pK] at h1 h9 hn;rw [Vz,Vz,pK,pK];have two: ∀{w:List UInt8},w.length=2→(∀d,ff d=true→w≠[c,d])→((c::(l++x')).take 2=w)=((c::(l++x)).take 2=w):=by
   intro w hw hd;cases l with
   | cons d l=>rfl
   | nil=>
    have key: ∀{y:List UInt8},pJ y→((c::([]++y)).take 2=w)=False:=by
     intro y hy;rcases hy with rfl | ⟨d,r,rfl,hb⟩
     ·refine eq_false fun e=> ?_;rw [← e] at hw;cases hw
     ·exact eq_false fun e=>hd d hb e.symm
    rw [key hx,key hx']
  have hrem:=two (w:=[40,42]) rfl (fun d hb e=>by
   have:d=42:=by simpa using (Wb (fun l:List UInt8=>l.getD 1 0) e).symm
   subst this;cases hb)
  have htwo:gw.contains ((c::(l++x')).take 2)=gw.contains ((c::(l++x)).take 2):=by
   have h2: ∀w∈gw,((c::(l++x')).take 2=w)=((c::(l++x)).take 2=w):=fun w hw=>two (by
    simp only [gw,Vv,VJ,or_false] at hw;rcases hw with rfl | rfl | rfl | rfl | rfl | rfl | rfl | rfl | rfl | rfl | rfl <;> rfl) (fun d hb e=>by
    subst e;simp only [gw,Vv,VJ,or_false,WG,Xf] at hw;rcases rN hb with rfl | rfl | rfl | rfl | rfl | rfl | rfl | rfl | rfl | rfl <;> simp at hw)
   rw [Bool.eq_iff_iff,List.contains_iff_mem,List.contains_iff_mem];constructor
   ·intro h;have:=h2 _ h;rw [eq_true (rfl:(c::(l++x')).take 2= _)] at this;rw [of_eq_true this.symm];exact h
   ·intro h;have:=h2 _ h;rw [eq_true (rfl:(c::(l++x)).take 2= _)] at this;rw [of_eq_true this];exact h
  unfold QI at h1 h9 hn ⊢;by_cases hb:bV c=true
  ·rw [if_pos hb] at h1;exact absurd rfl h1
  rw [if_neg hb] at h1 h9 hn;rw [if_neg hb,if_neg hb];simp only [hrem];by_cases hr:(c::(l++x)).take 2=[40,42]
  ·rw [if_pos hr] at h1 h9 hn;rw [if_pos hr,if_pos hr];cases l with
   | nil=>
    exfalso;rcases hx with rfl | ⟨d,r,rfl,hbd⟩
    ·cases hr
    ·have:d=42:=by simpa using Wb (fun l:List UInt8=>l.getD 1 0) hr
     subst this;cases hbd
   | cons d l=>
    have e: ∀y:List UInt8,(c::(d::l++y)).drop 2=l++y:=fun _=>rfl;rw [e] at h9 hn;rw [e,e];cases hm:rem (l++x) 1 with
    | none=>rw [hm] at h9;exact absurd rfl h9
    | some m=>
     rw [hm] at hn;dsimp only at hn;rw [LS (y':=x') hm (by simp at hn;omega)]
  rw [if_neg hr] at h1 h9 hn;rw [if_neg hr,if_neg hr];by_cases hlow:iY c=true
  ·rw [if_pos hlow,if_pos hlow];have w1:=Ao (p:=gx) Br hx (c::l);have w2:=Ao (p:=gx) Br hx' (c::l);have t1:=K9 (p:=gx) Br hx (c::l);have t2:=K9 (p:=gx) Br hx' (c::l);rw [Vz] at w1 w2 t1 t2;rw [w1,w2,t1,t2]
  rw [if_neg hlow] at h1 h9 hn;rw [if_neg hlow,if_neg hlow];by_cases hdig:aO c=true
  ·rw [if_pos hdig,if_pos hdig];have n1:=uA hx (c::l);have n2:=uA hx' (c::l);rw [Vz] at n1 n2;rw [n1,n2]
  rw [if_neg hdig] at h1 h9 hn;rw [if_neg hdig,if_neg hdig];by_cases hq:c=34
  ·rw [if_pos hq] at h1 h9 hn;rw [if_pos hq,if_pos hq];dsimp only at h9 hn;have h7:(cI (l++x)).1=7:=(ig _).resolve_right h9;rw [rS (x':=x') h7 (by simp at hn;omega)]
  rw [if_neg hq] at h1 h9 hn;rw [if_neg hq,if_neg hq,htwo];by_cases ht:gw.contains ((c::(l++x)).take 2)=true
  ·rw [if_pos ht,if_pos ht]
  rw [if_neg ht] at h1 h9 hn;rw [if_neg ht,if_neg ht];by_cases ho:iQ c=true
  ·rw [if_pos ho,if_pos ho]
  ·rw [if_neg ho] at h9;exact absurd rfl h9
end Go.Lex
namespace Go.Parse
open Go.VM Go.Lex
def Tv (Q:bc→Prop) (ks:List T):Prop:= ∃r:List bc,ks=r.map aT∧ ∀x∈r,bl x=true∧Q x
def Lf (Q:bc→Prop) (s:List UInt8) (t:T):Prop:= ∃k ks,t= .mk 1 k s ks∧(k=3∨k=8)∧Q (k,s)∧Tv Q ks
def u9 (list:Bool):List UInt8:=if list then oE else nf
section
variable (Q:bc→Prop)
mutual
inductive ET:T→Prop where
 | leaf {k:Nat} {tx:List UInt8} {ks:List T}:Q (k,tx)→(k=4∨k=5∨k=6∨k=7∨(k=3∨k=8)∧(tx=qe∨tx=lI))→Tv Q ks→ET (.mk 1 k tx ks)
 | letin {a i e:T} {bs:List T}:Lf Q qZ a→BT bs→Lf Q QA i→ET e→ET (node 6 (a::bs++[i]++[e]))
 | lambda {f p a e:T} {ps:List T}:Lf Q Pw f→PT p→(∀x∈ps,PT x)→Lf Q iB a→ET e→ET (node 7 (f::p::ps++[a]++[e]))
 | ife {i a t b l c:T}:Lf Q Ui i→ET a→Lf Q xY t→ET b→Lf Q xa l→ET c→ET (node 8 [i,a,t,b,l,c])
 | mtch {m e w a:T} {bar as:List T}:Lf Q Fq m→ET e→Lf Q bX w→(bar=[]∨ ∃b,Lf Q gH b∧bar=[b])→AT a→PA as→ET (node 9 (m::e::w::bar++a::as))
 | bin {a op b:T} {s:List UInt8}:ET a→Lf Q s op→ET b→ET (node 11 [a,op,b])
 | un {op a:T}:Lf Q [45] op∨Lf Q [45,46] op→ET a→ET (node 12 [op,a])
 | app {a b:T}:ET a→ET b→ET (node 13 [a,b])
 | none {list:Bool} {o c:T}:Lf Q (u9 list) o→Lf Q (je list) c→ET (node (kindOf list false) [o,c])
 | some {list:Bool} {o c a:T} {l:List T}:Lf Q (u9 list) o→ET a→Ql list l→Lf Q (je list) c→ET (node (kindOf list false) (o::a::l++[c]))
inductive Ql:Bool→List T→Prop where
 | nil {list:Bool}:Ql list []
 | cons {list:Bool} {c x:T} {l:List T}:Lf Q (uu list) c→ET x→Ql list l→Ql list (c::x::l)
inductive PT:T→Prop where
 | leaf {k:Nat} {tx:List UInt8} {ks:List T}:Q (k,tx)→(k=4∨k=5∨k=7∨(k=3∨k=8)∧(tx=qe∨tx=lI∨tx=EU))→Tv Q ks→PT (.mk 1 k tx ks)
 | cons {a op b:T}:PT a→Lf Q Dl op→PT b→PT (node 16 [a,op,b])
 | none {list:Bool} {o c:T}:Lf Q (u9 list) o→Lf Q (je list) c→PT (node (kindOf list true) [o,c])
 | some {list:Bool} {o c a:T} {l:List T}:Lf Q (u9 list) o→PT a→PD list l→Lf Q (je list) c→PT (node (kindOf list true) (o::a::l++[c]))
inductive PD:Bool→List T→Prop where
 | nil {list:Bool}:PD list []
 | cons {list:Bool} {c x:T} {l:List T}:Lf Q (uu list) c→PT x→PD list l→PD list (c::x::l)
inductive BT:List T→Prop where
 | mk {rc ps:List T} {p q e:T}:(rc=[]∨ ∃r,Lf Q fM r∧rc=[r])→PT p→(∀x∈ps,PT x)→Lf Q zo q→ET e→BT (rc++(p::ps)++[q]++[e])
inductive AT:T→Prop where
 | mk {p a e:T}:PT p→Lf Q iB a→ET e→AT (node 10 [p,a,e])
inductive PA:List T→Prop where
 | nil:PA []
 | cons {b a:T} {l:List T}:Lf Q gH b→AT a→PA l→PA (b::a::l)
end
inductive DT:List T→Prop where
 | last {ks:List T}:Tv Q ks→DT [.mk 1 0 [] ks]
 | cons {a:T} {bs l:List T}:Lf Q qZ a→BT Q bs→DT l→DT (node 5 (a::bs)::l)
variable {Q}
def pj (Q:bc→Prop) (r:List bc):Prop:= ∀t∈r,Q t
theorem bH {r:List bc} (h:pj Q r):pj Q (aQ r):=fun t ht=>h t ((WL bl).subset (List.mem_of_mem_drop ht))
theorem iL {r:List bc} (s:List UInt8) (h:pj Q r):pj Q (bk s r):=by
 unfold bk;split
 ·exact bH h
 ·exact h
theorem qo {r:List bc} (h:pj Q r):Tv Q ((r.takeWhile bl).map aT):=⟨_,rfl,fun _ hx=>⟨JH hx,h _ (List.takeWhile_prefix bl |>.subset hx)⟩⟩
theorem BA {r:List bc} (h:(nx r).1≠0):nx r∈r:=by
 unfold nx at h ⊢;split
 ·rename_i e;rw [e] at h;exact absurd rfl h
 ·rename_i t l e;have:t∈r.dropWhile bl:=by rw [e];exact Vp
  exact (WL bl).subset this
theorem gn {s:List UInt8} {r:List bc} (hr:pj Q r) (h:dV s r=true):Lf Q s (aR r):=by
 have h0:=pA h;have hm:=hr _ (BA h0);unfold dV at h;simp only [Vl,V2,V4] at h;refine ⟨(nx r).1,_, ?_,h.1, ?_,qo hr⟩
 ·unfold aR leaf;rw [h.2]
 ·rw [← h.2];exact hm
theorem KM {ss:List (List UInt8)} {r:List bc} (hr:pj Q r) (h:isAny ss r=true): ∃s,s∈ss∧Lf Q s (aR r):=by
 have h0:=yH h;have hm:=hr _ (BA h0);unfold isAny at h;simp only [Vl,V2,V4,List.any_eq_true] at h;obtain ⟨h1,s,hs,e⟩:=h;refine ⟨s,hs,(nx r).1,_, ?_,h1, ?_,qo hr⟩
 ·unfold aR leaf;rw [e]
 ·rw [e];exact hm
theorem lf {s:List UInt8} {r:List bc} (hr:pj Q r) (h:dW (da s r)=true):Lf Q s (da s r):=by
 have h1:=Jk h;have:da s r=aR r:=by unfold da;rw [h1];rfl
 rw [this];exact gn hr h1
def pre:lC→List bc→Prop
 | .closed list _,r=>dV (u9 list) r=true
 | _,_=>True
def Made (Q:bc→Prop):lC→List T→Prop
 | .expr,l | .whole,l | .level _,l | .neg,l | .atom false,l | .closed _ false,l=> ∃t,l=[t]∧ET Q t
 | .ops _ a,l | .args a,l=>ET Q a→ ∃t,l=[t]∧ET Q t
 | .atom true,l | .closed _ true,l | .pattern,l=> ∃t,l=[t]∧PT Q t
 | .items list false,l=>Ql Q list l
 | .items list true,l=>PD Q list l
 | .binding,l=>BT Q l
 | .params,l=> ∀x∈l,PT Q x
 | .arm,l=> ∃t,l=[t]∧AT Q t
 | .arms,l=>PA Q l
theorem fN {N:Nat} {job:lC} {d:Nat} {r:List bc} {l:List T} {r':List bc} (h:P N job d r=some (l,r')) (hr:pj Q r):pj Q r':=Dh (Q:=pj Q) (fun _ h=>bH h) N job d r l r' h hr
theorem NN: ∀(N:Nat) (job:lC) (d:Nat) (r:List bc) (l:List T) (r':List bc),P N job d r=some (l,r')→pre job r→pj Q r→cY l=true→Made Q job l:=by
 intro N
 induction N with
 | zero=>intro job d r l r' h;cases h
 | succ n ih=>
  intro job d r l r' h ha hr hg;cases job with
  | expr=>
   simp only [P] at h;split at h
   ·cases h;rw [dY,uJ] at hg;cases hg
   ·have:=ih _ _ _ _ _ h trivial hr hg;exact this
  | whole=>
   simp only [P] at h;split at h
   ·rename_i hc;obtain ⟨⟨bs,r2⟩,e1,h⟩:=bind_some h;obtain ⟨⟨es,r3⟩,e2,h⟩:=bind_some h;cases h;rw [dY] at hg;have hg:=dD hg;simp only [fA,cY,Vl,Wp] at hg;have q2:=fN e1 (bH hr);obtain ⟨e,rfl,he⟩:=ih _ _ _ _ _ e2 trivial (iL _ q2) hg.2;exact ⟨_,rfl,.letin (gn hr hc) (ih _ _ _ _ _ e1 trivial (bH hr) hg.1.1.2) (lf q2 hg.1.2) he⟩
   split at h
   ·rename_i hc;obtain ⟨⟨a,r1⟩,e1,h⟩:=bind_some h;obtain ⟨⟨ps,r2⟩,e2,h⟩:=bind_some h;obtain ⟨⟨es,r3⟩,e3,h⟩:=bind_some h;cases h;rw [dY] at hg;have hg:=dD hg;simp only [fA,cY,Vl,Wp] at hg;have q1:=fN e1 (bH hr);have q2:=fN e2 q1;obtain ⟨p,rfl,hp⟩:=ih _ _ _ _ _ e1 trivial (bH hr) hg.1.1.1.2;have hps:=ih _ _ _ _ _ e2 trivial q1 hg.1.1.2;obtain ⟨e,rfl,he⟩:=ih _ _ _ _ _ e3 trivial (iL _ q2) hg.2;exact ⟨_,rfl,.lambda (gn hr hc) hp hps (lf q2 hg.1.2) he⟩
   split at h
   ·rename_i hc;obtain ⟨⟨a,r1⟩,e1,h⟩:=bind_some h;obtain ⟨⟨b,r2⟩,e2,h⟩:=bind_some h;obtain ⟨⟨c,r3⟩,e3,h⟩:=bind_some h;cases h;rw [dY] at hg;have hg:=dD hg;simp only [fA,cY,Vl,Wp] at hg;have q1:=fN e1 (bH hr);have q2:=fN e2 (iL _ q1);obtain ⟨a',rfl,ha'⟩:=ih _ _ _ _ _ e1 trivial (bH hr) hg.1.1.1.1.2;obtain ⟨b',rfl,hb'⟩:=ih _ _ _ _ _ e2 trivial (iL _ q1) hg.1.1.2;obtain ⟨c',rfl,hc'⟩:=ih _ _ _ _ _ e3 trivial (iL _ q2) hg.2;exact ⟨_,rfl,.ife (gn hr hc) ha' (lf q1 hg.1.1.1.2) hb' (lf q2 hg.1.2) hc'⟩
   split at h
   ·rename_i hc;obtain ⟨⟨a,r1⟩,e1,h⟩:=bind_some h;obtain ⟨⟨b,r3⟩,e2,h⟩:=bind_some h;obtain ⟨⟨cs,r4⟩,e3,h⟩:=bind_some h;cases h;rw [dY] at hg;have hg:=dD hg;simp only [fA,cY,Vl,Wp] at hg;have q1:=fN e1 (bH hr);have q2:=iL bX q1;have q2':pj Q (if dV gH (bk bX r1)=true then aQ (bk bX r1) else bk bX r1):=by
     split
     ·exact bH q2
     ·exact q2
    obtain ⟨a',rfl,ha'⟩:=ih _ _ _ _ _ e1 trivial (bH hr) hg.1.1.1.1.2;obtain ⟨b',rfl,hb'⟩:=ih _ _ _ _ _ e2 trivial q2' hg.1.2;have hcs:=ih _ _ _ _ _ e3 trivial (fN e2 q2') hg.2;have hbar:(if dV gH (bk bX r1)=true then [aR (bk bX r1)] else [])=[]∨ ∃b,Lf Q gH b∧(if dV gH (bk bX r1)=true then [aR (bk bX r1)] else [])=[b]:=by
     split
     ·rename_i hb;exact .inr ⟨_,gn q2 hb,rfl⟩
     ·exact .inl rfl
    have:=ET.mtch (gn hr hc) ha' (lf q1 hg.1.1.1.2) hbar hb' hcs;refine ⟨_,rfl, ?_⟩;simpa using this
   have:=ih _ _ _ _ _ h trivial hr hg;exact this
  | level k=>
   simp only [P] at h;split at h
   ·have:=ih _ _ _ _ _ h trivial hr hg;exact this
   ·obtain ⟨⟨a,r1⟩,e1,h⟩:=bind_some h;dsimp only at h;split at h
    ·have hga:=GC _ _ _ _ _ _ h hg;obtain ⟨t,e,ht⟩:=ih _ _ _ _ _ e1 trivial hr hga;cases e;exact ih _ _ _ _ _ h trivial (fN e1 hr) hg ht
    ·cases h
  | ops k acc=>
   intro hacc;simp only [P] at h;split at h
   ·rename_i hc;obtain ⟨⟨b,r1⟩,e1,h⟩:=bind_some h;have hga:=GC _ _ _ _ _ _ h hg;simp only [dQ,dY] at hga;have hga:=dD hga;simp only [cY,Vl] at hga;obtain ⟨s,_,hs⟩:=KM hr hc;obtain ⟨b',rfl,hb'⟩:=ih _ _ _ _ _ e1 trivial (bH hr) hga.2.2;exact ih _ _ _ _ _ h trivial (fN e1 (bH hr)) hg (.bin hacc hs hb')
   ·cases h;exact ⟨_,rfl,hacc⟩
  | neg=>
   simp only [P] at h;split at h
   ·rename_i hc;split at h
    ·cases h;rw [dY] at hg;have hg:=dD hg;simp only [cY,uJ,W9,WT] at hg;cases hg
    ·obtain ⟨⟨a,r1⟩,e1,h⟩:=bind_some h;cases h;rw [dY] at hg;have hg:=dD hg;simp only [cY,Vl] at hg;obtain ⟨s,hm,hs⟩:=KM hr hc;obtain ⟨a',rfl,ha'⟩:=ih _ _ _ _ _ e1 trivial (bH hr) hg.2;simp only [Vv,VJ,or_false] at hm;refine ⟨_,rfl,.un ?_ ha'⟩;rcases hm with rfl | rfl
     ·exact .inl hs
     ·exact .inr hs
   ·obtain ⟨⟨a,r1⟩,e1,h⟩:=bind_some h;dsimp only at h;split at h
    ·have hga:=GC _ _ _ _ _ _ h hg;obtain ⟨t,e,ht⟩:=ih _ _ _ _ _ e1 trivial hr hga;cases e;exact ih _ _ _ _ _ h trivial (fN e1 hr) hg ht
    ·cases h
  | args acc=>
   intro hacc;simp only [P] at h;split at h
   ·rename_i hc;obtain ⟨⟨b,r1⟩,e1,h⟩:=bind_some h;have hga:=GC _ _ _ _ _ _ h hg;simp only [dQ,dY] at hga;have hga:=dD hga;simp only [cY,Vl] at hga;obtain ⟨b',rfl,hb'⟩:=ih _ _ _ _ _ e1 trivial hr hga.2;exact ih _ _ _ _ _ h trivial (fN e1 hr) hg (.app hacc hb')
   ·cases h;exact ⟨_,rfl,hacc⟩
  | atom pat=>
   simp only [P] at h;split at h
   ·rename_i hc;have h0:=AM hc;split at h
    ·cases h;rw [dY] at hg;cases hg
    ·rename_i h9;split at h
     ·rename_i ho;cases pat with
      | false=>have:=ih _ _ _ _ _ h ho hr hg;exact this
      | true=>have:=ih _ _ _ _ _ h ho hr hg;exact this
     ·rename_i ho;split at h
      ·rename_i hol;cases pat with
       | false=>have:=ih _ _ _ _ _ h hol hr hg;exact this
       | true=>have:=ih _ _ _ _ _ h hol hr hg;exact this
      ·rename_i hol;cases h;have hm:=hr _ (BA h0);have hk:(nx r).1=4∨(nx r).1=5∨(nx r).1=7∨(nx r).1=(if pat then 5 else 6)∨isAny [qe,lI,nf,oE,if pat then EU else nf] r=true:=by
        unfold dp at hc;simp only [V2,V4] at hc;rcases hc with ((((h | h) | h) | h) | h) | h
        ·exact .inl h
        ·exact .inr (.inl h)
        ·exact .inr (.inr (.inl h))
        ·exact absurd h h9
        ·exact .inr (.inr (.inr (.inl h)))
        ·exact .inr (.inr (.inr (.inr h)))
       have hw:isAny [qe,lI,nf,oE,if pat then EU else nf] r=true→((nx r).1=3∨(nx r).1=8)∧((nx r).2=qe∨(nx r).2=lI∨pat=true∧(nx r).2=EU):=by
        intro h;unfold isAny at h;unfold dV at ho hol;simp only [Vl,V2,V4,WH,List.any_nil,Xo] at h ho hol;obtain ⟨h1,h⟩:=h;refine ⟨h1, ?_⟩;rcases h with h | h | h | h | h
        ·exact .inl h.symm
        ·exact .inr (.inl h.symm)
        ·exact absurd ⟨h1,h.symm⟩ ho
        ·exact absurd ⟨h1,h.symm⟩ hol
        ·cases pat with
         | true=>exact .inr (.inr ⟨rfl,h.symm⟩)
         | false=>exact absurd ⟨h1,h.symm⟩ ho
       cases pat with
       | false=>
        refine ⟨_,rfl,.leaf hm ?_ (qo hr)⟩;rcases hk with h | h | h | h | h
        ·exact .inl h
        ·exact .inr (.inl h)
        ·exact .inr (.inr (.inr (.inl h)))
        ·exact .inr (.inr (.inl h))
        ·obtain ⟨a,b⟩:=hw h;refine .inr (.inr (.inr (.inr ⟨a, ?_⟩)));rcases b with b | b | ⟨b,_⟩
         ·exact .inl b
         ·exact .inr b
         ·cases b
       | true=>
        refine ⟨_,rfl,.leaf hm ?_ (qo hr)⟩;rcases hk with h | h | h | h | h
        ·exact .inl h
        ·exact .inr (.inl h)
        ·exact .inr (.inr (.inl h))
        ·exact .inr (.inl h)
        ·obtain ⟨a,b⟩:=hw h;refine .inr (.inr (.inr ⟨a, ?_⟩));rcases b with b | b | ⟨_,b⟩
         ·exact .inl b
         ·exact .inr (.inl b)
         ·exact .inr (.inr b)
   ·cases h;rw [dY,sM] at hg;cases hg
  | closed list pat=>
   have ho:dV (u9 list) r=true:=ha;simp only [P] at h;have hlo:=gn hr ho;split at h
   ·rename_i hc;cases h;cases pat with
    | false=>exact ⟨_,rfl,.none hlo (gn (bH hr) hc)⟩
    | true=>exact ⟨_,rfl,.none hlo (gn (bH hr) hc)⟩
   ·obtain ⟨⟨a,r2⟩,e1,h⟩:=bind_some h;obtain ⟨⟨bs,r3⟩,e2,h⟩:=bind_some h;cases h;rw [dY] at hg;have hg2:=dD hg;simp only [Vz,fA,cY,Vl,Wp] at hg2;have q2:=fN e1 (bH hr);have q3:=fN e2 q2;cases pat with
    | false=>
     obtain ⟨a',rfl,ha'⟩:=ih .expr _ _ _ _ e1 trivial (bH hr) hg2.2.1.1;exact ⟨_,rfl,.some hlo ha' (ih (.items list false) _ _ _ _ e2 trivial q2 hg2.2.1.2) (lf q3 hg2.2.2)⟩
    | true=>
     obtain ⟨a',rfl,ha'⟩:=ih .pattern _ _ _ _ e1 trivial (bH hr) hg2.2.1.1;exact ⟨_,rfl,.some hlo ha' (ih (.items list true) _ _ _ _ e2 trivial q2 hg2.2.1.2) (lf q3 hg2.2.2)⟩
  | items list pat=>
   simp only [P] at h;split at h
   ·rename_i hc;obtain ⟨⟨a,r1⟩,e1,h⟩:=bind_some h;obtain ⟨⟨bs,r2⟩,e2,h⟩:=bind_some h;cases h;simp only [Vz,fA,cY,Vl,Wp] at hg;have q1:=fN e1 (bH hr);cases pat with
    | false=>
     obtain ⟨a',rfl,ha'⟩:=ih .expr _ _ _ _ e1 trivial (bH hr) hg.2.1;exact .cons (gn hr hc) ha' (ih (.items list false) _ _ _ _ e2 trivial q1 hg.2.2)
    | true=>
     obtain ⟨a',rfl,ha'⟩:=ih .pattern _ _ _ _ e1 trivial (bH hr) hg.2.1;exact .cons (gn hr hc) ha' (ih (.items list true) _ _ _ _ e2 trivial q1 hg.2.2)
   ·cases h;cases pat with
    | false=>exact .nil
    | true=>exact .nil
  | pattern=>
   simp only [P] at h;split at h
   ·cases h;rw [dY,uJ] at hg;cases hg
   ·obtain ⟨⟨a,r1⟩,e1,h⟩:=bind_some h;dsimp only at h;split at h
    ·rename_i hc;obtain ⟨⟨b,r2⟩,e2,h⟩:=bind_some h;cases h;rw [dY] at hg;have hg:=dD hg;simp only [fA,cY,Vl] at hg;have q1:=fN e1 hr;obtain ⟨a',rfl,ha'⟩:=ih _ _ _ _ _ e1 trivial hr hg.1;obtain ⟨b',rfl,hb'⟩:=ih _ _ _ _ _ e2 trivial (bH q1) hg.2.2;exact ⟨_,rfl,.cons ha' (gn q1 hc) hb'⟩
    ·cases h;have:=ih _ _ _ _ _ e1 trivial hr hg;exact this
  | binding=>
   simp only [P] at h;have hrc:(if dV fM r=true then [aR r] else [])=[]∨ ∃b,Lf Q fM b∧(if dV fM r=true then [aR r] else [])=[b]:=by
    split
    ·rename_i hb;exact .inr ⟨_,gn hr hb,rfl⟩
    ·exact .inl rfl
   have q0:pj Q (if dV fM r=true then aQ r else r):=by
    split
    ·exact bH hr
    ·exact hr
   generalize (if dV fM r=true then [aR r] else [])=rc at h hrc;generalize (if dV fM r=true then aQ r else r)=r0 at h q0;have fin: ∀{p:T} {ps:List T} {r1:List bc} {es:List T} {r2:List bc},P n .expr d (bk zo r1)=some (es,r2)→pj Q r1→cY (rc++(p::ps)++[da zo r1]++es)=true→(dW p=true→PT Q p)→(cY ps=true→ ∀x∈ps,PT Q x)→BT Q (rc++(p::ps)++[da zo r1]++es):=by
    intro p ps r1 es r2 e1 q1 hg hp hps;simp only [fA,cY,Vl,Wp] at hg;obtain ⟨e,rfl,he⟩:=ih _ _ _ _ _ e1 trivial (iL _ q1) hg.2;exact .mk hrc (hp hg.1.1.2.1) (hps hg.1.1.2.2) (lf q1 hg.1.2) he
   split at h
   ·rename_i h4;obtain ⟨⟨xs,r1⟩,e1,h⟩:=bind_some h;obtain ⟨⟨ps,r1'⟩,e0,e1⟩:=bind_some e1;cases e1;obtain ⟨⟨es,r2⟩,e2,h⟩:=bind_some h;cases h;refine fin e2 (fN e0 (bH q0)) hg (fun _=> ?_) (fun hg=>ih _ _ _ _ _ e0 trivial (bH q0) hg);exact .leaf (q0 _ (BA (by rw [h4];decide))) (.inl h4) (qo q0)
   ·obtain ⟨⟨xs,r1⟩,e1,h⟩:=bind_some h;obtain ⟨⟨es,r2⟩,e2,h⟩:=bind_some h;cases h;obtain ⟨x,rfl⟩:=fY _ _ _ _ _ _ e1 rfl;refine fin e2 (fN e1 q0) hg (fun hgx=> ?_) (fun _ x hx=>by cases hx);obtain ⟨x',e,hx'⟩:=ih _ _ _ _ _ e1 trivial q0 (by rw [dY];exact hgx);cases e;exact hx'
  | params=>
   simp only [P] at h;split at h
   ·obtain ⟨⟨a,r1⟩,e1,h⟩:=bind_some h;obtain ⟨⟨bs,r2⟩,e2,h⟩:=bind_some h;cases h;simp only [fA,Vl] at hg;obtain ⟨a',rfl,ha'⟩:=ih _ _ _ _ _ e1 trivial hr hg.1;have:=ih _ _ _ _ _ e2 trivial (fN e1 hr) hg.2;intro x hx;rcases VE.1 hx with hx | hx
    ·rw [VR.1 hx];exact ha'
    ·exact this x hx
   ·cases h;intro x hx;cases hx
  | arm=>
   simp only [P] at h;obtain ⟨⟨a,r1⟩,e1,h⟩:=bind_some h;obtain ⟨⟨es,r2⟩,e2,h⟩:=bind_some h;cases h;rw [dY] at hg;have hg:=dD hg;simp only [fA,cY,Vl,Wp] at hg;have q1:=fN e1 hr;obtain ⟨a',rfl,ha'⟩:=ih _ _ _ _ _ e1 trivial hr hg.1.1;obtain ⟨e,rfl,he⟩:=ih _ _ _ _ _ e2 trivial (iL _ q1) hg.2;exact ⟨_,rfl,.mk ha' (lf q1 hg.1.2) he⟩
  | arms=>
   simp only [P] at h;split at h
   ·rename_i hc;obtain ⟨⟨a,r1⟩,e1,h⟩:=bind_some h;obtain ⟨⟨bs,r2⟩,e2,h⟩:=bind_some h;cases h;simp only [Vz,fA,cY,Vl] at hg;obtain ⟨a',rfl,ha'⟩:=ih _ _ _ _ _ e1 trivial (bH hr) hg.2.1;exact .cons (gn hr hc) ha' (ih _ _ _ _ _ e2 trivial (fN e1 (bH hr)) hg.2.2)
   ·cases h;exact .nil
theorem me: ∀(N:Nat) (r:List bc) (l:List T),decls N r=some l→Mc r→pj Q r→cY l=true→DT Q l
 | 0,_,_,h,_,_,_=>by cases h
 | n+1,r,l,h,hz,hr,hg=>by
  simp only [decls] at h;split at h
  ·rename_i h0;cases h;have:aR r= .mk 1 0 [] ((r.takeWhile bl).map aT):=by
    unfold aR leaf;have hx:nx r=(0,[]):=by
     unfold nx at h0 ⊢;split
     ·rfl
     ·rename_i t l e;rw [e] at h0;exact absurd h0 (hz t ((WL bl).subset (by rw [e];exact Vp)))
    rw [hx]
   rw [this];exact .last (qo hr)
  split at h
  ·rename_i hc;obtain ⟨⟨bs,r1⟩,e1,h⟩:=bind_some h;obtain ⟨k,e2,h⟩:=bind_some h;cases h;simp only [cY,Vl] at hg;have hgn:=dD hg.1;simp only [cY,Vl] at hgn;exact .cons (gn hr hc) (NN _ _ _ _ _ _ e1 trivial (bH hr) hgn.2) (me n r1 k e2 (Dh kh _ _ _ _ _ _ e1 (kh _ hz)) (fN e1 (bH hr)) hg.2)
  ·obtain ⟨k,e2,h⟩:=bind_some h;cases h;simp only [cY,Vl] at hg;cases hg.1
end
structure Vf (f:List bc→List bc):Prop where
 nx: ∀r,(nx r).1≠0→Parse.nx (f r)=Parse.nx r
 tk: ∀r,(Parse.nx r).1≠0→aR (f r)=aR r
 tr: ∀r,(Parse.nx r).1≠0→aQ (f r)=f (aQ r)
 nd: ∀r,(Parse.nx r).1=0→Parse.nx (f r)=(8,KV)
section
variable {f:List bc→List bc} (hf:Vf f)
include hf
end
structure TK (φ:bc→bc):Prop where
 kind: ∀t,(φ t).1=t.1
 same: ∀t,bl t=false→φ t=t
section
variable {φ:bc→bc} (hφ:TK φ)
include hφ
end
structure vS {α:Type} (F1:T→List α) (F:List T→List α) (G:List bc→List α):Prop where
 nil:F []=[]
 cons: ∀t l,F (t::l)=F1 t++F l
 node: ∀{k},k≠1→ ∀l,F1 (node k l)=F l
 miss: ∀s,F1 (missing s)=[]
 take: ∀r,F1 (aR r)++G (aQ r)=G r
section
variable {α:Type} {F1:T→List α} {F:List T→List α} {G:List bc→List α} (hm:vS F1 F G)
include hm
theorem vS.one (t:T):F [t]=F1 t:=by rw [hm.cons,hm.nil,VH]
theorem vS.app: ∀(l m:List T),F (l++m)=F l++F m
 | [],m=>by rw [Vs,hm.nil,Vs]
 | t::l,m=>by rw [Vz,hm.cons,hm.cons,vS.app l m,Vx]
theorem vS.xk (s:List UInt8) (r:List bc):F1 (da s r)++G (bk s r)=G r:=by
 unfold da bk;split
 ·exact hm.take r
 ·rw [hm.miss];rfl
theorem vS.deep (s:List UInt8) (r:List bc):F1 (kZ s r)++G (kW r)=G r:=by
 unfold kZ kW;split
 ·rw [hm.miss];rfl
 ·rw [hm.node (by decide),hm.one];exact hm.take r
end
theorem SF {α:Type} {F1:T→List α} {F:List T→List α} {G:List bc→List α} (hm:vS F1 F G): ∀(N:Nat) (job:lC) (d:Nat) (r:List bc) (l:List T) (r':List bc),P N job d r=some (l,r')→F l++G r'=F (dQ job)++G r:=by
 intro N
 induction N with
 | zero=>intro job d r l r' h;cases h
 | succ n ih=>
  intro job d r l r' h;have tk:=hm.take r;cases job with
  | expr=>
   simp only [P] at h;split at h
   ·cases h;rw [hm.one,hm.deep];simp [dQ,hm.nil]
   ·have k:=ih _ _ _ _ _ h;exact k
  | whole=>
   simp only [P] at h;split at h
   ·obtain ⟨⟨bs,r2⟩,e1,h⟩:=bind_some h;obtain ⟨⟨es,r3⟩,e2,h⟩:=bind_some h;cases h;have k1:=ih _ _ _ _ _ e1;have k2:=ih _ _ _ _ _ e2;simp only [dQ,hm.nil,hm.one,Vs] at k1 k2 ⊢
    (try rw [hm.one]);rw [hm.node (by decide)]
    simp only [hm.app,hm.cons,hm.nil,Vs,VH,Vx,Vz,k2,hm.xk,k1,tk]
   split at h
   ·obtain ⟨⟨a,r1⟩,e1,h⟩:=bind_some h;obtain ⟨⟨ps,r2⟩,e2,h⟩:=bind_some h;obtain ⟨⟨es,r3⟩,e3,h⟩:=bind_some h;cases h;have k1:=ih _ _ _ _ _ e1;have k2:=ih _ _ _ _ _ e2;have k3:=ih _ _ _ _ _ e3;simp only [dQ,hm.nil,hm.one,Vs] at k1 k2 k3 ⊢
    (try rw [hm.one]);rw [hm.node (by decide)]
    simp only [hm.app,hm.cons,hm.nil,Vs,VH,Vx,Vz,k3,hm.xk,k2,k1,tk]
   split at h
   ·obtain ⟨⟨a,r1⟩,e1,h⟩:=bind_some h;obtain ⟨⟨b,r2⟩,e2,h⟩:=bind_some h;obtain ⟨⟨c,r3⟩,e3,h⟩:=bind_some h;cases h;have k1:=ih _ _ _ _ _ e1;have k2:=ih _ _ _ _ _ e2;have k3:=ih _ _ _ _ _ e3;simp only [dQ,hm.nil,hm.one,Vs] at k1 k2 k3 ⊢
    (try rw [hm.one]);rw [hm.node (by decide)]
    simp only [hm.app,hm.cons,hm.nil,Vs,VH,Vx,Vz,k3,hm.xk,k2,k1,tk]
   split at h
   ·obtain ⟨⟨a,r1⟩,e1,h⟩:=bind_some h;obtain ⟨⟨b,r3⟩,e2,h⟩:=bind_some h;obtain ⟨⟨cs,r4⟩,e3,h⟩:=bind_some h;cases h;have k1:=ih _ _ _ _ _ e1;have k2:=ih _ _ _ _ _ e2;have k3:=ih _ _ _ _ _ e3;simp only [dQ,hm.nil,hm.one,Vs] at k1 k2 k3 ⊢;have kb:F (if dV gH (bk bX r1) then [aR (bk bX r1)] else [])++G (if dV gH (bk bX r1) then aQ (bk bX r1) else bk bX r1)=G (bk bX r1):=by
     split
     ·rw [hm.one];exact hm.take _
     ·rw [hm.nil];rfl
    (try rw [hm.one]);rw [hm.node (by decide)]
    simp only [hm.app,hm.cons,hm.nil,Vs,VH,Vx,Vz,k3,k2,kb,hm.xk,k1,tk]
   ·have k:=ih _ _ _ _ _ h;exact k
  | level k=>
   simp only [P] at h;split at h
   ·have k:=ih _ _ _ _ _ h;exact k
   ·obtain ⟨⟨a,r1⟩,e1,h⟩:=bind_some h;dsimp only at h;split at h
    ·have k1:=ih _ _ _ _ _ e1;have k2:=ih _ _ _ _ _ h;simp only [dQ,hm.nil,hm.one,Vs,hm.one] at k1 k2 ⊢;rw [k2,k1]
    ·cases h
  | ops k acc=>
   simp only [P] at h;split at h
   ·obtain ⟨⟨b,r1⟩,e1,h⟩:=bind_some h;have k1:=ih _ _ _ _ _ e1;have k2:=ih _ _ _ _ _ h;simp only [dQ,hm.nil,hm.one,Vs] at k1 k2 ⊢;rw [k2,hm.node (by decide)];simp only [hm.cons,hm.nil,Vs,Vx,k1,tk]
   ·cases h;simp [dQ]
  | neg=>
   simp only [P] at h;split at h
   ·split at h
    ·cases h
     (try rw [hm.one]);rw [hm.node (by decide)]
     simp only [hm.cons,hm.nil,Vs,VH,Vx,dQ,hm.nil,Vs,hm.deep,tk]
    ·obtain ⟨⟨a,r1⟩,e1,h⟩:=bind_some h;cases h;have k1:=ih _ _ _ _ _ e1;simp only [dQ,hm.nil,hm.one,Vs] at k1 ⊢
     (try rw [hm.one]);rw [hm.node (by decide)]
     simp only [hm.cons,hm.nil,Vs,Vx,k1,tk]
   ·obtain ⟨⟨a,r1⟩,e1,h⟩:=bind_some h;dsimp only at h;split at h
    ·have k1:=ih _ _ _ _ _ e1;have k2:=ih _ _ _ _ _ h;simp only [dQ,hm.nil,hm.one,Vs,hm.one] at k1 k2 ⊢;rw [k2,k1]
    ·cases h
  | args acc=>
   simp only [P] at h;split at h
   ·obtain ⟨⟨b,r1⟩,e1,h⟩:=bind_some h;have k1:=ih _ _ _ _ _ e1;have k2:=ih _ _ _ _ _ h;simp only [dQ,hm.nil,hm.one,Vs] at k1 k2 ⊢;rw [k2,hm.node (by decide)];simp only [hm.cons,hm.nil,Vs,Vx,k1]
   ·cases h;simp [dQ]
  | atom pat=>
   simp only [P] at h;split at h
   ·split at h
    ·cases h
     (try rw [hm.one]);rw [hm.node (by decide),hm.one]
     simp only [dQ,hm.nil,Vs];exact tk
    split at h
    ·have k:=ih _ _ _ _ _ h;exact k
    split at h
    ·have k:=ih _ _ _ _ _ h;exact k
    ·cases h;rw [hm.one];simp only [dQ,hm.nil,Vs];exact tk
   ·cases h;rw [hm.one,hm.miss];simp [dQ,hm.nil]
  | closed list pat=>
   simp only [P] at h;split at h
   ·cases h;have tk2:=hm.take (aQ r)
    (try rw [hm.one]);rw [hm.node (qU _ _)]
    simp only [hm.cons,hm.nil,Vs,VH,Vx,dQ,hm.nil,Vs,tk2,tk]
   ·obtain ⟨⟨a,r2⟩,e1,h⟩:=bind_some h;obtain ⟨⟨bs,r3⟩,e2,h⟩:=bind_some h;cases h;have k1:=ih _ _ _ _ _ e1;have k2:=ih _ _ _ _ _ e2;have hd:dQ (if pat then lC.pattern else lC.expr)=[]:=by cases pat <;> rfl
    rw [hd] at k1;simp only [dQ,hm.nil,hm.one,Vs] at k1 k2 ⊢
    (try rw [hm.one]);rw [hm.node (qU _ _)]
    simp only [hm.app,hm.cons,hm.nil,Vs,VH,Vx,Vz,hm.xk,k2,k1,tk]
  | items list pat=>
   simp only [P] at h;split at h
   ·obtain ⟨⟨a,r2⟩,e1,h⟩:=bind_some h;obtain ⟨⟨bs,r3⟩,e2,h⟩:=bind_some h;cases h;have k1:=ih _ _ _ _ _ e1;have k2:=ih _ _ _ _ _ e2;have hd:dQ (if pat then lC.pattern else lC.expr)=[]:=by cases pat <;> rfl
    rw [hd] at k1;simp only [dQ,hm.nil,hm.one,Vs] at k1 k2 ⊢;simp only [hm.app,hm.cons,hm.nil,Vs,Vx,Vz,k2,k1,tk]
   ·cases h;simp [dQ,hm.nil]
  | pattern=>
   simp only [P] at h;split at h
   ·cases h;rw [hm.one,hm.deep];simp [dQ,hm.nil]
   ·obtain ⟨⟨a,r1⟩,e1,h⟩:=bind_some h;have k1:=ih _ _ _ _ _ e1;dsimp only at h;split at h
    ·obtain ⟨⟨b,r2⟩,e2,h⟩:=bind_some h;cases h;have k2:=ih _ _ _ _ _ e2;simp only [dQ,hm.nil,hm.one,Vs] at k1 k2 ⊢
     (try rw [hm.one]);rw [hm.node (by decide)]
     simp only [hm.app,hm.cons,hm.nil,Vs,Vx,k2,hm.take,k1]
    ·cases h;exact k1
  | binding=>
   simp only [P] at h;have k0:F (if dV fM r then [aR r] else [])++G (if dV fM r then aQ r else r)=G r:=by
    split
    ·rw [hm.one];exact tk
    ·rw [hm.nil];rfl
   generalize (if dV fM r then [aR r] else [])=rc at h k0;generalize (if dV fM r then aQ r else r)=r0 at h k0;split at h
   ·obtain ⟨⟨xs,r1⟩,e1,h⟩:=bind_some h;obtain ⟨⟨ps,r3⟩,e3,e1⟩:=bind_some e1;cases e1;obtain ⟨⟨es,r2⟩,e2,h⟩:=bind_some h;cases h;have k3:=ih _ _ _ _ _ e3;have k2:=ih _ _ _ _ _ e2;simp only [dQ,hm.nil,hm.one,Vs] at k2 k3 ⊢;simp only [hm.app,hm.cons,hm.nil,Vs,hm.one,Vx,Vz,k2,hm.xk,k3,hm.take,k0]
   ·obtain ⟨⟨xs,r1⟩,e1,h⟩:=bind_some h;obtain ⟨⟨es,r2⟩,e2,h⟩:=bind_some h;cases h;have k1:=ih _ _ _ _ _ e1;have k2:=ih _ _ _ _ _ e2;simp only [dQ,hm.nil,hm.one,Vs] at k1 k2 ⊢;simp only [hm.app,hm.one,Vx,k2,hm.xk,k1,k0]
  | params=>
   simp only [P] at h;split at h
   ·obtain ⟨⟨a,r1⟩,e1,h⟩:=bind_some h;obtain ⟨⟨bs,r2⟩,e2,h⟩:=bind_some h;cases h;have k1:=ih _ _ _ _ _ e1;have k2:=ih _ _ _ _ _ e2;simp only [dQ,hm.nil,hm.one,Vs] at k1 k2 ⊢;simp only [hm.app,Vx,k2,k1]
   ·cases h;simp [dQ,hm.nil]
  | arm=>
   simp only [P] at h;obtain ⟨⟨a,r1⟩,e1,h⟩:=bind_some h;obtain ⟨⟨es,r2⟩,e2,h⟩:=bind_some h;cases h;have k1:=ih _ _ _ _ _ e1;have k2:=ih _ _ _ _ _ e2;simp only [dQ,hm.nil,hm.one,Vs] at k1 k2 ⊢
   (try rw [hm.one]);rw [hm.node (by decide)]
   simp only [hm.app,hm.one,Vx,k2,hm.xk,k1]
  | arms=>
   simp only [P] at h;split at h
   ·obtain ⟨⟨a,r1⟩,e1,h⟩:=bind_some h;obtain ⟨⟨bs,r2⟩,e2,h⟩:=bind_some h;cases h;have k1:=ih _ _ _ _ _ e1;have k2:=ih _ _ _ _ _ e2;simp only [dQ,hm.nil,hm.one,Vs] at k1 k2 ⊢;simp only [hm.app,hm.cons,hm.nil,Vs,Vx,Vz,k2,k1,tk]
   ·cases h;simp [dQ,hm.nil]
theorem sN (s:List UInt8):dT (tokens s)=s:=by
 have:=qj s.length s (Vn _);simpa [dT,List.flatMap] using this
theorem gR {c:UInt8} {l:List UInt8}:tokens (c::l)=((cut (c::l)).1,(c::l).take (cut (c::l)).2)::tokens ((c::l).drop (cut (c::l)).2):=by
 have hc:=mQ (s:=c::l) (by simp);show eV (c::l).length (c::l)= _;simp only [Vh,eV];congr 1;refine ur _ _ _ ?_ (Vn _);rw [VF];simp only [Vh] at hc ⊢;omega
theorem M9 {p:UInt8→Bool} {c:UInt8} {l:List UInt8} (h:p c=false):wh p (c::l)=0:=by simp [wh,h]
theorem D8 {α:Type} {F1:T→List α} {F:List T→List α} {G:List bc→List α} (hm:vS F1 F G): ∀(n:Nat) (r:List bc),F (skip n r).1++G (skip n r).2=G r
 | 0,r=>by simp [skip,hm.nil]
 | n+1,r=>by
  simp only [skip];split
  ·simp only [hm.cons,Vx,D8 hm n (aQ r),hm.take]
  ·simp [hm.nil]
theorem uC {α:Type} {F1:T→List α} {F:List T→List α} {G:List bc→List α} (hm:vS F1 F G) (h0:G []=[]): ∀(n:Nat) (r:List bc) (l:List T),decls n r=some l→Mc r→F l=G r
 | 0,_,_,h,_=>by cases h
 | n+1,r,l,h,hz=>by
  simp only [decls] at h;split at h
  ·rename_i hn;cases h;have:=hm.take r;rw [HC hz hn,h0,VH] at this;rw [hm.one,this]
  split at h
  ·obtain ⟨⟨bs,r1⟩,e1,h⟩:=bind_some h;obtain ⟨m,e2,h⟩:=bind_some h;cases h;have k1:=SF hm _ _ _ _ _ _ e1;have k2:=uC hm h0 n r1 m e2 (Dh kh _ _ _ _ _ _ e1 (kh _ hz));simp only [dQ,hm.nil,Vs] at k1;rw [hm.cons,hm.node (by decide),hm.cons,Vx,k2,k1,hm.take]
  ·obtain ⟨m,e2,h⟩:=bind_some h;cases h;have k2:=uC hm h0 n _ m e2 (yw kh _ _ hz);rw [hm.cons,hm.node (by decide),k2,D8 hm]
theorem Hq {α:Type} {F1:T→List α} {F:List T→List α} {G:List bc→List α} (hm:vS F1 F G) (h0:G []=[]) (r:List bc) (h:Mc r):F1 (doc r)=G r:=by
 obtain ⟨l,e1,e2⟩:=mE r;rw [e2,hm.node (by decide),uC hm h0 _ _ _ e1 h]
theorem I1 (w:List UInt8):rn w≠0:=by
 unfold rn;split
 ·decide
 split <;> decide
theorem Nj {s:List UInt8} (h:s≠[]):(cut s).1≠0:=by
 cases s with
 | nil=>exact absurd rfl h
 | cons c l=>
  unfold cut;dsimp only;split
  ·exact fun e=>by cases e
  split
  ·cases rem (List.drop 2 (c::l)) 1 <;> exact fun e=>by cases e
  split
  ·exact I1 _
  split
  ·have hnum:(number (c::l)).1≠0:=by
    unfold number;dsimp only;split
    ·split <;> exact fun e=>by cases e
    ·exact fun e=>by cases e
   exact hnum
  split
  ·have:=ig l;show (cI l).1≠0;omega
  split
  ·exact fun e=>by cases e
  split <;> exact fun e=>by cases e
theorem CV: ∀(n:Nat) (s:List UInt8),∀p∈eV n s,p.1≠0
 | 0,_,p,h=>by simp [eV] at h
 | n+1,[],p,h=>by simp [eV] at h
 | n+1,c::l,p,h=>by
  simp only [eV,Vv] at h;rcases h with rfl | h
  ·exact Nj (by simp)
  ·exact CV n _ p h
theorem gS (s:List UInt8):Mc (tokens s):=CV _ s
theorem Ab {α:Type} {F1:T→List α} {F:List T→List α} {g:bc→List α} (hn:F []=[]) (hc: ∀t l,F (t::l)=F1 t++F l) (h0: ∀t,bl t=true→F1 (aT t)=g t) (h1: ∀t ks,bl t=false→F1 (leaf t ks)=F ks++g t) (hz: ∀ks,F1 (leaf (0,[]) ks)=F ks) (r:List bc):
  F1 (aR r)++(aQ r).flatMap g=r.flatMap g:=by
 have hl: ∀l:List bc,(∀t∈l,bl t=true)→F (l.map aT)=l.flatMap g:=by
  intro l
  induction l with
  | nil=>intro _;exact hn
  | cons t l ih=>
   intro h;rw [Vu,hc,h0 t (h t Vp),ih fun u hu=>h u (Vy _ hu)];simp
 have hf:=hl (r.takeWhile bl) fun t ht=>JH ht;have e:r.flatMap g=(r.takeWhile bl).flatMap g++(r.dropWhile bl).flatMap g:=by
  rw [← List.flatMap_append,WN]
 unfold aR aQ;cases hd:r.dropWhile bl with
 | nil=>
  have hx:nx r=(0,[]):=by unfold nx;rw [hd]
  rw [hx,hz,hf,e,hd];rfl
 | cons t l=>
  have hx:nx r=t:=by unfold nx;rw [hd]
  have ht:bl t=false:=by
   have:=List.head_dropWhile_not bl (l:=r) (by rw [hd];simp);simpa only [hd,List.head_cons] using this
  rw [hx,h1 t _ ht,hf,e,hd];simp
mutual
def Lx:T→List Unit
 | .mk k tk _ l=>IJ l++(if k=1∧tk=9 then [()] else [])
def IJ:List T→List Unit
 | []=>[]
 | t::l=>Lx t++IJ l
end
theorem LW:vS Lx IJ (fun r=>r.flatMap fun t=>if t.1=9 then [()] else []) where
 nil:=by simp [IJ]
 cons t l:=by simp [IJ]
 node:=fun {k} hk l=>by
  simp only [node,Lx];rw [if_neg (fun h=>hk h.1),VH]
 miss s:=by simp [missing,Lx,IJ]
 take r:=by
  refine Ab (F1:=Lx) (F:=IJ) (g:=fun t=>if t.1=9 then [()] else []) (by simp only [IJ]) (fun t l=>by simp only [IJ]) (fun t ht=> ?_) (fun t ks ht=> ?_) (fun ks=> ?_) r
  ·simp only [aT,leaf,Lx,IJ,Vs,Xe]
  ·simp only [leaf,Lx,Xe]
  ·simp [leaf,Lx]
theorem KJ (s:List UInt8) (h:Lx (doc (tokens s))=[]): ∀t∈tokens s,t.1≠9:=by
 rw [Hq LW rfl (tokens s) (gS s)] at h;intro t ht e;have:=List.flatMap_eq_nil_iff.1 h t ht;rw [if_pos e] at this;cases this
theorem Bo: ∀(n:Nat) (t:T),SizeOf.sizeOf t < n→dW t=true→Lx t=[]
 | 0,_,h,_=>by omega
 | n+1,.mk k tk tx l,h,hg=>by
  simp only [dW,Vl,bne_iff_ne,ne_eq,V2] at hg;simp only [Lx];have hk:¬ (k=1∧tk=9):=by
   rintro ⟨h1,h9⟩;rcases hg.1.2 with h | h
   ·exact h h1
   ·exact h h9
  rw [if_neg hk,VH];have hl: ∀(m:List T),(∀u∈m,u∈l)→cY m=true→IJ m=[]:=by
   intro m
   induction m with
   | nil=>intro _ _;simp [IJ]
   | cons u m ih=>
    intro hm hg;simp only [cY,Vl] at hg;have hu:=Bo n u (by
     have:=List.sizeOf_lt_of_mem (hm u Vp);simp only [T.mk.sizeOf_spec] at h;omega) hg.1
    simp only [IJ];rw [hu,ih (fun v hv=>hm v (Vy _ hv)) hg.2];rfl
  exact hl l (fun u hu=>hu) hg.2
end Go.Parse
namespace Go.Parse
open Go.VM Go.Lex Go.Ast
theorem JI {c:UInt8} (h:bV c=true) (s:List UInt8):nb (tokens (c::s))=nb (tokens s):=by
 have h1:cut (c::s)=(1,wh bV (c::s)):=by simp only [cut,h,if_true]
 have h2:wh bV (c::s)=wh bV s+1:=by simp [wh,h]
 rw [gR,h1,gV,if_pos rfl,h2,VK];cases s with
 | nil=>rfl
 | cons d l=>
  cases hd:bV d with
  | false=>
   have:wh bV (d::l)=0:=M9 hd;rw [this];rfl
  | true=>
   have h3:cut (d::l)=(1,wh bV (d::l)):=by simp only [cut,hd,if_true]
   rw [gR (c:=d),h3,gV,if_pos rfl]
section
variable {b r2:List bc} {e:T}
end
theorem C3 (l:List UInt8): ∃r,tokens (42::l)=(8,[42])::r∨tokens (42::l)=(8,[42,46])::r:=by
 cases l with
 | nil=>exact ⟨[],.inl rfl⟩
 | cons d l=>
  have e:(42::d::l).take 2=[42,d]:=rfl;by_cases h:d=46
  ·subst h;have hc:cut (42::46::l)=(8,2):=by
    simp only [cut,show bV 42=false from rfl,VP,if_false,e,if_neg (show ¬ ([42,46]:List UInt8)=[40,42] by decide),show iY 42=false from rfl,show aO 42=false from rfl,if_neg (show ¬ (42:UInt8)=34 by decide),show gw.contains [42,46]=true from rfl,if_true]
   refine ⟨tokens l,.inr ?_⟩;rw [gR,hc];rfl
  ·have hc:cut (42::d::l)=(8,1):=by
    have h1:¬ ([42,d]:List UInt8)=[40,42]:=by simp
    have h2:gw.contains [42,d]=false:=by
     simp [gw,h]
    simp only [cut,show bV 42=false from rfl,VP,if_false,e,if_neg h1,show iY 42=false from rfl,show aO 42=false from rfl,if_neg (show ¬ (42:UInt8)=34 by decide),h2,show iQ 42=true from rfl,if_true]
   refine ⟨tokens (d::l),.inl ?_⟩;rw [gR,hc];rfl
end Go.Parse
namespace Go.Parse
open Go.VM Go.Lex
inductive It where
 | tok (t:bc)
 | sep
inductive Jn:List It→List UInt8→Prop where
 | nil:Jn [] []
 | tok {t:bc} {l:List It} {s:List UInt8}:Jn l s→Jn (.tok t::l) (t.2++s)
 | sep {b:List UInt8} {l:List It} {s:List UInt8}:b≠[]→(∀c∈b,bV c=true)→Jn l s→Jn (.sep::l) (b++s)
def cr:List It→List bc
 | []=>[]
 | .tok t::l=>t::cr l
 | .sep::l=>cr l
structure wc (t:bc):Prop where
 ne:t.2≠[]
 cut:cut t.2=(t.1,t.2.length)
 k1:t.1≠1
 k9:t.1≠9
 valid:bO t.2=true
def By (t:bc):List It→Prop
 | []=>True
 | .sep:: _=>True
 | .tok u:: _=>(∃c r,u.2=c::r∧ff c=true)∨((t=(8,[40])∨t=(8,[91]))∧ ∃c r,u.2=c::r∧c≠42)
inductive fI:List It→Prop where
 | nil:fI []
 | sep {l:List It}:fI l→fI (.sep::l)
 | tok {t:bc} {l:List It}:wc t→By t l→fI l→fI (.tok t::l)
theorem CX {c:UInt8} (h:bV c=true):ff c=true:=by
 rcases nY h with rfl | rfl | rfl | rfl <;> rfl
theorem Ot: ∀{l:List It} {s:List UInt8},Jn l s→ ∀{t:bc},By t l→(∀u,.tok u∈l→u.2≠[])→pJ s∨((t=(8,[40])∨t=(8,[91]))∧ ∃c r,s=c::r∧c≠42)
 | _,_,.nil,_,_,_=> .inl (.inl rfl)
 | _,_,.sep (b:=b) hb hall _,_,_,_=>by
  left;cases b with
  | nil=>exact absurd rfl hb
  | cons c r=>exact .inr ⟨c,r++ _,rfl,CX (hall c (by simp))⟩
 | _,_,.tok (t:=u) (s:=s) _,t,h,_=>by
  rcases h with ⟨c,r,e,hc⟩ | ⟨ht,c,r,e,hc⟩
  ·exact .inl (.inr ⟨c,r++s,by rw [e];rfl,hc⟩)
  ·exact .inr ⟨ht,c,r++s,by rw [e];rfl,hc⟩
theorem D7 {c d:UInt8} {r:List UInt8} (hc:c=40∨c=91) (hd:d≠42):cut (c::d::r)=(8,1):=by
 have e:(c::d::r).take 2=[c,d]:=rfl;rcases hc with rfl | rfl
 ·have h1:¬ ([40,d]:List UInt8)=[40,42]:=by simpa using hd
  have h2:gw.contains [40,d]=false:=by simp [gw]
  simp only [cut,show bV 40=false from rfl,VP,if_false,e,if_neg h1,show iY 40=false from rfl,show aO 40=false from rfl,if_neg (show ¬ (40:UInt8)=34 by decide),h2,show iQ 40=true from rfl,if_true]
 ·have h1:¬ ([91,d]:List UInt8)=[40,42]:=by simp
  have h2:gw.contains [91,d]=false:=by simp [gw]
  simp only [cut,show bV 91=false from rfl,VP,if_false,e,if_neg h1,show iY 91=false from rfl,show aO 91=false from rfl,if_neg (show ¬ (91:UInt8)=34 by decide),h2,show iQ 91=true from rfl,if_true]
theorem K4 {t:bc} (h:wc t) {s:List UInt8} (hs:pJ s∨((t=(8,[40])∨t=(8,[91]))∧ ∃c r,s=c::r∧c≠42)):cut (t.2++s)=(t.1,t.2.length):=by
 rcases hs with hs | ⟨ht,c,r,rfl,hc⟩
 ·have h0:pJ ([]:List UInt8):= .inl rfl;have:=PJ (p:=t.2) (x:=[]) (x':=s) h.ne h0 hs (by rw [VH,h.cut];exact h.k1) (by rw [VH,h.cut];exact h.k9) (by rw [VH,h.cut];exact Vn _);rw [this,VH,h.cut]
 ·rcases ht with rfl | rfl
  ·exact D7 (.inl rfl) hc
  ·exact D7 (.inr rfl) hc
theorem DM {t:bc} (hne:t.2≠[]) {s:List UInt8} (hc:cut (t.2++s)=(t.1,t.2.length)):tokens (t.2++s)=t::tokens s:=by
 obtain ⟨k,x⟩:=t;cases x with
 | nil=>exact absurd rfl hne
 | cons c l=>
  simp only [Vz] at hc ⊢;rw [gR,hc];have e1:(c::(l++s)).take (c::l).length=c::l:=WU (l₁:=c::l);have e2:(c::(l++s)).drop (c::l).length=s:=List.drop_left (l₁:=c::l);rw [e1,e2]
theorem AW: ∀{b:List UInt8} (_: ∀c∈b,bV c=true) (s:List UInt8),nb (tokens (b++s))=nb (tokens s)
 | [],_,_=>rfl
 | c::b,h,s=>by
  rw [Vz,JI (h c (by simp))];exact AW (fun d hd=>h d (Vy _ hd)) s
theorem BC {b:List UInt8} (h: ∀c∈b,bV c=true):bO b=true:=AA b fun c hc=>by
 rcases nY (h c hc) with rfl | rfl | rfl | rfl <;> decide
theorem yA: ∀{l:List It},fI l→ ∀u,.tok u∈l→u.2≠[]
 | _,.nil,_,h=>by cases h
 | _,.sep h,u,hu=>by
  rcases Vv.1 hu with e | hu
  ·cases e
  ·exact yA h u hu
 | _,.tok ht _ h,u,hu=>by
  rcases Vv.1 hu with e | hu
  ·cases e;exact ht.ne
  ·exact yA h u hu
theorem uI: ∀{l:List It} {s:List UInt8},Jn l s→fI l→nb (tokens s)=cr l∧bO s=true
 | _,_,.nil,_=>⟨rfl,rfl⟩
 | _,_,.sep (s:=s) hb hall hj,hc=>by
  cases hc with
  | sep hc=>
   obtain ⟨h1,h2⟩:=uI hj hc;exact ⟨by rw [AW hall];exact h1,by rw [uz _ _ _ (Vn _) (BC hall)];exact h2⟩
 | _,_,.tok (t:=t) (s:=s) hj,hc=>by
  cases hc with
  | tok ht hby hc=>
   obtain ⟨h1,h2⟩:=uI hj hc;refine ⟨?_,by rw [uz _ _ _ (Vn _) ht.valid];exact h2⟩;rw [DM ht.ne (K4 ht (Ot hj hby (yA hc))),gV,if_neg ht.k1,h1];rfl
end Go.Parse
namespace Go.Format
open Go.VM Go.Lex Go.Parse Go.Lay
def tO (s:B):It:=if s=[32] then .sep else .tok ((cut s).1,s)
mutual
def fo:Lay.Doc→List It
 | .mk k s _ kids=>if k=1 then [tO s] else if k=2∨k=4 then [.sep] else dc kids
def dc:List Lay.Doc→List It
 | []=>[]
 | d::l=>fo d++dc l
end
mutual
def nT:Lay.Doc→Bool
 | .mk k _ _ kids=>(k==1||k==2||k==4||k==5||k==6||k==7)&&ib kids
def ib:List Lay.Doc→Bool
 | []=>true
 | d::l=>nT d&&ib l
end
def GA:List iC→List It
 | []=>[]
 | t::l=>fo t.1++GA l
def Qr:List iC→Bool
 | []=>true
 | t::l=>nT t.1&&Qr l
theorem Ew: ∀(ks:List Lay.Doc) (i:Int) (f:Bool) (l:List iC),GA (dB ks i f++l)=dc ks++GA l
 | [],_,_,_=>rfl
 | d::ks,i,f,l=>by
  have ih:=Ew ks i f l;simp only [dB,Vu,Vz,GA,dc,Vx] at ih ⊢;rw [ih]
theorem Eh: ∀(ks:List Lay.Doc) (i:Int) (f:Bool) (l:List iC),Qr (dB ks i f++l)=(ib ks&&Qr l)
 | [],_,_,_=>rfl
 | d::ks,i,f,l=>by
  have ih:=Eh ks i f l;simp only [dB,Vu,Vz,Qr,ib] at ih ⊢;rw [ih,Bool.and_assoc]
theorem Kc {k:Int} (h1:k≠1) (h2:¬ (k=2∨k=4)) (s:B) (m:Int) (kids:List Lay.Doc):fo (.mk k s m kids)=dc kids:=by
 rw [fo,if_neg h1,if_neg h2]
theorem H0 (n:Nat): ∀c∈(10::List.replicate n 32:List UInt8),bV c=true:=by
 intro c hc;rcases Vv.1 hc with rfl | hc
 ·rfl
 ·rw [List.eq_of_mem_replicate hc];rfl
theorem zd (w:Int): ∀(n:Nat) (l:List iC) (c:Int),qc l≤n→Qr l=true→Jn (GA l) (jm w n l c)
 | 0,[],_,_,_=> .nil
 | _+1,[],_,_,_=> .nil
 | 0,t::l,_,h,_=>by
  have:=tF t.1;simp only [qc] at h;omega
 | n+1,(.mk k s m kids,i,f)::l,c,h,hf=>by
  simp only [qc,fV] at h;simp only [Qr,nT,Vl,V2,V4] at hf;have kids_case: ∀(i':Int) (f':Bool) (c':Int),k≠1→¬ (k=2∨k=4)→Jn (GA ((.mk k s m kids,i,f)::l)) (jm w n (dB kids i' f'++l) c'):=fun i' f' c' h1 h2=>by
   have:=zd w n (dB kids i' f'++l) c' (by rw [eN];omega) (by rw [Eh,hf.1.2,hf.2];rfl);rw [Ew] at this;rw [GA,Kc h1 h2];exact this
  simp only [jm];by_cases h1:k=1
  ·rw [if_pos h1,GA,fo,if_pos h1];have ih:=zd w n l (c+chars s) (by omega) hf.2;unfold tO;by_cases hs:s=[32]
   ·subst hs;rw [if_pos rfl];exact Jn.sep (b:=[32]) (by simp) (fun c hc=>by rw [VR.1 hc];rfl) ih
   ·rw [if_neg hs];exact Jn.tok (t:=((cut s).1,s)) ih
  rw [if_neg h1];by_cases h5:k=5
  ·rw [if_pos h5];exact kids_case _ _ _ h1 (by omega)
  rw [if_neg h5];by_cases h6:k=6
  ·rw [if_pos h6];exact kids_case _ _ _ h1 (by omega)
  rw [if_neg h6];by_cases h7:k=7
  ·rw [if_pos h7];exact kids_case _ _ _ h1 (by omega)
  rw [if_neg h7];have h24:k=2∨k=4:=by omega
  have e:GA ((.mk k s m kids,i,f)::l)= .sep::GA l:=by
   rw [GA,fo,if_neg h1,if_pos h24];rfl
  rw [e];by_cases hc:f=true∧k≠4
  ·rw [if_pos hc,if_pos (by omega)];exact Jn.sep (b:=[32]) (by simp) (fun c hc=>by rw [VR.1 hc];rfl) (zd w n l (c+1) (by omega) hf.2)
  ·rw [if_neg hc];exact Jn.sep (b:=10::List.replicate i.toNat 32) (by simp) (H0 _) (zd w n l i (by omega) hf.2)
theorem gg: ∀(l m:List Lay.Doc),dc (l++m)=dc l++dc m
 | [],m=>rfl
 | d::l,m=>by simp only [Vz,dc,gg l m,Vx]
theorem iX: ∀(l m:List Lay.Doc),ib (l++m)=(ib l&&ib m)
 | [],m=>rfl
 | d::l,m=>by simp only [Vz,ib,iX l m,Bool.and_assoc]
mutual
def tV:T→List bc
 | .mk k tk s l=>iO l++(if k=1∧tk≠1∧tk≠0 then [(tk,s)] else [])
def iO:List T→List bc
 | []=>[]
 | t::l=>tV t++iO l
end
theorem sS: ∀(l m:List T),iO (l++m)=iO l++iO m
 | [],m=>rfl
 | t::l,m=>by simp only [Vz,iO,sS l m,Vx]
def Q1 (t:bc):Prop:=t.1≠1→wc t
theorem cw: ∀(l m:List It),cr (l++m)=cr l++cr m
 | [],m=>rfl
 | .tok t::l,m=>by simp only [Vz,cr,cw l m]
 | .sep::l,m=>by simp only [Vz,cr,cw l m]
theorem dC: ∀{a b:List It},fI a→fI b→(∀t,a.getLast?=some (.tok t)→By t b)→fI (a++b)
 | _,_,.nil,hb,_=>hb
 | _,_,.sep (l:=l) h,hb,hl=> .sep (dC h hb fun t ht=>hl t (by
   cases l with
   | nil=>cases ht
   | cons x l=>rw [List.getLast?_cons_cons];exact ht))
 | _,b,.tok (t:=t) (l:=l) hs hby h,hb,hl=>by
  refine .tok hs ?_ (dC h hb fun u hu=>hl u ?_)
  ·cases l with
   | nil=>exact hl t rfl
   | cons x l=>cases x <;> exact hby
  ·cases l with
   | nil=>cases hu
   | cons x l=>rw [List.getLast?_cons_cons];exact hu
def St (l:List It):Prop:= ∃u l',l= .tok u::l'∧ ∃c r,u.2=c::r∧c≠42
def Qh (l:List It):Prop:= ∃u l',l= .tok u::l'∧ ∃c r,u.2=c::r∧ff c=true
def Sp (l:List It):Prop:=l=[]∨ ∃l',l= .sep::l'
theorem JP {l:List It} (h:Sp l) (t:bc):By t l:=by
 rcases h with rfl | ⟨l',rfl⟩ <;> exact trivial
theorem Gi {l:List It} (h:Qh l) (t:bc):By t l:=by
 obtain ⟨u,l',rfl,h⟩:=h;exact .inl h
theorem qa {l m:List It} (h:St l):St (l++m):=by
 obtain ⟨u,l',rfl,h⟩:=h;exact ⟨u,l'++m,rfl,h⟩
theorem Nr {l m:List It} (h:Qh l):Qh (l++m):=by
 obtain ⟨u,l',rfl,h⟩:=h;exact ⟨u,l'++m,rfl,h⟩
structure Ok (t:T):Prop where
 chain:fI (fo (au t))
 st:St (fo (au t))
 eV:cr (fo (au t))=tV t
 fm:nT (au t)=true
 comma:jQ [jz,nt] t=false
structure RP (t:T):Prop where
 chain:fI (fo (au t))
 st:St (fo (au t))
 eV:cr (fo (au t))=tV t
 fm:nT (au t)=true
theorem qS {k:Nat} {s:B} (h:wc (k,s)):tO s= .tok (k,s):=by
 have hc:cut s=(k,s.length):=h.cut;unfold tO;rw [if_neg,hc];rintro rfl;have:cut [32]=(1,1):=rfl;rw [this] at hc;injection hc with h1 _
 exact h.k1 h1.symm
theorem AH {k:Nat} {s:B} (h:wc (k,s)) (h8:k≠8): ∃c r,s=c::r∧c≠42:=by
 cases s with
 | nil=>exact absurd rfl h.ne
 | cons c r=>
  refine ⟨c,r,rfl, ?_⟩;rintro rfl;obtain ⟨r',hr⟩:=C3 r;have hc:cut (42::r)=(k,(42::r).length):=h.cut;rw [gR,hc] at hr;rcases hr with hr | hr
  ·injection hr with h1 _
   injection h1 with h1 _
   exact h8 h1
  ·injection hr with h1 _
   injection h1 with h1 _
   exact h8 h1
theorem Ls {s:B} (h:wc (2,s)): ∃r,s=40::r:=by
 have hc:cut s=(2,s.length):=h.cut;cases s with
 | nil=>exact absurd rfl h.ne
 | cons c l=>
  simp only [cut] at hc;split at hc
  ·cases hc
  split at hc
  ·rename_i hr;have:c=40:=by
    have:=Wb (fun l:List UInt8=>l.getD 0 0) hr;cases l <;> simpa using this
   exact ⟨l,by rw [this]⟩
  split at hc
  ·injection hc with h1 _
   unfold rn at h1;split at h1
   ·cases h1
   ·split at h1 <;> cases h1
  split at hc
  ·have h1:=Wb Prod.fst hc;unfold number at h1;dsimp only at h1;split at h1
   ·dsimp only at h1;split at h1 <;> cases h1
   ·cases h1
  split at hc
  ·have h1:=Wb Prod.fst hc;rcases ig l with h7 | h7
   ·dsimp only at h1;rw [h7] at h1;cases h1
   ·dsimp only at h1;rw [h7] at h1;cases h1
  split at hc
  ·cases hc
  split at hc
  ·cases hc
  ·cases hc
theorem Cf: ∀{r:List bc} (_: ∀x∈r,bl x=true∧Q1 x),let L:=dc ((dP (r.map aT)).flatMap (fun x=>[tx x,iD]));fI L∧cr L=iO (r.map aT)∧ib ((dP (r.map aT)).flatMap (fun x=>[tx x,iD]))=true∧(L=[]∨ ∃u l',L= .tok u::l'∧ ∃q,u.2=40::q)∧(∀t,L.getLast?≠some (.tok t))
 | [],_=>⟨.nil,rfl,rfl,.inl rfl,fun t h=>by cases h⟩
 | x::r,h=>by
  obtain ⟨i1,i2,i3,i4,i5⟩:=Cf (r:=r) fun y hy=>h y (Vy _ hy);obtain ⟨ht,hq⟩:=h x (by simp);by_cases h2:x.1=2
  ·have hso:wc (2,x.2):=by
    have:=hq (by omega);rw [← h2];exact this
   have e:(dP ((x::r).map aT))=x.2::dP (r.map aT):=by
    unfold dP;rw [Vu,Wr];simp [aT,leaf,iE,h2]
   have e2:dc ((x.2::dP (r.map aT)).flatMap (fun x=>[tx x,iD]))= .tok (2,x.2):: .sep::dc ((dP (r.map aT)).flatMap (fun x=>[tx x,iD])):=by
    rw [Wz,gg];show (fo (tx x.2)++(fo iD++[]))++ _= _;have:fo (tx x.2)=[.tok (2,x.2)]:=by
     show fo (.mk 1 x.2 0 [])= _;rw [fo,if_pos rfl,qS hso]
    rw [this];rfl
   have e3:iO ((x::r).map aT)=(2,x.2)::iO (r.map aT):=by
    rw [Vu,iO];simp [aT,leaf,tV,iO,h2]
   dsimp only;rw [e,e2,e3];refine ⟨.tok hso trivial (.sep i1),by simp only [cr,i2], ?_,.inr ⟨_,_,rfl,Ls hso⟩,fun t ht=> ?_⟩
   ·rw [Wz,iX,i3];rfl
   ·rw [List.getLast?_cons_cons] at ht;cases hL:dc ((dP (r.map aT)).flatMap (fun x=>[tx x,iD])) with
    | nil=>rw [hL] at ht;cases ht
    | cons a b=>rw [hL,List.getLast?_cons_cons, ← hL] at ht;exact i5 t ht
  ·have h1:x.1=1:=by
    simp only [bl,V2,V4] at ht;omega
   have e:(dP ((x::r).map aT))=dP (r.map aT):=by
    unfold dP;rw [Vu,Wr];simp [aT,leaf,iE,h2]
   have e3:iO ((x::r).map aT)=iO (r.map aT):=by
    rw [Vu,iO];simp [aT,leaf,tV,iO,h1]
   dsimp only;rw [e,e3];exact ⟨i1,i2,i3,i4,i5⟩
theorem Cn {k:Nat} {s:B} {ks:List T} (hq:Q1 (k,s)) (h1:k≠1) (h0:k≠0) (hk:Tv Q1 ks) (hh: ∃c r,s=c::r∧c≠42):RP (.mk 1 k s ks)∧(fo (au (.mk 1 k s ks))).getLast?=some (.tok (k,s))∧(∀c r,s=c::r→ff c=true→Qh (fo (au (.mk 1 k s ks)))):=by
 obtain ⟨r,rfl,hr⟩:=hk;obtain ⟨i1,i2,i3,i4,i5⟩:=Cf hr;have hso:=hq h1;have e:fo (au (.mk 1 k s (r.map aT)))=dc ((dP (r.map aT)).flatMap (fun x=>[tx x,iD]))++[.tok (k,s)]:=by
  rw [au,if_pos rfl];show dc (_++[tx s])= _;rw [gg];show _++(fo (tx s)++[])= _;have:fo (tx s)=[.tok (k,s)]:=by
   show fo (.mk 1 s 0 [])= _;rw [fo,if_pos rfl,qS hso]
  rw [this];rfl
 have ef:tV (.mk 1 k s (r.map aT))=iO (r.map aT)++[(k,s)]:=by
  rw [tV,if_pos ⟨rfl,h1,h0⟩]
 refine ⟨⟨?_, ?_, ?_, ?_⟩, ?_,fun c q hs hc=> ?_⟩
 ·rw [e];exact dC i1 (.tok hso trivial .nil) fun t ht=>absurd ht (i5 t)
 ·rw [e];rcases i4 with h | ⟨u,l',h,q,hq⟩
  ·rw [h];exact ⟨(k,s),[],rfl,hh⟩
  ·rw [h];exact ⟨u,l'++[.tok (k,s)],rfl,40,q,hq,by decide⟩
 ·rw [e,ef,cw,i2];rfl
 ·rw [au,if_pos rfl];show nT (.mk 7 [] 0 ((dP (r.map aT)).flatMap (fun x=>[tx x,iD])++[tx s]))=true;rw [nT,iX,i3];rfl
 ·rw [e,List.getLast?_concat]
 ·rw [e];rcases i4 with h | ⟨u,l',h,q',hq⟩
  ·rw [h];exact ⟨(k,s),[],rfl,c,q,hs,hc⟩
  ·rw [h];exact ⟨u,l'++[.tok (k,s)],rfl,40,q',hq,rfl⟩
theorem G9 {s:B} {t:T} (h:Lf Q1 s t) (hs: ∃c r,s=c::r∧c≠42):RP t∧(∃k,(k=3∨k=8)∧wc (k,s)∧(fo (au t)).getLast?=some (.tok (k,s)))∧(∀c r,s=c::r→ff c=true→Qh (fo (au t)))∧([jz,nt].contains s=false→jQ [jz,nt] t=false):=by
 obtain ⟨k,ks,rfl,hk,hq,hv⟩:=h;obtain ⟨h1,h2,h3⟩:=Cn hq (by omega) (by omega) hv hs;refine ⟨h1,⟨k,hk,hq (by show k≠1;omega),h2⟩,h3,fun hc=> ?_⟩;simp only [jQ,hc,W9]
theorem Hw {k:Nat} {s:B} {ks:List T} (h:RP (.mk 1 k s ks)) (hc:k≠8∨[jz,nt].contains s=false):Ok (.mk 1 k s ks):=
 ⟨h.chain,h.st,h.eV,h.fm,by
  simp only [jQ];rcases hc with hc | hc
  ·have:(k==8)=false:=VX.2 hc;rw [this];simp
  ·rw [hc];simp⟩
theorem JM {k:Nat} {c:UInt8} (hc:cut [c]=(8,1)) (h:wc (k,[c])):k=8:=by
 have:=h.cut;dsimp only at this;rw [hc] at this;injection this with h1 _
 exact h1.symm
structure JT (l:List T):Prop where
 chain:fI (dc (kX l (l.map au)))
 st:dc (kX l (l.map au))=[]∨St (dc (kX l (l.map au)))
 eV:cr (dc (kX l (l.map au)))=iO l
 fm:ib (kX l (l.map au))=true
structure IU (l:List T):Prop where
 chain:fI (dc (kX l (l.map au)))
 st:dc (kX l (l.map au))=[]∨Qh (dc (kX l (l.map au)))
 eV:cr (dc (kX l (l.map au)))=iO l
 fm:ib (kX l (l.map au))=true
theorem J3:IU []:=⟨.nil,.inl rfl,rfl,rfl⟩
theorem GP:JT []:=⟨.nil,.inl rfl,rfl,rfl⟩
theorem Tl {l:List It} (h:l=[]∨Qh l) (t:bc):By t l:=by
 rcases h with rfl | h
 ·exact trivial
 ·exact Gi h t
theorem CZ {a:T} {l:List T} (h:jQ [jz,nt] a=false):kX (a::l) ((a::l).map au)=au a::kX l (l.map au):=by
 rw [Vu,kX,h];rfl
theorem yR {a:T} {l:List T} (ha:Ok a) (hl:IU l):JT (a::l):=by
 have e:dc (kX (a::l) ((a::l).map au))=fo (au a)++dc (kX l (l.map au)):=by rw [CZ ha.comma];rfl
 refine ⟨?_, ?_, ?_, ?_⟩
 ·rw [e];exact dC ha.chain hl.chain fun t _=>Tl hl.st t
 ·rw [e];exact .inr (qa ha.st)
 ·rw [e,cw,ha.eV,hl.eV];rfl
 ·rw [CZ ha.comma,ib,ha.fm,hl.fm];rfl
theorem Hu {list:Bool} {c x:T} {l:List T} (hc:Lf Q1 (uu list) c) (hx:Ok x) (hl:IU l):IU (c::x::l):=by
 have hb: ∃d,uu list=[d]∧d≠42∧ff d=true∧cut [d]=(8,1)∧[jz,nt].contains [d]=true:=by
  cases list with
  | false=>exact ⟨44,rfl,by decide,rfl,rfl,rfl⟩
  | true=>exact ⟨59,rfl,by decide,rfl,rfl,rfl⟩
 obtain ⟨d,hd,h42,hst,hcut,hcon⟩:=hb;rw [hd] at hc;obtain ⟨h1,⟨k,hk,hso,hlast⟩,h3,_⟩:=G9 hc ⟨d,[],rfl,h42⟩;have hk8:=JM hcut hso;subst hk8;have hsg:jQ [jz,nt] c=true:=by
  obtain ⟨k',ks,rfl,hk',hq',_⟩:=hc;have:k'=8:=JM hcut (hq' (by show k'≠1;omega));subst this;simp only [jQ,hcon];rfl
 have e:kX (c::x::l) ((c::x::l).map au)=au c::iD::kX (x::l) ((x::l).map au):=by
  rw [Vu,kX,hsg];rfl
 have hm:=yR hx hl;have e2:dc (kX (c::x::l) ((c::x::l).map au))=fo (au c)++ .sep::dc (kX (x::l) ((x::l).map au)):=by rw [e];rfl
 refine ⟨?_, ?_, ?_, ?_⟩
 ·rw [e2];exact dC h1.chain (.sep hm.chain) fun t _=>trivial
 ·rw [e2];exact .inr (Nr (h3 d [] rfl hst))
 ·rw [e2,cw,h1.eV,cr,hm.eV];rfl
 ·rw [e,ib,ib,h1.fm,hm.fm];rfl
theorem qx {k:Nat} (hk:k=14∨k=15∨k=17∨k=18) {l1 l2:Bool} {o c:T} {mid:List T} (ho:Lf Q1 (u9 l1) o) (hc:Lf Q1 (je l2) c) (hm:JT mid):Ok (node k (o::mid++[c])):=by
 have hob: ∃d,u9 l1=[d]∧d≠42∧cut [d]=(8,1)∧(d=40∨d=91):=by
  cases l1 with
  | false=>exact ⟨40,rfl,by decide,rfl,.inl rfl⟩
  | true=>exact ⟨91,rfl,by decide,rfl,.inr rfl⟩
 obtain ⟨d,hd,hd42,hdc,hdd⟩:=hob;rw [hd] at ho;obtain ⟨o1,⟨ko,hko,oso,olast⟩,_,_⟩:=G9 ho ⟨d,[],rfl,hd42⟩;have hk8:=JM hdc oso;subst hk8;have hcb: ∃e,je l2=[e]∧e≠42∧ff e=true:=by
  cases l2 with
  | false=>exact ⟨41,rfl,by decide,rfl⟩
  | true=>exact ⟨93,rfl,by decide,rfl⟩
 obtain ⟨e,he,he42,hes⟩:=hcb;rw [he] at hc;obtain ⟨c1,⟨kc,_,_,clast⟩,c3,_⟩:=G9 hc ⟨e,[],rfl,he42⟩;have cst:=c3 e [] rfl hes;have hnode:au (node k (o::mid++[c]))=sk [au o,zy 1 (kX mid (mid.map au)),au c]:=by
  have hk1:k≠1:=by omega
  rw [node,au,if_neg hk1,oF,dr];rw [if_neg (by omega),if_neg (by omega),if_neg (by omega),if_neg (by omega),if_neg (by omega),if_neg (by omega),if_neg (by omega),if_neg (by omega)];have hl:(o::mid++[c]).length - 2=mid.length:=by simp
  have hl2:((o::mid++[c]).map au).length=mid.length+2:=by simp
  rw [hl,hl2];have a1:((o::mid++[c]).drop 1).take mid.length=mid:=by
   rw [Vz,VK,VD,WU]
  have a2:(((o::mid++[c]).map au).drop 1).take (mid.length+2 - 2)=mid.map au:=by
   rw [← List.map_drop, ← List.map_take,show mid.length+2 - 2=mid.length by omega,a1]
  have a3:((o::mid++[c]).map au).getD (mid.length+2 - 1) cf=au c:=by
   rw [VI,Wa];have:(o::mid++[c])[mid.length+2 - 1]? =some c:=by
    rw [show mid.length+2 - 1=mid.length+1 by omega,Vz,WV,V5 (Vn _),WZ];rfl
   rw [this];rfl
  rw [a1,a2,a3];rfl
 have hit:fo (au (node k (o::mid++[c])))=fo (au o)++(dc (kX mid (mid.map au))++fo (au c)):=by
  rw [hnode];show fo (au o)++(fo (zy 1 (kX mid (mid.map au)))++(fo (au c)++[]))= _;rw [VH];rfl
 have hin:fI (dc (kX mid (mid.map au))++fo (au c)):=dC hm.chain c1.chain fun t _=>Gi cst t;have hby: ∀t,t=((8,[d]):bc)→By t (dc (kX mid (mid.map au))++fo (au c)):=by
  rintro t rfl;rcases hm.st with h | ⟨u,l',h,q,r,hq,h42⟩
  ·rw [h];exact Gi cst _
  ·rw [h];refine .inr ⟨?_,q,r,hq,h42⟩;rcases hdd with rfl | rfl
   ·exact .inl rfl
   ·exact .inr rfl
 refine ⟨?_, ?_, ?_, ?_, ?_⟩
 ·rw [hit];refine dC o1.chain hin fun t ht=>hby t ?_;rw [olast] at ht;cases ht;rfl
 ·rw [hit];exact qa o1.st
 ·rw [hit,cw,cw,o1.eV,hm.eV,c1.eV];rw [node,tV,if_neg (by omega),VH,Vz,iO,sS,iO,iO,VH]
 ·rw [hnode];show nT (.mk 6 [] 0 [au o,.mk 5 [] 1 (kX mid (mid.map au)),au c])=true;simp only [nT,ib,o1.fm,hm.fm,c1.fm];rfl
 ·rw [node,jQ];have:(k==1)=false:=VX.2 (by omega);rw [this];rfl
theorem Oh {k:Nat} (h:k≠1) (ss:List B) (l:List T):jQ ss (node k l)=false:=by
 rw [node,jQ];have:(k==1)=false:=VX.2 h;rw [this];rfl
theorem CP {ahead:List Lay.Doc} (hah: ∀a∈ahead,fo a=[.sep]∧nT a=true): ∀(ts:List T) (i:Nat),(∀t∈ts,fI (fo (au t))∧cr (fo (au t))=tV t∧nT (au t)=true)→
  fI (dc (bI ahead i (ts.map au)))∧cr (dc (bI ahead i (ts.map au)))=iO ts∧ib (bI ahead i (ts.map au))=true∧(i≠0→Sp (dc (bI ahead i (ts.map au))))
 | [],i,_=>⟨.nil,rfl,rfl,fun _=> .inl rfl⟩
 | t::ts,i,h=>by
  obtain ⟨h1,h2,h3⟩:=h t (by simp);obtain ⟨i1,i2,i3,i4⟩:=CP hah ts (i+1) fun x hx=>h x (Vy _ hx);have hsep: ∀j,fo (ahead.getD j cf)=[.sep]∧nT (ahead.getD j cf)=true:=fun j=>by
   rw [VI];cases hj:ahead[j]? with
   | none=>exact ⟨rfl,rfl⟩
   | some a=>exact hah a (VQ hj)
  have hc:=dC h1 i1 fun u _=>JP (i4 (by omega)) u;rw [Vu,bI];by_cases hi:i=0
  ·rw [if_pos hi,Vs,dc,ib];exact ⟨hc,by rw [cw,h2,i2];rfl,by rw [h3,i3];rfl,fun h=>absurd hi h⟩
  ·rw [if_neg hi];obtain ⟨e1,e2⟩:=hsep (min (i - 1) (ahead.length - 1));rw [Vz,Vs,dc,dc,e1,ib,ib,e2];refine ⟨.sep hc, ?_,by rw [h3,i3];rfl,fun _=> .inr ⟨_,rfl⟩⟩;show cr (.sep::(fo (au t)++dc (bI ahead (i+1) (ts.map au))))= _;rw [cr,cw,h2,i2];rfl
theorem sF {ahead:List Lay.Doc} {t:T} {ts:List T} (h:St (fo (au t))):St (dc (bI ahead 0 ((t::ts).map au))):=by
 rw [Vu,bI,if_pos rfl,Vs,dc];exact qa h
structure DR (t:T):Prop where
 chain:fI (fo (au t))
 eV:cr (fo (au t))=tV t
 fm:nT (au t)=true
theorem Ok.cf {t:T} (h:Ok t):DR t:=⟨h.chain,h.eV,h.fm⟩
theorem RP.cf {t:T} (h:RP t):DR t:=⟨h.chain,h.eV,h.fm⟩
theorem tY:fo cf=[.sep]∧nT cf=true:=⟨rfl,rfl⟩
theorem pN:fo iD=[.sep]∧nT iD=true:=⟨rfl,rfl⟩
theorem sX {k:Nat} (h:k≠1) (l:List T):tV (node k l)=iO l:=by
 rw [node,tV,if_neg (fun e=>h e.1),VH]
theorem nj: ∀a∈[cf],fo a=[.sep]∧nT a=true:=fun a h=>by rw [VR.1 h];exact tY
theorem gh (l:List T) (i:Nat) (t:T) (h:l[i]? =some t):(l.map au).getD i cf=au t:=by
 rw [VI,Wa,h];rfl
theorem qH {ahead:List Lay.Doc} (hah: ∀a∈ahead,fo a=[.sep]∧nT a=true) {ts:List T} (i:Nat) (h: ∀t∈ts,DR t):
  fI (dc (bI ahead i (ts.map au)))∧cr (dc (bI ahead i (ts.map au)))=iO ts∧ib (bI ahead i (ts.map au))=true∧(i≠0→Sp (dc (bI ahead i (ts.map au)))):=
 CP hah ts i fun t ht=>⟨(h t ht).chain,(h t ht).eV,(h t ht).fm⟩
theorem DZ (L:List T) (x:T):kV ((L++[x]).map au)=bI [cf] 0 (L.map au)++[zy 2 [iD,au x]]:=by
 unfold kV;have hl:((L++[x]).map au).length - 1=L.length:=by simp
 rw [hl, ← List.map_take,WU];rw [gh (L++[x]) L.length x (by rw [V5 (Vn _),WZ];rfl)]
structure Bk (D:List Lay.Doc) (ts:List T):Prop where
 chain:fI (dc D)
 st:St (dc D)
 eV:cr (dc D)=iO ts
 fm:ib D=true
theorem BN {a:T} {L:List T} {x:T} (ha:St (fo (au a))) (h: ∀t∈a::L,DR t) (hx:DR x):Bk (kV ((a::L++[x]).map au)) (a::L++[x]):=by
 obtain ⟨h1,h2,h3,_⟩:=qH nj 0 h;have e:dc (kV ((a::L++[x]).map au))=dc (bI [cf] 0 ((a::L).map au))++ .sep::fo (au x):=by
  rw [DZ,gg];congr 1;show fo (zy 2 [iD,au x])++[]= _;rw [VH];show fo iD++(fo (au x)++[])= _;rw [VH];rfl
 refine ⟨?_, ?_, ?_, ?_⟩
 ·rw [e];exact dC h1 (.sep hx.chain) fun t _=>trivial
 ·rw [e];exact qa (sF ha)
 ·rw [e,cw,h2,cr,hx.eV,sS];simp only [iO,VH]
 ·rw [DZ,iX,h3];show (true&&(nT (.mk 5 [] 2 [iD,au x])&&true))=true;simp only [nT,ib,hx.fm,pN.2];rfl
theorem G6 {k:Nat} (hk:k≠1) {l:List T} (hc:fI (fo (au (node k l)))) (hs:St (fo (au (node k l)))) (ht:cr (fo (au (node k l)))=iO l) (hf:nT (au (node k l))=true):Ok (node k l):=
 ⟨hc,hs,by rw [ht,sX hk],hf,Oh hk _ _⟩
theorem QU (D:List Lay.Doc):fo (row D)=dc D:=rfl
theorem Qc (D:List Lay.Doc):nT (sk D)=ib D:=by
 show nT (.mk 6 [] 0 D)= _;rw [nT];rfl
theorem LK (D:List Lay.Doc):nT (row D)=ib D:=by
 show nT (.mk 7 [] 0 D)= _;rw [nT];rfl
theorem rH {k:Nat} (hk:k≠1) {l:List T} {D:List Lay.Doc} (he:au (node k l)=sk D∨au (node k l)=row D) (hb:Bk D l):Ok (node k l):=by
 rcases he with he | he
 ·exact G6 hk (by rw [he];exact hb.chain) (by rw [he];exact hb.st) (by rw [he];exact hb.eV) (by rw [he,Qc];exact hb.fm)
 ·exact G6 hk (by rw [he];exact hb.chain) (by rw [he];exact hb.st) (by rw [he];exact hb.eV) (by rw [he,LK];exact hb.fm)
theorem eY {k:Nat} (hk:k≠1) (l:List T):au (node k l)=dr k l (l.map au):=by rw [node,au,if_neg hk,oF]
theorem Gu: ∀(p:T) (ts:List T),(∀t∈ts,DR t)→fI (dc (fb p ts (ts.map au)))∧cr (dc (fb p ts (ts.map au)))=iO ts∧ib (fb p ts (ts.map au))=true∧Sp (dc (fb p ts (ts.map au)))
 | _,[],_=>⟨.nil,rfl,rfl,.inl rfl⟩
 | p,t::ts,h=>by
  obtain ⟨i1,i2,i3,i4⟩:=Gu t ts fun x hx=>h x (Vy _ hx);have ht:=h t (by simp);have hs:fo (if jQ [gH] p=true then cf else iD)=[.sep]∧nT (if jQ [gH] p=true then cf else iD)=true:=by
   split
   ·exact tY
   ·exact pN
  rw [Vu,fb,dc,dc,hs.1,ib,ib,hs.2,ht.fm,i3];refine ⟨fI.sep (l:=fo (au t)++dc (fb t ts (ts.map au))) (dC ht.chain i1 fun u _=>JP i4 u), ?_,rfl,.inr ⟨_,rfl⟩⟩;show cr (.sep::(fo (au t)++dc (fb t ts (ts.map au))))= _;rw [cr,cw,ht.eV,i2];rfl
theorem uk {x:T} {k tk:Nat} {s:B} {l:List T} (h:x∈l):SizeOf.sizeOf x < SizeOf.sizeOf (T.mk k tk s l):=by
 have:=List.sizeOf_lt_of_mem h;simp only [T.mk.sizeOf_spec];omega
theorem RA {s:B} (hs: ∃c r,s=c::r∧c≠42) {t:T} (h:Lf Q1 s t):DR t∧St (fo (au t)):=by
 obtain ⟨h1,_⟩:=G9 h hs;exact ⟨h1.cf,h1.st⟩
theorem kH {s:B} {t:T} (h:Lf Q1 s t):DR t:=by
 obtain ⟨k,ks,rfl,hk,hq,r,rfl,hr⟩:=h;obtain ⟨i1,i2,i3,i4,i5⟩:=Cf hr;have hso:=hq (by show k≠1;omega);have e:fo (au (.mk 1 k s (r.map aT)))=dc ((dP (r.map aT)).flatMap (fun x=>[tx x,iD]))++[.tok (k,s)]:=by
  rw [au,if_pos rfl];show dc (_++[tx s])= _;rw [gg];show _++(fo (tx s)++[])= _;have:fo (tx s)=[.tok (k,s)]:=by
   show fo (.mk 1 s 0 [])= _;rw [fo,if_pos rfl,qS hso]
  rw [this];rfl
 refine ⟨?_, ?_, ?_⟩
 ·rw [e];exact dC i1 (.tok hso trivial .nil) fun t ht=>absurd ht (i5 t)
 ·rw [e,cw,i2,tV,if_pos ⟨rfl,by omega,by omega⟩];rfl
 ·rw [au,if_pos rfl];show nT (.mk 7 [] 0 ((dP (r.map aT)).flatMap (fun x=>[tx x,iD])++[tx s]))=true;rw [nT,iX,i3];rfl
theorem BD {k:Nat} (hk:k≠1) {ahead:List Lay.Doc} (hah: ∀a∈ahead,fo a=[.sep]∧nT a=true) {a:T} {ts:List T} (ha:St (fo (au a))) (h: ∀t∈a::ts,DR t) (he:au (node k (a::ts))=sk (bI ahead 0 ((a::ts).map au))∨au (node k (a::ts))=row (bI ahead 0 ((a::ts).map au))):Ok (node k (a::ts)):=by
 obtain ⟨h1,h2,h3,_⟩:=qH hah 0 h;exact rH hk he ⟨h1,sF ha,h2,h3⟩
theorem OV {a:T} {bs:List T} (ha:Lf Q1 qZ a) (hb:BT Q1 bs) (hP: ∀x∈bs,PT Q1 x→Ok x) (hE: ∀x∈bs,ET Q1 x→Ok x): ∃L x,a::bs=a::L++[x]∧(∀t∈a::L,DR t)∧DR x∧St (fo (au a)):=by
 obtain ⟨hab,has⟩:=RA ⟨108,[101,116],rfl,by decide⟩ ha;cases hb with
 | mk hr hp hps hq he=>
  rename_i rc ps p q e;refine ⟨rc++(p::ps)++[q],e,by simp,fun t ht=> ?_,(hE e (by simp) he).cf,has⟩;simp only [Vv,VE,VR,VJ,or_false] at ht;rcases ht with rfl | (ht | rfl | ht) | rfl
  ·exact hab
  ·rcases hr with rfl | ⟨r,hr,rfl⟩
   ·cases ht
   ·rw [VR.1 ht];exact kH hr
  ·exact (hP t (by simp) hp).cf
  ·exact (hP t (by simp [ht]) (hps t ht)).cf
  ·exact kH hq
theorem _root_.List.oH {α:Type} {P:List α→Prop} (nil:P []) (one: ∀a,P [a]) (two: ∀a b l,P l→P (a::b::l)): ∀l,P l
 | []=>nil
 | [a]=>one a
 | a::b::l=>two a b l (List.oH nil one two l)
theorem Ch: ∀n,(∀t,SizeOf.sizeOf t < n→ET Q1 t→Ok t)∧(∀t,SizeOf.sizeOf t < n→PT Q1 t→Ok t)∧(∀t,SizeOf.sizeOf t < n→AT Q1 t→DR t):=by
 intro n
 induction n with
 | zero=>exact ⟨fun _ h=>by omega,fun _ h=>by omega,fun _ h=>by omega⟩
 | succ n ih=>
  obtain ⟨ihE,ihP,ihA⟩:=ih;have eis: ∀(l:List T) (list:Bool),Ql Q1 list l→(∀x∈l,SizeOf.sizeOf x < n)→IU l:=by
   intro l
   induction l using List.oH with
   | nil=>intro list _ _;exact J3
   | one a=>intro list h _;cases h
   | two a b l ih2=>
    intro list h hs;cases h with
    | cons hc hx hl=>exact Hu hc (ihE b (hs b (by simp)) hx) (ih2 list hl fun x hx=>hs x (by simp [hx]))
  have pis: ∀(l:List T) (list:Bool),PD Q1 list l→(∀x∈l,SizeOf.sizeOf x < n)→IU l:=by
   intro l
   induction l using List.oH with
   | nil=>intro list _ _;exact J3
   | one a=>intro list h _;cases h
   | two a b l ih2=>
    intro list h hs;cases h with
    | cons hc hx hl=>exact Hu hc (ihP b (hs b (by simp)) hx) (ih2 list hl fun x hx=>hs x (by simp [hx]))
  have ass: ∀(l:List T),PA Q1 l→(∀x∈l,SizeOf.sizeOf x < n)→ ∀x∈l,DR x:=by
   intro l
   induction l using List.oH with
   | nil=>intro _ _ x hx;cases hx
   | one a=>intro h _;cases h
   | two a b l ih2=>
    intro h hs x hx;cases h with
    | cons hc ha hl=>
     rcases Vv.1 hx with rfl | hx
     ·exact kH hc
     ·rcases Vv.1 hx with rfl | hx
      ·exact ihA x (hs x (by simp)) ha
      ·exact ih2 hl (fun y hy=>hs y (by simp [hy])) x hx
  refine ⟨fun t ht h=> ?_,fun t ht h=> ?_,fun t ht h=> ?_⟩
  ·have kid: ∀{k tk:Nat} {s:B} {l:List T},t=T.mk k tk s l→ ∀x∈l,SizeOf.sizeOf x < n:=fun {k tk s l} e x hx=>by
    subst e;have:=uk (k:=k) (tk:=tk) (s:=s) hx;omega
   cases h with
   | leaf hq hk hv=>
    rename_i k s ks;have h8:k=8→s=qe∨s=lI:=fun h=>by
     rcases hk with h' | h' | h' | h' | ⟨_,h'⟩
     ·omega
     ·omega
     ·omega
     ·omega
     ·exact h'
    have hso:=hq (by show k≠1;omega);have hh: ∃c r,s=c::r∧c≠42:=by
     by_cases h:k=8
     ·rcases h8 h with rfl | rfl
      ·exact ⟨116,[114,117,101],rfl,by decide⟩
      ·exact ⟨102,[97,108,115,101],rfl,by decide⟩
     ·exact AH hso h
    refine Hw (Cn hq (by omega) (by omega) hv hh).1 ?_;by_cases h:k=8
    ·right;rcases h8 h with rfl | rfl <;> decide
    ·exact .inl h
   | letin ha hb hi he=>
    rename_i a i e bs;have hk:=kid rfl;obtain ⟨L,x,hL,h1,h2,h3⟩:=OV ha hb (fun x hx hp=>ihP x (hk x (by simp [hx])) hp) (fun x hx hp=>ihE x (hk x (by simp [hx])) hp);have hL':bs=L++[x]:=by injection hL
    subst hL';have hie:=(ihE e (hk e (by simp)) he).cf;have hib:=kH hi;have hbk:=BN h3 h1 h2;have hnode:au (node 6 (a::(L++[x])++[i]++[e]))=sk (kV ((a::L++[x]).map au)++[iD,au i,iD,au e]):=by
     rw [eY (by decide),dr,if_neg (by decide),if_pos rfl];have hl:((a::(L++[x])++[i]++[e]).map au).length=(a::L++[x]).length+2:=by simp
     rw [hl,show (a::L++[x]).length+2 - 2=(a::L++[x]).length by omega,show (a::L++[x]).length+2 - 1=(a::L++[x]).length+1 by omega, ← List.map_take];have e0:a::(L++[x])++[i]++[e]=(a::L++[x])++[i,e]:=by simp
     rw [e0,WU,gh _ _ i (by rw [V5 (Vn _),WZ];rfl),gh _ _ e (by rw [V5 (by omega),Nat.add_sub_cancel_left];rfl)]
    refine rH (by decide) (.inl hnode) ⟨?_, ?_, ?_, ?_⟩
    ·rw [gg];refine dC hbk.chain (.sep ?_) fun t _=>trivial;show fI (fo (au i)++(.sep::(fo (au e)++[])));rw [VH];exact dC hib.chain (.sep hie.chain) fun t _=>trivial
    ·rw [gg];exact qa hbk.st
    ·rw [gg,cw,hbk.eV];show _++cr (.sep::(fo (au i)++(.sep::(fo (au e)++[]))))= _;rw [VH,cr,cw,hib.eV,cr,hie.eV];have e0:a::(L++[x])++[i]++[e]=(a::L++[x])++[i,e]:=by simp
     rw [e0,sS (a::L++[x])];simp only [iO,VH]
    ·rw [iX,hbk.fm];simp only [ib,pN.2,hib.fm,hie.fm];rfl
   | lambda hf hp hps ha he=>
    rename_i f p a e ps;have hk:=kid rfl;obtain ⟨hfb,hfs⟩:=RA ⟨102,[117,110],rfl,by decide⟩ hf;have hnode:au (node 7 (f::p::ps++[a]++[e]))=sk (kV ((f::(p::ps++[a])++[e]).map au)):=by
     rw [eY (by decide),dr,if_pos (.inr rfl)];rfl
    refine rH (l:=f::p::ps++[a]++[e]) (by decide) (.inl hnode) (BN hfs (fun t ht=> ?_) (ihE e (hk e (by simp)) he).cf);simp only [Vv,Vz,VE,VR,VJ,or_false] at ht;rcases ht with rfl | rfl | ht | rfl
    ·exact hfb
    ·exact (ihP t (hk t (by simp)) hp).cf
    ·exact (ihP t (hk t (by simp [ht])) (hps t ht)).cf
    ·exact kH ha
   | ife hi ha ht' hb hl hc=>
    rename_i i a t b l c;have hk:=kid rfl;obtain ⟨hib,his⟩:=RA ⟨105,[102],rfl,by decide⟩ hi;refine BD (by decide) (ahead:=[cf,iD,cf,iD,cf]) (fun x hx=> ?_) his (fun x hx=> ?_) (.inl (by rw [eY (by decide),dr,if_neg (by decide),if_neg (by decide),if_pos rfl]))
    ·simp only [Vv,VJ,or_false] at hx;rcases hx with rfl | rfl | rfl | rfl | rfl
     ·exact tY
     ·exact pN
     ·exact tY
     ·exact pN
     ·exact tY
    ·simp only [Vv,VJ,or_false] at hx;rcases hx with rfl | rfl | rfl | rfl | rfl | rfl
     ·exact hib
     ·exact (ihE x (hk x (by simp)) ha).cf
     ·exact kH ht'
     ·exact (ihE x (hk x (by simp)) hb).cf
     ·exact kH hl
     ·exact (ihE x (hk x (by simp)) hc).cf
   | mtch hm he hw hbar ha has=>
    rename_i m e w a bar as;have hk:=kid rfl;obtain ⟨hmb,hms⟩:=RA ⟨109,[97,116,99,104],rfl,by decide⟩ hm;have hab:=ihA a (hk a (by simp)) ha;have hall:=ass as has fun x hx=>hk x (by simp [hx]);have h3: ∀t∈[m,e,w],DR t:=fun x hx=>by
     simp only [Vv,VJ,or_false] at hx;rcases hx with rfl | rfl | rfl
     ·exact hmb
     ·exact (ihE x (hk x (by simp)) he).cf
     ·exact kH hw
    have hrest: ∀t∈bar++a::as,DR t:=fun x hx=>by
     rcases VE.1 hx with hx | hx
     ·rcases hbar with rfl | ⟨b,hb,rfl⟩
      ·cases hx
      ·rw [VR.1 hx];exact kH hb
     ·rcases Vv.1 hx with rfl | hx
      ·exact hab
      ·exact hall x hx
    obtain ⟨a1,a2,a3,_⟩:=qH nj 0 h3;obtain ⟨b1,b2,b3,b4⟩:=Gu w (bar++a::as) hrest;have hnode:au (node 9 (m::e::w::bar++a::as))=sk (bI [cf] 0 ([m,e,w].map au)++fb w (bar++a::as) ((bar++a::as).map au)):=by
     rw [eY (by decide),dr,if_neg (by decide),if_neg (by decide),if_neg (by decide),if_pos rfl];rfl
    refine rH (by decide) (.inl hnode) ⟨?_, ?_, ?_, ?_⟩
    ·rw [gg];exact dC a1 b1 fun u _=>JP b4 u
    ·rw [gg];exact qa (sF hms)
    ·rw [gg,cw,a2,b2, ← sS];rfl
    ·rw [iX,a3,b3];rfl
   | bin ha ho hb=>
    rename_i a op b s;have hk:=kid rfl;have hao:=ihE a (hk a (by simp)) ha;refine BD (by decide) (ahead:=[iD,cf]) (fun x hx=> ?_) hao.st (fun x hx=> ?_) (.inl (by rw [eY (by decide),dr,if_neg (by decide),if_neg (by decide),if_neg (by decide),if_neg (by decide),if_neg (by decide),if_pos rfl]))
    ·simp only [Vv,VJ,or_false] at hx;rcases hx with rfl | rfl
     ·exact pN
     ·exact tY
    ·simp only [Vv,VJ,or_false] at hx;rcases hx with rfl | rfl | rfl
     ·exact hao.cf
     ·exact kH ho
     ·exact (ihE x (hk x (by simp)) hb).cf
   | un ho ha=>
    rename_i op a;have hk:=kid rfl;have hos:DR op∧St (fo (au op)):=by
     rcases ho with ho | ho
     ·exact RA ⟨45,[],rfl,by decide⟩ ho
     ·exact RA ⟨45,[46],rfl,by decide⟩ ho
    refine BD (by decide) nj hos.2 (fun x hx=> ?_) (.inr (by rw [eY (by decide),dr,if_neg (by decide),if_neg (by decide),if_neg (by decide),if_neg (by decide),if_neg (by decide),if_neg (by decide),if_pos (.inl rfl)]));simp only [Vv,VJ,or_false] at hx;rcases hx with rfl | rfl
    ·exact hos.1
    ·exact (ihE x (hk x (by simp)) ha).cf
   | app ha hb=>
    rename_i a b;have hk:=kid rfl;have hao:=ihE a (hk a (by simp)) ha;have hbo:=(ihE b (hk b (by simp)) hb).cf;have hnode:au (node 13 [a,b])=sk [au a,zy 2 [iD,au b]]:=by
     rw [eY (by decide),dr,if_neg (by decide),if_neg (by decide),if_neg (by decide),if_neg (by decide),if_neg (by decide),if_neg (by decide),if_neg (by decide),if_pos rfl];rfl
    have e:dc [au a,zy 2 [iD,au b]]=fo (au a)++ .sep::fo (au b):=by
     show fo (au a)++((fo iD++(fo (au b)++[]))++[])= _;simp only [VH];rfl
    refine rH (by decide) (.inl hnode) ⟨?_, ?_, ?_, ?_⟩
    ·rw [e];exact dC hao.chain (.sep hbo.chain) fun t _=>trivial
    ·rw [e];exact qa hao.st
    ·rw [e,cw,hao.eV,cr,hbo.eV];simp only [iO,VH]
    ·show (nT (au a)&&(nT (.mk 5 [] 2 [iD,au b])&&true))=true;simp only [nT,ib,hao.fm,hbo.fm,pN.2];rfl
   | none ho hc=>
    rename_i list o c;have:=qx (k:=kindOf list false) (mid:=[]) (by cases list <;> simp [kindOf]) ho hc GP;exact this
   | some ho ha hl hc=>
    rename_i list o c a l;have hk:=kid rfl;exact qx (k:=kindOf list false) (mid:=a::l) (by cases list <;> simp [kindOf]) ho hc (yR (ihE a (hk a (by simp)) ha) (eis l list hl fun x hx=>hk x (by simp [hx])))
  ·have kid: ∀{k tk:Nat} {s:B} {l:List T},t=T.mk k tk s l→ ∀x∈l,SizeOf.sizeOf x < n:=fun {k tk s l} e x hx=>by
    subst e;have:=uk (k:=k) (tk:=tk) (s:=s) hx;omega
   cases h with
   | leaf hq hk hv=>
    rename_i k s ks;have h8:k=8→s=qe∨s=lI∨s=EU:=fun h=>by
     rcases hk with h' | h' | h' | ⟨_,h'⟩
     ·omega
     ·omega
     ·omega
     ·exact h'
    have hso:=hq (by show k≠1;omega);have hh: ∃c r,s=c::r∧c≠42:=by
     by_cases h:k=8
     ·rcases h8 h with rfl | rfl | rfl
      ·exact ⟨116,[114,117,101],rfl,by decide⟩
      ·exact ⟨102,[97,108,115,101],rfl,by decide⟩
      ·exact ⟨95,[],rfl,by decide⟩
     ·exact AH hso h
    refine Hw (Cn hq (by omega) (by omega) hv hh).1 ?_;by_cases h:k=8
    ·right;rcases h8 h with rfl | rfl | rfl <;> decide
    ·exact .inl h
   | cons ha ho hb=>
    rename_i a op b;have hk:=kid rfl;have hao:=ihP a (hk a (by simp)) ha;refine BD (by decide) nj hao.st (fun x hx=> ?_) (.inr (by rw [eY (by decide),dr,if_neg (by decide),if_neg (by decide),if_neg (by decide),if_neg (by decide),if_neg (by decide),if_neg (by decide),if_pos (.inr rfl)]));simp only [Vv,VJ,or_false] at hx;rcases hx with rfl | rfl | rfl
    ·exact hao.cf
    ·exact kH ho
    ·exact (ihP x (hk x (by simp)) hb).cf
   | none ho hc=>
    rename_i list o c;exact qx (k:=kindOf list true) (mid:=[]) (by cases list <;> simp [kindOf]) ho hc GP
   | some ho ha hl hc=>
    rename_i list o c a l;have hk:=kid rfl;exact qx (k:=kindOf list true) (mid:=a::l) (by cases list <;> simp [kindOf]) ho hc (yR (ihP a (hk a (by simp)) ha) (pis l list hl fun x hx=>hk x (by simp [hx])))
  ·have kid: ∀{k tk:Nat} {s:B} {l:List T},t=T.mk k tk s l→ ∀x∈l,SizeOf.sizeOf x < n:=fun {k tk s l} e x hx=>by
    subst e;have:=uk (k:=k) (tk:=tk) (s:=s) hx;omega
   cases h with
   | mk hp ha he=>
    rename_i p a e;have hk:=kid rfl;have hpo:=ihP p (hk p (by simp)) hp;have heo:=(ihE e (hk e (by simp)) he).cf;obtain ⟨a1,a2,a3,_⟩:=qH nj 0 (ts:=[p,a]) fun x hx=>by
     simp only [Vv,VJ,or_false] at hx;rcases hx with rfl | rfl
     ·exact hpo.cf
     ·exact kH ha
    have hnode:au (node 10 [p,a,e])=sk (bI [cf] 0 ([p,a].map au)++[zy 4 [iD,au e]]):=by
     rw [eY (by decide),dr,if_neg (by decide),if_neg (by decide),if_neg (by decide),if_neg (by decide),if_pos rfl];rfl
    have e1:dc (bI [cf] 0 ([p,a].map au)++[zy 4 [iD,au e]])=dc (bI [cf] 0 ([p,a].map au))++ .sep::fo (au e):=by
     rw [gg];congr 1;show (fo iD++(fo (au e)++[]))++[]= _;simp only [VH];rfl
    refine (rH (by decide) (.inl hnode) ⟨?_, ?_, ?_, ?_⟩).cf
    ·rw [e1];exact dC a1 (.sep heo.chain) fun t _=>trivial
    ·rw [e1];exact qa (sF hpo.st)
    ·rw [e1,cw,a2,cr,heo.eV];simp only [iO,VH,Vx]
    ·rw [iX,a3];show (true&&(nT (.mk 5 [] 4 [iD,au e])&&true))=true;simp only [nT,ib,heo.fm,pN.2];rfl
def gB (t:bc):List bc:=if t.1=1∨t.1=0 then [] else [t]
theorem Mu:vS tV iO (fun r=>r.flatMap gB) where
 nil:=rfl
 cons t l:=rfl
 node:=fun {k} hk l=>sX hk l
 miss s:=by simp [missing,tV,iO]
 take r:=by
  refine Ab (F1:=tV) (F:=iO) (g:=gB) rfl (fun t l=>rfl) (fun t ht=> ?_) (fun t ks ht=> ?_) (fun ks=> ?_) r
  ·simp only [aT,leaf,tV,iO,Vs,Xe,gB];by_cases h:t.1=1∨t.1=0
   ·rw [if_pos h,if_neg (by omega)]
   ·rw [if_neg h,if_pos (by omega)]
  ·simp only [leaf,tV,Xe,gB];congr 1;by_cases h:t.1=1∨t.1=0
   ·rw [if_pos h,if_neg (by omega)]
   ·rw [if_neg h,if_pos (by omega)]
  ·simp [leaf,tV]
theorem OQ: ∀{r:List bc},Mc r→r.flatMap gB=nb r
 | [],_=>rfl
 | t::r,h=>by
  have h0:=h t (by simp);rw [Wz,gV,OQ fun u hu=>h u (Vy _ hu),gB];by_cases h1:t.1=1
  ·rw [if_pos (.inl h1),if_pos h1];rfl
  ·rw [if_neg (by omega),if_neg h1];rfl
theorem Ke (s:B) {l:List T} (h:doc (tokens s)=node 4 l):iO l=nb (tokens s):=by
 have:=Hq Mu rfl (tokens s) (gS s);rw [h,sX (by decide),OQ (gS s)] at this;exact this
theorem yf: ∀(n:Nat) (s:B),s.length≤n→bO s=true→(∀t∈tokens s,t.1≠9)→pj Q1 (tokens s)
 | _,[],_,_,_=>fun t h=>by cases h
 | 0,c::l,h,_,_=>by simp at h
 | n+1,c::l,h,hv,h9=>by
  have hst:=gR (c:=c) (l:=l);have hz:=(sL (s:=c::l) (by simp) hv).1;have hc:=mQ (s:=c::l) (by simp);have hcv:=Jq (s:=c::l) (by simp) hv;have ht:=KW (s:=c::l) (by simp) hz;rw [hst] at h9 ⊢;intro t hm;rcases Vv.1 hm with rfl | hm
  ·intro h1;have hlen:((c::l).take (cut (c::l)).2).length=(cut (c::l)).2:=by rw [VB];omega
   refine ⟨fun e=> ?_, ?_,h1,h9 _ Vp,hcv.1⟩
   ·have:=Wb List.length e;dsimp only at this;rw [hlen] at this;simp at this;omega
   ·dsimp only;rw [ht,hlen]
  ·refine yf n _ ?_ hcv.2 (fun u hu=>h9 u (Vy _ hu)) t hm;rw [VF];simp only [Vh] at h ⊢;omega
theorem LD {a:T} {bs:List T} (ha:Lf Q1 qZ a) (hb:BT Q1 bs):DR (node 5 (a::bs)):=by
 obtain ⟨L,x,hL,h1,h2,h3⟩:=OV ha hb (fun x _ hp=>(Ch _).2.1 x (Wq _) hp) (fun x _ hp=>(Ch _).1 x (Wq _) hp);rw [hL];have hbk:=BN h3 h1 h2;exact (rH (by decide) (.inl (by rw [eY (by decide),dr,if_pos (.inl rfl)])) hbk).cf
theorem yL: ∀(D:List Lay.Doc) (i:Nat),(∀d∈D,fI (fo d)∧nT d=true)→fI (dc (cA i D))∧cr (dc (cA i D))=D.flatMap (fun d=>cr (fo d))∧ib (cA i D)=true
 | [],_,_=>⟨.nil,rfl,rfl⟩
 | d::D,i,h=>by
  obtain ⟨h1,h2⟩:=h d (by simp);obtain ⟨i1,i2,i3⟩:=yL D (i+1) fun x hx=>h x (Vy _ hx);have e:dc (cA i (d::D))=(if i=0 then [] else [.sep])++(fo d++ .sep::dc (cA (i+1) D)):=by
   rw [cA,gg];congr 1;split <;> rfl
  have hc:fI (fo d++ .sep::dc (cA (i+1) D)):=dC h1 (.sep i1) fun t _=>trivial;rw [e];refine ⟨?_, ?_, ?_⟩
  ·split
   ·exact hc
   ·exact .sep hc
  ·rw [cw,cw,cr,i2,Wz];split <;> rfl
  ·rw [cA,iX];have:ib (if i=0 then [] else [KE])=true:=by split <;> rfl
   rw [this];show (true&&(nT d&&(nT KE&&ib (cA (i+1) D))))=true;rw [h2,i3];rfl
theorem wW: ∀(l:List T),DT Q1 l→(∀d∈dw l,fI (fo d)∧nT d=true)∧(dw l).flatMap (fun d=>cr (fo d))=iO l
 | _,.last (ks:=ks) hv=>by
  obtain ⟨r,rfl,hr⟩:=hv;have e:dw [.mk 1 0 [] (r.map aT)]=(dP (r.map aT)).map tx:=rfl;rw [e];have ef:iO [.mk 1 0 [] (r.map aT)]=iO (r.map aT):=by
   simp [iO,tV]
  rw [ef];clear e ef
  induction r with
  | nil=>exact ⟨(fun d h=>by cases h),rfl⟩
  | cons x r ih=>
   obtain ⟨i1,i2⟩:=ih fun y hy=>hr y (Vy _ hy);obtain ⟨ht,hq⟩:=hr x (by simp);by_cases h2:x.1=2
   ·have hso:wc (2,x.2):=by
     have:=hq (by omega);rw [← h2];exact this
    have e:(dP ((x::r).map aT))=x.2::dP (r.map aT):=by
     unfold dP;rw [Vu,Wr];simp [aT,leaf,iE,h2]
    have e3:iO ((x::r).map aT)=(2,x.2)::iO (r.map aT):=by
     rw [Vu,iO];simp [aT,leaf,tV,iO,h2]
    have et:fo (tx x.2)=[.tok (2,x.2)]:=by
     show fo (.mk 1 x.2 0 [])= _;rw [fo,if_pos rfl,qS hso]
    rw [e,e3,Vu,Wz,i2,et];refine ⟨fun d hd=> ?_,rfl⟩;rcases Vv.1 hd with rfl | hd
    ·rw [et];exact ⟨.tok hso trivial .nil,rfl⟩
    ·exact i1 d hd
   ·have h1:x.1=1:=by
     simp only [bl,V2,V4] at ht;omega
    have e:(dP ((x::r).map aT))=dP (r.map aT):=by
     unfold dP;rw [Vu,Wr];simp [aT,leaf,iE,h2]
    have e3:iO ((x::r).map aT)=iO (r.map aT):=by
     rw [Vu,iO];simp [aT,leaf,tV,iO,h1]
    rw [e,e3];exact ⟨i1,i2⟩
 | _,.cons (a:=a) (bs:=bs) (l:=l) ha hb hl=>by
  obtain ⟨i1,i2⟩:=wW l hl;have hd:=LD ha hb;have hne:l≠[]:=by
   cases hl <;> simp
  have e:dw (node 5 (a::bs)::l)=au (node 5 (a::bs))::dw l:=by
   unfold dw;cases l with
   | nil=>exact absurd rfl hne
   | cons x l=>
    have e1:(node 5 (a::bs)::x::l).length - 1=((x::l).length - 1)+1:=by simp
    rw [e1,W7,lO];rfl
  rw [e];refine ⟨fun d hdm=> ?_, ?_⟩
  ·rcases Vv.1 hdm with rfl | hdm
   ·exact ⟨hd.chain,hd.fm⟩
   ·exact i1 d hdm
  ·rw [Wz,i2,hd.eV];rfl
theorem En {s:B} (hv:bO s=true) (hg:dW (doc (tokens s))=true) (w:Int):
  let D:=row (cA 0 (dw (doc (tokens s)).kids))
  nb (tokens (jm w (fV D) [(D,0,false)] 0))=nb (tokens s)∧bO (jm w (fV D) [(D,0,false)] 0)=true:=by
 obtain ⟨l,e1,e2⟩:=mE (tokens s);have h9:=KJ _ (Bo _ _ (Wq _) hg);have hq:=yf _ s (Vn _) hv h9;rw [e2] at hg;have hdt:=me (Q:=Q1) _ _ _ e1 (gS s) hq (dD hg);obtain ⟨i1,i2⟩:=wW l hdt;obtain ⟨h1,h2,h3⟩:=yL (dw l) 0 i1;have hk:(doc (tokens s)).kids=l:=by rw [e2];rfl
 rw [hk];have hj:=zd w (fV (row (cA 0 (dw l)))) [(row (cA 0 (dw l)),0,false)] 0 (by simp [qc]) (by
  simp only [Qr,Wp];rw [LK];exact h3)
 have hit:GA [(row (cA 0 (dw l)),(0:Int),false)]=dc (cA 0 (dw l)):=by
  rw [GA,GA,VH];rfl
 rw [hit] at hj;obtain ⟨r1,r2⟩:=uI hj h1;exact ⟨by rw [r1,h2,i2,Ke s e2],r2⟩
theorem kj: ∀(l m:List Lay.Doc),bG (l++m)=bG l+bG m
 | [],m=>by simp [bG]
 | d::l,m=>by simp only [Vz,bG,kj l m];omega
theorem yO (d:Lay.Doc):bG [d]=fV d:=by simp [bG]
theorem FC (s:B):fV (tx s)=1:=rfl
theorem Oa:fV cf=1:=rfl
theorem qu:fV iD=1:=rfl
theorem we (n:Int) (l:List Lay.Doc):fV (zy n l)=1+bG l:=by simp [zy,fV]
theorem mC (l:List Lay.Doc):fV (sk l)=1+bG l:=by simp [sk,fV]
theorem BR (l:List Lay.Doc):fV (row l)=1+bG l:=by simp [row,fV]
theorem iI: ∀(D:List Lay.Doc) (i:Nat),bG (D.take i)+fV (D.getD i cf)+bG (D.drop (i+1))≤bG D+1
 | [],i=>by simp [bG,Oa]
 | d::D,0=>by simp [bG]
 | d::D,i+1=>by
  have:=iI D i;simp only [W7,List.getD_cons_succ,VK,bG];omega
theorem GV (D:List Lay.Doc) (i:Nat):fV (D.getD i cf)≤bG (D.drop i)+1:=by
 have:=iI (D.drop i) 0;have e:(D.drop i).getD 0 cf=D.getD i cf:=by
  rw [VI,VI,WI,Wk]
 rw [e] at this;omega
theorem NT (D:List Lay.Doc) (i:Nat):bG (D.take i)+bG (D.drop i)=bG D:=by
 rw [← kj,Wl]
theorem jv {ahead:List Lay.Doc} (h: ∀a∈ahead,fV a=1): ∀(i:Nat) (D:List Lay.Doc),bG (bI ahead i D)≤bG D+D.length
 | i,[]=>by simp [bI,bG]
 | i,d::D=>by
  have ih:=jv h (i+1) D;have h1: ∀j,fV (ahead.getD j cf)=1:=fun j=>by
   rw [VI];cases hj:ahead[j]? with
   | none=>rfl
   | some a=>exact h a (VQ hj)
  rw [bI];split
  ·simp only [Vs,bG,Vh];omega
  ·simp only [Vz,Vs,bG,Vh,h1];omega
theorem HB: ∀(ks:List T) (D:List Lay.Doc),bG (kX ks D)≤bG D+D.length
 | [],D=>by simp [kX,bG]
 | _:: _,[]=>by simp [kX,bG]
 | t::ks,d::D=>by
  have ih:=HB ks D;rw [kX];split
  ·simp only [bG,qu,Vh];omega
  ·simp only [bG,Vh];omega
theorem zY: ∀(p:T) (ks:List T) (D:List Lay.Doc),bG (fb p ks D)≤bG D+D.length
 | _,[],D=>by simp [fb,bG]
 | _,_:: _,[]=>by simp [fb,bG]
 | p,t::ks,d::D=>by
  have ih:=zY t ks D;have:fV (if jQ [gH] p=true then cf else iD)=1:=by split <;> rfl
  rw [fb];simp only [bG,this,Vh];omega
theorem wk: ∀a∈[cf],fV a=1:=fun a h=>by rw [VR.1 h];rfl
theorem EB (D:List Lay.Doc):bG (kV D)≤bG D+D.length+3:=by
 unfold kV;have h1:=jv wk 0 (D.take (D.length - 1));have h2:=iI D (D.length - 1);have h3:(D.take (D.length - 1)).length≤D.length:=by rw [VB];omega
 rw [kj,yO,we];simp only [bG,qu];omega
theorem KY (k:Nat) (ks:List T) (D:List Lay.Doc) (h:2≤D.length):fV (dr k ks D)≤bG D+D.length+8:=by
 unfold dr;split
 ·have:=EB D;rw [mC];omega
 split
 ·have h1:=EB (D.take (D.length - 2));have h2:=iI D (D.length - 2);have h3:=GV D (D.length - 1);have h4:(D.take (D.length - 2)).length≤D.length:=by rw [VB];omega
  have e:D.length - 2+1=D.length - 1:=by omega
  rw [e] at h2;rw [mC,kj];simp only [bG,qu];omega
 split
 ·have:=jv (ahead:=[cf,iD,cf,iD,cf]) (fun a ha=>by
   simp only [Vv,VJ,or_false] at ha;rcases ha with rfl | rfl | rfl | rfl | rfl <;> rfl) 0 D
  rw [mC];omega
 split
 ·have h1:=jv wk 0 (D.take 3);have h2:=zY (ks.getD 2 default) (ks.drop 3) (D.drop 3);have h3:=NT D 3;have h4:(D.take 3).length+(D.drop 3).length=D.length:=by rw [VB,VF];omega
  rw [mC,kj];omega
 split
 ·have h1:=jv wk 0 (D.take 2);have h2:=iI D 2;have h4:(D.take 2).length≤D.length:=by rw [VB];omega
  rw [mC,kj,yO,we];simp only [bG,qu];omega
 split
 ·have:=jv (ahead:=[iD,cf]) (fun a ha=>by
   simp only [Vv,VJ,or_false] at ha;rcases ha with rfl | rfl <;> rfl) 0 D
  rw [mC];omega
 split
 ·have:=jv wk 0 D;rw [BR];omega
 split
 ·have h1:=iI D 0;have h2:=GV D 1;simp only [List.take_zero,bG,VC] at h1;rw [mC];simp only [bG,we,qu];omega
 ·have h1:=iI D 0;have h2:=iI (D.drop 1) (D.length - 2);have h3:=HB ((ks.drop 1).take (ks.length - 2)) ((D.drop 1).take (D.length - 2));have h4:((D.drop 1).take (D.length - 2)).length≤D.length:=by rw [VB];omega
  have e:(D.drop 1).getD (D.length - 2) cf=D.getD (D.length - 1) cf:=by
   rw [VI,VI,WI];congr 2;omega
  rw [e] at h2;simp only [List.take_zero,bG,VC] at h1;rw [mC];simp only [bG,we];omega
inductive sJ:T→Prop where
 | leaf {k:Nat} {s:B} {r:List bc}:k≠0→k≠2→wc (k,s)→(∀x∈r,bl x=true∧Q1 x)→sJ (.mk 1 k s (r.map aT))
 | node {k:Nat} {ks:List T}:k≠1→2≤ks.length→(∀x∈ks,sJ x)→sJ (node k ks)
theorem xw: ∀{r:List bc},(∀x∈r,bl x=true∧Q1 x)→(dP (r.map aT)).length≤(iO (r.map aT)).length
 | [],_=>by simp [dP,iO]
 | x::r,h=>by
  have ih:=xw (r:=r) fun y hy=>h y (Vy _ hy);unfold dP at ih ⊢;rw [Vu,Wr,iO,Vg];by_cases h2:x.1=2
  ·have e:iE (aT x)=some x.2:=by simp [aT,leaf,iE,h2]
   have e2:(tV (aT x)).length=1:=by simp [aT,leaf,tV,iO,h2]
   rw [e,e2,Vh];omega
  ·simp only [aT,leaf,iE,if_neg h2];omega
theorem Gp: ∀(l:List B),bG (l.flatMap fun r=>[tx r,iD])=2 * l.length
 | []=>rfl
 | x::l=>by
  rw [Wz,kj,Gp l];simp only [bG,FC,qu,Vh];omega
theorem J8 {t:T} (h:sJ t):fV (au t)+10≤12 * (tV t).length:=by
 induction h with
 | @leaf k s r h0 h2 hs hr=>
  have h1:=xw hr;have hk1:k≠1:=hs.k1;rw [au,if_pos rfl,AL,BR,kj,Gp,yO,FC,tV,if_pos ⟨rfl,hk1,h0⟩,Vg];simp only [Wj];omega
 | @node k ks hk hl hks ih=>
  have h1:=KY k ks (ks.map au) (by rw [VL];exact hl);rw [eY hk,sX hk];have h2: ∀(l:List T),(∀x∈l,fV (au x)+10≤12 * (tV x).length)→bG (l.map au)+10 * l.length≤12 * (iO l).length:=by
   intro l
   induction l with
   | nil=>intro _;simp [bG,iO]
   | cons x l ihl=>
    intro hx;have a:=ihl fun y hy=>hx y (Vy _ hy);have b:=hx x (by simp);simp only [Vu,bG,iO,Vg,Vh];omega
  have h3:=h2 ks ih;rw [VL] at h1;omega
theorem J4 (p:UInt8→Bool): ∀(l:B),∀x∈l.takeWhile p,p x=true
 | [],x,h=>by cases h
 | c::l,x,h=>by
  rw [V3] at h;split at h
  ·rename_i hc;rcases Vv.1 h with rfl | h
   ·exact hc
   ·exact J4 p l x h
  ·cases h
theorem Iv {k:Nat} {c:UInt8} {l:B} (hd:aO c=true) (h:number (c::l)=(k,(c::l).length)) (x:UInt8) (hx:bV x=true):x∉c::l:=by
 intro hm;obtain ⟨a,r,e⟩:=List.append_of_mem hm;cases a with
 | nil=>
  injection e with e1 _
  subst e1;rcases nY hx with rfl | rfl | rfl | rfl <;> cases hd
 | cons c' a=>
  injection e with e1 e2
  subst e1;have hst:pJ (x::r):= .inr ⟨x,r,rfl,CX hx⟩;have h1:=uA hst (c::a);rw [show c::a++x::r=c::l by rw [e2];rfl,h] at h1;have h2:=tW (c::a) (by rw [fk,if_pos hd];omega);have h3:=Wb Prod.snd h1;dsimp only at h3;rw [← h3,e2] at h2;simp at h2;omega
theorem Ga {k:Nat} {s:B} (h:wc (k,s)) (h2:k≠2) (h7:k≠7):(s.any fun b=>b==10)=false∧(s.any fun b=>b==13)=false:=by
 have key: ∀x:UInt8,bV x=true→x∉s:=by
  intro x hx;have hc:cut s=(k,s.length):=h.cut;have h1:k≠1:=h.k1;have h9:k≠9:=h.k9;cases s with
  | nil=>simp
  | cons c l=>
   simp only [cut] at hc;split at hc
   ·injection hc with e _;exact absurd e.symm h1
   split at hc
   ·split at hc
    ·injection hc with e _;exact absurd e.symm h2
    ·injection hc with e _;exact absurd e.symm h9
   split at hc
   ·injection hc with _ e
    intro hm;have e1:=qw gx (c::l);rw [e,VV] at e1;rw [e1] at hm;have:=J4 gx (c::l) x hm;rcases nY hx with rfl | rfl | rfl | rfl <;> cases this
   split at hc
   ·rename_i hd;exact Iv hd hc x hx
   split at hc
   ·injection hc with e _
    rcases ig l with h' | h'
    ·rw [h'] at e;exact absurd e.symm h7
    ·rw [h'] at e;exact absurd e.symm h9
   split at hc
   ·rename_i ht;injection hc with _ e
    have e2:(c::l).take 2=c::l:=List.take_of_length_le (by rw [← e];exact Vn _);rw [e2] at ht;have ht:=List.contains_iff_mem.1 ht;intro hm;have: ∀w∈gw,∀y∈w,bV y=false:=by decide
    rw [this _ ht x hm] at hx;cases hx
   split at hc
   ·rename_i ho;injection hc with _ e
    cases l with
    | cons _ _=>simp at e
    | nil=>
     intro hm;rw [VR] at hm;subst hm;have ho:=List.contains_iff_mem.1 ho;have: ∀y∈O5,bV y=false:=by decide
     rw [this _ ho] at hx;cases hx
   ·injection hc with e _;exact absurd e.symm h9
 constructor
 ·cases ha:s.any fun b=>b==10 with
  | false=>rfl
  | true=>
   obtain ⟨y,hy,e⟩:=List.any_eq_true.1 ha;rw [eq_of_beq e] at hy;exact absurd hy (key 10 rfl)
 ·cases ha:s.any fun b=>b==13 with
  | false=>rfl
  | true=>
   obtain ⟨y,hy,e⟩:=List.any_eq_true.1 ha;rw [eq_of_beq e] at hy;exact absurd hy (key 13 rfl)
structure Kd (k:Nat) (ks:List T):Prop where
 k1:k≠1
 two:2≤ks.length
 kind:5≤k∧k≤18
 k6:k=6→4≤ks.length
 k8:k=8→ks.length=6
 k9:k=9→4≤ks.length
 k10:k=10→ks.length=3
 k11:k=11→ks.length=3
 k12:k=12→ks.length=2
 k13:k=13→ks.length=2
 k16:k=16→ks.length=3
theorem uM {k:Nat} {ks:List T} (h:2≤ks.length) (hk:k=5∨k=7∨k=14∨k=15∨k=17∨k=18):Kd k ks:=⟨by omega,h,by omega,by omega,by omega,by omega,by omega,by omega,by omega,by omega,by omega⟩
theorem Km {Q:bc→Prop} {l:List T} (h:BT Q l):3≤l.length:=by
 cases h with
 | mk hr hp hps hq he=>simp only [Vg,Vh,Vj];omega
section
variable {Q:bc→Prop} {Pr:T→Prop} (hlf: ∀(k:Nat) (s:B) (r:List bc),k≠0→k≠1→k≠2→Q (k,s)→(∀x∈r,bl x=true∧Q x)→Pr (.mk 1 k s (r.map aT)))
 (hnd: ∀(k:Nat) (ks:List T),Kd k ks→(∀x∈ks,Pr x)→Pr (node k ks))
include hlf
theorem dM {s:B} {t:T} (h:Lf Q s t):Pr t:=by
 obtain ⟨k,ks,rfl,hk,hq,r,rfl,hr⟩:=h;exact hlf k s r (by omega) (by omega) (by omega) hq hr
include hnd
theorem Bv: ∀n,(∀t,SizeOf.sizeOf t < n→ET Q t→Pr t)∧(∀t,SizeOf.sizeOf t < n→PT Q t→Pr t)∧(∀t,SizeOf.sizeOf t < n→AT Q t→Pr t):=by
 intro n
 induction n with
 | zero=>exact ⟨fun _ h=>by omega,fun _ h=>by omega,fun _ h=>by omega⟩
 | succ n ih=>
  obtain ⟨ihE,ihP,ihA⟩:=ih;have eis: ∀(l:List T) (list:Bool),Ql Q list l→(∀x∈l,SizeOf.sizeOf x < n)→ ∀x∈l,Pr x:=by
   intro l
   induction l using List.oH with
   | nil=>intro list _ _ x hx;cases hx
   | one a=>intro list h _;cases h
   | two a b l ih2=>
    intro list h hs x hx;cases h with
    | cons hc hb hl=>
     rcases Vv.1 hx with rfl | hx
     ·exact dM hlf hc
     ·rcases Vv.1 hx with rfl | hx
      ·exact ihE x (hs x (by simp)) hb
      ·exact ih2 list hl (fun y hy=>hs y (by simp [hy])) x hx
  have pis: ∀(l:List T) (list:Bool),PD Q list l→(∀x∈l,SizeOf.sizeOf x < n)→ ∀x∈l,Pr x:=by
   intro l
   induction l using List.oH with
   | nil=>intro list _ _ x hx;cases hx
   | one a=>intro list h _;cases h
   | two a b l ih2=>
    intro list h hs x hx;cases h with
    | cons hc hb hl=>
     rcases Vv.1 hx with rfl | hx
     ·exact dM hlf hc
     ·rcases Vv.1 hx with rfl | hx
      ·exact ihP x (hs x (by simp)) hb
      ·exact ih2 list hl (fun y hy=>hs y (by simp [hy])) x hx
  have ass: ∀(l:List T),PA Q l→(∀x∈l,SizeOf.sizeOf x < n)→ ∀x∈l,Pr x:=by
   intro l
   induction l using List.oH with
   | nil=>intro _ _ x hx;cases hx
   | one a=>intro h _;cases h
   | two a b l ih2=>
    intro h hs x hx;cases h with
    | cons hc ha hl=>
     rcases Vv.1 hx with rfl | hx
     ·exact dM hlf hc
     ·rcases Vv.1 hx with rfl | hx
      ·exact ihA x (hs x (by simp)) ha
      ·exact ih2 hl (fun y hy=>hs y (by simp [hy])) x hx
  have bt: ∀(l:List T),BT Q l→(∀x∈l,SizeOf.sizeOf x < n)→ ∀x∈l,Pr x:=by
   intro l h hs x hx;cases h with
   | mk hr hp hps hq he=>
    simp only [Vv,VE,VR,VJ,or_false] at hx;rcases hx with ((hx | rfl | hx) | rfl) | rfl
    ·rcases hr with rfl | ⟨r,hr,rfl⟩
     ·cases hx
     ·rw [VR.1 hx];exact dM hlf hr
    ·exact ihP x (hs x (by simp)) hp
    ·exact ihP x (hs x (by simp [hx])) (hps x hx)
    ·exact dM hlf hq
    ·exact ihE x (hs x (by simp)) he
  refine ⟨fun t ht h=> ?_,fun t ht h=> ?_,fun t ht h=> ?_⟩
  ·have kid: ∀{k tk:Nat} {s:B} {l:List T},t=T.mk k tk s l→ ∀x∈l,SizeOf.sizeOf x < n:=fun {k tk s l} e x hx=>by
    subst e;have:=uk (k:=k) (tk:=tk) (s:=s) hx;omega
   cases h with
   | leaf hq hk hv=>
    obtain ⟨r,rfl,hr⟩:=hv;exact hlf _ _ r (by omega) (by omega) (by omega) hq hr
   | letin ha hb hi he=>
    rename_i a i e bs;have hbl:=Km hb;have hk:=kid rfl;refine hnd _ _ ⟨by decide,by simp,by decide,fun h=>by first | omega | (simp only [Vg,Vh,Vj];done) | (simp only [Vg,Vh,Vj];omega),fun h=>by first | omega | (simp only [Vg,Vh,Vj];done) | (simp only [Vg,Vh,Vj];omega),fun h=>by first | omega | (simp only [Vg,Vh,Vj];done) | (simp only [Vg,Vh,Vj];omega),fun h=>by first | omega | (simp only [Vg,Vh,Vj];done) | (simp only [Vg,Vh,Vj];omega),fun h=>by first | omega | (simp only [Vg,Vh,Vj];done) | (simp only [Vg,Vh,Vj];omega),fun h=>by first | omega | (simp only [Vg,Vh,Vj];done) | (simp only [Vg,Vh,Vj];omega),fun h=>by first | omega | (simp only [Vg,Vh,Vj];done) | (simp only [Vg,Vh,Vj];omega),fun h=>by first | omega | (simp only [Vg,Vh,Vj];done) | (simp only [Vg,Vh,Vj];omega)⟩ fun x hx=> ?_;simp only [Vv,Vz,VE,VR,VJ,or_false] at hx;rcases hx with rfl | (hx | rfl) | rfl
    ·exact dM hlf ha
    ·exact bt bs hb (fun y hy=>hk y (by simp [hy])) x hx
    ·exact dM hlf hi
    ·exact ihE x (hk x (by simp)) he
   | lambda hf hp hps ha he=>
    rename_i f p a e ps;have hk:=kid rfl;refine hnd _ _ (uM (by simp) (.inr (.inl rfl))) fun x hx=> ?_;simp only [Vv,Vz,VE,VR,VJ,or_false] at hx;rcases hx with rfl | rfl | (hx | rfl) | rfl
    ·exact dM hlf hf
    ·exact ihP x (hk x (by simp)) hp
    ·exact ihP x (hk x (by simp [hx])) (hps x hx)
    ·exact dM hlf ha
    ·exact ihE x (hk x (by simp)) he
   | ife hi ha ht' hb hl hc=>
    have hk:=kid rfl;refine hnd _ _ ⟨by decide,by simp,by decide,fun h=>by first | omega | (simp only [Vg,Vh,Vj];done) | (simp only [Vg,Vh,Vj];omega),fun h=>by first | omega | (simp only [Vg,Vh,Vj];done) | (simp only [Vg,Vh,Vj];omega),fun h=>by first | omega | (simp only [Vg,Vh,Vj];done) | (simp only [Vg,Vh,Vj];omega),fun h=>by first | omega | (simp only [Vg,Vh,Vj];done) | (simp only [Vg,Vh,Vj];omega),fun h=>by first | omega | (simp only [Vg,Vh,Vj];done) | (simp only [Vg,Vh,Vj];omega),fun h=>by first | omega | (simp only [Vg,Vh,Vj];done) | (simp only [Vg,Vh,Vj];omega),fun h=>by first | omega | (simp only [Vg,Vh,Vj];done) | (simp only [Vg,Vh,Vj];omega),fun h=>by first | omega | (simp only [Vg,Vh,Vj];done) | (simp only [Vg,Vh,Vj];omega)⟩ fun x hx=> ?_;simp only [Vv,VJ,or_false] at hx;rcases hx with rfl | rfl | rfl | rfl | rfl | rfl
    ·exact dM hlf hi
    ·exact ihE x (hk x (by simp)) ha
    ·exact dM hlf ht'
    ·exact ihE x (hk x (by simp)) hb
    ·exact dM hlf hl
    ·exact ihE x (hk x (by simp)) hc
   | mtch hm he hw hbar ha has=>
    rename_i m e w a bar as;have hk:=kid rfl;refine hnd _ _ ⟨by decide,by simp,by decide,fun h=>by first | omega | (simp only [Vg,Vh,Vj];done) | (simp only [Vg,Vh,Vj];omega),fun h=>by first | omega | (simp only [Vg,Vh,Vj];done) | (simp only [Vg,Vh,Vj];omega),fun h=>by first | omega | (simp only [Vg,Vh,Vj];done) | (simp only [Vg,Vh,Vj];omega),fun h=>by first | omega | (simp only [Vg,Vh,Vj];done) | (simp only [Vg,Vh,Vj];omega),fun h=>by first | omega | (simp only [Vg,Vh,Vj];done) | (simp only [Vg,Vh,Vj];omega),fun h=>by first | omega | (simp only [Vg,Vh,Vj];done) | (simp only [Vg,Vh,Vj];omega),fun h=>by first | omega | (simp only [Vg,Vh,Vj];done) | (simp only [Vg,Vh,Vj];omega),fun h=>by first | omega | (simp only [Vg,Vh,Vj];done) | (simp only [Vg,Vh,Vj];omega)⟩ fun x hx=> ?_;simp only [Vv,Vz,VE,VR,VJ,or_false] at hx;rcases hx with rfl | rfl | rfl | hx | rfl | hx
    ·exact dM hlf hm
    ·exact ihE x (hk x (by simp)) he
    ·exact dM hlf hw
    ·rcases hbar with rfl | ⟨b,hb,rfl⟩
     ·cases hx
     ·rw [VR.1 hx];exact dM hlf hb
    ·exact ihA x (hk x (by simp)) ha
    ·exact ass as has (fun y hy=>hk y (by simp [hy])) x hx
   | bin ha ho hb=>
    have hk:=kid rfl;refine hnd _ _ ⟨by decide,by simp,by decide,fun h=>by first | omega | (simp only [Vg,Vh,Vj];done) | (simp only [Vg,Vh,Vj];omega),fun h=>by first | omega | (simp only [Vg,Vh,Vj];done) | (simp only [Vg,Vh,Vj];omega),fun h=>by first | omega | (simp only [Vg,Vh,Vj];done) | (simp only [Vg,Vh,Vj];omega),fun h=>by first | omega | (simp only [Vg,Vh,Vj];done) | (simp only [Vg,Vh,Vj];omega),fun h=>by first | omega | (simp only [Vg,Vh,Vj];done) | (simp only [Vg,Vh,Vj];omega),fun h=>by first | omega | (simp only [Vg,Vh,Vj];done) | (simp only [Vg,Vh,Vj];omega),fun h=>by first | omega | (simp only [Vg,Vh,Vj];done) | (simp only [Vg,Vh,Vj];omega),fun h=>by first | omega | (simp only [Vg,Vh,Vj];done) | (simp only [Vg,Vh,Vj];omega)⟩ fun x hx=> ?_;simp only [Vv,VJ,or_false] at hx;rcases hx with rfl | rfl | rfl
    ·exact ihE x (hk x (by simp)) ha
    ·exact dM hlf ho
    ·exact ihE x (hk x (by simp)) hb
   | un ho ha=>
    have hk:=kid rfl;refine hnd _ _ ⟨by decide,by simp,by decide,fun h=>by first | omega | (simp only [Vg,Vh,Vj];done) | (simp only [Vg,Vh,Vj];omega),fun h=>by first | omega | (simp only [Vg,Vh,Vj];done) | (simp only [Vg,Vh,Vj];omega),fun h=>by first | omega | (simp only [Vg,Vh,Vj];done) | (simp only [Vg,Vh,Vj];omega),fun h=>by first | omega | (simp only [Vg,Vh,Vj];done) | (simp only [Vg,Vh,Vj];omega),fun h=>by first | omega | (simp only [Vg,Vh,Vj];done) | (simp only [Vg,Vh,Vj];omega),fun h=>by first | omega | (simp only [Vg,Vh,Vj];done) | (simp only [Vg,Vh,Vj];omega),fun h=>by first | omega | (simp only [Vg,Vh,Vj];done) | (simp only [Vg,Vh,Vj];omega),fun h=>by first | omega | (simp only [Vg,Vh,Vj];done) | (simp only [Vg,Vh,Vj];omega)⟩ fun x hx=> ?_;simp only [Vv,VJ,or_false] at hx;rcases hx with rfl | rfl
    ·rcases ho with ho | ho <;> exact dM hlf ho
    ·exact ihE x (hk x (by simp)) ha
   | app ha hb=>
    have hk:=kid rfl;refine hnd _ _ ⟨by decide,by simp,by decide,fun h=>by first | omega | (simp only [Vg,Vh,Vj];done) | (simp only [Vg,Vh,Vj];omega),fun h=>by first | omega | (simp only [Vg,Vh,Vj];done) | (simp only [Vg,Vh,Vj];omega),fun h=>by first | omega | (simp only [Vg,Vh,Vj];done) | (simp only [Vg,Vh,Vj];omega),fun h=>by first | omega | (simp only [Vg,Vh,Vj];done) | (simp only [Vg,Vh,Vj];omega),fun h=>by first | omega | (simp only [Vg,Vh,Vj];done) | (simp only [Vg,Vh,Vj];omega),fun h=>by first | omega | (simp only [Vg,Vh,Vj];done) | (simp only [Vg,Vh,Vj];omega),fun h=>by first | omega | (simp only [Vg,Vh,Vj];done) | (simp only [Vg,Vh,Vj];omega),fun h=>by first | omega | (simp only [Vg,Vh,Vj];done) | (simp only [Vg,Vh,Vj];omega)⟩ fun x hx=> ?_;simp only [Vv,VJ,or_false] at hx;rcases hx with rfl | rfl
    ·exact ihE x (hk x (by simp)) ha
    ·exact ihE x (hk x (by simp)) hb
   | none ho hc=>
    rename_i list o c;refine hnd _ _ (uM (by simp) (by cases list <;> simp [kindOf])) fun x hx=> ?_;simp only [Vv,VJ,or_false] at hx;rcases hx with rfl | rfl
    ·exact dM hlf ho
    ·exact dM hlf hc
   | some ho ha hl hc=>
    rename_i list o c a l;have hk:=kid rfl;refine hnd _ _ (uM (by simp) (by cases list <;> simp [kindOf])) fun x hx=> ?_;simp only [Vv,Vz,VE,VR,VJ,or_false] at hx;rcases hx with rfl | rfl | hx | rfl
    ·exact dM hlf ho
    ·exact ihE x (hk x (by simp)) ha
    ·exact eis l list hl (fun y hy=>hk y (by simp [hy])) x hx
    ·exact dM hlf hc
  ·have kid: ∀{k tk:Nat} {s:B} {l:List T},t=T.mk k tk s l→ ∀x∈l,SizeOf.sizeOf x < n:=fun {k tk s l} e x hx=>by
    subst e;have:=uk (k:=k) (tk:=tk) (s:=s) hx;omega
   cases h with
   | leaf hq hk hv=>
    obtain ⟨r,rfl,hr⟩:=hv;exact hlf _ _ r (by omega) (by omega) (by omega) hq hr
   | cons ha ho hb=>
    have hk:=kid rfl;refine hnd _ _ ⟨by decide,by simp,by decide,fun h=>by first | omega | (simp only [Vg,Vh,Vj];done) | (simp only [Vg,Vh,Vj];omega),fun h=>by first | omega | (simp only [Vg,Vh,Vj];done) | (simp only [Vg,Vh,Vj];omega),fun h=>by first | omega | (simp only [Vg,Vh,Vj];done) | (simp only [Vg,Vh,Vj];omega),fun h=>by first | omega | (simp only [Vg,Vh,Vj];done) | (simp only [Vg,Vh,Vj];omega),fun h=>by first | omega | (simp only [Vg,Vh,Vj];done) | (simp only [Vg,Vh,Vj];omega),fun h=>by first | omega | (simp only [Vg,Vh,Vj];done) | (simp only [Vg,Vh,Vj];omega),fun h=>by first | omega | (simp only [Vg,Vh,Vj];done) | (simp only [Vg,Vh,Vj];omega),fun h=>by first | omega | (simp only [Vg,Vh,Vj];done) | (simp only [Vg,Vh,Vj];omega)⟩ fun x hx=> ?_;simp only [Vv,VJ,or_false] at hx;rcases hx with rfl | rfl | rfl
    ·exact ihP x (hk x (by simp)) ha
    ·exact dM hlf ho
    ·exact ihP x (hk x (by simp)) hb
   | none ho hc=>
    rename_i list o c;refine hnd _ _ (uM (by simp) (by cases list <;> simp [kindOf])) fun x hx=> ?_;simp only [Vv,VJ,or_false] at hx;rcases hx with rfl | rfl
    ·exact dM hlf ho
    ·exact dM hlf hc
   | some ho ha hl hc=>
    rename_i list o c a l;have hk:=kid rfl;refine hnd _ _ (uM (by simp) (by cases list <;> simp [kindOf])) fun x hx=> ?_;simp only [Vv,Vz,VE,VR,VJ,or_false] at hx;rcases hx with rfl | rfl | hx | rfl
    ·exact dM hlf ho
    ·exact ihP x (hk x (by simp)) ha
    ·exact pis l list hl (fun y hy=>hk y (by simp [hy])) x hx
    ·exact dM hlf hc
  ·have kid: ∀{k tk:Nat} {s:B} {l:List T},t=T.mk k tk s l→ ∀x∈l,SizeOf.sizeOf x < n:=fun {k tk s l} e x hx=>by
    subst e;have:=uk (k:=k) (tk:=tk) (s:=s) hx;omega
   cases h with
   | mk hp ha he=>
    have hk:=kid rfl;refine hnd _ _ ⟨by decide,by simp,by decide,fun h=>by first | omega | (simp only [Vg,Vh,Vj];done) | (simp only [Vg,Vh,Vj];omega),fun h=>by first | omega | (simp only [Vg,Vh,Vj];done) | (simp only [Vg,Vh,Vj];omega),fun h=>by first | omega | (simp only [Vg,Vh,Vj];done) | (simp only [Vg,Vh,Vj];omega),fun h=>by first | omega | (simp only [Vg,Vh,Vj];done) | (simp only [Vg,Vh,Vj];omega),fun h=>by first | omega | (simp only [Vg,Vh,Vj];done) | (simp only [Vg,Vh,Vj];omega),fun h=>by first | omega | (simp only [Vg,Vh,Vj];done) | (simp only [Vg,Vh,Vj];omega),fun h=>by first | omega | (simp only [Vg,Vh,Vj];done) | (simp only [Vg,Vh,Vj];omega),fun h=>by first | omega | (simp only [Vg,Vh,Vj];done) | (simp only [Vg,Vh,Vj];omega)⟩ fun x hx=> ?_;simp only [Vv,VJ,or_false] at hx;rcases hx with rfl | rfl | rfl
    ·exact ihP x (hk x (by simp)) hp
    ·exact dM hlf ha
    ·exact ihE x (hk x (by simp)) he
end
mutual
def OT:Lay.Doc→Bool
 | .mk _ _ m kids=>decide (m≤4)&&F9 kids
def F9:List Lay.Doc→Bool
 | []=>true
 | d::l=>OT d&&F9 l
end
def MS (d:Lay.Doc):Prop:=nz d=true∧OT d=true
def sB (l:List Lay.Doc):Prop:= ∀d∈l,MS d
theorem tD: ∀{l:List Lay.Doc},sB l→pf l=true∧F9 l=true
 | [],_=>⟨rfl,rfl⟩
 | d::l,h=>by
  obtain ⟨a,b⟩:=tD (l:=l) fun x hx=>h x (Vy _ hx);obtain ⟨c,e⟩:=h d (by simp);simp only [pf,F9,a,b,c,e];exact ⟨rfl,rfl⟩
theorem en:sB []:=fun _ h=>by cases h
theorem bJ {d:Lay.Doc} {l:List Lay.Doc} (h:MS d) (hl:sB l):sB (d::l):=fun x hx=>by
 rcases Vv.1 hx with rfl | hx
 ·exact h
 ·exact hl x hx
theorem oC {l m:List Lay.Doc} (h:sB l) (hm:sB m):sB (l++m):=fun x hx=>by
 rcases VE.1 hx with hx | hx
 ·exact h x hx
 ·exact hm x hx
theorem JY {s:B} (hv:bO s=true) (h:(s.any fun b=>b==10)=false∧(s.any fun b=>b==13)=false):MS (tx s):=by
 constructor
 ·simp [tx,nz,pf,J6,hv,h.1,h.2]
 ·simp [tx,OT,F9]
theorem uf:MS cf:=JY rfl ⟨rfl,rfl⟩
theorem lH:MS iD:=⟨rfl,rfl⟩
theorem Ll:MS KE:=⟨rfl,rfl⟩
theorem Cr {n:Int} (h0:0≤n) (h4:n≤4) {l:List Lay.Doc} (h:sB l):MS (zy n l):=by
 obtain ⟨a,b⟩:=tD h;constructor
 ·simp only [zy,nz,J6,a,Wp,show ¬ (5:Int)=1 by omega,show ¬ ((5:Int)=2∨(5:Int)=3∨(5:Int)=4) by omega,if_false,if_true,Vl,V1];exact ⟨⟨h0,by omega⟩,rfl⟩
 ·simp only [zy,OT,b,Wp,V1];exact h4
theorem pC {l:List Lay.Doc} (h:sB l):MS (sk l):=by
 obtain ⟨a,b⟩:=tD h;constructor
 ·simp [sk,nz,J6,a]
 ·simp [sk,OT,b]
theorem Fm {l:List Lay.Doc} (h:sB l):MS (row l):=by
 obtain ⟨a,b⟩:=tD h;constructor
 ·simp [row,nz,J6,a]
 ·simp [row,OT,b]
theorem lq {D:List Lay.Doc} (h:sB D) (i:Nat):MS (D.getD i cf):=by
 rw [VI];cases hj:D[i]? with
 | none=>exact uf
 | some a=>exact h a (VQ hj)
theorem tg {D:List Lay.Doc} (h:sB D) (i:Nat):sB (D.take i):=fun x hx=>h x (List.mem_of_mem_take hx)
theorem GM {D:List Lay.Doc} (h:sB D) (i:Nat):sB (D.drop i):=fun x hx=>h x (List.mem_of_mem_drop hx)
theorem lE {ahead:List Lay.Doc} (ha:sB ahead): ∀(i:Nat) {D:List Lay.Doc},sB D→sB (bI ahead i D)
 | i,[],_=>en
 | i,d::D,h=>by
  rw [bI];refine oC ?_ (bJ (h d (by simp)) (lE ha (i+1) fun x hx=>h x (Vy _ hx)));split
  ·exact en
  ·exact bJ (lq ha _) en
theorem Kn: ∀(ks:List T) {D:List Lay.Doc},sB D→sB (kX ks D)
 | [],_,_=>en
 | _:: _,[],_=>en
 | t::ks,d::D,h=>by
  have ih:=Kn ks (D:=D) fun x hx=>h x (Vy _ hx);rw [kX];refine bJ (h d (by simp)) ?_;split
  ·exact bJ lH ih
  ·exact ih
theorem Ep: ∀(p:T) (ks:List T) {D:List Lay.Doc},sB D→sB (fb p ks D)
 | _,[],_,_=>en
 | _,_:: _,[],_=>en
 | p,t::ks,d::D,h=>by
  rw [fb];refine bJ ?_ (bJ (h d (by simp)) (Ep t ks fun x hx=>h x (Vy _ hx)));split
  ·exact uf
  ·exact lH
theorem tT:sB [cf]:=bJ uf en
theorem Hc {D:List Lay.Doc} (h:sB D):sB (kV D):=
 oC (lE tT 0 (tg h _)) (bJ (Cr (by decide) (by decide) (bJ lH (bJ (lq h _) en))) en)
theorem MI (k:Nat) (ks:List T) {D:List Lay.Doc} (h:sB D):MS (dr k ks D):=by
 unfold dr;split
 ·exact pC (Hc h)
 split
 ·exact pC (oC (Hc (tg h _)) (bJ lH (bJ (lq h _) (bJ lH (bJ (lq h _) en)))))
 split
 ·exact pC (lE (bJ uf (bJ lH (bJ uf (bJ lH (bJ uf en))))) 0 h)
 split
 ·exact pC (oC (lE tT 0 (tg h _)) (Ep _ _ (GM h _)))
 split
 ·exact pC (oC (lE tT 0 (tg h _)) (bJ (Cr (by decide) (by decide) (bJ lH (bJ (lq h _) en))) en))
 split
 ·exact pC (lE (bJ lH tT) 0 h)
 split
 ·exact Fm (lE tT 0 h)
 split
 ·exact pC (bJ (lq h _) (bJ (Cr (by decide) (by decide) (bJ lH (bJ (lq h _) en))) en))
 ·exact pC (bJ (lq h _) (bJ (Cr (by decide) (by decide) (Kn _ (tg (GM h _) _))) (bJ (lq h _) en)))
theorem GQ (s:B):(s.any fun c=>c==10||c==13)=false→(s.any fun b=>b==10)=false∧(s.any fun b=>b==13)=false:=by
 induction s with
 | nil=>intro _;exact ⟨rfl,rfl⟩
 | cons c s ih=>
  intro h;simp only [WH,V0] at h ⊢;exact ⟨⟨h.1.1,(ih h.2).1⟩,h.1.2,(ih h.2).2⟩
theorem Cv: ∀{r:List bc},(∀x∈r,bl x=true∧Q1 x)→fu (r.map aT)=false→ ∀s∈dP (r.map aT),MS (tx s)
 | [],_,_=>fun s h=>by simp [dP] at h
 | x::r,h,he=>by
  rw [Vu,fu,V0] at he;have ih:=Cv (r:=r) (fun y hy=>h y (Vy _ hy)) he.2;intro s hs;unfold dP at hs ih;rw [Vu,Wr] at hs;by_cases h2:x.1=2
  ·have e:iE (aT x)=some x.2:=by simp [aT,leaf,iE,h2]
   rw [e] at hs;rcases Vv.1 hs with rfl | hs
   ·have hso:=(h x (by simp)).2 (by omega);refine JY hso.valid (GQ _ ?_);have:=he.1;simpa [aT,leaf,dn,fu,h2] using this
   ·exact ih s hs
  ·have e:iE (aT x)=none:=by simp [aT,leaf,iE,h2]
   rw [e] at hs;exact ih s hs
theorem wH: ∀{l:List T},fu l=false→ ∀x∈l,dn x=false
 | [],_,x,h=>by cases h
 | t::l,h,x,hx=>by
  rw [fu,V0] at h;rcases Vv.1 hx with rfl | hx
  ·exact h.1
  ·exact wH h.2 x hx
theorem Oj {t:T} (h:sJ t):dn t=false→MS (au t):=by
 induction h with
 | @leaf k s r h0 h2 hs hr=>
  intro he;simp only [dn,V0,Wo,WW] at he;have hm:MS (tx s):=by
   refine JY hs.valid ?_;by_cases h7:k=7
   ·subst h7;exact GQ _ (by simpa using he.1)
   ·exact Ga hs h2 h7
  rw [au,if_pos rfl,AL];refine Fm (oC (fun d hd=> ?_) (bJ hm en));obtain ⟨x,hx,hd⟩:=List.mem_flatMap.1 hd;simp only [Vv,VJ,or_false] at hd;rcases hd with rfl | rfl
  ·exact Cv hr he.2 x hx
  ·exact lH
 | @node k ks hk hl hks ih=>
  intro he;rw [node,dn,V0] at he;rw [eY hk];refine MI k ks fun d hd=> ?_;obtain ⟨x,hx,rfl⟩:=We.1 hd;exact ih x hx (wH he.2 x hx)
theorem Aq (k:Nat) (s:B) (r:List bc) (h0:k≠0) (h1:k≠1) (h2:k≠2) (hq:Q1 (k,s)) (hr: ∀x∈r,bl x=true∧Q1 x):sJ (.mk 1 k s (r.map aT)):= .leaf h0 h2 (hq h1) hr
theorem Iu (k:Nat) (ks:List T) (h:Kd k ks) (hk: ∀x∈ks,sJ x):sJ (node k ks):= .node h.k1 h.two hk
theorem Bi {s:B} {t:T} (h:Lf Q1 s t):sJ t:=dM Aq h
theorem ya (n:Nat):(∀t,SizeOf.sizeOf t < n→ET Q1 t→sJ t)∧(∀t,SizeOf.sizeOf t < n→PT Q1 t→sJ t)∧(∀t,SizeOf.sizeOf t < n→AT Q1 t→sJ t):=Bv Aq Iu n
end Go.Format
namespace Go.Lay
mutual
def DY:Doc→Nat
 | .mk _ _ m kids=>m.toNat+vN kids
def vN:List Doc→Nat
 | []=>0
 | d::l=>DY d+vN l
end
def Eb:List iC→Nat
 | []=>0
 | t::l=>DY t.1+Eb l
theorem iW (ks:List Doc) (i:Int) (f:Bool) (l:List iC):Eb (dB ks i f++l)=vN ks+Eb l:=by
 induction ks with
 | nil=>simp [dB,vN]
 | cons d ks ih=>simp only [dB,Vu,Vz,Eb,vN] at ih ⊢;rw [ih];omega
end Go.Lay
