/-
  A part of the proof.
-/
import Derived.Test.YtkpeicabocpbkaaGreatDoorVmBD
import Derived.Lib.TrimUEq
import Derived.Lib.AtoiAll
set_option linter.all false
namespace Go.VM
open Go.Lib
def mZ (n a b c d:Nat):Nat:=
 if a < 128 then 1
 else if 194<=a/\a<=223 then (if n < 2\/b < 128\/191 < b then 0 else 2)
 else if 224<=a/\a<=239 then (if n < 3\/b < 128\/191 < b\/c < 128\/191 < c\/(a=224/\b < 160)\/(a=237/\159 < b) then 0 else 3)
 else if 240<=a/\a<=244 then (if n < 4\/b < 128\/191 < b\/c < 128\/191 < c\/d < 128\/191 < d\/(a=240/\b < 144)\/(a=244/\143 < b) then 0 else 4)
 else 0
set_option maxHeartbeats 2000000 in
theorem Ia {n a b f g:Nat} (h0:a < 256) (h1:b < 256) (m:f < 256) (o:g < 256):
  (mZ n a b f g=0/\decodeN n a b f g=(65533,1))\/(mZ n a b f g=1/\a < 128/\decodeN n a b f g=(a,1))\/(2<=mZ n a b f g/\(decodeN n a b f g).2=mZ n a b f g):=by
 by_cases h:a < 128
 .refine .inr (.inl ⟨?_,h, ?_⟩)
  .unfold mZ;rw [if_pos h]
  .unfold decodeN;rw [if_pos h]
 by_cases z:mZ n a b f g=0
 .refine .inl ⟨z, ?_⟩;unfold mZ at z;unfold decodeN
  repeat' split
  all_goals first | rfl | (exfalso;(repeat' (split at z));all_goals omega)
 .have l:(mZ n a b f g=2/\(194<=a/\a<=223)/\¬ (n < 2\/b < 128\/191 < b))\/
    (mZ n a b f g=3/\(224<=a/\a<=239)/\¬ (n < 3\/b < 128\/191 < b\/f < 128\/191 < f\/(a=224/\b < 160)\/(a=237/\159 < b)))\/
    (mZ n a b f g=4/\(240<=a/\a<=244)/\¬ (n < 4\/b < 128\/191 < b\/f < 128\/191 < f\/g < 128\/191 < g\/(a=240/\b < 144)\/(a=244/\143 < b))):=by
   unfold mZ at z ⊢;rw [if_neg h] at z ⊢;by_cases i:194<=a/\a<=223
   .rw [if_pos i] at z ⊢;by_cases d:n < 2\/b < 128\/191 < b
    .rw [if_pos d] at z;omega
    .rw [if_neg d];exact .inl ⟨rfl,i,d⟩
   rw [if_neg i] at z ⊢;by_cases j:224<=a/\a<=239
   .rw [if_pos j] at z ⊢;by_cases d:n < 3\/b < 128\/191 < b\/f < 128\/191 < f\/(a=224/\b < 160)\/(a=237/\159 < b)
    .rw [if_pos d] at z;omega
    .rw [if_neg d];exact .inr (.inl ⟨rfl,j,d⟩)
   rw [if_neg j] at z ⊢;by_cases k:240<=a/\a<=244
   .rw [if_pos k] at z ⊢;by_cases d:n < 4\/b < 128\/191 < b\/f < 128\/191 < f\/g < 128\/191 < g\/(a=240/\b < 144)\/(a=244/\143 < b)
    .rw [if_pos d] at z;omega
    .rw [if_neg d];exact .inr (.inr ⟨rfl,k,d⟩)
   .rw [if_neg k] at z;omega
  refine .inr (.inr ?_);rcases l with ⟨e,c,d⟩ | ⟨e,c,d⟩ | ⟨e,c,d⟩
  all_goals
   rw [e];refine ⟨by omega, ?_⟩;unfold decodeN
   repeat' split
   all_goals first | rfl | (exfalso;omega)
theorem SY {n a b c d:Nat} (h:1<=n):mZ n a b c d<=n:=by
 unfold mZ
 repeat' split
 all_goals omega
def gC (l:LB):Nat:=mZ l.length (l.getD 0 0).toNat (l.getD 1 0).toNat (l.getD 2 0).toNat (l.getD 3 0).toNat
theorem pH (l:LB):(gC l=0/\decodeL l=(65533,1))\/(gC l=1/\(l.getD 0 0).toNat < 128/\decodeL l=((l.getD 0 0).toNat,1))\/(2<=gC l/\(decodeL l).2=gC l):=by
 unfold gC;rw [decodeL_N];exact Ia (UInt8.toNat_lt _) (UInt8.toNat_lt _) (UInt8.toNat_lt _) (UInt8.toNat_lt _)
theorem ri {l:LB} (h:l≠[]):gC l<=l.length:=SY (acd.2 h)
def oX:Nat->LB->Bool
 | 0,_=>true
 | n+1,l=>if l=[] then true else if gC l=0 then false else oX n (l.drop (gC l))
theorem vQ: ∀(n:Nat) (l:LB),validGoD n l=oX n l
 | 0,_=>rfl
 | n+1,l=>by
  unfold validGoD oX;by_cases h:l=[]
  .rw [if_pos h,if_pos h]
  rw [if_neg h,if_neg h];rcases pH l with ⟨h1,a⟩ | ⟨h1,a,c⟩ | ⟨h1,a⟩
  .have hd:(decodeL l).1=65533/\(decodeL l).2=1:=by rw [a];exact ⟨rfl,rfl⟩
   rw [if_pos hd,if_pos h1]
  .have hd:¬ ((decodeL l).1=65533/\(decodeL l).2=1):=by rw [c];show ¬ ((l.getD 0 0).toNat=65533/\ _);omega
   have b:¬ gC l=0:=by omega
   rw [if_neg hd,if_neg b,c,h1];exact vQ n _
  .have hd:¬ ((decodeL l).1=65533/\(decodeL l).2=1):=by omega
   have b:¬ gC l=0:=by omega
   rw [if_neg hd,if_neg b,a];exact vQ n _
def bH (l:LB):Bool:=oX l.length l
theorem Kw (l:LB):validD l=bH l:=vQ _ _
theorem xx: ∀(n m:Nat) (l:LB),l.length<=n->l.length<=m->oX n l=oX m l
 | 0,0,_,_,_=>rfl
 | 0,m+1,l,h,_=>by
  have:l=[]:=aaZ (by omega);subst this;simp [oX]
 | n+1,0,l,_,h=>by
  have:l=[]:=aaZ (by omega);subst this;simp [oX]
 | n+1,m+1,l,hn,hm=>by
  unfold oX;by_cases h:l=[]
  .rw [if_pos h,if_pos h]
  rw [if_neg h,if_neg h];by_cases a:gC l=0
  .rw [if_pos a,if_pos a]
  .rw [if_neg a,if_neg a,xx n m _ (by rw [aas];omega) (by rw [aas];omega)]
theorem jo {l:LB} (h:l≠[]):bH l=if gC l=0 then false else bH (l.drop (gC l)):=by
 unfold bH;have hl:0 < l.length:=acd.2 h;obtain ⟨n,hn⟩: ∃n,l.length=n+1:=⟨l.length - 1,by omega⟩;rw [hn];show (if l=[] then true else _)= _;rw [if_neg h];by_cases a:gC l=0
 .rw [if_pos a,if_pos a]
 .rw [if_neg a,if_neg a];exact xx _ _ _ (by rw [aas];omega) (aah _)
def eH (b:UInt8):Bool:=decide (b.toNat < 128)||decide (b.toNat > 191)
def chars (s:LB):Nat:=s.countP eH
theorem Bi (s:LB):chars s<=s.length:=List.countP_le_length
theorem KF {l:LB} (h:l≠[]) (c:gC l≠0):chars l=1+chars (l.drop (gC l)):=by
 have a:=ri h
 match l,h with
 | [b],_=>
  have h1:gC [b]=1:=by simp only [abl] at a;omega
  have r:b.toNat < 128:=by
   rcases pH [b] with ⟨n,_⟩ | ⟨_,n,_⟩ | ⟨n,_⟩
   .omega
   .exact n
   .omega
  rw [h1];simp [chars,eH,r]
 | b::e::l,_=>
  unfold gC at c a ⊢;unfold mZ at c a ⊢;simp only [List.getD_cons_zero,List.getD_cons_succ] at c a ⊢;by_cases o:b.toNat < 128
  .rw [if_pos o];simp [chars,eH,o,abC]
  rw [if_neg o] at c a ⊢;by_cases p:194<=b.toNat/\b.toNat<=223
  .rw [if_pos p] at c a ⊢;by_cases d:(b::e::l).length < 2\/e.toNat < 128\/191 < e.toNat
   .rw [if_pos d] at c;omega
   rw [if_neg d];have g:eH b=true:=by simp only [eH,aaP,aaT];omega
   have i:eH e=false:=by simp only [eH,aaO,abp];omega
   simp [chars,g,i,abC]
  rw [if_neg p] at c a ⊢
  match l with
  | []=>
   exfalso;simp only [aab,aae] at c a;revert c
   repeat' split
   all_goals omega
  | [f]=>
   simp only [aab,aae,List.getD_cons_zero] at c a ⊢;by_cases j:224<=b.toNat/\b.toNat<=239
   .rw [if_pos j] at c a ⊢;by_cases d:0+1+1+1 < 3\/e.toNat < 128\/191 < e.toNat\/f.toNat < 128\/191 < f.toNat\/(b.toNat=224/\e.toNat < 160)\/(b.toNat=237/\159 < e.toNat)
    .rw [if_pos d] at c;omega
    rw [if_neg d];have g:eH b=true:=by simp only [eH,aaP,aaT];omega
    have i:eH e=false:=by simp only [eH,aaO,abp];omega
    have k:eH f=false:=by simp only [eH,aaO,abp];omega
    simp [chars,g,i,k]
   rw [if_neg j] at c a ⊢;exfalso;revert c
   repeat' split
   all_goals omega
  | f::m::l=>
   simp only [List.getD_cons_zero,List.getD_cons_succ] at c a ⊢;by_cases j:224<=b.toNat/\b.toNat<=239
   .rw [if_pos j] at c a ⊢;by_cases d:(b::e::f::m::l).length < 3\/e.toNat < 128\/191 < e.toNat\/f.toNat < 128\/191 < f.toNat\/(b.toNat=224/\e.toNat < 160)\/(b.toNat=237/\159 < e.toNat)
    .rw [if_pos d] at c;omega
    rw [if_neg d];have g:eH b=true:=by simp only [eH,aaP,aaT];omega
    have i:eH e=false:=by simp only [eH,aaO,abp];omega
    have k:eH f=false:=by simp only [eH,aaO,abp];omega
    simp [chars,g,i,k,abC]
   rw [if_neg j] at c a ⊢;by_cases q:240<=b.toNat/\b.toNat<=244
   .rw [if_pos q] at c a ⊢;by_cases d:(b::e::f::m::l).length < 4\/e.toNat < 128\/191 < e.toNat\/f.toNat < 128\/191 < f.toNat\/m.toNat < 128\/191 < m.toNat\/(b.toNat=240/\e.toNat < 144)\/(b.toNat=244/\143 < e.toNat)
    .rw [if_pos d] at c;omega
    rw [if_neg d];have g:eH b=true:=by simp only [eH,aaP,aaT];omega
    have i:eH e=false:=by simp only [eH,aaO,abp];omega
    have k:eH f=false:=by simp only [eH,aaO,abp];omega
    have s:eH m=false:=by simp only [eH,aaO,abp];omega
    simp [chars,g,i,k,s,abC]
   .rw [if_neg q] at c;omega
theorem Ac: ∀(n:Nat) (s:ByteArray) (p:Nat),s.size<=p+n->bH (s.data.toList.drop p)=true->runeCountFrom s n p=chars (s.data.toList.drop p)
 | 0,s,p,h,_=>by
  have:s.data.toList.drop p=[]:=List.drop_eq_nil_of_le (by rw [<- size_eq];omega);rw [this];rfl
 | n+1,s,p,h,a=>by
  unfold runeCountFrom;by_cases f:p < s.size
  .rw [if_pos f];have b:s.data.toList.drop p≠[]:=by
    intro e;have:=aaY List.length e;rw [aas, <- size_eq] at this;simp at this;omega
   rw [jo b] at a;by_cases c:gC (s.data.toList.drop p)=0
   .rw [if_pos c] at a;cases a
   rw [if_neg c,abD] at a;have g:(Utf8.decode s p).2=gC (s.data.toList.drop p):=by
    rw [<- decodeL_drop];rcases pH (s.data.toList.drop p) with ⟨h1,_⟩ | ⟨h1,_,d⟩ | ⟨_,d⟩
    .exact absurd h1 c
    .rw [h1,d]
    .exact d
   rw [g,Ac n s _ (by omega) a,KF b c,abD]
  .rw [if_neg f];have:s.data.toList.drop p=[]:=List.drop_eq_nil_of_le (by rw [<- size_eq];omega);rw [this];rfl
theorem xQ {l:LB} (h:bH l=true):runeCountL l=chars l:=by
 have:=Ac l.length ⟨l.toArray⟩ 0 (by simp [ByteArray.size]) (by simpa using h);simpa [runeCountL,runeCount,ByteArray.size] using this
section
variable {β:Type} {O:tN}
theorem fC {f:LA->cY AV} {args:LA} {v:AV} (h:f args= .ok v) (st:St) (K:Kv β):cX O (dy (.lib f) args) st K=K v st q0:=by
 simp only [cX,oj,dy,h,qU,ai]
theorem xB {s:LB} (h:s.length < 9223372036854775807):iX [.str s]= .ok (.int .i64 (runeCountL s)):=by
 simp only [iX,cS.2 h]
theorem xn {s:LB} (h:s.length<=9223372036854775807):jU [.str s]= .ok (.bool (bH s)):=by
 simp only [jU,aaI h,Kw]
theorem Eh {s:LB} {n:Nat} (h:s.length * n<=140737488355328) (hn:n<=9223372036854775807):kE [.str s,.int .i64 (n:Int)]= .ok (.str (repeatL s n)):=by
 show (match (s.length * n).ble 140737488355328&&n.ble 9223372036854775807 with | true=> _ | false=> _)= _;rw [aaI h,aaI hn];rfl
theorem sN (c:UInt8): ∀(s:LB),decide (0<=indexByte s c)=s.any fun b=>b==c
 | []=>rfl
 | b::l=>by
  have ih:=sN c l;unfold indexByte;rw [abr];cases b==c with
  | true=>rfl
  | false=>
   rw [if_neg (by simp),aaV, <- ih];by_cases h:(indexByte l c== -1)=true
   .rw [if_pos h];have:=eq_of_beq h;rw [this]
   .rw [if_neg h];have hn:indexByte l c≠ -1:=fun e=>h (by rw [e];rfl);by_cases h0:0<=indexByte l c
    .rw [abh h0,abh (by omega)]
    .rw [abe h0,abe (by omega)]
theorem Bo (s:LB) (c:UInt8):fY [.str s,.str [c]]= .ok (.bool (s.any fun b=>b==c)):=by
 simp only [fY,sN]
theorem repeatL_one (c:UInt8): ∀(n:Nat),repeatL [c] n=List.replicate n c:=fun n=>by
 have:=repeatL_replicate c 1 n;simpa using this
end
end Go.VM
namespace Go.VM
open Go
@[simp] theorem vN (v:AV):oneOf [v]=v:=id rfl
@[simp] theorem Vx (cs:LA):notNil (.ip cs)=true:=id rfl
@[simp] theorem dU (i o:Nat):notNil (.mp i o)=true:=id rfl
@[simp] theorem oz (a:AV) (l:LA):(a::l).drop 1=l:=id rfl
@[simp] theorem ZR (a b:AV) (l:LA):(a::b::l).drop 2=l:=id rfl
@[simp] theorem WS (a b c:AV) (l:LA):(a::b::c::l).drop 3=l:=id rfl
@[simp] theorem Zh (a b c d:AV) (l:LA):(a::b::c::d::l).drop 4=l:=id rfl
@[simp] theorem ZP (a b c d e:AV) (l:LA):(a::b::c::d::e::l).drop 5=l:=id rfl
@[simp] theorem X2 (a:AV) (l:LA):jA 1 true (a::l)=some (.agg [a]):=id rfl
@[simp] theorem po (a b:AV) (l:LA):jA 2 true (a::b::l)=some (.agg [a,b]):=id rfl
@[simp] theorem YM (a b c:AV) (l:LA):jA 3 true (a::b::c::l)=some (.agg [a,b,c]):=id rfl
@[simp] theorem DX (a b c d:AV) (l:LA):jA 4 true (a::b::c::d::l)=some (.agg [a,b,c,d]):=id rfl
@[simp] theorem LF (cs:LA):AV.cells (.agg cs)=cs:=id rfl
@[simp] theorem VJ (s:LB):AV.cells (.str s)=[.str s]:=id rfl
@[simp] theorem VQ (k:IntKind) (n:Int):AV.cells (.int k n)=[.int k n]:=id rfl
@[simp] theorem Xm (f:Fn) (a b:LA):AV.cells (.fn f a b)=[.fn f a b]:=id rfl
@[simp] theorem RV (i:Nat) (o:VM.Obj):apart q0 ⟨[],.made i o⟩=true:=id rfl
@[simp] theorem R1 (i:Nat) (o:VM.Obj):apart ⟨[],.kept⟩ ⟨[],.made i o⟩=true:=id rfl
@[simp] theorem QG (i:Nat) (o:VM.Obj):apart ⟨[],.kept⟩ ⟨[i],.wrote i o⟩=true:=id rfl
theorem wrapN {n:Nat} (h:n<=9223372036854775807):IntKind.wrap .i64 (n:Int)=(n:Int):=wrap_i64 (by omega) (by omega)
theorem uL {n m:Nat} (h:n+m<=9223372036854775807):IntKind.wrap .i64 ((n:Int)+(m:Int))=((n+m:Nat):Int):=by rw [<- Int.natCast_add];exact wrapN h
theorem br {n:Nat} (h:n+1<=9223372036854775807):IntKind.wrap .i64 ((n:Int)+1)=((n+1:Nat):Int):=uL (m:=1) h
theorem oQ {n:Nat} (h:n+2<=9223372036854775807):IntKind.wrap .i64 ((n:Int)+2)=((n+2:Nat):Int):=uL (m:=2) h
theorem xH {n m:Nat} (h:m<=n) (hn:n<=9223372036854775807):IntKind.wrap .i64 ((n:Int) - (m:Int))=((n - m:Nat):Int):=by rw [<- wrapN (n:=n - m) (by omega)];congr 1;omega
theorem ky {a b:Nat} (h:a<=b):Nat.ble a b=true:=aaI h
theorem qP {st st':St} {z:Nat} {e:Td} {v:AV} {es:LA} {but:Nat->Prop} (h:jg st z e v es) (k:ba st st' but) (b: ∀j,dQ v j->¬ but j):jg st' z e v es:=by
 refine ⟨by rw [k.ro];exact aaL h.1 k.h,h.2.1, ?_⟩;rcases h.2.2 with h | h | ⟨j,a,c,d⟩
 .exact .inl h
 .exact .inr (.inl h)
 .exact .inr (.inr ⟨j,a,k.old _ _ (b j ⟨_,_,a⟩) c,by rw [k.ro];exact d⟩)
theorem Ql {st:St} {z:Nat} {e:Td} {x:AV} {es:LA} (h:jg st z e x es) {k:Nat} {v:AV} (b:es[k]? =some v) {β:Type} (st':St) (K:AV->Ln->Oq β):dB z x (k:Int) st' K=K (.ip v.cells) []:=by
 have a:k < es.length:=(abN.1 b).1;have c:z.beq z=true:=aby z;have hi:oR (k:Int) es.length=some k:=by
  show (match k.blt es.length with | true=>some k | false=>none)= _;rw [cS.2 a]
 have hn:ER es k=some v:=DL b;rcases h.2.2 with ⟨rfl | rfl,rfl⟩ | rfl | ⟨j,rfl,_⟩
 .simp at a
 .simp at a
 .simp only [dB,LR,c,hi,hn,ai]
 .simp only [dB,LR,c,hi,hn,ai]
theorem P6 {st:St} {z:Nat} {e:Td} {x:AV} {es:LA} (h:jg st z e x es) {β:Type} (K:Nat->Oq β):fq x K=K es.length:=by
 rcases h.2.2 with ⟨rfl | rfl,rfl⟩ | rfl | ⟨k,rfl,_⟩ <;> rfl
theorem Jc {st:St} {z b:Nat} {e:Td} {v:AV} {es:LA} (w:AV) (h:jg st z e v es) (a:fo (es.length+1) ⟨.other,z,b,[],false,false⟩=true):
  ∃v' st',jg st' z e v' (es++[w])/\ba st st' (dQ v)/\ ∃x,∀{β:Type} (K:Kv β),cq z b e v [w] st K=K v' st' x:=by
 obtain ⟨v',st',x,c,d,f,_⟩:=rZ (b:=b) (new:=[w]) h (by simp) a;exact ⟨v',st',d,f,x,fun K=>nI c K⟩
theorem rD {n z b:Nat} (hn:n<=1000000000) (a:b<=1000) (c:1<=z):fo n ⟨.other,z,b,[],false,false⟩=true:=by
 have:n * b<=1000000000 * 1000:=acg hn a;simp only [fo,ky (show n * b<=70368744177664 by omega),ky (show n<=70368744177664 by omega),ky c];rfl
theorem zY {st:St} {z:Nat} {e:Td} {v:AV} {es:LA} (h:jg st z e v es): ∃x,bF z x es/\ ∀n,freeze st 0 (n+1) v= .ok x:=by
 rcases h with ⟨_,hl,⟨rfl | rfl,rfl⟩ | rfl | ⟨k,rfl,_,_⟩⟩
 .exact ⟨.aD,bF.aD,fun _=>rfl⟩
 .exact ⟨.es,bF.emp,fun _=>rfl⟩
 .exact ⟨.sl z es .shut,bF.shut hl,fun _=>rfl⟩
 .exact ⟨.sl z es .wide,bF.wide hl,fun _=>rfl⟩
theorem Hd {st:St} {z:Nat} {e:Td} {v u:AV} {es:LA} (h:jg st z e v es) (b:Fz 1 u) (c:bare u=true): ∃x,bF z x es/\ ∀{β:Type} (K:AV->Oq β),eQ st 0 (.tup [v,u]) K=K (.tup [x,u]):=by
 obtain ⟨x,hx,d⟩:=zY h;refine ⟨x,hx,fun K=> ?_⟩;have f:freeze st 0 100 (.tup [v,u])= .ok (.tup [x,u]):=by
  show (do pure (.tup (<- kF (freeze st 0 99) [v,u])):cY AV)= _;have a:kF (freeze st 0 99) [v,u]= .ok [x,u]:=by
   simp only [kF,d 98,b st 0 99 (by omega),aA,aI]
  rw [a];rfl
 have a:bare (.tup [x,u])=true:=by
  show (bare x&&(bare u&&true))=true;rw [hx.bare,c];rfl
 simp only [eQ,f,a,aQ]
theorem rM {c d:UInt8} (h:c≠d):¬ ((c.toNat:Nat):Int)=(d.toNat:Int):=by
 intro k;have:c.toNat=d.toNat:=by omega
 exact h (abE.1 this)
theorem gU {s:LB} {i:Nat} {c:UInt8} (a:i < s.length) (b:s[i]? =some c):s[i]=c:=by
 have:=aax a;rw [b] at this;exact (abF this).symm
theorem Ge {agg:Bool} {β:Type}: ∀{l:LA} (_: ∀v∈l,∀(K:AV->Oq β),Ly agg v K=K v) (K:LA->Oq β),mJ agg l K=K l
 | [],_,_=>rfl
 | v::l,h,K=>by
  show Ly agg v (fun v'=>mJ agg l fun a=>K (v'::a))= _;rw [h v (by simp),Ge fun u b=>h u (aak _ b)]
theorem I4 {z:Nat} {l:LA} (h: ∀v∈l,v.cells.length=z):mg z l=true:=by
 refine abd.2 fun v a=> ?_;rw [h v a];exact aby z
theorem Jq {st:St} {base:Nat} {vs xs:LA} (h:kF (freeze st base 99) vs= .ok xs) (a:bN xs=true) {β:Type} (K:AV->Oq β):eQ st base (.tup vs) K=K (.tup xs):=by
 have e:freeze st base 100 (.tup vs)= .ok (.tup xs):=by
  show (do pure (.tup (<- kF (freeze st base 99) vs)):cY AV)= _;rw [h];rfl
 have b:bare (.tup xs)=true:=a;simp only [eQ,e,b,aQ]
theorem fT {g:AV->cY AV} {v x:AV} {vs xs:LA} (h:g v= .ok x) (hs:kF g vs= .ok xs):kF g (v::vs)= .ok (x::xs):=by
 simp only [kF,h,hs,aA,aI]
theorem uk {g:AV->cY AV}:kF g []= .ok []:=rfl
theorem Mc {β:Type} {O:tN} (v:AV) (st:St) (K:Kv β):cX O (.ok (.val v)) st K=K v st q0:=id rfl
theorem Jg {O:tN} {st:St} {id:Nat} {t:Td} {z:Nat} {old cs:LA} (v:AV) (b:st.get id= .ok (.cells t old)) (hl:old.length=z) (c:cs.length=z) (a:st.ro<=id):
  ∃st',st'.get id= .ok (.cells t cs)/\ba st st' (· =id)/\st'.h=st.h/\ ∃d,∀{β:Type} (K:Kv β),bm O z (.mp id 0) v cs st K=K undef st' d:=by
 refine ⟨st.put id (.cells t cs),St.bx (St.cZ.1 b).1,ba.put rfl,rfl,⟨[id],.wrote id (.cells t (dj old 0 cs))⟩,fun K=> ?_⟩;rw [eI b c (by omega) a,kP (by omega)]
def Rf (d:Nat) (v:AV):Prop:= ∀f,d<=f->ia f v v=true
theorem Rf.mono {d e:Nat} {v:AV} (h:Rf d v) (hd:d<=e):Rf e v:=fun f hf=>h f (aaL hd hf)
theorem uD: ∀s:LB,nj s s=true
 | []=>rfl
 | a::l=>by simp only [nj,aby];exact uD l
theorem mh {g:AV->AV->Bool}: ∀{l:LA},(∀v∈l,g v v=true)->fu g l l=true
 | [],_=>rfl
 | v::l,h=>by simp only [fu,h v (by simp)];exact mh fun u a=>h u (aak _ a)
theorem vy (k:IntKind) (n:Int):Rf 1 (.int k n):=fun f hf=>by cases f with | zero=>omega | succ f=>show (decide (k=k)&&decide (n=n))=true;simp
theorem HG (s:LB):Rf 1 (.str s):=fun f hf=>by cases f with | zero=>omega | succ f=>exact uD s
theorem EO:Rf 1 .aD:=fun f hf=>by cases f with | zero=>omega | succ f=>rfl
theorem NP:Rf 1 .es:=fun f hf=>by cases f with | zero=>omega | succ f=>rfl
theorem SA {d:Nat} {cs:LA} (h: ∀c∈cs,Rf d c):Rf (d+1) (.agg cs):=fun f hf=>by
 cases f with
 | zero=>omega
 | succ f=>exact mh fun v a=>h v a f (by omega)
theorem xp {d z:Nat} {p:Perm} {cs:LA} (h: ∀c∈cs,Rf d c):Rf (d+1) (.sl z cs p):=fun f hf=>by
 cases f with
 | zero=>omega
 | succ f=>
  show (z.beq z&&decide (p=p)&&fu (ia f) cs cs)=true;rw [mh fun v a=>h v a f (by omega)];simp
theorem Lo {st st':St} {i:Nat} {t:Td} {cs:LA} {d:Nat} (h1:st.get i= .ok (.cells t cs)) (a:st'.get i= .ok (.cells t cs)) (h: ∀c∈cs,Rf d c) (hd:d<=1000000000000000000):sameAt st st' i=true:=by
 have e:fu (ia 1000000000000000000) cs cs=true:=mh fun v b=>h v b _ hd;unfold sameAt;rw [h1,a];show (t.beq t&&fu (ia 1000000000000000000) cs cs)=true;rw [e];simp
theorem Li {st st':St} {i:Nat} (h:sameAt st st' i=true):apart ⟨[i],.kept⟩ ⟨[],.all st st'⟩=true:=by
 show ([i].all (sameAt st st'))=true;simp [h]
theorem zc {O:tN} {st:St} {id:Nat} {t:Td} {z:Nat} {old cs:LA} (v:AV) (b:st.get id= .ok (.cells t old)) (hl:old.length=z) (c:cs.length=z) (a:st.ro<=id):
  ∃st' o,st'.get id= .ok (.cells t cs)/\ba st st' (· =id)/\st'.h=st.h/\ ∀{β:Type} (K:Kv β),bm O z (.mp id 0) v cs st K=K undef st' ⟨[id],.wrote id o⟩:=by
 refine ⟨st.put id (.cells t cs),.cells t (dj old 0 cs),St.bx (St.cZ.1 b).1,ba.put rfl,rfl,fun K=> ?_⟩;rw [eI b c (by omega) a,kP (by omega)]
theorem NS {a i:Nat} {o:Obj} (h:a≠i):apart ⟨[a],.kept⟩ ⟨[i],.wrote i o⟩=true:=by
 show (![a].contains i)=true;simp [h.symm]
theorem Lz {i:Nat} {o:Obj}:apart ⟨[],.kept⟩ ⟨[i],.wrote i o⟩=true:=id rfl
theorem ba.Dc {st st':St} {p:Nat} (k:ba st st' (· =p)) {j:Nat} {o:Obj} (a:j≠p) (h:st.get j= .ok o):st'.get j= .ok o:=k.old j o a h
theorem ba.La {st st':St} {p q:Nat->Prop} (k:ba st st' p) (h: ∀j,p j->q j):ba st st' q:=⟨k.ro,k.h,fun j o a=>k.old j o fun b=>a (h j b)⟩
theorem ba.fresh {a b c:St} {p:Nat->Prop} {i:Nat} (h:ba a b p) (k:ba b c (· =i)) (hi:a.h<=i):ba a c p:=
 ⟨k.ro.trans h.ro,aaL h.h k.h,fun j o f d=>k.old j o (fun e=>by
  have:=(St.cZ.1 d).1;omega) (h.old j o f d)⟩
def aa {β:Type} (e:Oq β) (Q:β->Prop):Prop:= ∃b,e=some b/\Q b
section
variable {β:Type} {Q:β->Prop} {E:Env} {st:St}
theorem aa.step {e a:Oq β} (h:e=a) (g:aa a Q):aa e Q:=h ▸ g
theorem aa.some {b:β} (h:Q b):aa (.some b) Q:=⟨b,rfl,h⟩
theorem aa.mono {e:Oq β} {a:β->Prop} (h:aa e Q) (k: ∀b,Q b->a b):aa e a:=by
 obtain ⟨b,e,h⟩:=h;exact ⟨b,e,k b h⟩
theorem aa.bind {α:Type} {e:Oq α} {R:α->Prop} {K:α->Oq β} (h:aa e R) (g: ∀a,R a->aa (K a) Q):aa (ax e K) Q:=by
 obtain ⟨a,e,h⟩:=h;rw [e];exact g a h
theorem aa.wide {F:FuncId} {args:LA} {Q:AV×St->Prop} (h:aa (cT E F args st) Q):aa ((aY E).wide F args st) Q:=by
 obtain ⟨b,e,h⟩:=h;exact ⟨b,fW e,h⟩
theorem aa.bare {F:FuncId} {args:LA} {Q:AV->Prop} (hm:(E.memo F,(E.rule F).isSome)=([],false)) (h:aa (bz E F args) Q):aa ((aY E).bare F args) Q:=by
 obtain ⟨b,e,h⟩:=h;exact ⟨b,aM hm e,h⟩
theorem aa.iR {F:FuncId} {args:LA} {R:AV×St->Prop} (h:aa ((aY E).wide F args st) R) (h1:E.isLook F=false) (a:(bN (args.map strip)&& !E.full F)=false) {K:Kv β} (g: ∀v s,R (v,s)->aa (K v s ⟨[],.all st s⟩) Q):aa (aV (aY E) F args st K) Q:=by
 obtain ⟨⟨v,s⟩,e,h⟩:=h;exact aa.step (fh (E:=E) K h1 a e) (g v s h)
theorem aa.one {v:AV} (h:VM.one v=true) {e:Oq β} (g:aa e Q):aa (ab v e) Q:=aa.step (jS h e) g
abbrev FW:=List (Nat×Td×LA)
structure Vw (st:St) (l:FW):Prop where
 v: ∀q∈l,st.get q.1= .ok (.cells q.2.1 q.2.2)/\st.ro<=q.1
 nd:(l.map (·.1)).Nodup
 ro:st.ro<=st.h
variable {l l1 l2:FW}
theorem Vw.start (h:st.ro<=st.h):Vw st []:=⟨(fun _ h=>by cases h),List.nodup_nil,h⟩
theorem Vw.get (w:Vw st l) {a:Nat} {t:Td} {cs:LA} (h:(a,t,cs)∈l):st.get a= .ok (.cells t cs):=(w.v _ h).1
theorem Vw.sub {a:FW} (w:Vw st l) (h:List.Sublist a l):Vw st a:=⟨fun q b=>w.v q (h.subset b),(h.map _).nodup w.nd,w.ro⟩
theorem Vw.alloc (w:Vw st l) (t:Td) (cs:LA):Vw (st.add (.cells t cs)) ((st.h,t,cs)::l):=by
 refine ⟨fun q a=> ?_, ?_,acn w.ro⟩
 .rcases aam.1 a with rfl | a
  .exact ⟨St.dY,w.ro⟩
  .exact ⟨St.nF (w.v q a).1,(w.v q a).2⟩
 .rw [aal,abT];refine ⟨fun hm=> ?_,w.nd⟩;obtain ⟨q,a,e⟩:=abf.1 hm;have h1:=(St.cZ.1 (w.v q a).1).1;simp only at e;omega
theorem Vw.putAt {a:Nat} {t t':Td} {old:LA} (w:Vw st (l1++(a,t,old)::l2)) (cs:LA):Vw (st.put a (.cells t' cs)) (l1++(a,t',cs)::l2):=by
 have hm:(a,t,old)∈l1++(a,t,old)::l2:=List.mem_append_right _ aad;have f:=w.get hm;have hnd:=w.nd;rw [aaK,aal] at hnd;refine ⟨fun q b=> ?_,by rw [aaK,aal];exact hnd,w.ro⟩;have other: ∀q∈l1++(a,t,old)::l2,q.1≠a->(st.put a (.cells t' cs)).get q.1= .ok (.cells q.2.1 q.2.2)/\st.ro<=q.1:=fun q b c=>
  ⟨by rw [St.bD (fun e=>c e.symm)];exact (w.v q b).1,(w.v q b).2⟩
 rcases aaA.1 b with b | b
 .refine other q (List.mem_append_left _ b) fun e=> ?_;have:=(List.nodup_append.1 hnd).2.2 q.1 (List.mem_map_of_mem b) a aad;exact this e
 .rcases aam.1 b with rfl | b
  .exact ⟨St.bx (St.cZ.1 f).1,(w.v _ hm).2⟩
  .refine other q (List.mem_append_right _ (aak _ b)) fun e=> ?_;have h1:=(abT.1 (List.nodup_append.1 hnd).2.1).1;have d:q.1∈l2.map (·.1):=List.mem_map_of_mem b;rw [e] at d;exact h1 d
theorem aa.AA (w:Vw st l) {ty:Td} {cs:LA} {K:St->Oq β} (g: ∀s,s.h=st.h+1->Vw s ((st.h,ty,cs)::l)->aa (K s) Q):aa (bk (st.add (.cells ty cs)) K) Q:=g _ rfl (w.alloc ty cs)
theorem aa.mW {O:tN} (l1:FW) {a:Nat} {ty:Td} {old:LA} (w:Vw st (l1++(a,ty,old)::l2)) {z:Nat} {v:AV} {cs:LA} {K:Kv β}
  (g: ∀s b,s.h=st.h->Vw s (l1++(a,ty,cs)::l2)->aa (K VM.undef s b) Q) (d:old.length=z:=by rfl) (c:cs.length=z:=by rfl):aa (bm O z (.mp a 0) v cs st K) Q:=by
 have hm:(a,ty,old)∈l1++(a,ty,old)::l2:=List.mem_append_right _ aad;have e:bm O z (.mp a 0) v cs st K=K VM.undef (st.put a (.cells ty cs)) ⟨[a],.wrote a (.cells ty cs)⟩:=by
  rw [eI (w.get hm) c (by omega) (w.v _ hm).2,kP (by omega)]
 exact aa.step e (g _ _ rfl (w.putAt cs))
theorem aa.pI {a:Nat} {ty:Td} {cs:LA} (hm:(a,ty,cs)∈l) (w:Vw st l) {o:Nat} {v:AV} {post:LA} (b:cs.drop o=v::post) {K:AV->Ln->Oq β} (g:aa (K v [a]) Q):aa (ar 1 false (.mp a o) st K) Q:=by
 refine aa.step (bh (w.get hm) _ _ _ _) ?_;rw [b];exact g
theorem aa.ju {a:Nat} {ty:Td} {cs:LA} (hm:(a,ty,cs)∈l) (w:Vw st l) {z:Nat} (b:cs.length=z) {K:AV->Ln->Oq β} (g:aa (K (.agg cs) [a]) Q):aa (ar z true (.mp a 0) st K) Q:=by
 refine aa.step (bh (w.get hm) _ _ _ _) ?_;rw [aar,KV b];exact g
theorem aa.eq {e:Oq β} {b:β} (h:aa e (· =b)):e= .some b:=by
 obtain ⟨c,e,rfl⟩:=h;exact e
end
end Go.VM
namespace Go.Lay
open Go.VM Go.Lib
inductive Doc where
 | mk (kind:Int) (text:LB) (n:Int) (kids:List Doc)
 deriving Inhabited
mutual
def qF:Doc->Bool
 | .mk k _ _ kids=>k==4||Ee kids
def Ee:List Doc->Bool
 | []=>false
 | d::l=>qF d||Ee l
end
mutual
def gW:Doc->Nat
 | .mk _ _ _ kids=>1+bS kids
def bS:List Doc->Nat
 | []=>0
 | d::l=>gW d+bS l
end
theorem yG: ∀(d:Doc),1<=gW d
 | .mk _ _ _ _=>by simp [gW]
abbrev lx:=Doc×Int×Bool
def td:List lx->Nat
 | []=>0
 | t::l=>gW t.1+td l
mutual
def xT:Doc->Nat
 | .mk _ s _ kids=>s.length+ot kids
def ot:List Doc->Nat
 | []=>0
 | d::l=>xT d+ot l
end
def cL:List lx->Nat
 | []=>0
 | t::l=>xT t.1+cL l
def eP (ks:List Doc) (i:Int) (f:Bool):List lx:=ks.map fun d=>(d,i,f)
theorem fI (ks:List Doc) (i:Int) (f:Bool) (l:List lx):td (eP ks i f++l)=bS ks+td l:=by
 induction ks with
 | nil=>simp [eP,bS]
 | cons d ks ih=>simp only [eP,aal,aap,td,bS] at ih ⊢;rw [ih];omega
theorem iB (ks:List Doc) (i:Int) (f:Bool) (l:List lx):cL (eP ks i f++l)=ot ks+cL l:=by
 induction ks with
 | nil=>simp [eP,ot]
 | cons d ks ih=>simp only [eP,aal,aap,cL,ot] at ih ⊢;rw [ih];omega
theorem DQ: ∀(l:List lx),l.length<=td l
 | []=>aah _
 | t::l=>by have:=DQ l;have:=yG t.1;simp only [aab,td];omega
theorem Bc: ∀(l:List Doc),l.length<=bS l
 | []=>aah _
 | t::l=>by have:=Bc l;have:=yG t;simp only [aab,bS];omega
def sr (w:Int):Nat->List lx->Int->Bool
 | 0,_,c=>decide (c<=w)
 | _+1,[],c=>decide (c<=w)
 | n+1,(.mk k s _ kids,i,f)::l,c=>
  if c > w then false
  else if k=1 then sr w n l (c+chars s)
  else if k=2\/k=3 then (if f=false then true else sr w n l (if k=2 then c+1 else c))
  else if k=4 then true
  else sr w n (eP kids i (f||k==6)++l) c
def mf (w:Int):Nat->List lx->Int->LB
 | 0,_,_=>[]
 | _+1,[],_=>[]
 | n+1,(.mk k s m kids,i,f)::l,c=>
  if k=1 then s++mf w n l (c+chars s)
  else if k=5 then mf w n (eP kids (i+m) f++l) c
  else if k=6 then
   let flat:=f||(!qF (.mk k s m kids)&&sr w (td (eP kids i true++l)) (eP kids i true++l) c)
   mf w n (eP kids i flat++l) c
  else if k=7 then mf w n (eP kids i f++l) c
  else if f=true/\k≠4 then (if k=2 then 32::mf w n l (c+1) else mf w n l c)
  else 10::(List.replicate i.toNat 32++mf w n l i)
def Ux (k m:Int):Bool:=(k==1||k==2||k==3||k==4||k==6||k==7)&&m==0||k==5&&decide (0<=m)&&decide (m<=200)
def XF (I:Int) (l:List lx):Prop:= ∀t∈l,0<=t.2.1/\t.2.1<=I
theorem yN {I J i:Int} {ks:List Doc} {f:Bool} {l:List lx} (h:XF I l) (hi:0<=i) (b:i<=J) (c:I<=J):XF J (eP ks i f++l):=by
 intro t a;rcases aaA.1 a with a | a
 .obtain ⟨d,_,rfl⟩:=abf.1 a;exact ⟨hi,b⟩
 .have:=h t a;omega
def OJ (k:Int) (s:LB) (m:Int) (none:Bool):Bool:=
 if k=1 then m==0&&none&&bH s&& !(s.any fun b=>b==10)&& !(s.any fun b=>b==13)
 else if k=2\/k=3\/k=4 then m==0&&none&&s==[]
 else if k=5 then decide (0<=m)&&decide (m<=200)&&s==[]
 else if k=6\/k=7 then m==0&&s==[]
 else false
mutual
def ow:Doc->Bool
 | .mk k s m kids=>OJ k s m kids.isEmpty&&pU kids
def pU:List Doc->Bool
 | []=>true
 | d::l=>ow d&&pU l
end
def za:List lx->Bool
 | []=>true
 | t::l=>ow t.1&&za l
theorem P7 {k:Int} {s:LB} {m:Int} {b:Bool} (h:OJ k s m b=true):Ux k m=true:=by
 unfold OJ at h;unfold Ux;simp only [aaP,aaf,aaM,aaT];split at h
 .simp only [aaf,aaM] at h;omega
 .split at h
  .simp only [aaf,aaM] at h;omega
  .split at h
   .simp only [aaf,aaT] at h;omega
   .split at h
    .simp only [aaf,aaM] at h;omega
    .cases h
theorem oA {ks:List Doc} {i:Int} {f:Bool} {l:List lx} (h1:pU ks=true) (a:za l=true):za (eP ks i f++l)=true:=by
 induction ks with
 | nil=>simpa [eP] using a
 | cons d ks ih=>
  simp only [pU,aaf] at h1;have:=ih h1.2;simp only [eP,aal,aap,za,aaf] at this ⊢;exact ⟨h1.1,this⟩
def GM (d:Doc) (w:Int):LB×Int:=
 if w < 1\/w > 200 then ([],1) else if ow d=false then ([],4) else (mf w (gW d) [(d,0,false)] 0,0)
end Go.Lay
namespace Go.Lex
open Go.VM
def wh (p:UInt8->Bool) (s:LB):Nat:=(s.takeWhile p).length
def bw (b:UInt8):Bool:=b==32||b==9||b==10||b==13
def iP (b:UInt8):Bool:=(decide (97<=b.toNat)&&decide (b.toNat<=122))||b==95
def aC (b:UInt8):Bool:=decide (48<=b.toNat)&&decide (b.toNat<=57)
def eA (b:UInt8):Bool:=iP b||aC b||(decide (65<=b.toNat)&&decide (b.toNat<=90))||b==39
def rem:LB->Nat->Oq Nat
 | [],_=>none
 | [_],_=>none
 | a::b::l,d=>
  if a=40/\b=42 then (rem l (d+1)).map (· +2)
  else if a=42/\b=41 then (if d=1 then some 2 else (rem l (d - 1)).map (· +2))
  else (rem (b::l) d).map (· +1)
def words:List LB:=[[108,101,116],[114,101,99],[105,110],[102,117,110],[105,102],[116,104,101,110],[101,108,115,101],[109,97,116,99,104],[119,105,116,104],[116,114,117,101],[102,97,108,115,101],[109,111,100]]
def oc (w:LB):Nat:=if w=[95] then 8 else if words.contains w then 3 else 4
def qa (a:Nat) (c:UInt8):Nat:=a * 10+(c.toNat - 48)
def kz (acc:Nat) (l:LB):Nat:=l.foldl qa acc
theorem Aq (a:Nat):kz a []=a:=id rfl
theorem wA (a:Nat) (c:UInt8) (l:LB):kz a (c::l)=kz (qa a c) l:=id rfl
def qe (c:UInt8):Bool:=c==43||c==45
def eh:LB->Nat
 | c:: _=>if qe c then 1 else 0
 | []=>0
def eO (s:LB):Nat×Int:=
 match s with
 | []=>(0,0)
 | e::l=>
  if e=101\/e=69 then
   let d:=wh aC (l.drop (eh l))
   if d=0 then (0,0)
   else
    let x:Int:=((min (kz 0 ((l.drop (eh l)).take d)) 1000000:Nat):Int)
    (1+eh l+d,if l.head?=some 45 then -x else x)
  else (0,0)
def number (s:LB):Nat×Nat:=
 let n:=wh aC s
 if (s.drop n).head?=some 46 then
  let k:=wh aC (s.drop (n+1))
  let x:=eO (s.drop (n+1+k))
  (if n+k > 15\/x.2 - (k:Int) < -22\/x.2 - (k:Int) > 22 then 9 else 6,n+1+k+x.1)
 else (5,n)
def ff:LB->Nat
 | []=>0
 | c::l=>if c=10 then 0 else if c=34 then 1 else ff l+1
def uw (c:UInt8):Bool:=c==110||c==116||c==92||c==34
def cL:LB->Nat×Nat
 | []=>(9,0)
 | [c]=>if c=10 then (9,0) else if c=34 then (7,1) else (9,1)
 | c::d::l=>
  if c=10 then (9,0) else if c=34 then (7,1)
  else if c=92 then (if uw d then ((cL l).1,(cL l).2+2) else (9,ff (d::l)+1))
  else ((cL (d::l)).1,(cL (d::l)).2+1)
def gG:List LB:=[[45,62],[58,58],[60,62],[60,61],[62,61],[43,46],[45,46],[42,46],[47,46],[38,38],[124,124]]
def CK:LB:=[40,41,91,93,44,59,124,61,60,62,43,45,42,47,94,64]
def jy (c:UInt8):Bool:=CK.contains c
def cut (s:LB):Nat×Nat:=
 match s with
 | []=>(9,0)
 | c::l=>
  if bw c then (1,wh bw s)
  else if s.take 2=[40,42] then (match rem (s.drop 2) 1 with | some n=>(2,n+2) | none=>(9,s.length))
  else if iP c then (oc (s.takeWhile eA),wh eA s)
  else if aC c then number s
  else if c=34 then ((cL l).1,(cL l).2+1)
  else if gG.contains (s.take 2) then (8,2)
  else if jy c then (8,1)
  else (9,if gC s=0 then 1 else gC s)
def fE:Nat->LB->List (Nat×LB)
 | 0,_=>[]
 | n+1,s=>match s with
  | []=>[]
  | _:: _=>((cut s).1,s.take (cut s).2)::fE n (s.drop (cut s).2)
def tokens (s:LB):List (Nat×LB):=fE s.length s
theorem jD (p:UInt8->Bool) (s:LB):wh p s<=s.length:=(List.takeWhile_sublist p).length_le
theorem pT (p:UInt8->Bool) (s:LB):s.take (wh p s)=s.takeWhile p:=by
 unfold wh
 induction s with
 | nil=>rfl
 | cons c l ih=>
  rw [aaU];split
  .simp [ih]
  .simp
theorem Jx (p:UInt8->Bool) (s:LB):s.drop (wh p s)=s.dropWhile p:=by
 unfold wh
 induction s with
 | nil=>rfl
 | cons c l ih=>
  rw [aaU,abL];split
  .simp [ih]
  .simp
theorem S9 (p:UInt8->Bool) (s:LB):s.length=wh p s+(s.dropWhile p).length:=by
 rw [<- Jx,aas];have:=jD p s;omega
theorem dr (p:UInt8->Bool) (c:UInt8) (l:LB):wh p (c::l)=if p c=true then wh p l+1 else 0:=by
 unfold wh;rw [aaU];split <;> simp
theorem pL: ∀(s:LB) (d n:Nat),rem s d=some n->2<=n/\n<=s.length
 | [],_,_,h=>by simp [rem] at h
 | [_],_,_,h=>by simp [rem] at h
 | a::b::l,d,n,h=>by
  simp only [rem] at h;split at h
  .obtain ⟨m,hm,rfl⟩:=aaF.1 h;have:=pL l (d+1) m hm;simp;omega
  .split at h
   .split at h
    .cases h;simp
    .obtain ⟨m,hm,rfl⟩:=aaF.1 h;have:=pL l (d - 1) m hm;simp;omega
   .obtain ⟨m,hm,rfl⟩:=aaF.1 h;have:=pL (b::l) d m hm;simp at this ⊢;omega
theorem EU: ∀(s:LB),ff s<=s.length
 | []=>aah _
 | c::l=>by
  have:=EU l;simp only [ff];split
  .omega
  .split
   .simp
   .simp;exact this
theorem vH: ∀(s:LB),(cL s).2<=s.length
 | []=>aah _
 | [c]=>by
  simp only [cL];split
  .simp
  .split <;> simp
 | c::d::l=>by
  have h1:=vH l;have a:=vH (d::l);have b:=EU (d::l);simp only [cL,aab] at *;split
  .simp
  .split
   .simp
   .split
    .split
     .simp;omega
     .simp;omega
    .simp;omega
theorem zF (l:LB):eh l<=l.length:=by
 cases l with
 | nil=>exact aah _
 | cons c l=>simp only [eh];split <;> simp
theorem Qq (s:LB):(eO s).1<=s.length:=by
 unfold eO;cases s with
 | nil=>simp
 | cons e l=>
  dsimp only;split
  .have a:=zF l;have hd:=jD aC (l.drop (eh l));rw [aas] at hd;split
   .simp
   .simp only [aab];omega
  .simp
theorem we (s:LB) (h:1<=wh aC s):1<=(number s).2/\(number s).2<=s.length:=by
 unfold number;have h1:=jD aC s;dsimp only;split
 .rename_i hd;have a:wh aC s < s.length:=by
   rcases Nat.lt_or_ge (wh aC s) s.length with q | q
   .exact q
   .rw [List.drop_of_length_le q] at hd;cases hd
  have b:=jD aC (s.drop (wh aC s+1));rw [aas] at b;have c:=Qq (s.drop (wh aC s+1+wh aC (s.drop (wh aC s+1))));rw [aas] at c;dsimp only;omega
 .exact ⟨h,h1⟩
theorem jF {s:LB} (h:s≠[]):1<=(cut s).2/\(cut s).2<=s.length:=by
 cases s with
 | nil=>exact absurd rfl h
 | cons c l=>
  unfold cut;dsimp only;split
  .rename_i a;exact ⟨by rw [dr,if_pos a];omega,jD _ _⟩
  split
  .rename_i b;have hl:2<=(c::l).length:=by
    have:=aaY List.length b;rw [aat] at this;simp at this;simp;omega
   cases f:rem (List.drop 2 (c::l)) 1 with
   | some n=>
    have:=pL _ _ _ f;rw [aas] at this;dsimp only;omega
   | none=>dsimp only;omega
  split
  .rename_i a;have e:eA c=true:=by unfold eA;rw [a];rfl
   exact ⟨by rw [dr,if_pos e];omega,jD _ _⟩
  split
  .rename_i a;exact we _ (by rw [dr,if_pos a];omega)
  split
  .have:=vH l;simp;omega
  split
  .rename_i b;have hl:2<=(c::l).length:=by
    rcases Nat.lt_or_ge (c::l).length 2 with q | q
    .exfalso;have:l=[]:=by
      cases l with
      | nil=>rfl
      | cons d l=>simp at q;omega
     subst this;simp [gG] at b
    .exact q
   dsimp only;omega
  split
  .simp
  .have:=ri (l:=c::l) (by simp);dsimp only;split
   .simp
   .omega
theorem vD: ∀(n m:Nat) (s:LB),s.length<=n->s.length<=m->fE n s=fE m s
 | 0,0,_,_,_=>rfl
 | 0,m+1,s,h,_=>by
  have:s=[]:=aaZ (by omega);subst this;rfl
 | n+1,0,s,_,h=>by
  have:s=[]:=aaZ (by omega);subst this;rfl
 | n+1,m+1,[],_,_=>rfl
 | n+1,m+1,c::l,hn,hm=>by
  have a:=jF (s:=c::l) (by simp);simp only [fE];rw [vD n m ((c::l).drop (cut (c::l)).2) (by rw [aas];omega) (by rw [aas];omega)]
theorem qT {s:LB} (h:s≠[]):tokens s=((cut s).1,s.take (cut s).2)::tokens (s.drop (cut s).2):=by
 cases s with
 | nil=>exact absurd rfl h
 | cons c l=>
  have a:=jF (s:=c::l) (by simp);show fE (l.length+1) (c::l)= _;simp only [fE];congr 1;exact vD _ _ _ (by rw [aas];simp at a ⊢;omega) (aah _)
theorem zr:tokens []=[]:=rfl
end Go.Lex
namespace Go.Parse
open Go.VM Go.Lex
abbrev aW:=Nat×LB
inductive T where
 | mk (k tk:Nat) (tx:LB) (kids:List T)
 deriving Inhabited
def T.kids:T->List T | .mk _ _ _ l=>l
def T.kind:T->Nat | .mk k _ _ _=>k
def bl (t:aW):Bool:=t.1==1||t.1==2
def nx (r:List aW):aW:=
 match r.dropWhile bl with
 | []=>(0,[])
 | t:: _=>t
def leaf (t:aW) (ks:List T):T:= .mk 1 t.1 t.2 ks
def bc (t:aW):T:=leaf t []
def aK (r:List aW):T:=leaf (nx r) ((r.takeWhile bl).map bc)
def aO (r:List aW):List aW:=(r.dropWhile bl).drop 1
def cf (s:LB) (r:List aW):Bool:=((nx r).1==3||(nx r).1==8)&&(nx r).2==s
def isAny (l:List LB) (r:List aW):Bool:=((nx r).1==3||(nx r).1==8)&&l.any fun s=>s==(nx r).2
def missing (s:LB):T:= .mk 2 0 s []
def cP (s:LB) (r:List aW):T:=if cf s r then aK r else missing s
def bo (s:LB) (r:List aW):List aW:=if cf s r then aO r else r
abbrev node (k:Nat) (l:List T):T:= .mk k 0 [] l
def lI:LB:=[108,101,116]
def ey:LB:=[114,101,99]
def RW:LB:=[105,110]
def Qh:LB:=[102,117,110]
def XW:LB:=[105,102]
def xF:LB:=[116,104,101,110]
def xP:LB:=[101,108,115,101]
def EG:LB:=[109,97,116,99,104]
def bR:LB:=[119,105,116,104]
def gM:LB:=[116,114,117,101]
def eD:LB:=[102,97,108,115,101]
def pY:LB:=[101,120,112,114]
def mL:LB:=[112,97,116,116,101,114,110]
def wB:LB:=[61]
def ig:LB:=[45,62]
def fZ:LB:=[124]
def zK:LB:=[58,58]
def dn:LB:=[40]
def Oe:LB:=[41]
def cO:LB:=[91]
def Qp:LB:=[93]
def km:LB:=[44]
def oB:LB:=[59]
def nS:LB:=[95]
def opsOf:Nat->List LB
 | 0=>[[124,124]]
 | 1=>[[38,38]]
 | 2=>[[61],[60,62],[60],[60,61],[62],[62,61]]
 | 3=>[[64],[94]]
 | 4=>[[58,58]]
 | 5=>[[43],[45],[43,46],[45,46]]
 | _=>[[42],[47],[42,46],[47,46],[109,111,100]]
def leftOf (k:Nat):Bool:=k==2||k==5||k==6
def cJ (pat:Bool) (r:List aW):Bool:=
 (nx r).1==4||(nx r).1==5||(nx r).1==7||(nx r).1==9||(nx r).1==(if pat then 5 else 6)||isAny [gM,eD,dn,cO,if pat then nS else dn] r
inductive lJ where
 | expr
 | whole
 | level (k:Nat)
 | ops (k:Nat) (acc:T)
 | neg
 | args (acc:T)
 | atom (pat:Bool)
 | closed (list pat:Bool)
 | items (list pat:Bool)
 | pattern
 | binding
 | params
 | arm
 | arms
def jI (what:LB) (r:List aW):T:=if (nx r).1=0 then missing what else node 3 [aK r]
def kg (r:List aW):List aW:=if (nx r).1=0 then r else aO r
def kindOf:Bool->Bool->Nat
 | false,false=>14
 | true,false=>15
 | false,true=>17
 | true,true=>18
def qg (list:Bool):LB:=if list then oB else km
def ik (list:Bool):LB:=if list then Qp else Oe
abbrev R:=Oq (List T×List aW)
def P:Nat->lJ->Nat->List aW->R
 | 0,_,_,_=>none
 | n+1,.expr,d,r=>if d=64 then some ([jI pY r],kg r) else P n .whole (d+1) r
 | n+1,.whole,d,r=>
  if cf lI r then do
   let (bs,r2) <- P n .binding d (aO r)
   let (es,f) <- P n .expr d (bo RW r2)
   some ([node 6 (aK r::bs++[cP RW r2]++es)],f)
  else if cf Qh r then do
   let (a,e) <- P n (.atom true) d (aO r)
   let (ps,r2) <- P n .params d e
   let (es,f) <- P n .expr d (bo ig r2)
   some ([node 7 (aK r::a++ps++[cP ig r2]++es)],f)
  else if cf XW r then do
   let (a,e) <- P n .expr d (aO r)
   let (b,r2) <- P n .expr d (bo xF e)
   let (c,f) <- P n .expr d (bo xP r2)
   some ([node 8 (aK r::a++[cP xF e]++b++[cP xP r2]++c)],f)
  else if cf EG r then do
   let (a,e) <- P n .expr d (aO r)
   let r2:=bo bR e
   let bar:=if cf fZ r2 then [aK r2] else []
   let (b,f) <- P n .arm d (if cf fZ r2 then aO r2 else r2)
   let (cs,g) <- P n .arms d f
   some ([node 9 (aK r::a++[cP bR e]++bar++b++cs)],g)
  else P n (.level 0) d r
 | n+1,.level k,d,r=>
  if k=7 then P n .neg d r
  else do
   let (a,e) <- P n (.level (k+1)) d r
   match a with
   | [t]=>P n (.ops k t) d e
   | _=>none
 | n+1,.ops k acc,d,r=>
  if isAny (opsOf k) r then do
   let (b,e) <- P n (.level (if leftOf k then k+1 else k)) d (aO r)
   P n (.ops k (node 11 (acc::aK r::b))) d e
  else some ([acc],r)
 | n+1,.neg,d,r=>
  if isAny [[45],[45,46]] r then
   if d=64 then some ([node 12 [aK r,jI pY (aO r)]],kg (aO r))
   else do
    let (a,e) <- P n .neg (d+1) (aO r)
    some ([node 12 (aK r::a)],e)
  else do
   let (a,e) <- P n (.atom false) d r
   match a with
   | [t]=>P n (.args t) d e
   | _=>none
 | n+1,.args acc,d,r=>
  if cJ false r then do
   let (b,e) <- P n (.atom false) d r
   P n (.args (node 13 (acc::b))) d e
  else some ([acc],r)
 | n+1,.atom pat,d,r=>
  if cJ pat r then
   if (nx r).1=9 then some ([node 3 [aK r]],aO r)
   else if cf dn r then P n (.closed false pat) d r
   else if cf cO r then P n (.closed true pat) d r
   else some ([aK r],aO r)
  else some ([missing (if pat then mL else pY)],r)
 | n+1,.closed list pat,d,r=>
  let e:=aO r
  if cf (ik list) e then some ([node (kindOf list pat) [aK r,aK e]],aO e)
  else do
   let (a,r2) <- P n (if pat then .pattern else .expr) d e
   let (bs,f) <- P n (.items list pat) d r2
   some ([node (kindOf list pat) (aK r::a++bs++[cP (ik list) f])],bo (ik list) f)
 | n+1,.items list pat,d,r=>
  if cf (qg list) r then do
   let (a,e) <- P n (if pat then .pattern else .expr) d (aO r)
   let (bs,r2) <- P n (.items list pat) d e
   some (aK r::a++bs,r2)
  else some ([],r)
 | n+1,.pattern,d,r=>
  if d=64 then some ([jI mL r],kg r)
  else do
   let (a,e) <- P n (.atom true) (d+1) r
   if cf zK e then do
    let (b,r2) <- P n .pattern (d+1) (aO e)
    some ([node 16 (a++aK e::b)],r2)
   else some (a,e)
 | n+1,.binding,d,r=>do
  let rc:=if cf ey r then [aK r] else []
  let r0:=if cf ey r then aO r else r
  let (xs,e) <- if (nx r0).1=4 then (do
    let (ps,e) <- P n .params d (aO r0)
    some (aK r0::ps,e))
   else P n (.atom true) d r0
  let (es,r2) <- P n .expr d (bo wB e)
  some (rc++xs++[cP wB e]++es,r2)
 | n+1,.params,d,r=>
  if cJ true r then do
   let (a,e) <- P n (.atom true) d r
   let (bs,r2) <- P n .params d e
   some (a++bs,r2)
  else some ([],r)
 | n+1,.arm,d,r=>do
  let (a,e) <- P n .pattern d r
  let (es,r2) <- P n .expr d (bo ig e)
  some ([node 10 (a++[cP ig e]++es)],r2)
 | n+1,.arms,d,r=>
  if cf fZ r then do
   let (a,e) <- P n .arm d (aO r)
   let (bs,r2) <- P n .arms d e
   some (aK r::a++bs,r2)
  else some ([],r)
def skip:Nat->List aW->List T×List aW
 | 0,r=>([],r)
 | n+1,r=>if (nx r).1≠0/\cf lI r=false then ((aK r::(skip n (aO r)).1),(skip n (aO r)).2) else ([],r)
def decls:Nat->List aW->Oq (List T)
 | 0,_=>none
 | n+1,r=>
  if (nx r).1=0 then some [aK r]
  else if cf lI r then do
   let (bs,a) <- P n .binding 0 (aO r)
   let l <- decls n a
   some (node 5 (aK r::bs)::l)
  else do
   let l <- decls n (skip r.length r).2
   some (node 3 (skip r.length r).1::l)
def fuel (r:List aW):Nat:=30 * (r.length+2)
def doc (r:List aW):T:=node 4 ((decls (fuel r) r).getD [])
theorem Fg (r:List aW):(r.dropWhile bl).length<=r.length:=(abM _).length_le
theorem iT (r:List aW):(aO r).length<=r.length:=by
 unfold aO;rw [aas];have:=Fg r;omega
theorem eB {r:List aW} (h:(nx r).1≠0):(aO r).length < r.length:=by
 unfold aO;rw [aas];have:=Fg r;unfold nx at h;cases hd:r.dropWhile bl with
 | nil=>rw [hd] at h;exact absurd rfl h
 | cons t l=>rw [hd] at this;simp at this ⊢;omega
theorem rb {s:LB} {r:List aW} (h:cf s r=true):(nx r).1≠0:=by
 intro e;simp [cf,e] at h
theorem Bj {l:List LB} {r:List aW} (h:isAny l r=true):(nx r).1≠0:=by
 intro e;simp [isAny,e] at h
theorem C2 {pat:Bool} {r:List aW} (h:cJ pat r=true):(nx r).1≠0:=by
 intro e;cases pat <;> simp [cJ,isAny,e] at h
theorem jV (s:LB) (r:List aW):(bo s r).length<=r.length:=by
 unfold bo;split
 .exact iT r
 .exact aah _
theorem zL (r:List aW):(kg r).length<=r.length:=by
 unfold kg;split
 .exact aah _
 .exact iT r
def dT:lJ->Nat
 | .expr=>13
 | .whole=>12
 | .level k=>11 - k
 | .ops _ _=>0
 | .neg=>3
 | .args _=>2
 | .atom _=>1
 | .closed _ _=>0
 | .items _ _=>0
 | .pattern=>13
 | .binding=>14
 | .params=>2
 | .arm=>14
 | .arms=>0
def Nk:lJ->Prop
 | .level k=>k<=7
 | .ops k _=>k<=6
 | _=>True
def single:lJ->Bool
 | .items _ _=>false
 | .binding=>false
 | .params=>false
 | .arms=>false
 | _=>true
def SE:lJ->List aW->Prop
 | .atom pat,r=>cJ pat r=true
 | .closed _ _,r=>(nx r).1≠0
 | _,_=>False
def at':lJ->List aW->Prop
 | .closed _ _,r=>(nx r).1≠0
 | _,_=>True
structure To (job:lJ) (r:List aW) (x:R):Prop where
 some: ∃l r',x=some (l,r')/\r'.length<=r.length/\(single job=true-> ∃t,l=[t])/\(SE job r->r'.length < r.length)
theorem ct {job:lJ} {r r':List aW} {l:List T} {x:R} (h:x= .some (l,r')) (h1:r'.length<=r.length) (a:single job=true-> ∃t,l=[t]) (b:SE job r->r'.length < r.length):To job r x:=⟨⟨l,r',h,h1,a,b⟩⟩
theorem XB: ∀(N:Nat) (job:lJ) (d:Nat) (r:List aW),Nk job->at' job r->16 * r.length+dT job < N->To job r (P N job d r):=by
 intro N
 induction N with
 | zero=>intro job d r _ _ h;omega
 | succ n ih=>
  intro job d r ho D h;have one: ∀{job:lJ} {d:Nat} {r:List aW},Nk job->at' job r->16 * r.length+dT job < n->single job=true-> ∃t r',P n job d r=some ([t],r')/\r'.length<=r.length/\(SE job r->r'.length < r.length):=by
   intro job d r h1 s v h4;obtain ⟨l,r',e,k1,m,y⟩:=(ih job d r h1 s v).some;obtain ⟨t,rfl⟩:=m h4;exact ⟨t,r',e,k1,y⟩
  have many: ∀{job:lJ} {d:Nat} {r:List aW},Nk job->at' job r->16 * r.length+dT job < n-> ∃l r',P n job d r=some (l,r')/\r'.length<=r.length:=by
   intro job d r h1 s v;obtain ⟨l,r',e,k1,_,_⟩:=(ih job d r h1 s v).some;exact ⟨l,r',e,k1⟩
  cases job with
  | expr=>
   simp only [P];by_cases hd:d=64
   .rw [if_pos hd];exact ct rfl (zL r) (fun _=>⟨_,rfl⟩) (fun f=>f.elim)
   .rw [if_neg hd];simp only [dT] at h;obtain ⟨t,r',e,k1,_⟩:=one (job:= .whole) (d:=d+1) (r:=r) trivial trivial (by simp only [dT];omega) rfl;exact ct e k1 (fun _=>⟨_,rfl⟩) (fun f=>f.elim)
  | whole=>
   simp only [dT] at h;simp only [P];by_cases h1:cf lI r=true
   .rw [if_pos h1];have o:=eB (rb h1);obtain ⟨bs,r2,j,m⟩:=many (job:= .binding) (d:=d) (r:=aO r) trivial trivial (by simp only [dT];omega);have hn:=jV RW r2;obtain ⟨t,q,w,y,_⟩:=one (job:= .expr) (d:=d) (r:=bo RW r2) trivial trivial (by simp only [dT];omega) rfl;refine ct (l:=[node 6 (aK r::bs++[cP RW r2]++[t])]) (r':=q) ?_ (by omega) (fun _=>⟨_,rfl⟩) (fun f=>f.elim);simp only [j,w,bind,Option.bind]
   rw [if_neg h1];by_cases s:cf Qh r=true
   .rw [if_pos s];have o:=eB (rb s);obtain ⟨a,g,i,k1,_⟩:=one (job:= .atom true) (d:=d) (r:=aO r) trivial trivial (by simp only [dT];omega) rfl;obtain ⟨ps,r2,j,m⟩:=many (job:= .params) (d:=d) (r:=g) trivial trivial (by simp only [dT];omega);have hn:=jV ig r2;obtain ⟨t,q,w,y,_⟩:=one (job:= .expr) (d:=d) (r:=bo ig r2) trivial trivial (by simp only [dT];omega) rfl;refine ct (l:=[node 7 (aK r::[a]++ps++[cP ig r2]++[t])]) (r':=q) ?_ (by omega) (fun _=>⟨_,rfl⟩) (fun f=>f.elim);simp only [i,j,w,bind,Option.bind]
   rw [if_neg s];by_cases v:cf XW r=true
   .rw [if_pos v];have o:=eB (rb v);obtain ⟨a,g,i,k1,_⟩:=one (job:= .expr) (d:=d) (r:=aO r) trivial trivial (by simp only [dT];omega) rfl;have z:=jV xF g;obtain ⟨b,r2,j,m,_⟩:=one (job:= .expr) (d:=d) (r:=bo xF g) trivial trivial (by simp only [dT];omega) rfl;have E:=jV xP r2;obtain ⟨c,q,w,y,_⟩:=one (job:= .expr) (d:=d) (r:=bo xP r2) trivial trivial (by simp only [dT];omega) rfl;refine ct (l:=[node 8 (aK r::[a]++[cP xF g]++[b]++[cP xP r2]++[c])]) (r':=q) ?_ (by omega) (fun _=>⟨_,rfl⟩) (fun f=>f.elim);simp only [i,j,w,bind,Option.bind]
   rw [if_neg v];by_cases h4:cf EG r=true
   .rw [if_pos h4];have o:=eB (rb h4);obtain ⟨a,g,i,k1,_⟩:=one (job:= .expr) (d:=d) (r:=aO r) trivial trivial (by simp only [dT];omega) rfl;have z:=jV bR g;have G:(if cf fZ (bo bR g) then aO (bo bR g) else bo bR g).length<=g.length:=by
     split
     .have:=iT (bo bR g);omega
     .exact z
    obtain ⟨b,q,j,m,_⟩:=one (job:= .arm) (d:=d) (r:=if cf fZ (bo bR g) then aO (bo bR g) else bo bR g) trivial trivial (by simp only [dT];omega) rfl;obtain ⟨cs,F,w,y⟩:=many (job:= .arms) (d:=d) (r:=q) trivial trivial (by simp only [dT];omega);refine ct (l:=[node 9 (aK r::[a]++[cP bR g]++(if cf fZ (bo bR g) then [aK (bo bR g)] else [])++[b]++cs)]) (r':=F) ?_ (by omega) (fun _=>⟨_,rfl⟩) (fun f=>f.elim);simp only [i,j,w,bind,Option.bind]
   rw [if_neg h4];obtain ⟨t,r',e,k1,_⟩:=one (job:= .level 0) (d:=d) (r:=r) (aba _) trivial (by simp only [dT];omega) rfl;exact ct e k1 (fun _=>⟨_,rfl⟩) (fun f=>f.elim)
  | level k=>
   have A:k<=7:=ho;simp only [dT] at h;simp only [P];by_cases B:k=7
   .rw [if_pos B];obtain ⟨t,r',e,k1,_⟩:=one (job:= .neg) (d:=d) (r:=r) trivial trivial (by simp only [dT];omega) rfl;exact ct e k1 (fun _=>⟨_,rfl⟩) (fun f=>f.elim)
   .rw [if_neg B];obtain ⟨t,g,i,k1,_⟩:=one (job:= .level (k+1)) (d:=d) (r:=r) (show k+1<=7 by omega) trivial (by simp only [dT];omega) rfl;obtain ⟨u,r2,j,m,_⟩:=one (job:= .ops k t) (d:=d) (r:=g) (show k<=6 by omega) trivial (by simp only [dT];omega) rfl;refine ct (l:=[u]) (r':=r2) ?_ (by omega) (fun _=>⟨_,rfl⟩) (fun f=>f.elim);simp only [i,j,bind,Option.bind]
  | ops k acc=>
   have A:k<=6:=ho;simp only [dT] at h;simp only [P];by_cases h1:isAny (opsOf k) r=true
   .rw [if_pos h1];have o:=eB (Bj h1);obtain ⟨b,g,i,k1,_⟩:=one (job:= .level (if leftOf k then k+1 else k)) (d:=d) (r:=aO r) (show (if leftOf k then k+1 else k)<=7 by split <;> omega) trivial (by simp only [dT];omega) rfl;obtain ⟨u,r2,j,m,_⟩:=one (job:= .ops k (node 11 [acc,aK r,b])) (d:=d) (r:=g) A trivial (by simp only [dT];omega) rfl;refine ct (l:=[u]) (r':=r2) ?_ (by omega) (fun _=>⟨_,rfl⟩) (fun f=>f.elim);simp only [i,j,bind,Option.bind]
   .rw [if_neg h1];exact ct rfl (aah _) (fun _=>⟨_,rfl⟩) (fun f=>f.elim)
  | neg=>
   simp only [dT] at h;simp only [P];by_cases h1:isAny [[45],[45,46]] r=true
   .rw [if_pos h1];have o:=eB (Bj h1);by_cases hd:d=64
    .rw [if_pos hd];have:=zL (aO r);exact ct rfl (by omega) (fun _=>⟨_,rfl⟩) (fun f=>f.elim)
    .rw [if_neg hd];obtain ⟨a,g,i,k1,_⟩:=one (job:= .neg) (d:=d+1) (r:=aO r) trivial trivial (by simp only [dT];omega) rfl;refine ct (l:=[node 12 [aK r,a]]) (r':=g) ?_ (by omega) (fun _=>⟨_,rfl⟩) (fun f=>f.elim);simp only [i,bind,Option.bind]
   .rw [if_neg h1];obtain ⟨t,g,i,k1,_⟩:=one (job:= .atom false) (d:=d) (r:=r) trivial trivial (by simp only [dT];omega) rfl;obtain ⟨u,r2,j,m,_⟩:=one (job:= .args t) (d:=d) (r:=g) trivial trivial (by simp only [dT];omega) rfl;refine ct (l:=[u]) (r':=r2) ?_ (by omega) (fun _=>⟨_,rfl⟩) (fun f=>f.elim);simp only [i,j,bind,Option.bind]
  | args acc=>
   simp only [dT] at h;simp only [P];by_cases h1:cJ false r=true
   .rw [if_pos h1];obtain ⟨t,g,i,k1,x⟩:=one (job:= .atom false) (d:=d) (r:=r) trivial trivial (by simp only [dT];omega) rfl;have o:=x h1;obtain ⟨u,r2,j,m,_⟩:=one (job:= .args (node 13 [acc,t])) (d:=d) (r:=g) trivial trivial (by simp only [dT];omega) rfl;refine ct (l:=[u]) (r':=r2) ?_ (by omega) (fun _=>⟨_,rfl⟩) (fun f=>f.elim);simp only [i,j,bind,Option.bind]
   .rw [if_neg h1];exact ct rfl (aah _) (fun _=>⟨_,rfl⟩) (fun f=>f.elim)
  | atom pat=>
   simp only [dT] at h;simp only [P];by_cases h1:cJ pat r=true
   .rw [if_pos h1];have p:=C2 h1;have o:=eB p;by_cases C:(nx r).1=9
    .rw [if_pos C];exact ct rfl (by omega) (fun _=>⟨_,rfl⟩) (fun _=>o)
    rw [if_neg C];by_cases s:cf dn r=true
    .rw [if_pos s];obtain ⟨t,g,i,k1,x⟩:=one (job:= .closed false pat) (d:=d) (r:=r) trivial p (by simp only [dT];omega) rfl;exact ct i k1 (fun _=>⟨_,rfl⟩) (fun _=>x p)
    rw [if_neg s];by_cases v:cf cO r=true
    .rw [if_pos v];obtain ⟨t,g,i,k1,x⟩:=one (job:= .closed true pat) (d:=d) (r:=r) trivial p (by simp only [dT];omega) rfl;exact ct i k1 (fun _=>⟨_,rfl⟩) (fun _=>x p)
    rw [if_neg v];exact ct rfl (by omega) (fun _=>⟨_,rfl⟩) (fun _=>o)
   .rw [if_neg h1];exact ct rfl (aah _) (fun _=>⟨_,rfl⟩) (fun f=>absurd f h1)
  | closed list pat=>
   have p:(nx r).1≠0:=D;have o:=eB p;simp only [dT] at h;simp only [P];by_cases h1:cf (ik list) (aO r)=true
   .rw [if_pos h1];have:=iT (aO r);exact ct rfl (by omega) (fun _=>⟨_,rfl⟩) (fun _=>by omega)
   .rw [if_neg h1];obtain ⟨t,r2,i,k1,_⟩:=one (job:=if pat then .pattern else .expr) (d:=d) (r:=aO r) (by cases pat <;> trivial) (by cases pat <;> trivial) (by cases pat <;> simp only [dT,if_true,aaB,if_false] <;> omega) (by cases pat <;> rfl);obtain ⟨bs,q,j,m⟩:=many (job:= .items list pat) (d:=d) (r:=r2) trivial trivial (by simp only [dT];omega);have hn:=jV (ik list) q;refine ct (l:=[node (kindOf list pat) (aK r::[t]++bs++[cP (ik list) q])]) (r':=bo (ik list) q) ?_ (by omega) (fun _=>⟨_,rfl⟩) (fun _=>by omega);simp only [i,j,bind,Option.bind]
  | items list pat=>
   simp only [dT] at h;simp only [P];by_cases h1:cf (qg list) r=true
   .rw [if_pos h1];have o:=eB (rb h1);obtain ⟨t,r2,i,k1,_⟩:=one (job:=if pat then .pattern else .expr) (d:=d) (r:=aO r) (by cases pat <;> trivial) (by cases pat <;> trivial) (by cases pat <;> simp only [dT,if_true,aaB,if_false] <;> omega) (by cases pat <;> rfl);obtain ⟨bs,q,j,m⟩:=many (job:= .items list pat) (d:=d) (r:=r2) trivial trivial (by simp only [dT];omega);refine ct (l:=aK r::[t]++bs) (r':=q) ?_ (by omega) (fun f=>by cases f) (fun f=>f.elim);simp only [i,j,bind,Option.bind]
   .rw [if_neg h1];exact ct rfl (aah _) (fun f=>by cases f) (fun f=>f.elim)
  | pattern=>
   simp only [dT] at h;simp only [P];by_cases hd:d=64
   .rw [if_pos hd];exact ct rfl (zL r) (fun _=>⟨_,rfl⟩) (fun f=>f.elim)
   .rw [if_neg hd];obtain ⟨a,g,i,k1,_⟩:=one (job:= .atom true) (d:=d+1) (r:=r) trivial trivial (by simp only [dT];omega) rfl;by_cases h1:cf zK g=true
    .have o:=eB (rb h1);obtain ⟨b,r2,j,m,_⟩:=one (job:= .pattern) (d:=d+1) (r:=aO g) trivial trivial (by simp only [dT];omega) rfl;refine ct (l:=[node 16 ([a]++aK g::[b])]) (r':=r2) ?_ (by omega) (fun _=>⟨_,rfl⟩) (fun f=>f.elim);simp only [i,j,bind,Option.bind,if_pos h1]
    .refine ct (l:=[a]) (r':=g) ?_ (by omega) (fun _=>⟨_,rfl⟩) (fun f=>f.elim);simp only [i,bind,Option.bind,if_neg h1]
  | binding=>
   simp only [dT] at h;simp only [P];have h0:(if cf ey r then aO r else r).length<=r.length:=by
    split
    .exact iT r
    .exact aah _
   generalize (if cf ey r then aO r else r)=r0 at h0;by_cases h4:(nx r0).1=4
   .have o:=eB (show (nx r0).1≠0 by omega);obtain ⟨ps,g,i,k1⟩:=many (job:= .params) (d:=d) (r:=aO r0) trivial trivial (by simp only [dT];omega);have hn:=jV wB g;obtain ⟨t,r2,j,m,_⟩:=one (job:= .expr) (d:=d) (r:=bo wB g) trivial trivial (by simp only [dT];omega) rfl;refine ct (l:=(if cf ey r then [aK r] else [])++(aK r0::ps)++[cP wB g]++[t]) (r':=r2) ?_ (by omega) (fun f=>by cases f) (fun f=>f.elim);simp only [if_pos h4,i,j,bind,Option.bind]
   .obtain ⟨a,g,i,k1,_⟩:=one (job:= .atom true) (d:=d) (r:=r0) trivial trivial (by simp only [dT];omega) rfl;have hn:=jV wB g;obtain ⟨t,r2,j,m,_⟩:=one (job:= .expr) (d:=d) (r:=bo wB g) trivial trivial (by simp only [dT];omega) rfl;refine ct (l:=(if cf ey r then [aK r] else [])++[a]++[cP wB g]++[t]) (r':=r2) ?_ (by omega) (fun f=>by cases f) (fun f=>f.elim);simp only [if_neg h4,i,j,bind,Option.bind]
  | params=>
   simp only [dT] at h;simp only [P];by_cases h1:cJ true r=true
   .rw [if_pos h1];obtain ⟨t,g,i,k1,x⟩:=one (job:= .atom true) (d:=d) (r:=r) trivial trivial (by simp only [dT];omega) rfl;have o:=x h1;obtain ⟨bs,r2,j,m⟩:=many (job:= .params) (d:=d) (r:=g) trivial trivial (by simp only [dT];omega);refine ct (l:=[t]++bs) (r':=r2) ?_ (by omega) (fun f=>by cases f) (fun f=>f.elim);simp only [i,j,bind,Option.bind]
   .rw [if_neg h1];exact ct rfl (aah _) (fun f=>by cases f) (fun f=>f.elim)
  | arm=>
   simp only [dT] at h;simp only [P];obtain ⟨a,g,i,k1,_⟩:=one (job:= .pattern) (d:=d) (r:=r) trivial trivial (by simp only [dT];omega) rfl;have hn:=jV ig g;obtain ⟨t,r2,j,m,_⟩:=one (job:= .expr) (d:=d) (r:=bo ig g) trivial trivial (by simp only [dT];omega) rfl;refine ct (l:=[node 10 ([a]++[cP ig g]++[t])]) (r':=r2) ?_ (by omega) (fun _=>⟨_,rfl⟩) (fun f=>f.elim);simp only [i,j,bind,Option.bind]
  | arms=>
   simp only [dT] at h;simp only [P];by_cases h1:cf fZ r=true
   .rw [if_pos h1];have o:=eB (rb h1);obtain ⟨t,g,i,k1,_⟩:=one (job:= .arm) (d:=d) (r:=aO r) trivial trivial (by simp only [dT];omega) rfl;obtain ⟨bs,r2,j,m⟩:=many (job:= .arms) (d:=d) (r:=g) trivial trivial (by simp only [dT];omega);refine ct (l:=aK r::[t]++bs) (r':=r2) ?_ (by omega) (fun f=>by cases f) (fun f=>f.elim);simp only [i,j,bind,Option.bind]
   .rw [if_neg h1];exact ct rfl (aah _) (fun f=>by cases f) (fun f=>f.elim)
theorem yC: ∀(n:Nat) (r:List aW),(skip n r).2.length<=r.length
 | 0,_=>aah _
 | n+1,r=>by
  simp only [skip];split
  .have:=yC n (aO r);have:=iT r;simp only;omega
  .exact aah _
theorem PU {r:List aW} (h0:(nx r).1≠0) (h1:cf lI r=false):(skip r.length r).2.length < r.length:=by
 have a:=eB h0;obtain ⟨n,hn⟩: ∃n,r.length=n+1:=⟨r.length - 1,by omega⟩;rw [hn];simp only [skip,if_pos (And.intro h0 h1)];have:=yC n (aO r);omega
theorem Mn: ∀(N:Nat) (r:List aW),17 * r.length+16 < N-> ∃l,decls N r=some l:=by
 intro N
 induction N with
 | zero=>intro r h;omega
 | succ n ih=>
  intro r h;simp only [decls];by_cases h0:(nx r).1=0
  .rw [if_pos h0];exact ⟨_,rfl⟩
  rw [if_neg h0];by_cases h1:cf lI r=true
  .rw [if_pos h1];have b:=eB h0;obtain ⟨bs,c,d,k1,_,_⟩:=(XB n .binding 0 (aO r) trivial trivial (by simp only [dT];omega)).some;obtain ⟨l,a⟩:=ih c (by omega);exact ⟨node 5 (aK r::bs)::l,by simp only [d,a,bind,Option.bind]⟩
  .rw [if_neg h1];have b:=PU h0 (by simpa using h1);obtain ⟨l,a⟩:=ih (skip r.length r).2 (by omega);exact ⟨node 3 (skip r.length r).1::l,by simp only [a,bind,Option.bind]⟩
theorem lZ (r:List aW): ∃l,decls (fuel r) r=some l/\doc r=node 4 l:=by
 obtain ⟨l,e⟩:=Mn (fuel r) r (by unfold fuel;omega);exact ⟨l,e,by unfold doc;rw [e];rfl⟩
end Go.Parse
namespace Go.Lex
open Go.VM
theorem N9 {n n' a b c d l m o:Nat} (h0:mZ n a b c d≠0) (i:1 < mZ n a b c d->l=b) (j:2 < mZ n a b c d->m=c) (p:3 < mZ n a b c d->o=d) (hl:mZ n a b c d<=n'):
  mZ n' a l m o=mZ n a b c d:=by
 by_cases f:a < 128
 .unfold mZ;rw [if_pos f,if_pos f]
 by_cases g:194<=a/\a<=223
 .by_cases q:n < 2\/b < 128\/191 < b
  .exact absurd (by unfold mZ;rw [if_neg f,if_pos g,if_pos q]) h0
  .have e:mZ n a b c d=2:=by unfold mZ;rw [if_neg f,if_pos g,if_neg q]
   rw [e] at i hl ⊢;have:=i (by omega);subst this;unfold mZ;rw [if_neg f,if_pos g,if_neg (by omega)]
 by_cases h:224<=a/\a<=239
 .by_cases q:n < 3\/b < 128\/191 < b\/c < 128\/191 < c\/(a=224/\b < 160)\/(a=237/\159 < b)
  .exact absurd (by unfold mZ;rw [if_neg f,if_neg g,if_pos h,if_pos q]) h0
  .have e:mZ n a b c d=3:=by unfold mZ;rw [if_neg f,if_neg g,if_pos h,if_neg q]
   rw [e] at i j hl ⊢;have:=i (by omega);have:=j (by omega)
   subst_vars
   unfold mZ;rw [if_neg f,if_neg g,if_pos h,if_neg (by omega)]
 by_cases k:240<=a/\a<=244
 .by_cases q:n < 4\/b < 128\/191 < b\/c < 128\/191 < c\/d < 128\/191 < d\/(a=240/\b < 144)\/(a=244/\143 < b)
  .exact absurd (by unfold mZ;rw [if_neg f,if_neg g,if_neg h,if_pos k,if_pos q]) h0
  .have e:mZ n a b c d=4:=by unfold mZ;rw [if_neg f,if_neg g,if_neg h,if_pos k,if_neg q]
   rw [e] at i j p hl ⊢;have:=i (by omega);have:=j (by omega);have:=p (by omega)
   subst_vars
   unfold mZ;rw [if_neg f,if_neg g,if_neg h,if_pos k,if_neg (by omega)]
 .exact absurd (by unfold mZ;rw [if_neg f,if_neg g,if_neg h,if_neg k]) h0
theorem OZ {n a b c d:Nat} (h:2<=mZ n a b c d):128<=a/\(128<=b)/\(2 < mZ n a b c d->128<=c)/\(3 < mZ n a b c d->128<=d):=by
 unfold mZ at *;by_cases e:a < 128
 .rw [if_pos e] at h;omega
 rw [if_neg e] at *;by_cases f:194<=a/\a<=223
 .rw [if_pos f] at *;by_cases q:n < 2\/b < 128\/191 < b
  .rw [if_pos q] at h;omega
  .rw [if_neg q] at *;omega
 rw [if_neg f] at *;by_cases g:224<=a/\a<=239
 .rw [if_pos g] at *;by_cases q:n < 3\/b < 128\/191 < b\/c < 128\/191 < c\/(a=224/\b < 160)\/(a=237/\159 < b)
  .rw [if_pos q] at h;omega
  .rw [if_neg q] at *;omega
 rw [if_neg g] at *;by_cases i:240<=a/\a<=244
 .rw [if_pos i] at *;by_cases q:n < 4\/b < 128\/191 < b\/c < 128\/191 < c\/d < 128\/191 < d\/(a=240/\b < 144)\/(a=244/\143 < b)
  .rw [if_pos q] at h;omega
  .rw [if_neg q] at *;omega
 .rw [if_neg i] at h;omega
theorem M0 (n a b c d:Nat):mZ n a b c d<=4:=by
 unfold mZ
 repeat' split
 all_goals omega
theorem F0 {s t:LB} (h:gC s≠0) (a: ∀j,j < gC s->t.getD j 0=s.getD j 0) (hl:gC s<=t.length):gC t=gC s:=by
 have h0:=a 0 (by omega);unfold gC at h a hl ⊢;rw [h0];exact N9 h (fun k=>by rw [a 1 k]) (fun k=>by rw [a 2 k]) (fun k=>by rw [a 3 k]) hl
theorem getD_take {s:LB} {n j:Nat} (h:j < n):(s.take n).getD j 0=s.getD j 0:=by
 rw [aaz,aaz,List.getElem?_take,if_pos h]
theorem rV (s:LB) (n j:Nat):(s.drop n).getD j 0=s.getD (n+j) 0:=by
 rw [aaz,aaz,abG]
theorem NA {s x:LB} {j:Nat} (h:j < s.length):(s++x).getD j 0=s.getD j 0:=by
 rw [aaz,aaz,abi h]
theorem zV {s:LB} (a:s≠[]) (h:gC s≠0) {n:Nat} (hn:gC s<=n):gC (s.take n)=gC s:=
 F0 h (fun j b=>getD_take (by omega)) (by rw [aat];have:=ri a;omega)
theorem QK {s:LB} (a:s≠[]) (h:gC s≠0) (x:LB):gC (s++x)=gC s:=by
 have:=ri a;exact F0 h (fun j b=>NA (by omega)) (by rw [aaa];omega)
theorem FP {s:LB} (h:2<=gC s) {j:Nat} (a:j < gC s):128<=(s.getD j 0).toNat:=by
 have h4:=M0 s.length (s.getD 0 0).toNat (s.getD 1 0).toNat (s.getD 2 0).toNat (s.getD 3 0).toNat
 unfold gC at h a;have:=OZ h;have b:j < 4:=by omega
 match j,b with
 | 0,_=>exact this.1
 | 1,_=>exact this.2.1
 | 2,_=>exact this.2.2.1 a
 | 3,_=>exact this.2.2.2 a
theorem uX {s:LB} (a:s≠[]) (h:bH s=true):gC s≠0/\bH (s.drop (gC s))=true:=by
 rw [jo a] at h;by_cases z:gC s=0
 .rw [if_pos z] at h;cases h
 .rw [if_neg z] at h;exact ⟨z,h⟩
theorem wq: ∀(n:Nat) (a b:LB),a.length<=n->bH a=true->bH (a++b)=bH b
 | n,[],b,_,_=>rfl
 | 0,_:: _,_,h,_=>by simp at h
 | n+1,c::a,b,h,f=>by
  obtain ⟨z,g⟩:=uX (s:=c::a) (by simp) f;have d:=ri (l:=c::a) (by simp);have e:=QK (s:=c::a) (by simp) z b;rw [jo (l:=c::a++b) (by simp),e,if_neg z,List.drop_append_of_le_length d];exact wq n _ b (by rw [aas];simp at h ⊢;omega) g
def Bd (s:LB) (n:Nat):Prop:=n=0\/(s.getD n 0).toNat < 128\/(s.getD (n - 1) 0).toNat < 128
theorem xj: ∀(m:Nat) (s:LB) (n:Nat),s.length<=m->bH s=true->n<=s.length->Bd s n->bH (s.take n)=true/\bH (s.drop n)=true
 | m,s,0,_,b,_,_=>⟨rfl,b⟩
 | m,[],n+1,_,_,h,_=>by simp at h
 | 0,_:: _,_,h,_,_,_=>by simp at h
 | m+1,c::l,n+1,hm,b,hn,a=>by
  obtain ⟨z,i⟩:=uX (s:=c::l) (by simp) b;have k:=ri (l:=c::l) (by simp);by_cases d:gC (c::l)<=n+1
  .have hlen:((c::l).drop (gC (c::l))).length=(c::l).length - gC (c::l):=aas;have f:Bd ((c::l).drop (gC (c::l))) (n+1 - gC (c::l)):=by
    rcases a with a | a | a
    .omega
    .exact .inr (.inl (by rw [rV,show gC (c::l)+(n+1 - gC (c::l))=n+1 by omega];exact a))
    .by_cases e:n+1 - gC (c::l)=0
     .exact .inl e
     .exact .inr (.inr (by rw [rV,show gC (c::l)+(n+1 - gC (c::l) - 1)=n+1 - 1 by omega];exact a))
   have ih:=xj m ((c::l).drop (gC (c::l))) (n+1 - gC (c::l)) (by simp at hm hlen ⊢;omega) i (by omega) f;have h1:=zV (s:=c::l) (by simp) z d;have g:(c::l).take (n+1)≠[]:=by simp
   constructor
   .rw [jo g,h1,if_neg z,List.drop_take];exact ih.1
   .have e:(c::l).drop (n+1)=((c::l).drop (gC (c::l))).drop (n+1 - gC (c::l)):=by
     rw [abD];congr 1;omega
    rw [e];exact ih.2
  .exfalso;have k1:=FP (s:=c::l) (by omega) (j:=n+1) (by omega);have o:=FP (s:=c::l) (by omega) (j:=n+1 - 1) (by omega);rcases a with a | a | a <;> omega
def Asc (s:LB) (n:Nat):Prop:= ∀j,j < n->(s.getD j 0).toNat < 128
theorem HS {s:LB} {n:Nat} (h:Asc s n):Bd s n:=by
 cases n with
 | zero=>exact .inl rfl
 | succ n=>exact .inr (.inr (h n (abt n)))
theorem asc_add {s:LB} {a b:Nat} (h:Asc s a) (k:Asc (s.drop a) b):Asc s (a+b):=by
 intro j c;by_cases q:j < a
 .exact h j q
 .have:=k (j - a) (by omega);rw [rV,show a+(j - a)=j by omega] at this;exact this
theorem wF {p:UInt8->Bool} (e: ∀b,p b=true->b.toNat < 128): ∀s:LB,Asc s (wh p s)
 | []=>fun j a=>absurd a (ace j)
 | c::l=>by
  rw [dr];intro j a;cases d:p c with
  | false=>rw [d] at a;simp at a
  | true=>
   rw [d,if_pos rfl] at a;cases j with
   | zero=>exact e c d
   | succ j=>exact wF e l j (by omega)
theorem WW {p:UInt8->Bool} (h:((List.range 256).all fun n=>p (UInt8.ofNat n))=true) (b:UInt8):p b=true:=by
 have:=abd.1 h b.toNat (List.mem_range.2 (UInt8.toNat_lt b));simpa using this
theorem yL {p:UInt8->Bool} (h:((List.range 256).all fun n=> !(p (UInt8.ofNat n))||Nat.blt (UInt8.ofNat n).toNat 128)=true) (b:UInt8) (a:p b=true):b.toNat < 128:=by
 have:=WW (p:=fun b=> !(p b)||Nat.blt b.toNat 128) h b;simp only [a,aaS,aaV] at this;exact aaq this
theorem L5 (b:UInt8) (a:bw b=true):b.toNat < 128:=yL (by decide+kernel) b a
theorem QQ (b:UInt8) (a:eA b=true):b.toNat < 128:=yL (by decide+kernel) b a
theorem Ev (b:UInt8) (a:aC b=true):b.toNat < 128:=yL (by decide+kernel) b a
theorem asc_one (b:UInt8) (a:jy b=true):b.toNat < 128:=yL (by decide+kernel) b a
theorem Rd (b:UInt8) (a:qe b=true):b.toNat < 128:=yL (by decide+kernel) b a
theorem OC (s:LB):Asc s (eO s).1:=by
 unfold eO;cases s with
 | nil=>exact fun j a=>absurd a (ace j)
 | cons e l=>
  dsimp only;split
  .rename_i b;split
   .exact fun j a=>absurd a (ace j)
   .dsimp only;have h1:Asc (e::l) 1:=by
     intro j a;have:j=0:=by omega
     subst this;rcases b with rfl | rfl <;> exact aaq rfl
    have c:Asc l (eh l):=by
     cases l with
     | nil=>exact fun j a=>absurd a (ace j)
     | cons d r=>
      intro j a;simp only [eh] at a;cases hd:qe d with
      | false=>rw [hd] at a;simp at a
      | true=>
       rw [hd,if_pos rfl] at a;have:j=0:=by omega
       subst this;exact Rd d hd
    have f:=wF Ev (l.drop (eh l));refine asc_add (asc_add h1 c) ?_;rw [show (e::l).drop (1+eh l)=l.drop (eh l) by rw [abC];rfl];exact f
  .exact fun j a=>absurd a (ace j)
theorem K4 {s:LB} {c:UInt8} (h:s.head?=some c):s.getD 0 0=c:=by
 cases s with
 | nil=>cases h
 | cons d l=>cases h;rfl
theorem IG (s:LB):Asc s (number s).2:=by
 have h1:=wF Ev s;unfold number;dsimp only;split
 .rename_i a;refine asc_add (asc_add (asc_add h1 ?_) ?_) ?_
  .intro j b;have:j=0:=by omega
   subst this;rw [K4 a];decide
  .exact wF Ev _
  .exact OC _
 .exact h1
theorem uz: ∀(s:LB) (d n:Nat),rem s d=some n->s.getD (n - 1) 0=41
 | [],_,_,h=>by simp [rem] at h
 | [_],_,_,h=>by simp [rem] at h
 | a::b::l,d,n,h=>by
  simp only [rem] at h;split at h
  .obtain ⟨m,hm,rfl⟩:=aaF.1 h;have h1:=pL l (d+1) m hm;have:=uz l (d+1) m hm;rw [show m+2 - 1=(m - 1)+2 by omega];exact this
  .split at h
   .rename_i c;split at h
    .cases h;exact c.2
    .obtain ⟨m,hm,rfl⟩:=aaF.1 h;have h1:=pL l (d - 1) m hm;have:=uz l (d - 1) m hm;rw [show m+2 - 1=(m - 1)+2 by omega];exact this
   .obtain ⟨m,hm,rfl⟩:=aaF.1 h;have h1:=pL (b::l) d m hm;have:=uz (b::l) d m hm;rw [show m+1 - 1=(m - 1)+1 by omega];exact this
theorem Fy: ∀(s:LB),(s.getD (ff s) 0).toNat < 128\/(1<=ff s/\s.getD (ff s - 1) 0=34)
 | []=> .inl (by decide)
 | c::l=>by
  simp only [ff];split
  .rename_i h;subst h;exact .inl (aaq rfl)
  .split
   .rename_i h;subst h;exact .inr ⟨aah _,rfl⟩
   .rcases Fy l with h | ⟨h1,a⟩
    .exact .inl h
    .exact .inr ⟨by omega,by rw [show ff l+1 - 1=(ff l - 1)+1 by omega];exact a⟩
theorem DV: ∀(s:LB),(s.getD (cL s).2 0).toNat < 128\/(1<=(cL s).2/\s.getD ((cL s).2 - 1) 0=34)
 | []=> .inl (by decide)
 | [c]=>by
  simp only [cL];split
  .rename_i h;subst h;exact .inl (aaq rfl)
  .split
   .rename_i h;subst h;exact .inr ⟨aah _,rfl⟩
   .exact .inl (aaq rfl)
 | c::d::l=>by
  simp only [cL];split
  .rename_i h;subst h;exact .inl (aaq rfl)
  .split
   .rename_i h;subst h;exact .inr ⟨aah _,rfl⟩
   .split
    .split
     .rcases DV l with h | ⟨h1,a⟩
      .exact .inl h
      .refine .inr ⟨by dsimp only;omega, ?_⟩;dsimp only;rw [show (cL l).2+2 - 1=((cL l).2 - 1)+2 by omega];exact a
     .rcases Fy (d::l) with h | ⟨h1,a⟩
      .exact .inl h
      .refine .inr ⟨by dsimp only;omega, ?_⟩;dsimp only;rw [show ff (d::l)+1 - 1=(ff (d::l) - 1)+1 by omega];exact a
    .rcases DV (d::l) with h | ⟨h1,a⟩
     .exact .inl h
     .refine .inr ⟨by dsimp only;omega, ?_⟩;dsimp only;rw [show (cL (d::l)).2+1 - 1=((cL (d::l)).2 - 1)+1 by omega];exact a
theorem Vu {s:LB} (b:s≠[]):Bd s (cut s).2\/(cut s).2=if gC s=0 then 1 else gC s:=by
 cases s with
 | nil=>exact absurd rfl b
 | cons c l=>
  unfold cut;dsimp only;split
  .exact .inl (HS (wF L5 _))
  split
  .cases d:rem (List.drop 2 (c::l)) 1 with
   | some n=>
    have h1:=pL _ _ _ d;have:=uz _ _ _ d;rw [rV] at this;refine .inl (.inr (.inr ?_));dsimp only;rw [show n+2 - 1=2+(n - 1) by omega,this];decide
   | none=>
    refine .inl (.inr (.inl ?_));dsimp only;rw [aaz,aaX (aah _)];decide
  split
  .exact .inl (HS (wF QQ _))
  split
  .exact .inl (HS (IG _))
  split
  .rcases DV l with h | ⟨h1,a⟩
   .exact .inl (.inr (.inl h))
   .refine .inl (.inr (.inr ?_));dsimp only;rw [show (cL l).2+1 - 1=((cL l).2 - 1)+1 by omega];have a:(c::l).getD ((cL l).2 - 1+1) 0=34:=a;rw [a];decide
  split
  .rename_i a;refine .inl (.inr (.inr ?_));have hm:(c::l).take 2∈gG:=List.contains_iff_mem.1 a;have e:(c::l).getD (2 - 1) 0=((c::l).take 2).getD 1 0:=(getD_take (by omega)).symm;dsimp only;rw [e];generalize (c::l).take 2=w at hm;simp only [gG,aam,List.not_mem_nil,or_false] at hm;rcases hm with rfl | rfl | rfl | rfl | rfl | rfl | rfl | rfl | rfl | rfl | rfl <;> decide
  split
  .rename_i h1;exact .inl (.inr (.inr (asc_one c h1)))
  .exact .inr rfl
theorem C6 {s:LB} (a:s≠[]) (c:bH s=true):bH (s.take (cut s).2)=true/\bH (s.drop (cut s).2)=true:=by
 have d:=jF a;rcases Vu a with h | h
 .exact xj _ s _ (aah _) c d.2 h
 .obtain ⟨z,f⟩:=uX a c;rw [if_neg z] at h;rw [h];refine ⟨?_,f⟩;have b:s.take (gC s)≠[]:=by
   intro e;rw [List.take_eq_nil_iff] at e;rcases e with e | e
   .exact z e
   .exact a e
  have hl:=ri a;rw [jo b,zV a z (aah _),if_neg z,List.drop_of_length_le (by rw [aat];omega)];rfl
theorem ly (p:UInt8->Bool): ∀(s:LB) (n:Nat),wh p (s.take n)=min (wh p s) n
 | [],n=>by simp [wh]
 | c::l,0=>by simp [wh]
 | c::l,n+1=>by
  rw [abO,dr,dr,ly p l n];split <;> omega
theorem NJ (p:UInt8->Bool) (s:LB):(s.take (wh p s)).takeWhile p=s.takeWhile p:=by
 rw [<- pT p (s.take (wh p s)),ly,Nat.min_self,List.take_take,Nat.min_self,pT]
theorem oG: ∀(s:LB) (d n:Nat),rem s d=some n->rem (s.take n) d=some n
 | [],_,_,h=>by simp [rem] at h
 | [_],_,_,h=>by simp [rem] at h
 | a::b::l,d,n,h=>by
  simp only [rem] at h;split at h
  .rename_i c;obtain ⟨m,hm,rfl⟩:=aaF.1 h;show rem (a::b::l.take m) d= _;simp only [rem,if_pos c,oG l (d+1) m hm];rfl
  .rename_i c;split at h
   .rename_i e;split at h
    .rename_i f;cases h;show rem [a,b] d= _;simp only [rem,if_neg c,if_pos e,if_pos f]
    .rename_i f;obtain ⟨m,hm,rfl⟩:=aaF.1 h;show rem (a::b::l.take m) d= _;simp only [rem,if_neg c,if_pos e,if_neg f,oG l (d - 1) m hm];rfl
   .rename_i e;obtain ⟨m,hm,rfl⟩:=aaF.1 h;have g:=(pL (b::l) d m hm).1;have ih:=oG (b::l) d m hm;obtain ⟨k,rfl⟩: ∃k,m=k+1:=⟨m - 1,by omega⟩;have ih:rem (b::l.take k) d=some (k+1):=ih;show rem (a::b::l.take k) d= _;simp only [rem,if_neg c,if_neg e,ih];rfl
theorem ym (x:LB): ∀(s:LB) (d n:Nat),rem s d=some n->rem (s++x) d=some n
 | [],_,_,h=>by simp [rem] at h
 | [_],_,_,h=>by simp [rem] at h
 | a::b::l,d,n,h=>by
  simp only [rem] at h;show rem (a::b::(l++x)) d= _;split at h
  .rename_i c;obtain ⟨m,hm,rfl⟩:=aaF.1 h;simp only [rem,if_pos c,ym x l (d+1) m hm];rfl
  .rename_i c;split at h
   .rename_i e;split at h
    .rename_i f;cases h;simp only [rem,if_neg c,if_pos e,if_pos f]
    .rename_i f;obtain ⟨m,hm,rfl⟩:=aaF.1 h;simp only [rem,if_neg c,if_pos e,if_neg f,ym x l (d - 1) m hm];rfl
   .rename_i e;obtain ⟨m,hm,rfl⟩:=aaF.1 h;have ih:rem (b::(l++x)) d=some m:=ym x (b::l) d m hm;simp only [rem,if_neg c,if_neg e,ih];rfl
theorem Oz {l:LB} {n:Nat} (h:eh l<=n) (hn:1<=n):eh (l.take n)=eh l:=by
 cases l with
 | nil=>rw [List.take_nil]
 | cons c l=>
  obtain ⟨m,rfl⟩: ∃m,n=m+1:=⟨n - 1,by omega⟩;rfl
theorem head_take {l:LB} {n:Nat} (hn:1<=n):(l.take n).head?=l.head?:=by
 cases l with
 | nil=>rw [List.take_nil]
 | cons c l=>
  obtain ⟨m,rfl⟩: ∃m,n=m+1:=⟨n - 1,by omega⟩;rfl
theorem Ma (s:LB):eO (s.take (eO s).1)=eO s:=by
 cases s with
 | nil=>rfl
 | cons e l=>
  by_cases a:e=101\/e=69
  .by_cases hd:wh aC (l.drop (eh l))=0
   .have h0:eO (e::l)=(0,0):=by unfold eO;dsimp only;rw [if_pos a,if_pos hd]
    rw [h0];rfl
   .have h1:(eO (e::l)).1=1+eh l+wh aC (l.drop (eh l)):=by unfold eO;dsimp only;rw [if_pos a,if_neg hd]
    rw [h1];generalize c:wh aC (l.drop (eh l))=k at hd;have d:(e::l).take (1+eh l+k)=e::l.take (eh l+k):=by
     rw [show 1+eh l+k=(eh l+k)+1 by omega];rfl
    have hs:eh (l.take (eh l+k))=eh l:=Oz (by omega) (by omega);have b:(l.take (eh l+k)).drop (eh l)=(l.drop (eh l)).take k:=by
     rw [List.drop_take];congr 1;omega
    have f:wh aC ((l.drop (eh l)).take k)=k:=by rw [ly,c,Nat.min_self]
    have g:(l.take (eh l+k)).head?=l.head?:=head_take (by omega);rw [d];unfold eO;dsimp only;rw [if_pos a,if_pos a,hs,b,f,c,if_neg hd,if_neg hd,g,List.take_take,Nat.min_self]
  .have h0:eO (e::l)=(0,0):=by unfold eO;dsimp only;rw [if_neg a]
   rw [h0];rfl
theorem iI (s:LB):number s=if (s.drop (wh aC s)).head?=some 46 then (if wh aC s+wh aC (s.drop (wh aC s+1)) > 15\/(eO (s.drop (wh aC s+1+wh aC (s.drop (wh aC s+1))))).2 - (wh aC (s.drop (wh aC s+1)):Int) < -22\/(eO (s.drop (wh aC s+1+wh aC (s.drop (wh aC s+1))))).2 - (wh aC (s.drop (wh aC s+1)):Int) > 22 then 9 else 6,wh aC s+1+wh aC (s.drop (wh aC s+1))+(eO (s.drop (wh aC s+1+wh aC (s.drop (wh aC s+1))))).1) else (5,wh aC s):=rfl
theorem FX (s:LB):number (s.take (number s).2)=number s:=by
 by_cases a:(s.drop (wh aC s)).head?=some 46
 .have b:(number s).2=wh aC s+1+wh aC (s.drop (wh aC s+1))+(eO (s.drop (wh aC s+1+wh aC (s.drop (wh aC s+1))))).1:=by rw [iI,if_pos a]
  have hx:=Ma (s.drop (wh aC s+1+wh aC (s.drop (wh aC s+1))));rw [b,iI (List.take _ _),iI s,if_pos a];generalize hn:wh aC s=n at *;generalize c:wh aC (s.drop (n+1))=k at *;generalize d:s.drop (n+1+k)=r at *;generalize hm:(eO r).1=m at *;have e:wh aC (s.take (n+1+k+m))=n:=by rw [ly,hn];omega
  have d1:(s.take (n+1+k+m)).drop n=(s.drop n).take (1+k+m):=by rw [List.drop_take];congr 1;omega
  have d2:(s.take (n+1+k+m)).drop (n+1)=(s.drop (n+1)).take (k+m):=by rw [List.drop_take];congr 1;omega
  have d3:(s.take (n+1+k+m)).drop (n+1+k)=r.take m:=by rw [List.drop_take,d];congr 1;omega
  have f:wh aC ((s.drop (n+1)).take (k+m))=k:=by rw [ly,c];omega
  have g:((s.drop n).take (1+k+m)).head?=some 46:=by rw [head_take (by omega)];exact a
  rw [e,d1,d2,f,d3,hx,if_pos g,hm]
 .have b:number s=(5,wh aC s):=by rw [iI,if_neg a]
  rw [b,iI (List.take _ _),ly,Nat.min_self];have hd:(s.take (wh aC s)).drop (wh aC s)=[]:=List.drop_of_length_le (by rw [aat];omega);rw [hd,if_neg (by simp)]
theorem Cs: ∀s:LB,ff (s.take (ff s))=ff s
 | []=>rfl
 | c::l=>by
  by_cases h1:c=10
  .have h0:ff (c::l)=0:=by simp only [ff,if_pos h1]
   rw [h0];rfl
  .by_cases a:c=34
   .have h0:ff (c::l)=1:=by simp only [ff,if_neg h1,if_pos a]
    rw [h0];show ff [c]=1;simp only [ff,if_neg h1,if_pos a]
   .have h0:ff (c::l)=ff l+1:=by simp only [ff,if_neg h1,if_neg a]
    rw [h0];show ff (c::l.take (ff l))= _;simp only [ff,if_neg h1,if_neg a,Cs l]
theorem r9 (r:LB): ∀s:LB,ff (s++10::r)=ff s
 | []=>by
  show ff (10::r)=0;simp [ff]
 | c::l=>by
  show ff (c::(l++10::r))= _;simp only [ff,r9 r l]
theorem ye {c:UInt8} (h1:c≠10) (a:c≠34):cL [c]=(9,1):=by simp only [cL,if_neg h1,if_neg a]
theorem AE: ∀s:LB,cL (s.take (cL s).2)=cL s
 | []=>rfl
 | [c]=>by
  by_cases h1:c=10
  .subst h1;rfl
  .by_cases a:c=34
   .subst a;rfl
   .rw [ye h1 a];exact ye h1 a
 | c::d::l=>by
  by_cases h1:c=10
  .have h0:cL (c::d::l)=(9,0):=by simp only [cL,if_pos h1]
   rw [h0];rfl
  by_cases a:c=34
  .have h0:cL (c::d::l)=(7,1):=by simp only [cL,if_neg h1,if_pos a]
   rw [h0];show cL [c]= _;simp only [cL,if_neg h1,if_pos a]
  by_cases g:c=92
  .cases i:uw d with
   | true=>
    have h0:cL (c::d::l)=((cL l).1,(cL l).2+2):=by simp only [cL,if_neg h1,if_neg a,if_pos g,i,if_true]
    rw [h0];show cL (c::d::l.take (cL l).2)= _;simp only [cL,if_neg h1,if_neg a,if_pos g,i,if_true,AE l]
   | false=>
    have h0:cL (c::d::l)=(9,ff (d::l)+1):=by simp only [cL,if_neg h1,if_neg a,if_pos g,i,aaB,if_false]
    rw [h0];show cL (c::(d::l).take (ff (d::l)))= _;have b:=Cs (d::l);cases f:(d::l).take (ff (d::l)) with
    | nil=>
     rw [f] at b;rw [ye h1 a, <- b];rfl
    | cons e m=>
     rw [f] at b;have:e=d:=by
      cases h:ff (d::l) with
      | zero=>rw [h] at f;cases f
      | succ k=>rw [h] at f;cases f;rfl
     subst this;simp only [cL,if_neg h1,if_neg a,if_pos g,i,aaB,if_false,b]
  .have h0:cL (c::d::l)=((cL (d::l)).1,(cL (d::l)).2+1):=by simp only [cL,if_neg h1,if_neg a,if_neg g]
   rw [h0];show cL (c::(d::l).take (cL (d::l)).2)= _;have b:=AE (d::l);cases f:(d::l).take (cL (d::l)).2 with
   | nil=>
    rw [f] at b;rw [ye h1 a, <- b];rfl
   | cons e m=>
    rw [f] at b;simp only [cL,if_neg h1,if_neg a,if_neg g,b]
def O7 (c:UInt8) (l s:LB):Nat×Nat:=
 if bw c then (1,wh bw s)
 else if s.take 2=[40,42] then (match rem (s.drop 2) 1 with | some n=>(2,n+2) | none=>(9,s.length))
 else if iP c then (oc (s.takeWhile eA),wh eA s)
 else if aC c then number s
 else if c=34 then ((cL l).1,(cL l).2+1)
 else if gG.contains (s.take 2) then (8,2)
 else if jy c then (8,1)
 else (9,if gC s=0 then 1 else gC s)
theorem mT (c:UInt8) (l:LB):cut (c::l)=O7 c l (c::l):=rfl
theorem MY {c:UInt8} {l:LB} (h:(c::l).take 2≠[40,42]) (n:Nat):(c::l.take n).take 2≠[40,42]:=by
 cases l with
 | nil=>rw [List.take_nil];exact h
 | cons d l=>
  cases n with
  | zero=>simp
  | succ n=>exact h
theorem O8 {s:LB} (f:s≠[]) (k:gC s≠0):cut (s.take (cut s).2)=cut s:=by
 cases s with
 | nil=>exact absurd rfl f
 | cons c l=>
 have t:=(jF (s:=c::l) (by simp)).1;obtain ⟨m,hm⟩: ∃m,(cut (c::l)).2=m+1:=⟨(cut (c::l)).2 - 1,by omega⟩;have o:(c::l).take (cut (c::l)).2=c::l.take m:=by rw [hm];rfl
 rw [o,mT, <- o];rw [hm];have o:(c::l).take (m+1)=c::l.take m:=rfl;rw [mT c l] at hm ⊢;unfold O7 at hm ⊢;cases r:bw c with
 | true=>
  rw [r] at hm;simp only [if_true] at hm ⊢;rw [ly,hm,Nat.min_self]
 | false=>
 rw [r] at hm;simp only [aaB,if_false] at hm ⊢;by_cases b:(c::l).take 2=[40,42]
 .rw [if_pos b] at hm ⊢;have hl:2<=(c::l).length:=by
   have:=aaY List.length b;rw [aat] at this;simp at this;simp;omega
  cases i:rem ((c::l).drop 2) 1 with
  | none=>
   rw [i] at hm;have hm:(c::l).length=m+1:=hm;have e:(c::l).take (m+1)=c::l:=List.take_of_length_le (by omega);rw [e,if_pos b,i]
  | some n=>
   rw [i] at hm;have hm:n+2=m+1:=hm;have e:((c::l).take (m+1)).take 2=(c::l).take 2:=by
    rw [List.take_take];congr 1;omega
   have p:((c::l).take (m+1)).drop 2=((c::l).drop 2).take n:=by
    rw [List.drop_take];congr 1;omega
   rw [e,if_pos b,p,oG _ _ _ i]
 have q:((c::l).take (m+1)).take 2≠[40,42]:=MY b m;rw [if_neg b] at hm ⊢;rw [if_neg q];cases g:iP c with
 | true=>
  rw [g] at hm;simp only [if_true] at hm ⊢;have hm:wh eA (c::l)=m+1:=hm;rw [<- hm,ly,Nat.min_self,NJ]
 | false=>
 rw [g] at hm;simp only [aaB,if_false] at hm ⊢;cases h:aC c with
 | true=>
  rw [h] at hm;simp only [if_true] at hm ⊢;rw [<- hm];exact FX _
 | false=>
 rw [h] at hm;simp only [aaB,if_false] at hm ⊢;by_cases j:c=34
 .rw [if_pos j] at hm ⊢;rw [if_pos j];have hm:(cL l).2+1=m+1:=hm;have e:m=(cL l).2:=by omega
  rw [e,AE]
 rw [if_neg j] at hm ⊢;rw [if_neg j];cases a:gG.contains ((c::l).take 2) with
 | true=>
  rw [a] at hm;simp only [if_true] at hm ⊢;have hm:2=m+1:=hm;rw [<- hm,List.take_take,Nat.min_self,a];rfl
 | false=>
 rw [a] at hm;simp only [aaB,if_false] at hm ⊢;cases ho:jy c with
 | true=>
  rw [ho] at hm;simp only [if_true] at hm ⊢;have hm:1=m+1:=hm;have:m=0:=by omega
  subst this;have e:gG.contains (((c::l).take (0+1)).take 2)=false:=by
   show gG.contains [c]=false;simp [gG]
  rw [e];rfl
 | false=>
 rw [ho] at hm;simp only [aaB,if_false] at hm ⊢;have hm:(if gC (c::l)=0 then 1 else gC (c::l))=m+1:=hm;rw [if_neg k] at hm ⊢;have e:gC ((c::l).take (m+1))=gC (c::l):=zV f k (by omega);have p:gG.contains (((c::l).take (m+1)).take 2)=false:=by
  cases l with
  | nil=>show gG.contains ((c::[].take m).take 2)=false;rw [List.take_nil];exact a
  | cons d l=>
   cases m with
   | zero=>show gG.contains [c]=false;simp [gG]
   | succ m=>exact a
 rw [p,e,if_neg k];rfl
def behind (s:LB):Nat->LB
 | 0=>s
 | n+1=>(behind s n).drop (cut (behind s n)).2
theorem qI: ∀(n:Nat) (s:LB),s.length<=n->(((tokens s).map (·.2)).flatten)=s
 | n,[],_=>rfl
 | 0,_:: _,h=>by simp at h
 | n+1,c::l,h=>by
  have a:=jF (s:=c::l) (by simp);rw [qT (by simp),aal,List.flatten_cons,qI n _ (by rw [aas];simp at h ⊢;omega),abk]
theorem Nw (f:UInt8->Bool): ∀(p y:LB),wh f (p++y)=if wh f p=p.length then p.length+wh f y else wh f p
 | [],y=>by simp [wh]
 | c::p,y=>by
  rw [aap,dr,dr,Nw f p y];cases f c with
  | false=>
   rw [if_neg (by simp),if_neg (by simp),if_neg (by simp)]
  | true=>
   rw [if_pos rfl,if_pos rfl];by_cases h:wh f p=p.length
   .rw [if_pos h,if_pos (by rw [h];rfl)];simp;omega
   .rw [if_neg h,if_neg (by simp;omega)]
theorem Rj {p y y':LB} {d m:Nat} (h:rem (p++y) d=some m) (hm:m<=p.length):rem (p++y') d=some m:=by
 have h1:=oG _ _ _ h;rw [List.take_append_of_le_length hm] at h1;have a:=ym (p.drop m++y') _ _ _ h1;rw [<- aao,abk] at a;exact a
def cB (l:List (Nat×LB)):LB:=(l.map (·.2)).flatten
def keeps:Nat->List (Nat×LB)->Nat
 | _,[]=>0
 | r,p::l=>if p.2.length+2 < r then keeps (r - p.2.length) l+1 else 0
theorem nr (p:Nat×LB) (l:List (Nat×LB)):cB (p::l)=p.2++cB l:=rfl
def alike:List (Nat×LB)->List (Nat×LB)->Nat
 | a::l,b::m=>if a=b then alike l m+1 else 0
 | _,_=>0
end Go.Lex
namespace Go.Parse
open Go.VM Go.Lex
mutual
def eK:T->LB
 | .mk k _ tx l=>cC l++(if k=1 then tx else [])
def cC:List T->LB
 | []=>[]
 | t::l=>eK t++cC l
end
theorem eU: ∀(l m:List T),cC (l++m)=cC l++cC m
 | [],m=>by simp [cC]
 | t::l,m=>by simp only [aap,cC,eU l m,aao]
theorem cj (t:T):cC [t]=eK t:=by simp [cC]
theorem pg (s:LB):eK (missing s)=[]:=rfl
theorem dK {k:Nat} (h:k≠1) (l:List T):eK (node k l)=cC l:=by simp [eK,h]
theorem IK (l m:List aW):cB (l++m)=cB l++cB m:=by simp [cB]
theorem xu: ∀(l:List aW),cC (l.map bc)=cB l
 | []=>rfl
 | t::l=>by
  show eK (bc t)++cC (l.map bc)=t.2++cB l;rw [xu l];rfl
theorem gZ (r:List aW):eK (aK r)++cB (aO r)=cB r:=by
 have h:=abJ (p:=bl) (l:=r);have e:eK (aK r)=cB (r.takeWhile bl)++(nx r).2:=by
  show cC ((r.takeWhile bl).map bc)++(nx r).2= _;rw [xu]
 rw [e]
 conv=>rhs;rw [<- h,IK]
 unfold aO nx;cases r.dropWhile bl with
 | nil=>simp [cB]
 | cons t l=>simp [cB]
theorem jt (s:LB) (r:List aW):eK (cP s r)++cB (bo s r)=cB r:=by
 unfold cP bo;split
 .exact gZ r
 .rw [pg];rfl
theorem vz (s:LB) (r:List aW):eK (jI s r)++cB (kg r)=cB r:=by
 unfold jI kg;split
 .rw [pg];rfl
 .rw [dK (by decide),cj];exact gZ r
def zz:lJ->LB
 | .ops _ acc=>eK acc
 | .args acc=>eK acc
 | _=>[]
theorem bind_some {α β:Type} {x:Oq α} {f:α->Oq β} {b:β} (h:(x >>= f)=some b): ∃a,x=some a/\f a=some b:=by
 cases x with
 | none=>cases h
 | some a=>exact ⟨a,rfl,h⟩
theorem rH (a b:Bool):kindOf a b≠1:=by cases a <;> cases b <;> decide
theorem UO: ∀(N:Nat) (job:lJ) (d:Nat) (r:List aW) (l:List T) (r':List aW),P N job d r=some (l,r')->cC l++cB r'=zz job++cB r:=by
 intro N
 induction N with
 | zero=>intro job d r l r' h;cases h
 | succ n ih=>
  intro job d r l r' h;have tk:=gZ r;cases job with
  | expr=>
   simp only [P] at h;split at h
   .cases h;rw [cj,vz];rfl
   .have k:=ih _ _ _ _ _ h;exact k
  | whole=>
   simp only [P] at h;split at h
   .obtain ⟨⟨bs,r2⟩,f,h⟩:=bind_some h;obtain ⟨⟨es,o⟩,g,h⟩:=bind_some h;cases h;have k1:=ih _ _ _ _ _ f;have e:=ih _ _ _ _ _ g;simp only [zz,aaj] at k1 e ⊢;rw [cj,dK (by decide)];simp only [eU,cC,aaj,aaw,aao,aap,e,jt,k1,tk]
   split at h
   .obtain ⟨⟨a,i⟩,f,h⟩:=bind_some h;obtain ⟨⟨ps,r2⟩,g,h⟩:=bind_some h;obtain ⟨⟨es,o⟩,m,h⟩:=bind_some h;cases h;have k1:=ih _ _ _ _ _ f;have e:=ih _ _ _ _ _ g;have j:=ih _ _ _ _ _ m;simp only [zz,aaj] at k1 e j ⊢;rw [cj,dK (by decide)];simp only [eU,cC,aaj,aaw,aao,aap,j,jt,e,k1,tk]
   split at h
   .obtain ⟨⟨a,i⟩,f,h⟩:=bind_some h;obtain ⟨⟨b,r2⟩,g,h⟩:=bind_some h;obtain ⟨⟨c,o⟩,m,h⟩:=bind_some h;cases h;have k1:=ih _ _ _ _ _ f;have e:=ih _ _ _ _ _ g;have j:=ih _ _ _ _ _ m;simp only [zz,aaj] at k1 e j ⊢;rw [cj,dK (by decide)];simp only [eU,cC,aaj,aaw,aao,aap,j,jt,e,k1,tk]
   split at h
   .obtain ⟨⟨a,i⟩,f,h⟩:=bind_some h;obtain ⟨⟨b,o⟩,g,h⟩:=bind_some h;obtain ⟨⟨cs,t⟩,m,h⟩:=bind_some h;cases h;have k1:=ih _ _ _ _ _ f;have e:=ih _ _ _ _ _ g;have j:=ih _ _ _ _ _ m;simp only [zz,aaj] at k1 e j ⊢;have s:cC (if cf fZ (bo bR i) then [aK (bo bR i)] else [])++cB (if cf fZ (bo bR i) then aO (bo bR i) else bo bR i)=cB (bo bR i):=by
     split
     .rw [cj];exact gZ _
     .rfl
    rw [cj,dK (by decide)];simp only [eU,cC,aaj,aaw,aao,aap,j,e,s,jt,k1,tk]
   .have k:=ih _ _ _ _ _ h;exact k
  | level k=>
   simp only [P] at h;split at h
   .have k:=ih _ _ _ _ _ h;exact k
   .obtain ⟨⟨a,i⟩,f,h⟩:=bind_some h;dsimp only at h;split at h
    .have k1:=ih _ _ _ _ _ f;have e:=ih _ _ _ _ _ h;simp only [zz,aaj,cj] at k1 e ⊢;rw [e,k1]
    .cases h
  | ops k acc=>
   simp only [P] at h;split at h
   .obtain ⟨⟨b,i⟩,f,h⟩:=bind_some h;have k1:=ih _ _ _ _ _ f;have e:=ih _ _ _ _ _ h;simp only [zz,aaj] at k1 e ⊢;rw [e,dK (by decide)];simp only [cC,aaj,aao,k1,tk]
   .cases h;rw [cj];rfl
  | neg=>
   simp only [P] at h;split at h
   .split at h
    .cases h;rw [cj,dK (by decide)];simp only [cC,aaj,aaw,aao,zz,aaj,vz,tk]
    .obtain ⟨⟨a,i⟩,f,h⟩:=bind_some h;cases h;have k1:=ih _ _ _ _ _ f;simp only [zz,aaj] at k1 ⊢;rw [cj,dK (by decide)];simp only [cC,aaj,aao,k1,tk]
   .obtain ⟨⟨a,i⟩,f,h⟩:=bind_some h;dsimp only at h;split at h
    .have k1:=ih _ _ _ _ _ f;have e:=ih _ _ _ _ _ h;simp only [zz,aaj,cj] at k1 e ⊢;rw [e,k1]
    .cases h
  | args acc=>
   simp only [P] at h;split at h
   .obtain ⟨⟨b,i⟩,f,h⟩:=bind_some h;have k1:=ih _ _ _ _ _ f;have e:=ih _ _ _ _ _ h;simp only [zz,aaj] at k1 e ⊢;rw [e,dK (by decide)];simp only [cC,aaj,aao,k1]
   .cases h;rw [cj];rfl
  | atom pat=>
   simp only [P] at h;split at h
   .split at h
    .cases h;rw [cj,dK (by decide),cj];exact tk
    split at h
    .have k:=ih _ _ _ _ _ h;exact k
    split at h
    .have k:=ih _ _ _ _ _ h;exact k
    .cases h;rw [cj];exact tk
   .cases h;rw [cj,pg];rfl
  | closed list pat=>
   simp only [P] at h;split at h
   .cases h;have q:=gZ (aO r);rw [cj,dK (rH _ _)];simp only [cC,aaj,aaw,aao,zz,aaj,q,tk]
   .obtain ⟨⟨a,r2⟩,f,h⟩:=bind_some h;obtain ⟨⟨bs,o⟩,g,h⟩:=bind_some h;cases h;have k1:=ih _ _ _ _ _ f;have e:=ih _ _ _ _ _ g;have hd:zz (if pat then lJ.pattern else lJ.expr)=[]:=by cases pat <;> rfl
    rw [hd] at k1;simp only [zz,aaj] at k1 e ⊢;rw [cj,dK (rH _ _)];simp only [eU,cC,aaj,aaw,aao,aap,jt,e,k1,tk]
  | items list pat=>
   simp only [P] at h;split at h
   .obtain ⟨⟨a,r2⟩,f,h⟩:=bind_some h;obtain ⟨⟨bs,o⟩,g,h⟩:=bind_some h;cases h;have k1:=ih _ _ _ _ _ f;have e:=ih _ _ _ _ _ g;have hd:zz (if pat then lJ.pattern else lJ.expr)=[]:=by cases pat <;> rfl
    rw [hd] at k1;simp only [zz,aaj] at k1 e ⊢;simp only [eU,cC,aaj,aao,aap,e,k1,tk]
   .cases h;rfl
  | pattern=>
   simp only [P] at h;split at h
   .cases h;rw [cj,vz];rfl
   .obtain ⟨⟨a,i⟩,f,h⟩:=bind_some h;have k1:=ih _ _ _ _ _ f;dsimp only at h;split at h
    .obtain ⟨⟨b,r2⟩,g,h⟩:=bind_some h;cases h;have e:=ih _ _ _ _ _ g;simp only [zz,aaj] at k1 e ⊢;rw [cj,dK (by decide)];simp only [eU,cC,aaj,aao,e,gZ,k1]
    .cases h;exact k1
  | binding=>
   simp only [P] at h;have p:cC (if cf ey r then [aK r] else [])++cB (if cf ey r then aO r else r)=cB r:=by
    split
    .rw [cj];exact tk
    .rfl
   generalize (if cf ey r then [aK r] else [])=rc at h p;generalize (if cf ey r then aO r else r)=r0 at h p;split at h
   .obtain ⟨⟨xs,i⟩,f,h⟩:=bind_some h;obtain ⟨⟨ps,o⟩,m,f⟩:=bind_some f;cases f;obtain ⟨⟨es,r2⟩,g,h⟩:=bind_some h;cases h;have j:=ih _ _ _ _ _ m;have e:=ih _ _ _ _ _ g;simp only [zz,aaj] at e j ⊢;simp only [eU,cC,aaj,cj,aao,aap,e,jt,j,gZ,p]
   .obtain ⟨⟨xs,i⟩,f,h⟩:=bind_some h;obtain ⟨⟨es,r2⟩,g,h⟩:=bind_some h;cases h;have k1:=ih _ _ _ _ _ f;have e:=ih _ _ _ _ _ g;simp only [zz,aaj] at k1 e ⊢;simp only [eU,cj,aao,e,jt,k1,p]
  | params=>
   simp only [P] at h;split at h
   .obtain ⟨⟨a,i⟩,f,h⟩:=bind_some h;obtain ⟨⟨bs,r2⟩,g,h⟩:=bind_some h;cases h;have k1:=ih _ _ _ _ _ f;have e:=ih _ _ _ _ _ g;simp only [zz,aaj] at k1 e ⊢;simp only [eU,aao,e,k1]
   .cases h;rfl
  | arm=>
   simp only [P] at h;obtain ⟨⟨a,i⟩,f,h⟩:=bind_some h;obtain ⟨⟨es,r2⟩,g,h⟩:=bind_some h;cases h;have k1:=ih _ _ _ _ _ f;have e:=ih _ _ _ _ _ g;simp only [zz,aaj] at k1 e ⊢;rw [cj,dK (by decide)];simp only [eU,cj,aao,e,jt,k1]
  | arms=>
   simp only [P] at h;split at h
   .obtain ⟨⟨a,i⟩,f,h⟩:=bind_some h;obtain ⟨⟨bs,r2⟩,g,h⟩:=bind_some h;cases h;have k1:=ih _ _ _ _ _ f;have e:=ih _ _ _ _ _ g;simp only [zz,aaj] at k1 e ⊢;simp only [eU,cC,aaj,aao,aap,e,k1,tk]
   .cases h;rfl
theorem B6 {Q:List aW->Prop} (g: ∀r,Q r->Q (aO r)): ∀(N:Nat) (job:lJ) (d:Nat) (r:List aW) (l:List T) (r':List aW),P N job d r=some (l,r')->Q r->Q r':=by
 have hn: ∀s r,Q r->Q (bo s r):=fun s r h=>by
  unfold bo;split
  .exact g r h
  .exact h
 have hd: ∀r,Q r->Q (kg r):=fun r h=>by
  unfold kg;split
  .exact h
  .exact g r h
 intro N
 induction N with
 | zero=>intro job d r l r' h;cases h
 | succ n ih=>
  intro job d r l r' h q;cases job with
  | expr=>
   simp only [P] at h;split at h
   .cases h;exact hd _ q
   .exact ih _ _ _ _ _ h q
  | whole=>
   simp only [P] at h;split at h
   .obtain ⟨⟨bs,r2⟩,e,h⟩:=bind_some h;obtain ⟨⟨es,m⟩,f,h⟩:=bind_some h;cases h;exact ih _ _ _ _ _ f (hn _ _ (ih _ _ _ _ _ e (g _ q)))
   split at h
   .obtain ⟨⟨a,i⟩,e,h⟩:=bind_some h;obtain ⟨⟨ps,r2⟩,f,h⟩:=bind_some h;obtain ⟨⟨es,m⟩,j,h⟩:=bind_some h;cases h;exact ih _ _ _ _ _ j (hn _ _ (ih _ _ _ _ _ f (ih _ _ _ _ _ e (g _ q))))
   split at h
   .obtain ⟨⟨a,i⟩,e,h⟩:=bind_some h;obtain ⟨⟨b,r2⟩,f,h⟩:=bind_some h;obtain ⟨⟨c,m⟩,j,h⟩:=bind_some h;cases h;exact ih _ _ _ _ _ j (hn _ _ (ih _ _ _ _ _ f (hn _ _ (ih _ _ _ _ _ e (g _ q)))))
   split at h
   .obtain ⟨⟨a,i⟩,e,h⟩:=bind_some h;obtain ⟨⟨b,m⟩,f,h⟩:=bind_some h;obtain ⟨⟨cs,p⟩,j,h⟩:=bind_some h;cases h;have k1:=hn bR _ (ih _ _ _ _ _ e (g _ q));refine ih _ _ _ _ _ j (ih _ _ _ _ _ f ?_);dsimp only;split
    .exact g _ k1
    .exact k1
   .exact ih _ _ _ _ _ h q
  | level k=>
   simp only [P] at h;split at h
   .exact ih _ _ _ _ _ h q
   .obtain ⟨⟨a,i⟩,e,h⟩:=bind_some h;dsimp only at h;split at h
    .exact ih _ _ _ _ _ h (ih _ _ _ _ _ e q)
    .cases h
  | ops k acc=>
   simp only [P] at h;split at h
   .obtain ⟨⟨b,i⟩,e,h⟩:=bind_some h;exact ih _ _ _ _ _ h (ih _ _ _ _ _ e (g _ q))
   .cases h;exact q
  | neg=>
   simp only [P] at h;split at h
   .split at h
    .cases h;exact hd _ (g _ q)
    .obtain ⟨⟨a,i⟩,e,h⟩:=bind_some h;cases h;exact ih _ _ _ _ _ e (g _ q)
   .obtain ⟨⟨a,i⟩,e,h⟩:=bind_some h;dsimp only at h;split at h
    .exact ih _ _ _ _ _ h (ih _ _ _ _ _ e q)
    .cases h
  | args acc=>
   simp only [P] at h;split at h
   .obtain ⟨⟨b,i⟩,e,h⟩:=bind_some h;exact ih _ _ _ _ _ h (ih _ _ _ _ _ e q)
   .cases h;exact q
  | atom pat=>
   simp only [P] at h;split at h
   .split at h
    .cases h;exact g _ q
    split at h
    .exact ih _ _ _ _ _ h q
    split at h
    .exact ih _ _ _ _ _ h q
    .cases h;exact g _ q
   .cases h;exact q
  | closed list pat=>
   simp only [P] at h;split at h
   .cases h;exact g _ (g _ q)
   .obtain ⟨⟨a,r2⟩,e,h⟩:=bind_some h;obtain ⟨⟨bs,m⟩,f,h⟩:=bind_some h;cases h;exact hn _ _ (ih _ _ _ _ _ f (ih _ _ _ _ _ e (g _ q)))
  | items list pat=>
   simp only [P] at h;split at h
   .obtain ⟨⟨a,r2⟩,e,h⟩:=bind_some h;obtain ⟨⟨bs,m⟩,f,h⟩:=bind_some h;cases h;exact ih _ _ _ _ _ f (ih _ _ _ _ _ e (g _ q))
   .cases h;exact q
  | pattern=>
   simp only [P] at h;split at h
   .cases h;exact hd _ q
   .obtain ⟨⟨a,i⟩,e,h⟩:=bind_some h;have k1:=ih _ _ _ _ _ e q;dsimp only at h;split at h
    .obtain ⟨⟨b,r2⟩,f,h⟩:=bind_some h;cases h;exact ih _ _ _ _ _ f (g _ k1)
    .cases h;exact k1
  | binding=>
   simp only [P] at h;have o:Q (if cf ey r then aO r else r):=by
    split
    .exact g _ q
    .exact q
   generalize (if cf ey r then [aK r] else [])=rc at h;generalize (if cf ey r then aO r else r)=r0 at h o;split at h
   .obtain ⟨⟨xs,i⟩,e,h⟩:=bind_some h;obtain ⟨⟨ps,m⟩,j,e⟩:=bind_some e;cases e;obtain ⟨⟨es,r2⟩,f,h⟩:=bind_some h;cases h;exact ih _ _ _ _ _ f (hn _ _ (ih _ _ _ _ _ j (g _ o)))
   .obtain ⟨⟨xs,i⟩,e,h⟩:=bind_some h;obtain ⟨⟨es,r2⟩,f,h⟩:=bind_some h;cases h;exact ih _ _ _ _ _ f (hn _ _ (ih _ _ _ _ _ e o))
  | params=>
   simp only [P] at h;split at h
   .obtain ⟨⟨a,i⟩,e,h⟩:=bind_some h;obtain ⟨⟨bs,r2⟩,f,h⟩:=bind_some h;cases h;exact ih _ _ _ _ _ f (ih _ _ _ _ _ e q)
   .cases h;exact q
  | arm=>
   simp only [P] at h;obtain ⟨⟨a,i⟩,e,h⟩:=bind_some h;obtain ⟨⟨es,r2⟩,f,h⟩:=bind_some h;cases h;exact ih _ _ _ _ _ f (hn _ _ (ih _ _ _ _ _ e q))
  | arms=>
   simp only [P] at h;split at h
   .obtain ⟨⟨a,i⟩,e,h⟩:=bind_some h;obtain ⟨⟨bs,r2⟩,f,h⟩:=bind_some h;cases h;exact ih _ _ _ _ _ f (ih _ _ _ _ _ e (g _ q))
   .cases h;exact q
theorem zJ {Q:List aW->Prop} (a: ∀r,Q r->Q (aO r)): ∀(n:Nat) (r:List aW),Q r->Q (skip n r).2
 | 0,_,q=>q
 | n+1,r,q=>by
  simp only [skip];split
  .exact zJ a n _ (a _ q)
  .exact q
def Pp (r:List aW):Prop:= ∀t∈r,t.1≠0
theorem lA (r:List aW) (h:Pp r):Pp (aO r):=fun t a=>h t ((abM bl).subset (List.mem_of_mem_drop a))
theorem De: ∀(n:Nat) (r:List aW),cC (skip n r).1++cB (skip n r).2=cB r
 | 0,_=>rfl
 | n+1,r=>by
  simp only [skip];split
  .simp only [cC,aaj,aao,De n,gZ]
  .rfl
theorem JZ: ∀{r:List aW},(∀t∈r,t.1≠0)->(nx r).1=0->aO r=[]:=by
 intro r h h0;unfold nx at h0;unfold aO;cases hd:r.dropWhile bl with
 | nil=>rfl
 | cons t l=>
  rw [hd] at h0;have:t∈r:=(abM bl).subset (by rw [hd];simp);exact absurd h0 (h t this)
theorem tK: ∀(n:Nat) (r:List aW) (l:List T),decls n r=some l->Pp r->cC l=cB r
 | 0,_,_,h,_=>by cases h
 | n+1,r,l,h,a=>by
  simp only [decls] at h;split at h
  .rename_i h0;cases h;rw [cj];have:=gZ r;rw [JZ a h0] at this;simpa [cB] using this
  split at h
  .obtain ⟨⟨bs,e⟩,d,h⟩:=bind_some h;obtain ⟨m,b,h⟩:=bind_some h;cases h;have k1:=UO _ _ _ _ _ _ d;have c:=tK n e m b (B6 lA _ _ _ _ _ _ d (lA _ a));simp only [zz,aaj] at k1;simp only [cC,dK (show (5:Nat)≠1 by decide),aao,c,k1,gZ]
  .obtain ⟨m,b,h⟩:=bind_some h;cases h;have c:=tK n _ m b (zJ lA _ _ a);simp only [cC,dK (show (3:Nat)≠1 by decide),c,De]
theorem Gt (r:List aW) (h:Pp r):eK (doc r)=cB r:=by
 obtain ⟨l,a,b⟩:=lZ r;rw [b,dK (by decide),tK _ _ _ a h]
mutual
def bZ:T->Bool
 | .mk k tk _ l=>k != 2&&k != 3&&(k != 1||tk != 9)&&di l
def di:List T->Bool
 | []=>true
 | t::l=>bZ t&&di l
end
mutual
def fg:T->Nat
 | .mk _ _ _ l=>eZ l+1
def eZ:List T->Nat
 | []=>0
 | t::l=>max (fg t) (eZ l)
end
theorem ck: ∀(l m:List T),eZ (l++m)=max (eZ l) (eZ m)
 | [],m=>by simp [eZ]
 | t::l,m=>by simp only [aap,eZ,ck l m];omega
theorem bq (t:T):eZ [t]=fg t:=by simp [eZ]
theorem bI (k:Nat) (l:List T):fg (node k l)=eZ l+1:=by simp [fg]
theorem A7: ∀(l:List aW),eZ (l.map bc)<=1
 | []=>by simp [eZ]
 | t::l=>by
  have:=A7 l;simp only [aal,eZ,bc,leaf,fg];omega
theorem bX (r:List aW):fg (aK r)<=2:=by
 have:=A7 (r.takeWhile bl);unfold aK leaf;simp only [fg];omega
theorem fX (s:LB):fg (missing s)=1:=by simp [missing,fg,eZ]
theorem fP (s:LB) (r:List aW):fg (cP s r)<=2:=by
 unfold cP;split
 .exact bX r
 .rw [fX];omega
theorem rm (s:LB) (r:List aW):fg (jI s r)<=3:=by
 unfold jI;have:=bX r;split
 .rw [fX];omega
 .rw [bI,bq];omega
def lB:lJ->List T
 | .ops _ acc=>[acc]
 | .args acc=>[acc]
 | _=>[]
theorem aU:eZ []=0:=by simp [eZ]
theorem bC (t:T) (l:List T):eZ (t::l)=max (fg t) (eZ l):=by simp [eZ]
theorem sk (b:Bool):lB (if b then lJ.pattern else lJ.expr)=[]:=by cases b <;> rfl
theorem Jz: ∀(N:Nat) (job:lJ) (d:Nat) (r:List aW) (l:List T) (r':List aW),P N job d r=some (l,r')->eZ l<=max (eZ (lB job)) (N * N+4)+N:=by
 intro N
 induction N with
 | zero=>intro job d r l r' h;cases h
 | succ n ih=>
  intro job d r l r' h;have hm:(n+1) * (n+1)=n * n+2 * n+1:=by rw [Nat.add_mul,Nat.mul_add];omega
  rw [hm];clear hm;generalize n * n=q at ih ⊢;have tk:=bX r;have fin: ∀{job:lJ} {d:Nat} {r:List aW} {l:List T} {r':List aW},lB job=[]->P n job d r=some (l,r')->eZ l<=q+4+n:=fun p s=>by
   have:=ih _ _ _ _ _ s;rw [p,aU] at this;omega
  cases job with
  | expr=>
   simp only [P] at h;simp only [lB,aU];split at h
   .cases h;rw [bq];have:=rm pY r;omega
   .have k:=fin rfl h;omega
  | whole=>
   simp only [P] at h;simp only [lB,aU];split at h
   .obtain ⟨⟨bs,r2⟩,e,h⟩:=bind_some h;obtain ⟨⟨es,j⟩,f,h⟩:=bind_some h;cases h;have k1:=fin rfl e;have i:=fin rfl f;have:=fP RW r2;simp only [bq,bI,ck,bC,aU];omega
   split at h
   .obtain ⟨⟨a,g⟩,e,h⟩:=bind_some h;obtain ⟨⟨ps,r2⟩,f,h⟩:=bind_some h;obtain ⟨⟨es,j⟩,m,h⟩:=bind_some h;cases h;have k1:=fin rfl e;have i:=fin rfl f;have o:=fin rfl m;have:=fP ig r2;simp only [bq,bI,ck,bC,aU];omega
   split at h
   .obtain ⟨⟨a,g⟩,e,h⟩:=bind_some h;obtain ⟨⟨b,r2⟩,f,h⟩:=bind_some h;obtain ⟨⟨c,j⟩,m,h⟩:=bind_some h;cases h;have k1:=fin rfl e;have i:=fin rfl f;have o:=fin rfl m;have:=fP xF g;have:=fP xP r2;simp only [bq,bI,ck,bC,aU];omega
   split at h
   .obtain ⟨⟨a,g⟩,e,h⟩:=bind_some h;obtain ⟨⟨b,j⟩,f,h⟩:=bind_some h;obtain ⟨⟨cs,w⟩,m,h⟩:=bind_some h;cases h;have k1:=fin rfl e;have i:=fin rfl f;have o:=fin rfl m;have:=fP bR g;have x:eZ (if cf fZ (bo bR g) then [aK (bo bR g)] else [])<=2:=by
     split
     .rw [bq];exact bX _
     .rw [aU];omega
    simp only [bq,bI,ck,bC,aU];omega
   .have k:=fin rfl h;omega
  | level k=>
   simp only [P] at h;simp only [lB,aU];split at h
   .have k:=fin rfl h;omega
   .obtain ⟨⟨a,g⟩,e,h⟩:=bind_some h;dsimp only at h;split at h
    .rename_i t;have k1:=fin rfl e;have i:=ih _ _ _ _ _ h;simp only [lB,bq] at k1 i;omega
    .cases h
  | ops k acc=>
   simp only [P] at h;simp only [lB,bq];split at h
   .obtain ⟨⟨b,g⟩,e,h⟩:=bind_some h;have k1:=fin rfl e;have i:=ih _ _ _ _ _ h;simp only [lB,bq,bI,bC,aU] at i;omega
   .cases h;rw [bq];omega
  | neg=>
   simp only [P] at h;simp only [lB,aU];split at h
   .split at h
    .cases h;have:=rm pY (aO r);simp only [bq,bI,bC,aU];omega
    .obtain ⟨⟨a,g⟩,e,h⟩:=bind_some h;cases h;have k1:=fin rfl e;simp only [bq,bI,bC,aU];omega
   .obtain ⟨⟨a,g⟩,e,h⟩:=bind_some h;dsimp only at h;split at h
    .have k1:=fin rfl e;have i:=ih _ _ _ _ _ h;simp only [lB,bq] at k1 i;omega
    .cases h
  | args acc=>
   simp only [P] at h;simp only [lB,bq];split at h
   .obtain ⟨⟨b,g⟩,e,h⟩:=bind_some h;have k1:=fin rfl e;have i:=ih _ _ _ _ _ h;simp only [lB,bq,bI,bC,aU] at i;omega
   .cases h;rw [bq];omega
  | atom pat=>
   simp only [P] at h;simp only [lB,aU];split at h
   .split at h
    .cases h;simp only [bq,bI];omega
    split at h
    .have k:=fin rfl h;omega
    split at h
    .have k:=fin rfl h;omega
    .cases h;rw [bq];omega
   .cases h;rw [bq,fX];omega
  | closed list pat=>
   simp only [P] at h;simp only [lB,aU];split at h
   .cases h;have u:=bX (aO r);simp only [bq,bI,bC,aU];omega
   .obtain ⟨⟨a,r2⟩,e,h⟩:=bind_some h;obtain ⟨⟨bs,j⟩,f,h⟩:=bind_some h;cases h;have k1:=fin (sk pat) e;have i:=fin rfl f;have:=fP (ik list) j;simp only [bq,bI,ck,bC,aU];omega
  | items list pat=>
   simp only [P] at h;simp only [lB,aU];split at h
   .obtain ⟨⟨a,g⟩,e,h⟩:=bind_some h;obtain ⟨⟨bs,r2⟩,f,h⟩:=bind_some h;cases h;have k1:=fin (sk pat) e;have i:=fin rfl f;simp only [ck,bC];omega
   .cases h;rw [aU];omega
  | pattern=>
   simp only [P] at h;simp only [lB,aU];split at h
   .cases h;rw [bq];have:=rm mL r;omega
   .obtain ⟨⟨a,g⟩,e,h⟩:=bind_some h;have k1:=fin rfl e;dsimp only at h;split at h
    .obtain ⟨⟨b,r2⟩,f,h⟩:=bind_some h;cases h;have i:=fin rfl f;have:=bX g;simp only [bq,bI,ck,bC,aU];omega
    .cases h;omega
  | binding=>
   simp only [P] at h;simp only [lB,aU];have v:eZ (if cf ey r then [aK r] else [])<=2:=by
    split
    .rw [bq];exact tk
    .rw [aU];omega
   generalize (if cf ey r then [aK r] else [])=rc at h v;generalize (if cf ey r then aO r else r)=r0 at h;split at h
   .obtain ⟨⟨xs,g⟩,e,h⟩:=bind_some h;obtain ⟨⟨ps,j⟩,m,e⟩:=bind_some e;cases e;obtain ⟨⟨es,r2⟩,f,h⟩:=bind_some h;cases h;have o:=fin rfl m;have i:=fin rfl f;have:=bX r0;have:=fP wB j;simp only [ck,bq,bC,aU];omega
   .obtain ⟨⟨xs,g⟩,e,h⟩:=bind_some h;obtain ⟨⟨es,r2⟩,f,h⟩:=bind_some h;cases h;have k1:=fin rfl e;have i:=fin rfl f;have:=fP wB g;simp only [ck,bq];omega
  | params=>
   simp only [P] at h;simp only [lB,aU];split at h
   .obtain ⟨⟨a,g⟩,e,h⟩:=bind_some h;obtain ⟨⟨bs,r2⟩,f,h⟩:=bind_some h;cases h;have k1:=fin rfl e;have i:=fin rfl f;simp only [ck];omega
   .cases h;rw [aU];omega
  | arm=>
   simp only [P] at h;simp only [lB,aU];obtain ⟨⟨a,g⟩,e,h⟩:=bind_some h;obtain ⟨⟨es,r2⟩,f,h⟩:=bind_some h;cases h;have k1:=fin rfl e;have i:=fin rfl f;have:=fP ig g;simp only [bq,bI,ck];omega
  | arms=>
   simp only [P] at h;simp only [lB,aU];split at h
   .obtain ⟨⟨a,g⟩,e,h⟩:=bind_some h;obtain ⟨⟨bs,r2⟩,f,h⟩:=bind_some h;cases h;have k1:=fin rfl e;have i:=fin rfl f;simp only [ck,bC];omega
   .cases h;rw [aU];omega
theorem cH: ∀(N:Nat) (job:lJ) (d:Nat) (r:List aW) (l:List T) (r':List aW),P N job d r=some (l,r')->single job=true-> ∃t,l=[t]:=by
 intro N
 induction N with
 | zero=>intro job d r l r' h;cases h
 | succ n ih=>
  intro job d r l r' h hs;cases job with
  | expr=>
   simp only [P] at h;split at h
   .cases h;exact ⟨_,rfl⟩
   .exact ih _ _ _ _ _ h rfl
  | whole=>
   simp only [P] at h;split at h
   .obtain ⟨⟨bs,r2⟩,e,h⟩:=bind_some h;obtain ⟨⟨es,i⟩,g,h⟩:=bind_some h;cases h;exact ⟨_,rfl⟩
   split at h
   .obtain ⟨⟨a,f⟩,e,h⟩:=bind_some h;obtain ⟨⟨ps,r2⟩,g,h⟩:=bind_some h;obtain ⟨⟨es,i⟩,j,h⟩:=bind_some h;cases h;exact ⟨_,rfl⟩
   split at h
   .obtain ⟨⟨a,f⟩,e,h⟩:=bind_some h;obtain ⟨⟨b,r2⟩,g,h⟩:=bind_some h;obtain ⟨⟨c,i⟩,j,h⟩:=bind_some h;cases h;exact ⟨_,rfl⟩
   split at h
   .obtain ⟨⟨a,f⟩,e,h⟩:=bind_some h;obtain ⟨⟨b,i⟩,g,h⟩:=bind_some h;obtain ⟨⟨cs,m⟩,j,h⟩:=bind_some h;cases h;exact ⟨_,rfl⟩
   .exact ih _ _ _ _ _ h rfl
  | level k=>
   simp only [P] at h;split at h
   .exact ih _ _ _ _ _ h rfl
   .obtain ⟨⟨a,f⟩,e,h⟩:=bind_some h;dsimp only at h;split at h
    .exact ih _ _ _ _ _ h rfl
    .cases h
  | ops k acc=>
   simp only [P] at h;split at h
   .obtain ⟨⟨b,f⟩,e,h⟩:=bind_some h;exact ih _ _ _ _ _ h rfl
   .cases h;exact ⟨_,rfl⟩
  | neg=>
   simp only [P] at h;split at h
   .split at h
    .cases h;exact ⟨_,rfl⟩
    .obtain ⟨⟨a,f⟩,e,h⟩:=bind_some h;cases h;exact ⟨_,rfl⟩
   .obtain ⟨⟨a,f⟩,e,h⟩:=bind_some h;dsimp only at h;split at h
    .exact ih _ _ _ _ _ h rfl
    .cases h
  | args acc=>
   simp only [P] at h;split at h
   .obtain ⟨⟨b,f⟩,e,h⟩:=bind_some h;exact ih _ _ _ _ _ h rfl
   .cases h;exact ⟨_,rfl⟩
  | atom pat=>
   simp only [P] at h;split at h
   .split at h
    .cases h;exact ⟨_,rfl⟩
    split at h
    .exact ih _ _ _ _ _ h rfl
    split at h
    .exact ih _ _ _ _ _ h rfl
    .cases h;exact ⟨_,rfl⟩
   .cases h;exact ⟨_,rfl⟩
  | closed list pat=>
   simp only [P] at h;split at h
   .cases h;exact ⟨_,rfl⟩
   .obtain ⟨⟨a,r2⟩,e,h⟩:=bind_some h;obtain ⟨⟨bs,i⟩,g,h⟩:=bind_some h;cases h;exact ⟨_,rfl⟩
  | items list pat=>cases hs
  | pattern=>
   simp only [P] at h;split at h
   .cases h;exact ⟨_,rfl⟩
   .obtain ⟨⟨a,f⟩,e,h⟩:=bind_some h;dsimp only at h;split at h
    .obtain ⟨⟨b,r2⟩,g,h⟩:=bind_some h;cases h;exact ⟨_,rfl⟩
    .cases h;exact ih _ _ _ _ _ e rfl
  | binding=>cases hs
  | params=>cases hs
  | arm=>
   simp only [P] at h;obtain ⟨⟨a,f⟩,e,h⟩:=bind_some h;obtain ⟨⟨es,r2⟩,g,h⟩:=bind_some h;cases h;exact ⟨_,rfl⟩
  | arms=>cases hs
theorem nu {N:Nat} {job:lJ} {d:Nat} {r:List aW} {l:List T} {r':List aW} (h:P N job d r=some (l,r')) (hs:single job=true):l.length=1:=by
 obtain ⟨t,rfl⟩:=cH N job d r l r' h hs;rfl
theorem HK (b:Bool):single (if b then lJ.pattern else .expr)=true:=by cases b <;> rfl
theorem CG: ∀(N:Nat) (list pat:Bool) (d:Nat) (r:List aW) (l:List T) (r':List aW),P N (.items list pat) d r=some (l,r')->l.length<=2 * N:=by
 intro N
 induction N with
 | zero=>intro list pat d r l r' h;cases h
 | succ n ih=>
  intro list pat d r l r' h;simp only [P] at h;split at h
  .obtain ⟨⟨a,e⟩,b,h⟩:=bind_some h;obtain ⟨⟨bs,r2⟩,c,h⟩:=bind_some h;cases h;have:=nu b (HK pat);have:=ih _ _ _ _ _ _ c;simp only [aaa,aab];omega
  .cases h;simp
theorem mH: ∀(N:Nat) (d:Nat) (r:List aW) (l:List T) (r':List aW),P N .params d r=some (l,r')->l.length<=N:=by
 intro N
 induction N with
 | zero=>intro d r l r' h;cases h
 | succ n ih=>
  intro d r l r' h;simp only [P] at h;split at h
  .obtain ⟨⟨a,e⟩,b,h⟩:=bind_some h;obtain ⟨⟨bs,r2⟩,c,h⟩:=bind_some h;cases h;have:=nu b rfl;have:=ih _ _ _ _ c;simp only [aaa];omega
  .cases h;simp
theorem G1: ∀(N:Nat) (d:Nat) (r:List aW) (l:List T) (r':List aW),P N .arms d r=some (l,r')->l.length<=2 * N:=by
 intro N
 induction N with
 | zero=>intro d r l r' h;cases h
 | succ n ih=>
  intro d r l r' h;simp only [P] at h;split at h
  .obtain ⟨⟨a,e⟩,b,h⟩:=bind_some h;obtain ⟨⟨bs,r2⟩,c,h⟩:=bind_some h;cases h;have:=nu b rfl;have:=ih _ _ _ _ c;simp only [aaa,aab];omega
  .cases h;simp
theorem qL: ∀(N:Nat) (d:Nat) (r:List aW) (l:List T) (r':List aW),P N .binding d r=some (l,r')->l.length<=N+4/\l≠[]:=by
 intro N d r l r' h;cases N with
 | zero=>cases h
 | succ n=>
  simp only [P] at h;have c:(if cf ey r then [aK r] else []).length<=1:=by split <;> simp
  generalize (if cf ey r then [aK r] else [])=rc at h c;generalize (if cf ey r then aO r else r)=r0 at h;split at h
  .obtain ⟨⟨xs,e⟩,a,h⟩:=bind_some h;obtain ⟨⟨ps,g⟩,f,a⟩:=bind_some a;cases a;obtain ⟨⟨es,r2⟩,b,h⟩:=bind_some h;cases h;have:=mH _ _ _ _ _ f;have:=nu b rfl;refine ⟨?_,by simp⟩;simp only [aaa,aab,aae];omega
  .obtain ⟨⟨xs,e⟩,a,h⟩:=bind_some h;obtain ⟨⟨es,r2⟩,b,h⟩:=bind_some h;cases h;have:=nu a rfl;have:=nu b rfl;refine ⟨?_,by simp⟩;simp only [aaa,aab,aae];omega
end Go.Parse
namespace Go.Lex
open Go.VM
def vj (s:LB):Int:=if 65536 < s.length then 40 else if bH s=false then 4 else 0
theorem tU {s:LB} (h:vj s=0):s.length<=65536/\bH s=true:=by
 unfold vj at h;by_cases h1:65536 < s.length
 .rw [if_pos h1] at h;exact absurd h (by decide)
 .rw [if_neg h1] at h;cases a:bH s with
  | false=>rw [a,if_pos rfl] at h;exact absurd h (by decide)
  | true=>exact ⟨by omega,rfl⟩
theorem Tt {s:LB} (h1:s.length<=65536) (a:bH s=true):vj s=0:=by
 unfold vj;rw [if_neg (by omega),a,if_neg (by simp)]
theorem Ju: ∀(n:Nat) (s:LB),s.length<=n->(fE n s).length<=s.length
 | 0,_,_=>by simp [fE]
 | n+1,[],_=>by simp [fE]
 | n+1,c::l,h=>by
  have a:=jF (s:=c::l) (by simp);have ih:=Ju n ((c::l).drop (cut (c::l)).2) (by rw [aas];simp at h ⊢;omega);rw [aas] at ih;simp only [fE,aab] at ih ⊢;omega
theorem rq (s:LB):(tokens s).length<=s.length:=Ju _ _ (aah _)
end Go.Lex
namespace Go.Parse
open Go.VM Go.Lex
theorem cu {α β:Type} {x:Oq α} {f:α->Oq β} {a:α} (h:x=some a):(x >>= f)=f a:=by rw [h];rfl
theorem Ui: ∀(N:Nat) (job:lJ) (d:Nat) (r:List aW) (x:List T×List aW),P N job d r=some x-> ∀M,N<=M->P M job d r=some x:=by
 intro N
 induction N with
 | zero=>intro job d r x h;cases h
 | succ n ih=>
  intro job d r x h M o;obtain ⟨m,rfl⟩: ∃m,M=m+1:=⟨M - 1,by omega⟩;have up: ∀{job:lJ} {d:Nat} {r:List aW} {x:List T×List aW},P n job d r=some x->P m job d r=some x:=fun h=>ih _ _ _ _ h m (by omega);cases job with
  | expr=>
   simp only [P] at h ⊢;split at h
   .rename_i e;rw [if_pos e];exact h
   .rename_i e;rw [if_neg e];exact up h
  | whole=>
   simp only [P] at h ⊢;split at h
   .rename_i e;rw [if_pos e];obtain ⟨⟨bs,r2⟩,f,h⟩:=bind_some h;obtain ⟨⟨es,j⟩,g,h⟩:=bind_some h;rw [cu (up f),cu (up g)];exact h
   rename_i e;rw [if_neg e];split at h
   .rename_i e;rw [if_pos e];obtain ⟨⟨a,i⟩,f,h⟩:=bind_some h;obtain ⟨⟨ps,r2⟩,g,h⟩:=bind_some h;obtain ⟨⟨es,j⟩,l,h⟩:=bind_some h;rw [cu (up f),cu (up g),cu (up l)];exact h
   rename_i e;rw [if_neg e];split at h
   .rename_i e;rw [if_pos e];obtain ⟨⟨a,i⟩,f,h⟩:=bind_some h;obtain ⟨⟨b,r2⟩,g,h⟩:=bind_some h;obtain ⟨⟨c,j⟩,l,h⟩:=bind_some h;rw [cu (up f),cu (up g),cu (up l)];exact h
   rename_i e;rw [if_neg e];split at h
   .rename_i e;rw [if_pos e];obtain ⟨⟨a,i⟩,f,h⟩:=bind_some h;obtain ⟨⟨b,j⟩,g,h⟩:=bind_some h;obtain ⟨⟨cs,p⟩,l,h⟩:=bind_some h;rw [cu (up f),cu (up g),cu (up l)];exact h
   rename_i e;rw [if_neg e];exact up h
  | level k=>
   simp only [P] at h ⊢;split at h
   .rename_i e;rw [if_pos e];exact up h
   .rename_i e;rw [if_neg e];obtain ⟨⟨a,i⟩,f,h⟩:=bind_some h;rw [cu (up f)];dsimp only at h ⊢;split at h
    .exact up h
    .cases h
  | ops k acc=>
   simp only [P] at h ⊢;split at h
   .rename_i e;rw [if_pos e];obtain ⟨⟨b,i⟩,f,h⟩:=bind_some h;rw [cu (up f)];exact up h
   .rename_i e;rw [if_neg e];exact h
  | neg=>
   simp only [P] at h ⊢;split at h
   .rename_i e;rw [if_pos e];split at h
    .rename_i e;rw [if_pos e];exact h
    .rename_i e;rw [if_neg e];obtain ⟨⟨a,i⟩,f,h⟩:=bind_some h;rw [cu (up f)];exact h
   .rename_i e;rw [if_neg e];obtain ⟨⟨a,i⟩,f,h⟩:=bind_some h;rw [cu (up f)];dsimp only at h ⊢;split at h
    .exact up h
    .cases h
  | args acc=>
   simp only [P] at h ⊢;split at h
   .rename_i e;rw [if_pos e];obtain ⟨⟨b,i⟩,f,h⟩:=bind_some h;rw [cu (up f)];exact up h
   .rename_i e;rw [if_neg e];exact h
  | atom pat=>
   simp only [P] at h ⊢;split at h
   .rename_i e;rw [if_pos e];split at h
    .rename_i e;rw [if_pos e];exact h
    rename_i e;rw [if_neg e];split at h
    .rename_i e;rw [if_pos e];exact up h
    rename_i e;rw [if_neg e];split at h
    .rename_i e;rw [if_pos e];exact up h
    .rename_i e;rw [if_neg e];exact h
   .rename_i e;rw [if_neg e];exact h
  | closed list pat=>
   simp only [P] at h ⊢;split at h
   .rename_i e;rw [if_pos e];exact h
   .rename_i e;rw [if_neg e];obtain ⟨⟨a,r2⟩,f,h⟩:=bind_some h;obtain ⟨⟨bs,j⟩,g,h⟩:=bind_some h;rw [cu (up f),cu (up g)];exact h
  | items list pat=>
   simp only [P] at h ⊢;split at h
   .rename_i e;rw [if_pos e];obtain ⟨⟨a,r2⟩,f,h⟩:=bind_some h;obtain ⟨⟨bs,j⟩,g,h⟩:=bind_some h;rw [cu (up f),cu (up g)];exact h
   .rename_i e;rw [if_neg e];exact h
  | pattern=>
   simp only [P] at h ⊢;split at h
   .rename_i e;rw [if_pos e];exact h
   .rename_i e;rw [if_neg e];obtain ⟨⟨a,i⟩,f,h⟩:=bind_some h;rw [cu (up f)];dsimp only at h ⊢;split at h
    .rename_i e;rw [if_pos e];obtain ⟨⟨b,r2⟩,g,h⟩:=bind_some h;rw [cu (up g)];exact h
    .rename_i e;rw [if_neg e];exact h
  | binding=>
   simp only [P] at h ⊢;generalize (if cf ey r then [aK r] else [])=rc at h ⊢;generalize (if cf ey r then aO r else r)=r0 at h ⊢;split at h
   .rename_i e;rw [if_pos e];obtain ⟨⟨xs,i⟩,f,h⟩:=bind_some h;obtain ⟨⟨ps,j⟩,l,f⟩:=bind_some f;cases f;obtain ⟨⟨es,r2⟩,g,h⟩:=bind_some h;rw [cu (up l)];show (P m .expr d (bo wB j) >>= _)= _;rw [cu (up g)];exact h
   .rename_i e;rw [if_neg e];obtain ⟨⟨xs,i⟩,f,h⟩:=bind_some h;obtain ⟨⟨es,r2⟩,g,h⟩:=bind_some h;rw [cu (up f),cu (up g)];exact h
  | params=>
   simp only [P] at h ⊢;split at h
   .rename_i e;rw [if_pos e];obtain ⟨⟨a,i⟩,f,h⟩:=bind_some h;obtain ⟨⟨bs,r2⟩,g,h⟩:=bind_some h;rw [cu (up f),cu (up g)];exact h
   .rename_i e;rw [if_neg e];exact h
  | arm=>
   simp only [P] at h ⊢;obtain ⟨⟨a,i⟩,f,h⟩:=bind_some h;obtain ⟨⟨es,r2⟩,g,h⟩:=bind_some h;rw [cu (up f),cu (up g)];exact h
  | arms=>
   simp only [P] at h ⊢;split at h
   .rename_i e;rw [if_pos e];obtain ⟨⟨a,i⟩,f,h⟩:=bind_some h;obtain ⟨⟨bs,r2⟩,g,h⟩:=bind_some h;rw [cu (up f),cu (up g)];exact h
   .rename_i e;rw [if_neg e];exact h
theorem pb: ∀(N:Nat) (r:List aW) (l:List T),decls N r=some l-> ∀M,N<=M->decls M r=some l
 | 0,_,_,h,_,_=>by cases h
 | n+1,r,l,h,M,d=>by
  obtain ⟨m,rfl⟩: ∃m,M=m+1:=⟨M - 1,by omega⟩;simp only [decls] at h ⊢;split at h
  .rename_i a;rw [if_pos a];exact h
  rename_i a;rw [if_neg a];split at h
  .rename_i a;rw [if_pos a];obtain ⟨⟨bs,e⟩,c,h⟩:=bind_some h;obtain ⟨k,b,h⟩:=bind_some h;rw [cu (Ui _ _ _ _ _ c m (by omega)),cu (pb n _ _ b m (by omega))];exact h
  .rename_i a;rw [if_neg a];obtain ⟨k,b,h⟩:=bind_some h;rw [cu (pb n _ _ b m (by omega))];exact h
theorem Mq {N:Nat} {r:List aW} {l:List T} (h:decls N r=some l):doc r=node 4 l:=by
 obtain ⟨m,b,c⟩:=lZ r;have h1:=pb _ _ _ h (N+fuel r) (by omega);have a:=pb _ _ _ b (N+fuel r) (by omega);rw [h1] at a;rw [c,abF a]
structure Ext (f:List aW->List aW):Prop where
 nx: ∀r,(nx r).1≠0->Parse.nx (f r)=Parse.nx r
 tk: ∀r,(Parse.nx r).1≠0->aK (f r)=aK r
 tr: ∀r,(Parse.nx r).1≠0->aO (f r)=f (aO r)
 nd: ∀r,(Parse.nx r).1=0->Parse.nx (f r)=(3,lI)
section
variable {f:List aW->List aW} (hf:Ext f)
include hf
end
theorem fU: ∀(l m:List T),di (l++m)=(di l&&di m)
 | [],m=>by simp [di]
 | t::l,m=>by simp only [aap,di,fU l m,Bool.and_assoc]
theorem ug (s:LB):bZ (missing s)=false:=rfl
theorem K7 {s:LB} {r:List aW} (h:bZ (cP s r)=true):cf s r=true:=by
 unfold cP at h;split at h
 .assumption
 .rw [ug] at h;cases h
theorem wg (s:LB) (r:List aW):bZ (jI s r)=false:=by
 unfold jI;split
 .rfl
 .rfl
theorem eu {t:T}:di [t]=bZ t:=by simp [di]
theorem dV {k:Nat} {l:List T} (h:bZ (node k l)=true):di l=true:=by
 simp only [bZ,aaf] at h;exact h.2
def dZ:lJ->List T
 | .ops _ acc=>[acc]
 | .args acc=>[acc]
 | _=>[]
theorem JQ: ∀(N:Nat) (job:lJ) (d:Nat) (r:List aW) (l:List T) (r':List aW),P N job d r=some (l,r')->di l=true->di (dZ job)=true:=by
 intro N
 induction N with
 | zero=>intro job d r l r' h;cases h
 | succ n ih=>
  intro job d r l r' h a;cases job with
  | ops k acc=>
   simp only [P] at h;split at h
   .obtain ⟨⟨b,c⟩,e,h⟩:=bind_some h;have:=ih _ _ _ _ _ h a;simp only [dZ,eu] at this ⊢;have:=dV this;simp only [di,aaf] at this;exact this.1
   .cases h;exact a
  | args acc=>
   simp only [P] at h;split at h
   .obtain ⟨⟨b,c⟩,e,h⟩:=bind_some h;have:=ih _ _ _ _ _ h a;simp only [dZ,eu] at this ⊢;have:=dV this;simp only [di,aaf] at this;exact this.1
   .cases h;exact a
  | _=>rfl
end Go.Parse
namespace Go.Lex
open Go.VM
theorem Oc (w:LB):oc w≠1:=by
 unfold oc;split
 .decide
 .split <;> decide
theorem LQ (s:LB):(number s).1≠1:=by
 unfold number;dsimp only;split
 .dsimp only;split <;> decide
 .show (5:Nat)≠1;decide
theorem Iw: ∀(s:LB),(cL s).1≠1
 | []=>by decide
 | [c]=>by
  simp only [cL];split
  .decide
  .split <;> decide
 | c::d::l=>by
  simp only [cL];split
  .decide
  split
  .decide
  split
  .split
   .exact Iw l
   .show (9:Nat)≠1;decide
  .exact Iw (d::l)
theorem wC {c:UInt8} {l:LB} (h:(cut (c::l)).1=1):bw c=true/\cut (c::l)=(1,wh bw (c::l)):=by
 cases a:bw c with
 | true=>
  refine ⟨rfl, ?_⟩;rw [mT];unfold O7;rw [if_pos a]
 | false=>
  exfalso;rw [mT] at h;unfold O7 at h;rw [if_neg (show ¬ bw c=true by rw [a];decide)] at h;split at h
  .split at h
   .exact absurd (show (2:Nat)=1 from h) (by decide)
   .exact absurd (show (9:Nat)=1 from h) (by decide)
  split at h
  .exact Oc _ h
  split at h
  .exact LQ _ h
  split at h
  .exact Iw _ h
  split at h
  .exact absurd (show (8:Nat)=1 from h) (by decide)
  split at h
  .exact absurd (show (8:Nat)=1 from h) (by decide)
  .exact absurd (show (9:Nat)=1 from h) (by decide)
end Go.Lex
namespace Go.Parse
open Go.VM Go.Lex
theorem OL {p:aW->Bool} {l:List aW} {x:aW} (h:x∈l.takeWhile p):p x=true:=abd.1 List.all_takeWhile x h
end Go.Parse
namespace Go.VM
open Go
section
variable {β:Type} {Q:β->Prop} {st st0:St} {l:FW} {z:Nat} {e:Td} {v:AV} {ws:LA}
theorem Vw.keeps {s:St} {but:Nat->Prop} (w:Vw st l) (k:ba st s but) (h: ∀q∈l,¬ but q.1):Vw s l:=
 ⟨fun q a=>⟨k.old _ _ (h q a) (w.v q a).1,by rw [k.ro];exact (w.v q a).2⟩,w.nd,by rw [k.ro];exact aaL w.ro k.h⟩
theorem qk {a b c:St} {p:Nat->Prop} (h:ba a b (fun _=>False)) (k:ba b c p) (e: ∀j,p j->a.h<=j):ba a c (fun _=>False):=
 ⟨k.ro.trans h.ro,aaL h.h k.h,fun j o _ d=>k.old j o (fun f=>by
  have h1:=e j f;have g:=(St.cZ.1 d).1;omega) (h.old j o (fun f=>f) d)⟩
structure Wv (st0 st:St) (l:FW) (z:Nat) (e:Td) (v:AV) (ws:LA):Prop where
 w:Vw st l
 o:jg st z e v ws
 nw: ∀j,dQ v j->st0.h<=j
 k:ba st0 st (fun _=>False)
 ge: ∀q∈l,st0.h<=q.1
theorem Wv.start (h:st.ro<=st.h) (z:Nat) (e:Td):Wv st st [] z e .aD []:=⟨Vw.start h,jg.aD h z e,(fun j a=>by obtain ⟨_,_,h⟩:=a;cases h),ba.refl _ _,fun q b=>by cases b⟩
theorem Wv.sub {a:FW} (w:Wv st0 st l z e v ws) (h:List.Sublist a l):Wv st0 st a z e v ws:=⟨w.w.sub h,w.o,w.nw,w.k,fun q b=>w.ge q (h.subset b)⟩
theorem Wv.none (w:Wv st0 st l z e v ws):Wv st0 st [] z e v ws:=w.sub (abz _)
theorem Wv.keeps {s:St} (w:Wv st0 st l z e v ws) (k:ba st s (fun _=>False)):Wv st0 s l z e v ws:=
 ⟨w.w.keeps k (fun _ _ f=>f),qP w.o k (fun _ _ f=>f),w.nw,w.k.trans k,w.ge⟩
theorem aa.tM (w:Wv st0 st l z e v ws) {ty:Td} {cs:LA} {K:St->Oq β} (g: ∀s,s.h=st.h+1->Wv st0 s ((st.h,ty,cs)::l) z e v ws->aa (K s) Q):aa (bk (st.add (.cells ty cs)) K) Q:=by
 refine g _ rfl ⟨w.w.alloc ty cs,qP w.o (ba.add _ _ (fun _=>False)) (fun _ _ f=>f),w.nw,w.k.trans (ba.add _ _ _),fun q a=> ?_⟩;rcases aam.1 a with rfl | a
 .exact w.k.h
 .exact w.ge q a
theorem Wv.putAt {a:Nat} {t t':Td} {old cs:LA} {l1 l2:FW} (w:Wv st0 st (l1++(a,t,old)::l2) z e v ws):Wv st0 (st.put a (.cells t' cs)) (l1++(a,t',cs)::l2) z e v ws:=by
 have hm:(a,t,old)∈l1++(a,t,old)::l2:=List.mem_append_right _ aad;have b:=w.w.get hm;refine ⟨w.w.putAt cs,w.o.put b,w.nw,qk w.k (ba.put (but:=(· =a)) rfl) (fun j c=>by rw [c];exact w.ge _ hm),fun q d=> ?_⟩;rcases aaA.1 d with h | h
 .exact w.ge q (List.mem_append_left _ h)
 .rcases aam.1 h with rfl | h
  .have h1:=w.ge (a,t,old) hm;exact h1
  .exact w.ge q (List.mem_append_right _ (aak _ h))
theorem aa.qp {O:tN} (l1:FW) {l2:FW} {a:Nat} {ty:Td} {old:LA} (w:Wv st0 st (l1++(a,ty,old)::l2) z e v ws) {y:Nat} {u:AV} {cs:LA} {K:Kv β}
  (g: ∀s b,s.h=st.h->Wv st0 s (l1++(a,ty,cs)::l2) z e v ws->aa (K VM.undef s b) Q) (f:old.length=y:=by rfl) (c:cs.length=y:=by rfl):aa (bm O y (.mp a 0) u cs st K) Q:=by
 have hm:(a,ty,old)∈l1++(a,ty,old)::l2:=List.mem_append_right _ aad;have d:bm O y (.mp a 0) u cs st K=K VM.undef (st.put a (.cells ty cs)) ⟨[a],.wrote a (.cells ty cs)⟩:=by
  rw [eI (w.w.get hm) c (by omega) (w.w.v _ hm).2,kP (by omega)]
 exact aa.step d (g _ _ rfl w.putAt)
theorem aa.ZI {O:tN} (l1:FW) {l2:FW} {a:Nat} {ty:Td} {old:LA} (w:Wv st0 st (l1++(a,ty,old)::l2) z e v ws) {off y:Nat} {u:AV} {cs:LA} {K:Kv β} (hl:off+cs.length<=old.length)
  (g: ∀s o,s.h=st.h->Wv st0 s (l1++(a,ty,dj old off cs)::l2) z e v ws->aa (K VM.undef s ⟨[a],.wrote a o⟩) Q) (b:cs.length=y:=by rfl):aa (bm O y (.mp a off) u cs st K) Q:=by
 have hm:(a,ty,old)∈l1++(a,ty,old)::l2:=List.mem_append_right _ aad;exact aa.step (eI (w.w.get hm) b hl (w.w.v _ hm).2 K) (g _ _ rfl w.putAt)
theorem aa.AM (w:Wv st0 st l z e v ws) {b:Nat} {x:AV} (c:ws.length+1<=1000000000) (d:b<=1000) (f:1<=z) {K:Kv β} (g: ∀v' s a,Wv st0 s l z e v' (ws++[x])->aa (K v' s a) Q):aa (cq z b e v [x] st K) Q:=by
 obtain ⟨v',s,a,i,m,k1,n⟩:=rZ (b:=b) (new:=[x]) w.o (by simp) (rD (by simpa using c) d f);refine aa.step (nI i K) (g v' s a ⟨w.w.keeps k1 (fun q p h=>w.o.not (w.w.v q p).1 h),m,fun j r=> ?_,qk w.k k1 w.nw,w.ge⟩);rcases n j r with h | h
 .exact w.nw j h
 .exact aaL w.k.h h
theorem aa.X5 (w:Wv st0 st l z e v ws) {K:AV->Oq β} (g: ∀x,bF z x ws->aa (K x) Q):aa (eQ st 0 v K) Q:=by
 obtain ⟨x,hx,a⟩:=P2 (β:=β) w.o;exact aa.step (a K) (g x hx)
structure Vo (st:St) (l:FW) (z:Nat) (e:Td) (v:AV) (ws:LA):Prop where
 w:Vw st l
 o:jg st z e v ws
theorem aa.Z7 {O:tN} (l1:FW) {l2:FW} {a:Nat} {ty:Td} {old:LA} (w:Vo st (l1++(a,ty,old)::l2) z e v ws) {off y:Nat} {u:AV} {cs:LA} {K:Kv β} (hl:off+cs.length<=old.length)
  (g: ∀s o,s.h=st.h->Vo s (l1++(a,ty,dj old off cs)::l2) z e v ws->aa (K VM.undef s ⟨[a],.wrote a o⟩) Q) (c:cs.length=y:=by rfl):aa (bm O y (.mp a off) u cs st K) Q:=by
 have hm:(a,ty,old)∈l1++(a,ty,old)::l2:=List.mem_append_right _ aad;have b:=w.w.get hm;exact aa.step (eI b c hl (w.w.v _ hm).2 K) (g _ _ rfl ⟨w.w.putAt _,w.o.put b⟩)
theorem QB {base:Nat} {vs xs:LA} (h:kF (freeze st base 99) vs= .ok xs) (a:bN xs=true) (K:AV->Oq β):eQ st base (.agg vs) K=K (.agg xs):=by
 have b:freeze st base 100 (.agg vs)= .ok (.agg xs):=by
  show (do pure (.agg (<- kF (freeze st base 99) vs)):cY AV)= _;rw [h];rfl
 have c:bare (.agg xs)=true:=a;simp only [eQ,b,c,aQ]
end
theorem iM {α:Type} {l:List α} {i:Nat} (hi:i < l.length):l.take (i+1)=l.take i++[l[i]]:=by rw [List.take_add_one,aax hi];rfl
end Go.VM
namespace Go.Parse
open Go.VM Go.Lex
def WE (t:aW):Bool:=t.1 != 1
def nb (r:List aW):List aW:=r.filter WE
theorem iY (t:aW) (r:List aW):nb (t::r)=if t.1=1 then nb r else t::nb r:=by
 unfold nb;rw [acb];by_cases h:t.1=1
 .have:WE t=false:=by simp [WE,h]
  rw [this,if_pos h];rfl
 .have:WE t=true:=by simp [WE,h]
  rw [this,if_neg h];rfl
def eC:T->Bool
 | .mk k tk _ l=>k==1&&(tk==1&&l.isEmpty)
mutual
def cR:T->T
 | .mk k tk tx l=> .mk k tk tx (if k=1 then l.filter (fun t=> !eC t) else qJ l)
def qJ:List T->List T
 | []=>[]
 | t::l=>cR t::qJ l
end
theorem mi: ∀(l:List T),qJ l=l.map cR
 | []=>rfl
 | t::l=>by rw [qJ,mi l];rfl
theorem dJ {k:Nat} (h:k≠1) (l:List T):cR (node k l)=node k (l.map cR):=by
 unfold node;rw [cR,if_neg h,mi]
theorem oJ (s:LB):cR (missing s)=missing s:=by
 unfold missing;rw [cR,if_neg (by decide)];rfl
theorem yd: ∀(r:List aW),(nb r).dropWhile bl=nb (r.dropWhile bl)
 | []=>rfl
 | t::r=>by
  rw [iY];by_cases h:t.1=1
  .have a:bl t=true:=by simp [bl,h]
   rw [if_pos h,abL,if_pos a];exact yd r
  .rw [if_neg h,abL,abL];cases a:bl t with
   | true=>rw [if_pos rfl,if_pos rfl];exact yd r
   | false=>
    rw [if_neg (by decide),if_neg (by decide),iY,if_neg h]
theorem DC: ∀(r:List aW),(nb r).takeWhile bl=nb (r.takeWhile bl)
 | []=>rfl
 | t::r=>by
  rw [iY];by_cases h:t.1=1
  .have a:bl t=true:=by simp [bl,h]
   rw [if_pos h,aaU,if_pos a,iY,if_pos h];exact DC r
  .rw [if_neg h,aaU,aaU];cases a:bl t with
   | true=>rw [if_pos rfl,if_pos rfl,iY,if_neg h,DC r]
   | false=>rw [if_neg (by decide),if_neg (by decide)];rfl
theorem Dd {r:List aW} {t:aW} {l:List aW} (h:r.dropWhile bl=t::l):t.1≠1:=by
 have:=List.head?_dropWhile_not bl r;rw [h] at this;intro e;simp [bl,e] at this
theorem qd (r:List aW):nx (nb r)=nx r:=by
 unfold nx;rw [yd];cases h:r.dropWhile bl with
 | nil=>rfl
 | cons t l=>
  rw [iY,if_neg (Dd h)]
theorem fk (r:List aW):aO (nb r)=nb (aO r):=by
 unfold aO;rw [yd];cases h:r.dropWhile bl with
 | nil=>rfl
 | cons t l=>rw [iY,if_neg (Dd h)];rfl
theorem Df: ∀(l:List aW),((l.map bc).filter fun t=> !eC t)=(nb l).map bc
 | []=>rfl
 | t::l=>by
  rw [aal,acb,iY,Df l];by_cases h:t.1=1
  .simp [bc,leaf,eC,h]
  .simp [bc,leaf,eC,h]
theorem fJ (r:List aW):aK (nb r)=cR (aK r):=by
 unfold aK;rw [qd,DC,leaf,leaf,cR,if_pos rfl,Df]
theorem lO (s:LB) (r:List aW):cf s (nb r)=cf s r:=by unfold cf;rw [qd]
theorem A3 (l:List LB) (r:List aW):isAny l (nb r)=isAny l r:=by unfold isAny;rw [qd]
theorem vq (p:Bool) (r:List aW):cJ p (nb r)=cJ p r:=by unfold cJ;rw [qd,A3]
theorem lE (s:LB) (r:List aW):cP s (nb r)=cR (cP s r):=by
 unfold cP;rw [lO];split
 .exact fJ r
 .exact (oJ s).symm
theorem lz (s:LB) (r:List aW):bo s (nb r)=nb (bo s r):=by
 unfold bo;rw [lO,fk];split <;> rfl
theorem ze (s:LB) (r:List aW):jI s (nb r)=cR (jI s r):=by
 unfold jI;rw [qd,fJ];split
 .exact (oJ s).symm
 .rw [dJ (by decide)];rfl
theorem Be (r:List aW):kg (nb r)=nb (kg r):=by
 unfold kg;rw [qd,fk];split <;> rfl
def nR (x:List T×List aW):List T×List aW:=(x.1.map cR,nb x.2)
def kh:lJ->lJ
 | .ops k t=> .ops k (cR t)
 | .args t=> .args (cR t)
 | j=>j
theorem bind_map {α β γ δ:Type} {f:α->γ} {h:β->δ} {x:Oq α} {y:Oq γ} {g:α->Oq β} {g':γ->Option δ} (hx:y=x.map f) (b: ∀a,g' (f a)=(g a).map h):(y >>= g')=(x >>= g).map h:=by
 subst hx;cases x with
 | none=>rfl
 | some a=>exact b a
theorem fN {α β:Type} {c:Prop} [Decidable c] {f:α->β} {a b:Oq α} {a' b':Oq β} (h1:c->a'=a.map f) (d:¬ c->b'=b.map f):(if c then a' else b')=(if c then a else b).map f:=by
 split
 .rename_i h;exact h1 h
 .rename_i h;exact d h
theorem E5 (a b:Bool):kindOf a b≠1:=by cases a <;> cases b <;> decide
theorem YD: ∀(N:Nat) (job:lJ) (d:Nat) (r:List aW),P N (kh job) d (nb r)=(P N job d r).map nR:=by
 intro N
 induction N with
 | zero=>intro job d r;rfl
 | succ n ih=>
  intro job d r;have go: ∀(job:lJ) (d:Nat) (r:List aW),kh job=job->P n job d (nb r)=(P n job d r).map nR:=fun job d r h=>by
   have:=ih job d r
   rwa [h] at this
  have fin: ∀{l m:List T} {r r':List aW},m=l.map cR->r'=nb r->(some (m,r'):R)=(some (l,r):R).map nR:=fun h1 o=>by rw [h1,o];rfl
  cases job with
  | expr=>
   simp only [kh,P];refine fN (fun _=>fin ?_ (Be r)) fun _=>go _ _ _ rfl;rw [ze];rfl
  | whole=>
   simp only [kh,P,lO,fk,fJ];refine fN (fun _=> ?_) fun _=>fN (fun _=> ?_) fun _=>fN (fun _=> ?_) fun _=>fN (fun _=> ?_) fun _=>go _ _ _ rfl
   .refine bind_map (go _ _ _ rfl) fun ⟨bs,r2⟩=> ?_;simp only [nR,lz,lE];refine bind_map (go _ _ _ rfl) fun ⟨es,i⟩=>fin ?_ rfl;simp only [nR,aal,aaK,aaN,dJ (show (6:Nat)≠1 by decide)]
   .refine bind_map (go _ _ _ rfl) fun ⟨a,g⟩=> ?_;refine bind_map (go _ _ _ rfl) fun ⟨ps,r2⟩=> ?_;simp only [nR,lz,lE];refine bind_map (go _ _ _ rfl) fun ⟨es,i⟩=>fin ?_ rfl;simp only [nR,aal,aaK,aaN,dJ (show (7:Nat)≠1 by decide)]
   .refine bind_map (go _ _ _ rfl) fun ⟨a,g⟩=> ?_;simp only [nR,lz,lE];refine bind_map (go _ _ _ rfl) fun ⟨b,r2⟩=> ?_;simp only [nR,lz,lE];refine bind_map (go _ _ _ rfl) fun ⟨c,i⟩=>fin ?_ rfl;simp only [nR,aal,aaK,aaN,dJ (show (8:Nat)≠1 by decide)]
   .refine bind_map (go _ _ _ rfl) fun ⟨a,g⟩=> ?_;simp only [nR,lz,lE,lO,fJ,fk];have e:(if cf fZ (bo bR g)=true then nb (aO (bo bR g)) else nb (bo bR g))=nb (if cf fZ (bo bR g)=true then aO (bo bR g) else bo bR g):=by split <;> rfl
    rw [e];refine bind_map (go _ _ _ rfl) fun ⟨b,i⟩=> ?_;refine bind_map (go _ _ _ rfl) fun ⟨cs,q⟩=>fin ?_ rfl;have j:(if cf fZ (bo bR g)=true then [cR (aK (bo bR g))] else [])=(if cf fZ (bo bR g)=true then [aK (bo bR g)] else []).map cR:=by split <;> rfl
    rw [j];simp only [nR,aal,aaK,aaN,dJ (show (9:Nat)≠1 by decide)]
  | level k=>
   simp only [kh,P];refine fN (fun _=>go _ _ _ rfl) fun _=> ?_;refine bind_map (go _ _ _ rfl) fun ⟨a,g⟩=> ?_;simp only [nR];cases a with
   | nil=>rfl
   | cons t l=>
    cases l with
    | nil=>exact ih (.ops k t) d g
    | cons u l=>rfl
  | ops k acc=>
   simp only [kh,P,A3,fk,fJ];refine fN (fun _=> ?_) fun _=>fin rfl rfl;refine bind_map (go _ _ _ rfl) fun ⟨b,g⟩=> ?_;have:=ih (.ops k (node 11 (acc::aK r::b))) d g;rw [kh,dJ (by decide)] at this;exact this
  | neg=>
   simp only [kh,P,A3,fk,fJ];refine fN (fun _=>fN (fun _=>fin ?_ ?_) fun _=> ?_) fun _=> ?_
   .rw [ze,aal,dJ (by decide)];rfl
   .rw [Be]
   .refine bind_map (go _ _ _ rfl) fun ⟨a,g⟩=>fin ?_ rfl;simp only [nR,aal,aaN,dJ (show (12:Nat)≠1 by decide)]
   .refine bind_map (go _ _ _ rfl) fun ⟨a,g⟩=> ?_;simp only [nR];cases a with
    | nil=>rfl
    | cons t l=>
     cases l with
     | nil=>exact ih (.args t) d g
     | cons u l=>rfl
  | args acc=>
   simp only [kh,P,vq];refine fN (fun _=> ?_) fun _=>fin rfl rfl;refine bind_map (go _ _ _ rfl) fun ⟨b,g⟩=> ?_;have:=ih (.args (node 13 (acc::b))) d g;rw [kh,dJ (by decide)] at this;exact this
  | atom pat=>
   simp only [kh,P,vq,qd,lO,fk,fJ];refine fN (fun _=>fN (fun _=>fin ?_ rfl) fun _=>fN (fun _=>go _ _ _ rfl) fun _=>fN (fun _=>go _ _ _ rfl) fun _=>fin rfl rfl) fun _=>fin ?_ rfl
   .simp only [aal,aaN,dJ (show (3:Nat)≠1 by decide)]
   .simp only [aal,aaN,oJ]
  | closed list pat=>
   simp only [kh,P,lO,fk,fJ];refine fN (fun _=>fin ?_ rfl) fun _=> ?_
   .simp only [aal,aaN,dJ (E5 list pat)]
   .refine bind_map (go _ _ _ (by cases pat <;> rfl)) fun ⟨a,r2⟩=> ?_;refine bind_map (go _ _ _ rfl) fun ⟨bs,i⟩=>fin ?_ ?_
    .simp only [nR,lE,aal,aaK,aaN,dJ (E5 list pat)]
    .simp only [nR,lz]
  | items list pat=>
   simp only [kh,P,lO,fk,fJ];refine fN (fun _=> ?_) fun _=>fin rfl rfl;refine bind_map (go _ _ _ (by cases pat <;> rfl)) fun ⟨a,g⟩=> ?_;refine bind_map (go _ _ _ rfl) fun ⟨bs,r2⟩=>fin ?_ rfl;simp only [nR,aal,aaK]
  | pattern=>
   simp only [kh,P];refine fN (fun _=>fin ?_ (Be r)) fun _=> ?_
   .rw [ze];rfl
   .refine bind_map (go _ _ _ rfl) fun ⟨a,g⟩=> ?_;simp only [nR,lO,fk,fJ];refine fN (fun _=> ?_) fun _=>fin rfl rfl;refine bind_map (go _ _ _ rfl) fun ⟨b,r2⟩=>fin ?_ rfl;simp only [nR,aal,aaK,aaN,dJ (show (16:Nat)≠1 by decide)]
  | binding=>
   simp only [kh,P,lO,fk,fJ];have p:(if cf ey r=true then nb (aO r) else nb r)=nb (if cf ey r=true then aO r else r):=by split <;> rfl
   rw [p];generalize (if cf ey r=true then aO r else r)=r0;have j:(if cf ey r=true then [cR (aK r)] else [])=(if cf ey r=true then [aK r] else []).map cR:=by split <;> rfl
   rw [j];generalize (if cf ey r=true then [aK r] else [])=rc;have last: ∀(xs:List T) (g:List aW),(do
     let (es,r2) <- P n .expr d (bo wB (nb g))
     some (rc.map cR++xs.map cR++[cP wB (nb g)]++es,r2):R)=(do
     let (es,r2) <- P n .expr d (bo wB g)
     some (rc++xs++[cP wB g]++es,r2):R).map nR:=fun xs g=>by
    simp only [lz,lE];refine bind_map (go _ _ _ rfl) fun ⟨es,r2⟩=>fin ?_ rfl;simp only [nR,aaK,aal,aaN]
   rw [qd];refine fN (fun _=> ?_) fun _=> ?_
   .rw [fk,fJ];refine bind_map (f:=nR) ?_ fun ⟨xs,g⟩=>last xs g;refine bind_map (go _ _ _ rfl) fun ⟨ps,g⟩=>fin ?_ rfl;simp only [nR,aal]
   .exact bind_map (go _ _ _ rfl) fun ⟨xs,g⟩=>last xs g
  | params=>
   simp only [kh,P,vq];refine fN (fun _=> ?_) fun _=>fin rfl rfl;refine bind_map (go _ _ _ rfl) fun ⟨a,g⟩=> ?_;refine bind_map (go _ _ _ rfl) fun ⟨bs,r2⟩=>fin ?_ rfl;simp only [nR,aaK]
  | arm=>
   simp only [kh,P];refine bind_map (go _ _ _ rfl) fun ⟨a,g⟩=> ?_;simp only [nR,lz,lE];refine bind_map (go _ _ _ rfl) fun ⟨es,r2⟩=>fin ?_ rfl;simp only [nR,aaK,aal,aaN,dJ (show (10:Nat)≠1 by decide)]
  | arms=>
   simp only [kh,P,lO,fk,fJ];refine fN (fun _=> ?_) fun _=>fin rfl rfl;refine bind_map (go _ _ _ rfl) fun ⟨a,g⟩=> ?_;refine bind_map (go _ _ _ rfl) fun ⟨bs,r2⟩=>fin ?_ rfl;simp only [nR,aal,aaK]
theorem Jv: ∀(n m:Nat) (r:List aW),r.length<=n->(nb r).length<=m->(skip m (nb r)).1=(skip n r).1.map cR/\(skip m (nb r)).2=nb (skip n r).2
 | 0,m,r,h,_=>by
  have:r=[]:=List.length_eq_zero_iff.1 (by omega);subst this;cases m with
  | zero=>exact ⟨rfl,rfl⟩
  | succ m=>exact ⟨rfl,rfl⟩
 | n+1,0,r,h,d=>by
  have h0:nb r=[]:=List.length_eq_zero_iff.1 (by omega);have hx:nx r=(0,[]):=by rw [<- qd,h0];rfl
  simp only [skip,hx];exact ⟨rfl,rfl⟩
 | n+1,m+1,r,h,d=>by
  simp only [skip,qd,lO,fk,fJ];split
  .rename_i c;have l1:=eB c.1;have l2:=eB (r:=nb r) (by rw [qd];exact c.1);rw [fk] at l2;obtain ⟨a,b⟩:=Jv n m (aO r) (by omega) (by omega);rw [a,b];exact ⟨rfl,rfl⟩
  .exact ⟨rfl,rfl⟩
theorem yH: ∀(N:Nat) (r:List aW),decls N (nb r)=(decls N r).map fun l=>l.map cR
 | 0,r=>rfl
 | n+1,r=>by
  obtain ⟨k1,a⟩:=Jv r.length (nb r).length r (aah _) (aah _);simp only [decls,qd,lO,fk,fJ,k1,a];refine fN (fun _=>rfl) fun _=>fN (fun _=> ?_) fun _=> ?_
  .refine bind_map (f:=nR) ?_ fun ⟨bs,b⟩=> ?_
   .exact YD n .binding 0 (aO r)
   .refine bind_map (yH n b) fun l=> ?_;simp only [nR,Option.map_some,aal,dJ (show (5:Nat)≠1 by decide)]
  .refine bind_map (yH n _) fun l=> ?_;simp only [Option.map_some,aal,dJ (show (3:Nat)≠1 by decide)]
theorem Ng (r:List aW):doc (nb r)=cR (doc r):=by
 obtain ⟨l,a,b⟩:=lZ r;have h:=yH (fuel r) r;rw [a] at h;rw [Mq (N:=fuel r) (l:=l.map cR) h,b,dJ (by decide)]
theorem zA {r s:List aW} (h:nb r=nb s):cR (doc r)=cR (doc s):=by rw [<- Ng, <- Ng,h]
theorem Ib {t:T} (h:eC t=true):bZ t=true:=by
 cases t with
 | mk k tk tx l=>
  simp only [eC,aaf,aaM,List.isEmpty_iff] at h;obtain ⟨rfl,rfl,rfl⟩:=h;rfl
theorem qz: ∀(l:List T),di (l.filter fun t=> !eC t)=di l
 | []=>rfl
 | t::l=>by
  rw [acb];cases h:eC t with
  | true=>
   simp only [aaS,aaB,if_false,di,Ib h,abB];exact qz l
  | false=>simp only [aaR,if_true,di,qz l]
mutual
theorem vV: ∀(t:T),bZ (cR t)=bZ t
 | .mk k tk tx l=>by
  rw [cR];by_cases h:k=1
  .subst h;rw [if_pos rfl];simp only [bZ,qz]
  .rw [if_neg h];simp only [bZ,AU l]
theorem AU: ∀(l:List T),di (qJ l)=di l
 | []=>rfl
 | t::l=>by simp only [qJ,di,vV t,AU l]
end
end Go.Parse
namespace Go.Format
open Go.VM Go.Lex Go.Parse
abbrev B:=LB
abbrev Doc:=Go.Lay.Doc
def tx (s:B):Doc:= .mk 1 s 0 []
def je:Doc:= .mk 2 [] 0 []
def OQ:Doc:= .mk 4 [] 0 []
def BN (n:Int) (l:List Doc):Doc:= .mk 5 [] n l
def sV (l:List Doc):Doc:= .mk 6 [] 0 l
def row (l:List Doc):Doc:= .mk 7 [] 0 l
def cw:Doc:=tx [32]
def bW (ahead:List Doc):Nat->List Doc->List Doc
 | _,[]=>[]
 | i,d::l=>(if i=0 then [] else [ahead.getD (min (i - 1) (ahead.length - 1)) cw])++d::bW ahead (i+1) l
def kQ (a:List B):T->Bool
 | .mk k tk s _=>k==1&&(tk==8&&a.contains s)
def jq:T->Oq B
 | .mk _ tk s _=>if tk=2 then some s else none
def dW (ks:List T):List B:=ks.filterMap jq
def Cy (s:B) (ks:List T):Doc:=row ((dW ks).flatMap (fun r=>[tx r,je])++[tx s])
def lX (D:List Doc):List Doc:=bW [cw] 0 (D.take (D.length - 1))++[BN 2 [je,D.getD (D.length - 1) cw]]
def lW:List T->List Doc->List Doc
 | t::ks,d::D=>d::(if kQ [km,oB] t then je::lW ks D else lW ks D)
 | _,_=>[]
def fL:T->List T->List Doc->List Doc
 | p,t::ks,d::D=>(if kQ [fZ] p then cw else je)::d::fL t ks D
 | _,_,_=>[]
def dE (k:Nat) (ks:List T) (D:List Doc):Doc:=
 if k=5\/k=7 then sV (lX D)
 else if k=6 then sV (lX (D.take (D.length - 2))++[je,D.getD (D.length - 2) cw,je,D.getD (D.length - 1) cw])
 else if k=8 then sV (bW [cw,je,cw,je,cw] 0 D)
 else if k=9 then sV (bW [cw] 0 (D.take 3)++fL (ks.getD 2 default) (ks.drop 3) (D.drop 3))
 else if k=10 then sV (bW [cw] 0 (D.take 2)++[BN 4 [je,D.getD 2 cw]])
 else if k=11 then sV (bW [je,cw] 0 D)
 else if k=12\/k=16 then row (bW [cw] 0 D)
 else if k=13 then sV [D.getD 0 cw,BN 2 [je,D.getD 1 cw]]
 else sV [D.getD 0 cw,BN 1 (lW ((ks.drop 1).take (ks.length - 2)) ((D.drop 1).take (D.length - 2))),D.getD (D.length - 1) cw]
mutual
def ay:T->Doc
 | .mk k _ s l=>if k=1 then Cy s l else dE k l (mK l)
def mK:List T->List Doc
 | []=>[]
 | t::l=>ay t::mK l
end
theorem pG: ∀(l:List T),mK l=l.map ay
 | []=>rfl
 | t::l=>by rw [mK,pG l];rfl
mutual
def dw:T->Bool
 | .mk k tk s l=>(k==1&&((tk==2||tk==7)&&s.any fun c=>c==10||c==13))||fS l
def fS:List T->Bool
 | []=>false
 | t::l=>dw t||fS l
end
def df:Nat->List Doc->List Doc
 | _,[]=>[]
 | i,d::l=>(if i=0 then [] else [OQ])++d::OQ::df (i+1) l
def fb (l:List T):List Doc:=mK (l.take (l.length - 1))++(dW (l.getD (l.length - 1) default).kids).map tx
def tS (s:B):Except Nat Doc:=
 if 65536 < s.length then .error 40
 else if bH s=true then
  (if bZ (doc (tokens s))=true then (if dw (doc (tokens s))=true then .error 4 else .ok (row (df 0 (fb (doc (tokens s)).kids)))) else .error 50)
 else .error 4
theorem Ed: ∀(ks:List T),dW (ks.filter fun t=> !eC t)=dW ks
 | []=>rfl
 | t::ks=>by
  have ih:=Ed ks;unfold dW at ih ⊢;rw [acb];cases h:eC t with
  | true=>
   have a:jq t=none:=by
    cases t with
    | mk k tk s l=>
     simp only [eC,aaf,aaM] at h;simp [jq,h.2.1]
   simp only [aaS,aaB,if_false,ih,abu,a]
  | false=>simp only [aaR,if_true,abu,ih]
theorem CY (a:List B) (t:T):kQ a (cR t)=kQ a t:=by
 cases t with
 | mk k tk s l=>rw [cR];rfl
theorem GW: ∀(ks:List T) (D:List Doc),lW (ks.map cR) D=lW ks D
 | [],_=>rfl
 | t::ks,[]=>rfl
 | t::ks,d::D=>by
  simp only [aal,lW,CY,GW ks D]
theorem yQ: ∀(p:T) (ks:List T) (D:List Doc),fL (cR p) (ks.map cR) D=fL p ks D
 | _,[],_=>rfl
 | _,t::ks,[]=>rfl
 | p,t::ks,d::D=>by
  simp only [aal,fL,CY,yQ t ks D]
theorem getD_map (l:List T) (i:Nat):(l.map cR).getD i default=cR (l.getD i default):=by
 rw [aaz,aaz,abc];cases l[i]? <;> rfl
theorem II (k:Nat) (ks:List T) (D:List Doc):dE k (ks.map cR) D=dE k ks D:=by
 unfold dE;rw [getD_map, <- List.map_drop,yQ, <- List.map_drop, <- List.map_take,GW,aay]
mutual
theorem IB: ∀(t:T),ay (cR t)=ay t
 | .mk k tk s l=>by
  rw [cR];by_cases h:k=1
  .rw [if_pos h,ay,ay,if_pos h,if_pos h,Cy,Cy,Ed]
  .rw [if_neg h,ay,ay,if_neg h,if_neg h,qW,mi,II]
theorem qW: ∀(l:List T),mK (qJ l)=mK l
 | []=>rfl
 | t::l=>by rw [qJ,mK,mK,IB,qW]
end
theorem pR: ∀(l:List T),fS (l.filter fun t=> !eC t)=fS l
 | []=>rfl
 | t::l=>by
  rw [acb];cases h:eC t with
  | true=>
   have a:dw t=false:=by
    cases t with
    | mk k tk s l=>
     simp only [eC,aaf,aaM,List.isEmpty_iff] at h;obtain ⟨rfl,rfl,rfl⟩:=h;rfl
   simp only [aaS,aaB,if_false,fS,a,aaV,pR l]
  | false=>simp only [aaR,if_true,fS,pR l]
mutual
theorem tm: ∀(t:T),dw (cR t)=dw t
 | .mk k tk s l=>by
  rw [cR];by_cases h:k=1
  .simp only [if_pos h,dw,pR]
  .simp only [if_neg h,dw,xy l]
theorem xy: ∀(l:List T),fS (qJ l)=fS l
 | []=>rfl
 | t::l=>by simp only [qJ,fS,tm t,xy l]
end
theorem C3 {t:T} (h:t.kind≠1):(cR t).kids=t.kids.map cR:=by
 cases t with
 | mk k tk s l=>
  have h:k≠1:=h;rw [cR,if_neg h,mi];rfl
theorem FJ (r:List aW):(doc r).kind=4:=rfl
end Go.Format
namespace Go.Lex
open Go.VM
def Stop (x:LB):Prop:=x=[]\/ ∃c r,x=c::r/\bw c=true
theorem gy {c:UInt8} (h:bw c=true):c=32\/c=9\/c=10\/c=13:=by
 simp only [bw,aaP,aaM] at h;rcases h with ((h | h) | h) | h
 .exact .inl h
 .exact .inr (.inl h)
 .exact .inr (.inr (.inl h))
 .exact .inr (.inr (.inr h))
theorem wi (c:UInt8) (h:bw c=true):aC c=false:=by rcases gy h with rfl | rfl | rfl | rfl <;> rfl
theorem rJ (c:UInt8) (h:bw c=true):eA c=false:=by rcases gy h with rfl | rfl | rfl | rfl <;> rfl
theorem ru {p:UInt8->Bool} (a: ∀c,bw c=true->p c=false) {x:LB} (hx:Stop x): ∀s:LB,wh p (s++x)=wh p s
 | []=>by
  rcases hx with rfl | ⟨c,r,rfl,h⟩
  .rfl
  .rw [aaj,dr,a c h];rfl
 | c::s=>by
  rw [aap,dr,dr,ru a hx s]
theorem Dx {p:UInt8->Bool} (a: ∀c,bw c=true->p c=false) {x:LB} (hx:Stop x): ∀s:LB,(s++x).takeWhile p=s.takeWhile p
 | []=>by
  rcases hx with rfl | ⟨c,r,rfl,h⟩
  .rfl
  .rw [aaj,aaU,a c h];rfl
 | c::s=>by
  rw [aap,aaU,aaU,Dx a hx s]
theorem LP {x:LB} (hx:Stop x) (s:LB):eO (s++x)=eO s:=by
 cases s with
 | nil=>
  rcases hx with rfl | ⟨c,r,rfl,h⟩
  .rfl
  .show eO (c::r)=eO [];have a:¬ (c=101\/c=69):=by rcases gy h with rfl | rfl | rfl | rfl <;> decide
   unfold eO;dsimp only;rw [if_neg a]
 | cons e l=>
  show eO (e::(l++x))= _;have hs:eh (l++x)=eh l:=by
   cases l with
   | nil=>
    rcases hx with rfl | ⟨c,r,rfl,h⟩
    .rfl
    .rcases gy h with rfl | rfl | rfl | rfl <;> rfl
   | cons c l=>rfl
  have hd:(l++x).drop (eh l)=l.drop (eh l)++x:=List.drop_append_of_le_length (zF l);have b:=ru (p:=aC) wi hx (l.drop (eh l));have d:(l.drop (eh l)++x).take (wh aC (l.drop (eh l)))=(l.drop (eh l)).take (wh aC (l.drop (eh l))):=List.take_append_of_le_length (jD _ _);have f:((l++x).head?=some 45)=(l.head?=some 45):=by
   cases l with
   | nil=>
    rcases hx with rfl | ⟨c,r,rfl,h⟩
    .rfl
    .rcases gy h with rfl | rfl | rfl | rfl <;> simp
   | cons c l=>rfl
  unfold eO;dsimp only;simp only [hs,hd,b,d,f]
theorem xe {x:LB} (hx:Stop x) (s:LB):number (s++x)=number s:=by
 have b:=ru (p:=aC) wi hx s;have d1:(s++x).drop (wh aC s)=s.drop (wh aC s)++x:=List.drop_append_of_le_length (jD _ _);have d:((s.drop (wh aC s)++x).head?=some 46)=((s.drop (wh aC s)).head?=some 46):=by
  cases s.drop (wh aC s) with
  | nil=>
   rcases hx with rfl | ⟨c,r,rfl,h⟩
   .rfl
   .rcases gy h with rfl | rfl | rfl | rfl <;> simp
  | cons c l=>rfl
 rw [iI (s++ _),iI s,b,d1];simp only [d];by_cases a:(s.drop (wh aC s)).head?=some 46
 .rw [if_pos a,if_pos a];have e:wh aC s < s.length:=by
   rcases Nat.lt_or_ge (wh aC s) s.length with q | q
   .exact q
   .rw [List.drop_of_length_le q] at a;cases a
  have d2:(s++x).drop (wh aC s+1)=s.drop (wh aC s+1)++x:=List.drop_append_of_le_length (by omega);have f:=ru (p:=aC) wi hx (s.drop (wh aC s+1));have g:=jD aC (s.drop (wh aC s+1));rw [aas] at g;have d3:(s++x).drop (wh aC s+1+wh aC (s.drop (wh aC s+1)))=s.drop (wh aC s+1+wh aC (s.drop (wh aC s+1)))++x:=List.drop_append_of_le_length (by omega);rw [d2,f,d3,LP hx]
 .rw [if_neg a,if_neg a]
theorem JW: ∀(s:LB),(cL s).1=7->1<=(cL s).2
 | [],h=>by cases h
 | [c],h=>by
  simp only [cL] at h ⊢;split at h
  .cases h
  split at h
  .rename_i h1 a;rw [if_neg h1,if_pos a];exact aah _
  .cases h
 | c::d::l,h=>by
  simp only [cL] at h ⊢;split at h
  .cases h
  rename_i h1;rw [if_neg h1];split at h
  .rename_i a;rw [if_pos a];exact aah _
  rename_i a;rw [if_neg a];split at h
  .rename_i b;rw [if_pos b];split at h
   .rename_i h4;rw [if_pos h4];dsimp only;omega
   .cases h
  .rename_i b;rw [if_neg b];dsimp only;omega
theorem tA: ∀{q x x':LB},(cL (q++x)).1=7->(cL (q++x)).2<=q.length->cL (q++x')=cL (q++x)
 | [],x,x',h,a=>by
  have:=JW _ h;simp only [aae] at a;omega
 | [c],x,x',h,a=>by
  have g:c=34:=by
   cases x with
   | nil=>
    simp only [aaw,cL] at h;split at h
    .cases h
    split at h
    .assumption
    .cases h
   | cons d l=>
    simp only [aap,aaj,cL,aab,aae] at h a;split at h
    .cases h
    rename_i h1;rw [if_neg h1] at a;split at h
    .assumption
    rename_i b;rw [if_neg b] at a;split at h
    .rename_i h4;rw [if_pos h4] at a;split at h
     .rename_i i;rw [if_pos i] at a;dsimp only at a;omega
     .cases h
    .rename_i h4;rw [if_neg h4] at a;have:=JW _ h;dsimp only at a;omega
  subst g;have e: ∀y:LB,cL (34::y)=(7,1):=fun y=>by
   cases y with
   | nil=>rfl
   | cons d l=>
    simp only [cL];rw [if_neg (by decide),if_true]
  show cL (34::x')=cL (34::x);rw [e,e]
 | c::d::p,x,x',h,a=>by
  have h:(cL (c::d::(p++x))).1=7:=h;have a:(cL (c::d::(p++x))).2<=p.length+2:=a;show cL (c::d::(p++x'))=cL (c::d::(p++x));simp only [cL] at h a ⊢;by_cases h1:c=10
  .rw [if_pos h1,if_pos h1]
  rw [if_neg h1] at h a;rw [if_neg h1,if_neg h1];by_cases h4:c=34
  .rw [if_pos h4,if_pos h4]
  rw [if_neg h4] at h a;rw [if_neg h4,if_neg h4];by_cases b:c=92
  .rw [if_pos b] at h a;rw [if_pos b,if_pos b];cases f:uw d with
   | true=>
    rw [f,if_pos rfl] at h a;simp only [if_true];dsimp only at h a;rw [tA (q:=p) (x:=x) (x':=x') h (by omega)]
   | false=>
    rw [f,if_neg (by simp)] at h;cases h
  .rw [if_neg b] at h a;rw [if_neg b,if_neg b];dsimp only at h a;have:=tA (q:=d::p) (x:=x) (x':=x') h (by
    show (cL (d::(p++x))).2<=p.length+1;omega)
   have this:cL (d::(p++x'))=cL (d::(p++x)):=this;rw [this]
theorem iW: ∀(s:LB),(cL s).1=7\/(cL s).1=9
 | []=> .inr rfl
 | [c]=>by
  simp only [cL];split
  .exact .inr rfl
  split
  .exact .inl rfl
  .exact .inr rfl
 | c::d::l=>by
  simp only [cL];split
  .exact .inr rfl
  split
  .exact .inl rfl
  split
  .split
   .exact iW l
   .exact .inr rfl
  .exact iW (d::l)
theorem SF {p x x':LB} (E:p≠[]) (hx:Stop x) (i:Stop x') (h1:(cut (p++x)).1≠1) (a:(cut (p++x)).1≠9) (hn:(cut (p++x)).2<=p.length):cut (p++x')=cut (p++x):=by
 cases p with
 | nil=>exact absurd rfl E
 | cons c l=>
  rw [aap,mT] at h1 a hn;rw [aap,aap,mT,mT];have two: ∀{w:LB},w.length=2->(∀d,bw d=true->w≠[c,d])->((c::(l++x')).take 2=w)=((c::(l++x)).take 2=w):=by
   intro w k hd;cases l with
   | cons d l=>rfl
   | nil=>
    have key: ∀{y:LB},Stop y->((c::([]++y)).take 2=w)=False:=by
     intro y hy;rcases hy with rfl | ⟨d,r,rfl,g⟩
     .refine eq_false fun e=> ?_;rw [<- e] at k;cases k
     .exact eq_false fun e=>hd d g e.symm
    rw [key hx,key i]
  have o:=two (w:=[40,42]) rfl (fun d g e=>by
   have:d=42:=by simpa using (aaY (fun l:LB=>l.getD 1 0) e).symm
   subst this;cases g)
  have q:gG.contains ((c::(l++x')).take 2)=gG.contains ((c::(l++x)).take 2):=by
   have u: ∀w∈gG,((c::(l++x')).take 2=w)=((c::(l++x)).take 2=w):=fun w k=>two (by
    simp only [gG,aam,aaD,or_false] at k;rcases k with rfl | rfl | rfl | rfl | rfl | rfl | rfl | rfl | rfl | rfl | rfl <;> rfl) (fun d g e=>by
    subst e;simp only [gG,aam,aaD,or_false,abo,abW] at k;rcases gy g with rfl | rfl | rfl | rfl <;> simp at k)
   rw [Bool.eq_iff_iff,List.contains_iff_mem,List.contains_iff_mem];constructor
   .intro h;have:=u _ h;rw [eq_true (rfl:(c::(l++x')).take 2= _)] at this;rw [of_eq_true this.symm];exact h
   .intro h;have:=u _ h;rw [eq_true (rfl:(c::(l++x)).take 2= _)] at this;rw [of_eq_true this];exact h
  unfold O7 at h1 a hn ⊢;by_cases g:bw c=true
  .rw [if_pos g] at h1;exact absurd rfl h1
  rw [if_neg g] at h1 a hn;rw [if_neg g,if_neg g];simp only [o];by_cases j:(c::(l++x)).take 2=[40,42]
  .rw [if_pos j] at h1 a hn;rw [if_pos j,if_pos j];cases l with
   | nil=>
    exfalso;rcases hx with rfl | ⟨d,r,rfl,t⟩
    .cases j
    .have:d=42:=by simpa using aaY (fun l:LB=>l.getD 1 0) j
     subst this;cases t
   | cons d l=>
    have e: ∀y:LB,(c::(d::l++y)).drop 2=l++y:=fun _=>rfl;rw [e] at a hn;rw [e,e];cases hm:rem (l++x) 1 with
    | none=>rw [hm] at a;exact absurd rfl a
    | some m=>
     rw [hm] at hn;dsimp only at hn;rw [Rj (y':=x') hm (by simp at hn;omega)]
  rw [if_neg j] at h1 a hn;rw [if_neg j,if_neg j];by_cases b:iP c=true
  .rw [if_pos b,if_pos b];have v:=ru (p:=eA) rJ hx (c::l);have z:=ru (p:=eA) rJ i (c::l);have A:=Dx (p:=eA) rJ hx (c::l);have B:=Dx (p:=eA) rJ i (c::l);rw [aap] at v z A B;rw [v,z,A,B]
  rw [if_neg b] at h1 a hn;rw [if_neg b,if_neg b];by_cases f:aC c=true
  .rw [if_pos f,if_pos f];have C:=xe hx (c::l);have D:=xe i (c::l);rw [aap] at C D;rw [C,D]
  rw [if_neg f] at h1 a hn;rw [if_neg f,if_neg f];by_cases n:c=34
  .rw [if_pos n] at h1 a hn;rw [if_pos n,if_pos n];dsimp only at a hn;have F:(cL (l++x)).1=7:=(iW _).resolve_right a;rw [tA (x':=x') F (by simp at hn;omega)]
  rw [if_neg n] at h1 a hn;rw [if_neg n,if_neg n,q];by_cases s:gG.contains ((c::(l++x)).take 2)=true
  .rw [if_pos s,if_pos s]
  rw [if_neg s] at h1 a hn;rw [if_neg s,if_neg s];by_cases ho:jy c=true
  .rw [if_pos ho,if_pos ho]
  .rw [if_neg ho] at a;exact absurd rfl a
def fR (b:UInt8):Bool:=b==32||b==9||b==10||b==13||b==40||b==41||b==44||b==59||b==91||b==93
def Ki (x:LB):Prop:=x=[]\/ ∃c r,x=c::r/\fR c=true
theorem Bh {c:UInt8} (h:fR c=true):c=32\/c=9\/c=10\/c=13\/c=40\/c=41\/c=44\/c=59\/c=91\/c=93:=by
 simp only [fR,aaP,aaM] at h;simpa only [or_assoc] using h
theorem Ie (c:UInt8) (h:fR c=true):aC c=false:=by rcases Bh h with rfl | rfl | rfl | rfl | rfl | rfl | rfl | rfl | rfl | rfl <;> rfl
theorem Ke {p:UInt8->Bool} (a: ∀c,fR c=true->p c=false) {x:LB} (hx:Ki x): ∀s:LB,wh p (s++x)=wh p s
 | []=>by
  rcases hx with rfl | ⟨c,r,rfl,h⟩
  .rfl
  .rw [aaj,dr,a c h];rfl
 | c::s=>by
  rw [aap,dr,dr,Ke a hx s]
theorem QO {x:LB} (hx:Ki x) (s:LB):eO (s++x)=eO s:=by
 cases s with
 | nil=>
  rcases hx with rfl | ⟨c,r,rfl,h⟩
  .rfl
  .show eO (c::r)=eO [];have a:¬ (c=101\/c=69):=by rcases Bh h with rfl | rfl | rfl | rfl | rfl | rfl | rfl | rfl | rfl | rfl <;> decide
   unfold eO;dsimp only;rw [if_neg a]
 | cons e l=>
  show eO (e::(l++x))= _;have hs:eh (l++x)=eh l:=by
   cases l with
   | nil=>
    rcases hx with rfl | ⟨c,r,rfl,h⟩
    .rfl
    .rcases Bh h with rfl | rfl | rfl | rfl | rfl | rfl | rfl | rfl | rfl | rfl <;> rfl
   | cons c l=>rfl
  have hd:(l++x).drop (eh l)=l.drop (eh l)++x:=List.drop_append_of_le_length (zF l);have b:=Ke (p:=aC) Ie hx (l.drop (eh l));have d:(l.drop (eh l)++x).take (wh aC (l.drop (eh l)))=(l.drop (eh l)).take (wh aC (l.drop (eh l))):=List.take_append_of_le_length (jD _ _);have f:((l++x).head?=some 45)=(l.head?=some 45):=by
   cases l with
   | nil=>
    rcases hx with rfl | ⟨c,r,rfl,h⟩
    .rfl
    .rcases Bh h with rfl | rfl | rfl | rfl | rfl | rfl | rfl | rfl | rfl | rfl <;> simp
   | cons c l=>rfl
  unfold eO;dsimp only;simp only [hs,hd,b,d,f]
theorem Ks {x:LB} (hx:Ki x) (s:LB):number (s++x)=number s:=by
 have b:=Ke (p:=aC) Ie hx s;have d1:(s++x).drop (wh aC s)=s.drop (wh aC s)++x:=List.drop_append_of_le_length (jD _ _);have d:((s.drop (wh aC s)++x).head?=some 46)=((s.drop (wh aC s)).head?=some 46):=by
  cases s.drop (wh aC s) with
  | nil=>
   rcases hx with rfl | ⟨c,r,rfl,h⟩
   .rfl
   .rcases Bh h with rfl | rfl | rfl | rfl | rfl | rfl | rfl | rfl | rfl | rfl <;> simp
  | cons c l=>rfl
 rw [iI (s++ _),iI s,b,d1];simp only [d];by_cases a:(s.drop (wh aC s)).head?=some 46
 .rw [if_pos a,if_pos a];have e:wh aC s < s.length:=by
   rcases Nat.lt_or_ge (wh aC s) s.length with q | q
   .exact q
   .rw [List.drop_of_length_le q] at a;cases a
  have d2:(s++x).drop (wh aC s+1)=s.drop (wh aC s+1)++x:=List.drop_append_of_le_length (by omega);have f:=Ke (p:=aC) Ie hx (s.drop (wh aC s+1));have g:=jD aC (s.drop (wh aC s+1));rw [aas] at g;have d3:(s++x).drop (wh aC s+1+wh aC (s.drop (wh aC s+1)))=s.drop (wh aC s+1+wh aC (s.drop (wh aC s+1)))++x:=List.drop_append_of_le_length (by omega);rw [d2,f,d3,QO hx]
 .rw [if_neg a,if_neg a]
end Go.Lex
namespace Go.Parse
open Go.VM Go.Lex
def Tv (Q:aW->Prop) (ks:List T):Prop:= ∃r:List aW,ks=r.map bc/\ ∀x∈r,bl x=true/\Q x
def Lf (Q:aW->Prop) (s:LB) (t:T):Prop:= ∃k ks,t= .mk 1 k s ks/\(k=3\/k=8)/\Q (k,s)/\Tv Q ks
def xc (list:Bool):LB:=if list then cO else dn
section
variable (Q:aW->Prop)
mutual
inductive ET:T->Prop where
 | leaf {k:Nat} {tx:LB} {ks:List T}:Q (k,tx)->(k=4\/k=5\/k=6\/k=7\/(k=3\/k=8)/\(tx=gM\/tx=eD))->Tv Q ks->ET (.mk 1 k tx ks)
 | letin {a i e:T} {bs:List T}:Lf Q lI a->BT bs->Lf Q RW i->ET e->ET (node 6 (a::bs++[i]++[e]))
 | lambda {f p a e:T} {ps:List T}:Lf Q Qh f->PT p->(∀x∈ps,PT x)->Lf Q ig a->ET e->ET (node 7 (f::p::ps++[a]++[e]))
 | ife {i a t b l c:T}:Lf Q XW i->ET a->Lf Q xF t->ET b->Lf Q xP l->ET c->ET (node 8 [i,a,t,b,l,c])
 | mtch {m e w a:T} {bar as:List T}:Lf Q EG m->ET e->Lf Q bR w->(bar=[]\/ ∃b,Lf Q fZ b/\bar=[b])->AT a->Vs as->ET (node 9 (m::e::w::bar++a::as))
 | bin {a op b:T} {s:LB}:ET a->Lf Q s op->ET b->ET (node 11 [a,op,b])
 | un {op a:T}:Lf Q [45] op\/Lf Q [45,46] op->ET a->ET (node 12 [op,a])
 | app {a b:T}:ET a->ET b->ET (node 13 [a,b])
 | none {list:Bool} {o c:T}:Lf Q (xc list) o->Lf Q (ik list) c->ET (node (kindOf list false) [o,c])
 | some {list:Bool} {o c a:T} {l:List T}:Lf Q (xc list) o->ET a->Un list l->Lf Q (ik list) c->ET (node (kindOf list false) (o::a::l++[c]))
inductive Un:Bool->List T->Prop where
 | nil {list:Bool}:Un list []
 | cons {list:Bool} {c x:T} {l:List T}:Lf Q (qg list) c->ET x->Un list l->Un list (c::x::l)
inductive PT:T->Prop where
 | leaf {k:Nat} {tx:LB} {ks:List T}:Q (k,tx)->(k=4\/k=5\/k=7\/(k=3\/k=8)/\(tx=gM\/tx=eD\/tx=nS))->Tv Q ks->PT (.mk 1 k tx ks)
 | cons {a op b:T}:PT a->Lf Q zK op->PT b->PT (node 16 [a,op,b])
 | none {list:Bool} {o c:T}:Lf Q (xc list) o->Lf Q (ik list) c->PT (node (kindOf list true) [o,c])
 | some {list:Bool} {o c a:T} {l:List T}:Lf Q (xc list) o->PT a->SI list l->Lf Q (ik list) c->PT (node (kindOf list true) (o::a::l++[c]))
inductive SI:Bool->List T->Prop where
 | nil {list:Bool}:SI list []
 | cons {list:Bool} {c x:T} {l:List T}:Lf Q (qg list) c->PT x->SI list l->SI list (c::x::l)
inductive BT:List T->Prop where
 | mk {rc ps:List T} {p q e:T}:(rc=[]\/ ∃r,Lf Q ey r/\rc=[r])->PT p->(∀x∈ps,PT x)->Lf Q wB q->ET e->BT (rc++(p::ps)++[q]++[e])
inductive AT:T->Prop where
 | mk {p a e:T}:PT p->Lf Q ig a->ET e->AT (node 10 [p,a,e])
inductive Vs:List T->Prop where
 | nil:Vs []
 | cons {b a:T} {l:List T}:Lf Q fZ b->AT a->Vs l->Vs (b::a::l)
end
inductive DT:List T->Prop where
 | last {ks:List T}:Tv Q ks->DT [.mk 1 0 [] ks]
 | cons {a:T} {bs l:List T}:Lf Q lI a->BT Q bs->DT l->DT (node 5 (a::bs)::l)
variable {Q}
def qh (Q:aW->Prop) (r:List aW):Prop:= ∀t∈r,Q t
theorem bT {r:List aW} (h:qh Q r):qh Q (aO r):=fun t a=>h t ((abM bl).subset (List.mem_of_mem_drop a))
theorem jl {r:List aW} (s:LB) (h:qh Q r):qh Q (bo s r):=by
 unfold bo;split
 .exact bT h
 .exact h
theorem rI {r:List aW} (h:qh Q r):Tv Q ((r.takeWhile bl).map bc):=⟨_,rfl,fun _ hx=>⟨OL hx,h _ (List.takeWhile_prefix bl |>.subset hx)⟩⟩
theorem EX {r:List aW} (h:(nx r).1≠0):nx r∈r:=by
 unfold nx at h ⊢;split
 .rename_i e;rw [e] at h;exact absurd rfl h
 .rename_i t l e;have:t∈r.dropWhile bl:=by rw [e];exact aad
  exact (abM bl).subset this
theorem gR {s:LB} {r:List aW} (a:qh Q r) (h:cf s r=true):Lf Q s (aK r):=by
 have h0:=rb h;have hm:=a _ (EX h0);unfold cf at h;simp only [aaf,aaP,aaM] at h;refine ⟨(nx r).1,_, ?_,h.1, ?_,rI a⟩
 .unfold aK leaf;rw [h.2]
 .rw [<- h.2];exact hm
theorem MJ {a:List LB} {r:List aW} (b:qh Q r) (h:isAny a r=true): ∃s,s∈a/\Lf Q s (aK r):=by
 have h0:=Bj h;have hm:=b _ (EX h0);unfold isAny at h;simp only [aaf,aaP,aaM,List.any_eq_true] at h;obtain ⟨h1,s,hs,e⟩:=h;refine ⟨s,hs,(nx r).1,_, ?_,h1, ?_,rI b⟩
 .unfold aK leaf;rw [e]
 .rw [e];exact hm
theorem mb {s:LB} {r:List aW} (a:qh Q r) (h:bZ (cP s r)=true):Lf Q s (cP s r):=by
 have h1:=K7 h;have:cP s r=aK r:=by unfold cP;rw [h1];rfl
 rw [this];exact gR a h1
def pre:lJ->List aW->Prop
 | .closed list _,r=>cf (xc list) r=true
 | _,_=>True
def Made (Q:aW->Prop):lJ->List T->Prop
 | .expr,l | .whole,l | .level _,l | .neg,l | .atom false,l | .closed _ false,l=> ∃t,l=[t]/\ET Q t
 | .ops _ a,l | .args a,l=>ET Q a-> ∃t,l=[t]/\ET Q t
 | .atom true,l | .closed _ true,l | .pattern,l=> ∃t,l=[t]/\PT Q t
 | .items list false,l=>Un Q list l
 | .items list true,l=>SI Q list l
 | .binding,l=>BT Q l
 | .params,l=> ∀x∈l,PT Q x
 | .arm,l=> ∃t,l=[t]/\AT Q t
 | .arms,l=>Vs Q l
theorem gw {N:Nat} {job:lJ} {d:Nat} {r:List aW} {l:List T} {r':List aW} (h:P N job d r=some (l,r')) (a:qh Q r):qh Q r':=B6 (Q:=qh Q) (fun _ h=>bT h) N job d r l r' h a
theorem Pf: ∀(N:Nat) (job:lJ) (d:Nat) (r:List aW) (l:List T) (r':List aW),P N job d r=some (l,r')->pre job r->qh Q r->di l=true->Made Q job l:=by
 intro N
 induction N with
 | zero=>intro job d r l r' h;cases h
 | succ n ih=>
  intro job d r l r' h Z g f;cases job with
  | expr=>
   simp only [P] at h;split at h
   .cases h;rw [eu,wg] at f;cases f
   .have:=ih _ _ _ _ _ h trivial g f;exact this
  | whole=>
   simp only [P] at h;split at h
   .rename_i q;obtain ⟨⟨bs,r2⟩,i,h⟩:=bind_some h;obtain ⟨⟨es,J⟩,o,h⟩:=bind_some h;cases h;rw [eu] at f;have f:=dV f;simp only [fU,di,aaf,abv] at f;have z:=gw i (bT g);obtain ⟨e,rfl,D⟩:=ih _ _ _ _ _ o trivial (jl _ z) f.2;exact ⟨_,rfl,.letin (gR g q) (ih _ _ _ _ _ i trivial (bT g) f.1.1.2) (mb z f.1.2) D⟩
   split at h
   .rename_i q;obtain ⟨⟨a,u⟩,i,h⟩:=bind_some h;obtain ⟨⟨ps,r2⟩,o,h⟩:=bind_some h;obtain ⟨⟨es,J⟩,F,h⟩:=bind_some h;cases h;rw [eu] at f;have f:=dV f;simp only [fU,di,aaf,abv] at f;have v:=gw i (bT g);have z:=gw o v;obtain ⟨p,rfl,K⟩:=ih _ _ _ _ _ i trivial (bT g) f.1.1.1.2;have E:=ih _ _ _ _ _ o trivial v f.1.1.2;obtain ⟨e,rfl,D⟩:=ih _ _ _ _ _ F trivial (jl _ z) f.2;exact ⟨_,rfl,.lambda (gR g q) K E (mb z f.1.2) D⟩
   split at h
   .rename_i q;obtain ⟨⟨a,u⟩,i,h⟩:=bind_some h;obtain ⟨⟨b,r2⟩,o,h⟩:=bind_some h;obtain ⟨⟨c,J⟩,F,h⟩:=bind_some h;cases h;rw [eu] at f;have f:=dV f;simp only [fU,di,aaf,abv] at f;have v:=gw i (bT g);have z:=gw o (jl _ v);obtain ⟨a',rfl,j⟩:=ih _ _ _ _ _ i trivial (bT g) f.1.1.1.1.2;obtain ⟨b',rfl,w⟩:=ih _ _ _ _ _ o trivial (jl _ v) f.1.1.2;obtain ⟨c',rfl,L⟩:=ih _ _ _ _ _ F trivial (jl _ z) f.2;exact ⟨_,rfl,.ife (gR g q) j (mb v f.1.1.1.2) w (mb z f.1.2) L⟩
   split at h
   .rename_i q;obtain ⟨⟨a,u⟩,i,h⟩:=bind_some h;obtain ⟨⟨b,J⟩,o,h⟩:=bind_some h;obtain ⟨⟨cs,r4⟩,F,h⟩:=bind_some h;cases h;rw [eu] at f;have f:=dV f;simp only [fU,di,aaf,abv] at f;have v:=gw i (bT g);have z:=jl bR v;have G:qh Q (if cf fZ (bo bR u)=true then aO (bo bR u) else bo bR u):=by
     split
     .exact bT z
     .exact z
    obtain ⟨a',rfl,j⟩:=ih _ _ _ _ _ i trivial (bT g) f.1.1.1.1.2;obtain ⟨b',rfl,w⟩:=ih _ _ _ _ _ o trivial G f.1.2;have M:=ih _ _ _ _ _ F trivial (gw o G) f.2;have H:(if cf fZ (bo bR u)=true then [aK (bo bR u)] else [])=[]\/ ∃b,Lf Q fZ b/\(if cf fZ (bo bR u)=true then [aK (bo bR u)] else [])=[b]:=by
     split
     .rename_i O;exact .inr ⟨_,gR z O,rfl⟩
     .exact .inl rfl
    have:=ET.mtch (gR g q) j (mb v f.1.1.1.2) H w M;refine ⟨_,rfl, ?_⟩;simpa using this
   have:=ih _ _ _ _ _ h trivial g f;exact this
  | level k=>
   simp only [P] at h;split at h
   .have:=ih _ _ _ _ _ h trivial g f;exact this
   .obtain ⟨⟨a,u⟩,i,h⟩:=bind_some h;dsimp only at h;split at h
    .have m:=JQ _ _ _ _ _ _ h f;obtain ⟨t,e,R⟩:=ih _ _ _ _ _ i trivial g m;cases e;exact ih _ _ _ _ _ h trivial (gw i g) f R
    .cases h
  | ops k acc=>
   intro y;simp only [P] at h;split at h
   .rename_i q;obtain ⟨⟨b,u⟩,i,h⟩:=bind_some h;have m:=JQ _ _ _ _ _ _ h f;simp only [dZ,eu] at m;have m:=dV m;simp only [di,aaf] at m;obtain ⟨s,_,hs⟩:=MJ g q;obtain ⟨b',rfl,w⟩:=ih _ _ _ _ _ i trivial (bT g) m.2.2;exact ih _ _ _ _ _ h trivial (gw i (bT g)) f (.bin y hs w)
   .cases h;exact ⟨_,rfl,y⟩
  | neg=>
   simp only [P] at h;split at h
   .rename_i q;split at h
    .cases h;rw [eu] at f;have f:=dV f;simp only [di,wg,acf,abw] at f;cases f
    .obtain ⟨⟨a,u⟩,i,h⟩:=bind_some h;cases h;rw [eu] at f;have f:=dV f;simp only [di,aaf] at f;obtain ⟨s,hm,hs⟩:=MJ g q;obtain ⟨a',rfl,j⟩:=ih _ _ _ _ _ i trivial (bT g) f.2;simp only [aam,aaD,or_false] at hm;refine ⟨_,rfl,.un ?_ j⟩;rcases hm with rfl | rfl
     .exact .inl hs
     .exact .inr hs
   .obtain ⟨⟨a,u⟩,i,h⟩:=bind_some h;dsimp only at h;split at h
    .have m:=JQ _ _ _ _ _ _ h f;obtain ⟨t,e,R⟩:=ih _ _ _ _ _ i trivial g m;cases e;exact ih _ _ _ _ _ h trivial (gw i g) f R
    .cases h
  | args acc=>
   intro y;simp only [P] at h;split at h
   .rename_i q;obtain ⟨⟨b,u⟩,i,h⟩:=bind_some h;have m:=JQ _ _ _ _ _ _ h f;simp only [dZ,eu] at m;have m:=dV m;simp only [di,aaf] at m;obtain ⟨b',rfl,w⟩:=ih _ _ _ _ _ i trivial g m.2;exact ih _ _ _ _ _ h trivial (gw i g) f (.app y w)
   .cases h;exact ⟨_,rfl,y⟩
  | atom pat=>
   simp only [P] at h;split at h
   .rename_i q;have h0:=C2 q;split at h
    .cases h;rw [eu] at f;cases f
    .rename_i h9;split at h
     .rename_i ho;cases pat with
      | false=>have:=ih _ _ _ _ _ h ho g f;exact this
      | true=>have:=ih _ _ _ _ _ h ho g f;exact this
     .rename_i ho;split at h
      .rename_i B;cases pat with
       | false=>have:=ih _ _ _ _ _ h B g f;exact this
       | true=>have:=ih _ _ _ _ _ h B g f;exact this
      .rename_i B;cases h;have hm:=g _ (EX h0);have V:(nx r).1=4\/(nx r).1=5\/(nx r).1=7\/(nx r).1=(if pat then 5 else 6)\/isAny [gM,eD,dn,cO,if pat then nS else dn] r=true:=by
        unfold cJ at q;simp only [aaP,aaM] at q;rcases q with ((((h | h) | h) | h) | h) | h
        .exact .inl h
        .exact .inr (.inl h)
        .exact .inr (.inr (.inl h))
        .exact absurd h h9
        .exact .inr (.inr (.inr (.inl h)))
        .exact .inr (.inr (.inr (.inr h)))
       have W:isAny [gM,eD,dn,cO,if pat then nS else dn] r=true->((nx r).1=3\/(nx r).1=8)/\((nx r).2=gM\/(nx r).2=eD\/pat=true/\(nx r).2=nS):=by
        intro h;unfold isAny at h;unfold cf at ho B;simp only [aaf,aaP,aaM,abr,List.any_nil,acj] at h ho B;obtain ⟨h1,h⟩:=h;refine ⟨h1, ?_⟩;rcases h with h | h | h | h | h
        .exact .inl h.symm
        .exact .inr (.inl h.symm)
        .exact absurd ⟨h1,h.symm⟩ ho
        .exact absurd ⟨h1,h.symm⟩ B
        .cases pat with
         | true=>exact .inr (.inr ⟨rfl,h.symm⟩)
         | false=>exact absurd ⟨h1,h.symm⟩ ho
       cases pat with
       | false=>
        refine ⟨_,rfl,.leaf hm ?_ (rI g)⟩;rcases V with h | h | h | h | h
        .exact .inl h
        .exact .inr (.inl h)
        .exact .inr (.inr (.inr (.inl h)))
        .exact .inr (.inr (.inl h))
        .obtain ⟨a,b⟩:=W h;refine .inr (.inr (.inr (.inr ⟨a, ?_⟩)));rcases b with b | b | ⟨b,_⟩
         .exact .inl b
         .exact .inr b
         .cases b
       | true=>
        refine ⟨_,rfl,.leaf hm ?_ (rI g)⟩;rcases V with h | h | h | h | h
        .exact .inl h
        .exact .inr (.inl h)
        .exact .inr (.inr (.inl h))
        .exact .inr (.inl h)
        .obtain ⟨a,b⟩:=W h;refine .inr (.inr (.inr ⟨a, ?_⟩));rcases b with b | b | ⟨_,b⟩
         .exact .inl b
         .exact .inr (.inl b)
         .exact .inr (.inr b)
   .cases h;rw [eu,ug] at f;cases f
  | closed list pat=>
   have ho:cf (xc list) r=true:=Z;simp only [P] at h;have C:=gR g ho;split at h
   .rename_i q;cases h;cases pat with
    | false=>exact ⟨_,rfl,.none C (gR (bT g) q)⟩
    | true=>exact ⟨_,rfl,.none C (gR (bT g) q)⟩
   .obtain ⟨⟨a,r2⟩,i,h⟩:=bind_some h;obtain ⟨⟨bs,J⟩,o,h⟩:=bind_some h;cases h;rw [eu] at f;have A:=dV f;simp only [aap,fU,di,aaf,abv] at A;have z:=gw i (bT g);have X:=gw o z;cases pat with
    | false=>
     obtain ⟨a',rfl,j⟩:=ih .expr _ _ _ _ i trivial (bT g) A.2.1.1;exact ⟨_,rfl,.some C j (ih (.items list false) _ _ _ _ o trivial z A.2.1.2) (mb X A.2.2)⟩
    | true=>
     obtain ⟨a',rfl,j⟩:=ih .pattern _ _ _ _ i trivial (bT g) A.2.1.1;exact ⟨_,rfl,.some C j (ih (.items list true) _ _ _ _ o trivial z A.2.1.2) (mb X A.2.2)⟩
  | items list pat=>
   simp only [P] at h;split at h
   .rename_i q;obtain ⟨⟨a,u⟩,i,h⟩:=bind_some h;obtain ⟨⟨bs,r2⟩,o,h⟩:=bind_some h;cases h;simp only [aap,fU,di,aaf,abv] at f;have v:=gw i (bT g);cases pat with
    | false=>
     obtain ⟨a',rfl,j⟩:=ih .expr _ _ _ _ i trivial (bT g) f.2.1;exact .cons (gR g q) j (ih (.items list false) _ _ _ _ o trivial v f.2.2)
    | true=>
     obtain ⟨a',rfl,j⟩:=ih .pattern _ _ _ _ i trivial (bT g) f.2.1;exact .cons (gR g q) j (ih (.items list true) _ _ _ _ o trivial v f.2.2)
   .cases h;cases pat with
    | false=>exact .nil
    | true=>exact .nil
  | pattern=>
   simp only [P] at h;split at h
   .cases h;rw [eu,wg] at f;cases f
   .obtain ⟨⟨a,u⟩,i,h⟩:=bind_some h;dsimp only at h;split at h
    .rename_i q;obtain ⟨⟨b,r2⟩,o,h⟩:=bind_some h;cases h;rw [eu] at f;have f:=dV f;simp only [fU,di,aaf] at f;have v:=gw i g;obtain ⟨a',rfl,j⟩:=ih _ _ _ _ _ i trivial g f.1;obtain ⟨b',rfl,w⟩:=ih _ _ _ _ _ o trivial (bT v) f.2.2;exact ⟨_,rfl,.cons j (gR v q) w⟩
    .cases h;have:=ih _ _ _ _ _ i trivial g f;exact this
  | binding=>
   simp only [P] at h;have I:(if cf ey r=true then [aK r] else [])=[]\/ ∃b,Lf Q ey b/\(if cf ey r=true then [aK r] else [])=[b]:=by
    split
    .rename_i O;exact .inr ⟨_,gR g O,rfl⟩
    .exact .inl rfl
   have q0:qh Q (if cf ey r=true then aO r else r):=by
    split
    .exact bT g
    .exact g
   generalize (if cf ey r=true then [aK r] else [])=rc at h I;generalize (if cf ey r=true then aO r else r)=r0 at h q0;have fin: ∀{p:T} {ps:List T} {u:List aW} {es:List T} {r2:List aW},P n .expr d (bo wB u)=some (es,r2)->qh Q u->di (rc++(p::ps)++[cP wB u]++es)=true->(bZ p=true->PT Q p)->(di ps=true-> ∀x∈ps,PT Q x)->BT Q (rc++(p::ps)++[cP wB u]++es):=by
    intro p ps u es r2 i v f K E;simp only [fU,di,aaf,abv] at f;obtain ⟨e,rfl,D⟩:=ih _ _ _ _ _ i trivial (jl _ v) f.2;exact .mk I (K f.1.1.2.1) (E f.1.1.2.2) (mb v f.1.2) D
   split at h
   .rename_i h4;obtain ⟨⟨xs,u⟩,i,h⟩:=bind_some h;obtain ⟨⟨ps,av⟩,Y,i⟩:=bind_some i;cases i;obtain ⟨⟨es,r2⟩,o,h⟩:=bind_some h;cases h;refine fin o (gw Y (bT q0)) f (fun _=> ?_) (fun f=>ih _ _ _ _ _ Y trivial (bT q0) f);exact .leaf (q0 _ (EX (by rw [h4];decide))) (.inl h4) (rI q0)
   .obtain ⟨⟨xs,u⟩,i,h⟩:=bind_some h;obtain ⟨⟨es,r2⟩,o,h⟩:=bind_some h;cases h;obtain ⟨x,rfl⟩:=cH _ _ _ _ _ _ i rfl;refine fin o (gw i q0) f (fun S=> ?_) (fun _ x hx=>by cases hx);obtain ⟨x',e,U⟩:=ih _ _ _ _ _ i trivial q0 (by rw [eu];exact S);cases e;exact U
  | params=>
   simp only [P] at h;split at h
   .obtain ⟨⟨a,u⟩,i,h⟩:=bind_some h;obtain ⟨⟨bs,r2⟩,o,h⟩:=bind_some h;cases h;simp only [fU,aaf] at f;obtain ⟨a',rfl,j⟩:=ih _ _ _ _ _ i trivial g f.1;have:=ih _ _ _ _ _ o trivial (gw i g) f.2;intro x hx;rcases aaA.1 hx with hx | hx
    .rw [aaG.1 hx];exact j
    .exact this x hx
   .cases h;intro x hx;cases hx
  | arm=>
   simp only [P] at h;obtain ⟨⟨a,u⟩,i,h⟩:=bind_some h;obtain ⟨⟨es,r2⟩,o,h⟩:=bind_some h;cases h;rw [eu] at f;have f:=dV f;simp only [fU,di,aaf,abv] at f;have v:=gw i g;obtain ⟨a',rfl,j⟩:=ih _ _ _ _ _ i trivial g f.1.1;obtain ⟨e,rfl,D⟩:=ih _ _ _ _ _ o trivial (jl _ v) f.2;exact ⟨_,rfl,.mk j (mb v f.1.2) D⟩
  | arms=>
   simp only [P] at h;split at h
   .rename_i q;obtain ⟨⟨a,u⟩,i,h⟩:=bind_some h;obtain ⟨⟨bs,r2⟩,o,h⟩:=bind_some h;cases h;simp only [aap,fU,di,aaf] at f;obtain ⟨a',rfl,j⟩:=ih _ _ _ _ _ i trivial (bT g) f.2.1;exact .cons (gR g q) j (ih _ _ _ _ _ o trivial (gw i (bT g)) f.2.2)
   .cases h;exact .nil
theorem qN: ∀(N:Nat) (r:List aW) (l:List T),decls N r=some l->Pp r->qh Q r->di l=true->DT Q l
 | 0,_,_,h,_,_,_=>by cases h
 | n+1,r,l,h,f,c,a=>by
  simp only [decls] at h;split at h
  .rename_i h0;cases h;have:aK r= .mk 1 0 [] ((r.takeWhile bl).map bc):=by
    unfold aK leaf;have hx:nx r=(0,[]):=by
     unfold nx at h0 ⊢;split
     .rfl
     .rename_i t l e;rw [e] at h0;exact absurd h0 (f t ((abM bl).subset (by rw [e];exact aad)))
    rw [hx]
   rw [this];exact .last (rI c)
  split at h
  .rename_i i;obtain ⟨⟨bs,j⟩,d,h⟩:=bind_some h;obtain ⟨k,g,h⟩:=bind_some h;cases h;simp only [di,aaf] at a;have b:=dV a.1;simp only [di,aaf] at b;exact .cons (gR c i) (Pf _ _ _ _ _ _ d trivial (bT c) b.2) (qN n j k g (B6 lA _ _ _ _ _ _ d (lA _ f)) (gw d (bT c)) a.2)
  .obtain ⟨k,g,h⟩:=bind_some h;cases h;simp only [di,aaf] at a;cases a.1
end
structure Z1 (f:List aW->List aW):Prop where
 nx: ∀r,(nx r).1≠0->Parse.nx (f r)=Parse.nx r
 tk: ∀r,(Parse.nx r).1≠0->aK (f r)=aK r
 tr: ∀r,(Parse.nx r).1≠0->aO (f r)=f (aO r)
 nd: ∀r,(Parse.nx r).1=0->Parse.nx (f r)=(8,Oe)
section
variable {f:List aW->List aW} (hf:Z1 f)
include hf
end
structure X4 (φ:aW->aW):Prop where
 kind: ∀t,(φ t).1=t.1
 same: ∀t,bl t=false->φ t=t
section
variable {φ:aW->aW} (hφ:X4 φ)
include hφ
end
structure vu {α:Type} (F1:T->List α) (F:List T->List α) (G:List aW->List α):Prop where
 nil:F []=[]
 cons: ∀t l,F (t::l)=F1 t++F l
 node: ∀{k},k≠1-> ∀l,F1 (node k l)=F l
 miss: ∀s,F1 (missing s)=[]
 take: ∀r,F1 (aK r)++G (aO r)=G r
section
variable {α:Type} {F1:T->List α} {F:List T->List α} {G:List aW->List α} (hm:vu F1 F G)
include hm
theorem vu.one (t:T):F [t]=F1 t:=by rw [hm.cons,hm.nil,aaw]
theorem vu.app: ∀(l m:List T),F (l++m)=F l++F m
 | [],m=>by rw [aaj,hm.nil,aaj]
 | t::l,m=>by rw [aap,hm.cons,hm.cons,vu.app l m,aao]
theorem vu.zq (s:LB) (r:List aW):F1 (cP s r)++G (bo s r)=G r:=by
 unfold cP bo;split
 .exact hm.take r
 .rw [hm.miss];rfl
theorem vu.deep (s:LB) (r:List aW):F1 (jI s r)++G (kg r)=G r:=by
 unfold jI kg;split
 .rw [hm.miss];rfl
 .rw [hm.node (by decide),hm.one];exact hm.take r
end
theorem Xi {α:Type} {F1:T->List α} {F:List T->List α} {G:List aW->List α} (hm:vu F1 F G): ∀(N:Nat) (job:lJ) (d:Nat) (r:List aW) (l:List T) (r':List aW),P N job d r=some (l,r')->F l++G r'=F (dZ job)++G r:=by
 intro N
 induction N with
 | zero=>intro job d r l r' h;cases h
 | succ n ih=>
  intro job d r l r' h;have tk:=hm.take r;cases job with
  | expr=>
   simp only [P] at h;split at h
   .cases h;rw [hm.one,hm.deep];simp [dZ,hm.nil]
   .have k:=ih _ _ _ _ _ h;exact k
  | whole=>
   simp only [P] at h;split at h
   .obtain ⟨⟨bs,r2⟩,f,h⟩:=bind_some h;obtain ⟨⟨es,o⟩,g,h⟩:=bind_some h;cases h;have k1:=ih _ _ _ _ _ f;have e:=ih _ _ _ _ _ g;simp only [dZ,hm.nil,hm.one,aaj] at k1 e ⊢
    (try rw [hm.one]);rw [hm.node (by decide)]
    simp only [hm.app,hm.cons,hm.nil,aaj,aaw,aao,aap,e,hm.zq,k1,tk]
   split at h
   .obtain ⟨⟨a,i⟩,f,h⟩:=bind_some h;obtain ⟨⟨ps,r2⟩,g,h⟩:=bind_some h;obtain ⟨⟨es,o⟩,m,h⟩:=bind_some h;cases h;have k1:=ih _ _ _ _ _ f;have e:=ih _ _ _ _ _ g;have j:=ih _ _ _ _ _ m;simp only [dZ,hm.nil,hm.one,aaj] at k1 e j ⊢
    (try rw [hm.one]);rw [hm.node (by decide)]
    simp only [hm.app,hm.cons,hm.nil,aaj,aaw,aao,aap,j,hm.zq,e,k1,tk]
   split at h
   .obtain ⟨⟨a,i⟩,f,h⟩:=bind_some h;obtain ⟨⟨b,r2⟩,g,h⟩:=bind_some h;obtain ⟨⟨c,o⟩,m,h⟩:=bind_some h;cases h;have k1:=ih _ _ _ _ _ f;have e:=ih _ _ _ _ _ g;have j:=ih _ _ _ _ _ m;simp only [dZ,hm.nil,hm.one,aaj] at k1 e j ⊢
    (try rw [hm.one]);rw [hm.node (by decide)]
    simp only [hm.app,hm.cons,hm.nil,aaj,aaw,aao,aap,j,hm.zq,e,k1,tk]
   split at h
   .obtain ⟨⟨a,i⟩,f,h⟩:=bind_some h;obtain ⟨⟨b,o⟩,g,h⟩:=bind_some h;obtain ⟨⟨cs,t⟩,m,h⟩:=bind_some h;cases h;have k1:=ih _ _ _ _ _ f;have e:=ih _ _ _ _ _ g;have j:=ih _ _ _ _ _ m;simp only [dZ,hm.nil,hm.one,aaj] at k1 e j ⊢;have s:F (if cf fZ (bo bR i) then [aK (bo bR i)] else [])++G (if cf fZ (bo bR i) then aO (bo bR i) else bo bR i)=G (bo bR i):=by
     split
     .rw [hm.one];exact hm.take _
     .rw [hm.nil];rfl
    (try rw [hm.one]);rw [hm.node (by decide)]
    simp only [hm.app,hm.cons,hm.nil,aaj,aaw,aao,aap,j,e,s,hm.zq,k1,tk]
   .have k:=ih _ _ _ _ _ h;exact k
  | level k=>
   simp only [P] at h;split at h
   .have k:=ih _ _ _ _ _ h;exact k
   .obtain ⟨⟨a,i⟩,f,h⟩:=bind_some h;dsimp only at h;split at h
    .have k1:=ih _ _ _ _ _ f;have e:=ih _ _ _ _ _ h;simp only [dZ,hm.nil,hm.one,aaj,hm.one] at k1 e ⊢;rw [e,k1]
    .cases h
  | ops k acc=>
   simp only [P] at h;split at h
   .obtain ⟨⟨b,i⟩,f,h⟩:=bind_some h;have k1:=ih _ _ _ _ _ f;have e:=ih _ _ _ _ _ h;simp only [dZ,hm.nil,hm.one,aaj] at k1 e ⊢;rw [e,hm.node (by decide)];simp only [hm.cons,hm.nil,aaj,aao,k1,tk]
   .cases h;simp [dZ]
  | neg=>
   simp only [P] at h;split at h
   .split at h
    .cases h
     (try rw [hm.one]);rw [hm.node (by decide)]
     simp only [hm.cons,hm.nil,aaj,aaw,aao,dZ,hm.nil,aaj,hm.deep,tk]
    .obtain ⟨⟨a,i⟩,f,h⟩:=bind_some h;cases h;have k1:=ih _ _ _ _ _ f;simp only [dZ,hm.nil,hm.one,aaj] at k1 ⊢
     (try rw [hm.one]);rw [hm.node (by decide)]
     simp only [hm.cons,hm.nil,aaj,aao,k1,tk]
   .obtain ⟨⟨a,i⟩,f,h⟩:=bind_some h;dsimp only at h;split at h
    .have k1:=ih _ _ _ _ _ f;have e:=ih _ _ _ _ _ h;simp only [dZ,hm.nil,hm.one,aaj,hm.one] at k1 e ⊢;rw [e,k1]
    .cases h
  | args acc=>
   simp only [P] at h;split at h
   .obtain ⟨⟨b,i⟩,f,h⟩:=bind_some h;have k1:=ih _ _ _ _ _ f;have e:=ih _ _ _ _ _ h;simp only [dZ,hm.nil,hm.one,aaj] at k1 e ⊢;rw [e,hm.node (by decide)];simp only [hm.cons,hm.nil,aaj,aao,k1]
   .cases h;simp [dZ]
  | atom pat=>
   simp only [P] at h;split at h
   .split at h
    .cases h
     (try rw [hm.one]);rw [hm.node (by decide),hm.one]
     simp only [dZ,hm.nil,aaj];exact tk
    split at h
    .have k:=ih _ _ _ _ _ h;exact k
    split at h
    .have k:=ih _ _ _ _ _ h;exact k
    .cases h;rw [hm.one];simp only [dZ,hm.nil,aaj];exact tk
   .cases h;rw [hm.one,hm.miss];simp [dZ,hm.nil]
  | closed list pat=>
   simp only [P] at h;split at h
   .cases h;have q:=hm.take (aO r)
    (try rw [hm.one]);rw [hm.node (rH _ _)]
    simp only [hm.cons,hm.nil,aaj,aaw,aao,dZ,hm.nil,aaj,q,tk]
   .obtain ⟨⟨a,r2⟩,f,h⟩:=bind_some h;obtain ⟨⟨bs,o⟩,g,h⟩:=bind_some h;cases h;have k1:=ih _ _ _ _ _ f;have e:=ih _ _ _ _ _ g;have hd:dZ (if pat then lJ.pattern else lJ.expr)=[]:=by cases pat <;> rfl
    rw [hd] at k1;simp only [dZ,hm.nil,hm.one,aaj] at k1 e ⊢
    (try rw [hm.one]);rw [hm.node (rH _ _)]
    simp only [hm.app,hm.cons,hm.nil,aaj,aaw,aao,aap,hm.zq,e,k1,tk]
  | items list pat=>
   simp only [P] at h;split at h
   .obtain ⟨⟨a,r2⟩,f,h⟩:=bind_some h;obtain ⟨⟨bs,o⟩,g,h⟩:=bind_some h;cases h;have k1:=ih _ _ _ _ _ f;have e:=ih _ _ _ _ _ g;have hd:dZ (if pat then lJ.pattern else lJ.expr)=[]:=by cases pat <;> rfl
    rw [hd] at k1;simp only [dZ,hm.nil,hm.one,aaj] at k1 e ⊢;simp only [hm.app,hm.cons,hm.nil,aaj,aao,aap,e,k1,tk]
   .cases h;simp [dZ,hm.nil]
  | pattern=>
   simp only [P] at h;split at h
   .cases h;rw [hm.one,hm.deep];simp [dZ,hm.nil]
   .obtain ⟨⟨a,i⟩,f,h⟩:=bind_some h;have k1:=ih _ _ _ _ _ f;dsimp only at h;split at h
    .obtain ⟨⟨b,r2⟩,g,h⟩:=bind_some h;cases h;have e:=ih _ _ _ _ _ g;simp only [dZ,hm.nil,hm.one,aaj] at k1 e ⊢
     (try rw [hm.one]);rw [hm.node (by decide)]
     simp only [hm.app,hm.cons,hm.nil,aaj,aao,e,hm.take,k1]
    .cases h;exact k1
  | binding=>
   simp only [P] at h;have p:F (if cf ey r then [aK r] else [])++G (if cf ey r then aO r else r)=G r:=by
    split
    .rw [hm.one];exact tk
    .rw [hm.nil];rfl
   generalize (if cf ey r then [aK r] else [])=rc at h p;generalize (if cf ey r then aO r else r)=r0 at h p;split at h
   .obtain ⟨⟨xs,i⟩,f,h⟩:=bind_some h;obtain ⟨⟨ps,o⟩,m,f⟩:=bind_some f;cases f;obtain ⟨⟨es,r2⟩,g,h⟩:=bind_some h;cases h;have j:=ih _ _ _ _ _ m;have e:=ih _ _ _ _ _ g;simp only [dZ,hm.nil,hm.one,aaj] at e j ⊢;simp only [hm.app,hm.cons,hm.nil,aaj,hm.one,aao,aap,e,hm.zq,j,hm.take,p]
   .obtain ⟨⟨xs,i⟩,f,h⟩:=bind_some h;obtain ⟨⟨es,r2⟩,g,h⟩:=bind_some h;cases h;have k1:=ih _ _ _ _ _ f;have e:=ih _ _ _ _ _ g;simp only [dZ,hm.nil,hm.one,aaj] at k1 e ⊢;simp only [hm.app,hm.one,aao,e,hm.zq,k1,p]
  | params=>
   simp only [P] at h;split at h
   .obtain ⟨⟨a,i⟩,f,h⟩:=bind_some h;obtain ⟨⟨bs,r2⟩,g,h⟩:=bind_some h;cases h;have k1:=ih _ _ _ _ _ f;have e:=ih _ _ _ _ _ g;simp only [dZ,hm.nil,hm.one,aaj] at k1 e ⊢;simp only [hm.app,aao,e,k1]
   .cases h;simp [dZ,hm.nil]
  | arm=>
   simp only [P] at h;obtain ⟨⟨a,i⟩,f,h⟩:=bind_some h;obtain ⟨⟨es,r2⟩,g,h⟩:=bind_some h;cases h;have k1:=ih _ _ _ _ _ f;have e:=ih _ _ _ _ _ g;simp only [dZ,hm.nil,hm.one,aaj] at k1 e ⊢
   (try rw [hm.one]);rw [hm.node (by decide)]
   simp only [hm.app,hm.one,aao,e,hm.zq,k1]
  | arms=>
   simp only [P] at h;split at h
   .obtain ⟨⟨a,i⟩,f,h⟩:=bind_some h;obtain ⟨⟨bs,r2⟩,g,h⟩:=bind_some h;cases h;have k1:=ih _ _ _ _ _ f;have e:=ih _ _ _ _ _ g;simp only [dZ,hm.nil,hm.one,aaj] at k1 e ⊢;simp only [hm.app,hm.cons,hm.nil,aaj,aao,aap,e,k1,tk]
   .cases h;simp [dZ,hm.nil]
def GL (B:LB) (t:aW):aW:=if t.1=1 then (1,B) else t
def eE (B:LB) (l:List aW):LB:=cB (l.map (GL B))
theorem jr (B:LB) (t:aW) (l:List aW):eE B (t::l)=(GL B t).2++eE B l:=by simp [eE,cB]
theorem nr (t:aW) (l:List aW):cB (t::l)=t.2++cB l:=by simp [cB]
theorem jB (s:LB):cB (tokens s)=s:=by
 have:=qI s.length s (aah _);simpa [cB,List.flatMap] using this
theorem gd {c:UInt8} {l:LB}:tokens (c::l)=((cut (c::l)).1,(c::l).take (cut (c::l)).2)::tokens ((c::l).drop (cut (c::l)).2):=by
 have a:=jF (s:=c::l) (by simp);show fE (c::l).length (c::l)= _;simp only [aab,fE];congr 1;refine vD _ _ _ ?_ (aah _);rw [aas];simp only [aab] at a ⊢;omega
theorem FQ: ∀(G:List aW),∃p a,cB G=p++cB a/\(∀B,eE B G=p++eE B a)/\(a=[]\/ ∃t r,a=t::r/\t∈G/\t.1=1)
 | []=>⟨[],[],rfl,fun _=>rfl,.inl rfl⟩
 | t::G=>by
  by_cases h:t.1=1
  .exact ⟨[],t::G,rfl,fun _=>rfl,.inr ⟨t,G,rfl,aad,h⟩⟩
  .obtain ⟨p,a,h1,b,c⟩:=FQ G;refine ⟨t.2++p,a,by rw [nr,h1,aao],fun B=> ?_, ?_⟩
   .rw [jr,b,aao];congr 1;unfold GL;rw [if_neg h]
   .rcases c with rfl | ⟨u,r,e,d,h1⟩
    .exact .inl rfl
    .exact .inr ⟨u,r,e,aak _ d,h1⟩
theorem Cq: ∀(n:Nat) (s:LB),s.length<=n-> ∀t∈tokens s,t.1=1-> ∃b r,t.2=b::r/\bw b=true
 | _,[],_,t,a,_=>by cases a
 | 0,c::l,h,_,_,_=>by simp at h
 | n+1,c::l,h,t,a,h1=>by
  have e:=jF (s:=c::l) (by simp);rw [gd] at a;rcases aam.1 a with rfl | a
  .have d:=(wC h1).1;obtain ⟨m,hm⟩: ∃m,(cut (c::l)).2=m+1:=⟨(cut (c::l)).2 - 1,by omega⟩;refine ⟨c,l.take m, ?_,d⟩;show (c::l).take (cut (c::l)).2= _;rw [hm,abO]
  .refine Cq n _ ?_ t a h1;rw [aas];simp only [aab] at h ⊢;omega
theorem TJ {p:UInt8->Bool}: ∀{B:LB},wh p B=B.length-> ∀{x:LB},wh p x=0->wh p (B++x)=B.length:=fun {B} h {x} hx=>by
 rw [Nw,if_pos h,hx,abq]
theorem Eo (p:UInt8->Bool) (s:LB):wh p (s.drop (wh p s))=0:=by
 rw [Jx];cases h:s.dropWhile p with
 | nil=>rfl
 | cons c l=>
  have:=List.head_dropWhile_not p (l:=s) (by rw [h];simp);simp only [h,List.head_cons] at this;simp [wh,this]
theorem JB {p:UInt8->Bool} {c:UInt8} {l:LB} (h:p c=false):wh p (c::l)=0:=by simp [wh,h]
theorem BW {B:LB} (Z:B≠[]) (I:wh bw B=B.length) (hv:bH B=true): ∀(n:Nat) (s:LB),s.length<=n->bH s=true->(∀t∈tokens s,t.1≠9)->
  tokens (eE B (tokens s))=(tokens s).map (GL B)/\bH (eE B (tokens s))=true
 | _,[],_,_,_=>⟨rfl,rfl⟩
 | 0,c::l,h,_,_=>by simp at h
 | n+1,c::l,h,hs,L=>by
  have hc:=jF (s:=c::l) (by simp);have y:=C6 (s:=c::l) (by simp) hs;have M:=gd (c:=c) (l:=l);have N:=jB (c::l);have z:=Cq _ (c::l) (aah _);obtain ⟨a,d,rfl⟩: ∃b r,B=b::r:=by
   cases B with
   | nil=>exact absurd rfl Z
   | cons b r=>exact ⟨b,r,rfl⟩
  have A:bw a=true:=by
   cases C:bw a with
   | true=>rfl
   | false=>rw [JB C] at I;simp at I
  generalize hm:(cut (c::l)).2=m at *;generalize J:(cut (c::l)).1=k at *;have hlen:((c::l).drop m).length<=n:=by
   rw [aas];simp only [aab] at h ⊢;omega
  have O:(c::l)=(c::l).take m++(c::l).drop m:=(abk m _).symm;have i:((c::l).take m).length=m:=by rw [aat];omega
  generalize ht:(c::l).take m=t at *;generalize hd:(c::l).drop m=f at *;rw [M] at L z N ⊢;obtain ⟨D,E⟩:=BW Z I hv n f hlen y.2 (fun u F=>L u (aak _ F));rw [jr,aal];by_cases h1:k=1
  .subst h1;have o:GL (a::d) (1,t)=(1,a::d):=by unfold GL;rw [if_pos rfl]
   rw [o];have P:=wC J;have Q:m=wh bw (c::l):=by rw [<- hm,P.2]
   have hz:wh bw f=0:=by
    rw [<- hd,Q];have:=Eo bw (c::l);exact this
   have R:wh bw (eE (a::d) (tokens f))=0:=by
    cases f with
    | nil=>rfl
    | cons w l2=>
     have G:bw w=false:=by
      cases C:bw w with
      | false=>rfl
      | true=>simp [wh,C] at hz
     have av:=jF (s:=w::l2) (by simp);have S:(cut (w::l2)).1≠1:=fun e=>by
      have:=(wC e).1;rw [G] at this;cases this
     rw [gd,jr];unfold GL;rw [if_neg S];obtain ⟨j,hj⟩: ∃j,(cut (w::l2)).2=j+1:=⟨(cut (w::l2)).2 - 1,by omega⟩;rw [hj];exact JB G
   refine ⟨?_,by rw [wq _ _ _ (aah _) hv];exact E⟩;have g:cut (a::(d++eE (a::d) (tokens f)))=(1,(a::d).length):=by
    have e:wh bw (a::(d++eE (a::d) (tokens f)))=(a::d).length:=TJ I R;rw [<- e];simp only [cut,A,if_true]
   show tokens (a::(d++eE (a::d) (tokens f)))= _;rw [gd,g];have T:(a::(d++eE (a::d) (tokens f))).take (a::d).length=a::d:=abP (l₁:=a::d);have U:(a::(d++eE (a::d) (tokens f))).drop (a::d).length=eE (a::d) (tokens f):=acq (l₁:=a::d);rw [T,U,D]
  .have o:GL (a::d) (k,t)=(k,t):=by unfold GL;rw [if_neg h1]
   rw [o];have V:k≠9:=L (k,t) aad;obtain ⟨p,H,a1,a2,a3⟩:=FQ (tokens f);have hx:Stop (cB H):=by
    rcases a3 with rfl | ⟨u,r,rfl,W,F⟩
    .exact .inl rfl
    .obtain ⟨b,q,e,C⟩:=z u (aak _ W) F;exact .inr ⟨b,q++cB r,by rw [nr,e];rfl,C⟩
   have X:Stop (eE (a::d) H):=by
    rcases a3 with rfl | ⟨u,r,rfl,_,F⟩
    .exact .inl rfl
    .refine .inr ⟨a,d++eE (a::d) r, ?_,A⟩;rw [jr];unfold GL;rw [if_pos F];rfl
   have K:c::l=(t++p)++cB H:=by
    rw [aao, <- a1,jB];exact O
   have Y:=a2 (a::d);have g:cut (t++eE (a::d) (tokens f))=(k,m):=by
    rw [Y, <- aao];have e:=SF (p:=t++p) (x:=cB H) (x':=eE (a::d) H) (by
     intro e;have:=(List.append_eq_nil_iff.1 e).1;rw [this] at i;simp at i;omega) hx X (by rw [<- K,J];exact h1) (by rw [<- K,J];exact V) (by rw [<- K,hm,aaa,i];omega)
    rw [e, <- K, <- J, <- hm]
   refine ⟨?_,by rw [wq _ _ _ (aah _) y.1];exact E⟩;obtain ⟨v,t',rfl⟩: ∃b r,t=b::r:=by
    cases t with
    | nil=>simp at i;omega
    | cons b r=>exact ⟨b,r,rfl⟩
   show tokens (v::(t'++eE (a::d) (tokens f)))= _;have g:cut (v::(t'++eE (a::d) (tokens f)))=(k,m):=g;rw [gd,g];have T:(v::(t'++eE (a::d) (tokens f))).take m=v::t':=by rw [<- i];exact abP (l₁:=v::t')
   have U:(v::(t'++eE (a::d) (tokens f))).drop m=eE (a::d) (tokens f):=by rw [<- i];exact acq (l₁:=v::t')
   rw [T,U,D]
theorem EZ {α:Type} {F1:T->List α} {F:List T->List α} {G:List aW->List α} (hm:vu F1 F G): ∀(n:Nat) (r:List aW),F (skip n r).1++G (skip n r).2=G r
 | 0,r=>by simp [skip,hm.nil]
 | n+1,r=>by
  simp only [skip];split
  .simp only [hm.cons,aao,EZ hm n (aO r),hm.take]
  .simp [hm.nil]
theorem vS {α:Type} {F1:T->List α} {F:List T->List α} {G:List aW->List α} (hm:vu F1 F G) (h0:G []=[]): ∀(n:Nat) (r:List aW) (l:List T),decls n r=some l->Pp r->F l=G r
 | 0,_,_,h,_=>by cases h
 | n+1,r,l,h,a=>by
  simp only [decls] at h;split at h
  .rename_i hn;cases h;have:=hm.take r;rw [JZ a hn,h0,aaw] at this;rw [hm.one,this]
  split at h
  .obtain ⟨⟨bs,e⟩,d,h⟩:=bind_some h;obtain ⟨m,b,h⟩:=bind_some h;cases h;have k1:=Xi hm _ _ _ _ _ _ d;have c:=vS hm h0 n e m b (B6 lA _ _ _ _ _ _ d (lA _ a));simp only [dZ,hm.nil,aaj] at k1;rw [hm.cons,hm.node (by decide),hm.cons,aao,c,k1,hm.take]
  .obtain ⟨m,b,h⟩:=bind_some h;cases h;have c:=vS hm h0 n _ m b (zJ lA _ _ a);rw [hm.cons,hm.node (by decide),c,EZ hm]
theorem Dq {α:Type} {F1:T->List α} {F:List T->List α} {G:List aW->List α} (hm:vu F1 F G) (h0:G []=[]) (r:List aW) (h:Pp r):F1 (doc r)=G r:=by
 obtain ⟨l,a,b⟩:=lZ r;rw [b,hm.node (by decide),vS hm h0 _ _ _ a h]
theorem K2 (w:LB):oc w≠0:=by
 unfold oc;split
 .decide
 split <;> decide
theorem Q8 {s:LB} (h:s≠[]):(cut s).1≠0:=by
 cases s with
 | nil=>exact absurd rfl h
 | cons c l=>
  unfold cut;dsimp only;split
  .exact fun e=>by cases e
  split
  .cases rem (List.drop 2 (c::l)) 1 <;> exact fun e=>by cases e
  split
  .exact K2 _
  split
  .have a:(number (c::l)).1≠0:=by
    unfold number;dsimp only;split
    .split <;> exact fun e=>by cases e
    .exact fun e=>by cases e
   exact a
  split
  .have:=iW l;show (cL l).1≠0;omega
  split
  .exact fun e=>by cases e
  split <;> exact fun e=>by cases e
theorem Fv: ∀(n:Nat) (s:LB),∀p∈fE n s,p.1≠0
 | 0,_,p,h=>by simp [fE] at h
 | n+1,[],p,h=>by simp [fE] at h
 | n+1,c::l,p,h=>by
  simp only [fE,aam] at h;rcases h with rfl | h
  .exact Q8 (by simp)
  .exact Fv n _ p h
theorem iy (s:LB):Pp (tokens s):=Fv _ s
theorem vO {α:Type} {F1:T->List α} {F:List T->List α} {g:aW->List α} (hn:F []=[]) (b: ∀t l,F (t::l)=F1 t++F l) (h0: ∀t,bl t=true->F1 (bc t)=g t) (h1: ∀t ks,bl t=false->F1 (leaf t ks)=F ks++g t) (c: ∀ks,F1 (leaf (0,[]) ks)=F ks) (r:List aW):
  F1 (aK r)++(aO r).flatMap g=r.flatMap g:=by
 have hl: ∀l:List aW,(∀t∈l,bl t=true)->F (l.map bc)=l.flatMap g:=by
  intro l
  induction l with
  | nil=>intro _;exact hn
  | cons t l ih=>
   intro h;rw [aal,b,h0 t (h t aad),ih fun u d=>h u (aak _ d)];simp
 have hf:=hl (r.takeWhile bl) fun t a=>OL a;have e:r.flatMap g=(r.takeWhile bl).flatMap g++(r.dropWhile bl).flatMap g:=by
  rw [<- List.flatMap_append,abJ]
 unfold aK aO;cases hd:r.dropWhile bl with
 | nil=>
  have hx:nx r=(0,[]):=by unfold nx;rw [hd]
  rw [hx,c,hf,e,hd];rfl
 | cons t l=>
  have hx:nx r=t:=by unfold nx;rw [hd]
  have a:bl t=false:=by
   have:=List.head_dropWhile_not bl (l:=r) (by rw [hd];simp);simpa only [hd,List.head_cons] using this
  rw [hx,h1 t _ a,hf,e,hd];simp
mutual
def Db (B:LB):T->LB
 | .mk k _ tx l=>HE B l++(if k=1 then tx else [])
def HE (B:LB):List T->LB
 | []=>[]
 | .mk k tk tx m::l=>(if k=1/\tk=1 then B else Db B (.mk k tk tx m))++HE B l
end
def MB (B:LB):T->LB
 | .mk k tk tx m=>if k=1/\tk=1 then B else Db B (.mk k tk tx m)
theorem uV (B:LB) (t:T) (l:List T):HE B (t::l)=MB B t++HE B l:=by
 cases t with
 | mk k tk tx m=>simp only [HE,MB]
mutual
def NV:T->List Unit
 | .mk k tk _ l=>K6 l++(if k=1/\tk=9 then [()] else [])
def K6:List T->List Unit
 | []=>[]
 | t::l=>NV t++K6 l
end
theorem Qy (B:LB):vu (MB B) (HE B) (eE B) where
 nil:=by simp [HE]
 cons t l:=uV B t l
 node:=fun {k} a l=>by
  simp only [node,MB,Db];rw [if_neg (fun h=>a h.1),if_neg a,aaw]
 miss s:=by simp [missing,MB,Db,HE]
 take r:=by
  have e: ∀l,eE B l=l.flatMap fun t=>(GL B t).2:=fun l=>by
   induction l with
   | nil=>rfl
   | cons t l ih=>rw [jr,ih];rfl
  rw [e,e];refine vO (by simp [HE]) (uV B) (fun t b=> ?_) (fun t ks b=> ?_) (fun ks=> ?_) r
  .simp only [bc,leaf,MB,Db,HE,aaj,aca,if_true];unfold GL;split <;> rfl
  .have h1:t.1≠1:=fun e=>by simp [bl,e] at b
   simp only [leaf,MB,Db,aca,if_true];unfold GL;rw [if_neg h1,if_neg h1]
  .simp [leaf,MB,Db]
theorem Nc (B:LB) (s:LB):Db B (doc (tokens s))=eE B (tokens s):=by
 have h:=Dq (Qy B) rfl (tokens s) (iy s);obtain ⟨l,_,a⟩:=lZ (tokens s);rw [a] at h ⊢;simp only [node,MB] at h;rw [if_neg (fun e=>by cases e.1)] at h;exact h
theorem Ps:vu NV K6 (fun r=>r.flatMap fun t=>if t.1=9 then [()] else []) where
 nil:=by simp [K6]
 cons t l:=by simp [K6]
 node:=fun {k} a l=>by
  simp only [node,NV];rw [if_neg (fun h=>a h.1),aaw]
 miss s:=by simp [missing,NV,K6]
 take r:=by
  refine vO (F1:=NV) (F:=K6) (g:=fun t=>if t.1=9 then [()] else []) (by simp only [K6]) (fun t l=>by simp only [K6]) (fun t b=> ?_) (fun t ks b=> ?_) (fun ks=> ?_) r
  .simp only [bc,leaf,NV,K6,aaj,aca]
  .simp only [leaf,NV,aca]
  .simp [leaf,NV]
theorem Oa (s:LB) (h:NV (doc (tokens s))=[]): ∀t∈tokens s,t.1≠9:=by
 rw [Dq Ps rfl (tokens s) (iy s)] at h;intro t a e;have:=List.flatMap_eq_nil_iff.1 h t a;rw [if_pos e] at this;cases this
theorem EM: ∀(n:Nat) (t:T),SizeOf.sizeOf t < n->bZ t=true->NV t=[]
 | 0,_,h,_=>by omega
 | n+1,.mk k tk tx l,h,a=>by
  simp only [bZ,aaf,bne_iff_ne,ne_eq,aaP] at a;simp only [NV];have c:¬ (k=1/\tk=9):=by
   rintro ⟨h1,d⟩;rcases a.1.2 with h | h
   .exact h h1
   .exact h d
  rw [if_neg c,aaw];have hl: ∀(m:List T),(∀u∈m,u∈l)->di m=true->K6 m=[]:=by
   intro m
   induction m with
   | nil=>intro _ _;simp [K6]
   | cons u m ih=>
    intro hm a;simp only [di,aaf] at a;have b:=EM n u (by
     have:=List.sizeOf_lt_of_mem (hm u aad);simp only [T.mk.sizeOf_spec] at h;omega) a.1
    simp only [K6];rw [b,ih (fun v e=>hm v (aak _ e)) a.2];rfl
  exact hl l (fun u b=>b) a.2
end Go.Parse
namespace Go.Ast
open Go.VM Go.Lex Go.Parse Go.Scope
def ME:LB->LB
 | []=>[]
 | [c]=>[c]
 | c::d::l=>if c=92 then (if d=110 then 10 else if d=116 then 9 else d)::ME l else c::ME (d::l)
def told (s:LB):LB:=ME ((s.drop 1).take (s.length - 2))
end Go.Ast
namespace Go.Parse
open Go.VM Go.Lex Go.Ast
section
variable {b r2:List aW} {e:T}
end
theorem Gn (l:LB): ∃r,tokens (42::l)=(8,[42])::r\/tokens (42::l)=(8,[42,46])::r:=by
 cases l with
 | nil=>exact ⟨[],.inl rfl⟩
 | cons d l=>
  have e:(42::d::l).take 2=[42,d]:=rfl;by_cases h:d=46
  .subst h;have a:cut (42::46::l)=(8,2):=by
    simp only [cut,show bw 42=false from rfl,aaB,if_false,e,if_neg (show ¬ ([42,46]:LB)=[40,42] by decide),show iP 42=false from rfl,show aC 42=false from rfl,if_neg (show ¬ (42:UInt8)=34 by decide),show gG.contains [42,46]=true from rfl,if_true]
   refine ⟨tokens l,.inr ?_⟩;rw [gd,a];rfl
  .have a:cut (42::d::l)=(8,1):=by
    have h1:¬ ([42,d]:LB)=[40,42]:=by simp
    have b:gG.contains [42,d]=false:=by
     simp [gG,h]
    simp only [cut,show bw 42=false from rfl,aaB,if_false,e,if_neg h1,show iP 42=false from rfl,show aC 42=false from rfl,if_neg (show ¬ (42:UInt8)=34 by decide),b,show jy 42=true from rfl,if_true]
   refine ⟨tokens (d::l),.inl ?_⟩;rw [gd,a];rfl
end Go.Parse
namespace Go.Parse
open Go.VM Go.Lex
inductive It where
 | tok (t:aW)
 | sep
def cI:List It->List aW
 | []=>[]
 | .tok t::l=>t::cI l
 | .sep::l=>cI l
structure yI (t:aW):Prop where
 ne:t.2≠[]
 cut:cut t.2=(t.1,t.2.length)
 k1:t.1≠1
 k9:t.1≠9
 valid:bH t.2=true
def By (t:aW):List It->Prop
 | []=>True
 | .sep:: _=>True
 | .tok u:: _=>(∃c r,u.2=c::r/\fR c=true)\/((t=(8,[40])\/t=(8,[91]))/\ ∃c r,u.2=c::r/\c≠42)
inductive gI:List It->Prop where
 | nil:gI []
 | sep {l:List It}:gI l->gI (.sep::l)
 | tok {t:aW} {l:List It}:yI t->By t l->gI l->gI (.tok t::l)
theorem O4 {c:UInt8} (h:bw c=true):fR c=true:=by
 rcases gy h with rfl | rfl | rfl | rfl <;> rfl
end Go.Parse
namespace Go.Format
open Go.VM Go.Lex Go.Parse Go.Lay
def yz (s:B):It:=if s=[32] then .sep else .tok ((cut s).1,s)
mutual
def gu:Lay.Doc->List It
 | .mk k s _ kids=>if k=1 then [yz s] else if k=2\/k=4 then [.sep] else dz kids
def dz:List Lay.Doc->List It
 | []=>[]
 | d::l=>gu d++dz l
end
mutual
def qf:Lay.Doc->Bool
 | .mk k _ _ kids=>(k==1||k==2||k==4||k==5||k==6||k==7)&&jd kids
def jd:List Lay.Doc->Bool
 | []=>true
 | d::l=>qf d&&jd l
end
theorem gH: ∀(l m:List Lay.Doc),dz (l++m)=dz l++dz m
 | [],m=>rfl
 | d::l,m=>by simp only [aap,dz,gH l m,aao]
theorem jR: ∀(l m:List Lay.Doc),jd (l++m)=(jd l&&jd m)
 | [],m=>rfl
 | d::l,m=>by simp only [aap,jd,jR l m,Bool.and_assoc]
mutual
def vi:T->List aW
 | .mk k tk s l=>jw l++(if k=1/\tk≠1/\tk≠0 then [(tk,s)] else [])
def jw:List T->List aW
 | []=>[]
 | t::l=>vi t++jw l
end
theorem uj: ∀(l m:List T),jw (l++m)=jw l++jw m
 | [],m=>rfl
 | t::l,m=>by simp only [aap,jw,uj l m,aao]
def Q1 (t:aW):Prop:=t.1≠1->yI t
theorem cG: ∀(l m:List It),cI (l++m)=cI l++cI m
 | [],m=>rfl
 | .tok t::l,m=>by simp only [aap,cI,cG l m]
 | .sep::l,m=>by simp only [aap,cI,cG l m]
theorem dL: ∀{a b:List It},gI a->gI b->(∀t,a.getLast?=some (.tok t)->By t b)->gI (a++b)
 | _,_,.nil,c,_=>c
 | _,_,.sep (l:=l) h,c,hl=> .sep (dL h c fun t e=>hl t (by
   cases l with
   | nil=>cases e
   | cons x l=>rw [List.getLast?_cons_cons];exact e))
 | _,b,.tok (t:=t) (l:=l) hs d h,c,hl=>by
  refine .tok hs ?_ (dL h c fun u f=>hl u ?_)
  .cases l with
   | nil=>exact hl t rfl
   | cons x l=>cases x <;> exact d
  .cases l with
   | nil=>cases f
   | cons x l=>rw [List.getLast?_cons_cons];exact f
def St (l:List It):Prop:= ∃u a,l= .tok u::a/\ ∃c r,u.2=c::r/\c≠42
def Vl (l:List It):Prop:= ∃u a,l= .tok u::a/\ ∃c r,u.2=c::r/\fR c=true
def Sp (l:List It):Prop:=l=[]\/ ∃a,l= .sep::a
theorem Oo {l:List It} (h:Sp l) (t:aW):By t l:=by
 rcases h with rfl | ⟨a,rfl⟩ <;> exact trivial
theorem Ix {l:List It} (h:Vl l) (t:aW):By t l:=by
 obtain ⟨u,a,rfl,h⟩:=h;exact .inl h
theorem qM {l m:List It} (h:St l):St (l++m):=by
 obtain ⟨u,a,rfl,h⟩:=h;exact ⟨u,a++m,rfl,h⟩
theorem PB {l m:List It} (h:Vl l):Vl (l++m):=by
 obtain ⟨u,a,rfl,h⟩:=h;exact ⟨u,a++m,rfl,h⟩
structure Ok (t:T):Prop where
 chain:gI (gu (ay t))
 st:St (gu (ay t))
 fE:cI (gu (ay t))=vi t
 fm:qf (ay t)=true
 comma:kQ [km,oB] t=false
structure W9 (t:T):Prop where
 chain:gI (gu (ay t))
 st:St (gu (ay t))
 fE:cI (gu (ay t))=vi t
 fm:qf (ay t)=true
theorem rA {k:Nat} {s:B} (h:yI (k,s)):yz s= .tok (k,s):=by
 have a:cut s=(k,s.length):=h.cut;unfold yz;rw [if_neg,a];rintro rfl;have:cut [32]=(1,1):=rfl;rw [this] at a;injection a with h1 _
 exact h.k1 h1.symm
theorem Cg {k:Nat} {s:B} (h:yI (k,s)) (b:k≠8): ∃c r,s=c::r/\c≠42:=by
 cases s with
 | nil=>exact absurd rfl h.ne
 | cons c r=>
  refine ⟨c,r,rfl, ?_⟩;rintro rfl;obtain ⟨r',a⟩:=Gn r;have d:cut (42::r)=(k,(42::r).length):=h.cut;rw [gd,d] at a;rcases a with a | a
  .injection a with h1 _
   injection h1 with h1 _
   exact b h1
  .injection a with h1 _
   injection h1 with h1 _
   exact b h1
theorem Nn {s:B} (h:yI (2,s)): ∃r,s=40::r:=by
 have a:cut s=(2,s.length):=h.cut;cases s with
 | nil=>exact absurd rfl h.ne
 | cons c l=>
  simp only [cut] at a;split at a
  .cases a
  split at a
  .rename_i d;have:c=40:=by
    have:=aaY (fun l:LB=>l.getD 0 0) d;cases l <;> simpa using this
   exact ⟨l,by rw [this]⟩
  split at a
  .injection a with h1 _
   unfold oc at h1;split at h1
   .cases h1
   .split at h1 <;> cases h1
  split at a
  .have h1:=aaY Prod.fst a;unfold number at h1;dsimp only at h1;split at h1
   .dsimp only at h1;split at h1 <;> cases h1
   .cases h1
  split at a
  .have h1:=aaY Prod.fst a;rcases iW l with b | b
   .dsimp only at h1;rw [b] at h1;cases h1
   .dsimp only at h1;rw [b] at h1;cases h1
  split at a
  .cases a
  split at a
  .cases a
  .cases a
theorem DO: ∀{r:List aW} (_: ∀x∈r,bl x=true/\Q1 x),let L:=dz ((dW (r.map bc)).flatMap (fun x=>[tx x,je]));gI L/\cI L=jw (r.map bc)/\jd ((dW (r.map bc)).flatMap (fun x=>[tx x,je]))=true/\(L=[]\/ ∃u m,L= .tok u::m/\ ∃q,u.2=40::q)/\(∀t,L.getLast?≠some (.tok t))
 | [],_=>⟨.nil,rfl,rfl,.inl rfl,fun t h=>by cases h⟩
 | x::r,h=>by
  obtain ⟨i,j,k,n,l⟩:=DO (r:=r) fun y hy=>h y (aak _ hy);obtain ⟨c,o⟩:=h x (by simp);by_cases f:x.1=2
  .have d:yI (2,x.2):=by
    have:=o (by omega);rw [<- f];exact this
   have e:(dW ((x::r).map bc))=x.2::dW (r.map bc):=by
    unfold dW;rw [aal,abu];simp [bc,leaf,jq,f]
   have p:dz ((x.2::dW (r.map bc)).flatMap (fun x=>[tx x,je]))= .tok (2,x.2):: .sep::dz ((dW (r.map bc)).flatMap (fun x=>[tx x,je])):=by
    rw [abA,gH];show (gu (tx x.2)++(gu je++[]))++ _= _;have:gu (tx x.2)=[.tok (2,x.2)]:=by
     show gu (.mk 1 x.2 0 [])= _;rw [gu,if_pos rfl,rA d]
    rw [this];rfl
   have g:jw ((x::r).map bc)=(2,x.2)::jw (r.map bc):=by
    rw [aal,jw];simp [bc,leaf,vi,jw,f]
   dsimp only;rw [e,p,g];refine ⟨.tok d trivial (.sep i),by simp only [cI,j], ?_,.inr ⟨_,_,rfl,Nn d⟩,fun t c=> ?_⟩
   .rw [abA,jR,k];rfl
   .rw [List.getLast?_cons_cons] at c;cases hL:dz ((dW (r.map bc)).flatMap (fun x=>[tx x,je])) with
    | nil=>rw [hL] at c;cases c
    | cons a b=>rw [hL,List.getLast?_cons_cons, <- hL] at c;exact l t c
  .have h1:x.1=1:=by
    simp only [bl,aaP,aaM] at c;omega
   have e:(dW ((x::r).map bc))=dW (r.map bc):=by
    unfold dW;rw [aal,abu];simp [bc,leaf,jq,f]
   have g:jw ((x::r).map bc)=jw (r.map bc):=by
    rw [aal,jw];simp [bc,leaf,vi,jw,h1]
   dsimp only;rw [e,g];exact ⟨i,j,k,n,l⟩
theorem EC {k:Nat} {s:B} {ks:List T} (a:Q1 (k,s)) (h1:k≠1) (h0:k≠0) (g:Tv Q1 ks) (i: ∃c r,s=c::r/\c≠42):W9 (.mk 1 k s ks)/\(gu (ay (.mk 1 k s ks))).getLast?=some (.tok (k,s))/\(∀c r,s=c::r->fR c=true->Vl (gu (ay (.mk 1 k s ks)))):=by
 obtain ⟨r,rfl,j⟩:=g;obtain ⟨l,m,n,f,o⟩:=DO j;have b:=a h1;have e:gu (ay (.mk 1 k s (r.map bc)))=dz ((dW (r.map bc)).flatMap (fun x=>[tx x,je]))++[.tok (k,s)]:=by
  rw [ay,if_pos rfl];show dz (_++[tx s])= _;rw [gH];show _++(gu (tx s)++[])= _;have:gu (tx s)=[.tok (k,s)]:=by
   show gu (.mk 1 s 0 [])= _;rw [gu,if_pos rfl,rA b]
  rw [this];rfl
 have p:vi (.mk 1 k s (r.map bc))=jw (r.map bc)++[(k,s)]:=by
  rw [vi,if_pos ⟨rfl,h1,h0⟩]
 refine ⟨⟨?_, ?_, ?_, ?_⟩, ?_,fun c q hs v=> ?_⟩
 .rw [e];exact dL l (.tok b trivial .nil) fun t w=>absurd w (o t)
 .rw [e];rcases f with h | ⟨u,d,h,q,a⟩
  .rw [h];exact ⟨(k,s),[],rfl,i⟩
  .rw [h];exact ⟨u,d++[.tok (k,s)],rfl,40,q,a,by decide⟩
 .rw [e,p,cG,m];rfl
 .rw [ay,if_pos rfl];show qf (.mk 7 [] 0 ((dW (r.map bc)).flatMap (fun x=>[tx x,je])++[tx s]))=true;rw [qf,jR,n];rfl
 .rw [e,List.getLast?_concat]
 .rw [e];rcases f with h | ⟨u,d,h,y,a⟩
  .rw [h];exact ⟨(k,s),[],rfl,c,q,hs,v⟩
  .rw [h];exact ⟨u,d++[.tok (k,s)],rfl,40,y,a,rfl⟩
theorem Kh {s:B} {t:T} (h:Lf Q1 s t) (hs: ∃c r,s=c::r/\c≠42):W9 t/\(∃k,(k=3\/k=8)/\yI (k,s)/\(gu (ay t)).getLast?=some (.tok (k,s)))/\(∀c r,s=c::r->fR c=true->Vl (gu (ay t)))/\([km,oB].contains s=false->kQ [km,oB] t=false):=by
 obtain ⟨k,ks,rfl,b,a,d⟩:=h;obtain ⟨h1,e,f⟩:=EC a (by omega) (by omega) d hs;refine ⟨h1,⟨k,b,a (by show k≠1;omega),e⟩,f,fun g=> ?_⟩;simp only [kQ,g,acf]
theorem JT {k:Nat} {s:B} {ks:List T} (h:W9 (.mk 1 k s ks)) (a:k≠8\/[km,oB].contains s=false):Ok (.mk 1 k s ks):=
 ⟨h.chain,h.st,h.fE,h.fm,by
  simp only [kQ];rcases a with a | a
  .have:(k==8)=false:=aai.2 a;rw [this];simp
  .rw [a];simp⟩
theorem N0 {k:Nat} {c:UInt8} (a:cut [c]=(8,1)) (h:yI (k,[c])):k=8:=by
 have:=h.cut;dsimp only at this;rw [a] at this;injection this with h1 _
 exact h1.symm
structure Ow (l:List T):Prop where
 chain:gI (dz (lW l (l.map ay)))
 st:dz (lW l (l.map ay))=[]\/St (dz (lW l (l.map ay)))
 fE:cI (dz (lW l (l.map ay)))=jw l
 fm:jd (lW l (l.map ay))=true
structure Lx (l:List T):Prop where
 chain:gI (dz (lW l (l.map ay)))
 st:dz (lW l (l.map ay))=[]\/Vl (dz (lW l (l.map ay)))
 fE:cI (dz (lW l (l.map ay)))=jw l
 fm:jd (lW l (l.map ay))=true
theorem Nb:Lx []:=⟨.nil,.inl rfl,rfl,rfl⟩
theorem Kf:Ow []:=⟨.nil,.inl rfl,rfl,rfl⟩
theorem Wo {l:List It} (h:l=[]\/Vl l) (t:aW):By t l:=by
 rcases h with rfl | h
 .exact trivial
 .exact Ix h t
theorem Gx {a:T} {l:List T} (h:kQ [km,oB] a=false):lW (a::l) ((a::l).map ay)=ay a::lW l (l.map ay):=by
 rw [aal,lW,h];rfl
theorem zG {a:T} {l:List T} (b:Ok a) (hl:Lx l):Ow (a::l):=by
 have e:dz (lW (a::l) ((a::l).map ay))=gu (ay a)++dz (lW l (l.map ay)):=by rw [Gx b.comma];rfl
 refine ⟨?_, ?_, ?_, ?_⟩
 .rw [e];exact dL b.chain hl.chain fun t _=>Wo hl.st t
 .rw [e];exact .inr (qM b.st)
 .rw [e,cG,b.fE,hl.fE];rfl
 .rw [Gx b.comma,jd,b.fm,hl.fm];rfl
theorem J9 {list:Bool} {c x:T} {l:List T} (f:Lf Q1 (qg list) c) (hx:Ok x) (hl:Lx l):Lx (c::x::l):=by
 have r: ∃d,qg list=[d]/\d≠42/\fR d=true/\cut [d]=(8,1)/\[km,oB].contains [d]=true:=by
  cases list with
  | false=>exact ⟨44,rfl,by decide,rfl,rfl,rfl⟩
  | true=>exact ⟨59,rfl,by decide,rfl,rfl,rfl⟩
 obtain ⟨d,hd,g,h,a,b⟩:=r;rw [hd] at f;obtain ⟨h1,⟨k,v,i,j⟩,s,_⟩:=Kh f ⟨d,[],rfl,g⟩;have m:=N0 a i;subst m;have n:kQ [km,oB] c=true:=by
  obtain ⟨q,ks,rfl,u,o,_⟩:=f;have:q=8:=N0 a (o (by show q≠1;omega));subst this;simp only [kQ,b];rfl
 have e:lW (c::x::l) ((c::x::l).map ay)=ay c::je::lW (x::l) ((x::l).map ay):=by
  rw [aal,lW,n];rfl
 have hm:=zG hx hl;have p:dz (lW (c::x::l) ((c::x::l).map ay))=gu (ay c)++ .sep::dz (lW (x::l) ((x::l).map ay)):=by rw [e];rfl
 refine ⟨?_, ?_, ?_, ?_⟩
 .rw [p];exact dL h1.chain (.sep hm.chain) fun t _=>trivial
 .rw [p];exact .inr (PB (s d [] rfl h))
 .rw [p,cG,h1.fE,cI,hm.fE];rfl
 .rw [e,jd,jd,h1.fm,hm.fm];rfl
theorem rS {k:Nat} (O:k=14\/k=15\/k=17\/k=18) {l1 l2:Bool} {o c:T} {mid:List T} (ho:Lf Q1 (xc l1) o) (F:Lf Q1 (ik l2) c) (hm:Ow mid):Ok (node k (o::mid++[c])):=by
 have m: ∃d,xc l1=[d]/\d≠42/\cut [d]=(8,1)/\(d=40\/d=91):=by
  cases l1 with
  | false=>exact ⟨40,rfl,by decide,rfl,.inl rfl⟩
  | true=>exact ⟨91,rfl,by decide,rfl,.inr rfl⟩
 obtain ⟨d,hd,g,n,p⟩:=m;rw [hd] at ho;obtain ⟨l,⟨P,I,s,b⟩,_,_⟩:=Kh ho ⟨d,[],rfl,g⟩;have v:=N0 n s;subst v;have w: ∃e,ik l2=[e]/\e≠42/\fR e=true:=by
  cases l2 with
  | false=>exact ⟨41,rfl,by decide,rfl⟩
  | true=>exact ⟨93,rfl,by decide,rfl⟩
 obtain ⟨e,J,i,x⟩:=w;rw [J] at F;obtain ⟨y,⟨kc,_,_,z⟩,K,_⟩:=Kh F ⟨e,[],rfl,i⟩;have j:=K e [] rfl x;have a:ay (node k (o::mid++[c]))=sV [ay o,BN 1 (lW mid (mid.map ay)),ay c]:=by
  have A:k≠1:=by omega
  rw [node,ay,if_neg A,pG,dE];rw [if_neg (by omega),if_neg (by omega),if_neg (by omega),if_neg (by omega),if_neg (by omega),if_neg (by omega),if_neg (by omega),if_neg (by omega)];have hl:(o::mid++[c]).length - 2=mid.length:=by simp
  have B:((o::mid++[c]).map ay).length=mid.length+2:=by simp
  rw [hl,B];have G:((o::mid++[c]).drop 1).take mid.length=mid:=by
   rw [aap,aaE,aar,abP]
  have L:(((o::mid++[c]).map ay).drop 1).take (mid.length+2 - 2)=mid.map ay:=by
   rw [<- List.map_drop, <- List.map_take,show mid.length+2 - 2=mid.length by omega,G]
  have M:((o::mid++[c]).map ay).getD (mid.length+2 - 1) cw=ay c:=by
   rw [aaz,abc];have:(o::mid++[c])[mid.length+2 - 1]? =some c:=by
    rw [show mid.length+2 - 1=mid.length+1 by omega,aap,abX,abg (aah _),abZ];rfl
   rw [this];rfl
  rw [G,L,M];rfl
 have f:gu (ay (node k (o::mid++[c])))=gu (ay o)++(dz (lW mid (mid.map ay))++gu (ay c)):=by
  rw [a];show gu (ay o)++(gu (BN 1 (lW mid (mid.map ay)))++(gu (ay c)++[]))= _;rw [aaw];rfl
 have C:gI (dz (lW mid (mid.map ay))++gu (ay c)):=dL hm.chain y.chain fun t _=>Ix j t;have D: ∀t,t=((8,[d]):aW)->By t (dz (lW mid (mid.map ay))++gu (ay c)):=by
  rintro t rfl;rcases hm.st with h | ⟨u,Q,h,q,r,N,E⟩
  .rw [h];exact Ix j _
  .rw [h];refine .inr ⟨?_,q,r,N,E⟩;rcases p with rfl | rfl
   .exact .inl rfl
   .exact .inr rfl
 refine ⟨?_, ?_, ?_, ?_, ?_⟩
 .rw [f];refine dL l.chain C fun t H=>D t ?_;rw [b] at H;cases H;rfl
 .rw [f];exact qM l.st
 .rw [f,cG,cG,l.fE,hm.fE,y.fE];rw [node,vi,if_neg (by omega),aaw,aap,jw,uj,jw,jw,aaw]
 .rw [a];show qf (.mk 6 [] 0 [ay o,.mk 5 [] 1 (lW mid (mid.map ay)),ay c])=true;simp only [qf,jd,l.fm,hm.fm,y.fm];rfl
 .rw [node,kQ];have:(k==1)=false:=aai.2 (by omega);rw [this];rfl
theorem Qs {k:Nat} (h:k≠1) (a:List B) (l:List T):kQ a (node k l)=false:=by
 rw [node,kQ];have:(k==1)=false:=aai.2 h;rw [this];rfl
theorem FT {ahead:List Lay.Doc} (b: ∀a∈ahead,gu a=[.sep]/\qf a=true): ∀(ts:List T) (i:Nat),(∀t∈ts,gI (gu (ay t))/\cI (gu (ay t))=vi t/\qf (ay t)=true)->
  gI (dz (bW ahead i (ts.map ay)))/\cI (dz (bW ahead i (ts.map ay)))=jw ts/\jd (bW ahead i (ts.map ay))=true/\(i≠0->Sp (dz (bW ahead i (ts.map ay))))
 | [],i,_=>⟨.nil,rfl,rfl,fun _=> .inl rfl⟩
 | t::ts,i,h=>by
  obtain ⟨h1,d,e⟩:=h t (by simp);obtain ⟨l,f,g,m⟩:=FT b ts (i+1) fun x hx=>h x (aak _ hx);have c: ∀j,gu (ahead.getD j cw)=[.sep]/\qf (ahead.getD j cw)=true:=fun j=>by
   rw [aaz];cases n:ahead[j]? with
   | none=>exact ⟨rfl,rfl⟩
   | some a=>exact b a (aaJ n)
  have k:=dL h1 l fun u _=>Oo (m (by omega)) u;rw [aal,bW];by_cases hi:i=0
  .rw [if_pos hi,aaj,dz,jd];exact ⟨k,by rw [cG,d,f];rfl,by rw [e,g];rfl,fun h=>absurd hi h⟩
  .rw [if_neg hi];obtain ⟨o,p⟩:=c (min (i - 1) (ahead.length - 1));rw [aap,aaj,dz,dz,o,jd,jd,p];refine ⟨.sep k, ?_,by rw [e,g];rfl,fun _=> .inr ⟨_,rfl⟩⟩;show cI (.sep::(gu (ay t)++dz (bW ahead (i+1) (ts.map ay))))= _;rw [cI,cG,d,f];rfl
theorem uc {ahead:List Lay.Doc} {t:T} {ts:List T} (h:St (gu (ay t))):St (dz (bW ahead 0 ((t::ts).map ay))):=by
 rw [aal,bW,if_pos rfl,aaj,dz];exact qM h
structure E3 (t:T):Prop where
 chain:gI (gu (ay t))
 fE:cI (gu (ay t))=vi t
 fm:qf (ay t)=true
theorem Ok.cw {t:T} (h:Ok t):E3 t:=⟨h.chain,h.fE,h.fm⟩
theorem W9.cw {t:T} (h:W9 t):E3 t:=⟨h.chain,h.fE,h.fm⟩
theorem wI:gu cw=[.sep]/\qf cw=true:=⟨rfl,rfl⟩
theorem rn:gu je=[.sep]/\qf je=true:=⟨rfl,rfl⟩
theorem ue {k:Nat} (h:k≠1) (l:List T):vi (node k l)=jw l:=by
 rw [node,vi,if_neg (fun e=>h e.1),aaw]
theorem ou: ∀a∈[cw],gu a=[.sep]/\qf a=true:=fun a h=>by rw [aaG.1 h];exact wI
theorem gJ (l:List T) (i:Nat) (t:T) (h:l[i]? =some t):(l.map ay).getD i cw=ay t:=by
 rw [aaz,abc,h];rfl
theorem rW {ahead:List Lay.Doc} (b: ∀a∈ahead,gu a=[.sep]/\qf a=true) {ts:List T} (i:Nat) (h: ∀t∈ts,E3 t):
  gI (dz (bW ahead i (ts.map ay)))/\cI (dz (bW ahead i (ts.map ay)))=jw ts/\jd (bW ahead i (ts.map ay))=true/\(i≠0->Sp (dz (bW ahead i (ts.map ay)))):=
 FT b ts i fun t c=>⟨(h t c).chain,(h t c).fE,(h t c).fm⟩
theorem Hf (L:List T) (x:T):lX ((L++[x]).map ay)=bW [cw] 0 (L.map ay)++[BN 2 [je,ay x]]:=by
 unfold lX;have hl:((L++[x]).map ay).length - 1=L.length:=by simp
 rw [hl, <- List.map_take,abP];rw [gJ (L++[x]) L.length x (by rw [abg (aah _),abZ];rfl)]
structure Bk (D:List Lay.Doc) (ts:List T):Prop where
 chain:gI (dz D)
 st:St (dz D)
 fE:cI (dz D)=jw ts
 fm:jd D=true
theorem Es {a:T} {L:List T} {x:T} (b:St (gu (ay a))) (h: ∀t∈a::L,E3 t) (hx:E3 x):Bk (lX ((a::L++[x]).map ay)) (a::L++[x]):=by
 obtain ⟨h1,c,d,_⟩:=rW ou 0 h;have e:dz (lX ((a::L++[x]).map ay))=dz (bW [cw] 0 ((a::L).map ay))++ .sep::gu (ay x):=by
  rw [Hf,gH];congr 1;show gu (BN 2 [je,ay x])++[]= _;rw [aaw];show gu je++(gu (ay x)++[])= _;rw [aaw];rfl
 refine ⟨?_, ?_, ?_, ?_⟩
 .rw [e];exact dL h1 (.sep hx.chain) fun t _=>trivial
 .rw [e];exact qM (uc b)
 .rw [e,cG,c,cI,hx.fE,uj];simp only [jw,aaw]
 .rw [Hf,jR,d];show (true&&(qf (.mk 5 [] 2 [je,ay x])&&true))=true;simp only [qf,jd,hx.fm,rn.2];rfl
theorem Jp {k:Nat} (a:k≠1) {l:List T} (b:gI (gu (ay (node k l)))) (hs:St (gu (ay (node k l)))) (c:cI (gu (ay (node k l)))=jw l) (hf:qf (ay (node k l))=true):Ok (node k l):=
 ⟨b,hs,by rw [c,ue a],hf,Qs a _ _⟩
theorem UB (D:List Lay.Doc):gu (row D)=dz D:=rfl
theorem Us (D:List Lay.Doc):qf (sV D)=jd D:=by
 show qf (.mk 6 [] 0 D)= _;rw [qf];rfl
theorem UP (D:List Lay.Doc):qf (row D)=jd D:=by
 show qf (.mk 7 [] 0 D)= _;rw [qf];rfl
theorem tB {k:Nat} (c:k≠1) {l:List T} {D:List Lay.Doc} (a:ay (node k l)=sV D\/ay (node k l)=row D) (b:Bk D l):Ok (node k l):=by
 rcases a with a | a
 .exact Jp c (by rw [a];exact b.chain) (by rw [a];exact b.st) (by rw [a];exact b.fE) (by rw [a,Us];exact b.fm)
 .exact Jp c (by rw [a];exact b.chain) (by rw [a];exact b.st) (by rw [a];exact b.fE) (by rw [a,UP];exact b.fm)
theorem fD {k:Nat} (a:k≠1) (l:List T):ay (node k l)=dE k l (l.map ay):=by rw [node,ay,if_neg a,pG]
theorem Jw: ∀(p:T) (ts:List T),(∀t∈ts,E3 t)->gI (dz (fL p ts (ts.map ay)))/\cI (dz (fL p ts (ts.map ay)))=jw ts/\jd (fL p ts (ts.map ay))=true/\Sp (dz (fL p ts (ts.map ay)))
 | _,[],_=>⟨.nil,rfl,rfl,.inl rfl⟩
 | p,t::ts,h=>by
  obtain ⟨b,c,d,e⟩:=Jw t ts fun x hx=>h x (aak _ hx);have a:=h t (by simp);have hs:gu (if kQ [fZ] p=true then cw else je)=[.sep]/\qf (if kQ [fZ] p=true then cw else je)=true:=by
   split
   .exact wI
   .exact rn
  rw [aal,fL,dz,dz,hs.1,jd,jd,hs.2,a.fm,d];refine ⟨gI.sep (l:=gu (ay t)++dz (fL t ts (ts.map ay))) (dL a.chain b fun u _=>Oo e u), ?_,rfl,.inr ⟨_,rfl⟩⟩;show cI (.sep::(gu (ay t)++dz (fL t ts (ts.map ay))))= _;rw [cI,cG,a.fE,c];rfl
theorem vr {x:T} {k tk:Nat} {s:B} {l:List T} (h:x∈l):SizeOf.sizeOf x < SizeOf.sizeOf (T.mk k tk s l):=by
 have:=List.sizeOf_lt_of_mem h;simp only [T.mk.sizeOf_spec];omega
theorem VB {s:B} (hs: ∃c r,s=c::r/\c≠42) {t:T} (h:Lf Q1 s t):E3 t/\St (gu (ay t)):=by
 obtain ⟨h1,_⟩:=Kh h hs;exact ⟨h1.cw,h1.st⟩
theorem lR {s:B} {t:T} (h:Lf Q1 s t):E3 t:=by
 obtain ⟨k,ks,rfl,l,b,r,rfl,c⟩:=h;obtain ⟨d,f,g,m,i⟩:=DO c;have a:=b (by show k≠1;omega);have e:gu (ay (.mk 1 k s (r.map bc)))=dz ((dW (r.map bc)).flatMap (fun x=>[tx x,je]))++[.tok (k,s)]:=by
  rw [ay,if_pos rfl];show dz (_++[tx s])= _;rw [gH];show _++(gu (tx s)++[])= _;have:gu (tx s)=[.tok (k,s)]:=by
   show gu (.mk 1 s 0 [])= _;rw [gu,if_pos rfl,rA a]
  rw [this];rfl
 refine ⟨?_, ?_, ?_⟩
 .rw [e];exact dL d (.tok a trivial .nil) fun t j=>absurd j (i t)
 .rw [e,cG,f,vi,if_pos ⟨rfl,by omega,by omega⟩];rfl
 .rw [ay,if_pos rfl];show qf (.mk 7 [] 0 ((dW (r.map bc)).flatMap (fun x=>[tx x,je])++[tx s]))=true;rw [qf,jR,g];rfl
theorem DG {k:Nat} (c:k≠1) {ahead:List Lay.Doc} (b: ∀a∈ahead,gu a=[.sep]/\qf a=true) {a:T} {ts:List T} (d:St (gu (ay a))) (h: ∀t∈a::ts,E3 t) (e:ay (node k (a::ts))=sV (bW ahead 0 ((a::ts).map ay))\/ay (node k (a::ts))=row (bW ahead 0 ((a::ts).map ay))):Ok (node k (a::ts)):=by
 obtain ⟨h1,f,g,_⟩:=rW b 0 h;exact tB c e ⟨h1,uc d,f,g⟩
theorem RR {a:T} {bs:List T} (h:Lf Q1 lI a) (i:BT Q1 bs) (g: ∀x∈bs,PT Q1 x->Ok x) (hE: ∀x∈bs,ET Q1 x->Ok x): ∃L x,a::bs=a::L++[x]/\(∀t∈a::L,E3 t)/\E3 x/\St (gu (ay a)):=by
 obtain ⟨c,has⟩:=VB ⟨108,[101,116],rfl,by decide⟩ h;cases i with
 | mk d j f k l=>
  rename_i rc ps p q e;refine ⟨rc++(p::ps)++[q],e,by simp,fun t b=> ?_,(hE e (by simp) l).cw,has⟩;simp only [aam,aaA,aaG,aaD,or_false] at b;rcases b with rfl | (b | rfl | b) | rfl
  .exact c
  .rcases d with rfl | ⟨r,d,rfl⟩
   .cases b
   .rw [aaG.1 b];exact lR d
  .exact (g t (by simp) j).cw
  .exact (g t (by simp [b]) (f t b)).cw
  .exact lR k
theorem _root_.List.pS {α:Type} {P:List α->Prop} (nil:P []) (one: ∀a,P [a]) (two: ∀a b l,P l->P (a::b::l)): ∀l,P l
 | []=>nil
 | [a]=>one a
 | a::b::l=>two a b l (List.pS nil one two l)
theorem DY: ∀n,(∀t,SizeOf.sizeOf t < n->ET Q1 t->Ok t)/\(∀t,SizeOf.sizeOf t < n->PT Q1 t->Ok t)/\(∀t,SizeOf.sizeOf t < n->AT Q1 t->E3 t):=by
 intro n
 induction n with
 | zero=>exact ⟨fun _ h=>by omega,fun _ h=>by omega,fun _ h=>by omega⟩
 | succ n ih=>
  obtain ⟨j,A,R⟩:=ih;have Z: ∀(l:List T) (list:Bool),Un Q1 list l->(∀x∈l,SizeOf.sizeOf x < n)->Lx l:=by
   intro l
   induction l using List.pS with
   | nil=>intro list _ _;exact Nb
   | one a=>intro list h _;cases h
   | two a b l D=>
    intro list h hs;cases h with
    | cons C hx hl=>exact J9 C (j b (hs b (by simp)) hx) (D list hl fun x hx=>hs x (by simp [hx]))
  have av: ∀(l:List T) (list:Bool),SI Q1 list l->(∀x∈l,SizeOf.sizeOf x < n)->Lx l:=by
   intro l
   induction l using List.pS with
   | nil=>intro list _ _;exact Nb
   | one a=>intro list h _;cases h
   | two a b l D=>
    intro list h hs;cases h with
    | cons C hx hl=>exact J9 C (A b (hs b (by simp)) hx) (D list hl fun x hx=>hs x (by simp [hx]))
  have a6: ∀(l:List T),Vs Q1 l->(∀x∈l,SizeOf.sizeOf x < n)-> ∀x∈l,E3 x:=by
   intro l
   induction l using List.pS with
   | nil=>intro _ _ x hx;cases hx
   | one a=>intro h _;cases h
   | two a b l D=>
    intro h hs x hx;cases h with
    | cons C v hl=>
     rcases aam.1 hx with rfl | hx
     .exact lR C
     .rcases aam.1 hx with rfl | hx
      .exact R x (hs x (by simp)) v
      .exact D hl (fun y hy=>hs y (by simp [hy])) x hx
  refine ⟨fun t I h=> ?_,fun t I h=> ?_,fun t I h=> ?_⟩
  .have q: ∀{k tk:Nat} {s:B} {l:List T},t=T.mk k tk s l-> ∀x∈l,SizeOf.sizeOf x < n:=fun {k tk s l} e x hx=>by
    subst e;have:=vr (k:=k) (tk:=tk) (s:=s) hx;omega
   cases h with
   | leaf S d hv=>
    rename_i k s ks;have U:k=8->s=gM\/s=eD:=fun h=>by
     rcases d with G | G | G | G | ⟨_,G⟩
     .omega
     .omega
     .omega
     .omega
     .exact G
    have J:=S (by show k≠1;omega);have hh: ∃c r,s=c::r/\c≠42:=by
     by_cases h:k=8
     .rcases U h with rfl | rfl
      .exact ⟨116,[114,117,101],rfl,by decide⟩
      .exact ⟨102,[97,108,115,101],rfl,by decide⟩
     .exact Cg J h
    refine JT (EC S (by omega) (by omega) hv hh).1 ?_;by_cases h:k=8
    .right;rcases U h with rfl | rfl <;> decide
    .exact .inl h
   | letin v E hi K=>
    rename_i a i e bs;have d:=q rfl;obtain ⟨L,x,hL,h1,h2,h3⟩:=RR v E (fun x hx M=>A x (d x (by simp [hx])) M) (fun x hx M=>j x (d x (by simp [hx])) M);have a7:bs=L++[x]:=by injection hL
    subst a7;have N:=(j e (d e (by simp)) K).cw;have F:=lR hi;have H:=Es h3 h1 h2;have g:ay (node 6 (a::(L++[x])++[i]++[e]))=sV (lX ((a::L++[x]).map ay)++[je,ay i,je,ay e]):=by
     rw [fD (by decide),dE,if_neg (by decide),if_pos rfl];have hl:((a::(L++[x])++[i]++[e]).map ay).length=(a::L++[x]).length+2:=by simp
     rw [hl,show (a::L++[x]).length+2 - 2=(a::L++[x]).length by omega,show (a::L++[x]).length+2 - 1=(a::L++[x]).length+1 by omega, <- List.map_take];have e0:a::(L++[x])++[i]++[e]=(a::L++[x])++[i,e]:=by simp
     rw [e0,abP,gJ _ _ i (by rw [abg (aah _),abZ];rfl),gJ _ _ e (by rw [abg (by omega),Nat.add_sub_cancel_left];rfl)]
    refine tB (by decide) (.inl g) ⟨?_, ?_, ?_, ?_⟩
    .rw [gH];refine dL H.chain (.sep ?_) fun t _=>trivial;show gI (gu (ay i)++(.sep::(gu (ay e)++[])));rw [aaw];exact dL F.chain (.sep N.chain) fun t _=>trivial
    .rw [gH];exact qM H.st
    .rw [gH,cG,H.fE];show _++cI (.sep::(gu (ay i)++(.sep::(gu (ay e)++[]))))= _;rw [aaw,cI,cG,F.fE,cI,N.fE];have e0:a::(L++[x])++[i]++[e]=(a::L++[x])++[i,e]:=by simp
     rw [e0,uj (a::L++[x])];simp only [jw,aaw]
    .rw [jR,H.fm];simp only [jd,rn.2,F.fm,N.fm];rfl
   | lambda hf M a8 v K=>
    rename_i f p a e ps;have d:=q rfl;obtain ⟨bb,bt⟩:=VB ⟨102,[117,110],rfl,by decide⟩ hf;have g:ay (node 7 (f::p::ps++[a]++[e]))=sV (lX ((f::(p::ps++[a])++[e]).map ay)):=by
     rw [fD (by decide),dE,if_pos (.inr rfl)];rfl
    refine tB (l:=f::p::ps++[a]++[e]) (by decide) (.inl g) (Es bt (fun t I=> ?_) (j e (d e (by simp)) K).cw);simp only [aam,aap,aaA,aaG,aaD,or_false] at I;rcases I with rfl | rfl | I | rfl
    .exact bb
    .exact (A t (d t (by simp)) M).cw
    .exact (A t (d t (by simp [I])) (a8 t I)).cw
    .exact lR v
   | ife hi v b5 E hl C=>
    rename_i i a t b l c;have d:=q rfl;obtain ⟨F,b6⟩:=VB ⟨105,[102],rfl,by decide⟩ hi;refine DG (by decide) (ahead:=[cw,je,cw,je,cw]) (fun x hx=> ?_) b6 (fun x hx=> ?_) (.inl (by rw [fD (by decide),dE,if_neg (by decide),if_neg (by decide),if_pos rfl]))
    .simp only [aam,aaD,or_false] at hx;rcases hx with rfl | rfl | rfl | rfl | rfl
     .exact wI
     .exact rn
     .exact wI
     .exact rn
     .exact wI
    .simp only [aam,aaD,or_false] at hx;rcases hx with rfl | rfl | rfl | rfl | rfl | rfl
     .exact F
     .exact (j x (d x (by simp)) v).cw
     .exact lR b5
     .exact (j x (d x (by simp)) E).cw
     .exact lR hl
     .exact (j x (d x (by simp)) C).cw
   | mtch hm K hw V v has=>
    rename_i m e w a bar as;have d:=q rfl;obtain ⟨b7,b8⟩:=VB ⟨109,[97,116,99,104],rfl,by decide⟩ hm;have b9:=R a (d a (by simp)) v;have W:=a6 as has fun x hx=>d x (by simp [hx]);have h3: ∀t∈[m,e,w],E3 t:=fun x hx=>by
     simp only [aam,aaD,or_false] at hx;rcases hx with rfl | rfl | rfl
     .exact b7
     .exact (j x (d x (by simp)) K).cw
     .exact lR hw
    have O: ∀t∈bar++a::as,E3 t:=fun x hx=>by
     rcases aaA.1 hx with hx | hx
     .rcases V with rfl | ⟨b,E,rfl⟩
      .cases hx
      .rw [aaG.1 hx];exact lR E
     .rcases aam.1 hx with rfl | hx
      .exact b9
      .exact W x hx
    obtain ⟨a1,a2,a3,_⟩:=rW ou 0 h3;obtain ⟨b1,b2,b3,b4⟩:=Jw w (bar++a::as) O;have g:ay (node 9 (m::e::w::bar++a::as))=sV (bW [cw] 0 ([m,e,w].map ay)++fL w (bar++a::as) ((bar++a::as).map ay)):=by
     rw [fD (by decide),dE,if_neg (by decide),if_neg (by decide),if_neg (by decide),if_pos rfl];rfl
    refine tB (by decide) (.inl g) ⟨?_, ?_, ?_, ?_⟩
    .rw [gH];exact dL a1 b1 fun u _=>Oo b4 u
    .rw [gH];exact qM (uc b8)
    .rw [gH,cG,a2,b2, <- uj];rfl
    .rw [jR,a3,b3];rfl
   | bin v ho E=>
    rename_i a op b s;have d:=q rfl;have z:=j a (d a (by simp)) v;refine DG (by decide) (ahead:=[je,cw]) (fun x hx=> ?_) z.st (fun x hx=> ?_) (.inl (by rw [fD (by decide),dE,if_neg (by decide),if_neg (by decide),if_neg (by decide),if_neg (by decide),if_neg (by decide),if_pos rfl]))
    .simp only [aam,aaD,or_false] at hx;rcases hx with rfl | rfl
     .exact rn
     .exact wI
    .simp only [aam,aaD,or_false] at hx;rcases hx with rfl | rfl | rfl
     .exact z.cw
     .exact lR ho
     .exact (j x (d x (by simp)) E).cw
   | un ho v=>
    rename_i op a;have d:=q rfl;have X:E3 op/\St (gu (ay op)):=by
     rcases ho with ho | ho
     .exact VB ⟨45,[],rfl,by decide⟩ ho
     .exact VB ⟨45,[46],rfl,by decide⟩ ho
    refine DG (by decide) ou X.2 (fun x hx=> ?_) (.inr (by rw [fD (by decide),dE,if_neg (by decide),if_neg (by decide),if_neg (by decide),if_neg (by decide),if_neg (by decide),if_neg (by decide),if_pos (.inl rfl)]));simp only [aam,aaD,or_false] at hx;rcases hx with rfl | rfl
    .exact X.1
    .exact (j x (d x (by simp)) v).cw
   | app v E=>
    rename_i a b;have d:=q rfl;have z:=j a (d a (by simp)) v;have P:=(j b (d b (by simp)) E).cw;have g:ay (node 13 [a,b])=sV [ay a,BN 2 [je,ay b]]:=by
     rw [fD (by decide),dE,if_neg (by decide),if_neg (by decide),if_neg (by decide),if_neg (by decide),if_neg (by decide),if_neg (by decide),if_neg (by decide),if_pos rfl];rfl
    have e:dz [ay a,BN 2 [je,ay b]]=gu (ay a)++ .sep::gu (ay b):=by
     show gu (ay a)++((gu je++(gu (ay b)++[]))++[])= _;simp only [aaw];rfl
    refine tB (by decide) (.inl g) ⟨?_, ?_, ?_, ?_⟩
    .rw [e];exact dL z.chain (.sep P.chain) fun t _=>trivial
    .rw [e];exact qM z.st
    .rw [e,cG,z.fE,cI,P.fE];simp only [jw,aaw]
    .show (qf (ay a)&&(qf (.mk 5 [] 2 [je,ay b])&&true))=true;simp only [qf,jd,z.fm,P.fm,rn.2];rfl
   | none ho C=>
    rename_i list o c;have:=rS (k:=kindOf list false) (mid:=[]) (by cases list <;> simp [kindOf]) ho C Kf;exact this
   | some ho v hl C=>
    rename_i list o c a l;have d:=q rfl;exact rS (k:=kindOf list false) (mid:=a::l) (by cases list <;> simp [kindOf]) ho C (zG (j a (d a (by simp)) v) (Z l list hl fun x hx=>d x (by simp [hx])))
  .have q: ∀{k tk:Nat} {s:B} {l:List T},t=T.mk k tk s l-> ∀x∈l,SizeOf.sizeOf x < n:=fun {k tk s l} e x hx=>by
    subst e;have:=vr (k:=k) (tk:=tk) (s:=s) hx;omega
   cases h with
   | leaf S d hv=>
    rename_i k s ks;have U:k=8->s=gM\/s=eD\/s=nS:=fun h=>by
     rcases d with G | G | G | ⟨_,G⟩
     .omega
     .omega
     .omega
     .exact G
    have J:=S (by show k≠1;omega);have hh: ∃c r,s=c::r/\c≠42:=by
     by_cases h:k=8
     .rcases U h with rfl | rfl | rfl
      .exact ⟨116,[114,117,101],rfl,by decide⟩
      .exact ⟨102,[97,108,115,101],rfl,by decide⟩
      .exact ⟨95,[],rfl,by decide⟩
     .exact Cg J h
    refine JT (EC S (by omega) (by omega) hv hh).1 ?_;by_cases h:k=8
    .right;rcases U h with rfl | rfl | rfl <;> decide
    .exact .inl h
   | cons v ho E=>
    rename_i a op b;have d:=q rfl;have z:=A a (d a (by simp)) v;refine DG (by decide) ou z.st (fun x hx=> ?_) (.inr (by rw [fD (by decide),dE,if_neg (by decide),if_neg (by decide),if_neg (by decide),if_neg (by decide),if_neg (by decide),if_neg (by decide),if_pos (.inr rfl)]));simp only [aam,aaD,or_false] at hx;rcases hx with rfl | rfl | rfl
    .exact z.cw
    .exact lR ho
    .exact (A x (d x (by simp)) E).cw
   | none ho C=>
    rename_i list o c;exact rS (k:=kindOf list true) (mid:=[]) (by cases list <;> simp [kindOf]) ho C Kf
   | some ho v hl C=>
    rename_i list o c a l;have d:=q rfl;exact rS (k:=kindOf list true) (mid:=a::l) (by cases list <;> simp [kindOf]) ho C (zG (A a (d a (by simp)) v) (av l list hl fun x hx=>d x (by simp [hx])))
  .have q: ∀{k tk:Nat} {s:B} {l:List T},t=T.mk k tk s l-> ∀x∈l,SizeOf.sizeOf x < n:=fun {k tk s l} e x hx=>by
    subst e;have:=vr (k:=k) (tk:=tk) (s:=s) hx;omega
   cases h with
   | mk M v K=>
    rename_i p a e;have d:=q rfl;have Y:=A p (d p (by simp)) M;have Q:=(j e (d e (by simp)) K).cw;obtain ⟨a1,a2,a3,_⟩:=rW ou 0 (ts:=[p,a]) fun x hx=>by
     simp only [aam,aaD,or_false] at hx;rcases hx with rfl | rfl
     .exact Y.cw
     .exact lR v
    have g:ay (node 10 [p,a,e])=sV (bW [cw] 0 ([p,a].map ay)++[BN 4 [je,ay e]]):=by
     rw [fD (by decide),dE,if_neg (by decide),if_neg (by decide),if_neg (by decide),if_neg (by decide),if_pos rfl];rfl
    have e1:dz (bW [cw] 0 ([p,a].map ay)++[BN 4 [je,ay e]])=dz (bW [cw] 0 ([p,a].map ay))++ .sep::gu (ay e):=by
     rw [gH];congr 1;show (gu je++(gu (ay e)++[]))++[]= _;simp only [aaw];rfl
    refine (tB (by decide) (.inl g) ⟨?_, ?_, ?_, ?_⟩).cw
    .rw [e1];exact dL a1 (.sep Q.chain) fun t _=>trivial
    .rw [e1];exact qM (uc Y.st)
    .rw [e1,cG,a2,cI,Q.fE];simp only [jw,aaw,aao]
    .rw [jR,a3];show (true&&(qf (.mk 5 [] 4 [je,ay e])&&true))=true;simp only [qf,jd,Q.fm,rn.2];rfl
def gB (t:aW):List aW:=if t.1=1\/t.1=0 then [] else [t]
theorem Pv:vu vi jw (fun r=>r.flatMap gB) where
 nil:=rfl
 cons t l:=rfl
 node:=fun {k} a l=>ue a l
 miss s:=by simp [missing,vi,jw]
 take r:=by
  refine vO (F1:=vi) (F:=jw) (g:=gB) rfl (fun t l=>rfl) (fun t b=> ?_) (fun t ks b=> ?_) (fun ks=> ?_) r
  .simp only [bc,leaf,vi,jw,aaj,aca,gB];by_cases h:t.1=1\/t.1=0
   .rw [if_pos h,if_neg (by omega)]
   .rw [if_neg h,if_pos (by omega)]
  .simp only [leaf,vi,aca,gB];congr 1;by_cases h:t.1=1\/t.1=0
   .rw [if_pos h,if_neg (by omega)]
   .rw [if_neg h,if_pos (by omega)]
  .simp [leaf,vi]
theorem Sk: ∀{r:List aW},Pp r->r.flatMap gB=nb r
 | [],_=>rfl
 | t::r,h=>by
  have h0:=h t (by simp);rw [abA,iY,Sk fun u a=>h u (aak _ a),gB];by_cases h1:t.1=1
  .rw [if_pos (.inl h1),if_pos h1];rfl
  .rw [if_neg (by omega),if_neg h1];rfl
theorem Uz (s:B) {l:List T} (h:doc (tokens s)=node 4 l):jw l=nb (tokens s):=by
 have:=Dq Pv rfl (tokens s) (iy s);rw [h,ue (by decide),Sk (iy s)] at this;exact this
theorem Gf: ∀(n:Nat) (s:B),s.length<=n->bH s=true->(∀t∈tokens s,t.1≠9)->qh Q1 (tokens s)
 | _,[],_,_,_=>fun t h=>by cases h
 | 0,c::l,h,_,_=>by simp at h
 | n+1,c::l,h,f,b=>by
  have d:=gd (c:=c) (l:=l);have g:=(uX (s:=c::l) (by simp) f).1;have k:=jF (s:=c::l) (by simp);have a:=C6 (s:=c::l) (by simp) f;have i:=O8 (s:=c::l) (by simp) g;rw [d] at b ⊢;intro t hm;rcases aam.1 hm with rfl | hm
  .intro h1;have hlen:((c::l).take (cut (c::l)).2).length=(cut (c::l)).2:=by rw [aat];omega
   refine ⟨fun e=> ?_, ?_,h1,b _ aad,a.1⟩
   .have:=aaY List.length e;dsimp only at this;rw [hlen] at this;simp at this;omega
   .dsimp only;rw [i,hlen]
  .refine Gf n _ ?_ a.2 (fun u j=>b u (aak _ j)) t hm;rw [aas];simp only [aab] at h ⊢;omega
theorem ML {a:T} {bs:List T} (d:Lf Q1 lI a) (e:BT Q1 bs):E3 (node 5 (a::bs)):=by
 obtain ⟨L,x,hL,h1,f,g⟩:=RR d e (fun x _ b=>(DY _).2.1 x (abt _) b) (fun x _ b=>(DY _).1 x (abt _) b);rw [hL];have c:=Es g h1 f;exact (tB (by decide) (.inl (by rw [fD (by decide),dE,if_pos (.inl rfl)])) c).cw
theorem FN: ∀(D:List Lay.Doc) (i:Nat),(∀d∈D,gI (gu d)/\qf d=true)->gI (dz (df i D))/\cI (dz (df i D))=D.flatMap (fun d=>cI (gu d))/\jd (df i D)=true
 | [],_,_=>⟨.nil,rfl,rfl⟩
 | d::D,i,h=>by
  obtain ⟨h1,b⟩:=h d (by simp);obtain ⟨c,f,g⟩:=FN D (i+1) fun x hx=>h x (aak _ hx);have e:dz (df i (d::D))=(if i=0 then [] else [.sep])++(gu d++ .sep::dz (df (i+1) D)):=by
   rw [df,gH];congr 1;split <;> rfl
  have a:gI (gu d++ .sep::dz (df (i+1) D)):=dL h1 (.sep c) fun t _=>trivial;rw [e];refine ⟨?_, ?_, ?_⟩
  .split
   .exact a
   .exact .sep a
  .rw [cG,cG,cI,f,abA];split <;> rfl
  .rw [df,jR];have:jd (if i=0 then [] else [OQ])=true:=by split <;> rfl
   rw [this];show (true&&(qf d&&(qf OQ&&jd (df (i+1) D))))=true;rw [b,g];rfl
theorem Gr: ∀(l:List T),DT Q1 l->(∀d∈fb l,gI (gu d)/\qf d=true)/\(fb l).flatMap (fun d=>cI (gu d))=jw l
 | _,.last (ks:=ks) p=>by
  obtain ⟨r,rfl,m⟩:=p;have e:fb [.mk 1 0 [] (r.map bc)]=(dW (r.map bc)).map tx:=rfl;rw [e];have n:jw [.mk 1 0 [] (r.map bc)]=jw (r.map bc):=by
   simp [jw,vi]
  rw [n];clear e n
  induction r with
  | nil=>exact ⟨(fun d h=>by cases h),rfl⟩
  | cons x r ih=>
   obtain ⟨f,g⟩:=ih fun y hy=>m y (aak _ hy);obtain ⟨q,s⟩:=m x (by simp);by_cases i:x.1=2
   .have c:yI (2,x.2):=by
     have:=s (by omega);rw [<- i];exact this
    have e:(dW ((x::r).map bc))=x.2::dW (r.map bc):=by
     unfold dW;rw [aal,abu];simp [bc,leaf,jq,i]
    have j:jw ((x::r).map bc)=(2,x.2)::jw (r.map bc):=by
     rw [aal,jw];simp [bc,leaf,vi,jw,i]
    have o:gu (tx x.2)=[.tok (2,x.2)]:=by
     show gu (.mk 1 x.2 0 [])= _;rw [gu,if_pos rfl,rA c]
    rw [e,j,aal,abA,g,o];refine ⟨fun d hd=> ?_,rfl⟩;rcases aam.1 hd with rfl | hd
    .rw [o];exact ⟨.tok c trivial .nil,rfl⟩
    .exact f d hd
   .have h1:x.1=1:=by
     simp only [bl,aaP,aaM] at q;omega
    have e:(dW ((x::r).map bc))=dW (r.map bc):=by
     unfold dW;rw [aal,abu];simp [bc,leaf,jq,i]
    have j:jw ((x::r).map bc)=jw (r.map bc):=by
     rw [aal,jw];simp [bc,leaf,vi,jw,h1]
    rw [e,j];exact ⟨f,g⟩
 | _,.cons (a:=a) (bs:=bs) (l:=l) t u hl=>by
  obtain ⟨f,g⟩:=Gr l hl;have hd:=ML t u;have k:l≠[]:=by
   cases hl <;> simp
  have e:fb (node 5 (a::bs)::l)=ay (node 5 (a::bs))::fb l:=by
   unfold fb;cases l with
   | nil=>exact absurd rfl k
   | cons x l=>
    have v:(node 5 (a::bs)::x::l).length - 1=((x::l).length - 1)+1:=by simp
    rw [v,abO,mK];rfl
  rw [e];refine ⟨fun d b=> ?_, ?_⟩
  .rcases aam.1 b with rfl | b
   .exact ⟨hd.chain,hd.fm⟩
   .exact f d b
  .rw [abA,g,hd.fE];rfl
theorem lj: ∀(l m:List Lay.Doc),bS (l++m)=bS l+bS m
 | [],m=>by simp [bS]
 | d::l,m=>by simp only [aap,bS,lj l m];omega
theorem Al (d:Lay.Doc):bS [d]=gW d:=by simp [bS]
theorem HJ (s:B):gW (tx s)=1:=rfl
theorem P5:gW cw=1:=rfl
theorem rT:gW je=1:=rfl
theorem yq (n:Int) (l:List Lay.Doc):gW (BN n l)=1+bS l:=by simp [BN,gW]
theorem nB (l:List Lay.Doc):gW (sV l)=1+bS l:=by simp [sV,gW]
theorem EI (l:List Lay.Doc):gW (row l)=1+bS l:=by simp [row,gW]
theorem jv: ∀(D:List Lay.Doc) (i:Nat),bS (D.take i)+gW (D.getD i cw)+bS (D.drop (i+1))<=bS D+1
 | [],i=>by simp [bS,P5]
 | d::D,0=>by simp [bS]
 | d::D,i+1=>by
  have:=jv D i;simp only [abO,List.getD_cons_succ,aaE,bS];omega
theorem Jl (D:List Lay.Doc) (i:Nat):gW (D.getD i cw)<=bS (D.drop i)+1:=by
 have:=jv (D.drop i) 0;have e:(D.drop i).getD 0 cw=D.getD i cw:=by
  rw [aaz,aaz,abG,abq]
 rw [e] at this;omega
theorem Pb (D:List Lay.Doc) (i:Nat):bS (D.take i)+bS (D.drop i)=bS D:=by
 rw [<- lj,abk]
theorem kB {ahead:List Lay.Doc} (h: ∀a∈ahead,gW a=1): ∀(i:Nat) (D:List Lay.Doc),bS (bW ahead i D)<=bS D+D.length
 | i,[]=>by simp [bW,bS]
 | i,d::D=>by
  have ih:=kB h (i+1) D;have h1: ∀j,gW (ahead.getD j cw)=1:=fun j=>by
   rw [aaz];cases b:ahead[j]? with
   | none=>rfl
   | some a=>exact h a (aaJ b)
  rw [bW];split
  .simp only [aaj,bS,aab];omega
  .simp only [aap,aaj,bS,aab,h1];omega
theorem J2: ∀(ks:List T) (D:List Lay.Doc),bS (lW ks D)<=bS D+D.length
 | [],D=>by simp [lW,bS]
 | _:: _,[]=>by simp [lW,bS]
 | t::ks,d::D=>by
  have ih:=J2 ks D;rw [lW];split
  .simp only [bS,rT,aab];omega
  .simp only [bS,aab];omega
theorem Co: ∀(p:T) (ks:List T) (D:List Lay.Doc),bS (fL p ks D)<=bS D+D.length
 | _,[],D=>by simp [fL,bS]
 | _,_:: _,[]=>by simp [fL,bS]
 | p,t::ks,d::D=>by
  have ih:=Co t ks D;have:gW (if kQ [fZ] p=true then cw else je)=1:=by split <;> rfl
  rw [fL];simp only [bS,this,aab];omega
theorem yB: ∀a∈[cw],gW a=1:=fun a h=>by rw [aaG.1 h];rfl
theorem FB (D:List Lay.Doc):bS (lX D)<=bS D+D.length+3:=by
 unfold lX;have h1:=kB yB 0 (D.take (D.length - 1));have a:=jv D (D.length - 1);have b:(D.take (D.length - 1)).length<=D.length:=by rw [aat];omega
 rw [lj,Al,yq];simp only [bS,rT];omega
theorem Nl (k:Nat) (ks:List T) (D:List Lay.Doc) (h:2<=D.length):gW (dE k ks D)<=bS D+D.length+8:=by
 unfold dE;split
 .have:=FB D;rw [nB];omega
 split
 .have h1:=FB (D.take (D.length - 2));have b:=jv D (D.length - 2);have d:=Jl D (D.length - 1);have h4:(D.take (D.length - 2)).length<=D.length:=by rw [aat];omega
  have e:D.length - 2+1=D.length - 1:=by omega
  rw [e] at b;rw [nB,lj];simp only [bS,rT];omega
 split
 .have:=kB (ahead:=[cw,je,cw,je,cw]) (fun a c=>by
   simp only [aam,aaD,or_false] at c;rcases c with rfl | rfl | rfl | rfl | rfl <;> rfl) 0 D
  rw [nB];omega
 split
 .have h1:=kB yB 0 (D.take 3);have b:=Co (ks.getD 2 default) (ks.drop 3) (D.drop 3);have d:=Pb D 3;have h4:(D.take 3).length+(D.drop 3).length=D.length:=by rw [aat,aas];omega
  rw [nB,lj];omega
 split
 .have h1:=kB yB 0 (D.take 2);have b:=jv D 2;have h4:(D.take 2).length<=D.length:=by rw [aat];omega
  rw [nB,lj,Al,yq];simp only [bS,rT];omega
 split
 .have:=kB (ahead:=[je,cw]) (fun a c=>by
   simp only [aam,aaD,or_false] at c;rcases c with rfl | rfl <;> rfl) 0 D
  rw [nB];omega
 split
 .have:=kB yB 0 D;rw [EI];omega
 split
 .have h1:=jv D 0;have b:=Jl D 1;simp only [List.take_zero,bS,aau] at h1;rw [nB];simp only [bS,yq,rT];omega
 .have h1:=jv D 0;have b:=jv (D.drop 1) (D.length - 2);have d:=J2 ((ks.drop 1).take (ks.length - 2)) ((D.drop 1).take (D.length - 2));have h4:((D.drop 1).take (D.length - 2)).length<=D.length:=by rw [aat];omega
  have e:(D.drop 1).getD (D.length - 2) cw=D.getD (D.length - 1) cw:=by
   rw [aaz,aaz,abG];congr 2;omega
  rw [e] at b;simp only [List.take_zero,bS,aau] at h1;rw [nB];simp only [bS,yq];omega
inductive vg:T->Prop where
 | leaf {k:Nat} {s:B} {r:List aW}:k≠0->k≠2->yI (k,s)->(∀x∈r,bl x=true/\Q1 x)->vg (.mk 1 k s (r.map bc))
 | node {k:Nat} {ks:List T}:k≠1->2<=ks.length->(∀x∈ks,vg x)->vg (node k ks)
theorem yX: ∀{r:List aW},(∀x∈r,bl x=true/\Q1 x)->(dW (r.map bc)).length<=(jw (r.map bc)).length
 | [],_=>by simp [dW,jw]
 | x::r,h=>by
  have ih:=yX (r:=r) fun y hy=>h y (aak _ hy);unfold dW at ih ⊢;rw [aal,abu,jw,aaa];by_cases a:x.1=2
  .have e:jq (bc x)=some x.2:=by simp [bc,leaf,jq,a]
   have b:(vi (bc x)).length=1:=by simp [bc,leaf,vi,jw,a]
   rw [e,b,aab];omega
  .simp only [bc,leaf,jq,if_neg a];omega
theorem JR: ∀(l:List B),bS (l.flatMap fun r=>[tx r,je])=2 * l.length
 | []=>rfl
 | x::l=>by
  rw [abA,lj,JR l];simp only [bS,HJ,rT,aab];omega
theorem NT {t:T} (h:vg t):gW (ay t)+10<=12 * (vi t).length:=by
 induction h with
 | @leaf k s r h0 e hs g=>
  have h1:=yX g;have c:k≠1:=hs.k1;rw [ay,if_pos rfl,Cy,EI,lj,JR,Al,HJ,vi,if_pos ⟨rfl,c,h0⟩,aaa];simp only [abl];omega
 | @node k ks f hl i ih=>
  have h1:=Nl k ks (ks.map ay) (by rw [aay];exact hl);rw [fD f,ue f];have e: ∀(l:List T),(∀x∈l,gW (ay x)+10<=12 * (vi x).length)->bS (l.map ay)+10 * l.length<=12 * (jw l).length:=by
   intro l
   induction l with
   | nil=>intro _;simp [bS,jw]
   | cons x l d=>
    intro hx;have a:=d fun y hy=>hx y (aak _ hy);have b:=hx x (by simp);simp only [aal,bS,jw,aaa,aab];omega
  have j:=e ks ih;rw [aay] at h1;omega
theorem OS (p:UInt8->Bool): ∀(l:B),∀x∈l.takeWhile p,p x=true
 | [],x,h=>by cases h
 | c::l,x,h=>by
  rw [aaU] at h;split at h
  .rename_i a;rcases aam.1 h with rfl | h
   .exact a
   .exact OS p l x h
  .cases h
theorem LO {k:Nat} {c:UInt8} {l:B} (hd:aC c=true) (h:number (c::l)=(k,(c::l).length)) (x:UInt8) (hx:bw x=true):x∉c::l:=by
 intro hm;obtain ⟨a,r,e⟩:=List.append_of_mem hm;cases a with
 | nil=>
  injection e with b _
  subst b;rcases gy hx with rfl | rfl | rfl | rfl <;> cases hd
 | cons j a=>
  injection e with b f
  subst b;have d:Ki (x::r):= .inr ⟨x,r,rfl,O4 hx⟩;have h1:=Ks d (c::a);rw [show c::a++x::r=c::l by rw [f];rfl,h] at h1;have g:=we (c::a) (by rw [dr,if_pos hd];omega);have i:=aaY Prod.snd h1;dsimp only at i;rw [<- i,f] at g;simp at g;omega
theorem IZ {k:Nat} {s:B} (h:yI (k,s)) (m:k≠2) (n:k≠7):(s.any fun b=>b==10)=false/\(s.any fun b=>b==13)=false:=by
 have key: ∀x:UInt8,bw x=true->x∉s:=by
  intro x hx;have a:cut s=(k,s.length):=h.cut;have h1:k≠1:=h.k1;have f:k≠9:=h.k9;cases s with
  | nil=>simp
  | cons c l=>
   simp only [cut] at a;split at a
   .injection a with e _;exact absurd e.symm h1
   split at a
   .split at a
    .injection a with e _;exact absurd e.symm m
    .injection a with e _;exact absurd e.symm f
   split at a
   .injection a with _ e
    intro hm;have j:=pT eA (c::l);rw [e,aaH] at j;rw [j] at hm;have:=OS eA (c::l) x hm;rcases gy hx with rfl | rfl | rfl | rfl <;> cases this
   split at a
   .rename_i hd;exact LO hd a x hx
   split at a
   .injection a with e _
    rcases iW l with g | g
    .rw [g] at e;exact absurd e.symm n
    .rw [g] at e;exact absurd e.symm f
   split at a
   .rename_i d;injection a with _ e
    have o:(c::l).take 2=c::l:=List.take_of_length_le (by rw [<- e];exact aah _);rw [o] at d;have d:=List.contains_iff_mem.1 d;intro hm;have: ∀w∈gG,∀y∈w,bw y=false:=by decide
    rw [this _ d x hm] at hx;cases hx
   split at a
   .rename_i ho;injection a with _ e
    cases l with
    | cons _ _=>simp at e
    | nil=>
     intro hm;rw [aaG] at hm;subst hm;have ho:=List.contains_iff_mem.1 ho;have: ∀y∈CK,bw y=false:=by decide
     rw [this _ ho] at hx;cases hx
   .injection a with e _;exact absurd e.symm f
 constructor
 .cases i:s.any fun b=>b==10 with
  | false=>rfl
  | true=>
   obtain ⟨y,hy,e⟩:=List.any_eq_true.1 i;rw [eq_of_beq e] at hy;exact absurd hy (key 10 rfl)
 .cases i:s.any fun b=>b==13 with
  | false=>rfl
  | true=>
   obtain ⟨y,hy,e⟩:=List.any_eq_true.1 i;rw [eq_of_beq e] at hy;exact absurd hy (key 13 rfl)
structure Kd (k:Nat) (ks:List T):Prop where
 k1:k≠1
 two:2<=ks.length
 kind:5<=k/\k<=18
 k6:k=6->4<=ks.length
 k8:k=8->ks.length=6
 k9:k=9->4<=ks.length
 k10:k=10->ks.length=3
 k11:k=11->ks.length=3
 k12:k=12->ks.length=2
 k13:k=13->ks.length=2
 k16:k=16->ks.length=3
theorem wS {k:Nat} {ks:List T} (h:2<=ks.length) (a:k=5\/k=7\/k=14\/k=15\/k=17\/k=18):Kd k ks:=⟨by omega,h,by omega,by omega,by omega,by omega,by omega,by omega,by omega,by omega,by omega⟩
theorem OE {Q:aW->Prop} {l:List T} (h:BT Q l):3<=l.length:=by
 cases h with
 | mk b c a d e=>simp only [aaa,aab,aae];omega
section
variable {Q:aW->Prop} {Pr:T->Prop} (hlf: ∀(k:Nat) (s:B) (r:List aW),k≠0->k≠1->k≠2->Q (k,s)->(∀x∈r,bl x=true/\Q x)->Pr (.mk 1 k s (r.map bc)))
 (hnd: ∀(k:Nat) (ks:List T),Kd k ks->(∀x∈ks,Pr x)->Pr (node k ks))
include hlf
theorem dS {s:B} {t:T} (h:Lf Q s t):Pr t:=by
 obtain ⟨k,ks,rfl,c,a,r,rfl,b⟩:=h;exact hlf k s r (by omega) (by omega) (by omega) a b
include hnd
theorem Ey: ∀n,(∀t,SizeOf.sizeOf t < n->ET Q t->Pr t)/\(∀t,SizeOf.sizeOf t < n->PT Q t->Pr t)/\(∀t,SizeOf.sizeOf t < n->AT Q t->Pr t):=by
 intro n
 induction n with
 | zero=>exact ⟨fun _ h=>by omega,fun _ h=>by omega,fun _ h=>by omega⟩
 | succ n ih=>
  obtain ⟨g,u,F⟩:=ih;have J: ∀(l:List T) (list:Bool),Un Q list l->(∀x∈l,SizeOf.sizeOf x < n)-> ∀x∈l,Pr x:=by
   intro l
   induction l using List.pS with
   | nil=>intro list _ _ x hx;cases hx
   | one a=>intro list h _;cases h
   | two a b l A=>
    intro list h hs x hx;cases h with
    | cons z v hl=>
     rcases aam.1 hx with rfl | hx
     .exact dS hlf z
     .rcases aam.1 hx with rfl | hx
      .exact g x (hs x (by simp)) v
      .exact A list hl (fun y hy=>hs y (by simp [hy])) x hx
  have K: ∀(l:List T) (list:Bool),SI Q list l->(∀x∈l,SizeOf.sizeOf x < n)-> ∀x∈l,Pr x:=by
   intro l
   induction l using List.pS with
   | nil=>intro list _ _ x hx;cases hx
   | one a=>intro list h _;cases h
   | two a b l A=>
    intro list h hs x hx;cases h with
    | cons z v hl=>
     rcases aam.1 hx with rfl | hx
     .exact dS hlf z
     .rcases aam.1 hx with rfl | hx
      .exact u x (hs x (by simp)) v
      .exact A list hl (fun y hy=>hs y (by simp [hy])) x hx
  have L: ∀(l:List T),Vs Q l->(∀x∈l,SizeOf.sizeOf x < n)-> ∀x∈l,Pr x:=by
   intro l
   induction l using List.pS with
   | nil=>intro _ _ x hx;cases hx
   | one a=>intro h _;cases h
   | two a b l A=>
    intro h hs x hx;cases h with
    | cons z q hl=>
     rcases aam.1 hx with rfl | hx
     .exact dS hlf z
     .rcases aam.1 hx with rfl | hx
      .exact F x (hs x (by simp)) q
      .exact A hl (fun y hy=>hs y (by simp [hy])) x hx
  have P: ∀(l:List T),BT Q l->(∀x∈l,SizeOf.sizeOf x < n)-> ∀x∈l,Pr x:=by
   intro l h hs x hx;cases h with
   | mk D G E H C=>
    simp only [aam,aaA,aaG,aaD,or_false] at hx;rcases hx with ((hx | rfl | hx) | rfl) | rfl
    .rcases D with rfl | ⟨r,D,rfl⟩
     .cases hx
     .rw [aaG.1 hx];exact dS hlf D
    .exact u x (hs x (by simp)) G
    .exact u x (hs x (by simp [hx])) (E x hx)
    .exact dS hlf H
    .exact g x (hs x (by simp)) C
  refine ⟨fun t O h=> ?_,fun t O h=> ?_,fun t O h=> ?_⟩
  .have j: ∀{k tk:Nat} {s:B} {l:List T},t=T.mk k tk s l-> ∀x∈l,SizeOf.sizeOf x < n:=fun {k tk s l} e x hx=>by
    subst e;have:=vr (k:=k) (tk:=tk) (s:=s) hx;omega
   cases h with
   | leaf H d M=>
    obtain ⟨r,rfl,D⟩:=M;exact hlf _ _ r (by omega) (by omega) (by omega) H D
   | letin q v hi C=>
    rename_i a i e bs;have R:=OE v;have d:=j rfl;refine hnd _ _ ⟨by decide,by simp,by decide,fun h=>by first | omega | (simp only [aaa,aab,aae];done) | (simp only [aaa,aab,aae];omega),fun h=>by first | omega | (simp only [aaa,aab,aae];done) | (simp only [aaa,aab,aae];omega),fun h=>by first | omega | (simp only [aaa,aab,aae];done) | (simp only [aaa,aab,aae];omega),fun h=>by first | omega | (simp only [aaa,aab,aae];done) | (simp only [aaa,aab,aae];omega),fun h=>by first | omega | (simp only [aaa,aab,aae];done) | (simp only [aaa,aab,aae];omega),fun h=>by first | omega | (simp only [aaa,aab,aae];done) | (simp only [aaa,aab,aae];omega),fun h=>by first | omega | (simp only [aaa,aab,aae];done) | (simp only [aaa,aab,aae];omega),fun h=>by first | omega | (simp only [aaa,aab,aae];done) | (simp only [aaa,aab,aae];omega)⟩ fun x hx=> ?_;simp only [aam,aap,aaA,aaG,aaD,or_false] at hx;rcases hx with rfl | (hx | rfl) | rfl
    .exact dS hlf q
    .exact P bs v (fun y hy=>d y (by simp [hy])) x hx
    .exact dS hlf hi
    .exact g x (d x (by simp)) C
   | lambda hf G E q C=>
    rename_i f p a e ps;have d:=j rfl;refine hnd _ _ (wS (by simp) (.inr (.inl rfl))) fun x hx=> ?_;simp only [aam,aap,aaA,aaG,aaD,or_false] at hx;rcases hx with rfl | rfl | (hx | rfl) | rfl
    .exact dS hlf hf
    .exact u x (d x (by simp)) G
    .exact u x (d x (by simp [hx])) (E x hx)
    .exact dS hlf q
    .exact g x (d x (by simp)) C
   | ife hi q N v hl z=>
    have d:=j rfl;refine hnd _ _ ⟨by decide,by simp,by decide,fun h=>by first | omega | (simp only [aaa,aab,aae];done) | (simp only [aaa,aab,aae];omega),fun h=>by first | omega | (simp only [aaa,aab,aae];done) | (simp only [aaa,aab,aae];omega),fun h=>by first | omega | (simp only [aaa,aab,aae];done) | (simp only [aaa,aab,aae];omega),fun h=>by first | omega | (simp only [aaa,aab,aae];done) | (simp only [aaa,aab,aae];omega),fun h=>by first | omega | (simp only [aaa,aab,aae];done) | (simp only [aaa,aab,aae];omega),fun h=>by first | omega | (simp only [aaa,aab,aae];done) | (simp only [aaa,aab,aae];omega),fun h=>by first | omega | (simp only [aaa,aab,aae];done) | (simp only [aaa,aab,aae];omega),fun h=>by first | omega | (simp only [aaa,aab,aae];done) | (simp only [aaa,aab,aae];omega)⟩ fun x hx=> ?_;simp only [aam,aaD,or_false] at hx;rcases hx with rfl | rfl | rfl | rfl | rfl | rfl
    .exact dS hlf hi
    .exact g x (d x (by simp)) q
    .exact dS hlf N
    .exact g x (d x (by simp)) v
    .exact dS hlf hl
    .exact g x (d x (by simp)) z
   | mtch hm C S I q has=>
    rename_i m e w a bar as;have d:=j rfl;refine hnd _ _ ⟨by decide,by simp,by decide,fun h=>by first | omega | (simp only [aaa,aab,aae];done) | (simp only [aaa,aab,aae];omega),fun h=>by first | omega | (simp only [aaa,aab,aae];done) | (simp only [aaa,aab,aae];omega),fun h=>by first | omega | (simp only [aaa,aab,aae];done) | (simp only [aaa,aab,aae];omega),fun h=>by first | omega | (simp only [aaa,aab,aae];done) | (simp only [aaa,aab,aae];omega),fun h=>by first | omega | (simp only [aaa,aab,aae];done) | (simp only [aaa,aab,aae];omega),fun h=>by first | omega | (simp only [aaa,aab,aae];done) | (simp only [aaa,aab,aae];omega),fun h=>by first | omega | (simp only [aaa,aab,aae];done) | (simp only [aaa,aab,aae];omega),fun h=>by first | omega | (simp only [aaa,aab,aae];done) | (simp only [aaa,aab,aae];omega)⟩ fun x hx=> ?_;simp only [aam,aap,aaA,aaG,aaD,or_false] at hx;rcases hx with rfl | rfl | rfl | hx | rfl | hx
    .exact dS hlf hm
    .exact g x (d x (by simp)) C
    .exact dS hlf S
    .rcases I with rfl | ⟨b,v,rfl⟩
     .cases hx
     .rw [aaG.1 hx];exact dS hlf v
    .exact F x (d x (by simp)) q
    .exact L as has (fun y hy=>d y (by simp [hy])) x hx
   | bin q ho v=>
    have d:=j rfl;refine hnd _ _ ⟨by decide,by simp,by decide,fun h=>by first | omega | (simp only [aaa,aab,aae];done) | (simp only [aaa,aab,aae];omega),fun h=>by first | omega | (simp only [aaa,aab,aae];done) | (simp only [aaa,aab,aae];omega),fun h=>by first | omega | (simp only [aaa,aab,aae];done) | (simp only [aaa,aab,aae];omega),fun h=>by first | omega | (simp only [aaa,aab,aae];done) | (simp only [aaa,aab,aae];omega),fun h=>by first | omega | (simp only [aaa,aab,aae];done) | (simp only [aaa,aab,aae];omega),fun h=>by first | omega | (simp only [aaa,aab,aae];done) | (simp only [aaa,aab,aae];omega),fun h=>by first | omega | (simp only [aaa,aab,aae];done) | (simp only [aaa,aab,aae];omega),fun h=>by first | omega | (simp only [aaa,aab,aae];done) | (simp only [aaa,aab,aae];omega)⟩ fun x hx=> ?_;simp only [aam,aaD,or_false] at hx;rcases hx with rfl | rfl | rfl
    .exact g x (d x (by simp)) q
    .exact dS hlf ho
    .exact g x (d x (by simp)) v
   | un ho q=>
    have d:=j rfl;refine hnd _ _ ⟨by decide,by simp,by decide,fun h=>by first | omega | (simp only [aaa,aab,aae];done) | (simp only [aaa,aab,aae];omega),fun h=>by first | omega | (simp only [aaa,aab,aae];done) | (simp only [aaa,aab,aae];omega),fun h=>by first | omega | (simp only [aaa,aab,aae];done) | (simp only [aaa,aab,aae];omega),fun h=>by first | omega | (simp only [aaa,aab,aae];done) | (simp only [aaa,aab,aae];omega),fun h=>by first | omega | (simp only [aaa,aab,aae];done) | (simp only [aaa,aab,aae];omega),fun h=>by first | omega | (simp only [aaa,aab,aae];done) | (simp only [aaa,aab,aae];omega),fun h=>by first | omega | (simp only [aaa,aab,aae];done) | (simp only [aaa,aab,aae];omega),fun h=>by first | omega | (simp only [aaa,aab,aae];done) | (simp only [aaa,aab,aae];omega)⟩ fun x hx=> ?_;simp only [aam,aaD,or_false] at hx;rcases hx with rfl | rfl
    .rcases ho with ho | ho <;> exact dS hlf ho
    .exact g x (d x (by simp)) q
   | app q v=>
    have d:=j rfl;refine hnd _ _ ⟨by decide,by simp,by decide,fun h=>by first | omega | (simp only [aaa,aab,aae];done) | (simp only [aaa,aab,aae];omega),fun h=>by first | omega | (simp only [aaa,aab,aae];done) | (simp only [aaa,aab,aae];omega),fun h=>by first | omega | (simp only [aaa,aab,aae];done) | (simp only [aaa,aab,aae];omega),fun h=>by first | omega | (simp only [aaa,aab,aae];done) | (simp only [aaa,aab,aae];omega),fun h=>by first | omega | (simp only [aaa,aab,aae];done) | (simp only [aaa,aab,aae];omega),fun h=>by first | omega | (simp only [aaa,aab,aae];done) | (simp only [aaa,aab,aae];omega),fun h=>by first | omega | (simp only [aaa,aab,aae];done) | (simp only [aaa,aab,aae];omega),fun h=>by first | omega | (simp only [aaa,aab,aae];done) | (simp only [aaa,aab,aae];omega)⟩ fun x hx=> ?_;simp only [aam,aaD,or_false] at hx;rcases hx with rfl | rfl
    .exact g x (d x (by simp)) q
    .exact g x (d x (by simp)) v
   | none ho z=>
    rename_i list o c;refine hnd _ _ (wS (by simp) (by cases list <;> simp [kindOf])) fun x hx=> ?_;simp only [aam,aaD,or_false] at hx;rcases hx with rfl | rfl
    .exact dS hlf ho
    .exact dS hlf z
   | some ho q hl z=>
    rename_i list o c a l;have d:=j rfl;refine hnd _ _ (wS (by simp) (by cases list <;> simp [kindOf])) fun x hx=> ?_;simp only [aam,aap,aaA,aaG,aaD,or_false] at hx;rcases hx with rfl | rfl | hx | rfl
    .exact dS hlf ho
    .exact g x (d x (by simp)) q
    .exact J l list hl (fun y hy=>d y (by simp [hy])) x hx
    .exact dS hlf z
  .have j: ∀{k tk:Nat} {s:B} {l:List T},t=T.mk k tk s l-> ∀x∈l,SizeOf.sizeOf x < n:=fun {k tk s l} e x hx=>by
    subst e;have:=vr (k:=k) (tk:=tk) (s:=s) hx;omega
   cases h with
   | leaf H d M=>
    obtain ⟨r,rfl,D⟩:=M;exact hlf _ _ r (by omega) (by omega) (by omega) H D
   | cons q ho v=>
    have d:=j rfl;refine hnd _ _ ⟨by decide,by simp,by decide,fun h=>by first | omega | (simp only [aaa,aab,aae];done) | (simp only [aaa,aab,aae];omega),fun h=>by first | omega | (simp only [aaa,aab,aae];done) | (simp only [aaa,aab,aae];omega),fun h=>by first | omega | (simp only [aaa,aab,aae];done) | (simp only [aaa,aab,aae];omega),fun h=>by first | omega | (simp only [aaa,aab,aae];done) | (simp only [aaa,aab,aae];omega),fun h=>by first | omega | (simp only [aaa,aab,aae];done) | (simp only [aaa,aab,aae];omega),fun h=>by first | omega | (simp only [aaa,aab,aae];done) | (simp only [aaa,aab,aae];omega),fun h=>by first | omega | (simp only [aaa,aab,aae];done) | (simp only [aaa,aab,aae];omega),fun h=>by first | omega | (simp only [aaa,aab,aae];done) | (simp only [aaa,aab,aae];omega)⟩ fun x hx=> ?_;simp only [aam,aaD,or_false] at hx;rcases hx with rfl | rfl | rfl
    .exact u x (d x (by simp)) q
    .exact dS hlf ho
    .exact u x (d x (by simp)) v
   | none ho z=>
    rename_i list o c;refine hnd _ _ (wS (by simp) (by cases list <;> simp [kindOf])) fun x hx=> ?_;simp only [aam,aaD,or_false] at hx;rcases hx with rfl | rfl
    .exact dS hlf ho
    .exact dS hlf z
   | some ho q hl z=>
    rename_i list o c a l;have d:=j rfl;refine hnd _ _ (wS (by simp) (by cases list <;> simp [kindOf])) fun x hx=> ?_;simp only [aam,aap,aaA,aaG,aaD,or_false] at hx;rcases hx with rfl | rfl | hx | rfl
    .exact dS hlf ho
    .exact u x (d x (by simp)) q
    .exact K l list hl (fun y hy=>d y (by simp [hy])) x hx
    .exact dS hlf z
  .have j: ∀{k tk:Nat} {s:B} {l:List T},t=T.mk k tk s l-> ∀x∈l,SizeOf.sizeOf x < n:=fun {k tk s l} e x hx=>by
    subst e;have:=vr (k:=k) (tk:=tk) (s:=s) hx;omega
   cases h with
   | mk G q C=>
    have d:=j rfl;refine hnd _ _ ⟨by decide,by simp,by decide,fun h=>by first | omega | (simp only [aaa,aab,aae];done) | (simp only [aaa,aab,aae];omega),fun h=>by first | omega | (simp only [aaa,aab,aae];done) | (simp only [aaa,aab,aae];omega),fun h=>by first | omega | (simp only [aaa,aab,aae];done) | (simp only [aaa,aab,aae];omega),fun h=>by first | omega | (simp only [aaa,aab,aae];done) | (simp only [aaa,aab,aae];omega),fun h=>by first | omega | (simp only [aaa,aab,aae];done) | (simp only [aaa,aab,aae];omega),fun h=>by first | omega | (simp only [aaa,aab,aae];done) | (simp only [aaa,aab,aae];omega),fun h=>by first | omega | (simp only [aaa,aab,aae];done) | (simp only [aaa,aab,aae];omega),fun h=>by first | omega | (simp only [aaa,aab,aae];done) | (simp only [aaa,aab,aae];omega)⟩ fun x hx=> ?_;simp only [aam,aaD,or_false] at hx;rcases hx with rfl | rfl | rfl
    .exact u x (d x (by simp)) G
    .exact dS hlf q
    .exact g x (d x (by simp)) C
end
mutual
def R7:Lay.Doc->Bool
 | .mk _ _ m kids=>decide (m<=4)&&H0 kids
def H0:List Lay.Doc->Bool
 | []=>true
 | d::l=>R7 d&&H0 l
end
def MS (d:Lay.Doc):Prop:=ow d=true/\R7 d=true
def ur (l:List Lay.Doc):Prop:= ∀d∈l,MS d
theorem va: ∀{l:List Lay.Doc},ur l->pU l=true/\H0 l=true
 | [],_=>⟨rfl,rfl⟩
 | d::l,h=>by
  obtain ⟨a,b⟩:=va (l:=l) fun x hx=>h x (aak _ hx);obtain ⟨c,e⟩:=h d (by simp);simp only [pU,H0,a,b,c,e];exact ⟨rfl,rfl⟩
theorem eM:ur []:=fun _ h=>by cases h
theorem bV {d:Lay.Doc} {l:List Lay.Doc} (h:MS d) (hl:ur l):ur (d::l):=fun x hx=>by
 rcases aam.1 hx with rfl | hx
 .exact h
 .exact hl x hx
theorem pk {l m:List Lay.Doc} (h:ur l) (hm:ur m):ur (l++m):=fun x hx=>by
 rcases aaA.1 hx with hx | hx
 .exact h x hx
 .exact hm x hx
theorem Oy {s:B} (a:bH s=true) (h:(s.any fun b=>b==10)=false/\(s.any fun b=>b==13)=false):MS (tx s):=by
 constructor
 .simp [tx,ow,pU,OJ,a,h.1,h.2]
 .simp [tx,R7,H0]
theorem vC:MS cw:=Oy rfl ⟨rfl,rfl⟩
theorem mF:MS je:=⟨rfl,rfl⟩
theorem Ot:MS OQ:=⟨rfl,rfl⟩
theorem Dz {n:Int} (h0:0<=n) (h4:n<=4) {l:List Lay.Doc} (h:ur l):MS (BN n l):=by
 obtain ⟨a,b⟩:=va h;constructor
 .simp only [BN,ow,OJ,a,abv,show ¬ (5:Int)=1 by omega,show ¬ ((5:Int)=2\/(5:Int)=3\/(5:Int)=4) by omega,if_false,if_true,aaf,aaT];exact ⟨⟨h0,by omega⟩,rfl⟩
 .simp only [BN,R7,b,abv,aaT];exact h4
theorem qY {l:List Lay.Doc} (h:ur l):MS (sV l):=by
 obtain ⟨a,b⟩:=va h;constructor
 .simp [sV,ow,OJ,a]
 .simp [sV,R7,b]
theorem Ij {l:List Lay.Doc} (h:ur l):MS (row l):=by
 obtain ⟨a,b⟩:=va h;constructor
 .simp [row,ow,OJ,a]
 .simp [row,R7,b]
theorem me {D:List Lay.Doc} (h:ur D) (i:Nat):MS (D.getD i cw):=by
 rw [aaz];cases b:D[i]? with
 | none=>exact vC
 | some a=>exact h a (aaJ b)
theorem vc {D:List Lay.Doc} (h:ur D) (i:Nat):ur (D.take i):=fun x hx=>h x (List.mem_of_mem_take hx)
theorem JH {D:List Lay.Doc} (h:ur D) (i:Nat):ur (D.drop i):=fun x hx=>h x (List.mem_of_mem_drop hx)
theorem mM {ahead:List Lay.Doc} (a:ur ahead): ∀(i:Nat) {D:List Lay.Doc},ur D->ur (bW ahead i D)
 | i,[],_=>eM
 | i,d::D,h=>by
  rw [bW];refine pk ?_ (bV (h d (by simp)) (mM a (i+1) fun x hx=>h x (aak _ hx)));split
  .exact eM
  .exact bV (me a _) eM
theorem OY: ∀(ks:List T) {D:List Lay.Doc},ur D->ur (lW ks D)
 | [],_,_=>eM
 | _:: _,[],_=>eM
 | t::ks,d::D,h=>by
  have ih:=OY ks (D:=D) fun x hx=>h x (aak _ hx);rw [lW];refine bV (h d (by simp)) ?_;split
  .exact bV mF ih
  .exact ih
theorem Gk: ∀(p:T) (ks:List T) {D:List Lay.Doc},ur D->ur (fL p ks D)
 | _,[],_,_=>eM
 | _,_:: _,[],_=>eM
 | p,t::ks,d::D,h=>by
  rw [fL];refine bV ?_ (bV (h d (by simp)) (Gk t ks fun x hx=>h x (aak _ hx)));split
  .exact vC
  .exact mF
theorem um:ur [cw]:=bV vC eM
theorem Ko {D:List Lay.Doc} (h:ur D):ur (lX D):=
 pk (mM um 0 (vc h _)) (bV (Dz (by decide) (by decide) (bV mF (bV (me h _) eM))) eM)
theorem QJ (k:Nat) (ks:List T) {D:List Lay.Doc} (h:ur D):MS (dE k ks D):=by
 unfold dE;split
 .exact qY (Ko h)
 split
 .exact qY (pk (Ko (vc h _)) (bV mF (bV (me h _) (bV mF (bV (me h _) eM)))))
 split
 .exact qY (mM (bV vC (bV mF (bV vC (bV mF (bV vC eM))))) 0 h)
 split
 .exact qY (pk (mM um 0 (vc h _)) (Gk _ _ (JH h _)))
 split
 .exact qY (pk (mM um 0 (vc h _)) (bV (Dz (by decide) (by decide) (bV mF (bV (me h _) eM))) eM))
 split
 .exact qY (mM (bV mF um) 0 h)
 split
 .exact Ij (mM um 0 h)
 split
 .exact qY (bV (me h _) (bV (Dz (by decide) (by decide) (bV mF (bV (me h _) eM))) eM))
 .exact qY (bV (me h _) (bV (Dz (by decide) (by decide) (OY _ (vc (JH h _) _))) (bV (me h _) eM)))
theorem Jk (s:B):(s.any fun c=>c==10||c==13)=false->(s.any fun b=>b==10)=false/\(s.any fun b=>b==13)=false:=by
 induction s with
 | nil=>intro _;exact ⟨rfl,rfl⟩
 | cons c s ih=>
  intro h;simp only [abr,aaO] at h ⊢;exact ⟨⟨h.1.1,(ih h.2).1⟩,h.1.2,(ih h.2).2⟩
theorem D8: ∀{r:List aW},(∀x∈r,bl x=true/\Q1 x)->fS (r.map bc)=false-> ∀s∈dW (r.map bc),MS (tx s)
 | [],_,_=>fun s h=>by simp [dW] at h
 | x::r,h,a=>by
  rw [aal,fS,aaO] at a;have ih:=D8 (r:=r) (fun y hy=>h y (aak _ hy)) a.2;intro s hs;unfold dW at hs ih;rw [aal,abu] at hs;by_cases b:x.1=2
  .have e:jq (bc x)=some x.2:=by simp [bc,leaf,jq,b]
   rw [e] at hs;rcases aam.1 hs with rfl | hs
   .have c:=(h x (by simp)).2 (by omega);refine Oy c.valid (Jk _ ?_);have:=a.1;simpa [bc,leaf,dw,fS,b] using this
   .exact ih s hs
  .have e:jq (bc x)=none:=by simp [bc,leaf,jq,b]
   rw [e] at hs;exact ih s hs
theorem Bp: ∀{l:List T},fS l=false-> ∀x∈l,dw x=false
 | [],_,x,h=>by cases h
 | t::l,h,x,hx=>by
  rw [fS,aaO] at h;rcases aam.1 hx with rfl | hx
  .exact h.1
  .exact Bp h.2 x hx
theorem Py {t:T} (h:vg t):dw t=false->MS (ay t):=by
 induction h with
 | @leaf k s r h0 c hs e=>
  intro a;simp only [dw,aaO,abm,abB] at a;have hm:MS (tx s):=by
   refine Oy hs.valid ?_;by_cases b:k=7
   .subst b;exact Jk _ (by simpa using a.1)
   .exact IZ hs c b
  rw [ay,if_pos rfl,Cy];refine Ij (pk (fun d hd=> ?_) (bV hm eM));obtain ⟨x,hx,hd⟩:=List.mem_flatMap.1 hd;simp only [aam,aaD,or_false] at hd;rcases hd with rfl | rfl
  .exact D8 e a.2 x hx
  .exact mF
 | @node k ks f hl g ih=>
  intro a;rw [node,dw,aaO] at a;rw [fD f];refine QJ k ks fun d hd=> ?_;obtain ⟨x,hx,rfl⟩:=abf.1 hd;exact ih x hx (Bp a.2 x hx)
theorem CT (k:Nat) (s:B) (r:List aW) (h0:k≠0) (h1:k≠1) (a:k≠2) (b:Q1 (k,s)) (c: ∀x∈r,bl x=true/\Q1 x):vg (.mk 1 k s (r.map bc)):= .leaf h0 a (b h1) c
theorem Mm (k:Nat) (ks:List T) (h:Kd k ks) (a: ∀x∈ks,vg x):vg (node k ks):= .node h.k1 h.two a
theorem Ei {s:B} {t:T} (h:Lf Q1 s t):vg t:=dS CT h
theorem Ab (n:Nat):(∀t,SizeOf.sizeOf t < n->ET Q1 t->vg t)/\(∀t,SizeOf.sizeOf t < n->PT Q1 t->vg t)/\(∀t,SizeOf.sizeOf t < n->AT Q1 t->vg t):=Ey CT Mm n
end Go.Format
namespace Go.Lay
mutual
def G6:Doc->Nat
 | .mk _ _ m kids=>m.toNat+wW kids
def wW:List Doc->Nat
 | []=>0
 | d::l=>G6 d+wW l
end
def Gi:List lx->Nat
 | []=>0
 | t::l=>G6 t.1+Gi l
theorem jN (ks:List Doc) (i:Int) (f:Bool) (l:List lx):Gi (eP ks i f++l)=wW ks+Gi l:=by
 induction ks with
 | nil=>simp [eP,wW]
 | cons d ks ih=>simp only [eP,aal,aap,Gi,wW] at ih ⊢;rw [ih];omega
end Go.Lay
namespace Go.Format
open Go.VM Go.Lex Go.Parse Go.Lay
def iC:List aW->Nat
 | []=>0
 | t::l=>t.2.length+iC l
theorem zQ: ∀(l m:List aW),iC (l++m)=iC l+iC m
 | [],m=>by simp [iC]
 | t::l,m=>by simp only [aap,iC,zQ l m];omega
mutual
theorem vH: ∀(d:Lay.Doc),ow d=true->xT d<=iC (cI (gu d))+gW d
 | .mk k s m kids,h=>by
  simp only [ow,aaf] at h;obtain ⟨hok,hk⟩:=h;have ih:=JD kids hk;unfold OJ at hok;rw [gu,xT,gW];by_cases h1:k=1
  .rw [if_pos h1] at hok ⊢;simp only [aaf,List.isEmpty_iff] at hok;obtain ⟨⟨⟨⟨_,rfl⟩,_⟩,_⟩,_⟩:=hok;unfold yz;simp only [ot,bS];split
   .rename_i e;subst e;simp [cI,iC]
   .simp only [cI,iC];omega
  .rw [if_neg h1] at hok ⊢;have hs:s=[]/\(k=2\/k=4->kids=[]):=by
    by_cases h2:k=2\/k=3\/k=4
    .rw [if_pos h2] at hok;simp only [aaf,List.isEmpty_iff,aaM] at hok;exact ⟨hok.2,fun _=>hok.1.2⟩
    .rw [if_neg h2] at hok;refine ⟨?_,fun h=>absurd h (by omega)⟩;by_cases h5:k=5
     .rw [if_pos h5] at hok;simp only [aaf,aaM] at hok;exact hok.2
     .rw [if_neg h5] at hok;split at hok
      .simp only [aaf,aaM] at hok;exact hok.2
      .cases hok
   obtain ⟨rfl,hnil⟩:=hs;by_cases h24:k=2\/k=4
   .rw [if_pos h24,hnil h24];simp [cI,iC,ot]
   .rw [if_neg h24];simp only [aae];omega
theorem JD: ∀(l:List Lay.Doc),pU l=true->ot l<=iC (cI (dz l))+bS l
 | [],_=>by simp [ot]
 | d::l,h=>by
  simp only [pU,aaf] at h;have a:=vH d h.1;have b:=JD l h.2;rw [ot,dz,cG,zQ,bS];omega
end
mutual
theorem O2: ∀(d:Lay.Doc),R7 d=true->G6 d<=4 * gW d
 | .mk k s m kids,h=>by
  simp only [R7,aaf,aaT] at h;have:=JO kids h.2;have h1:=h.1;simp only [G6,gW];omega
theorem JO: ∀(l:List Lay.Doc),H0 l=true->wW l<=4 * bS l
 | [],_=>by simp [wW]
 | d::l,h=>by
  simp only [H0,aaf] at h;have a:=O2 d h.1;have b:=JO l h.2;simp only [wW,bS];omega
end
theorem Cn: ∀(D:List Lay.Doc) (i:Nat),bS (df i D)<=bS D+2 * D.length
 | [],i=>by simp [df,bS]
 | d::D,i=>by
  have ih:=Cn D (i+1);have h1:gW OQ=1:=rfl;rw [df];split
  .simp only [aaj,bS,h1,aab];omega
  .simp only [aap,aaj,bS,h1,aab];omega
theorem Hc: ∀{D:List Lay.Doc} (i:Nat),ur D->ur (df i D)
 | [],i,_=>eM
 | d::D,i,h=>by
  rw [df];refine pk ?_ (bV (h d (by simp)) (bV Ot (Hc (i+1) fun x hx=>h x (aak _ hx))));split
  .exact eM
  .exact bV Ot eM
theorem RG {l:List T} (h:BT Q1 l): ∀x∈l,vg x:=by
 intro x hx;cases h with
 | mk a c b d e=>
  simp only [aam,aaA,aaG,aaD,or_false] at hx;rcases hx with ((hx | rfl | hx) | rfl) | rfl
  .rcases a with rfl | ⟨r,a,rfl⟩
   .cases hx
   .rw [aaG.1 hx];exact Ei a
  .exact (Ab _).2.1 _ (abt _) c
  .exact (Ab _).2.1 _ (abt _) (b x hx)
  .exact Ei d
  .exact (Ab _).1 _ (abt _) e
theorem WD {l:List T} (h:BT Q1 l):1<=l.length:=by
 cases h with
 | mk b c a d e=>simp only [aaa,aab,aae];omega
theorem BX {a:T} {bs:List T} (c:Lf Q1 lI a) (b:BT Q1 bs):vg (node 5 (a::bs)):=by
 have:=WD b;refine .node (by decide) (by simp only [aab];omega) fun x hx=> ?_;rcases aam.1 hx with rfl | hx
 .exact Ei c
 .exact RG b x hx
theorem zx {a:T} {bs l:List T} (hl:l≠[]):fb (node 5 (a::bs)::l)=ay (node 5 (a::bs))::fb l:=by
 unfold fb;cases l with
 | nil=>exact absurd rfl hl
 | cons x l=>
  have b:(node 5 (a::bs)::x::l).length - 1=((x::l).length - 1)+1:=by simp
  rw [b,abO,mK];rfl
theorem AX: ∀(l:List B),bS (l.map tx)=l.length
 | []=>rfl
 | x::l=>by
  rw [aal,bS,AX l,HJ,aab];omega
theorem Dh: ∀(l:List T),DT Q1 l->bS (fb l)+2 * (fb l).length<=12 * (jw l).length
 | _,.last (ks:=ks) c=>by
  obtain ⟨r,rfl,d⟩:=c;have e:fb [.mk 1 0 [] (r.map bc)]=(dW (r.map bc)).map tx:=rfl;have f:jw [.mk 1 0 [] (r.map bc)]=jw (r.map bc):=by simp [jw,vi]
  have:=yX d;rw [e,f,AX,aay];omega
 | _,.cons (a:=a) (bs:=bs) (l:=l) g h hl=>by
  have ih:=Dh l hl;have hn:=NT (BX g h);have b:l≠[]:=by cases hl <;> simp
  rw [zx b,bS,aab,jw,aaa];omega
theorem GF: ∀(l:List T),DT Q1 l->fS l=false->ur (fb l)
 | _,.last (ks:=ks) g,b=>by
  obtain ⟨r,rfl,h⟩:=g;have e:fb [.mk 1 0 [] (r.map bc)]=(dW (r.map bc)).map tx:=rfl;rw [e];have c:fS (r.map bc)=false:=by
   simp only [fS,dw,aaO] at b;exact b.1.2
  intro d hd;obtain ⟨s,hs,rfl⟩:=abf.1 hd;exact D8 h c s hs
 | _,.cons (a:=a) (bs:=bs) (l:=l) i j hl,b=>by
  rw [fS,aaO] at b;have f:l≠[]:=by cases hl <;> simp
  rw [zx f];exact bV (Py (BX i j) b.1) (GF l hl b.2)
def rh (s:B):Lay.Doc:=row (df 0 (fb (doc (tokens s)).kids))
theorem Xa (r:List aW):(nb r).length<=r.length:=List.length_filter_le _ _
theorem xz: ∀(r:List aW),iC r=((r.map (·.2)).flatten).length
 | []=>rfl
 | t::r=>by simp only [iC,xz r,aal,List.flatten_cons,aaa]
theorem Cu: ∀(r:List aW),iC (nb r)<=iC r
 | []=>aah _
 | t::r=>by
  have:=Cu r;rw [iY];split
  .simp only [iC];omega
  .simp only [iC];omega
theorem Kq {s:B} (j:bH s=true) (e:bZ (doc (tokens s))=true) (f:dw (doc (tokens s))=false):
  ow (rh s)=true/\gW (rh s)<=12 * s.length+1/\xT (rh s)<=13 * s.length+1/\G6 (rh s)<=48 * s.length+4:=by
 obtain ⟨l,k,g⟩:=lZ (tokens s);have m:=Oa _ (EM _ _ (abt _) e);have n:=Gf _ s (aah _) j m;have c:=Uz s g;rw [g] at e f;have a:=qN (Q:=Q1) _ _ _ k (iy s) n (dV e);have h:fS l=false:=by
  rw [node,dw,aaO] at f;exact f.2
 have o:(doc (tokens s)).kids=l:=by rw [g];rfl
 have b:=Ij (Hc 0 (GF l a h));have p:=Dh l a;have q:=Cn (fb l) 0;have x:=Xa (tokens s);have r:=rq s;rw [c] at p;have d:gW (row (df 0 (fb l)))<=12 * s.length+1:=by rw [EI];omega
 have hn:=O2 _ b.2;have i:=vH _ b.1;obtain ⟨t,u⟩:=Gr l a;obtain ⟨_,v,_⟩:=FN (fb l) 0 t;rw [UB,v,u,c] at i;have w:=Cu (tokens s);rw [xz (tokens s),qI _ s (aah _)] at w;unfold rh;rw [o];exact ⟨b.1,d,by omega,by omega⟩
theorem Oj (t:T):jq (cR t)=jq t:=by
 cases t with
 | mk k tk s l=>rw [cR];rfl
theorem sL: ∀(l:List T),dW (l.map cR)=dW l
 | []=>rfl
 | t::l=>by
  have ih:=sL l;unfold dW at ih ⊢;rw [aal,abu,abu,Oj,ih]
theorem AZ (t:T):dW (cR t).kids=dW t.kids:=by
 cases t with
 | mk k tk s l=>
  rw [cR];show dW (if k=1 then l.filter fun t=> !eC t else qJ l)=dW l;split
  .exact Ed l
  .rw [mi,sL]
theorem zH (l:List T):fb (l.map cR)=fb l:=by
 unfold fb;rw [aay, <- List.map_take,getD_map,AZ, <- mi,qW]
theorem BA {r s:List aW} (h:nb r=nb s):(doc r).kids.map cR=(doc s).kids.map cR:=by
 have e:=aaY T.kids (zA h);rw [C3 (by rw [FJ];decide),C3 (by rw [FJ];decide)] at e;exact e
theorem QF {s t:B} (h:nb (tokens s)=nb (tokens t)):rh s=rh t:=by
 unfold rh;rw [<- zH (doc (tokens s)).kids, <- zH (doc (tokens t)).kids,BA h]
theorem KH {s t:B} (h:nb (tokens s)=nb (tokens t)):bZ (doc (tokens s))=bZ (doc (tokens t)):=by
 rw [<- vV (doc (tokens s)), <- vV (doc (tokens t)),zA h]
theorem HM {s t:B} (h:nb (tokens s)=nb (tokens t)):dw (doc (tokens s))=dw (doc (tokens t)):=by
 rw [<- tm (doc (tokens s)), <- tm (doc (tokens t)),zA h]
theorem yA (s:B):tS s=if 65536 < s.length then .error 40 else if bH s=true then (if bZ (doc (tokens s))=true then (if dw (doc (tokens s))=true then .error 4 else .ok (rh s)) else .error 50) else .error 4:=rfl
theorem UA {s t:B} (a:bH s=true) (b:bH t=true) (h1:s.length<=65536) (c:t.length<=65536) (h:nb (tokens s)=nb (tokens t)):tS s=tS t:=by
 rw [yA s,yA t,if_neg (show ¬ 65536 < s.length by omega),if_neg (show ¬ 65536 < t.length by omega),if_pos a,if_pos b,KH h,HM h,QF h]
theorem U3 {s:B} {D:Lay.Doc} (h:tS s= .ok D):D=rh s/\bH s=true/\bZ (doc (tokens s))=true/\dw (doc (tokens s))=false/\s.length<=65536:=by
 rw [yA] at h;split at h
 .cases h
 split at h
 .split at h
  .split at h
   .cases h
   .rename_i h1 a b h4;cases h;exact ⟨rfl,a,b,by simpa using h4,by omega⟩
  .cases h
 .cases h
def tf (D:Lay.Doc) (w:Int):B:=mf w (gW D) [(D,0,false)] 0
def xb (s:B) (w:Int):Except Nat B:=
 if w < 20\/200 < w then .error 1
 else match tS s with
  | .error e=> .error e
  | .ok D=>if 65536 < (tf D w).length then .error 40 else .ok (tf D w)
theorem Mv {s t:B} {w:Int} (a:bH s=true) (b:bH t=true) (h1:s.length<=65536) (c:t.length<=65536) (h:nb (tokens s)=nb (tokens t)):xb s w=xb t w:=by
 unfold xb;rw [UA a b h1 c h]
end Go.Format
