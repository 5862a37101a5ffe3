/-
  A part of the proof.
-/
import Derived.Test.YtkbkbndajpbcjaaGreatDoorVmBD
import Derived.Lib.TrimUEq
import Derived.Lib.AtoiAll
set_option linter.all false
namespace Go.VM
open Go.Lib
def oO (n a b c d:Nat):Nat:=
 if a < 128 then 1
 else if 194<=a/\a<=223 then (if n < 2\/b < 128\/191 < b then 0 else 2)
 else if 224<=a/\a<=239 then (if n < 3\/b < 128\/191 < b\/c < 128\/191 < c\/(a=224/\b < 160)\/(a=237/\159 < b) then 0 else 3)
 else if 240<=a/\a<=244 then (if n < 4\/b < 128\/191 < b\/c < 128\/191 < c\/d < 128\/191 < d\/(a=240/\b < 144)\/(a=244/\143 < b) then 0 else 4)
 else 0
set_option maxHeartbeats 2000000 in
theorem I8 {n a b f g:Nat} (h0:a < 256) (h1:b < 256) (m:f < 256) (o:g < 256):
  (oO n a b f g=0/\decodeN n a b f g=(65533,1))\/(oO n a b f g=1/\a < 128/\decodeN n a b f g=(a,1))\/(2<=oO n a b f g/\(decodeN n a b f g).2=oO n a b f g):=by
 by_cases h:a < 128
 .refine .inr (.inl ⟨?_,h, ?_⟩)
  .unfold oO;rw [if_pos h]
  .unfold decodeN;rw [if_pos h]
 by_cases z:oO n a b f g=0
 .refine .inl ⟨z, ?_⟩;unfold oO at z;unfold decodeN
  repeat' split
  all_goals first | rfl | (exfalso;(repeat' (split at z));all_goals omega)
 .have l:(oO n a b f g=2/\(194<=a/\a<=223)/\¬ (n < 2\/b < 128\/191 < b))\/
    (oO n a b f g=3/\(224<=a/\a<=239)/\¬ (n < 3\/b < 128\/191 < b\/f < 128\/191 < f\/(a=224/\b < 160)\/(a=237/\159 < b)))\/
    (oO n a b f g=4/\(240<=a/\a<=244)/\¬ (n < 4\/b < 128\/191 < b\/f < 128\/191 < f\/g < 128\/191 < g\/(a=240/\b < 144)\/(a=244/\143 < b))):=by
   unfold oO at z ⊢;rw [if_neg h] at z ⊢;by_cases i:194<=a/\a<=223
   .rw [if_pos i] at z ⊢;by_cases d:n < 2\/b < 128\/191 < b
    .rw [if_pos d] at z;omega
    .rw [if_neg d];exact .inl ⟨rfl,i,d⟩
   rw [if_neg i] at z ⊢;by_cases j:224<=a/\a<=239
   .rw [if_pos j] at z ⊢;by_cases d:n < 3\/b < 128\/191 < b\/f < 128\/191 < f\/(a=224/\b < 160)\/(a=237/\159 < b)
    .rw [if_pos d] at z;omega
    .rw [if_neg d];exact .inr (.inl ⟨rfl,j,d⟩)
   rw [if_neg j] at z ⊢;by_cases k:240<=a/\a<=244
   .rw [if_pos k] at z ⊢;by_cases d:n < 4\/b < 128\/191 < b\/f < 128\/191 < f\/g < 128\/191 < g\/(a=240/\b < 144)\/(a=244/\143 < b)
    .rw [if_pos d] at z;omega
    .rw [if_neg d];exact .inr (.inr ⟨rfl,k,d⟩)
   .rw [if_neg k] at z;omega
  refine .inr (.inr ?_);rcases l with ⟨e,c,d⟩ | ⟨e,c,d⟩ | ⟨e,c,d⟩
  all_goals
   rw [e];refine ⟨by omega, ?_⟩;unfold decodeN
   repeat' split
   all_goals first | rfl | (exfalso;omega)
theorem UM {n a b c d:Nat} (h:1<=n):oO n a b c d<=n:=by
 unfold oO
 repeat' split
 all_goals omega
def iU (l:LB):Nat:=oO l.length (l.getD 0 0).toNat (l.getD 1 0).toNat (l.getD 2 0).toNat (l.getD 3 0).toNat
theorem qM (l:LB):(iU l=0/\decodeL l=(65533,1))\/(iU l=1/\(l.getD 0 0).toNat < 128/\decodeL l=((l.getD 0 0).toNat,1))\/(2<=iU l/\(decodeL l).2=iU l):=by
 unfold iU;rw [decodeL_N];exact I8 (UInt8.toNat_lt _) (UInt8.toNat_lt _) (UInt8.toNat_lt _) (UInt8.toNat_lt _)
theorem uY {l:LB} (h:l≠[]):iU l<=l.length:=UM (abN.2 h)
def rh:Nat->LB->Bool
 | 0,_=>true
 | n+1,l=>if l=[] then true else if iU l=0 then false else rh n (l.drop (iU l))
theorem xR: ∀(n:Nat) (l:LB),validGoD n l=rh n l
 | 0,_=>rfl
 | n+1,l=>by
  unfold validGoD rh;by_cases h:l=[]
  .rw [if_pos h,if_pos h]
  rw [if_neg h,if_neg h];rcases qM l with ⟨h1,b⟩ | ⟨h1,b,d⟩ | ⟨h1,b⟩
  .have a:(decodeL l).1=65533/\(decodeL l).2=1:=by rw [b];exact ⟨rfl,rfl⟩
   rw [if_pos a,if_pos h1]
  .have a:¬ ((decodeL l).1=65533/\(decodeL l).2=1):=by rw [d];show ¬ ((l.getD 0 0).toNat=65533/\ _);omega
   have c:¬ iU l=0:=by omega
   rw [if_neg a,if_neg c,d,h1];exact xR n _
  .have a:¬ ((decodeL l).1=65533/\(decodeL l).2=1):=by omega
   have c:¬ iU l=0:=by omega
   rw [if_neg a,if_neg c,b];exact xR n _
def cb (l:LB):Bool:=rh l.length l
theorem Mt (l:LB):validD l=cb l:=xR _ _
theorem yQ: ∀(n m:Nat) (l:LB),l.length<=n->l.length<=m->rh n l=rh m l
 | 0,0,_,_,_=>rfl
 | 0,m+1,l,h,_=>by
  have:l=[]:=aa6 (by omega);subst this;simp [rh]
 | n+1,0,l,_,h=>by
  have:l=[]:=aa6 (by omega);subst this;simp [rh]
 | n+1,m+1,l,hn,hm=>by
  unfold rh;by_cases h:l=[]
  .rw [if_pos h,if_pos h]
  rw [if_neg h,if_neg h];by_cases a:iU l=0
  .rw [if_pos a,if_pos a]
  .rw [if_neg a,if_neg a,yQ n m _ (by rw [aaz];omega) (by rw [aaz];omega)]
theorem kC {l:LB} (h:l≠[]):cb l=if iU l=0 then false else cb (l.drop (iU l)):=by
 unfold cb;have hl:0 < l.length:=abN.2 h;obtain ⟨n,hn⟩: ∃n,l.length=n+1:=⟨l.length - 1,by omega⟩;rw [hn];show (if l=[] then true else _)= _;rw [if_neg h];by_cases a:iU l=0
 .rw [if_pos a,if_pos a]
 .rw [if_neg a,if_neg a];exact yQ _ _ _ (by rw [aaz];omega) (aal _)
def eV (b:UInt8):Bool:=decide (b.toNat < 128)||decide (b.toNat > 191)
def chars (s:LB):Nat:=s.countP eV
theorem BL (s:LB):chars s<=s.length:=List.countP_le_length
theorem M0 {l:LB} (h:l≠[]) (c:iU l≠0):chars l=1+chars (l.drop (iU l)):=by
 have a:=uY h
 match l,h with
 | [b],_=>
  have h1:iU [b]=1:=by simp only [abd] at a;omega
  have r:b.toNat < 128:=by
   rcases qM [b] with ⟨n,_⟩ | ⟨_,n,_⟩ | ⟨n,_⟩
   .omega
   .exact n
   .omega
  rw [h1];simp [chars,eV,r]
 | b::e::l,_=>
  unfold iU at c a ⊢;unfold oO at c a ⊢;simp only [List.getD_cons_zero,List.getD_cons_succ] at c a ⊢;by_cases o:b.toNat < 128
  .rw [if_pos o];simp [chars,eV,o,abv]
  rw [if_neg o] at c a ⊢;by_cases p:194<=b.toNat/\b.toNat<=223
  .rw [if_pos p] at c a ⊢;by_cases d:(b::e::l).length < 2\/e.toNat < 128\/191 < e.toNat
   .rw [if_pos d] at c;omega
   rw [if_neg d];have g:eV b=true:=by simp only [eV,aa0,aaZ];omega
   have i:eV e=false:=by simp only [eV,aaY,abk];omega
   simp [chars,g,i,abv]
  rw [if_neg p] at c a ⊢
  match l with
  | []=>
   exfalso;simp only [aae,aai] at c a;revert c
   repeat' split
   all_goals omega
  | [f]=>
   simp only [aae,aai,List.getD_cons_zero] at c a ⊢;by_cases j:224<=b.toNat/\b.toNat<=239
   .rw [if_pos j] at c a ⊢;by_cases d:0+1+1+1 < 3\/e.toNat < 128\/191 < e.toNat\/f.toNat < 128\/191 < f.toNat\/(b.toNat=224/\e.toNat < 160)\/(b.toNat=237/\159 < e.toNat)
    .rw [if_pos d] at c;omega
    rw [if_neg d];have g:eV b=true:=by simp only [eV,aa0,aaZ];omega
    have i:eV e=false:=by simp only [eV,aaY,abk];omega
    have k:eV f=false:=by simp only [eV,aaY,abk];omega
    simp [chars,g,i,k]
   rw [if_neg j] at c a ⊢;exfalso;revert c
   repeat' split
   all_goals omega
  | f::m::l=>
   simp only [List.getD_cons_zero,List.getD_cons_succ] at c a ⊢;by_cases j:224<=b.toNat/\b.toNat<=239
   .rw [if_pos j] at c a ⊢;by_cases d:(b::e::f::m::l).length < 3\/e.toNat < 128\/191 < e.toNat\/f.toNat < 128\/191 < f.toNat\/(b.toNat=224/\e.toNat < 160)\/(b.toNat=237/\159 < e.toNat)
    .rw [if_pos d] at c;omega
    rw [if_neg d];have g:eV b=true:=by simp only [eV,aa0,aaZ];omega
    have i:eV e=false:=by simp only [eV,aaY,abk];omega
    have k:eV f=false:=by simp only [eV,aaY,abk];omega
    simp [chars,g,i,k,abv]
   rw [if_neg j] at c a ⊢;by_cases q:240<=b.toNat/\b.toNat<=244
   .rw [if_pos q] at c a ⊢;by_cases d:(b::e::f::m::l).length < 4\/e.toNat < 128\/191 < e.toNat\/f.toNat < 128\/191 < f.toNat\/m.toNat < 128\/191 < m.toNat\/(b.toNat=240/\e.toNat < 144)\/(b.toNat=244/\143 < e.toNat)
    .rw [if_pos d] at c;omega
    rw [if_neg d];have g:eV b=true:=by simp only [eV,aa0,aaZ];omega
    have i:eV e=false:=by simp only [eV,aaY,abk];omega
    have k:eV f=false:=by simp only [eV,aaY,abk];omega
    have s:eV m=false:=by simp only [eV,aaY,abk];omega
    simp [chars,g,i,k,s,abv]
   .rw [if_neg q] at c;omega
theorem Af: ∀(n:Nat) (s:ByteArray) (p:Nat),s.size<=p+n->cb (s.data.toList.drop p)=true->runeCountFrom s n p=chars (s.data.toList.drop p)
 | 0,s,p,h,_=>by
  have:s.data.toList.drop p=[]:=List.drop_eq_nil_of_le (by rw [<- size_eq];omega);rw [this];rfl
 | n+1,s,p,h,a=>by
  unfold runeCountFrom;by_cases hp:p < s.size
  .rw [if_pos hp];have b:s.data.toList.drop p≠[]:=by
    intro e;have:=aaU List.length e;rw [aaz, <- size_eq] at this;simp at this;omega
   rw [kC b] at a;by_cases c:iU (s.data.toList.drop p)=0
   .rw [if_pos c] at a;cases a
   rw [if_neg c,abw] at a;have f:(Utf8.decode s p).2=iU (s.data.toList.drop p):=by
    rw [<- decodeL_drop];rcases qM (s.data.toList.drop p) with ⟨h1,_⟩ | ⟨h1,_,d⟩ | ⟨_,d⟩
    .exact absurd h1 c
    .rw [h1,d]
    .exact d
   rw [f,Af n s _ (by omega) a,M0 b c,abw]
  .rw [if_neg hp];have:s.data.toList.drop p=[]:=List.drop_eq_nil_of_le (by rw [<- size_eq];omega);rw [this];rfl
theorem yG {l:LB} (h:cb l=true):runeCountL l=chars l:=by
 have:=Af l.length ⟨l.toArray⟩ 0 (by simp [ByteArray.size]) (by simpa using h);simpa [runeCountL,runeCount,ByteArray.size] using this
section
variable {β:Type} {O:tf}
theorem fO {f:LA->df AV} {args:LA} {v:AV} (h:f args= .ok v) (st:St) (K:Kv β):cE O (dK (.lib f) args) st K=K v st q0:=by
 simp only [cE,oq,dK,h,oN,ai]
theorem yV {s:LB} (h:s.length < 9223372036854775807):jB [.str s]= .ok (.int .i64 (runeCountL s)):=by
 simp only [jB,cZ.2 h]
theorem yN {s:LB} (h:s.length<=9223372036854775807):kK [.str s]= .ok (.bool (cb s)):=by
 simp only [kK,aaL h,Mt]
theorem Fg {s:LB} {n:Nat} (h:s.length * n<=140737488355328) (hn:n<=9223372036854775807):lS [.str s,.int .i64 (n:Int)]= .ok (.str (repeatL s n)):=by
 show (match (s.length * n).ble 140737488355328&&n.ble 9223372036854775807 with | true=> _ | false=> _)= _;rw [aaL h,aaL hn];rfl
theorem uw (c:UInt8): ∀(s:LB),decide (0<=indexByte s c)=s.any fun b=>b==c
 | []=>rfl
 | b::l=>by
  have ih:=uw c l;unfold indexByte;rw [aby];cases b==c with
  | true=>rfl
  | false=>
   rw [if_neg (by simp),abo, <- ih];by_cases h:(indexByte l c== -1)=true
   .rw [if_pos h];have:=eq_of_beq h;rw [this]
   .rw [if_neg h];have hn:indexByte l c≠ -1:=fun e=>h (by rw [e];rfl);by_cases h0:0<=indexByte l c
    .rw [abz h0,abz (by omega)]
    .rw [abu h0,abu (by omega)]
theorem BV (s:LB) (c:UInt8):gE [.str s,.str [c]]= .ok (.bool (s.any fun b=>b==c)):=by
 simp only [gE,uw]
theorem repeatL_one (c:UInt8): ∀(n:Nat),repeatL [c] n=List.replicate n c:=fun n=>by
 have:=repeatL_replicate c 1 n;simpa using this
end
end Go.VM
namespace Go.VM
open Go
@[simp] theorem kg (v:AV):oneOf [v]=v:=id rfl
@[simp] theorem Ww (cs:LA):notNil (.ip cs)=true:=id rfl
@[simp] theorem dP (i o:Nat):notNil (.mp i o)=true:=id rfl
@[simp] theorem vA (a:AV) (l:LA):(a::l).drop 1=l:=id rfl
@[simp] theorem aab (a b:AV) (l:LA):(a::b::l).drop 2=l:=id rfl
@[simp] theorem Xo (a b c:AV) (l:LA):(a::b::c::l).drop 3=l:=id rfl
@[simp] theorem aac (a b c d:AV) (l:LA):(a::b::c::d::l).drop 4=l:=id rfl
@[simp] theorem aaa (a b c d e:AV) (l:LA):(a::b::c::d::e::l).drop 5=l:=id rfl
@[simp] theorem ZM (a:AV) (l:LA):jx 1 true (a::l)=some (.agg [a]):=id rfl
@[simp] theorem yb (a b:AV) (l:LA):jx 2 true (a::b::l)=some (.agg [a,b]):=id rfl
@[simp] theorem YY (a b c:AV) (l:LA):jx 3 true (a::b::c::l)=some (.agg [a,b,c]):=id rfl
@[simp] theorem EF (a b c d:AV) (l:LA):jx 4 true (a::b::c::d::l)=some (.agg [a,b,c,d]):=id rfl
@[simp] theorem lu (cs:LA):AV.cells (.agg cs)=cs:=id rfl
@[simp] theorem Wy (s:LB):AV.cells (.str s)=[.str s]:=id rfl
@[simp] theorem WO (k:IntKind) (n:Int):AV.cells (.int k n)=[.int k n]:=id rfl
@[simp] theorem Yk (f:Fn) (a b:LA):AV.cells (.fn f a b)=[.fn f a b]:=id rfl
@[simp] theorem SO (i:Nat) (o:VM.Obj):apart q0 ⟨[],.made i o⟩=true:=id rfl
@[simp] theorem To (i:Nat) (o:VM.Obj):apart ⟨[],.kept⟩ ⟨[],.made i o⟩=true:=id rfl
@[simp] theorem qq (i:Nat) (o:VM.Obj):apart ⟨[],.kept⟩ ⟨[i],.wrote i o⟩=true:=id rfl
theorem wrapN {n:Nat} (h:n<=9223372036854775807):IntKind.wrap .i64 (n:Int)=(n:Int):=wrap_i64 (by omega) (by omega)
theorem rA {n m:Nat} (h:n+m<=9223372036854775807):IntKind.wrap .i64 ((n:Int)+(m:Int))=((n+m:Nat):Int):=by rw [<- Int.natCast_add];exact wrapN h
theorem ck {n:Nat} (h:n+1<=9223372036854775807):IntKind.wrap .i64 ((n:Int)+1)=((n+1:Nat):Int):=rA (m:=1) h
theorem A7 {n:Nat} (h:n+2<=9223372036854775807):IntKind.wrap .i64 ((n:Int)+2)=((n+2:Nat):Int):=rA (m:=2) h
theorem HO {n m:Nat} (h:m<=n) (hn:n<=9223372036854775807):IntKind.wrap .i64 ((n:Int) - (m:Int))=((n - m:Nat):Int):=by rw [<- wrapN (n:=n - m) (by omega)];congr 1;omega
theorem jX {a b:Nat} (h:a<=b):Nat.ble a b=true:=aaL h
theorem sA {st st':St} {z:Nat} {e:Td} {v:AV} {es:LA} {but:Nat->Prop} (h:iX st z e v es) (k:aZ st st' but) (b: ∀j,eW v j->¬ but j):iX st' z e v es:=by
 refine ⟨by rw [k.ro];exact aaR h.1 k.h,h.2.1, ?_⟩;rcases h.2.2 with h | h | ⟨j,a,c,d⟩
 .exact .inl h
 .exact .inr (.inl h)
 .exact .inr (.inr ⟨j,a,k.old _ _ (b j ⟨_,_,a⟩) c,by rw [k.ro];exact d⟩)
theorem zv {st:St} {z:Nat} {e:Td} {x:AV} {es:LA} (h:iX st z e x es) {k:Nat} {v:AV} (b:es[k]? =some v) {β:Type} (st':St) (K:AV->Ln->Oq β):bL z x (k:Int) st' K=K (.ip v.cells) []:=by
 have a:k < es.length:=(abB.1 b).1;have c:z.beq z=true:=aa9 z;have hi:oy (k:Int) es.length=some k:=by
  show (match k.blt es.length with | true=>some k | false=>none)= _;rw [cZ.2 a]
 have hn:Fk es k=some v:=Ee b;rcases h.2.2 with ⟨rfl | rfl,rfl⟩ | rfl | ⟨j,rfl,_⟩
 .simp at a
 .simp at a
 .simp only [bL,H9,c,hi,hn,ai]
 .simp only [bL,H9,c,hi,hn,ai]
theorem EW {st:St} {z:Nat} {e:Td} {x:AV} {es:LA} (h:iX st z e x es) {β:Type} (K:Nat->Oq β):dm x K=K es.length:=by
 rcases h.2.2 with ⟨rfl | rfl,rfl⟩ | rfl | ⟨k,rfl,_⟩ <;> rfl
theorem QD {st:St} {z b:Nat} {e:Td} {v:AV} {es:LA} (w:AV) (h:iX st z e v es) (a:dn (es.length+1) ⟨.other,z,b,[],false,false⟩=true):
  ∃v' st',iX st' z e v' (es++[w])/\aZ st st' (eW v)/\ ∃x,∀{β:Type} (K:Kv β),eI z b e v [w] st K=K v' st' x:=by
 obtain ⟨v',st',x,c,d,f,_⟩:=sX (b:=b) (new:=[w]) h (by simp) a;exact ⟨v',st',d,f,x,fun K=>oU c K⟩
theorem vN {n z b:Nat} (hn:n<=1000000000) (a:b<=1000) (c:1<=z):dn n ⟨.other,z,b,[],false,false⟩=true:=by
 have:n * b<=1000000000 * 1000:=ab6 hn a;simp only [dn,jX (show n * b<=70368744177664 by omega),jX (show n<=70368744177664 by omega),jX c];rfl
theorem ri {st:St} {z:Nat} {e:Td} {v:AV} {es:LA} (h:iX st z e v es): ∃x,aO z x es/\ ∀n,freeze st 0 (n+1) v= .ok x:=by
 rcases h with ⟨_,hl,⟨rfl | rfl,rfl⟩ | rfl | ⟨k,rfl,_,_⟩⟩
 .exact ⟨.ax,aO.ax,fun _=>rfl⟩
 .exact ⟨.es,aO.emp,fun _=>rfl⟩
 .exact ⟨.sl z es .shut,aO.shut hl,fun _=>rfl⟩
 .exact ⟨.sl z es .wide,aO.wide hl,fun _=>rfl⟩
theorem GO {st:St} {z:Nat} {e:Td} {v u:AV} {es:LA} (h:iX st z e v es) (b:Fz 1 u) (c:bare u=true): ∃x,aO z x es/\ ∀{β:Type} (K:AV->Oq β),eF st 0 (.tup [v,u]) K=K (.tup [x,u]):=by
 obtain ⟨x,hx,d⟩:=ri h;refine ⟨x,hx,fun K=> ?_⟩;have f:freeze st 0 100 (.tup [v,u])= .ok (.tup [x,u]):=by
  show (do pure (.tup (<- lB (freeze st 0 99) [v,u])):df AV)= _;have a:lB (freeze st 0 99) [v,u]= .ok [x,u]:=by
   simp only [lB,d 98,b st 0 99 (by omega),aA,aH]
  rw [a];rfl
 have a:bare (.tup [x,u])=true:=by
  show (bare x&&(bare u&&true))=true;rw [hx.bare,c];rfl
 simp only [eF,f,a,aG]
theorem nr {c d:UInt8} (h:c≠d):¬ ((c.toNat:Nat):Int)=(d.toNat:Int):=by
 intro k;have:c.toNat=d.toNat:=by omega
 exact h (abt.1 this)
theorem qO {s:LB} {i:Nat} {c:UInt8} (a:i < s.length) (b:s[i]? =some c):s[i]=c:=by
 have:=aav a;rw [b] at this;exact (abp this).symm
theorem FM {agg:Bool} {β:Type}: ∀{l:LA} (_: ∀v∈l,∀(K:AV->Oq β),Ml agg v K=K v) (K:LA->Oq β),ou agg l K=K l
 | [],_,_=>rfl
 | v::l,h,K=>by
  show Ml agg v (fun v'=>ou agg l fun a=>K (v'::a))= _;rw [h v (by simp),FM fun u b=>h u (aam _ b)]
theorem I6 {z:Nat} {l:LA} (h: ∀v∈l,v.cells.length=z):nz z l=true:=by
 refine aa7.2 fun v a=> ?_;rw [h v a];exact aa9 z
theorem Ka {st:St} {base:Nat} {vs xs:LA} (h:lB (freeze st base 99) vs= .ok xs) (a:bH xs=true) {β:Type} (K:AV->Oq β):eF st base (.tup vs) K=K (.tup xs):=by
 have e:freeze st base 100 (.tup vs)= .ok (.tup xs):=by
  show (do pure (.tup (<- lB (freeze st base 99) vs)):df AV)= _;rw [h];rfl
 have b:bare (.tup xs)=true:=a;simp only [eF,e,b,aG]
theorem bF {g:AV->df AV} {v x:AV} {vs xs:LA} (h:g v= .ok x) (hs:lB g vs= .ok xs):lB g (v::vs)= .ok (x::xs):=by
 simp only [lB,h,hs,aA,aH]
theorem nV {g:AV->df AV}:lB g []= .ok []:=rfl
theorem Db {β:Type} {O:tf} (v:AV) (st:St) (K:Kv β):cE O (.ok (.val v)) st K=K v st q0:=id rfl
theorem Kr {O:tf} {st:St} {id:Nat} {t:Td} {z:Nat} {old cs:LA} (v:AV) (b:st.get id= .ok (.cells t old)) (hl:old.length=z) (c:cs.length=z) (a:st.ro<=id):
  ∃st',st'.get id= .ok (.cells t cs)/\aZ st st' (· =id)/\st'.h=st.h/\ ∃d,∀{β:Type} (K:Kv β),aK O z (.mp id 0) v cs st K=K undef st' d:=by
 refine ⟨st.put id (.cells t cs),St.aN (St.ca.1 b).1,aZ.put rfl,rfl,⟨[id],.wrote id (.cells t (cO old 0 cs))⟩,fun K=> ?_⟩;rw [dp b c (by omega) a,lT (by omega)]
theorem Qq {b:UInt8} (h:b.toNat < 128) (l:LB):iU (b::l)=1:=by
 show oO _ b.toNat _ _ _=1;unfold oO;rw [if_pos h]
theorem DG: ∀(l:LB),(∀b∈l,b.toNat < 128)->cb l=true
 | [],_=>rfl
 | b::l,h=>by
  rw [kC (by simp),Qq (h b (by simp)),if_neg (by omega)];exact DG l fun c a=>h c (aam _ a)
def Rf (d:Nat) (v:AV):Prop:= ∀f,d<=f->iC f v v=true
theorem Rf.mono {d e:Nat} {v:AV} (h:Rf d v) (a:d<=e):Rf e v:=fun f hf=>h f (aaR a hf)
theorem wH: ∀s:LB,oF s s=true
 | []=>rfl
 | a::l=>by simp only [oF,aa9];exact wH l
theorem ny {g:AV->AV->Bool}: ∀{l:LA},(∀v∈l,g v v=true)->fK g l l=true
 | [],_=>rfl
 | v::l,h=>by simp only [fK,h v (by simp)];exact ny fun u a=>h u (aam _ a)
theorem x7 (k:IntKind) (n:Int):Rf 1 (.int k n):=fun f hf=>by cases f with | zero=>omega | succ f=>show (decide (k=k)&&decide (n=n))=true;simp
theorem IG (s:LB):Rf 1 (.str s):=fun f hf=>by cases f with | zero=>omega | succ f=>exact wH s
theorem EX:Rf 1 .ax:=fun f hf=>by cases f with | zero=>omega | succ f=>rfl
theorem Nt:Rf 1 .es:=fun f hf=>by cases f with | zero=>omega | succ f=>rfl
theorem VX {d:Nat} {cs:LA} (h: ∀c∈cs,Rf d c):Rf (d+1) (.agg cs):=fun f hf=>by
 cases f with
 | zero=>omega
 | succ f=>exact ny fun v a=>h v a f (by omega)
theorem yR {d z:Nat} {p:Perm} {cs:LA} (h: ∀c∈cs,Rf d c):Rf (d+1) (.sl z cs p):=fun f hf=>by
 cases f with
 | zero=>omega
 | succ f=>
  show (z.beq z&&decide (p=p)&&fK (iC f) cs cs)=true;rw [ny fun v a=>h v a f (by omega)];simp
theorem MK {st st':St} {i:Nat} {t:Td} {cs:LA} {d:Nat} (h1:st.get i= .ok (.cells t cs)) (a:st'.get i= .ok (.cells t cs)) (h: ∀c∈cs,Rf d c) (b:d<=1000000000000000000):sameAt st st' i=true:=by
 have e:fK (iC 1000000000000000000) cs cs=true:=ny fun v f=>h v f _ b;unfold sameAt;rw [h1,a];show (t.beq t&&fK (iC 1000000000000000000) cs cs)=true;rw [e];simp
theorem Mv {st st':St} {i:Nat} (h:sameAt st st' i=true):apart ⟨[i],.kept⟩ ⟨[],.all st st'⟩=true:=by
 show ([i].all (sameAt st st'))=true;simp [h]
theorem nP {st st':St}:apart ⟨[],.kept⟩ ⟨[],.all st st'⟩=true:=id rfl
theorem Oo {O:tf} {st:St} {id:Nat} {t:Td} {z:Nat} {old cs:LA} (v:AV) (b:st.get id= .ok (.cells t old)) (hl:old.length=z) (c:cs.length=z) (a:st.ro<=id):
  ∃st' o,st'.get id= .ok (.cells t cs)/\aZ st st' (· =id)/\st'.h=st.h/\ ∀{β:Type} (K:Kv β),aK O z (.mp id 0) v cs st K=K undef st' ⟨[id],.wrote id o⟩:=by
 refine ⟨st.put id (.cells t cs),.cells t (cO old 0 cs),St.aN (St.ca.1 b).1,aZ.put rfl,rfl,fun K=> ?_⟩;rw [dp b c (by omega) a,lT (by omega)]
theorem rN {a i:Nat} {o:Obj} (h:a≠i):apart ⟨[a],.kept⟩ ⟨[i],.wrote i o⟩=true:=by
 show (![a].contains i)=true;simp [h.symm]
theorem M3 {i:Nat} {o:Obj}:apart ⟨[],.kept⟩ ⟨[i],.wrote i o⟩=true:=id rfl
theorem aZ.Dw {st st':St} {p:Nat} (k:aZ st st' (· =p)) {j:Nat} {o:Obj} (a:j≠p) (h:st.get j= .ok o):st'.get j= .ok o:=k.old j o a h
theorem aZ.LU {st st':St} {p q:Nat->Prop} (k:aZ st st' p) (h: ∀j,p j->q j):aZ st st' q:=⟨k.ro,k.h,fun j o a=>k.old j o fun hp=>a (h j hp)⟩
theorem aZ.fresh {a b c:St} {p:Nat->Prop} {i:Nat} (h:aZ a b p) (k:aZ b c (· =i)) (hi:a.h<=i):aZ a c p:=
 ⟨k.ro.trans h.ro,aaR h.h k.h,fun j o f d=>k.old j o (fun e=>by
  have:=(St.ca.1 d).1;omega) (h.old j o f d)⟩
def aa {β:Type} (e:Oq β) (Q:β->Prop):Prop:= ∃b,e=some b/\Q b
section
variable {β:Type} {Q:β->Prop} {E:Env} {st:St}
theorem aa.step {e a:Oq β} (h:e=a) (g:aa a Q):aa e Q:=h ▸ g
theorem aa.some {b:β} (h:Q b):aa (.some b) Q:=⟨b,rfl,h⟩
theorem aa.mono {e:Oq β} {a:β->Prop} (h:aa e Q) (k: ∀b,Q b->a b):aa e a:=by
 obtain ⟨b,e,h⟩:=h;exact ⟨b,e,k b h⟩
theorem aa.bind {α:Type} {e:Oq α} {R:α->Prop} {K:α->Oq β} (h:aa e R) (g: ∀a,R a->aa (K a) Q):aa (aC e K) Q:=by
 obtain ⟨a,e,h⟩:=h;rw [e];exact g a h
theorem aa.wide {F:FuncId} {args:LA} {Q:AV×St->Prop} (h:aa (dT E F args st) Q):aa ((aQ E).wide F args st) Q:=by
 obtain ⟨b,e,h⟩:=h;exact ⟨b,iB e,h⟩
theorem aa.bare {F:FuncId} {args:LA} {Q:AV->Prop} (hm:(E.memo F,(E.rule F).isSome)=([],false)) (h:aa (bB E F args) Q):aa ((aQ E).bare F args) Q:=by
 obtain ⟨b,e,h⟩:=h;exact ⟨b,aU hm e,h⟩
theorem aa.gu {F:FuncId} {args:LA} {R:AV×St->Prop} (h:aa ((aQ E).wide F args st) R) (h1:E.isLook F=false) (a:(bH (args.map strip)&& !E.full F)=false) {K:Kv β} (g: ∀v s,R (v,s)->aa (K v s ⟨[],.all st s⟩) Q):aa (bf (aQ E) F args st K) Q:=by
 obtain ⟨⟨v,s⟩,e,h⟩:=h;exact aa.step (fX (E:=E) K h1 a e) (g v s h)
theorem aa.one {v:AV} (h:VM.one v=true) {e:Oq β} (g:aa e Q):aa (ad v e) Q:=aa.step (jH h e) g
abbrev wS:=List (Nat×Td×LA)
structure Vw (st:St) (l:wS):Prop where
 v: ∀q∈l,st.get q.1= .ok (.cells q.2.1 q.2.2)/\st.ro<=q.1
 nd:(l.map (·.1)).Nodup
 ro:st.ro<=st.h
variable {l l1 l2:wS}
theorem Vw.start (h:st.ro<=st.h):Vw st []:=⟨(fun _ h=>by cases h),List.nodup_nil,h⟩
theorem Vw.get (w:Vw st l) {a:Nat} {t:Td} {cs:LA} (h:(a,t,cs)∈l):st.get a= .ok (.cells t cs):=(w.v _ h).1
theorem Vw.sub {a:wS} (w:Vw st l) (h:List.Sublist a l):Vw st a:=⟨fun q b=>w.v q (h.subset b),(h.map _).nodup w.nd,w.ro⟩
theorem Vw.alloc (w:Vw st l) (t:Td) (cs:LA):Vw (st.add (.cells t cs)) ((st.h,t,cs)::l):=by
 refine ⟨fun q a=> ?_, ?_,abQ w.ro⟩
 .rcases aao.1 a with rfl | a
  .exact ⟨St.dZ,w.ro⟩
  .exact ⟨St.kh (w.v q a).1,(w.v q a).2⟩
 .rw [aan,abO];refine ⟨fun hm=> ?_,w.nd⟩;obtain ⟨q,a,e⟩:=aa8.1 hm;have h1:=(St.ca.1 (w.v q a).1).1;simp only at e;omega
theorem Vw.putAt {a:Nat} {t t':Td} {old:LA} (w:Vw st (l1++(a,t,old)::l2)) (cs:LA):Vw (st.put a (.cells t' cs)) (l1++(a,t',cs)::l2):=by
 have hm:(a,t,old)∈l1++(a,t,old)::l2:=List.mem_append_right _ aag;have f:=w.get hm;have hnd:=w.nd;rw [aaG,aan] at hnd;refine ⟨fun q b=> ?_,by rw [aaG,aan];exact hnd,w.ro⟩;have other: ∀q∈l1++(a,t,old)::l2,q.1≠a->(st.put a (.cells t' cs)).get q.1= .ok (.cells q.2.1 q.2.2)/\st.ro<=q.1:=fun q b c=>
  ⟨by rw [St.aT (fun e=>c e.symm)];exact (w.v q b).1,(w.v q b).2⟩
 rcases aaC.1 b with b | b
 .refine other q (List.mem_append_left _ b) fun e=> ?_;have:=(List.nodup_append.1 hnd).2.2 q.1 (List.mem_map_of_mem b) a aag;exact this e
 .rcases aao.1 b with rfl | b
  .exact ⟨St.aN (St.ca.1 f).1,(w.v _ hm).2⟩
  .refine other q (List.mem_append_right _ (aam _ b)) fun e=> ?_;have h1:=(abO.1 (List.nodup_append.1 hnd).2.1).1;have d:q.1∈l2.map (·.1):=List.mem_map_of_mem b;rw [e] at d;exact h1 d
theorem aa.Au (w:Vw st l) {ty:Td} {cs:LA} {K:St->Oq β} (g: ∀s,s.h=st.h+1->Vw s ((st.h,ty,cs)::l)->aa (K s) Q):aa (bM (st.add (.cells ty cs)) K) Q:=g _ rfl (w.alloc ty cs)
theorem aa.qC {O:tf} (l1:wS) {a:Nat} {ty:Td} {old:LA} (w:Vw st (l1++(a,ty,old)::l2)) {z:Nat} {v:AV} {cs:LA} {K:Kv β}
  (g: ∀s b,s.h=st.h->Vw s (l1++(a,ty,cs)::l2)->aa (K VM.undef s b) Q) (d:old.length=z:=by rfl) (c:cs.length=z:=by rfl):aa (aK O z (.mp a 0) v cs st K) Q:=by
 have hm:(a,ty,old)∈l1++(a,ty,old)::l2:=List.mem_append_right _ aag;have e:aK O z (.mp a 0) v cs st K=K VM.undef (st.put a (.cells ty cs)) ⟨[a],.wrote a (.cells ty cs)⟩:=by
  rw [dp (w.get hm) c (by omega) (w.v _ hm).2,lT (by omega)]
 exact aa.step e (g _ _ rfl (w.putAt cs))
theorem aa.EG {O:tf} (l1:wS) {a:Nat} {ty:Td} {old:LA} (w:Vw st (l1++(a,ty,old)::l2)) {off:Nat} {v:AV} (hl:off+1<=old.length) {K:Kv β}
  (g: ∀s b,s.h=st.h->Vw s (l1++(a,ty,cO old off [v])::l2)->aa (K VM.undef s b) Q):aa (aK O 1 (.mp a off) v [v] st K) Q:=by
 have hm:(a,ty,old)∈l1++(a,ty,old)::l2:=List.mem_append_right _ aag;exact aa.step (dp (cs:=[v]) (z:=1) (w.get hm) rfl hl (w.v _ hm).2 K) (g _ _ rfl (w.putAt _))
theorem aa.ff {a:Nat} {ty:Td} {cs:LA} (hm:(a,ty,cs)∈l) (w:Vw st l) {o:Nat} {v:AV} {post:LA} (b:cs.drop o=v::post) {K:AV->Ln->Oq β} (g:aa (K v [a]) Q):aa (ao 1 false (.mp a o) st K) Q:=by
 refine aa.step (bq (w.get hm) _ _ _ _) ?_;rw [b];exact g
theorem aa.fo {a:Nat} {ty:Td} {cs:LA} (hm:(a,ty,cs)∈l) (w:Vw st l) {z:Nat} (b:cs.length=z) {K:AV->Ln->Oq β} (g:aa (K (.agg cs) [a]) Q):aa (ao z true (.mp a 0) st K) Q:=by
 refine aa.step (bq (w.get hm) _ _ _ _) ?_;rw [aaw,Ms b];exact g
theorem aa.eq {e:Oq β} {b:β} (h:aa e (· =b)):e= .some b:=by
 obtain ⟨c,e,rfl⟩:=h;exact e
end
end Go.VM
namespace Go.Lay
open Go.VM Go.Lib
inductive Doc where
 | mk (kind:Int) (text:LB) (n:Int) (kids:List Doc)
 deriving Inhabited
mutual
def sK:Doc->Bool
 | .mk k _ _ kids=>k==4||Ep kids
def Ep:List Doc->Bool
 | []=>false
 | d::l=>sK d||Ep l
end
mutual
def gO:Doc->Nat
 | .mk _ _ _ kids=>1+bR kids
def bR:List Doc->Nat
 | []=>0
 | d::l=>gO d+bR l
end
theorem wk: ∀(d:Doc),1<=gO d
 | .mk _ _ _ _=>by simp [gO]
abbrev jV:=Doc×Int×Bool
def rO:List jV->Nat
 | []=>0
 | t::l=>gO t.1+rO l
mutual
def zg:Doc->Nat
 | .mk _ s _ kids=>s.length+pZ kids
def pZ:List Doc->Nat
 | []=>0
 | d::l=>zg d+pZ l
end
def dD:List jV->Nat
 | []=>0
 | t::l=>zg t.1+dD l
def ej (ks:List Doc) (i:Int) (f:Bool):List jV:=ks.map fun d=>(d,i,f)
theorem fJ (ks:List Doc) (i:Int) (f:Bool) (l:List jV):rO (ej ks i f++l)=bR ks+rO l:=by
 induction ks with
 | nil=>simp [ej,bR]
 | cons d ks ih=>simp only [ej,aan,aat,rO,bR] at ih ⊢;rw [ih];omega
theorem jb (ks:List Doc) (i:Int) (f:Bool) (l:List jV):dD (ej ks i f++l)=pZ ks+dD l:=by
 induction ks with
 | nil=>simp [ej,pZ]
 | cons d ks ih=>simp only [ej,aan,aat,dD,pZ] at ih ⊢;rw [ih];omega
theorem Ew: ∀(l:List jV),l.length<=rO l
 | []=>aal _
 | t::l=>by have:=Ew l;have:=wk t.1;simp only [aae,rO];omega
theorem BA: ∀(l:List Doc),l.length<=bR l
 | []=>aal _
 | t::l=>by have:=BA l;have:=wk t;simp only [aae,bR];omega
def ua (w:Int):Nat->List jV->Int->Bool
 | 0,_,c=>decide (c<=w)
 | _+1,[],c=>decide (c<=w)
 | n+1,(.mk k s _ kids,i,f)::l,c=>
  if c > w then false
  else if k=1 then ua w n l (c+chars s)
  else if k=2\/k=3 then (if f=false then true else ua w n l (if k=2 then c+1 else c))
  else if k=4 then true
  else ua w n (ej kids i (f||k==6)++l) c
def kW (w:Int):Nat->List jV->Int->LB
 | 0,_,_=>[]
 | _+1,[],_=>[]
 | n+1,(.mk k s m kids,i,f)::l,c=>
  if k=1 then s++kW w n l (c+chars s)
  else if k=5 then kW w n (ej kids (i+m) f++l) c
  else if k=6 then
   let flat:=f||(!sK (.mk k s m kids)&&ua w (rO (ej kids i true++l)) (ej kids i true++l) c)
   kW w n (ej kids i flat++l) c
  else if k=7 then kW w n (ej kids i f++l) c
  else if f=true/\k≠4 then (if k=2 then 32::kW w n l (c+1) else kW w n l c)
  else 10::(List.replicate i.toNat 32++kW w n l i)
def VV (k m:Int):Bool:=(k==1||k==2||k==3||k==4||k==6||k==7)&&m==0||k==5&&decide (0<=m)&&decide (m<=200)
def XY (I:Int) (l:List jV):Prop:= ∀t∈l,0<=t.2.1/\t.2.1<=I
theorem Aa {I J i:Int} {ks:List Doc} {f:Bool} {l:List jV} (h:XY I l) (hi:0<=i) (b:i<=J) (c:I<=J):XY J (ej ks i f++l):=by
 intro t a;rcases aaC.1 a with a | a
 .obtain ⟨d,_,rfl⟩:=aa8.1 a;exact ⟨hi,b⟩
 .have:=h t a;omega
def Nj (k:Int) (s:LB) (m:Int) (none:Bool):Bool:=
 if k=1 then m==0&&none&&cb s&& !(s.any fun b=>b==10)&& !(s.any fun b=>b==13)
 else if k=2\/k=3\/k=4 then m==0&&none&&s==[]
 else if k=5 then decide (0<=m)&&decide (m<=200)&&s==[]
 else if k=6\/k=7 then m==0&&s==[]
 else false
mutual
def pO:Doc->Bool
 | .mk k s m kids=>Nj k s m kids.isEmpty&&rG kids
def rG:List Doc->Bool
 | []=>true
 | d::l=>pO d&&rG l
end
def Aw:List jV->Bool
 | []=>true
 | t::l=>pO t.1&&Aw l
theorem RF {k:Int} {s:LB} {m:Int} {b:Bool} (h:Nj k s m b=true):VV k m=true:=by
 unfold Nj at h;unfold VV;simp only [aa0,aak,aaX,aaZ];split at h
 .simp only [aak,aaX] at h;omega
 .split at h
  .simp only [aak,aaX] at h;omega
  .split at h
   .simp only [aak,aaZ] at h;omega
   .split at h
    .simp only [aak,aaX] at h;omega
    .cases h
theorem pP {ks:List Doc} {i:Int} {f:Bool} {l:List jV} (h1:rG ks=true) (a:Aw l=true):Aw (ej ks i f++l)=true:=by
 induction ks with
 | nil=>simpa [ej] using a
 | cons d ks ih=>
  simp only [rG,aak] at h1;have:=ih h1.2;simp only [ej,aan,aat,Aw,aak] at this ⊢;exact ⟨h1.1,this⟩
def Gc (d:Doc) (w:Int):LB×Int:=
 if w < 1\/w > 200 then ([],1) else if pO d=false then ([],4) else (kW w (gO d) [(d,0,false)] 0,0)
end Go.Lay
namespace Go.Lex
open Go.VM
def wh (p:UInt8->Bool) (s:LB):Nat:=(s.takeWhile p).length
def cr (b:UInt8):Bool:=b==32||b==9||b==10||b==13
def lb (b:UInt8):Bool:=(decide (97<=b.toNat)&&decide (b.toNat<=122))||b==95
def aW (b:UInt8):Bool:=decide (48<=b.toNat)&&decide (b.toNat<=57)
def iI (b:UInt8):Bool:=lb b||aW b||(decide (65<=b.toNat)&&decide (b.toNat<=90))||b==39
def rem:LB->Nat->Oq Nat
 | [],_=>none
 | [_],_=>none
 | a::b::l,d=>
  if a=40/\b=42 then (rem l (d+1)).map (· +2)
  else if a=42/\b=41 then (if d=1 then some 2 else (rem l (d - 1)).map (· +2))
  else (rem (b::l) d).map (· +1)
def words:List LB:=[[108,101,116],[114,101,99],[105,110],[102,117,110],[105,102],[116,104,101,110],[101,108,115,101],[109,97,116,99,104],[119,105,116,104],[116,114,117,101],[102,97,108,115,101],[109,111,100]]
def um (w:LB):Nat:=if w=[95] then 8 else if words.contains w then 3 else 4
def yi (a:Nat) (c:UInt8):Nat:=a * 10+(c.toNat - 48)
def nB (acc:Nat) (l:LB):Nat:=l.foldl yi acc
theorem HQ (a:Nat):nB a []=a:=id rfl
theorem Dr (a:Nat) (c:UInt8) (l:LB):nB a (c::l)=nB (yi a c) l:=id rfl
def A5 (c:UInt8):Bool:=c==43||c==45
def iL:LB->Nat
 | c:: _=>if A5 c then 1 else 0
 | []=>0
def jA (s:LB):Nat×Int:=
 match s with
 | []=>(0,0)
 | e::l=>
  if e=101\/e=69 then
   let d:=wh aW (l.drop (iL l))
   if d=0 then (0,0)
   else
    let x:Int:=((min (nB 0 ((l.drop (iL l)).take d)) 1000000:Nat):Int)
    (1+iL l+d,if l.head?=some 45 then -x else x)
  else (0,0)
def number (s:LB):Nat×Nat:=
 let n:=wh aW s
 if (s.drop n).head?=some 46 then
  let k:=wh aW (s.drop (n+1))
  let x:=jA (s.drop (n+1+k))
  (if n+k > 15\/x.2 - (k:Int) < -22\/x.2 - (k:Int) > 22 then 9 else 6,n+1+k+x.1)
 else (5,n)
def gH:LB->Nat
 | []=>0
 | c::l=>if c=10 then 0 else if c=34 then 1 else gH l+1
def Dq (c:UInt8):Bool:=c==110||c==116||c==92||c==34
def dD:LB->Nat×Nat
 | []=>(9,0)
 | [c]=>if c=10 then (9,0) else if c=34 then (7,1) else (9,1)
 | c::d::l=>
  if c=10 then (9,0) else if c=34 then (7,1)
  else if c=92 then (if Dq d then ((dD l).1,(dD l).2+2) else (9,gH (d::l)+1))
  else ((dD (d::l)).1,(dD (d::l)).2+1)
def iJ:List LB:=[[45,62],[58,58],[60,62],[60,61],[62,61],[43,46],[45,46],[42,46],[47,46],[38,38],[124,124]]
def S9:LB:=[40,41,91,93,44,59,124,61,60,62,43,45,42,47,94,64]
def kS (c:UInt8):Bool:=S9.contains c
def cut (s:LB):Nat×Nat:=
 match s with
 | []=>(9,0)
 | c::l=>
  if cr c then (1,wh cr s)
  else if s.take 2=[40,42] then (match rem (s.drop 2) 1 with | some n=>(2,n+2) | none=>(9,s.length))
  else if lb c then (um (s.takeWhile iI),wh iI s)
  else if aW c then number s
  else if c=34 then ((dD l).1,(dD l).2+1)
  else if iJ.contains (s.take 2) then (8,2)
  else if kS c then (8,1)
  else (9,if iU s=0 then 1 else iU s)
def fQ:Nat->LB->List (Nat×LB)
 | 0,_=>[]
 | n+1,s=>match s with
  | []=>[]
  | _:: _=>((cut s).1,s.take (cut s).2)::fQ n (s.drop (cut s).2)
def tokens (s:LB):List (Nat×LB):=fQ s.length s
theorem qd (p:UInt8->Bool) (s:LB):wh p s<=s.length:=(List.takeWhile_sublist p).length_le
theorem tD (p:UInt8->Bool) (s:LB):s.take (wh p s)=s.takeWhile p:=by
 unfold wh
 induction s with
 | nil=>rfl
 | cons c l ih=>
  rw [aa1];split
  .simp [ih]
  .simp
theorem Sy (p:UInt8->Bool) (s:LB):s.drop (wh p s)=s.dropWhile p:=by
 unfold wh
 induction s with
 | nil=>rfl
 | cons c l ih=>
  rw [aa1,abn];split
  .simp [ih]
  .simp
theorem Va (p:UInt8->Bool) (s:LB):s.length=wh p s+(s.dropWhile p).length:=by
 rw [<- Sy,aaz];have:=qd p s;omega
theorem gf (p:UInt8->Bool) (c:UInt8) (l:LB):wh p (c::l)=if p c=true then wh p l+1 else 0:=by
 unfold wh;rw [aa1];split <;> simp
theorem qG: ∀(s:LB) (d n:Nat),rem s d=some n->2<=n/\n<=s.length
 | [],_,_,h=>by simp [rem] at h
 | [_],_,_,h=>by simp [rem] at h
 | a::b::l,d,n,h=>by
  simp only [rem] at h;split at h
  .obtain ⟨m,hm,rfl⟩:=aaN.1 h;have:=qG l (d+1) m hm;simp;omega
  .split at h
   .split at h
    .cases h;simp
    .obtain ⟨m,hm,rfl⟩:=aaN.1 h;have:=qG l (d - 1) m hm;simp;omega
   .obtain ⟨m,hm,rfl⟩:=aaN.1 h;have:=qG (b::l) d m hm;simp at this ⊢;omega
theorem Ff: ∀(s:LB),gH s<=s.length
 | []=>aal _
 | c::l=>by
  have:=Ff l;simp only [gH];split
  .omega
  .split
   .simp
   .simp;exact this
theorem xZ: ∀(s:LB),(dD s).2<=s.length
 | []=>aal _
 | [c]=>by
  simp only [dD];split
  .simp
  .split <;> simp
 | c::d::l=>by
  have h1:=xZ l;have a:=xZ (d::l);have b:=Ff (d::l);simp only [dD,aae] at *;split
  .simp
  .split
   .simp
   .split
    .split
     .simp;omega
     .simp;omega
    .simp;omega
theorem Ij (l:LB):iL l<=l.length:=by
 cases l with
 | nil=>exact aal _
 | cons c l=>simp only [iL];split <;> simp
theorem RC (s:LB):(jA s).1<=s.length:=by
 unfold jA;cases s with
 | nil=>simp
 | cons e l=>
  dsimp only;split
  .have b:=Ij l;have a:=qd aW (l.drop (iL l));rw [aaz] at a;split
   .simp
   .simp only [aae];omega
  .simp
theorem xj (s:LB) (h:1<=wh aW s):1<=(number s).2/\(number s).2<=s.length:=by
 unfold number;have h1:=qd aW s;dsimp only;split
 .rename_i a;have b:wh aW s < s.length:=by
   rcases Nat.lt_or_ge (wh aW s) s.length with q | q
   .exact q
   .rw [List.drop_of_length_le q] at a;cases a
  have c:=qd aW (s.drop (wh aW s+1));rw [aaz] at c;have d:=RC (s.drop (wh aW s+1+wh aW (s.drop (wh aW s+1))));rw [aaz] at d;dsimp only;omega
 .exact ⟨h,h1⟩
theorem pd {s:LB} (h:s≠[]):1<=(cut s).2/\(cut s).2<=s.length:=by
 cases s with
 | nil=>exact absurd rfl h
 | cons c l=>
  unfold cut;dsimp only;split
  .rename_i a;exact ⟨by rw [gf,if_pos a];omega,qd _ _⟩
  split
  .rename_i b;have hl:2<=(c::l).length:=by
    have:=aaU List.length b;rw [aau] at this;simp at this;simp;omega
   cases f:rem (List.drop 2 (c::l)) 1 with
   | some n=>
    have:=qG _ _ _ f;rw [aaz] at this;dsimp only;omega
   | none=>dsimp only;omega
  split
  .rename_i a;have e:iI c=true:=by unfold iI;rw [a];rfl
   exact ⟨by rw [gf,if_pos e];omega,qd _ _⟩
  split
  .rename_i a;exact xj _ (by rw [gf,if_pos a];omega)
  split
  .have:=xZ l;simp;omega
  split
  .rename_i b;have hl:2<=(c::l).length:=by
    rcases Nat.lt_or_ge (c::l).length 2 with q | q
    .exfalso;have:l=[]:=by
      cases l with
      | nil=>rfl
      | cons d l=>simp at q;omega
     subst this;simp [iJ] at b
    .exact q
   dsimp only;omega
  split
  .simp
  .have:=uY (l:=c::l) (by simp);dsimp only;split
   .simp
   .omega
theorem x6: ∀(n m:Nat) (s:LB),s.length<=n->s.length<=m->fQ n s=fQ m s
 | 0,0,_,_,_=>rfl
 | 0,m+1,s,h,_=>by
  have:s=[]:=aa6 (by omega);subst this;rfl
 | n+1,0,s,_,h=>by
  have:s=[]:=aa6 (by omega);subst this;rfl
 | n+1,m+1,[],_,_=>rfl
 | n+1,m+1,c::l,hn,hm=>by
  have a:=pd (s:=c::l) (by simp);simp only [fQ];rw [x6 n m ((c::l).drop (cut (c::l)).2) (by rw [aaz];omega) (by rw [aaz];omega)]
theorem yn {s:LB} (h:s≠[]):tokens s=((cut s).1,s.take (cut s).2)::tokens (s.drop (cut s).2):=by
 cases s with
 | nil=>exact absurd rfl h
 | cons c l=>
  have a:=pd (s:=c::l) (by simp);show fQ (l.length+1) (c::l)= _;simp only [fQ];congr 1;exact x6 _ _ _ (by rw [aaz];simp at a ⊢;omega) (aal _)
theorem IK:tokens []=[]:=rfl
end Go.Lex
namespace Go.Parse
open Go.VM Go.Lex
abbrev bc:=Nat×LB
inductive T where
 | mk (k tk:Nat) (tx:LB) (kids:List T)
 deriving Inhabited
def T.kids:T->List T | .mk _ _ _ l=>l
def bC (t:bc):Bool:=t.1==1||t.1==2
def nx (r:List bc):bc:=
 match r.dropWhile bC with
 | []=>(0,[])
 | t:: _=>t
def leaf (t:bc) (ks:List T):T:= .mk 1 t.1 t.2 ks
def aY (t:bc):T:=leaf t []
def aV (r:List bc):T:=leaf (nx r) ((r.takeWhile bC).map aY)
def aS (r:List bc):List bc:=(r.dropWhile bC).drop 1
def eH (s:LB) (r:List bc):Bool:=((nx r).1==3||(nx r).1==8)&&(nx r).2==s
def isAny (l:List LB) (r:List bc):Bool:=((nx r).1==3||(nx r).1==8)&&l.any fun s=>s==(nx r).2
def missing (s:LB):T:= .mk 2 0 s []
def dy (s:LB) (r:List bc):T:=if eH s r then aV r else missing s
def bp (s:LB) (r:List bc):List bc:=if eH s r then aS r else r
abbrev node (k:Nat) (l:List T):T:= .mk k 0 [] l
def ub:LB:=[108,101,116]
def eO:LB:=[114,101,99]
def R5:LB:=[105,110]
def VR:LB:=[102,117,110]
def Zu:LB:=[105,102]
def vu:LB:=[116,104,101,110]
def vh:LB:=[101,108,115,101]
def IY:LB:=[109,97,116,99,104]
def bW:LB:=[119,105,116,104]
def rF:LB:=[116,114,117,101]
def mS:LB:=[102,97,108,115,101]
def pD:LB:=[101,120,112,114]
def mo:LB:=[112,97,116,116,101,114,110]
def yu:LB:=[61]
def iw:LB:=[45,62]
def iF:LB:=[124]
def FK:LB:=[58,58]
def py:LB:=[40]
def O0:LB:=[41]
def qY:LB:=[91]
def SF:LB:=[93]
def lI:LB:=[44]
def pK:LB:=[59]
def Ht:LB:=[95]
def opsOf:Nat->List LB
 | 0=>[[124,124]]
 | 1=>[[38,38]]
 | 2=>[[61],[60,62],[60],[60,61],[62],[62,61]]
 | 3=>[[64],[94]]
 | 4=>[[58,58]]
 | 5=>[[43],[45],[43,46],[45,46]]
 | _=>[[42],[47],[42,46],[47,46],[109,111,100]]
def leftOf (k:Nat):Bool:=k==2||k==5||k==6
def dM (pat:Bool) (r:List bc):Bool:=
 (nx r).1==4||(nx r).1==5||(nx r).1==7||(nx r).1==9||(nx r).1==(if pat then 5 else 6)||isAny [rF,mS,py,qY,if pat then Ht else py] r
inductive lX where
 | expr
 | whole
 | level (k:Nat)
 | ops (k:Nat) (acc:T)
 | neg
 | args (acc:T)
 | atom (pat:Bool)
 | closed (list pat:Bool)
 | items (list pat:Bool)
 | pattern
 | binding
 | params
 | arm
 | arms
def lr (what:LB) (r:List bc):T:=if (nx r).1=0 then missing what else node 3 [aV r]
def lq (r:List bc):List bc:=if (nx r).1=0 then r else aS r
def kindOf:Bool->Bool->Nat
 | false,false=>14
 | true,false=>15
 | false,true=>17
 | true,true=>18
def xX (list:Bool):LB:=if list then pK else lI
def jJ (list:Bool):LB:=if list then SF else O0
abbrev R:=Oq (List T×List bc)
def P:Nat->lX->Nat->List bc->R
 | 0,_,_,_=>none
 | n+1,.expr,d,r=>if d=64 then some ([lr pD r],lq r) else P n .whole (d+1) r
 | n+1,.whole,d,r=>
  if eH ub r then do
   let (bs,r2) <- P n .binding d (aS r)
   let (es,f) <- P n .expr d (bp R5 r2)
   some ([node 6 (aV r::bs++[dy R5 r2]++es)],f)
  else if eH VR r then do
   let (a,e) <- P n (.atom true) d (aS r)
   let (ps,r2) <- P n .params d e
   let (es,f) <- P n .expr d (bp iw r2)
   some ([node 7 (aV r::a++ps++[dy iw r2]++es)],f)
  else if eH Zu r then do
   let (a,e) <- P n .expr d (aS r)
   let (b,r2) <- P n .expr d (bp vu e)
   let (c,f) <- P n .expr d (bp vh r2)
   some ([node 8 (aV r::a++[dy vu e]++b++[dy vh r2]++c)],f)
  else if eH IY r then do
   let (a,e) <- P n .expr d (aS r)
   let r2:=bp bW e
   let bar:=if eH iF r2 then [aV r2] else []
   let (b,f) <- P n .arm d (if eH iF r2 then aS r2 else r2)
   let (cs,g) <- P n .arms d f
   some ([node 9 (aV r::a++[dy bW e]++bar++b++cs)],g)
  else P n (.level 0) d r
 | n+1,.level k,d,r=>
  if k=7 then P n .neg d r
  else do
   let (a,e) <- P n (.level (k+1)) d r
   match a with
   | [t]=>P n (.ops k t) d e
   | _=>none
 | n+1,.ops k acc,d,r=>
  if isAny (opsOf k) r then do
   let (b,e) <- P n (.level (if leftOf k then k+1 else k)) d (aS r)
   P n (.ops k (node 11 (acc::aV r::b))) d e
  else some ([acc],r)
 | n+1,.neg,d,r=>
  if isAny [[45],[45,46]] r then
   if d=64 then some ([node 12 [aV r,lr pD (aS r)]],lq (aS r))
   else do
    let (a,e) <- P n .neg (d+1) (aS r)
    some ([node 12 (aV r::a)],e)
  else do
   let (a,e) <- P n (.atom false) d r
   match a with
   | [t]=>P n (.args t) d e
   | _=>none
 | n+1,.args acc,d,r=>
  if dM false r then do
   let (b,e) <- P n (.atom false) d r
   P n (.args (node 13 (acc::b))) d e
  else some ([acc],r)
 | n+1,.atom pat,d,r=>
  if dM pat r then
   if (nx r).1=9 then some ([node 3 [aV r]],aS r)
   else if eH py r then P n (.closed false pat) d r
   else if eH qY r then P n (.closed true pat) d r
   else some ([aV r],aS r)
  else some ([missing (if pat then mo else pD)],r)
 | n+1,.closed list pat,d,r=>
  let e:=aS r
  if eH (jJ list) e then some ([node (kindOf list pat) [aV r,aV e]],aS e)
  else do
   let (a,r2) <- P n (if pat then .pattern else .expr) d e
   let (bs,f) <- P n (.items list pat) d r2
   some ([node (kindOf list pat) (aV r::a++bs++[dy (jJ list) f])],bp (jJ list) f)
 | n+1,.items list pat,d,r=>
  if eH (xX list) r then do
   let (a,e) <- P n (if pat then .pattern else .expr) d (aS r)
   let (bs,r2) <- P n (.items list pat) d e
   some (aV r::a++bs,r2)
  else some ([],r)
 | n+1,.pattern,d,r=>
  if d=64 then some ([lr mo r],lq r)
  else do
   let (a,e) <- P n (.atom true) (d+1) r
   if eH FK e then do
    let (b,r2) <- P n .pattern (d+1) (aS e)
    some ([node 16 (a++aV e::b)],r2)
   else some (a,e)
 | n+1,.binding,d,r=>do
  let rc:=if eH eO r then [aV r] else []
  let r0:=if eH eO r then aS r else r
  let (xs,e) <- if (nx r0).1=4 then (do
    let (ps,e) <- P n .params d (aS r0)
    some (aV r0::ps,e))
   else P n (.atom true) d r0
  let (es,r2) <- P n .expr d (bp yu e)
  some (rc++xs++[dy yu e]++es,r2)
 | n+1,.params,d,r=>
  if dM true r then do
   let (a,e) <- P n (.atom true) d r
   let (bs,r2) <- P n .params d e
   some (a++bs,r2)
  else some ([],r)
 | n+1,.arm,d,r=>do
  let (a,e) <- P n .pattern d r
  let (es,r2) <- P n .expr d (bp iw e)
  some ([node 10 (a++[dy iw e]++es)],r2)
 | n+1,.arms,d,r=>
  if eH iF r then do
   let (a,e) <- P n .arm d (aS r)
   let (bs,r2) <- P n .arms d e
   some (aV r::a++bs,r2)
  else some ([],r)
def skip:Nat->List bc->List T×List bc
 | 0,r=>([],r)
 | n+1,r=>if (nx r).1≠0/\eH ub r=false then ((aV r::(skip n (aS r)).1),(skip n (aS r)).2) else ([],r)
def decls:Nat->List bc->Oq (List T)
 | 0,_=>none
 | n+1,r=>
  if (nx r).1=0 then some [aV r]
  else if eH ub r then do
   let (bs,a) <- P n .binding 0 (aS r)
   let l <- decls n a
   some (node 5 (aV r::bs)::l)
  else do
   let l <- decls n (skip r.length r).2
   some (node 3 (skip r.length r).1::l)
def fuel (r:List bc):Nat:=30 * (r.length+2)
def doc (r:List bc):T:=node 4 ((decls (fuel r) r).getD [])
theorem GX (r:List bc):(r.dropWhile bC).length<=r.length:=(abA _).length_le
theorem mE (r:List bc):(aS r).length<=r.length:=by
 unfold aS;rw [aaz];have:=GX r;omega
theorem fg {r:List bc} (h:(nx r).1≠0):(aS r).length < r.length:=by
 unfold aS;rw [aaz];have:=GX r;unfold nx at h;cases a:r.dropWhile bC with
 | nil=>rw [a] at h;exact absurd rfl h
 | cons t l=>rw [a] at this;simp at this ⊢;omega
theorem jd {s:LB} {r:List bc} (h:eH s r=true):(nx r).1≠0:=by
 intro e;simp [eH,e] at h
theorem rV {l:List LB} {r:List bc} (h:isAny l r=true):(nx r).1≠0:=by
 intro e;simp [isAny,e] at h
theorem pA {pat:Bool} {r:List bc} (h:dM pat r=true):(nx r).1≠0:=by
 intro e;cases pat <;> simp [dM,isAny,e] at h
theorem kH (s:LB) (r:List bc):(bp s r).length<=r.length:=by
 unfold bp;split
 .exact mE r
 .exact aal _
theorem B7 (r:List bc):(lq r).length<=r.length:=by
 unfold lq;split
 .exact aal _
 .exact mE r
def eK:lX->Nat
 | .expr=>13
 | .whole=>12
 | .level k=>11 - k
 | .ops _ _=>0
 | .neg=>3
 | .args _=>2
 | .atom _=>1
 | .closed _ _=>0
 | .items _ _=>0
 | .pattern=>13
 | .binding=>14
 | .params=>2
 | .arm=>14
 | .arms=>0
def Ox:lX->Prop
 | .level k=>k<=7
 | .ops k _=>k<=6
 | _=>True
def single:lX->Bool
 | .items _ _=>false
 | .binding=>false
 | .params=>false
 | .arms=>false
 | _=>true
def VZ:lX->List bc->Prop
 | .atom pat,r=>dM pat r=true
 | .closed _ _,r=>(nx r).1≠0
 | _,_=>False
def at':lX->List bc->Prop
 | .closed _ _,r=>(nx r).1≠0
 | _,_=>True
structure Tu (job:lX) (r:List bc) (x:R):Prop where
 some: ∃l r',x=some (l,r')/\r'.length<=r.length/\(single job=true-> ∃t,l=[t])/\(VZ job r->r'.length < r.length)
theorem cC {job:lX} {r r':List bc} {l:List T} {x:R} (h:x= .some (l,r')) (h1:r'.length<=r.length) (a:single job=true-> ∃t,l=[t]) (b:VZ job r->r'.length < r.length):Tu job r x:=⟨⟨l,r',h,h1,a,b⟩⟩
theorem XV: ∀(N:Nat) (job:lX) (d:Nat) (r:List bc),Ox job->at' job r->16 * r.length+eK job < N->Tu job r (P N job d r):=by
 intro N
 induction N with
 | zero=>intro job d r _ _ h;omega
 | succ n ih=>
  intro job d r ho E h;have one: ∀{job:lX} {d:Nat} {r:List bc},Ox job->at' job r->16 * r.length+eK job < n->single job=true-> ∃t r',P n job d r=some ([t],r')/\r'.length<=r.length/\(VZ job r->r'.length < r.length):=by
   intro job d r h1 q s v;obtain ⟨l,r',e,k1,k2,z⟩:=(ih job d r h1 q s).some;obtain ⟨t,rfl⟩:=k2 v;exact ⟨t,r',e,k1,z⟩
  have many: ∀{job:lX} {d:Nat} {r:List bc},Ox job->at' job r->16 * r.length+eK job < n-> ∃l r',P n job d r=some (l,r')/\r'.length<=r.length:=by
   intro job d r h1 q s;obtain ⟨l,r',e,k1,_,_⟩:=(ih job d r h1 q s).some;exact ⟨l,r',e,k1⟩
  cases job with
  | expr=>
   simp only [P];by_cases w:d=64
   .rw [if_pos w];exact cC rfl (B7 r) (fun _=>⟨_,rfl⟩) (fun f=>f.elim)
   .rw [if_neg w];simp only [eK] at h;obtain ⟨t,r',e,k1,_⟩:=one (job:= .whole) (d:=d+1) (r:=r) trivial trivial (by simp only [eK];omega) rfl;exact cC e k1 (fun _=>⟨_,rfl⟩) (fun f=>f.elim)
  | whole=>
   simp only [eK] at h;simp only [P];by_cases h1:eH ub r=true
   .rw [if_pos h1];have m:=fg (jd h1);obtain ⟨bs,r2,j,k2⟩:=many (job:= .binding) (d:=d) (r:=aS r) trivial trivial (by simp only [eK];omega);have hn:=kH R5 r2;obtain ⟨t,p,x,z,_⟩:=one (job:= .expr) (d:=d) (r:=bp R5 r2) trivial trivial (by simp only [eK];omega) rfl;refine cC (l:=[node 6 (aV r::bs++[dy R5 r2]++[t])]) (r':=p) ?_ (by omega) (fun _=>⟨_,rfl⟩) (fun f=>f.elim);simp only [j,x,bind,Option.bind]
   rw [if_neg h1];by_cases q:eH VR r=true
   .rw [if_pos q];have m:=fg (jd q);obtain ⟨a,g,i,k1,_⟩:=one (job:= .atom true) (d:=d) (r:=aS r) trivial trivial (by simp only [eK];omega) rfl;obtain ⟨ps,r2,j,k2⟩:=many (job:= .params) (d:=d) (r:=g) trivial trivial (by simp only [eK];omega);have hn:=kH iw r2;obtain ⟨t,p,x,z,_⟩:=one (job:= .expr) (d:=d) (r:=bp iw r2) trivial trivial (by simp only [eK];omega) rfl;refine cC (l:=[node 7 (aV r::[a]++ps++[dy iw r2]++[t])]) (r':=p) ?_ (by omega) (fun _=>⟨_,rfl⟩) (fun f=>f.elim);simp only [i,j,x,bind,Option.bind]
   rw [if_neg q];by_cases s:eH Zu r=true
   .rw [if_pos s];have m:=fg (jd s);obtain ⟨a,g,i,k1,_⟩:=one (job:= .expr) (d:=d) (r:=aS r) trivial trivial (by simp only [eK];omega) rfl;have A:=kH vu g;obtain ⟨b,r2,j,k2,_⟩:=one (job:= .expr) (d:=d) (r:=bp vu g) trivial trivial (by simp only [eK];omega) rfl;have F:=kH vh r2;obtain ⟨c,p,x,z,_⟩:=one (job:= .expr) (d:=d) (r:=bp vh r2) trivial trivial (by simp only [eK];omega) rfl;refine cC (l:=[node 8 (aV r::[a]++[dy vu g]++[b]++[dy vh r2]++[c])]) (r':=p) ?_ (by omega) (fun _=>⟨_,rfl⟩) (fun f=>f.elim);simp only [i,j,x,bind,Option.bind]
   rw [if_neg s];by_cases v:eH IY r=true
   .rw [if_pos v];have m:=fg (jd v);obtain ⟨a,g,i,k1,_⟩:=one (job:= .expr) (d:=d) (r:=aS r) trivial trivial (by simp only [eK];omega) rfl;have A:=kH bW g;have H:(if eH iF (bp bW g) then aS (bp bW g) else bp bW g).length<=g.length:=by
     split
     .have:=mE (bp bW g);omega
     .exact A
    obtain ⟨b,p,j,k2,_⟩:=one (job:= .arm) (d:=d) (r:=if eH iF (bp bW g) then aS (bp bW g) else bp bW g) trivial trivial (by simp only [eK];omega) rfl;obtain ⟨cs,G,x,z⟩:=many (job:= .arms) (d:=d) (r:=p) trivial trivial (by simp only [eK];omega);refine cC (l:=[node 9 (aV r::[a]++[dy bW g]++(if eH iF (bp bW g) then [aV (bp bW g)] else [])++[b]++cs)]) (r':=G) ?_ (by omega) (fun _=>⟨_,rfl⟩) (fun f=>f.elim);simp only [i,j,x,bind,Option.bind]
   rw [if_neg v];obtain ⟨t,r',e,k1,_⟩:=one (job:= .level 0) (d:=d) (r:=r) (aaO _) trivial (by simp only [eK];omega) rfl;exact cC e k1 (fun _=>⟨_,rfl⟩) (fun f=>f.elim)
  | level k=>
   have B:k<=7:=ho;simp only [eK] at h;simp only [P];by_cases C:k=7
   .rw [if_pos C];obtain ⟨t,r',e,k1,_⟩:=one (job:= .neg) (d:=d) (r:=r) trivial trivial (by simp only [eK];omega) rfl;exact cC e k1 (fun _=>⟨_,rfl⟩) (fun f=>f.elim)
   .rw [if_neg C];obtain ⟨t,g,i,k1,_⟩:=one (job:= .level (k+1)) (d:=d) (r:=r) (show k+1<=7 by omega) trivial (by simp only [eK];omega) rfl;obtain ⟨u,r2,j,k2,_⟩:=one (job:= .ops k t) (d:=d) (r:=g) (show k<=6 by omega) trivial (by simp only [eK];omega) rfl;refine cC (l:=[u]) (r':=r2) ?_ (by omega) (fun _=>⟨_,rfl⟩) (fun f=>f.elim);simp only [i,j,bind,Option.bind]
  | ops k acc=>
   have B:k<=6:=ho;simp only [eK] at h;simp only [P];by_cases h1:isAny (opsOf k) r=true
   .rw [if_pos h1];have m:=fg (rV h1);obtain ⟨b,g,i,k1,_⟩:=one (job:= .level (if leftOf k then k+1 else k)) (d:=d) (r:=aS r) (show (if leftOf k then k+1 else k)<=7 by split <;> omega) trivial (by simp only [eK];omega) rfl;obtain ⟨u,r2,j,k2,_⟩:=one (job:= .ops k (node 11 [acc,aV r,b])) (d:=d) (r:=g) B trivial (by simp only [eK];omega) rfl;refine cC (l:=[u]) (r':=r2) ?_ (by omega) (fun _=>⟨_,rfl⟩) (fun f=>f.elim);simp only [i,j,bind,Option.bind]
   .rw [if_neg h1];exact cC rfl (aal _) (fun _=>⟨_,rfl⟩) (fun f=>f.elim)
  | neg=>
   simp only [eK] at h;simp only [P];by_cases h1:isAny [[45],[45,46]] r=true
   .rw [if_pos h1];have m:=fg (rV h1);by_cases w:d=64
    .rw [if_pos w];have:=B7 (aS r);exact cC rfl (by omega) (fun _=>⟨_,rfl⟩) (fun f=>f.elim)
    .rw [if_neg w];obtain ⟨a,g,i,k1,_⟩:=one (job:= .neg) (d:=d+1) (r:=aS r) trivial trivial (by simp only [eK];omega) rfl;refine cC (l:=[node 12 [aV r,a]]) (r':=g) ?_ (by omega) (fun _=>⟨_,rfl⟩) (fun f=>f.elim);simp only [i,bind,Option.bind]
   .rw [if_neg h1];obtain ⟨t,g,i,k1,_⟩:=one (job:= .atom false) (d:=d) (r:=r) trivial trivial (by simp only [eK];omega) rfl;obtain ⟨u,r2,j,k2,_⟩:=one (job:= .args t) (d:=d) (r:=g) trivial trivial (by simp only [eK];omega) rfl;refine cC (l:=[u]) (r':=r2) ?_ (by omega) (fun _=>⟨_,rfl⟩) (fun f=>f.elim);simp only [i,j,bind,Option.bind]
  | args acc=>
   simp only [eK] at h;simp only [P];by_cases h1:dM false r=true
   .rw [if_pos h1];obtain ⟨t,g,i,k1,y⟩:=one (job:= .atom false) (d:=d) (r:=r) trivial trivial (by simp only [eK];omega) rfl;have m:=y h1;obtain ⟨u,r2,j,k2,_⟩:=one (job:= .args (node 13 [acc,t])) (d:=d) (r:=g) trivial trivial (by simp only [eK];omega) rfl;refine cC (l:=[u]) (r':=r2) ?_ (by omega) (fun _=>⟨_,rfl⟩) (fun f=>f.elim);simp only [i,j,bind,Option.bind]
   .rw [if_neg h1];exact cC rfl (aal _) (fun _=>⟨_,rfl⟩) (fun f=>f.elim)
  | atom pat=>
   simp only [eK] at h;simp only [P];by_cases h1:dM pat r=true
   .rw [if_pos h1];have o:=pA h1;have m:=fg o;by_cases D:(nx r).1=9
    .rw [if_pos D];exact cC rfl (by omega) (fun _=>⟨_,rfl⟩) (fun _=>m)
    rw [if_neg D];by_cases q:eH py r=true
    .rw [if_pos q];obtain ⟨t,g,i,k1,y⟩:=one (job:= .closed false pat) (d:=d) (r:=r) trivial o (by simp only [eK];omega) rfl;exact cC i k1 (fun _=>⟨_,rfl⟩) (fun _=>y o)
    rw [if_neg q];by_cases s:eH qY r=true
    .rw [if_pos s];obtain ⟨t,g,i,k1,y⟩:=one (job:= .closed true pat) (d:=d) (r:=r) trivial o (by simp only [eK];omega) rfl;exact cC i k1 (fun _=>⟨_,rfl⟩) (fun _=>y o)
    rw [if_neg s];exact cC rfl (by omega) (fun _=>⟨_,rfl⟩) (fun _=>m)
   .rw [if_neg h1];exact cC rfl (aal _) (fun _=>⟨_,rfl⟩) (fun f=>absurd f h1)
  | closed list pat=>
   have o:(nx r).1≠0:=E;have m:=fg o;simp only [eK] at h;simp only [P];by_cases h1:eH (jJ list) (aS r)=true
   .rw [if_pos h1];have:=mE (aS r);exact cC rfl (by omega) (fun _=>⟨_,rfl⟩) (fun _=>by omega)
   .rw [if_neg h1];obtain ⟨t,r2,i,k1,_⟩:=one (job:=if pat then .pattern else .expr) (d:=d) (r:=aS r) (by cases pat <;> trivial) (by cases pat <;> trivial) (by cases pat <;> simp only [eK,if_true,aaT,if_false] <;> omega) (by cases pat <;> rfl);obtain ⟨bs,p,j,k2⟩:=many (job:= .items list pat) (d:=d) (r:=r2) trivial trivial (by simp only [eK];omega);have hn:=kH (jJ list) p;refine cC (l:=[node (kindOf list pat) (aV r::[t]++bs++[dy (jJ list) p])]) (r':=bp (jJ list) p) ?_ (by omega) (fun _=>⟨_,rfl⟩) (fun _=>by omega);simp only [i,j,bind,Option.bind]
  | items list pat=>
   simp only [eK] at h;simp only [P];by_cases h1:eH (xX list) r=true
   .rw [if_pos h1];have m:=fg (jd h1);obtain ⟨t,r2,i,k1,_⟩:=one (job:=if pat then .pattern else .expr) (d:=d) (r:=aS r) (by cases pat <;> trivial) (by cases pat <;> trivial) (by cases pat <;> simp only [eK,if_true,aaT,if_false] <;> omega) (by cases pat <;> rfl);obtain ⟨bs,p,j,k2⟩:=many (job:= .items list pat) (d:=d) (r:=r2) trivial trivial (by simp only [eK];omega);refine cC (l:=aV r::[t]++bs) (r':=p) ?_ (by omega) (fun f=>by cases f) (fun f=>f.elim);simp only [i,j,bind,Option.bind]
   .rw [if_neg h1];exact cC rfl (aal _) (fun f=>by cases f) (fun f=>f.elim)
  | pattern=>
   simp only [eK] at h;simp only [P];by_cases w:d=64
   .rw [if_pos w];exact cC rfl (B7 r) (fun _=>⟨_,rfl⟩) (fun f=>f.elim)
   .rw [if_neg w];obtain ⟨a,g,i,k1,_⟩:=one (job:= .atom true) (d:=d+1) (r:=r) trivial trivial (by simp only [eK];omega) rfl;by_cases h1:eH FK g=true
    .have m:=fg (jd h1);obtain ⟨b,r2,j,k2,_⟩:=one (job:= .pattern) (d:=d+1) (r:=aS g) trivial trivial (by simp only [eK];omega) rfl;refine cC (l:=[node 16 ([a]++aV g::[b])]) (r':=r2) ?_ (by omega) (fun _=>⟨_,rfl⟩) (fun f=>f.elim);simp only [i,j,bind,Option.bind,if_pos h1]
    .refine cC (l:=[a]) (r':=g) ?_ (by omega) (fun _=>⟨_,rfl⟩) (fun f=>f.elim);simp only [i,bind,Option.bind,if_neg h1]
  | binding=>
   simp only [eK] at h;simp only [P];have h0:(if eH eO r then aS r else r).length<=r.length:=by
    split
    .exact mE r
    .exact aal _
   generalize (if eH eO r then aS r else r)=r0 at h0;by_cases v:(nx r0).1=4
   .have m:=fg (show (nx r0).1≠0 by omega);obtain ⟨ps,g,i,k1⟩:=many (job:= .params) (d:=d) (r:=aS r0) trivial trivial (by simp only [eK];omega);have hn:=kH yu g;obtain ⟨t,r2,j,k2,_⟩:=one (job:= .expr) (d:=d) (r:=bp yu g) trivial trivial (by simp only [eK];omega) rfl;refine cC (l:=(if eH eO r then [aV r] else [])++(aV r0::ps)++[dy yu g]++[t]) (r':=r2) ?_ (by omega) (fun f=>by cases f) (fun f=>f.elim);simp only [if_pos v,i,j,bind,Option.bind]
   .obtain ⟨a,g,i,k1,_⟩:=one (job:= .atom true) (d:=d) (r:=r0) trivial trivial (by simp only [eK];omega) rfl;have hn:=kH yu g;obtain ⟨t,r2,j,k2,_⟩:=one (job:= .expr) (d:=d) (r:=bp yu g) trivial trivial (by simp only [eK];omega) rfl;refine cC (l:=(if eH eO r then [aV r] else [])++[a]++[dy yu g]++[t]) (r':=r2) ?_ (by omega) (fun f=>by cases f) (fun f=>f.elim);simp only [if_neg v,i,j,bind,Option.bind]
  | params=>
   simp only [eK] at h;simp only [P];by_cases h1:dM true r=true
   .rw [if_pos h1];obtain ⟨t,g,i,k1,y⟩:=one (job:= .atom true) (d:=d) (r:=r) trivial trivial (by simp only [eK];omega) rfl;have m:=y h1;obtain ⟨bs,r2,j,k2⟩:=many (job:= .params) (d:=d) (r:=g) trivial trivial (by simp only [eK];omega);refine cC (l:=[t]++bs) (r':=r2) ?_ (by omega) (fun f=>by cases f) (fun f=>f.elim);simp only [i,j,bind,Option.bind]
   .rw [if_neg h1];exact cC rfl (aal _) (fun f=>by cases f) (fun f=>f.elim)
  | arm=>
   simp only [eK] at h;simp only [P];obtain ⟨a,g,i,k1,_⟩:=one (job:= .pattern) (d:=d) (r:=r) trivial trivial (by simp only [eK];omega) rfl;have hn:=kH iw g;obtain ⟨t,r2,j,k2,_⟩:=one (job:= .expr) (d:=d) (r:=bp iw g) trivial trivial (by simp only [eK];omega) rfl;refine cC (l:=[node 10 ([a]++[dy iw g]++[t])]) (r':=r2) ?_ (by omega) (fun _=>⟨_,rfl⟩) (fun f=>f.elim);simp only [i,j,bind,Option.bind]
  | arms=>
   simp only [eK] at h;simp only [P];by_cases h1:eH iF r=true
   .rw [if_pos h1];have m:=fg (jd h1);obtain ⟨t,g,i,k1,_⟩:=one (job:= .arm) (d:=d) (r:=aS r) trivial trivial (by simp only [eK];omega) rfl;obtain ⟨bs,r2,j,k2⟩:=many (job:= .arms) (d:=d) (r:=g) trivial trivial (by simp only [eK];omega);refine cC (l:=aV r::[t]++bs) (r':=r2) ?_ (by omega) (fun f=>by cases f) (fun f=>f.elim);simp only [i,j,bind,Option.bind]
   .rw [if_neg h1];exact cC rfl (aal _) (fun f=>by cases f) (fun f=>f.elim)
theorem D9: ∀(n:Nat) (r:List bc),(skip n r).2.length<=r.length
 | 0,_=>aal _
 | n+1,r=>by
  simp only [skip];split
  .have:=D9 n (aS r);have:=mE r;simp only;omega
  .exact aal _
theorem Si {r:List bc} (h0:(nx r).1≠0) (h1:eH ub r=false):(skip r.length r).2.length < r.length:=by
 have a:=fg h0;obtain ⟨n,hn⟩: ∃n,r.length=n+1:=⟨r.length - 1,by omega⟩;rw [hn];simp only [skip,if_pos (And.intro h0 h1)];have:=D9 n (aS r);omega
theorem Lo: ∀(N:Nat) (r:List bc),17 * r.length+16 < N-> ∃l,decls N r=some l:=by
 intro N
 induction N with
 | zero=>intro r h;omega
 | succ n ih=>
  intro r h;simp only [decls];by_cases h0:(nx r).1=0
  .rw [if_pos h0];exact ⟨_,rfl⟩
  rw [if_neg h0];by_cases h1:eH ub r=true
  .rw [if_pos h1];have b:=fg h0;obtain ⟨bs,c,d,k1,_,_⟩:=(XV n .binding 0 (aS r) trivial trivial (by simp only [eK];omega)).some;obtain ⟨l,a⟩:=ih c (by omega);exact ⟨node 5 (aV r::bs)::l,by simp only [d,a,bind,Option.bind]⟩
  .rw [if_neg h1];have b:=Si h0 (by simpa using h1);obtain ⟨l,a⟩:=ih (skip r.length r).2 (by omega);exact ⟨node 3 (skip r.length r).1::l,by simp only [a,bind,Option.bind]⟩
theorem jK (r:List bc): ∃l,decls (fuel r) r=some l/\doc r=node 4 l:=by
 obtain ⟨l,e⟩:=Lo (fuel r) r (by unfold fuel;omega);exact ⟨l,e,by unfold doc;rw [e];rfl⟩
end Go.Parse
namespace Go.Lex
open Go.VM
theorem Ob {n n' a b c d l m o:Nat} (h0:oO n a b c d≠0) (i:1 < oO n a b c d->l=b) (j:2 < oO n a b c d->m=c) (p:3 < oO n a b c d->o=d) (hl:oO n a b c d<=n'):
  oO n' a l m o=oO n a b c d:=by
 by_cases f:a < 128
 .unfold oO;rw [if_pos f,if_pos f]
 by_cases g:194<=a/\a<=223
 .by_cases q:n < 2\/b < 128\/191 < b
  .exact absurd (by unfold oO;rw [if_neg f,if_pos g,if_pos q]) h0
  .have e:oO n a b c d=2:=by unfold oO;rw [if_neg f,if_pos g,if_neg q]
   rw [e] at i hl ⊢;have:=i (by omega);subst this;unfold oO;rw [if_neg f,if_pos g,if_neg (by omega)]
 by_cases h:224<=a/\a<=239
 .by_cases q:n < 3\/b < 128\/191 < b\/c < 128\/191 < c\/(a=224/\b < 160)\/(a=237/\159 < b)
  .exact absurd (by unfold oO;rw [if_neg f,if_neg g,if_pos h,if_pos q]) h0
  .have e:oO n a b c d=3:=by unfold oO;rw [if_neg f,if_neg g,if_pos h,if_neg q]
   rw [e] at i j hl ⊢;have:=i (by omega);have:=j (by omega)
   subst_vars
   unfold oO;rw [if_neg f,if_neg g,if_pos h,if_neg (by omega)]
 by_cases k:240<=a/\a<=244
 .by_cases q:n < 4\/b < 128\/191 < b\/c < 128\/191 < c\/d < 128\/191 < d\/(a=240/\b < 144)\/(a=244/\143 < b)
  .exact absurd (by unfold oO;rw [if_neg f,if_neg g,if_neg h,if_pos k,if_pos q]) h0
  .have e:oO n a b c d=4:=by unfold oO;rw [if_neg f,if_neg g,if_neg h,if_pos k,if_neg q]
   rw [e] at i j p hl ⊢;have:=i (by omega);have:=j (by omega);have:=p (by omega)
   subst_vars
   unfold oO;rw [if_neg f,if_neg g,if_neg h,if_pos k,if_neg (by omega)]
 .exact absurd (by unfold oO;rw [if_neg f,if_neg g,if_neg h,if_neg k]) h0
theorem N3 {n a b c d:Nat} (h:2<=oO n a b c d):128<=a/\(128<=b)/\(2 < oO n a b c d->128<=c)/\(3 < oO n a b c d->128<=d):=by
 unfold oO at *;by_cases e:a < 128
 .rw [if_pos e] at h;omega
 rw [if_neg e] at *;by_cases f:194<=a/\a<=223
 .rw [if_pos f] at *;by_cases q:n < 2\/b < 128\/191 < b
  .rw [if_pos q] at h;omega
  .rw [if_neg q] at *;omega
 rw [if_neg f] at *;by_cases g:224<=a/\a<=239
 .rw [if_pos g] at *;by_cases q:n < 3\/b < 128\/191 < b\/c < 128\/191 < c\/(a=224/\b < 160)\/(a=237/\159 < b)
  .rw [if_pos q] at h;omega
  .rw [if_neg q] at *;omega
 rw [if_neg g] at *;by_cases i:240<=a/\a<=244
 .rw [if_pos i] at *;by_cases q:n < 4\/b < 128\/191 < b\/c < 128\/191 < c\/d < 128\/191 < d\/(a=240/\b < 144)\/(a=244/\143 < b)
  .rw [if_pos q] at h;omega
  .rw [if_neg q] at *;omega
 .rw [if_neg i] at h;omega
theorem Pq (n a b c d:Nat):oO n a b c d<=4:=by
 unfold oO
 repeat' split
 all_goals omega
theorem Hu {s t:LB} (h:iU s≠0) (he: ∀j,j < iU s->t.getD j 0=s.getD j 0) (hl:iU s<=t.length):iU t=iU s:=by
 have h0:=he 0 (by omega);unfold iU at h he hl ⊢;rw [h0];exact Ob h (fun k=>by rw [he 1 k]) (fun k=>by rw [he 2 k]) (fun k=>by rw [he 3 k]) hl
theorem getD_take {s:LB} {n j:Nat} (h:j < n):(s.take n).getD j 0=s.getD j 0:=by
 rw [aaE,aaE,List.getElem?_take,if_pos h]
theorem sV (s:LB) (n j:Nat):(s.drop n).getD j 0=s.getD (n+j) 0:=by
 rw [aaE,aaE,abl]
theorem PE {s x:LB} {j:Nat} (h:j < s.length):(s++x).getD j 0=s.getD j 0:=by
 rw [aaE,aaE,aaP h]
theorem AE {s:LB} (a:s≠[]) (h:iU s≠0) {n:Nat} (hn:iU s<=n):iU (s.take n)=iU s:=
 Hu h (fun j b=>getD_take (by omega)) (by rw [aau];have:=uY a;omega)
theorem QC {s:LB} (a:s≠[]) (h:iU s≠0) (x:LB):iU (s++x)=iU s:=by
 have:=uY a;exact Hu h (fun j b=>PE (by omega)) (by rw [aad];omega)
theorem FC {s:LB} (h:2<=iU s) {j:Nat} (a:j < iU s):128<=(s.getD j 0).toNat:=by
 have c:=Pq s.length (s.getD 0 0).toNat (s.getD 1 0).toNat (s.getD 2 0).toNat (s.getD 3 0).toNat
 unfold iU at h a;have:=N3 h;have b:j < 4:=by omega
 match j,b with
 | 0,_=>exact this.1
 | 1,_=>exact this.2.1
 | 2,_=>exact this.2.2.1 a
 | 3,_=>exact this.2.2.2 a
theorem wa {s:LB} (a:s≠[]) (h:cb s=true):iU s≠0/\cb (s.drop (iU s))=true:=by
 rw [kC a] at h;by_cases z:iU s=0
 .rw [if_pos z] at h;cases h
 .rw [if_neg z] at h;exact ⟨z,h⟩
theorem xY: ∀(n:Nat) (a b:LB),a.length<=n->cb a=true->cb (a++b)=cb b
 | n,[],b,_,_=>rfl
 | 0,_:: _,_,h,_=>by simp at h
 | n+1,c::a,b,h,f=>by
  obtain ⟨z,g⟩:=wa (s:=c::a) (by simp) f;have d:=uY (l:=c::a) (by simp);have e:=QC (s:=c::a) (by simp) z b;rw [kC (l:=c::a++b) (by simp),e,if_neg z,List.drop_append_of_le_length d];exact xY n _ b (by rw [aaz];simp at h ⊢;omega) g
def Bd (s:LB) (n:Nat):Prop:=n=0\/(s.getD n 0).toNat < 128\/(s.getD (n - 1) 0).toNat < 128
theorem yp: ∀(m:Nat) (s:LB) (n:Nat),s.length<=m->cb s=true->n<=s.length->Bd s n->cb (s.take n)=true/\cb (s.drop n)=true
 | m,s,0,_,b,_,_=>⟨rfl,b⟩
 | m,[],n+1,_,_,h,_=>by simp at h
 | 0,_:: _,_,h,_,_,_=>by simp at h
 | m+1,c::l,n+1,hm,b,hn,a=>by
  obtain ⟨z,i⟩:=wa (s:=c::l) (by simp) b;have k:=uY (l:=c::l) (by simp);by_cases d:iU (c::l)<=n+1
  .have hlen:((c::l).drop (iU (c::l))).length=(c::l).length - iU (c::l):=aaz;have f:Bd ((c::l).drop (iU (c::l))) (n+1 - iU (c::l)):=by
    rcases a with a | a | a
    .omega
    .exact .inr (.inl (by rw [sV,show iU (c::l)+(n+1 - iU (c::l))=n+1 by omega];exact a))
    .by_cases e:n+1 - iU (c::l)=0
     .exact .inl e
     .exact .inr (.inr (by rw [sV,show iU (c::l)+(n+1 - iU (c::l) - 1)=n+1 - 1 by omega];exact a))
   have ih:=yp m ((c::l).drop (iU (c::l))) (n+1 - iU (c::l)) (by simp at hm hlen ⊢;omega) i (by omega) f;have h1:=AE (s:=c::l) (by simp) z d;have g:(c::l).take (n+1)≠[]:=by simp
   constructor
   .rw [kC g,h1,if_neg z,List.drop_take];exact ih.1
   .have e:(c::l).drop (n+1)=((c::l).drop (iU (c::l))).drop (n+1 - iU (c::l)):=by
     rw [abw];congr 1;omega
    rw [e];exact ih.2
  .exfalso;have k1:=FC (s:=c::l) (by omega) (j:=n+1) (by omega);have k2:=FC (s:=c::l) (by omega) (j:=n+1 - 1) (by omega);rcases a with a | a | a <;> omega
def Asc (s:LB) (n:Nat):Prop:= ∀j,j < n->(s.getD j 0).toNat < 128
theorem Ib {s:LB} {n:Nat} (h:Asc s n):Bd s n:=by
 cases n with
 | zero=>exact .inl rfl
 | succ n=>exact .inr (.inr (h n (aa3 n)))
theorem asc_add {s:LB} {a b:Nat} (h:Asc s a) (k:Asc (s.drop a) b):Asc s (a+b):=by
 intro j c;by_cases q:j < a
 .exact h j q
 .have:=k (j - a) (by omega);rw [sV,show a+(j - a)=j by omega] at this;exact this
theorem xE {p:UInt8->Bool} (hp: ∀b,p b=true->b.toNat < 128): ∀s:LB,Asc s (wh p s)
 | []=>fun j a=>absurd a (abU j)
 | c::l=>by
  rw [gf];intro j a;cases d:p c with
  | false=>rw [d] at a;simp at a
  | true=>
   rw [d,if_pos rfl] at a;cases j with
   | zero=>exact hp c d
   | succ j=>exact xE hp l j (by omega)
theorem W6 {p:UInt8->Bool} (h:((List.range 256).all fun n=>p (UInt8.ofNat n))=true) (b:UInt8):p b=true:=by
 have:=aa7.1 h b.toNat (List.mem_range.2 (UInt8.toNat_lt b));simpa using this
theorem AM {p:UInt8->Bool} (h:((List.range 256).all fun n=> !(p (UInt8.ofNat n))||Nat.blt (UInt8.ofNat n).toNat 128)=true) (b:UInt8) (a:p b=true):b.toNat < 128:=by
 have:=W6 (p:=fun b=> !(p b)||Nat.blt b.toNat 128) h b;simp only [a,aa2,abo] at this;exact aah this
theorem LJ (b:UInt8) (a:cr b=true):b.toNat < 128:=AM (by decide+kernel) b a
theorem Qt (b:UInt8) (a:iI b=true):b.toNat < 128:=AM (by decide+kernel) b a
theorem EL (b:UInt8) (a:aW b=true):b.toNat < 128:=AM (by decide+kernel) b a
theorem asc_one (b:UInt8) (a:kS b=true):b.toNat < 128:=AM (by decide+kernel) b a
theorem Qg (b:UInt8) (a:A5 b=true):b.toNat < 128:=AM (by decide+kernel) b a
theorem O3 (s:LB):Asc s (jA s).1:=by
 unfold jA;cases s with
 | nil=>exact fun j a=>absurd a (abU j)
 | cons e l=>
  dsimp only;split
  .rename_i he;split
   .exact fun j a=>absurd a (abU j)
   .dsimp only;have h1:Asc (e::l) 1:=by
     intro j a;have:j=0:=by omega
     subst this;rcases he with rfl | rfl <;> exact aah rfl
    have c:Asc l (iL l):=by
     cases l with
     | nil=>exact fun j a=>absurd a (abU j)
     | cons d r=>
      intro j a;simp only [iL] at a;cases b:A5 d with
      | false=>rw [b] at a;simp at a
      | true=>
       rw [b,if_pos rfl] at a;have:j=0:=by omega
       subst this;exact Qg d b
    have f:=xE EL (l.drop (iL l));refine asc_add (asc_add h1 c) ?_;rw [show (e::l).drop (1+iL l)=l.drop (iL l) by rw [abv];rfl];exact f
  .exact fun j a=>absurd a (abU j)
theorem La {s:LB} {c:UInt8} (h:s.head?=some c):s.getD 0 0=c:=by
 cases s with
 | nil=>cases h
 | cons d l=>cases h;rfl
theorem Ji (s:LB):Asc s (number s).2:=by
 have h1:=xE EL s;unfold number;dsimp only;split
 .rename_i a;refine asc_add (asc_add (asc_add h1 ?_) ?_) ?_
  .intro j b;have:j=0:=by omega
   subst this;rw [La a];decide
  .exact xE EL _
  .exact O3 _
 .exact h1
theorem wM: ∀(s:LB) (d n:Nat),rem s d=some n->s.getD (n - 1) 0=41
 | [],_,_,h=>by simp [rem] at h
 | [_],_,_,h=>by simp [rem] at h
 | a::b::l,d,n,h=>by
  simp only [rem] at h;split at h
  .obtain ⟨m,hm,rfl⟩:=aaN.1 h;have h1:=qG l (d+1) m hm;have:=wM l (d+1) m hm;rw [show m+2 - 1=(m - 1)+2 by omega];exact this
  .split at h
   .rename_i c;split at h
    .cases h;exact c.2
    .obtain ⟨m,hm,rfl⟩:=aaN.1 h;have h1:=qG l (d - 1) m hm;have:=wM l (d - 1) m hm;rw [show m+2 - 1=(m - 1)+2 by omega];exact this
   .obtain ⟨m,hm,rfl⟩:=aaN.1 h;have h1:=qG (b::l) d m hm;have:=wM (b::l) d m hm;rw [show m+1 - 1=(m - 1)+1 by omega];exact this
theorem GV: ∀(s:LB),(s.getD (gH s) 0).toNat < 128\/(1<=gH s/\s.getD (gH s - 1) 0=34)
 | []=> .inl (by decide)
 | c::l=>by
  simp only [gH];split
  .rename_i h;subst h;exact .inl (aah rfl)
  .split
   .rename_i h;subst h;exact .inr ⟨aal _,rfl⟩
   .rcases GV l with h | ⟨h1,a⟩
    .exact .inl h
    .exact .inr ⟨by omega,by rw [show gH l+1 - 1=(gH l - 1)+1 by omega];exact a⟩
theorem Ej: ∀(s:LB),(s.getD (dD s).2 0).toNat < 128\/(1<=(dD s).2/\s.getD ((dD s).2 - 1) 0=34)
 | []=> .inl (by decide)
 | [c]=>by
  simp only [dD];split
  .rename_i h;subst h;exact .inl (aah rfl)
  .split
   .rename_i h;subst h;exact .inr ⟨aal _,rfl⟩
   .exact .inl (aah rfl)
 | c::d::l=>by
  simp only [dD];split
  .rename_i h;subst h;exact .inl (aah rfl)
  .split
   .rename_i h;subst h;exact .inr ⟨aal _,rfl⟩
   .split
    .split
     .rcases Ej l with h | ⟨h1,a⟩
      .exact .inl h
      .refine .inr ⟨by dsimp only;omega, ?_⟩;dsimp only;rw [show (dD l).2+2 - 1=((dD l).2 - 1)+2 by omega];exact a
     .rcases GV (d::l) with h | ⟨h1,a⟩
      .exact .inl h
      .refine .inr ⟨by dsimp only;omega, ?_⟩;dsimp only;rw [show gH (d::l)+1 - 1=(gH (d::l) - 1)+1 by omega];exact a
    .rcases Ej (d::l) with h | ⟨h1,a⟩
     .exact .inl h
     .refine .inr ⟨by dsimp only;omega, ?_⟩;dsimp only;rw [show (dD (d::l)).2+1 - 1=((dD (d::l)).2 - 1)+1 by omega];exact a
theorem Um {s:LB} (b:s≠[]):Bd s (cut s).2\/(cut s).2=if iU s=0 then 1 else iU s:=by
 cases s with
 | nil=>exact absurd rfl b
 | cons c l=>
  unfold cut;dsimp only;split
  .exact .inl (Ib (xE LJ _))
  split
  .cases d:rem (List.drop 2 (c::l)) 1 with
   | some n=>
    have h1:=qG _ _ _ d;have:=wM _ _ _ d;rw [sV] at this;refine .inl (.inr (.inr ?_));dsimp only;rw [show n+2 - 1=2+(n - 1) by omega,this];decide
   | none=>
    refine .inl (.inr (.inl ?_));dsimp only;rw [aaE,aaS (aal _)];decide
  split
  .exact .inl (Ib (xE Qt _))
  split
  .exact .inl (Ib (Ji _))
  split
  .rcases Ej l with h | ⟨h1,a⟩
   .exact .inl (.inr (.inl h))
   .refine .inl (.inr (.inr ?_));dsimp only;rw [show (dD l).2+1 - 1=((dD l).2 - 1)+1 by omega];have a:(c::l).getD ((dD l).2 - 1+1) 0=34:=a;rw [a];decide
  split
  .rename_i a;refine .inl (.inr (.inr ?_));have hm:(c::l).take 2∈iJ:=List.contains_iff_mem.1 a;have e:(c::l).getD (2 - 1) 0=((c::l).take 2).getD 1 0:=(getD_take (by omega)).symm;dsimp only;rw [e];generalize (c::l).take 2=w at hm;simp only [iJ,aao,List.not_mem_nil,or_false] at hm;rcases hm with rfl | rfl | rfl | rfl | rfl | rfl | rfl | rfl | rfl | rfl | rfl <;> decide
  split
  .rename_i h1;exact .inl (.inr (.inr (asc_one c h1)))
  .exact .inr rfl
theorem LL {s:LB} (a:s≠[]) (c:cb s=true):cb (s.take (cut s).2)=true/\cb (s.drop (cut s).2)=true:=by
 have d:=pd a;rcases Um a with h | h
 .exact yp _ s _ (aal _) c d.2 h
 .obtain ⟨z,f⟩:=wa a c;rw [if_neg z] at h;rw [h];refine ⟨?_,f⟩;have b:s.take (iU s)≠[]:=by
   intro e;rw [List.take_eq_nil_iff] at e;rcases e with e | e
   .exact z e
   .exact a e
  have hl:=uY a;rw [kC b,AE a z (aal _),if_neg z,List.drop_of_length_le (by rw [aau];omega)];rfl
theorem mr (p:UInt8->Bool): ∀(s:LB) (n:Nat),wh p (s.take n)=min (wh p s) n
 | [],n=>by simp [wh]
 | c::l,0=>by simp [wh]
 | c::l,n+1=>by
  rw [abT,gf,gf,mr p l n];split <;> omega
theorem Pa (p:UInt8->Bool) (s:LB):(s.take (wh p s)).takeWhile p=s.takeWhile p:=by
 rw [<- tD p (s.take (wh p s)),mr,Nat.min_self,List.take_take,Nat.min_self,tD]
theorem pJ: ∀(s:LB) (d n:Nat),rem s d=some n->rem (s.take n) d=some n
 | [],_,_,h=>by simp [rem] at h
 | [_],_,_,h=>by simp [rem] at h
 | a::b::l,d,n,h=>by
  simp only [rem] at h;split at h
  .rename_i c;obtain ⟨m,hm,rfl⟩:=aaN.1 h;show rem (a::b::l.take m) d= _;simp only [rem,if_pos c,pJ l (d+1) m hm];rfl
  .rename_i c;split at h
   .rename_i e;split at h
    .rename_i f;cases h;show rem [a,b] d= _;simp only [rem,if_neg c,if_pos e,if_pos f]
    .rename_i f;obtain ⟨m,hm,rfl⟩:=aaN.1 h;show rem (a::b::l.take m) d= _;simp only [rem,if_neg c,if_pos e,if_neg f,pJ l (d - 1) m hm];rfl
   .rename_i e;obtain ⟨m,hm,rfl⟩:=aaN.1 h;have g:=(qG (b::l) d m hm).1;have ih:=pJ (b::l) d m hm;obtain ⟨k,rfl⟩: ∃k,m=k+1:=⟨m - 1,by omega⟩;have ih:rem (b::l.take k) d=some (k+1):=ih;show rem (a::b::l.take k) d= _;simp only [rem,if_neg c,if_neg e,ih];rfl
theorem zl (x:LB): ∀(s:LB) (d n:Nat),rem s d=some n->rem (s++x) d=some n
 | [],_,_,h=>by simp [rem] at h
 | [_],_,_,h=>by simp [rem] at h
 | a::b::l,d,n,h=>by
  simp only [rem] at h;show rem (a::b::(l++x)) d= _;split at h
  .rename_i c;obtain ⟨m,hm,rfl⟩:=aaN.1 h;simp only [rem,if_pos c,zl x l (d+1) m hm];rfl
  .rename_i c;split at h
   .rename_i e;split at h
    .rename_i f;cases h;simp only [rem,if_neg c,if_pos e,if_pos f]
    .rename_i f;obtain ⟨m,hm,rfl⟩:=aaN.1 h;simp only [rem,if_neg c,if_pos e,if_neg f,zl x l (d - 1) m hm];rfl
   .rename_i e;obtain ⟨m,hm,rfl⟩:=aaN.1 h;have ih:rem (b::(l++x)) d=some m:=zl x (b::l) d m hm;simp only [rem,if_neg c,if_neg e,ih];rfl
theorem Nc {l:LB} {n:Nat} (h:iL l<=n) (hn:1<=n):iL (l.take n)=iL l:=by
 cases l with
 | nil=>rw [List.take_nil]
 | cons c l=>
  obtain ⟨m,rfl⟩: ∃m,n=m+1:=⟨n - 1,by omega⟩;rfl
theorem head_take {l:LB} {n:Nat} (hn:1<=n):(l.take n).head?=l.head?:=by
 cases l with
 | nil=>rw [List.take_nil]
 | cons c l=>
  obtain ⟨m,rfl⟩: ∃m,n=m+1:=⟨n - 1,by omega⟩;rfl
theorem LV (s:LB):jA (s.take (jA s).1)=jA s:=by
 cases s with
 | nil=>rfl
 | cons e l=>
  by_cases he:e=101\/e=69
  .by_cases a:wh aW (l.drop (iL l))=0
   .have h0:jA (e::l)=(0,0):=by unfold jA;dsimp only;rw [if_pos he,if_pos a]
    rw [h0];rfl
   .have h1:(jA (e::l)).1=1+iL l+wh aW (l.drop (iL l)):=by unfold jA;dsimp only;rw [if_pos he,if_neg a]
    rw [h1];generalize c:wh aW (l.drop (iL l))=k at a;have d:(e::l).take (1+iL l+k)=e::l.take (iL l+k):=by
     rw [show 1+iL l+k=(iL l+k)+1 by omega];rfl
    have hs:iL (l.take (iL l+k))=iL l:=Nc (by omega) (by omega);have b:(l.take (iL l+k)).drop (iL l)=(l.drop (iL l)).take k:=by
     rw [List.drop_take];congr 1;omega
    have f:wh aW ((l.drop (iL l)).take k)=k:=by rw [mr,c,Nat.min_self]
    have g:(l.take (iL l+k)).head?=l.head?:=head_take (by omega);rw [d];unfold jA;dsimp only;rw [if_pos he,if_pos he,hs,b,f,c,if_neg a,if_neg a,g,List.take_take,Nat.min_self]
  .have h0:jA (e::l)=(0,0):=by unfold jA;dsimp only;rw [if_neg he]
   rw [h0];rfl
theorem lD (s:LB):number s=if (s.drop (wh aW s)).head?=some 46 then (if wh aW s+wh aW (s.drop (wh aW s+1)) > 15\/(jA (s.drop (wh aW s+1+wh aW (s.drop (wh aW s+1))))).2 - (wh aW (s.drop (wh aW s+1)):Int) < -22\/(jA (s.drop (wh aW s+1+wh aW (s.drop (wh aW s+1))))).2 - (wh aW (s.drop (wh aW s+1)):Int) > 22 then 9 else 6,wh aW s+1+wh aW (s.drop (wh aW s+1))+(jA (s.drop (wh aW s+1+wh aW (s.drop (wh aW s+1))))).1) else (5,wh aW s):=rfl
theorem Hv (s:LB):number (s.take (number s).2)=number s:=by
 by_cases a:(s.drop (wh aW s)).head?=some 46
 .have b:(number s).2=wh aW s+1+wh aW (s.drop (wh aW s+1))+(jA (s.drop (wh aW s+1+wh aW (s.drop (wh aW s+1))))).1:=by rw [lD,if_pos a]
  have hx:=LV (s.drop (wh aW s+1+wh aW (s.drop (wh aW s+1))));rw [b,lD (List.take _ _),lD s,if_pos a];generalize hn:wh aW s=n at *;generalize c:wh aW (s.drop (n+1))=k at *;generalize d:s.drop (n+1+k)=r at *;generalize hm:(jA r).1=m at *;have e:wh aW (s.take (n+1+k+m))=n:=by rw [mr,hn];omega
  have d1:(s.take (n+1+k+m)).drop n=(s.drop n).take (1+k+m):=by rw [List.drop_take];congr 1;omega
  have d2:(s.take (n+1+k+m)).drop (n+1)=(s.drop (n+1)).take (k+m):=by rw [List.drop_take];congr 1;omega
  have f:(s.take (n+1+k+m)).drop (n+1+k)=r.take m:=by rw [List.drop_take,d];congr 1;omega
  have g:wh aW ((s.drop (n+1)).take (k+m))=k:=by rw [mr,c];omega
  have h:((s.drop n).take (1+k+m)).head?=some 46:=by rw [head_take (by omega)];exact a
  rw [e,d1,d2,g,f,hx,if_pos h,hm]
 .have b:number s=(5,wh aW s):=by rw [lD,if_neg a]
  rw [b,lD (List.take _ _),mr,Nat.min_self];have i:(s.take (wh aW s)).drop (wh aW s)=[]:=List.drop_of_length_le (by rw [aau];omega);rw [i,if_neg (by simp)]
theorem CE: ∀s:LB,gH (s.take (gH s))=gH s
 | []=>rfl
 | c::l=>by
  by_cases h1:c=10
  .have h0:gH (c::l)=0:=by simp only [gH,if_pos h1]
   rw [h0];rfl
  .by_cases a:c=34
   .have h0:gH (c::l)=1:=by simp only [gH,if_neg h1,if_pos a]
    rw [h0];show gH [c]=1;simp only [gH,if_neg h1,if_pos a]
   .have h0:gH (c::l)=gH l+1:=by simp only [gH,if_neg h1,if_neg a]
    rw [h0];show gH (c::l.take (gH l))= _;simp only [gH,if_neg h1,if_neg a,CE l]
theorem tU (r:LB): ∀s:LB,gH (s++10::r)=gH s
 | []=>by
  show gH (10::r)=0;simp [gH]
 | c::l=>by
  show gH (c::(l++10::r))= _;simp only [gH,tU r l]
theorem zC {c:UInt8} (h1:c≠10) (a:c≠34):dD [c]=(9,1):=by simp only [dD,if_neg h1,if_neg a]
theorem Bh: ∀s:LB,dD (s.take (dD s).2)=dD s
 | []=>rfl
 | [c]=>by
  by_cases h1:c=10
  .subst h1;rfl
  .by_cases a:c=34
   .subst a;rfl
   .rw [zC h1 a];exact zC h1 a
 | c::d::l=>by
  by_cases h1:c=10
  .have h0:dD (c::d::l)=(9,0):=by simp only [dD,if_pos h1]
   rw [h0];rfl
  by_cases a:c=34
  .have h0:dD (c::d::l)=(7,1):=by simp only [dD,if_neg h1,if_pos a]
   rw [h0];show dD [c]= _;simp only [dD,if_neg h1,if_pos a]
  by_cases g:c=92
  .cases he:Dq d with
   | true=>
    have h0:dD (c::d::l)=((dD l).1,(dD l).2+2):=by simp only [dD,if_neg h1,if_neg a,if_pos g,he,if_true]
    rw [h0];show dD (c::d::l.take (dD l).2)= _;simp only [dD,if_neg h1,if_neg a,if_pos g,he,if_true,Bh l]
   | false=>
    have h0:dD (c::d::l)=(9,gH (d::l)+1):=by simp only [dD,if_neg h1,if_neg a,if_pos g,he,aaT,if_false]
    rw [h0];show dD (c::(d::l).take (gH (d::l)))= _;have b:=CE (d::l);cases f:(d::l).take (gH (d::l)) with
    | nil=>
     rw [f] at b;rw [zC h1 a, <- b];rfl
    | cons e m=>
     rw [f] at b;have:e=d:=by
      cases h:gH (d::l) with
      | zero=>rw [h] at f;cases f
      | succ k=>rw [h] at f;cases f;rfl
     subst this;simp only [dD,if_neg h1,if_neg a,if_pos g,he,aaT,if_false,b]
  .have h0:dD (c::d::l)=((dD (d::l)).1,(dD (d::l)).2+1):=by simp only [dD,if_neg h1,if_neg a,if_neg g]
   rw [h0];show dD (c::(d::l).take (dD (d::l)).2)= _;have b:=Bh (d::l);cases f:(d::l).take (dD (d::l)).2 with
   | nil=>
    rw [f] at b;rw [zC h1 a, <- b];rfl
   | cons e m=>
    rw [f] at b;simp only [dD,if_neg h1,if_neg a,if_neg g,b]
def TF (c:UInt8) (l s:LB):Nat×Nat:=
 if cr c then (1,wh cr s)
 else if s.take 2=[40,42] then (match rem (s.drop 2) 1 with | some n=>(2,n+2) | none=>(9,s.length))
 else if lb c then (um (s.takeWhile iI),wh iI s)
 else if aW c then number s
 else if c=34 then ((dD l).1,(dD l).2+1)
 else if iJ.contains (s.take 2) then (8,2)
 else if kS c then (8,1)
 else (9,if iU s=0 then 1 else iU s)
theorem rR (c:UInt8) (l:LB):cut (c::l)=TF c l (c::l):=rfl
theorem Ot {c:UInt8} {l:LB} (h:(c::l).take 2≠[40,42]) (n:Nat):(c::l.take n).take 2≠[40,42]:=by
 cases l with
 | nil=>rw [List.take_nil];exact h
 | cons d l=>
  cases n with
  | zero=>simp
  | succ n=>exact h
theorem NX {s:LB} (f:s≠[]) (k:iU s≠0):cut (s.take (cut s).2)=cut s:=by
 cases s with
 | nil=>exact absurd rfl f
 | cons c l=>
 have t:=(pd (s:=c::l) (by simp)).1;obtain ⟨m,hm⟩: ∃m,(cut (c::l)).2=m+1:=⟨(cut (c::l)).2 - 1,by omega⟩;have o:(c::l).take (cut (c::l)).2=c::l.take m:=by rw [hm];rfl
 rw [o,rR, <- o];rw [hm];have o:(c::l).take (m+1)=c::l.take m:=rfl;rw [rR c l] at hm ⊢;unfold TF at hm ⊢;cases r:cr c with
 | true=>
  rw [r] at hm;simp only [if_true] at hm ⊢;rw [mr,hm,Nat.min_self]
 | false=>
 rw [r] at hm;simp only [aaT,if_false] at hm ⊢;by_cases b:(c::l).take 2=[40,42]
 .rw [if_pos b] at hm ⊢;have hl:2<=(c::l).length:=by
   have:=aaU List.length b;rw [aau] at this;simp at this;simp;omega
  cases i:rem ((c::l).drop 2) 1 with
  | none=>
   rw [i] at hm;have hm:(c::l).length=m+1:=hm;have e:(c::l).take (m+1)=c::l:=List.take_of_length_le (by omega);rw [e,if_pos b,i]
  | some n=>
   rw [i] at hm;have hm:n+2=m+1:=hm;have e:((c::l).take (m+1)).take 2=(c::l).take 2:=by
    rw [List.take_take];congr 1;omega
   have p:((c::l).take (m+1)).drop 2=((c::l).drop 2).take n:=by
    rw [List.drop_take];congr 1;omega
   rw [e,if_pos b,p,pJ _ _ _ i]
 have q:((c::l).take (m+1)).take 2≠[40,42]:=Ot b m;rw [if_neg b] at hm ⊢;rw [if_neg q];cases g:lb c with
 | true=>
  rw [g] at hm;simp only [if_true] at hm ⊢;have hm:wh iI (c::l)=m+1:=hm;rw [<- hm,mr,Nat.min_self,Pa]
 | false=>
 rw [g] at hm;simp only [aaT,if_false] at hm ⊢;cases h:aW c with
 | true=>
  rw [h] at hm;simp only [if_true] at hm ⊢;rw [<- hm];exact Hv _
 | false=>
 rw [h] at hm;simp only [aaT,if_false] at hm ⊢;by_cases j:c=34
 .rw [if_pos j] at hm ⊢;rw [if_pos j];have hm:(dD l).2+1=m+1:=hm;have e:m=(dD l).2:=by omega
  rw [e,Bh]
 rw [if_neg j] at hm ⊢;rw [if_neg j];cases a:iJ.contains ((c::l).take 2) with
 | true=>
  rw [a] at hm;simp only [if_true] at hm ⊢;have hm:2=m+1:=hm;rw [<- hm,List.take_take,Nat.min_self,a];rfl
 | false=>
 rw [a] at hm;simp only [aaT,if_false] at hm ⊢;cases ho:kS c with
 | true=>
  rw [ho] at hm;simp only [if_true] at hm ⊢;have hm:1=m+1:=hm;have:m=0:=by omega
  subst this;have e:iJ.contains (((c::l).take (0+1)).take 2)=false:=by
   show iJ.contains [c]=false;simp [iJ]
  rw [e];rfl
 | false=>
 rw [ho] at hm;simp only [aaT,if_false] at hm ⊢;have hm:(if iU (c::l)=0 then 1 else iU (c::l))=m+1:=hm;rw [if_neg k] at hm ⊢;have e:iU ((c::l).take (m+1))=iU (c::l):=AE f k (by omega);have p:iJ.contains (((c::l).take (m+1)).take 2)=false:=by
  cases l with
  | nil=>show iJ.contains ((c::[].take m).take 2)=false;rw [List.take_nil];exact a
  | cons d l=>
   cases m with
   | zero=>show iJ.contains [c]=false;simp [iJ]
   | succ m=>exact a
 rw [p,e,if_neg k];rfl
def behind (s:LB):Nat->LB
 | 0=>s
 | n+1=>(behind s n).drop (cut (behind s n)).2
theorem se: ∀(n:Nat) (s:LB),s.length<=n->(((tokens s).map (·.2)).flatten)=s
 | n,[],_=>rfl
 | 0,_:: _,h=>by simp at h
 | n+1,c::l,h=>by
  have a:=pd (s:=c::l) (by simp);rw [yn (by simp),aan,List.flatten_cons,se n _ (by rw [aaz];simp at h ⊢;omega),abb]
theorem R4 {p y y':LB} {d m:Nat} (h:rem (p++y) d=some m) (hm:m<=p.length):rem (p++y') d=some m:=by
 have h1:=pJ _ _ _ h;rw [List.take_append_of_le_length hm] at h1;have a:=zl (p.drop m++y') _ _ _ h1;rw [<- aar,abb] at a;exact a
def dG (l:List (Nat×LB)):LB:=(l.map (·.2)).flatten
def keeps:Nat->List (Nat×LB)->Nat
 | _,[]=>0
 | r,p::l=>if p.2.length+2 < r then keeps (r - p.2.length) l+1 else 0
theorem yJ (p:Nat×LB) (l:List (Nat×LB)):dG (p::l)=p.2++dG l:=rfl
def alike:List (Nat×LB)->List (Nat×LB)->Nat
 | a::l,b::m=>if a=b then alike l m+1 else 0
 | _,_=>0
end Go.Lex
namespace Go.Parse
open Go.VM Go.Lex
mutual
def bG:T->LB
 | .mk k _ tx l=>bg l++(if k=1 then tx else [])
def bg:List T->LB
 | []=>[]
 | t::l=>bG t++bg l
end
theorem dE: ∀(l m:List T),bg (l++m)=bg l++bg m
 | [],m=>by simp [bg]
 | t::l,m=>by simp only [aat,bg,dE l m,aar]
theorem bS (t:T):bg [t]=bG t:=by simp [bg]
theorem qp (s:LB):bG (missing s)=[]:=rfl
theorem eC {k:Nat} (h:k≠1) (l:List T):bG (node k l)=bg l:=by simp [bG,h]
theorem IZ (l m:List bc):dG (l++m)=dG l++dG m:=by simp [dG]
theorem yI: ∀(l:List bc),bg (l.map aY)=dG l
 | []=>rfl
 | t::l=>by
  show bG (aY t)++bg (l.map aY)=t.2++dG l;rw [yI l];rfl
theorem iP (r:List bc):bG (aV r)++dG (aS r)=dG r:=by
 have h:=abC (p:=bC) (l:=r);have e:bG (aV r)=dG (r.takeWhile bC)++(nx r).2:=by
  show bg ((r.takeWhile bC).map aY)++(nx r).2= _;rw [yI]
 rw [e]
 conv=>rhs;rw [<- h,IZ]
 unfold aS nx;cases r.dropWhile bC with
 | nil=>simp [dG]
 | cons t l=>simp [dG]
theorem ke (s:LB) (r:List bc):bG (dy s r)++dG (bp s r)=dG r:=by
 unfold dy bp;split
 .exact iP r
 .rw [qp];rfl
theorem xB (s:LB) (r:List bc):bG (lr s r)++dG (lq r)=dG r:=by
 unfold lr lq;split
 .rw [qp];rfl
 .rw [eC (by decide),bS];exact iP r
def A6:lX->LB
 | .ops _ acc=>bG acc
 | .args acc=>bG acc
 | _=>[]
theorem bind_some {α β:Type} {x:Oq α} {f:α->Oq β} {b:β} (h:(x >>= f)=some b): ∃a,x=some a/\f a=some b:=by
 cases x with
 | none=>cases h
 | some a=>exact ⟨a,rfl,h⟩
theorem pQ (a b:Bool):kindOf a b≠1:=by cases a <;> cases b <;> decide
theorem UA: ∀(N:Nat) (job:lX) (d:Nat) (r:List bc) (l:List T) (r':List bc),P N job d r=some (l,r')->bg l++dG r'=A6 job++dG r:=by
 intro N
 induction N with
 | zero=>intro job d r l r' h;cases h
 | succ n ih=>
  intro job d r l r' h;have tk:=iP r;cases job with
  | expr=>
   simp only [P] at h;split at h
   .cases h;rw [bS,xB];rfl
   .have k:=ih _ _ _ _ _ h;exact k
  | whole=>
   simp only [P] at h;split at h
   .obtain ⟨⟨bs,r2⟩,e,h⟩:=bind_some h;obtain ⟨⟨es,m⟩,f,h⟩:=bind_some h;cases h;have k1:=ih _ _ _ _ _ e;have k2:=ih _ _ _ _ _ f;simp only [A6,aaq] at k1 k2 ⊢;rw [bS,eC (by decide)];simp only [dE,bg,aaq,aay,aar,aat,k2,ke,k1,tk]
   split at h
   .obtain ⟨⟨a,g⟩,e,h⟩:=bind_some h;obtain ⟨⟨ps,r2⟩,f,h⟩:=bind_some h;obtain ⟨⟨es,m⟩,j,h⟩:=bind_some h;cases h;have k1:=ih _ _ _ _ _ e;have k2:=ih _ _ _ _ _ f;have i:=ih _ _ _ _ _ j;simp only [A6,aaq] at k1 k2 i ⊢;rw [bS,eC (by decide)];simp only [dE,bg,aaq,aay,aar,aat,i,ke,k2,k1,tk]
   split at h
   .obtain ⟨⟨a,g⟩,e,h⟩:=bind_some h;obtain ⟨⟨b,r2⟩,f,h⟩:=bind_some h;obtain ⟨⟨c,m⟩,j,h⟩:=bind_some h;cases h;have k1:=ih _ _ _ _ _ e;have k2:=ih _ _ _ _ _ f;have i:=ih _ _ _ _ _ j;simp only [A6,aaq] at k1 k2 i ⊢;rw [bS,eC (by decide)];simp only [dE,bg,aaq,aay,aar,aat,i,ke,k2,k1,tk]
   split at h
   .obtain ⟨⟨a,g⟩,e,h⟩:=bind_some h;obtain ⟨⟨b,m⟩,f,h⟩:=bind_some h;obtain ⟨⟨cs,t⟩,j,h⟩:=bind_some h;cases h;have k1:=ih _ _ _ _ _ e;have k2:=ih _ _ _ _ _ f;have i:=ih _ _ _ _ _ j;simp only [A6,aaq] at k1 k2 i ⊢;have s:bg (if eH iF (bp bW g) then [aV (bp bW g)] else [])++dG (if eH iF (bp bW g) then aS (bp bW g) else bp bW g)=dG (bp bW g):=by
     split
     .rw [bS];exact iP _
     .rfl
    rw [bS,eC (by decide)];simp only [dE,bg,aaq,aay,aar,aat,i,k2,s,ke,k1,tk]
   .have k:=ih _ _ _ _ _ h;exact k
  | level k=>
   simp only [P] at h;split at h
   .have k:=ih _ _ _ _ _ h;exact k
   .obtain ⟨⟨a,g⟩,e,h⟩:=bind_some h;dsimp only at h;split at h
    .have k1:=ih _ _ _ _ _ e;have k2:=ih _ _ _ _ _ h;simp only [A6,aaq,bS] at k1 k2 ⊢;rw [k2,k1]
    .cases h
  | ops k acc=>
   simp only [P] at h;split at h
   .obtain ⟨⟨b,g⟩,e,h⟩:=bind_some h;have k1:=ih _ _ _ _ _ e;have k2:=ih _ _ _ _ _ h;simp only [A6,aaq] at k1 k2 ⊢;rw [k2,eC (by decide)];simp only [bg,aaq,aar,k1,tk]
   .cases h;rw [bS];rfl
  | neg=>
   simp only [P] at h;split at h
   .split at h
    .cases h;rw [bS,eC (by decide)];simp only [bg,aaq,aay,aar,A6,aaq,xB,tk]
    .obtain ⟨⟨a,g⟩,e,h⟩:=bind_some h;cases h;have k1:=ih _ _ _ _ _ e;simp only [A6,aaq] at k1 ⊢;rw [bS,eC (by decide)];simp only [bg,aaq,aar,k1,tk]
   .obtain ⟨⟨a,g⟩,e,h⟩:=bind_some h;dsimp only at h;split at h
    .have k1:=ih _ _ _ _ _ e;have k2:=ih _ _ _ _ _ h;simp only [A6,aaq,bS] at k1 k2 ⊢;rw [k2,k1]
    .cases h
  | args acc=>
   simp only [P] at h;split at h
   .obtain ⟨⟨b,g⟩,e,h⟩:=bind_some h;have k1:=ih _ _ _ _ _ e;have k2:=ih _ _ _ _ _ h;simp only [A6,aaq] at k1 k2 ⊢;rw [k2,eC (by decide)];simp only [bg,aaq,aar,k1]
   .cases h;rw [bS];rfl
  | atom pat=>
   simp only [P] at h;split at h
   .split at h
    .cases h;rw [bS,eC (by decide),bS];exact tk
    split at h
    .have k:=ih _ _ _ _ _ h;exact k
    split at h
    .have k:=ih _ _ _ _ _ h;exact k
    .cases h;rw [bS];exact tk
   .cases h;rw [bS,qp];rfl
  | closed list pat=>
   simp only [P] at h;split at h
   .cases h;have p:=iP (aS r);rw [bS,eC (pQ _ _)];simp only [bg,aaq,aay,aar,A6,aaq,p,tk]
   .obtain ⟨⟨a,r2⟩,e,h⟩:=bind_some h;obtain ⟨⟨bs,m⟩,f,h⟩:=bind_some h;cases h;have k1:=ih _ _ _ _ _ e;have k2:=ih _ _ _ _ _ f;have q:A6 (if pat then lX.pattern else lX.expr)=[]:=by cases pat <;> rfl
    rw [q] at k1;simp only [A6,aaq] at k1 k2 ⊢;rw [bS,eC (pQ _ _)];simp only [dE,bg,aaq,aay,aar,aat,ke,k2,k1,tk]
  | items list pat=>
   simp only [P] at h;split at h
   .obtain ⟨⟨a,r2⟩,e,h⟩:=bind_some h;obtain ⟨⟨bs,m⟩,f,h⟩:=bind_some h;cases h;have k1:=ih _ _ _ _ _ e;have k2:=ih _ _ _ _ _ f;have q:A6 (if pat then lX.pattern else lX.expr)=[]:=by cases pat <;> rfl
    rw [q] at k1;simp only [A6,aaq] at k1 k2 ⊢;simp only [dE,bg,aaq,aar,aat,k2,k1,tk]
   .cases h;rfl
  | pattern=>
   simp only [P] at h;split at h
   .cases h;rw [bS,xB];rfl
   .obtain ⟨⟨a,g⟩,e,h⟩:=bind_some h;have k1:=ih _ _ _ _ _ e;dsimp only at h;split at h
    .obtain ⟨⟨b,r2⟩,f,h⟩:=bind_some h;cases h;have k2:=ih _ _ _ _ _ f;simp only [A6,aaq] at k1 k2 ⊢;rw [bS,eC (by decide)];simp only [dE,bg,aaq,aar,k2,iP,k1]
    .cases h;exact k1
  | binding=>
   simp only [P] at h;have o:bg (if eH eO r then [aV r] else [])++dG (if eH eO r then aS r else r)=dG r:=by
    split
    .rw [bS];exact tk
    .rfl
   generalize (if eH eO r then [aV r] else [])=rc at h o;generalize (if eH eO r then aS r else r)=r0 at h o;split at h
   .obtain ⟨⟨xs,g⟩,e,h⟩:=bind_some h;obtain ⟨⟨ps,m⟩,j,e⟩:=bind_some e;cases e;obtain ⟨⟨es,r2⟩,f,h⟩:=bind_some h;cases h;have i:=ih _ _ _ _ _ j;have k2:=ih _ _ _ _ _ f;simp only [A6,aaq] at k2 i ⊢;simp only [dE,bg,aaq,bS,aar,aat,k2,ke,i,iP,o]
   .obtain ⟨⟨xs,g⟩,e,h⟩:=bind_some h;obtain ⟨⟨es,r2⟩,f,h⟩:=bind_some h;cases h;have k1:=ih _ _ _ _ _ e;have k2:=ih _ _ _ _ _ f;simp only [A6,aaq] at k1 k2 ⊢;simp only [dE,bS,aar,k2,ke,k1,o]
  | params=>
   simp only [P] at h;split at h
   .obtain ⟨⟨a,g⟩,e,h⟩:=bind_some h;obtain ⟨⟨bs,r2⟩,f,h⟩:=bind_some h;cases h;have k1:=ih _ _ _ _ _ e;have k2:=ih _ _ _ _ _ f;simp only [A6,aaq] at k1 k2 ⊢;simp only [dE,aar,k2,k1]
   .cases h;rfl
  | arm=>
   simp only [P] at h;obtain ⟨⟨a,g⟩,e,h⟩:=bind_some h;obtain ⟨⟨es,r2⟩,f,h⟩:=bind_some h;cases h;have k1:=ih _ _ _ _ _ e;have k2:=ih _ _ _ _ _ f;simp only [A6,aaq] at k1 k2 ⊢;rw [bS,eC (by decide)];simp only [dE,bS,aar,k2,ke,k1]
  | arms=>
   simp only [P] at h;split at h
   .obtain ⟨⟨a,g⟩,e,h⟩:=bind_some h;obtain ⟨⟨bs,r2⟩,f,h⟩:=bind_some h;cases h;have k1:=ih _ _ _ _ _ e;have k2:=ih _ _ _ _ _ f;simp only [A6,aaq] at k1 k2 ⊢;simp only [dE,bg,aaq,aar,aat,k2,k1,tk]
   .cases h;rfl
theorem F6 {Q:List bc->Prop} (g: ∀r,Q r->Q (aS r)): ∀(N:Nat) (job:lX) (d:Nat) (r:List bc) (l:List T) (r':List bc),P N job d r=some (l,r')->Q r->Q r':=by
 have hn: ∀s r,Q r->Q (bp s r):=fun s r h=>by
  unfold bp;split
  .exact g r h
  .exact h
 have o: ∀r,Q r->Q (lq r):=fun r h=>by
  unfold lq;split
  .exact h
  .exact g r h
 intro N
 induction N with
 | zero=>intro job d r l r' h;cases h
 | succ n ih=>
  intro job d r l r' h q;cases job with
  | expr=>
   simp only [P] at h;split at h
   .cases h;exact o _ q
   .exact ih _ _ _ _ _ h q
  | whole=>
   simp only [P] at h;split at h
   .obtain ⟨⟨bs,r2⟩,e,h⟩:=bind_some h;obtain ⟨⟨es,m⟩,f,h⟩:=bind_some h;cases h;exact ih _ _ _ _ _ f (hn _ _ (ih _ _ _ _ _ e (g _ q)))
   split at h
   .obtain ⟨⟨a,i⟩,e,h⟩:=bind_some h;obtain ⟨⟨ps,r2⟩,f,h⟩:=bind_some h;obtain ⟨⟨es,m⟩,j,h⟩:=bind_some h;cases h;exact ih _ _ _ _ _ j (hn _ _ (ih _ _ _ _ _ f (ih _ _ _ _ _ e (g _ q))))
   split at h
   .obtain ⟨⟨a,i⟩,e,h⟩:=bind_some h;obtain ⟨⟨b,r2⟩,f,h⟩:=bind_some h;obtain ⟨⟨c,m⟩,j,h⟩:=bind_some h;cases h;exact ih _ _ _ _ _ j (hn _ _ (ih _ _ _ _ _ f (hn _ _ (ih _ _ _ _ _ e (g _ q)))))
   split at h
   .obtain ⟨⟨a,i⟩,e,h⟩:=bind_some h;obtain ⟨⟨b,m⟩,f,h⟩:=bind_some h;obtain ⟨⟨cs,t⟩,j,h⟩:=bind_some h;cases h;have k1:=hn bW _ (ih _ _ _ _ _ e (g _ q));refine ih _ _ _ _ _ j (ih _ _ _ _ _ f ?_);dsimp only;split
    .exact g _ k1
    .exact k1
   .exact ih _ _ _ _ _ h q
  | level k=>
   simp only [P] at h;split at h
   .exact ih _ _ _ _ _ h q
   .obtain ⟨⟨a,i⟩,e,h⟩:=bind_some h;dsimp only at h;split at h
    .exact ih _ _ _ _ _ h (ih _ _ _ _ _ e q)
    .cases h
  | ops k acc=>
   simp only [P] at h;split at h
   .obtain ⟨⟨b,i⟩,e,h⟩:=bind_some h;exact ih _ _ _ _ _ h (ih _ _ _ _ _ e (g _ q))
   .cases h;exact q
  | neg=>
   simp only [P] at h;split at h
   .split at h
    .cases h;exact o _ (g _ q)
    .obtain ⟨⟨a,i⟩,e,h⟩:=bind_some h;cases h;exact ih _ _ _ _ _ e (g _ q)
   .obtain ⟨⟨a,i⟩,e,h⟩:=bind_some h;dsimp only at h;split at h
    .exact ih _ _ _ _ _ h (ih _ _ _ _ _ e q)
    .cases h
  | args acc=>
   simp only [P] at h;split at h
   .obtain ⟨⟨b,i⟩,e,h⟩:=bind_some h;exact ih _ _ _ _ _ h (ih _ _ _ _ _ e q)
   .cases h;exact q
  | atom pat=>
   simp only [P] at h;split at h
   .split at h
    .cases h;exact g _ q
    split at h
    .exact ih _ _ _ _ _ h q
    split at h
    .exact ih _ _ _ _ _ h q
    .cases h;exact g _ q
   .cases h;exact q
  | closed list pat=>
   simp only [P] at h;split at h
   .cases h;exact g _ (g _ q)
   .obtain ⟨⟨a,r2⟩,e,h⟩:=bind_some h;obtain ⟨⟨bs,m⟩,f,h⟩:=bind_some h;cases h;exact hn _ _ (ih _ _ _ _ _ f (ih _ _ _ _ _ e (g _ q)))
  | items list pat=>
   simp only [P] at h;split at h
   .obtain ⟨⟨a,r2⟩,e,h⟩:=bind_some h;obtain ⟨⟨bs,m⟩,f,h⟩:=bind_some h;cases h;exact ih _ _ _ _ _ f (ih _ _ _ _ _ e (g _ q))
   .cases h;exact q
  | pattern=>
   simp only [P] at h;split at h
   .cases h;exact o _ q
   .obtain ⟨⟨a,i⟩,e,h⟩:=bind_some h;have k1:=ih _ _ _ _ _ e q;dsimp only at h;split at h
    .obtain ⟨⟨b,r2⟩,f,h⟩:=bind_some h;cases h;exact ih _ _ _ _ _ f (g _ k1)
    .cases h;exact k1
  | binding=>
   simp only [P] at h;have p:Q (if eH eO r then aS r else r):=by
    split
    .exact g _ q
    .exact q
   generalize (if eH eO r then [aV r] else [])=rc at h;generalize (if eH eO r then aS r else r)=r0 at h p;split at h
   .obtain ⟨⟨xs,i⟩,e,h⟩:=bind_some h;obtain ⟨⟨ps,m⟩,j,e⟩:=bind_some e;cases e;obtain ⟨⟨es,r2⟩,f,h⟩:=bind_some h;cases h;exact ih _ _ _ _ _ f (hn _ _ (ih _ _ _ _ _ j (g _ p)))
   .obtain ⟨⟨xs,i⟩,e,h⟩:=bind_some h;obtain ⟨⟨es,r2⟩,f,h⟩:=bind_some h;cases h;exact ih _ _ _ _ _ f (hn _ _ (ih _ _ _ _ _ e p))
  | params=>
   simp only [P] at h;split at h
   .obtain ⟨⟨a,i⟩,e,h⟩:=bind_some h;obtain ⟨⟨bs,r2⟩,f,h⟩:=bind_some h;cases h;exact ih _ _ _ _ _ f (ih _ _ _ _ _ e q)
   .cases h;exact q
  | arm=>
   simp only [P] at h;obtain ⟨⟨a,i⟩,e,h⟩:=bind_some h;obtain ⟨⟨es,r2⟩,f,h⟩:=bind_some h;cases h;exact ih _ _ _ _ _ f (hn _ _ (ih _ _ _ _ _ e q))
  | arms=>
   simp only [P] at h;split at h
   .obtain ⟨⟨a,i⟩,e,h⟩:=bind_some h;obtain ⟨⟨bs,r2⟩,f,h⟩:=bind_some h;cases h;exact ih _ _ _ _ _ f (ih _ _ _ _ _ e (g _ q))
   .cases h;exact q
theorem zY {Q:List bc->Prop} (a: ∀r,Q r->Q (aS r)): ∀(n:Nat) (r:List bc),Q r->Q (skip n r).2
 | 0,_,q=>q
 | n+1,r,q=>by
  simp only [skip];split
  .exact zY a n _ (a _ q)
  .exact q
def RB (r:List bc):Prop:= ∀t∈r,t.1≠0
theorem mA (r:List bc) (h:RB r):RB (aS r):=fun t a=>h t ((abA bC).subset (List.mem_of_mem_drop a))
theorem DM: ∀(n:Nat) (r:List bc),bg (skip n r).1++dG (skip n r).2=dG r
 | 0,_=>rfl
 | n+1,r=>by
  simp only [skip];split
  .simp only [bg,aaq,aar,DM n,iP]
  .rfl
theorem KO: ∀{r:List bc},(∀t∈r,t.1≠0)->(nx r).1=0->aS r=[]:=by
 intro r h h0;unfold nx at h0;unfold aS;cases a:r.dropWhile bC with
 | nil=>rfl
 | cons t l=>
  rw [a] at h0;have:t∈r:=(abA bC).subset (by rw [a];simp);exact absurd h0 (h t this)
theorem uW: ∀(n:Nat) (r:List bc) (l:List T),decls n r=some l->RB r->bg l=dG r
 | 0,_,_,h,_=>by cases h
 | n+1,r,l,h,a=>by
  simp only [decls] at h;split at h
  .rename_i h0;cases h;rw [bS];have:=iP r;rw [KO a h0] at this;simpa [dG] using this
  split at h
  .obtain ⟨⟨bs,d⟩,c,h⟩:=bind_some h;obtain ⟨m,b,h⟩:=bind_some h;cases h;have k1:=UA _ _ _ _ _ _ c;have k2:=uW n d m b (F6 mA _ _ _ _ _ _ c (mA _ a));simp only [A6,aaq] at k1;simp only [bg,eC (show (5:Nat)≠1 by decide),aar,k2,k1,iP]
  .obtain ⟨m,b,h⟩:=bind_some h;cases h;have k2:=uW n _ m b (zY mA _ _ a);simp only [bg,eC (show (3:Nat)≠1 by decide),k2,DM]
theorem BN (r:List bc) (h:RB r):bG (doc r)=dG r:=by
 obtain ⟨l,a,b⟩:=jK r;rw [b,eC (by decide),uW _ _ _ a h]
mutual
def dS:T->Bool
 | .mk k tk _ l=>k != 2&&k != 3&&(k != 1||tk != 9)&&du l
def du:List T->Bool
 | []=>true
 | t::l=>dS t&&du l
end
mutual
def iD:T->Nat
 | .mk _ _ _ l=>gm l+1
def gm:List T->Nat
 | []=>0
 | t::l=>max (iD t) (gm l)
end
theorem dr: ∀(l m:List T),gm (l++m)=max (gm l) (gm m)
 | [],m=>by simp [gm]
 | t::l,m=>by simp only [aat,gm,dr l m];omega
theorem bJ (t:T):gm [t]=iD t:=by simp [gm]
theorem cM (k:Nat) (l:List T):iD (node k l)=gm l+1:=by simp [iD]
theorem B9: ∀(l:List bc),gm (l.map aY)<=1
 | []=>by simp [gm]
 | t::l=>by
  have:=B9 l;simp only [aan,gm,aY,leaf,iD];omega
theorem dH (r:List bc):iD (aV r)<=2:=by
 have:=B9 (r.takeWhile bC);unfold aV leaf;simp only [iD];omega
theorem mD (s:LB):iD (missing s)=1:=by simp [missing,iD,gm]
theorem gW (s:LB) (r:List bc):iD (dy s r)<=2:=by
 unfold dy;split
 .exact dH r
 .rw [mD];omega
theorem vr (s:LB) (r:List bc):iD (lr s r)<=3:=by
 unfold lr;have:=dH r;split
 .rw [mD];omega
 .rw [cM,bJ];omega
def dW:lX->List T
 | .ops _ acc=>[acc]
 | .args acc=>[acc]
 | _=>[]
theorem bm:gm []=0:=by simp [gm]
theorem cw (t:T) (l:List T):gm (t::l)=max (iD t) (gm l):=by simp [gm]
theorem pY (b:Bool):dW (if b then lX.pattern else lX.expr)=[]:=by cases b <;> rfl
theorem Tp: ∀(N:Nat) (job:lX) (d:Nat) (r:List bc) (l:List T) (r':List bc),P N job d r=some (l,r')->gm l<=max (gm (dW job)) (N * N+4)+N:=by
 intro N
 induction N with
 | zero=>intro job d r l r' h;cases h
 | succ n ih=>
  intro job d r l r' h;have hm:(n+1) * (n+1)=n * n+2 * n+1:=by rw [Nat.add_mul,Nat.mul_add];omega
  rw [hm];clear hm;generalize n * n=q at ih ⊢;have tk:=dH r;have fin: ∀{job:lX} {d:Nat} {r:List bc} {l:List T} {r':List bc},dW job=[]->P n job d r=some (l,r')->gm l<=q+4+n:=fun o he=>by
   have:=ih _ _ _ _ _ he;rw [o,bm] at this;omega
  cases job with
  | expr=>
   simp only [P] at h;simp only [dW,bm];split at h
   .cases h;rw [bJ];have:=vr pD r;omega
   .have k:=fin rfl h;omega
  | whole=>
   simp only [P] at h;simp only [dW,bm];split at h
   .obtain ⟨⟨bs,r2⟩,e,h⟩:=bind_some h;obtain ⟨⟨es,i⟩,f,h⟩:=bind_some h;cases h;have k1:=fin rfl e;have k2:=fin rfl f;have:=gW R5 r2;simp only [bJ,cM,dr,cw,bm];omega
   split at h
   .obtain ⟨⟨a,g⟩,e,h⟩:=bind_some h;obtain ⟨⟨ps,r2⟩,f,h⟩:=bind_some h;obtain ⟨⟨es,i⟩,j,h⟩:=bind_some h;cases h;have k1:=fin rfl e;have k2:=fin rfl f;have m:=fin rfl j;have:=gW iw r2;simp only [bJ,cM,dr,cw,bm];omega
   split at h
   .obtain ⟨⟨a,g⟩,e,h⟩:=bind_some h;obtain ⟨⟨b,r2⟩,f,h⟩:=bind_some h;obtain ⟨⟨c,i⟩,j,h⟩:=bind_some h;cases h;have k1:=fin rfl e;have k2:=fin rfl f;have m:=fin rfl j;have:=gW vu g;have:=gW vh r2;simp only [bJ,cM,dr,cw,bm];omega
   split at h
   .obtain ⟨⟨a,g⟩,e,h⟩:=bind_some h;obtain ⟨⟨b,i⟩,f,h⟩:=bind_some h;obtain ⟨⟨cs,u⟩,j,h⟩:=bind_some h;cases h;have k1:=fin rfl e;have k2:=fin rfl f;have m:=fin rfl j;have:=gW bW g;have v:gm (if eH iF (bp bW g) then [aV (bp bW g)] else [])<=2:=by
     split
     .rw [bJ];exact dH _
     .rw [bm];omega
    simp only [bJ,cM,dr,cw,bm];omega
   .have k:=fin rfl h;omega
  | level k=>
   simp only [P] at h;simp only [dW,bm];split at h
   .have k:=fin rfl h;omega
   .obtain ⟨⟨a,g⟩,e,h⟩:=bind_some h;dsimp only at h;split at h
    .rename_i t;have k1:=fin rfl e;have k2:=ih _ _ _ _ _ h;simp only [dW,bJ] at k1 k2;omega
    .cases h
  | ops k acc=>
   simp only [P] at h;simp only [dW,bJ];split at h
   .obtain ⟨⟨b,g⟩,e,h⟩:=bind_some h;have k1:=fin rfl e;have k2:=ih _ _ _ _ _ h;simp only [dW,bJ,cM,cw,bm] at k2;omega
   .cases h;rw [bJ];omega
  | neg=>
   simp only [P] at h;simp only [dW,bm];split at h
   .split at h
    .cases h;have:=vr pD (aS r);simp only [bJ,cM,cw,bm];omega
    .obtain ⟨⟨a,g⟩,e,h⟩:=bind_some h;cases h;have k1:=fin rfl e;simp only [bJ,cM,cw,bm];omega
   .obtain ⟨⟨a,g⟩,e,h⟩:=bind_some h;dsimp only at h;split at h
    .have k1:=fin rfl e;have k2:=ih _ _ _ _ _ h;simp only [dW,bJ] at k1 k2;omega
    .cases h
  | args acc=>
   simp only [P] at h;simp only [dW,bJ];split at h
   .obtain ⟨⟨b,g⟩,e,h⟩:=bind_some h;have k1:=fin rfl e;have k2:=ih _ _ _ _ _ h;simp only [dW,bJ,cM,cw,bm] at k2;omega
   .cases h;rw [bJ];omega
  | atom pat=>
   simp only [P] at h;simp only [dW,bm];split at h
   .split at h
    .cases h;simp only [bJ,cM];omega
    split at h
    .have k:=fin rfl h;omega
    split at h
    .have k:=fin rfl h;omega
    .cases h;rw [bJ];omega
   .cases h;rw [bJ,mD];omega
  | closed list pat=>
   simp only [P] at h;simp only [dW,bm];split at h
   .cases h;have p:=dH (aS r);simp only [bJ,cM,cw,bm];omega
   .obtain ⟨⟨a,r2⟩,e,h⟩:=bind_some h;obtain ⟨⟨bs,i⟩,f,h⟩:=bind_some h;cases h;have k1:=fin (pY pat) e;have k2:=fin rfl f;have:=gW (jJ list) i;simp only [bJ,cM,dr,cw,bm];omega
  | items list pat=>
   simp only [P] at h;simp only [dW,bm];split at h
   .obtain ⟨⟨a,g⟩,e,h⟩:=bind_some h;obtain ⟨⟨bs,r2⟩,f,h⟩:=bind_some h;cases h;have k1:=fin (pY pat) e;have k2:=fin rfl f;simp only [dr,cw];omega
   .cases h;rw [bm];omega
  | pattern=>
   simp only [P] at h;simp only [dW,bm];split at h
   .cases h;rw [bJ];have:=vr mo r;omega
   .obtain ⟨⟨a,g⟩,e,h⟩:=bind_some h;have k1:=fin rfl e;dsimp only at h;split at h
    .obtain ⟨⟨b,r2⟩,f,h⟩:=bind_some h;cases h;have k2:=fin rfl f;have:=dH g;simp only [bJ,cM,dr,cw,bm];omega
    .cases h;omega
  | binding=>
   simp only [P] at h;simp only [dW,bm];have s:gm (if eH eO r then [aV r] else [])<=2:=by
    split
    .rw [bJ];exact tk
    .rw [bm];omega
   generalize (if eH eO r then [aV r] else [])=rc at h s;generalize (if eH eO r then aS r else r)=r0 at h;split at h
   .obtain ⟨⟨xs,g⟩,e,h⟩:=bind_some h;obtain ⟨⟨ps,i⟩,j,e⟩:=bind_some e;cases e;obtain ⟨⟨es,r2⟩,f,h⟩:=bind_some h;cases h;have m:=fin rfl j;have k2:=fin rfl f;have:=dH r0;have:=gW yu i;simp only [dr,bJ,cw,bm];omega
   .obtain ⟨⟨xs,g⟩,e,h⟩:=bind_some h;obtain ⟨⟨es,r2⟩,f,h⟩:=bind_some h;cases h;have k1:=fin rfl e;have k2:=fin rfl f;have:=gW yu g;simp only [dr,bJ];omega
  | params=>
   simp only [P] at h;simp only [dW,bm];split at h
   .obtain ⟨⟨a,g⟩,e,h⟩:=bind_some h;obtain ⟨⟨bs,r2⟩,f,h⟩:=bind_some h;cases h;have k1:=fin rfl e;have k2:=fin rfl f;simp only [dr];omega
   .cases h;rw [bm];omega
  | arm=>
   simp only [P] at h;simp only [dW,bm];obtain ⟨⟨a,g⟩,e,h⟩:=bind_some h;obtain ⟨⟨es,r2⟩,f,h⟩:=bind_some h;cases h;have k1:=fin rfl e;have k2:=fin rfl f;have:=gW iw g;simp only [bJ,cM,dr];omega
  | arms=>
   simp only [P] at h;simp only [dW,bm];split at h
   .obtain ⟨⟨a,g⟩,e,h⟩:=bind_some h;obtain ⟨⟨bs,r2⟩,f,h⟩:=bind_some h;cases h;have k1:=fin rfl e;have k2:=fin rfl f;simp only [dr,cw];omega
   .cases h;rw [bm];omega
theorem gZ: ∀(N:Nat) (job:lX) (d:Nat) (r:List bc) (l:List T) (r':List bc),P N job d r=some (l,r')->single job=true-> ∃t,l=[t]:=by
 intro N
 induction N with
 | zero=>intro job d r l r' h;cases h
 | succ n ih=>
  intro job d r l r' h hs;cases job with
  | expr=>
   simp only [P] at h;split at h
   .cases h;exact ⟨_,rfl⟩
   .exact ih _ _ _ _ _ h rfl
  | whole=>
   simp only [P] at h;split at h
   .obtain ⟨⟨bs,r2⟩,e,h⟩:=bind_some h;obtain ⟨⟨es,i⟩,g,h⟩:=bind_some h;cases h;exact ⟨_,rfl⟩
   split at h
   .obtain ⟨⟨a,f⟩,e,h⟩:=bind_some h;obtain ⟨⟨ps,r2⟩,g,h⟩:=bind_some h;obtain ⟨⟨es,i⟩,j,h⟩:=bind_some h;cases h;exact ⟨_,rfl⟩
   split at h
   .obtain ⟨⟨a,f⟩,e,h⟩:=bind_some h;obtain ⟨⟨b,r2⟩,g,h⟩:=bind_some h;obtain ⟨⟨c,i⟩,j,h⟩:=bind_some h;cases h;exact ⟨_,rfl⟩
   split at h
   .obtain ⟨⟨a,f⟩,e,h⟩:=bind_some h;obtain ⟨⟨b,i⟩,g,h⟩:=bind_some h;obtain ⟨⟨cs,m⟩,j,h⟩:=bind_some h;cases h;exact ⟨_,rfl⟩
   .exact ih _ _ _ _ _ h rfl
  | level k=>
   simp only [P] at h;split at h
   .exact ih _ _ _ _ _ h rfl
   .obtain ⟨⟨a,f⟩,e,h⟩:=bind_some h;dsimp only at h;split at h
    .exact ih _ _ _ _ _ h rfl
    .cases h
  | ops k acc=>
   simp only [P] at h;split at h
   .obtain ⟨⟨b,f⟩,e,h⟩:=bind_some h;exact ih _ _ _ _ _ h rfl
   .cases h;exact ⟨_,rfl⟩
  | neg=>
   simp only [P] at h;split at h
   .split at h
    .cases h;exact ⟨_,rfl⟩
    .obtain ⟨⟨a,f⟩,e,h⟩:=bind_some h;cases h;exact ⟨_,rfl⟩
   .obtain ⟨⟨a,f⟩,e,h⟩:=bind_some h;dsimp only at h;split at h
    .exact ih _ _ _ _ _ h rfl
    .cases h
  | args acc=>
   simp only [P] at h;split at h
   .obtain ⟨⟨b,f⟩,e,h⟩:=bind_some h;exact ih _ _ _ _ _ h rfl
   .cases h;exact ⟨_,rfl⟩
  | atom pat=>
   simp only [P] at h;split at h
   .split at h
    .cases h;exact ⟨_,rfl⟩
    split at h
    .exact ih _ _ _ _ _ h rfl
    split at h
    .exact ih _ _ _ _ _ h rfl
    .cases h;exact ⟨_,rfl⟩
   .cases h;exact ⟨_,rfl⟩
  | closed list pat=>
   simp only [P] at h;split at h
   .cases h;exact ⟨_,rfl⟩
   .obtain ⟨⟨a,r2⟩,e,h⟩:=bind_some h;obtain ⟨⟨bs,i⟩,g,h⟩:=bind_some h;cases h;exact ⟨_,rfl⟩
  | items list pat=>cases hs
  | pattern=>
   simp only [P] at h;split at h
   .cases h;exact ⟨_,rfl⟩
   .obtain ⟨⟨a,f⟩,e,h⟩:=bind_some h;dsimp only at h;split at h
    .obtain ⟨⟨b,r2⟩,g,h⟩:=bind_some h;cases h;exact ⟨_,rfl⟩
    .cases h;exact ih _ _ _ _ _ e rfl
  | binding=>cases hs
  | params=>cases hs
  | arm=>
   simp only [P] at h;obtain ⟨⟨a,f⟩,e,h⟩:=bind_some h;obtain ⟨⟨es,r2⟩,g,h⟩:=bind_some h;cases h;exact ⟨_,rfl⟩
  | arms=>cases hs
theorem qR {N:Nat} {job:lX} {d:Nat} {r:List bc} {l:List T} {r':List bc} (h:P N job d r=some (l,r')) (hs:single job=true):l.length=1:=by
 obtain ⟨t,rfl⟩:=gZ N job d r l r' h hs;rfl
theorem Im (b:Bool):single (if b then lX.pattern else .expr)=true:=by cases b <;> rfl
theorem MQ: ∀(N:Nat) (list pat:Bool) (d:Nat) (r:List bc) (l:List T) (r':List bc),P N (.items list pat) d r=some (l,r')->l.length<=2 * N:=by
 intro N
 induction N with
 | zero=>intro list pat d r l r' h;cases h
 | succ n ih=>
  intro list pat d r l r' h;simp only [P] at h;split at h
  .obtain ⟨⟨a,e⟩,b,h⟩:=bind_some h;obtain ⟨⟨bs,r2⟩,c,h⟩:=bind_some h;cases h;have:=qR b (Im pat);have:=ih _ _ _ _ _ _ c;simp only [aad,aae];omega
  .cases h;simp
theorem va: ∀(N:Nat) (d:Nat) (r:List bc) (l:List T) (r':List bc),P N .params d r=some (l,r')->l.length<=N:=by
 intro N
 induction N with
 | zero=>intro d r l r' h;cases h
 | succ n ih=>
  intro d r l r' h;simp only [P] at h;split at h
  .obtain ⟨⟨a,e⟩,b,h⟩:=bind_some h;obtain ⟨⟨bs,r2⟩,c,h⟩:=bind_some h;cases h;have:=qR b rfl;have:=ih _ _ _ _ c;simp only [aad];omega
  .cases h;simp
theorem Nh: ∀(N:Nat) (d:Nat) (r:List bc) (l:List T) (r':List bc),P N .arms d r=some (l,r')->l.length<=2 * N:=by
 intro N
 induction N with
 | zero=>intro d r l r' h;cases h
 | succ n ih=>
  intro d r l r' h;simp only [P] at h;split at h
  .obtain ⟨⟨a,e⟩,b,h⟩:=bind_some h;obtain ⟨⟨bs,r2⟩,c,h⟩:=bind_some h;cases h;have:=qR b rfl;have:=ih _ _ _ _ c;simp only [aad,aae];omega
  .cases h;simp
theorem yX: ∀(N:Nat) (d:Nat) (r:List bc) (l:List T) (r':List bc),P N .binding d r=some (l,r')->l.length<=N+4/\l≠[]:=by
 intro N d r l r' h;cases N with
 | zero=>cases h
 | succ n=>
  simp only [P] at h;have c:(if eH eO r then [aV r] else []).length<=1:=by split <;> simp
  generalize (if eH eO r then [aV r] else [])=rc at h c;generalize (if eH eO r then aS r else r)=r0 at h;split at h
  .obtain ⟨⟨xs,e⟩,a,h⟩:=bind_some h;obtain ⟨⟨ps,g⟩,f,a⟩:=bind_some a;cases a;obtain ⟨⟨es,r2⟩,b,h⟩:=bind_some h;cases h;have:=va _ _ _ _ _ f;have:=qR b rfl;refine ⟨?_,by simp⟩;simp only [aad,aae,aai];omega
  .obtain ⟨⟨xs,e⟩,a,h⟩:=bind_some h;obtain ⟨⟨es,r2⟩,b,h⟩:=bind_some h;cases h;have:=qR a rfl;have:=qR b rfl;refine ⟨?_,by simp⟩;simp only [aad,aae,aai];omega
end Go.Parse
namespace Go.Lex
open Go.VM
def wR (s:LB):Int:=if 65536 < s.length then 40 else if cb s=false then 4 else 0
theorem zV {s:LB} (h:wR s=0):s.length<=65536/\cb s=true:=by
 unfold wR at h;by_cases h1:65536 < s.length
 .rw [if_pos h1] at h;exact absurd h (by decide)
 .rw [if_neg h1] at h;cases a:cb s with
  | false=>rw [a,if_pos rfl] at h;exact absurd h (by decide)
  | true=>exact ⟨by omega,rfl⟩
theorem UF {s:LB} (h1:s.length<=65536) (a:cb s=true):wR s=0:=by
 unfold wR;rw [if_neg (by omega),a,if_neg (by simp)]
theorem JR: ∀(n:Nat) (s:LB),s.length<=n->(fQ n s).length<=s.length
 | 0,_,_=>by simp [fQ]
 | n+1,[],_=>by simp [fQ]
 | n+1,c::l,h=>by
  have a:=pd (s:=c::l) (by simp);have ih:=JR n ((c::l).drop (cut (c::l)).2) (by rw [aaz];simp at h ⊢;omega);rw [aaz] at ih;simp only [fQ,aae] at ih ⊢;omega
theorem tM (s:LB):(tokens s).length<=s.length:=JR _ _ (aal _)
end Go.Lex
namespace Go.Parse
open Go.VM Go.Lex
theorem cD {α β:Type} {x:Oq α} {f:α->Oq β} {a:α} (h:x=some a):(x >>= f)=f a:=by rw [h];rfl
theorem U5: ∀(N:Nat) (job:lX) (d:Nat) (r:List bc) (x:List T×List bc),P N job d r=some x-> ∀M,N<=M->P M job d r=some x:=by
 intro N
 induction N with
 | zero=>intro job d r x h;cases h
 | succ n ih=>
  intro job d r x h M o;obtain ⟨m,rfl⟩: ∃m,M=m+1:=⟨M - 1,by omega⟩;have up: ∀{job:lX} {d:Nat} {r:List bc} {x:List T×List bc},P n job d r=some x->P m job d r=some x:=fun h=>ih _ _ _ _ h m (by omega);cases job with
  | expr=>
   simp only [P] at h ⊢;split at h
   .rename_i e;rw [if_pos e];exact h
   .rename_i e;rw [if_neg e];exact up h
  | whole=>
   simp only [P] at h ⊢;split at h
   .rename_i e;rw [if_pos e];obtain ⟨⟨bs,r2⟩,f,h⟩:=bind_some h;obtain ⟨⟨es,j⟩,g,h⟩:=bind_some h;rw [cD (up f),cD (up g)];exact h
   rename_i e;rw [if_neg e];split at h
   .rename_i e;rw [if_pos e];obtain ⟨⟨a,i⟩,f,h⟩:=bind_some h;obtain ⟨⟨ps,r2⟩,g,h⟩:=bind_some h;obtain ⟨⟨es,j⟩,l,h⟩:=bind_some h;rw [cD (up f),cD (up g),cD (up l)];exact h
   rename_i e;rw [if_neg e];split at h
   .rename_i e;rw [if_pos e];obtain ⟨⟨a,i⟩,f,h⟩:=bind_some h;obtain ⟨⟨b,r2⟩,g,h⟩:=bind_some h;obtain ⟨⟨c,j⟩,l,h⟩:=bind_some h;rw [cD (up f),cD (up g),cD (up l)];exact h
   rename_i e;rw [if_neg e];split at h
   .rename_i e;rw [if_pos e];obtain ⟨⟨a,i⟩,f,h⟩:=bind_some h;obtain ⟨⟨b,j⟩,g,h⟩:=bind_some h;obtain ⟨⟨cs,p⟩,l,h⟩:=bind_some h;rw [cD (up f),cD (up g),cD (up l)];exact h
   rename_i e;rw [if_neg e];exact up h
  | level k=>
   simp only [P] at h ⊢;split at h
   .rename_i e;rw [if_pos e];exact up h
   .rename_i e;rw [if_neg e];obtain ⟨⟨a,i⟩,f,h⟩:=bind_some h;rw [cD (up f)];dsimp only at h ⊢;split at h
    .exact up h
    .cases h
  | ops k acc=>
   simp only [P] at h ⊢;split at h
   .rename_i e;rw [if_pos e];obtain ⟨⟨b,i⟩,f,h⟩:=bind_some h;rw [cD (up f)];exact up h
   .rename_i e;rw [if_neg e];exact h
  | neg=>
   simp only [P] at h ⊢;split at h
   .rename_i e;rw [if_pos e];split at h
    .rename_i e;rw [if_pos e];exact h
    .rename_i e;rw [if_neg e];obtain ⟨⟨a,i⟩,f,h⟩:=bind_some h;rw [cD (up f)];exact h
   .rename_i e;rw [if_neg e];obtain ⟨⟨a,i⟩,f,h⟩:=bind_some h;rw [cD (up f)];dsimp only at h ⊢;split at h
    .exact up h
    .cases h
  | args acc=>
   simp only [P] at h ⊢;split at h
   .rename_i e;rw [if_pos e];obtain ⟨⟨b,i⟩,f,h⟩:=bind_some h;rw [cD (up f)];exact up h
   .rename_i e;rw [if_neg e];exact h
  | atom pat=>
   simp only [P] at h ⊢;split at h
   .rename_i e;rw [if_pos e];split at h
    .rename_i e;rw [if_pos e];exact h
    rename_i e;rw [if_neg e];split at h
    .rename_i e;rw [if_pos e];exact up h
    rename_i e;rw [if_neg e];split at h
    .rename_i e;rw [if_pos e];exact up h
    .rename_i e;rw [if_neg e];exact h
   .rename_i e;rw [if_neg e];exact h
  | closed list pat=>
   simp only [P] at h ⊢;split at h
   .rename_i e;rw [if_pos e];exact h
   .rename_i e;rw [if_neg e];obtain ⟨⟨a,r2⟩,f,h⟩:=bind_some h;obtain ⟨⟨bs,j⟩,g,h⟩:=bind_some h;rw [cD (up f),cD (up g)];exact h
  | items list pat=>
   simp only [P] at h ⊢;split at h
   .rename_i e;rw [if_pos e];obtain ⟨⟨a,r2⟩,f,h⟩:=bind_some h;obtain ⟨⟨bs,j⟩,g,h⟩:=bind_some h;rw [cD (up f),cD (up g)];exact h
   .rename_i e;rw [if_neg e];exact h
  | pattern=>
   simp only [P] at h ⊢;split at h
   .rename_i e;rw [if_pos e];exact h
   .rename_i e;rw [if_neg e];obtain ⟨⟨a,i⟩,f,h⟩:=bind_some h;rw [cD (up f)];dsimp only at h ⊢;split at h
    .rename_i e;rw [if_pos e];obtain ⟨⟨b,r2⟩,g,h⟩:=bind_some h;rw [cD (up g)];exact h
    .rename_i e;rw [if_neg e];exact h
  | binding=>
   simp only [P] at h ⊢;generalize (if eH eO r then [aV r] else [])=rc at h ⊢;generalize (if eH eO r then aS r else r)=r0 at h ⊢;split at h
   .rename_i e;rw [if_pos e];obtain ⟨⟨xs,i⟩,f,h⟩:=bind_some h;obtain ⟨⟨ps,j⟩,l,f⟩:=bind_some f;cases f;obtain ⟨⟨es,r2⟩,g,h⟩:=bind_some h;rw [cD (up l)];show (P m .expr d (bp yu j) >>= _)= _;rw [cD (up g)];exact h
   .rename_i e;rw [if_neg e];obtain ⟨⟨xs,i⟩,f,h⟩:=bind_some h;obtain ⟨⟨es,r2⟩,g,h⟩:=bind_some h;rw [cD (up f),cD (up g)];exact h
  | params=>
   simp only [P] at h ⊢;split at h
   .rename_i e;rw [if_pos e];obtain ⟨⟨a,i⟩,f,h⟩:=bind_some h;obtain ⟨⟨bs,r2⟩,g,h⟩:=bind_some h;rw [cD (up f),cD (up g)];exact h
   .rename_i e;rw [if_neg e];exact h
  | arm=>
   simp only [P] at h ⊢;obtain ⟨⟨a,i⟩,f,h⟩:=bind_some h;obtain ⟨⟨es,r2⟩,g,h⟩:=bind_some h;rw [cD (up f),cD (up g)];exact h
  | arms=>
   simp only [P] at h ⊢;split at h
   .rename_i e;rw [if_pos e];obtain ⟨⟨a,i⟩,f,h⟩:=bind_some h;obtain ⟨⟨bs,r2⟩,g,h⟩:=bind_some h;rw [cD (up f),cD (up g)];exact h
   .rename_i e;rw [if_neg e];exact h
theorem qz: ∀(N:Nat) (r:List bc) (l:List T),decls N r=some l-> ∀M,N<=M->decls M r=some l
 | 0,_,_,h,_,_=>by cases h
 | n+1,r,l,h,M,d=>by
  obtain ⟨m,rfl⟩: ∃m,M=m+1:=⟨M - 1,by omega⟩;simp only [decls] at h ⊢;split at h
  .rename_i a;rw [if_pos a];exact h
  rename_i a;rw [if_neg a];split at h
  .rename_i a;rw [if_pos a];obtain ⟨⟨bs,e⟩,c,h⟩:=bind_some h;obtain ⟨k,b,h⟩:=bind_some h;rw [cD (U5 _ _ _ _ _ c m (by omega)),cD (qz n _ _ b m (by omega))];exact h
  .rename_i a;rw [if_neg a];obtain ⟨k,b,h⟩:=bind_some h;rw [cD (qz n _ _ b m (by omega))];exact h
theorem L6 {N:Nat} {r:List bc} {l:List T} (h:decls N r=some l):doc r=node 4 l:=by
 obtain ⟨m,b,c⟩:=jK r;have h1:=qz _ _ _ h (N+fuel r) (by omega);have a:=qz _ _ _ b (N+fuel r) (by omega);rw [h1] at a;rw [c,abp a]
structure Ext (f:List bc->List bc):Prop where
 nx: ∀r,(nx r).1≠0->Parse.nx (f r)=Parse.nx r
 tk: ∀r,(Parse.nx r).1≠0->aV (f r)=aV r
 tr: ∀r,(Parse.nx r).1≠0->aS (f r)=f (aS r)
 nd: ∀r,(Parse.nx r).1=0->Parse.nx (f r)=(3,ub)
section
variable {f:List bc->List bc} (hf:Ext f)
include hf
end
theorem gn: ∀(l m:List T),du (l++m)=(du l&&du m)
 | [],m=>by simp [du]
 | t::l,m=>by simp only [aat,du,gn l m,Bool.and_assoc]
theorem vL (s:LB):dS (missing s)=false:=rfl
theorem Mw {s:LB} {r:List bc} (h:dS (dy s r)=true):eH s r=true:=by
 unfold dy at h;split at h
 .assumption
 .rw [vL] at h;cases h
theorem xP (s:LB) (r:List bc):dS (lr s r)=false:=by
 unfold lr;split
 .rfl
 .rfl
theorem eR {t:T}:du [t]=dS t:=by simp [du]
theorem eh {k:Nat} {l:List T} (h:dS (node k l)=true):du l=true:=by
 simp only [dS,aak] at h;exact h.2
theorem Jw (a b:Bool):kindOf a b≠2:=by cases a <;> cases b <;> decide
def eM:lX->List T
 | .ops _ acc=>[acc]
 | .args acc=>[acc]
 | _=>[]
theorem K4: ∀(N:Nat) (job:lX) (d:Nat) (r:List bc) (l:List T) (r':List bc),P N job d r=some (l,r')->du l=true->du (eM job)=true:=by
 intro N
 induction N with
 | zero=>intro job d r l r' h;cases h
 | succ n ih=>
  intro job d r l r' h a;cases job with
  | ops k acc=>
   simp only [P] at h;split at h
   .obtain ⟨⟨b,c⟩,e,h⟩:=bind_some h;have:=ih _ _ _ _ _ h a;simp only [eM,eR] at this ⊢;have:=eh this;simp only [du,aak] at this;exact this.1
   .cases h;exact a
  | args acc=>
   simp only [P] at h;split at h
   .obtain ⟨⟨b,c⟩,e,h⟩:=bind_some h;have:=ih _ _ _ _ _ h a;simp only [eM,eR] at this ⊢;have:=eh this;simp only [du,aak] at this;exact this.1
   .cases h;exact a
  | _=>rfl
end Go.Parse
namespace Go.Lex
open Go.VM
end Go.Lex
namespace Go.Parse
open Go.VM Go.Lex
theorem NB {p:bc->Bool} {l:List bc} {x:bc} (h:x∈l.takeWhile p):p x=true:=aa7.1 List.all_takeWhile x h
mutual
def jS:T->LB
 | .mk k _ tx l=>if k=1 then tx else if k=2 then 63::tx else 40::UInt8.ofNat (97+k)::sO l++[41]
def sO:List T->LB
 | []=>[]
 | t::l=>32::jS t++sO l
end
theorem IQ (t:bc) (ks:List T):jS (leaf t ks)=t.2:=by simp [leaf,jS]
def Yg (t:bc):Bool:=t.1 != 1
def nb (r:List bc):List bc:=r.filter Yg
theorem iS (t:bc) (r:List bc):nb (t::r)=if t.1=1 then nb r else t::nb r:=by
 unfold nb;rw [ab4];by_cases h:t.1=1
 .have:Yg t=false:=by simp [Yg,h]
  rw [this,if_pos h];rfl
 .have:Yg t=true:=by simp [Yg,h]
  rw [this,if_neg h];rfl
def kz:T->Bool
 | .mk k tk _ l=>k==1&&(tk==1&&l.isEmpty)
mutual
def dj:T->T
 | .mk k tk tx l=> .mk k tk tx (if k=1 then l.filter (fun t=> !kz t) else rz l)
def rz:List T->List T
 | []=>[]
 | t::l=>dj t::rz l
end
theorem tl: ∀(l:List T),rz l=l.map dj
 | []=>rfl
 | t::l=>by rw [rz,tl l];rfl
theorem dF {k:Nat} (h:k≠1) (l:List T):dj (node k l)=node k (l.map dj):=by
 unfold node;rw [dj,if_neg h,tl]
theorem qw (s:LB):dj (missing s)=missing s:=by
 unfold missing;rw [dj,if_neg (by decide)];rfl
theorem zI: ∀(r:List bc),(nb r).dropWhile bC=nb (r.dropWhile bC)
 | []=>rfl
 | t::r=>by
  rw [iS];by_cases h:t.1=1
  .have a:bC t=true:=by simp [bC,h]
   rw [if_pos h,abn,if_pos a];exact zI r
  .rw [if_neg h,abn,abn];cases a:bC t with
   | true=>rw [if_pos rfl,if_pos rfl];exact zI r
   | false=>
    rw [if_neg (by decide),if_neg (by decide),iS,if_neg h]
theorem Fs: ∀(r:List bc),(nb r).takeWhile bC=nb (r.takeWhile bC)
 | []=>rfl
 | t::r=>by
  rw [iS];by_cases h:t.1=1
  .have a:bC t=true:=by simp [bC,h]
   rw [if_pos h,aa1,if_pos a,iS,if_pos h];exact Fs r
  .rw [if_neg h,aa1,aa1];cases a:bC t with
   | true=>rw [if_pos rfl,if_pos rfl,iS,if_neg h,Fs r]
   | false=>rw [if_neg (by decide),if_neg (by decide)];rfl
theorem Dd {r:List bc} {t:bc} {l:List bc} (h:r.dropWhile bC=t::l):t.1≠1:=by
 have:=List.head?_dropWhile_not bC r;rw [h] at this;intro e;simp [bC,e] at this
theorem rC (r:List bc):nx (nb r)=nx r:=by
 unfold nx;rw [zI];cases h:r.dropWhile bC with
 | nil=>rfl
 | cons t l=>
  rw [iS,if_neg (Dd h)]
theorem fI (r:List bc):aS (nb r)=nb (aS r):=by
 unfold aS;rw [zI];cases h:r.dropWhile bC with
 | nil=>rfl
 | cons t l=>rw [iS,if_neg (Dd h)];rfl
theorem Dh: ∀(l:List bc),((l.map aY).filter fun t=> !kz t)=(nb l).map aY
 | []=>rfl
 | t::l=>by
  rw [aan,ab4,iS,Dh l];by_cases h:t.1=1
  .simp [aY,leaf,kz,h]
  .simp [aY,leaf,kz,h]
theorem fT (r:List bc):aV (nb r)=dj (aV r):=by
 unfold aV;rw [rC,Fs,leaf,leaf,dj,if_pos rfl,Dh]
theorem mK (s:LB) (r:List bc):eH s (nb r)=eH s r:=by unfold eH;rw [rC]
theorem AU (l:List LB) (r:List bc):isAny l (nb r)=isAny l r:=by unfold isAny;rw [rC]
theorem xb (p:Bool) (r:List bc):dM p (nb r)=dM p r:=by unfold dM;rw [rC,AU]
theorem mi (s:LB) (r:List bc):dy s (nb r)=dj (dy s r):=by
 unfold dy;rw [mK];split
 .exact fT r
 .exact (qw s).symm
theorem mq (s:LB) (r:List bc):bp s (nb r)=nb (bp s r):=by
 unfold bp;rw [mK,fI];split <;> rfl
theorem zX (s:LB) (r:List bc):lr s (nb r)=dj (lr s r):=by
 unfold lr;rw [rC,fT];split
 .exact (qw s).symm
 .rw [dF (by decide)];rfl
theorem AW (r:List bc):lq (nb r)=nb (lq r):=by
 unfold lq;rw [rC,fI];split <;> rfl
def nR (x:List T×List bc):List T×List bc:=(x.1.map dj,nb x.2)
def lk:lX->lX
 | .ops k t=> .ops k (dj t)
 | .args t=> .args (dj t)
 | j=>j
theorem bind_map {α β γ δ:Type} {f:α->γ} {h:β->δ} {x:Oq α} {y:Oq γ} {g:α->Oq β} {g':γ->Option δ} (hx:y=x.map f) (b: ∀a,g' (f a)=(g a).map h):(y >>= g')=(x >>= g).map h:=by
 subst hx;cases x with
 | none=>rfl
 | some a=>exact b a
theorem fU {α β:Type} {c:Prop} [Decidable c] {f:α->β} {a b:Oq α} {a' b':Oq β} (h1:c->a'=a.map f) (d:¬ c->b'=b.map f):(if c then a' else b')=(if c then a else b).map f:=by
 split
 .rename_i h;exact h1 h
 .rename_i h;exact d h
theorem FZ (a b:Bool):kindOf a b≠1:=by cases a <;> cases b <;> decide
theorem Y6: ∀(N:Nat) (job:lX) (d:Nat) (r:List bc),P N (lk job) d (nb r)=(P N job d r).map nR:=by
 intro N
 induction N with
 | zero=>intro job d r;rfl
 | succ n ih=>
  intro job d r;have go: ∀(job:lX) (d:Nat) (r:List bc),lk job=job->P n job d (nb r)=(P n job d r).map nR:=fun job d r h=>by
   have:=ih job d r
   rwa [h] at this
  have fin: ∀{l m:List T} {r r':List bc},m=l.map dj->r'=nb r->(some (m,r'):R)=(some (l,r):R).map nR:=fun h1 o=>by rw [h1,o];rfl
  cases job with
  | expr=>
   simp only [lk,P];refine fU (fun _=>fin ?_ (AW r)) fun _=>go _ _ _ rfl;rw [zX];rfl
  | whole=>
   simp only [lk,P,mK,fI,fT];refine fU (fun _=> ?_) fun _=>fU (fun _=> ?_) fun _=>fU (fun _=> ?_) fun _=>fU (fun _=> ?_) fun _=>go _ _ _ rfl
   .refine bind_map (go _ _ _ rfl) fun ⟨bs,r2⟩=> ?_;simp only [nR,mq,mi];refine bind_map (go _ _ _ rfl) fun ⟨es,i⟩=>fin ?_ rfl;simp only [nR,aan,aaG,aaH,dF (show (6:Nat)≠1 by decide)]
   .refine bind_map (go _ _ _ rfl) fun ⟨a,g⟩=> ?_;refine bind_map (go _ _ _ rfl) fun ⟨ps,r2⟩=> ?_;simp only [nR,mq,mi];refine bind_map (go _ _ _ rfl) fun ⟨es,i⟩=>fin ?_ rfl;simp only [nR,aan,aaG,aaH,dF (show (7:Nat)≠1 by decide)]
   .refine bind_map (go _ _ _ rfl) fun ⟨a,g⟩=> ?_;simp only [nR,mq,mi];refine bind_map (go _ _ _ rfl) fun ⟨b,r2⟩=> ?_;simp only [nR,mq,mi];refine bind_map (go _ _ _ rfl) fun ⟨c,i⟩=>fin ?_ rfl;simp only [nR,aan,aaG,aaH,dF (show (8:Nat)≠1 by decide)]
   .refine bind_map (go _ _ _ rfl) fun ⟨a,g⟩=> ?_;simp only [nR,mq,mi,mK,fT,fI];have e:(if eH iF (bp bW g)=true then nb (aS (bp bW g)) else nb (bp bW g))=nb (if eH iF (bp bW g)=true then aS (bp bW g) else bp bW g):=by split <;> rfl
    rw [e];refine bind_map (go _ _ _ rfl) fun ⟨b,i⟩=> ?_;refine bind_map (go _ _ _ rfl) fun ⟨cs,q⟩=>fin ?_ rfl;have j:(if eH iF (bp bW g)=true then [dj (aV (bp bW g))] else [])=(if eH iF (bp bW g)=true then [aV (bp bW g)] else []).map dj:=by split <;> rfl
    rw [j];simp only [nR,aan,aaG,aaH,dF (show (9:Nat)≠1 by decide)]
  | level k=>
   simp only [lk,P];refine fU (fun _=>go _ _ _ rfl) fun _=> ?_;refine bind_map (go _ _ _ rfl) fun ⟨a,g⟩=> ?_;simp only [nR];cases a with
   | nil=>rfl
   | cons t l=>
    cases l with
    | nil=>exact ih (.ops k t) d g
    | cons u l=>rfl
  | ops k acc=>
   simp only [lk,P,AU,fI,fT];refine fU (fun _=> ?_) fun _=>fin rfl rfl;refine bind_map (go _ _ _ rfl) fun ⟨b,g⟩=> ?_;have:=ih (.ops k (node 11 (acc::aV r::b))) d g;rw [lk,dF (by decide)] at this;exact this
  | neg=>
   simp only [lk,P,AU,fI,fT];refine fU (fun _=>fU (fun _=>fin ?_ ?_) fun _=> ?_) fun _=> ?_
   .rw [zX,aan,dF (by decide)];rfl
   .rw [AW]
   .refine bind_map (go _ _ _ rfl) fun ⟨a,g⟩=>fin ?_ rfl;simp only [nR,aan,aaH,dF (show (12:Nat)≠1 by decide)]
   .refine bind_map (go _ _ _ rfl) fun ⟨a,g⟩=> ?_;simp only [nR];cases a with
    | nil=>rfl
    | cons t l=>
     cases l with
     | nil=>exact ih (.args t) d g
     | cons u l=>rfl
  | args acc=>
   simp only [lk,P,xb];refine fU (fun _=> ?_) fun _=>fin rfl rfl;refine bind_map (go _ _ _ rfl) fun ⟨b,g⟩=> ?_;have:=ih (.args (node 13 (acc::b))) d g;rw [lk,dF (by decide)] at this;exact this
  | atom pat=>
   simp only [lk,P,xb,rC,mK,fI,fT];refine fU (fun _=>fU (fun _=>fin ?_ rfl) fun _=>fU (fun _=>go _ _ _ rfl) fun _=>fU (fun _=>go _ _ _ rfl) fun _=>fin rfl rfl) fun _=>fin ?_ rfl
   .simp only [aan,aaH,dF (show (3:Nat)≠1 by decide)]
   .simp only [aan,aaH,qw]
  | closed list pat=>
   simp only [lk,P,mK,fI,fT];refine fU (fun _=>fin ?_ rfl) fun _=> ?_
   .simp only [aan,aaH,dF (FZ list pat)]
   .refine bind_map (go _ _ _ (by cases pat <;> rfl)) fun ⟨a,r2⟩=> ?_;refine bind_map (go _ _ _ rfl) fun ⟨bs,i⟩=>fin ?_ ?_
    .simp only [nR,mi,aan,aaG,aaH,dF (FZ list pat)]
    .simp only [nR,mq]
  | items list pat=>
   simp only [lk,P,mK,fI,fT];refine fU (fun _=> ?_) fun _=>fin rfl rfl;refine bind_map (go _ _ _ (by cases pat <;> rfl)) fun ⟨a,g⟩=> ?_;refine bind_map (go _ _ _ rfl) fun ⟨bs,r2⟩=>fin ?_ rfl;simp only [nR,aan,aaG]
  | pattern=>
   simp only [lk,P];refine fU (fun _=>fin ?_ (AW r)) fun _=> ?_
   .rw [zX];rfl
   .refine bind_map (go _ _ _ rfl) fun ⟨a,g⟩=> ?_;simp only [nR,mK,fI,fT];refine fU (fun _=> ?_) fun _=>fin rfl rfl;refine bind_map (go _ _ _ rfl) fun ⟨b,r2⟩=>fin ?_ rfl;simp only [nR,aan,aaG,aaH,dF (show (16:Nat)≠1 by decide)]
  | binding=>
   simp only [lk,P,mK,fI,fT];have p:(if eH eO r=true then nb (aS r) else nb r)=nb (if eH eO r=true then aS r else r):=by split <;> rfl
   rw [p];generalize (if eH eO r=true then aS r else r)=r0;have j:(if eH eO r=true then [dj (aV r)] else [])=(if eH eO r=true then [aV r] else []).map dj:=by split <;> rfl
   rw [j];generalize (if eH eO r=true then [aV r] else [])=rc;have last: ∀(xs:List T) (g:List bc),(do
     let (es,r2) <- P n .expr d (bp yu (nb g))
     some (rc.map dj++xs.map dj++[dy yu (nb g)]++es,r2):R)=(do
     let (es,r2) <- P n .expr d (bp yu g)
     some (rc++xs++[dy yu g]++es,r2):R).map nR:=fun xs g=>by
    simp only [mq,mi];refine bind_map (go _ _ _ rfl) fun ⟨es,r2⟩=>fin ?_ rfl;simp only [nR,aaG,aan,aaH]
   rw [rC];refine fU (fun _=> ?_) fun _=> ?_
   .rw [fI,fT];refine bind_map (f:=nR) ?_ fun ⟨xs,g⟩=>last xs g;refine bind_map (go _ _ _ rfl) fun ⟨ps,g⟩=>fin ?_ rfl;simp only [nR,aan]
   .exact bind_map (go _ _ _ rfl) fun ⟨xs,g⟩=>last xs g
  | params=>
   simp only [lk,P,xb];refine fU (fun _=> ?_) fun _=>fin rfl rfl;refine bind_map (go _ _ _ rfl) fun ⟨a,g⟩=> ?_;refine bind_map (go _ _ _ rfl) fun ⟨bs,r2⟩=>fin ?_ rfl;simp only [nR,aaG]
  | arm=>
   simp only [lk,P];refine bind_map (go _ _ _ rfl) fun ⟨a,g⟩=> ?_;simp only [nR,mq,mi];refine bind_map (go _ _ _ rfl) fun ⟨es,r2⟩=>fin ?_ rfl;simp only [nR,aaG,aan,aaH,dF (show (10:Nat)≠1 by decide)]
  | arms=>
   simp only [lk,P,mK,fI,fT];refine fU (fun _=> ?_) fun _=>fin rfl rfl;refine bind_map (go _ _ _ rfl) fun ⟨a,g⟩=> ?_;refine bind_map (go _ _ _ rfl) fun ⟨bs,r2⟩=>fin ?_ rfl;simp only [nR,aan,aaG]
theorem JQ: ∀(n m:Nat) (r:List bc),r.length<=n->(nb r).length<=m->(skip m (nb r)).1=(skip n r).1.map dj/\(skip m (nb r)).2=nb (skip n r).2
 | 0,m,r,h,_=>by
  have:r=[]:=List.length_eq_zero_iff.1 (by omega);subst this;cases m with
  | zero=>exact ⟨rfl,rfl⟩
  | succ m=>exact ⟨rfl,rfl⟩
 | n+1,0,r,h,d=>by
  have h0:nb r=[]:=List.length_eq_zero_iff.1 (by omega);have hx:nx r=(0,[]):=by rw [<- rC,h0];rfl
  simp only [skip,hx];exact ⟨rfl,rfl⟩
 | n+1,m+1,r,h,d=>by
  simp only [skip,rC,mK,fI,fT];split
  .rename_i c;have l1:=fg c.1;have l2:=fg (r:=nb r) (by rw [rC];exact c.1);rw [fI] at l2;obtain ⟨a,b⟩:=JQ n m (aS r) (by omega) (by omega);rw [a,b];exact ⟨rfl,rfl⟩
  .exact ⟨rfl,rfl⟩
theorem Av: ∀(N:Nat) (r:List bc),decls N (nb r)=(decls N r).map fun l=>l.map dj
 | 0,r=>rfl
 | n+1,r=>by
  obtain ⟨k1,k2⟩:=JQ r.length (nb r).length r (aal _) (aal _);simp only [decls,rC,mK,fI,fT,k1,k2];refine fU (fun _=>rfl) fun _=>fU (fun _=> ?_) fun _=> ?_
  .refine bind_map (f:=nR) ?_ fun ⟨bs,a⟩=> ?_
   .exact Y6 n .binding 0 (aS r)
   .refine bind_map (Av n a) fun l=> ?_;simp only [nR,Option.map_some,aan,dF (show (5:Nat)≠1 by decide)]
  .refine bind_map (Av n _) fun l=> ?_;simp only [Option.map_some,aan,dF (show (3:Nat)≠1 by decide)]
theorem NU (r:List bc):doc (nb r)=dj (doc r):=by
 obtain ⟨l,a,b⟩:=jK r;have h:=Av (fuel r) r;rw [a] at h;rw [L6 (N:=fuel r) (l:=l.map dj) h,b,dF (by decide)]
theorem HM {r s:List bc} (h:nb r=nb s):dj (doc r)=dj (doc s):=by rw [<- NU, <- NU,h]
theorem Jy {t:T} (h:kz t=true):dS t=true:=by
 cases t with
 | mk k tk tx l=>
  simp only [kz,aak,aaX,List.isEmpty_iff] at h;obtain ⟨rfl,rfl,rfl⟩:=h;rfl
theorem r8: ∀(l:List T),du (l.filter fun t=> !kz t)=du l
 | []=>rfl
 | t::l=>by
  rw [ab4];cases h:kz t with
  | true=>
   simp only [aa2,aaT,if_false,du,Jy h,abJ];exact r8 l
  | false=>simp only [abe,if_true,du,r8 l]
mutual
theorem wW: ∀(t:T),dS (dj t)=dS t
 | .mk k tk tx l=>by
  rw [dj];by_cases h:k=1
  .subst h;rw [if_pos rfl];simp only [dS,r8]
  .rw [if_neg h];simp only [dS,Az l]
theorem Az: ∀(l:List T),du (rz l)=du l
 | []=>rfl
 | t::l=>by simp only [rz,du,wW t,Az l]
end
end Go.Parse
namespace Go.Ast
open Go.VM Go.Lex Go.Parse Go.Scope
def sB (k tk:Nat):Bool:=k==1&&(tk != 0&&(tk != 1&&tk != 2))
mutual
def P8 (a:Nat):T->List (Nat×Nat)
 | .mk k tk tx l=>M8 a l++(if sB k tk=true then [(a+(bg l).length,a+(bg l).length+tx.length)] else [])
def M8 (a:Nat):List T->List (Nat×Nat)
 | []=>[]
 | t::l=>P8 a t++M8 (a+(bG t).length) l
end
def mC (l:List (Nat×Nat)):Sp:=(((l.getD 0 (0,0)).1:Int),((l.getD (l.length - 1) (0,0)).2:Int))
def oz (a:Nat) (t:T):Sp:=mC (P8 a t)
def mY:LB->LB
 | []=>[]
 | [c]=>[c]
 | c::d::l=>if c=92 then (if d=110 then 10 else if d=116 then 9 else d)::mY l else c::mY (d::l)
def told (s:LB):LB:=mY ((s.drop 1).take (s.length - 2))
def gX (tk:Nat) (s:LB):Nat×LB:=
 if tk=4 then (1,s) else if tk=5 then (2,s) else if tk=6 then (3,s) else if tk=7 then (4,told s) else (5,s)
def eX {α:Type}:List α->List α
 | _::x::y::l=>x::eX (y::l)
 | _=>[]
def isRec:T->Bool
 | .mk _ tk s _=>tk==3&&s==eO
def oJ (ks:List T) (P:List jQ) (E:List lg):Bool×List jQ×lg:=
 let rc:=isRec (ks.getD 1 default)
 let m:=if rc=true then 2 else 1
 let ps:=(P.drop m).take (P.length - m - 2)
 (rc&&(match ps.getD 0 default with | .mk k _ _ _ _=>k==15),ps,E.getD (E.length - 1) default)
def wA:T->LB
 | .mk _ _ s _=>s
def Hk (sp:Sp):List lg->lg
 | [e]=>e
 | l=> .mk 6 sp false [] [] l
def Gq (sp:Sp):List jQ->jQ
 | [p]=>p
 | l=> .mk 18 0 sp [] l
def pT (k tk:Nat) (s:LB) (sp:Sp) (ks:List T) (P:List jQ) (E:List lg) (A:List (jQ×lg)):lg:=
 if k=1 then .mk (gX tk s).1 sp false (gX tk s).2 [] []
 else if k=14 then Hk sp (eX E)
 else if k=15 then .mk 7 sp false [] [] (eX E)
 else if k=13 then .mk 8 sp false [] [] E
 else if k=11 then .mk 9 sp false (wA (ks.getD 1 default)) [] [E.getD 0 default,E.getD 2 default]
 else if k=12 then .mk 10 sp false (wA (ks.getD 0 default)) [] [E.getD 1 default]
 else if k=8 then .mk 12 sp false [] [] [E.getD 1 default,E.getD 3 default,E.getD 5 default]
 else if k=7 then .mk 11 sp false [] ((P.drop 1).take (P.length - 3)) [E.getD (E.length - 1) default]
 else if k=6 then
  let b:=oJ (ks.take (ks.length - 2)) (P.take (P.length - 2)) (E.take (E.length - 2))
  .mk 14 sp b.1 [] b.2.1 [b.2.2,E.getD (E.length - 1) default]
 else .mk 13 sp false [] (A.map (·.1)) (E.getD 1 default::A.map (·.2))
def ux (k tk:Nat) (s:LB) (sp:Sp) (P:List jQ):jQ:=
 if k=16 then .mk 20 0 sp [] [P.getD 0 default,P.getD 2 default]
 else if k=18 then .mk 19 0 sp [] (eX P)
 else if k=17 then Gq sp (eX P)
 else if (gX tk s).1=1 then .mk 15 0 sp (gX tk s).2 []
 else if tk=8 then .mk 16 0 sp [] []
 else .mk 17 (gX tk s).1 sp (gX tk s).2 []
mutual
def jv (a:Nat):T->jQ
 | .mk k tk s l=>ux k tk s (oz a (.mk k tk s l)) (rI a l)
def rI (a:Nat):List T->List jQ
 | []=>[]
 | t::l=>jv a t::rI (a+(bG t).length) l
end
mutual
def cQ (a:Nat):T->lg
 | .mk k tk s l=>pT k tk s (oz a (.mk k tk s l)) l (rI a l) (il a l) (vf a l)
def il (a:Nat):List T->List lg
 | []=>[]
 | t::l=>cQ a t::il (a+(bG t).length) l
def vf (a:Nat):List T->List (jQ×lg)
 | []=>[]
 | t::l=>EK a t++vf (a+(bG t).length) l
def EK (a:Nat):T->List (jQ×lg)
 | .mk k _ _ l=>if k=10 then [((rI a l).getD 0 default,(il a l).getD 2 default)] else []
end
def wO (a:Nat):T->List Bd
 | .mk k tk s l=>if k=5 then
  let b:=oJ l (rI a l) (il a l)
  [⟨oz a (.mk k tk s l),b.1,b.2.1,b.2.2⟩] else []
def ir (a:Nat):List T->List Bd
 | []=>[]
 | t::l=>wO a t++ir (a+(bG t).length) l
def C9 (s:LB):Except Nat (List Bd):=
 if 65536 < s.length then .error 40
 else if cb s=true then (if dS (doc (tokens s))=true then .ok (ir 0 (doc (tokens s)).kids) else .error 50)
 else .error 4
mutual
def lh:jQ->jQ
 | .mk k lit _ nm ps=> .mk k lit (0,0) nm (P1 ps)
def P1:List jQ->List jQ
 | []=>[]
 | p::l=>lh p::P1 l
end
mutual
def nJ:lg->lg
 | .mk k _ rc nm ps ls=> .mk k (0,0) rc nm (P1 ps) (Ra ls)
def Ra:List lg->List lg
 | []=>[]
 | e::l=>nJ e::Ra l
end
theorem fc: ∀(l:List jQ),P1 l=l.map lh
 | []=>rfl
 | p::l=>by rw [P1,fc l];rfl
theorem iE: ∀(l:List lg),Ra l=l.map nJ
 | []=>rfl
 | p::l=>by rw [Ra,iE l];rfl
def Su (x:jQ×lg):jQ×lg:=(lh x.1,nJ x.2)
def Ku (d:Bd):Bd:=⟨(0,0),d.rc,d.ps.map lh,nJ d.body⟩
theorem l4 {α β:Type} (f:α->β): ∀(l:List α),eX (l.map f)=(eX l).map f
 | []=>rfl
 | [_]=>rfl
 | [_,_]=>rfl
 | _::x::y::l=>by
  have ih:=l4 f (y::l);simp only [aan] at ih;simp only [aan,eX,ih]
theorem mc {α β:Type} [Inhabited α] [Inhabited β] {f:α->β} (hf:f default=default) (l:List α) (i:Nat):(l.map f).getD i default=f (l.getD i default):=by
 rw [aaE,aaE,aaW];cases l[i]? with
 | none=>exact hf.symm
 | some a=>rfl
theorem zw:lh default=default:=rfl
theorem zD:nJ default=default:=rfl
theorem IB (t:T):isRec (dj t)=isRec t:=by
 cases t with
 | mk k tk s l=>rw [dj];rfl
theorem Pw (t:T):wA (dj t)=wA t:=by
 cases t with
 | mk k tk s l=>rw [dj];rfl
theorem CQ:dj default=default:=rfl
theorem KV {ks ks':List T} {P P':List jQ} {E E':List lg} (e:ks'=ks.map dj) (c:P'.map lh=P.map lh) (hE:E'.map nJ=E.map nJ):
  (oJ ks' P' E').1=(oJ ks P E).1/\(oJ ks' P' E').2.1.map lh=(oJ ks P E).2.1.map lh/\nJ (oJ ks' P' E').2.2=nJ (oJ ks P E).2.2:=by
 subst e;have f:P'.length=P.length:=by simpa using aaU List.length c
 have g:E'.length=E.length:=by simpa using aaU List.length hE
 have d: ∀m,(((P'.drop m).take (P'.length - m - 2)).map lh)=((P.drop m).take (P.length - m - 2)).map lh:=fun m=>by
  rw [List.map_take,List.map_take,List.map_drop,List.map_drop,c,f]
 have b: ∀{l a:List jQ},a.map lh=l.map lh->(match a.getD 0 default with | .mk k _ _ _ _=>k==15)=(match l.getD 0 default with | .mk k _ _ _ _=>k==15):=fun {l a} h=>by
  have:(a.map lh).getD 0 default=(l.map lh).getD 0 default:=by rw [h]
  rw [mc zw,mc zw] at this;cases i:a.getD 0 default with
  | mk k1 _ _ _ _=>
   cases j:l.getD 0 default with
   | mk k2 _ _ _ _=>
    rw [i,j] at this;simp only [lh,jQ.mk.injEq] at this;rw [this.1]
 unfold oJ;simp only [mc CQ,IB];refine ⟨?_,d _, ?_⟩
 .rw [b (d _)]
 .have:(E'.map nJ).getD (E.length - 1) default=(E.map nJ).getD (E.length - 1) default:=by rw [hE]
  rw [mc zD,mc zD] at this;rw [g];exact this
theorem Rj {l a:List jQ} (h:a.map lh=l.map lh) (sp b:Sp):lh (Gq b a)=lh (Gq sp l):=by
 match a,l,h with
 | [],[],_=>rfl
 | [_],[_],h=>simpa [Gq,Hk] using h
 | _:: _:: _,_:: _:: _,h=>simp only [Gq,lh,fc,h]
 | [],_:: _,h=>simp at h
 | _:: _,[],h=>simp at h
 | [_],_:: _:: _,h=>simp at h
 | _:: _:: _,[_],h=>simp at h
theorem Sd {l a:List lg} (h:a.map nJ=l.map nJ) (sp b:Sp):nJ (Hk b a)=nJ (Hk sp l):=by
 match a,l,h with
 | [],[],_=>rfl
 | [_],[_],h=>simpa [Gq,Hk] using h
 | _:: _:: _,_:: _:: _,h=>simp only [Hk,nJ,iE,h]
 | [],_:: _,h=>simp at h
 | _:: _,[],h=>simp at h
 | [_],_:: _:: _,h=>simp at h
 | _:: _:: _,[_],h=>simp at h
theorem Yx {P P':List jQ} (a:P'.map lh=P.map lh) (i:Nat):lh (P'.getD i default)=lh (P.getD i default):=by
 have:(P'.map lh).getD i default=(P.map lh).getD i default:=by rw [a]
 rwa [mc zw,mc zw] at this
theorem Xr {P P':List lg} (a:P'.map nJ=P.map nJ) (i:Nat):nJ (P'.getD i default)=nJ (P.getD i default):=by
 have:(P'.map nJ).getD i default=(P.map nJ).getD i default:=by rw [a]
 rwa [mc zD,mc zD] at this
theorem PJ (k tk:Nat) (s:LB) (sp d:Sp) {P P':List jQ} (e:P'.map lh=P.map lh):lh (ux k tk s d P')=lh (ux k tk s sp P):=by
 have g:=Yx e;have ho:(eX P').map lh=(eX P).map lh:=by rw [<- l4, <- l4,e]
 unfold ux;by_cases a:k=16
 .simp only [if_pos a,lh,fc,aan,aaH,g]
 by_cases b:k=18
 .simp only [if_neg a,if_pos b,lh,fc,ho]
 by_cases c:k=17
 .rw [if_neg a,if_neg b,if_pos c,if_neg a,if_neg b,if_pos c];exact Rj ho sp d
 rw [if_neg a,if_neg b,if_neg c,if_neg a,if_neg b,if_neg c]
 repeat' split
 all_goals simp only [lh,fc,aaH]
theorem HR (k tk:Nat) (s:LB) (sp c:Sp) {ks ks':List T} {P P':List jQ} {E E':List lg} {A A':List (jQ×lg)} (d:k≠1->ks'=ks.map dj) (e:k≠1->P'.map lh=P.map lh) (hE:k≠1->E'.map nJ=E.map nJ) (hA:k≠1->A'.map Su=A.map Su):
  nJ (pT k tk s c ks' P' E' A')=nJ (pT k tk s sp ks P E A):=by
 by_cases h1:k=1
 .unfold pT;simp only [if_pos h1,nJ,fc,iE,aaH]
 have d:=d h1;have e:=e h1;have hE:=hE h1;have hA:=hA h1;have g:=Xr hE;have ho:(eX E').map nJ=(eX E).map nJ:=by rw [<- l4, <- l4,hE]
 have o:E'.length=E.length:=by simpa using aaU List.length hE
 have r:P'.length=P.length:=by simpa using aaU List.length e
 have p:ks'.length=ks.length:=by rw [d,aaA]
 have hA1:(A'.map (·.1)).map lh=(A.map (·.1)).map lh:=by
  have:=aaU (List.map (·.1)) hA;simpa [Su,Function.comp_def] using this
 have hA2:(A'.map (·.2)).map nJ=(A.map (·.2)).map nJ:=by
  have:=aaU (List.map (·.2)) hA;simpa [Su,Function.comp_def] using this
 have q: ∀a b,(((P'.drop a).take b).map lh)=((P.drop a).take b).map lh:=fun a b=>by
  rw [List.map_take,List.map_take,List.map_drop,List.map_drop,e]
 have f: ∀i,wA (ks'.getD i default)=wA (ks.getD i default):=fun i=>by
  rw [d,mc CQ,Pw]
 unfold pT;simp only [if_neg h1];by_cases h:k=14
 .simp only [if_pos h];exact Sd ho sp c
 simp only [if_neg h];by_cases j:k=15
 .simp only [if_pos j,nJ,fc,iE,aaH,ho]
 simp only [if_neg j];by_cases l:k=13
 .simp only [if_pos l,nJ,fc,iE,aaH,hE]
 simp only [if_neg l];by_cases m:k=11
 .simp only [if_pos m,nJ,fc,iE,aaH,aan,g,f]
 simp only [if_neg m];by_cases n:k=12
 .simp only [if_pos n,nJ,fc,iE,aaH,aan,g,f]
 simp only [if_neg n];by_cases t:k=8
 .simp only [if_pos t,nJ,fc,iE,aaH,aan,g]
 simp only [if_neg t];by_cases u:k=7
 .simp only [if_pos u,nJ,fc,iE,aaH,aan,o,r,q,g]
 simp only [if_neg u];by_cases v:k=6
 .simp only [if_pos v];obtain ⟨w,x,y⟩:=KV (ks:=ks.take (ks.length - 2)) (ks':=ks'.take (ks'.length - 2)) (P:=P.take (P.length - 2)) (P':=P'.take (P'.length - 2)) (E:=E.take (E.length - 2)) (E':=E'.take (E'.length - 2)) (by rw [p,d,List.map_take]) (by rw [r,List.map_take,List.map_take,e]) (by rw [o,List.map_take,List.map_take,hE]);rw [o] at w x y;simp only [nJ,fc,iE,aaH,aan,o,g,w,x,y]
 simp only [if_neg v,nJ,fc,iE,aan,g,hA1,hA2]
mutual
theorem Lz: ∀(t:T) (a b:Nat),lh (jv b (dj t))=lh (jv a t)
 | .mk k tk s l,a,b=>by
  rw [dj,jv,jv];by_cases h:k=1
  .subst h;rw [if_pos rfl];unfold ux;simp only [show ¬ (1:Nat)=16 by decide,show ¬ (1:Nat)=18 by decide,show ¬ (1:Nat)=17 by decide,if_false]
   repeat' split
   all_goals simp only [lh,fc,aaH]
  .rw [if_neg h];exact PJ k tk s _ _ (pM l a b)
theorem pM: ∀(l:List T) (a b:Nat),(rI b (rz l)).map lh=(rI a l).map lh
 | [],_,_=>rfl
 | t::l,a,b=>by
  rw [rz,rI,rI,aan,aan,Lz t a b,pM l (a+(bG t).length) (b+(bG (dj t)).length)]
end
mutual
theorem Jv: ∀(t:T) (a b:Nat),nJ (cQ b (dj t))=nJ (cQ a t)
 | .mk k tk s l,a,b=>by
  rw [dj,cQ,cQ];by_cases h:k=1
  .rw [if_pos h];exact HR k tk s _ _ (fun h'=>absurd h h') (fun h'=>absurd h h') (fun h'=>absurd h h') (fun h'=>absurd h h')
  .rw [if_neg h];exact HR k tk s _ _ (fun _=>tl l) (fun _=>pM l a b) (fun _=>qV l a b) (fun _=>Bq l a b)
theorem qV: ∀(l:List T) (a b:Nat),(il b (rz l)).map nJ=(il a l).map nJ
 | [],_,_=>rfl
 | t::l,a,b=>by
  rw [rz,il,il,aan,aan,Jv t a b,qV l (a+(bG t).length) (b+(bG (dj t)).length)]
theorem Bq: ∀(l:List T) (a b:Nat),(vf b (rz l)).map Su=(vf a l).map Su
 | [],_,_=>rfl
 | t::l,a,b=>by
  rw [rz,vf,vf,aaG,aaG,Lk t a b,Bq l (a+(bG t).length) (b+(bG (dj t)).length)]
theorem Lk: ∀(t:T) (a b:Nat),(EK b (dj t)).map Su=(EK a t).map Su
 | .mk k tk s l,a,b=>by
  rw [dj,EK,EK];by_cases h:k=10
  .subst h;rw [if_neg (show ¬ (10:Nat)=1 by decide),if_pos rfl,if_pos rfl];have h1:=Yx (pM l a b) 0;have h2:=Xr (qV l a b) 2;simp only [aan,aaH,Su,h1,h2]
  .rw [if_neg h,if_neg h]
end
theorem JB (t:T) (a b:Nat):(wO b (dj t)).map Ku=(wO a t).map Ku:=by
 cases t with
 | mk k tk s l=>
  rw [dj,wO,wO];by_cases h:k=5
  .subst h;rw [if_neg (show ¬ (5:Nat)=1 by decide),if_pos rfl,if_pos rfl];obtain ⟨c,d,e⟩:=KV (tl l) (pM l a b) (qV l a b);simp only [aan,aaH,Ku,c,d,e]
  .rw [if_neg h,if_neg h]
theorem rL: ∀(l:List T) (a b:Nat),(ir b (l.map dj)).map Ku=(ir a l).map Ku
 | [],_,_=>rfl
 | t::l,a,b=>by
  rw [aan,ir,ir,aaG,aaG,JB t a b,rL l (a+(bG t).length) (b+(bG (dj t)).length)]
theorem Jf {r s:List bc} (h:nb r=nb s):(ir 0 (doc r).kids).map Ku=(ir 0 (doc s).kids).map Ku:=by
 have e:=HM h;obtain ⟨l,c,a⟩:=jK r;obtain ⟨m,d,b⟩:=jK s;rw [a,b,dF (by decide),dF (by decide)] at e;injection e with _ _ _ e
 rw [a,b];show (ir 0 l).map Ku=(ir 0 m).map Ku;rw [<- rL l 0 0, <- rL m 0 0,e]
end Go.Ast
namespace Go.VM
open Go
section
variable {β:Type} {Q:β->Prop} {st st0:St} {l:wS} {z:Nat} {e:Td} {v:AV} {ws:LA}
theorem Vw.keeps {s:St} {but:Nat->Prop} (w:Vw st l) (k:aZ st s but) (h: ∀q∈l,¬ but q.1):Vw s l:=
 ⟨fun q a=>⟨k.old _ _ (h q a) (w.v q a).1,by rw [k.ro];exact (w.v q a).2⟩,w.nd,by rw [k.ro];exact aaR w.ro k.h⟩
theorem sI {a b c:St} {p:Nat->Prop} (h:aZ a b (fun _=>False)) (k:aZ b c p) (hp: ∀j,p j->a.h<=j):aZ a c (fun _=>False):=
 ⟨k.ro.trans h.ro,aaR h.h k.h,fun j o _ d=>k.old j o (fun f=>by
  have h1:=hp j f;have e:=(St.ca.1 d).1;omega) (h.old j o (fun f=>f) d)⟩
structure Wv (st0 st:St) (l:wS) (z:Nat) (e:Td) (v:AV) (ws:LA):Prop where
 w:Vw st l
 o:iX st z e v ws
 nw: ∀j,eW v j->st0.h<=j
 k:aZ st0 st (fun _=>False)
 ge: ∀q∈l,st0.h<=q.1
theorem Wv.start (h:st.ro<=st.h) (z:Nat) (e:Td):Wv st st [] z e .ax []:=⟨Vw.start h,iX.ax h z e,(fun j a=>by obtain ⟨_,_,h⟩:=a;cases h),aZ.refl _ _,fun q b=>by cases b⟩
theorem Wv.sub {a:wS} (w:Wv st0 st l z e v ws) (h:List.Sublist a l):Wv st0 st a z e v ws:=⟨w.w.sub h,w.o,w.nw,w.k,fun q b=>w.ge q (h.subset b)⟩
theorem Wv.none (w:Wv st0 st l z e v ws):Wv st0 st [] z e v ws:=w.sub (List.nil_sublist _)
theorem Wv.keeps {s:St} (w:Wv st0 st l z e v ws) (k:aZ st s (fun _=>False)):Wv st0 s l z e v ws:=
 ⟨w.w.keeps k (fun _ _ f=>f),sA w.o k (fun _ _ f=>f),w.nw,w.k.trans k,w.ge⟩
theorem aa.lx (w:Wv st0 st l z e v ws) {ty:Td} {cs:LA} {K:St->Oq β} (g: ∀s,s.h=st.h+1->Wv st0 s ((st.h,ty,cs)::l) z e v ws->aa (K s) Q):aa (bM (st.add (.cells ty cs)) K) Q:=by
 refine g _ rfl ⟨w.w.alloc ty cs,sA w.o (aZ.add _ _ (fun _=>False)) (fun _ _ f=>f),w.nw,w.k.trans (aZ.add _ _ _),fun q a=> ?_⟩;rcases aao.1 a with rfl | a
 .exact w.k.h
 .exact w.ge q a
theorem Wv.putAt {a:Nat} {t t':Td} {old cs:LA} {l1 l2:wS} (w:Wv st0 st (l1++(a,t,old)::l2) z e v ws):Wv st0 (st.put a (.cells t' cs)) (l1++(a,t',cs)::l2) z e v ws:=by
 have hm:(a,t,old)∈l1++(a,t,old)::l2:=List.mem_append_right _ aag;have b:=w.w.get hm;refine ⟨w.w.putAt cs,w.o.put b,w.nw,sI w.k (aZ.put (but:=(· =a)) rfl) (fun j c=>by rw [c];exact w.ge _ hm),fun q d=> ?_⟩;rcases aaC.1 d with h | h
 .exact w.ge q (List.mem_append_left _ h)
 .rcases aao.1 h with rfl | h
  .have h1:=w.ge (a,t,old) hm;exact h1
  .exact w.ge q (List.mem_append_right _ (aam _ h))
theorem aa.kR {O:tf} (l1:wS) {l2:wS} {a:Nat} {ty:Td} {old:LA} (w:Wv st0 st (l1++(a,ty,old)::l2) z e v ws) {y:Nat} {u:AV} {cs:LA} {K:Kv β}
  (g: ∀s b,s.h=st.h->Wv st0 s (l1++(a,ty,cs)::l2) z e v ws->aa (K VM.undef s b) Q) (f:old.length=y:=by rfl) (c:cs.length=y:=by rfl):aa (aK O y (.mp a 0) u cs st K) Q:=by
 have hm:(a,ty,old)∈l1++(a,ty,old)::l2:=List.mem_append_right _ aag;have d:aK O y (.mp a 0) u cs st K=K VM.undef (st.put a (.cells ty cs)) ⟨[a],.wrote a (.cells ty cs)⟩:=by
  rw [dp (w.w.get hm) c (by omega) (w.w.v _ hm).2,lT (by omega)]
 exact aa.step d (g _ _ rfl w.putAt)
theorem aa.Zo {O:tf} (l1:wS) {l2:wS} {a:Nat} {ty:Td} {old:LA} (w:Wv st0 st (l1++(a,ty,old)::l2) z e v ws) {off y:Nat} {u:AV} {cs:LA} {K:Kv β} (hl:off+cs.length<=old.length)
  (g: ∀s o,s.h=st.h->Wv st0 s (l1++(a,ty,cO old off cs)::l2) z e v ws->aa (K VM.undef s ⟨[a],.wrote a o⟩) Q) (b:cs.length=y:=by rfl):aa (aK O y (.mp a off) u cs st K) Q:=by
 have hm:(a,ty,old)∈l1++(a,ty,old)::l2:=List.mem_append_right _ aag;exact aa.step (dp (w.w.get hm) b hl (w.w.v _ hm).2 K) (g _ _ rfl w.putAt)
theorem aa.sj (w:Wv st0 st l z e v ws) {b:Nat} {x:AV} (c:ws.length+1<=1000000000) (d:b<=1000) (f:1<=z) {K:Kv β} (g: ∀v' s a,Wv st0 s l z e v' (ws++[x])->aa (K v' s a) Q):aa (eI z b e v [x] st K) Q:=by
 obtain ⟨v',s,a,i,o1,k1,m⟩:=sX (b:=b) (new:=[x]) w.o (by simp) (vN (by simpa using c) d f);refine aa.step (oU i K) (g v' s a ⟨w.w.keeps k1 (fun q n h=>w.o.not (w.w.v q n).1 h),o1,fun j p=> ?_,sI w.k k1 w.nw,w.ge⟩);rcases m j p with h | h
 .exact w.nw j h
 .exact aaR w.k.h h
theorem aa.Q8 (w:Wv st0 st l z e v ws) {K:AV->Oq β} (g: ∀x,aO z x ws->aa (K x) Q):aa (eF st 0 v K) Q:=by
 obtain ⟨x,hx,a⟩:=QQ (β:=β) w.o;exact aa.step (a K) (g x hx)
structure Vo (st:St) (l:wS) (z:Nat) (e:Td) (v:AV) (ws:LA):Prop where
 w:Vw st l
 o:iX st z e v ws
theorem Vo.call {s:St} {v':AV} {a:LA} {c:wS} {z':Nat} {b:Td} (w:Vo st l z e v ws) (r:Wv st s c z' b v' a):Vo s l z' b v' a:=⟨w.w.keeps r.k (fun _ _ f=>f),r.o⟩
theorem aa.nM {O:tf} (l1:wS) {l2:wS} {a:Nat} {ty:Td} {old:LA} (w:Vo st (l1++(a,ty,old)::l2) z e v ws) {off y:Nat} {u:AV} {cs:LA} {K:Kv β} (hl:off+cs.length<=old.length)
  (g: ∀s o,s.h=st.h->Vo s (l1++(a,ty,cO old off cs)::l2) z e v ws->aa (K VM.undef s ⟨[a],.wrote a o⟩) Q) (c:cs.length=y:=by rfl):aa (aK O y (.mp a off) u cs st K) Q:=by
 have hm:(a,ty,old)∈l1++(a,ty,old)::l2:=List.mem_append_right _ aag;have b:=w.w.get hm;exact aa.step (dp b c hl (w.w.v _ hm).2 K) (g _ _ rfl ⟨w.w.putAt _,w.o.put b⟩)
theorem Vo.new {v':AV} {a:LA} (w:Vo st l z e v ws) (h:(v'= .ax\/v'= .es)/\a=[]\/v'= .sl z a .shut) (hl:a.length<=9223372036854775807):Vo st l z e v' a:=⟨w.w,w.w.ro,hl,by
 rcases h with h | h
 .exact .inl h
 .exact .inr (.inl h)⟩
theorem zB {base:Nat} {vs xs:LA} (h:lB (freeze st base 99) vs= .ok xs) (a:bH xs=true) (K:AV->Oq β):eF st base (.agg vs) K=K (.agg xs):=by
 have b:freeze st base 100 (.agg vs)= .ok (.agg xs):=by
  show (do pure (.agg (<- lB (freeze st base 99) vs)):df AV)= _;rw [h];rfl
 have c:bare (.agg xs)=true:=a;simp only [eF,b,c,aG]
end
end Go.VM
namespace Go.Format
open Go.VM Go.Lex Go.Parse
abbrev B:=LB
abbrev Doc:=Go.Lay.Doc
def tx (s:B):Doc:= .mk 1 s 0 []
def jT:Doc:= .mk 2 [] 0 []
def Oh:Doc:= .mk 4 [] 0 []
def Cy (n:Int) (l:List Doc):Doc:= .mk 5 [] n l
def uR (l:List Doc):Doc:= .mk 6 [] 0 l
def row (l:List Doc):Doc:= .mk 7 [] 0 l
def cG:Doc:=tx [32]
def bU (ahead:List Doc):Nat->List Doc->List Doc
 | _,[]=>[]
 | i,d::l=>(if i=0 then [] else [ahead.getD (min (i - 1) (ahead.length - 1)) cG])++d::bU ahead (i+1) l
def mH (a:List B):T->Bool
 | .mk k tk s _=>k==1&&(tk==8&&a.contains s)
def mV:T->Oq B
 | .mk _ tk s _=>if tk=2 then some s else none
def fP (ks:List T):List B:=ks.filterMap mV
def Kw (s:B) (ks:List T):Doc:=row ((fP ks).flatMap (fun r=>[tx r,jT])++[tx s])
def mW (D:List Doc):List Doc:=bU [cG] 0 (D.take (D.length - 1))++[Cy 2 [jT,D.getD (D.length - 1) cG]]
def oc:List T->List Doc->List Doc
 | t::ks,d::D=>d::(if mH [lI,pK] t then jT::oc ks D else oc ks D)
 | _,_=>[]
def gN:T->List T->List Doc->List Doc
 | p,t::ks,d::D=>(if mH [iF] p then cG else jT)::d::gN t ks D
 | _,_,_=>[]
def eJ (k:Nat) (ks:List T) (D:List Doc):Doc:=
 if k=5\/k=7 then uR (mW D)
 else if k=6 then uR (mW (D.take (D.length - 2))++[jT,D.getD (D.length - 2) cG,jT,D.getD (D.length - 1) cG])
 else if k=8 then uR (bU [cG,jT,cG,jT,cG] 0 D)
 else if k=9 then uR (bU [cG] 0 (D.take 3)++gN (ks.getD 2 default) (ks.drop 3) (D.drop 3))
 else if k=10 then uR (bU [cG] 0 (D.take 2)++[Cy 4 [jT,D.getD 2 cG]])
 else if k=11 then uR (bU [jT,cG] 0 D)
 else if k=12\/k=16 then row (bU [cG] 0 D)
 else if k=13 then uR [D.getD 0 cG,Cy 2 [jT,D.getD 1 cG]]
 else uR [D.getD 0 cG,Cy 1 (oc ((ks.drop 1).take (ks.length - 2)) ((D.drop 1).take (D.length - 2))),D.getD (D.length - 1) cG]
mutual
def aB:T->Doc
 | .mk k _ s l=>if k=1 then Kw s l else eJ k l (uG l)
def uG:List T->List Doc
 | []=>[]
 | t::l=>aB t::uG l
end
theorem qX: ∀(l:List T),uG l=l.map aB
 | []=>rfl
 | t::l=>by rw [uG,qX l];rfl
mutual
def fB:T->Bool
 | .mk k tk s l=>(k==1&&((tk==2||tk==7)&&s.any fun c=>c==10||c==13))||jU l
def jU:List T->Bool
 | []=>false
 | t::l=>fB t||jU l
end
def cT:Nat->List Doc->List Doc
 | _,[]=>[]
 | i,d::l=>(if i=0 then [] else [Oh])++d::Oh::cT (i+1) l
def eP (l:List T):List Doc:=uG (l.take (l.length - 1))++(fP (l.getD (l.length - 1) default).kids).map tx
def xq (s:B):Except Nat Doc:=
 if 65536 < s.length then .error 40
 else if cb s=true then
  (if dS (doc (tokens s))=true then (if fB (doc (tokens s))=true then .error 4 else .ok (row (cT 0 (eP (doc (tokens s)).kids)))) else .error 50)
 else .error 4
end Go.Format
namespace Go.Lex
open Go.VM
def Stop (x:LB):Prop:=x=[]\/ ∃c r,x=c::r/\cr c=true
theorem qQ {c:UInt8} (h:cr c=true):c=32\/c=9\/c=10\/c=13:=by
 simp only [cr,aa0,aaX] at h;rcases h with ((h | h) | h) | h
 .exact .inl h
 .exact .inr (.inl h)
 .exact .inr (.inr (.inl h))
 .exact .inr (.inr (.inr h))
theorem J3: ∀(s:LB),(dD s).1=7->1<=(dD s).2
 | [],h=>by cases h
 | [c],h=>by
  simp only [dD] at h ⊢;split at h
  .cases h
  split at h
  .rename_i h1 a;rw [if_neg h1,if_pos a];exact aal _
  .cases h
 | c::d::l,h=>by
  simp only [dD] at h ⊢;split at h
  .cases h
  rename_i h1;rw [if_neg h1];split at h
  .rename_i a;rw [if_pos a];exact aal _
  rename_i a;rw [if_neg a];split at h
  .rename_i b;rw [if_pos b];split at h
   .rename_i e;rw [if_pos e];dsimp only;omega
   .cases h
  .rename_i b;rw [if_neg b];dsimp only;omega
theorem vb: ∀{q x x':LB},(dD (q++x)).1=7->(dD (q++x)).2<=q.length->dD (q++x')=dD (q++x)
 | [],x,x',h,a=>by
  have:=J3 _ h;simp only [aai] at a;omega
 | [c],x,x',h,a=>by
  have g:c=34:=by
   cases x with
   | nil=>
    simp only [aay,dD] at h;split at h
    .cases h
    split at h
    .assumption
    .cases h
   | cons d l=>
    simp only [aat,aaq,dD,aae,aai] at h a;split at h
    .cases h
    rename_i h1;rw [if_neg h1] at a;split at h
    .assumption
    rename_i f;rw [if_neg f] at a;split at h
    .rename_i b;rw [if_pos b] at a;split at h
     .rename_i i;rw [if_pos i] at a;dsimp only at a;omega
     .cases h
    .rename_i b;rw [if_neg b] at a;have:=J3 _ h;dsimp only at a;omega
  subst g;have e: ∀y:LB,dD (34::y)=(7,1):=fun y=>by
   cases y with
   | nil=>rfl
   | cons d l=>
    simp only [dD];rw [if_neg (by decide),if_true]
  show dD (34::x')=dD (34::x);rw [e,e]
 | c::d::p,x,x',h,a=>by
  have h:(dD (c::d::(p++x))).1=7:=h;have a:(dD (c::d::(p++x))).2<=p.length+2:=a;show dD (c::d::(p++x'))=dD (c::d::(p++x));simp only [dD] at h a ⊢;by_cases h1:c=10
  .rw [if_pos h1,if_pos h1]
  rw [if_neg h1] at h a;rw [if_neg h1,if_neg h1];by_cases b:c=34
  .rw [if_pos b,if_pos b]
  rw [if_neg b] at h a;rw [if_neg b,if_neg b];by_cases f:c=92
  .rw [if_pos f] at h a;rw [if_pos f,if_pos f];cases he:Dq d with
   | true=>
    rw [he,if_pos rfl] at h a;simp only [if_true];dsimp only at h a;rw [vb (q:=p) (x:=x) (x':=x') h (by omega)]
   | false=>
    rw [he,if_neg (by simp)] at h;cases h
  .rw [if_neg f] at h a;rw [if_neg f,if_neg f];dsimp only at h a;have:=vb (q:=d::p) (x:=x) (x':=x') h (by
    show (dD (d::(p++x))).2<=p.length+1;omega)
   have this:dD (d::(p++x'))=dD (d::(p++x)):=this;rw [this]
theorem jI: ∀(s:LB),(dD s).1=7\/(dD s).1=9
 | []=> .inr rfl
 | [c]=>by
  simp only [dD];split
  .exact .inr rfl
  split
  .exact .inl rfl
  .exact .inr rfl
 | c::d::l=>by
  simp only [dD];split
  .exact .inr rfl
  split
  .exact .inl rfl
  split
  .split
   .exact jI l
   .exact .inr rfl
  .exact jI (d::l)
def fS (b:UInt8):Bool:=b==32||b==9||b==10||b==13||b==40||b==41||b==44||b==59||b==91||b==93
def si (x:LB):Prop:=x=[]\/ ∃c r,x=c::r/\fS c=true
theorem u7 {c:UInt8} (h:fS c=true):c=32\/c=9\/c=10\/c=13\/c=40\/c=41\/c=44\/c=59\/c=91\/c=93:=by
 simp only [fS,aa0,aaX] at h;simpa only [or_assoc] using h
theorem Jh (c:UInt8) (h:fS c=true):aW c=false:=by rcases u7 h with rfl | rfl | rfl | rfl | rfl | rfl | rfl | rfl | rfl | rfl <;> rfl
theorem EY (c:UInt8) (h:fS c=true):iI c=false:=by rcases u7 h with rfl | rfl | rfl | rfl | rfl | rfl | rfl | rfl | rfl | rfl <;> rfl
theorem Cz {p:UInt8->Bool} (hp: ∀c,fS c=true->p c=false) {x:LB} (hx:si x): ∀s:LB,wh p (s++x)=wh p s
 | []=>by
  rcases hx with rfl | ⟨c,r,rfl,h⟩
  .rfl
  .rw [aaq,gf,hp c h];rfl
 | c::s=>by
  rw [aat,gf,gf,Cz hp hx s]
theorem Px {p:UInt8->Bool} (hp: ∀c,fS c=true->p c=false) {x:LB} (hx:si x): ∀s:LB,(s++x).takeWhile p=s.takeWhile p
 | []=>by
  rcases hx with rfl | ⟨c,r,rfl,h⟩
  .rfl
  .rw [aaq,aa1,hp c h];rfl
 | c::s=>by
  rw [aat,aa1,aa1,Px hp hx s]
theorem QM {x:LB} (hx:si x) (s:LB):jA (s++x)=jA s:=by
 cases s with
 | nil=>
  rcases hx with rfl | ⟨c,r,rfl,h⟩
  .rfl
  .show jA (c::r)=jA [];have a:¬ (c=101\/c=69):=by rcases u7 h with rfl | rfl | rfl | rfl | rfl | rfl | rfl | rfl | rfl | rfl <;> decide
   unfold jA;dsimp only;rw [if_neg a]
 | cons e l=>
  show jA (e::(l++x))= _;have hs:iL (l++x)=iL l:=by
   cases l with
   | nil=>
    rcases hx with rfl | ⟨c,r,rfl,h⟩
    .rfl
    .rcases u7 h with rfl | rfl | rfl | rfl | rfl | rfl | rfl | rfl | rfl | rfl <;> rfl
   | cons c l=>rfl
  have b:(l++x).drop (iL l)=l.drop (iL l)++x:=List.drop_append_of_le_length (Ij l);have d:=Cz (p:=aW) Jh hx (l.drop (iL l));have f:(l.drop (iL l)++x).take (wh aW (l.drop (iL l)))=(l.drop (iL l)).take (wh aW (l.drop (iL l))):=List.take_append_of_le_length (qd _ _);have g:((l++x).head?=some 45)=(l.head?=some 45):=by
   cases l with
   | nil=>
    rcases hx with rfl | ⟨c,r,rfl,h⟩
    .rfl
    .rcases u7 h with rfl | rfl | rfl | rfl | rfl | rfl | rfl | rfl | rfl | rfl <;> simp
   | cons c l=>rfl
  unfold jA;dsimp only;simp only [hs,b,d,f,g]
theorem xy {x:LB} (hx:si x) (s:LB):number (s++x)=number s:=by
 have b:=Cz (p:=aW) Jh hx s;have d1:(s++x).drop (wh aW s)=s.drop (wh aW s)++x:=List.drop_append_of_le_length (qd _ _);have d:((s.drop (wh aW s)++x).head?=some 46)=((s.drop (wh aW s)).head?=some 46):=by
  cases s.drop (wh aW s) with
  | nil=>
   rcases hx with rfl | ⟨c,r,rfl,h⟩
   .rfl
   .rcases u7 h with rfl | rfl | rfl | rfl | rfl | rfl | rfl | rfl | rfl | rfl <;> simp
  | cons c l=>rfl
 rw [lD (s++ _),lD s,b,d1];simp only [d];by_cases a:(s.drop (wh aW s)).head?=some 46
 .rw [if_pos a,if_pos a];have e:wh aW s < s.length:=by
   rcases Nat.lt_or_ge (wh aW s) s.length with q | q
   .exact q
   .rw [List.drop_of_length_le q] at a;cases a
  have d2:(s++x).drop (wh aW s+1)=s.drop (wh aW s+1)++x:=List.drop_append_of_le_length (by omega);have f:=Cz (p:=aW) Jh hx (s.drop (wh aW s+1));have g:=qd aW (s.drop (wh aW s+1));rw [aaz] at g;have i:(s++x).drop (wh aW s+1+wh aW (s.drop (wh aW s+1)))=s.drop (wh aW s+1+wh aW (s.drop (wh aW s+1)))++x:=List.drop_append_of_le_length (by omega);rw [d2,f,i,QM hx]
 .rw [if_neg a,if_neg a]
theorem TP {p x x':LB} (hp:p≠[]) (hx:si x) (i:si x') (h1:(cut (p++x)).1≠1) (a:(cut (p++x)).1≠9) (hn:(cut (p++x)).2<=p.length):cut (p++x')=cut (p++x):=by
 cases p with
 | nil=>exact absurd rfl hp
 | cons c l=>
  rw [aat,rR] at h1 a hn;rw [aat,aat,rR,rR];have two: ∀{w:LB},w.length=2->(∀d,fS d=true->w≠[c,d])->((c::(l++x')).take 2=w)=((c::(l++x)).take 2=w):=by
   intro w k E;cases l with
   | cons d l=>rfl
   | nil=>
    have key: ∀{y:LB},si y->((c::([]++y)).take 2=w)=False:=by
     intro y hy;rcases hy with rfl | ⟨d,r,rfl,g⟩
     .refine eq_false fun e=> ?_;rw [<- e] at k;cases k
     .exact eq_false fun e=>E d g e.symm
    rw [key hx,key i]
  have o:=two (w:=[40,42]) rfl (fun d g e=>by
   have:d=42:=by simpa using (aaU (fun l:LB=>l.getD 1 0) e).symm
   subst this;cases g)
  have q:iJ.contains ((c::(l++x')).take 2)=iJ.contains ((c::(l++x)).take 2):=by
   have u: ∀w∈iJ,((c::(l++x')).take 2=w)=((c::(l++x)).take 2=w):=fun w k=>two (by
    simp only [iJ,aao,aaF,or_false] at k;rcases k with rfl | rfl | rfl | rfl | rfl | rfl | rfl | rfl | rfl | rfl | rfl <;> rfl) (fun d g e=>by
    subst e;simp only [iJ,aao,aaF,or_false,abx,abZ] at k;rcases u7 g with rfl | rfl | rfl | rfl | rfl | rfl | rfl | rfl | rfl | rfl <;> simp at k)
   rw [Bool.eq_iff_iff,List.contains_iff_mem,List.contains_iff_mem];constructor
   .intro h;have:=u _ h;rw [eq_true (rfl:(c::(l++x')).take 2= _)] at this;rw [of_eq_true this.symm];exact h
   .intro h;have:=u _ h;rw [eq_true (rfl:(c::(l++x)).take 2= _)] at this;rw [of_eq_true this];exact h
  unfold TF at h1 a hn ⊢;by_cases g:cr c=true
  .rw [if_pos g] at h1;exact absurd rfl h1
  rw [if_neg g] at h1 a hn;rw [if_neg g,if_neg g];simp only [o];by_cases j:(c::(l++x)).take 2=[40,42]
  .rw [if_pos j] at h1 a hn;rw [if_pos j,if_pos j];cases l with
   | nil=>
    exfalso;rcases hx with rfl | ⟨d,r,rfl,t⟩
    .cases j
    .have:d=42:=by simpa using aaU (fun l:LB=>l.getD 1 0) j
     subst this;cases t
   | cons d l=>
    have e: ∀y:LB,(c::(d::l++y)).drop 2=l++y:=fun _=>rfl;rw [e] at a hn;rw [e,e];cases hm:rem (l++x) 1 with
    | none=>rw [hm] at a;exact absurd rfl a
    | some m=>
     rw [hm] at hn;dsimp only at hn;rw [R4 (y':=x') hm (by simp at hn;omega)]
  rw [if_neg j] at h1 a hn;rw [if_neg j,if_neg j];by_cases b:lb c=true
  .rw [if_pos b,if_pos b];have v:=Cz (p:=iI) EY hx (c::l);have z:=Cz (p:=iI) EY i (c::l);have A:=Px (p:=iI) EY hx (c::l);have B:=Px (p:=iI) EY i (c::l);rw [aat] at v z A B;rw [v,z,A,B]
  rw [if_neg b] at h1 a hn;rw [if_neg b,if_neg b];by_cases f:aW c=true
  .rw [if_pos f,if_pos f];have C:=xy hx (c::l);have D:=xy i (c::l);rw [aat] at C D;rw [C,D]
  rw [if_neg f] at h1 a hn;rw [if_neg f,if_neg f];by_cases n:c=34
  .rw [if_pos n] at h1 a hn;rw [if_pos n,if_pos n];dsimp only at a hn;have F:(dD (l++x)).1=7:=(jI _).resolve_right a;rw [vb (x':=x') F (by simp at hn;omega)]
  rw [if_neg n] at h1 a hn;rw [if_neg n,if_neg n,q];by_cases s:iJ.contains ((c::(l++x)).take 2)=true
  .rw [if_pos s,if_pos s]
  rw [if_neg s] at h1 a hn;rw [if_neg s,if_neg s];by_cases ho:kS c=true
  .rw [if_pos ho,if_pos ho]
  .rw [if_neg ho] at a;exact absurd rfl a
end Go.Lex
namespace Go.Parse
open Go.VM Go.Lex
def Tv (Q:bc->Prop) (ks:List T):Prop:= ∃r:List bc,ks=r.map aY/\ ∀x∈r,bC x=true/\Q x
def Lf (Q:bc->Prop) (s:LB) (t:T):Prop:= ∃k ks,t= .mk 1 k s ks/\(k=3\/k=8)/\Q (k,s)/\Tv Q ks
def yS (list:Bool):LB:=if list then qY else py
section
variable (Q:bc->Prop)
mutual
inductive ET:T->Prop where
 | leaf {k:Nat} {tx:LB} {ks:List T}:Q (k,tx)->(k=4\/k=5\/k=6\/k=7\/(k=3\/k=8)/\(tx=rF\/tx=mS))->Tv Q ks->ET (.mk 1 k tx ks)
 | letin {a i e:T} {bs:List T}:Lf Q ub a->BT bs->Lf Q R5 i->ET e->ET (node 6 (a::bs++[i]++[e]))
 | lambda {f p a e:T} {ps:List T}:Lf Q VR f->PT p->(∀x∈ps,PT x)->Lf Q iw a->ET e->ET (node 7 (f::p::ps++[a]++[e]))
 | ife {i a t b l c:T}:Lf Q Zu i->ET a->Lf Q vu t->ET b->Lf Q vh l->ET c->ET (node 8 [i,a,t,b,l,c])
 | mtch {m e w a:T} {bar as:List T}:Lf Q IY m->ET e->Lf Q bW w->(bar=[]\/ ∃b,Lf Q iF b/\bar=[b])->AT a->S4 as->ET (node 9 (m::e::w::bar++a::as))
 | bin {a op b:T} {s:LB}:ET a->Lf Q s op->ET b->ET (node 11 [a,op,b])
 | un {op a:T}:Lf Q [45] op\/Lf Q [45,46] op->ET a->ET (node 12 [op,a])
 | app {a b:T}:ET a->ET b->ET (node 13 [a,b])
 | none {list:Bool} {o c:T}:Lf Q (yS list) o->Lf Q (jJ list) c->ET (node (kindOf list false) [o,c])
 | some {list:Bool} {o c a:T} {l:List T}:Lf Q (yS list) o->ET a->S7 list l->Lf Q (jJ list) c->ET (node (kindOf list false) (o::a::l++[c]))
inductive S7:Bool->List T->Prop where
 | nil {list:Bool}:S7 list []
 | cons {list:Bool} {c x:T} {l:List T}:Lf Q (xX list) c->ET x->S7 list l->S7 list (c::x::l)
inductive PT:T->Prop where
 | leaf {k:Nat} {tx:LB} {ks:List T}:Q (k,tx)->(k=4\/k=5\/k=7\/(k=3\/k=8)/\(tx=rF\/tx=mS\/tx=Ht))->Tv Q ks->PT (.mk 1 k tx ks)
 | cons {a op b:T}:PT a->Lf Q FK op->PT b->PT (node 16 [a,op,b])
 | none {list:Bool} {o c:T}:Lf Q (yS list) o->Lf Q (jJ list) c->PT (node (kindOf list true) [o,c])
 | some {list:Bool} {o c a:T} {l:List T}:Lf Q (yS list) o->PT a->SN list l->Lf Q (jJ list) c->PT (node (kindOf list true) (o::a::l++[c]))
inductive SN:Bool->List T->Prop where
 | nil {list:Bool}:SN list []
 | cons {list:Bool} {c x:T} {l:List T}:Lf Q (xX list) c->PT x->SN list l->SN list (c::x::l)
inductive BT:List T->Prop where
 | mk {rc ps:List T} {p q e:T}:(rc=[]\/ ∃r,Lf Q eO r/\rc=[r])->PT p->(∀x∈ps,PT x)->Lf Q yu q->ET e->BT (rc++(p::ps)++[q]++[e])
inductive AT:T->Prop where
 | mk {p a e:T}:PT p->Lf Q iw a->ET e->AT (node 10 [p,a,e])
inductive S4:List T->Prop where
 | nil:S4 []
 | cons {b a:T} {l:List T}:Lf Q iF b->AT a->S4 l->S4 (b::a::l)
end
inductive DT:List T->Prop where
 | last {ks:List T}:Tv Q ks->DT [.mk 1 0 [] ks]
 | cons {a:T} {bs l:List T}:Lf Q ub a->BT Q bs->DT l->DT (node 5 (a::bs)::l)
variable {Q}
def rJ (Q:bc->Prop) (r:List bc):Prop:= ∀t∈r,Q t
theorem bT {r:List bc} (h:rJ Q r):rJ Q (aS r):=fun t a=>h t ((abA bC).subset (List.mem_of_mem_drop a))
theorem ku {r:List bc} (s:LB) (h:rJ Q r):rJ Q (bp s r):=by
 unfold bp;split
 .exact bT h
 .exact h
theorem tQ {r:List bc} (h:rJ Q r):Tv Q ((r.takeWhile bC).map aY):=⟨_,rfl,fun _ hx=>⟨NB hx,h _ (List.takeWhile_prefix bC |>.subset hx)⟩⟩
theorem D7 {r:List bc} (h:(nx r).1≠0):nx r∈r:=by
 unfold nx at h ⊢;split
 .rename_i e;rw [e] at h;exact absurd rfl h
 .rename_i t l e;have:t∈r.dropWhile bC:=by rw [e];exact aag
  exact (abA bC).subset this
theorem iq {s:LB} {r:List bc} (a:rJ Q r) (h:eH s r=true):Lf Q s (aV r):=by
 have h0:=jd h;have hm:=a _ (D7 h0);unfold eH at h;simp only [aak,aa0,aaX] at h;refine ⟨(nx r).1,_, ?_,h.1, ?_,tQ a⟩
 .unfold aV leaf;rw [h.2]
 .rw [<- h.2];exact hm
theorem NY {a:List LB} {r:List bc} (b:rJ Q r) (h:isAny a r=true): ∃s,s∈a/\Lf Q s (aV r):=by
 have h0:=rV h;have hm:=b _ (D7 h0);unfold isAny at h;simp only [aak,aa0,aaX,List.any_eq_true] at h;obtain ⟨h1,s,hs,e⟩:=h;refine ⟨s,hs,(nx r).1,_, ?_,h1, ?_,tQ b⟩
 .unfold aV leaf;rw [e]
 .rw [e];exact hm
theorem np {s:LB} {r:List bc} (a:rJ Q r) (h:dS (dy s r)=true):Lf Q s (dy s r):=by
 have h1:=Mw h;have:dy s r=aV r:=by unfold dy;rw [h1];rfl
 rw [this];exact iq a h1
def pre:lX->List bc->Prop
 | .closed list _,r=>eH (yS list) r=true
 | _,_=>True
def Made (Q:bc->Prop):lX->List T->Prop
 | .expr,l | .whole,l | .level _,l | .neg,l | .atom false,l | .closed _ false,l=> ∃t,l=[t]/\ET Q t
 | .ops _ a,l | .args a,l=>ET Q a-> ∃t,l=[t]/\ET Q t
 | .atom true,l | .closed _ true,l | .pattern,l=> ∃t,l=[t]/\PT Q t
 | .items list false,l=>S7 Q list l
 | .items list true,l=>SN Q list l
 | .binding,l=>BT Q l
 | .params,l=> ∀x∈l,PT Q x
 | .arm,l=> ∃t,l=[t]/\AT Q t
 | .arms,l=>S4 Q l
theorem gG {N:Nat} {job:lX} {d:Nat} {r:List bc} {l:List T} {r':List bc} (h:P N job d r=some (l,r')) (a:rJ Q r):rJ Q r':=F6 (Q:=rJ Q) (fun _ h=>bT h) N job d r l r' h a
theorem Ry: ∀(N:Nat) (job:lX) (d:Nat) (r:List bc) (l:List T) (r':List bc),P N job d r=some (l,r')->pre job r->rJ Q r->du l=true->Made Q job l:=by
 intro N
 induction N with
 | zero=>intro job d r l r' h;cases h
 | succ n ih=>
  intro job d r l r' h Y g f;cases job with
  | expr=>
   simp only [P] at h;split at h
   .cases h;rw [eR,xP] at f;cases f
   .have:=ih _ _ _ _ _ h trivial g f;exact this
  | whole=>
   simp only [P] at h;split at h
   .rename_i q;obtain ⟨⟨bs,r2⟩,i,h⟩:=bind_some h;obtain ⟨⟨es,I⟩,o,h⟩:=bind_some h;cases h;rw [eR] at f;have f:=eh f;simp only [gn,du,aak,abh] at f;have z:=gG i (bT g);obtain ⟨e,rfl,he⟩:=ih _ _ _ _ _ o trivial (ku _ z) f.2;exact ⟨_,rfl,.letin (iq g q) (ih _ _ _ _ _ i trivial (bT g) f.1.1.2) (np z f.1.2) he⟩
   split at h
   .rename_i q;obtain ⟨⟨a,u⟩,i,h⟩:=bind_some h;obtain ⟨⟨ps,r2⟩,o,h⟩:=bind_some h;obtain ⟨⟨es,I⟩,E,h⟩:=bind_some h;cases h;rw [eR] at f;have f:=eh f;simp only [gn,du,aak,abh] at f;have v:=gG i (bT g);have z:=gG o v;obtain ⟨p,rfl,hp⟩:=ih _ _ _ _ _ i trivial (bT g) f.1.1.1.2;have D:=ih _ _ _ _ _ o trivial v f.1.1.2;obtain ⟨e,rfl,he⟩:=ih _ _ _ _ _ E trivial (ku _ z) f.2;exact ⟨_,rfl,.lambda (iq g q) hp D (np z f.1.2) he⟩
   split at h
   .rename_i q;obtain ⟨⟨a,u⟩,i,h⟩:=bind_some h;obtain ⟨⟨b,r2⟩,o,h⟩:=bind_some h;obtain ⟨⟨c,I⟩,E,h⟩:=bind_some h;cases h;rw [eR] at f;have f:=eh f;simp only [gn,du,aak,abh] at f;have v:=gG i (bT g);have z:=gG o (ku _ v);obtain ⟨a',rfl,j⟩:=ih _ _ _ _ _ i trivial (bT g) f.1.1.1.1.2;obtain ⟨b',rfl,w⟩:=ih _ _ _ _ _ o trivial (ku _ v) f.1.1.2;obtain ⟨c',rfl,J⟩:=ih _ _ _ _ _ E trivial (ku _ z) f.2;exact ⟨_,rfl,.ife (iq g q) j (np v f.1.1.1.2) w (np z f.1.2) J⟩
   split at h
   .rename_i q;obtain ⟨⟨a,u⟩,i,h⟩:=bind_some h;obtain ⟨⟨b,I⟩,o,h⟩:=bind_some h;obtain ⟨⟨cs,r4⟩,E,h⟩:=bind_some h;cases h;rw [eR] at f;have f:=eh f;simp only [gn,du,aak,abh] at f;have v:=gG i (bT g);have z:=ku bW v;have F:rJ Q (if eH iF (bp bW u)=true then aS (bp bW u) else bp bW u):=by
     split
     .exact bT z
     .exact z
    obtain ⟨a',rfl,j⟩:=ih _ _ _ _ _ i trivial (bT g) f.1.1.1.1.2;obtain ⟨b',rfl,w⟩:=ih _ _ _ _ _ o trivial F f.1.2;have K:=ih _ _ _ _ _ E trivial (gG o F) f.2;have G:(if eH iF (bp bW u)=true then [aV (bp bW u)] else [])=[]\/ ∃b,Lf Q iF b/\(if eH iF (bp bW u)=true then [aV (bp bW u)] else [])=[b]:=by
     split
     .rename_i L;exact .inr ⟨_,iq z L,rfl⟩
     .exact .inl rfl
    have:=ET.mtch (iq g q) j (np v f.1.1.1.2) G w K;refine ⟨_,rfl, ?_⟩;simpa using this
   have:=ih _ _ _ _ _ h trivial g f;exact this
  | level k=>
   simp only [P] at h;split at h
   .have:=ih _ _ _ _ _ h trivial g f;exact this
   .obtain ⟨⟨a,u⟩,i,h⟩:=bind_some h;dsimp only at h;split at h
    .have m:=K4 _ _ _ _ _ _ h f;obtain ⟨t,e,M⟩:=ih _ _ _ _ _ i trivial g m;cases e;exact ih _ _ _ _ _ h trivial (gG i g) f M
    .cases h
  | ops k acc=>
   intro y;simp only [P] at h;split at h
   .rename_i q;obtain ⟨⟨b,u⟩,i,h⟩:=bind_some h;have m:=K4 _ _ _ _ _ _ h f;simp only [eM,eR] at m;have m:=eh m;simp only [du,aak] at m;obtain ⟨s,_,hs⟩:=NY g q;obtain ⟨b',rfl,w⟩:=ih _ _ _ _ _ i trivial (bT g) m.2.2;exact ih _ _ _ _ _ h trivial (gG i (bT g)) f (.bin y hs w)
   .cases h;exact ⟨_,rfl,y⟩
  | neg=>
   simp only [P] at h;split at h
   .rename_i q;split at h
    .cases h;rw [eR] at f;have f:=eh f;simp only [du,xP,abR,abF] at f;cases f
    .obtain ⟨⟨a,u⟩,i,h⟩:=bind_some h;cases h;rw [eR] at f;have f:=eh f;simp only [du,aak] at f;obtain ⟨s,hm,hs⟩:=NY g q;obtain ⟨a',rfl,j⟩:=ih _ _ _ _ _ i trivial (bT g) f.2;simp only [aao,aaF,or_false] at hm;refine ⟨_,rfl,.un ?_ j⟩;rcases hm with rfl | rfl
     .exact .inl hs
     .exact .inr hs
   .obtain ⟨⟨a,u⟩,i,h⟩:=bind_some h;dsimp only at h;split at h
    .have m:=K4 _ _ _ _ _ _ h f;obtain ⟨t,e,M⟩:=ih _ _ _ _ _ i trivial g m;cases e;exact ih _ _ _ _ _ h trivial (gG i g) f M
    .cases h
  | args acc=>
   intro y;simp only [P] at h;split at h
   .rename_i q;obtain ⟨⟨b,u⟩,i,h⟩:=bind_some h;have m:=K4 _ _ _ _ _ _ h f;simp only [eM,eR] at m;have m:=eh m;simp only [du,aak] at m;obtain ⟨b',rfl,w⟩:=ih _ _ _ _ _ i trivial g m.2;exact ih _ _ _ _ _ h trivial (gG i g) f (.app y w)
   .cases h;exact ⟨_,rfl,y⟩
  | atom pat=>
   simp only [P] at h;split at h
   .rename_i q;have h0:=pA q;split at h
    .cases h;rw [eR] at f;cases f
    .rename_i Z;split at h
     .rename_i ho;cases pat with
      | false=>have:=ih _ _ _ _ _ h ho g f;exact this
      | true=>have:=ih _ _ _ _ _ h ho g f;exact this
     .rename_i ho;split at h
      .rename_i B;cases pat with
       | false=>have:=ih _ _ _ _ _ h B g f;exact this
       | true=>have:=ih _ _ _ _ _ h B g f;exact this
      .rename_i B;cases h;have hm:=g _ (D7 h0);have S:(nx r).1=4\/(nx r).1=5\/(nx r).1=7\/(nx r).1=(if pat then 5 else 6)\/isAny [rF,mS,py,qY,if pat then Ht else py] r=true:=by
        unfold dM at q;simp only [aa0,aaX] at q;rcases q with ((((h | h) | h) | h) | h) | h
        .exact .inl h
        .exact .inr (.inl h)
        .exact .inr (.inr (.inl h))
        .exact absurd h Z
        .exact .inr (.inr (.inr (.inl h)))
        .exact .inr (.inr (.inr (.inr h)))
       have U:isAny [rF,mS,py,qY,if pat then Ht else py] r=true->((nx r).1=3\/(nx r).1=8)/\((nx r).2=rF\/(nx r).2=mS\/pat=true/\(nx r).2=Ht):=by
        intro h;unfold isAny at h;unfold eH at ho B;simp only [aak,aa0,aaX,aby,List.any_nil,ab7] at h ho B;obtain ⟨h1,h⟩:=h;refine ⟨h1, ?_⟩;rcases h with h | h | h | h | h
        .exact .inl h.symm
        .exact .inr (.inl h.symm)
        .exact absurd ⟨h1,h.symm⟩ ho
        .exact absurd ⟨h1,h.symm⟩ B
        .cases pat with
         | true=>exact .inr (.inr ⟨rfl,h.symm⟩)
         | false=>exact absurd ⟨h1,h.symm⟩ ho
       cases pat with
       | false=>
        refine ⟨_,rfl,.leaf hm ?_ (tQ g)⟩;rcases S with h | h | h | h | h
        .exact .inl h
        .exact .inr (.inl h)
        .exact .inr (.inr (.inr (.inl h)))
        .exact .inr (.inr (.inl h))
        .obtain ⟨a,b⟩:=U h;refine .inr (.inr (.inr (.inr ⟨a, ?_⟩)));rcases b with b | b | ⟨b,_⟩
         .exact .inl b
         .exact .inr b
         .cases b
       | true=>
        refine ⟨_,rfl,.leaf hm ?_ (tQ g)⟩;rcases S with h | h | h | h | h
        .exact .inl h
        .exact .inr (.inl h)
        .exact .inr (.inr (.inl h))
        .exact .inr (.inl h)
        .obtain ⟨a,b⟩:=U h;refine .inr (.inr (.inr ⟨a, ?_⟩));rcases b with b | b | ⟨_,b⟩
         .exact .inl b
         .exact .inr (.inl b)
         .exact .inr (.inr b)
   .cases h;rw [eR,vL] at f;cases f
  | closed list pat=>
   have ho:eH (yS list) r=true:=Y;simp only [P] at h;have C:=iq g ho;split at h
   .rename_i q;cases h;cases pat with
    | false=>exact ⟨_,rfl,.none C (iq (bT g) q)⟩
    | true=>exact ⟨_,rfl,.none C (iq (bT g) q)⟩
   .obtain ⟨⟨a,r2⟩,i,h⟩:=bind_some h;obtain ⟨⟨bs,I⟩,o,h⟩:=bind_some h;cases h;rw [eR] at f;have A:=eh f;simp only [aat,gn,du,aak,abh] at A;have z:=gG i (bT g);have V:=gG o z;cases pat with
    | false=>
     obtain ⟨a',rfl,j⟩:=ih .expr _ _ _ _ i trivial (bT g) A.2.1.1;exact ⟨_,rfl,.some C j (ih (.items list false) _ _ _ _ o trivial z A.2.1.2) (np V A.2.2)⟩
    | true=>
     obtain ⟨a',rfl,j⟩:=ih .pattern _ _ _ _ i trivial (bT g) A.2.1.1;exact ⟨_,rfl,.some C j (ih (.items list true) _ _ _ _ o trivial z A.2.1.2) (np V A.2.2)⟩
  | items list pat=>
   simp only [P] at h;split at h
   .rename_i q;obtain ⟨⟨a,u⟩,i,h⟩:=bind_some h;obtain ⟨⟨bs,r2⟩,o,h⟩:=bind_some h;cases h;simp only [aat,gn,du,aak,abh] at f;have v:=gG i (bT g);cases pat with
    | false=>
     obtain ⟨a',rfl,j⟩:=ih .expr _ _ _ _ i trivial (bT g) f.2.1;exact .cons (iq g q) j (ih (.items list false) _ _ _ _ o trivial v f.2.2)
    | true=>
     obtain ⟨a',rfl,j⟩:=ih .pattern _ _ _ _ i trivial (bT g) f.2.1;exact .cons (iq g q) j (ih (.items list true) _ _ _ _ o trivial v f.2.2)
   .cases h;cases pat with
    | false=>exact .nil
    | true=>exact .nil
  | pattern=>
   simp only [P] at h;split at h
   .cases h;rw [eR,xP] at f;cases f
   .obtain ⟨⟨a,u⟩,i,h⟩:=bind_some h;dsimp only at h;split at h
    .rename_i q;obtain ⟨⟨b,r2⟩,o,h⟩:=bind_some h;cases h;rw [eR] at f;have f:=eh f;simp only [gn,du,aak] at f;have v:=gG i g;obtain ⟨a',rfl,j⟩:=ih _ _ _ _ _ i trivial g f.1;obtain ⟨b',rfl,w⟩:=ih _ _ _ _ _ o trivial (bT v) f.2.2;exact ⟨_,rfl,.cons j (iq v q) w⟩
    .cases h;have:=ih _ _ _ _ _ i trivial g f;exact this
  | binding=>
   simp only [P] at h;have H:(if eH eO r=true then [aV r] else [])=[]\/ ∃b,Lf Q eO b/\(if eH eO r=true then [aV r] else [])=[b]:=by
    split
    .rename_i L;exact .inr ⟨_,iq g L,rfl⟩
    .exact .inl rfl
   have q0:rJ Q (if eH eO r=true then aS r else r):=by
    split
    .exact bT g
    .exact g
   generalize (if eH eO r=true then [aV r] else [])=rc at h H;generalize (if eH eO r=true then aS r else r)=r0 at h q0;have fin: ∀{p:T} {ps:List T} {u:List bc} {es:List T} {r2:List bc},P n .expr d (bp yu u)=some (es,r2)->rJ Q u->du (rc++(p::ps)++[dy yu u]++es)=true->(dS p=true->PT Q p)->(du ps=true-> ∀x∈ps,PT Q x)->BT Q (rc++(p::ps)++[dy yu u]++es):=by
    intro p ps u es r2 i v f hp D;simp only [gn,du,aak,abh] at f;obtain ⟨e,rfl,he⟩:=ih _ _ _ _ _ i trivial (ku _ v) f.2;exact .mk H (hp f.1.1.2.1) (D f.1.1.2.2) (np v f.1.2) he
   split at h
   .rename_i W;obtain ⟨⟨xs,u⟩,i,h⟩:=bind_some h;obtain ⟨⟨ps,ar⟩,X,i⟩:=bind_some i;cases i;obtain ⟨⟨es,r2⟩,o,h⟩:=bind_some h;cases h;refine fin o (gG X (bT q0)) f (fun _=> ?_) (fun f=>ih _ _ _ _ _ X trivial (bT q0) f);exact .leaf (q0 _ (D7 (by rw [W];decide))) (.inl W) (tQ q0)
   .obtain ⟨⟨xs,u⟩,i,h⟩:=bind_some h;obtain ⟨⟨es,r2⟩,o,h⟩:=bind_some h;cases h;obtain ⟨x,rfl⟩:=gZ _ _ _ _ _ _ i rfl;refine fin o (gG i q0) f (fun O=> ?_) (fun _ x hx=>by cases hx);obtain ⟨x',e,R⟩:=ih _ _ _ _ _ i trivial q0 (by rw [eR];exact O);cases e;exact R
  | params=>
   simp only [P] at h;split at h
   .obtain ⟨⟨a,u⟩,i,h⟩:=bind_some h;obtain ⟨⟨bs,r2⟩,o,h⟩:=bind_some h;cases h;simp only [gn,aak] at f;obtain ⟨a',rfl,j⟩:=ih _ _ _ _ _ i trivial g f.1;have:=ih _ _ _ _ _ o trivial (gG i g) f.2;intro x hx;rcases aaC.1 hx with hx | hx
    .rw [aaQ.1 hx];exact j
    .exact this x hx
   .cases h;intro x hx;cases hx
  | arm=>
   simp only [P] at h;obtain ⟨⟨a,u⟩,i,h⟩:=bind_some h;obtain ⟨⟨es,r2⟩,o,h⟩:=bind_some h;cases h;rw [eR] at f;have f:=eh f;simp only [gn,du,aak,abh] at f;have v:=gG i g;obtain ⟨a',rfl,j⟩:=ih _ _ _ _ _ i trivial g f.1.1;obtain ⟨e,rfl,he⟩:=ih _ _ _ _ _ o trivial (ku _ v) f.2;exact ⟨_,rfl,.mk j (np v f.1.2) he⟩
  | arms=>
   simp only [P] at h;split at h
   .rename_i q;obtain ⟨⟨a,u⟩,i,h⟩:=bind_some h;obtain ⟨⟨bs,r2⟩,o,h⟩:=bind_some h;cases h;simp only [aat,gn,du,aak] at f;obtain ⟨a',rfl,j⟩:=ih _ _ _ _ _ i trivial (bT g) f.2.1;exact .cons (iq g q) j (ih _ _ _ _ _ o trivial (gG i (bT g)) f.2.2)
   .cases h;exact .nil
theorem mu: ∀(N:Nat) (r:List bc) (l:List T),decls N r=some l->RB r->rJ Q r->du l=true->DT Q l
 | 0,_,_,h,_,_,_=>by cases h
 | n+1,r,l,h,f,c,a=>by
  simp only [decls] at h;split at h
  .rename_i h0;cases h;have:aV r= .mk 1 0 [] ((r.takeWhile bC).map aY):=by
    unfold aV leaf;have hx:nx r=(0,[]):=by
     unfold nx at h0 ⊢;split
     .rfl
     .rename_i t l e;rw [e] at h0;exact absurd h0 (f t ((abA bC).subset (by rw [e];exact aag)))
    rw [hx]
   rw [this];exact .last (tQ c)
  split at h
  .rename_i i;obtain ⟨⟨bs,j⟩,d,h⟩:=bind_some h;obtain ⟨k,g,h⟩:=bind_some h;cases h;simp only [du,aak] at a;have b:=eh a.1;simp only [du,aak] at b;exact .cons (iq c i) (Ry _ _ _ _ _ _ d trivial (bT c) b.2) (mu n j k g (F6 mA _ _ _ _ _ _ d (mA _ f)) (gG d (bT c)) a.2)
  .obtain ⟨k,g,h⟩:=bind_some h;cases h;simp only [du,aak] at a;cases a.1
end
structure Clo (f:List bc->List bc):Prop where
 nx: ∀r,(nx r).1≠0->Parse.nx (f r)=Parse.nx r
 tk: ∀r,(Parse.nx r).1≠0->aV (f r)=aV r
 tr: ∀r,(Parse.nx r).1≠0->aS (f r)=f (aS r)
 nd: ∀r,(Parse.nx r).1=0->Parse.nx (f r)=(8,O0)
section
variable {f:List bc->List bc} (hf:Clo f)
include hf
end
structure ZG (φ:bc->bc):Prop where
 kind: ∀t,(φ t).1=t.1
 same: ∀t,bC t=false->φ t=t
section
variable {φ:bc->bc} (hφ:ZG φ)
include hφ
end
def YZ (l:List T):List LB:=l.map jS
structure zc {α:Type} (F1:T->List α) (F:List T->List α) (G:List bc->List α):Prop where
 nil:F []=[]
 cons: ∀t l,F (t::l)=F1 t++F l
 node: ∀{k},k≠1-> ∀l,F1 (node k l)=F l
 miss: ∀s,F1 (missing s)=[]
 take: ∀r,F1 (aV r)++G (aS r)=G r
section
variable {α:Type} {F1:T->List α} {F:List T->List α} {G:List bc->List α} (hm:zc F1 F G)
include hm
theorem zc.one (t:T):F [t]=F1 t:=by rw [hm.cons,hm.nil,aay]
theorem zc.app: ∀(l m:List T),F (l++m)=F l++F m
 | [],m=>by rw [aaq,hm.nil,aaq]
 | t::l,m=>by rw [aat,hm.cons,hm.cons,zc.app l m,aar]
theorem zc.BX (s:LB) (r:List bc):F1 (dy s r)++G (bp s r)=G r:=by
 unfold dy bp;split
 .exact hm.take r
 .rw [hm.miss];rfl
theorem zc.deep (s:LB) (r:List bc):F1 (lr s r)++G (lq r)=G r:=by
 unfold lr lq;split
 .rw [hm.miss];rfl
 .rw [hm.node (by decide),hm.one];exact hm.take r
end
theorem XF {α:Type} {F1:T->List α} {F:List T->List α} {G:List bc->List α} (hm:zc F1 F G): ∀(N:Nat) (job:lX) (d:Nat) (r:List bc) (l:List T) (r':List bc),P N job d r=some (l,r')->F l++G r'=F (eM job)++G r:=by
 intro N
 induction N with
 | zero=>intro job d r l r' h;cases h
 | succ n ih=>
  intro job d r l r' h;have tk:=hm.take r;cases job with
  | expr=>
   simp only [P] at h;split at h
   .cases h;rw [hm.one,hm.deep];simp [eM,hm.nil]
   .have k:=ih _ _ _ _ _ h;exact k
  | whole=>
   simp only [P] at h;split at h
   .obtain ⟨⟨bs,r2⟩,e,h⟩:=bind_some h;obtain ⟨⟨es,m⟩,f,h⟩:=bind_some h;cases h;have k1:=ih _ _ _ _ _ e;have k2:=ih _ _ _ _ _ f;simp only [eM,hm.nil,hm.one,aaq] at k1 k2 ⊢
    (try rw [hm.one]);rw [hm.node (by decide)]
    simp only [hm.app,hm.cons,hm.nil,aaq,aay,aar,aat,k2,hm.BX,k1,tk]
   split at h
   .obtain ⟨⟨a,g⟩,e,h⟩:=bind_some h;obtain ⟨⟨ps,r2⟩,f,h⟩:=bind_some h;obtain ⟨⟨es,m⟩,j,h⟩:=bind_some h;cases h;have k1:=ih _ _ _ _ _ e;have k2:=ih _ _ _ _ _ f;have i:=ih _ _ _ _ _ j;simp only [eM,hm.nil,hm.one,aaq] at k1 k2 i ⊢
    (try rw [hm.one]);rw [hm.node (by decide)]
    simp only [hm.app,hm.cons,hm.nil,aaq,aay,aar,aat,i,hm.BX,k2,k1,tk]
   split at h
   .obtain ⟨⟨a,g⟩,e,h⟩:=bind_some h;obtain ⟨⟨b,r2⟩,f,h⟩:=bind_some h;obtain ⟨⟨c,m⟩,j,h⟩:=bind_some h;cases h;have k1:=ih _ _ _ _ _ e;have k2:=ih _ _ _ _ _ f;have i:=ih _ _ _ _ _ j;simp only [eM,hm.nil,hm.one,aaq] at k1 k2 i ⊢
    (try rw [hm.one]);rw [hm.node (by decide)]
    simp only [hm.app,hm.cons,hm.nil,aaq,aay,aar,aat,i,hm.BX,k2,k1,tk]
   split at h
   .obtain ⟨⟨a,g⟩,e,h⟩:=bind_some h;obtain ⟨⟨b,m⟩,f,h⟩:=bind_some h;obtain ⟨⟨cs,t⟩,j,h⟩:=bind_some h;cases h;have k1:=ih _ _ _ _ _ e;have k2:=ih _ _ _ _ _ f;have i:=ih _ _ _ _ _ j;simp only [eM,hm.nil,hm.one,aaq] at k1 k2 i ⊢;have s:F (if eH iF (bp bW g) then [aV (bp bW g)] else [])++G (if eH iF (bp bW g) then aS (bp bW g) else bp bW g)=G (bp bW g):=by
     split
     .rw [hm.one];exact hm.take _
     .rw [hm.nil];rfl
    (try rw [hm.one]);rw [hm.node (by decide)]
    simp only [hm.app,hm.cons,hm.nil,aaq,aay,aar,aat,i,k2,s,hm.BX,k1,tk]
   .have k:=ih _ _ _ _ _ h;exact k
  | level k=>
   simp only [P] at h;split at h
   .have k:=ih _ _ _ _ _ h;exact k
   .obtain ⟨⟨a,g⟩,e,h⟩:=bind_some h;dsimp only at h;split at h
    .have k1:=ih _ _ _ _ _ e;have k2:=ih _ _ _ _ _ h;simp only [eM,hm.nil,hm.one,aaq,hm.one] at k1 k2 ⊢;rw [k2,k1]
    .cases h
  | ops k acc=>
   simp only [P] at h;split at h
   .obtain ⟨⟨b,g⟩,e,h⟩:=bind_some h;have k1:=ih _ _ _ _ _ e;have k2:=ih _ _ _ _ _ h;simp only [eM,hm.nil,hm.one,aaq] at k1 k2 ⊢;rw [k2,hm.node (by decide)];simp only [hm.cons,hm.nil,aaq,aar,k1,tk]
   .cases h;simp [eM]
  | neg=>
   simp only [P] at h;split at h
   .split at h
    .cases h
     (try rw [hm.one]);rw [hm.node (by decide)]
     simp only [hm.cons,hm.nil,aaq,aay,aar,eM,hm.nil,aaq,hm.deep,tk]
    .obtain ⟨⟨a,g⟩,e,h⟩:=bind_some h;cases h;have k1:=ih _ _ _ _ _ e;simp only [eM,hm.nil,hm.one,aaq] at k1 ⊢
     (try rw [hm.one]);rw [hm.node (by decide)]
     simp only [hm.cons,hm.nil,aaq,aar,k1,tk]
   .obtain ⟨⟨a,g⟩,e,h⟩:=bind_some h;dsimp only at h;split at h
    .have k1:=ih _ _ _ _ _ e;have k2:=ih _ _ _ _ _ h;simp only [eM,hm.nil,hm.one,aaq,hm.one] at k1 k2 ⊢;rw [k2,k1]
    .cases h
  | args acc=>
   simp only [P] at h;split at h
   .obtain ⟨⟨b,g⟩,e,h⟩:=bind_some h;have k1:=ih _ _ _ _ _ e;have k2:=ih _ _ _ _ _ h;simp only [eM,hm.nil,hm.one,aaq] at k1 k2 ⊢;rw [k2,hm.node (by decide)];simp only [hm.cons,hm.nil,aaq,aar,k1]
   .cases h;simp [eM]
  | atom pat=>
   simp only [P] at h;split at h
   .split at h
    .cases h
     (try rw [hm.one]);rw [hm.node (by decide),hm.one]
     simp only [eM,hm.nil,aaq];exact tk
    split at h
    .have k:=ih _ _ _ _ _ h;exact k
    split at h
    .have k:=ih _ _ _ _ _ h;exact k
    .cases h;rw [hm.one];simp only [eM,hm.nil,aaq];exact tk
   .cases h;rw [hm.one,hm.miss];simp [eM,hm.nil]
  | closed list pat=>
   simp only [P] at h;split at h
   .cases h;have p:=hm.take (aS r)
    (try rw [hm.one]);rw [hm.node (pQ _ _)]
    simp only [hm.cons,hm.nil,aaq,aay,aar,eM,hm.nil,aaq,p,tk]
   .obtain ⟨⟨a,r2⟩,e,h⟩:=bind_some h;obtain ⟨⟨bs,m⟩,f,h⟩:=bind_some h;cases h;have k1:=ih _ _ _ _ _ e;have k2:=ih _ _ _ _ _ f;have q:eM (if pat then lX.pattern else lX.expr)=[]:=by cases pat <;> rfl
    rw [q] at k1;simp only [eM,hm.nil,hm.one,aaq] at k1 k2 ⊢
    (try rw [hm.one]);rw [hm.node (pQ _ _)]
    simp only [hm.app,hm.cons,hm.nil,aaq,aay,aar,aat,hm.BX,k2,k1,tk]
  | items list pat=>
   simp only [P] at h;split at h
   .obtain ⟨⟨a,r2⟩,e,h⟩:=bind_some h;obtain ⟨⟨bs,m⟩,f,h⟩:=bind_some h;cases h;have k1:=ih _ _ _ _ _ e;have k2:=ih _ _ _ _ _ f;have q:eM (if pat then lX.pattern else lX.expr)=[]:=by cases pat <;> rfl
    rw [q] at k1;simp only [eM,hm.nil,hm.one,aaq] at k1 k2 ⊢;simp only [hm.app,hm.cons,hm.nil,aaq,aar,aat,k2,k1,tk]
   .cases h;simp [eM,hm.nil]
  | pattern=>
   simp only [P] at h;split at h
   .cases h;rw [hm.one,hm.deep];simp [eM,hm.nil]
   .obtain ⟨⟨a,g⟩,e,h⟩:=bind_some h;have k1:=ih _ _ _ _ _ e;dsimp only at h;split at h
    .obtain ⟨⟨b,r2⟩,f,h⟩:=bind_some h;cases h;have k2:=ih _ _ _ _ _ f;simp only [eM,hm.nil,hm.one,aaq] at k1 k2 ⊢
     (try rw [hm.one]);rw [hm.node (by decide)]
     simp only [hm.app,hm.cons,hm.nil,aaq,aar,k2,hm.take,k1]
    .cases h;exact k1
  | binding=>
   simp only [P] at h;have o:F (if eH eO r then [aV r] else [])++G (if eH eO r then aS r else r)=G r:=by
    split
    .rw [hm.one];exact tk
    .rw [hm.nil];rfl
   generalize (if eH eO r then [aV r] else [])=rc at h o;generalize (if eH eO r then aS r else r)=r0 at h o;split at h
   .obtain ⟨⟨xs,g⟩,e,h⟩:=bind_some h;obtain ⟨⟨ps,m⟩,j,e⟩:=bind_some e;cases e;obtain ⟨⟨es,r2⟩,f,h⟩:=bind_some h;cases h;have i:=ih _ _ _ _ _ j;have k2:=ih _ _ _ _ _ f;simp only [eM,hm.nil,hm.one,aaq] at k2 i ⊢;simp only [hm.app,hm.cons,hm.nil,aaq,hm.one,aar,aat,k2,hm.BX,i,hm.take,o]
   .obtain ⟨⟨xs,g⟩,e,h⟩:=bind_some h;obtain ⟨⟨es,r2⟩,f,h⟩:=bind_some h;cases h;have k1:=ih _ _ _ _ _ e;have k2:=ih _ _ _ _ _ f;simp only [eM,hm.nil,hm.one,aaq] at k1 k2 ⊢;simp only [hm.app,hm.one,aar,k2,hm.BX,k1,o]
  | params=>
   simp only [P] at h;split at h
   .obtain ⟨⟨a,g⟩,e,h⟩:=bind_some h;obtain ⟨⟨bs,r2⟩,f,h⟩:=bind_some h;cases h;have k1:=ih _ _ _ _ _ e;have k2:=ih _ _ _ _ _ f;simp only [eM,hm.nil,hm.one,aaq] at k1 k2 ⊢;simp only [hm.app,aar,k2,k1]
   .cases h;simp [eM,hm.nil]
  | arm=>
   simp only [P] at h;obtain ⟨⟨a,g⟩,e,h⟩:=bind_some h;obtain ⟨⟨es,r2⟩,f,h⟩:=bind_some h;cases h;have k1:=ih _ _ _ _ _ e;have k2:=ih _ _ _ _ _ f;simp only [eM,hm.nil,hm.one,aaq] at k1 k2 ⊢
   (try rw [hm.one]);rw [hm.node (by decide)]
   simp only [hm.app,hm.one,aar,k2,hm.BX,k1]
  | arms=>
   simp only [P] at h;split at h
   .obtain ⟨⟨a,g⟩,e,h⟩:=bind_some h;obtain ⟨⟨bs,r2⟩,f,h⟩:=bind_some h;cases h;have k1:=ih _ _ _ _ _ e;have k2:=ih _ _ _ _ _ f;simp only [eM,hm.nil,hm.one,aaq] at k1 k2 ⊢;simp only [hm.app,hm.cons,hm.nil,aaq,aar,aat,k2,k1,tk]
   .cases h;simp [eM,hm.nil]
theorem yJ (t:bc) (l:List bc):dG (t::l)=t.2++dG l:=by simp [dG]
theorem nq (s:LB):dG (tokens s)=s:=by
 have:=se s.length s (aal _);simpa [dG,List.flatMap] using this
theorem jh {c:UInt8} {l:LB}:tokens (c::l)=((cut (c::l)).1,(c::l).take (cut (c::l)).2)::tokens ((c::l).drop (cut (c::l)).2):=by
 have a:=pd (s:=c::l) (by simp);show fQ (c::l).length (c::l)= _;simp only [aae,fQ];congr 1;refine x6 _ _ _ ?_ (aal _);rw [aaz];simp only [aae] at a ⊢;omega
theorem RW {p:UInt8->Bool} {c:UInt8} {l:LB} (h:p c=false):wh p (c::l)=0:=by simp [wh,h]
theorem Ge {α:Type} {F1:T->List α} {F:List T->List α} {G:List bc->List α} (hm:zc F1 F G): ∀(n:Nat) (r:List bc),F (skip n r).1++G (skip n r).2=G r
 | 0,r=>by simp [skip,hm.nil]
 | n+1,r=>by
  simp only [skip];split
  .simp only [hm.cons,aar,Ge hm n (aS r),hm.take]
  .simp [hm.nil]
theorem xg {α:Type} {F1:T->List α} {F:List T->List α} {G:List bc->List α} (hm:zc F1 F G) (h0:G []=[]): ∀(n:Nat) (r:List bc) (l:List T),decls n r=some l->RB r->F l=G r
 | 0,_,_,h,_=>by cases h
 | n+1,r,l,h,a=>by
  simp only [decls] at h;split at h
  .rename_i hn;cases h;have:=hm.take r;rw [KO a hn,h0,aay] at this;rw [hm.one,this]
  split at h
  .obtain ⟨⟨bs,d⟩,c,h⟩:=bind_some h;obtain ⟨m,b,h⟩:=bind_some h;cases h;have k1:=XF hm _ _ _ _ _ _ c;have k2:=xg hm h0 n d m b (F6 mA _ _ _ _ _ _ c (mA _ a));simp only [eM,hm.nil,aaq] at k1;rw [hm.cons,hm.node (by decide),hm.cons,aar,k2,k1,hm.take]
  .obtain ⟨m,b,h⟩:=bind_some h;cases h;have k2:=xg hm h0 n _ m b (zY mA _ _ a);rw [hm.cons,hm.node (by decide),k2,Ge hm]
theorem JJ {α:Type} {F1:T->List α} {F:List T->List α} {G:List bc->List α} (hm:zc F1 F G) (h0:G []=[]) (r:List bc) (h:RB r):F1 (doc r)=G r:=by
 obtain ⟨l,a,b⟩:=jK r;rw [b,hm.node (by decide),xg hm h0 _ _ _ a h]
theorem LH (w:LB):um w≠0:=by
 unfold um;split
 .decide
 split <;> decide
theorem RS {s:LB} (h:s≠[]):(cut s).1≠0:=by
 cases s with
 | nil=>exact absurd rfl h
 | cons c l=>
  unfold cut;dsimp only;split
  .exact fun e=>by cases e
  split
  .cases rem (List.drop 2 (c::l)) 1 <;> exact fun e=>by cases e
  split
  .exact LH _
  split
  .have a:(number (c::l)).1≠0:=by
    unfold number;dsimp only;split
    .split <;> exact fun e=>by cases e
    .exact fun e=>by cases e
   exact a
  split
  .have:=jI l;show (dD l).1≠0;omega
  split
  .exact fun e=>by cases e
  split <;> exact fun e=>by cases e
theorem Hg: ∀(n:Nat) (s:LB),∀p∈fQ n s,p.1≠0
 | 0,_,p,h=>by simp [fQ] at h
 | n+1,[],p,h=>by simp [fQ] at h
 | n+1,c::l,p,h=>by
  simp only [fQ,aao] at h;rcases h with rfl | h
  .exact RS (by simp)
  .exact Hg n _ p h
theorem gL (s:LB):RB (tokens s):=Hg _ s
theorem CS {α:Type} {F1:T->List α} {F:List T->List α} {g:bc->List α} (hn:F []=[]) (c: ∀t l,F (t::l)=F1 t++F l) (h0: ∀t,bC t=true->F1 (aY t)=g t) (h1: ∀t ks,bC t=false->F1 (leaf t ks)=F ks++g t) (d: ∀ks,F1 (leaf (0,[]) ks)=F ks) (r:List bc):
  F1 (aV r)++(aS r).flatMap g=r.flatMap g:=by
 have hl: ∀l:List bc,(∀t∈l,bC t=true)->F (l.map aY)=l.flatMap g:=by
  intro l
  induction l with
  | nil=>intro _;exact hn
  | cons t l ih=>
   intro h;rw [aan,c,h0 t (h t aag),ih fun u f=>h u (aam _ f)];simp
 have hf:=hl (r.takeWhile bC) fun t b=>NB b;have e:r.flatMap g=(r.takeWhile bC).flatMap g++(r.dropWhile bC).flatMap g:=by
  rw [<- List.flatMap_append,abC]
 unfold aV aS;cases a:r.dropWhile bC with
 | nil=>
  have hx:nx r=(0,[]):=by unfold nx;rw [a]
  rw [hx,d,hf,e,a];rfl
 | cons t l=>
  have hx:nx r=t:=by unfold nx;rw [a]
  have b:bC t=false:=by
   have:=List.head_dropWhile_not bC (l:=r) (by rw [a];simp);simpa only [a,List.head_cons] using this
  rw [hx,h1 t _ b,hf,e,a];simp
mutual
def Pp:T->List Unit
 | .mk k tk _ l=>Mb l++(if k=1/\tk=9 then [()] else [])
def Mb:List T->List Unit
 | []=>[]
 | t::l=>Pp t++Mb l
end
theorem Qw:zc Pp Mb (fun r=>r.flatMap fun t=>if t.1=9 then [()] else []) where
 nil:=by simp [Mb]
 cons t l:=by simp [Mb]
 node:=fun {k} a l=>by
  simp only [node,Pp];rw [if_neg (fun h=>a h.1),aay]
 miss s:=by simp [missing,Pp,Mb]
 take r:=by
  refine CS (F1:=Pp) (F:=Mb) (g:=fun t=>if t.1=9 then [()] else []) (by simp only [Mb]) (fun t l=>by simp only [Mb]) (fun t b=> ?_) (fun t ks b=> ?_) (fun ks=> ?_) r
  .simp only [aY,leaf,Pp,Mb,aaq,abM]
  .simp only [leaf,Pp,abM]
  .simp [leaf,Pp]
theorem NL (s:LB) (h:Pp (doc (tokens s))=[]): ∀t∈tokens s,t.1≠9:=by
 rw [JJ Qw rfl (tokens s) (gL s)] at h;intro t a e;have:=List.flatMap_eq_nil_iff.1 h t a;rw [if_pos e] at this;cases this
theorem Et: ∀(n:Nat) (t:T),SizeOf.sizeOf t < n->dS t=true->Pp t=[]
 | 0,_,h,_=>by omega
 | n+1,.mk k tk tx l,h,a=>by
  simp only [dS,aak,bne_iff_ne,ne_eq,aa0] at a;simp only [Pp];have c:¬ (k=1/\tk=9):=by
   rintro ⟨h1,d⟩;rcases a.1.2 with h | h
   .exact h h1
   .exact h d
  rw [if_neg c,aay];have hl: ∀(m:List T),(∀u∈m,u∈l)->du m=true->Mb m=[]:=by
   intro m
   induction m with
   | nil=>intro _ _;simp [Mb]
   | cons u m ih=>
    intro hm a;simp only [du,aak] at a;have b:=Et n u (by
     have:=List.sizeOf_lt_of_mem (hm u aag);simp only [T.mk.sizeOf_spec] at h;omega) a.1
    simp only [Mb];rw [b,ih (fun v e=>hm v (aam _ e)) a.2];rfl
  exact hl l (fun u b=>b) a.2
end Go.Parse
namespace Go.Parse
open Go.VM Go.Lex Go.Ast
theorem P0 {c:UInt8} (h:cr c=true) (s:LB):nb (tokens (c::s))=nb (tokens s):=by
 have h1:cut (c::s)=(1,wh cr (c::s)):=by simp only [cut,h,if_true]
 have b:wh cr (c::s)=wh cr s+1:=by simp [wh,h]
 rw [jh,h1,iS,if_pos rfl,b,aaD];cases s with
 | nil=>rfl
 | cons d l=>
  cases a:cr d with
  | false=>
   have:wh cr (d::l)=0:=RW a;rw [this];rfl
  | true=>
   have e:cut (d::l)=(1,wh cr (d::l)):=by simp only [cut,a,if_true]
   rw [jh (c:=d),e,iS,if_pos rfl]
section
variable {b r2:List bc} {e:T}
end
theorem FY (l:LB): ∃r,tokens (42::l)=(8,[42])::r\/tokens (42::l)=(8,[42,46])::r:=by
 cases l with
 | nil=>exact ⟨[],.inl rfl⟩
 | cons d l=>
  have e:(42::d::l).take 2=[42,d]:=rfl;by_cases h:d=46
  .subst h;have a:cut (42::46::l)=(8,2):=by
    simp only [cut,show cr 42=false from rfl,aaT,if_false,e,if_neg (show ¬ ([42,46]:LB)=[40,42] by decide),show lb 42=false from rfl,show aW 42=false from rfl,if_neg (show ¬ (42:UInt8)=34 by decide),show iJ.contains [42,46]=true from rfl,if_true]
   refine ⟨tokens l,.inr ?_⟩;rw [jh,a];rfl
  .have a:cut (42::d::l)=(8,1):=by
    have h1:¬ ([42,d]:LB)=[40,42]:=by simp
    have b:iJ.contains [42,d]=false:=by
     simp [iJ,h]
    simp only [cut,show cr 42=false from rfl,aaT,if_false,e,if_neg h1,show lb 42=false from rfl,show aW 42=false from rfl,if_neg (show ¬ (42:UInt8)=34 by decide),b,show kS 42=true from rfl,if_true]
   refine ⟨tokens (d::l),.inl ?_⟩;rw [jh,a];rfl
end Go.Parse
namespace Go.Parse
open Go.VM Go.Lex
inductive It where
 | tok (t:bc)
 | sep
inductive Jn:List It->LB->Prop where
 | nil:Jn [] []
 | tok {t:bc} {l:List It} {s:LB}:Jn l s->Jn (.tok t::l) (t.2++s)
 | sep {b:LB} {l:List It} {s:LB}:b≠[]->(∀c∈b,cr c=true)->Jn l s->Jn (.sep::l) (b++s)
def cR:List It->List bc
 | []=>[]
 | .tok t::l=>t::cR l
 | .sep::l=>cR l
structure yY (t:bc):Prop where
 ne:t.2≠[]
 cut:cut t.2=(t.1,t.2.length)
 k1:t.1≠1
 k9:t.1≠9
 valid:cb t.2=true
def By (t:bc):List It->Prop
 | []=>True
 | .sep:: _=>True
 | .tok u:: _=>(∃c r,u.2=c::r/\fS c=true)\/((t=(8,[40])\/t=(8,[91]))/\ ∃c r,u.2=c::r/\c≠42)
inductive gz:List It->Prop where
 | nil:gz []
 | sep {l:List It}:gz l->gz (.sep::l)
 | tok {t:bc} {l:List It}:yY t->By t l->gz l->gz (.tok t::l)
theorem Hc {c:UInt8} (h:cr c=true):fS c=true:=by
 rcases qQ h with rfl | rfl | rfl | rfl <;> rfl
theorem Q3: ∀{l:List It} {s:LB},Jn l s-> ∀{t:bc},By t l->(∀u,.tok u∈l->u.2≠[])->si s\/((t=(8,[40])\/t=(8,[91]))/\ ∃c r,s=c::r/\c≠42)
 | _,_,.nil,_,_,_=> .inl (.inl rfl)
 | _,_,.sep (b:=b) f a _,_,_,_=>by
  left;cases b with
  | nil=>exact absurd rfl f
  | cons c r=>exact .inr ⟨c,r++ _,rfl,Hc (a c (by simp))⟩
 | _,_,.tok (t:=u) (s:=s) _,t,h,_=>by
  rcases h with ⟨c,r,e,d⟩ | ⟨g,c,r,e,d⟩
  .exact .inl (.inr ⟨c,r++s,by rw [e];rfl,d⟩)
  .exact .inr ⟨g,c,r++s,by rw [e];rfl,d⟩
theorem FW {c d:UInt8} {r:LB} (b:c=40\/c=91) (f:d≠42):cut (c::d::r)=(8,1):=by
 have e:(c::d::r).take 2=[c,d]:=rfl;rcases b with rfl | rfl
 .have h1:¬ ([40,d]:LB)=[40,42]:=by simpa using f
  have a:iJ.contains [40,d]=false:=by simp [iJ]
  simp only [cut,show cr 40=false from rfl,aaT,if_false,e,if_neg h1,show lb 40=false from rfl,show aW 40=false from rfl,if_neg (show ¬ (40:UInt8)=34 by decide),a,show kS 40=true from rfl,if_true]
 .have h1:¬ ([91,d]:LB)=[40,42]:=by simp
  have a:iJ.contains [91,d]=false:=by simp [iJ]
  simp only [cut,show cr 91=false from rfl,aaT,if_false,e,if_neg h1,show lb 91=false from rfl,show aW 91=false from rfl,if_neg (show ¬ (91:UInt8)=34 by decide),a,show kS 91=true from rfl,if_true]
theorem O7 {t:bc} (h:yY t) {s:LB} (hs:si s\/((t=(8,[40])\/t=(8,[91]))/\ ∃c r,s=c::r/\c≠42)):cut (t.2++s)=(t.1,t.2.length):=by
 rcases hs with hs | ⟨b,c,r,rfl,a⟩
 .have h0:si ([]:LB):= .inl rfl;have:=TP (p:=t.2) (x:=[]) (x':=s) h.ne h0 hs (by rw [aay,h.cut];exact h.k1) (by rw [aay,h.cut];exact h.k9) (by rw [aay,h.cut];exact aal _);rw [this,aay,h.cut]
 .rcases b with rfl | rfl
  .exact FW (.inl rfl) a
  .exact FW (.inr rfl) a
theorem FJ {t:bc} (a:t.2≠[]) {s:LB} (b:cut (t.2++s)=(t.1,t.2.length)):tokens (t.2++s)=t::tokens s:=by
 obtain ⟨k,x⟩:=t;cases x with
 | nil=>exact absurd rfl a
 | cons c l=>
  simp only [aat] at b ⊢;rw [jh,b];have d:(c::(l++s)).take (c::l).length=c::l:=abL (l₁:=c::l);have e:(c::(l++s)).drop (c::l).length=s:=List.drop_left (l₁:=c::l);rw [d,e]
theorem Dn: ∀{b:LB} (_: ∀c∈b,cr c=true) (s:LB),nb (tokens (b++s))=nb (tokens s)
 | [],_,_=>rfl
 | c::b,h,s=>by
  rw [aat,P0 (h c (by simp))];exact Dn (fun d a=>h d (aam _ a)) s
theorem EA {b:LB} (h: ∀c∈b,cr c=true):cb b=true:=DG b fun c a=>by
 rcases qQ (h c a) with rfl | rfl | rfl | rfl <;> decide
theorem Bu: ∀{l:List It},gz l-> ∀u,.tok u∈l->u.2≠[]
 | _,.nil,_,h=>by cases h
 | _,.sep h,u,a=>by
  rcases aao.1 a with e | a
  .cases e
  .exact Bu h u a
 | _,.tok b _ h,u,a=>by
  rcases aao.1 a with e | a
  .cases e;exact b.ne
  .exact Bu h u a
theorem xM: ∀{l:List It} {s:LB},Jn l s->gz l->nb (tokens s)=cR l/\cb s=true
 | _,_,.nil,_=>⟨rfl,rfl⟩
 | _,_,.sep (s:=s) g a c,b=>by
  cases b with
  | sep b=>
   obtain ⟨h1,e⟩:=xM c b;exact ⟨by rw [Dn a];exact h1,by rw [xY _ _ _ (aal _) (EA a)];exact e⟩
 | _,_,.tok (t:=t) (s:=s) c,b=>by
  cases b with
  | tok d f b=>
   obtain ⟨h1,e⟩:=xM c b;refine ⟨?_,by rw [xY _ _ _ (aal _) d.valid];exact e⟩;rw [FJ d.ne (O7 d (Q3 c f (Bu b))),iS,if_neg d.k1,h1];rfl
end Go.Parse
namespace Go.Format
open Go.VM Go.Lex Go.Parse Go.Lay
def vW (s:B):It:=if s=[32] then .sep else .tok ((cut s).1,s)
mutual
def gg:Lay.Doc->List It
 | .mk k s _ kids=>if k=1 then [vW s] else if k=2\/k=4 then [.sep] else dI kids
def dI:List Lay.Doc->List It
 | []=>[]
 | d::l=>gg d++dI l
end
mutual
def qo:Lay.Doc->Bool
 | .mk k _ _ kids=>(k==1||k==2||k==4||k==5||k==6||k==7)&&jy kids
def jy:List Lay.Doc->Bool
 | []=>true
 | d::l=>qo d&&jy l
end
def J4:List jV->List It
 | []=>[]
 | t::l=>gg t.1++J4 l
def Ue:List jV->Bool
 | []=>true
 | t::l=>qo t.1&&Ue l
theorem Gx: ∀(ks:List Lay.Doc) (i:Int) (f:Bool) (l:List jV),J4 (ej ks i f++l)=dI ks++J4 l
 | [],_,_,_=>rfl
 | d::ks,i,f,l=>by
  have ih:=Gx ks i f l;simp only [ej,aan,aat,J4,dI,aar] at ih ⊢;rw [ih]
theorem G0: ∀(ks:List Lay.Doc) (i:Int) (f:Bool) (l:List jV),Ue (ej ks i f++l)=(jy ks&&Ue l)
 | [],_,_,_=>rfl
 | d::ks,i,f,l=>by
  have ih:=G0 ks i f l;simp only [ej,aan,aat,Ue,jy] at ih ⊢;rw [ih,Bool.and_assoc]
theorem NT {k:Int} (h1:k≠1) (a:¬ (k=2\/k=4)) (s:B) (m:Int) (kids:List Lay.Doc):gg (.mk k s m kids)=dI kids:=by
 rw [gg,if_neg h1,if_neg a]
theorem My (n:Nat): ∀c∈(10::List.replicate n 32:LB),cr c=true:=by
 intro c a;rcases aao.1 a with rfl | a
 .rfl
 .rw [List.eq_of_mem_replicate a];rfl
theorem Am (w:Int): ∀(n:Nat) (l:List jV) (c:Int),rO l<=n->Ue l=true->Jn (J4 l) (kW w n l c)
 | 0,[],_,_,_=> .nil
 | _+1,[],_,_,_=> .nil
 | 0,t::l,_,h,_=>by
  have:=wk t.1;simp only [rO] at h;omega
 | n+1,(.mk k s m kids,i,f)::l,c,h,hf=>by
  simp only [rO,gO] at h;simp only [Ue,qo,aak,aa0,aaX] at hf;have a: ∀(g:Int) (j:Bool) (o:Int),k≠1->¬ (k=2\/k=4)->Jn (J4 ((.mk k s m kids,i,f)::l)) (kW w n (ej kids g j++l) o):=fun g j o h1 v=>by
   have:=Am w n (ej kids g j++l) o (by rw [fJ];omega) (by rw [G0,hf.1.2,hf.2];rfl);rw [Gx] at this;rw [J4,NT h1 v];exact this
  simp only [kW];by_cases h1:k=1
  .rw [if_pos h1,J4,gg,if_pos h1];have ih:=Am w n l (c+chars s) (by omega) hf.2;unfold vW;by_cases hs:s=[32]
   .subst hs;rw [if_pos rfl];exact Jn.sep (b:=[32]) (by simp) (fun c d=>by rw [aaQ.1 d];rfl) ih
   .rw [if_neg hs];exact Jn.tok (t:=((cut s).1,s)) ih
  rw [if_neg h1];by_cases q:k=5
  .rw [if_pos q];exact a _ _ _ h1 (by omega)
  rw [if_neg q];by_cases r:k=6
  .rw [if_pos r];exact a _ _ _ h1 (by omega)
  rw [if_neg r];by_cases u:k=7
  .rw [if_pos u];exact a _ _ _ h1 (by omega)
  rw [if_neg u];have p:k=2\/k=4:=by omega
  have e:J4 ((.mk k s m kids,i,f)::l)= .sep::J4 l:=by
   rw [J4,gg,if_neg h1,if_pos p];rfl
  rw [e];by_cases d:f=true/\k≠4
  .rw [if_pos d,if_pos (by omega)];exact Jn.sep (b:=[32]) (by simp) (fun c d=>by rw [aaQ.1 d];rfl) (Am w n l (c+1) (by omega) hf.2)
  .rw [if_neg d];exact Jn.sep (b:=10::List.replicate i.toNat 32) (by simp) (My _) (Am w n l i (by omega) hf.2)
theorem hH: ∀(l m:List Lay.Doc),dI (l++m)=dI l++dI m
 | [],m=>rfl
 | d::l,m=>by simp only [aat,dI,hH l m,aar]
theorem kE: ∀(l m:List Lay.Doc),jy (l++m)=(jy l&&jy m)
 | [],m=>rfl
 | d::l,m=>by simp only [aat,jy,kE l m,Bool.and_assoc]
mutual
def wU:T->List bc
 | .mk k tk s l=>kD l++(if k=1/\tk≠1/\tk≠0 then [(tk,s)] else [])
def kD:List T->List bc
 | []=>[]
 | t::l=>wU t++kD l
end
theorem vX: ∀(l m:List T),kD (l++m)=kD l++kD m
 | [],m=>rfl
 | t::l,m=>by simp only [aat,kD,vX l m,aar]
def Q1 (t:bc):Prop:=t.1≠1->yY t
theorem cP: ∀(l m:List It),cR (l++m)=cR l++cR m
 | [],m=>rfl
 | .tok t::l,m=>by simp only [aat,cR,cP l m]
 | .sep::l,m=>by simp only [aat,cR,cP l m]
theorem eA: ∀{a b:List It},gz a->gz b->(∀t,a.getLast?=some (.tok t)->By t b)->gz (a++b)
 | _,_,.nil,c,_=>c
 | _,_,.sep (l:=l) h,c,hl=> .sep (eA h c fun t e=>hl t (by
   cases l with
   | nil=>cases e
   | cons x l=>rw [List.getLast?_cons_cons];exact e))
 | _,b,.tok (t:=t) (l:=l) hs d h,c,hl=>by
  refine .tok hs ?_ (eA h c fun u f=>hl u ?_)
  .cases l with
   | nil=>exact hl t rfl
   | cons x l=>cases x <;> exact d
  .cases l with
   | nil=>cases f
   | cons x l=>rw [List.getLast?_cons_cons];exact f
def St (l:List It):Prop:= ∃u a,l= .tok u::a/\ ∃c r,u.2=c::r/\c≠42
def U2 (l:List It):Prop:= ∃u a,l= .tok u::a/\ ∃c r,u.2=c::r/\fS c=true
def Sp (l:List It):Prop:=l=[]\/ ∃a,l= .sep::a
theorem N2 {l:List It} (h:Sp l) (t:bc):By t l:=by
 rcases h with rfl | ⟨a,rfl⟩ <;> exact trivial
theorem Il {l:List It} (h:U2 l) (t:bc):By t l:=by
 obtain ⟨u,a,rfl,h⟩:=h;exact .inl h
theorem rW {l m:List It} (h:St l):St (l++m):=by
 obtain ⟨u,a,rfl,h⟩:=h;exact ⟨u,a++m,rfl,h⟩
theorem Qe {l m:List It} (h:U2 l):U2 (l++m):=by
 obtain ⟨u,a,rfl,h⟩:=h;exact ⟨u,a++m,rfl,h⟩
structure Ok (t:T):Prop where
 chain:gz (gg (aB t))
 st:St (gg (aB t))
 fQ:cR (gg (aB t))=wU t
 fm:qo (aB t)=true
 comma:mH [lI,pK] t=false
structure Yd (t:T):Prop where
 chain:gz (gg (aB t))
 st:St (gg (aB t))
 fQ:cR (gg (aB t))=wU t
 fm:qo (aB t)=true
theorem tP {k:Nat} {s:B} (h:yY (k,s)):vW s= .tok (k,s):=by
 have a:cut s=(k,s.length):=h.cut;unfold vW;rw [if_neg,a];rintro rfl;have:cut [32]=(1,1):=rfl;rw [this] at a;injection a with h1 _
 exact h.k1 h1.symm
theorem CY {k:Nat} {s:B} (h:yY (k,s)) (b:k≠8): ∃c r,s=c::r/\c≠42:=by
 cases s with
 | nil=>exact absurd rfl h.ne
 | cons c r=>
  refine ⟨c,r,rfl, ?_⟩;rintro rfl;obtain ⟨r',a⟩:=FY r;have d:cut (42::r)=(k,(42::r).length):=h.cut;rw [jh,d] at a;rcases a with a | a
  .injection a with h1 _
   injection h1 with h1 _
   exact b h1
  .injection a with h1 _
   injection h1 with h1 _
   exact b h1
theorem O5 {s:B} (h:yY (2,s)): ∃r,s=40::r:=by
 have a:cut s=(2,s.length):=h.cut;cases s with
 | nil=>exact absurd rfl h.ne
 | cons c l=>
  simp only [cut] at a;split at a
  .cases a
  split at a
  .rename_i d;have:c=40:=by
    have:=aaU (fun l:LB=>l.getD 0 0) d;cases l <;> simpa using this
   exact ⟨l,by rw [this]⟩
  split at a
  .injection a with h1 _
   unfold um at h1;split at h1
   .cases h1
   .split at h1 <;> cases h1
  split at a
  .have h1:=aaU Prod.fst a;unfold number at h1;dsimp only at h1;split at h1
   .dsimp only at h1;split at h1 <;> cases h1
   .cases h1
  split at a
  .have h1:=aaU Prod.fst a;rcases jI l with b | b
   .dsimp only at h1;rw [b] at h1;cases h1
   .dsimp only at h1;rw [b] at h1;cases h1
  split at a
  .cases a
  split at a
  .cases a
  .cases a
theorem DX: ∀{r:List bc} (_: ∀x∈r,bC x=true/\Q1 x),let L:=dI ((fP (r.map aY)).flatMap (fun x=>[tx x,jT]));gz L/\cR L=kD (r.map aY)/\jy ((fP (r.map aY)).flatMap (fun x=>[tx x,jT]))=true/\(L=[]\/ ∃u m,L= .tok u::m/\ ∃q,u.2=40::q)/\(∀t,L.getLast?≠some (.tok t))
 | [],_=>⟨.nil,rfl,rfl,.inl rfl,fun t h=>by cases h⟩
 | x::r,h=>by
  obtain ⟨i,j,k,n,l⟩:=DX (r:=r) fun y hy=>h y (aam _ hy);obtain ⟨c,o⟩:=h x (by simp);by_cases f:x.1=2
  .have d:yY (2,x.2):=by
    have:=o (by omega);rw [<- f];exact this
   have e:(fP ((x::r).map aY))=x.2::fP (r.map aY):=by
    unfold fP;rw [aan,abE];simp [aY,leaf,mV,f]
   have p:dI ((x.2::fP (r.map aY)).flatMap (fun x=>[tx x,jT]))= .tok (2,x.2):: .sep::dI ((fP (r.map aY)).flatMap (fun x=>[tx x,jT])):=by
    rw [aa4,hH];show (gg (tx x.2)++(gg jT++[]))++ _= _;have:gg (tx x.2)=[.tok (2,x.2)]:=by
     show gg (.mk 1 x.2 0 [])= _;rw [gg,if_pos rfl,tP d]
    rw [this];rfl
   have g:kD ((x::r).map aY)=(2,x.2)::kD (r.map aY):=by
    rw [aan,kD];simp [aY,leaf,wU,kD,f]
   dsimp only;rw [e,p,g];refine ⟨.tok d trivial (.sep i),by simp only [cR,j], ?_,.inr ⟨_,_,rfl,O5 d⟩,fun t c=> ?_⟩
   .rw [aa4,kE,k];rfl
   .rw [List.getLast?_cons_cons] at c;cases hL:dI ((fP (r.map aY)).flatMap (fun x=>[tx x,jT])) with
    | nil=>rw [hL] at c;cases c
    | cons a b=>rw [hL,List.getLast?_cons_cons, <- hL] at c;exact l t c
  .have h1:x.1=1:=by
    simp only [bC,aa0,aaX] at c;omega
   have e:(fP ((x::r).map aY))=fP (r.map aY):=by
    unfold fP;rw [aan,abE];simp [aY,leaf,mV,f]
   have g:kD ((x::r).map aY)=kD (r.map aY):=by
    rw [aan,kD];simp [aY,leaf,wU,kD,h1]
   dsimp only;rw [e,g];exact ⟨i,j,k,n,l⟩
theorem tG {k:Nat} {s:B} {ks:List T} (a:Q1 (k,s)) (h1:k≠1) (h0:k≠0) (g:Tv Q1 ks) (i: ∃c r,s=c::r/\c≠42):Yd (.mk 1 k s ks)/\(gg (aB (.mk 1 k s ks))).getLast?=some (.tok (k,s))/\(∀c r,s=c::r->fS c=true->U2 (gg (aB (.mk 1 k s ks)))):=by
 obtain ⟨r,rfl,j⟩:=g;obtain ⟨l,m,n,f,o⟩:=DX j;have b:=a h1;have e:gg (aB (.mk 1 k s (r.map aY)))=dI ((fP (r.map aY)).flatMap (fun x=>[tx x,jT]))++[.tok (k,s)]:=by
  rw [aB,if_pos rfl];show dI (_++[tx s])= _;rw [hH];show _++(gg (tx s)++[])= _;have:gg (tx s)=[.tok (k,s)]:=by
   show gg (.mk 1 s 0 [])= _;rw [gg,if_pos rfl,tP b]
  rw [this];rfl
 have p:wU (.mk 1 k s (r.map aY))=kD (r.map aY)++[(k,s)]:=by
  rw [wU,if_pos ⟨rfl,h1,h0⟩]
 refine ⟨⟨?_, ?_, ?_, ?_⟩, ?_,fun c q hs v=> ?_⟩
 .rw [e];exact eA l (.tok b trivial .nil) fun t w=>absurd w (o t)
 .rw [e];rcases f with h | ⟨u,d,h,q,a⟩
  .rw [h];exact ⟨(k,s),[],rfl,i⟩
  .rw [h];exact ⟨u,d++[.tok (k,s)],rfl,40,q,a,by decide⟩
 .rw [e,p,cP,m];rfl
 .rw [aB,if_pos rfl];show qo (.mk 7 [] 0 ((fP (r.map aY)).flatMap (fun x=>[tx x,jT])++[tx s]))=true;rw [qo,kE,n];rfl
 .rw [e,List.getLast?_concat]
 .rw [e];rcases f with h | ⟨u,d,h,y,a⟩
  .rw [h];exact ⟨(k,s),[],rfl,c,q,hs,v⟩
  .rw [h];exact ⟨u,d++[.tok (k,s)],rfl,40,y,a,rfl⟩
theorem J6 {s:B} {t:T} (h:Lf Q1 s t) (hs: ∃c r,s=c::r/\c≠42):Yd t/\(∃k,(k=3\/k=8)/\yY (k,s)/\(gg (aB t)).getLast?=some (.tok (k,s)))/\(∀c r,s=c::r->fS c=true->U2 (gg (aB t)))/\([lI,pK].contains s=false->mH [lI,pK] t=false):=by
 obtain ⟨k,ks,rfl,b,a,d⟩:=h;obtain ⟨h1,e,f⟩:=tG a (by omega) (by omega) d hs;refine ⟨h1,⟨k,b,a (by show k≠1;omega),e⟩,f,fun g=> ?_⟩;simp only [mH,g,abR]
theorem KG {k:Nat} {s:B} {ks:List T} (h:Yd (.mk 1 k s ks)) (a:k≠8\/[lI,pK].contains s=false):Ok (.mk 1 k s ks):=
 ⟨h.chain,h.st,h.fQ,h.fm,by
  simp only [mH];rcases a with a | a
  .have:(k==8)=false:=aaB.2 a;rw [this];simp
  .rw [a];simp⟩
theorem PW {k:Nat} {c:UInt8} (a:cut [c]=(8,1)) (h:yY (k,[c])):k=8:=by
 have:=h.cut;dsimp only at this;rw [a] at this;injection this with h1 _
 exact h1.symm
structure OX (l:List T):Prop where
 chain:gz (dI (oc l (l.map aB)))
 st:dI (oc l (l.map aB))=[]\/St (dI (oc l (l.map aB)))
 fQ:cR (dI (oc l (l.map aB)))=kD l
 fm:jy (oc l (l.map aB))=true
structure MB (l:List T):Prop where
 chain:gz (dI (oc l (l.map aB)))
 st:dI (oc l (l.map aB))=[]\/U2 (dI (oc l (l.map aB)))
 fQ:cR (dI (oc l (l.map aB)))=kD l
 fm:jy (oc l (l.map aB))=true
theorem OH:MB []:=⟨.nil,.inl rfl,rfl,rfl⟩
theorem Kt:OX []:=⟨.nil,.inl rfl,rfl,rfl⟩
theorem XW {l:List It} (h:l=[]\/U2 l) (t:bc):By t l:=by
 rcases h with rfl | h
 .exact trivial
 .exact Il h t
theorem GZ {a:T} {l:List T} (h:mH [lI,pK] a=false):oc (a::l) ((a::l).map aB)=aB a::oc l (l.map aB):=by
 rw [aan,oc,h];rfl
theorem AZ {a:T} {l:List T} (b:Ok a) (hl:MB l):OX (a::l):=by
 have e:dI (oc (a::l) ((a::l).map aB))=gg (aB a)++dI (oc l (l.map aB)):=by rw [GZ b.comma];rfl
 refine ⟨?_, ?_, ?_, ?_⟩
 .rw [e];exact eA b.chain hl.chain fun t _=>XW hl.st t
 .rw [e];exact .inr (rW b.st)
 .rw [e,cP,b.fQ,hl.fQ];rfl
 .rw [GZ b.comma,jy,b.fm,hl.fm];rfl
theorem Kx {list:Bool} {c x:T} {l:List T} (f:Lf Q1 (xX list) c) (hx:Ok x) (hl:MB l):MB (c::x::l):=by
 have r: ∃d,xX list=[d]/\d≠42/\fS d=true/\cut [d]=(8,1)/\[lI,pK].contains [d]=true:=by
  cases list with
  | false=>exact ⟨44,rfl,by decide,rfl,rfl,rfl⟩
  | true=>exact ⟨59,rfl,by decide,rfl,rfl,rfl⟩
 obtain ⟨d,s,g,h,a,b⟩:=r;rw [s] at f;obtain ⟨h1,⟨k,w,i,j⟩,u,_⟩:=J6 f ⟨d,[],rfl,g⟩;have m:=PW a i;subst m;have n:mH [lI,pK] c=true:=by
  obtain ⟨q,ks,rfl,v,o,_⟩:=f;have:q=8:=PW a (o (by show q≠1;omega));subst this;simp only [mH,b];rfl
 have e:oc (c::x::l) ((c::x::l).map aB)=aB c::jT::oc (x::l) ((x::l).map aB):=by
  rw [aan,oc,n];rfl
 have hm:=AZ hx hl;have p:dI (oc (c::x::l) ((c::x::l).map aB))=gg (aB c)++ .sep::dI (oc (x::l) ((x::l).map aB)):=by rw [e];rfl
 refine ⟨?_, ?_, ?_, ?_⟩
 .rw [p];exact eA h1.chain (.sep hm.chain) fun t _=>trivial
 .rw [p];exact .inr (Qe (u d [] rfl h))
 .rw [p,cP,h1.fQ,cR,hm.fQ];rfl
 .rw [e,jy,jy,h1.fm,hm.fm];rfl
theorem tH {k:Nat} (N:k=14\/k=15\/k=17\/k=18) {l1 l2:Bool} {o c:T} {mid:List T} (ho:Lf Q1 (yS l1) o) (E:Lf Q1 (jJ l2) c) (hm:OX mid):Ok (node k (o::mid++[c])):=by
 have l: ∃d,yS l1=[d]/\d≠42/\cut [d]=(8,1)/\(d=40\/d=91):=by
  cases l1 with
  | false=>exact ⟨40,rfl,by decide,rfl,.inl rfl⟩
  | true=>exact ⟨91,rfl,by decide,rfl,.inr rfl⟩
 obtain ⟨d,H,g,m,n⟩:=l;rw [H] at ho;obtain ⟨o1,⟨O,I,p,b⟩,_,_⟩:=J6 ho ⟨d,[],rfl,g⟩;have s:=PW m p;subst s;have v: ∃e,jJ l2=[e]/\e≠42/\fS e=true:=by
  cases l2 with
  | false=>exact ⟨41,rfl,by decide,rfl⟩
  | true=>exact ⟨93,rfl,by decide,rfl⟩
 obtain ⟨e,he,i,w⟩:=v;rw [he] at E;obtain ⟨x,⟨kc,_,_,y⟩,J,_⟩:=J6 E ⟨e,[],rfl,i⟩;have j:=J e [] rfl w;have a:aB (node k (o::mid++[c]))=uR [aB o,Cy 1 (oc mid (mid.map aB)),aB c]:=by
  have z:k≠1:=by omega
  rw [node,aB,if_neg z,qX,eJ];rw [if_neg (by omega),if_neg (by omega),if_neg (by omega),if_neg (by omega),if_neg (by omega),if_neg (by omega),if_neg (by omega),if_neg (by omega)];have hl:(o::mid++[c]).length - 2=mid.length:=by simp
  have A:((o::mid++[c]).map aB).length=mid.length+2:=by simp
  rw [hl,A];have F:((o::mid++[c]).drop 1).take mid.length=mid:=by
   rw [aat,aaD,aaw,abL]
  have K:(((o::mid++[c]).map aB).drop 1).take (mid.length+2 - 2)=mid.map aB:=by
   rw [<- List.map_drop, <- List.map_take,show mid.length+2 - 2=mid.length by omega,F]
  have L:((o::mid++[c]).map aB).getD (mid.length+2 - 1) cG=aB c:=by
   rw [aaE,aaW];have:(o::mid++[c])[mid.length+2 - 1]? =some c:=by
    rw [show mid.length+2 - 1=mid.length+1 by omega,aat,abD,aaM (aal _),abS];rfl
   rw [this];rfl
  rw [F,K,L];rfl
 have f:gg (aB (node k (o::mid++[c])))=gg (aB o)++(dI (oc mid (mid.map aB))++gg (aB c)):=by
  rw [a];show gg (aB o)++(gg (Cy 1 (oc mid (mid.map aB)))++(gg (aB c)++[]))= _;rw [aay];rfl
 have B:gz (dI (oc mid (mid.map aB))++gg (aB c)):=eA hm.chain x.chain fun t _=>Il j t;have C: ∀t,t=((8,[d]):bc)->By t (dI (oc mid (mid.map aB))++gg (aB c)):=by
  rintro t rfl;rcases hm.st with h | ⟨u,P,h,q,r,M,D⟩
  .rw [h];exact Il j _
  .rw [h];refine .inr ⟨?_,q,r,M,D⟩;rcases n with rfl | rfl
   .exact .inl rfl
   .exact .inr rfl
 refine ⟨?_, ?_, ?_, ?_, ?_⟩
 .rw [f];refine eA o1.chain B fun t G=>C t ?_;rw [b] at G;cases G;rfl
 .rw [f];exact rW o1.st
 .rw [f,cP,cP,o1.fQ,hm.fQ,x.fQ];rw [node,wU,if_neg (by omega),aay,aat,kD,vX,kD,kD,aay]
 .rw [a];show qo (.mk 6 [] 0 [aB o,.mk 5 [] 1 (oc mid (mid.map aB)),aB c])=true;simp only [qo,jy,o1.fm,hm.fm,x.fm];rfl
 .rw [node,mH];have:(k==1)=false:=aaB.2 (by omega);rw [this];rfl
theorem Ql {k:Nat} (h:k≠1) (a:List B) (l:List T):mH a (node k l)=false:=by
 rw [node,mH];have:(k==1)=false:=aaB.2 h;rw [this];rfl
theorem Hf {ahead:List Lay.Doc} (b: ∀a∈ahead,gg a=[.sep]/\qo a=true): ∀(ts:List T) (i:Nat),(∀t∈ts,gz (gg (aB t))/\cR (gg (aB t))=wU t/\qo (aB t)=true)->
  gz (dI (bU ahead i (ts.map aB)))/\cR (dI (bU ahead i (ts.map aB)))=kD ts/\jy (bU ahead i (ts.map aB))=true/\(i≠0->Sp (dI (bU ahead i (ts.map aB))))
 | [],i,_=>⟨.nil,rfl,rfl,fun _=> .inl rfl⟩
 | t::ts,i,h=>by
  obtain ⟨h1,d,e⟩:=h t (by simp);obtain ⟨l,f,g,m⟩:=Hf b ts (i+1) fun x hx=>h x (aam _ hx);have c: ∀j,gg (ahead.getD j cG)=[.sep]/\qo (ahead.getD j cG)=true:=fun j=>by
   rw [aaE];cases n:ahead[j]? with
   | none=>exact ⟨rfl,rfl⟩
   | some a=>exact b a (aaK n)
  have k:=eA h1 l fun u _=>N2 (m (by omega)) u;rw [aan,bU];by_cases hi:i=0
  .rw [if_pos hi,aaq,dI,jy];exact ⟨k,by rw [cP,d,f];rfl,by rw [e,g];rfl,fun h=>absurd hi h⟩
  .rw [if_neg hi];obtain ⟨o,p⟩:=c (min (i - 1) (ahead.length - 1));rw [aat,aaq,dI,dI,o,jy,jy,p];refine ⟨.sep k, ?_,by rw [e,g];rfl,fun _=> .inr ⟨_,rfl⟩⟩;show cR (.sep::(gg (aB t)++dI (bU ahead (i+1) (ts.map aB))))= _;rw [cR,cP,d,f];rfl
theorem wo {ahead:List Lay.Doc} {t:T} {ts:List T} (h:St (gg (aB t))):St (dI (bU ahead 0 ((t::ts).map aB))):=by
 rw [aan,bU,if_pos rfl,aaq,dI];exact rW h
structure FV (t:T):Prop where
 chain:gz (gg (aB t))
 fQ:cR (gg (aB t))=wU t
 fm:qo (aB t)=true
theorem Ok.cG {t:T} (h:Ok t):FV t:=⟨h.chain,h.fQ,h.fm⟩
theorem Yd.cG {t:T} (h:Yd t):FV t:=⟨h.chain,h.fQ,h.fm⟩
theorem yf:gg cG=[.sep]/\qo cG=true:=⟨rfl,rfl⟩
theorem sa:gg jT=[.sep]/\qo jT=true:=⟨rfl,rfl⟩
theorem wE {k:Nat} (h:k≠1) (l:List T):wU (node k l)=kD l:=by
 rw [node,wU,if_neg (fun e=>h e.1),aay]
theorem qf: ∀a∈[cG],gg a=[.sep]/\qo a=true:=fun a h=>by rw [aaQ.1 h];exact yf
theorem ia (l:List T) (i:Nat) (t:T) (h:l[i]? =some t):(l.map aB).getD i cG=aB t:=by
 rw [aaE,aaW,h];rfl
theorem tK {ahead:List Lay.Doc} (b: ∀a∈ahead,gg a=[.sep]/\qo a=true) {ts:List T} (i:Nat) (h: ∀t∈ts,FV t):
  gz (dI (bU ahead i (ts.map aB)))/\cR (dI (bU ahead i (ts.map aB)))=kD ts/\jy (bU ahead i (ts.map aB))=true/\(i≠0->Sp (dI (bU ahead i (ts.map aB)))):=
 Hf b ts i fun t c=>⟨(h t c).chain,(h t c).fQ,(h t c).fm⟩
theorem G9 (L:List T) (x:T):mW ((L++[x]).map aB)=bU [cG] 0 (L.map aB)++[Cy 2 [jT,aB x]]:=by
 unfold mW;have hl:((L++[x]).map aB).length - 1=L.length:=by simp
 rw [hl, <- List.map_take,abL];rw [ia (L++[x]) L.length x (by rw [aaM (aal _),abS];rfl)]
structure Bk (D:List Lay.Doc) (ts:List T):Prop where
 chain:gz (dI D)
 st:St (dI D)
 fQ:cR (dI D)=kD ts
 fm:jy D=true
theorem EU {a:T} {L:List T} {x:T} (b:St (gg (aB a))) (h: ∀t∈a::L,FV t) (hx:FV x):Bk (mW ((a::L++[x]).map aB)) (a::L++[x]):=by
 obtain ⟨h1,c,d,_⟩:=tK qf 0 h;have e:dI (mW ((a::L++[x]).map aB))=dI (bU [cG] 0 ((a::L).map aB))++ .sep::gg (aB x):=by
  rw [G9,hH];congr 1;show gg (Cy 2 [jT,aB x])++[]= _;rw [aay];show gg jT++(gg (aB x)++[])= _;rw [aay];rfl
 refine ⟨?_, ?_, ?_, ?_⟩
 .rw [e];exact eA h1 (.sep hx.chain) fun t _=>trivial
 .rw [e];exact rW (wo b)
 .rw [e,cP,c,cR,hx.fQ,vX];simp only [kD,aay]
 .rw [G9,kE,d];show (true&&(qo (.mk 5 [] 2 [jT,aB x])&&true))=true;simp only [qo,jy,hx.fm,sa.2];rfl
theorem KR {k:Nat} (a:k≠1) {l:List T} (b:gz (gg (aB (node k l)))) (hs:St (gg (aB (node k l)))) (c:cR (gg (aB (node k l)))=kD l) (hf:qo (aB (node k l))=true):Ok (node k l):=
 ⟨b,hs,by rw [c,wE a],hf,Ql a _ _⟩
theorem V6 (D:List Lay.Doc):gg (row D)=dI D:=rfl
theorem TA (D:List Lay.Doc):qo (uR D)=jy D:=by
 show qo (.mk 6 [] 0 D)= _;rw [qo];rfl
theorem OL (D:List Lay.Doc):qo (row D)=jy D:=by
 show qo (.mk 7 [] 0 D)= _;rw [qo];rfl
theorem uT {k:Nat} (b:k≠1) {l:List T} {D:List Lay.Doc} (he:aB (node k l)=uR D\/aB (node k l)=row D) (a:Bk D l):Ok (node k l):=by
 rcases he with he | he
 .exact KR b (by rw [he];exact a.chain) (by rw [he];exact a.st) (by rw [he];exact a.fQ) (by rw [he,TA];exact a.fm)
 .exact KR b (by rw [he];exact a.chain) (by rw [he];exact a.st) (by rw [he];exact a.fQ) (by rw [he,OL];exact a.fm)
theorem fR {k:Nat} (a:k≠1) (l:List T):aB (node k l)=eJ k l (l.map aB):=by rw [node,aB,if_neg a,qX]
theorem KE: ∀(p:T) (ts:List T),(∀t∈ts,FV t)->gz (dI (gN p ts (ts.map aB)))/\cR (dI (gN p ts (ts.map aB)))=kD ts/\jy (gN p ts (ts.map aB))=true/\Sp (dI (gN p ts (ts.map aB)))
 | _,[],_=>⟨.nil,rfl,rfl,.inl rfl⟩
 | p,t::ts,h=>by
  obtain ⟨b,c,d,e⟩:=KE t ts fun x hx=>h x (aam _ hx);have a:=h t (by simp);have hs:gg (if mH [iF] p=true then cG else jT)=[.sep]/\qo (if mH [iF] p=true then cG else jT)=true:=by
   split
   .exact yf
   .exact sa
  rw [aan,gN,dI,dI,hs.1,jy,jy,hs.2,a.fm,d];refine ⟨gz.sep (l:=gg (aB t)++dI (gN t ts (ts.map aB))) (eA a.chain b fun u _=>N2 e u), ?_,rfl,.inr ⟨_,rfl⟩⟩;show cR (.sep::(gg (aB t)++dI (gN t ts (ts.map aB))))= _;rw [cR,cP,a.fQ,c];rfl
theorem xI {x:T} {k tk:Nat} {s:B} {l:List T} (h:x∈l):SizeOf.sizeOf x < SizeOf.sizeOf (T.mk k tk s l):=by
 have:=List.sizeOf_lt_of_mem h;simp only [T.mk.sizeOf_spec];omega
theorem WD {s:B} (hs: ∃c r,s=c::r/\c≠42) {t:T} (h:Lf Q1 s t):FV t/\St (gg (aB t)):=by
 obtain ⟨h1,_⟩:=J6 h hs;exact ⟨h1.cG,h1.st⟩
theorem mN {s:B} {t:T} (h:Lf Q1 s t):FV t:=by
 obtain ⟨k,ks,rfl,l,b,r,rfl,c⟩:=h;obtain ⟨d,f,g,m,i⟩:=DX c;have a:=b (by show k≠1;omega);have e:gg (aB (.mk 1 k s (r.map aY)))=dI ((fP (r.map aY)).flatMap (fun x=>[tx x,jT]))++[.tok (k,s)]:=by
  rw [aB,if_pos rfl];show dI (_++[tx s])= _;rw [hH];show _++(gg (tx s)++[])= _;have:gg (tx s)=[.tok (k,s)]:=by
   show gg (.mk 1 s 0 [])= _;rw [gg,if_pos rfl,tP a]
  rw [this];rfl
 refine ⟨?_, ?_, ?_⟩
 .rw [e];exact eA d (.tok a trivial .nil) fun t j=>absurd j (i t)
 .rw [e,cP,f,wU,if_pos ⟨rfl,by omega,by omega⟩];rfl
 .rw [aB,if_pos rfl];show qo (.mk 7 [] 0 ((fP (r.map aY)).flatMap (fun x=>[tx x,jT])++[tx s]))=true;rw [qo,kE,g];rfl
theorem D5 {k:Nat} (c:k≠1) {ahead:List Lay.Doc} (b: ∀a∈ahead,gg a=[.sep]/\qo a=true) {a:T} {ts:List T} (d:St (gg (aB a))) (h: ∀t∈a::ts,FV t) (he:aB (node k (a::ts))=uR (bU ahead 0 ((a::ts).map aB))\/aB (node k (a::ts))=row (bU ahead 0 ((a::ts).map aB))):Ok (node k (a::ts)):=by
 obtain ⟨h1,e,f,_⟩:=tK b 0 h;exact uT c he ⟨h1,wo d,e,f⟩
theorem Tq {a:T} {bs:List T} (h:Lf Q1 ub a) (i:BT Q1 bs) (g: ∀x∈bs,PT Q1 x->Ok x) (hE: ∀x∈bs,ET Q1 x->Ok x): ∃L x,a::bs=a::L++[x]/\(∀t∈a::L,FV t)/\FV x/\St (gg (aB a)):=by
 obtain ⟨c,has⟩:=WD ⟨108,[101,116],rfl,by decide⟩ h;cases i with
 | mk d hp f j he=>
  rename_i rc ps p q e;refine ⟨rc++(p::ps)++[q],e,by simp,fun t b=> ?_,(hE e (by simp) he).cG,has⟩;simp only [aao,aaC,aaQ,aaF,or_false] at b;rcases b with rfl | (b | rfl | b) | rfl
  .exact c
  .rcases d with rfl | ⟨r,d,rfl⟩
   .cases b
   .rw [aaQ.1 b];exact mN d
  .exact (g t (by simp) hp).cG
  .exact (g t (by simp [b]) (f t b)).cG
  .exact mN j
theorem _root_.List.qm {α:Type} {P:List α->Prop} (nil:P []) (one: ∀a,P [a]) (two: ∀a b l,P l->P (a::b::l)): ∀l,P l
 | []=>nil
 | [a]=>one a
 | a::b::l=>two a b l (List.qm nil one two l)
theorem Fb: ∀n,(∀t,SizeOf.sizeOf t < n->ET Q1 t->Ok t)/\(∀t,SizeOf.sizeOf t < n->PT Q1 t->Ok t)/\(∀t,SizeOf.sizeOf t < n->AT Q1 t->FV t):=by
 intro n
 induction n with
 | zero=>exact ⟨fun _ h=>by omega,fun _ h=>by omega,fun _ h=>by omega⟩
 | succ n ih=>
  obtain ⟨j,A,P⟩:=ih;have X: ∀(l:List T) (list:Bool),S7 Q1 list l->(∀x∈l,SizeOf.sizeOf x < n)->MB l:=by
   intro l
   induction l using List.qm with
   | nil=>intro list _ _;exact OH
   | one a=>intro list h _;cases h
   | two a b l D=>
    intro list h hs;cases h with
    | cons C hx hl=>exact Kx C (j b (hs b (by simp)) hx) (D list hl fun x hx=>hs x (by simp [hx]))
  have Y: ∀(l:List T) (list:Bool),SN Q1 list l->(∀x∈l,SizeOf.sizeOf x < n)->MB l:=by
   intro l
   induction l using List.qm with
   | nil=>intro list _ _;exact OH
   | one a=>intro list h _;cases h
   | two a b l D=>
    intro list h hs;cases h with
    | cons C hx hl=>exact Kx C (A b (hs b (by simp)) hx) (D list hl fun x hx=>hs x (by simp [hx]))
  have Z: ∀(l:List T),S4 Q1 l->(∀x∈l,SizeOf.sizeOf x < n)-> ∀x∈l,FV x:=by
   intro l
   induction l using List.qm with
   | nil=>intro _ _ x hx;cases hx
   | one a=>intro h _;cases h
   | two a b l D=>
    intro h hs x hx;cases h with
    | cons C v hl=>
     rcases aao.1 hx with rfl | hx
     .exact mN C
     .rcases aao.1 hx with rfl | hx
      .exact P x (hs x (by simp)) v
      .exact D hl (fun y hy=>hs y (by simp [hy])) x hx
  refine ⟨fun t I h=> ?_,fun t I h=> ?_,fun t I h=> ?_⟩
  .have q: ∀{k tk:Nat} {s:B} {l:List T},t=T.mk k tk s l-> ∀x∈l,SizeOf.sizeOf x < n:=fun {k tk s l} e x hx=>by
    subst e;have:=xI (k:=k) (tk:=tk) (s:=s) hx;omega
   cases h with
   | leaf Q d hv=>
    rename_i k s ks;have R:k=8->s=rF\/s=mS:=fun h=>by
     rcases d with G | G | G | G | ⟨_,G⟩
     .omega
     .omega
     .omega
     .omega
     .exact G
    have J:=Q (by show k≠1;omega);have hh: ∃c r,s=c::r/\c≠42:=by
     by_cases h:k=8
     .rcases R h with rfl | rfl
      .exact ⟨116,[114,117,101],rfl,by decide⟩
      .exact ⟨102,[97,108,115,101],rfl,by decide⟩
     .exact CY J h
    refine KG (tG Q (by omega) (by omega) hv hh).1 ?_;by_cases h:k=8
    .right;rcases R h with rfl | rfl <;> decide
    .exact .inl h
   | letin v E hi he=>
    rename_i a i e bs;have d:=q rfl;obtain ⟨L,x,hL,h1,h2,h3⟩:=Tq v E (fun x hx hp=>A x (d x (by simp [hx])) hp) (fun x hx hp=>j x (d x (by simp [hx])) hp);have ar:bs=L++[x]:=by injection hL
    subst ar;have K:=(j e (d e (by simp)) he).cG;have F:=mN hi;have H:=EU h3 h1 h2;have g:aB (node 6 (a::(L++[x])++[i]++[e]))=uR (mW ((a::L++[x]).map aB)++[jT,aB i,jT,aB e]):=by
     rw [fR (by decide),eJ,if_neg (by decide),if_pos rfl];have hl:((a::(L++[x])++[i]++[e]).map aB).length=(a::L++[x]).length+2:=by simp
     rw [hl,show (a::L++[x]).length+2 - 2=(a::L++[x]).length by omega,show (a::L++[x]).length+2 - 1=(a::L++[x]).length+1 by omega, <- List.map_take];have e0:a::(L++[x])++[i]++[e]=(a::L++[x])++[i,e]:=by simp
     rw [e0,abL,ia _ _ i (by rw [aaM (aal _),abS];rfl),ia _ _ e (by rw [aaM (by omega),Nat.add_sub_cancel_left];rfl)]
    refine uT (by decide) (.inl g) ⟨?_, ?_, ?_, ?_⟩
    .rw [hH];refine eA H.chain (.sep ?_) fun t _=>trivial;show gz (gg (aB i)++(.sep::(gg (aB e)++[])));rw [aay];exact eA F.chain (.sep K.chain) fun t _=>trivial
    .rw [hH];exact rW H.st
    .rw [hH,cP,H.fQ];show _++cR (.sep::(gg (aB i)++(.sep::(gg (aB e)++[]))))= _;rw [aay,cR,cP,F.fQ,cR,K.fQ];have e0:a::(L++[x])++[i]++[e]=(a::L++[x])++[i,e]:=by simp
     rw [e0,vX (a::L++[x])];simp only [kD,aay]
    .rw [kE,H.fm];simp only [jy,sa.2,F.fm,K.fm];rfl
   | lambda hf hp av v he=>
    rename_i f p a e ps;have d:=q rfl;obtain ⟨aw,a6⟩:=WD ⟨102,[117,110],rfl,by decide⟩ hf;have g:aB (node 7 (f::p::ps++[a]++[e]))=uR (mW ((f::(p::ps++[a])++[e]).map aB)):=by
     rw [fR (by decide),eJ,if_pos (.inr rfl)];rfl
    refine uT (l:=f::p::ps++[a]++[e]) (by decide) (.inl g) (EU a6 (fun t I=> ?_) (j e (d e (by simp)) he).cG);simp only [aao,aat,aaC,aaQ,aaF,or_false] at I;rcases I with rfl | rfl | I | rfl
    .exact aw
    .exact (A t (d t (by simp)) hp).cG
    .exact (A t (d t (by simp [I])) (av t I)).cG
    .exact mN v
   | ife hi v a7 E hl C=>
    rename_i i a t b l c;have d:=q rfl;obtain ⟨F,a8⟩:=WD ⟨105,[102],rfl,by decide⟩ hi;refine D5 (by decide) (ahead:=[cG,jT,cG,jT,cG]) (fun x hx=> ?_) a8 (fun x hx=> ?_) (.inl (by rw [fR (by decide),eJ,if_neg (by decide),if_neg (by decide),if_pos rfl]))
    .simp only [aao,aaF,or_false] at hx;rcases hx with rfl | rfl | rfl | rfl | rfl
     .exact yf
     .exact sa
     .exact yf
     .exact sa
     .exact yf
    .simp only [aao,aaF,or_false] at hx;rcases hx with rfl | rfl | rfl | rfl | rfl | rfl
     .exact F
     .exact (j x (d x (by simp)) v).cG
     .exact mN a7
     .exact (j x (d x (by simp)) E).cG
     .exact mN hl
     .exact (j x (d x (by simp)) C).cG
   | mtch hm he hw S v has=>
    rename_i m e w a bar as;have d:=q rfl;obtain ⟨bb,bt⟩:=WD ⟨109,[97,116,99,104],rfl,by decide⟩ hm;have b5:=P a (d a (by simp)) v;have U:=Z as has fun x hx=>d x (by simp [hx]);have h3: ∀t∈[m,e,w],FV t:=fun x hx=>by
     simp only [aao,aaF,or_false] at hx;rcases hx with rfl | rfl | rfl
     .exact bb
     .exact (j x (d x (by simp)) he).cG
     .exact mN hw
    have M: ∀t∈bar++a::as,FV t:=fun x hx=>by
     rcases aaC.1 hx with hx | hx
     .rcases S with rfl | ⟨b,E,rfl⟩
      .cases hx
      .rw [aaQ.1 hx];exact mN E
     .rcases aao.1 hx with rfl | hx
      .exact b5
      .exact U x hx
    obtain ⟨a1,a2,a3,_⟩:=tK qf 0 h3;obtain ⟨b1,b2,b3,b4⟩:=KE w (bar++a::as) M;have g:aB (node 9 (m::e::w::bar++a::as))=uR (bU [cG] 0 ([m,e,w].map aB)++gN w (bar++a::as) ((bar++a::as).map aB)):=by
     rw [fR (by decide),eJ,if_neg (by decide),if_neg (by decide),if_neg (by decide),if_pos rfl];rfl
    refine uT (by decide) (.inl g) ⟨?_, ?_, ?_, ?_⟩
    .rw [hH];exact eA a1 b1 fun u _=>N2 b4 u
    .rw [hH];exact rW (wo bt)
    .rw [hH,cP,a2,b2, <- vX];rfl
    .rw [kE,a3,b3];rfl
   | bin v ho E=>
    rename_i a op b s;have d:=q rfl;have z:=j a (d a (by simp)) v;refine D5 (by decide) (ahead:=[jT,cG]) (fun x hx=> ?_) z.st (fun x hx=> ?_) (.inl (by rw [fR (by decide),eJ,if_neg (by decide),if_neg (by decide),if_neg (by decide),if_neg (by decide),if_neg (by decide),if_pos rfl]))
    .simp only [aao,aaF,or_false] at hx;rcases hx with rfl | rfl
     .exact sa
     .exact yf
    .simp only [aao,aaF,or_false] at hx;rcases hx with rfl | rfl | rfl
     .exact z.cG
     .exact mN ho
     .exact (j x (d x (by simp)) E).cG
   | un ho v=>
    rename_i op a;have d:=q rfl;have V:FV op/\St (gg (aB op)):=by
     rcases ho with ho | ho
     .exact WD ⟨45,[],rfl,by decide⟩ ho
     .exact WD ⟨45,[46],rfl,by decide⟩ ho
    refine D5 (by decide) qf V.2 (fun x hx=> ?_) (.inr (by rw [fR (by decide),eJ,if_neg (by decide),if_neg (by decide),if_neg (by decide),if_neg (by decide),if_neg (by decide),if_neg (by decide),if_pos (.inl rfl)]));simp only [aao,aaF,or_false] at hx;rcases hx with rfl | rfl
    .exact V.1
    .exact (j x (d x (by simp)) v).cG
   | app v E=>
    rename_i a b;have d:=q rfl;have z:=j a (d a (by simp)) v;have N:=(j b (d b (by simp)) E).cG;have g:aB (node 13 [a,b])=uR [aB a,Cy 2 [jT,aB b]]:=by
     rw [fR (by decide),eJ,if_neg (by decide),if_neg (by decide),if_neg (by decide),if_neg (by decide),if_neg (by decide),if_neg (by decide),if_neg (by decide),if_pos rfl];rfl
    have e:dI [aB a,Cy 2 [jT,aB b]]=gg (aB a)++ .sep::gg (aB b):=by
     show gg (aB a)++((gg jT++(gg (aB b)++[]))++[])= _;simp only [aay];rfl
    refine uT (by decide) (.inl g) ⟨?_, ?_, ?_, ?_⟩
    .rw [e];exact eA z.chain (.sep N.chain) fun t _=>trivial
    .rw [e];exact rW z.st
    .rw [e,cP,z.fQ,cR,N.fQ];simp only [kD,aay]
    .show (qo (aB a)&&(qo (.mk 5 [] 2 [jT,aB b])&&true))=true;simp only [qo,jy,z.fm,N.fm,sa.2];rfl
   | none ho C=>
    rename_i list o c;have:=tH (k:=kindOf list false) (mid:=[]) (by cases list <;> simp [kindOf]) ho C Kt;exact this
   | some ho v hl C=>
    rename_i list o c a l;have d:=q rfl;exact tH (k:=kindOf list false) (mid:=a::l) (by cases list <;> simp [kindOf]) ho C (AZ (j a (d a (by simp)) v) (X l list hl fun x hx=>d x (by simp [hx])))
  .have q: ∀{k tk:Nat} {s:B} {l:List T},t=T.mk k tk s l-> ∀x∈l,SizeOf.sizeOf x < n:=fun {k tk s l} e x hx=>by
    subst e;have:=xI (k:=k) (tk:=tk) (s:=s) hx;omega
   cases h with
   | leaf Q d hv=>
    rename_i k s ks;have R:k=8->s=rF\/s=mS\/s=Ht:=fun h=>by
     rcases d with G | G | G | ⟨_,G⟩
     .omega
     .omega
     .omega
     .exact G
    have J:=Q (by show k≠1;omega);have hh: ∃c r,s=c::r/\c≠42:=by
     by_cases h:k=8
     .rcases R h with rfl | rfl | rfl
      .exact ⟨116,[114,117,101],rfl,by decide⟩
      .exact ⟨102,[97,108,115,101],rfl,by decide⟩
      .exact ⟨95,[],rfl,by decide⟩
     .exact CY J h
    refine KG (tG Q (by omega) (by omega) hv hh).1 ?_;by_cases h:k=8
    .right;rcases R h with rfl | rfl | rfl <;> decide
    .exact .inl h
   | cons v ho E=>
    rename_i a op b;have d:=q rfl;have z:=A a (d a (by simp)) v;refine D5 (by decide) qf z.st (fun x hx=> ?_) (.inr (by rw [fR (by decide),eJ,if_neg (by decide),if_neg (by decide),if_neg (by decide),if_neg (by decide),if_neg (by decide),if_neg (by decide),if_pos (.inr rfl)]));simp only [aao,aaF,or_false] at hx;rcases hx with rfl | rfl | rfl
    .exact z.cG
    .exact mN ho
    .exact (A x (d x (by simp)) E).cG
   | none ho C=>
    rename_i list o c;exact tH (k:=kindOf list true) (mid:=[]) (by cases list <;> simp [kindOf]) ho C Kt
   | some ho v hl C=>
    rename_i list o c a l;have d:=q rfl;exact tH (k:=kindOf list true) (mid:=a::l) (by cases list <;> simp [kindOf]) ho C (AZ (A a (d a (by simp)) v) (Y l list hl fun x hx=>d x (by simp [hx])))
  .have q: ∀{k tk:Nat} {s:B} {l:List T},t=T.mk k tk s l-> ∀x∈l,SizeOf.sizeOf x < n:=fun {k tk s l} e x hx=>by
    subst e;have:=xI (k:=k) (tk:=tk) (s:=s) hx;omega
   cases h with
   | mk hp v he=>
    rename_i p a e;have d:=q rfl;have W:=A p (d p (by simp)) hp;have O:=(j e (d e (by simp)) he).cG;obtain ⟨a1,a2,a3,_⟩:=tK qf 0 (ts:=[p,a]) fun x hx=>by
     simp only [aao,aaF,or_false] at hx;rcases hx with rfl | rfl
     .exact W.cG
     .exact mN v
    have g:aB (node 10 [p,a,e])=uR (bU [cG] 0 ([p,a].map aB)++[Cy 4 [jT,aB e]]):=by
     rw [fR (by decide),eJ,if_neg (by decide),if_neg (by decide),if_neg (by decide),if_neg (by decide),if_pos rfl];rfl
    have e1:dI (bU [cG] 0 ([p,a].map aB)++[Cy 4 [jT,aB e]])=dI (bU [cG] 0 ([p,a].map aB))++ .sep::gg (aB e):=by
     rw [hH];congr 1;show (gg jT++(gg (aB e)++[]))++[]= _;simp only [aay];rfl
    refine (uT (by decide) (.inl g) ⟨?_, ?_, ?_, ?_⟩).cG
    .rw [e1];exact eA a1 (.sep O.chain) fun t _=>trivial
    .rw [e1];exact rW (wo W.st)
    .rw [e1,cP,a2,cR,O.fQ];simp only [kD,aay,aar]
    .rw [kE,a3];show (true&&(qo (.mk 5 [] 4 [jT,aB e])&&true))=true;simp only [qo,jy,O.fm,sa.2];rfl
def gB (t:bc):List bc:=if t.1=1\/t.1=0 then [] else [t]
theorem QO:zc wU kD (fun r=>r.flatMap gB) where
 nil:=rfl
 cons t l:=rfl
 node:=fun {k} a l=>wE a l
 miss s:=by simp [missing,wU,kD]
 take r:=by
  refine CS (F1:=wU) (F:=kD) (g:=gB) rfl (fun t l=>rfl) (fun t b=> ?_) (fun t ks b=> ?_) (fun ks=> ?_) r
  .simp only [aY,leaf,wU,kD,aaq,abM,gB];by_cases h:t.1=1\/t.1=0
   .rw [if_pos h,if_neg (by omega)]
   .rw [if_neg h,if_pos (by omega)]
  .simp only [leaf,wU,abM,gB];congr 1;by_cases h:t.1=1\/t.1=0
   .rw [if_pos h,if_neg (by omega)]
   .rw [if_neg h,if_pos (by omega)]
  .simp [leaf,wU]
theorem S5: ∀{r:List bc},RB r->r.flatMap gB=nb r
 | [],_=>rfl
 | t::r,h=>by
  have h0:=h t (by simp);rw [aa4,iS,S5 fun u a=>h u (aam _ a),gB];by_cases h1:t.1=1
  .rw [if_pos (.inl h1),if_pos h1];rfl
  .rw [if_neg (by omega),if_neg h1];rfl
theorem OU (s:B) {l:List T} (h:doc (tokens s)=node 4 l):kD l=nb (tokens s):=by
 have:=JJ QO rfl (tokens s) (gL s);rw [h,wE (by decide),S5 (gL s)] at this;exact this
theorem Ag: ∀(n:Nat) (s:B),s.length<=n->cb s=true->(∀t∈tokens s,t.1≠9)->rJ Q1 (tokens s)
 | _,[],_,_,_=>fun t h=>by cases h
 | 0,c::l,h,_,_=>by simp at h
 | n+1,c::l,h,f,b=>by
  have d:=jh (c:=c) (l:=l);have g:=(wa (s:=c::l) (by simp) f).1;have k:=pd (s:=c::l) (by simp);have a:=LL (s:=c::l) (by simp) f;have i:=NX (s:=c::l) (by simp) g;rw [d] at b ⊢;intro t hm;rcases aao.1 hm with rfl | hm
  .intro h1;have hlen:((c::l).take (cut (c::l)).2).length=(cut (c::l)).2:=by rw [aau];omega
   refine ⟨fun e=> ?_, ?_,h1,b _ aag,a.1⟩
   .have:=aaU List.length e;dsimp only at this;rw [hlen] at this;simp at this;omega
   .dsimp only;rw [i,hlen]
  .refine Ag n _ ?_ a.2 (fun u j=>b u (aam _ j)) t hm;rw [aaz];simp only [aae] at h ⊢;omega
theorem NF {a:T} {bs:List T} (c:Lf Q1 ub a) (d:BT Q1 bs):FV (node 5 (a::bs)):=by
 obtain ⟨L,x,hL,h1,e,f⟩:=Tq c d (fun x _ hp=>(Fb _).2.1 x (aa3 _) hp) (fun x _ hp=>(Fb _).1 x (aa3 _) hp);rw [hL];have b:=EU f h1 e;exact (uT (by decide) (.inl (by rw [fR (by decide),eJ,if_pos (.inl rfl)])) b).cG
theorem B0: ∀(D:List Lay.Doc) (i:Nat),(∀d∈D,gz (gg d)/\qo d=true)->gz (dI (cT i D))/\cR (dI (cT i D))=D.flatMap (fun d=>cR (gg d))/\jy (cT i D)=true
 | [],_,_=>⟨.nil,rfl,rfl⟩
 | d::D,i,h=>by
  obtain ⟨h1,b⟩:=h d (by simp);obtain ⟨c,f,g⟩:=B0 D (i+1) fun x hx=>h x (aam _ hx);have e:dI (cT i (d::D))=(if i=0 then [] else [.sep])++(gg d++ .sep::dI (cT (i+1) D)):=by
   rw [cT,hH];congr 1;split <;> rfl
  have a:gz (gg d++ .sep::dI (cT (i+1) D)):=eA h1 (.sep c) fun t _=>trivial;rw [e];refine ⟨?_, ?_, ?_⟩
  .split
   .exact a
   .exact .sep a
  .rw [cP,cP,cR,f,aa4];split <;> rfl
  .rw [cT,kE];have:jy (if i=0 then [] else [Oh])=true:=by split <;> rfl
   rw [this];show (true&&(qo d&&(qo Oh&&jy (cT (i+1) D))))=true;rw [b,g];rfl
theorem zM: ∀(l:List T),DT Q1 l->(∀d∈eP l,gz (gg d)/\qo d=true)/\(eP l).flatMap (fun d=>cR (gg d))=kD l
 | _,.last (ks:=ks) q=>by
  obtain ⟨r,rfl,n⟩:=q;have e:eP [.mk 1 0 [] (r.map aY)]=(fP (r.map aY)).map tx:=rfl;rw [e];have o:kD [.mk 1 0 [] (r.map aY)]=kD (r.map aY):=by
   simp [kD,wU]
  rw [o];clear e o
  induction r with
  | nil=>exact ⟨(fun d h=>by cases h),rfl⟩
  | cons x r ih=>
   obtain ⟨g,i⟩:=ih fun y hy=>n y (aam _ hy);obtain ⟨s,t⟩:=n x (by simp);by_cases j:x.1=2
   .have f:yY (2,x.2):=by
     have:=t (by omega);rw [<- j];exact this
    have e:(fP ((x::r).map aY))=x.2::fP (r.map aY):=by
     unfold fP;rw [aan,abE];simp [aY,leaf,mV,j]
    have k:kD ((x::r).map aY)=(2,x.2)::kD (r.map aY):=by
     rw [aan,kD];simp [aY,leaf,wU,kD,j]
    have p:gg (tx x.2)=[.tok (2,x.2)]:=by
     show gg (.mk 1 x.2 0 [])= _;rw [gg,if_pos rfl,tP f]
    rw [e,k,aan,aa4,i,p];refine ⟨fun d b=> ?_,rfl⟩;rcases aao.1 b with rfl | b
    .rw [p];exact ⟨.tok f trivial .nil,rfl⟩
    .exact g d b
   .have h1:x.1=1:=by
     simp only [bC,aa0,aaX] at s;omega
    have e:(fP ((x::r).map aY))=fP (r.map aY):=by
     unfold fP;rw [aan,abE];simp [aY,leaf,mV,j]
    have k:kD ((x::r).map aY)=kD (r.map aY):=by
     rw [aan,kD];simp [aY,leaf,wU,kD,h1]
    rw [e,k];exact ⟨g,i⟩
 | _,.cons (a:=a) (bs:=bs) (l:=l) u v hl=>by
  obtain ⟨g,i⟩:=zM l hl;have b:=NF u v;have m:l≠[]:=by
   cases hl <;> simp
  have e:eP (node 5 (a::bs)::l)=aB (node 5 (a::bs))::eP l:=by
   unfold eP;cases l with
   | nil=>exact absurd rfl m
   | cons x l=>
    have w:(node 5 (a::bs)::x::l).length - 1=((x::l).length - 1)+1:=by simp
    rw [w,abT,uG];rfl
  rw [e];refine ⟨fun d c=> ?_, ?_⟩
  .rcases aao.1 c with rfl | c
   .exact ⟨b.chain,b.fm⟩
   .exact g d c
  .rw [aa4,i,b.fQ];rfl
theorem Gm {s:B} (f:cb s=true) (a:dS (doc (tokens s))=true) (w:Int):
  let D:=row (cT 0 (eP (doc (tokens s)).kids))
  nb (tokens (kW w (gO D) [(D,0,false)] 0))=nb (tokens s)/\cb (kW w (gO D) [(D,0,false)] 0)=true:=by
 obtain ⟨l,g,b⟩:=jK (tokens s);have h:=NL _ (Et _ _ (aa3 _) a);have i:=Ag _ s (aal _) f h;rw [b] at a;have c:=mu (Q:=Q1) _ _ _ g (gL s) i (eh a);obtain ⟨j,k⟩:=zM l c;obtain ⟨h1,m,n⟩:=B0 (eP l) 0 j;have o:(doc (tokens s)).kids=l:=by rw [b];rfl
 rw [o];have e:=Am w (gO (row (cT 0 (eP l)))) [(row (cT 0 (eP l)),0,false)] 0 (by simp [rO]) (by
  simp only [Ue,abh];rw [OL];exact n)
 have d:J4 [(row (cT 0 (eP l)),(0:Int),false)]=dI (cT 0 (eP l)):=by
  rw [J4,J4,aay];rfl
 rw [d] at e;obtain ⟨p,r2⟩:=xM e h1;exact ⟨by rw [p,m,k,OU s b],r2⟩
theorem mh: ∀(l m:List Lay.Doc),bR (l++m)=bR l+bR m
 | [],m=>by simp [bR]
 | d::l,m=>by simp only [aat,bR,mh l m];omega
theorem BU (d:Lay.Doc):bR [d]=gO d:=by simp [bR]
theorem Jj (s:B):gO (tx s)=1:=rfl
theorem RR:gO cG=1:=rfl
theorem tv:gO jT=1:=rfl
theorem zx (n:Int) (l:List Lay.Doc):gO (Cy n l)=1+bR l:=by simp [Cy,gO]
theorem oI (l:List Lay.Doc):gO (uR l)=1+bR l:=by simp [uR,gO]
theorem E1 (l:List Lay.Doc):gO (row l)=1+bR l:=by simp [row,gO]
theorem jY: ∀(D:List Lay.Doc) (i:Nat),bR (D.take i)+gO (D.getD i cG)+bR (D.drop (i+1))<=bR D+1
 | [],i=>by simp [bR,RR]
 | d::D,0=>by simp [bR]
 | d::D,i+1=>by
  have:=jY D i;simp only [abT,List.getD_cons_succ,aaD,bR];omega
theorem KJ (D:List Lay.Doc) (i:Nat):gO (D.getD i cG)<=bR (D.drop i)+1:=by
 have:=jY (D.drop i) 0;have e:(D.drop i).getD 0 cG=D.getD i cG:=by
  rw [aaE,aaE,abl,abf]
 rw [e] at this;omega
theorem Sn (D:List Lay.Doc) (i:Nat):bR (D.take i)+bR (D.drop i)=bR D:=by
 rw [<- mh,abb]
theorem ly {ahead:List Lay.Doc} (h: ∀a∈ahead,gO a=1): ∀(i:Nat) (D:List Lay.Doc),bR (bU ahead i D)<=bR D+D.length
 | i,[]=>by simp [bU,bR]
 | i,d::D=>by
  have ih:=ly h (i+1) D;have h1: ∀j,gO (ahead.getD j cG)=1:=fun j=>by
   rw [aaE];cases b:ahead[j]? with
   | none=>rfl
   | some a=>exact h a (aaK b)
  rw [bU];split
  .simp only [aaq,bR,aae];omega
  .simp only [aat,aaq,bR,aae,h1];omega
theorem KX: ∀(ks:List T) (D:List Lay.Doc),bR (oc ks D)<=bR D+D.length
 | [],D=>by simp [oc,bR]
 | _:: _,[]=>by simp [oc,bR]
 | t::ks,d::D=>by
  have ih:=KX ks D;rw [oc];split
  .simp only [bR,tv,aae];omega
  .simp only [bR,aae];omega
theorem DQ: ∀(p:T) (ks:List T) (D:List Lay.Doc),bR (gN p ks D)<=bR D+D.length
 | _,[],D=>by simp [gN,bR]
 | _,_:: _,[]=>by simp [gN,bR]
 | p,t::ks,d::D=>by
  have ih:=DQ t ks D;have:gO (if mH [iF] p=true then cG else jT)=1:=by split <;> rfl
  rw [gN];simp only [bR,this,aae];omega
theorem zE: ∀a∈[cG],gO a=1:=fun a h=>by rw [aaQ.1 h];rfl
theorem Hb (D:List Lay.Doc):bR (mW D)<=bR D+D.length+3:=by
 unfold mW;have h1:=ly zE 0 (D.take (D.length - 1));have a:=jY D (D.length - 1);have b:(D.take (D.length - 1)).length<=D.length:=by rw [aau];omega
 rw [mh,BU,zx];simp only [bR,tv];omega
theorem PC (k:Nat) (ks:List T) (D:List Lay.Doc) (h:2<=D.length):gO (eJ k ks D)<=bR D+D.length+8:=by
 unfold eJ;split
 .have:=Hb D;rw [oI];omega
 split
 .have h1:=Hb (D.take (D.length - 2));have b:=jY D (D.length - 2);have f:=KJ D (D.length - 1);have d:(D.take (D.length - 2)).length<=D.length:=by rw [aau];omega
  have e:D.length - 2+1=D.length - 1:=by omega
  rw [e] at b;rw [oI,mh];simp only [bR,tv];omega
 split
 .have:=ly (ahead:=[cG,jT,cG,jT,cG]) (fun a c=>by
   simp only [aao,aaF,or_false] at c;rcases c with rfl | rfl | rfl | rfl | rfl <;> rfl) 0 D
  rw [oI];omega
 split
 .have h1:=ly zE 0 (D.take 3);have b:=DQ (ks.getD 2 default) (ks.drop 3) (D.drop 3);have f:=Sn D 3;have d:(D.take 3).length+(D.drop 3).length=D.length:=by rw [aau,aaz];omega
  rw [oI,mh];omega
 split
 .have h1:=ly zE 0 (D.take 2);have b:=jY D 2;have d:(D.take 2).length<=D.length:=by rw [aau];omega
  rw [oI,mh,BU,zx];simp only [bR,tv];omega
 split
 .have:=ly (ahead:=[jT,cG]) (fun a c=>by
   simp only [aao,aaF,or_false] at c;rcases c with rfl | rfl <;> rfl) 0 D
  rw [oI];omega
 split
 .have:=ly zE 0 D;rw [E1];omega
 split
 .have h1:=jY D 0;have b:=KJ D 1;simp only [List.take_zero,bR,aax] at h1;rw [oI];simp only [bR,zx,tv];omega
 .have h1:=jY D 0;have b:=jY (D.drop 1) (D.length - 2);have f:=KX ((ks.drop 1).take (ks.length - 2)) ((D.drop 1).take (D.length - 2));have d:((D.drop 1).take (D.length - 2)).length<=D.length:=by rw [aau];omega
  have e:(D.drop 1).getD (D.length - 2) cG=D.getD (D.length - 1) cG:=by
   rw [aaE,aaE,abl];congr 2;omega
  rw [e] at b;simp only [List.take_zero,bR,aax] at h1;rw [oI];simp only [bR,zx];omega
inductive vO:T->Prop where
 | leaf {k:Nat} {s:B} {r:List bc}:k≠0->k≠2->yY (k,s)->(∀x∈r,bC x=true/\Q1 x)->vO (.mk 1 k s (r.map aY))
 | node {k:Nat} {ks:List T}:k≠1->2<=ks.length->(∀x∈ks,vO x)->vO (node k ks)
theorem BO: ∀{r:List bc},(∀x∈r,bC x=true/\Q1 x)->(fP (r.map aY)).length<=(kD (r.map aY)).length
 | [],_=>by simp [fP,kD]
 | x::r,h=>by
  have ih:=BO (r:=r) fun y hy=>h y (aam _ hy);unfold fP at ih ⊢;rw [aan,abE,kD,aad];by_cases a:x.1=2
  .have e:mV (aY x)=some x.2:=by simp [aY,leaf,mV,a]
   have b:(wU (aY x)).length=1:=by simp [aY,leaf,wU,kD,a]
   rw [e,b,aae];omega
  .simp only [aY,leaf,mV,if_neg a];omega
theorem JM: ∀(l:List B),bR (l.flatMap fun r=>[tx r,jT])=2 * l.length
 | []=>rfl
 | x::l=>by
  rw [aa4,mh,JM l];simp only [bR,Jj,tv,aae];omega
theorem Ow {t:T} (h:vO t):gO (aB t)+10<=12 * (wU t).length:=by
 induction h with
 | @leaf k s r h0 e hs g=>
  have h1:=BO g;have c:k≠1:=hs.k1;rw [aB,if_pos rfl,Kw,E1,mh,JM,BU,Jj,wU,if_pos ⟨rfl,c,h0⟩,aad];simp only [abd];omega
 | @node k ks f hl i ih=>
  have h1:=PC k ks (ks.map aB) (by rw [aaA];exact hl);rw [fR f,wE f];have e: ∀(l:List T),(∀x∈l,gO (aB x)+10<=12 * (wU x).length)->bR (l.map aB)+10 * l.length<=12 * (kD l).length:=by
   intro l
   induction l with
   | nil=>intro _;simp [bR,kD]
   | cons x l d=>
    intro hx;have a:=d fun y hy=>hx y (aam _ hy);have b:=hx x (by simp);simp only [aan,bR,kD,aad,aae];omega
  have j:=e ks ih;rw [aaA] at h1;omega
theorem Pn (p:UInt8->Bool): ∀(l:B),∀x∈l.takeWhile p,p x=true
 | [],x,h=>by cases h
 | c::l,x,h=>by
  rw [aa1] at h;split at h
  .rename_i a;rcases aao.1 h with rfl | h
   .exact a
   .exact Pn p l x h
  .cases h
theorem Mc {k:Nat} {c:UInt8} {l:B} (f:aW c=true) (h:number (c::l)=(k,(c::l).length)) (x:UInt8) (hx:cr x=true):x∉c::l:=by
 intro hm;obtain ⟨a,r,e⟩:=List.append_of_mem hm;cases a with
 | nil=>
  injection e with b _
  subst b;rcases qQ hx with rfl | rfl | rfl | rfl <;> cases f
 | cons m a=>
  injection e with b g
  subst b;have d:si (x::r):= .inr ⟨x,r,rfl,Hc hx⟩;have h1:=xy d (c::a);rw [show c::a++x::r=c::l by rw [g];rfl,h] at h1;have i:=xj (c::a) (by rw [gf,if_pos f];omega);have j:=aaU Prod.snd h1;dsimp only at j;rw [<- j,g] at i;simp at i;omega
theorem Jl {k:Nat} {s:B} (h:yY (k,s)) (m:k≠2) (n:k≠7):(s.any fun b=>b==10)=false/\(s.any fun b=>b==13)=false:=by
 have key: ∀x:UInt8,cr x=true->x∉s:=by
  intro x hx;have a:cut s=(k,s.length):=h.cut;have h1:k≠1:=h.k1;have f:k≠9:=h.k9;cases s with
  | nil=>simp
  | cons c l=>
   simp only [cut] at a;split at a
   .injection a with e _;exact absurd e.symm h1
   split at a
   .split at a
    .injection a with e _;exact absurd e.symm m
    .injection a with e _;exact absurd e.symm f
   split at a
   .injection a with _ e
    intro hm;have j:=tD iI (c::l);rw [e,aaJ] at j;rw [j] at hm;have:=Pn iI (c::l) x hm;rcases qQ hx with rfl | rfl | rfl | rfl <;> cases this
   split at a
   .rename_i o;exact Mc o a x hx
   split at a
   .injection a with e _
    rcases jI l with g | g
    .rw [g] at e;exact absurd e.symm n
    .rw [g] at e;exact absurd e.symm f
   split at a
   .rename_i d;injection a with _ e
    have p:(c::l).take 2=c::l:=List.take_of_length_le (by rw [<- e];exact aal _);rw [p] at d;have d:=List.contains_iff_mem.1 d;intro hm;have: ∀w∈iJ,∀y∈w,cr y=false:=by decide
    rw [this _ d x hm] at hx;cases hx
   split at a
   .rename_i ho;injection a with _ e
    cases l with
    | cons _ _=>simp at e
    | nil=>
     intro hm;rw [aaQ] at hm;subst hm;have ho:=List.contains_iff_mem.1 ho;have: ∀y∈S9,cr y=false:=by decide
     rw [this _ ho] at hx;cases hx
   .injection a with e _;exact absurd e.symm f
 constructor
 .cases i:s.any fun b=>b==10 with
  | false=>rfl
  | true=>
   obtain ⟨y,hy,e⟩:=List.any_eq_true.1 i;rw [eq_of_beq e] at hy;exact absurd hy (key 10 rfl)
 .cases i:s.any fun b=>b==13 with
  | false=>rfl
  | true=>
   obtain ⟨y,hy,e⟩:=List.any_eq_true.1 i;rw [eq_of_beq e] at hy;exact absurd hy (key 13 rfl)
structure Kd (k:Nat) (ks:List T):Prop where
 k1:k≠1
 two:2<=ks.length
 kind:5<=k/\k<=18
 k6:k=6->4<=ks.length
 k8:k=8->ks.length=6
 k9:k=9->4<=ks.length
 k10:k=10->ks.length=3
 k11:k=11->ks.length=3
 k12:k=12->ks.length=2
 k13:k=13->ks.length=2
 k16:k=16->ks.length=3
theorem xD {k:Nat} {ks:List T} (h:2<=ks.length) (a:k=5\/k=7\/k=14\/k=15\/k=17\/k=18):Kd k ks:=⟨by omega,h,by omega,by omega,by omega,by omega,by omega,by omega,by omega,by omega,by omega⟩
theorem OQ {Q:bc->Prop} {l:List T} (h:BT Q l):3<=l.length:=by
 cases h with
 | mk b hp a c he=>simp only [aad,aae,aai];omega
section
variable {Q:bc->Prop} {Pr:T->Prop} (hlf: ∀(k:Nat) (s:B) (r:List bc),k≠0->k≠1->k≠2->Q (k,s)->(∀x∈r,bC x=true/\Q x)->Pr (.mk 1 k s (r.map aY)))
 (hnd: ∀(k:Nat) (ks:List T),Kd k ks->(∀x∈ks,Pr x)->Pr (node k ks))
include hlf
theorem dU {s:B} {t:T} (h:Lf Q s t):Pr t:=by
 obtain ⟨k,ks,rfl,c,a,r,rfl,b⟩:=h;exact hlf k s r (by omega) (by omega) (by omega) a b
include hnd
theorem E2: ∀n,(∀t,SizeOf.sizeOf t < n->ET Q t->Pr t)/\(∀t,SizeOf.sizeOf t < n->PT Q t->Pr t)/\(∀t,SizeOf.sizeOf t < n->AT Q t->Pr t):=by
 intro n
 induction n with
 | zero=>exact ⟨fun _ h=>by omega,fun _ h=>by omega,fun _ h=>by omega⟩
 | succ n ih=>
  obtain ⟨g,u,E⟩:=ih;have H: ∀(l:List T) (list:Bool),S7 Q list l->(∀x∈l,SizeOf.sizeOf x < n)-> ∀x∈l,Pr x:=by
   intro l
   induction l using List.qm with
   | nil=>intro list _ _ x hx;cases hx
   | one a=>intro list h _;cases h
   | two a b l A=>
    intro list h hs x hx;cases h with
    | cons z v hl=>
     rcases aao.1 hx with rfl | hx
     .exact dU hlf z
     .rcases aao.1 hx with rfl | hx
      .exact g x (hs x (by simp)) v
      .exact A list hl (fun y hy=>hs y (by simp [hy])) x hx
  have I: ∀(l:List T) (list:Bool),SN Q list l->(∀x∈l,SizeOf.sizeOf x < n)-> ∀x∈l,Pr x:=by
   intro l
   induction l using List.qm with
   | nil=>intro list _ _ x hx;cases hx
   | one a=>intro list h _;cases h
   | two a b l A=>
    intro list h hs x hx;cases h with
    | cons z v hl=>
     rcases aao.1 hx with rfl | hx
     .exact dU hlf z
     .rcases aao.1 hx with rfl | hx
      .exact u x (hs x (by simp)) v
      .exact A list hl (fun y hy=>hs y (by simp [hy])) x hx
  have J: ∀(l:List T),S4 Q l->(∀x∈l,SizeOf.sizeOf x < n)-> ∀x∈l,Pr x:=by
   intro l
   induction l using List.qm with
   | nil=>intro _ _ x hx;cases hx
   | one a=>intro h _;cases h
   | two a b l A=>
    intro h hs x hx;cases h with
    | cons z q hl=>
     rcases aao.1 hx with rfl | hx
     .exact dU hlf z
     .rcases aao.1 hx with rfl | hx
      .exact E x (hs x (by simp)) q
      .exact A hl (fun y hy=>hs y (by simp [hy])) x hx
  have N: ∀(l:List T),BT Q l->(∀x∈l,SizeOf.sizeOf x < n)-> ∀x∈l,Pr x:=by
   intro l h hs x hx;cases h with
   | mk C hp D F he=>
    simp only [aao,aaC,aaQ,aaF,or_false] at hx;rcases hx with ((hx | rfl | hx) | rfl) | rfl
    .rcases C with rfl | ⟨r,C,rfl⟩
     .cases hx
     .rw [aaQ.1 hx];exact dU hlf C
    .exact u x (hs x (by simp)) hp
    .exact u x (hs x (by simp [hx])) (D x hx)
    .exact dU hlf F
    .exact g x (hs x (by simp)) he
  refine ⟨fun t M h=> ?_,fun t M h=> ?_,fun t M h=> ?_⟩
  .have j: ∀{k tk:Nat} {s:B} {l:List T},t=T.mk k tk s l-> ∀x∈l,SizeOf.sizeOf x < n:=fun {k tk s l} e x hx=>by
    subst e;have:=xI (k:=k) (tk:=tk) (s:=s) hx;omega
   cases h with
   | leaf F d K=>
    obtain ⟨r,rfl,C⟩:=K;exact hlf _ _ r (by omega) (by omega) (by omega) F C
   | letin q v hi he=>
    rename_i a i e bs;have O:=OQ v;have d:=j rfl;refine hnd _ _ ⟨by decide,by simp,by decide,fun h=>by first | omega | (simp only [aad,aae,aai];done) | (simp only [aad,aae,aai];omega),fun h=>by first | omega | (simp only [aad,aae,aai];done) | (simp only [aad,aae,aai];omega),fun h=>by first | omega | (simp only [aad,aae,aai];done) | (simp only [aad,aae,aai];omega),fun h=>by first | omega | (simp only [aad,aae,aai];done) | (simp only [aad,aae,aai];omega),fun h=>by first | omega | (simp only [aad,aae,aai];done) | (simp only [aad,aae,aai];omega),fun h=>by first | omega | (simp only [aad,aae,aai];done) | (simp only [aad,aae,aai];omega),fun h=>by first | omega | (simp only [aad,aae,aai];done) | (simp only [aad,aae,aai];omega),fun h=>by first | omega | (simp only [aad,aae,aai];done) | (simp only [aad,aae,aai];omega)⟩ fun x hx=> ?_;simp only [aao,aat,aaC,aaQ,aaF,or_false] at hx;rcases hx with rfl | (hx | rfl) | rfl
    .exact dU hlf q
    .exact N bs v (fun y hy=>d y (by simp [hy])) x hx
    .exact dU hlf hi
    .exact g x (d x (by simp)) he
   | lambda hf hp D q he=>
    rename_i f p a e ps;have d:=j rfl;refine hnd _ _ (xD (by simp) (.inr (.inl rfl))) fun x hx=> ?_;simp only [aao,aat,aaC,aaQ,aaF,or_false] at hx;rcases hx with rfl | rfl | (hx | rfl) | rfl
    .exact dU hlf hf
    .exact u x (d x (by simp)) hp
    .exact u x (d x (by simp [hx])) (D x hx)
    .exact dU hlf q
    .exact g x (d x (by simp)) he
   | ife hi q L v hl z=>
    have d:=j rfl;refine hnd _ _ ⟨by decide,by simp,by decide,fun h=>by first | omega | (simp only [aad,aae,aai];done) | (simp only [aad,aae,aai];omega),fun h=>by first | omega | (simp only [aad,aae,aai];done) | (simp only [aad,aae,aai];omega),fun h=>by first | omega | (simp only [aad,aae,aai];done) | (simp only [aad,aae,aai];omega),fun h=>by first | omega | (simp only [aad,aae,aai];done) | (simp only [aad,aae,aai];omega),fun h=>by first | omega | (simp only [aad,aae,aai];done) | (simp only [aad,aae,aai];omega),fun h=>by first | omega | (simp only [aad,aae,aai];done) | (simp only [aad,aae,aai];omega),fun h=>by first | omega | (simp only [aad,aae,aai];done) | (simp only [aad,aae,aai];omega),fun h=>by first | omega | (simp only [aad,aae,aai];done) | (simp only [aad,aae,aai];omega)⟩ fun x hx=> ?_;simp only [aao,aaF,or_false] at hx;rcases hx with rfl | rfl | rfl | rfl | rfl | rfl
    .exact dU hlf hi
    .exact g x (d x (by simp)) q
    .exact dU hlf L
    .exact g x (d x (by simp)) v
    .exact dU hlf hl
    .exact g x (d x (by simp)) z
   | mtch hm he P G q has=>
    rename_i m e w a bar as;have d:=j rfl;refine hnd _ _ ⟨by decide,by simp,by decide,fun h=>by first | omega | (simp only [aad,aae,aai];done) | (simp only [aad,aae,aai];omega),fun h=>by first | omega | (simp only [aad,aae,aai];done) | (simp only [aad,aae,aai];omega),fun h=>by first | omega | (simp only [aad,aae,aai];done) | (simp only [aad,aae,aai];omega),fun h=>by first | omega | (simp only [aad,aae,aai];done) | (simp only [aad,aae,aai];omega),fun h=>by first | omega | (simp only [aad,aae,aai];done) | (simp only [aad,aae,aai];omega),fun h=>by first | omega | (simp only [aad,aae,aai];done) | (simp only [aad,aae,aai];omega),fun h=>by first | omega | (simp only [aad,aae,aai];done) | (simp only [aad,aae,aai];omega),fun h=>by first | omega | (simp only [aad,aae,aai];done) | (simp only [aad,aae,aai];omega)⟩ fun x hx=> ?_;simp only [aao,aat,aaC,aaQ,aaF,or_false] at hx;rcases hx with rfl | rfl | rfl | hx | rfl | hx
    .exact dU hlf hm
    .exact g x (d x (by simp)) he
    .exact dU hlf P
    .rcases G with rfl | ⟨b,v,rfl⟩
     .cases hx
     .rw [aaQ.1 hx];exact dU hlf v
    .exact E x (d x (by simp)) q
    .exact J as has (fun y hy=>d y (by simp [hy])) x hx
   | bin q ho v=>
    have d:=j rfl;refine hnd _ _ ⟨by decide,by simp,by decide,fun h=>by first | omega | (simp only [aad,aae,aai];done) | (simp only [aad,aae,aai];omega),fun h=>by first | omega | (simp only [aad,aae,aai];done) | (simp only [aad,aae,aai];omega),fun h=>by first | omega | (simp only [aad,aae,aai];done) | (simp only [aad,aae,aai];omega),fun h=>by first | omega | (simp only [aad,aae,aai];done) | (simp only [aad,aae,aai];omega),fun h=>by first | omega | (simp only [aad,aae,aai];done) | (simp only [aad,aae,aai];omega),fun h=>by first | omega | (simp only [aad,aae,aai];done) | (simp only [aad,aae,aai];omega),fun h=>by first | omega | (simp only [aad,aae,aai];done) | (simp only [aad,aae,aai];omega),fun h=>by first | omega | (simp only [aad,aae,aai];done) | (simp only [aad,aae,aai];omega)⟩ fun x hx=> ?_;simp only [aao,aaF,or_false] at hx;rcases hx with rfl | rfl | rfl
    .exact g x (d x (by simp)) q
    .exact dU hlf ho
    .exact g x (d x (by simp)) v
   | un ho q=>
    have d:=j rfl;refine hnd _ _ ⟨by decide,by simp,by decide,fun h=>by first | omega | (simp only [aad,aae,aai];done) | (simp only [aad,aae,aai];omega),fun h=>by first | omega | (simp only [aad,aae,aai];done) | (simp only [aad,aae,aai];omega),fun h=>by first | omega | (simp only [aad,aae,aai];done) | (simp only [aad,aae,aai];omega),fun h=>by first | omega | (simp only [aad,aae,aai];done) | (simp only [aad,aae,aai];omega),fun h=>by first | omega | (simp only [aad,aae,aai];done) | (simp only [aad,aae,aai];omega),fun h=>by first | omega | (simp only [aad,aae,aai];done) | (simp only [aad,aae,aai];omega),fun h=>by first | omega | (simp only [aad,aae,aai];done) | (simp only [aad,aae,aai];omega),fun h=>by first | omega | (simp only [aad,aae,aai];done) | (simp only [aad,aae,aai];omega)⟩ fun x hx=> ?_;simp only [aao,aaF,or_false] at hx;rcases hx with rfl | rfl
    .rcases ho with ho | ho <;> exact dU hlf ho
    .exact g x (d x (by simp)) q
   | app q v=>
    have d:=j rfl;refine hnd _ _ ⟨by decide,by simp,by decide,fun h=>by first | omega | (simp only [aad,aae,aai];done) | (simp only [aad,aae,aai];omega),fun h=>by first | omega | (simp only [aad,aae,aai];done) | (simp only [aad,aae,aai];omega),fun h=>by first | omega | (simp only [aad,aae,aai];done) | (simp only [aad,aae,aai];omega),fun h=>by first | omega | (simp only [aad,aae,aai];done) | (simp only [aad,aae,aai];omega),fun h=>by first | omega | (simp only [aad,aae,aai];done) | (simp only [aad,aae,aai];omega),fun h=>by first | omega | (simp only [aad,aae,aai];done) | (simp only [aad,aae,aai];omega),fun h=>by first | omega | (simp only [aad,aae,aai];done) | (simp only [aad,aae,aai];omega),fun h=>by first | omega | (simp only [aad,aae,aai];done) | (simp only [aad,aae,aai];omega)⟩ fun x hx=> ?_;simp only [aao,aaF,or_false] at hx;rcases hx with rfl | rfl
    .exact g x (d x (by simp)) q
    .exact g x (d x (by simp)) v
   | none ho z=>
    rename_i list o c;refine hnd _ _ (xD (by simp) (by cases list <;> simp [kindOf])) fun x hx=> ?_;simp only [aao,aaF,or_false] at hx;rcases hx with rfl | rfl
    .exact dU hlf ho
    .exact dU hlf z
   | some ho q hl z=>
    rename_i list o c a l;have d:=j rfl;refine hnd _ _ (xD (by simp) (by cases list <;> simp [kindOf])) fun x hx=> ?_;simp only [aao,aat,aaC,aaQ,aaF,or_false] at hx;rcases hx with rfl | rfl | hx | rfl
    .exact dU hlf ho
    .exact g x (d x (by simp)) q
    .exact H l list hl (fun y hy=>d y (by simp [hy])) x hx
    .exact dU hlf z
  .have j: ∀{k tk:Nat} {s:B} {l:List T},t=T.mk k tk s l-> ∀x∈l,SizeOf.sizeOf x < n:=fun {k tk s l} e x hx=>by
    subst e;have:=xI (k:=k) (tk:=tk) (s:=s) hx;omega
   cases h with
   | leaf F d K=>
    obtain ⟨r,rfl,C⟩:=K;exact hlf _ _ r (by omega) (by omega) (by omega) F C
   | cons q ho v=>
    have d:=j rfl;refine hnd _ _ ⟨by decide,by simp,by decide,fun h=>by first | omega | (simp only [aad,aae,aai];done) | (simp only [aad,aae,aai];omega),fun h=>by first | omega | (simp only [aad,aae,aai];done) | (simp only [aad,aae,aai];omega),fun h=>by first | omega | (simp only [aad,aae,aai];done) | (simp only [aad,aae,aai];omega),fun h=>by first | omega | (simp only [aad,aae,aai];done) | (simp only [aad,aae,aai];omega),fun h=>by first | omega | (simp only [aad,aae,aai];done) | (simp only [aad,aae,aai];omega),fun h=>by first | omega | (simp only [aad,aae,aai];done) | (simp only [aad,aae,aai];omega),fun h=>by first | omega | (simp only [aad,aae,aai];done) | (simp only [aad,aae,aai];omega),fun h=>by first | omega | (simp only [aad,aae,aai];done) | (simp only [aad,aae,aai];omega)⟩ fun x hx=> ?_;simp only [aao,aaF,or_false] at hx;rcases hx with rfl | rfl | rfl
    .exact u x (d x (by simp)) q
    .exact dU hlf ho
    .exact u x (d x (by simp)) v
   | none ho z=>
    rename_i list o c;refine hnd _ _ (xD (by simp) (by cases list <;> simp [kindOf])) fun x hx=> ?_;simp only [aao,aaF,or_false] at hx;rcases hx with rfl | rfl
    .exact dU hlf ho
    .exact dU hlf z
   | some ho q hl z=>
    rename_i list o c a l;have d:=j rfl;refine hnd _ _ (xD (by simp) (by cases list <;> simp [kindOf])) fun x hx=> ?_;simp only [aao,aat,aaC,aaQ,aaF,or_false] at hx;rcases hx with rfl | rfl | hx | rfl
    .exact dU hlf ho
    .exact u x (d x (by simp)) q
    .exact I l list hl (fun y hy=>d y (by simp [hy])) x hx
    .exact dU hlf z
  .have j: ∀{k tk:Nat} {s:B} {l:List T},t=T.mk k tk s l-> ∀x∈l,SizeOf.sizeOf x < n:=fun {k tk s l} e x hx=>by
    subst e;have:=xI (k:=k) (tk:=tk) (s:=s) hx;omega
   cases h with
   | mk hp q he=>
    have d:=j rfl;refine hnd _ _ ⟨by decide,by simp,by decide,fun h=>by first | omega | (simp only [aad,aae,aai];done) | (simp only [aad,aae,aai];omega),fun h=>by first | omega | (simp only [aad,aae,aai];done) | (simp only [aad,aae,aai];omega),fun h=>by first | omega | (simp only [aad,aae,aai];done) | (simp only [aad,aae,aai];omega),fun h=>by first | omega | (simp only [aad,aae,aai];done) | (simp only [aad,aae,aai];omega),fun h=>by first | omega | (simp only [aad,aae,aai];done) | (simp only [aad,aae,aai];omega),fun h=>by first | omega | (simp only [aad,aae,aai];done) | (simp only [aad,aae,aai];omega),fun h=>by first | omega | (simp only [aad,aae,aai];done) | (simp only [aad,aae,aai];omega),fun h=>by first | omega | (simp only [aad,aae,aai];done) | (simp only [aad,aae,aai];omega)⟩ fun x hx=> ?_;simp only [aao,aaF,or_false] at hx;rcases hx with rfl | rfl | rfl
    .exact u x (d x (by simp)) hp
    .exact dU hlf q
    .exact g x (d x (by simp)) he
end
mutual
def Ts:Lay.Doc->Bool
 | .mk _ _ m kids=>decide (m<=4)&&Jz kids
def Jz:List Lay.Doc->Bool
 | []=>true
 | d::l=>Ts d&&Jz l
end
def MS (d:Lay.Doc):Prop:=pO d=true/\Ts d=true
def vJ (l:List Lay.Doc):Prop:= ∀d∈l,MS d
theorem vV: ∀{l:List Lay.Doc},vJ l->rG l=true/\Jz l=true
 | [],_=>⟨rfl,rfl⟩
 | d::l,h=>by
  obtain ⟨a,b⟩:=vV (l:=l) fun x hx=>h x (aam _ hx);obtain ⟨c,e⟩:=h d (by simp);simp only [rG,Jz,a,b,c,e];exact ⟨rfl,rfl⟩
theorem eY:vJ []:=fun _ h=>by cases h
theorem bV {d:Lay.Doc} {l:List Lay.Doc} (h:MS d) (hl:vJ l):vJ (d::l):=fun x hx=>by
 rcases aao.1 hx with rfl | hx
 .exact h
 .exact hl x hx
theorem qF {l m:List Lay.Doc} (h:vJ l) (hm:vJ m):vJ (l++m):=fun x hx=>by
 rcases aaC.1 hx with hx | hx
 .exact h x hx
 .exact hm x hx
theorem NK {s:B} (a:cb s=true) (h:(s.any fun b=>b==10)=false/\(s.any fun b=>b==13)=false):MS (tx s):=by
 constructor
 .simp [tx,pO,rG,Nj,a,h.1,h.2]
 .simp [tx,Ts,Jz]
theorem xC:MS cG:=NK rfl ⟨rfl,rfl⟩
theorem nO:MS jT:=⟨rfl,rfl⟩
theorem PB:MS Oh:=⟨rfl,rfl⟩
theorem EM {n:Int} (h0:0<=n) (c:n<=4) {l:List Lay.Doc} (h:vJ l):MS (Cy n l):=by
 obtain ⟨a,b⟩:=vV h;constructor
 .simp only [Cy,pO,Nj,a,abh,show ¬ (5:Int)=1 by omega,show ¬ ((5:Int)=2\/(5:Int)=3\/(5:Int)=4) by omega,if_false,if_true,aak,aaZ];exact ⟨⟨h0,by omega⟩,rfl⟩
 .simp only [Cy,Ts,b,abh,aaZ];exact c
theorem rY {l:List Lay.Doc} (h:vJ l):MS (uR l):=by
 obtain ⟨a,b⟩:=vV h;constructor
 .simp [uR,pO,Nj,a]
 .simp [uR,Ts,b]
theorem I3 {l:List Lay.Doc} (h:vJ l):MS (row l):=by
 obtain ⟨a,b⟩:=vV h;constructor
 .simp [row,pO,Nj,a]
 .simp [row,Ts,b]
theorem ni {D:List Lay.Doc} (h:vJ D) (i:Nat):MS (D.getD i cG):=by
 rw [aaE];cases b:D[i]? with
 | none=>exact xC
 | some a=>exact h a (aaK b)
theorem vy {D:List Lay.Doc} (h:vJ D) (i:Nat):vJ (D.take i):=fun x hx=>h x (List.mem_of_mem_take hx)
theorem Kn {D:List Lay.Doc} (h:vJ D) (i:Nat):vJ (D.drop i):=fun x hx=>h x (List.mem_of_mem_drop hx)
theorem nW {ahead:List Lay.Doc} (a:vJ ahead): ∀(i:Nat) {D:List Lay.Doc},vJ D->vJ (bU ahead i D)
 | i,[],_=>eY
 | i,d::D,h=>by
  rw [bU];refine qF ?_ (bV (h d (by simp)) (nW a (i+1) fun x hx=>h x (aam _ hx)));split
  .exact eY
  .exact bV (ni a _) eY
theorem P5: ∀(ks:List T) {D:List Lay.Doc},vJ D->vJ (oc ks D)
 | [],_,_=>eY
 | _:: _,[],_=>eY
 | t::ks,d::D,h=>by
  have ih:=P5 ks (D:=D) fun x hx=>h x (aam _ hx);rw [oc];refine bV (h d (by simp)) ?_;split
  .exact bV nO ih
  .exact ih
theorem Ha: ∀(p:T) (ks:List T) {D:List Lay.Doc},vJ D->vJ (gN p ks D)
 | _,[],_,_=>eY
 | _,_:: _,[],_=>eY
 | p,t::ks,d::D,h=>by
  rw [gN];refine bV ?_ (bV (h d (by simp)) (Ha t ks fun x hx=>h x (aam _ hx)));split
  .exact xC
  .exact nO
theorem wF:vJ [cG]:=bV xC eY
theorem K3 {D:List Lay.Doc} (h:vJ D):vJ (mW D):=
 qF (nW wF 0 (vy h _)) (bV (EM (by decide) (by decide) (bV nO (bV (ni h _) eY))) eY)
theorem R2 (k:Nat) (ks:List T) {D:List Lay.Doc} (h:vJ D):MS (eJ k ks D):=by
 unfold eJ;split
 .exact rY (K3 h)
 split
 .exact rY (qF (K3 (vy h _)) (bV nO (bV (ni h _) (bV nO (bV (ni h _) eY)))))
 split
 .exact rY (nW (bV xC (bV nO (bV xC (bV nO (bV xC eY))))) 0 h)
 split
 .exact rY (qF (nW wF 0 (vy h _)) (Ha _ _ (Kn h _)))
 split
 .exact rY (qF (nW wF 0 (vy h _)) (bV (EM (by decide) (by decide) (bV nO (bV (ni h _) eY))) eY))
 split
 .exact rY (nW (bV nO wF) 0 h)
 split
 .exact I3 (nW wF 0 h)
 split
 .exact rY (bV (ni h _) (bV (EM (by decide) (by decide) (bV nO (bV (ni h _) eY))) eY))
 .exact rY (bV (ni h _) (bV (EM (by decide) (by decide) (P5 _ (vy (Kn h _) _))) (bV (ni h _) eY)))
theorem J8 (s:B):(s.any fun c=>c==10||c==13)=false->(s.any fun b=>b==10)=false/\(s.any fun b=>b==13)=false:=by
 induction s with
 | nil=>intro _;exact ⟨rfl,rfl⟩
 | cons c s ih=>
  intro h;simp only [aby,aaY] at h ⊢;exact ⟨⟨h.1.1,(ih h.2).1⟩,h.1.2,(ih h.2).2⟩
theorem DZ: ∀{r:List bc},(∀x∈r,bC x=true/\Q1 x)->jU (r.map aY)=false-> ∀s∈fP (r.map aY),MS (tx s)
 | [],_,_=>fun s h=>by simp [fP] at h
 | x::r,h,he=>by
  rw [aan,jU,aaY] at he;have ih:=DZ (r:=r) (fun y hy=>h y (aam _ hy)) he.2;intro s hs;unfold fP at hs ih;rw [aan,abE] at hs;by_cases a:x.1=2
  .have e:mV (aY x)=some x.2:=by simp [aY,leaf,mV,a]
   rw [e] at hs;rcases aao.1 hs with rfl | hs
   .have b:=(h x (by simp)).2 (by omega);refine NK b.valid (J8 _ ?_);have:=he.1;simpa [aY,leaf,fB,jU,a] using this
   .exact ih s hs
  .have e:mV (aY x)=none:=by simp [aY,leaf,mV,a]
   rw [e] at hs;exact ih s hs
theorem BG: ∀{l:List T},jU l=false-> ∀x∈l,fB x=false
 | [],_,x,h=>by cases h
 | t::l,h,x,hx=>by
  rw [jU,aaY] at h;rcases aao.1 hx with rfl | hx
  .exact h.1
  .exact BG h.2 x hx
theorem Q5 {t:T} (h:vO t):fB t=false->MS (aB t):=by
 induction h with
 | @leaf k s r h0 c hs e=>
  intro he;simp only [fB,aaY,aba,abJ] at he;have hm:MS (tx s):=by
   refine NK hs.valid ?_;by_cases b:k=7
   .subst b;exact J8 _ (by simpa using he.1)
   .exact Jl hs c b
  rw [aB,if_pos rfl,Kw];refine I3 (qF (fun d a=> ?_) (bV hm eY));obtain ⟨x,hx,a⟩:=List.mem_flatMap.1 a;simp only [aao,aaF,or_false] at a;rcases a with rfl | rfl
  .exact DZ e he.2 x hx
  .exact nO
 | @node k ks f hl g ih=>
  intro he;rw [node,fB,aaY] at he;rw [fR f];refine R2 k ks fun d a=> ?_;obtain ⟨x,hx,rfl⟩:=aa8.1 a;exact ih x hx (BG he.2 x hx)
theorem Dm (k:Nat) (s:B) (r:List bc) (h0:k≠0) (h1:k≠1) (a:k≠2) (b:Q1 (k,s)) (c: ∀x∈r,bC x=true/\Q1 x):vO (.mk 1 k s (r.map aY)):= .leaf h0 a (b h1) c
theorem L0 (k:Nat) (ks:List T) (h:Kd k ks) (a: ∀x∈ks,vO x):vO (node k ks):= .node h.k1 h.two a
theorem Eb {s:B} {t:T} (h:Lf Q1 s t):vO t:=dU Dm h
theorem AR (n:Nat):(∀t,SizeOf.sizeOf t < n->ET Q1 t->vO t)/\(∀t,SizeOf.sizeOf t < n->PT Q1 t->vO t)/\(∀t,SizeOf.sizeOf t < n->AT Q1 t->vO t):=E2 Dm L0 n
end Go.Format
namespace Go.Lay
mutual
def GC:Doc->Nat
 | .mk _ _ m kids=>m.toNat+yO kids
def yO:List Doc->Nat
 | []=>0
 | d::l=>GC d+yO l
end
def Hj:List jV->Nat
 | []=>0
 | t::l=>GC t.1+Hj l
theorem kI (ks:List Doc) (i:Int) (f:Bool) (l:List jV):Hj (ej ks i f++l)=yO ks+Hj l:=by
 induction ks with
 | nil=>simp [ej,yO]
 | cons d ks ih=>simp only [ej,aan,aat,Hj,yO] at ih ⊢;rw [ih];omega
end Go.Lay
