/-
  (A part of the proof: Utf, Utf2, Kit3, Kit4, Kit5, LexSpec, ParseSpec, ParseTot, LexLoc, LexLoc2, LexLoc3, LexPre, RelexSpec, ParseText, ParseDep, RelexSpec2, TokLen, ParseTwo, ParseGlue, ParseNorm, AstTree, AstKit, AstTold, ParseShape, AstGs, ParseMap, LexSw, ParseBl, ParseSz, ParseGen, ParseGen2, LaySpec, FormatSpec, LexSt, ParseClose, ParseHot, ParseTwo2, ParseBrk, LexForm, FormIt, FormTok, FormTok2, FormTok3, FormTok4, FormSz, FormRec, FormMay, LayNes, FormDoc, BlNb.)
-/
import Derived.Test.YtgecmbapkplklaaGreatDoorVmAA
import Derived.Test.YtgecmbapkplklaaGreatDoorVmBD
import Derived.Test.YtgecmbapkplklaaGreatDoorVmAJ
import Derived.Lib.TrimUEq
import Derived.Lib.ValidU
import Derived.Lib.AtoiAll
set_option linter.unusedSimpArgs false
namespace Go.VM
open Go.Lib
def mo (n b0 b1 b2 b3:Nat):Nat:=
 if b0 < 128 then 1
 else if 194<=b0/\b0<=223 then (if n < 2\/b1 < 128\/191 < b1 then 0 else 2)
 else if 224<=b0/\b0<=239 then (if n < 3\/b1 < 128\/191 < b1\/b2 < 128\/191 < b2\/(b0=224/\b1 < 160)\/(b0=237/\159 < b1) then 0 else 3)
 else if 240<=b0/\b0<=244 then (if n < 4\/b1 < 128\/191 < b1\/b2 < 128\/191 < b2\/b3 < 128\/191 < b3\/(b0=240/\b1 < 144)\/(b0=244/\143 < b1) then 0 else 4)
 else 0
set_option maxHeartbeats 2000000 in
theorem Gx {n b0 b1 b2 b3:Nat} (h0:b0 < 256) (h1:b1 < 256) (h2:b2 < 256) (h3:b3 < 256):
  (mo n b0 b1 b2 b3=0/\decodeN n b0 b1 b2 b3=(65533,1))\/(mo n b0 b1 b2 b3=1/\b0 < 128/\decodeN n b0 b1 b2 b3=(b0,1))\/(2<=mo n b0 b1 b2 b3/\(decodeN n b0 b1 b2 b3).2=mo n b0 b1 b2 b3):=by
 by_cases c0:b0 < 128
 .refine .inr (.inl ⟨?_,c0, ?_⟩)
  .unfold mo;rw [if_pos c0]
  .unfold decodeN;rw [if_pos c0]
 by_cases z:mo n b0 b1 b2 b3=0
 .refine .inl ⟨z, ?_⟩;unfold mo at z;unfold decodeN
  repeat' split
  all_goals first | rfl | (exfalso;(repeat' (split at z));all_goals omega)
 .have hc:(mo n b0 b1 b2 b3=2/\(194<=b0/\b0<=223)/\¬ (n < 2\/b1 < 128\/191 < b1))\/
    (mo n b0 b1 b2 b3=3/\(224<=b0/\b0<=239)/\¬ (n < 3\/b1 < 128\/191 < b1\/b2 < 128\/191 < b2\/(b0=224/\b1 < 160)\/(b0=237/\159 < b1)))\/
    (mo n b0 b1 b2 b3=4/\(240<=b0/\b0<=244)/\¬ (n < 4\/b1 < 128\/191 < b1\/b2 < 128\/191 < b2\/b3 < 128\/191 < b3\/(b0=240/\b1 < 144)\/(b0=244/\143 < b1))):=by
   unfold mo at z ⊢;rw [if_neg c0] at z ⊢;by_cases c1:194<=b0/\b0<=223
   .rw [if_pos c1] at z ⊢;by_cases d:n < 2\/b1 < 128\/191 < b1
    .rw [if_pos d] at z;omega
    .rw [if_neg d];exact .inl ⟨rfl,c1,d⟩
   rw [if_neg c1] at z ⊢;by_cases c2:224<=b0/\b0<=239
   .rw [if_pos c2] at z ⊢;by_cases d:n < 3\/b1 < 128\/191 < b1\/b2 < 128\/191 < b2\/(b0=224/\b1 < 160)\/(b0=237/\159 < b1)
    .rw [if_pos d] at z;omega
    .rw [if_neg d];exact .inr (.inl ⟨rfl,c2,d⟩)
   rw [if_neg c2] at z ⊢;by_cases c3:240<=b0/\b0<=244
   .rw [if_pos c3] at z ⊢;by_cases d:n < 4\/b1 < 128\/191 < b1\/b2 < 128\/191 < b2\/b3 < 128\/191 < b3\/(b0=240/\b1 < 144)\/(b0=244/\143 < b1)
    .rw [if_pos d] at z;omega
    .rw [if_neg d];exact .inr (.inr ⟨rfl,c3,d⟩)
   .rw [if_neg c3] at z;omega
  refine .inr (.inr ?_);rcases hc with ⟨e,c,d⟩ | ⟨e,c,d⟩ | ⟨e,c,d⟩
  all_goals
   rw [e];refine ⟨by omega, ?_⟩;unfold decodeN
   repeat' split
   all_goals first | rfl | (exfalso;omega)
theorem Q5 {n b0 b1 b2 b3:Nat} (h:1<=n):mo n b0 b1 b2 b3<=n:=by
 unfold mo
 repeat' split
 all_goals omega
def gK (l:List UInt8):Nat:=mo l.length (l.getD 0 0).toNat (l.getD 1 0).toNat (l.getD 2 0).toNat (l.getD 3 0).toNat
theorem xe (l:List UInt8):(gK l=0/\decodeL l=(65533,1))\/(gK l=1/\(l.getD 0 0).toNat < 128/\decodeL l=((l.getD 0 0).toNat,1))\/(2<=gK l/\(decodeL l).2=gK l):=by
 unfold gK;rw [decodeL_N];exact Gx (UInt8.toNat_lt _) (UInt8.toNat_lt _) (UInt8.toNat_lt _) (UInt8.toNat_lt _)
theorem sn {l:List UInt8} (h:l≠[]):gK l<=l.length:=Q5 (YC.2 h)
def oS:Nat->List UInt8->Bool
 | 0,_=>true
 | n+1,l=>if l=[] then true else if gK l=0 then false else oS n (l.drop (gK l))
theorem uU: ∀(n:Nat) (l:List UInt8),validGoD n l=oS n l
 | 0,_=>rfl
 | n+1,l=>by
  unfold validGoD oS;by_cases h:l=[]
  .rw [if_pos h,if_pos h]
  rw [if_neg h,if_neg h];rcases xe l with ⟨h1,h2⟩ | ⟨h1,h2,h3⟩ | ⟨h1,h2⟩
  .have hd:(decodeL l).1=65533/\(decodeL l).2=1:=by rw [h2];exact ⟨rfl,rfl⟩
   rw [if_pos hd,if_pos h1]
  .have hd:¬ ((decodeL l).1=65533/\(decodeL l).2=1):=by rw [h3];show ¬ ((l.getD 0 0).toNat=65533/\ _);omega
   have hz:¬ gK l=0:=by omega
   rw [if_neg hd,if_neg hz,h3,h1];exact uU n _
  .have hd:¬ ((decodeL l).1=65533/\(decodeL l).2=1):=by omega
   have hz:¬ gK l=0:=by omega
   rw [if_neg hd,if_neg hz,h2];exact uU n _
def cC (l:List UInt8):Bool:=oS l.length l
theorem I1 (l:List UInt8):validD l=cC l:=uU _ _
theorem vS: ∀(n m:Nat) (l:List UInt8),l.length<=n->l.length<=m->oS n l=oS m l
 | 0,0,_,_,_=>rfl
 | 0,m+1,l,h,_=>by
  have:l=[]:=XF (by omega);subst this;simp [oS]
 | n+1,0,l,_,h=>by
  have:l=[]:=XF (by omega);subst this;simp [oS]
 | n+1,m+1,l,hn,hm=>by
  unfold oS;by_cases h:l=[]
  .rw [if_pos h,if_pos h]
  rw [if_neg h,if_neg h];by_cases hz:gK l=0
  .rw [if_pos hz,if_pos hz]
  .rw [if_neg hz,if_neg hz,vS n m _ (by rw [Xa];omega) (by rw [Xa];omega)]
theorem kO {l:List UInt8} (h:l≠[]):cC l=if gK l=0 then false else cC (l.drop (gK l)):=by
 unfold cC;have hl:0 < l.length:=YC.2 h;obtain ⟨n,hn⟩: ∃n,l.length=n+1:=⟨l.length - 1,by omega⟩;rw [hn];show (if l=[] then true else _)= _;rw [if_neg h];by_cases hz:gK l=0
 .rw [if_pos hz,if_pos hz]
 .rw [if_neg hz,if_neg hz];exact vS _ _ _ (by rw [Xa];omega) (WW _)
section
variable {β:Type} {O:rB}
theorem jV {f:List AV->db AV} {args:List AV} {v:AV} (h:f args= .ok v) (st:St) (K:Kv β):dK O (fO (.lib f) args) st K=K v st q0:=by
 simp only [dK,mn,fO,h,mO,aj]
theorem C6 {s:List UInt8} (h:s.length<=9223372036854775807):lV [.str s]= .ok (.bool (cC s)):=by
 simp only [lV,Xx h,I1]
end
end Go.VM
namespace Go.VM
open Go
@[simp] theorem ru (v:AV):oneOf [v]=v:=id rfl
@[simp] theorem RM (cs:List AV):notNil (.ip cs)=true:=id rfl
@[simp] theorem ck (i o:Nat):notNil (.mp i o)=true:=id rfl
@[simp] theorem mS (a:AV) (l:List AV):(a::l).drop 1=l:=id rfl
@[simp] theorem VP (a b:AV) (l:List AV):(a::b::l).drop 2=l:=id rfl
@[simp] theorem So (a b c:AV) (l:List AV):(a::b::c::l).drop 3=l:=id rfl
@[simp] theorem V2 (a b c d:AV) (l:List AV):(a::b::c::d::l).drop 4=l:=id rfl
@[simp] theorem Wq (a b c d e:AV) (l:List AV):(a::b::c::d::e::l).drop 5=l:=id rfl
@[simp] theorem Uz (a:AV) (l:List AV):mg 1 true (a::l)=some (.agg [a]):=id rfl
@[simp] theorem oE (a b:AV) (l:List AV):mg 2 true (a::b::l)=some (.agg [a,b]):=id rfl
@[simp] theorem U4 (a b c:AV) (l:List AV):mg 3 true (a::b::c::l)=some (.agg [a,b,c]):=id rfl
@[simp] theorem Cj (a b c d:AV) (l:List AV):mg 4 true (a::b::c::d::l)=some (.agg [a,b,c,d]):=id rfl
@[simp] theorem jK (cs:List AV):AV.cells (.agg cs)=cs:=id rfl
@[simp] theorem R5 (s:List UInt8):AV.cells (.str s)=[.str s]:=id rfl
@[simp] theorem RS (k:IntKind) (n:Int):AV.cells (.int k n)=[.int k n]:=id rfl
@[simp] theorem SA (f:Fn) (a b:List AV):AV.cells (.fn f a b)=[.fn f a b]:=id rfl
@[simp] theorem O5 (i:Nat) (o:VM.Obj):apart q0 ⟨[],.made i o⟩=true:=id rfl
@[simp] theorem OS (i:Nat) (o:VM.Obj):apart ⟨[],.kept⟩ ⟨[],.made i o⟩=true:=id rfl
@[simp] theorem oK (i:Nat) (o:VM.Obj):apart ⟨[],.kept⟩ ⟨[i],.wrote i o⟩=true:=id rfl
theorem rL {n:Nat} (h:n<=9223372036854775807):IntKind.wrap .i64 (n:Int)=(n:Int):=wrap_i64 (by omega) (by omega)
theorem mD {n m:Nat} (h:n+m<=9223372036854775807):IntKind.wrap .i64 ((n:Int)+(m:Int))=((n+m:Nat):Int):=by rw [<- Int.natCast_add];exact rL h
theorem bm {n:Nat} (h:n+1<=9223372036854775807):IntKind.wrap .i64 ((n:Int)+1)=((n+1:Nat):Int):=mD (m:=1) h
theorem mV {n:Nat} (h:n+2<=9223372036854775807):IntKind.wrap .i64 ((n:Int)+2)=((n+2:Nat):Int):=mD (m:=2) h
theorem rY {n m:Nat} (h:m<=n) (hn:n<=9223372036854775807):IntKind.wrap .i64 ((n:Int) - (m:Int))=((n - m:Nat):Int):=by rw [<- rL (n:=n - m) (by omega)];congr 1;omega
theorem gN {a b:Nat} (h:a<=b):Nat.ble a b=true:=Xx h
theorem qb {st st':St} {z:Nat} {e:TypeId} {v:AV} {es:List AV} {but:Nat->Prop} (h:iS st z e v es) (k:ba st st' but) (hb: ∀j,dS v j->¬ but j):iS st' z e v es:=by
 refine ⟨by rw [k.ro];exact Xs h.1 k.h,h.2.1, ?_⟩;rcases h.2.2 with h | h | ⟨j,hv,hg,hr⟩
 .exact .inl h
 .exact .inr (.inl h)
 .exact .inr (.inr ⟨j,hv,k.old _ _ (hb j ⟨_,_,hv⟩) hg,by rw [k.ro];exact hr⟩)
theorem Ck {st:St} {z:Nat} {e:TypeId} {x:AV} {es:List AV} (h:iS st z e x es) {k:Nat} {v:AV} (hk:es[k]? =some v) {β:Type} (st':St) (K:AV->List Nat->Option β):bU z x (k:Int) st' K=K (.ip v.cells) []:=by
 have a:k < es.length:=(Yb.1 hk).1;have hz:z.beq z=true:=XQ z;have hi:mN (k:Int) es.length=some k:=by
  show (match k.blt es.length with | true=>some k | false=>none)= _;rw [dD.2 a]
 have hn:BL es k=some v:=BR hk;rcases h.2.2 with ⟨rfl | rfl,rfl⟩ | rfl | ⟨j,rfl,_⟩
 .simp at a
 .simp at a
 .simp only [bU,Fs,hz,hi,hn,aj]
 .simp only [bU,Fs,hz,hi,hn,aj]
theorem Ht {st:St} {z:Nat} {e:TypeId} {x:AV} {es:List AV} (h:iS st z e x es) {β:Type} (K:Nat->Option β):fc x K=K es.length:=by
 rcases h.2.2 with ⟨rfl | rfl,rfl⟩ | rfl | ⟨k,rfl,_⟩ <;> rfl
theorem Hr {st:St} {z b:Nat} {e:TypeId} {v:AV} {es:List AV} (w:AV) (h:iS st z e v es) (hr:dp (es.length+1) ⟨.other,z,b,[],false,false⟩=true):
  ∃v' st',iS st' z e v' (es++[w])/\ba st st' (dS v)/\ ∃x,∀{β:Type} (K:Kv β),cT z b e v [w] st K=K v' st' x:=by
 obtain ⟨v',st',x,a,c,d,_⟩:=xc (b:=b) (new:=[w]) h (by simp) hr;exact ⟨v',st',c,d,x,fun K=>qO a K⟩
theorem tj {n z b:Nat} (hn:n<=1000000000) (hb:b<=1000) (hz:1<=z):dp n ⟨.other,z,b,[],false,false⟩=true:=by
 have:n * b<=1000000000 * 1000:=Yy hn hb;simp only [dp,gN (show n * b<=70368744177664 by omega),gN (show n<=70368744177664 by omega),gN hz];rfl
theorem sH {st:St} {z:Nat} {e:TypeId} {v:AV} {es:List AV} (h:iS st z e v es): ∃x,bp z x es/\ ∀n,freeze st 0 (n+1) v= .ok x:=by
 rcases h with ⟨_,hl,⟨rfl | rfl,rfl⟩ | rfl | ⟨k,rfl,_,_⟩⟩
 .exact ⟨.ay,bp.ay,fun _=>rfl⟩
 .exact ⟨.es,bp.emp,fun _=>rfl⟩
 .exact ⟨.sl z es .shut,bp.shut hl,fun _=>rfl⟩
 .exact ⟨.sl z es .wide,bp.wide hl,fun _=>rfl⟩
theorem xq {st:St} {z:Nat} {e:TypeId} {v u:AV} {es:List AV} (h:iS st z e v es) (hu:Fz 1 u) (hb:bare u=true): ∃x,bp z x es/\ ∀{β:Type} (K:AV->Option β),gR st 0 (.tup [v,u]) K=K (.tup [x,u]):=by
 obtain ⟨x,hx,b⟩:=sH h;refine ⟨x,hx,fun K=> ?_⟩;have c:freeze st 0 100 (.tup [v,u])= .ok (.tup [x,u]):=by
  show (do pure (.tup (<- lF (freeze st 0 99) [v,u])):db AV)= _;have a:lF (freeze st 0 99) [v,u]= .ok [x,u]:=by
   simp only [lF,b 98,hu st 0 99 (by omega),aA,aH]
  rw [a];rfl
 have a:bare (.tup [x,u])=true:=by
  show (bare x&&(bare u&&true))=true;rw [hx.bare,hb];rfl
 simp only [gR,c,a,aR]
theorem kq {c d:UInt8} (h:c≠d):¬ ((c.toNat:Nat):Int)=(d.toNat:Int):=by
 intro k;have:c.toNat=d.toNat:=by omega
 exact h (Yr.1 this)
theorem fR {s:List UInt8} {i:Nat} {c:UInt8} (a:i < s.length) (hg:s[i]? =some c):s[i]=c:=by
 have:=Xl a;rw [hg] at this;exact (X4 this).symm
theorem Dj {agg:Bool} {β:Type}: ∀{l:List AV} (_: ∀v∈l,∀(K:AV->Option β),Jr agg v K=K v) (K:List AV->Option β),pS agg l K=K l
 | [],_,_=>rfl
 | v::l,h,K=>by
  show Jr agg v (fun v'=>pS agg l fun a=>K (v'::a))= _;rw [h v (by simp),Dj fun u hu=>h u (WZ _ hu)]
theorem Gi {z:Nat} {l:List AV} (h: ∀v∈l,v.cells.length=z):tg z l=true:=by
 refine XH.2 fun v hv=> ?_;rw [h v hv];exact XQ z
theorem MY {st:St} {base:Nat} {vs xs:List AV} (h:lF (freeze st base 99) vs= .ok xs) (hb:bL xs=true) {β:Type} (K:AV->Option β):gR st base (.tup vs) K=K (.tup xs):=by
 have e:freeze st base 100 (.tup vs)= .ok (.tup xs):=by
  show (do pure (.tup (<- lF (freeze st base 99) vs)):db AV)= _;rw [h];rfl
 have a:bare (.tup xs)=true:=hb;simp only [gR,e,a,aR]
theorem cr {g:AV->db AV} {v x:AV} {vs xs:List AV} (h:g v= .ok x) (hs:lF g vs= .ok xs):lF g (v::vs)= .ok (x::xs):=by
 simp only [lF,h,hs,aA,aH]
theorem sT {g:AV->db AV}:lF g []= .ok []:=rfl
theorem JD {β:Type} {O:rB} (v:AV) (st:St) (K:Kv β):dK O (.ok (.val v)) st K=K v st q0:=id rfl
theorem Hx {O:rB} {st:St} {id:Nat} {t:TypeId} {z:Nat} {old cs:List AV} (v:AV) (hg:st.get id= .ok (.cells t old)) (hl:old.length=z) (hc:cs.length=z) (a:st.ro<=id):
  ∃st',st'.get id= .ok (.cells t cs)/\ba st st' (· =id)/\st'.h=st.h/\ ∃b,∀{β:Type} (K:Kv β),aM O z (.mp id 0) v cs st K=K undef st' b:=by
 refine ⟨st.put id (.cells t cs),St.aQ (St.ch.1 hg).1,ba.put rfl,rfl,⟨[id],.wrote id (.cells t (cJ old 0 cs))⟩,fun K=> ?_⟩;rw [dq hg hc (by omega) a,jT (by omega)]
def Rf (d:Nat) (v:AV):Prop:= ∀f,d<=f->gE f v v=true
theorem Rf.mono {d e:Nat} {v:AV} (h:Rf d v) (hd:d<=e):Rf e v:=fun f hf=>h f (Xs hd hf)
theorem tn: ∀s:List UInt8,mM s s=true
 | []=>rfl
 | a::l=>by simp only [mM,XQ];exact tn l
theorem lI {g:AV->AV->Bool}: ∀{l:List AV},(∀v∈l,g v v=true)->eX g l l=true
 | [],_=>rfl
 | v::l,h=>by simp only [eX,h v (by simp)];exact lI fun u hu=>h u (WZ _ hu)
theorem uy (k:IntKind) (n:Int):Rf 1 (.int k n):=fun f hf=>by cases f with | zero=>omega | succ f=>show (decide (k=k)&&decide (n=n))=true;simp
theorem Ga (s:List UInt8):Rf 1 (.str s):=fun f hf=>by cases f with | zero=>omega | succ f=>exact tn s
theorem CB:Rf 1 .ay:=fun f hf=>by cases f with | zero=>omega | succ f=>rfl
theorem Kn:Rf 1 .es:=fun f hf=>by cases f with | zero=>omega | succ f=>rfl
theorem PN {d:Nat} {cs:List AV} (h: ∀c∈cs,Rf d c):Rf (d+1) (.agg cs):=fun f hf=>by
 cases f with
 | zero=>omega
 | succ f=>exact lI fun v hv=>h v hv f (by omega)
theorem wb {d z:Nat} {p:Perm} {cs:List AV} (h: ∀c∈cs,Rf d c):Rf (d+1) (.sl z cs p):=fun f hf=>by
 cases f with
 | zero=>omega
 | succ f=>
  show (z.beq z&&decide (p=p)&&eX (gE f) cs cs)=true;rw [lI fun v hv=>h v hv f (by omega)];simp
theorem HU {st st':St} {i:Nat} {t:TypeId} {cs:List AV} {d:Nat} (h1:st.get i= .ok (.cells t cs)) (h2:st'.get i= .ok (.cells t cs)) (h: ∀c∈cs,Rf d c) (hd:d<=1000000000000000000):sameAt st st' i=true:=by
 have e:eX (gE 1000000000000000000) cs cs=true:=lI fun v hv=>h v hv _ hd;unfold sameAt;rw [h1,h2];show (t.beq t&&eX (gE 1000000000000000000) cs cs)=true;rw [e];simp
theorem IK {st st':St} {i:Nat} (h:sameAt st st' i=true):apart ⟨[i],.kept⟩ ⟨[],.all st st'⟩=true:=by
 show ([i].all (sameAt st st'))=true;simp [h]
theorem l9 {st st':St}:apart ⟨[],.kept⟩ ⟨[],.all st st'⟩=true:=id rfl
theorem yG {O:rB} {st:St} {id:Nat} {t:TypeId} {z:Nat} {old cs:List AV} (v:AV) (hg:st.get id= .ok (.cells t old)) (hl:old.length=z) (hc:cs.length=z) (a:st.ro<=id):
  ∃st' o,st'.get id= .ok (.cells t cs)/\ba st st' (· =id)/\st'.h=st.h/\ ∀{β:Type} (K:Kv β),aM O z (.mp id 0) v cs st K=K undef st' ⟨[id],.wrote id o⟩:=by
 refine ⟨st.put id (.cells t cs),.cells t (cJ old 0 cs),St.aQ (St.ch.1 hg).1,ba.put rfl,rfl,fun K=> ?_⟩;rw [dq hg hc (by omega) a,jT (by omega)]
theorem pF {a i:Nat} {o:Obj} (h:a≠i):apart ⟨[a],.kept⟩ ⟨[i],.wrote i o⟩=true:=by
 show (![a].contains i)=true;simp [h.symm]
theorem Iu {i:Nat} {o:Obj}:apart ⟨[],.kept⟩ ⟨[i],.wrote i o⟩=true:=id rfl
theorem ba.An {st st':St} {p:Nat} (k:ba st st' (· =p)) {j:Nat} {o:Obj} (hj:j≠p) (h:st.get j= .ok o):st'.get j= .ok o:=k.old j o hj h
theorem ba.IP {st st':St} {p q:Nat->Prop} (k:ba st st' p) (h: ∀j,p j->q j):ba st st' q:=⟨k.ro,k.h,fun j o hj=>k.old j o fun hp=>hj (h j hp)⟩
theorem ba.fresh {a b c:St} {p:Nat->Prop} {i:Nat} (h:ba a b p) (k:ba b c (· =i)) (hi:a.h<=i):ba a c p:=
 ⟨k.ro.trans h.ro,Xs h.h k.h,fun j o hj hg=>k.old j o (fun e=>by
  have:=(St.ch.1 hg).1;omega) (h.old j o hj hg)⟩
def aa {β:Type} (e:Option β) (Q:β->Prop):Prop:= ∃b,e=some b/\Q b
section
variable {β:Type} {Q:β->Prop} {E:Env} {st:St}
theorem aa.step {e a:Option β} (h:e=a) (g:aa a Q):aa e Q:=h ▸ g
theorem aa.some {b:β} (h:Q b):aa (.some b) Q:=⟨b,rfl,h⟩
theorem aa.mono {e:Option β} {a:β->Prop} (h:aa e Q) (k: ∀b,Q b->a b):aa e a:=by
 obtain ⟨b,e,h⟩:=h;exact ⟨b,e,k b h⟩
theorem aa.bind {α:Type} {e:Option α} {R:α->Prop} {K:α->Option β} (h:aa e R) (g: ∀a,R a->aa (K a) Q):aa (az e K) Q:=by
 obtain ⟨a,e,h⟩:=h;rw [e];exact g a h
theorem aa.wide {F:FuncId} {args:List AV} {Q:AV×St->Prop} (h:aa (cA E F args st) Q):aa ((aV E).wide F args st) Q:=by
 obtain ⟨b,e,h⟩:=h;exact ⟨b,il e,h⟩
theorem aa.bare {F:FuncId} {args:List AV} {Q:AV->Prop} (hm:(E.memo F,(E.rule F).isSome)=([],false)) (h:aa (bN E F args) Q):aa ((aV E).bare F args) Q:=by
 obtain ⟨b,e,h⟩:=h;exact ⟨b,aX hm e,h⟩
theorem aa.gm {F:FuncId} {args:List AV} {R:AV×St->Prop} (h:aa ((aV E).wide F args st) R) (h1:E.isLook F=false) (h2:(bL (args.map strip)&& !E.full F)=false) {K:Kv β} (g: ∀v s,R (v,s)->aa (K v s ⟨[],.all st s⟩) Q):aa (bc (aV E) F args st K) Q:=by
 obtain ⟨⟨v,s⟩,e,h⟩:=h;exact aa.step (gV (E:=E) K h1 h2 e) (g v s h)
theorem aa.one {v:AV} (h:VM.one v=true) {e:Option β} (g:aa e Q):aa (ab v e) Q:=aa.step (kJ h e) g
abbrev ui:=List (Nat×TypeId×List AV)
structure Vw (st:St) (l:ui):Prop where
 v: ∀q∈l,st.get q.1= .ok (.cells q.2.1 q.2.2)/\st.ro<=q.1
 nd:(l.map (·.1)).Nodup
 ro:st.ro<=st.h
variable {l l1 l2:ui}
theorem Vw.start (h:st.ro<=st.h):Vw st []:=⟨(fun _ h=>by cases h),List.nodup_nil,h⟩
theorem Vw.get (w:Vw st l) {a:Nat} {t:TypeId} {cs:List AV} (h:(a,t,cs)∈l):st.get a= .ok (.cells t cs):=(w.v _ h).1
theorem Vw.sub {a:ui} (w:Vw st l) (h:List.Sublist a l):Vw st a:=⟨fun q b=>w.v q (h.subset b),(h.map _).nodup w.nd,w.ro⟩
theorem Vw.alloc (w:Vw st l) (t:TypeId) (cs:List AV):Vw (st.add (.cells t cs)) ((st.h,t,cs)::l):=by
 refine ⟨fun q a=> ?_, ?_,Yt w.ro⟩
 .rcases Xb.1 a with rfl | a
  .exact ⟨St.dE,w.ro⟩
  .exact ⟨St.jc (w.v q a).1,(w.v q a).2⟩
 .rw [W8,Yk];refine ⟨fun hm=> ?_,w.nd⟩;obtain ⟨q,a,e⟩:=XY.1 hm;have h1:=(St.ch.1 (w.v q a).1).1;simp only at e;omega
theorem Vw.putAt {a:Nat} {t t':TypeId} {old:List AV} (w:Vw st (l1++(a,t,old)::l2)) (cs:List AV):Vw (st.put a (.cells t' cs)) (l1++(a,t',cs)::l2):=by
 have hm:(a,t,old)∈l1++(a,t,old)::l2:=List.mem_append_right _ WS;have hg:=w.get hm;have hnd:=w.nd;rw [Xh,W8] at hnd;refine ⟨fun q b=> ?_,by rw [Xh,W8];exact hnd,w.ro⟩;have other: ∀q∈l1++(a,t,old)::l2,q.1≠a->(st.put a (.cells t' cs)).get q.1= .ok (.cells q.2.1 q.2.2)/\st.ro<=q.1:=fun q b hne=>
  ⟨by rw [St.aY (fun e=>hne e.symm)];exact (w.v q b).1,(w.v q b).2⟩
 rcases Xj.1 b with b | b
 .refine other q (List.mem_append_left _ b) fun e=> ?_;have:=(List.nodup_append.1 hnd).2.2 q.1 (List.mem_map_of_mem b) a WS;exact this e
 .rcases Xb.1 b with rfl | b
  .exact ⟨St.aQ (St.ch.1 hg).1,(w.v _ hm).2⟩
  .refine other q (List.mem_append_right _ (WZ _ b)) fun e=> ?_;have h1:=(Yk.1 (List.nodup_append.1 hnd).2.1).1;have h2:q.1∈l2.map (·.1):=List.mem_map_of_mem b;rw [e] at h2;exact h1 h2
theorem aa.Cd (w:Vw st l) {ty:TypeId} {cs:List AV} {K:St->Option β} (g: ∀s,s.h=st.h+1->Vw s ((st.h,ty,cs)::l)->aa (K s) Q):aa (bh (st.add (.cells ty cs)) K) Q:=g _ rfl (w.alloc ty cs)
theorem aa.ng {O:rB} (l1:ui) {a:Nat} {ty:TypeId} {old:List AV} (w:Vw st (l1++(a,ty,old)::l2)) {z:Nat} {v:AV} {cs:List AV} {K:Kv β}
  (g: ∀s b,s.h=st.h->Vw s (l1++(a,ty,cs)::l2)->aa (K VM.undef s b) Q) (hz:old.length=z:=by rfl) (hc:cs.length=z:=by rfl):aa (aM O z (.mp a 0) v cs st K) Q:=by
 have hm:(a,ty,old)∈l1++(a,ty,old)::l2:=List.mem_append_right _ WS;have e:aM O z (.mp a 0) v cs st K=K VM.undef (st.put a (.cells ty cs)) ⟨[a],.wrote a (.cells ty cs)⟩:=by
  rw [dq (w.get hm) hc (by omega) (w.v _ hm).2,jT (by omega)]
 exact aa.step e (g _ _ rfl (w.putAt cs))
theorem aa.B5 {O:rB} (l1:ui) {a:Nat} {ty:TypeId} {old:List AV} (w:Vw st (l1++(a,ty,old)::l2)) {off:Nat} {v:AV} (hl:off+1<=old.length) {K:Kv β}
  (g: ∀s b,s.h=st.h->Vw s (l1++(a,ty,cJ old off [v])::l2)->aa (K VM.undef s b) Q):aa (aM O 1 (.mp a off) v [v] st K) Q:=by
 have hm:(a,ty,old)∈l1++(a,ty,old)::l2:=List.mem_append_right _ WS;exact aa.step (dq (cs:=[v]) (z:=1) (w.get hm) rfl hl (w.v _ hm).2 K) (g _ _ rfl (w.putAt _))
theorem aa.fT {a:Nat} {ty:TypeId} {cs:List AV} (hm:(a,ty,cs)∈l) (w:Vw st l) {o:Nat} {v:AV} {post:List AV} (hv:cs.drop o=v::post) {K:AV->List Nat->Option β} (g:aa (K v [a]) Q):aa (al 1 false (.mp a o) st K) Q:=by
 refine aa.step (bu (w.get hm) _ _ _ _) ?_;rw [hv];exact g
theorem aa.fX {a:Nat} {ty:TypeId} {cs:List AV} (hm:(a,ty,cs)∈l) (w:Vw st l) {z:Nat} (hz:cs.length=z) {K:AV->List Nat->Option β} (g:aa (K (.agg cs) [a]) Q):aa (al z true (.mp a 0) st K) Q:=by
 refine aa.step (bu (w.get hm) _ _ _ _) ?_;rw [Xc,II hz];exact g
theorem aa.eq {e:Option β} {b:β} (h:aa e (· =b)):e= .some b:=by
 obtain ⟨c,e,rfl⟩:=h;exact e
end
end Go.VM
namespace Go.Lex
open Go.VM
def wh (p:UInt8->Bool) (s:List UInt8):Nat:=(s.takeWhile p).length
def bH (b:UInt8):Bool:=b==32||b==9||b==10||b==13
def jq (b:UInt8):Bool:=(decide (97<=b.toNat)&&decide (b.toNat<=122))||b==95
def aI (b:UInt8):Bool:=decide (48<=b.toNat)&&decide (b.toNat<=57)
def eH (b:UInt8):Bool:=jq b||aI b||(decide (65<=b.toNat)&&decide (b.toNat<=90))||b==39
def rem:List UInt8->Nat->Option Nat
 | [],_=>none
 | [_],_=>none
 | a::b::l,d=>
  if a=40/\b=42 then (rem l (d+1)).map (· +2)
  else if a=42/\b=41 then (if d=1 then some 2 else (rem l (d - 1)).map (· +2))
  else (rem (b::l) d).map (· +1)
def words:List (List UInt8):=[[108,101,116],[114,101,99],[105,110],[102,117,110],[105,102],[116,104,101,110],[101,108,115,101],[109,97,116,99,104],[119,105,116,104],[116,114,117,101],[102,97,108,115,101],[109,111,100]]
def pt (w:List UInt8):Nat:=if w=[95] then 8 else if words.contains w then 3 else 4
def ph (a:Nat) (c:UInt8):Nat:=a * 10+(c.toNat - 48)
def jO (acc:Nat) (l:List UInt8):Nat:=l.foldl ph acc
theorem yL (a:Nat):jO a []=a:=id rfl
theorem ve (a:Nat) (c:UInt8) (l:List UInt8):jO a (c::l)=jO (ph a c) l:=id rfl
def pA (c:UInt8):Bool:=c==43||c==45
def fY:List UInt8->Nat
 | c:: _=>if pA c then 1 else 0
 | []=>0
def ir (s:List UInt8):Nat×Int:=
 match s with
 | []=>(0,0)
 | e::l=>
  if e=101\/e=69 then
   let d:=wh aI (l.drop (fY l))
   if d=0 then (0,0)
   else
    let x:Int:=((min (jO 0 ((l.drop (fY l)).take d)) 1000000:Nat):Int)
    (1+fY l+d,if l.head?=some 45 then -x else x)
  else (0,0)
def number (s:List UInt8):Nat×Nat:=
 let n:=wh aI s
 if (s.drop n).head?=some 46 then
  let k:=wh aI (s.drop (n+1))
  let x:=ir (s.drop (n+1+k))
  (if n+k > 15\/x.2 - (k:Int) < -22\/x.2 - (k:Int) > 22 then 9 else 6,n+1+k+x.1)
 else (5,n)
def iE:List UInt8->Nat
 | []=>0
 | c::l=>if c=10 then 0 else if c=34 then 1 else iE l+1
def vN (c:UInt8):Bool:=c==110||c==116||c==92||c==34
def dT:List UInt8->Nat×Nat
 | []=>(9,0)
 | [c]=>if c=10 then (9,0) else if c=34 then (7,1) else (9,1)
 | c::d::l=>
  if c=10 then (9,0) else if c=34 then (7,1)
  else if c=92 then (if vN d then ((dT l).1,(dT l).2+2) else (9,iE (d::l)+1))
  else ((dT (d::l)).1,(dT (d::l)).2+1)
def jE:List (List UInt8):=[[45,62],[58,58],[60,62],[60,61],[62,61],[43,46],[45,46],[42,46],[47,46],[38,38],[124,124]]
def Dl:List UInt8:=[40,41,91,93,44,59,124,61,60,62,43,45,42,47,94,64]
def kQ (c:UInt8):Bool:=Dl.contains c
def cut (s:List UInt8):Nat×Nat:=
 match s with
 | []=>(9,0)
 | c::l=>
  if bH c then (1,wh bH s)
  else if s.take 2=[40,42] then (match rem (s.drop 2) 1 with | some n=>(2,n+2) | none=>(9,s.length))
  else if jq c then (pt (s.takeWhile eH),wh eH s)
  else if aI c then number s
  else if c=34 then ((dT l).1,(dT l).2+1)
  else if jE.contains (s.take 2) then (8,2)
  else if kQ c then (8,1)
  else (9,if gK s=0 then 1 else gK s)
def nS:Nat->List UInt8->List (Nat×List UInt8)
 | 0,_=>[]
 | n+1,s=>match s with
  | []=>[]
  | _:: _=>((cut s).1,s.take (cut s).2)::nS n (s.drop (cut s).2)
def tokens (s:List UInt8):List (Nat×List UInt8):=nS s.length s
theorem lk (p:UInt8->Bool) (s:List UInt8):wh p s<=s.length:=(List.takeWhile_sublist p).length_le
theorem wI (p:UInt8->Bool) (s:List UInt8):s.take (wh p s)=s.takeWhile p:=by
 unfold wh
 induction s with
 | nil=>rfl
 | cons c l ih=>
  rw [XD];split
  .simp [ih]
  .simp
theorem Hs (p:UInt8->Bool) (s:List UInt8):s.drop (wh p s)=s.dropWhile p:=by
 unfold wh
 induction s with
 | nil=>rfl
 | cons c l ih=>
  rw [XD,X1];split
  .simp [ih]
  .simp
theorem PH (p:UInt8->Bool) (s:List UInt8):s.length=wh p s+(s.dropWhile p).length:=by
 rw [<- Hs,Xa];have:=lk p s;omega
theorem eK (p:UInt8->Bool) (c:UInt8) (l:List UInt8):wh p (c::l)=if p c=true then wh p l+1 else 0:=by
 unfold wh;rw [XD];split <;> simp
theorem oe: ∀(s:List UInt8) (d n:Nat),rem s d=some n->2<=n/\n<=s.length
 | [],_,_,h=>by simp [rem] at h
 | [_],_,_,h=>by simp [rem] at h
 | a::b::l,d,n,h=>by
  simp only [rem] at h;split at h
  .obtain ⟨m,hm,rfl⟩:=Xq.1 h;have:=oe l (d+1) m hm;simp;omega
  .split at h
   .split at h
    .cases h;simp
    .obtain ⟨m,hm,rfl⟩:=Xq.1 h;have:=oe l (d - 1) m hm;simp;omega
   .obtain ⟨m,hm,rfl⟩:=Xq.1 h;have:=oe (b::l) d m hm;simp at this ⊢;omega
theorem BX: ∀(s:List UInt8),iE s<=s.length
 | []=>WW _
 | c::l=>by
  have:=BX l;simp only [iE];split
  .omega
  .split
   .simp
   .simp;exact this
theorem FT: ∀(s:List UInt8),(dT s).2<=s.length
 | []=>WW _
 | [c]=>by
  simp only [dT];split
  .simp
  .split <;> simp
 | c::d::l=>by
  have h1:=FT l;have h2:=FT (d::l);have h3:=BX (d::l);simp only [dT,Xk] at *;split
  .simp
  .split
   .simp
   .split
    .split
     .simp;omega
     .simp;omega
    .simp;omega
theorem CL (l:List UInt8):fY l<=l.length:=by
 cases l with
 | nil=>exact WW _
 | cons c l=>simp only [fY];split <;> simp
theorem Mj (s:List UInt8):(ir s).1<=s.length:=by
 unfold ir;cases s with
 | nil=>simp
 | cons e l=>
  dsimp only;split
  .have hg:=CL l;have hd:=lk aI (l.drop (fY l));rw [Xa] at hd;split
   .simp
   .simp only [Xk];omega
  .simp
theorem Ab (s:List UInt8) (h:1<=wh aI s):1<=(number s).2/\(number s).2<=s.length:=by
 unfold number;have h1:=lk aI s;dsimp only;split
 .rename_i hd;have a:wh aI s < s.length:=by
   rcases Nat.lt_or_ge (wh aI s) s.length with q | q
   .exact q
   .rw [List.drop_of_length_le q] at hd;cases hd
  have h2:=lk aI (s.drop (wh aI s+1));rw [Xa] at h2;have h3:=Mj (s.drop (wh aI s+1+wh aI (s.drop (wh aI s+1))));rw [Xa] at h3;dsimp only;omega
 .exact ⟨h,h1⟩
theorem kY {s:List UInt8} (h:s≠[]):1<=(cut s).2/\(cut s).2<=s.length:=by
 cases s with
 | nil=>exact absurd rfl h
 | cons c l=>
  unfold cut;dsimp only;split
  .rename_i hb;exact ⟨by rw [eK,if_pos hb];omega,lk _ _⟩
  split
  .rename_i h2;have hl:2<=(c::l).length:=by
    have:=Xy List.length h2;rw [Xg] at this;simp at this;simp;omega
   cases hr:rem (List.drop 2 (c::l)) 1 with
   | some n=>
    have:=oe _ _ _ hr;rw [Xa] at this;dsimp only;omega
   | none=>dsimp only;omega
  split
  .rename_i hb;have a:eH c=true:=by unfold eH;rw [hb];rfl
   exact ⟨by rw [eK,if_pos a];omega,lk _ _⟩
  split
  .rename_i hb;exact Ab _ (by rw [eK,if_pos hb];omega)
  split
  .have:=FT l;simp;omega
  split
  .rename_i h2;have hl:2<=(c::l).length:=by
    rcases Nat.lt_or_ge (c::l).length 2 with q | q
    .exfalso;have:l=[]:=by
      cases l with
      | nil=>rfl
      | cons d l=>simp at q;omega
     subst this;simp [jE] at h2
    .exact q
   dsimp only;omega
  split
  .simp
  .have:=sn (l:=c::l) (by simp);dsimp only;split
   .simp
   .omega
theorem uW: ∀(n m:Nat) (s:List UInt8),s.length<=n->s.length<=m->nS n s=nS m s
 | 0,0,_,_,_=>rfl
 | 0,m+1,s,h,_=>by
  have:s=[]:=XF (by omega);subst this;rfl
 | n+1,0,s,_,h=>by
  have:s=[]:=XF (by omega);subst this;rfl
 | n+1,m+1,[],_,_=>rfl
 | n+1,m+1,c::l,hn,hm=>by
  have hc:=kY (s:=c::l) (by simp);simp only [nS];rw [uW n m ((c::l).drop (cut (c::l)).2) (by rw [Xa];omega) (by rw [Xa];omega)]
theorem pG {s:List UInt8} (h:s≠[]):tokens s=((cut s).1,s.take (cut s).2)::tokens (s.drop (cut s).2):=by
 cases s with
 | nil=>exact absurd rfl h
 | cons c l=>
  have hc:=kY (s:=c::l) (by simp);show nS (l.length+1) (c::l)= _;simp only [nS];congr 1;exact uW _ _ _ (by rw [Xa];simp at hc ⊢;omega) (WW _)
theorem yk:tokens []=[]:=rfl
end Go.Lex
namespace Go.Parse
open Go.VM Go.Lex
abbrev aU:=Nat×List UInt8
inductive T where
 | mk (k tk:Nat) (tx:List UInt8) (kids:List T)
 deriving Inhabited
def T.kids:T->List T | .mk _ _ _ l=>l
def bn (t:aU):Bool:=t.1==1||t.1==2
def nx (r:List aU):aU:=
 match r.dropWhile bn with
 | []=>(0,[])
 | t:: _=>t
def leaf (t:aU) (ks:List T):T:= .mk 1 t.1 t.2 ks
def iy (t:aU):T:=leaf t []
def aJ (r:List aU):T:=leaf (nx r) ((r.takeWhile bn).map iy)
def aL (r:List aU):List aU:=(r.dropWhile bn).drop 1
def bY (s:List UInt8) (r:List aU):Bool:=((nx r).1==3||(nx r).1==8)&&(nx r).2==s
def isAny (l:List (List UInt8)) (r:List aU):Bool:=((nx r).1==3||(nx r).1==8)&&l.any fun s=>s==(nx r).2
def missing (s:List UInt8):T:= .mk 2 0 s []
def cN (s:List UInt8) (r:List aU):T:=if bY s r then aJ r else missing s
def bg (s:List UInt8) (r:List aU):List aU:=if bY s r then aL r else r
abbrev node (k:Nat) (l:List T):T:= .mk k 0 [] l
def mU:List UInt8:=[108,101,116]
def dn:List UInt8:=[114,101,99]
def L4:List UInt8:=[105,110]
def Nr:List UInt8:=[102,117,110]
def Ur:List UInt8:=[105,102]
def rW:List UInt8:=[116,104,101,110]
def rT:List UInt8:=[101,108,115,101]
def CG:List UInt8:=[109,97,116,99,104]
def bD:List UInt8:=[119,105,116,104]
def gw:List UInt8:=[116,114,117,101]
def eD:List UInt8:=[102,97,108,115,101]
def kL:List UInt8:=[101,120,112,114]
def iH:List UInt8:=[112,97,116,116,101,114,110]
def sj:List UInt8:=[61]
def fB:List UInt8:=[45,62]
def gO:List UInt8:=[124]
def zb:List UInt8:=[58,58]
def dw:List UInt8:=[40]
def LQ:List UInt8:=[41]
def cU:List UInt8:=[91]
def NB:List UInt8:=[93]
def Qi:List UInt8:=[44]
def Ua:List UInt8:=[59]
def np:List UInt8:=[95]
def opsOf:Nat->List (List UInt8)
 | 0=>[[124,124]]
 | 1=>[[38,38]]
 | 2=>[[61],[60,62],[60],[60,61],[62],[62,61]]
 | 3=>[[64],[94]]
 | 4=>[[58,58]]
 | 5=>[[43],[45],[43,46],[45,46]]
 | _=>[[42],[47],[42,46],[47,46],[109,111,100]]
def leftOf (k:Nat):Bool:=k==2||k==5||k==6
def cI (pat:Bool) (r:List aU):Bool:=
 (nx r).1==4||(nx r).1==5||(nx r).1==7||(nx r).1==9||(nx r).1==(if pat then 5 else 6)||isAny [gw,eD,dw,cU,if pat then np else dw] r
inductive jI where
 | expr
 | whole
 | level (k:Nat)
 | ops (k:Nat) (acc:T)
 | neg
 | args (acc:T)
 | atom (pat:Bool)
 | closed (list pat:Bool)
 | items (list pat:Bool)
 | pattern
 | binding
 | params
 | arm
 | arms
def iM (what:List UInt8) (r:List aU):T:=if (nx r).1=0 then missing what else node 3 [aJ r]
def je (r:List aU):List aU:=if (nx r).1=0 then r else aL r
def kindOf:Bool->Bool->Nat
 | false,false=>14
 | true,false=>15
 | false,true=>17
 | true,true=>18
def ry (list:Bool):List UInt8:=if list then Ua else Qi
def gQ (list:Bool):List UInt8:=if list then NB else LQ
abbrev R:=Option (List T×List aU)
def P:Nat->jI->Nat->List aU->R
 | 0,_,_,_=>none
 | n+1,.expr,d,r=>if d=64 then some ([iM kL r],je r) else P n .whole (d+1) r
 | n+1,.whole,d,r=>
  if bY mU r then do
   let (bs,r2) <- P n .binding d (aL r)
   let (es,f) <- P n .expr d (bg L4 r2)
   some ([node 6 (aJ r::bs++[cN L4 r2]++es)],f)
  else if bY Nr r then do
   let (a,e) <- P n (.atom true) d (aL r)
   let (ps,r2) <- P n .params d e
   let (es,f) <- P n .expr d (bg fB r2)
   some ([node 7 (aJ r::a++ps++[cN fB r2]++es)],f)
  else if bY Ur r then do
   let (a,e) <- P n .expr d (aL r)
   let (b,r2) <- P n .expr d (bg rW e)
   let (c,f) <- P n .expr d (bg rT r2)
   some ([node 8 (aJ r::a++[cN rW e]++b++[cN rT r2]++c)],f)
  else if bY CG r then do
   let (a,e) <- P n .expr d (aL r)
   let r2:=bg bD e
   let bar:=if bY gO r2 then [aJ r2] else []
   let (b,f) <- P n .arm d (if bY gO r2 then aL r2 else r2)
   let (cs,g) <- P n .arms d f
   some ([node 9 (aJ r::a++[cN bD e]++bar++b++cs)],g)
  else P n (.level 0) d r
 | n+1,.level k,d,r=>
  if k=7 then P n .neg d r
  else do
   let (a,e) <- P n (.level (k+1)) d r
   match a with
   | [t]=>P n (.ops k t) d e
   | _=>none
 | n+1,.ops k acc,d,r=>
  if isAny (opsOf k) r then do
   let (b,e) <- P n (.level (if leftOf k then k+1 else k)) d (aL r)
   P n (.ops k (node 11 (acc::aJ r::b))) d e
  else some ([acc],r)
 | n+1,.neg,d,r=>
  if isAny [[45],[45,46]] r then
   if d=64 then some ([node 12 [aJ r,iM kL (aL r)]],je (aL r))
   else do
    let (a,e) <- P n .neg (d+1) (aL r)
    some ([node 12 (aJ r::a)],e)
  else do
   let (a,e) <- P n (.atom false) d r
   match a with
   | [t]=>P n (.args t) d e
   | _=>none
 | n+1,.args acc,d,r=>
  if cI false r then do
   let (b,e) <- P n (.atom false) d r
   P n (.args (node 13 (acc::b))) d e
  else some ([acc],r)
 | n+1,.atom pat,d,r=>
  if cI pat r then
   if (nx r).1=9 then some ([node 3 [aJ r]],aL r)
   else if bY dw r then P n (.closed false pat) d r
   else if bY cU r then P n (.closed true pat) d r
   else some ([aJ r],aL r)
  else some ([missing (if pat then iH else kL)],r)
 | n+1,.closed list pat,d,r=>
  let e:=aL r
  if bY (gQ list) e then some ([node (kindOf list pat) [aJ r,aJ e]],aL e)
  else do
   let (a,r2) <- P n (if pat then .pattern else .expr) d e
   let (bs,f) <- P n (.items list pat) d r2
   some ([node (kindOf list pat) (aJ r::a++bs++[cN (gQ list) f])],bg (gQ list) f)
 | n+1,.items list pat,d,r=>
  if bY (ry list) r then do
   let (a,e) <- P n (if pat then .pattern else .expr) d (aL r)
   let (bs,r2) <- P n (.items list pat) d e
   some (aJ r::a++bs,r2)
  else some ([],r)
 | n+1,.pattern,d,r=>
  if d=64 then some ([iM iH r],je r)
  else do
   let (a,e) <- P n (.atom true) (d+1) r
   if bY zb e then do
    let (b,r2) <- P n .pattern (d+1) (aL e)
    some ([node 16 (a++aJ e::b)],r2)
   else some (a,e)
 | n+1,.binding,d,r=>do
  let rc:=if bY dn r then [aJ r] else []
  let r0:=if bY dn r then aL r else r
  let (xs,e) <- if (nx r0).1=4 then (do
    let (ps,e) <- P n .params d (aL r0)
    some (aJ r0::ps,e))
   else P n (.atom true) d r0
  let (es,r2) <- P n .expr d (bg sj e)
  some (rc++xs++[cN sj e]++es,r2)
 | n+1,.params,d,r=>
  if cI true r then do
   let (a,e) <- P n (.atom true) d r
   let (bs,r2) <- P n .params d e
   some (a++bs,r2)
  else some ([],r)
 | n+1,.arm,d,r=>do
  let (a,e) <- P n .pattern d r
  let (es,r2) <- P n .expr d (bg fB e)
  some ([node 10 (a++[cN fB e]++es)],r2)
 | n+1,.arms,d,r=>
  if bY gO r then do
   let (a,e) <- P n .arm d (aL r)
   let (bs,r2) <- P n .arms d e
   some (aJ r::a++bs,r2)
  else some ([],r)
def skip:Nat->List aU->List T×List aU
 | 0,r=>([],r)
 | n+1,r=>if (nx r).1≠0/\bY mU r=false then ((aJ r::(skip n (aL r)).1),(skip n (aL r)).2) else ([],r)
def decls:Nat->List aU->Option (List T)
 | 0,_=>none
 | n+1,r=>
  if (nx r).1=0 then some [aJ r]
  else if bY mU r then do
   let (bs,a) <- P n .binding 0 (aL r)
   let l <- decls n a
   some (node 5 (aJ r::bs)::l)
  else do
   let l <- decls n (skip r.length r).2
   some (node 3 (skip r.length r).1::l)
def fuel (r:List aU):Nat:=30 * (r.length+2)
def doc (r:List aU):T:=node 4 ((decls (fuel r) r).getD [])
theorem CX (r:List aU):(r.dropWhile bn).length<=r.length:=(Yc _).length_le
theorem iD (r:List aU):(aL r).length<=r.length:=by
 unfold aL;rw [Xa];have:=CX r;omega
theorem ej {r:List aU} (h:(nx r).1≠0):(aL r).length < r.length:=by
 unfold aL;rw [Xa];have:=CX r;unfold nx at h;cases hd:r.dropWhile bn with
 | nil=>rw [hd] at h;exact absurd rfl h
 | cons t l=>rw [hd] at this;simp at this ⊢;omega
theorem hU {s:List UInt8} {r:List aU} (h:bY s r=true):(nx r).1≠0:=by
 intro e;simp [bY,e] at h
theorem pX {l:List (List UInt8)} {r:List aU} (h:isAny l r=true):(nx r).1≠0:=by
 intro e;simp [isAny,e] at h
theorem nK {pat:Bool} {r:List aU} (h:cI pat r=true):(nx r).1≠0:=by
 intro e;cases pat <;> simp [cI,isAny,e] at h
theorem jC (s:List UInt8) (r:List aU):(bg s r).length<=r.length:=by
 unfold bg;split
 .exact iD r
 .exact WW _
theorem xF (r:List aU):(je r).length<=r.length:=by
 unfold je;split
 .exact WW _
 .exact iD r
def dR:jI->Nat
 | .expr=>13
 | .whole=>12
 | .level k=>11 - k
 | .ops _ _=>0
 | .neg=>3
 | .args _=>2
 | .atom _=>1
 | .closed _ _=>0
 | .items _ _=>0
 | .pattern=>13
 | .binding=>14
 | .params=>2
 | .arm=>14
 | .arms=>0
def JV:jI->Prop
 | .level k=>k<=7
 | .ops k _=>k<=6
 | _=>True
def single:jI->Bool
 | .items _ _=>false
 | .binding=>false
 | .params=>false
 | .arms=>false
 | _=>true
def Q2:jI->List aU->Prop
 | .atom pat,r=>cI pat r=true
 | .closed _ _,r=>(nx r).1≠0
 | _,_=>False
def at':jI->List aU->Prop
 | .closed _ _,r=>(nx r).1≠0
 | _,_=>True
structure Qq (job:jI) (r:List aU) (x:R):Prop where
 some: ∃l r',x=some (l,r')/\r'.length<=r.length/\(single job=true-> ∃t,l=[t])/\(Q2 job r->r'.length < r.length)
theorem cu {job:jI} {r r':List aU} {l:List T} {x:R} (h:x= .some (l,r')) (h1:r'.length<=r.length) (h2:single job=true-> ∃t,l=[t]) (h3:Q2 job r->r'.length < r.length):Qq job r x:=⟨⟨l,r',h,h1,h2,h3⟩⟩
theorem Sf: ∀(N:Nat) (job:jI) (d:Nat) (r:List aU),JV job->at' job r->16 * r.length+dR job < N->Qq job r (P N job d r):=by
 intro N
 induction N with
 | zero=>intro job d r _ _ h;omega
 | succ n ih=>
  intro job d r ho ha h;have one: ∀{job:jI} {d:Nat} {r:List aU},JV job->at' job r->16 * r.length+dR job < n->single job=true-> ∃t r',P n job d r=some ([t],r')/\r'.length<=r.length/\(Q2 job r->r'.length < r.length):=by
   intro job d r h1 h2 h3 h4;obtain ⟨l,r',e,k1,k2,q⟩:=(ih job d r h1 h2 h3).some;obtain ⟨t,rfl⟩:=k2 h4;exact ⟨t,r',e,k1,q⟩
  have many: ∀{job:jI} {d:Nat} {r:List aU},JV job->at' job r->16 * r.length+dR job < n-> ∃l r',P n job d r=some (l,r')/\r'.length<=r.length:=by
   intro job d r h1 h2 h3;obtain ⟨l,r',e,k1,_,_⟩:=(ih job d r h1 h2 h3).some;exact ⟨l,r',e,k1⟩
  cases job with
  | expr=>
   simp only [P];by_cases hd:d=64
   .rw [if_pos hd];exact cu rfl (xF r) (fun _=>⟨_,rfl⟩) (fun f=>f.elim)
   .rw [if_neg hd];simp only [dR] at h;obtain ⟨t,r',e,k1,_⟩:=one (job:= .whole) (d:=d+1) (r:=r) trivial trivial (by simp only [dR];omega) rfl;exact cu e k1 (fun _=>⟨_,rfl⟩) (fun f=>f.elim)
  | whole=>
   simp only [dR] at h;simp only [P];by_cases h1:bY mU r=true
   .rw [if_pos h1];have ht:=ej (hU h1);obtain ⟨bs,r2,j,k2⟩:=many (job:= .binding) (d:=d) (r:=aL r) trivial trivial (by simp only [dR];omega);have hn:=jC L4 r2;obtain ⟨t,o,p,q,_⟩:=one (job:= .expr) (d:=d) (r:=bg L4 r2) trivial trivial (by simp only [dR];omega) rfl;refine cu (l:=[node 6 (aJ r::bs++[cN L4 r2]++[t])]) (r':=o) ?_ (by omega) (fun _=>⟨_,rfl⟩) (fun f=>f.elim);simp only [j,p,bind,Option.bind]
   rw [if_neg h1];by_cases h2:bY Nr r=true
   .rw [if_pos h2];have ht:=ej (hU h2);obtain ⟨a,g,i,k1,_⟩:=one (job:= .atom true) (d:=d) (r:=aL r) trivial trivial (by simp only [dR];omega) rfl;obtain ⟨ps,r2,j,k2⟩:=many (job:= .params) (d:=d) (r:=g) trivial trivial (by simp only [dR];omega);have hn:=jC fB r2;obtain ⟨t,o,p,q,_⟩:=one (job:= .expr) (d:=d) (r:=bg fB r2) trivial trivial (by simp only [dR];omega) rfl;refine cu (l:=[node 7 (aJ r::[a]++ps++[cN fB r2]++[t])]) (r':=o) ?_ (by omega) (fun _=>⟨_,rfl⟩) (fun f=>f.elim);simp only [i,j,p,bind,Option.bind]
   rw [if_neg h2];by_cases h3:bY Ur r=true
   .rw [if_pos h3];have ht:=ej (hU h3);obtain ⟨a,g,i,k1,_⟩:=one (job:= .expr) (d:=d) (r:=aL r) trivial trivial (by simp only [dR];omega) rfl;have s:=jC rW g;obtain ⟨b,r2,j,k2,_⟩:=one (job:= .expr) (d:=d) (r:=bg rW g) trivial trivial (by simp only [dR];omega) rfl;have x:=jC rT r2;obtain ⟨c,o,p,q,_⟩:=one (job:= .expr) (d:=d) (r:=bg rT r2) trivial trivial (by simp only [dR];omega) rfl;refine cu (l:=[node 8 (aJ r::[a]++[cN rW g]++[b]++[cN rT r2]++[c])]) (r':=o) ?_ (by omega) (fun _=>⟨_,rfl⟩) (fun f=>f.elim);simp only [i,j,p,bind,Option.bind]
   rw [if_neg h3];by_cases h4:bY CG r=true
   .rw [if_pos h4];have ht:=ej (hU h4);obtain ⟨a,g,i,k1,_⟩:=one (job:= .expr) (d:=d) (r:=aL r) trivial trivial (by simp only [dR];omega) rfl;have s:=jC bD g;have hb:(if bY gO (bg bD g) then aL (bg bD g) else bg bD g).length<=g.length:=by
     split
     .have:=iD (bg bD g);omega
     .exact s
    obtain ⟨b,o,j,k2,_⟩:=one (job:= .arm) (d:=d) (r:=if bY gO (bg bD g) then aL (bg bD g) else bg bD g) trivial trivial (by simp only [dR];omega) rfl;obtain ⟨cs,y,p,q⟩:=many (job:= .arms) (d:=d) (r:=o) trivial trivial (by simp only [dR];omega);refine cu (l:=[node 9 (aJ r::[a]++[cN bD g]++(if bY gO (bg bD g) then [aJ (bg bD g)] else [])++[b]++cs)]) (r':=y) ?_ (by omega) (fun _=>⟨_,rfl⟩) (fun f=>f.elim);simp only [i,j,p,bind,Option.bind]
   rw [if_neg h4];obtain ⟨t,r',e,k1,_⟩:=one (job:= .level 0) (d:=d) (r:=r) (XC _) trivial (by simp only [dR];omega) rfl;exact cu e k1 (fun _=>⟨_,rfl⟩) (fun f=>f.elim)
  | level k=>
   have hk:k<=7:=ho;simp only [dR] at h;simp only [P];by_cases v:k=7
   .rw [if_pos v];obtain ⟨t,r',e,k1,_⟩:=one (job:= .neg) (d:=d) (r:=r) trivial trivial (by simp only [dR];omega) rfl;exact cu e k1 (fun _=>⟨_,rfl⟩) (fun f=>f.elim)
   .rw [if_neg v];obtain ⟨t,g,i,k1,_⟩:=one (job:= .level (k+1)) (d:=d) (r:=r) (show k+1<=7 by omega) trivial (by simp only [dR];omega) rfl;obtain ⟨u,r2,j,k2,_⟩:=one (job:= .ops k t) (d:=d) (r:=g) (show k<=6 by omega) trivial (by simp only [dR];omega) rfl;refine cu (l:=[u]) (r':=r2) ?_ (by omega) (fun _=>⟨_,rfl⟩) (fun f=>f.elim);simp only [i,j,bind,Option.bind]
  | ops k acc=>
   have hk:k<=6:=ho;simp only [dR] at h;simp only [P];by_cases h1:isAny (opsOf k) r=true
   .rw [if_pos h1];have ht:=ej (pX h1);obtain ⟨b,g,i,k1,_⟩:=one (job:= .level (if leftOf k then k+1 else k)) (d:=d) (r:=aL r) (show (if leftOf k then k+1 else k)<=7 by split <;> omega) trivial (by simp only [dR];omega) rfl;obtain ⟨u,r2,j,k2,_⟩:=one (job:= .ops k (node 11 [acc,aJ r,b])) (d:=d) (r:=g) hk trivial (by simp only [dR];omega) rfl;refine cu (l:=[u]) (r':=r2) ?_ (by omega) (fun _=>⟨_,rfl⟩) (fun f=>f.elim);simp only [i,j,bind,Option.bind]
   .rw [if_neg h1];exact cu rfl (WW _) (fun _=>⟨_,rfl⟩) (fun f=>f.elim)
  | neg=>
   simp only [dR] at h;simp only [P];by_cases h1:isAny [[45],[45,46]] r=true
   .rw [if_pos h1];have ht:=ej (pX h1);by_cases hd:d=64
    .rw [if_pos hd];have:=xF (aL r);exact cu rfl (by omega) (fun _=>⟨_,rfl⟩) (fun f=>f.elim)
    .rw [if_neg hd];obtain ⟨a,g,i,k1,_⟩:=one (job:= .neg) (d:=d+1) (r:=aL r) trivial trivial (by simp only [dR];omega) rfl;refine cu (l:=[node 12 [aJ r,a]]) (r':=g) ?_ (by omega) (fun _=>⟨_,rfl⟩) (fun f=>f.elim);simp only [i,bind,Option.bind]
   .rw [if_neg h1];obtain ⟨t,g,i,k1,_⟩:=one (job:= .atom false) (d:=d) (r:=r) trivial trivial (by simp only [dR];omega) rfl;obtain ⟨u,r2,j,k2,_⟩:=one (job:= .args t) (d:=d) (r:=g) trivial trivial (by simp only [dR];omega) rfl;refine cu (l:=[u]) (r':=r2) ?_ (by omega) (fun _=>⟨_,rfl⟩) (fun f=>f.elim);simp only [i,j,bind,Option.bind]
  | args acc=>
   simp only [dR] at h;simp only [P];by_cases h1:cI false r=true
   .rw [if_pos h1];obtain ⟨t,g,i,k1,f1⟩:=one (job:= .atom false) (d:=d) (r:=r) trivial trivial (by simp only [dR];omega) rfl;have ht:=f1 h1;obtain ⟨u,r2,j,k2,_⟩:=one (job:= .args (node 13 [acc,t])) (d:=d) (r:=g) trivial trivial (by simp only [dR];omega) rfl;refine cu (l:=[u]) (r':=r2) ?_ (by omega) (fun _=>⟨_,rfl⟩) (fun f=>f.elim);simp only [i,j,bind,Option.bind]
   .rw [if_neg h1];exact cu rfl (WW _) (fun _=>⟨_,rfl⟩) (fun f=>f.elim)
  | atom pat=>
   simp only [dR] at h;simp only [P];by_cases h1:cI pat r=true
   .rw [if_pos h1];have m:=nK h1;have ht:=ej m;by_cases w:(nx r).1=9
    .rw [if_pos w];exact cu rfl (by omega) (fun _=>⟨_,rfl⟩) (fun _=>ht)
    rw [if_neg w];by_cases h2:bY dw r=true
    .rw [if_pos h2];obtain ⟨t,g,i,k1,f1⟩:=one (job:= .closed false pat) (d:=d) (r:=r) trivial m (by simp only [dR];omega) rfl;exact cu i k1 (fun _=>⟨_,rfl⟩) (fun _=>f1 m)
    rw [if_neg h2];by_cases h3:bY cU r=true
    .rw [if_pos h3];obtain ⟨t,g,i,k1,f1⟩:=one (job:= .closed true pat) (d:=d) (r:=r) trivial m (by simp only [dR];omega) rfl;exact cu i k1 (fun _=>⟨_,rfl⟩) (fun _=>f1 m)
    rw [if_neg h3];exact cu rfl (by omega) (fun _=>⟨_,rfl⟩) (fun _=>ht)
   .rw [if_neg h1];exact cu rfl (WW _) (fun _=>⟨_,rfl⟩) (fun f=>absurd f h1)
  | closed list pat=>
   have m:(nx r).1≠0:=ha;have ht:=ej m;simp only [dR] at h;simp only [P];by_cases h1:bY (gQ list) (aL r)=true
   .rw [if_pos h1];have:=iD (aL r);exact cu rfl (by omega) (fun _=>⟨_,rfl⟩) (fun _=>by omega)
   .rw [if_neg h1];obtain ⟨t,r2,i,k1,_⟩:=one (job:=if pat then .pattern else .expr) (d:=d) (r:=aL r) (by cases pat <;> trivial) (by cases pat <;> trivial) (by cases pat <;> simp only [dR,if_true,Xw,if_false] <;> omega) (by cases pat <;> rfl);obtain ⟨bs,o,j,k2⟩:=many (job:= .items list pat) (d:=d) (r:=r2) trivial trivial (by simp only [dR];omega);have hn:=jC (gQ list) o;refine cu (l:=[node (kindOf list pat) (aJ r::[t]++bs++[cN (gQ list) o])]) (r':=bg (gQ list) o) ?_ (by omega) (fun _=>⟨_,rfl⟩) (fun _=>by omega);simp only [i,j,bind,Option.bind]
  | items list pat=>
   simp only [dR] at h;simp only [P];by_cases h1:bY (ry list) r=true
   .rw [if_pos h1];have ht:=ej (hU h1);obtain ⟨t,r2,i,k1,_⟩:=one (job:=if pat then .pattern else .expr) (d:=d) (r:=aL r) (by cases pat <;> trivial) (by cases pat <;> trivial) (by cases pat <;> simp only [dR,if_true,Xw,if_false] <;> omega) (by cases pat <;> rfl);obtain ⟨bs,o,j,k2⟩:=many (job:= .items list pat) (d:=d) (r:=r2) trivial trivial (by simp only [dR];omega);refine cu (l:=aJ r::[t]++bs) (r':=o) ?_ (by omega) (fun f=>by cases f) (fun f=>f.elim);simp only [i,j,bind,Option.bind]
   .rw [if_neg h1];exact cu rfl (WW _) (fun f=>by cases f) (fun f=>f.elim)
  | pattern=>
   simp only [dR] at h;simp only [P];by_cases hd:d=64
   .rw [if_pos hd];exact cu rfl (xF r) (fun _=>⟨_,rfl⟩) (fun f=>f.elim)
   .rw [if_neg hd];obtain ⟨a,g,i,k1,_⟩:=one (job:= .atom true) (d:=d+1) (r:=r) trivial trivial (by simp only [dR];omega) rfl;by_cases h1:bY zb g=true
    .have ht:=ej (hU h1);obtain ⟨b,r2,j,k2,_⟩:=one (job:= .pattern) (d:=d+1) (r:=aL g) trivial trivial (by simp only [dR];omega) rfl;refine cu (l:=[node 16 ([a]++aJ g::[b])]) (r':=r2) ?_ (by omega) (fun _=>⟨_,rfl⟩) (fun f=>f.elim);simp only [i,j,bind,Option.bind,if_pos h1]
    .refine cu (l:=[a]) (r':=g) ?_ (by omega) (fun _=>⟨_,rfl⟩) (fun f=>f.elim);simp only [i,bind,Option.bind,if_neg h1]
  | binding=>
   simp only [dR] at h;simp only [P];have h0:(if bY dn r then aL r else r).length<=r.length:=by
    split
    .exact iD r
    .exact WW _
   generalize (if bY dn r then aL r else r)=r0 at h0;by_cases h4:(nx r0).1=4
   .have ht:=ej (show (nx r0).1≠0 by omega);obtain ⟨ps,g,i,k1⟩:=many (job:= .params) (d:=d) (r:=aL r0) trivial trivial (by simp only [dR];omega);have hn:=jC sj g;obtain ⟨t,r2,j,k2,_⟩:=one (job:= .expr) (d:=d) (r:=bg sj g) trivial trivial (by simp only [dR];omega) rfl;refine cu (l:=(if bY dn r then [aJ r] else [])++(aJ r0::ps)++[cN sj g]++[t]) (r':=r2) ?_ (by omega) (fun f=>by cases f) (fun f=>f.elim);simp only [if_pos h4,i,j,bind,Option.bind]
   .obtain ⟨a,g,i,k1,_⟩:=one (job:= .atom true) (d:=d) (r:=r0) trivial trivial (by simp only [dR];omega) rfl;have hn:=jC sj g;obtain ⟨t,r2,j,k2,_⟩:=one (job:= .expr) (d:=d) (r:=bg sj g) trivial trivial (by simp only [dR];omega) rfl;refine cu (l:=(if bY dn r then [aJ r] else [])++[a]++[cN sj g]++[t]) (r':=r2) ?_ (by omega) (fun f=>by cases f) (fun f=>f.elim);simp only [if_neg h4,i,j,bind,Option.bind]
  | params=>
   simp only [dR] at h;simp only [P];by_cases h1:cI true r=true
   .rw [if_pos h1];obtain ⟨t,g,i,k1,f1⟩:=one (job:= .atom true) (d:=d) (r:=r) trivial trivial (by simp only [dR];omega) rfl;have ht:=f1 h1;obtain ⟨bs,r2,j,k2⟩:=many (job:= .params) (d:=d) (r:=g) trivial trivial (by simp only [dR];omega);refine cu (l:=[t]++bs) (r':=r2) ?_ (by omega) (fun f=>by cases f) (fun f=>f.elim);simp only [i,j,bind,Option.bind]
   .rw [if_neg h1];exact cu rfl (WW _) (fun f=>by cases f) (fun f=>f.elim)
  | arm=>
   simp only [dR] at h;simp only [P];obtain ⟨a,g,i,k1,_⟩:=one (job:= .pattern) (d:=d) (r:=r) trivial trivial (by simp only [dR];omega) rfl;have hn:=jC fB g;obtain ⟨t,r2,j,k2,_⟩:=one (job:= .expr) (d:=d) (r:=bg fB g) trivial trivial (by simp only [dR];omega) rfl;refine cu (l:=[node 10 ([a]++[cN fB g]++[t])]) (r':=r2) ?_ (by omega) (fun _=>⟨_,rfl⟩) (fun f=>f.elim);simp only [i,j,bind,Option.bind]
  | arms=>
   simp only [dR] at h;simp only [P];by_cases h1:bY gO r=true
   .rw [if_pos h1];have ht:=ej (hU h1);obtain ⟨t,g,i,k1,_⟩:=one (job:= .arm) (d:=d) (r:=aL r) trivial trivial (by simp only [dR];omega) rfl;obtain ⟨bs,r2,j,k2⟩:=many (job:= .arms) (d:=d) (r:=g) trivial trivial (by simp only [dR];omega);refine cu (l:=aJ r::[t]++bs) (r':=r2) ?_ (by omega) (fun f=>by cases f) (fun f=>f.elim);simp only [i,j,bind,Option.bind]
   .rw [if_neg h1];exact cu rfl (WW _) (fun f=>by cases f) (fun f=>f.elim)
theorem wK: ∀(n:Nat) (r:List aU),(skip n r).2.length<=r.length
 | 0,_=>WW _
 | n+1,r=>by
  simp only [skip];split
  .have:=wK n (aL r);have:=iD r;simp only;omega
  .exact WW _
theorem NV {r:List aU} (h0:(nx r).1≠0) (h1:bY mU r=false):(skip r.length r).2.length < r.length:=by
 have ht:=ej h0;obtain ⟨n,hn⟩: ∃n,r.length=n+1:=⟨r.length - 1,by omega⟩;rw [hn];simp only [skip,if_pos (And.intro h0 h1)];have:=wK n (aL r);omega
theorem Iy: ∀(N:Nat) (r:List aU),17 * r.length+16 < N-> ∃l,decls N r=some l:=by
 intro N
 induction N with
 | zero=>intro r h;omega
 | succ n ih=>
  intro r h;simp only [decls];by_cases h0:(nx r).1=0
  .rw [if_pos h0];exact ⟨_,rfl⟩
  rw [if_neg h0];by_cases h1:bY mU r=true
  .rw [if_pos h1];have ht:=ej h0;obtain ⟨bs,b,c,k1,_,_⟩:=(Sf n .binding 0 (aL r) trivial trivial (by simp only [dR];omega)).some;obtain ⟨l,a⟩:=ih b (by omega);exact ⟨node 5 (aJ r::bs)::l,by simp only [c,a,bind,Option.bind]⟩
  .rw [if_neg h1];have ht:=NV h0 (by simpa using h1);obtain ⟨l,a⟩:=ih (skip r.length r).2 (by omega);exact ⟨node 3 (skip r.length r).1::l,by simp only [a,bind,Option.bind]⟩
theorem ju (r:List aU): ∃l,decls (fuel r) r=some l/\doc r=node 4 l:=by
 obtain ⟨l,e⟩:=Iy (fuel r) r (by unfold fuel;omega);exact ⟨l,e,by unfold doc;rw [e];rfl⟩
end Go.Parse
namespace Go.Lex
open Go.VM
theorem KP {n n' b0 b1 b2 b3 c1 c2 c3:Nat} (h0:mo n b0 b1 b2 b3≠0) (b:1 < mo n b0 b1 b2 b3->c1=b1) (c:2 < mo n b0 b1 b2 b3->c2=b2) (d:3 < mo n b0 b1 b2 b3->c3=b3) (hl:mo n b0 b1 b2 b3<=n'):
  mo n' b0 c1 c2 c3=mo n b0 b1 b2 b3:=by
 by_cases a:b0 < 128
 .unfold mo;rw [if_pos a,if_pos a]
 by_cases a2:194<=b0/\b0<=223
 .by_cases q:n < 2\/b1 < 128\/191 < b1
  .exact absurd (by unfold mo;rw [if_neg a,if_pos a2,if_pos q]) h0
  .have e:mo n b0 b1 b2 b3=2:=by unfold mo;rw [if_neg a,if_pos a2,if_neg q]
   rw [e] at b hl ⊢;have:=b (by omega);subst this;unfold mo;rw [if_neg a,if_pos a2,if_neg (by omega)]
 by_cases a3:224<=b0/\b0<=239
 .by_cases q:n < 3\/b1 < 128\/191 < b1\/b2 < 128\/191 < b2\/(b0=224/\b1 < 160)\/(b0=237/\159 < b1)
  .exact absurd (by unfold mo;rw [if_neg a,if_neg a2,if_pos a3,if_pos q]) h0
  .have e:mo n b0 b1 b2 b3=3:=by unfold mo;rw [if_neg a,if_neg a2,if_pos a3,if_neg q]
   rw [e] at b c hl ⊢;have:=b (by omega);have:=c (by omega)
   subst_vars
   unfold mo;rw [if_neg a,if_neg a2,if_pos a3,if_neg (by omega)]
 by_cases a4:240<=b0/\b0<=244
 .by_cases q:n < 4\/b1 < 128\/191 < b1\/b2 < 128\/191 < b2\/b3 < 128\/191 < b3\/(b0=240/\b1 < 144)\/(b0=244/\143 < b1)
  .exact absurd (by unfold mo;rw [if_neg a,if_neg a2,if_neg a3,if_pos a4,if_pos q]) h0
  .have e:mo n b0 b1 b2 b3=4:=by unfold mo;rw [if_neg a,if_neg a2,if_neg a3,if_pos a4,if_neg q]
   rw [e] at b c d hl ⊢;have:=b (by omega);have:=c (by omega);have:=d (by omega)
   subst_vars
   unfold mo;rw [if_neg a,if_neg a2,if_neg a3,if_pos a4,if_neg (by omega)]
 .exact absurd (by unfold mo;rw [if_neg a,if_neg a2,if_neg a3,if_neg a4]) h0
theorem Kt {n b0 b1 b2 b3:Nat} (h:2<=mo n b0 b1 b2 b3):128<=b0/\(128<=b1)/\(2 < mo n b0 b1 b2 b3->128<=b2)/\(3 < mo n b0 b1 b2 b3->128<=b3):=by
 unfold mo at *;by_cases a:b0 < 128
 .rw [if_pos a] at h;omega
 rw [if_neg a] at *;by_cases a2:194<=b0/\b0<=223
 .rw [if_pos a2] at *;by_cases q:n < 2\/b1 < 128\/191 < b1
  .rw [if_pos q] at h;omega
  .rw [if_neg q] at *;omega
 rw [if_neg a2] at *;by_cases a3:224<=b0/\b0<=239
 .rw [if_pos a3] at *;by_cases q:n < 3\/b1 < 128\/191 < b1\/b2 < 128\/191 < b2\/(b0=224/\b1 < 160)\/(b0=237/\159 < b1)
  .rw [if_pos q] at h;omega
  .rw [if_neg q] at *;omega
 rw [if_neg a3] at *;by_cases a4:240<=b0/\b0<=244
 .rw [if_pos a4] at *;by_cases q:n < 4\/b1 < 128\/191 < b1\/b2 < 128\/191 < b2\/b3 < 128\/191 < b3\/(b0=240/\b1 < 144)\/(b0=244/\143 < b1)
  .rw [if_pos q] at h;omega
  .rw [if_neg q] at *;omega
 .rw [if_neg a4] at h;omega
theorem JI (n b0 b1 b2 b3:Nat):mo n b0 b1 b2 b3<=4:=by
 unfold mo
 repeat' split
 all_goals omega
theorem Eo {s t:List UInt8} (h:gK s≠0) (he: ∀j,j < gK s->t.getD j 0=s.getD j 0) (hl:gK s<=t.length):gK t=gK s:=by
 have h0:=he 0 (by omega);unfold gK at h he hl ⊢;rw [h0];exact KP h (fun k=>by rw [he 1 k]) (fun k=>by rw [he 2 k]) (fun k=>by rw [he 3 k]) hl
theorem getD_take {s:List UInt8} {n j:Nat} (h:j < n):(s.take n).getD j 0=s.getD j 0:=by
 rw [Xp,Xp,List.getElem?_take,if_pos h]
theorem rh (s:List UInt8) (n j:Nat):(s.drop n).getD j 0=s.getD (n+j) 0:=by
 rw [Xp,Xp,X6]
theorem Lh {s x:List UInt8} {j:Nat} (h:j < s.length):(s++x).getD j 0=s.getD j 0:=by
 rw [Xp,Xp,Xr h]
theorem EY {s:List UInt8} (hne:s≠[]) (h:gK s≠0) {n:Nat} (hn:gK s<=n):gK (s.take n)=gK s:=
 Eo h (fun j hj=>getD_take (by omega)) (by rw [Xg];have:=sn hne;omega)
theorem M7 {s:List UInt8} (hne:s≠[]) (h:gK s≠0) (x:List UInt8):gK (s++x)=gK s:=by
 have:=sn hne;exact Eo h (fun j hj=>Lh (by omega)) (by rw [W9];omega)
theorem Ei {s:List UInt8} (h:2<=gK s) {j:Nat} (hj:j < gK s):128<=(s.getD j 0).toNat:=by
 have h4:=JI s.length (s.getD 0 0).toNat (s.getD 1 0).toNat (s.getD 2 0).toNat (s.getD 3 0).toNat
 unfold gK at h hj;have:=Kt h;have a:j < 4:=by omega
 match j,a with
 | 0,_=>exact this.1
 | 1,_=>exact this.2.1
 | 2,_=>exact this.2.2.1 hj
 | 3,_=>exact this.2.2.2 hj
theorem yK {s:List UInt8} (hne:s≠[]) (h:cC s=true):gK s≠0/\cC (s.drop (gK s))=true:=by
 rw [kO hne] at h;by_cases z:gK s=0
 .rw [if_pos z] at h;cases h
 .rw [if_neg z] at h;exact ⟨z,h⟩
theorem vt: ∀(n:Nat) (a b:List UInt8),a.length<=n->cC a=true->cC (a++b)=cC b
 | n,[],b,_,_=>rfl
 | 0,_:: _,_,h,_=>by simp at h
 | n+1,c::a,b,h,hv=>by
  obtain ⟨z,hz⟩:=yK (s:=c::a) (by simp) hv;have hle:=sn (l:=c::a) (by simp);have d:=M7 (s:=c::a) (by simp) z b;rw [kO (l:=c::a++b) (by simp),d,if_neg z,List.drop_append_of_le_length hle];exact vt n _ b (by rw [Xa];simp at h ⊢;omega) hz
def Bd (s:List UInt8) (n:Nat):Prop:=n=0\/(s.getD n 0).toNat < 128\/(s.getD (n - 1) 0).toNat < 128
theorem wa: ∀(m:Nat) (s:List UInt8) (n:Nat),s.length<=m->cC s=true->n<=s.length->Bd s n->cC (s.take n)=true/\cC (s.drop n)=true
 | m,s,0,_,hv,_,_=>⟨rfl,hv⟩
 | m,[],n+1,_,_,h,_=>by simp at h
 | 0,_:: _,_,h,_,_,_=>by simp at h
 | m+1,c::l,n+1,hm,hv,hn,hb=>by
  obtain ⟨z,hz⟩:=yK (s:=c::l) (by simp) hv;have hle:=sn (l:=c::l) (by simp);by_cases a:gK (c::l)<=n+1
  .have hlen:((c::l).drop (gK (c::l))).length=(c::l).length - gK (c::l):=Xa;have b:Bd ((c::l).drop (gK (c::l))) (n+1 - gK (c::l)):=by
    rcases hb with hb | hb | hb
    .omega
    .exact .inr (.inl (by rw [rh,show gK (c::l)+(n+1 - gK (c::l))=n+1 by omega];exact hb))
    .by_cases e:n+1 - gK (c::l)=0
     .exact .inl e
     .exact .inr (.inr (by rw [rh,show gK (c::l)+(n+1 - gK (c::l) - 1)=n+1 - 1 by omega];exact hb))
   have ih:=wa m ((c::l).drop (gK (c::l))) (n+1 - gK (c::l)) (by simp at hm hlen ⊢;omega) hz (by omega) b;have h1:=EY (s:=c::l) (by simp) z a;have hne:(c::l).take (n+1)≠[]:=by simp
   constructor
   .rw [kO hne,h1,if_neg z,List.drop_take];exact ih.1
   .have e:(c::l).drop (n+1)=((c::l).drop (gK (c::l))).drop (n+1 - gK (c::l)):=by
     rw [Ya];congr 1;omega
    rw [e];exact ih.2
  .exfalso;have k1:=Ei (s:=c::l) (by omega) (j:=n+1) (by omega);have k2:=Ei (s:=c::l) (by omega) (j:=n+1 - 1) (by omega);rcases hb with hb | hb | hb <;> omega
def Asc (s:List UInt8) (n:Nat):Prop:= ∀j,j < n->(s.getD j 0).toNat < 128
theorem GO {s:List UInt8} {n:Nat} (h:Asc s n):Bd s n:=by
 cases n with
 | zero=>exact .inl rfl
 | succ n=>exact .inr (.inr (h n (XW n)))
theorem asc_add {s:List UInt8} {a b:Nat} (h:Asc s a) (k:Asc (s.drop a) b):Asc s (a+b):=by
 intro j hj;by_cases q:j < a
 .exact h j q
 .have:=k (j - a) (by omega);rw [rh,show a+(j - a)=j by omega] at this;exact this
theorem ur {p:UInt8->Bool} (hp: ∀b,p b=true->b.toNat < 128): ∀s:List UInt8,Asc s (wh p s)
 | []=>fun j hj=>absurd hj (Yw j)
 | c::l=>by
  rw [eK];intro j hj;cases hc:p c with
  | false=>rw [hc] at hj;simp at hj
  | true=>
   rw [hc,if_pos rfl] at hj;cases j with
   | zero=>exact hp c hc
   | succ j=>exact ur hp l j (by omega)
theorem T2 {p:UInt8->Bool} (h:((List.range 256).all fun n=>p (UInt8.ofNat n))=true) (b:UInt8):p b=true:=by
 have:=XH.1 h b.toNat (List.mem_range.2 (UInt8.toNat_lt b));simpa using this
theorem zl {p:UInt8->Bool} (h:((List.range 256).all fun n=> !(p (UInt8.ofNat n))||Nat.blt (UInt8.ofNat n).toNat 128)=true) (b:UInt8) (hb:p b=true):b.toNat < 128:=by
 have:=T2 (p:=fun b=> !(p b)||Nat.blt b.toNat 128) h b;simp only [hb,XE,XK] at this;exact WU this
theorem ID (b:UInt8) (hb:bH b=true):b.toNat < 128:=zl (by decide+kernel) b hb
theorem Ml (b:UInt8) (hb:eH b=true):b.toNat < 128:=zl (by decide+kernel) b hb
theorem BZ (b:UInt8) (hb:aI b=true):b.toNat < 128:=zl (by decide+kernel) b hb
theorem asc_one (b:UInt8) (hb:kQ b=true):b.toNat < 128:=zl (by decide+kernel) b hb
theorem NL (b:UInt8) (hb:pA b=true):b.toNat < 128:=zl (by decide+kernel) b hb
theorem K3 (s:List UInt8):Asc s (ir s).1:=by
 unfold ir;cases s with
 | nil=>exact fun j hj=>absurd hj (Yw j)
 | cons e l=>
  dsimp only;split
  .rename_i he;split
   .exact fun j hj=>absurd hj (Yw j)
   .dsimp only;have h1:Asc (e::l) 1:=by
     intro j hj;have:j=0:=by omega
     subst this;rcases he with rfl | rfl <;> exact WU rfl
    have h2:Asc l (fY l):=by
     cases l with
     | nil=>exact fun j hj=>absurd hj (Yw j)
     | cons d r=>
      intro j hj;simp only [fY] at hj;cases hd:pA d with
      | false=>rw [hd] at hj;simp at hj
      | true=>
       rw [hd,if_pos rfl] at hj;have:j=0:=by omega
       subst this;exact NL d hd
    have h3:=ur BZ (l.drop (fY l));refine asc_add (asc_add h1 h2) ?_;rw [show (e::l).drop (1+fY l)=l.drop (fY l) by rw [Yh];rfl];exact h3
  .exact fun j hj=>absurd hj (Yw j)
theorem Jc {s:List UInt8} {c:UInt8} (h:s.head?=some c):s.getD 0 0=c:=by
 cases s with
 | nil=>cases h
 | cons d l=>cases h;rfl
theorem GC (s:List UInt8):Asc s (number s).2:=by
 have h1:=ur BZ s;unfold number;dsimp only;split
 .rename_i a;refine asc_add (asc_add (asc_add h1 ?_) ?_) ?_
  .intro j hj;have:j=0:=by omega
   subst this;rw [Jc a];decide
  .exact ur BZ _
  .exact K3 _
 .exact h1
theorem tF: ∀(s:List UInt8) (d n:Nat),rem s d=some n->s.getD (n - 1) 0=41
 | [],_,_,h=>by simp [rem] at h
 | [_],_,_,h=>by simp [rem] at h
 | a::b::l,d,n,h=>by
  simp only [rem] at h;split at h
  .obtain ⟨m,hm,rfl⟩:=Xq.1 h;have h1:=oe l (d+1) m hm;have:=tF l (d+1) m hm;rw [show m+2 - 1=(m - 1)+2 by omega];exact this
  .split at h
   .rename_i c;split at h
    .cases h;exact c.2
    .obtain ⟨m,hm,rfl⟩:=Xq.1 h;have h1:=oe l (d - 1) m hm;have:=tF l (d - 1) m hm;rw [show m+2 - 1=(m - 1)+2 by omega];exact this
   .obtain ⟨m,hm,rfl⟩:=Xq.1 h;have h1:=oe (b::l) d m hm;have:=tF (b::l) d m hm;rw [show m+1 - 1=(m - 1)+1 by omega];exact this
theorem C2: ∀(s:List UInt8),(s.getD (iE s) 0).toNat < 128\/(1<=iE s/\s.getD (iE s - 1) 0=34)
 | []=> .inl (by decide)
 | c::l=>by
  simp only [iE];split
  .rename_i h;subst h;exact .inl (WU rfl)
  .split
   .rename_i h;subst h;exact .inr ⟨WW _,rfl⟩
   .rcases C2 l with h | ⟨h1,h2⟩
    .exact .inl h
    .exact .inr ⟨by omega,by rw [show iE l+1 - 1=(iE l - 1)+1 by omega];exact h2⟩
theorem B0: ∀(s:List UInt8),(s.getD (dT s).2 0).toNat < 128\/(1<=(dT s).2/\s.getD ((dT s).2 - 1) 0=34)
 | []=> .inl (by decide)
 | [c]=>by
  simp only [dT];split
  .rename_i h;subst h;exact .inl (WU rfl)
  .split
   .rename_i h;subst h;exact .inr ⟨WW _,rfl⟩
   .exact .inl (WU rfl)
 | c::d::l=>by
  simp only [dT];split
  .rename_i h;subst h;exact .inl (WU rfl)
  .split
   .rename_i h;subst h;exact .inr ⟨WW _,rfl⟩
   .split
    .split
     .rcases B0 l with h | ⟨h1,h2⟩
      .exact .inl h
      .refine .inr ⟨by dsimp only;omega, ?_⟩;dsimp only;rw [show (dT l).2+2 - 1=((dT l).2 - 1)+2 by omega];exact h2
     .rcases C2 (d::l) with h | ⟨h1,h2⟩
      .exact .inl h
      .refine .inr ⟨by dsimp only;omega, ?_⟩;dsimp only;rw [show iE (d::l)+1 - 1=(iE (d::l) - 1)+1 by omega];exact h2
    .rcases B0 (d::l) with h | ⟨h1,h2⟩
     .exact .inl h
     .refine .inr ⟨by dsimp only;omega, ?_⟩;dsimp only;rw [show (dT (d::l)).2+1 - 1=((dT (d::l)).2 - 1)+1 by omega];exact h2
theorem Pn {s:List UInt8} (hne:s≠[]):Bd s (cut s).2\/(cut s).2=if gK s=0 then 1 else gK s:=by
 cases s with
 | nil=>exact absurd rfl hne
 | cons c l=>
  unfold cut;dsimp only;split
  .exact .inl (GO (ur ID _))
  split
  .cases hr:rem (List.drop 2 (c::l)) 1 with
   | some n=>
    have h1:=oe _ _ _ hr;have:=tF _ _ _ hr;rw [rh] at this;refine .inl (.inr (.inr ?_));dsimp only;rw [show n+2 - 1=2+(n - 1) by omega,this];decide
   | none=>
    refine .inl (.inr (.inl ?_));dsimp only;rw [Xp,Xu (WW _)];decide
  split
  .exact .inl (GO (ur Ml _))
  split
  .exact .inl (GO (GC _))
  split
  .rcases B0 l with h | ⟨h1,h2⟩
   .exact .inl (.inr (.inl h))
   .refine .inl (.inr (.inr ?_));dsimp only;rw [show (dT l).2+1 - 1=((dT l).2 - 1)+1 by omega];have h2:(c::l).getD ((dT l).2 - 1+1) 0=34:=h2;rw [h2];decide
  split
  .rename_i h2;refine .inl (.inr (.inr ?_));have hm:(c::l).take 2∈jE:=List.contains_iff_mem.1 h2;have e:(c::l).getD (2 - 1) 0=((c::l).take 2).getD 1 0:=(getD_take (by omega)).symm;dsimp only;rw [e];generalize (c::l).take 2=w at hm;simp only [jE,Xb,List.not_mem_nil,or_false] at hm;rcases hm with rfl | rfl | rfl | rfl | rfl | rfl | rfl | rfl | rfl | rfl | rfl <;> decide
  split
  .rename_i h1;exact .inl (.inr (.inr (asc_one c h1)))
  .exact .inr rfl
theorem Ib {s:List UInt8} (hne:s≠[]) (hv:cC s=true):cC (s.take (cut s).2)=true/\cC (s.drop (cut s).2)=true:=by
 have hc:=kY hne;rcases Pn hne with h | h
 .exact wa _ s _ (WW _) hv hc.2 h
 .obtain ⟨z,hz⟩:=yK hne hv;rw [if_neg z] at h;rw [h];refine ⟨?_,hz⟩;have a:s.take (gK s)≠[]:=by
   intro e;rw [List.take_eq_nil_iff] at e;rcases e with e | e
   .exact z e
   .exact hne e
  have hl:=sn hne;rw [kO a,EY hne z (WW _),if_neg z,List.drop_of_length_le (by rw [Xg];omega)];rfl
theorem qQ: ∀(s:List UInt8) (d n:Nat),rem s d=some n->rem (s.take n) d=some n
 | [],_,_,h=>by simp [rem] at h
 | [_],_,_,h=>by simp [rem] at h
 | a::b::l,d,n,h=>by
  simp only [rem] at h;split at h
  .rename_i c1;obtain ⟨m,hm,rfl⟩:=Xq.1 h;show rem (a::b::l.take m) d= _;simp only [rem,if_pos c1,qQ l (d+1) m hm];rfl
  .rename_i c1;split at h
   .rename_i c2;split at h
    .rename_i c3;cases h;show rem [a,b] d= _;simp only [rem,if_neg c1,if_pos c2,if_pos c3]
    .rename_i c3;obtain ⟨m,hm,rfl⟩:=Xq.1 h;show rem (a::b::l.take m) d= _;simp only [rem,if_neg c1,if_pos c2,if_neg c3,qQ l (d - 1) m hm];rfl
   .rename_i c2;obtain ⟨m,hm,rfl⟩:=Xq.1 h;have h2:=(oe (b::l) d m hm).1;have ih:=qQ (b::l) d m hm;obtain ⟨k,rfl⟩: ∃k,m=k+1:=⟨m - 1,by omega⟩;have ih:rem (b::l.take k) d=some (k+1):=ih;show rem (a::b::l.take k) d= _;simp only [rem,if_neg c1,if_neg c2,ih];rfl
theorem wL (x:List UInt8): ∀(s:List UInt8) (d n:Nat),rem s d=some n->rem (s++x) d=some n
 | [],_,_,h=>by simp [rem] at h
 | [_],_,_,h=>by simp [rem] at h
 | a::b::l,d,n,h=>by
  simp only [rem] at h;show rem (a::b::(l++x)) d= _;split at h
  .rename_i c1;obtain ⟨m,hm,rfl⟩:=Xq.1 h;simp only [rem,if_pos c1,wL x l (d+1) m hm];rfl
  .rename_i c1;split at h
   .rename_i c2;split at h
    .rename_i c3;cases h;simp only [rem,if_neg c1,if_pos c2,if_pos c3]
    .rename_i c3;obtain ⟨m,hm,rfl⟩:=Xq.1 h;simp only [rem,if_neg c1,if_pos c2,if_neg c3,wL x l (d - 1) m hm];rfl
   .rename_i c2;obtain ⟨m,hm,rfl⟩:=Xq.1 h;have ih:rem (b::(l++x)) d=some m:=wL x (b::l) d m hm;simp only [rem,if_neg c1,if_neg c2,ih];rfl
theorem AR (s:List UInt8):number s=if (s.drop (wh aI s)).head?=some 46 then (if wh aI s+wh aI (s.drop (wh aI s+1)) > 15\/(ir (s.drop (wh aI s+1+wh aI (s.drop (wh aI s+1))))).2 - (wh aI (s.drop (wh aI s+1)):Int) < -22\/(ir (s.drop (wh aI s+1+wh aI (s.drop (wh aI s+1))))).2 - (wh aI (s.drop (wh aI s+1)):Int) > 22 then 9 else 6,wh aI s+1+wh aI (s.drop (wh aI s+1))+(ir (s.drop (wh aI s+1+wh aI (s.drop (wh aI s+1))))).1) else (5,wh aI s):=rfl
theorem ra (r:List UInt8): ∀s:List UInt8,iE (s++10::r)=iE s
 | []=>by
  show iE (10::r)=0;simp [iE]
 | c::l=>by
  show iE (c::(l++10::r))= _;simp only [iE,ra r l]
def MH (c:UInt8) (l s:List UInt8):Nat×Nat:=
 if bH c then (1,wh bH s)
 else if s.take 2=[40,42] then (match rem (s.drop 2) 1 with | some n=>(2,n+2) | none=>(9,s.length))
 else if jq c then (pt (s.takeWhile eH),wh eH s)
 else if aI c then number s
 else if c=34 then ((dT l).1,(dT l).2+1)
 else if jE.contains (s.take 2) then (8,2)
 else if kQ c then (8,1)
 else (9,if gK s=0 then 1 else gK s)
theorem qd (c:UInt8) (l:List UInt8):cut (c::l)=MH c l (c::l):=rfl
def behind (s:List UInt8):Nat->List UInt8
 | 0=>s
 | n+1=>(behind s n).drop (cut (behind s n)).2
theorem vU: ∀(n:Nat) (s:List UInt8),s.length<=n->(((tokens s).map (·.2)).flatten)=s
 | n,[],_=>rfl
 | 0,_:: _,h=>by simp at h
 | n+1,c::l,h=>by
  have hc:=kY (s:=c::l) (by simp);rw [pG (by simp),W8,List.flatten_cons,vU n _ (by rw [Xa];simp at h ⊢;omega),XM]
theorem Ls (f:UInt8->Bool): ∀(p y:List UInt8),wh f (p++y)=if wh f p=p.length then p.length+wh f y else wh f p
 | [],y=>by simp [wh]
 | c::p,y=>by
  rw [Xf,eK,eK,Ls f p y];cases f c with
  | false=>
   rw [if_neg (by simp),if_neg (by simp),if_neg (by simp)]
  | true=>
   rw [if_pos rfl,if_pos rfl];by_cases h:wh f p=p.length
   .rw [if_pos h,if_pos (by rw [h];rfl)];simp;omega
   .rw [if_neg h,if_neg (by simp;omega)]
theorem Oa {p y y':List UInt8} {d m:Nat} (h:rem (p++y) d=some m) (hm:m<=p.length):rem (p++y') d=some m:=by
 have h1:=qQ _ _ _ h;rw [List.take_append_of_le_length hm] at h1;have h2:=wL (p.drop m++y') _ _ _ h1;rw [<- W6,XM] at h2;exact h2
def cD (l:List (Nat×List UInt8)):List UInt8:=(l.map (·.2)).flatten
def keeps:Nat->List (Nat×List UInt8)->Nat
 | _,[]=>0
 | r,p::l=>if p.2.length+2 < r then keeps (r - p.2.length) l+1 else 0
theorem kI (p:Nat×List UInt8) (l:List (Nat×List UInt8)):cD (p::l)=p.2++cD l:=rfl
def alike:List (Nat×List UInt8)->List (Nat×List UInt8)->Nat
 | a::l,b::m=>if a=b then alike l m+1 else 0
 | _,_=>0
end Go.Lex
namespace Go.Parse
open Go.VM Go.Lex
mutual
def cy:T->List UInt8
 | .mk k _ tx l=>bB l++(if k=1 then tx else [])
def bB:List T->List UInt8
 | []=>[]
 | t::l=>cy t++bB l
end
theorem dy: ∀(l m:List T),bB (l++m)=bB l++bB m
 | [],m=>by simp [bB]
 | t::l,m=>by simp only [Xf,bB,dy l m,W6]
theorem bR (t:T):bB [t]=cy t:=by simp [bB]
theorem oL (s:List UInt8):cy (missing s)=[]:=rfl
theorem dJ {k:Nat} (h:k≠1) (l:List T):cy (node k l)=bB l:=by simp [cy,h]
theorem Gw (l m:List aU):cD (l++m)=cD l++cD m:=by simp [cD]
theorem vX: ∀(l:List aU),bB (l.map iy)=cD l
 | []=>rfl
 | t::l=>by
  show cy (iy t)++bB (l.map iy)=t.2++cD l;rw [vX l];rfl
theorem gH (r:List aU):cy (aJ r)++cD (aL r)=cD r:=by
 have h:=X9 (p:=bn) (l:=r);have e:cy (aJ r)=cD (r.takeWhile bn)++(nx r).2:=by
  show bB ((r.takeWhile bn).map iy)++(nx r).2= _;rw [vX]
 rw [e]
 conv=>rhs;rw [<- h,Gw]
 unfold aL nx;cases r.dropWhile bn with
 | nil=>simp [cD]
 | cons t l=>simp [cD]
theorem jg (s:List UInt8) (r:List aU):cy (cN s r)++cD (bg s r)=cD r:=by
 unfold cN bg;split
 .exact gH r
 .rw [oL];rfl
theorem uz (s:List UInt8) (r:List aU):cy (iM s r)++cD (je r)=cD r:=by
 unfold iM je;split
 .rw [oL];rfl
 .rw [dJ (by decide),bR];exact gH r
def yD:jI->List UInt8
 | .ops _ acc=>cy acc
 | .args acc=>cy acc
 | _=>[]
theorem bind_some {α β:Type} {x:Option α} {f:α->Option β} {b:β} (h:(x >>= f)=some b): ∃a,x=some a/\f a=some b:=by
 cases x with
 | none=>cases h
 | some a=>exact ⟨a,rfl,h⟩
theorem nW (a b:Bool):kindOf a b≠1:=by cases a <;> cases b <;> decide
theorem Q4: ∀(N:Nat) (job:jI) (d:Nat) (r:List aU) (l:List T) (r':List aU),P N job d r=some (l,r')->bB l++cD r'=yD job++cD r:=by
 intro N
 induction N with
 | zero=>intro job d r l r' h;cases h
 | succ n ih=>
  intro job d r l r' h;have tk:=gH r;cases job with
  | expr=>
   simp only [P] at h;split at h
   .cases h;rw [bR,uz];rfl
   .have k:=ih _ _ _ _ _ h;exact k
  | whole=>
   simp only [P] at h;split at h
   .obtain ⟨⟨bs,r2⟩,e,h⟩:=bind_some h;obtain ⟨⟨es,m⟩,f,h⟩:=bind_some h;cases h;have k1:=ih _ _ _ _ _ e;have k2:=ih _ _ _ _ _ f;simp only [yD,W5] at k1 k2 ⊢;rw [bR,dJ (by decide)];simp only [dy,bB,W5,Xe,W6,Xf,k2,jg,k1,tk]
   split at h
   .obtain ⟨⟨a,g⟩,e,h⟩:=bind_some h;obtain ⟨⟨ps,r2⟩,f,h⟩:=bind_some h;obtain ⟨⟨es,m⟩,j,h⟩:=bind_some h;cases h;have k1:=ih _ _ _ _ _ e;have k2:=ih _ _ _ _ _ f;have i:=ih _ _ _ _ _ j;simp only [yD,W5] at k1 k2 i ⊢;rw [bR,dJ (by decide)];simp only [dy,bB,W5,Xe,W6,Xf,i,jg,k2,k1,tk]
   split at h
   .obtain ⟨⟨a,g⟩,e,h⟩:=bind_some h;obtain ⟨⟨b,r2⟩,f,h⟩:=bind_some h;obtain ⟨⟨c,m⟩,j,h⟩:=bind_some h;cases h;have k1:=ih _ _ _ _ _ e;have k2:=ih _ _ _ _ _ f;have i:=ih _ _ _ _ _ j;simp only [yD,W5] at k1 k2 i ⊢;rw [bR,dJ (by decide)];simp only [dy,bB,W5,Xe,W6,Xf,i,jg,k2,k1,tk]
   split at h
   .obtain ⟨⟨a,g⟩,e,h⟩:=bind_some h;obtain ⟨⟨b,m⟩,f,h⟩:=bind_some h;obtain ⟨⟨cs,s⟩,j,h⟩:=bind_some h;cases h;have k1:=ih _ _ _ _ _ e;have k2:=ih _ _ _ _ _ f;have i:=ih _ _ _ _ _ j;simp only [yD,W5] at k1 k2 i ⊢;have q:bB (if bY gO (bg bD g) then [aJ (bg bD g)] else [])++cD (if bY gO (bg bD g) then aL (bg bD g) else bg bD g)=cD (bg bD g):=by
     split
     .rw [bR];exact gH _
     .rfl
    rw [bR,dJ (by decide)];simp only [dy,bB,W5,Xe,W6,Xf,i,k2,q,jg,k1,tk]
   .have k:=ih _ _ _ _ _ h;exact k
  | level k=>
   simp only [P] at h;split at h
   .have k:=ih _ _ _ _ _ h;exact k
   .obtain ⟨⟨a,g⟩,e,h⟩:=bind_some h;dsimp only at h;split at h
    .have k1:=ih _ _ _ _ _ e;have k2:=ih _ _ _ _ _ h;simp only [yD,W5,bR] at k1 k2 ⊢;rw [k2,k1]
    .cases h
  | ops k acc=>
   simp only [P] at h;split at h
   .obtain ⟨⟨b,g⟩,e,h⟩:=bind_some h;have k1:=ih _ _ _ _ _ e;have k2:=ih _ _ _ _ _ h;simp only [yD,W5] at k1 k2 ⊢;rw [k2,dJ (by decide)];simp only [bB,W5,W6,k1,tk]
   .cases h;rw [bR];rfl
  | neg=>
   simp only [P] at h;split at h
   .split at h
    .cases h;rw [bR,dJ (by decide)];simp only [bB,W5,Xe,W6,yD,W5,uz,tk]
    .obtain ⟨⟨a,g⟩,e,h⟩:=bind_some h;cases h;have k1:=ih _ _ _ _ _ e;simp only [yD,W5] at k1 ⊢;rw [bR,dJ (by decide)];simp only [bB,W5,W6,k1,tk]
   .obtain ⟨⟨a,g⟩,e,h⟩:=bind_some h;dsimp only at h;split at h
    .have k1:=ih _ _ _ _ _ e;have k2:=ih _ _ _ _ _ h;simp only [yD,W5,bR] at k1 k2 ⊢;rw [k2,k1]
    .cases h
  | args acc=>
   simp only [P] at h;split at h
   .obtain ⟨⟨b,g⟩,e,h⟩:=bind_some h;have k1:=ih _ _ _ _ _ e;have k2:=ih _ _ _ _ _ h;simp only [yD,W5] at k1 k2 ⊢;rw [k2,dJ (by decide)];simp only [bB,W5,W6,k1]
   .cases h;rw [bR];rfl
  | atom pat=>
   simp only [P] at h;split at h
   .split at h
    .cases h;rw [bR,dJ (by decide),bR];exact tk
    split at h
    .have k:=ih _ _ _ _ _ h;exact k
    split at h
    .have k:=ih _ _ _ _ _ h;exact k
    .cases h;rw [bR];exact tk
   .cases h;rw [bR,oL];rfl
  | closed list pat=>
   simp only [P] at h;split at h
   .cases h;have p:=gH (aL r);rw [bR,dJ (nW _ _)];simp only [bB,W5,Xe,W6,yD,W5,p,tk]
   .obtain ⟨⟨a,r2⟩,e,h⟩:=bind_some h;obtain ⟨⟨bs,m⟩,f,h⟩:=bind_some h;cases h;have k1:=ih _ _ _ _ _ e;have k2:=ih _ _ _ _ _ f;have hd:yD (if pat then jI.pattern else jI.expr)=[]:=by cases pat <;> rfl
    rw [hd] at k1;simp only [yD,W5] at k1 k2 ⊢;rw [bR,dJ (nW _ _)];simp only [dy,bB,W5,Xe,W6,Xf,jg,k2,k1,tk]
  | items list pat=>
   simp only [P] at h;split at h
   .obtain ⟨⟨a,r2⟩,e,h⟩:=bind_some h;obtain ⟨⟨bs,m⟩,f,h⟩:=bind_some h;cases h;have k1:=ih _ _ _ _ _ e;have k2:=ih _ _ _ _ _ f;have hd:yD (if pat then jI.pattern else jI.expr)=[]:=by cases pat <;> rfl
    rw [hd] at k1;simp only [yD,W5] at k1 k2 ⊢;simp only [dy,bB,W5,W6,Xf,k2,k1,tk]
   .cases h;rfl
  | pattern=>
   simp only [P] at h;split at h
   .cases h;rw [bR,uz];rfl
   .obtain ⟨⟨a,g⟩,e,h⟩:=bind_some h;have k1:=ih _ _ _ _ _ e;dsimp only at h;split at h
    .obtain ⟨⟨b,r2⟩,f,h⟩:=bind_some h;cases h;have k2:=ih _ _ _ _ _ f;simp only [yD,W5] at k1 k2 ⊢;rw [bR,dJ (by decide)];simp only [dy,bB,W5,W6,k2,gH,k1]
    .cases h;exact k1
  | binding=>
   simp only [P] at h;have o:bB (if bY dn r then [aJ r] else [])++cD (if bY dn r then aL r else r)=cD r:=by
    split
    .rw [bR];exact tk
    .rfl
   generalize (if bY dn r then [aJ r] else [])=rc at h o;generalize (if bY dn r then aL r else r)=r0 at h o;split at h
   .obtain ⟨⟨xs,g⟩,e,h⟩:=bind_some h;obtain ⟨⟨ps,m⟩,j,e⟩:=bind_some e;cases e;obtain ⟨⟨es,r2⟩,f,h⟩:=bind_some h;cases h;have i:=ih _ _ _ _ _ j;have k2:=ih _ _ _ _ _ f;simp only [yD,W5] at k2 i ⊢;simp only [dy,bB,W5,bR,W6,Xf,k2,jg,i,gH,o]
   .obtain ⟨⟨xs,g⟩,e,h⟩:=bind_some h;obtain ⟨⟨es,r2⟩,f,h⟩:=bind_some h;cases h;have k1:=ih _ _ _ _ _ e;have k2:=ih _ _ _ _ _ f;simp only [yD,W5] at k1 k2 ⊢;simp only [dy,bR,W6,k2,jg,k1,o]
  | params=>
   simp only [P] at h;split at h
   .obtain ⟨⟨a,g⟩,e,h⟩:=bind_some h;obtain ⟨⟨bs,r2⟩,f,h⟩:=bind_some h;cases h;have k1:=ih _ _ _ _ _ e;have k2:=ih _ _ _ _ _ f;simp only [yD,W5] at k1 k2 ⊢;simp only [dy,W6,k2,k1]
   .cases h;rfl
  | arm=>
   simp only [P] at h;obtain ⟨⟨a,g⟩,e,h⟩:=bind_some h;obtain ⟨⟨es,r2⟩,f,h⟩:=bind_some h;cases h;have k1:=ih _ _ _ _ _ e;have k2:=ih _ _ _ _ _ f;simp only [yD,W5] at k1 k2 ⊢;rw [bR,dJ (by decide)];simp only [dy,bR,W6,k2,jg,k1]
  | arms=>
   simp only [P] at h;split at h
   .obtain ⟨⟨a,g⟩,e,h⟩:=bind_some h;obtain ⟨⟨bs,r2⟩,f,h⟩:=bind_some h;cases h;have k1:=ih _ _ _ _ _ e;have k2:=ih _ _ _ _ _ f;simp only [yD,W5] at k1 k2 ⊢;simp only [dy,bB,W5,W6,Xf,k2,k1,tk]
   .cases h;rfl
theorem Am {Q:List aU->Prop} (g: ∀r,Q r->Q (aL r)): ∀(N:Nat) (job:jI) (d:Nat) (r:List aU) (l:List T) (r':List aU),P N job d r=some (l,r')->Q r->Q r':=by
 have hn: ∀s r,Q r->Q (bg s r):=fun s r h=>by
  unfold bg;split
  .exact g r h
  .exact h
 have hd: ∀r,Q r->Q (je r):=fun r h=>by
  unfold je;split
  .exact h
  .exact g r h
 intro N
 induction N with
 | zero=>intro job d r l r' h;cases h
 | succ n ih=>
  intro job d r l r' h q;cases job with
  | expr=>
   simp only [P] at h;split at h
   .cases h;exact hd _ q
   .exact ih _ _ _ _ _ h q
  | whole=>
   simp only [P] at h;split at h
   .obtain ⟨⟨bs,r2⟩,e,h⟩:=bind_some h;obtain ⟨⟨es,m⟩,f,h⟩:=bind_some h;cases h;exact ih _ _ _ _ _ f (hn _ _ (ih _ _ _ _ _ e (g _ q)))
   split at h
   .obtain ⟨⟨a,i⟩,e,h⟩:=bind_some h;obtain ⟨⟨ps,r2⟩,f,h⟩:=bind_some h;obtain ⟨⟨es,m⟩,j,h⟩:=bind_some h;cases h;exact ih _ _ _ _ _ j (hn _ _ (ih _ _ _ _ _ f (ih _ _ _ _ _ e (g _ q))))
   split at h
   .obtain ⟨⟨a,i⟩,e,h⟩:=bind_some h;obtain ⟨⟨b,r2⟩,f,h⟩:=bind_some h;obtain ⟨⟨c,m⟩,j,h⟩:=bind_some h;cases h;exact ih _ _ _ _ _ j (hn _ _ (ih _ _ _ _ _ f (hn _ _ (ih _ _ _ _ _ e (g _ q)))))
   split at h
   .obtain ⟨⟨a,i⟩,e,h⟩:=bind_some h;obtain ⟨⟨b,m⟩,f,h⟩:=bind_some h;obtain ⟨⟨cs,p⟩,j,h⟩:=bind_some h;cases h;have k1:=hn bD _ (ih _ _ _ _ _ e (g _ q));refine ih _ _ _ _ _ j (ih _ _ _ _ _ f ?_);dsimp only;split
    .exact g _ k1
    .exact k1
   .exact ih _ _ _ _ _ h q
  | level k=>
   simp only [P] at h;split at h
   .exact ih _ _ _ _ _ h q
   .obtain ⟨⟨a,i⟩,e,h⟩:=bind_some h;dsimp only at h;split at h
    .exact ih _ _ _ _ _ h (ih _ _ _ _ _ e q)
    .cases h
  | ops k acc=>
   simp only [P] at h;split at h
   .obtain ⟨⟨b,i⟩,e,h⟩:=bind_some h;exact ih _ _ _ _ _ h (ih _ _ _ _ _ e (g _ q))
   .cases h;exact q
  | neg=>
   simp only [P] at h;split at h
   .split at h
    .cases h;exact hd _ (g _ q)
    .obtain ⟨⟨a,i⟩,e,h⟩:=bind_some h;cases h;exact ih _ _ _ _ _ e (g _ q)
   .obtain ⟨⟨a,i⟩,e,h⟩:=bind_some h;dsimp only at h;split at h
    .exact ih _ _ _ _ _ h (ih _ _ _ _ _ e q)
    .cases h
  | args acc=>
   simp only [P] at h;split at h
   .obtain ⟨⟨b,i⟩,e,h⟩:=bind_some h;exact ih _ _ _ _ _ h (ih _ _ _ _ _ e q)
   .cases h;exact q
  | atom pat=>
   simp only [P] at h;split at h
   .split at h
    .cases h;exact g _ q
    split at h
    .exact ih _ _ _ _ _ h q
    split at h
    .exact ih _ _ _ _ _ h q
    .cases h;exact g _ q
   .cases h;exact q
  | closed list pat=>
   simp only [P] at h;split at h
   .cases h;exact g _ (g _ q)
   .obtain ⟨⟨a,r2⟩,e,h⟩:=bind_some h;obtain ⟨⟨bs,m⟩,f,h⟩:=bind_some h;cases h;exact hn _ _ (ih _ _ _ _ _ f (ih _ _ _ _ _ e (g _ q)))
  | items list pat=>
   simp only [P] at h;split at h
   .obtain ⟨⟨a,r2⟩,e,h⟩:=bind_some h;obtain ⟨⟨bs,m⟩,f,h⟩:=bind_some h;cases h;exact ih _ _ _ _ _ f (ih _ _ _ _ _ e (g _ q))
   .cases h;exact q
  | pattern=>
   simp only [P] at h;split at h
   .cases h;exact hd _ q
   .obtain ⟨⟨a,i⟩,e,h⟩:=bind_some h;have k1:=ih _ _ _ _ _ e q;dsimp only at h;split at h
    .obtain ⟨⟨b,r2⟩,f,h⟩:=bind_some h;cases h;exact ih _ _ _ _ _ f (g _ k1)
    .cases h;exact k1
  | binding=>
   simp only [P] at h;have o:Q (if bY dn r then aL r else r):=by
    split
    .exact g _ q
    .exact q
   generalize (if bY dn r then [aJ r] else [])=rc at h;generalize (if bY dn r then aL r else r)=r0 at h o;split at h
   .obtain ⟨⟨xs,i⟩,e,h⟩:=bind_some h;obtain ⟨⟨ps,m⟩,j,e⟩:=bind_some e;cases e;obtain ⟨⟨es,r2⟩,f,h⟩:=bind_some h;cases h;exact ih _ _ _ _ _ f (hn _ _ (ih _ _ _ _ _ j (g _ o)))
   .obtain ⟨⟨xs,i⟩,e,h⟩:=bind_some h;obtain ⟨⟨es,r2⟩,f,h⟩:=bind_some h;cases h;exact ih _ _ _ _ _ f (hn _ _ (ih _ _ _ _ _ e o))
  | params=>
   simp only [P] at h;split at h
   .obtain ⟨⟨a,i⟩,e,h⟩:=bind_some h;obtain ⟨⟨bs,r2⟩,f,h⟩:=bind_some h;cases h;exact ih _ _ _ _ _ f (ih _ _ _ _ _ e q)
   .cases h;exact q
  | arm=>
   simp only [P] at h;obtain ⟨⟨a,i⟩,e,h⟩:=bind_some h;obtain ⟨⟨es,r2⟩,f,h⟩:=bind_some h;cases h;exact ih _ _ _ _ _ f (hn _ _ (ih _ _ _ _ _ e q))
  | arms=>
   simp only [P] at h;split at h
   .obtain ⟨⟨a,i⟩,e,h⟩:=bind_some h;obtain ⟨⟨bs,r2⟩,f,h⟩:=bind_some h;cases h;exact ih _ _ _ _ _ f (ih _ _ _ _ _ e (g _ q))
   .cases h;exact q
theorem zg {Q:List aU->Prop} (a: ∀r,Q r->Q (aL r)): ∀(n:Nat) (r:List aU),Q r->Q (skip n r).2
 | 0,_,q=>q
 | n+1,r,q=>by
  simp only [skip];split
  .exact zg a n _ (a _ q)
  .exact q
def O1 (r:List aU):Prop:= ∀t∈r,t.1≠0
theorem kF (r:List aU) (h:O1 r):O1 (aL r):=fun t ht=>h t ((Yc bn).subset (List.mem_of_mem_drop ht))
theorem AW: ∀(n:Nat) (r:List aU),bB (skip n r).1++cD (skip n r).2=cD r
 | 0,_=>rfl
 | n+1,r=>by
  simp only [skip];split
  .simp only [bB,W5,W6,AW n,gH]
  .rfl
theorem Hd: ∀{r:List aU},(∀t∈r,t.1≠0)->(nx r).1=0->aL r=[]:=by
 intro r h h0;unfold nx at h0;unfold aL;cases hd:r.dropWhile bn with
 | nil=>rfl
 | cons t l=>
  rw [hd] at h0;have:t∈r:=(Yc bn).subset (by rw [hd];simp);exact absurd h0 (h t this)
theorem sB: ∀(n:Nat) (r:List aU) (l:List T),decls n r=some l->O1 r->bB l=cD r
 | 0,_,_,h,_=>by cases h
 | n+1,r,l,h,hz=>by
  simp only [decls] at h;split at h
  .rename_i h0;cases h;rw [bR];have:=gH r;rw [Hd hz h0] at this;simpa [cD] using this
  split at h
  .obtain ⟨⟨bs,c⟩,b,h⟩:=bind_some h;obtain ⟨m,a,h⟩:=bind_some h;cases h;have k1:=Q4 _ _ _ _ _ _ b;have k2:=sB n c m a (Am kF _ _ _ _ _ _ b (kF _ hz));simp only [yD,W5] at k1;simp only [bB,dJ (show (5:Nat)≠1 by decide),W6,k2,k1,gH]
  .obtain ⟨m,a,h⟩:=bind_some h;cases h;have k2:=sB n _ m a (zg kF _ _ hz);simp only [bB,dJ (show (3:Nat)≠1 by decide),k2,AW]
theorem KV (r:List aU) (h:O1 r):cy (doc r)=cD r:=by
 obtain ⟨l,a,b⟩:=ju r;rw [b,dJ (by decide),sB _ _ _ a h]
mutual
def bZ:T->Bool
 | .mk k tk _ l=>k != 2&&k != 3&&(k != 1||tk != 9)&&dc l
def dc:List T->Bool
 | []=>true
 | t::l=>bZ t&&dc l
end
mutual
def eP:T->Nat
 | .mk _ _ _ l=>eQ l+1
def eQ:List T->Nat
 | []=>0
 | t::l=>max (eP t) (eQ l)
end
theorem cq: ∀(l m:List T),eQ (l++m)=max (eQ l) (eQ m)
 | [],m=>by simp [eQ]
 | t::l,m=>by simp only [Xf,eQ,cq l m];omega
theorem br (t:T):eQ [t]=eP t:=by simp [eQ]
theorem bE (k:Nat) (l:List T):eP (node k l)=eQ l+1:=by simp [eP]
theorem zj: ∀(l:List aU),eQ (l.map iy)<=1
 | []=>by simp [eQ]
 | t::l=>by
  have:=zj l;simp only [W8,eQ,iy,leaf,eP];omega
theorem bS (r:List aU):eP (aJ r)<=2:=by
 have:=zj (r.takeWhile bn);unfold aJ leaf;simp only [eP];omega
theorem fF (s:List UInt8):eP (missing s)=1:=by simp [missing,eP,eQ]
theorem fh (s:List UInt8) (r:List aU):eP (cN s r)<=2:=by
 unfold cN;split
 .exact bS r
 .rw [fF];omega
theorem pL (s:List UInt8) (r:List aU):eP (iM s r)<=3:=by
 unfold iM;have:=bS r;split
 .rw [fF];omega
 .rw [bE,br];omega
def dz:jI->List T
 | .ops _ acc=>[acc]
 | .args acc=>[acc]
 | _=>[]
theorem aS:eQ []=0:=by simp [eQ]
theorem bz (t:T) (l:List T):eQ (t::l)=max (eP t) (eQ l):=by simp [eQ]
theorem lO (b:Bool):dz (if b then jI.pattern else jI.expr)=[]:=by cases b <;> rfl
theorem Hw: ∀(N:Nat) (job:jI) (d:Nat) (r:List aU) (l:List T) (r':List aU),P N job d r=some (l,r')->eQ l<=max (eQ (dz job)) (N * N+4)+N:=by
 intro N
 induction N with
 | zero=>intro job d r l r' h;cases h
 | succ n ih=>
  intro job d r l r' h;have hm:(n+1) * (n+1)=n * n+2 * n+1:=by rw [Nat.add_mul,Nat.mul_add];omega
  rw [hm];clear hm;generalize n * n=q at ih ⊢;have tk:=bS r;have fin: ∀{job:jI} {d:Nat} {r:List aU} {l:List T} {r':List aU},dz job=[]->P n job d r=some (l,r')->eQ l<=q+4+n:=fun ha he=>by
   have:=ih _ _ _ _ _ he;rw [ha,aS] at this;omega
  cases job with
  | expr=>
   simp only [P] at h;simp only [dz,aS];split at h
   .cases h;rw [br];have:=pL kL r;omega
   .have k:=fin rfl h;omega
  | whole=>
   simp only [P] at h;simp only [dz,aS];split at h
   .obtain ⟨⟨bs,r2⟩,e,h⟩:=bind_some h;obtain ⟨⟨es,i⟩,f,h⟩:=bind_some h;cases h;have k1:=fin rfl e;have k2:=fin rfl f;have:=fh L4 r2;simp only [br,bE,cq,bz,aS];omega
   split at h
   .obtain ⟨⟨a,g⟩,e,h⟩:=bind_some h;obtain ⟨⟨ps,r2⟩,f,h⟩:=bind_some h;obtain ⟨⟨es,i⟩,j,h⟩:=bind_some h;cases h;have k1:=fin rfl e;have k2:=fin rfl f;have m:=fin rfl j;have:=fh fB r2;simp only [br,bE,cq,bz,aS];omega
   split at h
   .obtain ⟨⟨a,g⟩,e,h⟩:=bind_some h;obtain ⟨⟨b,r2⟩,f,h⟩:=bind_some h;obtain ⟨⟨c,i⟩,j,h⟩:=bind_some h;cases h;have k1:=fin rfl e;have k2:=fin rfl f;have m:=fin rfl j;have:=fh rW g;have:=fh rT r2;simp only [br,bE,cq,bz,aS];omega
   split at h
   .obtain ⟨⟨a,g⟩,e,h⟩:=bind_some h;obtain ⟨⟨b,i⟩,f,h⟩:=bind_some h;obtain ⟨⟨cs,s⟩,j,h⟩:=bind_some h;cases h;have k1:=fin rfl e;have k2:=fin rfl f;have m:=fin rfl j;have:=fh bD g;have u:eQ (if bY gO (bg bD g) then [aJ (bg bD g)] else [])<=2:=by
     split
     .rw [br];exact bS _
     .rw [aS];omega
    simp only [br,bE,cq,bz,aS];omega
   .have k:=fin rfl h;omega
  | level k=>
   simp only [P] at h;simp only [dz,aS];split at h
   .have k:=fin rfl h;omega
   .obtain ⟨⟨a,g⟩,e,h⟩:=bind_some h;dsimp only at h;split at h
    .rename_i t;have k1:=fin rfl e;have k2:=ih _ _ _ _ _ h;simp only [dz,br] at k1 k2;omega
    .cases h
  | ops k acc=>
   simp only [P] at h;simp only [dz,br];split at h
   .obtain ⟨⟨b,g⟩,e,h⟩:=bind_some h;have k1:=fin rfl e;have k2:=ih _ _ _ _ _ h;simp only [dz,br,bE,bz,aS] at k2;omega
   .cases h;rw [br];omega
  | neg=>
   simp only [P] at h;simp only [dz,aS];split at h
   .split at h
    .cases h;have:=pL kL (aL r);simp only [br,bE,bz,aS];omega
    .obtain ⟨⟨a,g⟩,e,h⟩:=bind_some h;cases h;have k1:=fin rfl e;simp only [br,bE,bz,aS];omega
   .obtain ⟨⟨a,g⟩,e,h⟩:=bind_some h;dsimp only at h;split at h
    .have k1:=fin rfl e;have k2:=ih _ _ _ _ _ h;simp only [dz,br] at k1 k2;omega
    .cases h
  | args acc=>
   simp only [P] at h;simp only [dz,br];split at h
   .obtain ⟨⟨b,g⟩,e,h⟩:=bind_some h;have k1:=fin rfl e;have k2:=ih _ _ _ _ _ h;simp only [dz,br,bE,bz,aS] at k2;omega
   .cases h;rw [br];omega
  | atom pat=>
   simp only [P] at h;simp only [dz,aS];split at h
   .split at h
    .cases h;simp only [br,bE];omega
    split at h
    .have k:=fin rfl h;omega
    split at h
    .have k:=fin rfl h;omega
    .cases h;rw [br];omega
   .cases h;rw [br,fF];omega
  | closed list pat=>
   simp only [P] at h;simp only [dz,aS];split at h
   .cases h;have o:=bS (aL r);simp only [br,bE,bz,aS];omega
   .obtain ⟨⟨a,r2⟩,e,h⟩:=bind_some h;obtain ⟨⟨bs,i⟩,f,h⟩:=bind_some h;cases h;have k1:=fin (lO pat) e;have k2:=fin rfl f;have:=fh (gQ list) i;simp only [br,bE,cq,bz,aS];omega
  | items list pat=>
   simp only [P] at h;simp only [dz,aS];split at h
   .obtain ⟨⟨a,g⟩,e,h⟩:=bind_some h;obtain ⟨⟨bs,r2⟩,f,h⟩:=bind_some h;cases h;have k1:=fin (lO pat) e;have k2:=fin rfl f;simp only [cq,bz];omega
   .cases h;rw [aS];omega
  | pattern=>
   simp only [P] at h;simp only [dz,aS];split at h
   .cases h;rw [br];have:=pL iH r;omega
   .obtain ⟨⟨a,g⟩,e,h⟩:=bind_some h;have k1:=fin rfl e;dsimp only at h;split at h
    .obtain ⟨⟨b,r2⟩,f,h⟩:=bind_some h;cases h;have k2:=fin rfl f;have:=bS g;simp only [br,bE,cq,bz,aS];omega
    .cases h;omega
  | binding=>
   simp only [P] at h;simp only [dz,aS];have p:eQ (if bY dn r then [aJ r] else [])<=2:=by
    split
    .rw [br];exact tk
    .rw [aS];omega
   generalize (if bY dn r then [aJ r] else [])=rc at h p;generalize (if bY dn r then aL r else r)=r0 at h;split at h
   .obtain ⟨⟨xs,g⟩,e,h⟩:=bind_some h;obtain ⟨⟨ps,i⟩,j,e⟩:=bind_some e;cases e;obtain ⟨⟨es,r2⟩,f,h⟩:=bind_some h;cases h;have m:=fin rfl j;have k2:=fin rfl f;have:=bS r0;have:=fh sj i;simp only [cq,br,bz,aS];omega
   .obtain ⟨⟨xs,g⟩,e,h⟩:=bind_some h;obtain ⟨⟨es,r2⟩,f,h⟩:=bind_some h;cases h;have k1:=fin rfl e;have k2:=fin rfl f;have:=fh sj g;simp only [cq,br];omega
  | params=>
   simp only [P] at h;simp only [dz,aS];split at h
   .obtain ⟨⟨a,g⟩,e,h⟩:=bind_some h;obtain ⟨⟨bs,r2⟩,f,h⟩:=bind_some h;cases h;have k1:=fin rfl e;have k2:=fin rfl f;simp only [cq];omega
   .cases h;rw [aS];omega
  | arm=>
   simp only [P] at h;simp only [dz,aS];obtain ⟨⟨a,g⟩,e,h⟩:=bind_some h;obtain ⟨⟨es,r2⟩,f,h⟩:=bind_some h;cases h;have k1:=fin rfl e;have k2:=fin rfl f;have:=fh fB g;simp only [br,bE,cq];omega
  | arms=>
   simp only [P] at h;simp only [dz,aS];split at h
   .obtain ⟨⟨a,g⟩,e,h⟩:=bind_some h;obtain ⟨⟨bs,r2⟩,f,h⟩:=bind_some h;cases h;have k1:=fin rfl e;have k2:=fin rfl f;simp only [cq,bz];omega
   .cases h;rw [aS];omega
theorem cO: ∀(N:Nat) (job:jI) (d:Nat) (r:List aU) (l:List T) (r':List aU),P N job d r=some (l,r')->single job=true-> ∃t,l=[t]:=by
 intro N
 induction N with
 | zero=>intro job d r l r' h;cases h
 | succ n ih=>
  intro job d r l r' h hs;cases job with
  | expr=>
   simp only [P] at h;split at h
   .cases h;exact ⟨_,rfl⟩
   .exact ih _ _ _ _ _ h rfl
  | whole=>
   simp only [P] at h;split at h
   .obtain ⟨⟨bs,r2⟩,e,h⟩:=bind_some h;obtain ⟨⟨es,i⟩,g,h⟩:=bind_some h;cases h;exact ⟨_,rfl⟩
   split at h
   .obtain ⟨⟨a,f⟩,e,h⟩:=bind_some h;obtain ⟨⟨ps,r2⟩,g,h⟩:=bind_some h;obtain ⟨⟨es,i⟩,j,h⟩:=bind_some h;cases h;exact ⟨_,rfl⟩
   split at h
   .obtain ⟨⟨a,f⟩,e,h⟩:=bind_some h;obtain ⟨⟨b,r2⟩,g,h⟩:=bind_some h;obtain ⟨⟨c,i⟩,j,h⟩:=bind_some h;cases h;exact ⟨_,rfl⟩
   split at h
   .obtain ⟨⟨a,f⟩,e,h⟩:=bind_some h;obtain ⟨⟨b,i⟩,g,h⟩:=bind_some h;obtain ⟨⟨cs,m⟩,j,h⟩:=bind_some h;cases h;exact ⟨_,rfl⟩
   .exact ih _ _ _ _ _ h rfl
  | level k=>
   simp only [P] at h;split at h
   .exact ih _ _ _ _ _ h rfl
   .obtain ⟨⟨a,f⟩,e,h⟩:=bind_some h;dsimp only at h;split at h
    .exact ih _ _ _ _ _ h rfl
    .cases h
  | ops k acc=>
   simp only [P] at h;split at h
   .obtain ⟨⟨b,f⟩,e,h⟩:=bind_some h;exact ih _ _ _ _ _ h rfl
   .cases h;exact ⟨_,rfl⟩
  | neg=>
   simp only [P] at h;split at h
   .split at h
    .cases h;exact ⟨_,rfl⟩
    .obtain ⟨⟨a,f⟩,e,h⟩:=bind_some h;cases h;exact ⟨_,rfl⟩
   .obtain ⟨⟨a,f⟩,e,h⟩:=bind_some h;dsimp only at h;split at h
    .exact ih _ _ _ _ _ h rfl
    .cases h
  | args acc=>
   simp only [P] at h;split at h
   .obtain ⟨⟨b,f⟩,e,h⟩:=bind_some h;exact ih _ _ _ _ _ h rfl
   .cases h;exact ⟨_,rfl⟩
  | atom pat=>
   simp only [P] at h;split at h
   .split at h
    .cases h;exact ⟨_,rfl⟩
    split at h
    .exact ih _ _ _ _ _ h rfl
    split at h
    .exact ih _ _ _ _ _ h rfl
    .cases h;exact ⟨_,rfl⟩
   .cases h;exact ⟨_,rfl⟩
  | closed list pat=>
   simp only [P] at h;split at h
   .cases h;exact ⟨_,rfl⟩
   .obtain ⟨⟨a,r2⟩,e,h⟩:=bind_some h;obtain ⟨⟨bs,i⟩,g,h⟩:=bind_some h;cases h;exact ⟨_,rfl⟩
  | items list pat=>cases hs
  | pattern=>
   simp only [P] at h;split at h
   .cases h;exact ⟨_,rfl⟩
   .obtain ⟨⟨a,f⟩,e,h⟩:=bind_some h;dsimp only at h;split at h
    .obtain ⟨⟨b,r2⟩,g,h⟩:=bind_some h;cases h;exact ⟨_,rfl⟩
    .cases h;exact ih _ _ _ _ _ e rfl
  | binding=>cases hs
  | params=>cases hs
  | arm=>
   simp only [P] at h;obtain ⟨⟨a,f⟩,e,h⟩:=bind_some h;obtain ⟨⟨es,r2⟩,g,h⟩:=bind_some h;cases h;exact ⟨_,rfl⟩
  | arms=>cases hs
theorem mC {N:Nat} {job:jI} {d:Nat} {r:List aU} {l:List T} {r':List aU} (h:P N job d r=some (l,r')) (hs:single job=true):l.length=1:=by
 obtain ⟨t,rfl⟩:=cO N job d r l r' h hs;rfl
theorem FE (b:Bool):single (if b then jI.pattern else .expr)=true:=by cases b <;> rfl
theorem Bb: ∀(N:Nat) (list pat:Bool) (d:Nat) (r:List aU) (l:List T) (r':List aU),P N (.items list pat) d r=some (l,r')->l.length<=2 * N:=by
 intro N
 induction N with
 | zero=>intro list pat d r l r' h;cases h
 | succ n ih=>
  intro list pat d r l r' h;simp only [P] at h;split at h
  .obtain ⟨⟨a,e⟩,b,h⟩:=bind_some h;obtain ⟨⟨bs,r2⟩,c,h⟩:=bind_some h;cases h;have:=mC b (FE pat);have:=ih _ _ _ _ _ _ c;simp only [W9,Xk];omega
  .cases h;simp
theorem mi: ∀(N:Nat) (d:Nat) (r:List aU) (l:List T) (r':List aU),P N .params d r=some (l,r')->l.length<=N:=by
 intro N
 induction N with
 | zero=>intro d r l r' h;cases h
 | succ n ih=>
  intro d r l r' h;simp only [P] at h;split at h
  .obtain ⟨⟨a,e⟩,b,h⟩:=bind_some h;obtain ⟨⟨bs,r2⟩,c,h⟩:=bind_some h;cases h;have:=mC b rfl;have:=ih _ _ _ _ c;simp only [W9];omega
  .cases h;simp
theorem DF: ∀(N:Nat) (d:Nat) (r:List aU) (l:List T) (r':List aU),P N .arms d r=some (l,r')->l.length<=2 * N:=by
 intro N
 induction N with
 | zero=>intro d r l r' h;cases h
 | succ n ih=>
  intro d r l r' h;simp only [P] at h;split at h
  .obtain ⟨⟨a,e⟩,b,h⟩:=bind_some h;obtain ⟨⟨bs,r2⟩,c,h⟩:=bind_some h;cases h;have:=mC b rfl;have:=ih _ _ _ _ c;simp only [W9,Xk];omega
  .cases h;simp
theorem pO: ∀(N:Nat) (d:Nat) (r:List aU) (l:List T) (r':List aU),P N .binding d r=some (l,r')->l.length<=N+4/\l≠[]:=by
 intro N d r l r' h;cases N with
 | zero=>cases h
 | succ n=>
  simp only [P] at h;have c:(if bY dn r then [aJ r] else []).length<=1:=by split <;> simp
  generalize (if bY dn r then [aJ r] else [])=rc at h c;generalize (if bY dn r then aL r else r)=r0 at h;split at h
  .obtain ⟨⟨xs,e⟩,a,h⟩:=bind_some h;obtain ⟨⟨ps,g⟩,f,a⟩:=bind_some a;cases a;obtain ⟨⟨es,r2⟩,b,h⟩:=bind_some h;cases h;have:=mi _ _ _ _ _ f;have:=mC b rfl;refine ⟨?_,by simp⟩;simp only [W9,Xk,XI];omega
  .obtain ⟨⟨xs,e⟩,a,h⟩:=bind_some h;obtain ⟨⟨es,r2⟩,b,h⟩:=bind_some h;cases h;have:=mC a rfl;have:=mC b rfl;refine ⟨?_,by simp⟩;simp only [W9,Xk,XI];omega
end Go.Parse
namespace Go.Lex
open Go.VM
def uh (s:List UInt8):Int:=if 65536 < s.length then 40 else if cC s=false then 4 else 0
theorem qp {s:List UInt8} (h:uh s=0):s.length<=65536/\cC s=true:=by
 unfold uh at h;by_cases h1:65536 < s.length
 .rw [if_pos h1] at h;exact absurd h (by decide)
 .rw [if_neg h1] at h;cases hv:cC s with
  | false=>rw [hv,if_pos rfl] at h;exact absurd h (by decide)
  | true=>exact ⟨by omega,rfl⟩
theorem QA {s:List UInt8} (h1:s.length<=65536) (h2:cC s=true):uh s=0:=by
 unfold uh;rw [if_neg (by omega),h2,if_neg (by simp)]
theorem Hk: ∀(n:Nat) (s:List UInt8),s.length<=n->(nS n s).length<=s.length
 | 0,_,_=>by simp [nS]
 | n+1,[],_=>by simp [nS]
 | n+1,c::l,h=>by
  have hc:=kY (s:=c::l) (by simp);have ih:=Hk n ((c::l).drop (cut (c::l)).2) (by rw [Xa];simp at h ⊢;omega);rw [Xa] at ih;simp only [nS,Xk] at ih ⊢;omega
theorem qD (s:List UInt8):(tokens s).length<=s.length:=Hk _ _ (WW _)
end Go.Lex
namespace Go.Parse
open Go.VM Go.Lex
theorem cw {α β:Type} {x:Option α} {f:α->Option β} {a:α} (h:x=some a):(x >>= f)=f a:=by rw [h];rfl
theorem Qf: ∀(N:Nat) (job:jI) (d:Nat) (r:List aU) (x:List T×List aU),P N job d r=some x-> ∀M,N<=M->P M job d r=some x:=by
 intro N
 induction N with
 | zero=>intro job d r x h;cases h
 | succ n ih=>
  intro job d r x h M l;obtain ⟨m,rfl⟩: ∃m,M=m+1:=⟨M - 1,by omega⟩;have up: ∀{job:jI} {d:Nat} {r:List aU} {x:List T×List aU},P n job d r=some x->P m job d r=some x:=fun h=>ih _ _ _ _ h m (by omega);cases job with
  | expr=>
   simp only [P] at h ⊢;split at h
   .rename_i hc;rw [if_pos hc];exact h
   .rename_i hc;rw [if_neg hc];exact up h
  | whole=>
   simp only [P] at h ⊢;split at h
   .rename_i hc;rw [if_pos hc];obtain ⟨⟨bs,r2⟩,e,h⟩:=bind_some h;obtain ⟨⟨es,i⟩,f,h⟩:=bind_some h;rw [cw (up e),cw (up f)];exact h
   rename_i hc;rw [if_neg hc];split at h
   .rename_i hc;rw [if_pos hc];obtain ⟨⟨a,g⟩,e,h⟩:=bind_some h;obtain ⟨⟨ps,r2⟩,f,h⟩:=bind_some h;obtain ⟨⟨es,i⟩,j,h⟩:=bind_some h;rw [cw (up e),cw (up f),cw (up j)];exact h
   rename_i hc;rw [if_neg hc];split at h
   .rename_i hc;rw [if_pos hc];obtain ⟨⟨a,g⟩,e,h⟩:=bind_some h;obtain ⟨⟨b,r2⟩,f,h⟩:=bind_some h;obtain ⟨⟨c,i⟩,j,h⟩:=bind_some h;rw [cw (up e),cw (up f),cw (up j)];exact h
   rename_i hc;rw [if_neg hc];split at h
   .rename_i hc;rw [if_pos hc];obtain ⟨⟨a,g⟩,e,h⟩:=bind_some h;obtain ⟨⟨b,i⟩,f,h⟩:=bind_some h;obtain ⟨⟨cs,o⟩,j,h⟩:=bind_some h;rw [cw (up e),cw (up f),cw (up j)];exact h
   rename_i hc;rw [if_neg hc];exact up h
  | level k=>
   simp only [P] at h ⊢;split at h
   .rename_i hc;rw [if_pos hc];exact up h
   .rename_i hc;rw [if_neg hc];obtain ⟨⟨a,g⟩,e,h⟩:=bind_some h;rw [cw (up e)];dsimp only at h ⊢;split at h
    .exact up h
    .cases h
  | ops k acc=>
   simp only [P] at h ⊢;split at h
   .rename_i hc;rw [if_pos hc];obtain ⟨⟨b,g⟩,e,h⟩:=bind_some h;rw [cw (up e)];exact up h
   .rename_i hc;rw [if_neg hc];exact h
  | neg=>
   simp only [P] at h ⊢;split at h
   .rename_i hc;rw [if_pos hc];split at h
    .rename_i hc;rw [if_pos hc];exact h
    .rename_i hc;rw [if_neg hc];obtain ⟨⟨a,g⟩,e,h⟩:=bind_some h;rw [cw (up e)];exact h
   .rename_i hc;rw [if_neg hc];obtain ⟨⟨a,g⟩,e,h⟩:=bind_some h;rw [cw (up e)];dsimp only at h ⊢;split at h
    .exact up h
    .cases h
  | args acc=>
   simp only [P] at h ⊢;split at h
   .rename_i hc;rw [if_pos hc];obtain ⟨⟨b,g⟩,e,h⟩:=bind_some h;rw [cw (up e)];exact up h
   .rename_i hc;rw [if_neg hc];exact h
  | atom pat=>
   simp only [P] at h ⊢;split at h
   .rename_i hc;rw [if_pos hc];split at h
    .rename_i hc;rw [if_pos hc];exact h
    rename_i hc;rw [if_neg hc];split at h
    .rename_i hc;rw [if_pos hc];exact up h
    rename_i hc;rw [if_neg hc];split at h
    .rename_i hc;rw [if_pos hc];exact up h
    .rename_i hc;rw [if_neg hc];exact h
   .rename_i hc;rw [if_neg hc];exact h
  | closed list pat=>
   simp only [P] at h ⊢;split at h
   .rename_i hc;rw [if_pos hc];exact h
   .rename_i hc;rw [if_neg hc];obtain ⟨⟨a,r2⟩,e,h⟩:=bind_some h;obtain ⟨⟨bs,i⟩,f,h⟩:=bind_some h;rw [cw (up e),cw (up f)];exact h
  | items list pat=>
   simp only [P] at h ⊢;split at h
   .rename_i hc;rw [if_pos hc];obtain ⟨⟨a,r2⟩,e,h⟩:=bind_some h;obtain ⟨⟨bs,i⟩,f,h⟩:=bind_some h;rw [cw (up e),cw (up f)];exact h
   .rename_i hc;rw [if_neg hc];exact h
  | pattern=>
   simp only [P] at h ⊢;split at h
   .rename_i hc;rw [if_pos hc];exact h
   .rename_i hc;rw [if_neg hc];obtain ⟨⟨a,g⟩,e,h⟩:=bind_some h;rw [cw (up e)];dsimp only at h ⊢;split at h
    .rename_i hc;rw [if_pos hc];obtain ⟨⟨b,r2⟩,f,h⟩:=bind_some h;rw [cw (up f)];exact h
    .rename_i hc;rw [if_neg hc];exact h
  | binding=>
   simp only [P] at h ⊢;generalize (if bY dn r then [aJ r] else [])=rc at h ⊢;generalize (if bY dn r then aL r else r)=r0 at h ⊢;split at h
   .rename_i hc;rw [if_pos hc];obtain ⟨⟨xs,g⟩,e,h⟩:=bind_some h;obtain ⟨⟨ps,i⟩,j,e⟩:=bind_some e;cases e;obtain ⟨⟨es,r2⟩,f,h⟩:=bind_some h;rw [cw (up j)];show (P m .expr d (bg sj i) >>= _)= _;rw [cw (up f)];exact h
   .rename_i hc;rw [if_neg hc];obtain ⟨⟨xs,g⟩,e,h⟩:=bind_some h;obtain ⟨⟨es,r2⟩,f,h⟩:=bind_some h;rw [cw (up e),cw (up f)];exact h
  | params=>
   simp only [P] at h ⊢;split at h
   .rename_i hc;rw [if_pos hc];obtain ⟨⟨a,g⟩,e,h⟩:=bind_some h;obtain ⟨⟨bs,r2⟩,f,h⟩:=bind_some h;rw [cw (up e),cw (up f)];exact h
   .rename_i hc;rw [if_neg hc];exact h
  | arm=>
   simp only [P] at h ⊢;obtain ⟨⟨a,g⟩,e,h⟩:=bind_some h;obtain ⟨⟨es,r2⟩,f,h⟩:=bind_some h;rw [cw (up e),cw (up f)];exact h
  | arms=>
   simp only [P] at h ⊢;split at h
   .rename_i hc;rw [if_pos hc];obtain ⟨⟨a,g⟩,e,h⟩:=bind_some h;obtain ⟨⟨bs,r2⟩,f,h⟩:=bind_some h;rw [cw (up e),cw (up f)];exact h
   .rename_i hc;rw [if_neg hc];exact h
theorem oJ: ∀(N:Nat) (r:List aU) (l:List T),decls N r=some l-> ∀M,N<=M->decls M r=some l
 | 0,_,_,h,_,_=>by cases h
 | n+1,r,l,h,M,c=>by
  obtain ⟨m,rfl⟩: ∃m,M=m+1:=⟨M - 1,by omega⟩;simp only [decls] at h ⊢;split at h
  .rename_i hc;rw [if_pos hc];exact h
  rename_i hc;rw [if_neg hc];split at h
  .rename_i hc;rw [if_pos hc];obtain ⟨⟨bs,d⟩,b,h⟩:=bind_some h;obtain ⟨k,a,h⟩:=bind_some h;rw [cw (Qf _ _ _ _ _ b m (by omega)),cw (oJ n _ _ a m (by omega))];exact h
  .rename_i hc;rw [if_neg hc];obtain ⟨k,a,h⟩:=bind_some h;rw [cw (oJ n _ _ a m (by omega))];exact h
theorem Jj {N:Nat} {r:List aU} {l:List T} (h:decls N r=some l):doc r=node 4 l:=by
 obtain ⟨m,a,b⟩:=ju r;have h1:=oJ _ _ _ h (N+fuel r) (by omega);have h2:=oJ _ _ _ a (N+fuel r) (by omega);rw [h1] at h2;rw [b,X4 h2]
structure Ext (f:List aU->List aU):Prop where
 nx: ∀r,(nx r).1≠0->Parse.nx (f r)=Parse.nx r
 tk: ∀r,(Parse.nx r).1≠0->aJ (f r)=aJ r
 tr: ∀r,(Parse.nx r).1≠0->aL (f r)=f (aL r)
 nd: ∀r,(Parse.nx r).1=0->Parse.nx (f r)=(3,mU)
section
variable {f:List aU->List aU} (hf:Ext f)
include hf
end
theorem fC: ∀(l m:List T),dc (l++m)=(dc l&&dc m)
 | [],m=>by simp [dc]
 | t::l,m=>by simp only [Xf,dc,fC l m,Bool.and_assoc]
theorem ue (s:List UInt8):bZ (missing s)=false:=rfl
theorem H3 {s:List UInt8} {r:List aU} (h:bZ (cN s r)=true):bY s r=true:=by
 unfold cN at h;split at h
 .assumption
 .rw [ue] at h;cases h
theorem uw (s:List UInt8) (r:List aU):bZ (iM s r)=false:=by
 unfold iM;split
 .rfl
 .rfl
theorem dZ {t:T}:dc [t]=bZ t:=by simp [dc]
theorem eI {k:Nat} {l:List T} (h:bZ (node k l)=true):dc l=true:=by
 simp only [bZ,WY] at h;exact h.2
theorem FW (a b:Bool):kindOf a b≠2:=by cases a <;> cases b <;> decide
def dU:jI->List T
 | .ops _ acc=>[acc]
 | .args acc=>[acc]
 | _=>[]
theorem Hi: ∀(N:Nat) (job:jI) (d:Nat) (r:List aU) (l:List T) (r':List aU),P N job d r=some (l,r')->dc l=true->dc (dU job)=true:=by
 intro N
 induction N with
 | zero=>intro job d r l r' h;cases h
 | succ n ih=>
  intro job d r l r' h hg;cases job with
  | ops k acc=>
   simp only [P] at h;split at h
   .obtain ⟨⟨b,a⟩,c,h⟩:=bind_some h;have:=ih _ _ _ _ _ h hg;simp only [dU,dZ] at this ⊢;have:=eI this;simp only [dc,WY] at this;exact this.1
   .cases h;exact hg
  | args acc=>
   simp only [P] at h;split at h
   .obtain ⟨⟨b,a⟩,c,h⟩:=bind_some h;have:=ih _ _ _ _ _ h hg;simp only [dU,dZ] at this ⊢;have:=eI this;simp only [dc,WY] at this;exact this.1
   .cases h;exact hg
  | _=>rfl
end Go.Parse
namespace Go.Lex
open Go.VM
theorem KO (w:List UInt8):pt w≠1:=by
 unfold pt;split
 .decide
 .split <;> decide
theorem Ih (s:List UInt8):(number s).1≠1:=by
 unfold number;dsimp only;split
 .dsimp only;split <;> decide
 .show (5:Nat)≠1;decide
theorem Gk: ∀(s:List UInt8),(dT s).1≠1
 | []=>by decide
 | [c]=>by
  simp only [dT];split
  .decide
  .split <;> decide
 | c::d::l=>by
  simp only [dT];split
  .decide
  split
  .decide
  split
  .split
   .exact Gk l
   .show (9:Nat)≠1;decide
  .exact Gk (d::l)
theorem uV {c:UInt8} {l:List UInt8} (h:(cut (c::l)).1=1):bH c=true/\cut (c::l)=(1,wh bH (c::l)):=by
 cases hb:bH c with
 | true=>
  refine ⟨rfl, ?_⟩;rw [qd];unfold MH;rw [if_pos hb]
 | false=>
  exfalso;rw [qd] at h;unfold MH at h;rw [if_neg (show ¬ bH c=true by rw [hb];decide)] at h;split at h
  .split at h
   .exact absurd (show (2:Nat)=1 from h) (by decide)
   .exact absurd (show (9:Nat)=1 from h) (by decide)
  split at h
  .exact KO _ h
  split at h
  .exact Ih _ h
  split at h
  .exact Gk _ h
  split at h
  .exact absurd (show (8:Nat)=1 from h) (by decide)
  split at h
  .exact absurd (show (8:Nat)=1 from h) (by decide)
  .exact absurd (show (9:Nat)=1 from h) (by decide)
end Go.Lex
namespace Go.Parse
open Go.VM Go.Lex
theorem KG {p:aU->Bool} {l:List aU} {x:aU} (h:x∈l.takeWhile p):p x=true:=XH.1 List.all_takeWhile x h
mutual
def iZ:T->List UInt8
 | .mk k _ tx l=>if k=1 then tx else if k=2 then 63::tx else 40::UInt8.ofNat (97+k)::qa l++[41]
def qa:List T->List UInt8
 | []=>[]
 | t::l=>32::iZ t++qa l
end
theorem Fm (t:aU) (ks:List T):iZ (leaf t ks)=t.2:=by simp [leaf,iZ]
def SV (t:aU):Bool:=t.1 != 1
def nb (r:List aU):List aU:=r.filter SV
theorem ky (t:aU) (r:List aU):nb (t::r)=if t.1=1 then nb r else t::nb r:=by
 unfold nb;rw [YI];by_cases h:t.1=1
 .have:SV t=false:=by simp [SV,h]
  rw [this,if_pos h];rfl
 .have:SV t=true:=by simp [SV,h]
  rw [this,if_neg h];rfl
def jk:T->Bool
 | .mk k tk _ l=>k==1&&(tk==1&&l.isEmpty)
mutual
def da:T->T
 | .mk k tk tx l=> .mk k tk tx (if k=1 then l.filter (fun t=> !jk t) else po l)
def po:List T->List T
 | []=>[]
 | t::l=>da t::po l
end
theorem qP: ∀(l:List T),po l=l.map da
 | []=>rfl
 | t::l=>by rw [po,qP l];rfl
theorem dr {k:Nat} (h:k≠1) (l:List T):da (node k l)=node k (l.map da):=by
 unfold node;rw [da,if_neg h,qP]
theorem oV (s:List UInt8):da (missing s)=missing s:=by
 unfold missing;rw [da,if_neg (by decide)];rfl
theorem xb: ∀(r:List aU),(nb r).dropWhile bn=nb (r.dropWhile bn)
 | []=>rfl
 | t::r=>by
  rw [ky];by_cases h:t.1=1
  .have ht:bn t=true:=by simp [bn,h]
   rw [if_pos h,X1,if_pos ht];exact xb r
  .rw [if_neg h,X1,X1];cases ht:bn t with
   | true=>rw [if_pos rfl,if_pos rfl];exact xb r
   | false=>
    rw [if_neg (by decide),if_neg (by decide),ky,if_neg h]
theorem BS: ∀(r:List aU),(nb r).takeWhile bn=nb (r.takeWhile bn)
 | []=>rfl
 | t::r=>by
  rw [ky];by_cases h:t.1=1
  .have ht:bn t=true:=by simp [bn,h]
   rw [if_pos h,XD,if_pos ht,ky,if_pos h];exact BS r
  .rw [if_neg h,XD,XD];cases ht:bn t with
   | true=>rw [if_pos rfl,if_pos rfl,ky,if_neg h,BS r]
   | false=>rw [if_neg (by decide),if_neg (by decide)];rfl
theorem Al {r:List aU} {t:aU} {l:List aU} (h:r.dropWhile bn=t::l):t.1≠1:=by
 have:=List.head?_dropWhile_not bn r;rw [h] at this;intro e;simp [bn,e] at this
theorem pg (r:List aU):nx (nb r)=nx r:=by
 unfold nx;rw [xb];cases h:r.dropWhile bn with
 | nil=>rfl
 | cons t l=>
  rw [ky,if_neg (Al h)]
theorem eW (r:List aU):aL (nb r)=nb (aL r):=by
 unfold aL;rw [xb];cases h:r.dropWhile bn with
 | nil=>rfl
 | cons t l=>rw [ky,if_neg (Al h)];rfl
theorem Ak: ∀(l:List aU),((l.map iy).filter fun t=> !jk t)=(nb l).map iy
 | []=>rfl
 | t::l=>by
  rw [W8,YI,ky,Ak l];by_cases h:t.1=1
  .simp [iy,leaf,jk,h]
  .simp [iy,leaf,jk,h]
theorem fm (r:List aU):aJ (nb r)=da (aJ r):=by
 unfold aJ;rw [pg,BS,leaf,leaf,da,if_pos rfl,Ak]
theorem kX (s:List UInt8) (r:List aU):bY s (nb r)=bY s r:=by unfold bY;rw [pg]
theorem yu (l:List (List UInt8)) (r:List aU):isAny l (nb r)=isAny l r:=by unfold isAny;rw [pg]
theorem vp (p:Bool) (r:List aU):cI p (nb r)=cI p r:=by unfold cI;rw [pg,yu]
theorem kP (s:List UInt8) (r:List aU):cN s (nb r)=da (cN s r):=by
 unfold cN;rw [kX];split
 .exact fm r
 .exact (oV s).symm
theorem kS (s:List UInt8) (r:List aU):bg s (nb r)=nb (bg s r):=by
 unfold bg;rw [kX,eW];split <;> rfl
theorem xW (s:List UInt8) (r:List aU):iM s (nb r)=da (iM s r):=by
 unfold iM;rw [pg,fm];split
 .exact (oV s).symm
 .rw [dr (by decide)];rfl
theorem yd (r:List aU):je (nb r)=nb (je r):=by
 unfold je;rw [pg,eW];split <;> rfl
def nR (x:List T×List aU):List T×List aU:=(x.1.map da,nb x.2)
def jJ:jI->jI
 | .ops k t=> .ops k (da t)
 | .args t=> .args (da t)
 | j=>j
theorem bind_map {α β γ δ:Type} {f:α->γ} {h:β->δ} {x:Option α} {y:Option γ} {g:α->Option β} {g':γ->Option δ} (hx:y=x.map f) (hg: ∀a,g' (f a)=(g a).map h):(y >>= g')=(x >>= g).map h:=by
 subst hx;cases x with
 | none=>rfl
 | some a=>exact hg a
theorem fj {α β:Type} {c:Prop} [Decidable c] {f:α->β} {a b:Option α} {a' b':Option β} (h1:c->a'=a.map f) (h2:¬ c->b'=b.map f):(if c then a' else b')=(if c then a else b).map f:=by
 split
 .rename_i h;exact h1 h
 .rename_i h;exact h2 h
theorem DM (a b:Bool):kindOf a b≠1:=by cases a <;> cases b <;> decide
theorem UZ: ∀(N:Nat) (job:jI) (d:Nat) (r:List aU),P N (jJ job) d (nb r)=(P N job d r).map nR:=by
 intro N
 induction N with
 | zero=>intro job d r;rfl
 | succ n ih=>
  intro job d r;have go: ∀(job:jI) (d:Nat) (r:List aU),jJ job=job->P n job d (nb r)=(P n job d r).map nR:=fun job d r h=>by
   have:=ih job d r
   rwa [h] at this
  have fin: ∀{l m:List T} {r r':List aU},m=l.map da->r'=nb r->(some (m,r'):R)=(some (l,r):R).map nR:=fun h1 h2=>by rw [h1,h2];rfl
  cases job with
  | expr=>
   simp only [jJ,P];refine fj (fun _=>fin ?_ (yd r)) fun _=>go _ _ _ rfl;rw [xW];rfl
  | whole=>
   simp only [jJ,P,kX,eW,fm];refine fj (fun _=> ?_) fun _=>fj (fun _=> ?_) fun _=>fj (fun _=> ?_) fun _=>fj (fun _=> ?_) fun _=>go _ _ _ rfl
   .refine bind_map (go _ _ _ rfl) fun ⟨bs,r2⟩=> ?_;simp only [nR,kS,kP];refine bind_map (go _ _ _ rfl) fun ⟨es,i⟩=>fin ?_ rfl;simp only [nR,W8,Xh,Xm,dr (show (6:Nat)≠1 by decide)]
   .refine bind_map (go _ _ _ rfl) fun ⟨a,g⟩=> ?_;refine bind_map (go _ _ _ rfl) fun ⟨ps,r2⟩=> ?_;simp only [nR,kS,kP];refine bind_map (go _ _ _ rfl) fun ⟨es,i⟩=>fin ?_ rfl;simp only [nR,W8,Xh,Xm,dr (show (7:Nat)≠1 by decide)]
   .refine bind_map (go _ _ _ rfl) fun ⟨a,g⟩=> ?_;simp only [nR,kS,kP];refine bind_map (go _ _ _ rfl) fun ⟨b,r2⟩=> ?_;simp only [nR,kS,kP];refine bind_map (go _ _ _ rfl) fun ⟨c,i⟩=>fin ?_ rfl;simp only [nR,W8,Xh,Xm,dr (show (8:Nat)≠1 by decide)]
   .refine bind_map (go _ _ _ rfl) fun ⟨a,g⟩=> ?_;simp only [nR,kS,kP,kX,fm,eW];have e:(if bY gO (bg bD g)=true then nb (aL (bg bD g)) else nb (bg bD g))=nb (if bY gO (bg bD g)=true then aL (bg bD g) else bg bD g):=by split <;> rfl
    rw [e];refine bind_map (go _ _ _ rfl) fun ⟨b,i⟩=> ?_;refine bind_map (go _ _ _ rfl) fun ⟨cs,p⟩=>fin ?_ rfl;have j:(if bY gO (bg bD g)=true then [da (aJ (bg bD g))] else [])=(if bY gO (bg bD g)=true then [aJ (bg bD g)] else []).map da:=by split <;> rfl
    rw [j];simp only [nR,W8,Xh,Xm,dr (show (9:Nat)≠1 by decide)]
  | level k=>
   simp only [jJ,P];refine fj (fun _=>go _ _ _ rfl) fun _=> ?_;refine bind_map (go _ _ _ rfl) fun ⟨a,g⟩=> ?_;simp only [nR];cases a with
   | nil=>rfl
   | cons t l=>
    cases l with
    | nil=>exact ih (.ops k t) d g
    | cons u l=>rfl
  | ops k acc=>
   simp only [jJ,P,yu,eW,fm];refine fj (fun _=> ?_) fun _=>fin rfl rfl;refine bind_map (go _ _ _ rfl) fun ⟨b,g⟩=> ?_;have:=ih (.ops k (node 11 (acc::aJ r::b))) d g;rw [jJ,dr (by decide)] at this;exact this
  | neg=>
   simp only [jJ,P,yu,eW,fm];refine fj (fun _=>fj (fun _=>fin ?_ ?_) fun _=> ?_) fun _=> ?_
   .rw [xW,W8,dr (by decide)];rfl
   .rw [yd]
   .refine bind_map (go _ _ _ rfl) fun ⟨a,g⟩=>fin ?_ rfl;simp only [nR,W8,Xm,dr (show (12:Nat)≠1 by decide)]
   .refine bind_map (go _ _ _ rfl) fun ⟨a,g⟩=> ?_;simp only [nR];cases a with
    | nil=>rfl
    | cons t l=>
     cases l with
     | nil=>exact ih (.args t) d g
     | cons u l=>rfl
  | args acc=>
   simp only [jJ,P,vp];refine fj (fun _=> ?_) fun _=>fin rfl rfl;refine bind_map (go _ _ _ rfl) fun ⟨b,g⟩=> ?_;have:=ih (.args (node 13 (acc::b))) d g;rw [jJ,dr (by decide)] at this;exact this
  | atom pat=>
   simp only [jJ,P,vp,pg,kX,eW,fm];refine fj (fun _=>fj (fun _=>fin ?_ rfl) fun _=>fj (fun _=>go _ _ _ rfl) fun _=>fj (fun _=>go _ _ _ rfl) fun _=>fin rfl rfl) fun _=>fin ?_ rfl
   .simp only [W8,Xm,dr (show (3:Nat)≠1 by decide)]
   .simp only [W8,Xm,oV]
  | closed list pat=>
   simp only [jJ,P,kX,eW,fm];refine fj (fun _=>fin ?_ rfl) fun _=> ?_
   .simp only [W8,Xm,dr (DM list pat)]
   .refine bind_map (go _ _ _ (by cases pat <;> rfl)) fun ⟨a,r2⟩=> ?_;refine bind_map (go _ _ _ rfl) fun ⟨bs,i⟩=>fin ?_ ?_
    .simp only [nR,kP,W8,Xh,Xm,dr (DM list pat)]
    .simp only [nR,kS]
  | items list pat=>
   simp only [jJ,P,kX,eW,fm];refine fj (fun _=> ?_) fun _=>fin rfl rfl;refine bind_map (go _ _ _ (by cases pat <;> rfl)) fun ⟨a,g⟩=> ?_;refine bind_map (go _ _ _ rfl) fun ⟨bs,r2⟩=>fin ?_ rfl;simp only [nR,W8,Xh]
  | pattern=>
   simp only [jJ,P];refine fj (fun _=>fin ?_ (yd r)) fun _=> ?_
   .rw [xW];rfl
   .refine bind_map (go _ _ _ rfl) fun ⟨a,g⟩=> ?_;simp only [nR,kX,eW,fm];refine fj (fun _=> ?_) fun _=>fin rfl rfl;refine bind_map (go _ _ _ rfl) fun ⟨b,r2⟩=>fin ?_ rfl;simp only [nR,W8,Xh,Xm,dr (show (16:Nat)≠1 by decide)]
  | binding=>
   simp only [jJ,P,kX,eW,fm];have o:(if bY dn r=true then nb (aL r) else nb r)=nb (if bY dn r=true then aL r else r):=by split <;> rfl
   rw [o];generalize (if bY dn r=true then aL r else r)=r0;have j:(if bY dn r=true then [da (aJ r)] else [])=(if bY dn r=true then [aJ r] else []).map da:=by split <;> rfl
   rw [j];generalize (if bY dn r=true then [aJ r] else [])=rc;have last: ∀(xs:List T) (g:List aU),(do
     let (es,r2) <- P n .expr d (bg sj (nb g))
     some (rc.map da++xs.map da++[cN sj (nb g)]++es,r2):R)=(do
     let (es,r2) <- P n .expr d (bg sj g)
     some (rc++xs++[cN sj g]++es,r2):R).map nR:=fun xs g=>by
    simp only [kS,kP];refine bind_map (go _ _ _ rfl) fun ⟨es,r2⟩=>fin ?_ rfl;simp only [nR,Xh,W8,Xm]
   rw [pg];refine fj (fun _=> ?_) fun _=> ?_
   .rw [eW,fm];refine bind_map (f:=nR) ?_ fun ⟨xs,g⟩=>last xs g;refine bind_map (go _ _ _ rfl) fun ⟨ps,g⟩=>fin ?_ rfl;simp only [nR,W8]
   .exact bind_map (go _ _ _ rfl) fun ⟨xs,g⟩=>last xs g
  | params=>
   simp only [jJ,P,vp];refine fj (fun _=> ?_) fun _=>fin rfl rfl;refine bind_map (go _ _ _ rfl) fun ⟨a,g⟩=> ?_;refine bind_map (go _ _ _ rfl) fun ⟨bs,r2⟩=>fin ?_ rfl;simp only [nR,Xh]
  | arm=>
   simp only [jJ,P];refine bind_map (go _ _ _ rfl) fun ⟨a,g⟩=> ?_;simp only [nR,kS,kP];refine bind_map (go _ _ _ rfl) fun ⟨es,r2⟩=>fin ?_ rfl;simp only [nR,Xh,W8,Xm,dr (show (10:Nat)≠1 by decide)]
  | arms=>
   simp only [jJ,P,kX,eW,fm];refine fj (fun _=> ?_) fun _=>fin rfl rfl;refine bind_map (go _ _ _ rfl) fun ⟨a,g⟩=> ?_;refine bind_map (go _ _ _ rfl) fun ⟨bs,r2⟩=>fin ?_ rfl;simp only [nR,W8,Xh]
theorem Hz: ∀(n m:Nat) (r:List aU),r.length<=n->(nb r).length<=m->(skip m (nb r)).1=(skip n r).1.map da/\(skip m (nb r)).2=nb (skip n r).2
 | 0,m,r,h,_=>by
  have:r=[]:=List.length_eq_zero_iff.1 (by omega);subst this;cases m with
  | zero=>exact ⟨rfl,rfl⟩
  | succ m=>exact ⟨rfl,rfl⟩
 | n+1,0,r,h,h2=>by
  have h0:nb r=[]:=List.length_eq_zero_iff.1 (by omega);have hx:nx r=(0,[]):=by rw [<- pg,h0];rfl
  simp only [skip,hx];exact ⟨rfl,rfl⟩
 | n+1,m+1,r,h,h2=>by
  simp only [skip,pg,kX,eW,fm];split
  .rename_i hc;have l1:=ej hc.1;have l2:=ej (r:=nb r) (by rw [pg];exact hc.1);rw [eW] at l2;obtain ⟨a,b⟩:=Hz n m (aL r) (by omega) (by omega);rw [a,b];exact ⟨rfl,rfl⟩
  .exact ⟨rfl,rfl⟩
theorem yS: ∀(N:Nat) (r:List aU),decls N (nb r)=(decls N r).map fun l=>l.map da
 | 0,r=>rfl
 | n+1,r=>by
  obtain ⟨k1,k2⟩:=Hz r.length (nb r).length r (WW _) (WW _);simp only [decls,pg,kX,eW,fm,k1,k2];refine fj (fun _=>rfl) fun _=>fj (fun _=> ?_) fun _=> ?_
  .refine bind_map (f:=nR) ?_ fun ⟨bs,a⟩=> ?_
   .exact UZ n .binding 0 (aL r)
   .refine bind_map (yS n a) fun l=> ?_;simp only [nR,Option.map_some,W8,dr (show (5:Nat)≠1 by decide)]
  .refine bind_map (yS n _) fun l=> ?_;simp only [Option.map_some,W8,dr (show (3:Nat)≠1 by decide)]
theorem Kc (r:List aU):doc (nb r)=da (doc r):=by
 obtain ⟨l,a,b⟩:=ju r;have h:=yS (fuel r) r;rw [a] at h;rw [Jj (N:=fuel r) (l:=l.map da) h,b,dr (by decide)]
theorem Dc {r s:List aU} (h:nb r=nb s):da (doc r)=da (doc s):=by rw [<- Kc, <- Kc,h]
theorem Gc {t:T} (h:jk t=true):bZ t=true:=by
 cases t with
 | mk k tk tx l=>
  simp only [jk,WY,XA,List.isEmpty_iff] at h;obtain ⟨rfl,rfl,rfl⟩:=h;rfl
theorem qv: ∀(l:List T),dc (l.filter fun t=> !jk t)=dc l
 | []=>rfl
 | t::l=>by
  rw [YI];cases h:jk t with
  | true=>
   simp only [XE,Xw,if_false,dc,Gc h,X8];exact qv l
  | false=>simp only [XR,if_true,dc,qv l]
mutual
theorem vu: ∀(t:T),bZ (da t)=bZ t
 | .mk k tk tx l=>by
  rw [da];by_cases h:k=1
  .subst h;rw [if_pos rfl];simp only [bZ,qv]
  .rw [if_neg h];simp only [bZ,yV l]
theorem yV: ∀(l:List T),dc (po l)=dc l
 | []=>rfl
 | t::l=>by simp only [po,dc,vu t,yV l]
end
end Go.Parse
namespace Go.Ast
open Go.VM Go.Lex Go.Parse Go.Scope
def pI (k tk:Nat):Bool:=k==1&&(tk != 0&&(tk != 1&&tk != 2))
mutual
def L3 (a:Nat):T->List (Nat×Nat)
 | .mk k tk tx l=>JH a l++(if pI k tk=true then [(a+(bB l).length,a+(bB l).length+tx.length)] else [])
def JH (a:Nat):List T->List (Nat×Nat)
 | []=>[]
 | t::l=>L3 a t++JH (a+(cy t).length) l
end
def kG (l:List (Nat×Nat)):Sp:=(((l.getD 0 (0,0)).1:Int),((l.getD (l.length - 1) (0,0)).2:Int))
def mF (a:Nat) (t:T):Sp:=kG (L3 a t)
def lr:List UInt8->List UInt8
 | []=>[]
 | [c]=>[c]
 | c::d::l=>if c=92 then (if d=110 then 10 else if d=116 then 9 else d)::lr l else c::lr (d::l)
def told (s:List UInt8):List UInt8:=lr ((s.drop 1).take (s.length - 2))
def gh (tk:Nat) (s:List UInt8):Nat×List UInt8:=
 if tk=4 then (1,s) else if tk=5 then (2,s) else if tk=6 then (3,s) else if tk=7 then (4,told s) else (5,s)
def ey {α:Type}:List α->List α
 | _::x::y::l=>x::ey (y::l)
 | _=>[]
def isRec:T->Bool
 | .mk _ tk s _=>tk==3&&s==dn
def mP (ks:List T) (P:List iV) (E:List jG):Bool×List iV×jG:=
 let rc:=isRec (ks.getD 1 default)
 let m:=if rc=true then 2 else 1
 let ps:=(P.drop m).take (P.length - m - 2)
 (rc&&(match ps.getD 0 default with | .mk k _ _ _ _=>k==15),ps,E.getD (E.length - 1) default)
def tl:T->List UInt8
 | .mk _ _ s _=>s
def Ez (sp:Sp):List jG->jG
 | [e]=>e
 | l=> .mk 6 sp false [] [] l
def Dh (sp:Sp):List iV->iV
 | [p]=>p
 | l=> .mk 18 0 sp [] l
def nE (k tk:Nat) (s:List UInt8) (sp:Sp) (ks:List T) (P:List iV) (E:List jG) (A:List (iV×jG)):jG:=
 if k=1 then .mk (gh tk s).1 sp false (gh tk s).2 [] []
 else if k=14 then Ez sp (ey E)
 else if k=15 then .mk 7 sp false [] [] (ey E)
 else if k=13 then .mk 8 sp false [] [] E
 else if k=11 then .mk 9 sp false (tl (ks.getD 1 default)) [] [E.getD 0 default,E.getD 2 default]
 else if k=12 then .mk 10 sp false (tl (ks.getD 0 default)) [] [E.getD 1 default]
 else if k=8 then .mk 12 sp false [] [] [E.getD 1 default,E.getD 3 default,E.getD 5 default]
 else if k=7 then .mk 11 sp false [] ((P.drop 1).take (P.length - 3)) [E.getD (E.length - 1) default]
 else if k=6 then
  let b:=mP (ks.take (ks.length - 2)) (P.take (P.length - 2)) (E.take (E.length - 2))
  .mk 14 sp b.1 [] b.2.1 [b.2.2,E.getD (E.length - 1) default]
 else .mk 13 sp false [] (A.map (·.1)) (E.getD 1 default::A.map (·.2))
def rK (k tk:Nat) (s:List UInt8) (sp:Sp) (P:List iV):iV:=
 if k=16 then .mk 20 0 sp [] [P.getD 0 default,P.getD 2 default]
 else if k=18 then .mk 19 0 sp [] (ey P)
 else if k=17 then Dh sp (ey P)
 else if (gh tk s).1=1 then .mk 15 0 sp (gh tk s).2 []
 else if tk=8 then .mk 16 0 sp [] []
 else .mk 17 (gh tk s).1 sp (gh tk s).2 []
mutual
def iu (a:Nat):T->iV
 | .mk k tk s l=>rK k tk s (mF a (.mk k tk s l)) (pC a l)
def pC (a:Nat):List T->List iV
 | []=>[]
 | t::l=>iu a t::pC (a+(cy t).length) l
end
mutual
def cM (a:Nat):T->jG
 | .mk k tk s l=>nE k tk s (mF a (.mk k tk s l)) l (pC a l) (gz a l) (uc a l)
def gz (a:Nat):List T->List jG
 | []=>[]
 | t::l=>cM a t::gz (a+(cy t).length) l
def uc (a:Nat):List T->List (iV×jG)
 | []=>[]
 | t::l=>Cw a t++uc (a+(cy t).length) l
def Cw (a:Nat):T->List (iV×jG)
 | .mk k _ _ l=>if k=10 then [((pC a l).getD 0 default,(gz a l).getD 2 default)] else []
end
def sR (a:Nat):T->List Bd
 | .mk k tk s l=>if k=5 then
   let b:=mP l (pC a l) (gz a l)
   [⟨mF a (.mk k tk s l),b.1,b.2.1,b.2.2⟩] else []
def gU (a:Nat):List T->List Bd
 | []=>[]
 | t::l=>sR a t++gU (a+(cy t).length) l
def Bv (s:List UInt8):Except Nat (List Bd):=
 if 65536 < s.length then .error 40
 else if cC s=true then (if bZ (doc (tokens s))=true then .ok (gU 0 (doc (tokens s)).kids) else .error 50)
 else .error 4
mutual
def jF:iV->iV
 | .mk k lit _ nm ps=> .mk k lit (0,0) nm (LF ps)
def LF:List iV->List iV
 | []=>[]
 | p::l=>jF p::LF l
end
mutual
def lQ:jG->jG
 | .mk k _ rc nm ps ls=> .mk k (0,0) rc nm (LF ps) (Nu ls)
def Nu:List jG->List jG
 | []=>[]
 | e::l=>lQ e::Nu l
end
theorem eE: ∀(l:List iV),LF l=l.map jF
 | []=>rfl
 | p::l=>by rw [LF,eE l];rfl
theorem gG: ∀(l:List jG),Nu l=l.map lQ
 | []=>rfl
 | p::l=>by rw [Nu,gG l];rfl
def Mm (x:iV×jG):iV×jG:=(jF x.1,lQ x.2)
def GX (d:Bd):Bd:=⟨(0,0),d.rc,d.ps.map jF,lQ d.body⟩
theorem jZ {α β:Type} (f:α->β): ∀(l:List α),ey (l.map f)=(ey l).map f
 | []=>rfl
 | [_]=>rfl
 | [_,_]=>rfl
 | _::x::y::l=>by
  have ih:=jZ f (y::l);simp only [W8] at ih;simp only [W8,ey,ih]
theorem kh {α β:Type} [Inhabited α] [Inhabited β] {f:α->β} (hf:f default=default) (l:List α) (i:Nat):(l.map f).getD i default=f (l.getD i default):=by
 rw [Xp,Xp,XG];cases l[i]? with
 | none=>exact hf.symm
 | some a=>rfl
theorem wX:jF default=default:=rfl
theorem wH:lQ default=default:=rfl
theorem F3 (t:T):isRec (da t)=isRec t:=by
 cases t with
 | mk k tk s l=>rw [da];rfl
theorem KI (t:T):tl (da t)=tl t:=by
 cases t with
 | mk k tk s l=>rw [da];rfl
theorem Br:da default=default:=rfl
theorem GZ {ks ks':List T} {P P':List iV} {E E':List jG} (hk:ks'=ks.map da) (c:P'.map jF=P.map jF) (hE:E'.map lQ=E.map lQ):
  (mP ks' P' E').1=(mP ks P E).1/\(mP ks' P' E').2.1.map jF=(mP ks P E).2.1.map jF/\lQ (mP ks' P' E').2.2=lQ (mP ks P E).2.2:=by
 subst hk;have d:P'.length=P.length:=by simpa using Xy List.length c
 have e:E'.length=E.length:=by simpa using Xy List.length hE
 have h2: ∀m,(((P'.drop m).take (P'.length - m - 2)).map jF)=((P.drop m).take (P.length - m - 2)).map jF:=fun m=>by
  rw [List.map_take,List.map_take,List.map_drop,List.map_drop,c,d]
 have b: ∀{l a:List iV},a.map jF=l.map jF->(match a.getD 0 default with | .mk k _ _ _ _=>k==15)=(match l.getD 0 default with | .mk k _ _ _ _=>k==15):=fun {l a} h=>by
  have:(a.map jF).getD 0 default=(l.map jF).getD 0 default:=by rw [h]
  rw [kh wX,kh wX] at this;cases ha:a.getD 0 default with
  | mk k1 _ _ _ _=>
   cases hb:l.getD 0 default with
   | mk k2 _ _ _ _=>
    rw [ha,hb] at this;simp only [jF,iV.mk.injEq] at this;rw [this.1]
 unfold mP;simp only [kh Br,F3];refine ⟨?_,h2 _, ?_⟩
 .rw [b (h2 _)]
 .have:(E'.map lQ).getD (E.length - 1) default=(E.map lQ).getD (E.length - 1) default:=by rw [hE]
  rw [kh wH,kh wH] at this;rw [e];exact this
theorem Ng {l a:List iV} (h:a.map jF=l.map jF) (sp b:Sp):jF (Dh b a)=jF (Dh sp l):=by
 match a,l,h with
 | [],[],_=>rfl
 | [_],[_],h=>simpa [Dh,Ez] using h
 | _:: _:: _,_:: _:: _,h=>simp only [Dh,jF,eE,h]
 | [],_:: _,h=>simp at h
 | _:: _,[],h=>simp at h
 | [_],_:: _:: _,h=>simp at h
 | _:: _:: _,[_],h=>simp at h
theorem My {l a:List jG} (h:a.map lQ=l.map lQ) (sp b:Sp):lQ (Ez b a)=lQ (Ez sp l):=by
 match a,l,h with
 | [],[],_=>rfl
 | [_],[_],h=>simpa [Dh,Ez] using h
 | _:: _:: _,_:: _:: _,h=>simp only [Ez,lQ,gG,h]
 | [],_:: _,h=>simp at h
 | _:: _,[],h=>simp at h
 | [_],_:: _:: _,h=>simp at h
 | _:: _:: _,[_],h=>simp at h
theorem Ue {P P':List iV} (a:P'.map jF=P.map jF) (i:Nat):jF (P'.getD i default)=jF (P.getD i default):=by
 have:(P'.map jF).getD i default=(P.map jF).getD i default:=by rw [a]
 rwa [kh wX,kh wX] at this
theorem SD {P P':List jG} (a:P'.map lQ=P.map lQ) (i:Nat):lQ (P'.getD i default)=lQ (P.getD i default):=by
 have:(P'.map lQ).getD i default=(P.map lQ).getD i default:=by rw [a]
 rwa [kh wH,kh wH] at this
theorem K7 (k tk:Nat) (s:List UInt8) (sp d:Sp) {P P':List iV} (e:P'.map jF=P.map jF):jF (rK k tk s d P')=jF (rK k tk s sp P):=by
 have g:=Ue e;have ho:(ey P').map jF=(ey P).map jF:=by rw [<- jZ, <- jZ,e]
 unfold rK;by_cases a:k=16
 .simp only [if_pos a,jF,eE,W8,Xm,g]
 by_cases b:k=18
 .simp only [if_neg a,if_pos b,jF,eE,ho]
 by_cases c:k=17
 .rw [if_neg a,if_neg b,if_pos c,if_neg a,if_neg b,if_pos c];exact Ng ho sp d
 rw [if_neg a,if_neg b,if_neg c,if_neg a,if_neg b,if_neg c]
 repeat' split
 all_goals simp only [jF,eE,Xm]
theorem Ed (k tk:Nat) (s:List UInt8) (sp c:Sp) {ks ks':List T} {P P':List iV} {E E':List jG} {A A':List (iV×jG)} (hk:k≠1->ks'=ks.map da) (d:k≠1->P'.map jF=P.map jF) (hE:k≠1->E'.map lQ=E.map lQ) (hA:k≠1->A'.map Mm=A.map Mm):
  lQ (nE k tk s c ks' P' E' A')=lQ (nE k tk s sp ks P E A):=by
 by_cases h1:k=1
 .unfold nE;simp only [if_pos h1,lQ,eE,gG,Xm]
 have hk:=hk h1;have d:=d h1;have hE:=hE h1;have hA:=hA h1;have g:=SD hE;have ho:(ey E').map lQ=(ey E).map lQ:=by rw [<- jZ, <- jZ,hE]
 have n:E'.length=E.length:=by simpa using Xy List.length hE
 have p:P'.length=P.length:=by simpa using Xy List.length d
 have o:ks'.length=ks.length:=by rw [hk,Xn]
 have hA1:(A'.map (·.1)).map jF=(A.map (·.1)).map jF:=by
  have:=Xy (List.map (·.1)) hA;simpa [Mm,Function.comp_def] using this
 have hA2:(A'.map (·.2)).map lQ=(A.map (·.2)).map lQ:=by
  have:=Xy (List.map (·.2)) hA;simpa [Mm,Function.comp_def] using this
 have hps: ∀a b,(((P'.drop a).take b).map jF)=((P.drop a).take b).map jF:=fun a b=>by
  rw [List.map_take,List.map_take,List.map_drop,List.map_drop,d]
 have e: ∀i,tl (ks'.getD i default)=tl (ks.getD i default):=fun i=>by
  rw [hk,kh Br,KI]
 unfold nE;simp only [if_neg h1];by_cases f:k=14
 .simp only [if_pos f];exact My ho sp c
 simp only [if_neg f];by_cases h:k=15
 .simp only [if_pos h,lQ,eE,gG,Xm,ho]
 simp only [if_neg h];by_cases j:k=13
 .simp only [if_pos j,lQ,eE,gG,Xm,hE]
 simp only [if_neg j];by_cases l:k=11
 .simp only [if_pos l,lQ,eE,gG,Xm,W8,g,e]
 simp only [if_neg l];by_cases m:k=12
 .simp only [if_pos m,lQ,eE,gG,Xm,W8,g,e]
 simp only [if_neg m];by_cases q:k=8
 .simp only [if_pos q,lQ,eE,gG,Xm,W8,g]
 simp only [if_neg q];by_cases r:k=7
 .simp only [if_pos r,lQ,eE,gG,Xm,W8,n,p,hps,g]
 simp only [if_neg r];by_cases t:k=6
 .simp only [if_pos t];obtain ⟨b1,b2,b3⟩:=GZ (ks:=ks.take (ks.length - 2)) (ks':=ks'.take (ks'.length - 2)) (P:=P.take (P.length - 2)) (P':=P'.take (P'.length - 2)) (E:=E.take (E.length - 2)) (E':=E'.take (E'.length - 2)) (by rw [o,hk,List.map_take]) (by rw [p,List.map_take,List.map_take,d]) (by rw [n,List.map_take,List.map_take,hE]);rw [n] at b1 b2 b3;simp only [lQ,eE,gG,Xm,W8,n,g,b1,b2,b3]
 simp only [if_neg t,lQ,eE,gG,W8,g,hA1,hA2]
mutual
theorem IZ: ∀(t:T) (a b:Nat),jF (iu b (da t))=jF (iu a t)
 | .mk k tk s l,a,b=>by
  rw [da,iu,iu];by_cases h:k=1
  .subst h;rw [if_pos rfl];unfold rK;simp only [show ¬ (1:Nat)=16 by decide,show ¬ (1:Nat)=18 by decide,show ¬ (1:Nat)=17 by decide,if_false]
   repeat' split
   all_goals simp only [jF,eE,Xm]
  .rw [if_neg h];exact K7 k tk s _ _ (nO l a b)
theorem nO: ∀(l:List T) (a b:Nat),(pC b (po l)).map jF=(pC a l).map jF
 | [],_,_=>rfl
 | t::l,a,b=>by
  rw [po,pC,pC,W8,W8,IZ t a b,nO l (a+(cy t).length) (b+(cy (da t)).length)]
end
mutual
theorem Fy: ∀(t:T) (a b:Nat),lQ (cM b (da t))=lQ (cM a t)
 | .mk k tk s l,a,b=>by
  rw [da,cM,cM];by_cases h:k=1
  .rw [if_pos h];exact Ed k tk s _ _ (fun h'=>absurd h h') (fun h'=>absurd h h') (fun h'=>absurd h h') (fun h'=>absurd h h')
  .rw [if_neg h];exact Ed k tk s _ _ (fun _=>qP l) (fun _=>nO l a b) (fun _=>oX l a b) (fun _=>yT l a b)
theorem oX: ∀(l:List T) (a b:Nat),(gz b (po l)).map lQ=(gz a l).map lQ
 | [],_,_=>rfl
 | t::l,a,b=>by
  rw [po,gz,gz,W8,W8,Fy t a b,oX l (a+(cy t).length) (b+(cy (da t)).length)]
theorem yT: ∀(l:List T) (a b:Nat),(uc b (po l)).map Mm=(uc a l).map Mm
 | [],_,_=>rfl
 | t::l,a,b=>by
  rw [po,uc,uc,Xh,Xh,Jm t a b,yT l (a+(cy t).length) (b+(cy (da t)).length)]
theorem Jm: ∀(t:T) (a b:Nat),(Cw b (da t)).map Mm=(Cw a t).map Mm
 | .mk k tk s l,a,b=>by
  rw [da,Cw,Cw];by_cases h:k=10
  .subst h;rw [if_neg (show ¬ (10:Nat)=1 by decide),if_pos rfl,if_pos rfl];have h1:=Ue (nO l a b) 0;have h2:=SD (oX l a b) 2;simp only [W8,Xm,Mm,h1,h2]
  .rw [if_neg h,if_neg h]
end
theorem Gz (t:T) (a b:Nat):(sR b (da t)).map GX=(sR a t).map GX:=by
 cases t with
 | mk k tk s l=>
  rw [da,sR,sR];by_cases h:k=5
  .subst h;rw [if_neg (show ¬ (5:Nat)=1 by decide),if_pos rfl,if_pos rfl];obtain ⟨b1,b2,b3⟩:=GZ (qP l) (nO l a b) (oX l a b);simp only [W8,Xm,GX,b1,b2,b3]
  .rw [if_neg h,if_neg h]
theorem pY: ∀(l:List T) (a b:Nat),(gU b (l.map da)).map GX=(gU a l).map GX
 | [],_,_=>rfl
 | t::l,a,b=>by
  rw [W8,gU,gU,Xh,Xh,Gz t a b,pY l (a+(cy t).length) (b+(cy (da t)).length)]
theorem F0 {r s:List aU} (h:nb r=nb s):(gU 0 (doc r).kids).map GX=(gU 0 (doc s).kids).map GX:=by
 have e:=Dc h;obtain ⟨l,b,a⟩:=ju r;obtain ⟨m,f1,f2⟩:=ju s;rw [a,f2,dr (by decide),dr (by decide)] at e;injection e with _ _ _ e
 rw [a,f2];show (gU 0 l).map GX=(gU 0 m).map GX;rw [<- pY l 0 0, <- pY m 0 0,e]
end Go.Ast
namespace Go.VM
open Go
section
variable {β:Type} {Q:β->Prop} {st st0:St} {l:ui} {z:Nat} {e:TypeId} {v:AV} {ws:List AV}
theorem Vw.keeps {s:St} {but:Nat->Prop} (w:Vw st l) (k:ba st s but) (h: ∀q∈l,¬ but q.1):Vw s l:=
 ⟨fun q a=>⟨k.old _ _ (h q a) (w.v q a).1,by rw [k.ro];exact (w.v q a).2⟩,w.nd,by rw [k.ro];exact Xs w.ro k.h⟩
theorem vH {a b c:St} {p:Nat->Prop} (h:ba a b (fun _=>False)) (k:ba b c p) (hp: ∀j,p j->a.h<=j):ba a c (fun _=>False):=
 ⟨k.ro.trans h.ro,Xs h.h k.h,fun j o _ hg=>k.old j o (fun f=>by
  have h1:=hp j f;have h2:=(St.ch.1 hg).1;omega) (h.old j o (fun f=>f) hg)⟩
structure Wv (st0 st:St) (l:ui) (z:Nat) (e:TypeId) (v:AV) (ws:List AV):Prop where
 w:Vw st l
 o:iS st z e v ws
 nw: ∀j,dS v j->st0.h<=j
 k:ba st0 st (fun _=>False)
 ge: ∀q∈l,st0.h<=q.1
theorem Wv.start (h:st.ro<=st.h) (z:Nat) (e:TypeId):Wv st st [] z e .ay []:=⟨Vw.start h,iS.ay h z e,(fun j hj=>by obtain ⟨_,_,h⟩:=hj;cases h),ba.refl _ _,fun q a=>by cases a⟩
theorem Wv.sub {a:ui} (w:Wv st0 st l z e v ws) (h:List.Sublist a l):Wv st0 st a z e v ws:=⟨w.w.sub h,w.o,w.nw,w.k,fun q b=>w.ge q (h.subset b)⟩
theorem Wv.none (w:Wv st0 st l z e v ws):Wv st0 st [] z e v ws:=w.sub (X0 _)
theorem Wv.keeps {s:St} (w:Wv st0 st l z e v ws) (k:ba st s (fun _=>False)):Wv st0 s l z e v ws:=
 ⟨w.w.keeps k (fun _ _ f=>f),qb w.o k (fun _ _ f=>f),w.nw,w.k.trans k,w.ge⟩
theorem aa.ux (w:Wv st0 st l z e v ws) {ty:TypeId} {cs:List AV} {K:St->Option β} (g: ∀s,s.h=st.h+1->Wv st0 s ((st.h,ty,cs)::l) z e v ws->aa (K s) Q):aa (bh (st.add (.cells ty cs)) K) Q:=by
 refine g _ rfl ⟨w.w.alloc ty cs,qb w.o (ba.add _ _ (fun _=>False)) (fun _ _ f=>f),w.nw,w.k.trans (ba.add _ _ _),fun q a=> ?_⟩;rcases Xb.1 a with rfl | a
 .exact w.k.h
 .exact w.ge q a
theorem Wv.putAt {a:Nat} {t t':TypeId} {old cs:List AV} {l1 l2:ui} (w:Wv st0 st (l1++(a,t,old)::l2) z e v ws):Wv st0 (st.put a (.cells t' cs)) (l1++(a,t',cs)::l2) z e v ws:=by
 have hm:(a,t,old)∈l1++(a,t,old)::l2:=List.mem_append_right _ WS;have hg:=w.w.get hm;refine ⟨w.w.putAt cs,w.o.put hg,w.nw,vH w.k (ba.put (but:=(· =a)) rfl) (fun j hj=>by rw [hj];exact w.ge _ hm),fun q b=> ?_⟩;rcases Xj.1 b with h | h
 .exact w.ge q (List.mem_append_left _ h)
 .rcases Xb.1 h with rfl | h
  .have h1:=w.ge (a,t,old) hm;exact h1
  .exact w.ge q (List.mem_append_right _ (WZ _ h))
theorem aa.vi {O:rB} (l1:ui) {l2:ui} {a:Nat} {ty:TypeId} {old:List AV} (w:Wv st0 st (l1++(a,ty,old)::l2) z e v ws) {y:Nat} {u:AV} {cs:List AV} {K:Kv β}
  (g: ∀s b,s.h=st.h->Wv st0 s (l1++(a,ty,cs)::l2) z e v ws->aa (K VM.undef s b) Q) (hz:old.length=y:=by rfl) (hc:cs.length=y:=by rfl):aa (aM O y (.mp a 0) u cs st K) Q:=by
 have hm:(a,ty,old)∈l1++(a,ty,old)::l2:=List.mem_append_right _ WS;have c:aM O y (.mp a 0) u cs st K=K VM.undef (st.put a (.cells ty cs)) ⟨[a],.wrote a (.cells ty cs)⟩:=by
  rw [dq (w.w.get hm) hc (by omega) (w.w.v _ hm).2,jT (by omega)]
 exact aa.step c (g _ _ rfl w.putAt)
theorem aa.WE {O:rB} (l1:ui) {l2:ui} {a:Nat} {ty:TypeId} {old:List AV} (w:Wv st0 st (l1++(a,ty,old)::l2) z e v ws) {off y:Nat} {u:AV} {cs:List AV} {K:Kv β} (hl:off+cs.length<=old.length)
  (g: ∀s o,s.h=st.h->Wv st0 s (l1++(a,ty,cJ old off cs)::l2) z e v ws->aa (K VM.undef s ⟨[a],.wrote a o⟩) Q) (hc:cs.length=y:=by rfl):aa (aM O y (.mp a off) u cs st K) Q:=by
 have hm:(a,ty,old)∈l1++(a,ty,old)::l2:=List.mem_append_right _ WS;exact aa.step (dq (w.w.get hm) hc hl (w.w.v _ hm).2 K) (g _ _ rfl w.putAt)
theorem aa.KD (w:Wv st0 st l z e v ws) {b:Nat} {x:AV} (hr:ws.length+1<=1000000000) (hb:b<=1000) (hz:1<=z) {K:Kv β} (g: ∀v' s a,Wv st0 s l z e v' (ws++[x])->aa (K v' s a) Q):aa (cT z b e v [x] st K) Q:=by
 obtain ⟨v',s,a,c,o1,k1,n1⟩:=xc (b:=b) (new:=[x]) w.o (by simp) (tj (by simpa using hr) hb hz);refine aa.step (qO c K) (g v' s a ⟨w.w.keeps k1 (fun q d h=>w.o.not (w.w.v q d).1 h),o1,fun j hj=> ?_,vH w.k k1 w.nw,w.ge⟩);rcases n1 j hj with h | h
 .exact w.nw j h
 .exact Xs w.k.h h
theorem aa.TL (w:Wv st0 st l z e v ws) {K:AV->Option β} (g: ∀x,bp z x ws->aa (K x) Q):aa (gR st 0 v K) Q:=by
 obtain ⟨x,hx,a⟩:=Om (β:=β) w.o;exact aa.step (a K) (g x hx)
structure Vo (st:St) (l:ui) (z:Nat) (e:TypeId) (v:AV) (ws:List AV):Prop where
 w:Vw st l
 o:iS st z e v ws
theorem Vo.call {s:St} {v':AV} {a:List AV} {c:ui} {z':Nat} {b:TypeId} (w:Vo st l z e v ws) (r:Wv st s c z' b v' a):Vo s l z' b v' a:=⟨w.w.keeps r.k (fun _ _ f=>f),r.o⟩
theorem aa.mh {O:rB} (l1:ui) {l2:ui} {a:Nat} {ty:TypeId} {old:List AV} (w:Vo st (l1++(a,ty,old)::l2) z e v ws) {off y:Nat} {u:AV} {cs:List AV} {K:Kv β} (hl:off+cs.length<=old.length)
  (g: ∀s o,s.h=st.h->Vo s (l1++(a,ty,cJ old off cs)::l2) z e v ws->aa (K VM.undef s ⟨[a],.wrote a o⟩) Q) (hc:cs.length=y:=by rfl):aa (aM O y (.mp a off) u cs st K) Q:=by
 have hm:(a,ty,old)∈l1++(a,ty,old)::l2:=List.mem_append_right _ WS;have hg:=w.w.get hm;exact aa.step (dq hg hc hl (w.w.v _ hm).2 K) (g _ _ rfl ⟨w.w.putAt _,w.o.put hg⟩)
theorem Vo.new {v':AV} {a:List AV} (w:Vo st l z e v ws) (h:(v'= .ay\/v'= .es)/\a=[]\/v'= .sl z a .shut) (hl:a.length<=9223372036854775807):Vo st l z e v' a:=⟨w.w,w.w.ro,hl,by
 rcases h with h | h
 .exact .inl h
 .exact .inr (.inl h)⟩
theorem CN {base:Nat} {vs xs:List AV} (h:lF (freeze st base 99) vs= .ok xs) (hb:bL xs=true) (K:AV->Option β):gR st base (.agg vs) K=K (.agg xs):=by
 have a:freeze st base 100 (.agg vs)= .ok (.agg xs):=by
  show (do pure (.agg (<- lF (freeze st base 99) vs)):db AV)= _;rw [h];rfl
 have b:bare (.agg xs)=true:=hb;simp only [gR,a,b,aR]
end
end Go.VM
namespace Go.Ast
open Go.VM Go.Lex Go.Parse
def vo:List UInt8->Bool
 | []=>true
 | [c]=>c != 92
 | c::d::l=>if c=92 then vo l else vo (d::l)
theorem Cp: ∀(s:List UInt8) (n:Nat),dT s=(7,n)-> ∃u,s.take n=u++[34]/\vo u=true
 | [],n,h=>by simp [dT] at h
 | [c],n,h=>by
  simp only [dT] at h;split at h
  .simp at h
  .split at h
   .rename_i h1;obtain rfl:1=n:=by simpa using h
    exact ⟨[],by simp [h1],rfl⟩
   .simp at h
 | c::d::l,n,h=>by
  simp only [dT] at h;split at h
  .simp at h
  .split at h
   .rename_i h1;obtain rfl:1=n:=by simpa using h
    exact ⟨[],by simp [h1],rfl⟩
   .split at h
    .rename_i h1;split at h
     .simp only [WV] at h;obtain ⟨u,hu,he⟩:=Cp l (dT l).2 (by rw [<- h.1]);refine ⟨c::d::u, ?_, ?_⟩
      .rw [<- h.2];simp [hu]
      .simp only [vo,if_pos h1];exact he
     .simp at h
    .rename_i h1;simp only [WV] at h;obtain ⟨u,hu,he⟩:=Cp (d::l) (dT (d::l)).2 (by rw [<- h.1]);refine ⟨c::u, ?_, ?_⟩
     .rw [<- h.2];simp [hu]
     .cases u with
      | nil=>simp [vo,h1]
      | cons a u=>
       simp only [vo,if_neg h1];exact he
def iA (t:aU):Prop:=t.2≠[]/\(t.1=7-> ∃u,t.2=34::u++[34]/\vo u=true)/\(t.1=8->t.2.length<=2)
theorem kR: ∀(l:List UInt8),(dT l).1=7\/(dT l).1=9
 | []=> .inr rfl
 | [c]=>by
  simp only [dT];split
  .exact .inr rfl
  .split
   .exact .inl rfl
   .exact .inr rfl
 | c::d::l=>by
  simp only [dT];split
  .exact .inr rfl
  .split
   .exact .inl rfl
   .split
    .split
     .exact kR l
     .exact .inr rfl
    .exact kR (d::l)
theorem TN (s:List UInt8) (hs:s≠[]):(cut s).1=7-> ∃u,s.take (cut s).2=34::u++[34]/\vo u=true:=by
 cases s with
 | nil=>exact absurd rfl hs
 | cons c l=>
  intro h;simp only [cut] at h ⊢;by_cases h1:bH c=true
  .rw [if_pos h1] at h;cases h
  rw [if_neg h1] at h ⊢;by_cases h2:(c::l).take 2=[40,42]
  .rw [if_pos h2] at h;cases hr:rem ((c::l).drop 2) 1 <;> rw [hr] at h <;> cases h
  rw [if_neg h2] at h ⊢;by_cases h3:jq c=true
  .rw [if_pos h3] at h;simp only [pt] at h;split at h
   .cases h
   .split at h <;> cases h
  rw [if_neg h3] at h ⊢;by_cases h4:aI c=true
  .rw [if_pos h4] at h;simp only [number] at h;split at h
   .split at h <;> cases h
   .cases h
  rw [if_neg h4] at h ⊢;by_cases a:c=34
  .rw [if_pos a] at h ⊢;obtain ⟨u,hu,he⟩:=Cp l (dT l).2 (by rw [<- h]);exact ⟨u,by rw [a];simp [hu],he⟩
  rw [if_neg a] at h ⊢;by_cases b:jE.contains ((c::l).take 2)=true
  .rw [if_pos b] at h;cases h
  rw [if_neg b] at h ⊢;by_cases d:kQ c=true
  .rw [if_pos d] at h;cases h
  rw [if_neg d] at h;cases h
theorem T7 (s:List UInt8):(cut s).1=8->(s.take (cut s).2).length<=2:=by
 cases s with
 | nil=>intro h;cases h
 | cons c l=>
  intro h;simp only [cut] at h ⊢;by_cases h1:bH c=true
  .rw [if_pos h1] at h;cases h
  rw [if_neg h1] at h ⊢;by_cases h2:(c::l).take 2=[40,42]
  .rw [if_pos h2] at h;cases hr:rem ((c::l).drop 2) 1 <;> rw [hr] at h <;> cases h
  rw [if_neg h2] at h ⊢;by_cases h3:jq c=true
  .rw [if_pos h3] at h ⊢;simp only [pt] at h;split at h
   .rename_i hw;rw [wI,hw];decide
   .split at h <;> cases h
  rw [if_neg h3] at h ⊢;by_cases h4:aI c=true
  .rw [if_pos h4] at h;simp only [number] at h;split at h
   .split at h <;> cases h
   .cases h
  rw [if_neg h4] at h ⊢;by_cases a:c=34
  .rw [if_pos a] at h;have: ∀l:List UInt8,(dT l).1=7\/(dT l).1=9:=kR;have:=this l;simp only at h;omega
  rw [if_neg a] at h ⊢;by_cases b:jE.contains ((c::l).take 2)=true
  .rw [if_pos b,Xg];omega
  rw [if_neg b] at h ⊢;by_cases d:kQ c=true
  .rw [if_pos d,Xg];omega
  rw [if_neg d] at h;cases h
theorem GI: ∀(n:Nat) (s:List UInt8),∀t∈nS n s,iA t
 | 0,_,t,h=>by cases h
 | n+1,s,t,h=>by
  cases s with
  | nil=>simp [nS] at h
  | cons c l=>
   simp only [nS,Xb] at h;rcases h with rfl | h
   .refine ⟨?_,TN _ (by simp),T7 _⟩;have:=kY (s:=c::l) (by simp);intro e;have h2:=Xy List.length e;rw [Xg,XI] at h2;omega
   .exact GI n _ t h
end Go.Ast
namespace Go.Parse
open Go.VM Go.Lex
def Tv (Q:aU->Prop) (ks:List T):Prop:= ∃r:List aU,ks=r.map iy/\ ∀x∈r,bn x=true/\Q x
def Lf (Q:aU->Prop) (s:List UInt8) (t:T):Prop:= ∃k ks,t= .mk 1 k s ks/\(k=3\/k=8)/\Q (k,s)/\Tv Q ks
def A0 (list:Bool):List UInt8:=if list then cU else dw
section
variable (Q:aU->Prop)
mutual
inductive ET:T->Prop where
 | leaf {k:Nat} {tx:List UInt8} {ks:List T}:Q (k,tx)->(k=4\/k=5\/k=6\/k=7\/(k=3\/k=8)/\(tx=gw\/tx=eD))->Tv Q ks->ET (.mk 1 k tx ks)
 | letin {a i e:T} {bs:List T}:Lf Q mU a->BT bs->Lf Q L4 i->ET e->ET (node 6 (a::bs++[i]++[e]))
 | lambda {f p a e:T} {ps:List T}:Lf Q Nr f->PT p->(∀x∈ps,PT x)->Lf Q fB a->ET e->ET (node 7 (f::p::ps++[a]++[e]))
 | ife {i a t b l c:T}:Lf Q Ur i->ET a->Lf Q rW t->ET b->Lf Q rT l->ET c->ET (node 8 [i,a,t,b,l,c])
 | mtch {m e w a:T} {bar as:List T}:Lf Q CG m->ET e->Lf Q bD w->(bar=[]\/ ∃b,Lf Q gO b/\bar=[b])->AT a->R6 as->ET (node 9 (m::e::w::bar++a::as))
 | bin {a op b:T} {s:List UInt8}:ET a->Lf Q s op->ET b->ET (node 11 [a,op,b])
 | un {op a:T}:Lf Q [45] op\/Lf Q [45,46] op->ET a->ET (node 12 [op,a])
 | app {a b:T}:ET a->ET b->ET (node 13 [a,b])
 | none {list:Bool} {o c:T}:Lf Q (A0 list) o->Lf Q (gQ list) c->ET (node (kindOf list false) [o,c])
 | some {list:Bool} {o c a:T} {l:List T}:Lf Q (A0 list) o->ET a->RZ list l->Lf Q (gQ list) c->ET (node (kindOf list false) (o::a::l++[c]))
inductive RZ:Bool->List T->Prop where
 | nil {list:Bool}:RZ list []
 | cons {list:Bool} {c x:T} {l:List T}:Lf Q (ry list) c->ET x->RZ list l->RZ list (c::x::l)
inductive PT:T->Prop where
 | leaf {k:Nat} {tx:List UInt8} {ks:List T}:Q (k,tx)->(k=4\/k=5\/k=7\/(k=3\/k=8)/\(tx=gw\/tx=eD\/tx=np))->Tv Q ks->PT (.mk 1 k tx ks)
 | cons {a op b:T}:PT a->Lf Q zb op->PT b->PT (node 16 [a,op,b])
 | none {list:Bool} {o c:T}:Lf Q (A0 list) o->Lf Q (gQ list) c->PT (node (kindOf list true) [o,c])
 | some {list:Bool} {o c a:T} {l:List T}:Lf Q (A0 list) o->PT a->RP list l->Lf Q (gQ list) c->PT (node (kindOf list true) (o::a::l++[c]))
inductive RP:Bool->List T->Prop where
 | nil {list:Bool}:RP list []
 | cons {list:Bool} {c x:T} {l:List T}:Lf Q (ry list) c->PT x->RP list l->RP list (c::x::l)
inductive BT:List T->Prop where
 | mk {rc ps:List T} {p q e:T}:(rc=[]\/ ∃r,Lf Q dn r/\rc=[r])->PT p->(∀x∈ps,PT x)->Lf Q sj q->ET e->BT (rc++(p::ps)++[q]++[e])
inductive AT:T->Prop where
 | mk {p a e:T}:PT p->Lf Q fB a->ET e->AT (node 10 [p,a,e])
inductive R6:List T->Prop where
 | nil:R6 []
 | cons {b a:T} {l:List T}:Lf Q gO b->AT a->R6 l->R6 (b::a::l)
end
inductive DT:List T->Prop where
 | last {ks:List T}:Tv Q ks->DT [.mk 1 0 [] ks]
 | cons {a:T} {bs l:List T}:Lf Q mU a->BT Q bs->DT l->DT (node 5 (a::bs)::l)
variable {Q}
def rD (Q:aU->Prop) (r:List aU):Prop:= ∀t∈r,Q t
theorem bQ {r:List aU} (h:rD Q r):rD Q (aL r):=fun t ht=>h t ((Yc bn).subset (List.mem_of_mem_drop ht))
theorem jh {r:List aU} (s:List UInt8) (h:rD Q r):rD Q (bg s r):=by
 unfold bg;split
 .exact bQ h
 .exact h
theorem ri {r:List aU} (h:rD Q r):Tv Q ((r.takeWhile bn).map iy):=⟨_,rfl,fun _ hx=>⟨KG hx,h _ (List.takeWhile_prefix bn |>.subset hx)⟩⟩
theorem B3 {r:List aU} (h:(nx r).1≠0):nx r∈r:=by
 unfold nx at h ⊢;split
 .rename_i e;rw [e] at h;exact absurd rfl h
 .rename_i t l e;have:t∈r.dropWhile bn:=by rw [e];exact WS
  exact (Yc bn).subset this
theorem gC {s:List UInt8} {r:List aU} (hr:rD Q r) (h:bY s r=true):Lf Q s (aJ r):=by
 have h0:=hU h;have hm:=hr _ (B3 h0);unfold bY at h;simp only [WY,XL,XA] at h;refine ⟨(nx r).1,_, ?_,h.1, ?_,ri hr⟩
 .unfold aJ leaf;rw [h.2]
 .rw [<- h.2];exact hm
theorem Ku {a:List (List UInt8)} {r:List aU} (hr:rD Q r) (h:isAny a r=true): ∃s,s∈a/\Lf Q s (aJ r):=by
 have h0:=pX h;have hm:=hr _ (B3 h0);unfold isAny at h;simp only [WY,XL,XA,List.any_eq_true] at h;obtain ⟨h1,s,hs,e⟩:=h;refine ⟨s,hs,(nx r).1,_, ?_,h1, ?_,ri hr⟩
 .unfold aJ leaf;rw [e]
 .rw [e];exact hm
theorem lH {s:List UInt8} {r:List aU} (hr:rD Q r) (h:bZ (cN s r)=true):Lf Q s (cN s r):=by
 have h1:=H3 h;have:cN s r=aJ r:=by unfold cN;rw [h1];rfl
 rw [this];exact gC hr h1
def pre:jI->List aU->Prop
 | .closed list _,r=>bY (A0 list) r=true
 | _,_=>True
def Made (Q:aU->Prop):jI->List T->Prop
 | .expr,l | .whole,l | .level _,l | .neg,l | .atom false,l | .closed _ false,l=> ∃t,l=[t]/\ET Q t
 | .ops _ a,l | .args a,l=>ET Q a-> ∃t,l=[t]/\ET Q t
 | .atom true,l | .closed _ true,l | .pattern,l=> ∃t,l=[t]/\PT Q t
 | .items list false,l=>RZ Q list l
 | .items list true,l=>RP Q list l
 | .binding,l=>BT Q l
 | .params,l=> ∀x∈l,PT Q x
 | .arm,l=> ∃t,l=[t]/\AT Q t
 | .arms,l=>R6 Q l
theorem fS {N:Nat} {job:jI} {d:Nat} {r:List aU} {l:List T} {r':List aU} (h:P N job d r=some (l,r')) (hr:rD Q r):rD Q r':=Am (Q:=rD Q) (fun _ h=>bQ h) N job d r l r' h hr
theorem MW: ∀(N:Nat) (job:jI) (d:Nat) (r:List aU) (l:List T) (r':List aU),P N job d r=some (l,r')->pre job r->rD Q r->dc l=true->Made Q job l:=by
 intro N
 induction N with
 | zero=>intro job d r l r' h;cases h
 | succ n ih=>
  intro job d r l r' h ha hr hg;cases job with
  | expr=>
   simp only [P] at h;split at h
   .cases h;rw [dZ,uw] at hg;cases hg
   .have:=ih _ _ _ _ _ h trivial hr hg;exact this
  | whole=>
   simp only [P] at h;split at h
   .rename_i hc;obtain ⟨⟨bs,r2⟩,f,h⟩:=bind_some h;obtain ⟨⟨es,C⟩,j,h⟩:=bind_some h;cases h;rw [dZ] at hg;have hg:=eI hg;simp only [fC,dc,WY,Yg] at hg;have q2:=fS f (bQ hr);obtain ⟨e,rfl,he⟩:=ih _ _ _ _ _ j trivial (jh _ q2) hg.2;exact ⟨_,rfl,.letin (gC hr hc) (ih _ _ _ _ _ f trivial (bQ hr) hg.1.1.2) (lH q2 hg.1.2) he⟩
   split at h
   .rename_i hc;obtain ⟨⟨a,m⟩,f,h⟩:=bind_some h;obtain ⟨⟨ps,r2⟩,j,h⟩:=bind_some h;obtain ⟨⟨es,C⟩,y,h⟩:=bind_some h;cases h;rw [dZ] at hg;have hg:=eI hg;simp only [fC,dc,WY,Yg] at hg;have q1:=fS f (bQ hr);have q2:=fS j q1;obtain ⟨p,rfl,hp⟩:=ih _ _ _ _ _ f trivial (bQ hr) hg.1.1.1.2;have hps:=ih _ _ _ _ _ j trivial q1 hg.1.1.2;obtain ⟨e,rfl,he⟩:=ih _ _ _ _ _ y trivial (jh _ q2) hg.2;exact ⟨_,rfl,.lambda (gC hr hc) hp hps (lH q2 hg.1.2) he⟩
   split at h
   .rename_i hc;obtain ⟨⟨a,m⟩,f,h⟩:=bind_some h;obtain ⟨⟨b,r2⟩,j,h⟩:=bind_some h;obtain ⟨⟨c,C⟩,y,h⟩:=bind_some h;cases h;rw [dZ] at hg;have hg:=eI hg;simp only [fC,dc,WY,Yg] at hg;have q1:=fS f (bQ hr);have q2:=fS j (jh _ q1);obtain ⟨a',rfl,g⟩:=ih _ _ _ _ _ f trivial (bQ hr) hg.1.1.1.1.2;obtain ⟨b',rfl,o⟩:=ih _ _ _ _ _ j trivial (jh _ q1) hg.1.1.2;obtain ⟨K,rfl,D⟩:=ih _ _ _ _ _ y trivial (jh _ q2) hg.2;exact ⟨_,rfl,.ife (gC hr hc) g (lH q1 hg.1.1.1.2) o (lH q2 hg.1.2) D⟩
   split at h
   .rename_i hc;obtain ⟨⟨a,m⟩,f,h⟩:=bind_some h;obtain ⟨⟨b,C⟩,j,h⟩:=bind_some h;obtain ⟨⟨cs,L⟩,y,h⟩:=bind_some h;cases h;rw [dZ] at hg;have hg:=eI hg;simp only [fC,dc,WY,Yg] at hg;have q1:=fS f (bQ hr);have q2:=jh bD q1;have z:rD Q (if bY gO (bg bD m)=true then aL (bg bD m) else bg bD m):=by
     split
     .exact bQ q2
     .exact q2
    obtain ⟨a',rfl,g⟩:=ih _ _ _ _ _ f trivial (bQ hr) hg.1.1.1.1.2;obtain ⟨b',rfl,o⟩:=ih _ _ _ _ _ j trivial z hg.1.2;have E:=ih _ _ _ _ _ y trivial (fS j z) hg.2;have A:(if bY gO (bg bD m)=true then [aJ (bg bD m)] else [])=[]\/ ∃b,Lf Q gO b/\(if bY gO (bg bD m)=true then [aJ (bg bD m)] else [])=[b]:=by
     split
     .rename_i hb;exact .inr ⟨_,gC q2 hb,rfl⟩
     .exact .inl rfl
    have:=ET.mtch (gC hr hc) g (lH q1 hg.1.1.1.2) A o E;refine ⟨_,rfl, ?_⟩;simpa using this
   have:=ih _ _ _ _ _ h trivial hr hg;exact this
  | level k=>
   simp only [P] at h;split at h
   .have:=ih _ _ _ _ _ h trivial hr hg;exact this
   .obtain ⟨⟨a,m⟩,f,h⟩:=bind_some h;dsimp only at h;split at h
    .have i:=Hi _ _ _ _ _ _ h hg;obtain ⟨t,e,ht⟩:=ih _ _ _ _ _ f trivial hr i;cases e;exact ih _ _ _ _ _ h trivial (fS f hr) hg ht
    .cases h
  | ops k acc=>
   intro q;simp only [P] at h;split at h
   .rename_i hc;obtain ⟨⟨b,m⟩,f,h⟩:=bind_some h;have i:=Hi _ _ _ _ _ _ h hg;simp only [dU,dZ] at i;have i:=eI i;simp only [dc,WY] at i;obtain ⟨s,_,hs⟩:=Ku hr hc;obtain ⟨b',rfl,o⟩:=ih _ _ _ _ _ f trivial (bQ hr) i.2.2;exact ih _ _ _ _ _ h trivial (fS f (bQ hr)) hg (.bin q hs o)
   .cases h;exact ⟨_,rfl,q⟩
  | neg=>
   simp only [P] at h;split at h
   .rename_i hc;split at h
    .cases h;rw [dZ] at hg;have hg:=eI hg;simp only [dc,uw,YD,X3] at hg;cases hg
    .obtain ⟨⟨a,m⟩,f,h⟩:=bind_some h;cases h;rw [dZ] at hg;have hg:=eI hg;simp only [dc,WY] at hg;obtain ⟨s,hm,hs⟩:=Ku hr hc;obtain ⟨a',rfl,g⟩:=ih _ _ _ _ _ f trivial (bQ hr) hg.2;simp only [Xb,XS,or_false] at hm;refine ⟨_,rfl,.un ?_ g⟩;rcases hm with rfl | rfl
     .exact .inl hs
     .exact .inr hs
   .obtain ⟨⟨a,m⟩,f,h⟩:=bind_some h;dsimp only at h;split at h
    .have i:=Hi _ _ _ _ _ _ h hg;obtain ⟨t,e,ht⟩:=ih _ _ _ _ _ f trivial hr i;cases e;exact ih _ _ _ _ _ h trivial (fS f hr) hg ht
    .cases h
  | args acc=>
   intro q;simp only [P] at h;split at h
   .rename_i hc;obtain ⟨⟨b,m⟩,f,h⟩:=bind_some h;have i:=Hi _ _ _ _ _ _ h hg;simp only [dU,dZ] at i;have i:=eI i;simp only [dc,WY] at i;obtain ⟨b',rfl,o⟩:=ih _ _ _ _ _ f trivial hr i.2;exact ih _ _ _ _ _ h trivial (fS f hr) hg (.app q o)
   .cases h;exact ⟨_,rfl,q⟩
  | atom pat=>
   simp only [P] at h;split at h
   .rename_i hc;have h0:=nK hc;split at h
    .cases h;rw [dZ] at hg;cases hg
    .rename_i I;split at h
     .rename_i ho;cases pat with
      | false=>have:=ih _ _ _ _ _ h ho hr hg;exact this
      | true=>have:=ih _ _ _ _ _ h ho hr hg;exact this
     .rename_i ho;split at h
      .rename_i v;cases pat with
       | false=>have:=ih _ _ _ _ _ h v hr hg;exact this
       | true=>have:=ih _ _ _ _ _ h v hr hg;exact this
      .rename_i v;cases h;have hm:=hr _ (B3 h0);have hk:(nx r).1=4\/(nx r).1=5\/(nx r).1=7\/(nx r).1=(if pat then 5 else 6)\/isAny [gw,eD,dw,cU,if pat then np else dw] r=true:=by
        unfold cI at hc;simp only [XL,XA] at hc;rcases hc with ((((h | h) | h) | h) | h) | h
        .exact .inl h
        .exact .inr (.inl h)
        .exact .inr (.inr (.inl h))
        .exact absurd h I
        .exact .inr (.inr (.inr (.inl h)))
        .exact .inr (.inr (.inr (.inr h)))
       have hw:isAny [gw,eD,dw,cU,if pat then np else dw] r=true->((nx r).1=3\/(nx r).1=8)/\((nx r).2=gw\/(nx r).2=eD\/pat=true/\(nx r).2=np):=by
        intro h;unfold isAny at h;unfold bY at ho v;simp only [WY,XL,XA,Ym,List.any_nil,YE] at h ho v;obtain ⟨h1,h⟩:=h;refine ⟨h1, ?_⟩;rcases h with h | h | h | h | h
        .exact .inl h.symm
        .exact .inr (.inl h.symm)
        .exact absurd ⟨h1,h.symm⟩ ho
        .exact absurd ⟨h1,h.symm⟩ v
        .cases pat with
         | true=>exact .inr (.inr ⟨rfl,h.symm⟩)
         | false=>exact absurd ⟨h1,h.symm⟩ ho
       cases pat with
       | false=>
        refine ⟨_,rfl,.leaf hm ?_ (ri hr)⟩;rcases hk with h | h | h | h | h
        .exact .inl h
        .exact .inr (.inl h)
        .exact .inr (.inr (.inr (.inl h)))
        .exact .inr (.inr (.inl h))
        .obtain ⟨a,b⟩:=hw h;refine .inr (.inr (.inr (.inr ⟨a, ?_⟩)));rcases b with b | b | ⟨b,_⟩
         .exact .inl b
         .exact .inr b
         .cases b
       | true=>
        refine ⟨_,rfl,.leaf hm ?_ (ri hr)⟩;rcases hk with h | h | h | h | h
        .exact .inl h
        .exact .inr (.inl h)
        .exact .inr (.inr (.inl h))
        .exact .inr (.inl h)
        .obtain ⟨a,b⟩:=hw h;refine .inr (.inr (.inr ⟨a, ?_⟩));rcases b with b | b | ⟨_,b⟩
         .exact .inl b
         .exact .inr (.inl b)
         .exact .inr (.inr b)
   .cases h;rw [dZ,ue] at hg;cases hg
  | closed list pat=>
   have ho:bY (A0 list) r=true:=ha;simp only [P] at h;have w:=gC hr ho;split at h
   .rename_i hc;cases h;cases pat with
    | false=>exact ⟨_,rfl,.none w (gC (bQ hr) hc)⟩
    | true=>exact ⟨_,rfl,.none w (gC (bQ hr) hc)⟩
   .obtain ⟨⟨a,r2⟩,f,h⟩:=bind_some h;obtain ⟨⟨bs,C⟩,j,h⟩:=bind_some h;cases h;rw [dZ] at hg;have u:=eI hg;simp only [Xf,fC,dc,WY,Yg] at u;have q2:=fS f (bQ hr);have q3:=fS j q2;cases pat with
    | false=>
     obtain ⟨a',rfl,g⟩:=ih .expr _ _ _ _ f trivial (bQ hr) u.2.1.1;exact ⟨_,rfl,.some w g (ih (.items list false) _ _ _ _ j trivial q2 u.2.1.2) (lH q3 u.2.2)⟩
    | true=>
     obtain ⟨a',rfl,g⟩:=ih .pattern _ _ _ _ f trivial (bQ hr) u.2.1.1;exact ⟨_,rfl,.some w g (ih (.items list true) _ _ _ _ j trivial q2 u.2.1.2) (lH q3 u.2.2)⟩
  | items list pat=>
   simp only [P] at h;split at h
   .rename_i hc;obtain ⟨⟨a,m⟩,f,h⟩:=bind_some h;obtain ⟨⟨bs,r2⟩,j,h⟩:=bind_some h;cases h;simp only [Xf,fC,dc,WY,Yg] at hg;have q1:=fS f (bQ hr);cases pat with
    | false=>
     obtain ⟨a',rfl,g⟩:=ih .expr _ _ _ _ f trivial (bQ hr) hg.2.1;exact .cons (gC hr hc) g (ih (.items list false) _ _ _ _ j trivial q1 hg.2.2)
    | true=>
     obtain ⟨a',rfl,g⟩:=ih .pattern _ _ _ _ f trivial (bQ hr) hg.2.1;exact .cons (gC hr hc) g (ih (.items list true) _ _ _ _ j trivial q1 hg.2.2)
   .cases h;cases pat with
    | false=>exact .nil
    | true=>exact .nil
  | pattern=>
   simp only [P] at h;split at h
   .cases h;rw [dZ,uw] at hg;cases hg
   .obtain ⟨⟨a,m⟩,f,h⟩:=bind_some h;dsimp only at h;split at h
    .rename_i hc;obtain ⟨⟨b,r2⟩,j,h⟩:=bind_some h;cases h;rw [dZ] at hg;have hg:=eI hg;simp only [fC,dc,WY] at hg;have q1:=fS f hr;obtain ⟨a',rfl,g⟩:=ih _ _ _ _ _ f trivial hr hg.1;obtain ⟨b',rfl,o⟩:=ih _ _ _ _ _ j trivial (bQ q1) hg.2.2;exact ⟨_,rfl,.cons g (gC q1 hc) o⟩
    .cases h;have:=ih _ _ _ _ _ f trivial hr hg;exact this
  | binding=>
   simp only [P] at h;have B:(if bY dn r=true then [aJ r] else [])=[]\/ ∃b,Lf Q dn b/\(if bY dn r=true then [aJ r] else [])=[b]:=by
    split
    .rename_i hb;exact .inr ⟨_,gC hr hb,rfl⟩
    .exact .inl rfl
   have q0:rD Q (if bY dn r=true then aL r else r):=by
    split
    .exact bQ hr
    .exact hr
   generalize (if bY dn r=true then [aJ r] else [])=rc at h B;generalize (if bY dn r=true then aL r else r)=r0 at h q0;have fin: ∀{p:T} {ps:List T} {m:List aU} {es:List T} {r2:List aU},P n .expr d (bg sj m)=some (es,r2)->rD Q m->dc (rc++(p::ps)++[cN sj m]++es)=true->(bZ p=true->PT Q p)->(dc ps=true-> ∀x∈ps,PT Q x)->BT Q (rc++(p::ps)++[cN sj m]++es):=by
    intro p ps m es r2 f q1 hg hp hps;simp only [fC,dc,WY,Yg] at hg;obtain ⟨e,rfl,he⟩:=ih _ _ _ _ _ f trivial (jh _ q1) hg.2;exact .mk B (hp hg.1.1.2.1) (hps hg.1.1.2.2) (lH q1 hg.1.2) he
   split at h
   .rename_i h4;obtain ⟨⟨xs,m⟩,f,h⟩:=bind_some h;obtain ⟨⟨ps,J⟩,H,f⟩:=bind_some f;cases f;obtain ⟨⟨es,r2⟩,j,h⟩:=bind_some h;cases h;refine fin j (fS H (bQ q0)) hg (fun _=> ?_) (fun hg=>ih _ _ _ _ _ H trivial (bQ q0) hg);exact .leaf (q0 _ (B3 (by rw [h4];decide))) (.inl h4) (ri q0)
   .obtain ⟨⟨xs,m⟩,f,h⟩:=bind_some h;obtain ⟨⟨es,r2⟩,j,h⟩:=bind_some h;cases h;obtain ⟨x,rfl⟩:=cO _ _ _ _ _ _ f rfl;refine fin j (fS f q0) hg (fun F=> ?_) (fun _ x hx=>by cases hx);obtain ⟨x',e,G⟩:=ih _ _ _ _ _ f trivial q0 (by rw [dZ];exact F);cases e;exact G
  | params=>
   simp only [P] at h;split at h
   .obtain ⟨⟨a,m⟩,f,h⟩:=bind_some h;obtain ⟨⟨bs,r2⟩,j,h⟩:=bind_some h;cases h;simp only [fC,WY] at hg;obtain ⟨a',rfl,g⟩:=ih _ _ _ _ _ f trivial hr hg.1;have:=ih _ _ _ _ _ j trivial (fS f hr) hg.2;intro x hx;rcases Xj.1 hx with hx | hx
    .rw [Yj.1 hx];exact g
    .exact this x hx
   .cases h;intro x hx;cases hx
  | arm=>
   simp only [P] at h;obtain ⟨⟨a,m⟩,f,h⟩:=bind_some h;obtain ⟨⟨es,r2⟩,j,h⟩:=bind_some h;cases h;rw [dZ] at hg;have hg:=eI hg;simp only [fC,dc,WY,Yg] at hg;have q1:=fS f hr;obtain ⟨a',rfl,g⟩:=ih _ _ _ _ _ f trivial hr hg.1.1;obtain ⟨e,rfl,he⟩:=ih _ _ _ _ _ j trivial (jh _ q1) hg.2;exact ⟨_,rfl,.mk g (lH q1 hg.1.2) he⟩
  | arms=>
   simp only [P] at h;split at h
   .rename_i hc;obtain ⟨⟨a,m⟩,f,h⟩:=bind_some h;obtain ⟨⟨bs,r2⟩,j,h⟩:=bind_some h;cases h;simp only [Xf,fC,dc,WY] at hg;obtain ⟨a',rfl,g⟩:=ih _ _ _ _ _ f trivial (bQ hr) hg.2.1;exact .cons (gC hr hc) g (ih _ _ _ _ _ j trivial (fS f (bQ hr)) hg.2.2)
   .cases h;exact .nil
theorem vM: ∀(N:Nat) (r:List aU) (l:List T),decls N r=some l->O1 r->rD Q r->dc l=true->DT Q l
 | 0,_,_,h,_,_,_=>by cases h
 | n+1,r,l,h,hz,hr,hg=>by
  simp only [decls] at h;split at h
  .rename_i h0;cases h;have:aJ r= .mk 1 0 [] ((r.takeWhile bn).map iy):=by
    unfold aJ leaf;have hx:nx r=(0,[]):=by
     unfold nx at h0 ⊢;split
     .rfl
     .rename_i t l e;rw [e] at h0;exact absurd h0 (hz t ((Yc bn).subset (by rw [e];exact WS)))
    rw [hx]
   rw [this];exact .last (ri hr)
  split at h
  .rename_i hc;obtain ⟨⟨bs,d⟩,b,h⟩:=bind_some h;obtain ⟨k,c,h⟩:=bind_some h;cases h;simp only [dc,WY] at hg;have a:=eI hg.1;simp only [dc,WY] at a;exact .cons (gC hr hc) (MW _ _ _ _ _ _ b trivial (bQ hr) a.2) (vM n d k c (Am kF _ _ _ _ _ _ b (kF _ hz)) (fS b (bQ hr)) hg.2)
  .obtain ⟨k,c,h⟩:=bind_some h;cases h;simp only [dc,WY] at hg;cases hg.1
end
end Go.Parse
namespace Go.VM
open Go
def pD (st:St) (z:Nat) (e:TypeId) (x:AV) (ws:List AV):Prop:=
 (x= .ay/\ws=[])\/x= .sl z ws .shut\/(∃k,x= .sl z ws (.own k)/\st.get k= .ok (.tok ws.length e)/\st.ro<=k)\/ ∃k,x= .gs k z ws.length/\st.get k= .ok (.grow ws.length e z ws)/\st.ro<=k
structure uN (st st':St) (e:TypeId):Prop where
 ro:st'.ro=st.ro
 h:st.h<=st'.h
 old: ∀j o,(∀n,o≠ .tok n e)->(∀n z l,o≠ .grow n e z l)->st.get j= .ok o->st'.get j= .ok o
theorem uN.vw {a b:St} {e:TypeId} (k:uN a b e) {l:ui} (w:Vw a l):Vw b l:=
 ⟨fun q c=>⟨k.old _ _ (fun _ h=>by cases h) (fun _ _ _ h=>by cases h) (w.v q c).1,by rw [k.ro];exact (w.v q c).2⟩,w.nd,by rw [k.ro];exact Xs w.ro k.h⟩
theorem pD.CZ {a b:St} {z:Nat} {e c:TypeId} {x:AV} {ws:List AV} (h:pD a z e x ws) (k:uN a b c) (hne:e≠c):pD b z e x ws:=by
 rcases h with h | h | ⟨j,h1,h2,h3⟩ | ⟨j,h1,h2,h3⟩
 .exact .inl h
 .exact .inr (.inl h)
 .exact .inr (.inr (.inl ⟨j,h1,k.old _ _ (fun _ h=>by cases h;exact hne rfl) (fun _ _ _ h=>by cases h) h2,by rw [k.ro];exact h3⟩))
 .exact .inr (.inr (.inr ⟨j,h1,k.old _ _ (fun _ h=>by cases h) (fun _ _ _ h=>by cases h;exact hne rfl) h2,by rw [k.ro];exact h3⟩))
theorem pD.keeps {a b:St} {z:Nat} {e:TypeId} {x:AV} {ws:List AV} (h:pD a z e x ws) (k:ba a b (fun _=>False)):pD b z e x ws:=by
 rcases h with h | h | ⟨j,h1,h2,h3⟩ | ⟨j,h1,h2,h3⟩
 .exact .inl h
 .exact .inr (.inl h)
 .exact .inr (.inr (.inl ⟨j,h1,k.old _ _ (fun f=>f) h2,by rw [k.ro];exact h3⟩))
 .exact .inr (.inr (.inr ⟨j,h1,k.old _ _ (fun f=>f) h2,by rw [k.ro];exact h3⟩))
theorem pD.put {st:St} {z:Nat} {e:TypeId} {x:AV} {ws:List AV} {j:Nat} {t t':TypeId} {cs cs':List AV} (h:pD st z e x ws) (hj:st.get j= .ok (.cells t cs)):pD (st.put j (.cells t' cs')) z e x ws:=by
 have key: ∀k o,(∀t cs,o≠VM.Obj.cells t cs)->st.get k= .ok o->(st.put j (.cells t' cs')).get k= .ok o:=fun k o ho hg=>by
  have:j≠k:=by rintro rfl;rw [hj] at hg;cases hg;exact ho _ _ rfl
  rw [St.aY this];exact hg
 rcases h with h | h | ⟨k,h1,h2,h3⟩ | ⟨k,h1,h2,h3⟩
 .exact .inl h
 .exact .inr (.inl h)
 .exact .inr (.inr (.inl ⟨k,h1,key _ _ (fun _ _ h=>by cases h) h2,h3⟩))
 .exact .inr (.inr (.inr ⟨k,h1,key _ _ (fun _ _ h=>by cases h) h2,h3⟩))
theorem pD.one {st:St} {z:Nat} {e:TypeId} {x:AV} {ws:List AV} (h:pD st z e x ws):VM.one x=true:=by
 rcases h with ⟨rfl,_⟩ | rfl | ⟨k,rfl,_⟩ | ⟨k,rfl,_⟩ <;> rfl
theorem pD.len {β:Type} {st:St} {z:Nat} {e:TypeId} {x:AV} {ws:List AV} (h:pD st z e x ws) (K:Nat->Option β):fc x K=K ws.length:=by
 rcases h with ⟨rfl,rfl⟩ | rfl | ⟨k,rfl,_⟩ | ⟨k,rfl,_⟩ <;> rfl
theorem C7 {O:rB} {st:St} {z:Nat} {e:TypeId} {x u:AV} {ws:List AV} {i:TI} (h:pD st z e x ws) (b:st.ro<=st.h) (hi:i.size=z) (hz:gE 1000 u (zeroV i)=true) (hf:fits [u]= .ok [u]) (hu:u.cells.length=z) (hr:dp (ws.length+1) i=true):
  ∃k s x1,(∀{β:Type} (K:Kv β),dK O (ia i e x [u]) st K=K (.gs k z (ws.length+1)) s x1)/\s.get k= .ok (.grow (ws.length+1) e z ws)/\s.ro<=k/\uN st s e/\ ∀j t cs,st.get j= .ok (.cells t cs)->j≠k:=by
 subst hi;have a:ia i e x [u]=oj i e x 1 []:=by
  have h1:([u].all fun v=>v.cells.length.beq i.size)=true:=by simp [hu]
  simp only [ia,hf,aA,h1,List.isEmpty_nil,X8,hz];rfl
 rcases h with ⟨rfl,rfl⟩ | rfl | ⟨k,rfl,hg,hk⟩ | ⟨k,rfl,hg,hk⟩
 .refine ⟨st.h,st.add (.grow 1 e i.size []),⟨[],.made st.h (.grow 1 e i.size [])⟩,fun K=> ?_,St.dE,b,⟨rfl,Nat.le_succ _,fun j o _ _ hg=>St.jc hg⟩,fun j t cs hj=>Nat.ne_of_lt (St.ch.1 hj).1⟩;have hr:dp 1 i=true:=hr;rw [a];simp only [oj,hr];rfl
 .refine ⟨st.h,st.add (.grow (ws.length+1) e i.size (ws++[])),⟨[],.made st.h (.grow (ws.length+1) e i.size (ws++[]))⟩,fun K=> ?_,by rw [St.dE,Xe],b,⟨rfl,Nat.le_succ _,fun j o _ _ hg=>St.jc hg⟩,fun j t cs hj=>Nat.ne_of_lt (St.ch.1 hj).1⟩;rw [a];simp only [oj,hr,XQ,Xt];rfl
 .refine ⟨k,st.put k (.grow (ws.length+1) e i.size (ws++[])),⟨[k],.wrote k (.grow (ws.length+1) e i.size (ws++[]))⟩,fun K=> ?_,by rw [St.aQ (St.ch.1 hg).1,Xe],hk,⟨rfl,WW _,fun j o h1 _ hj=> ?_⟩,fun j t cs hj=> ?_⟩
  .rw [a];have hb:(ws.length.beq ws.length&&Nat.beq e e)=true:=by simp
   simp only [oj,hr,XQ,Xt,dK,mn,mO,hg,hb,jm,Xx hk,aj]
  .have:k≠j:=by rintro rfl;rw [hg] at hj;cases hj;exact h1 _ rfl
   rw [St.aY this];exact hj
  .rintro rfl;rw [hg] at hj;cases hj
 .refine ⟨k,st.put k (.grow (ws.length+1) e i.size (ws++[])),⟨[k],.wrote k (.grow (ws.length+1) e i.size (ws++[]))⟩,fun K=> ?_,by rw [St.aQ (St.ch.1 hg).1,Xe],hk,⟨rfl,WW _,fun j o _ h1 hj=> ?_⟩,fun j t cs hj=> ?_⟩
  .rw [a];have hb:((ws.length.beq ws.length&&ws.length.beq ws.length)&&(Nat.beq e e&&i.size.beq i.size))=true:=by simp
   simp only [oj,hr,XQ,Xt,dK,mn,mO,hg,hb,jm,Xx hk,aj]
  .have:k≠j:=by rintro rfl;rw [hg] at hj;cases hj;exact h1 _ _ _ rfl
   rw [St.aY this];exact hj
  .rintro rfl;rw [hg] at hj;cases hj
theorem LX {β:Type} {st:St} {k n z:Nat} {e:TypeId} {ws:List AV} (h:st.get k= .ok (.grow (n+1) e z ws)) (hn:ws.length=n) (K:AV->List Nat->Option β):bU z (.gs k z (n+1)) (n:Int) st K=K (.gp k (n+1) (n * z)) [k]:=by
 have h1:mN (n:Int) (n+1)=some n:=by
  show (match n.blt (n+1) with | true=>some n | false=>none)= _;rw [show n.blt (n+1)=true by rw [Nat.blt_eq];exact XW _]
 have h2:((n+1).beq (n+1)&&z.beq z)=true:=by rw [XQ,XQ];rfl
 have h3:n.blt ws.length=false:=cW.2 (by omega);simp only [bU,Fs,XQ,h1,h,h2,h3,aj,Xt]
theorem DQ {β:Type} {O:rB} {st:St} {k n z:Nat} {e:TypeId} {ws:List AV} {v:AV} {cs:List AV} (h:st.get k= .ok (.grow (n+1) e z ws)) (hn:ws.length=n) (hk:st.ro<=k) (hc:v.cells.length=z) (ho:fw v.cells=true) (hf:fit v= .ok v) (K:Kv β):
  aM O z (.gp k (n+1) (n * z)) v cs st K=K undef (st.put k (.grow (n+1) e z (ws++[v]))) ⟨[k],.wrote k (.grow (n+1) e z (ws++[v]))⟩:=by
 have h1:(v.cells.length.beq z&&fw v.cells)=true:=by rw [hc,XQ,ho];rfl
 have h2:(((n+1).beq (n+1)&&(n+1).beq (ws.length+1))&&((n * z).beq (ws.length * z)&&z.beq z))=true:=by rw [hn];simp
 have h3: ∀o,jw ⟨.other,z,0,[],false,false⟩ k (n+1) (n * z) v= .ok o->o= .obj k fun o=>match o with
   | .grow n' b z' es=>match (n'.beq (n+1)&&n'.beq (es.length+1))&&((n * z).beq (es.length * z')&&z'.beq z) with
    | true=> .ok (undef,some (.grow n' b z' (es++[v])))
    | false=> .error "store: not the last one"
   | o=>qN (n+1) (n * z) v.cells o:=fun o a=>by
  simp only [jw,h1,hf,aA,aH] at a;exact (Except.ok.inj a).symm
 have h4:jw ⟨.other,z,0,[],false,false⟩ k (n+1) (n * z) v= .ok (.obj k fun o=>match o with
   | .grow n' b z' es=>match (n'.beq (n+1)&&n'.beq (es.length+1))&&((n * z).beq (es.length * z')&&z'.beq z) with
    | true=> .ok (undef,some (.grow n' b z' (es++[v])))
    | false=> .error "store: not the last one"
   | o=>qN (n+1) (n * z) v.cells o):=by
  simp only [jw,h1,hf,aA,aH];rfl
 simp only [aM,mn,B2,h4,mO,h,h2,jm,Xx hk,aj]
end Go.VM
namespace Go.Parse
open Go.VM Go.Lex
structure UR (φ:aU->aU):Prop where
 kind: ∀t,(φ t).1=t.1
 same: ∀t,bn t=false->φ t=t
section
variable {φ:aU->aU} (hφ:UR φ)
include hφ
end
def UI (l:List T):List (List UInt8):=l.map iZ
end Go.Parse
namespace Go.Lex
open Go.VM
def Stop (x:List UInt8):Prop:=x=[]\/ ∃c r,x=c::r/\bH c=true
theorem iW {c:UInt8} (h:bH c=true):c=32\/c=9\/c=10\/c=13:=by
 simp only [bH,XL,XA] at h;rcases h with ((h | h) | h) | h
 .exact .inl h
 .exact .inr (.inl h)
 .exact .inr (.inr (.inl h))
 .exact .inr (.inr (.inr h))
theorem uY (c:UInt8) (h:bH c=true):aI c=false:=by rcases iW h with rfl | rfl | rfl | rfl <;> rfl
theorem qH (c:UInt8) (h:bH c=true):eH c=false:=by rcases iW h with rfl | rfl | rfl | rfl <;> rfl
theorem qE {p:UInt8->Bool} (hp: ∀c,bH c=true->p c=false) {x:List UInt8} (hx:Stop x): ∀s:List UInt8,wh p (s++x)=wh p s
 | []=>by
  rcases hx with rfl | ⟨c,r,rfl,h⟩
  .rfl
  .rw [W5,eK,hp c h];rfl
 | c::s=>by
  rw [Xf,eK,eK,qE hp hx s]
theorem Cy {p:UInt8->Bool} (hp: ∀c,bH c=true->p c=false) {x:List UInt8} (hx:Stop x): ∀s:List UInt8,(s++x).takeWhile p=s.takeWhile p
 | []=>by
  rcases hx with rfl | ⟨c,r,rfl,h⟩
  .rfl
  .rw [W5,XD,hp c h];rfl
 | c::s=>by
  rw [Xf,XD,XD,Cy hp hx s]
theorem H5 {x:List UInt8} (hx:Stop x) (s:List UInt8):ir (s++x)=ir s:=by
 cases s with
 | nil=>
  rcases hx with rfl | ⟨c,r,rfl,h⟩
  .rfl
  .show ir (c::r)=ir [];have hc:¬ (c=101\/c=69):=by rcases iW h with rfl | rfl | rfl | rfl <;> decide
   unfold ir;dsimp only;rw [if_neg hc]
 | cons e l=>
  show ir (e::(l++x))= _;have hs:fY (l++x)=fY l:=by
   cases l with
   | nil=>
    rcases hx with rfl | ⟨c,r,rfl,h⟩
    .rfl
    .rcases iW h with rfl | rfl | rfl | rfl <;> rfl
   | cons c l=>rfl
  have hd:(l++x).drop (fY l)=l.drop (fY l)++x:=List.drop_append_of_le_length (CL l);have hw:=qE (p:=aI) uY hx (l.drop (fY l));have ht:(l.drop (fY l)++x).take (wh aI (l.drop (fY l)))=(l.drop (fY l)).take (wh aI (l.drop (fY l))):=List.take_append_of_le_length (lk _ _);have a:((l++x).head?=some 45)=(l.head?=some 45):=by
   cases l with
   | nil=>
    rcases hx with rfl | ⟨c,r,rfl,h⟩
    .rfl
    .rcases iW h with rfl | rfl | rfl | rfl <;> simp
   | cons c l=>rfl
  unfold ir;dsimp only;simp only [hs,hd,hw,ht,a]
theorem vB {x:List UInt8} (hx:Stop x) (s:List UInt8):number (s++x)=number s:=by
 have b:=qE (p:=aI) uY hx s;have d1:(s++x).drop (wh aI s)=s.drop (wh aI s)++x:=List.drop_append_of_le_length (lk _ _);have d:((s.drop (wh aI s)++x).head?=some 46)=((s.drop (wh aI s)).head?=some 46):=by
  cases s.drop (wh aI s) with
  | nil=>
   rcases hx with rfl | ⟨c,r,rfl,h⟩
   .rfl
   .rcases iW h with rfl | rfl | rfl | rfl <;> simp
  | cons c l=>rfl
 rw [AR (s++ _),AR s,b,d1];simp only [d];by_cases a:(s.drop (wh aI s)).head?=some 46
 .rw [if_pos a,if_pos a];have e:wh aI s < s.length:=by
   rcases Nat.lt_or_ge (wh aI s) s.length with q | q
   .exact q
   .rw [List.drop_of_length_le q] at a;cases a
  have d2:(s++x).drop (wh aI s+1)=s.drop (wh aI s+1)++x:=List.drop_append_of_le_length (by omega);have f:=qE (p:=aI) uY hx (s.drop (wh aI s+1));have hk:=lk aI (s.drop (wh aI s+1));rw [Xa] at hk;have d3:(s++x).drop (wh aI s+1+wh aI (s.drop (wh aI s+1)))=s.drop (wh aI s+1+wh aI (s.drop (wh aI s+1)))++x:=List.drop_append_of_le_length (by omega);rw [d2,f,d3,H5 hx]
 .rw [if_neg a,if_neg a]
theorem HL: ∀(s:List UInt8),(dT s).1=7->1<=(dT s).2
 | [],h=>by cases h
 | [c],h=>by
  simp only [dT] at h ⊢;split at h
  .cases h
  split at h
  .rename_i h1 h2;rw [if_neg h1,if_pos h2];exact WW _
  .cases h
 | c::d::l,h=>by
  simp only [dT] at h ⊢;split at h
  .cases h
  rename_i h1;rw [if_neg h1];split at h
  .rename_i h2;rw [if_pos h2];exact WW _
  rename_i h2;rw [if_neg h2];split at h
  .rename_i h3;rw [if_pos h3];split at h
   .rename_i h4;rw [if_pos h4];dsimp only;omega
   .cases h
  .rename_i h3;rw [if_neg h3];dsimp only;omega
theorem sE: ∀{q x x':List UInt8},(dT (q++x)).1=7->(dT (q++x)).2<=q.length->dT (q++x')=dT (q++x)
 | [],x,x',h,h2=>by
  have:=HL _ h;simp only [XI] at h2;omega
 | [c],x,x',h,h2=>by
  have hc:c=34:=by
   cases x with
   | nil=>
    simp only [Xe,dT] at h;split at h
    .cases h
    split at h
    .assumption
    .cases h
   | cons d l=>
    simp only [Xf,W5,dT,Xk,XI] at h h2;split at h
    .cases h
    rename_i h1;rw [if_neg h1] at h2;split at h
    .assumption
    rename_i h3;rw [if_neg h3] at h2;split at h
    .rename_i h4;rw [if_pos h4] at h2;split at h
     .rename_i a;rw [if_pos a] at h2;dsimp only at h2;omega
     .cases h
    .rename_i h4;rw [if_neg h4] at h2;have:=HL _ h;dsimp only at h2;omega
  subst hc;have e: ∀y:List UInt8,dT (34::y)=(7,1):=fun y=>by
   cases y with
   | nil=>rfl
   | cons d l=>
    simp only [dT];rw [if_neg (by decide),if_true]
  show dT (34::x')=dT (34::x);rw [e,e]
 | c::d::p,x,x',h,h2=>by
  have h:(dT (c::d::(p++x))).1=7:=h;have h2:(dT (c::d::(p++x))).2<=p.length+2:=h2;show dT (c::d::(p++x'))=dT (c::d::(p++x));simp only [dT] at h h2 ⊢;by_cases h1:c=10
  .rw [if_pos h1,if_pos h1]
  rw [if_neg h1] at h h2;rw [if_neg h1,if_neg h1];by_cases h4:c=34
  .rw [if_pos h4,if_pos h4]
  rw [if_neg h4] at h h2;rw [if_neg h4,if_neg h4];by_cases h3:c=92
  .rw [if_pos h3] at h h2;rw [if_pos h3,if_pos h3];cases he:vN d with
   | true=>
    rw [he,if_pos rfl] at h h2;simp only [if_true];dsimp only at h h2;rw [sE (q:=p) (x:=x) (x':=x') h (by omega)]
   | false=>
    rw [he,if_neg (by simp)] at h;cases h
  .rw [if_neg h3] at h h2;rw [if_neg h3,if_neg h3];dsimp only at h h2;have:=sE (q:=d::p) (x:=x) (x':=x') h (by
    show (dT (d::(p++x))).2<=p.length+1;omega)
   have this:dT (d::(p++x'))=dT (d::(p++x)):=this;rw [this]
theorem kR: ∀(s:List UInt8),(dT s).1=7\/(dT s).1=9
 | []=> .inr rfl
 | [c]=>by
  simp only [dT];split
  .exact .inr rfl
  split
  .exact .inl rfl
  .exact .inr rfl
 | c::d::l=>by
  simp only [dT];split
  .exact .inr rfl
  split
  .exact .inl rfl
  split
  .split
   .exact kR l
   .exact .inr rfl
  .exact kR (d::l)
theorem Rr {p x x':List UInt8} (hp:p≠[]) (hx:Stop x) (g:Stop x') (h1:(cut (p++x)).1≠1) (a:(cut (p++x)).1≠9) (hn:(cut (p++x)).2<=p.length):cut (p++x')=cut (p++x):=by
 cases p with
 | nil=>exact absurd rfl hp
 | cons c l=>
  rw [Xf,qd] at h1 a hn;rw [Xf,Xf,qd,qd];have two: ∀{w:List UInt8},w.length=2->(∀d,bH d=true->w≠[c,d])->((c::(l++x')).take 2=w)=((c::(l++x)).take 2=w):=by
   intro w hw hd;cases l with
   | cons d l=>rfl
   | nil=>
    have key: ∀{y:List UInt8},Stop y->((c::([]++y)).take 2=w)=False:=by
     intro y hy;rcases hy with rfl | ⟨d,r,rfl,hb⟩
     .refine eq_false fun e=> ?_;rw [<- e] at hw;cases hw
     .exact eq_false fun e=>hd d hb e.symm
    rw [key hx,key g]
  have j:=two (w:=[40,42]) rfl (fun d hb e=>by
   have:d=42:=by simpa using (Xy (fun l:List UInt8=>l.getD 1 0) e).symm
   subst this;cases hb)
  have k:jE.contains ((c::(l++x')).take 2)=jE.contains ((c::(l++x)).take 2):=by
   have h2: ∀w∈jE,((c::(l++x')).take 2=w)=((c::(l++x)).take 2=w):=fun w hw=>two (by
    simp only [jE,Xb,XS,or_false] at hw;rcases hw with rfl | rfl | rfl | rfl | rfl | rfl | rfl | rfl | rfl | rfl | rfl <;> rfl) (fun d hb e=>by
    subst e;simp only [jE,Xb,XS,or_false,XV,Ys] at hw;rcases iW hb with rfl | rfl | rfl | rfl <;> simp at hw)
   rw [Bool.eq_iff_iff,List.contains_iff_mem,List.contains_iff_mem];constructor
   .intro h;have:=h2 _ h;rw [eq_true (rfl:(c::(l++x')).take 2= _)] at this;rw [of_eq_true this.symm];exact h
   .intro h;have:=h2 _ h;rw [eq_true (rfl:(c::(l++x)).take 2= _)] at this;rw [of_eq_true this];exact h
  unfold MH at h1 a hn ⊢;by_cases hb:bH c=true
  .rw [if_pos hb] at h1;exact absurd rfl h1
  rw [if_neg hb] at h1 a hn;rw [if_neg hb,if_neg hb];simp only [j];by_cases hr:(c::(l++x)).take 2=[40,42]
  .rw [if_pos hr] at h1 a hn;rw [if_pos hr,if_pos hr];cases l with
   | nil=>
    exfalso;rcases hx with rfl | ⟨d,r,rfl,n⟩
    .cases hr
    .have:d=42:=by simpa using Xy (fun l:List UInt8=>l.getD 1 0) hr
     subst this;cases n
   | cons d l=>
    have e: ∀y:List UInt8,(c::(d::l++y)).drop 2=l++y:=fun _=>rfl;rw [e] at a hn;rw [e,e];cases hm:rem (l++x) 1 with
    | none=>rw [hm] at a;exact absurd rfl a
    | some m=>
     rw [hm] at hn;dsimp only at hn;rw [Oa (y':=x') hm (by simp at hn;omega)]
  rw [if_neg hr] at h1 a hn;rw [if_neg hr,if_neg hr];by_cases b:jq c=true
  .rw [if_pos b,if_pos b];have o:=qE (p:=eH) qH hx (c::l);have q:=qE (p:=eH) qH g (c::l);have t1:=Cy (p:=eH) qH hx (c::l);have t2:=Cy (p:=eH) qH g (c::l);rw [Xf] at o q t1 t2;rw [o,q,t1,t2]
  rw [if_neg b] at h1 a hn;rw [if_neg b,if_neg b];by_cases f:aI c=true
  .rw [if_pos f,if_pos f];have n1:=vB hx (c::l);have s:=vB g (c::l);rw [Xf] at n1 s;rw [n1,s]
  rw [if_neg f] at h1 a hn;rw [if_neg f,if_neg f];by_cases i:c=34
  .rw [if_pos i] at h1 a hn;rw [if_pos i,if_pos i];dsimp only at a hn;have t:(dT (l++x)).1=7:=(kR _).resolve_right a;rw [sE (x':=x') t (by simp at hn;omega)]
  rw [if_neg i] at h1 a hn;rw [if_neg i,if_neg i,k];by_cases ht:jE.contains ((c::(l++x)).take 2)=true
  .rw [if_pos ht,if_pos ht]
  rw [if_neg ht] at h1 a hn;rw [if_neg ht,if_neg ht];by_cases ho:kQ c=true
  .rw [if_pos ho,if_pos ho]
  .rw [if_neg ho] at a;exact absurd rfl a
end Go.Lex
namespace Go.Parse
open Go.VM Go.Lex
def EW (B:List UInt8) (t:aU):aU:=if t.1=1 then (1,B) else t
def en (B:List UInt8) (l:List aU):List UInt8:=cD (l.map (EW B))
theorem jf (B:List UInt8) (t:aU) (l:List aU):en B (t::l)=(EW B t).2++en B l:=by simp [en,cD]
theorem kI (t:aU) (l:List aU):cD (t::l)=t.2++cD l:=by simp [cD]
theorem jl (s:List UInt8):cD (tokens s)=s:=by
 have:=vU s.length s (WW _);simpa [cD,List.flatMap] using this
theorem kD {c:UInt8} {l:List UInt8}:tokens (c::l)=((cut (c::l)).1,(c::l).take (cut (c::l)).2)::tokens ((c::l).drop (cut (c::l)).2):=by
 have hc:=kY (s:=c::l) (by simp);show nS (c::l).length (c::l)= _;simp only [Xk,nS];congr 1;refine uW _ _ _ ?_ (WW _);rw [Xa];simp only [Xk] at hc ⊢;omega
theorem DA: ∀(G:List aU),∃p a,cD G=p++cD a/\(∀B,en B G=p++en B a)/\(a=[]\/ ∃t r,a=t::r/\t∈G/\t.1=1)
 | []=>⟨[],[],rfl,fun _=>rfl,.inl rfl⟩
 | t::G=>by
  by_cases h:t.1=1
  .exact ⟨[],t::G,rfl,fun _=>rfl,.inr ⟨t,G,rfl,WS,h⟩⟩
  .obtain ⟨p,a,h1,h2,h3⟩:=DA G;refine ⟨t.2++p,a,by rw [kI,h1,W6],fun B=> ?_, ?_⟩
   .rw [jf,h2,W6];congr 1;unfold EW;rw [if_neg h]
   .rcases h3 with rfl | ⟨u,r,e,hu,h1⟩
    .exact .inl rfl
    .exact .inr ⟨u,r,e,WZ _ hu,h1⟩
theorem AO: ∀(n:Nat) (s:List UInt8),s.length<=n-> ∀t∈tokens s,t.1=1-> ∃b r,t.2=b::r/\bH b=true
 | _,[],_,t,ht,_=>by cases ht
 | 0,c::l,h,_,_,_=>by simp at h
 | n+1,c::l,h,t,ht,h1=>by
  have hc:=kY (s:=c::l) (by simp);rw [kD] at ht;rcases Xb.1 ht with rfl | ht
  .have hb:=(uV h1).1;obtain ⟨m,hm⟩: ∃m,(cut (c::l)).2=m+1:=⟨(cut (c::l)).2 - 1,by omega⟩;refine ⟨c,l.take m, ?_,hb⟩;show (c::l).take (cut (c::l)).2= _;rw [hm,List.take_succ_cons]
  .refine AO n _ ?_ t ht h1;rw [Xa];simp only [Xk] at h ⊢;omega
theorem Qy {p:UInt8->Bool}: ∀{B:List UInt8},wh p B=B.length-> ∀{x:List UInt8},wh p x=0->wh p (B++x)=B.length:=fun {B} h {x} hx=>by
 rw [Ls,if_pos h,hx,XO]
theorem BA (p:UInt8->Bool) (s:List UInt8):wh p (s.drop (wh p s))=0:=by
 rw [Hs];cases h:s.dropWhile p with
 | nil=>rfl
 | cons c l=>
  have:=List.head_dropWhile_not p (l:=s) (by rw [h];simp);simp only [h,List.head_cons] at this;simp [wh,this]
theorem HO {p:UInt8->Bool} {c:UInt8} {l:List UInt8} (h:p c=false):wh p (c::l)=0:=by simp [wh,h]
theorem A5 {B:List UInt8} (R:B≠[]) (hw:wh bH B=B.length) (hv:cC B=true): ∀(n:Nat) (s:List UInt8),s.length<=n->cC s=true->(∀t∈tokens s,t.1≠9)->
  tokens (en B (tokens s))=(tokens s).map (EW B)/\cC (en B (tokens s))=true
 | _,[],_,_,_=>⟨rfl,rfl⟩
 | 0,c::l,h,_,_=>by simp at h
 | n+1,c::l,h,hs,D=>by
  have hc:=kY (s:=c::l) (by simp);have i:=Ib (s:=c::l) (by simp) hs;have E:=kD (c:=c) (l:=l);have F:=jl (c::l);have o:=AO _ (c::l) (WW _);obtain ⟨b0,a,rfl⟩: ∃b r,B=b::r:=by
   cases B with
   | nil=>exact absurd rfl R
   | cons b r=>exact ⟨b,r,rfl⟩
  have v:bH b0=true:=by
   cases hb:bH b0 with
   | true=>rfl
   | false=>rw [HO hb] at hw;simp at hw
  generalize hm:(cut (c::l)).2=m at *;generalize hk:(cut (c::l)).1=k at *;have hlen:((c::l).drop m).length<=n:=by
   rw [Xa];simp only [Xk] at h ⊢;omega
  have G:(c::l)=(c::l).take m++(c::l).drop m:=(XM m _).symm;have f:((c::l).take m).length=m:=by rw [Xg];omega
  generalize ht:(c::l).take m=t at *;generalize hd:(c::l).drop m=s2 at *;rw [E] at D o F ⊢;obtain ⟨w,y⟩:=A5 R hw hv n s2 hlen i.2 (fun u hu=>D u (WZ _ hu));rw [jf,W8];by_cases h1:k=1
  .subst h1;have g:EW (b0::a) (1,t)=(1,b0::a):=by unfold EW;rw [if_pos rfl]
   rw [g];have H:=uV hk;have I:m=wh bH (c::l):=by rw [<- hm,H.2]
   have hz:wh bH s2=0:=by
    rw [<- hd,I];have:=BA bH (c::l);exact this
   have J:wh bH (en (b0::a) (tokens s2))=0:=by
    cases s2 with
    | nil=>rfl
    | cons c2 l2=>
     have z:bH c2=false:=by
      cases hb:bH c2 with
      | false=>rfl
      | true=>simp [wh,hb] at hz
     have S:=kY (s:=c2::l2) (by simp);have K:(cut (c2::l2)).1≠1:=fun e=>by
      have:=(uV e).1;rw [z] at this;cases this
     rw [kD,jf];unfold EW;rw [if_neg K];obtain ⟨j,hj⟩: ∃j,(cut (c2::l2)).2=j+1:=⟨(cut (c2::l2)).2 - 1,by omega⟩;rw [hj];exact HO z
   refine ⟨?_,by rw [vt _ _ _ (WW _) hv];exact y⟩;have d:cut (b0::(a++en (b0::a) (tokens s2)))=(1,(b0::a).length):=by
    have e:wh bH (b0::(a++en (b0::a) (tokens s2)))=(b0::a).length:=Qy hw J;rw [<- e];simp only [cut,v,if_true]
   show tokens (b0::(a++en (b0::a) (tokens s2)))= _;rw [kD,d];have L:(b0::(a++en (b0::a) (tokens s2))).take (b0::a).length=b0::a:=YL (l₁:=b0::a);have M:(b0::(a++en (b0::a) (tokens s2))).drop (b0::a).length=en (b0::a) (tokens s2):=YK (l₁:=b0::a);rw [L,M,w]
  .have g:EW (b0::a) (k,t)=(k,t):=by unfold EW;rw [if_neg h1]
   rw [g];have N:k≠9:=D (k,t) WS;obtain ⟨p,A,T,a2,a3⟩:=DA (tokens s2);have hx:Stop (cD A):=by
    rcases a3 with rfl | ⟨u,r,rfl,O,hu⟩
    .exact .inl rfl
    .obtain ⟨b,q,e,hb⟩:=o u (WZ _ O) hu;exact .inr ⟨b,q++cD r,by rw [kI,e];rfl,hb⟩
   have P:Stop (en (b0::a) A):=by
    rcases a3 with rfl | ⟨u,r,rfl,_,hu⟩
    .exact .inl rfl
    .refine .inr ⟨b0,a++en (b0::a) r, ?_,v⟩;rw [jf];unfold EW;rw [if_pos hu];rfl
   have C:c::l=(t++p)++cD A:=by
    rw [W6, <- T,jl];exact G
   have Q:=a2 (b0::a);have d:cut (t++en (b0::a) (tokens s2))=(k,m):=by
    rw [Q, <- W6];have e:=Rr (p:=t++p) (x:=cD A) (x':=en (b0::a) A) (by
     intro e;have:=(List.append_eq_nil_iff.1 e).1;rw [this] at f;simp at f;omega) hx P (by rw [<- C,hk];exact h1) (by rw [<- C,hk];exact N) (by rw [<- C,hm,W9,f];omega)
    rw [e, <- C, <- hk, <- hm]
   refine ⟨?_,by rw [vt _ _ _ (WW _) i.1];exact y⟩;obtain ⟨c0,t',rfl⟩: ∃b r,t=b::r:=by
    cases t with
    | nil=>simp at f;omega
    | cons b r=>exact ⟨b,r,rfl⟩
   show tokens (c0::(t'++en (b0::a) (tokens s2)))= _;have d:cut (c0::(t'++en (b0::a) (tokens s2)))=(k,m):=d;rw [kD,d];have L:(c0::(t'++en (b0::a) (tokens s2))).take m=c0::t':=by rw [<- f];exact YL (l₁:=c0::t')
   have M:(c0::(t'++en (b0::a) (tokens s2))).drop m=en (b0::a) (tokens s2):=by rw [<- f];exact YK (l₁:=c0::t')
   rw [L,M,w]
def Wt:List aU->Nat
 | []=>0
 | t::r=>100+t.2.length+Wt r
theorem Hq (p:aU->Bool): ∀(r:List aU),Wt (r.dropWhile p)<=Wt r
 | []=>WW _
 | t::r=>by
  rw [X1];split
  .have:=Hq p r;simp only [Wt];omega
  .exact WW _
theorem lB (r:List aU):Wt (aL r)+(nx r).2.length<=Wt r/\((nx r).1≠0->Wt (aL r)+(nx r).2.length+100<=Wt r):=by
 have h:=Hq bn r;unfold aL nx;cases hd:r.dropWhile bn with
 | nil=>simp [Wt]
 | cons t l=>
  rw [hd] at h;simp only [Wt,XN,Xc] at h ⊢;omega
def SL (l:List T):Nat:=(qa l).length
theorem bo:SL []=0:=rfl
theorem bA (t:T) (l:List T):SL (t::l)=1+(iZ t).length+SL l:=by simp [SL,qa];omega
theorem iY: ∀(l m:List T),SL (l++m)=SL l+SL m
 | [],m=>by simp [bo]
 | t::l,m=>by rw [Xf,bA,bA,iY l m];omega
theorem fI {k:Nat} (h1:k≠1) (h2:k≠2) (l:List T):(iZ (node k l)).length=3+SL l:=by
 simp only [iZ,if_neg h1,if_neg h2,Xk,W9,XI,SL];omega
theorem dN (r:List aU):(iZ (aJ r)).length=(nx r).2.length:=by unfold aJ;rw [Fm]
theorem sN (s:List UInt8):(iZ (missing s)).length=1+s.length:=by simp [missing,iZ];omega
theorem lz (s:List UInt8) (r:List aU):(iZ (cN s r)).length+Wt (bg s r)<=Wt r+1+s.length:=by
 unfold cN bg;have:=lB r;split
 .rw [dN];omega
 .rw [sN];omega
theorem Bw (s:List UInt8) (r:List aU):(iZ (iM s r)).length+Wt (je r)<=Wt r+1+s.length:=by
 unfold iM je;have:=lB r;split
 .rw [sN];omega
 .rename_i h;have:=this.2 h;rw [fI (by decide) (by decide),bA,bo,dN];omega
def allow:jI->Nat
 | .ops _ _=>0
 | .args _=>0
 | .closed _ _=>0
 | .items _ _=>0
 | .binding=>40
 | .params=>0
 | .arm=>40
 | .arms=>0
 | _=>10
def dP:jI->List aU->Nat
 | .atom pat,r=>if cI pat r=true then 60 else 0
 | .closed _ _,_=>60
 | _,_=>0
theorem Aw (b:Bool):allow (if b then jI.pattern else .expr)=10:=by cases b <;> rfl
theorem D9 (b:Bool) (r:List aU):dP (if b then jI.pattern else .expr) r=0:=by cases b <;> rfl
theorem at_one (b:Bool) (r:List aU):at' (if b then jI.pattern else .expr) r:=by cases b <;> exact trivial
theorem Oc (b:Bool):(gQ b).length=1:=by cases b <;> rfl
theorem UW: ∀(N:Nat) (job:jI) (d:Nat) (r:List aU) (l:List T) (r':List aU),P N job d r=some (l,r')->at' job r->SL l+Wt r'+dP job r<=SL (dz job)+Wt r+allow job:=by
 intro N
 induction N with
 | zero=>intro job d r l r' h;cases h
 | succ n ih=>
  intro job d r l r' h ha;have tk:=lB r;cases job with
  | expr=>
   simp only [P] at h;simp only [dz,bo,allow,dP];split at h
   .cases h;have:=Bw kL r;simp only [bA,bo,show kL.length=4 from rfl] at this ⊢;omega
   .have k:=ih _ _ _ _ _ h trivial;simp only [dz,bo,allow,dP] at k;omega
  | whole=>
   simp only [P] at h;simp only [dz,bo,allow,dP];split at h
   .rename_i hb;obtain ⟨⟨bs,r2⟩,e,h⟩:=bind_some h;obtain ⟨⟨es,o⟩,g,h⟩:=bind_some h;cases h;have k1:=ih _ _ _ _ _ e trivial;have k2:=ih _ _ _ _ _ g trivial;have m:=lz L4 r2;have j:=tk.2 (hU hb);simp only [dz,bo,allow,dP,show L4.length=2 from rfl] at k1 k2 m;rw [bA,fI (by decide) (by decide)];simp only [iY,bA,bo,dN];omega
   split at h
   .rename_i hb;obtain ⟨⟨a,f⟩,e,h⟩:=bind_some h;obtain ⟨⟨ps,r2⟩,g,h⟩:=bind_some h;obtain ⟨⟨es,o⟩,p,h⟩:=bind_some h;cases h;have k1:=ih _ _ _ _ _ e trivial;have k2:=ih _ _ _ _ _ g trivial;have m:=ih _ _ _ _ _ p trivial;have i:=lz fB r2;have j:=tk.2 (hU hb);simp only [dz,bo,allow,dP,show fB.length=2 from rfl] at k1 k2 m i;rw [bA,fI (by decide) (by decide)];simp only [iY,bA,bo,dN];omega
   split at h
   .rename_i hb;obtain ⟨⟨a,f⟩,e,h⟩:=bind_some h;obtain ⟨⟨b,r2⟩,g,h⟩:=bind_some h;obtain ⟨⟨c,o⟩,p,h⟩:=bind_some h;cases h;have k1:=ih _ _ _ _ _ e trivial;have k2:=ih _ _ _ _ _ g trivial;have m:=ih _ _ _ _ _ p trivial;have i:=lz rW f;have k6:=lz rT r2;have j:=tk.2 (hU hb);simp only [dz,bo,allow,dP,show rW.length=4 from rfl,show rT.length=4 from rfl] at k1 k2 m i k6;rw [bA,fI (by decide) (by decide)];simp only [iY,bA,bo,dN];omega
   split at h
   .rename_i hb;obtain ⟨⟨a,f⟩,e,h⟩:=bind_some h;obtain ⟨⟨b,o⟩,g,h⟩:=bind_some h;obtain ⟨⟨cs,u⟩,p,h⟩:=bind_some h;cases h;have k1:=ih _ _ _ _ _ e trivial;have k2:=ih _ _ _ _ _ g trivial;have m:=ih _ _ _ _ _ p trivial;have i:=lz bD f;have j:=tk.2 (hU hb);have v:SL (if bY gO (bg bD f) then [aJ (bg bD f)] else [])+Wt (if bY gO (bg bD f) then aL (bg bD f) else bg bD f)<=Wt (bg bD f):=by
     split
     .rename_i hb;have:=(lB (bg bD f)).2 (hU hb);simp only [bA,bo,dN];omega
     .rw [bo];omega
    simp only [dz,bo,allow,dP,show bD.length=4 from rfl] at k1 k2 m i;rw [bA,fI (by decide) (by decide)];simp only [iY,bA,bo,dN];omega
   .have k:=ih _ _ _ _ _ h trivial;simp only [dz,bo,allow,dP] at k;omega
  | level k=>
   simp only [P] at h;simp only [dz,bo,allow,dP];split at h
   .have k:=ih _ _ _ _ _ h trivial;simp only [dz,bo,allow,dP] at k;omega
   .obtain ⟨⟨a,f⟩,e,h⟩:=bind_some h;dsimp only at h;split at h
    .have k1:=ih _ _ _ _ _ e trivial;have k2:=ih _ _ _ _ _ h trivial;simp only [dz,bA,bo,allow,dP] at k1 k2;omega
    .cases h
  | ops k acc=>
   simp only [P] at h;simp only [dz,bA,bo,allow,dP];split at h
   .rename_i hb;obtain ⟨⟨b,f⟩,e,h⟩:=bind_some h;have k1:=ih _ _ _ _ _ e trivial;have k2:=ih _ _ _ _ _ h trivial;have j:=tk.2 (pX hb);simp only [dz,bA,bo,allow,dP] at k1 k2;rw [fI (by decide) (by decide)] at k2;simp only [bA,bo,dN] at k2;omega
   .cases h;simp only [bA,bo];omega
  | neg=>
   simp only [P] at h;simp only [dz,bo,allow,dP];split at h
   .rename_i hb;have j:=tk.2 (pX hb);split at h
    .cases h;have:=Bw kL (aL r);simp only [show kL.length=4 from rfl] at this;rw [bA,fI (by decide) (by decide)];simp only [iY,bA,bo,dN];omega
    .obtain ⟨⟨a,f⟩,e,h⟩:=bind_some h;cases h;have k1:=ih _ _ _ _ _ e trivial;simp only [dz,bo,allow,dP] at k1;rw [bA,fI (by decide) (by decide)];simp only [iY,bA,bo,dN];omega
   .obtain ⟨⟨a,f⟩,e,h⟩:=bind_some h;dsimp only at h;split at h
    .have k1:=ih _ _ _ _ _ e trivial;have k2:=ih _ _ _ _ _ h trivial;simp only [dz,bA,bo,allow,dP] at k1 k2;omega
    .cases h
  | args acc=>
   simp only [P] at h;simp only [dz,bA,bo,allow,dP];split at h
   .rename_i hb;obtain ⟨⟨b,f⟩,e,h⟩:=bind_some h;have k1:=ih _ _ _ _ _ e trivial;have k2:=ih _ _ _ _ _ h trivial;simp only [dz,bA,bo,allow,dP,if_pos hb] at k1 k2;rw [fI (by decide) (by decide)] at k2;simp only [bA,bo] at k2;omega
   .cases h;simp only [bA,bo];omega
  | atom pat=>
   simp only [P] at h;simp only [dz,bo,allow,dP];split at h
   .rename_i hb;rw [if_pos hb];have j:=tk.2 (nK hb);split at h
    .cases h;rw [bA,fI (by decide) (by decide)];simp only [bA,bo,dN];omega
    split at h
    .have k:=ih _ _ _ _ _ h (nK hb);simp only [dz,bo,allow,dP] at k;omega
    split at h
    .have k:=ih _ _ _ _ _ h (nK hb);simp only [dz,bo,allow,dP] at k;omega
    .cases h;simp only [bA,bo,dN];omega
   .rename_i hb;cases h;rw [if_neg hb];simp only [bA,bo,sN];cases pat <;> simp [iH,kL] <;> omega
  | closed list pat=>
   simp only [P] at h;simp only [dz,bo,allow,dP];have j:=tk.2 ha;have q:=nW list pat
   have s:=FW list pat
   split at h
   .cases h;have i:=lB (aL r);rw [bA,fI q s];simp only [bA,bo,dN];omega
   .obtain ⟨⟨a,r2⟩,e,h⟩:=bind_some h;obtain ⟨⟨bs,o⟩,g,h⟩:=bind_some h;cases h;have k1:=ih _ _ _ _ _ e (at_one pat _);have k2:=ih _ _ _ _ _ g trivial;have i:=lz (gQ list) o;rw [lO,Aw,D9,bo] at k1;simp only [dz,bo,allow,dP,Oc] at k1 k2 i;rw [bA,fI q s];simp only [iY,bA,bo,dN];omega
  | items list pat=>
   simp only [P] at h;simp only [dz,bo,allow,dP];split at h
   .rename_i hb;obtain ⟨⟨a,f⟩,e,h⟩:=bind_some h;obtain ⟨⟨bs,r2⟩,g,h⟩:=bind_some h;cases h;have j:=tk.2 (hU hb);have k1:=ih _ _ _ _ _ e (at_one pat _);have k2:=ih _ _ _ _ _ g trivial;rw [lO,Aw,D9,bo] at k1;simp only [dz,bo,allow,dP] at k1 k2;simp only [iY,bA,bo,dN];omega
   .cases h;simp only [bo];omega
  | pattern=>
   simp only [P] at h;simp only [dz,bo,allow,dP];split at h
   .cases h;have:=Bw iH r;simp only [bA,bo,show iH.length=7 from rfl] at this ⊢;omega
   .obtain ⟨⟨a,f⟩,e,h⟩:=bind_some h;have k1:=ih _ _ _ _ _ e trivial;have m:SL a+Wt f<=Wt r+10:=by
     simp only [dz,bo,allow,dP] at k1;omega
    dsimp only at h;split at h
    .rename_i hb;obtain ⟨⟨b,r2⟩,g,h⟩:=bind_some h;cases h;have k2:=ih _ _ _ _ _ g trivial;have j:=(lB f).2 (hU hb);simp only [dz,bo,allow,dP] at k2;rw [bA,fI (by decide) (by decide)];simp only [iY,bA,bo,dN];omega
    .cases h;omega
  | binding=>
   simp only [P] at h;simp only [dz,bo,allow,dP];have t:SL (if bY dn r then [aJ r] else [])+Wt (if bY dn r then aL r else r)<=Wt r:=by
    split
    .rename_i hb;have:=tk.2 (hU hb);simp only [bA,bo,dN];omega
    .rw [bo];omega
   generalize (if bY dn r then [aJ r] else [])=rc at h t;generalize (if bY dn r then aL r else r)=r0 at h t;split at h
   .rename_i h4;obtain ⟨⟨xs,f⟩,e,h⟩:=bind_some h;obtain ⟨⟨ps,o⟩,p,e⟩:=bind_some e;cases e;obtain ⟨⟨es,r2⟩,g,h⟩:=bind_some h;cases h;have m:=ih _ _ _ _ _ p trivial;have k2:=ih _ _ _ _ _ g trivial;have j:=(lB r0).2 (by omega);have i:=lz sj o;simp only [dz,bo,allow,dP,show sj.length=1 from rfl] at k2 m i;simp only [iY,bA,bo,dN];omega
   .obtain ⟨⟨xs,f⟩,e,h⟩:=bind_some h;obtain ⟨⟨es,r2⟩,g,h⟩:=bind_some h;cases h;have k1:=ih _ _ _ _ _ e trivial;have k2:=ih _ _ _ _ _ g trivial;have i:=lz sj f;simp only [dz,bo,allow,dP,show sj.length=1 from rfl] at k1 k2 i;simp only [iY,bA,bo,dN];omega
  | params=>
   simp only [P] at h;simp only [dz,bo,allow,dP];split at h
   .rename_i hb;obtain ⟨⟨a,f⟩,e,h⟩:=bind_some h;obtain ⟨⟨bs,r2⟩,g,h⟩:=bind_some h;cases h;have k1:=ih _ _ _ _ _ e trivial;have k2:=ih _ _ _ _ _ g trivial;simp only [dz,bo,allow,dP,if_pos hb] at k1 k2;simp only [iY];omega
   .cases h;simp only [bo];omega
  | arm=>
   simp only [P] at h;simp only [dz,bo,allow,dP];obtain ⟨⟨a,f⟩,e,h⟩:=bind_some h;obtain ⟨⟨es,r2⟩,g,h⟩:=bind_some h;cases h;have k1:=ih _ _ _ _ _ e trivial;have k2:=ih _ _ _ _ _ g trivial;have i:=lz fB f;simp only [dz,bo,allow,dP,show fB.length=2 from rfl] at k1 k2 i;rw [bA,fI (by decide) (by decide)];simp only [iY,bA,bo];omega
  | arms=>
   simp only [P] at h;simp only [dz,bo,allow,dP];split at h
   .rename_i hb;obtain ⟨⟨a,f⟩,e,h⟩:=bind_some h;obtain ⟨⟨bs,r2⟩,g,h⟩:=bind_some h;cases h;have j:=tk.2 (hU hb);have k1:=ih _ _ _ _ _ e trivial;have k2:=ih _ _ _ _ _ g trivial;simp only [dz,bo,allow,dP] at k1 k2;simp only [iY,bA,bo,dN];omega
   .cases h;simp only [bo];omega
theorem Hm: ∀(n:Nat) (r:List aU),SL (skip n r).1+Wt (skip n r).2<=Wt r
 | 0,r=>by show SL []+Wt r<=Wt r;rw [bo];omega
 | n+1,r=>by
  simp only [skip];split
  .rename_i h;have k:=Hm n (aL r);have a:=(lB r).2 h.1;simp only [bA,dN];omega
  .show SL []+Wt r<=Wt r;rw [bo];omega
theorem xL: ∀(N:Nat) (r:List aU) (D:List T),decls N r=some D->SL D<=5 * Wt r+10
 | 0,_,_,h=>by cases h
 | n+1,r,D,h=>by
  simp only [decls] at h;have tk:=lB r;split at h
  .cases h;simp only [bA,bo,dN];omega
  rename_i h0;have e:=tk.2 h0;split at h
  .obtain ⟨⟨bs,c⟩,d,h⟩:=bind_some h;obtain ⟨a,b,h⟩:=bind_some h;cases h;have k1:=UW _ _ _ _ _ _ d trivial;have k2:=xL n c a b;simp only [dz,bo,allow,dP] at k1;rw [bA,fI (by decide) (by decide),bA,dN];dsimp only;omega
  .rename_i hb;obtain ⟨a,b,h⟩:=bind_some h;cases h;have k2:=xL n _ a b;have k1:SL (skip r.length r).1+Wt (skip r.length r).2+20<=Wt r:=by
    obtain ⟨m,hm⟩: ∃m,r.length=m+1:=by
     cases r with
     | nil=>exact absurd rfl h0
     | cons t l=>exact ⟨l.length,rfl⟩
    rw [hm];simp only [skip];rw [if_pos ⟨h0,by simpa using hb⟩];have k:=Hm m (aL r);simp only [bA,dN];omega
   rw [bA,fI (by decide) (by decide)];omega
theorem P4 (r:List aU):(iZ (doc r)).length<=5 * Wt r+20:=by
 obtain ⟨l,a,b⟩:=ju r;rw [b,fI (by decide) (by decide)];have:=xL _ _ _ a;omega
structure wu {α:Type} (F1:T->List α) (F:List T->List α) (G:List aU->List α):Prop where
 nil:F []=[]
 cons: ∀t l,F (t::l)=F1 t++F l
 node: ∀{k},k≠1-> ∀l,F1 (node k l)=F l
 miss: ∀s,F1 (missing s)=[]
 take: ∀r,F1 (aJ r)++G (aL r)=G r
section
variable {α:Type} {F1:T->List α} {F:List T->List α} {G:List aU->List α} (hm:wu F1 F G)
include hm
theorem wu.one (t:T):F [t]=F1 t:=by rw [hm.cons,hm.nil,Xe]
theorem wu.app: ∀(l m:List T),F (l++m)=F l++F m
 | [],m=>by rw [W5,hm.nil,W5]
 | t::l,m=>by rw [Xf,hm.cons,hm.cons,wu.app l m,W6]
theorem wu.zi (s:List UInt8) (r:List aU):F1 (cN s r)++G (bg s r)=G r:=by
 unfold cN bg;split
 .exact hm.take r
 .rw [hm.miss];rfl
theorem wu.deep (s:List UInt8) (r:List aU):F1 (iM s r)++G (je r)=G r:=by
 unfold iM je;split
 .rw [hm.miss];rfl
 .rw [hm.node (by decide),hm.one];exact hm.take r
end
theorem Tl {α:Type} {F1:T->List α} {F:List T->List α} {G:List aU->List α} (hm:wu F1 F G): ∀(N:Nat) (job:jI) (d:Nat) (r:List aU) (l:List T) (r':List aU),P N job d r=some (l,r')->F l++G r'=F (dU job)++G r:=by
 intro N
 induction N with
 | zero=>intro job d r l r' h;cases h
 | succ n ih=>
  intro job d r l r' h;have tk:=hm.take r;cases job with
  | expr=>
   simp only [P] at h;split at h
   .cases h;rw [hm.one,hm.deep];simp [dU,hm.nil]
   .have k:=ih _ _ _ _ _ h;exact k
  | whole=>
   simp only [P] at h;split at h
   .obtain ⟨⟨bs,r2⟩,e,h⟩:=bind_some h;obtain ⟨⟨es,m⟩,f,h⟩:=bind_some h;cases h;have k1:=ih _ _ _ _ _ e;have k2:=ih _ _ _ _ _ f;simp only [dU,hm.nil,hm.one,W5] at k1 k2 ⊢
    (try rw [hm.one]);rw [hm.node (by decide)]
    simp only [hm.app,hm.cons,hm.nil,W5,Xe,W6,Xf,k2,hm.zi,k1,tk]
   split at h
   .obtain ⟨⟨a,g⟩,e,h⟩:=bind_some h;obtain ⟨⟨ps,r2⟩,f,h⟩:=bind_some h;obtain ⟨⟨es,m⟩,j,h⟩:=bind_some h;cases h;have k1:=ih _ _ _ _ _ e;have k2:=ih _ _ _ _ _ f;have i:=ih _ _ _ _ _ j;simp only [dU,hm.nil,hm.one,W5] at k1 k2 i ⊢
    (try rw [hm.one]);rw [hm.node (by decide)]
    simp only [hm.app,hm.cons,hm.nil,W5,Xe,W6,Xf,i,hm.zi,k2,k1,tk]
   split at h
   .obtain ⟨⟨a,g⟩,e,h⟩:=bind_some h;obtain ⟨⟨b,r2⟩,f,h⟩:=bind_some h;obtain ⟨⟨c,m⟩,j,h⟩:=bind_some h;cases h;have k1:=ih _ _ _ _ _ e;have k2:=ih _ _ _ _ _ f;have i:=ih _ _ _ _ _ j;simp only [dU,hm.nil,hm.one,W5] at k1 k2 i ⊢
    (try rw [hm.one]);rw [hm.node (by decide)]
    simp only [hm.app,hm.cons,hm.nil,W5,Xe,W6,Xf,i,hm.zi,k2,k1,tk]
   split at h
   .obtain ⟨⟨a,g⟩,e,h⟩:=bind_some h;obtain ⟨⟨b,m⟩,f,h⟩:=bind_some h;obtain ⟨⟨cs,s⟩,j,h⟩:=bind_some h;cases h;have k1:=ih _ _ _ _ _ e;have k2:=ih _ _ _ _ _ f;have i:=ih _ _ _ _ _ j;simp only [dU,hm.nil,hm.one,W5] at k1 k2 i ⊢;have q:F (if bY gO (bg bD g) then [aJ (bg bD g)] else [])++G (if bY gO (bg bD g) then aL (bg bD g) else bg bD g)=G (bg bD g):=by
     split
     .rw [hm.one];exact hm.take _
     .rw [hm.nil];rfl
    (try rw [hm.one]);rw [hm.node (by decide)]
    simp only [hm.app,hm.cons,hm.nil,W5,Xe,W6,Xf,i,k2,q,hm.zi,k1,tk]
   .have k:=ih _ _ _ _ _ h;exact k
  | level k=>
   simp only [P] at h;split at h
   .have k:=ih _ _ _ _ _ h;exact k
   .obtain ⟨⟨a,g⟩,e,h⟩:=bind_some h;dsimp only at h;split at h
    .have k1:=ih _ _ _ _ _ e;have k2:=ih _ _ _ _ _ h;simp only [dU,hm.nil,hm.one,W5,hm.one] at k1 k2 ⊢;rw [k2,k1]
    .cases h
  | ops k acc=>
   simp only [P] at h;split at h
   .obtain ⟨⟨b,g⟩,e,h⟩:=bind_some h;have k1:=ih _ _ _ _ _ e;have k2:=ih _ _ _ _ _ h;simp only [dU,hm.nil,hm.one,W5] at k1 k2 ⊢;rw [k2,hm.node (by decide)];simp only [hm.cons,hm.nil,W5,W6,k1,tk]
   .cases h;simp [dU]
  | neg=>
   simp only [P] at h;split at h
   .split at h
    .cases h
     (try rw [hm.one]);rw [hm.node (by decide)]
     simp only [hm.cons,hm.nil,W5,Xe,W6,dU,hm.nil,W5,hm.deep,tk]
    .obtain ⟨⟨a,g⟩,e,h⟩:=bind_some h;cases h;have k1:=ih _ _ _ _ _ e;simp only [dU,hm.nil,hm.one,W5] at k1 ⊢
     (try rw [hm.one]);rw [hm.node (by decide)]
     simp only [hm.cons,hm.nil,W5,W6,k1,tk]
   .obtain ⟨⟨a,g⟩,e,h⟩:=bind_some h;dsimp only at h;split at h
    .have k1:=ih _ _ _ _ _ e;have k2:=ih _ _ _ _ _ h;simp only [dU,hm.nil,hm.one,W5,hm.one] at k1 k2 ⊢;rw [k2,k1]
    .cases h
  | args acc=>
   simp only [P] at h;split at h
   .obtain ⟨⟨b,g⟩,e,h⟩:=bind_some h;have k1:=ih _ _ _ _ _ e;have k2:=ih _ _ _ _ _ h;simp only [dU,hm.nil,hm.one,W5] at k1 k2 ⊢;rw [k2,hm.node (by decide)];simp only [hm.cons,hm.nil,W5,W6,k1]
   .cases h;simp [dU]
  | atom pat=>
   simp only [P] at h;split at h
   .split at h
    .cases h
     (try rw [hm.one]);rw [hm.node (by decide),hm.one]
     simp only [dU,hm.nil,W5];exact tk
    split at h
    .have k:=ih _ _ _ _ _ h;exact k
    split at h
    .have k:=ih _ _ _ _ _ h;exact k
    .cases h;rw [hm.one];simp only [dU,hm.nil,W5];exact tk
   .cases h;rw [hm.one,hm.miss];simp [dU,hm.nil]
  | closed list pat=>
   simp only [P] at h;split at h
   .cases h;have p:=hm.take (aL r)
    (try rw [hm.one]);rw [hm.node (nW _ _)]
    simp only [hm.cons,hm.nil,W5,Xe,W6,dU,hm.nil,W5,p,tk]
   .obtain ⟨⟨a,r2⟩,e,h⟩:=bind_some h;obtain ⟨⟨bs,m⟩,f,h⟩:=bind_some h;cases h;have k1:=ih _ _ _ _ _ e;have k2:=ih _ _ _ _ _ f;have hd:dU (if pat then jI.pattern else jI.expr)=[]:=by cases pat <;> rfl
    rw [hd] at k1;simp only [dU,hm.nil,hm.one,W5] at k1 k2 ⊢
    (try rw [hm.one]);rw [hm.node (nW _ _)]
    simp only [hm.app,hm.cons,hm.nil,W5,Xe,W6,Xf,hm.zi,k2,k1,tk]
  | items list pat=>
   simp only [P] at h;split at h
   .obtain ⟨⟨a,r2⟩,e,h⟩:=bind_some h;obtain ⟨⟨bs,m⟩,f,h⟩:=bind_some h;cases h;have k1:=ih _ _ _ _ _ e;have k2:=ih _ _ _ _ _ f;have hd:dU (if pat then jI.pattern else jI.expr)=[]:=by cases pat <;> rfl
    rw [hd] at k1;simp only [dU,hm.nil,hm.one,W5] at k1 k2 ⊢;simp only [hm.app,hm.cons,hm.nil,W5,W6,Xf,k2,k1,tk]
   .cases h;simp [dU,hm.nil]
  | pattern=>
   simp only [P] at h;split at h
   .cases h;rw [hm.one,hm.deep];simp [dU,hm.nil]
   .obtain ⟨⟨a,g⟩,e,h⟩:=bind_some h;have k1:=ih _ _ _ _ _ e;dsimp only at h;split at h
    .obtain ⟨⟨b,r2⟩,f,h⟩:=bind_some h;cases h;have k2:=ih _ _ _ _ _ f;simp only [dU,hm.nil,hm.one,W5] at k1 k2 ⊢
     (try rw [hm.one]);rw [hm.node (by decide)]
     simp only [hm.app,hm.cons,hm.nil,W5,W6,k2,hm.take,k1]
    .cases h;exact k1
  | binding=>
   simp only [P] at h;have o:F (if bY dn r then [aJ r] else [])++G (if bY dn r then aL r else r)=G r:=by
    split
    .rw [hm.one];exact tk
    .rw [hm.nil];rfl
   generalize (if bY dn r then [aJ r] else [])=rc at h o;generalize (if bY dn r then aL r else r)=r0 at h o;split at h
   .obtain ⟨⟨xs,g⟩,e,h⟩:=bind_some h;obtain ⟨⟨ps,m⟩,j,e⟩:=bind_some e;cases e;obtain ⟨⟨es,r2⟩,f,h⟩:=bind_some h;cases h;have i:=ih _ _ _ _ _ j;have k2:=ih _ _ _ _ _ f;simp only [dU,hm.nil,hm.one,W5] at k2 i ⊢;simp only [hm.app,hm.cons,hm.nil,W5,hm.one,W6,Xf,k2,hm.zi,i,hm.take,o]
   .obtain ⟨⟨xs,g⟩,e,h⟩:=bind_some h;obtain ⟨⟨es,r2⟩,f,h⟩:=bind_some h;cases h;have k1:=ih _ _ _ _ _ e;have k2:=ih _ _ _ _ _ f;simp only [dU,hm.nil,hm.one,W5] at k1 k2 ⊢;simp only [hm.app,hm.one,W6,k2,hm.zi,k1,o]
  | params=>
   simp only [P] at h;split at h
   .obtain ⟨⟨a,g⟩,e,h⟩:=bind_some h;obtain ⟨⟨bs,r2⟩,f,h⟩:=bind_some h;cases h;have k1:=ih _ _ _ _ _ e;have k2:=ih _ _ _ _ _ f;simp only [dU,hm.nil,hm.one,W5] at k1 k2 ⊢;simp only [hm.app,W6,k2,k1]
   .cases h;simp [dU,hm.nil]
  | arm=>
   simp only [P] at h;obtain ⟨⟨a,g⟩,e,h⟩:=bind_some h;obtain ⟨⟨es,r2⟩,f,h⟩:=bind_some h;cases h;have k1:=ih _ _ _ _ _ e;have k2:=ih _ _ _ _ _ f;simp only [dU,hm.nil,hm.one,W5] at k1 k2 ⊢
   (try rw [hm.one]);rw [hm.node (by decide)]
   simp only [hm.app,hm.one,W6,k2,hm.zi,k1]
  | arms=>
   simp only [P] at h;split at h
   .obtain ⟨⟨a,g⟩,e,h⟩:=bind_some h;obtain ⟨⟨bs,r2⟩,f,h⟩:=bind_some h;cases h;have k1:=ih _ _ _ _ _ e;have k2:=ih _ _ _ _ _ f;simp only [dU,hm.nil,hm.one,W5] at k1 k2 ⊢;simp only [hm.app,hm.cons,hm.nil,W5,W6,Xf,k2,k1,tk]
   .cases h;simp [dU,hm.nil]
theorem DE {α:Type} {F1:T->List α} {F:List T->List α} {G:List aU->List α} (hm:wu F1 F G): ∀(n:Nat) (r:List aU),F (skip n r).1++G (skip n r).2=G r
 | 0,r=>by simp [skip,hm.nil]
 | n+1,r=>by
  simp only [skip];split
  .simp only [hm.cons,W6,DE hm n (aL r),hm.take]
  .simp [hm.nil]
theorem vm {α:Type} {F1:T->List α} {F:List T->List α} {G:List aU->List α} (hm:wu F1 F G) (h0:G []=[]): ∀(n:Nat) (r:List aU) (l:List T),decls n r=some l->O1 r->F l=G r
 | 0,_,_,h,_=>by cases h
 | n+1,r,l,h,hz=>by
  simp only [decls] at h;split at h
  .rename_i hn;cases h;have:=hm.take r;rw [Hd hz hn,h0,Xe] at this;rw [hm.one,this]
  split at h
  .obtain ⟨⟨bs,c⟩,b,h⟩:=bind_some h;obtain ⟨m,a,h⟩:=bind_some h;cases h;have k1:=Tl hm _ _ _ _ _ _ b;have k2:=vm hm h0 n c m a (Am kF _ _ _ _ _ _ b (kF _ hz));simp only [dU,hm.nil,W5] at k1;rw [hm.cons,hm.node (by decide),hm.cons,W6,k2,k1,hm.take]
  .obtain ⟨m,a,h⟩:=bind_some h;cases h;have k2:=vm hm h0 n _ m a (zg kF _ _ hz);rw [hm.cons,hm.node (by decide),k2,DE hm]
theorem HE {α:Type} {F1:T->List α} {F:List T->List α} {G:List aU->List α} (hm:wu F1 F G) (h0:G []=[]) (r:List aU) (h:O1 r):F1 (doc r)=G r:=by
 obtain ⟨l,a,b⟩:=ju r;rw [b,hm.node (by decide),vm hm h0 _ _ _ a h]
theorem Ia (w:List UInt8):pt w≠0:=by
 unfold pt;split
 .decide
 split <;> decide
theorem Nt {s:List UInt8} (h:s≠[]):(cut s).1≠0:=by
 cases s with
 | nil=>exact absurd rfl h
 | cons c l=>
  unfold cut;dsimp only;split
  .exact fun e=>by cases e
  split
  .cases rem (List.drop 2 (c::l)) 1 <;> exact fun e=>by cases e
  split
  .exact Ia _
  split
  .have a:(number (c::l)).1≠0:=by
    unfold number;dsimp only;split
    .split <;> exact fun e=>by cases e
    .exact fun e=>by cases e
   exact a
  split
  .have:=kR l;show (dT l).1≠0;omega
  split
  .exact fun e=>by cases e
  split <;> exact fun e=>by cases e
theorem EJ: ∀(n:Nat) (s:List UInt8),∀p∈nS n s,p.1≠0
 | 0,_,p,h=>by simp [nS] at h
 | n+1,[],p,h=>by simp [nS] at h
 | n+1,c::l,p,h=>by
  simp only [nS,Xb] at h;rcases h with rfl | h
  .exact Nt (by simp)
  .exact EJ n _ p h
theorem oG (s:List UInt8):O1 (tokens s):=EJ _ s
theorem Aa {α:Type} {F1:T->List α} {F:List T->List α} {g:aU->List α} (hn:F []=[]) (hc: ∀t l,F (t::l)=F1 t++F l) (h0: ∀t,bn t=true->F1 (iy t)=g t) (h1: ∀t ks,bn t=false->F1 (leaf t ks)=F ks++g t) (hz: ∀ks,F1 (leaf (0,[]) ks)=F ks) (r:List aU):
  F1 (aJ r)++(aL r).flatMap g=r.flatMap g:=by
 have hl: ∀l:List aU,(∀t∈l,bn t=true)->F (l.map iy)=l.flatMap g:=by
  intro l
  induction l with
  | nil=>intro _;exact hn
  | cons t l ih=>
   intro h;rw [W8,hc,h0 t (h t WS),ih fun u hu=>h u (WZ _ hu)];simp
 have hf:=hl (r.takeWhile bn) fun t ht=>KG ht;have e:r.flatMap g=(r.takeWhile bn).flatMap g++(r.dropWhile bn).flatMap g:=by
  rw [<- List.flatMap_append,X9]
 unfold aJ aL;cases hd:r.dropWhile bn with
 | nil=>
  have hx:nx r=(0,[]):=by unfold nx;rw [hd]
  rw [hx,hz,hf,e,hd];rfl
 | cons t l=>
  have hx:nx r=t:=by unfold nx;rw [hd]
  have ht:bn t=false:=by
   have:=List.head_dropWhile_not bn (l:=r) (by rw [hd];simp);simpa only [hd,List.head_cons] using this
  rw [hx,h1 t _ ht,hf,e,hd];simp
mutual
def Ci (B:List UInt8):T->List UInt8
 | .mk k _ tx l=>Fe B l++(if k=1 then tx else [])
def Fe (B:List UInt8):List T->List UInt8
 | []=>[]
 | .mk k tk tx m::l=>(if k=1/\tk=1 then B else Ci B (.mk k tk tx m))++Fe B l
end
def JG (B:List UInt8):T->List UInt8
 | .mk k tk tx m=>if k=1/\tk=1 then B else Ci B (.mk k tk tx m)
theorem tK (B:List UInt8) (t:T) (l:List T):Fe B (t::l)=JG B t++Fe B l:=by
 cases t with
 | mk k tk tx m=>simp only [Fe,JG]
mutual
def KM:T->List Unit
 | .mk k tk _ l=>Js l++(if k=1/\tk=9 then [()] else [])
def Js:List T->List Unit
 | []=>[]
 | t::l=>KM t++Js l
end
theorem Mw (B:List UInt8):wu (JG B) (Fe B) (en B) where
 nil:=by simp [Fe]
 cons t l:=tK B t l
 node:=fun {k} hk l=>by
  simp only [node,JG,Ci];rw [if_neg (fun h=>hk h.1),if_neg hk,Xe]
 miss s:=by simp [missing,JG,Ci,Fe]
 take r:=by
  have e: ∀l,en B l=l.flatMap fun t=>(EW B t).2:=fun l=>by
   induction l with
   | nil=>rfl
   | cons t l ih=>rw [jf,ih];rfl
  rw [e,e];refine Aa (by simp [Fe]) (tK B) (fun t ht=> ?_) (fun t ks ht=> ?_) (fun ks=> ?_) r
  .simp only [iy,leaf,JG,Ci,Fe,W5,Yo,if_true];unfold EW;split <;> rfl
  .have h1:t.1≠1:=fun e=>by simp [bn,e] at ht
   simp only [leaf,JG,Ci,Yo,if_true];unfold EW;rw [if_neg h1,if_neg h1]
  .simp [leaf,JG,Ci]
theorem KY (B:List UInt8) (s:List UInt8):Ci B (doc (tokens s))=en B (tokens s):=by
 have h:=HE (Mw B) rfl (tokens s) (oG s);obtain ⟨l,_,a⟩:=ju (tokens s);rw [a] at h ⊢;simp only [node,JG] at h;rw [if_neg (fun e=>by cases e.1)] at h;exact h
theorem ME:wu KM Js (fun r=>r.flatMap fun t=>if t.1=9 then [()] else []) where
 nil:=by simp [Js]
 cons t l:=by simp [Js]
 node:=fun {k} hk l=>by
  simp only [node,KM];rw [if_neg (fun h=>hk h.1),Xe]
 miss s:=by simp [missing,KM,Js]
 take r:=by
  refine Aa (F1:=KM) (F:=Js) (g:=fun t=>if t.1=9 then [()] else []) (by simp only [Js]) (fun t l=>by simp only [Js]) (fun t ht=> ?_) (fun t ks ht=> ?_) (fun ks=> ?_) r
  .simp only [iy,leaf,KM,Js,W5,Yo]
  .simp only [leaf,KM,Yo]
  .simp [leaf,KM]
theorem P2 (s:List UInt8) (h:KM (doc (tokens s))=[]): ∀t∈tokens s,t.1≠9:=by
 rw [HE ME rfl (tokens s) (oG s)] at h;intro t ht e;have:=List.flatMap_eq_nil_iff.1 h t ht;rw [if_pos e] at this;cases this
end Go.Parse
namespace Go.Lay
open Go.VM Go.Lib
inductive Doc where
 | mk (kind:Int) (text:List UInt8) (n:Int) (kids:List Doc)
 deriving Inhabited
abbrev Vi:=Doc×Int×Bool
mutual
def Sn:Doc->Nat
 | .mk _ s _ kids=>s.length+OZ kids
def OZ:List Doc->Nat
 | []=>0
 | d::l=>Sn d+OZ l
end
def dT:List Vi->Nat
 | []=>0
 | t::l=>Sn t.1+dT l
end Go.Lay
namespace Go.Format
open Go.VM Go.Lex Go.Parse
abbrev B:=List UInt8
abbrev Doc:=Go.Lay.Doc
def tx (s:B):Doc:= .mk 1 s 0 []
def U1 (l:List Doc):Doc:= .mk 6 [] 0 l
def row (l:List Doc):Doc:= .mk 7 [] 0 l
def gf:Doc:=tx [32]
end Go.Format
namespace Go.Lex
open Go.VM
def iG (b:UInt8):Bool:=b==32||b==9||b==10||b==13||b==40||b==41||b==44||b==59||b==91||b==93
end Go.Lex
namespace Go.Parse
open Go.VM Go.Lex
structure WB (f:List aU->List aU):Prop where
 nx: ∀r,(nx r).1≠0->Parse.nx (f r)=Parse.nx r
 tk: ∀r,(Parse.nx r).1≠0->aJ (f r)=aJ r
 tr: ∀r,(Parse.nx r).1≠0->aL (f r)=f (aL r)
 nd: ∀r,(Parse.nx r).1=0->Parse.nx (f r)=(8,LQ)
section
variable {f:List aU->List aU} (hf:WB f)
include hf
end
theorem G3: ∀(n:Nat) (t:T),SizeOf.sizeOf t < n->bZ t=true->KM t=[]
 | 0,_,h,_=>by omega
 | n+1,.mk k tk tx l,h,hg=>by
  simp only [bZ,WY,bne_iff_ne,ne_eq,XL] at hg;simp only [KM];have hk:¬ (k=1/\tk=9):=by
   rintro ⟨h1,a⟩;rcases hg.1.2 with h | h
   .exact h h1
   .exact h a
  rw [if_neg hk,Xe];have hl: ∀(m:List T),(∀u∈m,u∈l)->dc m=true->Js m=[]:=by
   intro m
   induction m with
   | nil=>intro _ _;simp [Js]
   | cons u m ih=>
    intro hm hg;simp only [dc,WY] at hg;have hu:=G3 n u (by
     have:=List.sizeOf_lt_of_mem (hm u WS);simp only [T.mk.sizeOf_spec] at h;omega) hg.1
    simp only [Js];rw [hu,ih (fun v hv=>hm v (WZ _ hv)) hg.2];rfl
  exact hl l (fun u hu=>hu) hg.2
end Go.Parse
namespace Go.Parse
open Go.VM Go.Lex Go.Ast
section
variable {b r2:List aU} {e:T}
end
end Go.Parse
namespace Go.Parse
open Go.VM Go.Lex
inductive It where
 | tok (t:aU)
 | sep
end Go.Parse
namespace Go.Format
open Go.VM Go.Lex Go.Parse Go.Lay
def St (l:List It):Prop:= ∃u a,l= .tok u::a/\ ∃c r,u.2=c::r/\c≠42
def Sp (l:List It):Prop:=l=[]\/ ∃a,l= .sep::a
structure Kd (k:Nat) (ks:List T):Prop where
 k1:k≠1
 two:2<=ks.length
 kind:5<=k/\k<=18
 k6:k=6->4<=ks.length
 k8:k=8->ks.length=6
 k9:k=9->4<=ks.length
 k10:k=10->ks.length=3
 k11:k=11->ks.length=3
 k12:k=12->ks.length=2
 k13:k=13->ks.length=2
 k16:k=16->ks.length=3
section
variable {Q:aU->Prop} {Pr:T->Prop} (hlf: ∀(k:Nat) (s:B) (r:List aU),k≠0->k≠1->k≠2->Q (k,s)->(∀x∈r,bn x=true/\Q x)->Pr (.mk 1 k s (r.map iy)))
 (hnd: ∀(k:Nat) (ks:List T),Kd k ks->(∀x∈ks,Pr x)->Pr (node k ks))
include hlf
theorem Lw {s:B} {t:T} (h:Lf Q s t):Pr t:=by
 obtain ⟨k,ks,rfl,hk,a,r,rfl,hr⟩:=h;exact hlf k s r (by omega) (by omega) (by omega) a hr
include hnd
end
end Go.Format
namespace Go.Lay
end Go.Lay
namespace Go.Format
open Go.VM Go.Lex Go.Parse Go.Lay
theorem Il {s t:B} (h:nb (tokens s)=nb (tokens t)):bZ (doc (tokens s))=bZ (doc (tokens t)):=by
 rw [<- vu (doc (tokens s)), <- vu (doc (tokens t)),Dc h]
end Go.Format
namespace Go.Parse
open Go.VM Go.Lex
theorem Oz (B:List UInt8): ∀r:List aU,nb (r.map (EW B))=nb r
 | []=>rfl
 | t::r=>by
  rw [W8,ky,ky,Oz B r];have h:EW B t=if t.1=1 then (1,B) else t:=rfl
  rw [h];by_cases h1:t.1=1
  .rw [if_pos h1,if_pos h1,if_pos rfl]
  .rw [if_neg h1,if_neg h1]
theorem Jd {s B:List UInt8} (hs:cC s=true) (a:B≠[]) (hw:wh bH B=B.length) (hv:cC B=true) (hg:bZ (doc (tokens s))=true):
  cC (Ci B (doc (tokens s)))=true/\nb (tokens (Ci B (doc (tokens s))))=nb (tokens s):=by
 obtain ⟨h1,h2⟩:=A5 a hw hv s.length s (WW _) hs (P2 s (G3 _ _ (XW _) hg));rw [KY,h1];exact ⟨h2,Oz B _⟩
def mY:Nat->List UInt8
 | 0=>[32]
 | 1=>[10]
 | 2=>[9,32,13,10]
 | _=>[32,32,32,32]
theorem Ay (n:Nat):mY n≠[]/\wh bH (mY n)=(mY n).length/\cC (mY n)=true/\(mY n).length<=4:=by
 match n with
 | 0=>decide
 | 1=>decide
 | 2=>decide
 | n+3=>
  have h:([32,32,32,32]:List UInt8)≠[]/\wh bH [32,32,32,32]=([32,32,32,32]:List UInt8).length/\cC [32,32,32,32]=true/\([32,32,32,32]:List UInt8).length<=4:=by decide
  exact h
theorem yn (B:List UInt8) (a:B.length<=4): ∀r:List aU,(en B r).length<=4 * r.length+(cD r).length
 | []=>WW _
 | t::r=>by
  have:=yn B a r;rw [jf,Parse.kI,W9,W9,Xk];have h:(EW B t).2.length<=4+t.2.length:=by
   unfold EW;split
   .show B.length<= _;omega
   .omega
  omega
theorem FY (s:List UInt8) (n:Nat):(Ci (mY n) (doc (tokens s))).length<=5 * s.length:=by
 rw [KY];have h1:=yn (mY n) (Ay n).2.2.2 (tokens s);rw [jl] at h1;have:=qD s;omega
end Go.Parse
