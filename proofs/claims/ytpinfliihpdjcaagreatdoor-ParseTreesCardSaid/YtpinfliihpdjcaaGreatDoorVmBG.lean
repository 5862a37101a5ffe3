/-
  A part of the proof.
-/
import Derived.Test.YtpinfliihpdjcaaGreatDoorVmBE
import Derived.Lib.TrimUEq
import Derived.Lib.AtoiAll
set_option linter.all false
namespace Go.VM
open Go.Lib
def xf (n b0 b1 a b:Nat):Nat:=
 if b0 < 128 then 1
 else if 194<=b0/\b0<=223 then (if n < 2\/b1 < 128\/191 < b1 then 0 else 2)
 else if 224<=b0/\b0<=239 then (if n < 3\/b1 < 128\/191 < b1\/a < 128\/191 < a\/(b0=224/\b1 < 160)\/(b0=237/\159 < b1) then 0 else 3)
 else if 240<=b0/\b0<=244 then (if n < 4\/b1 < 128\/191 < b1\/a < 128\/191 < a\/b < 128\/191 < b\/(b0=240/\b1 < 144)\/(b0=244/\143 < b1) then 0 else 4)
 else 0
set_option maxHeartbeats 2000000 in
theorem Ar {n b0 b1 a b:Nat} (h0:b0 < 256) (h1:b1 < 256) (g:a < 256) (h:b < 256):
  (xf n b0 b1 a b=0/\decodeN n b0 b1 a b=(65533,1))\/(xf n b0 b1 a b=1/\b0 < 128/\decodeN n b0 b1 a b=(b0,1))\/(2<=xf n b0 b1 a b/\(decodeN n b0 b1 a b).2=xf n b0 b1 a b):=by
 by_cases c0:b0 < 128
 .refine .inr (.inl ⟨?_,c0, ?_⟩)
  .unfold xf;rw [if_pos c0]
  .unfold decodeN;rw [if_pos c0]
 by_cases z:xf n b0 b1 a b=0
 .refine .inl ⟨z, ?_⟩;unfold xf at z;unfold decodeN
  repeat' split
  all_goals first | rfl | (exfalso;(repeat' (split at z));all_goals omega)
 .have f:(xf n b0 b1 a b=2/\(194<=b0/\b0<=223)/\¬ (n < 2\/b1 < 128\/191 < b1))\/
    (xf n b0 b1 a b=3/\(224<=b0/\b0<=239)/\¬ (n < 3\/b1 < 128\/191 < b1\/a < 128\/191 < a\/(b0=224/\b1 < 160)\/(b0=237/\159 < b1)))\/
    (xf n b0 b1 a b=4/\(240<=b0/\b0<=244)/\¬ (n < 4\/b1 < 128\/191 < b1\/a < 128\/191 < a\/b < 128\/191 < b\/(b0=240/\b1 < 144)\/(b0=244/\143 < b1))):=by
   unfold xf at z ⊢;rw [if_neg c0] at z ⊢;by_cases c1:194<=b0/\b0<=223
   .rw [if_pos c1] at z ⊢;by_cases d:n < 2\/b1 < 128\/191 < b1
    .rw [if_pos d] at z;omega
    .rw [if_neg d];exact .inl ⟨rfl,c1,d⟩
   rw [if_neg c1] at z ⊢;by_cases c2:224<=b0/\b0<=239
   .rw [if_pos c2] at z ⊢;by_cases d:n < 3\/b1 < 128\/191 < b1\/a < 128\/191 < a\/(b0=224/\b1 < 160)\/(b0=237/\159 < b1)
    .rw [if_pos d] at z;omega
    .rw [if_neg d];exact .inr (.inl ⟨rfl,c2,d⟩)
   rw [if_neg c2] at z ⊢;by_cases c3:240<=b0/\b0<=244
   .rw [if_pos c3] at z ⊢;by_cases d:n < 4\/b1 < 128\/191 < b1\/a < 128\/191 < a\/b < 128\/191 < b\/(b0=240/\b1 < 144)\/(b0=244/\143 < b1)
    .rw [if_pos d] at z;omega
    .rw [if_neg d];exact .inr (.inr ⟨rfl,c3,d⟩)
   .rw [if_neg c3] at z;omega
  refine .inr (.inr ?_);rcases f with ⟨e,c,d⟩ | ⟨e,c,d⟩ | ⟨e,c,d⟩
  all_goals
   rw [e];refine ⟨by omega, ?_⟩;unfold decodeN
   repeat' split
   all_goals first | rfl | (exfalso;omega)
theorem HM {n b0 b1 a b:Nat} (h:1<=n):xf n b0 b1 a b<=n:=by
 unfold xf
 repeat' split
 all_goals omega
def lq (l:List UInt8):Nat:=xf l.length (l.getD 0 0).toNat (l.getD 1 0).toNat (l.getD 2 0).toNat (l.getD 3 0).toNat
theorem sJ (l:List UInt8):(lq l=0/\decodeL l=(65533,1))\/(lq l=1/\(l.getD 0 0).toNat < 128/\decodeL l=((l.getD 0 0).toNat,1))\/(2<=lq l/\(decodeL l).2=lq l):=by
 unfold lq;rw [decodeL_N];exact Ar (UInt8.toNat_lt _) (UInt8.toNat_lt _) (UInt8.toNat_lt _) (UInt8.toNat_lt _)
theorem DQ {l:List UInt8} (h:l≠[]):lq l<=l.length:=HM (List.length_pos_iff.2 h)
def kY:Nat->List UInt8->Bool
 | 0,_=>true
 | n+1,l=>if l=[] then true else if lq l=0 then false else kY n (l.drop (lq l))
theorem pO: ∀(n:Nat) (l:List UInt8),validGoD n l=kY n l
 | 0,_=>rfl
 | n+1,l=>by
  unfold validGoD kY;by_cases h:l=[]
  .rw [if_pos h,if_pos h]
  rw [if_neg h,if_neg h];rcases sJ l with ⟨h1,a⟩ | ⟨h1,a,c⟩ | ⟨h1,a⟩
  .have hd:(decodeL l).1=65533/\(decodeL l).2=1:=by rw [a];exact ⟨rfl,rfl⟩
   rw [if_pos hd,if_pos h1]
  .have hd:¬ ((decodeL l).1=65533/\(decodeL l).2=1):=by rw [c];show ¬ ((l.getD 0 0).toNat=65533/\ _);omega
   have b:¬ lq l=0:=by omega
   rw [if_neg hd,if_neg b,c,h1];exact pO n _
  .have hd:¬ ((decodeL l).1=65533/\(decodeL l).2=1):=by omega
   have b:¬ lq l=0:=by omega
   rw [if_neg hd,if_neg b,a];exact pO n _
def dN (l:List UInt8):Bool:=kY l.length l
theorem C7 (l:List UInt8):validD l=dN l:=pO _ _
theorem qc: ∀(n m:Nat) (l:List UInt8),l.length<=n->l.length<=m->kY n l=kY m l
 | 0,0,_,_,_=>rfl
 | 0,m+1,l,h,_=>by
  have:l=[]:=Oo (by omega);subst this;simp [kY]
 | n+1,0,l,_,h=>by
  have:l=[]:=Oo (by omega);subst this;simp [kY]
 | n+1,m+1,l,b,c=>by
  unfold kY;by_cases h:l=[]
  .rw [if_pos h,if_pos h]
  rw [if_neg h,if_neg h];by_cases a:lq l=0
  .rw [if_pos a,if_pos a]
  .rw [if_neg a,if_neg a,qc n m _ (by rw [N3];omega) (by rw [N3];omega)]
theorem yp {l:List UInt8} (h:l≠[]):dN l=if lq l=0 then false else dN (l.drop (lq l)):=by
 unfold dN;have hl:0 < l.length:=List.length_pos_iff.2 h;obtain ⟨n,b⟩: ∃n,l.length=n+1:=⟨l.length - 1,by omega⟩;rw [b];show (if l=[] then true else _)= _;rw [if_neg h];by_cases a:lq l=0
 .rw [if_pos a,if_pos a]
 .rw [if_neg a,if_neg a];exact qc _ _ _ (by rw [N3];omega) (NX _)
section
variable {β:Type} {O:qL}
theorem gE {f:List AV->cl AV} {args:List AV} {v:AV} (h:f args= .ok v) (st:St) (K:Kv β):eJ O (gT (.lib f) args) st K=K v st q0:=by
 simp only [eJ,nJ,gT,h,sG,ak]
theorem yK {s:List UInt8} (h:s.length<=9223372036854775807):iY [.str s]= .ok (.bool (dN s)):=by
 simp only [iY,Oz h,C7]
end
end Go.VM
namespace Go.VM
open Go
@[simp] theorem Kb (v:AV):oneOf [v]=v:=id rfl
@[simp] theorem J8 (cs:List AV):notNil (.ip cs)=true:=id rfl
@[simp] theorem dh (i o:Nat):notNil (.mp i o)=true:=id rfl
@[simp] theorem jQ (a:AV) (l:List AV):(a::l).drop 1=l:=id rfl
@[simp] theorem NG (a b:AV) (l:List AV):(a::b::l).drop 2=l:=id rfl
@[simp] theorem Lu (a b c:AV) (l:List AV):(a::b::c::l).drop 3=l:=id rfl
@[simp] theorem NH (a b c d:AV) (l:List AV):(a::b::c::d::l).drop 4=l:=id rfl
@[simp] theorem Nb (a b c d e:AV) (l:List AV):(a::b::c::d::e::l).drop 5=l:=id rfl
@[simp] theorem Mj (a:AV) (l:List AV):lf 1 true (a::l)=some (.agg [a]):=id rfl
@[simp] theorem ke (a b:AV) (l:List AV):lf 2 true (a::b::l)=some (.agg [a,b]):=id rfl
@[simp] theorem MB (a b c:AV) (l:List AV):lf 3 true (a::b::c::l)=some (.agg [a,b,c]):=id rfl
@[simp] theorem wa (a b c d:AV) (l:List AV):lf 4 true (a::b::c::d::l)=some (.agg [a,b,c,d]):=id rfl
@[simp] theorem Dj (cs:List AV):AV.cells (.agg cs)=cs:=id rfl
@[simp] theorem JQ (s:List UInt8):AV.cells (.str s)=[.str s]:=id rfl
@[simp] theorem Ke (k:IntKind) (n:Int):AV.cells (.int k n)=[.int k n]:=id rfl
@[simp] theorem KN (f:Fn) (a b:List AV):AV.cells (.fn f a b)=[.fn f a b]:=id rfl
@[simp] theorem He (i:Nat) (o:VM.Obj):apart q0 ⟨[],.made i o⟩=true:=id rfl
@[simp] theorem Hj (i:Nat) (o:VM.Obj):apart ⟨[],.kept⟩ ⟨[],.made i o⟩=true:=id rfl
@[simp] theorem Gw (i:Nat) (o:VM.Obj):apart ⟨[],.kept⟩ ⟨[i],.wrote i o⟩=true:=id rfl
theorem mP {n:Nat} (h:n<=9223372036854775807):IntKind.wrap .i64 (n:Int)=(n:Int):=wrap_i64 (by omega) (by omega)
theorem oI {n m:Nat} (h:n+m<=9223372036854775807):IntKind.wrap .i64 ((n:Int)+(m:Int))=((n+m:Nat):Int):=by rw [<- Int.natCast_add];exact mP h
theorem bj {n:Nat} (h:n+1<=9223372036854775807):IntKind.wrap .i64 ((n:Int)+1)=((n+1:Nat):Int):=oI (m:=1) h
theorem kG {n:Nat} (h:n+2<=9223372036854775807):IntKind.wrap .i64 ((n:Int)+2)=((n+2:Nat):Int):=oI (m:=2) h
theorem qA {n m:Nat} (h:m<=n) (a:n<=9223372036854775807):IntKind.wrap .i64 ((n:Int) - (m:Int))=((n - m:Nat):Int):=by rw [<- mP (n:=n - m) (by omega)];congr 1;omega
theorem jz {a b:Nat} (h:a<=b):Nat.ble a b=true:=Oz h
theorem rR {st st':St} {z:Nat} {e:TypeId} {v:AV} {es:List AV} {but:Nat->Prop} (h:jE st z e v es) (k:aV st st' but) (b: ∀j,dm v j->¬ but j):jE st' z e v es:=by
 refine ⟨by rw [k.ro];exact Oe h.1 k.h,h.2.1, ?_⟩;rcases h.2.2 with h | h | ⟨j,a,c,d⟩
 .exact .inl h
 .exact .inr (.inl h)
 .exact .inr (.inr ⟨j,a,k.old _ _ (b j ⟨_,_,a⟩) c,by rw [k.ro];exact d⟩)
theorem A6 {st:St} {z b:Nat} {e:TypeId} {v:AV} {es:List AV} (w:AV) (h:jE st z e v es) (a:cU (es.length+1) ⟨.other,z,b,[],false,false⟩=true):
  ∃v' st',jE st' z e v' (es++[w])/\aV st st' (dm v)/\ ∃x,∀{β:Type} (K:Kv β),cq z b e v [w] st K=K v' st' x:=by
 obtain ⟨v',st',x,c,d,f,_⟩:=wA (b:=b) (new:=[w]) h (by simp) a;exact ⟨v',st',d,f,x,fun K=>xe c K⟩
theorem qQ {n z b:Nat} (a:n<=1000000000) (c:b<=1000) (d:1<=z):cU n ⟨.other,z,b,[],false,false⟩=true:=by
 have:n * b<=1000000000 * 1000:=PC a c;simp only [cU,jz (show n * b<=70368744177664 by omega),jz (show n<=70368744177664 by omega),jz d];rfl
theorem Av {st:St} {z:Nat} {e:TypeId} {v:AV} {es:List AV} (h:jE st z e v es): ∃x,cb z x es/\ ∀n,freeze st 0 (n+1) v= .ok x:=by
 rcases h with ⟨_,hl,⟨rfl | rfl,rfl⟩ | rfl | ⟨k,rfl,_,_⟩⟩
 .exact ⟨.aG,cb.aG,fun _=>rfl⟩
 .exact ⟨.es,cb.emp,fun _=>rfl⟩
 .exact ⟨.sl z es .shut,cb.shut hl,fun _=>rfl⟩
 .exact ⟨.sl z es .wide,cb.wide hl,fun _=>rfl⟩
theorem xn {st:St} {z:Nat} {e:TypeId} {v u:AV} {es:List AV} (h:jE st z e v es) (c:Fz 1 u) (d:bare u=true): ∃x,cb z x es/\ ∀{β:Type} (K:AV->Option β),kQ st 0 (.tup [v,u]) K=K (.tup [x,u]):=by
 obtain ⟨x,b,f⟩:=Av h;refine ⟨x,b,fun K=> ?_⟩;have g:freeze st 0 100 (.tup [v,u])= .ok (.tup [x,u]):=by
  show (do pure (.tup (<- iZ (freeze st 0 99) [v,u])):cl AV)= _;have a:iZ (freeze st 0 99) [v,u]= .ok [x,u]:=by
   simp only [iZ,f 98,c st 0 99 (by omega),ay,aE]
  rw [a];rfl
 have a:bare (.tup [x,u])=true:=by
  show (bare x&&(bare u&&true))=true;rw [b.bare,d];rfl
 simp only [kQ,g,a,bV]
theorem mo {c d:UInt8} (h:c≠d):¬ ((c.toNat:Nat):Int)=(d.toNat:Int):=by
 intro k;have:c.toNat=d.toNat:=by omega
 exact h (Pp.1 this)
theorem eP {s:List UInt8} {i:Nat} {c:UInt8} (a:i < s.length) (b:s[i]? =some c):s[i]=c:=by
 have:=Oj a;rw [b] at this;exact (OS this).symm
theorem zc {agg:Bool} {β:Type}: ∀{l:List AV} (_: ∀v∈l,∀(K:AV->Option β),Cr agg v K=K v) (K:List AV->Option β),lE agg l K=K l
 | [],_,_=>rfl
 | v::l,h,K=>by
  show Cr agg v (fun v'=>lE agg l fun a=>K (v'::a))= _;rw [h v (by simp),zc fun u b=>h u (N2 _ b)]
theorem AD {z:Nat} {l:List AV} (h: ∀v∈l,v.cells.length=z):nS z l=true:=by
 refine Ox.2 fun v a=> ?_;rw [h v a];exact Py z
theorem Gn {st:St} {base:Nat} {vs xs:List AV} (h:iZ (freeze st base 99) vs= .ok xs) (a:bx xs=true) {β:Type} (K:AV->Option β):kQ st base (.tup vs) K=K (.tup xs):=by
 have e:freeze st base 100 (.tup vs)= .ok (.tup xs):=by
  show (do pure (.tup (<- iZ (freeze st base 99) vs)):cl AV)= _;rw [h];rfl
 have b:bare (.tup xs)=true:=a;simp only [kQ,e,b,bV]
theorem uk {g:AV->cl AV} {v x:AV} {vs xs:List AV} (h:g v= .ok x) (hs:iZ g vs= .ok xs):iZ g (v::vs)= .ok (x::xs):=by
 simp only [iZ,h,hs,ay,aE]
theorem Du {g:AV->cl AV}:iZ g []= .ok []:=rfl
theorem BB {O:qL} {st:St} {id:Nat} {t:TypeId} {z:Nat} {old cs:List AV} (v:AV) (b:st.get id= .ok (.cells t old)) (hl:old.length=z) (c:cs.length=z) (a:st.ro<=id):
  ∃st',st'.get id= .ok (.cells t cs)/\aV st st' (· =id)/\st'.h=st.h/\ ∃d,∀{β:Type} (K:Kv β),bn O z (.mp id 0) v cs st K=K undef st' d:=by
 refine ⟨st.put id (.cells t cs),St.aP (St.cA.1 b).1,aV.put rfl,rfl,⟨[id],.wrote id (.cells t (cJ old 0 cs))⟩,fun K=> ?_⟩;rw [eS b c (by omega) a,iJ (by omega)]
def Rf (d:Nat) (v:AV):Prop:= ∀f,d<=f->eV f v v=true
theorem Rf.mono {d e:Nat} {v:AV} (h:Rf d v) (hd:d<=e):Rf e v:=fun f hf=>h f (Oe hd hf)
theorem nR: ∀s:List UInt8,jm s s=true
 | []=>rfl
 | a::l=>by simp only [jm,Py];exact nR l
theorem ir {g:AV->AV->Bool}: ∀{l:List AV},(∀v∈l,g v v=true)->dJ g l l=true
 | [],_=>rfl
 | v::l,h=>by simp only [dJ,h v (by simp)];exact ir fun u a=>h u (N2 _ a)
theorem px (k:IntKind) (n:Int):Rf 1 (.int k n):=fun f hf=>by cases f with | zero=>omega | succ f=>show (decide (k=k)&&decide (n=n))=true;simp
theorem zN (s:List UInt8):Rf 1 (.str s):=fun f hf=>by cases f with | zero=>omega | succ f=>exact nR s
theorem wy:Rf 1 .aG:=fun f hf=>by cases f with | zero=>omega | succ f=>rfl
theorem E6:Rf 1 .es:=fun f hf=>by cases f with | zero=>omega | succ f=>rfl
theorem Ib {d:Nat} {cs:List AV} (h: ∀c∈cs,Rf d c):Rf (d+1) (.agg cs):=fun f hf=>by
 cases f with
 | zero=>omega
 | succ f=>exact ir fun v a=>h v a f (by omega)
theorem qz {d z:Nat} {p:Perm} {cs:List AV} (h: ∀c∈cs,Rf d c):Rf (d+1) (.sl z cs p):=fun f hf=>by
 cases f with
 | zero=>omega
 | succ f=>
  show (z.beq z&&decide (p=p)&&dJ (eV f) cs cs)=true;rw [ir fun v a=>h v a f (by omega)];simp
theorem CR {st st':St} {i:Nat} {t:TypeId} {cs:List AV} {d:Nat} (h1:st.get i= .ok (.cells t cs)) (a:st'.get i= .ok (.cells t cs)) (h: ∀c∈cs,Rf d c) (hd:d<=1000000000000000000):sameAt st st' i=true:=by
 have e:dJ (eV 1000000000000000000) cs cs=true:=ir fun v b=>h v b _ hd;unfold sameAt;rw [h1,a];show (t.beq t&&dJ (eV 1000000000000000000) cs cs)=true;rw [e];simp
theorem BO {st st':St} {i:Nat} (h:sameAt st st' i=true):apart ⟨[i],.kept⟩ ⟨[],.all st st'⟩=true:=by
 show ([i].all (sameAt st st'))=true;simp [h]
theorem tz {O:qL} {st:St} {id:Nat} {t:TypeId} {z:Nat} {old cs:List AV} (v:AV) (b:st.get id= .ok (.cells t old)) (hl:old.length=z) (c:cs.length=z) (a:st.ro<=id):
  ∃st' o,st'.get id= .ok (.cells t cs)/\aV st st' (· =id)/\st'.h=st.h/\ ∀{β:Type} (K:Kv β),bn O z (.mp id 0) v cs st K=K undef st' ⟨[id],.wrote id o⟩:=by
 refine ⟨st.put id (.cells t cs),.cells t (cJ old 0 cs),St.aP (St.cA.1 b).1,aV.put rfl,rfl,fun K=> ?_⟩;rw [eS b c (by omega) a,iJ (by omega)]
theorem Er {a i:Nat} {o:Obj} (h:a≠i):apart ⟨[a],.kept⟩ ⟨[i],.wrote i o⟩=true:=by
 show (![a].contains i)=true;simp [h.symm]
theorem Ct {i:Nat} {o:Obj}:apart ⟨[],.kept⟩ ⟨[i],.wrote i o⟩=true:=id rfl
theorem aV.vg {st st':St} {p:Nat} (k:aV st st' (· =p)) {j:Nat} {o:Obj} (a:j≠p) (h:st.get j= .ok o):st'.get j= .ok o:=k.old j o a h
theorem aV.BD {st st':St} {p q:Nat->Prop} (k:aV st st' p) (h: ∀j,p j->q j):aV st st' q:=⟨k.ro,k.h,fun j o a=>k.old j o fun b=>a (h j b)⟩
theorem aV.fresh {a b c:St} {p:Nat->Prop} {i:Nat} (h:aV a b p) (k:aV b c (· =i)) (hi:a.h<=i):aV a c p:=
 ⟨k.ro.trans h.ro,Oe h.h k.h,fun j o f d=>k.old j o (fun e=>by
  have:=(St.cA.1 d).1;omega) (h.old j o f d)⟩
def aa {β:Type} (e:Option β) (Q:β->Prop):Prop:= ∃b,e=some b/\Q b
section
variable {β:Type} {Q:β->Prop} {E:Env} {st:St}
theorem aa.step {e a:Option β} (h:e=a) (g:aa a Q):aa e Q:=h ▸ g
theorem aa.some {b:β} (h:Q b):aa (.some b) Q:=⟨b,rfl,h⟩
theorem aa.mono {e:Option β} {a:β->Prop} (h:aa e Q) (k: ∀b,Q b->a b):aa e a:=by
 obtain ⟨b,e,h⟩:=h;exact ⟨b,e,k b h⟩
theorem aa.bind {α:Type} {e:Option α} {R:α->Prop} {K:α->Option β} (h:aa e R) (g: ∀a,R a->aa (K a) Q):aa (aB e K) Q:=by
 obtain ⟨a,e,h⟩:=h;rw [e];exact g a h
theorem aa.wide {F:FuncId} {args:List AV} {Q:AV×St->Prop} (h:aa (cE E F args st) Q):aa ((bc E).wide F args st) Q:=by
 obtain ⟨b,e,h⟩:=h;exact ⟨b,fJ e,h⟩
theorem aa.lb {F:FuncId} {args:List AV} {R:AV×St->Prop} (h:aa ((bc E).wide F args st) R) (h1:E.isLook F=false) (a:(bx (args.map strip)&& !E.full F)=false) {K:Kv β} (g: ∀v s,R (v,s)->aa (K v s ⟨[],.all st s⟩) Q):aa (aX (bc E) F args st K) Q:=by
 obtain ⟨⟨v,s⟩,e,h⟩:=h;exact aa.step (fO (E:=E) K h1 a e) (g v s h)
theorem aa.one {v:AV} (h:VM.one v=true) {e:Option β} (g:aa e Q):aa (ab v e) Q:=aa.step (iX h e) g
abbrev LU:=List (Nat×TypeId×List AV)
structure Vw (st:St) (l:LU):Prop where
 v: ∀q∈l,st.get q.1= .ok (.cells q.2.1 q.2.2)/\st.ro<=q.1
 nd:(l.map (·.1)).Nodup
 ro:st.ro<=st.h
variable {l l1 l2:LU}
theorem Vw.get (w:Vw st l) {a:Nat} {t:TypeId} {cs:List AV} (h:(a,t,cs)∈l):st.get a= .ok (.cells t cs):=(w.v _ h).1
theorem Vw.putAt {a:Nat} {t t':TypeId} {old:List AV} (w:Vw st (l1++(a,t,old)::l2)) (cs:List AV):Vw (st.put a (.cells t' cs)) (l1++(a,t',cs)::l2):=by
 have f:(a,t,old)∈l1++(a,t,old)::l2:=List.mem_append_right _ NV;have h:=w.get f;have c:=w.nd;rw [OJ,Od] at c;refine ⟨fun q b=> ?_,by rw [OJ,Od];exact c,w.ro⟩;have other: ∀q∈l1++(a,t,old)::l2,q.1≠a->(st.put a (.cells t' cs)).get q.1= .ok (.cells q.2.1 q.2.2)/\st.ro<=q.1:=fun q b d=>
  ⟨by rw [St.aQ (fun e=>d e.symm)];exact (w.v q b).1,(w.v q b).2⟩
 rcases N9.1 b with b | b
 .refine other q (List.mem_append_left _ b) fun e=> ?_;have:=(List.nodup_append.1 c).2.2 q.1 (List.mem_map_of_mem b) a NV;exact this e
 .rcases Oc.1 b with rfl | b
  .exact ⟨St.aP (St.cA.1 h).1,(w.v _ f).2⟩
  .refine other q (List.mem_append_right _ (N2 _ b)) fun e=> ?_;have h1:=(Ps.1 (List.nodup_append.1 c).2.1).1;have g:q.1∈l2.map (·.1):=List.mem_map_of_mem b;rw [e] at g;exact h1 g
theorem aa.wb {O:qL} (l1:LU) {a:Nat} {ty:TypeId} {old:List AV} (w:Vw st (l1++(a,ty,old)::l2)) {z:Nat} {v:AV} {cs:List AV} {K:Kv β}
  (g: ∀s c,s.h=st.h->Vw s (l1++(a,ty,cs)::l2)->aa (K VM.undef s c) Q) (f:old.length=z:=by rfl) (d:cs.length=z:=by rfl):aa (bn O z (.mp a 0) v cs st K) Q:=by
 have b:(a,ty,old)∈l1++(a,ty,old)::l2:=List.mem_append_right _ NV;have e:bn O z (.mp a 0) v cs st K=K VM.undef (st.put a (.cells ty cs)) ⟨[a],.wrote a (.cells ty cs)⟩:=by
  rw [eS (w.get b) d (by omega) (w.v _ b).2,iJ (by omega)]
 exact aa.step e (g _ _ rfl (w.putAt cs))
theorem aa.A7 {a:Nat} {ty:TypeId} {cs:List AV} (b:(a,ty,cs)∈l) (w:Vw st l) {z:Nat} (c:cs.length=z) {K:AV->List Nat->Option β} (g:aa (K (.agg cs) [a]) Q):aa (ax z true (.mp a 0) st K) Q:=by
 refine aa.step (bh (w.get b) _ _ _ _) ?_;rw [N7,Cd c];exact g
end
end Go.VM
namespace Go.Lex
open Go.VM
def wh (p:UInt8->Bool) (s:List UInt8):Nat:=(s.takeWhile p).length
def ep (b:UInt8):Bool:=b==32||b==9||b==10||b==13
def gM (b:UInt8):Bool:=(decide (97<=b.toNat)&&decide (b.toNat<=122))||b==95
def aR (b:UInt8):Bool:=decide (48<=b.toNat)&&decide (b.toNat<=57)
def eL (b:UInt8):Bool:=gM b||aR b||(decide (65<=b.toNat)&&decide (b.toNat<=90))||b==39
def rem:List UInt8->Nat->Option Nat
 | [],_=>none
 | [_],_=>none
 | a::b::l,d=>
  if a=40/\b=42 then (rem l (d+1)).map (· +2)
  else if a=42/\b=41 then (if d=1 then some 2 else (rem l (d - 1)).map (· +2))
  else (rem (b::l) d).map (· +1)
def words:List (List UInt8):=[[108,101,116],[114,101,99],[105,110],[102,117,110],[105,102],[116,104,101,110],[101,108,115,101],[109,97,116,99,104],[119,105,116,104],[116,114,117,101],[102,97,108,115,101],[109,111,100]]
def sr (w:List UInt8):Nat:=if w=[95] then 8 else if words.contains w then 3 else 4
def ld (a:Nat) (c:UInt8):Nat:=a * 10+(c.toNat - 48)
def gB (acc:Nat) (l:List UInt8):Nat:=l.foldl ld acc
theorem rk (a:Nat):gB a []=a:=id rfl
theorem pF (a:Nat) (c:UInt8) (l:List UInt8):gB a (c::l)=gB (ld a c) l:=id rfl
def ng (c:UInt8):Bool:=c==43||c==45
def eY:List UInt8->Nat
 | c:: _=>if ng c then 1 else 0
 | []=>0
def jb (s:List UInt8):Nat×Int:=
 match s with
 | []=>(0,0)
 | e::l=>
  if e=101\/e=69 then
   let d:=wh aR (l.drop (eY l))
   if d=0 then (0,0)
   else
    let x:Int:=((min (gB 0 ((l.drop (eY l)).take d)) 1000000:Nat):Int)
    (1+eY l+d,if l.head?=some 45 then -x else x)
  else (0,0)
def number (s:List UInt8):Nat×Nat:=
 let n:=wh aR s
 if (s.drop n).head?=some 46 then
  let k:=wh aR (s.drop (n+1))
  let x:=jb (s.drop (n+1+k))
  (if n+k > 15\/x.2 - (k:Int) < -22\/x.2 - (k:Int) > 22 then 9 else 6,n+1+k+x.1)
 else (5,n)
def iu:List UInt8->Nat
 | []=>0
 | c::l=>if c=10 then 0 else if c=34 then 1 else iu l+1
def rH (c:UInt8):Bool:=c==110||c==116||c==92||c==34
def fj:List UInt8->Nat×Nat
 | []=>(9,0)
 | [c]=>if c=10 then (9,0) else if c=34 then (7,1) else (9,1)
 | c::d::l=>
  if c=10 then (9,0) else if c=34 then (7,1)
  else if c=92 then (if rH d then ((fj l).1,(fj l).2+2) else (9,iu (d::l)+1))
  else ((fj (d::l)).1,(fj (d::l)).2+1)
def jK:List (List UInt8):=[[45,62],[58,58],[60,62],[60,61],[62,61],[43,46],[45,46],[42,46],[47,46],[38,38],[124,124]]
def xx:List UInt8:=[40,41,91,93,44,59,124,61,60,62,43,45,42,47,94,64]
def jn (c:UInt8):Bool:=xx.contains c
def cut (s:List UInt8):Nat×Nat:=
 match s with
 | []=>(9,0)
 | c::l=>
  if ep c then (1,wh ep s)
  else if s.take 2=[40,42] then (match rem (s.drop 2) 1 with | some n=>(2,n+2) | none=>(9,s.length))
  else if gM c then (sr (s.takeWhile eL),wh eL s)
  else if aR c then number s
  else if c=34 then ((fj l).1,(fj l).2+1)
  else if jK.contains (s.take 2) then (8,2)
  else if jn c then (8,1)
  else (9,if lq s=0 then 1 else lq s)
def oe:Nat->List UInt8->List (Nat×List UInt8)
 | 0,_=>[]
 | n+1,s=>match s with
  | []=>[]
  | _:: _=>((cut s).1,s.take (cut s).2)::oe n (s.drop (cut s).2)
def tokens (s:List UInt8):List (Nat×List UInt8):=oe s.length s
theorem jY (p:UInt8->Bool) (s:List UInt8):wh p s<=s.length:=(List.takeWhile_sublist p).length_le
theorem qV (p:UInt8->Bool) (s:List UInt8):s.take (wh p s)=s.takeWhile p:=by
 unfold wh
 induction s with
 | nil=>rfl
 | cons c l ih=>
  rw [OH];split
  .simp [ih]
  .simp
theorem Fl (p:UInt8->Bool) (s:List UInt8):s.drop (wh p s)=s.dropWhile p:=by
 unfold wh
 induction s with
 | nil=>rfl
 | cons c l ih=>
  rw [OH,Pk];split
  .simp [ih]
  .simp
theorem Hx (p:UInt8->Bool) (s:List UInt8):s.length=wh p s+(s.dropWhile p).length:=by
 rw [<- Fl,N3];have:=jY p s;omega
theorem eX (p:UInt8->Bool) (c:UInt8) (l:List UInt8):wh p (c::l)=if p c=true then wh p l+1 else 0:=by
 unfold wh;rw [OH];split <;> simp
theorem wK: ∀(s:List UInt8) (d n:Nat),rem s d=some n->2<=n/\n<=s.length
 | [],_,_,h=>by simp [rem] at h
 | [_],_,_,h=>by simp [rem] at h
 | a::b::l,d,n,h=>by
  simp only [rem] at h;split at h
  .obtain ⟨m,c,rfl⟩:=OD.1 h;have:=wK l (d+1) m c;simp;omega
  .split at h
   .split at h
    .cases h;simp
    .obtain ⟨m,c,rfl⟩:=OD.1 h;have:=wK l (d - 1) m c;simp;omega
   .obtain ⟨m,c,rfl⟩:=OD.1 h;have:=wK (b::l) d m c;simp at this ⊢;omega
theorem vQ: ∀(s:List UInt8),iu s<=s.length
 | []=>NX _
 | c::l=>by
  have:=vQ l;simp only [iu];split
  .omega
  .split
   .simp
   .simp;exact this
theorem zS: ∀(s:List UInt8),(fj s).2<=s.length
 | []=>NX _
 | [c]=>by
  simp only [fj];split
  .simp
  .split <;> simp
 | c::d::l=>by
  have h1:=zS l;have a:=zS (d::l);have b:=vQ (d::l);simp only [fj,Om] at *;split
  .simp
  .split
   .simp
   .split
    .split
     .simp;omega
     .simp;omega
    .simp;omega
theorem Ao (l:List UInt8):eY l<=l.length:=by
 cases l with
 | nil=>exact NX _
 | cons c l=>simp only [eY];split <;> simp
theorem Gl (s:List UInt8):(jb s).1<=s.length:=by
 unfold jb;cases s with
 | nil=>simp
 | cons e l=>
  dsimp only;split
  .have a:=Ao l;have hd:=jY aR (l.drop (eY l));rw [N3] at hd;split
   .simp
   .simp only [Om];omega
  .simp
theorem vC (s:List UInt8) (h:1<=wh aR s):1<=(number s).2/\(number s).2<=s.length:=by
 unfold number;have h1:=jY aR s;dsimp only;split
 .rename_i hd;have a:wh aR s < s.length:=by
   rcases Nat.lt_or_ge (wh aR s) s.length with q | q
   .exact q
   .rw [List.drop_of_length_le q] at hd;cases hd
  have b:=jY aR (s.drop (wh aR s+1));rw [N3] at b;have c:=Gl (s.drop (wh aR s+1+wh aR (s.drop (wh aR s+1))));rw [N3] at c;dsimp only;omega
 .exact ⟨h,h1⟩
theorem qa {s:List UInt8} (h:s≠[]):1<=(cut s).2/\(cut s).2<=s.length:=by
 cases s with
 | nil=>exact absurd rfl h
 | cons c l=>
  unfold cut;dsimp only;split
  .rename_i a;exact ⟨by rw [eX,if_pos a];omega,jY _ _⟩
  split
  .rename_i b;have hl:2<=(c::l).length:=by
    have:=OC List.length b;rw [Oa] at this;simp at this;simp;omega
   cases f:rem (List.drop 2 (c::l)) 1 with
   | some n=>
    have:=wK _ _ _ f;rw [N3] at this;dsimp only;omega
   | none=>dsimp only;omega
  split
  .rename_i a;have e:eL c=true:=by unfold eL;rw [a];rfl
   exact ⟨by rw [eX,if_pos e];omega,jY _ _⟩
  split
  .rename_i a;exact vC _ (by rw [eX,if_pos a];omega)
  split
  .have:=zS l;simp;omega
  split
  .rename_i b;have hl:2<=(c::l).length:=by
    rcases Nat.lt_or_ge (c::l).length 2 with q | q
    .exfalso;have:l=[]:=by
      cases l with
      | nil=>rfl
      | cons d l=>simp at q;omega
     subst this;simp [jK] at b
    .exact q
   dsimp only;omega
  split
  .simp
  .have:=DQ (l:=c::l) (by simp);dsimp only;split
   .simp
   .omega
theorem uT: ∀(n m:Nat) (s:List UInt8),s.length<=n->s.length<=m->oe n s=oe m s
 | 0,0,_,_,_=>rfl
 | 0,m+1,s,h,_=>by
  have:s=[]:=Oo (by omega);subst this;rfl
 | n+1,0,s,_,h=>by
  have:s=[]:=Oo (by omega);subst this;rfl
 | n+1,m+1,[],_,_=>rfl
 | n+1,m+1,c::l,a,b=>by
  have d:=qa (s:=c::l) (by simp);simp only [oe];rw [uT n m ((c::l).drop (cut (c::l)).2) (by rw [N3];omega) (by rw [N3];omega)]
theorem qf {s:List UInt8} (h:s≠[]):tokens s=((cut s).1,s.take (cut s).2)::tokens (s.drop (cut s).2):=by
 cases s with
 | nil=>exact absurd rfl h
 | cons c l=>
  have a:=qa (s:=c::l) (by simp);show oe (l.length+1) (c::l)= _;simp only [oe];congr 1;exact uT _ _ _ (by rw [N3];simp at a ⊢;omega) (NX _)
theorem sy:tokens []=[]:=rfl
end Go.Lex
namespace Go.Parse
open Go.VM Go.Lex
abbrev bo:=Nat×List UInt8
inductive T where
 | mk (k tk:Nat) (tx:List UInt8) (kids:List T)
 deriving Inhabited
def bP (t:bo):Bool:=t.1==1||t.1==2
def nx (r:List bo):bo:=
 match r.dropWhile bP with
 | []=>(0,[])
 | t:: _=>t
def leaf (t:bo) (a:List T):T:= .mk 1 t.1 t.2 a
def BA (t:bo):T:=leaf t []
def aO (r:List bo):T:=leaf (nx r) ((r.takeWhile bP).map BA)
def aT (r:List bo):List bo:=(r.dropWhile bP).drop 1
def bY (s:List UInt8) (r:List bo):Bool:=((nx r).1==3||(nx r).1==8)&&(nx r).2==s
def isAny (l:List (List UInt8)) (r:List bo):Bool:=((nx r).1==3||(nx r).1==8)&&l.any fun s=>s==(nx r).2
def missing (s:List UInt8):T:= .mk 2 0 s []
def du (s:List UInt8) (r:List bo):T:=if bY s r then aO r else missing s
def bL (s:List UInt8) (r:List bo):List bo:=if bY s r then aT r else r
abbrev node (k:Nat) (l:List T):T:= .mk k 0 [] l
def ku:List UInt8:=[108,101,116]
def fw:List UInt8:=[114,101,99]
def JM:List UInt8:=[105,110]
def HF:List UInt8:=[102,117,110]
def L4:List UInt8:=[105,102]
def rp:List UInt8:=[116,104,101,110]
def r6:List UInt8:=[101,108,115,101]
def zy:List UInt8:=[109,97,116,99,104]
def cR:List UInt8:=[119,105,116,104]
def fQ:List UInt8:=[116,114,117,101]
def eH:List UInt8:=[102,97,108,115,101]
def lu:List UInt8:=[101,120,112,114]
def iR:List UInt8:=[112,97,116,116,101,114,110]
def xj:List UInt8:=[61]
def fu:List UInt8:=[45,62]
def jD:List UInt8:=[124]
def uS:List UInt8:=[58,58]
def cZ:List UInt8:=[40]
def HU:List UInt8:=[41]
def ck:List UInt8:=[91]
def Gi:List UInt8:=[93]
def JG:List UInt8:=[44]
def Kf:List UInt8:=[59]
def mL:List UInt8:=[95]
def opsOf:Nat->List (List UInt8)
 | 0=>[[124,124]]
 | 1=>[[38,38]]
 | 2=>[[61],[60,62],[60],[60,61],[62],[62,61]]
 | 3=>[[64],[94]]
 | 4=>[[58,58]]
 | 5=>[[43],[45],[43,46],[45,46]]
 | _=>[[42],[47],[42,46],[47,46],[109,111,100]]
def leftOf (k:Nat):Bool:=k==2||k==5||k==6
def cj (pat:Bool) (r:List bo):Bool:=
 (nx r).1==4||(nx r).1==5||(nx r).1==7||(nx r).1==9||(nx r).1==(if pat then 5 else 6)||isAny [fQ,eH,cZ,ck,if pat then mL else cZ] r
inductive pc where
 | expr
 | whole
 | level (k:Nat)
 | ops (k:Nat) (acc:T)
 | neg
 | args (acc:T)
 | atom (pat:Bool)
 | closed (list pat:Bool)
 | items (list pat:Bool)
 | pattern
 | binding
 | params
 | arm
 | arms
def mR (what:List UInt8) (r:List bo):T:=if (nx r).1=0 then missing what else node 3 [aO r]
def lA (r:List bo):List bo:=if (nx r).1=0 then r else aT r
def kindOf:Bool->Bool->Nat
 | false,false=>14
 | true,false=>15
 | false,true=>17
 | true,true=>18
def oE (list:Bool):List UInt8:=if list then Kf else JG
def gn (list:Bool):List UInt8:=if list then Gi else HU
abbrev R:=Option (List T×List bo)
def P:Nat->pc->Nat->List bo->R
 | 0,_,_,_=>none
 | n+1,.expr,d,r=>if d=64 then some ([mR lu r],lA r) else P n .whole (d+1) r
 | n+1,.whole,d,r=>
  if bY ku r then do
   let (bs,f) <- P n .binding d (aT r)
   let (es,g) <- P n .expr d (bL JM f)
   some ([node 6 (aO r::bs++[du JM f]++es)],g)
  else if bY HF r then do
   let (a,e) <- P n (.atom true) d (aT r)
   let (ps,f) <- P n .params d e
   let (es,g) <- P n .expr d (bL fu f)
   some ([node 7 (aO r::a++ps++[du fu f]++es)],g)
  else if bY L4 r then do
   let (a,e) <- P n .expr d (aT r)
   let (b,f) <- P n .expr d (bL rp e)
   let (c,g) <- P n .expr d (bL r6 f)
   some ([node 8 (aO r::a++[du rp e]++b++[du r6 f]++c)],g)
  else if bY zy r then do
   let (a,e) <- P n .expr d (aT r)
   let f:=bL cR e
   let h:=if bY jD f then [aO f] else []
   let (b,g) <- P n .arm d (if bY jD f then aT f else f)
   let (cs,i) <- P n .arms d g
   some ([node 9 (aO r::a++[du cR e]++h++b++cs)],i)
  else P n (.level 0) d r
 | n+1,.level k,d,r=>
  if k=7 then P n .neg d r
  else do
   let (a,e) <- P n (.level (k+1)) d r
   match a with
   | [t]=>P n (.ops k t) d e
   | _=>none
 | n+1,.ops k acc,d,r=>
  if isAny (opsOf k) r then do
   let (b,e) <- P n (.level (if leftOf k then k+1 else k)) d (aT r)
   P n (.ops k (node 11 (acc::aO r::b))) d e
  else some ([acc],r)
 | n+1,.neg,d,r=>
  if isAny [[45],[45,46]] r then
   if d=64 then some ([node 12 [aO r,mR lu (aT r)]],lA (aT r))
   else do
    let (a,e) <- P n .neg (d+1) (aT r)
    some ([node 12 (aO r::a)],e)
  else do
   let (a,e) <- P n (.atom false) d r
   match a with
   | [t]=>P n (.args t) d e
   | _=>none
 | n+1,.args acc,d,r=>
  if cj false r then do
   let (b,e) <- P n (.atom false) d r
   P n (.args (node 13 (acc::b))) d e
  else some ([acc],r)
 | n+1,.atom pat,d,r=>
  if cj pat r then
   if (nx r).1=9 then some ([node 3 [aO r]],aT r)
   else if bY cZ r then P n (.closed false pat) d r
   else if bY ck r then P n (.closed true pat) d r
   else some ([aO r],aT r)
  else some ([missing (if pat then iR else lu)],r)
 | n+1,.closed list pat,d,r=>
  let e:=aT r
  if bY (gn list) e then some ([node (kindOf list pat) [aO r,aO e]],aT e)
  else do
   let (a,f) <- P n (if pat then .pattern else .expr) d e
   let (bs,g) <- P n (.items list pat) d f
   some ([node (kindOf list pat) (aO r::a++bs++[du (gn list) g])],bL (gn list) g)
 | n+1,.items list pat,d,r=>
  if bY (oE list) r then do
   let (a,e) <- P n (if pat then .pattern else .expr) d (aT r)
   let (bs,f) <- P n (.items list pat) d e
   some (aO r::a++bs,f)
  else some ([],r)
 | n+1,.pattern,d,r=>
  if d=64 then some ([mR iR r],lA r)
  else do
   let (a,e) <- P n (.atom true) (d+1) r
   if bY uS e then do
    let (b,f) <- P n .pattern (d+1) (aT e)
    some ([node 16 (a++aO e::b)],f)
   else some (a,e)
 | n+1,.binding,d,r=>do
  let rc:=if bY fw r then [aO r] else []
  let r0:=if bY fw r then aT r else r
  let (xs,e) <- if (nx r0).1=4 then (do
    let (ps,e) <- P n .params d (aT r0)
    some (aO r0::ps,e))
   else P n (.atom true) d r0
  let (es,f) <- P n .expr d (bL xj e)
  some (rc++xs++[du xj e]++es,f)
 | n+1,.params,d,r=>
  if cj true r then do
   let (a,e) <- P n (.atom true) d r
   let (bs,f) <- P n .params d e
   some (a++bs,f)
  else some ([],r)
 | n+1,.arm,d,r=>do
  let (a,e) <- P n .pattern d r
  let (es,f) <- P n .expr d (bL fu e)
  some ([node 10 (a++[du fu e]++es)],f)
 | n+1,.arms,d,r=>
  if bY jD r then do
   let (a,e) <- P n .arm d (aT r)
   let (bs,f) <- P n .arms d e
   some (aO r::a++bs,f)
  else some ([],r)
def skip:Nat->List bo->List T×List bo
 | 0,r=>([],r)
 | n+1,r=>if (nx r).1≠0/\bY ku r=false then ((aO r::(skip n (aT r)).1),(skip n (aT r)).2) else ([],r)
def decls:Nat->List bo->Option (List T)
 | 0,_=>none
 | n+1,r=>
  if (nx r).1=0 then some [aO r]
  else if bY ku r then do
   let (bs,a) <- P n .binding 0 (aT r)
   let l <- decls n a
   some (node 5 (aO r::bs)::l)
  else do
   let l <- decls n (skip r.length r).2
   some (node 3 (skip r.length r).1::l)
def fuel (r:List bo):Nat:=30 * (r.length+2)
def doc (r:List bo):T:=node 4 ((decls (fuel r) r).getD [])
theorem xU (r:List bo):(r.dropWhile bP).length<=r.length:=(PN _).length_le
theorem fA (r:List bo):(aT r).length<=r.length:=by
 unfold aT;rw [N3];have:=xU r;omega
theorem dI {r:List bo} (h:(nx r).1≠0):(aT r).length < r.length:=by
 unfold aT;rw [N3];have:=xU r;unfold nx at h;cases hd:r.dropWhile bP with
 | nil=>rw [hd] at h;exact absurd rfl h
 | cons t l=>rw [hd] at this;simp at this ⊢;omega
theorem nk {s:List UInt8} {r:List bo} (h:bY s r=true):(nx r).1≠0:=by
 intro e;simp [bY,e] at h
theorem zg {l:List (List UInt8)} {r:List bo} (h:isAny l r=true):(nx r).1≠0:=by
 intro e;simp [isAny,e] at h
theorem CU {pat:Bool} {r:List bo} (h:cj pat r=true):(nx r).1≠0:=by
 intro e;cases pat <;> simp [cj,isAny,e] at h
theorem gh (s:List UInt8) (r:List bo):(bL s r).length<=r.length:=by
 unfold bL;split
 .exact fA r
 .exact NX _
theorem rO (r:List bo):(lA r).length<=r.length:=by
 unfold lA;split
 .exact NX _
 .exact fA r
def dc:pc->Nat
 | .expr=>13
 | .whole=>12
 | .level k=>11 - k
 | .ops _ _=>0
 | .neg=>3
 | .args _=>2
 | .atom _=>1
 | .closed _ _=>0
 | .items _ _=>0
 | .pattern=>13
 | .binding=>14
 | .params=>2
 | .arm=>14
 | .arms=>0
def E3:pc->Prop
 | .level k=>k<=7
 | .ops k _=>k<=6
 | _=>True
def single:pc->Bool
 | .items _ _=>false
 | .binding=>false
 | .params=>false
 | .arms=>false
 | _=>true
def HR:pc->List bo->Prop
 | .atom pat,r=>cj pat r=true
 | .closed _ _,r=>(nx r).1≠0
 | _,_=>False
def at':pc->List bo->Prop
 | .closed _ _,r=>(nx r).1≠0
 | _,_=>True
structure Jv (job:pc) (r:List bo) (x:R):Prop where
 some: ∃l r',x=some (l,r')/\r'.length<=r.length/\(single job=true-> ∃t,l=[t])/\(HR job r->r'.length < r.length)
theorem bK {job:pc} {r r':List bo} {l:List T} {x:R} (h:x= .some (l,r')) (h1:r'.length<=r.length) (a:single job=true-> ∃t,l=[t]) (b:HR job r->r'.length < r.length):Jv job r x:=⟨⟨l,r',h,h1,a,b⟩⟩
theorem KA: ∀(N:Nat) (job:pc) (d:Nat) (r:List bo),E3 job->at' job r->16 * r.length+dc job < N->Jv job r (P N job d r):=by
 intro N
 induction N with
 | zero=>intro job d r _ _ h;omega
 | succ n ih=>
  intro job d r ho G h;have one: ∀{job:pc} {d:Nat} {r:List bo},E3 job->at' job r->16 * r.length+dc job < n->single job=true-> ∃t r',P n job d r=some ([t],r')/\r'.length<=r.length/\(HR job r->r'.length < r.length):=by
   intro job d r h1 w x h4;obtain ⟨l,r',e,o,p,A⟩:=(ih job d r h1 w x).some;obtain ⟨t,rfl⟩:=p h4;exact ⟨t,r',e,o,A⟩
  have many: ∀{job:pc} {d:Nat} {r:List bo},E3 job->at' job r->16 * r.length+dc job < n-> ∃l r',P n job d r=some (l,r')/\r'.length<=r.length:=by
   intro job d r h1 w x;obtain ⟨l,r',e,o,_,_⟩:=(ih job d r h1 w x).some;exact ⟨l,r',e,o⟩
  cases job with
  | expr=>
   simp only [P];by_cases hd:d=64
   .rw [if_pos hd];exact bK rfl (rO r) (fun _=>⟨_,rfl⟩) (fun f=>f.elim)
   .rw [if_neg hd];simp only [dc] at h;obtain ⟨t,r',e,o,_⟩:=one (job:= .whole) (d:=d+1) (r:=r) trivial trivial (by simp only [dc];omega) rfl;exact bK e o (fun _=>⟨_,rfl⟩) (fun f=>f.elim)
  | whole=>
   simp only [dc] at h;simp only [P];by_cases h1:bY ku r=true
   .rw [if_pos h1];have q:=dI (nk h1);obtain ⟨bs,j,m,p⟩:=many (job:= .binding) (d:=d) (r:=aT r) trivial trivial (by simp only [dc];omega);have B:=gh JM j;obtain ⟨t,v,y,A,_⟩:=one (job:= .expr) (d:=d) (r:=bL JM j) trivial trivial (by simp only [dc];omega) rfl;refine bK (l:=[node 6 (aO r::bs++[du JM j]++[t])]) (r':=v) ?_ (by omega) (fun _=>⟨_,rfl⟩) (fun f=>f.elim);simp only [m,y,bind,Option.bind]
   rw [if_neg h1];by_cases w:bY HF r=true
   .rw [if_pos w];have q:=dI (nk w);obtain ⟨a,g,i,o,_⟩:=one (job:= .atom true) (d:=d) (r:=aT r) trivial trivial (by simp only [dc];omega) rfl;obtain ⟨ps,j,m,p⟩:=many (job:= .params) (d:=d) (r:=g) trivial trivial (by simp only [dc];omega);have B:=gh fu j;obtain ⟨t,v,y,A,_⟩:=one (job:= .expr) (d:=d) (r:=bL fu j) trivial trivial (by simp only [dc];omega) rfl;refine bK (l:=[node 7 (aO r::[a]++ps++[du fu j]++[t])]) (r':=v) ?_ (by omega) (fun _=>⟨_,rfl⟩) (fun f=>f.elim);simp only [i,m,y,bind,Option.bind]
   rw [if_neg w];by_cases x:bY L4 r=true
   .rw [if_pos x];have q:=dI (nk x);obtain ⟨a,g,i,o,_⟩:=one (job:= .expr) (d:=d) (r:=aT r) trivial trivial (by simp only [dc];omega) rfl;have C:=gh rp g;obtain ⟨b,j,m,p,_⟩:=one (job:= .expr) (d:=d) (r:=bL rp g) trivial trivial (by simp only [dc];omega) rfl;have H:=gh r6 j;obtain ⟨c,v,y,A,_⟩:=one (job:= .expr) (d:=d) (r:=bL r6 j) trivial trivial (by simp only [dc];omega) rfl;refine bK (l:=[node 8 (aO r::[a]++[du rp g]++[b]++[du r6 j]++[c])]) (r':=v) ?_ (by omega) (fun _=>⟨_,rfl⟩) (fun f=>f.elim);simp only [i,m,y,bind,Option.bind]
   rw [if_neg x];by_cases h4:bY zy r=true
   .rw [if_pos h4];have q:=dI (nk h4);obtain ⟨a,g,i,o,_⟩:=one (job:= .expr) (d:=d) (r:=aT r) trivial trivial (by simp only [dc];omega) rfl;have C:=gh cR g;have J:(if bY jD (bL cR g) then aT (bL cR g) else bL cR g).length<=g.length:=by
     split
     .have:=fA (bL cR g);omega
     .exact C
    obtain ⟨b,v,m,p,_⟩:=one (job:= .arm) (d:=d) (r:=if bY jD (bL cR g) then aT (bL cR g) else bL cR g) trivial trivial (by simp only [dc];omega) rfl;obtain ⟨cs,I,y,A⟩:=many (job:= .arms) (d:=d) (r:=v) trivial trivial (by simp only [dc];omega);refine bK (l:=[node 9 (aO r::[a]++[du cR g]++(if bY jD (bL cR g) then [aO (bL cR g)] else [])++[b]++cs)]) (r':=I) ?_ (by omega) (fun _=>⟨_,rfl⟩) (fun f=>f.elim);simp only [i,m,y,bind,Option.bind]
   rw [if_neg h4];obtain ⟨t,r',e,o,_⟩:=one (job:= .level 0) (d:=d) (r:=r) (O4 _) trivial (by simp only [dc];omega) rfl;exact bK e o (fun _=>⟨_,rfl⟩) (fun f=>f.elim)
  | level k=>
   have D:k<=7:=ho;simp only [dc] at h;simp only [P];by_cases E:k=7
   .rw [if_pos E];obtain ⟨t,r',e,o,_⟩:=one (job:= .neg) (d:=d) (r:=r) trivial trivial (by simp only [dc];omega) rfl;exact bK e o (fun _=>⟨_,rfl⟩) (fun f=>f.elim)
   .rw [if_neg E];obtain ⟨t,g,i,o,_⟩:=one (job:= .level (k+1)) (d:=d) (r:=r) (show k+1<=7 by omega) trivial (by simp only [dc];omega) rfl;obtain ⟨u,j,m,p,_⟩:=one (job:= .ops k t) (d:=d) (r:=g) (show k<=6 by omega) trivial (by simp only [dc];omega) rfl;refine bK (l:=[u]) (r':=j) ?_ (by omega) (fun _=>⟨_,rfl⟩) (fun f=>f.elim);simp only [i,m,bind,Option.bind]
  | ops k acc=>
   have D:k<=6:=ho;simp only [dc] at h;simp only [P];by_cases h1:isAny (opsOf k) r=true
   .rw [if_pos h1];have q:=dI (zg h1);obtain ⟨b,g,i,o,_⟩:=one (job:= .level (if leftOf k then k+1 else k)) (d:=d) (r:=aT r) (show (if leftOf k then k+1 else k)<=7 by split <;> omega) trivial (by simp only [dc];omega) rfl;obtain ⟨u,j,m,p,_⟩:=one (job:= .ops k (node 11 [acc,aO r,b])) (d:=d) (r:=g) D trivial (by simp only [dc];omega) rfl;refine bK (l:=[u]) (r':=j) ?_ (by omega) (fun _=>⟨_,rfl⟩) (fun f=>f.elim);simp only [i,m,bind,Option.bind]
   .rw [if_neg h1];exact bK rfl (NX _) (fun _=>⟨_,rfl⟩) (fun f=>f.elim)
  | neg=>
   simp only [dc] at h;simp only [P];by_cases h1:isAny [[45],[45,46]] r=true
   .rw [if_pos h1];have q:=dI (zg h1);by_cases hd:d=64
    .rw [if_pos hd];have:=rO (aT r);exact bK rfl (by omega) (fun _=>⟨_,rfl⟩) (fun f=>f.elim)
    .rw [if_neg hd];obtain ⟨a,g,i,o,_⟩:=one (job:= .neg) (d:=d+1) (r:=aT r) trivial trivial (by simp only [dc];omega) rfl;refine bK (l:=[node 12 [aO r,a]]) (r':=g) ?_ (by omega) (fun _=>⟨_,rfl⟩) (fun f=>f.elim);simp only [i,bind,Option.bind]
   .rw [if_neg h1];obtain ⟨t,g,i,o,_⟩:=one (job:= .atom false) (d:=d) (r:=r) trivial trivial (by simp only [dc];omega) rfl;obtain ⟨u,j,m,p,_⟩:=one (job:= .args t) (d:=d) (r:=g) trivial trivial (by simp only [dc];omega) rfl;refine bK (l:=[u]) (r':=j) ?_ (by omega) (fun _=>⟨_,rfl⟩) (fun f=>f.elim);simp only [i,m,bind,Option.bind]
  | args acc=>
   simp only [dc] at h;simp only [P];by_cases h1:cj false r=true
   .rw [if_pos h1];obtain ⟨t,g,i,o,z⟩:=one (job:= .atom false) (d:=d) (r:=r) trivial trivial (by simp only [dc];omega) rfl;have q:=z h1;obtain ⟨u,j,m,p,_⟩:=one (job:= .args (node 13 [acc,t])) (d:=d) (r:=g) trivial trivial (by simp only [dc];omega) rfl;refine bK (l:=[u]) (r':=j) ?_ (by omega) (fun _=>⟨_,rfl⟩) (fun f=>f.elim);simp only [i,m,bind,Option.bind]
   .rw [if_neg h1];exact bK rfl (NX _) (fun _=>⟨_,rfl⟩) (fun f=>f.elim)
  | atom pat=>
   simp only [dc] at h;simp only [P];by_cases h1:cj pat r=true
   .rw [if_pos h1];have s:=CU h1;have q:=dI s;by_cases F:(nx r).1=9
    .rw [if_pos F];exact bK rfl (by omega) (fun _=>⟨_,rfl⟩) (fun _=>q)
    rw [if_neg F];by_cases w:bY cZ r=true
    .rw [if_pos w];obtain ⟨t,g,i,o,z⟩:=one (job:= .closed false pat) (d:=d) (r:=r) trivial s (by simp only [dc];omega) rfl;exact bK i o (fun _=>⟨_,rfl⟩) (fun _=>z s)
    rw [if_neg w];by_cases x:bY ck r=true
    .rw [if_pos x];obtain ⟨t,g,i,o,z⟩:=one (job:= .closed true pat) (d:=d) (r:=r) trivial s (by simp only [dc];omega) rfl;exact bK i o (fun _=>⟨_,rfl⟩) (fun _=>z s)
    rw [if_neg x];exact bK rfl (by omega) (fun _=>⟨_,rfl⟩) (fun _=>q)
   .rw [if_neg h1];exact bK rfl (NX _) (fun _=>⟨_,rfl⟩) (fun f=>absurd f h1)
  | closed list pat=>
   have s:(nx r).1≠0:=G;have q:=dI s;simp only [dc] at h;simp only [P];by_cases h1:bY (gn list) (aT r)=true
   .rw [if_pos h1];have:=fA (aT r);exact bK rfl (by omega) (fun _=>⟨_,rfl⟩) (fun _=>by omega)
   .rw [if_neg h1];obtain ⟨t,j,i,o,_⟩:=one (job:=if pat then .pattern else .expr) (d:=d) (r:=aT r) (by cases pat <;> trivial) (by cases pat <;> trivial) (by cases pat <;> simp only [dc,if_true,Oi,if_false] <;> omega) (by cases pat <;> rfl);obtain ⟨bs,v,m,p⟩:=many (job:= .items list pat) (d:=d) (r:=j) trivial trivial (by simp only [dc];omega);have B:=gh (gn list) v;refine bK (l:=[node (kindOf list pat) (aO r::[t]++bs++[du (gn list) v])]) (r':=bL (gn list) v) ?_ (by omega) (fun _=>⟨_,rfl⟩) (fun _=>by omega);simp only [i,m,bind,Option.bind]
  | items list pat=>
   simp only [dc] at h;simp only [P];by_cases h1:bY (oE list) r=true
   .rw [if_pos h1];have q:=dI (nk h1);obtain ⟨t,j,i,o,_⟩:=one (job:=if pat then .pattern else .expr) (d:=d) (r:=aT r) (by cases pat <;> trivial) (by cases pat <;> trivial) (by cases pat <;> simp only [dc,if_true,Oi,if_false] <;> omega) (by cases pat <;> rfl);obtain ⟨bs,v,m,p⟩:=many (job:= .items list pat) (d:=d) (r:=j) trivial trivial (by simp only [dc];omega);refine bK (l:=aO r::[t]++bs) (r':=v) ?_ (by omega) (fun f=>by cases f) (fun f=>f.elim);simp only [i,m,bind,Option.bind]
   .rw [if_neg h1];exact bK rfl (NX _) (fun f=>by cases f) (fun f=>f.elim)
  | pattern=>
   simp only [dc] at h;simp only [P];by_cases hd:d=64
   .rw [if_pos hd];exact bK rfl (rO r) (fun _=>⟨_,rfl⟩) (fun f=>f.elim)
   .rw [if_neg hd];obtain ⟨a,g,i,o,_⟩:=one (job:= .atom true) (d:=d+1) (r:=r) trivial trivial (by simp only [dc];omega) rfl;by_cases h1:bY uS g=true
    .have q:=dI (nk h1);obtain ⟨b,j,m,p,_⟩:=one (job:= .pattern) (d:=d+1) (r:=aT g) trivial trivial (by simp only [dc];omega) rfl;refine bK (l:=[node 16 ([a]++aO g::[b])]) (r':=j) ?_ (by omega) (fun _=>⟨_,rfl⟩) (fun f=>f.elim);simp only [i,m,bind,Option.bind,if_pos h1]
    .refine bK (l:=[a]) (r':=g) ?_ (by omega) (fun _=>⟨_,rfl⟩) (fun f=>f.elim);simp only [i,bind,Option.bind,if_neg h1]
  | binding=>
   simp only [dc] at h;simp only [P];have h0:(if bY fw r then aT r else r).length<=r.length:=by
    split
    .exact fA r
    .exact NX _
   generalize (if bY fw r then aT r else r)=r0 at h0;by_cases h4:(nx r0).1=4
   .have q:=dI (show (nx r0).1≠0 by omega);obtain ⟨ps,g,i,o⟩:=many (job:= .params) (d:=d) (r:=aT r0) trivial trivial (by simp only [dc];omega);have B:=gh xj g;obtain ⟨t,j,m,p,_⟩:=one (job:= .expr) (d:=d) (r:=bL xj g) trivial trivial (by simp only [dc];omega) rfl;refine bK (l:=(if bY fw r then [aO r] else [])++(aO r0::ps)++[du xj g]++[t]) (r':=j) ?_ (by omega) (fun f=>by cases f) (fun f=>f.elim);simp only [if_pos h4,i,m,bind,Option.bind]
   .obtain ⟨a,g,i,o,_⟩:=one (job:= .atom true) (d:=d) (r:=r0) trivial trivial (by simp only [dc];omega) rfl;have B:=gh xj g;obtain ⟨t,j,m,p,_⟩:=one (job:= .expr) (d:=d) (r:=bL xj g) trivial trivial (by simp only [dc];omega) rfl;refine bK (l:=(if bY fw r then [aO r] else [])++[a]++[du xj g]++[t]) (r':=j) ?_ (by omega) (fun f=>by cases f) (fun f=>f.elim);simp only [if_neg h4,i,m,bind,Option.bind]
  | params=>
   simp only [dc] at h;simp only [P];by_cases h1:cj true r=true
   .rw [if_pos h1];obtain ⟨t,g,i,o,z⟩:=one (job:= .atom true) (d:=d) (r:=r) trivial trivial (by simp only [dc];omega) rfl;have q:=z h1;obtain ⟨bs,j,m,p⟩:=many (job:= .params) (d:=d) (r:=g) trivial trivial (by simp only [dc];omega);refine bK (l:=[t]++bs) (r':=j) ?_ (by omega) (fun f=>by cases f) (fun f=>f.elim);simp only [i,m,bind,Option.bind]
   .rw [if_neg h1];exact bK rfl (NX _) (fun f=>by cases f) (fun f=>f.elim)
  | arm=>
   simp only [dc] at h;simp only [P];obtain ⟨a,g,i,o,_⟩:=one (job:= .pattern) (d:=d) (r:=r) trivial trivial (by simp only [dc];omega) rfl;have B:=gh fu g;obtain ⟨t,j,m,p,_⟩:=one (job:= .expr) (d:=d) (r:=bL fu g) trivial trivial (by simp only [dc];omega) rfl;refine bK (l:=[node 10 ([a]++[du fu g]++[t])]) (r':=j) ?_ (by omega) (fun _=>⟨_,rfl⟩) (fun f=>f.elim);simp only [i,m,bind,Option.bind]
  | arms=>
   simp only [dc] at h;simp only [P];by_cases h1:bY jD r=true
   .rw [if_pos h1];have q:=dI (nk h1);obtain ⟨t,g,i,o,_⟩:=one (job:= .arm) (d:=d) (r:=aT r) trivial trivial (by simp only [dc];omega) rfl;obtain ⟨bs,j,m,p⟩:=many (job:= .arms) (d:=d) (r:=g) trivial trivial (by simp only [dc];omega);refine bK (l:=aO r::[t]++bs) (r':=j) ?_ (by omega) (fun f=>by cases f) (fun f=>f.elim);simp only [i,m,bind,Option.bind]
   .rw [if_neg h1];exact bK rfl (NX _) (fun f=>by cases f) (fun f=>f.elim)
theorem qX: ∀(n:Nat) (r:List bo),(skip n r).2.length<=r.length
 | 0,_=>NX _
 | n+1,r=>by
  simp only [skip];split
  .have:=qX n (aT r);have:=fA r;simp only;omega
  .exact NX _
theorem Fj {r:List bo} (h0:(nx r).1≠0) (h1:bY ku r=false):(skip r.length r).2.length < r.length:=by
 have b:=dI h0;obtain ⟨n,a⟩: ∃n,r.length=n+1:=⟨r.length - 1,by omega⟩;rw [a];simp only [skip,if_pos (And.intro h0 h1)];have:=qX n (aT r);omega
theorem Cz: ∀(N:Nat) (r:List bo),17 * r.length+16 < N-> ∃l,decls N r=some l:=by
 intro N
 induction N with
 | zero=>intro r h;omega
 | succ n ih=>
  intro r h;simp only [decls];by_cases h0:(nx r).1=0
  .rw [if_pos h0];exact ⟨_,rfl⟩
  rw [if_neg h0];by_cases h1:bY ku r=true
  .rw [if_pos h1];have b:=dI h0;obtain ⟨bs,c,d,e,_,_⟩:=(KA n .binding 0 (aT r) trivial trivial (by simp only [dc];omega)).some;obtain ⟨l,a⟩:=ih c (by omega);exact ⟨node 5 (aO r::bs)::l,by simp only [d,a,bind,Option.bind]⟩
  .rw [if_neg h1];have b:=Fj h0 (by simpa using h1);obtain ⟨l,a⟩:=ih (skip r.length r).2 (by omega);exact ⟨node 3 (skip r.length r).1::l,by simp only [a,bind,Option.bind]⟩
theorem Bz (r:List bo): ∃l,decls (fuel r) r=some l/\doc r=node 4 l:=by
 obtain ⟨l,e⟩:=Cz (fuel r) r (by unfold fuel;omega);exact ⟨l,e,by unfold doc;rw [e];rfl⟩
end Go.Parse
namespace Go.Lex
open Go.VM
def Bd (s:List UInt8) (n:Nat):Prop:=n=0\/(s.getD n 0).toNat < 128\/(s.getD (n - 1) 0).toNat < 128
theorem ml (r:List UInt8): ∀s:List UInt8,iu (s++10::r)=iu s
 | []=>by
  show iu (10::r)=0;simp [iu]
 | c::l=>by
  show iu (c::(l++10::r))= _;simp only [iu,ml r l]
def behind (s:List UInt8):Nat->List UInt8
 | 0=>s
 | n+1=>(behind s n).drop (cut (behind s n)).2
def keeps:Nat->List (Nat×List UInt8)->Nat
 | _,[]=>0
 | r,p::l=>if p.2.length+2 < r then keeps (r - p.2.length) l+1 else 0
def alike:List (Nat×List UInt8)->List (Nat×List UInt8)->Nat
 | a::l,b::m=>if a=b then alike l m+1 else 0
 | _,_=>0
end Go.Lex
namespace Go.Parse
open Go.VM Go.Lex
theorem bind_some {α β:Type} {x:Option α} {f:α->Option β} {b:β} (h:(x >>= f)=some b): ∃a,x=some a/\f a=some b:=by
 cases x with
 | none=>cases h
 | some a=>exact ⟨a,rfl,h⟩
theorem Hk {Q:List bo->Prop} (g: ∀r,Q r->Q (aT r)): ∀(N:Nat) (job:pc) (d:Nat) (r:List bo) (l:List T) (r':List bo),P N job d r=some (l,r')->Q r->Q r':=by
 have m: ∀s r,Q r->Q (bL s r):=fun s r h=>by
  unfold bL;split
  .exact g r h
  .exact h
 have hd: ∀r,Q r->Q (lA r):=fun r h=>by
  unfold lA;split
  .exact h
  .exact g r h
 intro N
 induction N with
 | zero=>intro job d r l r' h;cases h
 | succ n ih=>
  intro job d r l r' h q;cases job with
  | expr=>
   simp only [P] at h;split at h
   .cases h;exact hd _ q
   .exact ih _ _ _ _ _ h q
  | whole=>
   simp only [P] at h;split at h
   .obtain ⟨⟨bs,j⟩,e,h⟩:=bind_some h;obtain ⟨⟨es,p⟩,f,h⟩:=bind_some h;cases h;exact ih _ _ _ _ _ f (m _ _ (ih _ _ _ _ _ e (g _ q)))
   split at h
   .obtain ⟨⟨a,i⟩,e,h⟩:=bind_some h;obtain ⟨⟨ps,j⟩,f,h⟩:=bind_some h;obtain ⟨⟨es,p⟩,o,h⟩:=bind_some h;cases h;exact ih _ _ _ _ _ o (m _ _ (ih _ _ _ _ _ f (ih _ _ _ _ _ e (g _ q))))
   split at h
   .obtain ⟨⟨a,i⟩,e,h⟩:=bind_some h;obtain ⟨⟨b,j⟩,f,h⟩:=bind_some h;obtain ⟨⟨c,p⟩,o,h⟩:=bind_some h;cases h;exact ih _ _ _ _ _ o (m _ _ (ih _ _ _ _ _ f (m _ _ (ih _ _ _ _ _ e (g _ q)))))
   split at h
   .obtain ⟨⟨a,i⟩,e,h⟩:=bind_some h;obtain ⟨⟨b,p⟩,f,h⟩:=bind_some h;obtain ⟨⟨cs,v⟩,o,h⟩:=bind_some h;cases h;have t:=m cR _ (ih _ _ _ _ _ e (g _ q));refine ih _ _ _ _ _ o (ih _ _ _ _ _ f ?_);dsimp only;split
    .exact g _ t
    .exact t
   .exact ih _ _ _ _ _ h q
  | level k=>
   simp only [P] at h;split at h
   .exact ih _ _ _ _ _ h q
   .obtain ⟨⟨a,i⟩,e,h⟩:=bind_some h;dsimp only at h;split at h
    .exact ih _ _ _ _ _ h (ih _ _ _ _ _ e q)
    .cases h
  | ops k acc=>
   simp only [P] at h;split at h
   .obtain ⟨⟨b,i⟩,e,h⟩:=bind_some h;exact ih _ _ _ _ _ h (ih _ _ _ _ _ e (g _ q))
   .cases h;exact q
  | neg=>
   simp only [P] at h;split at h
   .split at h
    .cases h;exact hd _ (g _ q)
    .obtain ⟨⟨a,i⟩,e,h⟩:=bind_some h;cases h;exact ih _ _ _ _ _ e (g _ q)
   .obtain ⟨⟨a,i⟩,e,h⟩:=bind_some h;dsimp only at h;split at h
    .exact ih _ _ _ _ _ h (ih _ _ _ _ _ e q)
    .cases h
  | args acc=>
   simp only [P] at h;split at h
   .obtain ⟨⟨b,i⟩,e,h⟩:=bind_some h;exact ih _ _ _ _ _ h (ih _ _ _ _ _ e q)
   .cases h;exact q
  | atom pat=>
   simp only [P] at h;split at h
   .split at h
    .cases h;exact g _ q
    split at h
    .exact ih _ _ _ _ _ h q
    split at h
    .exact ih _ _ _ _ _ h q
    .cases h;exact g _ q
   .cases h;exact q
  | closed list pat=>
   simp only [P] at h;split at h
   .cases h;exact g _ (g _ q)
   .obtain ⟨⟨a,j⟩,e,h⟩:=bind_some h;obtain ⟨⟨bs,p⟩,f,h⟩:=bind_some h;cases h;exact m _ _ (ih _ _ _ _ _ f (ih _ _ _ _ _ e (g _ q)))
  | items list pat=>
   simp only [P] at h;split at h
   .obtain ⟨⟨a,j⟩,e,h⟩:=bind_some h;obtain ⟨⟨bs,p⟩,f,h⟩:=bind_some h;cases h;exact ih _ _ _ _ _ f (ih _ _ _ _ _ e (g _ q))
   .cases h;exact q
  | pattern=>
   simp only [P] at h;split at h
   .cases h;exact hd _ q
   .obtain ⟨⟨a,i⟩,e,h⟩:=bind_some h;have t:=ih _ _ _ _ _ e q;dsimp only at h;split at h
    .obtain ⟨⟨b,j⟩,f,h⟩:=bind_some h;cases h;exact ih _ _ _ _ _ f (g _ t)
    .cases h;exact t
  | binding=>
   simp only [P] at h;have u:Q (if bY fw r then aT r else r):=by
    split
    .exact g _ q
    .exact q
   generalize (if bY fw r then [aO r] else [])=rc at h;generalize (if bY fw r then aT r else r)=r0 at h u;split at h
   .obtain ⟨⟨xs,i⟩,e,h⟩:=bind_some h;obtain ⟨⟨ps,p⟩,o,e⟩:=bind_some e;cases e;obtain ⟨⟨es,j⟩,f,h⟩:=bind_some h;cases h;exact ih _ _ _ _ _ f (m _ _ (ih _ _ _ _ _ o (g _ u)))
   .obtain ⟨⟨xs,i⟩,e,h⟩:=bind_some h;obtain ⟨⟨es,j⟩,f,h⟩:=bind_some h;cases h;exact ih _ _ _ _ _ f (m _ _ (ih _ _ _ _ _ e u))
  | params=>
   simp only [P] at h;split at h
   .obtain ⟨⟨a,i⟩,e,h⟩:=bind_some h;obtain ⟨⟨bs,j⟩,f,h⟩:=bind_some h;cases h;exact ih _ _ _ _ _ f (ih _ _ _ _ _ e q)
   .cases h;exact q
  | arm=>
   simp only [P] at h;obtain ⟨⟨a,i⟩,e,h⟩:=bind_some h;obtain ⟨⟨es,j⟩,f,h⟩:=bind_some h;cases h;exact ih _ _ _ _ _ f (m _ _ (ih _ _ _ _ _ e q))
  | arms=>
   simp only [P] at h;split at h
   .obtain ⟨⟨a,i⟩,e,h⟩:=bind_some h;obtain ⟨⟨bs,j⟩,f,h⟩:=bind_some h;cases h;exact ih _ _ _ _ _ f (ih _ _ _ _ _ e (g _ q))
   .cases h;exact q
mutual
def cH:T->Bool
 | .mk k tk _ l=>k != 2&&k != 3&&(k != 1||tk != 9)&&A9 l
def A9:List T->Bool
 | []=>true
 | t::l=>cH t&&A9 l
end
mutual
def dH:T->Nat
 | .mk _ _ _ l=>dB l+1
def dB:List T->Nat
 | []=>0
 | t::l=>max (dH t) (dB l)
end
theorem bI: ∀(l m:List T),dB (l++m)=max (dB l) (dB m)
 | [],m=>by simp [dB]
 | t::l,m=>by simp only [Pu,dB,bI l m];omega
theorem aZ (t:T):dB [t]=dH t:=by simp [dB]
theorem bk (k:Nat) (l:List T):dH (node k l)=dB l+1:=by simp [dH]
theorem rW: ∀(l:List bo),dB (l.map BA)<=1
 | []=>by simp [dB]
 | t::l=>by
  have:=rW l;simp only [Od,dB,BA,leaf,dH];omega
theorem bz (r:List bo):dH (aO r)<=2:=by
 have:=rW (r.takeWhile bP);unfold aO leaf;simp only [dH];omega
theorem eh (s:List UInt8):dH (missing s)=1:=by simp [missing,dH,dB]
theorem dU (s:List UInt8) (r:List bo):dH (du s r)<=2:=by
 unfold du;split
 .exact bz r
 .rw [eh];omega
theorem lQ (s:List UInt8) (r:List bo):dH (mR s r)<=3:=by
 unfold mR;have:=bz r;split
 .rw [eh];omega
 .rw [bk,aZ];omega
def gP:pc->List T
 | .ops _ acc=>[acc]
 | .args acc=>[acc]
 | _=>[]
theorem aK:dB []=0:=by simp [dB]
theorem bf (t:T) (l:List T):dB (t::l)=max (dH t) (dB l):=by simp [dB]
theorem mE (b:Bool):gP (if b then pc.pattern else pc.expr)=[]:=by cases b <;> rfl
theorem Bx: ∀(N:Nat) (job:pc) (d:Nat) (r:List bo) (l:List T) (r':List bo),P N job d r=some (l,r')->dB l<=max (dB (gP job)) (N * N+4)+N:=by
 intro N
 induction N with
 | zero=>intro job d r l r' h;cases h
 | succ n ih=>
  intro job d r l r' h;have u:(n+1) * (n+1)=n * n+2 * n+1:=by rw [Nat.add_mul,Nat.mul_add];omega
  rw [u];clear u;generalize n * n=q at ih ⊢;have tk:=bz r;have fin: ∀{job:pc} {d:Nat} {r:List bo} {l:List T} {r':List bo},gP job=[]->P n job d r=some (l,r')->dB l<=q+4+n:=fun v w=>by
   have:=ih _ _ _ _ _ w;rw [v,aK] at this;omega
  cases job with
  | expr=>
   simp only [P] at h;simp only [gP,aK];split at h
   .cases h;rw [aZ];have:=lQ lu r;omega
   .have k:=fin rfl h;omega
  | whole=>
   simp only [P] at h;simp only [gP,aK];split at h
   .obtain ⟨⟨bs,m⟩,e,h⟩:=bind_some h;obtain ⟨⟨es,o⟩,f,h⟩:=bind_some h;cases h;have j:=fin rfl e;have i:=fin rfl f;have:=dU JM m;simp only [aZ,bk,bI,bf,aK];omega
   split at h
   .obtain ⟨⟨a,g⟩,e,h⟩:=bind_some h;obtain ⟨⟨ps,m⟩,f,h⟩:=bind_some h;obtain ⟨⟨es,o⟩,p,h⟩:=bind_some h;cases h;have j:=fin rfl e;have i:=fin rfl f;have s:=fin rfl p;have:=dU fu m;simp only [aZ,bk,bI,bf,aK];omega
   split at h
   .obtain ⟨⟨a,g⟩,e,h⟩:=bind_some h;obtain ⟨⟨b,m⟩,f,h⟩:=bind_some h;obtain ⟨⟨c,o⟩,p,h⟩:=bind_some h;cases h;have j:=fin rfl e;have i:=fin rfl f;have s:=fin rfl p;have:=dU rp g;have:=dU r6 m;simp only [aZ,bk,bI,bf,aK];omega
   split at h
   .obtain ⟨⟨a,g⟩,e,h⟩:=bind_some h;obtain ⟨⟨b,o⟩,f,h⟩:=bind_some h;obtain ⟨⟨cs,z⟩,p,h⟩:=bind_some h;cases h;have j:=fin rfl e;have i:=fin rfl f;have s:=fin rfl p;have:=dU cR g;have A:dB (if bY jD (bL cR g) then [aO (bL cR g)] else [])<=2:=by
     split
     .rw [aZ];exact bz _
     .rw [aK];omega
    simp only [aZ,bk,bI,bf,aK];omega
   .have k:=fin rfl h;omega
  | level k=>
   simp only [P] at h;simp only [gP,aK];split at h
   .have k:=fin rfl h;omega
   .obtain ⟨⟨a,g⟩,e,h⟩:=bind_some h;dsimp only at h;split at h
    .rename_i t;have j:=fin rfl e;have i:=ih _ _ _ _ _ h;simp only [gP,aZ] at j i;omega
    .cases h
  | ops k acc=>
   simp only [P] at h;simp only [gP,aZ];split at h
   .obtain ⟨⟨b,g⟩,e,h⟩:=bind_some h;have j:=fin rfl e;have i:=ih _ _ _ _ _ h;simp only [gP,aZ,bk,bf,aK] at i;omega
   .cases h;rw [aZ];omega
  | neg=>
   simp only [P] at h;simp only [gP,aK];split at h
   .split at h
    .cases h;have:=lQ lu (aT r);simp only [aZ,bk,bf,aK];omega
    .obtain ⟨⟨a,g⟩,e,h⟩:=bind_some h;cases h;have j:=fin rfl e;simp only [aZ,bk,bf,aK];omega
   .obtain ⟨⟨a,g⟩,e,h⟩:=bind_some h;dsimp only at h;split at h
    .have j:=fin rfl e;have i:=ih _ _ _ _ _ h;simp only [gP,aZ] at j i;omega
    .cases h
  | args acc=>
   simp only [P] at h;simp only [gP,aZ];split at h
   .obtain ⟨⟨b,g⟩,e,h⟩:=bind_some h;have j:=fin rfl e;have i:=ih _ _ _ _ _ h;simp only [gP,aZ,bk,bf,aK] at i;omega
   .cases h;rw [aZ];omega
  | atom pat=>
   simp only [P] at h;simp only [gP,aK];split at h
   .split at h
    .cases h;simp only [aZ,bk];omega
    split at h
    .have k:=fin rfl h;omega
    split at h
    .have k:=fin rfl h;omega
    .cases h;rw [aZ];omega
   .cases h;rw [aZ,eh];omega
  | closed list pat=>
   simp only [P] at h;simp only [gP,aK];split at h
   .cases h;have x:=bz (aT r);simp only [aZ,bk,bf,aK];omega
   .obtain ⟨⟨a,m⟩,e,h⟩:=bind_some h;obtain ⟨⟨bs,o⟩,f,h⟩:=bind_some h;cases h;have j:=fin (mE pat) e;have i:=fin rfl f;have:=dU (gn list) o;simp only [aZ,bk,bI,bf,aK];omega
  | items list pat=>
   simp only [P] at h;simp only [gP,aK];split at h
   .obtain ⟨⟨a,g⟩,e,h⟩:=bind_some h;obtain ⟨⟨bs,m⟩,f,h⟩:=bind_some h;cases h;have j:=fin (mE pat) e;have i:=fin rfl f;simp only [bI,bf];omega
   .cases h;rw [aK];omega
  | pattern=>
   simp only [P] at h;simp only [gP,aK];split at h
   .cases h;rw [aZ];have:=lQ iR r;omega
   .obtain ⟨⟨a,g⟩,e,h⟩:=bind_some h;have j:=fin rfl e;dsimp only at h;split at h
    .obtain ⟨⟨b,m⟩,f,h⟩:=bind_some h;cases h;have i:=fin rfl f;have:=bz g;simp only [aZ,bk,bI,bf,aK];omega
    .cases h;omega
  | binding=>
   simp only [P] at h;simp only [gP,aK];have y:dB (if bY fw r then [aO r] else [])<=2:=by
    split
    .rw [aZ];exact tk
    .rw [aK];omega
   generalize (if bY fw r then [aO r] else [])=rc at h y;generalize (if bY fw r then aT r else r)=r0 at h;split at h
   .obtain ⟨⟨xs,g⟩,e,h⟩:=bind_some h;obtain ⟨⟨ps,o⟩,p,e⟩:=bind_some e;cases e;obtain ⟨⟨es,m⟩,f,h⟩:=bind_some h;cases h;have s:=fin rfl p;have i:=fin rfl f;have:=bz r0;have:=dU xj o;simp only [bI,aZ,bf,aK];omega
   .obtain ⟨⟨xs,g⟩,e,h⟩:=bind_some h;obtain ⟨⟨es,m⟩,f,h⟩:=bind_some h;cases h;have j:=fin rfl e;have i:=fin rfl f;have:=dU xj g;simp only [bI,aZ];omega
  | params=>
   simp only [P] at h;simp only [gP,aK];split at h
   .obtain ⟨⟨a,g⟩,e,h⟩:=bind_some h;obtain ⟨⟨bs,m⟩,f,h⟩:=bind_some h;cases h;have j:=fin rfl e;have i:=fin rfl f;simp only [bI];omega
   .cases h;rw [aK];omega
  | arm=>
   simp only [P] at h;simp only [gP,aK];obtain ⟨⟨a,g⟩,e,h⟩:=bind_some h;obtain ⟨⟨es,m⟩,f,h⟩:=bind_some h;cases h;have j:=fin rfl e;have i:=fin rfl f;have:=dU fu g;simp only [aZ,bk,bI];omega
  | arms=>
   simp only [P] at h;simp only [gP,aK];split at h
   .obtain ⟨⟨a,g⟩,e,h⟩:=bind_some h;obtain ⟨⟨bs,m⟩,f,h⟩:=bind_some h;cases h;have j:=fin rfl e;have i:=fin rfl f;simp only [bI,bf];omega
   .cases h;rw [aK];omega
theorem bU: ∀(N:Nat) (job:pc) (d:Nat) (r:List bo) (l:List T) (r':List bo),P N job d r=some (l,r')->single job=true-> ∃t,l=[t]:=by
 intro N
 induction N with
 | zero=>intro job d r l r' h;cases h
 | succ n ih=>
  intro job d r l r' h hs;cases job with
  | expr=>
   simp only [P] at h;split at h
   .cases h;exact ⟨_,rfl⟩
   .exact ih _ _ _ _ _ h rfl
  | whole=>
   simp only [P] at h;split at h
   .obtain ⟨⟨bs,i⟩,e,h⟩:=bind_some h;obtain ⟨⟨es,j⟩,g,h⟩:=bind_some h;cases h;exact ⟨_,rfl⟩
   split at h
   .obtain ⟨⟨a,f⟩,e,h⟩:=bind_some h;obtain ⟨⟨ps,i⟩,g,h⟩:=bind_some h;obtain ⟨⟨es,j⟩,m,h⟩:=bind_some h;cases h;exact ⟨_,rfl⟩
   split at h
   .obtain ⟨⟨a,f⟩,e,h⟩:=bind_some h;obtain ⟨⟨b,i⟩,g,h⟩:=bind_some h;obtain ⟨⟨c,j⟩,m,h⟩:=bind_some h;cases h;exact ⟨_,rfl⟩
   split at h
   .obtain ⟨⟨a,f⟩,e,h⟩:=bind_some h;obtain ⟨⟨b,j⟩,g,h⟩:=bind_some h;obtain ⟨⟨cs,o⟩,m,h⟩:=bind_some h;cases h;exact ⟨_,rfl⟩
   .exact ih _ _ _ _ _ h rfl
  | level k=>
   simp only [P] at h;split at h
   .exact ih _ _ _ _ _ h rfl
   .obtain ⟨⟨a,f⟩,e,h⟩:=bind_some h;dsimp only at h;split at h
    .exact ih _ _ _ _ _ h rfl
    .cases h
  | ops k acc=>
   simp only [P] at h;split at h
   .obtain ⟨⟨b,f⟩,e,h⟩:=bind_some h;exact ih _ _ _ _ _ h rfl
   .cases h;exact ⟨_,rfl⟩
  | neg=>
   simp only [P] at h;split at h
   .split at h
    .cases h;exact ⟨_,rfl⟩
    .obtain ⟨⟨a,f⟩,e,h⟩:=bind_some h;cases h;exact ⟨_,rfl⟩
   .obtain ⟨⟨a,f⟩,e,h⟩:=bind_some h;dsimp only at h;split at h
    .exact ih _ _ _ _ _ h rfl
    .cases h
  | args acc=>
   simp only [P] at h;split at h
   .obtain ⟨⟨b,f⟩,e,h⟩:=bind_some h;exact ih _ _ _ _ _ h rfl
   .cases h;exact ⟨_,rfl⟩
  | atom pat=>
   simp only [P] at h;split at h
   .split at h
    .cases h;exact ⟨_,rfl⟩
    split at h
    .exact ih _ _ _ _ _ h rfl
    split at h
    .exact ih _ _ _ _ _ h rfl
    .cases h;exact ⟨_,rfl⟩
   .cases h;exact ⟨_,rfl⟩
  | closed list pat=>
   simp only [P] at h;split at h
   .cases h;exact ⟨_,rfl⟩
   .obtain ⟨⟨a,i⟩,e,h⟩:=bind_some h;obtain ⟨⟨bs,j⟩,g,h⟩:=bind_some h;cases h;exact ⟨_,rfl⟩
  | items list pat=>cases hs
  | pattern=>
   simp only [P] at h;split at h
   .cases h;exact ⟨_,rfl⟩
   .obtain ⟨⟨a,f⟩,e,h⟩:=bind_some h;dsimp only at h;split at h
    .obtain ⟨⟨b,i⟩,g,h⟩:=bind_some h;cases h;exact ⟨_,rfl⟩
    .cases h;exact ih _ _ _ _ _ e rfl
  | binding=>cases hs
  | params=>cases hs
  | arm=>
   simp only [P] at h;obtain ⟨⟨a,f⟩,e,h⟩:=bind_some h;obtain ⟨⟨es,i⟩,g,h⟩:=bind_some h;cases h;exact ⟨_,rfl⟩
  | arms=>cases hs
theorem js {N:Nat} {job:pc} {d:Nat} {r:List bo} {l:List T} {r':List bo} (h:P N job d r=some (l,r')) (hs:single job=true):l.length=1:=by
 obtain ⟨t,rfl⟩:=bU N job d r l r' h hs;rfl
theorem zH (b:Bool):single (if b then pc.pattern else .expr)=true:=by cases b <;> rfl
theorem uN: ∀(N:Nat) (list pat:Bool) (d:Nat) (r:List bo) (l:List T) (r':List bo),P N (.items list pat) d r=some (l,r')->l.length<=2 * N:=by
 intro N
 induction N with
 | zero=>intro list pat d r l r' h;cases h
 | succ n ih=>
  intro list pat d r l r' h;simp only [P] at h;split at h
  .obtain ⟨⟨a,e⟩,b,h⟩:=bind_some h;obtain ⟨⟨bs,f⟩,c,h⟩:=bind_some h;cases h;have:=js b (zH pat);have:=ih _ _ _ _ _ _ c;simp only [N8,Om];omega
  .cases h;simp
theorem iD: ∀(N:Nat) (d:Nat) (r:List bo) (l:List T) (r':List bo),P N .params d r=some (l,r')->l.length<=N:=by
 intro N
 induction N with
 | zero=>intro d r l r' h;cases h
 | succ n ih=>
  intro d r l r' h;simp only [P] at h;split at h
  .obtain ⟨⟨a,e⟩,b,h⟩:=bind_some h;obtain ⟨⟨bs,f⟩,c,h⟩:=bind_some h;cases h;have:=js b rfl;have:=ih _ _ _ _ c;simp only [N8];omega
  .cases h;simp
theorem yV: ∀(N:Nat) (d:Nat) (r:List bo) (l:List T) (r':List bo),P N .arms d r=some (l,r')->l.length<=2 * N:=by
 intro N
 induction N with
 | zero=>intro d r l r' h;cases h
 | succ n ih=>
  intro d r l r' h;simp only [P] at h;split at h
  .obtain ⟨⟨a,e⟩,b,h⟩:=bind_some h;obtain ⟨⟨bs,f⟩,c,h⟩:=bind_some h;cases h;have:=js b rfl;have:=ih _ _ _ _ c;simp only [N8,Om];omega
  .cases h;simp
theorem lN: ∀(N:Nat) (d:Nat) (r:List bo) (l:List T) (r':List bo),P N .binding d r=some (l,r')->l.length<=N+4/\l≠[]:=by
 intro N d r l r' h;cases N with
 | zero=>cases h
 | succ n=>
  simp only [P] at h;have c:(if bY fw r then [aO r] else []).length<=1:=by split <;> simp
  generalize (if bY fw r then [aO r] else [])=rc at h c;generalize (if bY fw r then aT r else r)=r0 at h;split at h
  .obtain ⟨⟨xs,e⟩,a,h⟩:=bind_some h;obtain ⟨⟨ps,i⟩,f,a⟩:=bind_some a;cases a;obtain ⟨⟨es,g⟩,b,h⟩:=bind_some h;cases h;have:=iD _ _ _ _ _ f;have:=js b rfl;refine ⟨?_,by simp⟩;simp only [N8,Om,OO];omega
  .obtain ⟨⟨xs,e⟩,a,h⟩:=bind_some h;obtain ⟨⟨es,g⟩,b,h⟩:=bind_some h;cases h;have:=js a rfl;have:=js b rfl;refine ⟨?_,by simp⟩;simp only [N8,Om,OO];omega
end Go.Parse
namespace Go.Lex
open Go.VM
def qj (s:List UInt8):Int:=if 65536 < s.length then 40 else if dN s=false then 4 else 0
theorem r5 {s:List UInt8} (h:qj s=0):s.length<=65536/\dN s=true:=by
 unfold qj at h;by_cases h1:65536 < s.length
 .rw [if_pos h1] at h;exact absurd h (by decide)
 .rw [if_neg h1] at h;cases a:dN s with
  | false=>rw [a,if_pos rfl] at h;exact absurd h (by decide)
  | true=>exact ⟨by omega,rfl⟩
theorem I2 {s:List UInt8} (h1:s.length<=65536) (a:dN s=true):qj s=0:=by
 unfold qj;rw [if_neg (by omega),a,if_neg (by simp)]
theorem Bu: ∀(n:Nat) (s:List UInt8),s.length<=n->(oe n s).length<=s.length
 | 0,_,_=>by simp [oe]
 | n+1,[],_=>by simp [oe]
 | n+1,c::l,h=>by
  have a:=qa (s:=c::l) (by simp);have ih:=Bu n ((c::l).drop (cut (c::l)).2) (by rw [N3];simp at h ⊢;omega);rw [N3] at ih;simp only [oe,Om] at ih ⊢;omega
theorem vA (s:List UInt8):(tokens s).length<=s.length:=Bu _ _ (NX _)
end Go.Lex
namespace Go.Parse
open Go.VM Go.Lex
structure Ext (f:List bo->List bo):Prop where
 nx: ∀r,(nx r).1≠0->Parse.nx (f r)=Parse.nx r
 tk: ∀r,(Parse.nx r).1≠0->aO (f r)=aO r
 tr: ∀r,(Parse.nx r).1≠0->aT (f r)=f (aT r)
 nd: ∀r,(Parse.nx r).1=0->Parse.nx (f r)=(3,ku)
section
variable {f:List bo->List bo} (hf:Ext f)
include hf
end
end Go.Parse
namespace Go.Lex
open Go.VM
end Go.Lex
namespace Go.Parse
open Go.VM Go.Lex
end Go.Parse
namespace Go.VM
open Go
section
variable {β:Type} {Q:β->Prop} {st st0:St} {l:LU} {z:Nat} {e:TypeId} {v:AV} {ws:List AV}
end
theorem CK {α:Type} {l:List α} {i:Nat} (hi:i < l.length):l.take (i+1)=l.take i++[l[i]]:=by rw [List.take_add_one,Oj hi];rfl
end Go.VM
namespace Go.Parse
open Go.VM Go.Lex
end Go.Parse
namespace Go.Ast
open Go.VM Go.Lex Go.Parse Go.Scope
def DC:List UInt8->List UInt8
 | []=>[]
 | [c]=>[c]
 | c::d::l=>if c=92 then (if d=110 then 10 else if d=116 then 9 else d)::DC l else c::DC (d::l)
def told (s:List UInt8):List UInt8:=DC ((s.drop 1).take (s.length - 2))
end Go.Ast
namespace Go.Ast
open Go.VM Go.Lex Go.Parse
def xp:List UInt8->Bool
 | []=>true
 | [c]=>c != 92
 | c::d::l=>if c=92 then xp l else xp (d::l)
theorem wB: ∀(s:List UInt8) (n:Nat),fj s=(7,n)-> ∃u,s.take n=u++[34]/\xp u=true
 | [],n,h=>by simp [fj] at h
 | [c],n,h=>by
  simp only [fj] at h;split at h
  .simp at h
  .split at h
   .rename_i h1;obtain rfl:1=n:=by simpa using h
    exact ⟨[],by simp [h1],rfl⟩
   .simp at h
 | c::d::l,n,h=>by
  simp only [fj] at h;split at h
  .simp at h
  .split at h
   .rename_i h1;obtain rfl:1=n:=by simpa using h
    exact ⟨[],by simp [h1],rfl⟩
   .split at h
    .rename_i h1;split at h
     .simp only [NU] at h;obtain ⟨u,b,e⟩:=wB l (fj l).2 (by rw [<- h.1]);refine ⟨c::d::u, ?_, ?_⟩
      .rw [<- h.2];simp [b]
      .simp only [xp,if_pos h1];exact e
     .simp at h
    .rename_i h1;simp only [NU] at h;obtain ⟨u,b,e⟩:=wB (d::l) (fj (d::l)).2 (by rw [<- h.1]);refine ⟨c::u, ?_, ?_⟩
     .rw [<- h.2];simp [b]
     .cases u with
      | nil=>simp [xp,h1]
      | cons a u=>
       simp only [xp,if_neg h1];exact e
def Mb (t:bo):Prop:=t.2≠[]/\(t.1=7-> ∃u,t.2=34::u++[34]/\xp u=true)/\(t.1=8->t.2.length<=2)
theorem sY: ∀(l:List UInt8),(fj l).1=7\/(fj l).1=9
 | []=> .inr rfl
 | [c]=>by
  simp only [fj];split
  .exact .inr rfl
  .split
   .exact .inl rfl
   .exact .inr rfl
 | c::d::l=>by
  simp only [fj];split
  .exact .inr rfl
  .split
   .exact .inl rfl
   .split
    .split
     .exact sY l
     .exact .inr rfl
    .exact sY (d::l)
theorem Kn (s:List UInt8) (hs:s≠[]):(cut s).1=7-> ∃u,s.take (cut s).2=34::u++[34]/\xp u=true:=by
 cases s with
 | nil=>exact absurd rfl hs
 | cons c l=>
  intro h;simp only [cut] at h ⊢;by_cases h1:ep c=true
  .rw [if_pos h1] at h;cases h
  rw [if_neg h1] at h ⊢;by_cases b:(c::l).take 2=[40,42]
  .rw [if_pos b] at h;cases g:rem ((c::l).drop 2) 1 <;> rw [g] at h <;> cases h
  rw [if_neg b] at h ⊢;by_cases d:gM c=true
  .rw [if_pos d] at h;simp only [sr] at h;split at h
   .cases h
   .split at h <;> cases h
  rw [if_neg d] at h ⊢;by_cases h4:aR c=true
  .rw [if_pos h4] at h;simp only [number] at h;split at h
   .split at h <;> cases h
   .cases h
  rw [if_neg h4] at h ⊢;by_cases a:c=34
  .rw [if_pos a] at h ⊢;obtain ⟨u,i,j⟩:=wB l (fj l).2 (by rw [<- h]);exact ⟨u,by rw [a];simp [i],j⟩
  rw [if_neg a] at h ⊢;by_cases e:jK.contains ((c::l).take 2)=true
  .rw [if_pos e] at h;cases h
  rw [if_neg e] at h ⊢;by_cases f:jn c=true
  .rw [if_pos f] at h;cases h
  rw [if_neg f] at h;cases h
theorem KI (s:List UInt8):(cut s).1=8->(s.take (cut s).2).length<=2:=by
 cases s with
 | nil=>intro h;cases h
 | cons c l=>
  intro h;simp only [cut] at h ⊢;by_cases h1:ep c=true
  .rw [if_pos h1] at h;cases h
  rw [if_neg h1] at h ⊢;by_cases a:(c::l).take 2=[40,42]
  .rw [if_pos a] at h;cases g:rem ((c::l).drop 2) 1 <;> rw [g] at h <;> cases h
  rw [if_neg a] at h ⊢;by_cases b:gM c=true
  .rw [if_pos b] at h ⊢;simp only [sr] at h;split at h
   .rename_i i;rw [qV,i];decide
   .split at h <;> cases h
  rw [if_neg b] at h ⊢;by_cases h4:aR c=true
  .rw [if_pos h4] at h;simp only [number] at h;split at h
   .split at h <;> cases h
   .cases h
  rw [if_neg h4] at h ⊢;by_cases d:c=34
  .rw [if_pos d] at h;have: ∀l:List UInt8,(fj l).1=7\/(fj l).1=9:=sY;have:=this l;simp only at h;omega
  rw [if_neg d] at h ⊢;by_cases e:jK.contains ((c::l).take 2)=true
  .rw [if_pos e,Oa];omega
  rw [if_neg e] at h ⊢;by_cases f:jn c=true
  .rw [if_pos f,Oa];omega
  rw [if_neg f] at h;cases h
theorem Ef: ∀(n:Nat) (s:List UInt8),∀t∈oe n s,Mb t
 | 0,_,t,h=>by cases h
 | n+1,s,t,h=>by
  cases s with
  | nil=>simp [oe] at h
  | cons c l=>
   simp only [oe,Oc] at h;rcases h with rfl | h
   .refine ⟨?_,Kn _ (by simp),KI _⟩;have:=qa (s:=c::l) (by simp);intro e;have a:=OC List.length e;rw [Oa,OO] at a;omega
   .exact Ef n _ t h
end Go.Ast
