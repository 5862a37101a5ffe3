/-
  (A part of the proof: Utf, Utf2, Kit3, Kit4, Kit5, LexSpec, ParseSpec, ParseTot, LexLoc, LexLoc2, LexLoc3, LexPre, RelexSpec, ParseText, ParseDep, RelexSpec2, TokLen, ParseTwo, ParseGlue, ParseNorm, AstTree, AstKit, AstTold, ParseShape, AstGs, ParseMap, LexSw, ParseBl, ParseSz, ParseGen, ParseGen2, ParseClose, ParseHot, ParseTwo2.)
-/
import Derived.Test.YtmngkfmgnkeclaaGreatDoorVmBD
import Derived.Test.YtmngkfmgnkeclaaGreatDoorVmAJ
import Derived.Test.YtmngkfmgnkeclaaGreatDoorVmAA
import Derived.Lib.TrimUEq
import Derived.Lib.ValidU
import Derived.Lib.AtoiAll
set_option linter.unusedSimpArgs false
namespace Go.VM
open Go.Lib
def mG (n b0 b1 b2 b3:Nat):Nat:=
 if b0 < 128 then 1
 else if 194≤b0∧b0≤223 then (if n < 2∨b1 < 128∨191 < b1 then 0 else 2)
 else if 224≤b0∧b0≤239 then (if n < 3∨b1 < 128∨191 < b1∨b2 < 128∨191 < b2∨(b0=224∧b1 < 160)∨(b0=237∧159 < b1) then 0 else 3)
 else if 240≤b0∧b0≤244 then (if n < 4∨b1 < 128∨191 < b1∨b2 < 128∨191 < b2∨b3 < 128∨191 < b3∨(b0=240∧b1 < 144)∨(b0=244∧143 < b1) then 0 else 4)
 else 0
set_option maxHeartbeats 2000000 in
theorem DA {n b0 b1 b2 b3:Nat} (h0:b0 < 256) (h1:b1 < 256) (h2:b2 < 256) (h3:b3 < 256):
  (mG n b0 b1 b2 b3=0∧decodeN n b0 b1 b2 b3=(65533,1))∨(mG n b0 b1 b2 b3=1∧b0 < 128∧decodeN n b0 b1 b2 b3=(b0,1))∨(2≤mG n b0 b1 b2 b3∧(decodeN n b0 b1 b2 b3).2=mG n b0 b1 b2 b3):=by
 by_cases c0:b0 < 128
 ·refine .inr (.inl ⟨?_,c0, ?_⟩)
  ·unfold mG;rw [if_pos c0]
  ·unfold decodeN;rw [if_pos c0]
 by_cases z:mG n b0 b1 b2 b3=0
 ·refine .inl ⟨z, ?_⟩
  unfold mG at z
  unfold decodeN
  repeat' split
  all_goals first | rfl | (exfalso;(repeat' (split at z));all_goals omega)
 ·have hc:(mG n b0 b1 b2 b3=2∧(194≤b0∧b0≤223)∧¬ (n < 2∨b1 < 128∨191 < b1))∨
    (mG n b0 b1 b2 b3=3∧(224≤b0∧b0≤239)∧¬ (n < 3∨b1 < 128∨191 < b1∨b2 < 128∨191 < b2∨(b0=224∧b1 < 160)∨(b0=237∧159 < b1)))∨
    (mG n b0 b1 b2 b3=4∧(240≤b0∧b0≤244)∧¬ (n < 4∨b1 < 128∨191 < b1∨b2 < 128∨191 < b2∨b3 < 128∨191 < b3∨(b0=240∧b1 < 144)∨(b0=244∧143 < b1))):=by
   unfold mG at z ⊢
   rw [if_neg c0] at z ⊢
   by_cases c1:194≤b0∧b0≤223
   ·rw [if_pos c1] at z ⊢
    by_cases d:n < 2∨b1 < 128∨191 < b1
    ·rw [if_pos d] at z;omega
    ·rw [if_neg d];exact .inl ⟨rfl,c1,d⟩
   rw [if_neg c1] at z ⊢
   by_cases c2:224≤b0∧b0≤239
   ·rw [if_pos c2] at z ⊢
    by_cases d:n < 3∨b1 < 128∨191 < b1∨b2 < 128∨191 < b2∨(b0=224∧b1 < 160)∨(b0=237∧159 < b1)
    ·rw [if_pos d] at z;omega
    ·rw [if_neg d];exact .inr (.inl ⟨rfl,c2,d⟩)
   rw [if_neg c2] at z ⊢
   by_cases c3:240≤b0∧b0≤244
   ·rw [if_pos c3] at z ⊢
    by_cases d:n < 4∨b1 < 128∨191 < b1∨b2 < 128∨191 < b2∨b3 < 128∨191 < b3∨(b0=240∧b1 < 144)∨(b0=244∧143 < b1)
    ·rw [if_pos d] at z;omega
    ·rw [if_neg d];exact .inr (.inr ⟨rfl,c3,d⟩)
   ·rw [if_neg c3] at z;omega
  refine .inr (.inr ?_)
  rcases hc with ⟨e,c,d⟩ | ⟨e,c,d⟩ | ⟨e,c,d⟩
  all_goals
   rw [e]
   refine ⟨by omega, ?_⟩
   unfold decodeN
   repeat' split
   all_goals first | rfl | (exfalso;omega)
theorem Mx {n b0 b1 b2 b3:Nat} (h:1≤n):mG n b0 b1 b2 b3≤n:=by
 unfold mG
 repeat' split
 all_goals omega
def iq (l:List UInt8):Nat:=mG l.length (l.getD 0 0).toNat (l.getD 1 0).toNat (l.getD 2 0).toNat (l.getD 3 0).toNat
theorem xj (l:List UInt8):(iq l=0∧decodeL l=(65533,1))∨(iq l=1∧(l.getD 0 0).toNat < 128∧decodeL l=((l.getD 0 0).toNat,1))∨(2≤iq l∧(decodeL l).2=iq l):=by
 unfold iq
 rw [decodeL_N]
 exact DA (UInt8.toNat_lt _) (UInt8.toNat_lt _) (UInt8.toNat_lt _) (UInt8.toNat_lt _)
theorem tG {l:List UInt8} (h:l≠[]):iq l≤l.length:=Mx (List.length_pos_iff.2 h)
def nG:Nat→List UInt8→Bool
 | 0,_=>true
 | n+1,l=>if l=[] then true else if iq l=0 then false else nG n (l.drop (iq l))
theorem tK: ∀(n:Nat) (l:List UInt8),validGoD n l=nG n l
 | 0,_=>rfl
 | n+1,l=>by
  unfold validGoD nG
  by_cases h:l=[]
  ·rw [if_pos h,if_pos h]
  rw [if_neg h,if_neg h]
  rcases xj l with ⟨h1,h2⟩ | ⟨h1,h2,h3⟩ | ⟨h1,h2⟩
  ·have hd:(decodeL l).1=65533∧(decodeL l).2=1:=by rw [h2];exact ⟨rfl,rfl⟩
   rw [if_pos hd,if_pos h1]
  ·have hd:¬ ((decodeL l).1=65533∧(decodeL l).2=1):=by rw [h3];show ¬ ((l.getD 0 0).toNat=65533∧ _);omega
   have hz:¬ iq l=0:=by omega
   rw [if_neg hd,if_neg hz,h3,h1];exact tK n _
  ·have hd:¬ ((decodeL l).1=65533∧(decodeL l).2=1):=by omega
   have hz:¬ iq l=0:=by omega
   rw [if_neg hd,if_neg hz,h2];exact tK n _
def cG (l:List UInt8):Bool:=nG l.length l
theorem F5 (l:List UInt8):validD l=cG l:=tK _ _
theorem uW: ∀(n m:Nat) (l:List UInt8),l.length≤n→l.length≤m→nG n l=nG m l
 | 0,0,_,_,_=>rfl
 | 0,m+1,l,h,_=>by
  have:l=[]:=List.eq_nil_of_length_eq_zero (by omega)
  subst this
  simp [nG]
 | n+1,0,l,_,h=>by
  have:l=[]:=List.eq_nil_of_length_eq_zero (by omega)
  subst this
  simp [nG]
 | n+1,m+1,l,hn,hm=>by
  unfold nG
  by_cases h:l=[]
  ·rw [if_pos h,if_pos h]
  rw [if_neg h,if_neg h]
  by_cases hz:iq l=0
  ·rw [if_pos hz,if_pos hz]
  ·rw [if_neg hz,if_neg hz,uW n m _ (by rw [List.length_drop];omega) (by rw [List.length_drop];omega)]
theorem jZ {l:List UInt8} (h:l≠[]):cG l=if iq l=0 then false else cG (l.drop (iq l)):=by
 unfold cG
 have hl:0 < l.length:=List.length_pos_iff.2 h
 obtain ⟨n,hn⟩: ∃n,l.length=n+1:=⟨l.length - 1,by omega⟩
 rw [hn]
 show (if l=[] then true else _)= _
 rw [if_neg h]
 by_cases hz:iq l=0
 ·rw [if_pos hz,if_pos hz]
 ·rw [if_neg hz,if_neg hz]
  exact uW _ _ _ (by rw [List.length_drop];omega) (Nat.le_refl _)
section
variable {β:Type} {O:qJ}
theorem jw {f:List AV→cV AV} {args:List AV} {v:AV} (h:f args= .ok v) (st:St) (K:Kv β):dF O (fu (.lib f) args) st K=K v st q0:=by
 simp only [dF,lZ,fu,h,mw,al]
theorem BJ {s:List UInt8} (h:s.length≤9223372036854775807):lF [.str s]= .ok (.bool (cG s)):=by
 simp only [lF,Nat.ble_eq_true_of_le h,F5]
end
end Go.VM
namespace Go.VM
open Go
@[simp] theorem qo (v:AV):oneOf [v]=v:=id rfl
@[simp] theorem Pj (cs:List AV):notNil (.ip cs)=true:=id rfl
@[simp] theorem dv (i o:Nat):notNil (.mp i o)=true:=id rfl
@[simp] theorem tj (a:AV) (l:List AV):(a::l).drop 1=l:=id rfl
@[simp] theorem Sr (a b:AV) (l:List AV):(a::b::l).drop 2=l:=id rfl
@[simp] theorem QF (a b c:AV) (l:List AV):(a::b::c::l).drop 3=l:=id rfl
@[simp] theorem SA (a b c d:AV) (l:List AV):(a::b::c::d::l).drop 4=l:=id rfl
@[simp] theorem R3 (a b c d e:AV) (l:List AV):(a::b::c::d::e::l).drop 5=l:=id rfl
@[simp] theorem Rv (a:AV) (l:List AV):lu 1 true (a::l)=some (.agg [a]):=id rfl
@[simp] theorem ua (a b:AV) (l:List AV):lu 2 true (a::b::l)=some (.agg [a,b]):=id rfl
@[simp] theorem Q6 (a b c:AV) (l:List AV):lu 3 true (a::b::c::l)=some (.agg [a,b,c]):=id rfl
@[simp] theorem AP (a b c d:AV) (l:List AV):lu 4 true (a::b::c::d::l)=some (.agg [a,b,c,d]):=id rfl
@[simp] theorem jx (cs:List AV):AV.cells (.agg cs)=cs:=id rfl
@[simp] theorem Pl (s:List UInt8):AV.cells (.str s)=[.str s]:=id rfl
@[simp] theorem O1 (k:IntKind) (n:Int):AV.cells (.int k n)=[.int k n]:=id rfl
@[simp] theorem QA (f:Fn) (a b:List AV):AV.cells (.fn f a b)=[.fn f a b]:=id rfl
@[simp] theorem Md (i:Nat) (o:VM.Obj):apart q0 ⟨[],.made i o⟩=true:=id rfl
@[simp] theorem Mk (i:Nat) (o:VM.Obj):apart ⟨[],.kept⟩ ⟨[],.made i o⟩=true:=id rfl
@[simp] theorem oG (i:Nat) (o:VM.Obj):apart ⟨[],.kept⟩ ⟨[i],.wrote i o⟩=true:=id rfl
theorem Mo {n:Nat} (h:n≤9223372036854775807):IntKind.wrap .i64 (n:Int)=(n:Int):=wrap_i64 (by omega) (by omega)
theorem oO {n m:Nat} (h:n+m≤9223372036854775807):IntKind.wrap .i64 ((n:Int)+(m:Int))=((n+m:Nat):Int):=by rw [← Int.natCast_add];exact Mo h
theorem cH {n:Nat} (h:n+1≤9223372036854775807):IntKind.wrap .i64 ((n:Int)+1)=((n+1:Nat):Int):=oO (m:=1) h
theorem vO {n:Nat} (h:n+2≤9223372036854775807):IntKind.wrap .i64 ((n:Int)+2)=((n+2:Nat):Int):=oO (m:=2) h
theorem CY {n m:Nat} (h:m≤n) (hn:n≤9223372036854775807):IntKind.wrap .i64 ((n:Int) - (m:Int))=((n - m:Nat):Int):=by rw [← Mo (n:=n - m) (by omega)];congr 1;omega
theorem gz {a b:Nat} (h:a≤b):Nat.ble a b=true:=Nat.ble_eq_true_of_le h
theorem pF {st st':St} {z:Nat} {e:TypeId} {v:AV} {es:List AV} {but:Nat→Prop} (h:iN st z e v es) (k:ba st st' but) (hb: ∀j,dW v j→¬ but j):iN st' z e v es:=by
 refine ⟨by rw [k.ro];exact Nat.le_trans h.1 k.h,h.2.1, ?_⟩
 rcases h.2.2 with h | h | ⟨j,hv,hg,hr⟩
 ·exact .inl h
 ·exact .inr (.inl h)
 ·exact .inr (.inr ⟨j,hv,k.old _ _ (hb j ⟨_,_,hv⟩) hg,by rw [k.ro];exact hr⟩)
theorem Ag {st:St} {z:Nat} {e:TypeId} {x:AV} {es:List AV} (h:iN st z e x es) {k:Nat} {v:AV} (hk:es[k]? =some v) {β:Type} (st':St) (K:AV→List Nat→Option β):bZ z x (k:Int) st' K=K (.ip v.cells) []:=by
 have hlt:k < es.length:=(List.getElem?_eq_some_iff.1 hk).1
 have hz:z.beq z=true:=Nat.beq_refl z
 have hi:kQ (k:Int) es.length=some k:=by
  show (match k.blt es.length with | true=>some k | false=>none)= _
  rw [cY.2 hlt]
 have hn:An es k=some v:=vB hk
 rcases h.2.2 with ⟨rfl | rfl,rfl⟩ | rfl | ⟨j,rfl,_⟩
 ·simp at hlt
 ·simp at hlt
 ·simp only [bZ,Bx,hz,hi,hn,al]
 ·simp only [bZ,Bx,hz,hi,hn,al]
theorem E1 {st:St} {z:Nat} {e:TypeId} {x:AV} {es:List AV} (h:iN st z e x es) {β:Type} (K:Nat→Option β):fC x K=K es.length:=by
 rcases h.2.2 with ⟨rfl | rfl,rfl⟩ | rfl | ⟨k,rfl,_⟩ <;> rfl
theorem Ld {st:St} {z b:Nat} {e:TypeId} {v:AV} {es:List AV} (w:AV) (h:iN st z e v es) (hr:cO (es.length+1) ⟨.other,z,b,[],false,false⟩=true):
  ∃v' st',iN st' z e v' (es++[w])∧ba st st' (dW v)∧ ∃x,∀{β:Type} (K:Kv β),gf z b e v [w] st K=K v' st' x:=by
 obtain ⟨v',st',x,e1,e2,e3,_⟩:=vj (b:=b) (new:=[w]) h (by simp) hr
 exact ⟨v',st',e2,e3,x,fun K=>qa e1 K⟩
theorem vD {n z b:Nat} (hn:n≤1000000000) (hb:b≤1000) (hz:1≤z):cO n ⟨.other,z,b,[],false,false⟩=true:=by
 have:n * b≤1000000000 * 1000:=Nat.mul_le_mul hn hb
 simp only [cO,gz (show n * b≤70368744177664 by omega),gz (show n≤70368744177664 by omega),gz hz];rfl
theorem rY {st:St} {z:Nat} {e:TypeId} {v:AV} {es:List AV} (h:iN st z e v es): ∃x,bl z x es∧ ∀n,freeze st 0 (n+1) v= .ok x:=by
 rcases h with ⟨_,hl,⟨rfl | rfl,rfl⟩ | rfl | ⟨k,rfl,_,_⟩⟩
 ·exact ⟨.aq,bl.aq,fun _=>rfl⟩
 ·exact ⟨.es,bl.emp,fun _=>rfl⟩
 ·exact ⟨.sl z es .shut,bl.shut hl,fun _=>rfl⟩
 ·exact ⟨.sl z es .wide,bl.wide hl,fun _=>rfl⟩
theorem CI {st:St} {z:Nat} {e:TypeId} {v u:AV} {es:List AV} (h:iN st z e v es) (hu:Fz 1 u) (hb:bare u=true): ∃x,bl z x es∧ ∀{β:Type} (K:AV→Option β),iL st 0 (.tup [v,u]) K=K (.tup [x,u]):=by
 obtain ⟨x,hx,e1⟩:=rY h
 refine ⟨x,hx,fun K=> ?_⟩
 have e2:freeze st 0 100 (.tup [v,u])= .ok (.tup [x,u]):=by
  show (do pure (.tup (← kX (freeze st 0 99) [v,u])):cV AV)= _
  have e3:kX (freeze st 0 99) [v,u]= .ok [x,u]:=by
   simp only [kX,e1 98,hu st 0 99 (by omega),au,aI]
  rw [e3];rfl
 have e3:bare (.tup [x,u])=true:=by
  show (bare x&&(bare u&&true))=true
  rw [hx.bare,hb];rfl
 simp only [iL,e2,e3,bf]
theorem jG {c d:UInt8} (h:c≠d):¬ ((c.toNat:Nat):Int)=(d.toNat:Int):=by
 intro k
 have:c.toNat=d.toNat:=by omega
 exact h (UInt8.toNat_inj.1 this)
theorem nK {s:List UInt8} {i:Nat} {c:UInt8} (hlt:i < s.length) (hg:s[i]? =some c):s[i]=c:=by
 have:=List.getElem?_eq_getElem hlt
 rw [hg] at this;exact (Option.some.inj this).symm
theorem CB {agg:Bool} {β:Type}: ∀{l:List AV} (_: ∀v∈l,∀(K:AV→Option β),GA agg v K=K v) (K:List AV→Option β),pU agg l K=K l
 | [],_,_=>rfl
 | v::l,h,K=>by
  show GA agg v (fun v'=>pU agg l fun l'=>K (v'::l'))= _
  rw [h v (by simp),CB fun u hu=>h u (List.mem_cons_of_mem _ hu)]
theorem DQ {z:Nat} {l:List AV} (h: ∀v∈l,v.cells.length=z):tf z l=true:=by
 refine List.all_eq_true.2 fun v hv=> ?_
 rw [h v hv];exact Nat.beq_refl z
theorem KW {st:St} {base:Nat} {vs xs:List AV} (h:kX (freeze st base 99) vs= .ok xs) (hb:bz xs=true) {β:Type} (K:AV→Option β):iL st base (.tup vs) K=K (.tup xs):=by
 have e:freeze st base 100 (.tup vs)= .ok (.tup xs):=by
  show (do pure (.tup (← kX (freeze st base 99) vs)):cV AV)= _
  rw [h];rfl
 have e3:bare (.tup xs)=true:=hb
 simp only [iL,e,e3,bf]
theorem bT {g:AV→cV AV} {v x:AV} {vs xs:List AV} (h:g v= .ok x) (hs:kX g vs= .ok xs):kX g (v::vs)= .ok (x::xs):=by
 simp only [kX,h,hs,au,aI]
theorem sg {g:AV→cV AV}:kX g []= .ok []:=rfl
structure Q3 (z:Nat) (agg:Bool) (es:List AV):Prop where
 one: ∀v∈es,eW v.cells=true
 size: ∀v∈es,v.cells.length=z
 fit: ∀v∈es,∀c∈v.cells,Fz 1 c
 fits: ∀v∈es,VM.fit v= .ok v
 shape: ∀v∈es,agg=true→ ∃cs,v= .agg cs
 notagg: ∀v∈es,agg=false→VM.one v=true
theorem Q3.set {z:Nat} {agg:Bool} {es:List AV} (he:Q3 z agg es) {k:Nat} {w:AV} (hw:Q3 z agg [w]):Q3 z agg (es.set k w):=by
 have key: ∀v∈es.set k w,v∈es∨v=w:=fun v hv=>List.mem_or_eq_of_mem_set hv
 have hm:w∈[w]:=by simp
 exact ⟨fun v hv=>(key v hv).elim (he.one v) (fun e=>e ▸ hw.one w hm),fun v hv=>(key v hv).elim (he.size v) (fun e=>e ▸ hw.size w hm),
  fun v hv=>(key v hv).elim (he.fit v) (fun e=>e ▸ hw.fit w hm),fun v hv=>(key v hv).elim (he.fits v) (fun e=>e ▸ hw.fits w hm),
  fun v hv=>(key v hv).elim (he.shape v) (fun e=>e ▸ hw.shape w hm),fun v hv=>(key v hv).elim (he.notagg v) (fun e=>e ▸ hw.notagg w hm)⟩
theorem Gt {β:Type} {O:qJ} (v:AV) (st:St) (K:Kv β):dF O (.ok (.val v)) st K=K v st q0:=id rfl
theorem Fe {O:qJ} {st:St} {id:Nat} {t:TypeId} {z:Nat} {old cs:List AV} (v:AV) (hg:st.get id= .ok (.cells t old)) (hl:old.length=z) (hc:cs.length=z) (hro:st.ro≤id):
  ∃st',st'.get id= .ok (.cells t cs)∧ba st st' (· =id)∧st'.h=st.h∧ ∃fx,∀{β:Type} (K:Kv β),ao O z (.mp id 0) v cs st K=K undef st' fx:=by
 refine ⟨st.put id (.cells t cs),St.aR (St.bM.1 hg).1,ba.put rfl,rfl,⟨[id],.wrote id (.cells t (cF old 0 cs))⟩,fun K=> ?_⟩
 rw [dw hg hc (by omega) hro,jv (by omega)]
theorem LJ {b:UInt8} (h:b.toNat < 128) (l:List UInt8):iq (b::l)=1:=by
 show mG _ b.toNat _ _ _=1
 unfold mG;rw [if_pos h]
theorem yS: ∀(l:List UInt8),(∀b∈l,b.toNat < 128)→cG l=true
 | [],_=>rfl
 | b::l,h=>by
  rw [jZ (by simp),LJ (h b (by simp)),if_neg (by omega)]
  exact yS l fun c hc=>h c (List.mem_cons_of_mem _ hc)
def Rf (d:Nat) (v:AV):Prop:= ∀f,d≤f→gi f v v=true
theorem Rf.mono {d e:Nat} {v:AV} (h:Rf d v) (hd:d≤e):Rf e v:=fun f hf=>h f (Nat.le_trans hd hf)
theorem sZ: ∀s:List UInt8,mc s s=true
 | []=>rfl
 | a::l=>by simp only [mc,Nat.beq_refl];exact sZ l
theorem la {g:AV→AV→Bool}: ∀{l:List AV},(∀v∈l,g v v=true)→eJ g l l=true
 | [],_=>rfl
 | v::l,h=>by simp only [eJ,h v (by simp)];exact la fun u hu=>h u (List.mem_cons_of_mem _ hu)
theorem tv (k:IntKind) (n:Int):Rf 1 (.int k n):=fun f hf=>by cases f with | zero=>omega | succ f=>show (decide (k=k)&&decide (n=n))=true;simp
theorem EF (s:List UInt8):Rf 1 (.str s):=fun f hf=>by cases f with | zero=>omega | succ f=>exact sZ s
theorem Ah:Rf 1 .aq:=fun f hf=>by cases f with | zero=>omega | succ f=>rfl
theorem Jx:Rf 1 .es:=fun f hf=>by cases f with | zero=>omega | succ f=>rfl
theorem MW {d:Nat} {cs:List AV} (h: ∀c∈cs,Rf d c):Rf (d+1) (.agg cs):=fun f hf=>by
 cases f with
 | zero=>omega
 | succ f=>exact la fun v hv=>h v hv f (by omega)
theorem uN {d z:Nat} {p:Perm} {cs:List AV} (h: ∀c∈cs,Rf d c):Rf (d+1) (.sl z cs p):=fun f hf=>by
 cases f with
 | zero=>omega
 | succ f=>
  show (z.beq z&&decide (p=p)&&eJ (gi f) cs cs)=true
  rw [la fun v hv=>h v hv f (by omega)]
  simp
theorem Gw {st st':St} {i:Nat} {t:TypeId} {cs:List AV} {d:Nat} (h1:st.get i= .ok (.cells t cs)) (h2:st'.get i= .ok (.cells t cs)) (h: ∀c∈cs,Rf d c) (hd:d≤1000000000000000000):sameAt st st' i=true:=by
 have e:eJ (gi 1000000000000000000) cs cs=true:=la fun v hv=>h v hv _ hd
 unfold sameAt
 rw [h1,h2]
 show (t.beq t&&eJ (gi 1000000000000000000) cs cs)=true
 rw [e];simp
theorem GS {st st':St} {i:Nat} (h:sameAt st st' i=true):apart ⟨[i],.kept⟩ ⟨[],.all st st'⟩=true:=by
 show ([i].all (sameAt st st'))=true
 simp [h]
theorem lz {st st':St}:apart ⟨[],.kept⟩ ⟨[],.all st st'⟩=true:=id rfl
theorem H6 {O:qJ} {st:St} {id:Nat} {t:TypeId} {z:Nat} {old cs:List AV} (v:AV) (hg:st.get id= .ok (.cells t old)) (hl:old.length=z) (hc:cs.length=z) (hro:st.ro≤id):
  ∃st' o,st'.get id= .ok (.cells t cs)∧ba st st' (· =id)∧st'.h=st.h∧ ∀{β:Type} (K:Kv β),ao O z (.mp id 0) v cs st K=K undef st' ⟨[id],.wrote id o⟩:=by
 refine ⟨st.put id (.cells t cs),.cells t (cF old 0 cs),St.aR (St.bM.1 hg).1,ba.put rfl,rfl,fun K=> ?_⟩
 rw [dw hg hc (by omega) hro,jv (by omega)]
theorem pf {a i:Nat} {o:Obj} (h:a≠i):apart ⟨[a],.kept⟩ ⟨[i],.wrote i o⟩=true:=by
 show (![a].contains i)=true
 simp [h.symm]
theorem F3 {i:Nat} {o:Obj}:apart ⟨[],.kept⟩ ⟨[i],.wrote i o⟩=true:=id rfl
theorem ba.yD {st st':St} {p:Nat} (k:ba st st' (· =p)) {j:Nat} {o:Obj} (hj:j≠p) (h:st.get j= .ok o):st'.get j= .ok o:=k.old j o hj h
theorem ba.Dn {st st':St} {p q:Nat→Prop} (k:ba st st' p) (h: ∀j,p j→q j):ba st st' q:=⟨k.ro,k.h,fun j o hj=>k.old j o fun hp=>hj (h j hp)⟩
theorem ba.fresh {a b c:St} {p:Nat→Prop} {i:Nat} (h:ba a b p) (k:ba b c (· =i)) (hi:a.h≤i):ba a c p:=
 ⟨k.ro.trans h.ro,Nat.le_trans h.h k.h,fun j o hj hg=>k.old j o (fun e=>by
  have:=(St.bM.1 hg).1
  omega) (h.old j o hj hg)⟩
def ad {β:Type} (e:Option β) (Q:β→Prop):Prop:= ∃b,e=some b∧Q b
section
variable {β:Type} {Q:β→Prop} {E:Env} {st:St}
theorem ad.step {e e':Option β} (h:e=e') (g:ad e' Q):ad e Q:=h ▸ g
theorem ad.some {b:β} (h:Q b):ad (.some b) Q:=⟨b,rfl,h⟩
theorem ad.mono {e:Option β} {Q':β→Prop} (h:ad e Q) (k: ∀b,Q b→Q' b):ad e Q':=by
 obtain ⟨b,e,h⟩:=h
 exact ⟨b,e,k b h⟩
theorem ad.bind {α:Type} {e:Option α} {R:α→Prop} {K:α→Option β} (h:ad e R) (g: ∀a,R a→ad (K a) Q):ad (aK e K) Q:=by
 obtain ⟨a,e,h⟩:=h
 rw [e]
 exact g a h
theorem ad.wide {F:FuncId} {args:List AV} {Q:AV×St→Prop} (h:ad (ey E F args st) Q):ad ((aG E).wide F args st) Q:=by
 obtain ⟨b,e,h⟩:=h
 exact ⟨b,jF e,h⟩
theorem ad.bare {F:FuncId} {args:List AV} {Q:AV→Prop} (hm:(E.memo F,(E.rule F).isSome)=([],false)) (h:ad (cP E F args) Q):ad ((aG E).bare F args) Q:=by
 obtain ⟨b,e,h⟩:=h
 exact ⟨b,br hm e,h⟩
theorem ad.iD {F:FuncId} {args:List AV} {R:AV×St→Prop} (h:ad ((aG E).wide F args st) R) (h1:E.isLook F=false) (h2:(bz (args.map strip)&& !E.full F)=false) {K:Kv β} (g: ∀v s,R (v,s)→ad (K v s ⟨[],.all st s⟩) Q):ad (ak (aG E) F args st K) Q:=by
 obtain ⟨⟨v,s⟩,e,h⟩:=h
 exact ad.step (js (E:=E) K h1 h2 e) (g v s h)
theorem ad.one {v:AV} (h:VM.one v=true) {e:Option β} (g:ad e Q):ad (af v e) Q:=ad.step (iQ h e) g
theorem ad.loop {σ:Type} {F:σ→Option (Sum σ β)} {I:Nat→σ→Prop} (h: ∀n s,I n s→ad (F s) fun r=>match r with
  | .inl s'=> ∃m,m < n∧I m s'
  | .inr b=>Q b): ∀n s,I n s→ad (bu F s) Q:=by
 intro n
 induction n using Nat.strongRecOn with
 | _ n ih=>
  intro s hs
  obtain ⟨r,e,hr⟩:=h n s hs
  cases r with
  | inl s'=>
   obtain ⟨m,hm,hi⟩:=hr
   rw [bR e]
   exact ih m hm s' hi
  | inr b=>exact ⟨b,bC e,hr⟩
abbrev ub:=List (Nat×TypeId×List AV)
structure Vw (st:St) (l:ub):Prop where
 v: ∀q∈l,st.get q.1= .ok (.cells q.2.1 q.2.2)∧st.ro≤q.1
 nd:(l.map (·.1)).Nodup
 ro:st.ro≤st.h
variable {l l1 l2:ub}
theorem Vw.start (h:st.ro≤st.h):Vw st []:=⟨(fun _ h=>by cases h),List.nodup_nil,h⟩
theorem Vw.get (w:Vw st l) {a:Nat} {t:TypeId} {cs:List AV} (h:(a,t,cs)∈l):st.get a= .ok (.cells t cs):=(w.v _ h).1
theorem Vw.sub {l':ub} (w:Vw st l) (h:List.Sublist l' l):Vw st l':=⟨fun q hq=>w.v q (h.subset hq),(h.map _).nodup w.nd,w.ro⟩
theorem Vw.alloc (w:Vw st l) (t:TypeId) (cs:List AV):Vw (st.add (.cells t cs)) ((st.h,t,cs)::l):=by
 refine ⟨fun q hq=> ?_, ?_,Nat.le_succ_of_le w.ro⟩
 ·rcases List.mem_cons.1 hq with rfl | hq
  ·exact ⟨St.dR,w.ro⟩
  ·exact ⟨St.iF (w.v q hq).1,(w.v q hq).2⟩
 ·rw [List.map_cons,List.nodup_cons]
  refine ⟨fun hm=> ?_,w.nd⟩
  obtain ⟨q,hq,e⟩:=List.mem_map.1 hm
  have h1:=(St.bM.1 (w.v q hq).1).1
  simp only at e
  omega
theorem Vw.putAt {a:Nat} {t t':TypeId} {old:List AV} (w:Vw st (l1++(a,t,old)::l2)) (cs:List AV):Vw (st.put a (.cells t' cs)) (l1++(a,t',cs)::l2):=by
 have hm:(a,t,old)∈l1++(a,t,old)::l2:=List.mem_append_right _ List.mem_cons_self
 have hg:=w.get hm
 have hnd:=w.nd
 rw [List.map_append,List.map_cons] at hnd
 refine ⟨fun q hq=> ?_,by rw [List.map_append,List.map_cons];exact hnd,w.ro⟩
 have other: ∀q∈l1++(a,t,old)::l2,q.1≠a→(st.put a (.cells t' cs)).get q.1= .ok (.cells q.2.1 q.2.2)∧st.ro≤q.1:=fun q hq hne=>
  ⟨by rw [St.aU (fun e=>hne e.symm)];exact (w.v q hq).1,(w.v q hq).2⟩
 rcases List.mem_append.1 hq with hq | hq
 ·refine other q (List.mem_append_left _ hq) fun e=> ?_
  have:=(List.nodup_append.1 hnd).2.2 q.1 (List.mem_map_of_mem hq) a List.mem_cons_self
  exact this e
 ·rcases List.mem_cons.1 hq with rfl | hq
  ·exact ⟨St.aR (St.bM.1 hg).1,(w.v _ hm).2⟩
  ·refine other q (List.mem_append_right _ (List.mem_cons_of_mem _ hq)) fun e=> ?_
   have h1:=(List.nodup_cons.1 (List.nodup_append.1 hnd).2.1).1
   have h2:q.1∈l2.map (·.1):=List.mem_map_of_mem hq
   rw [e] at h2
   exact h1 h2
theorem ad.Hs (w:Vw st l) {ty:TypeId} {cs:List AV} {K:St→Option β} (g: ∀s,s.h=st.h+1→Vw s ((st.h,ty,cs)::l)→ad (K s) Q):ad (bP (st.add (.cells ty cs)) K) Q:=g _ rfl (w.alloc ty cs)
theorem ad.zY {O:qJ} (l1:ub) {a:Nat} {ty:TypeId} {old:List AV} (w:Vw st (l1++(a,ty,old)::l2)) {z:Nat} {v:AV} {cs:List AV} {K:Kv β}
  (g: ∀s fx,s.h=st.h→Vw s (l1++(a,ty,cs)::l2)→ad (K VM.undef s fx) Q) (hz:old.length=z:=by rfl) (hc:cs.length=z:=by rfl):ad (ao O z (.mp a 0) v cs st K) Q:=by
 have hm:(a,ty,old)∈l1++(a,ty,old)::l2:=List.mem_append_right _ List.mem_cons_self
 have e:ao O z (.mp a 0) v cs st K=K VM.undef (st.put a (.cells ty cs)) ⟨[a],.wrote a (.cells ty cs)⟩:=by
  rw [dw (w.get hm) hc (by omega) (w.v _ hm).2,jv (by omega)]
 exact ad.step e (g _ _ rfl (w.putAt cs))
theorem ad.Be {O:qJ} (l1:ub) {a:Nat} {ty:TypeId} {old:List AV} (w:Vw st (l1++(a,ty,old)::l2)) {off:Nat} {v:AV} (hl:off+1≤old.length) {K:Kv β}
  (g: ∀s fx,s.h=st.h→Vw s (l1++(a,ty,cF old off [v])::l2)→ad (K VM.undef s fx) Q):ad (ao O 1 (.mp a off) v [v] st K) Q:=by
 have hm:(a,ty,old)∈l1++(a,ty,old)::l2:=List.mem_append_right _ List.mem_cons_self
 exact ad.step (dw (cs:=[v]) (z:=1) (w.get hm) rfl hl (w.v _ hm).2 K) (g _ _ rfl (w.putAt _))
theorem ad.gm {a:Nat} {ty:TypeId} {cs:List AV} (hm:(a,ty,cs)∈l) (w:Vw st l) {o:Nat} {v:AV} {post:List AV} (hv:cs.drop o=v::post) {K:AV→List Nat→Option β} (g:ad (K v [a]) Q):ad (aA 1 false (.mp a o) st K) Q:=by
 refine ad.step (bF (w.get hm) _ _ _ _) ?_
 rw [hv]
 exact g
theorem ad.gY {a:Nat} {ty:TypeId} {cs:List AV} (hm:(a,ty,cs)∈l) (w:Vw st l) {z:Nat} (hz:cs.length=z) {K:AV→List Nat→Option β} (g:ad (K (.agg cs) [a]) Q):ad (aA z true (.mp a 0) st K) Q:=by
 refine ad.step (bF (w.get hm) _ _ _ _) ?_
 rw [List.drop_zero,GJ hz]
 exact g
theorem ad.eq {e:Option β} {b:β} (h:ad e (· =b)):e= .some b:=by
 obtain ⟨c,e,rfl⟩:=h
 exact e
end
end Go.VM
namespace Go.Lex
open Go.VM
def wh (p:UInt8→Bool) (s:List UInt8):Nat:=(s.takeWhile p).length
def bJ (b:UInt8):Bool:=b==32||b==9||b==10||b==13
def jW (b:UInt8):Bool:=(decide (97≤b.toNat)&&decide (b.toNat≤122))||b==95
def bm (b:UInt8):Bool:=decide (48≤b.toNat)&&decide (b.toNat≤57)
def gT (b:UInt8):Bool:=jW b||bm b||(decide (65≤b.toNat)&&decide (b.toNat≤90))||b==39
def rem:List UInt8→Nat→Option Nat
 | [],_=>none
 | [_],_=>none
 | a::b::l,d=>
  if a=40∧b=42 then (rem l (d+1)).map (· +2)
  else if a=42∧b=41 then (if d=1 then some 2 else (rem l (d - 1)).map (· +2))
  else (rem (b::l) d).map (· +1)
def words:List (List UInt8):=[[108,101,116],[114,101,99],[105,110],[102,117,110],[105,102],[116,104,101,110],[101,108,115,101],[109,97,116,99,104],[119,105,116,104],[116,114,117,101],[102,97,108,115,101],[109,111,100]]
def nA (w:List UInt8):Nat:=if w=[95] then 8 else if words.contains w then 3 else 4
def uY (a:Nat) (c:UInt8):Nat:=a * 10+(c.toNat - 48)
def kV (acc:Nat) (l:List UInt8):Nat:=l.foldl uY acc
theorem BW (a:Nat):kV a []=a:=id rfl
theorem yO (a:Nat) (c:UInt8) (l:List UInt8):kV a (c::l)=kV (uY a c) l:=id rfl
def wU (c:UInt8):Bool:=c==43||c==45
def jf:List UInt8→Nat
 | c:: _=>if wU c then 1 else 0
 | []=>0
def mE (s:List UInt8):Nat×Int:=
 match s with
 | []=>(0,0)
 | e::l=>
  if e=101∨e=69 then
   let d:=wh bm (l.drop (jf l))
   if d=0 then (0,0)
   else
    let x:Int:=((min (kV 0 ((l.drop (jf l)).take d)) 1000000:Nat):Int)
    (1+jf l+d,if l.head?=some 45 then -x else x)
  else (0,0)
def number (s:List UInt8):Nat×Nat:=
 let n:=wh bm s
 if (s.drop n).head?=some 46 then
  let k:=wh bm (s.drop (n+1))
  let x:=mE (s.drop (n+1+k))
  (if n+k > 15∨x.2 - (k:Int) < -22∨x.2 - (k:Int) > 22 then 9 else 6,n+1+k+x.1)
 else (5,n)
def jm:List UInt8→Nat
 | []=>0
 | c::l=>if c=10 then 0 else if c=34 then 1 else jm l+1
def B9 (c:UInt8):Bool:=c==110||c==116||c==92||c==34
def fa:List UInt8→Nat×Nat
 | []=>(9,0)
 | [c]=>if c=10 then (9,0) else if c=34 then (7,1) else (9,1)
 | c::d::l=>
  if c=10 then (9,0) else if c=34 then (7,1)
  else if c=92 then (if B9 d then ((fa l).1,(fa l).2+2) else (9,jm (d::l)+1))
  else ((fa (d::l)).1,(fa (d::l)).2+1)
def jV:List (List UInt8):=[[45,62],[58,58],[60,62],[60,61],[62,61],[43,46],[45,46],[42,46],[47,46],[38,38],[124,124]]
def PY:List UInt8:=[40,41,91,93,44,59,124,61,60,62,43,45,42,47,94,64]
def kJ (c:UInt8):Bool:=PY.contains c
def cut (s:List UInt8):Nat×Nat:=
 match s with
 | []=>(9,0)
 | c::l=>
  if bJ c then (1,wh bJ s)
  else if s.take 2=[40,42] then (match rem (s.drop 2) 1 with | some n=>(2,n+2) | none=>(9,s.length))
  else if jW c then (nA (s.takeWhile gT),wh gT s)
  else if bm c then number s
  else if c=34 then ((fa l).1,(fa l).2+1)
  else if jV.contains (s.take 2) then (8,2)
  else if kJ c then (8,1)
  else (9,if iq s=0 then 1 else iq s)
def na:Nat→List UInt8→List (Nat×List UInt8)
 | 0,_=>[]
 | n+1,s=>match s with
  | []=>[]
  | _:: _=>((cut s).1,s.take (cut s).2)::na n (s.drop (cut s).2)
def tokens (s:List UInt8):List (Nat×List UInt8):=na s.length s
theorem lB (p:UInt8→Bool) (s:List UInt8):wh p s≤s.length:=(List.takeWhile_sublist p).length_le
theorem qx (p:UInt8→Bool) (s:List UInt8):s.take (wh p s)=s.takeWhile p:=by
 unfold wh
 induction s with
 | nil=>rfl
 | cons c l ih=>
  rw [List.takeWhile_cons]
  split
  ·simp [ih]
  ·simp
theorem K0 (p:UInt8→Bool) (s:List UInt8):s.drop (wh p s)=s.dropWhile p:=by
 unfold wh
 induction s with
 | nil=>rfl
 | cons c l ih=>
  rw [List.takeWhile_cons,List.dropWhile_cons]
  split
  ·simp [ih]
  ·simp
theorem Od (p:UInt8→Bool) (s:List UInt8):s.length=wh p s+(s.dropWhile p).length:=by
 rw [← K0,List.length_drop]
 have:=lB p s
 omega
theorem eK (p:UInt8→Bool) (c:UInt8) (l:List UInt8):wh p (c::l)=if p c=true then wh p l+1 else 0:=by
 unfold wh
 rw [List.takeWhile_cons]
 split <;> simp
theorem pR: ∀(s:List UInt8) (d n:Nat),rem s d=some n→2≤n∧n≤s.length
 | [],_,_,h=>by simp [rem] at h
 | [_],_,_,h=>by simp [rem] at h
 | a::b::l,d,n,h=>by
  simp only [rem] at h
  split at h
  ·obtain ⟨m,hm,rfl⟩:=Option.map_eq_some_iff.1 h
   have:=pR l (d+1) m hm
   simp;omega
  ·split at h
   ·split at h
    ·cases h;simp
    ·obtain ⟨m,hm,rfl⟩:=Option.map_eq_some_iff.1 h
     have:=pR l (d - 1) m hm
     simp;omega
   ·obtain ⟨m,hm,rfl⟩:=Option.map_eq_some_iff.1 h
    have:=pR (b::l) d m hm
    simp at this ⊢;omega
theorem Ai: ∀(s:List UInt8),jm s≤s.length
 | []=>Nat.le_refl _
 | c::l=>by
  have:=Ai l
  simp only [jm]
  split
  ·omega
  ·split
   ·simp
   ·simp;exact this
theorem DU: ∀(s:List UInt8),(fa s).2≤s.length
 | []=>Nat.le_refl _
 | [c]=>by
  simp only [fa]
  split
  ·simp
  ·split <;> simp
 | c::d::l=>by
  have h1:=DU l
  have h2:=DU (d::l)
  have h3:=Ai (d::l)
  simp only [fa,List.length_cons] at *
  split
  ·simp
  ·split
   ·simp
   ·split
    ·split
     ·simp;omega
     ·simp;omega
    ·simp;omega
theorem D2 (l:List UInt8):jf l≤l.length:=by
 cases l with
 | nil=>exact Nat.le_refl _
 | cons c l=>simp only [jf];split <;> simp
theorem KU (s:List UInt8):(mE s).1≤s.length:=by
 unfold mE
 cases s with
 | nil=>simp
 | cons e l=>
  dsimp only
  split
  ·have hg:=D2 l
   have hd:=lB bm (l.drop (jf l))
   rw [List.length_drop] at hd
   split
   ·simp
   ·simp only [List.length_cons];omega
  ·simp
theorem zz (s:List UInt8) (h:1≤wh bm s):1≤(number s).2∧(number s).2≤s.length:=by
 unfold number
 have h1:=lB bm s
 dsimp only
 split
 ·rename_i hd
  have hlt:wh bm s < s.length:=by
   rcases Nat.lt_or_ge (wh bm s) s.length with q | q
   ·exact q
   ·rw [List.drop_of_length_le q] at hd;cases hd
  have h2:=lB bm (s.drop (wh bm s+1))
  rw [List.length_drop] at h2
  have h3:=KU (s.drop (wh bm s+1+wh bm (s.drop (wh bm s+1))))
  rw [List.length_drop] at h3
  dsimp only
  omega
 ·exact ⟨h,h1⟩
theorem oH {s:List UInt8} (h:s≠[]):1≤(cut s).2∧(cut s).2≤s.length:=by
 cases s with
 | nil=>exact absurd rfl h
 | cons c l=>
  unfold cut
  dsimp only
  split
  ·rename_i hb
   exact ⟨by rw [eK,if_pos hb];omega,lB _ _⟩
  split
  ·rename_i h2
   have hl:2≤(c::l).length:=by
    have:=congrArg List.length h2
    rw [List.length_take] at this
    simp at this
    simp;omega
   cases hr:rem (List.drop 2 (c::l)) 1 with
   | some n=>
    have:=pR _ _ _ hr
    rw [List.length_drop] at this
    dsimp only;omega
   | none=>dsimp only;omega
  split
  ·rename_i hb
   have hb':gT c=true:=by unfold gT;rw [hb];rfl
   exact ⟨by rw [eK,if_pos hb'];omega,lB _ _⟩
  split
  ·rename_i hb
   exact zz _ (by rw [eK,if_pos hb];omega)
  split
  ·have:=DU l
   simp;omega
  split
  ·rename_i h2
   have hl:2≤(c::l).length:=by
    rcases Nat.lt_or_ge (c::l).length 2 with q | q
    ·exfalso
     have:l=[]:=by
      cases l with
      | nil=>rfl
      | cons d l=>simp at q;omega
     subst this
     simp [jV] at h2
    ·exact q
   dsimp only;omega
  split
  ·simp
  ·have:=tG (l:=c::l) (by simp)
   dsimp only
   split
   ·simp
   ·omega
theorem tO: ∀(n m:Nat) (s:List UInt8),s.length≤n→s.length≤m→na n s=na m s
 | 0,0,_,_,_=>rfl
 | 0,m+1,s,h,_=>by
  have:s=[]:=List.eq_nil_of_length_eq_zero (by omega)
  subst this;rfl
 | n+1,0,s,_,h=>by
  have:s=[]:=List.eq_nil_of_length_eq_zero (by omega)
  subst this;rfl
 | n+1,m+1,[],_,_=>rfl
 | n+1,m+1,c::l,hn,hm=>by
  have hc:=oH (s:=c::l) (by simp)
  simp only [na]
  rw [tO n m ((c::l).drop (cut (c::l)).2) (by rw [List.length_drop];omega) (by rw [List.length_drop];omega)]
theorem fZ {s:List UInt8} (h:s≠[]):tokens s=((cut s).1,s.take (cut s).2)::tokens (s.drop (cut s).2):=by
 cases s with
 | nil=>exact absurd rfl h
 | cons c l=>
  have hc:=oH (s:=c::l) (by simp)
  show na (l.length+1) (c::l)= _
  simp only [na]
  congr 1
  exact tO _ _ _ (by rw [List.length_drop];simp at hc ⊢;omega) (Nat.le_refl _)
theorem nN:tokens []=[]:=rfl
end Go.Lex
namespace Go.Parse
open Go.VM Go.Lex
abbrev aQ:=Nat×List UInt8
inductive T where
 | mk (k tk:Nat) (tx:List UInt8) (kids:List T)
 deriving Inhabited
def T.kids:T→List T | .mk _ _ _ l=>l
def T.kind:T→Nat | .mk k _ _ _=>k
def aZ (t:aQ):Bool:=t.1==1||t.1==2
def nx (r:List aQ):aQ:=
 match r.dropWhile aZ with
 | []=>(0,[])
 | t:: _=>t
def leaf (t:aQ) (ks:List T):T:= .mk 1 t.1 t.2 ks
def eR (t:aQ):T:=leaf t []
def aN (r:List aQ):T:=leaf (nx r) ((r.takeWhile aZ).map eR)
def aJ (r:List aQ):List aQ:=(r.dropWhile aZ).drop 1
def bN (s:List UInt8) (r:List aQ):Bool:=((nx r).1==3||(nx r).1==8)&&(nx r).2==s
def isAny (l:List (List UInt8)) (r:List aQ):Bool:=((nx r).1==3||(nx r).1==8)&&l.any fun s=>s==(nx r).2
def missing (s:List UInt8):T:= .mk 2 0 s []
def bX (s:List UInt8) (r:List aQ):T:=if bN s r then aN r else missing s
def aT (s:List UInt8) (r:List aQ):List aQ:=if bN s r then aJ r else r
abbrev node (k:Nat) (l:List T):T:= .mk k 0 [] l
def fE:List UInt8:=[108,101,116]
def dh:List UInt8:=[114,101,99]
def JR:List UInt8:=[105,110]
def Ep:List UInt8:=[102,117,110]
def Ou:List UInt8:=[105,102]
def ri:List UInt8:=[116,104,101,110]
def qO:List UInt8:=[101,108,115,101]
def rM:List UInt8:=[109,97,116,99,104]
def bp:List UInt8:=[119,105,116,104]
def mW:List UInt8:=[116,114,117,101]
def jC:List UInt8:=[102,97,108,115,101]
def hH:List UInt8:=[101,120,112,114]
def gr:List UInt8:=[112,97,116,116,101,114,110]
def iw:List UInt8:=[61]
def fG:List UInt8:=[45,62]
def gB:List UInt8:=[124]
def uG:List UInt8:=[58,58]
def cy:List UInt8:=[40]
def cj:List UInt8:=[41]
def jb:List UInt8:=[91]
def Kq:List UInt8:=[93]
def H4:List UInt8:=[44]
def Qx:List UInt8:=[59]
def yj:List UInt8:=[95]
def opsOf:Nat→List (List UInt8)
 | 0=>[[124,124]]
 | 1=>[[38,38]]
 | 2=>[[61],[60,62],[60],[60,61],[62],[62,61]]
 | 3=>[[64],[94]]
 | 4=>[[58,58]]
 | 5=>[[43],[45],[43,46],[45,46]]
 | _=>[[42],[47],[42,46],[47,46],[109,111,100]]
def leftOf (k:Nat):Bool:=k==2||k==5||k==6
def bw (pat:Bool) (r:List aQ):Bool:=
 (nx r).1==4||(nx r).1==5||(nx r).1==7||(nx r).1==9||(nx r).1==(if pat then 5 else 6)||isAny [mW,jC,cy,jb,if pat then yj else cy] r
inductive gX where
 | expr
 | whole
 | level (k:Nat)
 | ops (k:Nat) (acc:T)
 | neg
 | args (acc:T)
 | atom (pat:Bool)
 | closed (list pat:Bool)
 | items (list pat:Bool)
 | pattern
 | binding
 | params
 | arm
 | arms
def ji (what:List UInt8) (r:List aQ):T:=if (nx r).1=0 then missing what else node 3 [aN r]
def gV (r:List aQ):List aQ:=if (nx r).1=0 then r else aJ r
def kindOf:Bool→Bool→Nat
 | false,false=>14
 | true,false=>15
 | false,true=>17
 | true,true=>18
def tu (list:Bool):List UInt8:=if list then Qx else H4
def gG (list:Bool):List UInt8:=if list then Kq else cj
abbrev R:=Option (List T×List aQ)
def P:Nat→gX→Nat→List aQ→R
 | 0,_,_,_=>none
 | n+1,.expr,d,r=>if d=64 then some ([ji hH r],gV r) else P n .whole (d+1) r
 | n+1,.whole,d,r=>
  if bN fE r then do
   let (bs,r2) ← P n .binding d (aJ r)
   let (es,r3) ← P n .expr d (aT JR r2)
   some ([node 6 (aN r::bs++[bX JR r2]++es)],r3)
  else if bN Ep r then do
   let (a,r1) ← P n (.atom true) d (aJ r)
   let (ps,r2) ← P n .params d r1
   let (es,r3) ← P n .expr d (aT fG r2)
   some ([node 7 (aN r::a++ps++[bX fG r2]++es)],r3)
  else if bN Ou r then do
   let (a,r1) ← P n .expr d (aJ r)
   let (b,r2) ← P n .expr d (aT ri r1)
   let (c,r3) ← P n .expr d (aT qO r2)
   some ([node 8 (aN r::a++[bX ri r1]++b++[bX qO r2]++c)],r3)
  else if bN rM r then do
   let (a,r1) ← P n .expr d (aJ r)
   let r2:=aT bp r1
   let bar:=if bN gB r2 then [aN r2] else []
   let (b,r3) ← P n .arm d (if bN gB r2 then aJ r2 else r2)
   let (cs,r4) ← P n .arms d r3
   some ([node 9 (aN r::a++[bX bp r1]++bar++b++cs)],r4)
  else P n (.level 0) d r
 | n+1,.level k,d,r=>
  if k=7 then P n .neg d r
  else do
   let (a,r1) ← P n (.level (k+1)) d r
   match a with
   | [t]=>P n (.ops k t) d r1
   | _=>none
 | n+1,.ops k acc,d,r=>
  if isAny (opsOf k) r then do
   let (b,r1) ← P n (.level (if leftOf k then k+1 else k)) d (aJ r)
   P n (.ops k (node 11 (acc::aN r::b))) d r1
  else some ([acc],r)
 | n+1,.neg,d,r=>
  if isAny [[45],[45,46]] r then
   if d=64 then some ([node 12 [aN r,ji hH (aJ r)]],gV (aJ r))
   else do
    let (a,r1) ← P n .neg (d+1) (aJ r)
    some ([node 12 (aN r::a)],r1)
  else do
   let (a,r1) ← P n (.atom false) d r
   match a with
   | [t]=>P n (.args t) d r1
   | _=>none
 | n+1,.args acc,d,r=>
  if bw false r then do
   let (b,r1) ← P n (.atom false) d r
   P n (.args (node 13 (acc::b))) d r1
  else some ([acc],r)
 | n+1,.atom pat,d,r=>
  if bw pat r then
   if (nx r).1=9 then some ([node 3 [aN r]],aJ r)
   else if bN cy r then P n (.closed false pat) d r
   else if bN jb r then P n (.closed true pat) d r
   else some ([aN r],aJ r)
  else some ([missing (if pat then gr else hH)],r)
 | n+1,.closed list pat,d,r=>
  let r1:=aJ r
  if bN (gG list) r1 then some ([node (kindOf list pat) [aN r,aN r1]],aJ r1)
  else do
   let (a,r2) ← P n (if pat then .pattern else .expr) d r1
   let (bs,r3) ← P n (.items list pat) d r2
   some ([node (kindOf list pat) (aN r::a++bs++[bX (gG list) r3])],aT (gG list) r3)
 | n+1,.items list pat,d,r=>
  if bN (tu list) r then do
   let (a,r1) ← P n (if pat then .pattern else .expr) d (aJ r)
   let (bs,r2) ← P n (.items list pat) d r1
   some (aN r::a++bs,r2)
  else some ([],r)
 | n+1,.pattern,d,r=>
  if d=64 then some ([ji gr r],gV r)
  else do
   let (a,r1) ← P n (.atom true) (d+1) r
   if bN uG r1 then do
    let (b,r2) ← P n .pattern (d+1) (aJ r1)
    some ([node 16 (a++aN r1::b)],r2)
   else some (a,r1)
 | n+1,.binding,d,r=>do
  let rc:=if bN dh r then [aN r] else []
  let r0:=if bN dh r then aJ r else r
  let (xs,r1) ← if (nx r0).1=4 then (do
    let (ps,r1) ← P n .params d (aJ r0)
    some (aN r0::ps,r1))
   else P n (.atom true) d r0
  let (es,r2) ← P n .expr d (aT iw r1)
  some (rc++xs++[bX iw r1]++es,r2)
 | n+1,.params,d,r=>
  if bw true r then do
   let (a,r1) ← P n (.atom true) d r
   let (bs,r2) ← P n .params d r1
   some (a++bs,r2)
  else some ([],r)
 | n+1,.arm,d,r=>do
  let (a,r1) ← P n .pattern d r
  let (es,r2) ← P n .expr d (aT fG r1)
  some ([node 10 (a++[bX fG r1]++es)],r2)
 | n+1,.arms,d,r=>
  if bN gB r then do
   let (a,r1) ← P n .arm d (aJ r)
   let (bs,r2) ← P n .arms d r1
   some (aN r::a++bs,r2)
  else some ([],r)
def skip:Nat→List aQ→List T×List aQ
 | 0,r=>([],r)
 | n+1,r=>if (nx r).1≠0∧bN fE r=false then ((aN r::(skip n (aJ r)).1),(skip n (aJ r)).2) else ([],r)
def decls:Nat→List aQ→Option (List T)
 | 0,_=>none
 | n+1,r=>
  if (nx r).1=0 then some [aN r]
  else if bN fE r then do
   let (bs,r1) ← P n .binding 0 (aJ r)
   let l ← decls n r1
   some (node 5 (aN r::bs)::l)
  else do
   let l ← decls n (skip r.length r).2
   some (node 3 (skip r.length r).1::l)
def fuel (r:List aQ):Nat:=30 * (r.length+2)
def doc (r:List aQ):T:=node 4 ((decls (fuel r) r).getD [])
theorem Da (r:List aQ):(r.dropWhile aZ).length≤r.length:=(List.dropWhile_suffix _).length_le
theorem km (r:List aQ):(aJ r).length≤r.length:=by
 unfold aJ
 rw [List.length_drop]
 have:=Da r
 omega
theorem eA {r:List aQ} (h:(nx r).1≠0):(aJ r).length < r.length:=by
 unfold aJ
 rw [List.length_drop]
 have:=Da r
 unfold nx at h
 cases hd:r.dropWhile aZ with
 | nil=>rw [hd] at h;exact absurd rfl h
 | cons t l=>rw [hd] at this;simp at this ⊢;omega
theorem dS {s:List UInt8} {r:List aQ} (h:bN s r=true):(nx r).1≠0:=by
 intro e
 simp [bN,e] at h
theorem jT {l:List (List UInt8)} {r:List aQ} (h:isAny l r=true):(nx r).1≠0:=by
 intro e
 simp [isAny,e] at h
theorem ju {pat:Bool} {r:List aQ} (h:bw pat r=true):(nx r).1≠0:=by
 intro e
 cases pat <;> simp [bw,isAny,e] at h
theorem iY (s:List UInt8) (r:List aQ):(aT s r).length≤r.length:=by
 unfold aT
 split
 ·exact km r
 ·exact Nat.le_refl _
theorem wF (r:List aQ):(gV r).length≤r.length:=by
 unfold gV
 split
 ·exact Nat.le_refl _
 ·exact km r
def dN:gX→Nat
 | .expr=>13
 | .whole=>12
 | .level k=>11 - k
 | .ops _ _=>0
 | .neg=>3
 | .args _=>2
 | .atom _=>1
 | .closed _ _=>0
 | .items _ _=>0
 | .pattern=>13
 | .binding=>14
 | .params=>2
 | .arm=>14
 | .arms=>0
def HI:gX→Prop
 | .level k=>k≤7
 | .ops k _=>k≤6
 | _=>True
def single:gX→Bool
 | .items _ _=>false
 | .binding=>false
 | .params=>false
 | .arms=>false
 | _=>true
def MO:gX→List aQ→Prop
 | .atom pat,r=>bw pat r=true
 | .closed _ _,r=>(nx r).1≠0
 | _,_=>False
def at':gX→List aQ→Prop
 | .closed _ _,r=>(nx r).1≠0
 | _,_=>True
structure MD (job:gX) (r:List aQ) (x:R):Prop where
 some: ∃l r',x=some (l,r')∧r'.length≤r.length∧(single job=true→ ∃t,l=[t])∧(MO job r→r'.length < r.length)
theorem cf {job:gX} {r r':List aQ} {l:List T} {x:R} (h:x= .some (l,r')) (h1:r'.length≤r.length) (h2:single job=true→ ∃t,l=[t]) (h3:MO job r→r'.length < r.length):MD job r x:=⟨⟨l,r',h,h1,h2,h3⟩⟩
theorem Mn: ∀(N:Nat) (job:gX) (d:Nat) (r:List aQ),HI job→at' job r→16 * r.length+dN job < N→MD job r (P N job d r):=by
 intro N
 induction N with
 | zero=>intro job d r _ _ h;omega
 | succ n ih=>
  intro job d r ho ha h
  have one: ∀{job:gX} {d:Nat} {r:List aQ},HI job→at' job r→16 * r.length+dN job < n→single job=true→ ∃t r',P n job d r=some ([t],r')∧r'.length≤r.length∧(MO job r→r'.length < r.length):=by
   intro job d r h1 h2 h3 h4
   obtain ⟨l,r',e,k1,k2,k3⟩:=(ih job d r h1 h2 h3).some
   obtain ⟨t,rfl⟩:=k2 h4
   exact ⟨t,r',e,k1,k3⟩
  have many: ∀{job:gX} {d:Nat} {r:List aQ},HI job→at' job r→16 * r.length+dN job < n→ ∃l r',P n job d r=some (l,r')∧r'.length≤r.length:=by
   intro job d r h1 h2 h3
   obtain ⟨l,r',e,k1,_,_⟩:=(ih job d r h1 h2 h3).some
   exact ⟨l,r',e,k1⟩
  cases job with
  | expr=>
   simp only [P]
   by_cases hd:d=64
   ·rw [if_pos hd]
    exact cf rfl (wF r) (fun _=>⟨_,rfl⟩) (fun f=>f.elim)
   ·rw [if_neg hd]
    simp only [dN] at h
    obtain ⟨t,r',e,k1,_⟩:=one (job:= .whole) (d:=d+1) (r:=r) trivial trivial (by simp only [dN];omega) rfl
    exact cf e k1 (fun _=>⟨_,rfl⟩) (fun f=>f.elim)
  | whole=>
   simp only [dN] at h
   simp only [P]
   by_cases h1:bN fE r=true
   ·rw [if_pos h1]
    have ht:=eA (dS h1)
    obtain ⟨bs,r2,e2,k2⟩:=many (job:= .binding) (d:=d) (r:=aJ r) trivial trivial (by simp only [dN];omega)
    have hn:=iY JR r2
    obtain ⟨t,r3,e3,k3,_⟩:=one (job:= .expr) (d:=d) (r:=aT JR r2) trivial trivial (by simp only [dN];omega) rfl
    refine cf (l:=[node 6 (aN r::bs++[bX JR r2]++[t])]) (r':=r3) ?_ (by omega) (fun _=>⟨_,rfl⟩) (fun f=>f.elim)
    simp only [e2,e3,bind,Option.bind]
   rw [if_neg h1]
   by_cases h2:bN Ep r=true
   ·rw [if_pos h2]
    have ht:=eA (dS h2)
    obtain ⟨a,r1,e1,k1,_⟩:=one (job:= .atom true) (d:=d) (r:=aJ r) trivial trivial (by simp only [dN];omega) rfl
    obtain ⟨ps,r2,e2,k2⟩:=many (job:= .params) (d:=d) (r:=r1) trivial trivial (by simp only [dN];omega)
    have hn:=iY fG r2
    obtain ⟨t,r3,e3,k3,_⟩:=one (job:= .expr) (d:=d) (r:=aT fG r2) trivial trivial (by simp only [dN];omega) rfl
    refine cf (l:=[node 7 (aN r::[a]++ps++[bX fG r2]++[t])]) (r':=r3) ?_ (by omega) (fun _=>⟨_,rfl⟩) (fun f=>f.elim)
    simp only [e1,e2,e3,bind,Option.bind]
   rw [if_neg h2]
   by_cases h3:bN Ou r=true
   ·rw [if_pos h3]
    have ht:=eA (dS h3)
    obtain ⟨a,r1,e1,k1,_⟩:=one (job:= .expr) (d:=d) (r:=aJ r) trivial trivial (by simp only [dN];omega) rfl
    have hn1:=iY ri r1
    obtain ⟨b,r2,e2,k2,_⟩:=one (job:= .expr) (d:=d) (r:=aT ri r1) trivial trivial (by simp only [dN];omega) rfl
    have hn2:=iY qO r2
    obtain ⟨c,r3,e3,k3,_⟩:=one (job:= .expr) (d:=d) (r:=aT qO r2) trivial trivial (by simp only [dN];omega) rfl
    refine cf (l:=[node 8 (aN r::[a]++[bX ri r1]++[b]++[bX qO r2]++[c])]) (r':=r3) ?_ (by omega) (fun _=>⟨_,rfl⟩) (fun f=>f.elim)
    simp only [e1,e2,e3,bind,Option.bind]
   rw [if_neg h3]
   by_cases h4:bN rM r=true
   ·rw [if_pos h4]
    have ht:=eA (dS h4)
    obtain ⟨a,r1,e1,k1,_⟩:=one (job:= .expr) (d:=d) (r:=aJ r) trivial trivial (by simp only [dN];omega) rfl
    have hn1:=iY bp r1
    have hb:(if bN gB (aT bp r1) then aJ (aT bp r1) else aT bp r1).length≤r1.length:=by
     split
     ·have:=km (aT bp r1);omega
     ·exact hn1
    obtain ⟨b,r3,e2,k2,_⟩:=one (job:= .arm) (d:=d) (r:=if bN gB (aT bp r1) then aJ (aT bp r1) else aT bp r1) trivial trivial (by simp only [dN];omega) rfl
    obtain ⟨cs,r4,e3,k3⟩:=many (job:= .arms) (d:=d) (r:=r3) trivial trivial (by simp only [dN];omega)
    refine cf (l:=[node 9 (aN r::[a]++[bX bp r1]++(if bN gB (aT bp r1) then [aN (aT bp r1)] else [])++[b]++cs)]) (r':=r4) ?_ (by omega) (fun _=>⟨_,rfl⟩) (fun f=>f.elim)
    simp only [e1,e2,e3,bind,Option.bind]
   rw [if_neg h4]
   obtain ⟨t,r',e,k1,_⟩:=one (job:= .level 0) (d:=d) (r:=r) (Nat.zero_le _) trivial (by simp only [dN];omega) rfl
   exact cf e k1 (fun _=>⟨_,rfl⟩) (fun f=>f.elim)
  | level k=>
   have hk:k≤7:=ho
   simp only [dN] at h
   simp only [P]
   by_cases h7:k=7
   ·rw [if_pos h7]
    obtain ⟨t,r',e,k1,_⟩:=one (job:= .neg) (d:=d) (r:=r) trivial trivial (by simp only [dN];omega) rfl
    exact cf e k1 (fun _=>⟨_,rfl⟩) (fun f=>f.elim)
   ·rw [if_neg h7]
    obtain ⟨t,r1,e1,k1,_⟩:=one (job:= .level (k+1)) (d:=d) (r:=r) (show k+1≤7 by omega) trivial (by simp only [dN];omega) rfl
    obtain ⟨u,r2,e2,k2,_⟩:=one (job:= .ops k t) (d:=d) (r:=r1) (show k≤6 by omega) trivial (by simp only [dN];omega) rfl
    refine cf (l:=[u]) (r':=r2) ?_ (by omega) (fun _=>⟨_,rfl⟩) (fun f=>f.elim)
    simp only [e1,e2,bind,Option.bind]
  | ops k acc=>
   have hk:k≤6:=ho
   simp only [dN] at h
   simp only [P]
   by_cases h1:isAny (opsOf k) r=true
   ·rw [if_pos h1]
    have ht:=eA (jT h1)
    obtain ⟨b,r1,e1,k1,_⟩:=one (job:= .level (if leftOf k then k+1 else k)) (d:=d) (r:=aJ r) (show (if leftOf k then k+1 else k)≤7 by split <;> omega) trivial (by simp only [dN];omega) rfl
    obtain ⟨u,r2,e2,k2,_⟩:=one (job:= .ops k (node 11 [acc,aN r,b])) (d:=d) (r:=r1) hk trivial (by simp only [dN];omega) rfl
    refine cf (l:=[u]) (r':=r2) ?_ (by omega) (fun _=>⟨_,rfl⟩) (fun f=>f.elim)
    simp only [e1,e2,bind,Option.bind]
   ·rw [if_neg h1]
    exact cf rfl (Nat.le_refl _) (fun _=>⟨_,rfl⟩) (fun f=>f.elim)
  | neg=>
   simp only [dN] at h
   simp only [P]
   by_cases h1:isAny [[45],[45,46]] r=true
   ·rw [if_pos h1]
    have ht:=eA (jT h1)
    by_cases hd:d=64
    ·rw [if_pos hd]
     have:=wF (aJ r)
     exact cf rfl (by omega) (fun _=>⟨_,rfl⟩) (fun f=>f.elim)
    ·rw [if_neg hd]
     obtain ⟨a,r1,e1,k1,_⟩:=one (job:= .neg) (d:=d+1) (r:=aJ r) trivial trivial (by simp only [dN];omega) rfl
     refine cf (l:=[node 12 [aN r,a]]) (r':=r1) ?_ (by omega) (fun _=>⟨_,rfl⟩) (fun f=>f.elim)
     simp only [e1,bind,Option.bind]
   ·rw [if_neg h1]
    obtain ⟨t,r1,e1,k1,_⟩:=one (job:= .atom false) (d:=d) (r:=r) trivial trivial (by simp only [dN];omega) rfl
    obtain ⟨u,r2,e2,k2,_⟩:=one (job:= .args t) (d:=d) (r:=r1) trivial trivial (by simp only [dN];omega) rfl
    refine cf (l:=[u]) (r':=r2) ?_ (by omega) (fun _=>⟨_,rfl⟩) (fun f=>f.elim)
    simp only [e1,e2,bind,Option.bind]
  | args acc=>
   simp only [dN] at h
   simp only [P]
   by_cases h1:bw false r=true
   ·rw [if_pos h1]
    obtain ⟨t,r1,e1,k1,f1⟩:=one (job:= .atom false) (d:=d) (r:=r) trivial trivial (by simp only [dN];omega) rfl
    have ht:=f1 h1
    obtain ⟨u,r2,e2,k2,_⟩:=one (job:= .args (node 13 [acc,t])) (d:=d) (r:=r1) trivial trivial (by simp only [dN];omega) rfl
    refine cf (l:=[u]) (r':=r2) ?_ (by omega) (fun _=>⟨_,rfl⟩) (fun f=>f.elim)
    simp only [e1,e2,bind,Option.bind]
   ·rw [if_neg h1]
    exact cf rfl (Nat.le_refl _) (fun _=>⟨_,rfl⟩) (fun f=>f.elim)
  | atom pat=>
   simp only [dN] at h
   simp only [P]
   by_cases h1:bw pat r=true
   ·rw [if_pos h1]
    have hnx:=ju h1
    have ht:=eA hnx
    by_cases h9:(nx r).1=9
    ·rw [if_pos h9]
     exact cf rfl (by omega) (fun _=>⟨_,rfl⟩) (fun _=>ht)
    rw [if_neg h9]
    by_cases h2:bN cy r=true
    ·rw [if_pos h2]
     obtain ⟨t,r1,e1,k1,f1⟩:=one (job:= .closed false pat) (d:=d) (r:=r) trivial hnx (by simp only [dN];omega) rfl
     exact cf e1 k1 (fun _=>⟨_,rfl⟩) (fun _=>f1 hnx)
    rw [if_neg h2]
    by_cases h3:bN jb r=true
    ·rw [if_pos h3]
     obtain ⟨t,r1,e1,k1,f1⟩:=one (job:= .closed true pat) (d:=d) (r:=r) trivial hnx (by simp only [dN];omega) rfl
     exact cf e1 k1 (fun _=>⟨_,rfl⟩) (fun _=>f1 hnx)
    rw [if_neg h3]
    exact cf rfl (by omega) (fun _=>⟨_,rfl⟩) (fun _=>ht)
   ·rw [if_neg h1]
    exact cf rfl (Nat.le_refl _) (fun _=>⟨_,rfl⟩) (fun f=>absurd f h1)
  | closed list pat=>
   have hnx:(nx r).1≠0:=ha
   have ht:=eA hnx
   simp only [dN] at h
   simp only [P]
   by_cases h1:bN (gG list) (aJ r)=true
   ·rw [if_pos h1]
    have:=km (aJ r)
    exact cf rfl (by omega) (fun _=>⟨_,rfl⟩) (fun _=>by omega)
   ·rw [if_neg h1]
    obtain ⟨t,r2,e1,k1,_⟩:=one (job:=if pat then .pattern else .expr) (d:=d) (r:=aJ r) (by cases pat <;> trivial) (by cases pat <;> trivial) (by cases pat <;> simp only [dN,if_true,Bool.false_eq_true,if_false] <;> omega) (by cases pat <;> rfl)
    obtain ⟨bs,r3,e2,k2⟩:=many (job:= .items list pat) (d:=d) (r:=r2) trivial trivial (by simp only [dN];omega)
    have hn:=iY (gG list) r3
    refine cf (l:=[node (kindOf list pat) (aN r::[t]++bs++[bX (gG list) r3])]) (r':=aT (gG list) r3) ?_ (by omega) (fun _=>⟨_,rfl⟩) (fun _=>by omega)
    simp only [e1,e2,bind,Option.bind]
  | items list pat=>
   simp only [dN] at h
   simp only [P]
   by_cases h1:bN (tu list) r=true
   ·rw [if_pos h1]
    have ht:=eA (dS h1)
    obtain ⟨t,r2,e1,k1,_⟩:=one (job:=if pat then .pattern else .expr) (d:=d) (r:=aJ r) (by cases pat <;> trivial) (by cases pat <;> trivial) (by cases pat <;> simp only [dN,if_true,Bool.false_eq_true,if_false] <;> omega) (by cases pat <;> rfl)
    obtain ⟨bs,r3,e2,k2⟩:=many (job:= .items list pat) (d:=d) (r:=r2) trivial trivial (by simp only [dN];omega)
    refine cf (l:=aN r::[t]++bs) (r':=r3) ?_ (by omega) (fun f=>by cases f) (fun f=>f.elim)
    simp only [e1,e2,bind,Option.bind]
   ·rw [if_neg h1]
    exact cf rfl (Nat.le_refl _) (fun f=>by cases f) (fun f=>f.elim)
  | pattern=>
   simp only [dN] at h
   simp only [P]
   by_cases hd:d=64
   ·rw [if_pos hd]
    exact cf rfl (wF r) (fun _=>⟨_,rfl⟩) (fun f=>f.elim)
   ·rw [if_neg hd]
    obtain ⟨a,r1,e1,k1,_⟩:=one (job:= .atom true) (d:=d+1) (r:=r) trivial trivial (by simp only [dN];omega) rfl
    by_cases h1:bN uG r1=true
    ·have ht:=eA (dS h1)
     obtain ⟨b,r2,e2,k2,_⟩:=one (job:= .pattern) (d:=d+1) (r:=aJ r1) trivial trivial (by simp only [dN];omega) rfl
     refine cf (l:=[node 16 ([a]++aN r1::[b])]) (r':=r2) ?_ (by omega) (fun _=>⟨_,rfl⟩) (fun f=>f.elim)
     simp only [e1,e2,bind,Option.bind,if_pos h1]
    ·refine cf (l:=[a]) (r':=r1) ?_ (by omega) (fun _=>⟨_,rfl⟩) (fun f=>f.elim)
     simp only [e1,bind,Option.bind,if_neg h1]
  | binding=>
   simp only [dN] at h
   simp only [P]
   have h0:(if bN dh r then aJ r else r).length≤r.length:=by
    split
    ·exact km r
    ·exact Nat.le_refl _
   generalize (if bN dh r then aJ r else r)=r0 at h0
   by_cases h4:(nx r0).1=4
   ·have ht:=eA (show (nx r0).1≠0 by omega)
    obtain ⟨ps,r1,e1,k1⟩:=many (job:= .params) (d:=d) (r:=aJ r0) trivial trivial (by simp only [dN];omega)
    have hn:=iY iw r1
    obtain ⟨t,r2,e2,k2,_⟩:=one (job:= .expr) (d:=d) (r:=aT iw r1) trivial trivial (by simp only [dN];omega) rfl
    refine cf (l:=(if bN dh r then [aN r] else [])++(aN r0::ps)++[bX iw r1]++[t]) (r':=r2) ?_ (by omega) (fun f=>by cases f) (fun f=>f.elim)
    simp only [if_pos h4,e1,e2,bind,Option.bind]
   ·obtain ⟨a,r1,e1,k1,_⟩:=one (job:= .atom true) (d:=d) (r:=r0) trivial trivial (by simp only [dN];omega) rfl
    have hn:=iY iw r1
    obtain ⟨t,r2,e2,k2,_⟩:=one (job:= .expr) (d:=d) (r:=aT iw r1) trivial trivial (by simp only [dN];omega) rfl
    refine cf (l:=(if bN dh r then [aN r] else [])++[a]++[bX iw r1]++[t]) (r':=r2) ?_ (by omega) (fun f=>by cases f) (fun f=>f.elim)
    simp only [if_neg h4,e1,e2,bind,Option.bind]
  | params=>
   simp only [dN] at h
   simp only [P]
   by_cases h1:bw true r=true
   ·rw [if_pos h1]
    obtain ⟨t,r1,e1,k1,f1⟩:=one (job:= .atom true) (d:=d) (r:=r) trivial trivial (by simp only [dN];omega) rfl
    have ht:=f1 h1
    obtain ⟨bs,r2,e2,k2⟩:=many (job:= .params) (d:=d) (r:=r1) trivial trivial (by simp only [dN];omega)
    refine cf (l:=[t]++bs) (r':=r2) ?_ (by omega) (fun f=>by cases f) (fun f=>f.elim)
    simp only [e1,e2,bind,Option.bind]
   ·rw [if_neg h1]
    exact cf rfl (Nat.le_refl _) (fun f=>by cases f) (fun f=>f.elim)
  | arm=>
   simp only [dN] at h
   simp only [P]
   obtain ⟨a,r1,e1,k1,_⟩:=one (job:= .pattern) (d:=d) (r:=r) trivial trivial (by simp only [dN];omega) rfl
   have hn:=iY fG r1
   obtain ⟨t,r2,e2,k2,_⟩:=one (job:= .expr) (d:=d) (r:=aT fG r1) trivial trivial (by simp only [dN];omega) rfl
   refine cf (l:=[node 10 ([a]++[bX fG r1]++[t])]) (r':=r2) ?_ (by omega) (fun _=>⟨_,rfl⟩) (fun f=>f.elim)
   simp only [e1,e2,bind,Option.bind]
  | arms=>
   simp only [dN] at h
   simp only [P]
   by_cases h1:bN gB r=true
   ·rw [if_pos h1]
    have ht:=eA (dS h1)
    obtain ⟨t,r1,e1,k1,_⟩:=one (job:= .arm) (d:=d) (r:=aJ r) trivial trivial (by simp only [dN];omega) rfl
    obtain ⟨bs,r2,e2,k2⟩:=many (job:= .arms) (d:=d) (r:=r1) trivial trivial (by simp only [dN];omega)
    refine cf (l:=aN r::[t]++bs) (r':=r2) ?_ (by omega) (fun f=>by cases f) (fun f=>f.elim)
    simp only [e1,e2,bind,Option.bind]
   ·rw [if_neg h1]
    exact cf rfl (Nat.le_refl _) (fun f=>by cases f) (fun f=>f.elim)
theorem zX: ∀(n:Nat) (r:List aQ),(skip n r).2.length≤r.length
 | 0,_=>Nat.le_refl _
 | n+1,r=>by
  simp only [skip]
  split
  ·have:=zX n (aJ r)
   have:=km r
   simp only;omega
  ·exact Nat.le_refl _
theorem LD {r:List aQ} (h0:(nx r).1≠0) (h1:bN fE r=false):(skip r.length r).2.length < r.length:=by
 have ht:=eA h0
 obtain ⟨n,hn⟩: ∃n,r.length=n+1:=⟨r.length - 1,by omega⟩
 rw [hn]
 simp only [skip,if_pos (And.intro h0 h1)]
 have:=zX n (aJ r)
 omega
theorem qg: ∀(N:Nat) (r:List aQ),17 * r.length+16 < N→ ∃l,decls N r=some l:=by
 intro N
 induction N with
 | zero=>intro r h;omega
 | succ n ih=>
  intro r h
  simp only [decls]
  by_cases h0:(nx r).1=0
  ·rw [if_pos h0];exact ⟨_,rfl⟩
  rw [if_neg h0]
  by_cases h1:bN fE r=true
  ·rw [if_pos h1]
   have ht:=eA h0
   obtain ⟨bs,r1,e1,k1,_,_⟩:=(Mn n .binding 0 (aJ r) trivial trivial (by simp only [dN];omega)).some
   obtain ⟨l,e2⟩:=ih r1 (by omega)
   exact ⟨node 5 (aN r::bs)::l,by simp only [e1,e2,bind,Option.bind]⟩
  ·rw [if_neg h1]
   have ht:=LD h0 (by simpa using h1)
   obtain ⟨l,e2⟩:=ih (skip r.length r).2 (by omega)
   exact ⟨node 3 (skip r.length r).1::l,by simp only [e2,bind,Option.bind]⟩
theorem kY (r:List aQ): ∃l,decls (fuel r) r=some l∧doc r=node 4 l:=by
 obtain ⟨l,e⟩:=qg (fuel r) r (by unfold fuel;omega)
 exact ⟨l,e,by unfold doc;rw [e];rfl⟩
end Go.Parse
namespace Go.Lex
open Go.VM
theorem HX {n n' b0 b1 b2 b3 c1 c2 c3:Nat} (h0:mG n b0 b1 b2 b3≠0) (e1:1 < mG n b0 b1 b2 b3→c1=b1) (e2:2 < mG n b0 b1 b2 b3→c2=b2) (e3:3 < mG n b0 b1 b2 b3→c3=b3) (hl:mG n b0 b1 b2 b3≤n'):
  mG n' b0 c1 c2 c3=mG n b0 b1 b2 b3:=by
 by_cases a1:b0 < 128
 ·unfold mG;rw [if_pos a1,if_pos a1]
 by_cases a2:194≤b0∧b0≤223
 ·by_cases q:n < 2∨b1 < 128∨191 < b1
  ·exact absurd (by unfold mG;rw [if_neg a1,if_pos a2,if_pos q]) h0
  ·have e:mG n b0 b1 b2 b3=2:=by unfold mG;rw [if_neg a1,if_pos a2,if_neg q]
   rw [e] at e1 hl ⊢
   have:=e1 (by omega)
   subst this
   unfold mG;rw [if_neg a1,if_pos a2,if_neg (by omega)]
 by_cases a3:224≤b0∧b0≤239
 ·by_cases q:n < 3∨b1 < 128∨191 < b1∨b2 < 128∨191 < b2∨(b0=224∧b1 < 160)∨(b0=237∧159 < b1)
  ·exact absurd (by unfold mG;rw [if_neg a1,if_neg a2,if_pos a3,if_pos q]) h0
  ·have e:mG n b0 b1 b2 b3=3:=by unfold mG;rw [if_neg a1,if_neg a2,if_pos a3,if_neg q]
   rw [e] at e1 e2 hl ⊢
   have:=e1 (by omega)
   have:=e2 (by omega)
   subst_vars
   unfold mG;rw [if_neg a1,if_neg a2,if_pos a3,if_neg (by omega)]
 by_cases a4:240≤b0∧b0≤244
 ·by_cases q:n < 4∨b1 < 128∨191 < b1∨b2 < 128∨191 < b2∨b3 < 128∨191 < b3∨(b0=240∧b1 < 144)∨(b0=244∧143 < b1)
  ·exact absurd (by unfold mG;rw [if_neg a1,if_neg a2,if_neg a3,if_pos a4,if_pos q]) h0
  ·have e:mG n b0 b1 b2 b3=4:=by unfold mG;rw [if_neg a1,if_neg a2,if_neg a3,if_pos a4,if_neg q]
   rw [e] at e1 e2 e3 hl ⊢
   have:=e1 (by omega)
   have:=e2 (by omega)
   have:=e3 (by omega)
   subst_vars
   unfold mG;rw [if_neg a1,if_neg a2,if_neg a3,if_pos a4,if_neg (by omega)]
 ·exact absurd (by unfold mG;rw [if_neg a1,if_neg a2,if_neg a3,if_neg a4]) h0
theorem H2 {n b0 b1 b2 b3:Nat} (h:2≤mG n b0 b1 b2 b3):128≤b0∧(128≤b1)∧(2 < mG n b0 b1 b2 b3→128≤b2)∧(3 < mG n b0 b1 b2 b3→128≤b3):=by
 unfold mG at *
 by_cases a1:b0 < 128
 ·rw [if_pos a1] at h;omega
 rw [if_neg a1] at *
 by_cases a2:194≤b0∧b0≤223
 ·rw [if_pos a2] at *
  by_cases q:n < 2∨b1 < 128∨191 < b1
  ·rw [if_pos q] at h;omega
  ·rw [if_neg q] at *;omega
 rw [if_neg a2] at *
 by_cases a3:224≤b0∧b0≤239
 ·rw [if_pos a3] at *
  by_cases q:n < 3∨b1 < 128∨191 < b1∨b2 < 128∨191 < b2∨(b0=224∧b1 < 160)∨(b0=237∧159 < b1)
  ·rw [if_pos q] at h;omega
  ·rw [if_neg q] at *;omega
 rw [if_neg a3] at *
 by_cases a4:240≤b0∧b0≤244
 ·rw [if_pos a4] at *
  by_cases q:n < 4∨b1 < 128∨191 < b1∨b2 < 128∨191 < b2∨b3 < 128∨191 < b3∨(b0=240∧b1 < 144)∨(b0=244∧143 < b1)
  ·rw [if_pos q] at h;omega
  ·rw [if_neg q] at *;omega
 ·rw [if_neg a4] at h;omega
theorem I6 (n b0 b1 b2 b3:Nat):mG n b0 b1 b2 b3≤4:=by
 unfold mG
 repeat' split
 all_goals omega
theorem BG {s t:List UInt8} (h:iq s≠0) (he: ∀j,j < iq s→t.getD j 0=s.getD j 0) (hl:iq s≤t.length):iq t=iq s:=by
 have h0:=he 0 (by omega)
 unfold iq at h he hl ⊢
 rw [h0]
 exact HX h (fun k=>by rw [he 1 k]) (fun k=>by rw [he 2 k]) (fun k=>by rw [he 3 k]) hl
theorem getD_take {s:List UInt8} {n j:Nat} (h:j < n):(s.take n).getD j 0=s.getD j 0:=by
 rw [List.getD_eq_getElem?_getD,List.getD_eq_getElem?_getD,List.getElem?_take,if_pos h]
theorem qA (s:List UInt8) (n j:Nat):(s.drop n).getD j 0=s.getD (n+j) 0:=by
 rw [List.getD_eq_getElem?_getD,List.getD_eq_getElem?_getD,List.getElem?_drop]
theorem Jt {s x:List UInt8} {j:Nat} (h:j < s.length):(s++x).getD j 0=s.getD j 0:=by
 rw [List.getD_eq_getElem?_getD,List.getD_eq_getElem?_getD,List.getElem?_append_left h]
theorem C1 {s:List UInt8} (hne:s≠[]) (h:iq s≠0) {n:Nat} (hn:iq s≤n):iq (s.take n)=iq s:=
 BG h (fun j hj=>getD_take (by omega)) (by rw [List.length_take];have:=tG hne;omega)
theorem E9 {s:List UInt8} (hne:s≠[]) (h:iq s≠0) (x:List UInt8):iq (s++x)=iq s:=by
 have:=tG hne
 exact BG h (fun j hj=>Jt (by omega)) (by rw [List.length_append];omega)
theorem Bj {s:List UInt8} (h:2≤iq s) {j:Nat} (hj:j < iq s):128≤(s.getD j 0).toNat:=by
 have h4:=I6 s.length (s.getD 0 0).toNat (s.getD 1 0).toNat (s.getD 2 0).toNat (s.getD 3 0).toNat
 unfold iq at h hj
 have:=H2 h
 have hj4:j < 4:=by omega
 match j,hj4 with
 | 0,_=>exact this.1
 | 1,_=>exact this.2.1
 | 2,_=>exact this.2.2.1 hj
 | 3,_=>exact this.2.2.2 hj
theorem sL {s:List UInt8} (hne:s≠[]) (h:cG s=true):iq s≠0∧cG (s.drop (iq s))=true:=by
 rw [jZ hne] at h
 by_cases z:iq s=0
 ·rw [if_pos z] at h;cases h
 ·rw [if_neg z] at h;exact ⟨z,h⟩
theorem qk: ∀(n:Nat) (a b:List UInt8),a.length≤n→cG a=true→cG (a++b)=cG b
 | n,[],b,_,_=>rfl
 | 0,_:: _,_,h,_=>by simp at h
 | n+1,c::a,b,h,hv=>by
  obtain ⟨z,hz⟩:=sL (s:=c::a) (by simp) hv
  have hle:=tG (l:=c::a) (by simp)
  have hz2:=E9 (s:=c::a) (by simp) z b
  rw [jZ (l:=c::a++b) (by simp),hz2,if_neg z,List.drop_append_of_le_length hle]
  exact qk n _ b (by rw [List.length_drop];simp at h ⊢;omega) hz
def Bd (s:List UInt8) (n:Nat):Prop:=n=0∨(s.getD n 0).toNat < 128∨(s.getD (n - 1) 0).toNat < 128
theorem uC: ∀(m:Nat) (s:List UInt8) (n:Nat),s.length≤m→cG s=true→n≤s.length→Bd s n→cG (s.take n)=true∧cG (s.drop n)=true
 | m,s,0,_,hv,_,_=>⟨rfl,hv⟩
 | m,[],n+1,_,_,h,_=>by simp at h
 | 0,_:: _,_,h,_,_,_=>by simp at h
 | m+1,c::l,n+1,hm,hv,hn,hb=>by
  obtain ⟨z,hz⟩:=sL (s:=c::l) (by simp) hv
  have hle:=tG (l:=c::l) (by simp)
  by_cases hzn:iq (c::l)≤n+1
  ·have hlen:((c::l).drop (iq (c::l))).length=(c::l).length - iq (c::l):=List.length_drop
   have hb2:Bd ((c::l).drop (iq (c::l))) (n+1 - iq (c::l)):=by
    rcases hb with hb | hb | hb
    ·omega
    ·exact .inr (.inl (by rw [qA,show iq (c::l)+(n+1 - iq (c::l))=n+1 by omega];exact hb))
    ·by_cases e:n+1 - iq (c::l)=0
     ·exact .inl e
     ·exact .inr (.inr (by rw [qA,show iq (c::l)+(n+1 - iq (c::l) - 1)=n+1 - 1 by omega];exact hb))
   have ih:=uC m ((c::l).drop (iq (c::l))) (n+1 - iq (c::l)) (by simp at hm hlen ⊢;omega) hz (by omega) hb2
   have h1:=C1 (s:=c::l) (by simp) z hzn
   have hne:(c::l).take (n+1)≠[]:=by simp
   constructor
   ·rw [jZ hne,h1,if_neg z,List.drop_take]
    exact ih.1
   ·have e:(c::l).drop (n+1)=((c::l).drop (iq (c::l))).drop (n+1 - iq (c::l)):=by
     rw [List.drop_drop];congr 1;omega
    rw [e];exact ih.2
  ·exfalso
   have k1:=Bj (s:=c::l) (by omega) (j:=n+1) (by omega)
   have k2:=Bj (s:=c::l) (by omega) (j:=n+1 - 1) (by omega)
   rcases hb with hb | hb | hb <;> omega
def Asc (s:List UInt8) (n:Nat):Prop:= ∀j,j < n→(s.getD j 0).toNat < 128
theorem Di {s:List UInt8} {n:Nat} (h:Asc s n):Bd s n:=by
 cases n with
 | zero=>exact .inl rfl
 | succ n=>exact .inr (.inr (h n (Nat.lt_succ_self n)))
theorem asc_add {s:List UInt8} {a b:Nat} (h:Asc s a) (k:Asc (s.drop a) b):Asc s (a+b):=by
 intro j hj
 by_cases q:j < a
 ·exact h j q
 ·have:=k (j - a) (by omega)
  rw [qA,show a+(j - a)=j by omega] at this
  exact this
theorem tI {p:UInt8→Bool} (hp: ∀b,p b=true→b.toNat < 128): ∀s:List UInt8,Asc s (wh p s)
 | []=>fun j hj=>absurd hj (Nat.not_lt_zero j)
 | c::l=>by
  rw [eK]
  intro j hj
  cases hc:p c with
  | false=>rw [hc] at hj;simp at hj
  | true=>
   rw [hc,if_pos rfl] at hj
   cases j with
   | zero=>exact hp c hc
   | succ j=>exact tI hp l j (by omega)
theorem QI {p:UInt8→Bool} (h:((List.range 256).all fun n=>p (UInt8.ofNat n))=true) (b:UInt8):p b=true:=by
 have:=List.all_eq_true.1 h b.toNat (List.mem_range.2 (UInt8.toNat_lt b))
 simpa using this
theorem vU {p:UInt8→Bool} (h:((List.range 256).all fun n=> !(p (UInt8.ofNat n))||Nat.blt (UInt8.ofNat n).toNat 128)=true) (b:UInt8) (hb:p b=true):b.toNat < 128:=by
 have:=QI (p:=fun b=> !(p b)||Nat.blt b.toNat 128) h b
 simp only [hb,Bool.not_true,Bool.false_or] at this
 exact Nat.le_of_ble_eq_true this
theorem Hg (b:UInt8) (hb:bJ b=true):b.toNat < 128:=vU (by decide+kernel) b hb
theorem Lz (b:UInt8) (hb:gT b=true):b.toNat < 128:=vU (by decide+kernel) b hb
theorem AD (b:UInt8) (hb:bm b=true):b.toNat < 128:=vU (by decide+kernel) b hb
theorem asc_one (b:UInt8) (hb:kJ b=true):b.toNat < 128:=vU (by decide+kernel) b hb
theorem J8 (b:UInt8) (hb:wU b=true):b.toNat < 128:=vU (by decide+kernel) b hb
theorem Ir (s:List UInt8):Asc s (mE s).1:=by
 unfold mE
 cases s with
 | nil=>exact fun j hj=>absurd hj (Nat.not_lt_zero j)
 | cons e l=>
  dsimp only
  split
  ·rename_i he
   split
   ·exact fun j hj=>absurd hj (Nat.not_lt_zero j)
   ·dsimp only
    have h1:Asc (e::l) 1:=by
     intro j hj
     have:j=0:=by omega
     subst this
     rcases he with rfl | rfl <;> exact Nat.le_of_ble_eq_true rfl
    have h2:Asc l (jf l):=by
     cases l with
     | nil=>exact fun j hj=>absurd hj (Nat.not_lt_zero j)
     | cons d r=>
      intro j hj
      simp only [jf] at hj
      cases hd:wU d with
      | false=>rw [hd] at hj;simp at hj
      | true=>
       rw [hd,if_pos rfl] at hj
       have:j=0:=by omega
       subst this
       exact J8 d hd
    have h3:=tI AD (l.drop (jf l))
    refine asc_add (asc_add h1 h2) ?_
    rw [show (e::l).drop (1+jf l)=l.drop (jf l) by rw [Nat.add_comm];rfl]
    exact h3
  ·exact fun j hj=>absurd hj (Nat.not_lt_zero j)
theorem GV {s:List UInt8} {c:UInt8} (h:s.head?=some c):s.getD 0 0=c:=by
 cases s with
 | nil=>cases h
 | cons d l=>cases h;rfl
theorem Ei (s:List UInt8):Asc s (number s).2:=by
 have h1:=tI AD s
 unfold number
 dsimp only
 split
 ·rename_i h46
  refine asc_add (asc_add (asc_add h1 ?_) ?_) ?_
  ·intro j hj
   have:j=0:=by omega
   subst this
   rw [GV h46];decide
  ·exact tI AD _
  ·exact Ir _
 ·exact h1
theorem tl: ∀(s:List UInt8) (d n:Nat),rem s d=some n→s.getD (n - 1) 0=41
 | [],_,_,h=>by simp [rem] at h
 | [_],_,_,h=>by simp [rem] at h
 | a::b::l,d,n,h=>by
  simp only [rem] at h
  split at h
  ·obtain ⟨m,hm,rfl⟩:=Option.map_eq_some_iff.1 h
   have h1:=pR l (d+1) m hm
   have:=tl l (d+1) m hm
   rw [show m+2 - 1=(m - 1)+2 by omega]
   exact this
  ·split at h
   ·rename_i hab
    split at h
    ·cases h;exact hab.2
    ·obtain ⟨m,hm,rfl⟩:=Option.map_eq_some_iff.1 h
     have h1:=pR l (d - 1) m hm
     have:=tl l (d - 1) m hm
     rw [show m+2 - 1=(m - 1)+2 by omega]
     exact this
   ·obtain ⟨m,hm,rfl⟩:=Option.map_eq_some_iff.1 h
    have h1:=pR (b::l) d m hm
    have:=tl (b::l) d m hm
    rw [show m+1 - 1=(m - 1)+1 by omega]
    exact this
theorem B8: ∀(s:List UInt8),(s.getD (jm s) 0).toNat < 128∨(1≤jm s∧s.getD (jm s - 1) 0=34)
 | []=> .inl (by decide)
 | c::l=>by
  simp only [jm]
  split
  ·rename_i h;subst h;exact .inl (Nat.le_of_ble_eq_true rfl)
  ·split
   ·rename_i h;subst h;exact .inr ⟨Nat.le_refl _,rfl⟩
   ·rcases B8 l with h | ⟨h1,h2⟩
    ·exact .inl h
    ·exact .inr ⟨by omega,by rw [show jm l+1 - 1=(jm l - 1)+1 by omega];exact h2⟩
theorem A5: ∀(s:List UInt8),(s.getD (fa s).2 0).toNat < 128∨(1≤(fa s).2∧s.getD ((fa s).2 - 1) 0=34)
 | []=> .inl (by decide)
 | [c]=>by
  simp only [fa]
  split
  ·rename_i h;subst h;exact .inl (Nat.le_of_ble_eq_true rfl)
  ·split
   ·rename_i h;subst h;exact .inr ⟨Nat.le_refl _,rfl⟩
   ·exact .inl (Nat.le_of_ble_eq_true rfl)
 | c::d::l=>by
  simp only [fa]
  split
  ·rename_i h;subst h;exact .inl (Nat.le_of_ble_eq_true rfl)
  ·split
   ·rename_i h;subst h;exact .inr ⟨Nat.le_refl _,rfl⟩
   ·split
    ·split
     ·rcases A5 l with h | ⟨h1,h2⟩
      ·exact .inl h
      ·refine .inr ⟨by dsimp only;omega, ?_⟩
       dsimp only
       rw [show (fa l).2+2 - 1=((fa l).2 - 1)+2 by omega];exact h2
     ·rcases B8 (d::l) with h | ⟨h1,h2⟩
      ·exact .inl h
      ·refine .inr ⟨by dsimp only;omega, ?_⟩
       dsimp only
       rw [show jm (d::l)+1 - 1=(jm (d::l) - 1)+1 by omega];exact h2
    ·rcases A5 (d::l) with h | ⟨h1,h2⟩
     ·exact .inl h
     ·refine .inr ⟨by dsimp only;omega, ?_⟩
      dsimp only
      rw [show (fa (d::l)).2+1 - 1=((fa (d::l)).2 - 1)+1 by omega];exact h2
theorem OQ {s:List UInt8} (hne:s≠[]):Bd s (cut s).2∨(cut s).2=if iq s=0 then 1 else iq s:=by
 cases s with
 | nil=>exact absurd rfl hne
 | cons c l=>
  unfold cut
  dsimp only
  split
  ·exact .inl (Di (tI Hg _))
  split
  ·cases hr:rem (List.drop 2 (c::l)) 1 with
   | some n=>
    have h1:=pR _ _ _ hr
    have:=tl _ _ _ hr
    rw [qA] at this
    refine .inl (.inr (.inr ?_))
    dsimp only
    rw [show n+2 - 1=2+(n - 1) by omega,this];decide
   | none=>
    refine .inl (.inr (.inl ?_))
    dsimp only
    rw [List.getD_eq_getElem?_getD,List.getElem?_eq_none (Nat.le_refl _)];decide
  split
  ·exact .inl (Di (tI Lz _))
  split
  ·exact .inl (Di (Ei _))
  split
  ·rcases A5 l with h | ⟨h1,h2⟩
   ·exact .inl (.inr (.inl h))
   ·refine .inl (.inr (.inr ?_))
    dsimp only
    rw [show (fa l).2+1 - 1=((fa l).2 - 1)+1 by omega]
    have h2:(c::l).getD ((fa l).2 - 1+1) 0=34:=h2
    rw [h2];decide
  split
  ·rename_i h2
   refine .inl (.inr (.inr ?_))
   have hm:(c::l).take 2∈jV:=List.contains_iff_mem.1 h2
   have e:(c::l).getD (2 - 1) 0=((c::l).take 2).getD 1 0:=(getD_take (by omega)).symm
   dsimp only
   rw [e]
   generalize (c::l).take 2=w at hm
   simp only [jV,List.mem_cons,List.not_mem_nil,or_false] at hm
   rcases hm with rfl | rfl | rfl | rfl | rfl | rfl | rfl | rfl | rfl | rfl | rfl <;> decide
  split
  ·rename_i h1
   exact .inl (.inr (.inr (asc_one c h1)))
  ·exact .inr rfl
theorem Gd {s:List UInt8} (hne:s≠[]) (hv:cG s=true):cG (s.take (cut s).2)=true∧cG (s.drop (cut s).2)=true:=by
 have hc:=oH hne
 rcases OQ hne with h | h
 ·exact uC _ s _ (Nat.le_refl _) hv hc.2 h
 ·obtain ⟨z,hz⟩:=sL hne hv
  rw [if_neg z] at h
  rw [h]
  refine ⟨?_,hz⟩
  have hne2:s.take (iq s)≠[]:=by
   intro e
   rw [List.take_eq_nil_iff] at e
   rcases e with e | e
   ·exact z e
   ·exact hne e
  have hl:=tG hne
  rw [jZ hne2,C1 hne z (Nat.le_refl _),if_neg z,List.drop_of_length_le (by rw [List.length_take];omega)]
  rfl
theorem qe {p:UInt8→Bool} (hp:p 10=false) (r:List UInt8): ∀(s:List UInt8),wh p (s++10::r)=wh p s
 | []=>by
  show wh p (10::r)=0
  rw [eK,hp];rfl
 | c::l=>by
  rw [List.cons_append,eK,eK,qe hp r l]
theorem Lo {p:UInt8→Bool} (hp:p 10=false) (s r:List UInt8):(s++10::r).takeWhile p=s.takeWhile p:=by
 rw [← qx p (s++10::r),qe hp, ← qx p s,List.take_append_of_le_length (lB p s)]
theorem vm (x:List UInt8): ∀(s:List UInt8) (d n:Nat),rem s d=some n→rem (s++x) d=some n
 | [],_,_,h=>by simp [rem] at h
 | [_],_,_,h=>by simp [rem] at h
 | a::b::l,d,n,h=>by
  simp only [rem] at h
  show rem (a::b::(l++x)) d= _
  split at h
  ·rename_i c1
   obtain ⟨m,hm,rfl⟩:=Option.map_eq_some_iff.1 h
   simp only [rem,if_pos c1,vm x l (d+1) m hm]
   rfl
  ·rename_i c1
   split at h
   ·rename_i c2
    split at h
    ·rename_i c3
     cases h
     simp only [rem,if_neg c1,if_pos c2,if_pos c3]
    ·rename_i c3
     obtain ⟨m,hm,rfl⟩:=Option.map_eq_some_iff.1 h
     simp only [rem,if_neg c1,if_pos c2,if_neg c3,vm x l (d - 1) m hm]
     rfl
   ·rename_i c2
    obtain ⟨m,hm,rfl⟩:=Option.map_eq_some_iff.1 h
    have ih:rem (b::(l++x)) d=some m:=vm x (b::l) d m hm
    simp only [rem,if_neg c1,if_neg c2,ih]
    rfl
theorem Gg (s r:List UInt8):mE (s++10::r)=mE s:=by
 cases s with
 | nil=>
  show mE (10::r)=mE []
  unfold mE
  dsimp only
  rw [if_neg (by decide)]
 | cons e l=>
  show mE (e::(l++10::r))= _
  have hs:jf (l++10::r)=jf l:=by
   cases l with
   | nil=>rfl
   | cons c l=>rfl
  have hd:(l++10::r).drop (jf l)=l.drop (jf l)++10::r:=List.drop_append_of_le_length (D2 l)
  have hw:=qe (p:=bm) rfl r (l.drop (jf l))
  have ht:(l.drop (jf l)++10::r).take (wh bm (l.drop (jf l)))=(l.drop (jf l)).take (wh bm (l.drop (jf l))):=List.take_append_of_le_length (lB _ _)
  have hh:((l++10::r).head?=some 45)=(l.head?=some 45):=by
   cases l with
   | nil=>simp
   | cons c l=>rfl
  unfold mE
  dsimp only
  simp only [hs,hd,hw,ht,hh]
theorem zD (s:List UInt8):number s=if (s.drop (wh bm s)).head?=some 46 then (if wh bm s+wh bm (s.drop (wh bm s+1)) > 15∨(mE (s.drop (wh bm s+1+wh bm (s.drop (wh bm s+1))))).2 - (wh bm (s.drop (wh bm s+1)):Int) < -22∨(mE (s.drop (wh bm s+1+wh bm (s.drop (wh bm s+1))))).2 - (wh bm (s.drop (wh bm s+1)):Int) > 22 then 9 else 6,wh bm s+1+wh bm (s.drop (wh bm s+1))+(mE (s.drop (wh bm s+1+wh bm (s.drop (wh bm s+1))))).1) else (5,wh bm s):=rfl
theorem CZ (s r:List UInt8):number (s++10::r)=number s:=by
 have w1:=qe (p:=bm) rfl r s
 have d1:(s++10::r).drop (wh bm s)=s.drop (wh bm s)++10::r:=List.drop_append_of_le_length (lB _ _)
 have hh:((s.drop (wh bm s)++10::r).head?=some 46)=((s.drop (wh bm s)).head?=some 46):=by
  cases s.drop (wh bm s) with
  | nil=>simp
  | cons c l=>rfl
 rw [zD (s++ _),zD s,w1,d1]
 simp only [hh]
 by_cases h46:(s.drop (wh bm s)).head?=some 46
 ·rw [if_pos h46,if_pos h46]
  have hlt:wh bm s < s.length:=by
   rcases Nat.lt_or_ge (wh bm s) s.length with q | q
   ·exact q
   ·rw [List.drop_of_length_le q] at h46;cases h46
  have d2:(s++10::r).drop (wh bm s+1)=s.drop (wh bm s+1)++10::r:=List.drop_append_of_le_length (by omega)
  have w2:=qe (p:=bm) rfl r (s.drop (wh bm s+1))
  have hk:=lB bm (s.drop (wh bm s+1))
  rw [List.length_drop] at hk
  have d3:(s++10::r).drop (wh bm s+1+wh bm (s.drop (wh bm s+1)))=s.drop (wh bm s+1+wh bm (s.drop (wh bm s+1)))++10::r:=List.drop_append_of_le_length (by omega)
  rw [d2,w2,d3,Gg]
 ·rw [if_neg h46,if_neg h46]
theorem mT (r:List UInt8): ∀s:List UInt8,jm (s++10::r)=jm s
 | []=>by
  show jm (10::r)=0
  simp [jm]
 | c::l=>by
  show jm (c::(l++10::r))= _
  simp only [jm,mT r l]
theorem Ks {c:UInt8} (h1:c≠10) (h2:c≠34):fa [c]=(9,1):=by simp only [fa,if_neg h1,if_neg h2]
theorem jX (r:List UInt8): ∀s:List UInt8,fa (s++10::r)=fa s
 | []=>by
  show fa (10::r)=(9,0)
  cases r with
  | nil=>rfl
  | cons d r=>simp only [fa,if_true]
 | [c]=>by
  show fa (c::10::r)= _
  by_cases h1:c=10
  ·subst h1;simp only [fa,if_true]
  by_cases h2:c=34
  ·simp only [fa,if_neg h1,if_pos h2]
  rw [Ks h1 h2]
  by_cases h3:c=92
  ·simp only [fa,if_neg h1,if_neg h2,if_pos h3,show B9 10=false from rfl,Bool.false_eq_true,if_false]
   simp [jm]
  ·have ih:=jX r []
   have ih:fa (10::r)=(9,0):=ih
   simp only [fa,if_neg h1,if_neg h2,if_neg h3,ih]
 | c::d::l=>by
  have ih1:=jX r l
  have ih2:fa (d::(l++10::r))=fa (d::l):=jX r (d::l)
  have ih3:jm (d::(l++10::r))=jm (d::l):=mT r (d::l)
  show fa (c::d::(l++10::r))= _
  simp only [fa,ih1,ih2,ih3]
def Dq (c:UInt8) (l s:List UInt8):Nat×Nat:=
 if bJ c then (1,wh bJ s)
 else if s.take 2=[40,42] then (match rem (s.drop 2) 1 with | some n=>(2,n+2) | none=>(9,s.length))
 else if jW c then (nA (s.takeWhile gT),wh gT s)
 else if bm c then number s
 else if c=34 then ((fa l).1,(fa l).2+1)
 else if jV.contains (s.take 2) then (8,2)
 else if kJ c then (8,1)
 else (9,if iq s=0 then 1 else iq s)
theorem lS (c:UInt8) (l:List UInt8):cut (c::l)=Dq c l (c::l):=rfl
theorem Ju {t r:List UInt8} (hne:t≠[]) (hz:iq t≠0) (hb:(cut t).1≠1) (hr:t.take 2=[40,42]→(cut t).1≠9):cut (t++10::r)=cut t:=by
 cases t with
 | nil=>exact absurd rfl hne
 | cons c l=>
 show cut (c::(l++10::r))= _
 rw [lS] at hb hr
 rw [lS,lS]
 show Dq c (l++10::r) (c::l++10::r)= _
 unfold Dq at hb hr ⊢
 cases hbl:bJ c with
 | true=>rw [hbl] at hb;exact absurd rfl hb
 | false=>
 rw [hbl] at hr
 simp only [Bool.false_eq_true,if_false] at hr ⊢
 have ht2:(c::l++10::r).take 2=if l=[] then [c,10] else (c::l).take 2:=by
  cases l with
  | nil=>rfl
  | cons d l=>rfl
 by_cases h2:(c::l).take 2=[40,42]
 ·have hl:l≠[]:=by rintro rfl;simp at h2
  rw [ht2,if_neg hl,if_pos h2]
  have hr:=hr h2
  rw [if_pos h2] at hr ⊢
  have hd:(c::l++10::r).drop 2=(c::l).drop 2++10::r:=List.drop_append_of_le_length (by cases l with | nil=>exact absurd rfl hl | cons d l=>simp)
  rw [hd]
  cases hrr:rem ((c::l).drop 2) 1 with
  | none=>rw [hrr] at hr;exact absurd rfl hr
  | some n=>rw [vm _ _ _ _ hrr]
 have h2':(c::l++10::r).take 2≠[40,42]:=by
  rw [ht2]
  split
  ·simp
  ·exact h2
 rw [if_neg h2,if_neg h2']
 cases hlo:jW c with
 | true=>
  simp only [if_true]
  rw [Lo rfl,qe rfl]
 | false=>
 simp only [Bool.false_eq_true,if_false]
 cases hdi:bm c with
 | true=>
  simp only [if_true]
  exact CZ _ _
 | false=>
 simp only [Bool.false_eq_true,if_false]
 by_cases hq:c=34
 ·rw [if_pos hq,if_pos hq,jX]
 rw [if_neg hq,if_neg hq]
 have htw:jV.contains ((c::l++10::r).take 2)=jV.contains ((c::l).take 2):=by
  rw [ht2]
  split
  ·rename_i hl
   subst hl
   show jV.contains [c,10]=jV.contains [c]
   simp [jV]
  ·rfl
 rw [htw,E9 hne hz]
theorem Fo {r:List UInt8} (h:wh bJ r=0):cut (10::r)=(1,1):=by
 rw [lS]
 unfold Dq
 rw [if_pos (show bJ 10=true from rfl),eK,if_pos (show bJ 10=true from rfl),h]
def behind (s:List UInt8):Nat→List UInt8
 | 0=>s
 | n+1=>(behind s n).drop (cut (behind s n)).2
theorem uR: ∀(n:Nat) (s:List UInt8),s.length≤n→(((tokens s).map (·.2)).flatten)=s
 | n,[],_=>rfl
 | 0,_:: _,h=>by simp at h
 | n+1,c::l,h=>by
  have hc:=oH (s:=c::l) (by simp)
  rw [fZ (by simp),List.map_cons,List.flatten_cons,uR n _ (by rw [List.length_drop];simp at h ⊢;omega),List.take_append_drop]
theorem Hy (f:UInt8→Bool): ∀(p y:List UInt8),wh f (p++y)=if wh f p=p.length then p.length+wh f y else wh f p
 | [],y=>by simp [wh]
 | c::p,y=>by
  rw [List.cons_append,eK,eK,Hy f p y]
  cases f c with
  | false=>
   rw [if_neg (by simp),if_neg (by simp),if_neg (by simp)]
  | true=>
   rw [if_pos rfl,if_pos rfl]
   by_cases h:wh f p=p.length
   ·rw [if_pos h,if_pos (by rw [h];rfl)];simp;omega
   ·rw [if_neg h,if_neg (by simp;omega)]
def db (l:List (Nat×List UInt8)):List UInt8:=(l.map (·.2)).flatten
def keeps:Nat→List (Nat×List UInt8)→Nat
 | _,[]=>0
 | r,p::l=>if p.2.length+2 < r then keeps (r - p.2.length) l+1 else 0
theorem pt (p:Nat×List UInt8) (l:List (Nat×List UInt8)):db (p::l)=p.2++db l:=rfl
def alike:List (Nat×List UInt8)→List (Nat×List UInt8)→Nat
 | a::l,b::m=>if a=b then alike l m+1 else 0
 | _,_=>0
end Go.Lex
namespace Go.Parse
open Go.VM Go.Lex
mutual
def bY:T→List UInt8
 | .mk k _ tx l=>bo l++(if k=1 then tx else [])
def bo:List T→List UInt8
 | []=>[]
 | t::l=>bY t++bo l
end
theorem dy: ∀(l m:List T),bo (l++m)=bo l++bo m
 | [],m=>by simp [bo]
 | t::l,m=>by simp only [List.cons_append,bo,dy l m,List.append_assoc]
theorem bE (t:T):bo [t]=bY t:=by simp [bo]
theorem oe (s:List UInt8):bY (missing s)=[]:=rfl
theorem dD {k:Nat} (h:k≠1) (l:List T):bY (node k l)=bo l:=by simp [bY,h]
theorem DX (l m:List aQ):db (l++m)=db l++db m:=by simp [db]
theorem uJ: ∀(l:List aQ),bo (l.map eR)=db l
 | []=>rfl
 | t::l=>by
  show bY (eR t)++bo (l.map eR)=t.2++db l
  rw [uJ l]
  rfl
theorem gx (r:List aQ):bY (aN r)++db (aJ r)=db r:=by
 have h:=List.takeWhile_append_dropWhile (p:=aZ) (l:=r)
 have e:bY (aN r)=db (r.takeWhile aZ)++(nx r).2:=by
  show bo ((r.takeWhile aZ).map eR)++(nx r).2= _
  rw [uJ]
 rw [e]
 conv=>rhs;rw [← h,DX]
 unfold aJ nx
 cases r.dropWhile aZ with
 | nil=>simp [db]
 | cons t l=>simp [db]
theorem iE (s:List UInt8) (r:List aQ):bY (bX s r)++db (aT s r)=db r:=by
 unfold bX aT
 split
 ·exact gx r
 ·rw [oe];rfl
theorem uc (s:List UInt8) (r:List aQ):bY (ji s r)++db (gV r)=db r:=by
 unfold ji gV
 split
 ·rw [oe];rfl
 ·rw [dD (by decide),bE];exact gx r
def xM:gX→List UInt8
 | .ops _ acc=>bY acc
 | .args acc=>bY acc
 | _=>[]
theorem bind_some {α β:Type} {x:Option α} {f:α→Option β} {b:β} (h:(x >>= f)=some b): ∃a,x=some a∧f a=some b:=by
 cases x with
 | none=>cases h
 | some a=>exact ⟨a,rfl,h⟩
theorem nr (a b:Bool):kindOf a b≠1:=by cases a <;> cases b <;> decide
theorem NU: ∀(N:Nat) (job:gX) (d:Nat) (r:List aQ) (l:List T) (r':List aQ),P N job d r=some (l,r')→bo l++db r'=xM job++db r:=by
 intro N
 induction N with
 | zero=>intro job d r l r' h;cases h
 | succ n ih=>
  intro job d r l r' h
  have tk:=gx r
  cases job with
  | expr=>
   simp only [P] at h
   split at h
   ·cases h;rw [bE,uc];rfl
   ·have k:=ih _ _ _ _ _ h;exact k
  | whole=>
   simp only [P] at h
   split at h
   ·obtain ⟨⟨bs,r2⟩,e1,h⟩:=bind_some h
    obtain ⟨⟨es,r3⟩,e2,h⟩:=bind_some h
    cases h
    have k1:=ih _ _ _ _ _ e1
    have k2:=ih _ _ _ _ _ e2
    simp only [xM,List.nil_append] at k1 k2 ⊢
    rw [bE,dD (by decide)]
    simp only [dy,bo,List.nil_append,List.append_nil,List.append_assoc,List.cons_append,k2,iE,k1,tk]
   split at h
   ·obtain ⟨⟨a,r1⟩,e1,h⟩:=bind_some h
    obtain ⟨⟨ps,r2⟩,e2,h⟩:=bind_some h
    obtain ⟨⟨es,r3⟩,e3,h⟩:=bind_some h
    cases h
    have k1:=ih _ _ _ _ _ e1
    have k2:=ih _ _ _ _ _ e2
    have k3:=ih _ _ _ _ _ e3
    simp only [xM,List.nil_append] at k1 k2 k3 ⊢
    rw [bE,dD (by decide)]
    simp only [dy,bo,List.nil_append,List.append_nil,List.append_assoc,List.cons_append,k3,iE,k2,k1,tk]
   split at h
   ·obtain ⟨⟨a,r1⟩,e1,h⟩:=bind_some h
    obtain ⟨⟨b,r2⟩,e2,h⟩:=bind_some h
    obtain ⟨⟨c,r3⟩,e3,h⟩:=bind_some h
    cases h
    have k1:=ih _ _ _ _ _ e1
    have k2:=ih _ _ _ _ _ e2
    have k3:=ih _ _ _ _ _ e3
    simp only [xM,List.nil_append] at k1 k2 k3 ⊢
    rw [bE,dD (by decide)]
    simp only [dy,bo,List.nil_append,List.append_nil,List.append_assoc,List.cons_append,k3,iE,k2,k1,tk]
   split at h
   ·obtain ⟨⟨a,r1⟩,e1,h⟩:=bind_some h
    obtain ⟨⟨b,r3⟩,e2,h⟩:=bind_some h
    obtain ⟨⟨cs,r4⟩,e3,h⟩:=bind_some h
    cases h
    have k1:=ih _ _ _ _ _ e1
    have k2:=ih _ _ _ _ _ e2
    have k3:=ih _ _ _ _ _ e3
    simp only [xM,List.nil_append] at k1 k2 k3 ⊢
    have kb:bo (if bN gB (aT bp r1) then [aN (aT bp r1)] else [])++db (if bN gB (aT bp r1) then aJ (aT bp r1) else aT bp r1)=db (aT bp r1):=by
     split
     ·rw [bE];exact gx _
     ·rfl
    rw [bE,dD (by decide)]
    simp only [dy,bo,List.nil_append,List.append_nil,List.append_assoc,List.cons_append,k3,k2,kb,iE,k1,tk]
   ·have k:=ih _ _ _ _ _ h;exact k
  | level k=>
   simp only [P] at h
   split at h
   ·have k:=ih _ _ _ _ _ h;exact k
   ·obtain ⟨⟨a,r1⟩,e1,h⟩:=bind_some h
    dsimp only at h
    split at h
    ·have k1:=ih _ _ _ _ _ e1
     have k2:=ih _ _ _ _ _ h
     simp only [xM,List.nil_append,bE] at k1 k2 ⊢
     rw [k2,k1]
    ·cases h
  | ops k acc=>
   simp only [P] at h
   split at h
   ·obtain ⟨⟨b,r1⟩,e1,h⟩:=bind_some h
    have k1:=ih _ _ _ _ _ e1
    have k2:=ih _ _ _ _ _ h
    simp only [xM,List.nil_append] at k1 k2 ⊢
    rw [k2,dD (by decide)]
    simp only [bo,List.nil_append,List.append_assoc,k1,tk]
   ·cases h;rw [bE];rfl
  | neg=>
   simp only [P] at h
   split at h
   ·split at h
    ·cases h
     rw [bE,dD (by decide)]
     simp only [bo,List.nil_append,List.append_nil,List.append_assoc,xM,List.nil_append,uc,tk]
    ·obtain ⟨⟨a,r1⟩,e1,h⟩:=bind_some h
     cases h
     have k1:=ih _ _ _ _ _ e1
     simp only [xM,List.nil_append] at k1 ⊢
     rw [bE,dD (by decide)]
     simp only [bo,List.nil_append,List.append_assoc,k1,tk]
   ·obtain ⟨⟨a,r1⟩,e1,h⟩:=bind_some h
    dsimp only at h
    split at h
    ·have k1:=ih _ _ _ _ _ e1
     have k2:=ih _ _ _ _ _ h
     simp only [xM,List.nil_append,bE] at k1 k2 ⊢
     rw [k2,k1]
    ·cases h
  | args acc=>
   simp only [P] at h
   split at h
   ·obtain ⟨⟨b,r1⟩,e1,h⟩:=bind_some h
    have k1:=ih _ _ _ _ _ e1
    have k2:=ih _ _ _ _ _ h
    simp only [xM,List.nil_append] at k1 k2 ⊢
    rw [k2,dD (by decide)]
    simp only [bo,List.nil_append,List.append_assoc,k1]
   ·cases h;rw [bE];rfl
  | atom pat=>
   simp only [P] at h
   split at h
   ·split at h
    ·cases h
     rw [bE,dD (by decide),bE]
     exact tk
    split at h
    ·have k:=ih _ _ _ _ _ h;exact k
    split at h
    ·have k:=ih _ _ _ _ _ h;exact k
    ·cases h;rw [bE];exact tk
   ·cases h;rw [bE,oe];rfl
  | closed list pat=>
   simp only [P] at h
   split at h
   ·cases h
    have tk2:=gx (aJ r)
    rw [bE,dD (nr _ _)]
    simp only [bo,List.nil_append,List.append_nil,List.append_assoc,xM,List.nil_append,tk2,tk]
   ·obtain ⟨⟨a,r2⟩,e1,h⟩:=bind_some h
    obtain ⟨⟨bs,r3⟩,e2,h⟩:=bind_some h
    cases h
    have k1:=ih _ _ _ _ _ e1
    have k2:=ih _ _ _ _ _ e2
    have hd:xM (if pat then gX.pattern else gX.expr)=[]:=by cases pat <;> rfl
    rw [hd] at k1
    simp only [xM,List.nil_append] at k1 k2 ⊢
    rw [bE,dD (nr _ _)]
    simp only [dy,bo,List.nil_append,List.append_nil,List.append_assoc,List.cons_append,iE,k2,k1,tk]
  | items list pat=>
   simp only [P] at h
   split at h
   ·obtain ⟨⟨a,r2⟩,e1,h⟩:=bind_some h
    obtain ⟨⟨bs,r3⟩,e2,h⟩:=bind_some h
    cases h
    have k1:=ih _ _ _ _ _ e1
    have k2:=ih _ _ _ _ _ e2
    have hd:xM (if pat then gX.pattern else gX.expr)=[]:=by cases pat <;> rfl
    rw [hd] at k1
    simp only [xM,List.nil_append] at k1 k2 ⊢
    simp only [dy,bo,List.nil_append,List.append_assoc,List.cons_append,k2,k1,tk]
   ·cases h;rfl
  | pattern=>
   simp only [P] at h
   split at h
   ·cases h;rw [bE,uc];rfl
   ·obtain ⟨⟨a,r1⟩,e1,h⟩:=bind_some h
    have k1:=ih _ _ _ _ _ e1
    dsimp only at h
    split at h
    ·obtain ⟨⟨b,r2⟩,e2,h⟩:=bind_some h
     cases h
     have k2:=ih _ _ _ _ _ e2
     simp only [xM,List.nil_append] at k1 k2 ⊢
     rw [bE,dD (by decide)]
     simp only [dy,bo,List.nil_append,List.append_assoc,k2,gx,k1]
    ·cases h;exact k1
  | binding=>
   simp only [P] at h
   have k0:bo (if bN dh r then [aN r] else [])++db (if bN dh r then aJ r else r)=db r:=by
    split
    ·rw [bE];exact tk
    ·rfl
   generalize (if bN dh r then [aN r] else [])=rc at h k0
   generalize (if bN dh r then aJ r else r)=r0 at h k0
   split at h
   ·obtain ⟨⟨xs,r1⟩,e1,h⟩:=bind_some h
    obtain ⟨⟨ps,r3⟩,e3,e1⟩:=bind_some e1
    cases e1
    obtain ⟨⟨es,r2⟩,e2,h⟩:=bind_some h
    cases h
    have k3:=ih _ _ _ _ _ e3
    have k2:=ih _ _ _ _ _ e2
    simp only [xM,List.nil_append] at k2 k3 ⊢
    simp only [dy,bo,List.nil_append,bE,List.append_assoc,List.cons_append,k2,iE,k3,gx,k0]
   ·obtain ⟨⟨xs,r1⟩,e1,h⟩:=bind_some h
    obtain ⟨⟨es,r2⟩,e2,h⟩:=bind_some h
    cases h
    have k1:=ih _ _ _ _ _ e1
    have k2:=ih _ _ _ _ _ e2
    simp only [xM,List.nil_append] at k1 k2 ⊢
    simp only [dy,bE,List.append_assoc,k2,iE,k1,k0]
  | params=>
   simp only [P] at h
   split at h
   ·obtain ⟨⟨a,r1⟩,e1,h⟩:=bind_some h
    obtain ⟨⟨bs,r2⟩,e2,h⟩:=bind_some h
    cases h
    have k1:=ih _ _ _ _ _ e1
    have k2:=ih _ _ _ _ _ e2
    simp only [xM,List.nil_append] at k1 k2 ⊢
    simp only [dy,List.append_assoc,k2,k1]
   ·cases h;rfl
  | arm=>
   simp only [P] at h
   obtain ⟨⟨a,r1⟩,e1,h⟩:=bind_some h
   obtain ⟨⟨es,r2⟩,e2,h⟩:=bind_some h
   cases h
   have k1:=ih _ _ _ _ _ e1
   have k2:=ih _ _ _ _ _ e2
   simp only [xM,List.nil_append] at k1 k2 ⊢
   rw [bE,dD (by decide)]
   simp only [dy,bE,List.append_assoc,k2,iE,k1]
  | arms=>
   simp only [P] at h
   split at h
   ·obtain ⟨⟨a,r1⟩,e1,h⟩:=bind_some h
    obtain ⟨⟨bs,r2⟩,e2,h⟩:=bind_some h
    cases h
    have k1:=ih _ _ _ _ _ e1
    have k2:=ih _ _ _ _ _ e2
    simp only [xM,List.nil_append] at k1 k2 ⊢
    simp only [dy,bo,List.nil_append,List.append_assoc,List.cons_append,k2,k1,tk]
   ·cases h;rfl
theorem zj {Q:List aQ→Prop} (hQ: ∀r,Q r→Q (aJ r)): ∀(N:Nat) (job:gX) (d:Nat) (r:List aQ) (l:List T) (r':List aQ),P N job d r=some (l,r')→Q r→Q r':=by
 have hn: ∀s r,Q r→Q (aT s r):=fun s r h=>by
  unfold aT
  split
  ·exact hQ r h
  ·exact h
 have hd: ∀r,Q r→Q (gV r):=fun r h=>by
  unfold gV
  split
  ·exact h
  ·exact hQ r h
 intro N
 induction N with
 | zero=>intro job d r l r' h;cases h
 | succ n ih=>
  intro job d r l r' h q
  cases job with
  | expr=>
   simp only [P] at h
   split at h
   ·cases h;exact hd _ q
   ·exact ih _ _ _ _ _ h q
  | whole=>
   simp only [P] at h
   split at h
   ·obtain ⟨⟨bs,r2⟩,e1,h⟩:=bind_some h
    obtain ⟨⟨es,r3⟩,e2,h⟩:=bind_some h
    cases h
    exact ih _ _ _ _ _ e2 (hn _ _ (ih _ _ _ _ _ e1 (hQ _ q)))
   split at h
   ·obtain ⟨⟨a,r1⟩,e1,h⟩:=bind_some h
    obtain ⟨⟨ps,r2⟩,e2,h⟩:=bind_some h
    obtain ⟨⟨es,r3⟩,e3,h⟩:=bind_some h
    cases h
    exact ih _ _ _ _ _ e3 (hn _ _ (ih _ _ _ _ _ e2 (ih _ _ _ _ _ e1 (hQ _ q))))
   split at h
   ·obtain ⟨⟨a,r1⟩,e1,h⟩:=bind_some h
    obtain ⟨⟨b,r2⟩,e2,h⟩:=bind_some h
    obtain ⟨⟨c,r3⟩,e3,h⟩:=bind_some h
    cases h
    exact ih _ _ _ _ _ e3 (hn _ _ (ih _ _ _ _ _ e2 (hn _ _ (ih _ _ _ _ _ e1 (hQ _ q)))))
   split at h
   ·obtain ⟨⟨a,r1⟩,e1,h⟩:=bind_some h
    obtain ⟨⟨b,r3⟩,e2,h⟩:=bind_some h
    obtain ⟨⟨cs,r4⟩,e3,h⟩:=bind_some h
    cases h
    have k1:=hn bp _ (ih _ _ _ _ _ e1 (hQ _ q))
    refine ih _ _ _ _ _ e3 (ih _ _ _ _ _ e2 ?_)
    dsimp only
    split
    ·exact hQ _ k1
    ·exact k1
   ·exact ih _ _ _ _ _ h q
  | level k=>
   simp only [P] at h
   split at h
   ·exact ih _ _ _ _ _ h q
   ·obtain ⟨⟨a,r1⟩,e1,h⟩:=bind_some h
    dsimp only at h
    split at h
    ·exact ih _ _ _ _ _ h (ih _ _ _ _ _ e1 q)
    ·cases h
  | ops k acc=>
   simp only [P] at h
   split at h
   ·obtain ⟨⟨b,r1⟩,e1,h⟩:=bind_some h
    exact ih _ _ _ _ _ h (ih _ _ _ _ _ e1 (hQ _ q))
   ·cases h;exact q
  | neg=>
   simp only [P] at h
   split at h
   ·split at h
    ·cases h;exact hd _ (hQ _ q)
    ·obtain ⟨⟨a,r1⟩,e1,h⟩:=bind_some h
     cases h
     exact ih _ _ _ _ _ e1 (hQ _ q)
   ·obtain ⟨⟨a,r1⟩,e1,h⟩:=bind_some h
    dsimp only at h
    split at h
    ·exact ih _ _ _ _ _ h (ih _ _ _ _ _ e1 q)
    ·cases h
  | args acc=>
   simp only [P] at h
   split at h
   ·obtain ⟨⟨b,r1⟩,e1,h⟩:=bind_some h
    exact ih _ _ _ _ _ h (ih _ _ _ _ _ e1 q)
   ·cases h;exact q
  | atom pat=>
   simp only [P] at h
   split at h
   ·split at h
    ·cases h;exact hQ _ q
    split at h
    ·exact ih _ _ _ _ _ h q
    split at h
    ·exact ih _ _ _ _ _ h q
    ·cases h;exact hQ _ q
   ·cases h;exact q
  | closed list pat=>
   simp only [P] at h
   split at h
   ·cases h;exact hQ _ (hQ _ q)
   ·obtain ⟨⟨a,r2⟩,e1,h⟩:=bind_some h
    obtain ⟨⟨bs,r3⟩,e2,h⟩:=bind_some h
    cases h
    exact hn _ _ (ih _ _ _ _ _ e2 (ih _ _ _ _ _ e1 (hQ _ q)))
  | items list pat=>
   simp only [P] at h
   split at h
   ·obtain ⟨⟨a,r2⟩,e1,h⟩:=bind_some h
    obtain ⟨⟨bs,r3⟩,e2,h⟩:=bind_some h
    cases h
    exact ih _ _ _ _ _ e2 (ih _ _ _ _ _ e1 (hQ _ q))
   ·cases h;exact q
  | pattern=>
   simp only [P] at h
   split at h
   ·cases h;exact hd _ q
   ·obtain ⟨⟨a,r1⟩,e1,h⟩:=bind_some h
    have k1:=ih _ _ _ _ _ e1 q
    dsimp only at h
    split at h
    ·obtain ⟨⟨b,r2⟩,e2,h⟩:=bind_some h
     cases h
     exact ih _ _ _ _ _ e2 (hQ _ k1)
    ·cases h;exact k1
  | binding=>
   simp only [P] at h
   have k0:Q (if bN dh r then aJ r else r):=by
    split
    ·exact hQ _ q
    ·exact q
   generalize (if bN dh r then [aN r] else [])=rc at h
   generalize (if bN dh r then aJ r else r)=r0 at h k0
   split at h
   ·obtain ⟨⟨xs,r1⟩,e1,h⟩:=bind_some h
    obtain ⟨⟨ps,r3⟩,e3,e1⟩:=bind_some e1
    cases e1
    obtain ⟨⟨es,r2⟩,e2,h⟩:=bind_some h
    cases h
    exact ih _ _ _ _ _ e2 (hn _ _ (ih _ _ _ _ _ e3 (hQ _ k0)))
   ·obtain ⟨⟨xs,r1⟩,e1,h⟩:=bind_some h
    obtain ⟨⟨es,r2⟩,e2,h⟩:=bind_some h
    cases h
    exact ih _ _ _ _ _ e2 (hn _ _ (ih _ _ _ _ _ e1 k0))
  | params=>
   simp only [P] at h
   split at h
   ·obtain ⟨⟨a,r1⟩,e1,h⟩:=bind_some h
    obtain ⟨⟨bs,r2⟩,e2,h⟩:=bind_some h
    cases h
    exact ih _ _ _ _ _ e2 (ih _ _ _ _ _ e1 q)
   ·cases h;exact q
  | arm=>
   simp only [P] at h
   obtain ⟨⟨a,r1⟩,e1,h⟩:=bind_some h
   obtain ⟨⟨es,r2⟩,e2,h⟩:=bind_some h
   cases h
   exact ih _ _ _ _ _ e2 (hn _ _ (ih _ _ _ _ _ e1 q))
  | arms=>
   simp only [P] at h
   split at h
   ·obtain ⟨⟨a,r1⟩,e1,h⟩:=bind_some h
    obtain ⟨⟨bs,r2⟩,e2,h⟩:=bind_some h
    cases h
    exact ih _ _ _ _ _ e2 (ih _ _ _ _ _ e1 (hQ _ q))
   ·cases h;exact q
theorem wv {Q:List aQ→Prop} (hQ: ∀r,Q r→Q (aJ r)): ∀(n:Nat) (r:List aQ),Q r→Q (skip n r).2
 | 0,_,q=>q
 | n+1,r,q=>by
  simp only [skip]
  split
  ·exact wv hQ n _ (hQ _ q)
  ·exact q
def IQ (r:List aQ):Prop:= ∀t∈r,t.1≠0
theorem jO (r:List aQ) (h:IQ r):IQ (aJ r):=fun t ht=>h t ((List.dropWhile_suffix aZ).subset (List.mem_of_mem_drop ht))
theorem zA: ∀(n:Nat) (r:List aQ),bo (skip n r).1++db (skip n r).2=db r
 | 0,_=>rfl
 | n+1,r=>by
  simp only [skip]
  split
  ·simp only [bo,List.nil_append,List.append_assoc,zA n,gx]
  ·rfl
theorem Fa: ∀{r:List aQ},(∀t∈r,t.1≠0)→(nx r).1=0→aJ r=[]:=by
 intro r h h0
 unfold nx at h0
 unfold aJ
 cases hd:r.dropWhile aZ with
 | nil=>rfl
 | cons t l=>
  rw [hd] at h0
  have:t∈r:=(List.dropWhile_suffix aZ).subset (by rw [hd];simp)
  exact absurd h0 (h t this)
theorem rJ: ∀(n:Nat) (r:List aQ) (l:List T),decls n r=some l→IQ r→bo l=db r
 | 0,_,_,h,_=>by cases h
 | n+1,r,l,h,hz=>by
  simp only [decls] at h
  split at h
  ·rename_i h0
   cases h
   rw [bE]
   have:=gx r
   rw [Fa hz h0] at this
   simpa [db] using this
  split at h
  ·obtain ⟨⟨bs,r1⟩,e1,h⟩:=bind_some h
   obtain ⟨m,e2,h⟩:=bind_some h
   cases h
   have k1:=NU _ _ _ _ _ _ e1
   have k2:=rJ n r1 m e2 (zj jO _ _ _ _ _ _ e1 (jO _ hz))
   simp only [xM,List.nil_append] at k1
   simp only [bo,dD (show (5:Nat)≠1 by decide),List.append_assoc,k2,k1,gx]
  ·obtain ⟨m,e2,h⟩:=bind_some h
   cases h
   have k2:=rJ n _ m e2 (wv jO _ _ hz)
   simp only [bo,dD (show (3:Nat)≠1 by decide),k2,zA]
theorem HY (r:List aQ) (h:IQ r):bY (doc r)=db r:=by
 obtain ⟨l,e1,e2⟩:=kY r
 rw [e2,dD (by decide),rJ _ _ _ e1 h]
mutual
def cI:T→Bool
 | .mk k tk _ l=>k != 2&&k != 3&&(k != 1||tk != 9)&&aX l
def aX:List T→Bool
 | []=>true
 | t::l=>cI t&&aX l
end
mutual
def gq:T→Nat
 | .mk _ _ _ l=>fc l+1
def fc:List T→Nat
 | []=>0
 | t::l=>max (gq t) (fc l)
end
theorem dc: ∀(l m:List T),fc (l++m)=max (fc l) (fc m)
 | [],m=>by simp [fc]
 | t::l,m=>by simp only [List.cons_append,fc,dc l m];omega
theorem bq (t:T):fc [t]=gq t:=by simp [fc]
theorem cC (k:Nat) (l:List T):gq (node k l)=fc l+1:=by simp [gq]
theorem xr: ∀(l:List aQ),fc (l.map eR)≤1
 | []=>by simp [fc]
 | t::l=>by
  have:=xr l
  simp only [List.map_cons,fc,eR,leaf,gq];omega
theorem dp (r:List aQ):gq (aN r)≤2:=by
 have:=xr (r.takeWhile aZ)
 unfold aN leaf
 simp only [gq];omega
theorem jU (s:List UInt8):gq (missing s)=1:=by simp [missing,gq,fc]
theorem fP (s:List UInt8) (r:List aQ):gq (bX s r)≤2:=by
 unfold bX
 split
 ·exact dp r
 ·rw [jU];omega
theorem th (s:List UInt8) (r:List aQ):gq (ji s r)≤3:=by
 unfold ji
 have:=dp r
 split
 ·rw [jU];omega
 ·rw [cC,bq];omega
def dA:gX→List T
 | .ops _ acc=>[acc]
 | .args acc=>[acc]
 | _=>[]
theorem bh:fc []=0:=by simp [fc]
theorem cb (t:T) (l:List T):fc (t::l)=max (gq t) (fc l):=by simp [fc]
theorem mY (b:Bool):dA (if b then gX.pattern else gX.expr)=[]:=by cases b <;> rfl
theorem Mg: ∀(N:Nat) (job:gX) (d:Nat) (r:List aQ) (l:List T) (r':List aQ),P N job d r=some (l,r')→fc l≤max (fc (dA job)) (N * N+4)+N:=by
 intro N
 induction N with
 | zero=>intro job d r l r' h;cases h
 | succ n ih=>
  intro job d r l r' h
  have hm:(n+1) * (n+1)=n * n+2 * n+1:=by rw [Nat.add_mul,Nat.mul_add];omega
  rw [hm]
  clear hm
  generalize n * n=q at ih ⊢
  have tk:=dp r
  have fin: ∀{job:gX} {d:Nat} {r:List aQ} {l:List T} {r':List aQ},dA job=[]→P n job d r=some (l,r')→fc l≤q+4+n:=fun ha he=>by
   have:=ih _ _ _ _ _ he
   rw [ha,bh] at this
   omega
  cases job with
  | expr=>
   simp only [P] at h
   simp only [dA,bh]
   split at h
   ·cases h;rw [bq];have:=th hH r;omega
   ·have k:=fin rfl h;omega
  | whole=>
   simp only [P] at h
   simp only [dA,bh]
   split at h
   ·obtain ⟨⟨bs,r2⟩,e1,h⟩:=bind_some h
    obtain ⟨⟨es,r3⟩,e2,h⟩:=bind_some h
    cases h
    have k1:=fin rfl e1
    have k2:=fin rfl e2
    have:=fP JR r2
    simp only [bq,cC,dc,cb,bh]
    omega
   split at h
   ·obtain ⟨⟨a,r1⟩,e1,h⟩:=bind_some h
    obtain ⟨⟨ps,r2⟩,e2,h⟩:=bind_some h
    obtain ⟨⟨es,r3⟩,e3,h⟩:=bind_some h
    cases h
    have k1:=fin rfl e1
    have k2:=fin rfl e2
    have k3:=fin rfl e3
    have:=fP fG r2
    simp only [bq,cC,dc,cb,bh]
    omega
   split at h
   ·obtain ⟨⟨a,r1⟩,e1,h⟩:=bind_some h
    obtain ⟨⟨b,r2⟩,e2,h⟩:=bind_some h
    obtain ⟨⟨c,r3⟩,e3,h⟩:=bind_some h
    cases h
    have k1:=fin rfl e1
    have k2:=fin rfl e2
    have k3:=fin rfl e3
    have:=fP ri r1
    have:=fP qO r2
    simp only [bq,cC,dc,cb,bh]
    omega
   split at h
   ·obtain ⟨⟨a,r1⟩,e1,h⟩:=bind_some h
    obtain ⟨⟨b,r3⟩,e2,h⟩:=bind_some h
    obtain ⟨⟨cs,r4⟩,e3,h⟩:=bind_some h
    cases h
    have k1:=fin rfl e1
    have k2:=fin rfl e2
    have k3:=fin rfl e3
    have:=fP bp r1
    have kb:fc (if bN gB (aT bp r1) then [aN (aT bp r1)] else [])≤2:=by
     split
     ·rw [bq];exact dp _
     ·rw [bh];omega
    simp only [bq,cC,dc,cb,bh]
    omega
   ·have k:=fin rfl h;omega
  | level k=>
   simp only [P] at h
   simp only [dA,bh]
   split at h
   ·have k:=fin rfl h;omega
   ·obtain ⟨⟨a,r1⟩,e1,h⟩:=bind_some h
    dsimp only at h
    split at h
    ·rename_i t
     have k1:=fin rfl e1
     have k2:=ih _ _ _ _ _ h
     simp only [dA,bq] at k1 k2
     omega
    ·cases h
  | ops k acc=>
   simp only [P] at h
   simp only [dA,bq]
   split at h
   ·obtain ⟨⟨b,r1⟩,e1,h⟩:=bind_some h
    have k1:=fin rfl e1
    have k2:=ih _ _ _ _ _ h
    simp only [dA,bq,cC,cb,bh] at k2
    omega
   ·cases h;rw [bq];omega
  | neg=>
   simp only [P] at h
   simp only [dA,bh]
   split at h
   ·split at h
    ·cases h
     have:=th hH (aJ r)
     simp only [bq,cC,cb,bh]
     omega
    ·obtain ⟨⟨a,r1⟩,e1,h⟩:=bind_some h
     cases h
     have k1:=fin rfl e1
     simp only [bq,cC,cb,bh]
     omega
   ·obtain ⟨⟨a,r1⟩,e1,h⟩:=bind_some h
    dsimp only at h
    split at h
    ·have k1:=fin rfl e1
     have k2:=ih _ _ _ _ _ h
     simp only [dA,bq] at k1 k2
     omega
    ·cases h
  | args acc=>
   simp only [P] at h
   simp only [dA,bq]
   split at h
   ·obtain ⟨⟨b,r1⟩,e1,h⟩:=bind_some h
    have k1:=fin rfl e1
    have k2:=ih _ _ _ _ _ h
    simp only [dA,bq,cC,cb,bh] at k2
    omega
   ·cases h;rw [bq];omega
  | atom pat=>
   simp only [P] at h
   simp only [dA,bh]
   split at h
   ·split at h
    ·cases h
     simp only [bq,cC]
     omega
    split at h
    ·have k:=fin rfl h;omega
    split at h
    ·have k:=fin rfl h;omega
    ·cases h;rw [bq];omega
   ·cases h;rw [bq,jU];omega
  | closed list pat=>
   simp only [P] at h
   simp only [dA,bh]
   split at h
   ·cases h
    have tk2:=dp (aJ r)
    simp only [bq,cC,cb,bh]
    omega
   ·obtain ⟨⟨a,r2⟩,e1,h⟩:=bind_some h
    obtain ⟨⟨bs,r3⟩,e2,h⟩:=bind_some h
    cases h
    have k1:=fin (mY pat) e1
    have k2:=fin rfl e2
    have:=fP (gG list) r3
    simp only [bq,cC,dc,cb,bh]
    omega
  | items list pat=>
   simp only [P] at h
   simp only [dA,bh]
   split at h
   ·obtain ⟨⟨a,r1⟩,e1,h⟩:=bind_some h
    obtain ⟨⟨bs,r2⟩,e2,h⟩:=bind_some h
    cases h
    have k1:=fin (mY pat) e1
    have k2:=fin rfl e2
    simp only [dc,cb]
    omega
   ·cases h;rw [bh];omega
  | pattern=>
   simp only [P] at h
   simp only [dA,bh]
   split at h
   ·cases h;rw [bq];have:=th gr r;omega
   ·obtain ⟨⟨a,r1⟩,e1,h⟩:=bind_some h
    have k1:=fin rfl e1
    dsimp only at h
    split at h
    ·obtain ⟨⟨b,r2⟩,e2,h⟩:=bind_some h
     cases h
     have k2:=fin rfl e2
     have:=dp r1
     simp only [bq,cC,dc,cb,bh]
     omega
    ·cases h;omega
  | binding=>
   simp only [P] at h
   simp only [dA,bh]
   have kr:fc (if bN dh r then [aN r] else [])≤2:=by
    split
    ·rw [bq];exact tk
    ·rw [bh];omega
   generalize (if bN dh r then [aN r] else [])=rc at h kr
   generalize (if bN dh r then aJ r else r)=r0 at h
   split at h
   ·obtain ⟨⟨xs,r1⟩,e1,h⟩:=bind_some h
    obtain ⟨⟨ps,r3⟩,e3,e1⟩:=bind_some e1
    cases e1
    obtain ⟨⟨es,r2⟩,e2,h⟩:=bind_some h
    cases h
    have k3:=fin rfl e3
    have k2:=fin rfl e2
    have:=dp r0
    have:=fP iw r3
    simp only [dc,bq,cb,bh]
    omega
   ·obtain ⟨⟨xs,r1⟩,e1,h⟩:=bind_some h
    obtain ⟨⟨es,r2⟩,e2,h⟩:=bind_some h
    cases h
    have k1:=fin rfl e1
    have k2:=fin rfl e2
    have:=fP iw r1
    simp only [dc,bq]
    omega
  | params=>
   simp only [P] at h
   simp only [dA,bh]
   split at h
   ·obtain ⟨⟨a,r1⟩,e1,h⟩:=bind_some h
    obtain ⟨⟨bs,r2⟩,e2,h⟩:=bind_some h
    cases h
    have k1:=fin rfl e1
    have k2:=fin rfl e2
    simp only [dc]
    omega
   ·cases h;rw [bh];omega
  | arm=>
   simp only [P] at h
   simp only [dA,bh]
   obtain ⟨⟨a,r1⟩,e1,h⟩:=bind_some h
   obtain ⟨⟨es,r2⟩,e2,h⟩:=bind_some h
   cases h
   have k1:=fin rfl e1
   have k2:=fin rfl e2
   have:=fP fG r1
   simp only [bq,cC,dc]
   omega
  | arms=>
   simp only [P] at h
   simp only [dA,bh]
   split at h
   ·obtain ⟨⟨a,r1⟩,e1,h⟩:=bind_some h
    obtain ⟨⟨bs,r2⟩,e2,h⟩:=bind_some h
    cases h
    have k1:=fin rfl e1
    have k2:=fin rfl e2
    simp only [dc,cb]
    omega
   ·cases h;rw [bh];omega
theorem fK: ∀(N:Nat) (job:gX) (d:Nat) (r:List aQ) (l:List T) (r':List aQ),P N job d r=some (l,r')→single job=true→ ∃t,l=[t]:=by
 intro N
 induction N with
 | zero=>intro job d r l r' h;cases h
 | succ n ih=>
  intro job d r l r' h hs
  cases job with
  | expr=>
   simp only [P] at h
   split at h
   ·cases h;exact ⟨_,rfl⟩
   ·exact ih _ _ _ _ _ h rfl
  | whole=>
   simp only [P] at h
   split at h
   ·obtain ⟨⟨bs,r2⟩,e1,h⟩:=bind_some h
    obtain ⟨⟨es,r3⟩,e2,h⟩:=bind_some h
    cases h;exact ⟨_,rfl⟩
   split at h
   ·obtain ⟨⟨a,r1⟩,e1,h⟩:=bind_some h
    obtain ⟨⟨ps,r2⟩,e2,h⟩:=bind_some h
    obtain ⟨⟨es,r3⟩,e3,h⟩:=bind_some h
    cases h;exact ⟨_,rfl⟩
   split at h
   ·obtain ⟨⟨a,r1⟩,e1,h⟩:=bind_some h
    obtain ⟨⟨b,r2⟩,e2,h⟩:=bind_some h
    obtain ⟨⟨c,r3⟩,e3,h⟩:=bind_some h
    cases h;exact ⟨_,rfl⟩
   split at h
   ·obtain ⟨⟨a,r1⟩,e1,h⟩:=bind_some h
    obtain ⟨⟨b,r3⟩,e2,h⟩:=bind_some h
    obtain ⟨⟨cs,r4⟩,e3,h⟩:=bind_some h
    cases h;exact ⟨_,rfl⟩
   ·exact ih _ _ _ _ _ h rfl
  | level k=>
   simp only [P] at h
   split at h
   ·exact ih _ _ _ _ _ h rfl
   ·obtain ⟨⟨a,r1⟩,e1,h⟩:=bind_some h
    dsimp only at h
    split at h
    ·exact ih _ _ _ _ _ h rfl
    ·cases h
  | ops k acc=>
   simp only [P] at h
   split at h
   ·obtain ⟨⟨b,r1⟩,e1,h⟩:=bind_some h
    exact ih _ _ _ _ _ h rfl
   ·cases h;exact ⟨_,rfl⟩
  | neg=>
   simp only [P] at h
   split at h
   ·split at h
    ·cases h;exact ⟨_,rfl⟩
    ·obtain ⟨⟨a,r1⟩,e1,h⟩:=bind_some h
     cases h;exact ⟨_,rfl⟩
   ·obtain ⟨⟨a,r1⟩,e1,h⟩:=bind_some h
    dsimp only at h
    split at h
    ·exact ih _ _ _ _ _ h rfl
    ·cases h
  | args acc=>
   simp only [P] at h
   split at h
   ·obtain ⟨⟨b,r1⟩,e1,h⟩:=bind_some h
    exact ih _ _ _ _ _ h rfl
   ·cases h;exact ⟨_,rfl⟩
  | atom pat=>
   simp only [P] at h
   split at h
   ·split at h
    ·cases h;exact ⟨_,rfl⟩
    split at h
    ·exact ih _ _ _ _ _ h rfl
    split at h
    ·exact ih _ _ _ _ _ h rfl
    ·cases h;exact ⟨_,rfl⟩
   ·cases h;exact ⟨_,rfl⟩
  | closed list pat=>
   simp only [P] at h
   split at h
   ·cases h;exact ⟨_,rfl⟩
   ·obtain ⟨⟨a,r2⟩,e1,h⟩:=bind_some h
    obtain ⟨⟨bs,r3⟩,e2,h⟩:=bind_some h
    cases h;exact ⟨_,rfl⟩
  | items list pat=>cases hs
  | pattern=>
   simp only [P] at h
   split at h
   ·cases h;exact ⟨_,rfl⟩
   ·obtain ⟨⟨a,r1⟩,e1,h⟩:=bind_some h
    dsimp only at h
    split at h
    ·obtain ⟨⟨b,r2⟩,e2,h⟩:=bind_some h
     cases h;exact ⟨_,rfl⟩
    ·cases h;exact ih _ _ _ _ _ e1 rfl
  | binding=>cases hs
  | params=>cases hs
  | arm=>
   simp only [P] at h
   obtain ⟨⟨a,r1⟩,e1,h⟩:=bind_some h
   obtain ⟨⟨es,r2⟩,e2,h⟩:=bind_some h
   cases h;exact ⟨_,rfl⟩
  | arms=>cases hs
theorem nM {N:Nat} {job:gX} {d:Nat} {r:List aQ} {l:List T} {r':List aQ} (h:P N job d r=some (l,r')) (hs:single job=true):l.length=1:=by
 obtain ⟨t,rfl⟩:=fK N job d r l r' h hs
 rfl
theorem Dw (b:Bool):single (if b then gX.pattern else .expr)=true:=by cases b <;> rfl
theorem Hc: ∀(N:Nat) (list pat:Bool) (d:Nat) (r:List aQ) (l:List T) (r':List aQ),P N (.items list pat) d r=some (l,r')→l.length≤2 * N:=by
 intro N
 induction N with
 | zero=>intro list pat d r l r' h;cases h
 | succ n ih=>
  intro list pat d r l r' h
  simp only [P] at h
  split at h
  ·obtain ⟨⟨a,r1⟩,e1,h⟩:=bind_some h
   obtain ⟨⟨bs,r2⟩,e2,h⟩:=bind_some h
   cases h
   have:=nM e1 (Dw pat)
   have:=ih _ _ _ _ _ _ e2
   simp only [List.length_append,List.length_cons]
   omega
  ·cases h;simp
theorem rQ: ∀(N:Nat) (d:Nat) (r:List aQ) (l:List T) (r':List aQ),P N .params d r=some (l,r')→l.length≤N:=by
 intro N
 induction N with
 | zero=>intro d r l r' h;cases h
 | succ n ih=>
  intro d r l r' h
  simp only [P] at h
  split at h
  ·obtain ⟨⟨a,r1⟩,e1,h⟩:=bind_some h
   obtain ⟨⟨bs,r2⟩,e2,h⟩:=bind_some h
   cases h
   have:=nM e1 rfl
   have:=ih _ _ _ _ e2
   simp only [List.length_append]
   omega
  ·cases h;simp
theorem Jk: ∀(N:Nat) (d:Nat) (r:List aQ) (l:List T) (r':List aQ),P N .arms d r=some (l,r')→l.length≤2 * N:=by
 intro N
 induction N with
 | zero=>intro d r l r' h;cases h
 | succ n ih=>
  intro d r l r' h
  simp only [P] at h
  split at h
  ·obtain ⟨⟨a,r1⟩,e1,h⟩:=bind_some h
   obtain ⟨⟨bs,r2⟩,e2,h⟩:=bind_some h
   cases h
   have:=nM e1 rfl
   have:=ih _ _ _ _ e2
   simp only [List.length_append,List.length_cons]
   omega
  ·cases h;simp
theorem uX: ∀(N:Nat) (d:Nat) (r:List aQ) (l:List T) (r':List aQ),P N .binding d r=some (l,r')→l.length≤N+4∧l≠[]:=by
 intro N d r l r' h
 cases N with
 | zero=>cases h
 | succ n=>
  simp only [P] at h
  have kr:(if bN dh r then [aN r] else []).length≤1:=by split <;> simp
  generalize (if bN dh r then [aN r] else [])=rc at h kr
  generalize (if bN dh r then aJ r else r)=r0 at h
  split at h
  ·obtain ⟨⟨xs,r1⟩,e1,h⟩:=bind_some h
   obtain ⟨⟨ps,r3⟩,e3,e1⟩:=bind_some e1
   cases e1
   obtain ⟨⟨es,r2⟩,e2,h⟩:=bind_some h
   cases h
   have:=rQ _ _ _ _ _ e3
   have:=nM e2 rfl
   refine ⟨?_,by simp⟩
   simp only [List.length_append,List.length_cons,List.length_nil]
   omega
  ·obtain ⟨⟨xs,r1⟩,e1,h⟩:=bind_some h
   obtain ⟨⟨es,r2⟩,e2,h⟩:=bind_some h
   cases h
   have:=nM e1 rfl
   have:=nM e2 rfl
   refine ⟨?_,by simp⟩
   simp only [List.length_append,List.length_cons,List.length_nil]
   omega
end Go.Parse
namespace Go.Lex
open Go.VM
def yd (s:List UInt8):Int:=if 65536 < s.length then 40 else if cG s=false then 4 else 0
theorem C4 {s:List UInt8} (h:yd s=0):s.length≤65536∧cG s=true:=by
 unfold yd at h
 by_cases h1:65536 < s.length
 ·rw [if_pos h1] at h;exact absurd h (by decide)
 ·rw [if_neg h1] at h
  cases hv:cG s with
  | false=>rw [hv,if_pos rfl] at h;exact absurd h (by decide)
  | true=>exact ⟨by omega,rfl⟩
theorem Nf {s:List UInt8} (h1:s.length≤65536) (h2:cG s=true):yd s=0:=by
 unfold yd
 rw [if_neg (by omega),h2,if_neg (by simp)]
theorem EX: ∀(n:Nat) (s:List UInt8),s.length≤n→(na n s).length≤s.length
 | 0,_,_=>by simp [na]
 | n+1,[],_=>by simp [na]
 | n+1,c::l,h=>by
  have hc:=oH (s:=c::l) (by simp)
  have ih:=EX n ((c::l).drop (cut (c::l)).2) (by rw [List.length_drop];simp at h ⊢;omega)
  rw [List.length_drop] at ih
  simp only [na,List.length_cons] at ih ⊢
  omega
theorem zH (s:List UInt8):(tokens s).length≤s.length:=EX _ _ (Nat.le_refl _)
end Go.Lex
namespace Go.Parse
open Go.VM Go.Lex
theorem ax {α β:Type} {x:Option α} {f:α→Option β} {a:α} (h:x=some a):(x >>= f)=f a:=by rw [h];rfl
theorem r9: ∀(N:Nat) (job:gX) (d:Nat) (r:List aQ) (x:List T×List aQ),P N job d r=some x→ ∀M,N≤M→P M job d r=some x:=by
 intro N
 induction N with
 | zero=>intro job d r x h;cases h
 | succ n ih=>
  intro job d r x h M hM
  obtain ⟨m,rfl⟩: ∃m,M=m+1:=⟨M - 1,by omega⟩
  have up: ∀{job:gX} {d:Nat} {r:List aQ} {x:List T×List aQ},P n job d r=some x→P m job d r=some x:=fun h=>ih _ _ _ _ h m (by omega)
  cases job with
  | expr=>
   simp only [P] at h ⊢
   split at h
   ·rename_i hc;rw [if_pos hc];exact h
   ·rename_i hc;rw [if_neg hc];exact up h
  | whole=>
   simp only [P] at h ⊢
   split at h
   ·rename_i hc;rw [if_pos hc]
    obtain ⟨⟨bs,r2⟩,e1,h⟩:=bind_some h
    obtain ⟨⟨es,r3⟩,e2,h⟩:=bind_some h
    rw [ax (up e1),ax (up e2)];exact h
   rename_i hc;rw [if_neg hc]
   split at h
   ·rename_i hc;rw [if_pos hc]
    obtain ⟨⟨a,r1⟩,e1,h⟩:=bind_some h
    obtain ⟨⟨ps,r2⟩,e2,h⟩:=bind_some h
    obtain ⟨⟨es,r3⟩,e3,h⟩:=bind_some h
    rw [ax (up e1),ax (up e2),ax (up e3)];exact h
   rename_i hc;rw [if_neg hc]
   split at h
   ·rename_i hc;rw [if_pos hc]
    obtain ⟨⟨a,r1⟩,e1,h⟩:=bind_some h
    obtain ⟨⟨b,r2⟩,e2,h⟩:=bind_some h
    obtain ⟨⟨c,r3⟩,e3,h⟩:=bind_some h
    rw [ax (up e1),ax (up e2),ax (up e3)];exact h
   rename_i hc;rw [if_neg hc]
   split at h
   ·rename_i hc;rw [if_pos hc]
    obtain ⟨⟨a,r1⟩,e1,h⟩:=bind_some h
    obtain ⟨⟨b,r3⟩,e2,h⟩:=bind_some h
    obtain ⟨⟨cs,r4⟩,e3,h⟩:=bind_some h
    rw [ax (up e1),ax (up e2),ax (up e3)];exact h
   rename_i hc;rw [if_neg hc]
   exact up h
  | level k=>
   simp only [P] at h ⊢
   split at h
   ·rename_i hc;rw [if_pos hc];exact up h
   ·rename_i hc;rw [if_neg hc]
    obtain ⟨⟨a,r1⟩,e1,h⟩:=bind_some h
    rw [ax (up e1)]
    dsimp only at h ⊢
    split at h
    ·exact up h
    ·cases h
  | ops k acc=>
   simp only [P] at h ⊢
   split at h
   ·rename_i hc;rw [if_pos hc]
    obtain ⟨⟨b,r1⟩,e1,h⟩:=bind_some h
    rw [ax (up e1)];exact up h
   ·rename_i hc;rw [if_neg hc];exact h
  | neg=>
   simp only [P] at h ⊢
   split at h
   ·rename_i hc;rw [if_pos hc]
    split at h
    ·rename_i hc;rw [if_pos hc];exact h
    ·rename_i hc;rw [if_neg hc]
     obtain ⟨⟨a,r1⟩,e1,h⟩:=bind_some h
     rw [ax (up e1)];exact h
   ·rename_i hc;rw [if_neg hc]
    obtain ⟨⟨a,r1⟩,e1,h⟩:=bind_some h
    rw [ax (up e1)]
    dsimp only at h ⊢
    split at h
    ·exact up h
    ·cases h
  | args acc=>
   simp only [P] at h ⊢
   split at h
   ·rename_i hc;rw [if_pos hc]
    obtain ⟨⟨b,r1⟩,e1,h⟩:=bind_some h
    rw [ax (up e1)];exact up h
   ·rename_i hc;rw [if_neg hc];exact h
  | atom pat=>
   simp only [P] at h ⊢
   split at h
   ·rename_i hc;rw [if_pos hc]
    split at h
    ·rename_i hc;rw [if_pos hc];exact h
    rename_i hc;rw [if_neg hc]
    split at h
    ·rename_i hc;rw [if_pos hc];exact up h
    rename_i hc;rw [if_neg hc]
    split at h
    ·rename_i hc;rw [if_pos hc];exact up h
    ·rename_i hc;rw [if_neg hc];exact h
   ·rename_i hc;rw [if_neg hc];exact h
  | closed list pat=>
   simp only [P] at h ⊢
   split at h
   ·rename_i hc;rw [if_pos hc];exact h
   ·rename_i hc;rw [if_neg hc]
    obtain ⟨⟨a,r2⟩,e1,h⟩:=bind_some h
    obtain ⟨⟨bs,r3⟩,e2,h⟩:=bind_some h
    rw [ax (up e1),ax (up e2)];exact h
  | items list pat=>
   simp only [P] at h ⊢
   split at h
   ·rename_i hc;rw [if_pos hc]
    obtain ⟨⟨a,r2⟩,e1,h⟩:=bind_some h
    obtain ⟨⟨bs,r3⟩,e2,h⟩:=bind_some h
    rw [ax (up e1),ax (up e2)];exact h
   ·rename_i hc;rw [if_neg hc];exact h
  | pattern=>
   simp only [P] at h ⊢
   split at h
   ·rename_i hc;rw [if_pos hc];exact h
   ·rename_i hc;rw [if_neg hc]
    obtain ⟨⟨a,r1⟩,e1,h⟩:=bind_some h
    rw [ax (up e1)]
    dsimp only at h ⊢
    split at h
    ·rename_i hc;rw [if_pos hc]
     obtain ⟨⟨b,r2⟩,e2,h⟩:=bind_some h
     rw [ax (up e2)];exact h
    ·rename_i hc;rw [if_neg hc];exact h
  | binding=>
   simp only [P] at h ⊢
   generalize (if bN dh r then [aN r] else [])=rc at h ⊢
   generalize (if bN dh r then aJ r else r)=r0 at h ⊢
   split at h
   ·rename_i hc;rw [if_pos hc]
    obtain ⟨⟨xs,r1⟩,e1,h⟩:=bind_some h
    obtain ⟨⟨ps,r3⟩,e3,e1⟩:=bind_some e1
    cases e1
    obtain ⟨⟨es,r2⟩,e2,h⟩:=bind_some h
    rw [ax (up e3)]
    show (P m .expr d (aT iw r3) >>= _)= _
    rw [ax (up e2)];exact h
   ·rename_i hc;rw [if_neg hc]
    obtain ⟨⟨xs,r1⟩,e1,h⟩:=bind_some h
    obtain ⟨⟨es,r2⟩,e2,h⟩:=bind_some h
    rw [ax (up e1),ax (up e2)];exact h
  | params=>
   simp only [P] at h ⊢
   split at h
   ·rename_i hc;rw [if_pos hc]
    obtain ⟨⟨a,r1⟩,e1,h⟩:=bind_some h
    obtain ⟨⟨bs,r2⟩,e2,h⟩:=bind_some h
    rw [ax (up e1),ax (up e2)];exact h
   ·rename_i hc;rw [if_neg hc];exact h
  | arm=>
   simp only [P] at h ⊢
   obtain ⟨⟨a,r1⟩,e1,h⟩:=bind_some h
   obtain ⟨⟨es,r2⟩,e2,h⟩:=bind_some h
   rw [ax (up e1),ax (up e2)];exact h
  | arms=>
   simp only [P] at h ⊢
   split at h
   ·rename_i hc;rw [if_pos hc]
    obtain ⟨⟨a,r1⟩,e1,h⟩:=bind_some h
    obtain ⟨⟨bs,r2⟩,e2,h⟩:=bind_some h
    rw [ax (up e1),ax (up e2)];exact h
   ·rename_i hc;rw [if_neg hc];exact h
theorem lA: ∀(N:Nat) (r:List aQ) (l:List T),decls N r=some l→ ∀M,N≤M→decls M r=some l
 | 0,_,_,h,_,_=>by cases h
 | n+1,r,l,h,M,hM=>by
  obtain ⟨m,rfl⟩: ∃m,M=m+1:=⟨M - 1,by omega⟩
  simp only [decls] at h ⊢
  split at h
  ·rename_i hc;rw [if_pos hc];exact h
  rename_i hc;rw [if_neg hc]
  split at h
  ·rename_i hc;rw [if_pos hc]
   obtain ⟨⟨bs,r1⟩,e1,h⟩:=bind_some h
   obtain ⟨k,e2,h⟩:=bind_some h
   rw [ax (r9 _ _ _ _ _ e1 m (by omega)),ax (lA n _ _ e2 m (by omega))];exact h
  ·rename_i hc;rw [if_neg hc]
   obtain ⟨k,e2,h⟩:=bind_some h
   rw [ax (lA n _ _ e2 m (by omega))];exact h
theorem y8 {N:Nat} {r:List aQ} {l:List T} (h:decls N r=some l):doc r=node 4 l:=by
 obtain ⟨m,e1,e2⟩:=kY r
 have h1:=lA _ _ _ h (N+fuel r) (by omega)
 have h2:=lA _ _ _ e1 (N+fuel r) (by omega)
 rw [h1] at h2
 rw [e2,Option.some.inj h2]
structure Ext (f:List aQ→List aQ):Prop where
 nx: ∀r,(nx r).1≠0→Parse.nx (f r)=Parse.nx r
 tk: ∀r,(Parse.nx r).1≠0→aN (f r)=aN r
 tr: ∀r,(Parse.nx r).1≠0→aJ (f r)=f (aJ r)
 nd: ∀r,(Parse.nx r).1=0→Parse.nx (f r)=(3,fE)
section
variable {f:List aQ→List aQ} (hf:Ext f)
include hf
theorem Ext.bN {s:List UInt8} (hs:s≠fE) (r:List aQ):Parse.bN s (f r)=Parse.bN s r:=by
 by_cases h:(Parse.nx r).1=0
 ·unfold Parse.bN
  rw [hf.nd r h,h]
  have:(fE==s)=false:=beq_eq_false_iff_ne.2 fun e=>hs e.symm
  simp [this]
 ·unfold Parse.bN
  rw [hf.nx r h]
theorem Ext.isAny {l:List (List UInt8)} (hl:fE∉l) (r:List aQ):Parse.isAny l (f r)=Parse.isAny l r:=by
 by_cases h:(Parse.nx r).1=0
 ·unfold Parse.isAny
  rw [hf.nd r h,h]
  have:(l.any fun s=>s==fE)=false:=by
   rw [List.any_eq_false]
   intro x hx
   simp only [beq_iff_eq]
   rintro rfl
   exact hl hx
  simp [this]
 ·unfold Parse.isAny
  rw [hf.nx r h]
theorem Ext.bw (pat:Bool) (r:List aQ):Parse.bw pat (f r)=Parse.bw pat r:=by
 have ha:=hf.isAny (l:=[mW,jC,cy,jb,if pat then yj else cy]) (by cases pat <;> decide) r
 unfold Parse.bw
 rw [ha]
 by_cases h:(Parse.nx r).1=0
 ·rw [hf.nd r h,h]
  cases pat <;> rfl
 ·rw [hf.nx r h]
end
theorem nL {l:List (List UInt8)} {r:List aQ} (h:(nx r).1=0):isAny l r=false:=by
 cases e:isAny l r with
 | false=>rfl
 | true=>exact absurd h (jT e)
theorem nU {s:List UInt8} {r:List aQ} (h:(nx r).1=0):bN s r=false:=by
 cases e:bN s r with
 | false=>rfl
 | true=>exact absurd h (dS e)
theorem oS {pat:Bool} {r:List aQ} (h:(nx r).1=0):bw pat r=false:=by
 cases e:bw pat r with
 | false=>rfl
 | true=>exact absurd h (ju e)
theorem Ic: ∀(N:Nat) (d:Nat) (r:List aQ) (x:List T×List aQ),(nx r).1=0→
  (∀k,P N (.level k) d r=some x→x=([missing hH],r))∧(P N .neg d r=some x→x=([missing hH],r))∧(∀k t,P N (.ops k t) d r=some x→x=([t],r))∧(∀t,P N (.args t) d r=some x→x=([t],r))∧(∀pat,P N (.atom pat) d r=some x→x=([missing (if pat then gr else hH)],r)):=by
 intro N
 induction N with
 | zero=>intro d r x _;exact ⟨fun _ h=>(by cases h),fun h=>(by cases h),fun _ _ h=>(by cases h),fun _ h=>(by cases h),fun _ h=>(by cases h)⟩
 | succ n ih=>
  intro d r x h0
  have hops: ∀k t,P (n+1) (.ops k t) d r=some x→x=([t],r):=fun k t h=>by
   simp only [P,nL h0,Bool.false_eq_true,if_false] at h
   exact (Option.some.inj h).symm
  have hargs: ∀t,P (n+1) (.args t) d r=some x→x=([t],r):=fun t h=>by
   simp only [P,oS h0,Bool.false_eq_true,if_false] at h
   exact (Option.some.inj h).symm
  have hatom: ∀pat,P (n+1) (.atom pat) d r=some x→x=([missing (if pat then gr else hH)],r):=fun pat h=>by
   simp only [P,oS h0,Bool.false_eq_true,if_false] at h
   exact (Option.some.inj h).symm
  refine ⟨fun k h=> ?_,fun h=> ?_,hops,hargs,hatom⟩
  ·simp only [P] at h
   split at h
   ·exact (ih d r x h0).2.1 h
   ·obtain ⟨⟨a,r1⟩,e1,h⟩:=bind_some h
    have h1:=(ih d r (a,r1) h0).1 _ e1
    cases h1
    exact (ih d r x h0).2.2.1 _ _ h
  ·simp only [P,nL h0,Bool.false_eq_true,if_false] at h
   obtain ⟨⟨a,r1⟩,e1,h⟩:=bind_some h
   have h1:=(ih d r (a,r1) h0).2.2.2.2 false e1
   cases h1
   exact (ih d r x h0).2.2.2.1 _ h
theorem aW: ∀(l m:List T),aX (l++m)=(aX l&&aX m)
 | [],m=>by simp [aX]
 | t::l,m=>by simp only [List.cons_append,aX,aW l m,Bool.and_assoc]
theorem kZ (s:List UInt8):cI (missing s)=false:=rfl
theorem zP {s:List UInt8} {r:List aQ} (h:cI (bX s r)=true):bN s r=true:=by
 unfold bX at h
 split at h
 ·assumption
 ·rw [kZ] at h;cases h
theorem dQ (s:List UInt8) (r:List aQ):cI (ji s r)=false:=by
 unfold ji
 split
 ·rfl
 ·rfl
theorem aO {t:T}:aX [t]=cI t:=by simp [aX]
theorem aS {k:Nat} {l:List T} (h:cI (node k l)=true):aX l=true:=by
 simp only [cI,Bool.and_eq_true] at h
 exact h.2
theorem tH {k:Nat} {l:List T} (h2:k≠2) (h3:k≠3):cI (node k l)=aX l:=by
 simp [cI,h2,h3]
theorem Dp (a b:Bool):kindOf a b≠2:=by cases a <;> cases b <;> decide
def dn:gX→List T
 | .ops _ acc=>[acc]
 | .args acc=>[acc]
 | _=>[]
theorem iR: ∀(N:Nat) (job:gX) (d:Nat) (r:List aQ) (l:List T) (r':List aQ),P N job d r=some (l,r')→aX l=true→aX (dn job)=true:=by
 intro N
 induction N with
 | zero=>intro job d r l r' h;cases h
 | succ n ih=>
  intro job d r l r' h hg
  cases job with
  | ops k acc=>
   simp only [P] at h
   split at h
   ·obtain ⟨⟨b,r1⟩,e1,h⟩:=bind_some h
    have:=ih _ _ _ _ _ h hg
    simp only [dn,aO] at this ⊢
    have:=aS this
    simp only [aX,Bool.and_eq_true] at this
    exact this.1
   ·cases h;exact hg
  | args acc=>
   simp only [P] at h
   split at h
   ·obtain ⟨⟨b,r1⟩,e1,h⟩:=bind_some h
    have:=ih _ _ _ _ _ h hg
    simp only [dn,aO] at this ⊢
    have:=aS this
    simp only [aX,Bool.and_eq_true] at this
    exact this.1
   ·cases h;exact hg
  | _=>rfl
end Go.Parse
namespace Go.Lex
open Go.VM
theorem JK (w:List UInt8):nA w≠1:=by
 unfold nA
 split
 ·decide
 ·split <;> decide
theorem Ge (s:List UInt8):(number s).1≠1:=by
 unfold number
 dsimp only
 split
 ·dsimp only
  split <;> decide
 ·show (5:Nat)≠1
  decide
theorem Ee: ∀(s:List UInt8),(fa s).1≠1
 | []=>by decide
 | [c]=>by
  simp only [fa]
  split
  ·decide
  ·split <;> decide
 | c::d::l=>by
  simp only [fa]
  split
  ·decide
  split
  ·decide
  split
  ·split
   ·exact Ee l
   ·show (9:Nat)≠1
    decide
  ·exact Ee (d::l)
theorem GY {c:UInt8} {l:List UInt8} (h:(cut (c::l)).1=1):bJ c=true∧cut (c::l)=(1,wh bJ (c::l)):=by
 cases hb:bJ c with
 | true=>
  refine ⟨rfl, ?_⟩
  rw [lS]
  unfold Dq
  rw [if_pos hb]
 | false=>
  exfalso
  rw [lS] at h
  unfold Dq at h
  rw [if_neg (show ¬ bJ c=true by rw [hb];decide)] at h
  split at h
  ·split at h
   ·exact absurd (show (2:Nat)=1 from h) (by decide)
   ·exact absurd (show (9:Nat)=1 from h) (by decide)
  split at h
  ·exact JK _ h
  split at h
  ·exact Ge _ h
  split at h
  ·exact Ee _ h
  split at h
  ·exact absurd (show (8:Nat)=1 from h) (by decide)
  split at h
  ·exact absurd (show (8:Nat)=1 from h) (by decide)
  ·exact absurd (show (9:Nat)=1 from h) (by decide)
def glue:List (Nat×List UInt8)→List (Nat×List UInt8)
 | []=>[(1,[10])]
 | [t]=>if t.1=1 then [(1,t.2++[10])] else [t,(1,[10])]
 | t::u::l=>t::glue (u::l)
theorem GX {t:Nat×List UInt8} {l:List (Nat×List UInt8)} (h:l≠[]∨t.1≠1):glue (t::l)=t::glue l:=by
 cases l with
 | nil=>
  rcases h with h | h
  ·exact absurd rfl h
  ·simp only [glue,if_neg h]
 | cons u l=>rfl
theorem BR {y:List UInt8} (hy:wh bJ y=0): ∀(n:Nat) (s:List UInt8),s.length≤n→cG s=true→(∀t∈tokens s,t.1≠9)→tokens (s++10::y)=glue (tokens s)++tokens y:=by
 intro n
 induction n with
 | zero=>
  intro s hl _ _
  rw [List.eq_nil_of_length_eq_zero (Nat.le_zero.1 hl),List.nil_append,nN,fZ (by simp),Fo hy]
  rfl
 | succ n ih=>
  intro s hl hv hb
  cases s with
  | nil=>
   rw [List.nil_append,nN,fZ (by simp),Fo hy]
   rfl
  | cons c l=>
   have hne:c::l≠[]:=by simp
   have hc:=oH hne
   obtain ⟨hz,_⟩:=sL hne hv
   have hcv:=Gd hne hv
   have ht:=fZ hne
   rw [ht] at hb
   have h9:(cut (c::l)).1≠9:=hb _ List.mem_cons_self
   have ih:=ih ((c::l).drop (cut (c::l)).2) (by rw [List.length_drop];simp at hl ⊢;omega) hcv.2 (fun t h=>hb t (List.mem_cons_of_mem _ h))
   have step:cut (c::l++10::y)=cut (c::l)→(tokens ((c::l).drop (cut (c::l)).2)≠[]∨(cut (c::l)).1≠1)→tokens (c::l++10::y)=glue (tokens (c::l))++tokens y:=by
    intro he hg
    rw [fZ (show c::l++10::y≠[] by simp),he,ht,GX hg,List.take_append_of_le_length hc.2,List.drop_append_of_le_length hc.2,ih]
    rfl
   by_cases h1:(cut (c::l)).1=1
   ·obtain ⟨k1,k2⟩:=GY h1
    have hw:=Hy bJ (c::l) (10::y)
    have hw10:wh bJ (10::y)=1:=by rw [eK,if_pos (show bJ 10=true from rfl),hy]
    have hcb:cut (c::l++10::y)=(1,wh bJ (c::l++10::y)):=by
     show cut (c::(l++10::y))= _
     rw [lS]
     unfold Dq
     rw [if_pos k1]
     rfl
    by_cases hall:wh bJ (c::l)=(c::l).length
    ·rw [if_pos hall,hw10] at hw
     have e1:tokens (c::l)=[(1,c::l)]:=by
      rw [ht,k2,hall,List.take_length,List.drop_length,nN]
     have hcl:(c::l++[10]).length=(c::l).length+1:=by rw [List.length_append];rfl
     have e2:c::l++10::y=(c::l++[10])++y:=by simp
     have e3:(c::l++10::y).take ((c::l).length+1)=c::l++[10]:=by
      rw [e2, ← hcl,List.take_left]
     have e4:(c::l++10::y).drop ((c::l).length+1)=y:=by
      rw [e2, ← hcl,List.drop_left]
     rw [fZ (show c::l++10::y≠[] by simp),hcb,hw,e1]
     dsimp only
     rw [e3,e4]
     rfl
    ·rw [if_neg hall] at hw
     refine step (by rw [hcb,hw,k2]) (.inl ?_)
     have hlt:wh bJ (c::l) < (c::l).length:=Nat.lt_of_le_of_ne (lB _ _) hall
     rw [k2]
     intro e
     have:=fZ (s:=(c::l).drop (wh bJ (c::l))) (by
      intro e'
      have:=congrArg List.length e'
      rw [List.length_drop] at this
      simp at this hlt;omega)
     rw [e] at this
     cases this
   ·exact step (Ju hne hz h1 (fun _=>h9)) (.inr h1)
end Go.Lex
namespace Go.Parse
open Go.VM Go.Lex
theorem rX {p:aQ→Bool} {l:List aQ} {x:aQ} (h:x∈l.takeWhile p):p x=true:=List.all_eq_true.1 List.all_takeWhile x h
theorem Ja {pre:List aQ} {t:aQ} {rest:List aQ} (hp: ∀x∈pre,aZ x=true) (ht:aZ t=false):(pre++t::rest).takeWhile aZ=pre∧(pre++t::rest).dropWhile aZ=t::rest:=by
 induction pre with
 | nil=>simp [ht]
 | cons x l ih=>
  have hx:=hp x (by simp)
  obtain ⟨h1,h2⟩:=ih fun y hy=>hp y (List.mem_cons_of_mem _ hy)
  simp only [List.cons_append,List.takeWhile_cons,List.dropWhile_cons,hx,if_true,h1,h2,and_self]
theorem AJ {r:List aQ} (h:(nx r).1≠0): ∃pre t rest,r=pre++t::rest∧(∀x∈pre,aZ x=true)∧aZ t=false∧t.1≠0:=by
 cases hd:r.dropWhile aZ with
 | nil=>unfold nx at h;rw [hd] at h;exact absurd rfl h
 | cons t l=>
  refine ⟨r.takeWhile aZ,t,l,by rw [← hd,List.takeWhile_append_dropWhile],fun x hx=>rX hx, ?_, ?_⟩
  ·have:=List.head?_dropWhile_not aZ r
   rw [hd] at this
   simpa using this
  ·unfold nx at h;rw [hd] at h;exact h
theorem gQ {pre:List aQ} {t:aQ} {rest:List aQ} (hp: ∀x∈pre,aZ x=true) (ht:aZ t=false):nx (pre++t::rest)=t∧aN (pre++t::rest)=leaf t (pre.map eR)∧aJ (pre++t::rest)=rest:=by
 obtain ⟨h1,h2⟩:=Ja (rest:=rest) hp ht
 have hn:nx (pre++t::rest)=t:=by unfold nx;rw [h2]
 refine ⟨hn, ?_, ?_⟩
 ·unfold aN;rw [hn,h1]
 ·unfold aJ;rw [h2];rfl
def nz (t:aQ):Bool:=t.1 != 0
theorem Bh {x:aQ} (h:aZ x=true):nz x=true:=by
 simp only [aZ,Bool.or_eq_true,beq_iff_eq] at h
 simp only [nz,bne_iff_ne,ne_eq]
 omega
theorem vu {p:aQ→Bool} {pre rest:List aQ} (h: ∀x∈pre,p x=true):(pre++rest).takeWhile p=pre++rest.takeWhile p:=by
 induction pre with
 | nil=>rfl
 | cons x l ih=>
  rw [List.cons_append,List.takeWhile_cons,if_pos (h x (by simp)),ih fun y hy=>h y (List.mem_cons_of_mem _ hy)];rfl
mutual
def eU:T→List UInt8
 | .mk k _ tx l=>if k=1 then tx else if k=2 then 63::tx else 40::UInt8.ofNat (97+k)::pX l++[41]
def pX:List T→List UInt8
 | []=>[]
 | t::l=>32::eU t++pX l
end
theorem rD (t:aQ) (ks:List T):eU (leaf t ks)=t.2:=by simp [leaf,eU]
def OY (t:aQ):Bool:=t.1 != 1
def nb (r:List aQ):List aQ:=r.filter OY
theorem dU (t:aQ) (r:List aQ):nb (t::r)=if t.1=1 then nb r else t::nb r:=by
 unfold nb
 rw [List.filter_cons]
 by_cases h:t.1=1
 ·have:OY t=false:=by simp [OY,h]
  rw [this,if_pos h];rfl
 ·have:OY t=true:=by simp [OY,h]
  rw [this,if_neg h];rfl
theorem On (r s:List aQ):nb (r++s)=nb r++nb s:=List.filter_append ..
def iJ:T→Bool
 | .mk k tk _ l=>k==1&&(tk==1&&l.isEmpty)
mutual
def cU:T→T
 | .mk k tk tx l=> .mk k tk tx (if k=1 then l.filter (fun t=> !iJ t) else oU l)
def oU:List T→List T
 | []=>[]
 | t::l=>cU t::oU l
end
theorem qt: ∀(l:List T),oU l=l.map cU
 | []=>rfl
 | t::l=>by rw [oU,qt l];rfl
theorem dm {k:Nat} (h:k≠1) (l:List T):cU (node k l)=node k (l.map cU):=by
 unfold node
 rw [cU,if_neg h,qt]
theorem oc (s:List UInt8):cU (missing s)=missing s:=by
 unfold missing
 rw [cU,if_neg (by decide)];rfl
theorem vA: ∀(r:List aQ),(nb r).dropWhile aZ=nb (r.dropWhile aZ)
 | []=>rfl
 | t::r=>by
  rw [dU]
  by_cases h:t.1=1
  ·have ht:aZ t=true:=by simp [aZ,h]
   rw [if_pos h,List.dropWhile_cons,if_pos ht]
   exact vA r
  ·rw [if_neg h,List.dropWhile_cons,List.dropWhile_cons]
   cases ht:aZ t with
   | true=>rw [if_pos rfl,if_pos rfl];exact vA r
   | false=>
    rw [if_neg (by decide),if_neg (by decide),dU,if_neg h]
theorem Ap: ∀(r:List aQ),(nb r).takeWhile aZ=nb (r.takeWhile aZ)
 | []=>rfl
 | t::r=>by
  rw [dU]
  by_cases h:t.1=1
  ·have ht:aZ t=true:=by simp [aZ,h]
   rw [if_pos h,List.takeWhile_cons,if_pos ht,dU,if_pos h]
   exact Ap r
  ·rw [if_neg h,List.takeWhile_cons,List.takeWhile_cons]
   cases ht:aZ t with
   | true=>rw [if_pos rfl,if_pos rfl,dU,if_neg h,Ap r]
   | false=>rw [if_neg (by decide),if_neg (by decide)];rfl
theorem yC {r:List aQ} {t:aQ} {l:List aQ} (h:r.dropWhile aZ=t::l):t.1≠1:=by
 have:=List.head?_dropWhile_not aZ r
 rw [h] at this
 intro e
 simp [aZ,e] at this
theorem mZ (r:List aQ):nx (nb r)=nx r:=by
 unfold nx
 rw [vA]
 cases h:r.dropWhile aZ with
 | nil=>rfl
 | cons t l=>
  rw [dU,if_neg (yC h)]
theorem eH (r:List aQ):aJ (nb r)=nb (aJ r):=by
 unfold aJ
 rw [vA]
 cases h:r.dropWhile aZ with
 | nil=>rfl
 | cons t l=>rw [dU,if_neg (yC h)];rfl
theorem zF: ∀(l:List aQ),((l.map eR).filter fun t=> !iJ t)=(nb l).map eR
 | []=>rfl
 | t::l=>by
  rw [List.map_cons,List.filter_cons,dU,zF l]
  by_cases h:t.1=1
  ·simp [eR,leaf,iJ,h]
  ·simp [eR,leaf,iJ,h]
theorem eS (r:List aQ):aN (nb r)=cU (aN r):=by
 unfold aN
 rw [mZ,Ap,leaf,leaf,cU,if_pos rfl,zF]
theorem kC (s:List UInt8) (r:List aQ):bN s (nb r)=bN s r:=by unfold bN;rw [mZ]
theorem xQ (l:List (List UInt8)) (r:List aQ):isAny l (nb r)=isAny l r:=by unfold isAny;rw [mZ]
theorem ur (p:Bool) (r:List aQ):bw p (nb r)=bw p r:=by unfold bw;rw [mZ,xQ]
theorem ke (s:List UInt8) (r:List aQ):bX s (nb r)=cU (bX s r):=by
 unfold bX
 rw [kC]
 split
 ·exact eS r
 ·exact (oc s).symm
theorem ko (s:List UInt8) (r:List aQ):aT s (nb r)=nb (aT s r):=by
 unfold aT
 rw [kC,eH]
 split <;> rfl
theorem xV (s:List UInt8) (r:List aQ):ji s (nb r)=cU (ji s r):=by
 unfold ji
 rw [mZ,eS]
 split
 ·exact (oc s).symm
 ·rw [dm (by decide)];rfl
theorem xz (r:List aQ):gV (nb r)=nb (gV r):=by
 unfold gV
 rw [mZ,eH]
 split <;> rfl
def nR (x:List T×List aQ):List T×List aQ:=(x.1.map cU,nb x.2)
def jh:gX→gX
 | .ops k t=> .ops k (cU t)
 | .args t=> .args (cU t)
 | j=>j
theorem bind_map {α β γ δ:Type} {f:α→γ} {h:β→δ} {x:Option α} {y:Option γ} {g:α→Option β} {g':γ→Option δ} (hx:y=x.map f) (hg: ∀a,g' (f a)=(g a).map h):(y >>= g')=(x >>= g).map h:=by
 subst hx
 cases x with
 | none=>rfl
 | some a=>exact hg a
theorem eO {α β:Type} {c:Prop} [Decidable c] {f:α→β} {a b:Option α} {a' b':Option β} (h1:c→a'=a.map f) (h2:¬ c→b'=b.map f):(if c then a' else b')=(if c then a else b).map f:=by
 split
 ·rename_i h;exact h1 h
 ·rename_i h;exact h2 h
theorem Cp (a b:Bool):kindOf a b≠1:=by cases a <;> cases b <;> decide
theorem RH: ∀(N:Nat) (job:gX) (d:Nat) (r:List aQ),P N (jh job) d (nb r)=(P N job d r).map nR:=by
 intro N
 induction N with
 | zero=>intro job d r;rfl
 | succ n ih=>
  intro job d r
  have go: ∀(job:gX) (d:Nat) (r:List aQ),jh job=job→P n job d (nb r)=(P n job d r).map nR:=fun job d r h=>by
   have:=ih job d r
   rwa [h] at this
  have fin: ∀{l l':List T} {r r':List aQ},l'=l.map cU→r'=nb r→(some (l',r'):R)=(some (l,r):R).map nR:=fun h1 h2=>by rw [h1,h2];rfl
  cases job with
  | expr=>
   simp only [jh,P]
   refine eO (fun _=>fin ?_ (xz r)) fun _=>go _ _ _ rfl
   rw [xV];rfl
  | whole=>
   simp only [jh,P,kC,eH,eS]
   refine eO (fun _=> ?_) fun _=>eO (fun _=> ?_) fun _=>eO (fun _=> ?_) fun _=>eO (fun _=> ?_) fun _=>go _ _ _ rfl
   ·refine bind_map (go _ _ _ rfl) fun ⟨bs,r2⟩=> ?_
    simp only [nR,ko,ke]
    refine bind_map (go _ _ _ rfl) fun ⟨es,r3⟩=>fin ?_ rfl
    simp only [nR,List.map_cons,List.map_append,List.map_nil,dm (show (6:Nat)≠1 by decide)]
   ·refine bind_map (go _ _ _ rfl) fun ⟨a,r1⟩=> ?_
    refine bind_map (go _ _ _ rfl) fun ⟨ps,r2⟩=> ?_
    simp only [nR,ko,ke]
    refine bind_map (go _ _ _ rfl) fun ⟨es,r3⟩=>fin ?_ rfl
    simp only [nR,List.map_cons,List.map_append,List.map_nil,dm (show (7:Nat)≠1 by decide)]
   ·refine bind_map (go _ _ _ rfl) fun ⟨a,r1⟩=> ?_
    simp only [nR,ko,ke]
    refine bind_map (go _ _ _ rfl) fun ⟨b,r2⟩=> ?_
    simp only [nR,ko,ke]
    refine bind_map (go _ _ _ rfl) fun ⟨c,r3⟩=>fin ?_ rfl
    simp only [nR,List.map_cons,List.map_append,List.map_nil,dm (show (8:Nat)≠1 by decide)]
   ·refine bind_map (go _ _ _ rfl) fun ⟨a,r1⟩=> ?_
    simp only [nR,ko,ke,kC,eS,eH]
    have e:(if bN gB (aT bp r1)=true then nb (aJ (aT bp r1)) else nb (aT bp r1))=nb (if bN gB (aT bp r1)=true then aJ (aT bp r1) else aT bp r1):=by split <;> rfl
    rw [e]
    refine bind_map (go _ _ _ rfl) fun ⟨b,r3⟩=> ?_
    refine bind_map (go _ _ _ rfl) fun ⟨cs,r4⟩=>fin ?_ rfl
    have e2:(if bN gB (aT bp r1)=true then [cU (aN (aT bp r1))] else [])=(if bN gB (aT bp r1)=true then [aN (aT bp r1)] else []).map cU:=by split <;> rfl
    rw [e2]
    simp only [nR,List.map_cons,List.map_append,List.map_nil,dm (show (9:Nat)≠1 by decide)]
  | level k=>
   simp only [jh,P]
   refine eO (fun _=>go _ _ _ rfl) fun _=> ?_
   refine bind_map (go _ _ _ rfl) fun ⟨a,r1⟩=> ?_
   simp only [nR]
   cases a with
   | nil=>rfl
   | cons t l=>
    cases l with
    | nil=>exact ih (.ops k t) d r1
    | cons u l=>rfl
  | ops k acc=>
   simp only [jh,P,xQ,eH,eS]
   refine eO (fun _=> ?_) fun _=>fin rfl rfl
   refine bind_map (go _ _ _ rfl) fun ⟨b,r1⟩=> ?_
   have:=ih (.ops k (node 11 (acc::aN r::b))) d r1
   rw [jh,dm (by decide)] at this
   exact this
  | neg=>
   simp only [jh,P,xQ,eH,eS]
   refine eO (fun _=>eO (fun _=>fin ?_ ?_) fun _=> ?_) fun _=> ?_
   ·rw [xV,List.map_cons,dm (by decide)];rfl
   ·rw [xz]
   ·refine bind_map (go _ _ _ rfl) fun ⟨a,r1⟩=>fin ?_ rfl
    simp only [nR,List.map_cons,List.map_nil,dm (show (12:Nat)≠1 by decide)]
   ·refine bind_map (go _ _ _ rfl) fun ⟨a,r1⟩=> ?_
    simp only [nR]
    cases a with
    | nil=>rfl
    | cons t l=>
     cases l with
     | nil=>exact ih (.args t) d r1
     | cons u l=>rfl
  | args acc=>
   simp only [jh,P,ur]
   refine eO (fun _=> ?_) fun _=>fin rfl rfl
   refine bind_map (go _ _ _ rfl) fun ⟨b,r1⟩=> ?_
   have:=ih (.args (node 13 (acc::b))) d r1
   rw [jh,dm (by decide)] at this
   exact this
  | atom pat=>
   simp only [jh,P,ur,mZ,kC,eH,eS]
   refine eO (fun _=>eO (fun _=>fin ?_ rfl) fun _=>eO (fun _=>go _ _ _ rfl) fun _=>eO (fun _=>go _ _ _ rfl) fun _=>fin rfl rfl) fun _=>fin ?_ rfl
   ·simp only [List.map_cons,List.map_nil,dm (show (3:Nat)≠1 by decide)]
   ·simp only [List.map_cons,List.map_nil,oc]
  | closed list pat=>
   simp only [jh,P,kC,eH,eS]
   refine eO (fun _=>fin ?_ rfl) fun _=> ?_
   ·simp only [List.map_cons,List.map_nil,dm (Cp list pat)]
   ·refine bind_map (go _ _ _ (by cases pat <;> rfl)) fun ⟨a,r2⟩=> ?_
    refine bind_map (go _ _ _ rfl) fun ⟨bs,r3⟩=>fin ?_ ?_
    ·simp only [nR,ke,List.map_cons,List.map_append,List.map_nil,dm (Cp list pat)]
    ·simp only [nR,ko]
  | items list pat=>
   simp only [jh,P,kC,eH,eS]
   refine eO (fun _=> ?_) fun _=>fin rfl rfl
   refine bind_map (go _ _ _ (by cases pat <;> rfl)) fun ⟨a,r1⟩=> ?_
   refine bind_map (go _ _ _ rfl) fun ⟨bs,r2⟩=>fin ?_ rfl
   simp only [nR,List.map_cons,List.map_append]
  | pattern=>
   simp only [jh,P]
   refine eO (fun _=>fin ?_ (xz r)) fun _=> ?_
   ·rw [xV];rfl
   ·refine bind_map (go _ _ _ rfl) fun ⟨a,r1⟩=> ?_
    simp only [nR,kC,eH,eS]
    refine eO (fun _=> ?_) fun _=>fin rfl rfl
    refine bind_map (go _ _ _ rfl) fun ⟨b,r2⟩=>fin ?_ rfl
    simp only [nR,List.map_cons,List.map_append,List.map_nil,dm (show (16:Nat)≠1 by decide)]
  | binding=>
   simp only [jh,P,kC,eH,eS]
   have e0:(if bN dh r=true then nb (aJ r) else nb r)=nb (if bN dh r=true then aJ r else r):=by split <;> rfl
   rw [e0]
   generalize (if bN dh r=true then aJ r else r)=r0
   have e2:(if bN dh r=true then [cU (aN r)] else [])=(if bN dh r=true then [aN r] else []).map cU:=by split <;> rfl
   rw [e2]
   generalize (if bN dh r=true then [aN r] else [])=rc
   have last: ∀(xs:List T) (r1:List aQ),(do
     let (es,r2) ← P n .expr d (aT iw (nb r1))
     some (rc.map cU++xs.map cU++[bX iw (nb r1)]++es,r2):R)=(do
     let (es,r2) ← P n .expr d (aT iw r1)
     some (rc++xs++[bX iw r1]++es,r2):R).map nR:=fun xs r1=>by
    simp only [ko,ke]
    refine bind_map (go _ _ _ rfl) fun ⟨es,r2⟩=>fin ?_ rfl
    simp only [nR,List.map_append,List.map_cons,List.map_nil]
   rw [mZ]
   refine eO (fun _=> ?_) fun _=> ?_
   ·rw [eH,eS]
    refine bind_map (f:=nR) ?_ fun ⟨xs,r1⟩=>last xs r1
    refine bind_map (go _ _ _ rfl) fun ⟨ps,r1⟩=>fin ?_ rfl
    simp only [nR,List.map_cons]
   ·exact bind_map (go _ _ _ rfl) fun ⟨xs,r1⟩=>last xs r1
  | params=>
   simp only [jh,P,ur]
   refine eO (fun _=> ?_) fun _=>fin rfl rfl
   refine bind_map (go _ _ _ rfl) fun ⟨a,r1⟩=> ?_
   refine bind_map (go _ _ _ rfl) fun ⟨bs,r2⟩=>fin ?_ rfl
   simp only [nR,List.map_append]
  | arm=>
   simp only [jh,P]
   refine bind_map (go _ _ _ rfl) fun ⟨a,r1⟩=> ?_
   simp only [nR,ko,ke]
   refine bind_map (go _ _ _ rfl) fun ⟨es,r2⟩=>fin ?_ rfl
   simp only [nR,List.map_append,List.map_cons,List.map_nil,dm (show (10:Nat)≠1 by decide)]
  | arms=>
   simp only [jh,P,kC,eH,eS]
   refine eO (fun _=> ?_) fun _=>fin rfl rfl
   refine bind_map (go _ _ _ rfl) fun ⟨a,r1⟩=> ?_
   refine bind_map (go _ _ _ rfl) fun ⟨bs,r2⟩=>fin ?_ rfl
   simp only [nR,List.map_cons,List.map_append]
theorem Fp: ∀(n m:Nat) (r:List aQ),r.length≤n→(nb r).length≤m→(skip m (nb r)).1=(skip n r).1.map cU∧(skip m (nb r)).2=nb (skip n r).2
 | 0,m,r,h,_=>by
  have:r=[]:=List.length_eq_zero_iff.1 (by omega)
  subst this
  cases m with
  | zero=>exact ⟨rfl,rfl⟩
  | succ m=>exact ⟨rfl,rfl⟩
 | n+1,0,r,h,h2=>by
  have h0:nb r=[]:=List.length_eq_zero_iff.1 (by omega)
  have hx:nx r=(0,[]):=by rw [← mZ,h0];rfl
  simp only [skip,hx]
  exact ⟨rfl,rfl⟩
 | n+1,m+1,r,h,h2=>by
  simp only [skip,mZ,kC,eH,eS]
  split
  ·rename_i hc
   have l1:=eA hc.1
   have l2:=eA (r:=nb r) (by rw [mZ];exact hc.1)
   rw [eH] at l2
   obtain ⟨a,b⟩:=Fp n m (aJ r) (by omega) (by omega)
   rw [a,b]
   exact ⟨rfl,rfl⟩
  ·exact ⟨rfl,rfl⟩
theorem xK: ∀(N:Nat) (r:List aQ),decls N (nb r)=(decls N r).map fun l=>l.map cU
 | 0,r=>rfl
 | n+1,r=>by
  obtain ⟨k1,k2⟩:=Fp r.length (nb r).length r (Nat.le_refl _) (Nat.le_refl _)
  simp only [decls,mZ,kC,eH,eS,k1,k2]
  refine eO (fun _=>rfl) fun _=>eO (fun _=> ?_) fun _=> ?_
  ·refine bind_map (f:=nR) ?_ fun ⟨bs,r1⟩=> ?_
   ·exact RH n .binding 0 (aJ r)
   ·refine bind_map (xK n r1) fun l=> ?_
    simp only [nR,Option.map_some,List.map_cons,dm (show (5:Nat)≠1 by decide)]
  ·refine bind_map (xK n _) fun l=> ?_
   simp only [Option.map_some,List.map_cons,dm (show (3:Nat)≠1 by decide)]
theorem Ed (r:List aQ):doc (nb r)=cU (doc r):=by
 obtain ⟨l,e1,e2⟩:=kY r
 have h:=xK (fuel r) r
 rw [e1] at h
 rw [y8 (N:=fuel r) (l:=l.map cU) h,e2,dm (by decide)]
theorem HV {r s:List aQ} (h:nb r=nb s):cU (doc r)=cU (doc s):=by rw [← Ed, ← Ed,h]
theorem EB {t:T} (h:iJ t=true):cI t=true:=by
 cases t with
 | mk k tk tx l=>
  simp only [iJ,Bool.and_eq_true,beq_iff_eq,List.isEmpty_iff] at h
  obtain ⟨rfl,rfl,rfl⟩:=h
  rfl
theorem pk: ∀(l:List T),aX (l.filter fun t=> !iJ t)=aX l
 | []=>rfl
 | t::l=>by
  rw [List.filter_cons]
  cases h:iJ t with
  | true=>
   simp only [Bool.not_true,Bool.false_eq_true,if_false,aX,EB h,Bool.true_and]
   exact pk l
  | false=>simp only [Bool.not_false,if_true,aX,pk l]
mutual
theorem yF: ∀(t:T),cI (cU t)=cI t
 | .mk k tk tx l=>by
  rw [cU]
  by_cases h:k=1
  ·subst h
   rw [if_pos rfl]
   simp only [cI,pk]
  ·rw [if_neg h]
   simp only [cI,vZ l]
theorem vZ: ∀(l:List T),aX (oU l)=aX l
 | []=>rfl
 | t::l=>by simp only [oU,aX,yF t,vZ l]
end
end Go.Parse
namespace Go.Ast
open Go.VM Go.Lex Go.Parse Go.Scope
def pT (k tk:Nat):Bool:=k==1&&(tk != 0&&(tk != 1&&tk != 2))
mutual
def JP (a:Nat):T→List (Nat×Nat)
 | .mk k tk tx l=>Hq a l++(if pT k tk=true then [(a+(bo l).length,a+(bo l).length+tx.length)] else [])
def Hq (a:Nat):List T→List (Nat×Nat)
 | []=>[]
 | t::l=>JP a t++Hq (a+(bY t).length) l
end
def jP (l:List (Nat×Nat)):Sp:=(((l.getD 0 (0,0)).1:Int),((l.getD (l.length - 1) (0,0)).2:Int))
def mz (a:Nat) (t:T):Sp:=jP (JP a t)
def kN:List UInt8→List UInt8
 | []=>[]
 | [c]=>[c]
 | c::d::l=>if c=92 then (if d=110 then 10 else if d=116 then 9 else d)::kN l else c::kN (d::l)
def told (s:List UInt8):List UInt8:=kN ((s.drop 1).take (s.length - 2))
def fS (tk:Nat) (s:List UInt8):Nat×List UInt8:=
 if tk=4 then (1,s) else if tk=5 then (2,s) else if tk=6 then (3,s) else if tk=7 then (4,told s) else (5,s)
def eh {α:Type}:List α→List α
 | _::x::y::l=>x::eh (y::l)
 | _=>[]
def isRec:T→Bool
 | .mk _ tk s _=>tk==3&&s==dh
def lO (ks:List T) (P:List ij) (E:List iT):Bool×List ij×iT:=
 let rc:=isRec (ks.getD 1 default)
 let m:=if rc=true then 2 else 1
 let ps:=(P.drop m).take (P.length - m - 2)
 (rc&&(match ps.getD 0 default with | .mk k _ _ _ _=>k==15),ps,E.getD (E.length - 1) default)
def sJ:T→List UInt8
 | .mk _ _ s _=>s
def Ck (sp:Sp):List iT→iT
 | [e]=>e
 | l=> .mk 6 sp false [] [] l
def Cz (sp:Sp):List ij→ij
 | [p]=>p
 | l=> .mk 18 0 sp [] l
def nc (k tk:Nat) (s:List UInt8) (sp:Sp) (ks:List T) (P:List ij) (E:List iT) (A:List (ij×iT)):iT:=
 if k=1 then .mk (fS tk s).1 sp false (fS tk s).2 [] []
 else if k=14 then Ck sp (eh E)
 else if k=15 then .mk 7 sp false [] [] (eh E)
 else if k=13 then .mk 8 sp false [] [] E
 else if k=11 then .mk 9 sp false (sJ (ks.getD 1 default)) [] [E.getD 0 default,E.getD 2 default]
 else if k=12 then .mk 10 sp false (sJ (ks.getD 0 default)) [] [E.getD 1 default]
 else if k=8 then .mk 12 sp false [] [] [E.getD 1 default,E.getD 3 default,E.getD 5 default]
 else if k=7 then .mk 11 sp false [] ((P.drop 1).take (P.length - 3)) [E.getD (E.length - 1) default]
 else if k=6 then
  let b:=lO (ks.take (ks.length - 2)) (P.take (P.length - 2)) (E.take (E.length - 2))
  .mk 14 sp b.1 [] b.2.1 [b.2.2,E.getD (E.length - 1) default]
 else .mk 13 sp false [] (A.map (·.1)) (E.getD 1 default::A.map (·.2))
def re (k tk:Nat) (s:List UInt8) (sp:Sp) (P:List ij):ij:=
 if k=16 then .mk 20 0 sp [] [P.getD 0 default,P.getD 2 default]
 else if k=18 then .mk 19 0 sp [] (eh P)
 else if k=17 then Cz sp (eh P)
 else if (fS tk s).1=1 then .mk 15 0 sp (fS tk s).2 []
 else if tk=8 then .mk 16 0 sp [] []
 else .mk 17 (fS tk s).1 sp (fS tk s).2 []
mutual
def gC (a:Nat):T→ij
 | .mk k tk s l=>re k tk s (mz a (.mk k tk s l)) (ow a l)
def ow (a:Nat):List T→List ij
 | []=>[]
 | t::l=>gC a t::ow (a+(bY t).length) l
end
mutual
def bW (a:Nat):T→iT
 | .mk k tk s l=>nc k tk s (mz a (.mk k tk s l)) l (ow a l) (fU a l) (sn a l)
def fU (a:Nat):List T→List iT
 | []=>[]
 | t::l=>bW a t::fU (a+(bY t).length) l
def sn (a:Nat):List T→List (ij×iT)
 | []=>[]
 | t::l=>A8 a t++sn (a+(bY t).length) l
def A8 (a:Nat):T→List (ij×iT)
 | .mk k _ _ l=>if k=10 then [((ow a l).getD 0 default,(fU a l).getD 2 default)] else []
end
def kM (a:Nat):T→List Bd
 | .mk k tk s l=>if k=5 then
   let b:=lO l (ow a l) (fU a l)
   [⟨mz a (.mk k tk s l),b.1,b.2.1,b.2.2⟩] else []
def dY (a:Nat):List T→List Bd
 | []=>[]
 | t::l=>kM a t++dY (a+(bY t).length) l
def oP (s:List UInt8):Except Nat (List Bd):=
 if 65536 < s.length then .error 40
 else if cG s=true then (if cI (doc (tokens s))=true then .ok (dY 0 (doc (tokens s)).kids) else .error 50)
 else .error 4
mutual
def je:ij→ij
 | .mk k lit _ nm ps=> .mk k lit (0,0) nm (JG ps)
def JG:List ij→List ij
 | []=>[]
 | p::l=>je p::JG l
end
mutual
def kL:iT→iT
 | .mk k _ rc nm ps ls=> .mk k (0,0) rc nm (JG ps) (K9 ls)
def K9:List iT→List iT
 | []=>[]
 | e::l=>kL e::K9 l
end
theorem er: ∀(l:List ij),JG l=l.map je
 | []=>rfl
 | p::l=>by rw [JG,er l];rfl
theorem gu: ∀(l:List iT),K9 l=l.map kL
 | []=>rfl
 | p::l=>by rw [K9,gu l];rfl
def La (x:ij×iT):ij×iT:=(je x.1,kL x.2)
def vg (d:Bd):Bd:=⟨(0,0),d.rc,d.ps.map je,kL d.body⟩
theorem jI {α β:Type} (f:α→β): ∀(l:List α),eh (l.map f)=(eh l).map f
 | []=>rfl
 | [_]=>rfl
 | [_,_]=>rfl
 | _::x::y::l=>by
  have ih:=jI f (y::l)
  simp only [List.map_cons] at ih
  simp only [List.map_cons,eh,ih]
theorem jL {α β:Type} [Inhabited α] [Inhabited β] {f:α→β} (hf:f default=default) (l:List α) (i:Nat):(l.map f).getD i default=f (l.getD i default):=by
 rw [List.getD_eq_getElem?_getD,List.getD_eq_getElem?_getD,List.getElem?_map]
 cases l[i]? with
 | none=>exact hf.symm
 | some a=>rfl
theorem vC:je default=default:=rfl
theorem vz:kL default=default:=rfl
theorem DE (t:T):isRec (cU t)=isRec t:=by
 cases t with
 | mk k tk s l=>rw [cU];rfl
theorem HZ (t:T):sJ (cU t)=sJ t:=by
 cases t with
 | mk k tk s l=>rw [cU];rfl
theorem yV:cU default=default:=rfl
theorem FK {ks ks':List T} {P P':List ij} {E E':List iT} (hk:ks'=ks.map cU) (hP:P'.map je=P.map je) (hE:E'.map kL=E.map kL):
  (lO ks' P' E').1=(lO ks P E).1∧(lO ks' P' E').2.1.map je=(lO ks P E).2.1.map je∧kL (lO ks' P' E').2.2=kL (lO ks P E).2.2:=by
 subst hk
 have lP:P'.length=P.length:=by simpa using congrArg List.length hP
 have lE:E'.length=E.length:=by simpa using congrArg List.length hE
 have h2: ∀m,(((P'.drop m).take (P'.length - m - 2)).map je)=((P.drop m).take (P.length - m - 2)).map je:=fun m=>by
  rw [List.map_take,List.map_take,List.map_drop,List.map_drop,hP,lP]
 have hk0: ∀{l l':List ij},l'.map je=l.map je→(match l'.getD 0 default with | .mk k _ _ _ _=>k==15)=(match l.getD 0 default with | .mk k _ _ _ _=>k==15):=fun {l l'} h=>by
  have:(l'.map je).getD 0 default=(l.map je).getD 0 default:=by rw [h]
  rw [jL vC,jL vC] at this
  cases ha:l'.getD 0 default with
  | mk k1 _ _ _ _=>
   cases hb:l.getD 0 default with
   | mk k2 _ _ _ _=>
    rw [ha,hb] at this
    simp only [je,ij.mk.injEq] at this
    rw [this.1]
 unfold lO
 simp only [jL yV,DE]
 refine ⟨?_,h2 _, ?_⟩
 ·rw [hk0 (h2 _)]
 ·have:(E'.map kL).getD (E.length - 1) default=(E.map kL).getD (E.length - 1) default:=by rw [hE]
  rw [jL vz,jL vz] at this
  rw [lE];exact this
theorem Kr {l l':List ij} (h:l'.map je=l.map je) (sp sp':Sp):je (Cz sp' l')=je (Cz sp l):=by
 match l',l,h with
 | [],[],_=>rfl
 | [_],[_],h=>simpa [Cz,Ck] using h
 | _:: _:: _,_:: _:: _,h=>simp only [Cz,je,er,h]
 | [],_:: _,h=>simp at h
 | _:: _,[],h=>simp at h
 | [_],_:: _:: _,h=>simp at h
 | _:: _:: _,[_],h=>simp at h
theorem Kb {l l':List iT} (h:l'.map kL=l.map kL) (sp sp':Sp):kL (Ck sp' l')=kL (Ck sp l):=by
 match l',l,h with
 | [],[],_=>rfl
 | [_],[_],h=>simpa [Cz,Ck] using h
 | _:: _:: _,_:: _:: _,h=>simp only [Ck,kL,gu,h]
 | [],_:: _,h=>simp at h
 | _:: _,[],h=>simp at h
 | [_],_:: _:: _,h=>simp at h
 | _:: _:: _,[_],h=>simp at h
theorem QH {P P':List ij} (hP:P'.map je=P.map je) (i:Nat):je (P'.getD i default)=je (P.getD i default):=by
 have:(P'.map je).getD i default=(P.map je).getD i default:=by rw [hP]
 rwa [jL vC,jL vC] at this
theorem PR {P P':List iT} (hP:P'.map kL=P.map kL) (i:Nat):kL (P'.getD i default)=kL (P.getD i default):=by
 have:(P'.map kL).getD i default=(P.map kL).getD i default:=by rw [hP]
 rwa [jL vz,jL vz] at this
theorem IM (k tk:Nat) (s:List UInt8) (sp sp':Sp) {P P':List ij} (hP:P'.map je=P.map je):je (re k tk s sp' P')=je (re k tk s sp P):=by
 have g:=QH hP
 have ho:(eh P').map je=(eh P).map je:=by rw [← jI, ← jI,hP]
 unfold re
 by_cases h16:k=16
 ·simp only [if_pos h16,je,er,List.map_cons,List.map_nil,g]
 by_cases h18:k=18
 ·simp only [if_neg h16,if_pos h18,je,er,ho]
 by_cases h17:k=17
 ·rw [if_neg h16,if_neg h18,if_pos h17,if_neg h16,if_neg h18,if_pos h17]
  exact Kr ho sp sp'
 rw [if_neg h16,if_neg h18,if_neg h17,if_neg h16,if_neg h18,if_neg h17]
 repeat' split
 all_goals simp only [je,er,List.map_nil]
theorem Bq (k tk:Nat) (s:List UInt8) (sp sp':Sp) {ks ks':List T} {P P':List ij} {E E':List iT} {A A':List (ij×iT)} (hk:k≠1→ks'=ks.map cU) (hP:k≠1→P'.map je=P.map je) (hE:k≠1→E'.map kL=E.map kL) (hA:k≠1→A'.map La=A.map La):
  kL (nc k tk s sp' ks' P' E' A')=kL (nc k tk s sp ks P E A):=by
 by_cases h1:k=1
 ·unfold nc
  simp only [if_pos h1,kL,er,gu,List.map_nil]
 have hk:=hk h1
 have hP:=hP h1
 have hE:=hE h1
 have hA:=hA h1
 have g:=PR hE
 have ho:(eh E').map kL=(eh E).map kL:=by rw [← jI, ← jI,hE]
 have lE:E'.length=E.length:=by simpa using congrArg List.length hE
 have lP:P'.length=P.length:=by simpa using congrArg List.length hP
 have hkl:ks'.length=ks.length:=by rw [hk,List.length_map]
 have hA1:(A'.map (·.1)).map je=(A.map (·.1)).map je:=by
  have:=congrArg (List.map (·.1)) hA
  simpa [La,Function.comp_def] using this
 have hA2:(A'.map (·.2)).map kL=(A.map (·.2)).map kL:=by
  have:=congrArg (List.map (·.2)) hA
  simpa [La,Function.comp_def] using this
 have hps: ∀a b,(((P'.drop a).take b).map je)=((P.drop a).take b).map je:=fun a b=>by
  rw [List.map_take,List.map_take,List.map_drop,List.map_drop,hP]
 have hkt: ∀i,sJ (ks'.getD i default)=sJ (ks.getD i default):=fun i=>by
  rw [hk,jL yV,HZ]
 unfold nc
 simp only [if_neg h1]
 by_cases h14:k=14
 ·simp only [if_pos h14];exact Kb ho sp sp'
 simp only [if_neg h14]
 by_cases h15:k=15
 ·simp only [if_pos h15,kL,er,gu,List.map_nil,ho]
 simp only [if_neg h15]
 by_cases h13:k=13
 ·simp only [if_pos h13,kL,er,gu,List.map_nil,hE]
 simp only [if_neg h13]
 by_cases h11:k=11
 ·simp only [if_pos h11,kL,er,gu,List.map_nil,List.map_cons,g,hkt]
 simp only [if_neg h11]
 by_cases h12:k=12
 ·simp only [if_pos h12,kL,er,gu,List.map_nil,List.map_cons,g,hkt]
 simp only [if_neg h12]
 by_cases h8:k=8
 ·simp only [if_pos h8,kL,er,gu,List.map_nil,List.map_cons,g]
 simp only [if_neg h8]
 by_cases h7:k=7
 ·simp only [if_pos h7,kL,er,gu,List.map_nil,List.map_cons,lE,lP,hps,g]
 simp only [if_neg h7]
 by_cases h6:k=6
 ·simp only [if_pos h6]
  obtain ⟨b1,b2,b3⟩:=FK (ks:=ks.take (ks.length - 2)) (ks':=ks'.take (ks'.length - 2)) (P:=P.take (P.length - 2)) (P':=P'.take (P'.length - 2)) (E:=E.take (E.length - 2)) (E':=E'.take (E'.length - 2)) (by rw [hkl,hk,List.map_take]) (by rw [lP,List.map_take,List.map_take,hP]) (by rw [lE,List.map_take,List.map_take,hE])
  rw [lE] at b1 b2 b3
  simp only [kL,er,gu,List.map_nil,List.map_cons,lE,g,b1,b2,b3]
 simp only [if_neg h6,kL,er,gu,List.map_cons,g,hA1,hA2]
mutual
theorem GW: ∀(t:T) (a b:Nat),je (gC b (cU t))=je (gC a t)
 | .mk k tk s l,a,b=>by
  rw [cU,gC,gC]
  by_cases h:k=1
  ·subst h
   rw [if_pos rfl]
   unfold re
   simp only [show ¬ (1:Nat)=16 by decide,show ¬ (1:Nat)=18 by decide,show ¬ (1:Nat)=17 by decide,if_false]
   repeat' split
   all_goals simp only [je,er,List.map_nil]
  ·rw [if_neg h]
   exact IM k tk s _ _ (mS l a b)
theorem mS: ∀(l:List T) (a b:Nat),(ow b (oU l)).map je=(ow a l).map je
 | [],_,_=>rfl
 | t::l,a,b=>by
  rw [oU,ow,ow,List.map_cons,List.map_cons,GW t a b,mS l (a+(bY t).length) (b+(bY (cU t)).length)]
end
mutual
theorem rW: ∀(t:T) (a b:Nat),kL (bW b (cU t))=kL (bW a t)
 | .mk k tk s l,a,b=>by
  rw [cU,bW,bW]
  by_cases h:k=1
  ·rw [if_pos h]
   exact Bq k tk s _ _ (fun h'=>absurd h h') (fun h'=>absurd h h') (fun h'=>absurd h h') (fun h'=>absurd h h')
  ·rw [if_neg h]
   exact Bq k tk s _ _ (fun _=>qt l) (fun _=>mS l a b) (fun _=>nJ l a b) (fun _=>wV l a b)
theorem nJ: ∀(l:List T) (a b:Nat),(fU b (oU l)).map kL=(fU a l).map kL
 | [],_,_=>rfl
 | t::l,a,b=>by
  rw [oU,fU,fU,List.map_cons,List.map_cons,rW t a b,nJ l (a+(bY t).length) (b+(bY (cU t)).length)]
theorem wV: ∀(l:List T) (a b:Nat),(sn b (oU l)).map La=(sn a l).map La
 | [],_,_=>rfl
 | t::l,a,b=>by
  rw [oU,sn,sn,List.map_append,List.map_append,Gl t a b,wV l (a+(bY t).length) (b+(bY (cU t)).length)]
theorem Gl: ∀(t:T) (a b:Nat),(A8 b (cU t)).map La=(A8 a t).map La
 | .mk k tk s l,a,b=>by
  rw [cU,A8,A8]
  by_cases h:k=10
  ·subst h
   rw [if_neg (show ¬ (10:Nat)=1 by decide),if_pos rfl,if_pos rfl]
   have h1:=QH (mS l a b) 0
   have h2:=PR (nJ l a b) 2
   simp only [List.map_cons,List.map_nil,La,h1,h2]
  ·rw [if_neg h,if_neg h]
end
theorem Ef (t:T) (a b:Nat):(kM b (cU t)).map vg=(kM a t).map vg:=by
 cases t with
 | mk k tk s l=>
  rw [cU,kM,kM]
  by_cases h:k=5
  ·subst h
   rw [if_neg (show ¬ (5:Nat)=1 by decide),if_pos rfl,if_pos rfl]
   obtain ⟨b1,b2,b3⟩:=FK (qt l) (mS l a b) (nJ l a b)
   simp only [List.map_cons,List.map_nil,vg,b1,b2,b3]
  ·rw [if_neg h,if_neg h]
theorem pV: ∀(l:List T) (a b:Nat),(dY b (l.map cU)).map vg=(dY a l).map vg
 | [],_,_=>rfl
 | t::l,a,b=>by
  rw [List.map_cons,dY,dY,List.map_append,List.map_append,Ef t a b,pV l (a+(bY t).length) (b+(bY (cU t)).length)]
theorem Eg {r s:List aQ} (h:nb r=nb s):(dY 0 (doc r).kids).map vg=(dY 0 (doc s).kids).map vg:=by
 have e:=HV h
 obtain ⟨l,e1,e2⟩:=kY r
 obtain ⟨m,f1,f2⟩:=kY s
 rw [e2,f2,dm (by decide),dm (by decide)] at e
 injection e with _ _ _ e
 rw [e2,f2]
 show (dY 0 l).map vg=(dY 0 m).map vg
 rw [← pV l 0 0, ← pV m 0 0,e]
end Go.Ast
namespace Go.VM
open Go
section
variable {β:Type} {Q:β→Prop} {st st0:St} {l:ub} {z:Nat} {e:TypeId} {v:AV} {ws:List AV}
theorem Vw.keeps {s:St} {but:Nat→Prop} (w:Vw st l) (k:ba st s but) (h: ∀q∈l,¬ but q.1):Vw s l:=
 ⟨fun q hq=>⟨k.old _ _ (h q hq) (w.v q hq).1,by rw [k.ro];exact (w.v q hq).2⟩,w.nd,by rw [k.ro];exact Nat.le_trans w.ro k.h⟩
theorem uU {a b c:St} {p:Nat→Prop} (h:ba a b (fun _=>False)) (k:ba b c p) (hp: ∀j,p j→a.h≤j):ba a c (fun _=>False):=
 ⟨k.ro.trans h.ro,Nat.le_trans h.h k.h,fun j o _ hg=>k.old j o (fun f=>by
  have h1:=hp j f
  have h2:=(St.bM.1 hg).1
  omega) (h.old j o (fun f=>f) hg)⟩
structure Wv (st0 st:St) (l:ub) (z:Nat) (e:TypeId) (v:AV) (ws:List AV):Prop where
 w:Vw st l
 o:iN st z e v ws
 nw: ∀j,dW v j→st0.h≤j
 k:ba st0 st (fun _=>False)
 ge: ∀q∈l,st0.h≤q.1
theorem Wv.start (h:st.ro≤st.h) (z:Nat) (e:TypeId):Wv st st [] z e .aq []:=⟨Vw.start h,iN.aq h z e,(fun j hj=>by obtain ⟨_,_,h⟩:=hj;cases h),ba.refl _ _,fun q hq=>by cases hq⟩
theorem Wv.sub {l':ub} (w:Wv st0 st l z e v ws) (h:List.Sublist l' l):Wv st0 st l' z e v ws:=⟨w.w.sub h,w.o,w.nw,w.k,fun q hq=>w.ge q (h.subset hq)⟩
theorem Wv.none (w:Wv st0 st l z e v ws):Wv st0 st [] z e v ws:=w.sub (List.nil_sublist _)
theorem Wv.keeps {s:St} (w:Wv st0 st l z e v ws) (k:ba st s (fun _=>False)):Wv st0 s l z e v ws:=
 ⟨w.w.keeps k (fun _ _ f=>f),pF w.o k (fun _ _ f=>f),w.nw,w.k.trans k,w.ge⟩
theorem ad.uv (w:Wv st0 st l z e v ws) {ty:TypeId} {cs:List AV} {K:St→Option β} (g: ∀s,s.h=st.h+1→Wv st0 s ((st.h,ty,cs)::l) z e v ws→ad (K s) Q):ad (bP (st.add (.cells ty cs)) K) Q:=by
 refine g _ rfl ⟨w.w.alloc ty cs,pF w.o (ba.add _ _ (fun _=>False)) (fun _ _ f=>f),w.nw,w.k.trans (ba.add _ _ _),fun q hq=> ?_⟩
 rcases List.mem_cons.1 hq with rfl | hq
 ·exact w.k.h
 ·exact w.ge q hq
theorem Wv.putAt {a:Nat} {t t':TypeId} {old cs:List AV} {l1 l2:ub} (w:Wv st0 st (l1++(a,t,old)::l2) z e v ws):Wv st0 (st.put a (.cells t' cs)) (l1++(a,t',cs)::l2) z e v ws:=by
 have hm:(a,t,old)∈l1++(a,t,old)::l2:=List.mem_append_right _ List.mem_cons_self
 have hg:=w.w.get hm
 refine ⟨w.w.putAt cs,w.o.put hg,w.nw,uU w.k (ba.put (but:=(· =a)) rfl) (fun j hj=>by rw [hj];exact w.ge _ hm),fun q hq=> ?_⟩
 rcases List.mem_append.1 hq with h | h
 ·exact w.ge q (List.mem_append_left _ h)
 ·rcases List.mem_cons.1 h with rfl | h
  ·have h1:=w.ge (a,t,old) hm
   exact h1
  ·exact w.ge q (List.mem_append_right _ (List.mem_cons_of_mem _ h))
theorem ad.tz {O:qJ} (l1:ub) {l2:ub} {a:Nat} {ty:TypeId} {old:List AV} (w:Wv st0 st (l1++(a,ty,old)::l2) z e v ws) {y:Nat} {u:AV} {cs:List AV} {K:Kv β}
  (g: ∀s fx,s.h=st.h→Wv st0 s (l1++(a,ty,cs)::l2) z e v ws→ad (K VM.undef s fx) Q) (hz:old.length=y:=by rfl) (hc:cs.length=y:=by rfl):ad (ao O y (.mp a 0) u cs st K) Q:=by
 have hm:(a,ty,old)∈l1++(a,ty,old)::l2:=List.mem_append_right _ List.mem_cons_self
 have e1:ao O y (.mp a 0) u cs st K=K VM.undef (st.put a (.cells ty cs)) ⟨[a],.wrote a (.cells ty cs)⟩:=by
  rw [dw (w.w.get hm) hc (by omega) (w.w.v _ hm).2,jv (by omega)]
 exact ad.step e1 (g _ _ rfl w.putAt)
theorem ad.SP {O:qJ} (l1:ub) {l2:ub} {a:Nat} {ty:TypeId} {old:List AV} (w:Wv st0 st (l1++(a,ty,old)::l2) z e v ws) {off y:Nat} {u:AV} {cs:List AV} {K:Kv β} (hl:off+cs.length≤old.length)
  (g: ∀s o,s.h=st.h→Wv st0 s (l1++(a,ty,cF old off cs)::l2) z e v ws→ad (K VM.undef s ⟨[a],.wrote a o⟩) Q) (hc:cs.length=y:=by rfl):ad (ao O y (.mp a off) u cs st K) Q:=by
 have hm:(a,ty,old)∈l1++(a,ty,old)::l2:=List.mem_append_right _ List.mem_cons_self
 exact ad.step (dw (w.w.get hm) hc hl (w.w.v _ hm).2 K) (g _ _ rfl w.putAt)
theorem ad.Ii (w:Wv st0 st l z e v ws) {b:Nat} {x:AV} (hr:ws.length+1≤1000000000) (hb:b≤1000) (hz:1≤z) {K:Kv β} (g: ∀v' s fx,Wv st0 s l z e v' (ws++[x])→ad (K v' s fx) Q):ad (gf z b e v [x] st K) Q:=by
 obtain ⟨v',s,fx,e1,o1,k1,n1⟩:=vj (b:=b) (new:=[x]) w.o (by simp) (vD (by simpa using hr) hb hz)
 refine ad.step (qa e1 K) (g v' s fx ⟨w.w.keeps k1 (fun q hq h=>w.o.not (w.w.v q hq).1 h),o1,fun j hj=> ?_,uU w.k k1 w.nw,w.ge⟩)
 rcases n1 j hj with h | h
 ·exact w.nw j h
 ·exact Nat.le_trans w.k.h h
theorem ad.P5 (w:Wv st0 st l z e v ws) {K:AV→Option β} (g: ∀x,bl z x ws→ad (K x) Q):ad (iL st 0 v K) Q:=by
 obtain ⟨x,hx,e1⟩:=LP (β:=β) w.o
 exact ad.step (e1 K) (g x hx)
structure Vo (st:St) (l:ub) (z:Nat) (e:TypeId) (v:AV) (ws:List AV):Prop where
 w:Vw st l
 o:iN st z e v ws
theorem Vo.call {s:St} {v':AV} {ws':List AV} {l':ub} {z':Nat} {e':TypeId} (w:Vo st l z e v ws) (r:Wv st s l' z' e' v' ws'):Vo s l z' e' v' ws':=⟨w.w.keeps r.k (fun _ _ f=>f),r.o⟩
theorem ad.lL {O:qJ} (l1:ub) {l2:ub} {a:Nat} {ty:TypeId} {old:List AV} (w:Vo st (l1++(a,ty,old)::l2) z e v ws) {off y:Nat} {u:AV} {cs:List AV} {K:Kv β} (hl:off+cs.length≤old.length)
  (g: ∀s o,s.h=st.h→Vo s (l1++(a,ty,cF old off cs)::l2) z e v ws→ad (K VM.undef s ⟨[a],.wrote a o⟩) Q) (hc:cs.length=y:=by rfl):ad (ao O y (.mp a off) u cs st K) Q:=by
 have hm:(a,ty,old)∈l1++(a,ty,old)::l2:=List.mem_append_right _ List.mem_cons_self
 have hg:=w.w.get hm
 exact ad.step (dw hg hc hl (w.w.v _ hm).2 K) (g _ _ rfl ⟨w.w.putAt _,w.o.put hg⟩)
theorem Vo.new {v':AV} {ws':List AV} (w:Vo st l z e v ws) (h:(v'= .aq∨v'= .es)∧ws'=[]∨v'= .sl z ws' .shut) (hl:ws'.length≤9223372036854775807):Vo st l z e v' ws':=⟨w.w,w.w.ro,hl,by
 rcases h with h | h
 ·exact .inl h
 ·exact .inr (.inl h)⟩
theorem AY {base:Nat} {vs xs:List AV} (h:kX (freeze st base 99) vs= .ok xs) (hb:bz xs=true) (K:AV→Option β):iL st base (.agg vs) K=K (.agg xs):=by
 have e2:freeze st base 100 (.agg vs)= .ok (.agg xs):=by
  show (do pure (.agg (← kX (freeze st base 99) vs)):cV AV)= _
  rw [h];rfl
 have e3:bare (.agg xs)=true:=hb
 simp only [iL,e2,e3,bf]
end
end Go.VM
namespace Go.Ast
open Go.VM Go.Lex Go.Parse
def tS:List UInt8→Bool
 | []=>true
 | [c]=>c != 92
 | c::d::l=>if c=92 then tS l else tS (d::l)
theorem AW: ∀(s:List UInt8) (n:Nat),fa s=(7,n)→ ∃u,s.take n=u++[34]∧tS u=true
 | [],n,h=>by simp [fa] at h
 | [c],n,h=>by
  simp only [fa] at h
  split at h
  ·simp at h
  ·split at h
   ·rename_i h1
    obtain rfl:1=n:=by simpa using h
    exact ⟨[],by simp [h1],rfl⟩
   ·simp at h
 | c::d::l,n,h=>by
  simp only [fa] at h
  split at h
  ·simp at h
  ·split at h
   ·rename_i h1
    obtain rfl:1=n:=by simpa using h
    exact ⟨[],by simp [h1],rfl⟩
   ·split at h
    ·rename_i h1
     split at h
     ·simp only [Prod.mk.injEq] at h
      obtain ⟨u,hu,he⟩:=AW l (fa l).2 (by rw [← h.1])
      refine ⟨c::d::u, ?_, ?_⟩
      ·rw [← h.2];simp [hu]
      ·simp only [tS,if_pos h1];exact he
     ·simp at h
    ·rename_i h1
     simp only [Prod.mk.injEq] at h
     obtain ⟨u,hu,he⟩:=AW (d::l) (fa (d::l)).2 (by rw [← h.1])
     refine ⟨c::u, ?_, ?_⟩
     ·rw [← h.2];simp [hu]
     ·cases u with
      | nil=>simp [tS,h1]
      | cons a u=>
       simp only [tS,if_neg h1];exact he
def hU (t:aQ):Prop:=t.2≠[]∧(t.1=7→ ∃u,t.2=34::u++[34]∧tS u=true)∧(t.1=8→t.2.length≤2)
theorem lQ: ∀(l:List UInt8),(fa l).1=7∨(fa l).1=9
 | []=> .inr rfl
 | [c]=>by
  simp only [fa]
  split
  ·exact .inr rfl
  ·split
   ·exact .inl rfl
   ·exact .inr rfl
 | c::d::l=>by
  simp only [fa]
  split
  ·exact .inr rfl
  ·split
   ·exact .inl rfl
   ·split
    ·split
     ·exact lQ l
     ·exact .inr rfl
    ·exact lQ (d::l)
theorem Qs (s:List UInt8) (hs:s≠[]):(cut s).1=7→ ∃u,s.take (cut s).2=34::u++[34]∧tS u=true:=by
 cases s with
 | nil=>exact absurd rfl hs
 | cons c l=>
  intro h
  simp only [cut] at h ⊢
  by_cases h1:bJ c=true
  ·rw [if_pos h1] at h;cases h
  rw [if_neg h1] at h ⊢
  by_cases h2:(c::l).take 2=[40,42]
  ·rw [if_pos h2] at h
   cases hr:rem ((c::l).drop 2) 1 <;> rw [hr] at h <;> cases h
  rw [if_neg h2] at h ⊢
  by_cases h3:jW c=true
  ·rw [if_pos h3] at h
   simp only [nA] at h
   split at h
   ·cases h
   ·split at h <;> cases h
  rw [if_neg h3] at h ⊢
  by_cases h4:bm c=true
  ·rw [if_pos h4] at h
   simp only [number] at h
   split at h
   ·split at h <;> cases h
   ·cases h
  rw [if_neg h4] at h ⊢
  by_cases h5:c=34
  ·rw [if_pos h5] at h ⊢
   obtain ⟨u,hu,he⟩:=AW l (fa l).2 (by rw [← h])
   exact ⟨u,by rw [h5];simp [hu],he⟩
  rw [if_neg h5] at h ⊢
  by_cases h6:jV.contains ((c::l).take 2)=true
  ·rw [if_pos h6] at h;cases h
  rw [if_neg h6] at h ⊢
  by_cases h7:kJ c=true
  ·rw [if_pos h7] at h;cases h
  rw [if_neg h7] at h;cases h
theorem Qk (s:List UInt8):(cut s).1=8→(s.take (cut s).2).length≤2:=by
 cases s with
 | nil=>intro h;cases h
 | cons c l=>
  intro h
  simp only [cut] at h ⊢
  by_cases h1:bJ c=true
  ·rw [if_pos h1] at h;cases h
  rw [if_neg h1] at h ⊢
  by_cases h2:(c::l).take 2=[40,42]
  ·rw [if_pos h2] at h
   cases hr:rem ((c::l).drop 2) 1 <;> rw [hr] at h <;> cases h
  rw [if_neg h2] at h ⊢
  by_cases h3:jW c=true
  ·rw [if_pos h3] at h ⊢
   simp only [nA] at h
   split at h
   ·rename_i hw
    rw [qx,hw];decide
   ·split at h <;> cases h
  rw [if_neg h3] at h ⊢
  by_cases h4:bm c=true
  ·rw [if_pos h4] at h
   simp only [number] at h
   split at h
   ·split at h <;> cases h
   ·cases h
  rw [if_neg h4] at h ⊢
  by_cases h5:c=34
  ·rw [if_pos h5] at h
   have: ∀l:List UInt8,(fa l).1=7∨(fa l).1=9:=lQ
   have:=this l
   simp only at h
   omega
  rw [if_neg h5] at h ⊢
  by_cases h6:jV.contains ((c::l).take 2)=true
  ·rw [if_pos h6,List.length_take];omega
  rw [if_neg h6] at h ⊢
  by_cases h7:kJ c=true
  ·rw [if_pos h7,List.length_take];omega
  rw [if_neg h7] at h;cases h
theorem JJ: ∀(n:Nat) (s:List UInt8),∀t∈na n s,hU t
 | 0,_,t,h=>by cases h
 | n+1,s,t,h=>by
  cases s with
  | nil=>simp [na] at h
  | cons c l=>
   simp only [na,List.mem_cons] at h
   rcases h with rfl | h
   ·refine ⟨?_,Qs _ (by simp),Qk _⟩
    have:=oH (s:=c::l) (by simp)
    intro e
    have h2:=congrArg List.length e
    rw [List.length_take,List.length_nil] at h2
    omega
   ·exact JJ n _ t h
end Go.Ast
namespace Go.Parse
open Go.VM Go.Lex
def Tv (Q:aQ→Prop) (ks:List T):Prop:= ∃r:List aQ,ks=r.map eR∧ ∀x∈r,aZ x=true∧Q x
def Lf (Q:aQ→Prop) (s:List UInt8) (t:T):Prop:= ∃k ks,t= .mk 1 k s ks∧(k=3∨k=8)∧Q (k,s)∧Tv Q ks
def zt (list:Bool):List UInt8:=if list then jb else cy
section
variable (Q:aQ→Prop)
mutual
inductive ET:T→Prop where
 | leaf {k:Nat} {tx:List UInt8} {ks:List T}:Q (k,tx)→(k=4∨k=5∨k=6∨k=7∨(k=3∨k=8)∧(tx=mW∨tx=jC))→Tv Q ks→ET (.mk 1 k tx ks)
 | letin {a i e:T} {bs:List T}:Lf Q fE a→BT bs→Lf Q JR i→ET e→ET (node 6 (a::bs++[i]++[e]))
 | lambda {f p a e:T} {ps:List T}:Lf Q Ep f→PT p→(∀x∈ps,PT x)→Lf Q fG a→ET e→ET (node 7 (f::p::ps++[a]++[e]))
 | ife {i a t b l c:T}:Lf Q Ou i→ET a→Lf Q ri t→ET b→Lf Q qO l→ET c→ET (node 8 [i,a,t,b,l,c])
 | mtch {m e w a:T} {bar as:List T}:Lf Q rM m→ET e→Lf Q bp w→(bar=[]∨ ∃b,Lf Q gB b∧bar=[b])→AT a→Pn as→ET (node 9 (m::e::w::bar++a::as))
 | bin {a op b:T} {s:List UInt8}:ET a→Lf Q s op→ET b→ET (node 11 [a,op,b])
 | un {op a:T}:Lf Q [45] op∨Lf Q [45,46] op→ET a→ET (node 12 [op,a])
 | app {a b:T}:ET a→ET b→ET (node 13 [a,b])
 | none {list:Bool} {o c:T}:Lf Q (zt list) o→Lf Q (gG list) c→ET (node (kindOf list false) [o,c])
 | some {list:Bool} {o c a:T} {l:List T}:Lf Q (zt list) o→ET a→O5 list l→Lf Q (gG list) c→ET (node (kindOf list false) (o::a::l++[c]))
inductive O5:Bool→List T→Prop where
 | nil {list:Bool}:O5 list []
 | cons {list:Bool} {c x:T} {l:List T}:Lf Q (tu list) c→ET x→O5 list l→O5 list (c::x::l)
inductive PT:T→Prop where
 | leaf {k:Nat} {tx:List UInt8} {ks:List T}:Q (k,tx)→(k=4∨k=5∨k=7∨(k=3∨k=8)∧(tx=mW∨tx=jC∨tx=yj))→Tv Q ks→PT (.mk 1 k tx ks)
 | cons {a op b:T}:PT a→Lf Q uG op→PT b→PT (node 16 [a,op,b])
 | none {list:Bool} {o c:T}:Lf Q (zt list) o→Lf Q (gG list) c→PT (node (kindOf list true) [o,c])
 | some {list:Bool} {o c a:T} {l:List T}:Lf Q (zt list) o→PT a→Pk list l→Lf Q (gG list) c→PT (node (kindOf list true) (o::a::l++[c]))
inductive Pk:Bool→List T→Prop where
 | nil {list:Bool}:Pk list []
 | cons {list:Bool} {c x:T} {l:List T}:Lf Q (tu list) c→PT x→Pk list l→Pk list (c::x::l)
inductive BT:List T→Prop where
 | mk {rc ps:List T} {p q e:T}:(rc=[]∨ ∃r,Lf Q dh r∧rc=[r])→PT p→(∀x∈ps,PT x)→Lf Q iw q→ET e→BT (rc++(p::ps)++[q]++[e])
inductive AT:T→Prop where
 | mk {p a e:T}:PT p→Lf Q fG a→ET e→AT (node 10 [p,a,e])
inductive Pn:List T→Prop where
 | nil:Pn []
 | cons {b a:T} {l:List T}:Lf Q gB b→AT a→Pn l→Pn (b::a::l)
end
inductive DT:List T→Prop where
 | last {ks:List T}:Tv Q ks→DT [.mk 1 0 [] ks]
 | cons {a:T} {bs l:List T}:Lf Q fE a→BT Q bs→DT l→DT (node 5 (a::bs)::l)
variable {Q}
def qK (Q:aQ→Prop) (r:List aQ):Prop:= ∀t∈r,Q t
theorem bD {r:List aQ} (h:qK Q r):qK Q (aJ r):=fun t ht=>h t ((List.dropWhile_suffix aZ).subset (List.mem_of_mem_drop ht))
theorem iG {r:List aQ} (s:List UInt8) (h:qK Q r):qK Q (aT s r):=by
 unfold aT
 split
 ·exact bD h
 ·exact h
theorem qD {r:List aQ} (h:qK Q r):Tv Q ((r.takeWhile aZ).map eR):=⟨_,rfl,fun _ hx=>⟨rX hx,h _ (List.takeWhile_prefix aZ |>.subset hx)⟩⟩
theorem AM {r:List aQ} (h:(nx r).1≠0):nx r∈r:=by
 unfold nx at h ⊢
 split
 ·rename_i e;rw [e] at h;exact absurd rfl h
 ·rename_i t l e
  have:t∈r.dropWhile aZ:=by rw [e];exact List.mem_cons_self
  exact (List.dropWhile_suffix aZ).subset this
theorem gl {s:List UInt8} {r:List aQ} (hr:qK Q r) (h:bN s r=true):Lf Q s (aN r):=by
 have h0:=dS h
 have hm:=hr _ (AM h0)
 unfold bN at h
 simp only [Bool.and_eq_true,Bool.or_eq_true,beq_iff_eq] at h
 refine ⟨(nx r).1,_, ?_,h.1, ?_,qD hr⟩
 ·unfold aN leaf;rw [h.2]
 ·rw [← h.2];exact hm
theorem JF {ss:List (List UInt8)} {r:List aQ} (hr:qK Q r) (h:isAny ss r=true): ∃s,s∈ss∧Lf Q s (aN r):=by
 have h0:=jT h
 have hm:=hr _ (AM h0)
 unfold isAny at h
 simp only [Bool.and_eq_true,Bool.or_eq_true,beq_iff_eq,List.any_eq_true] at h
 obtain ⟨h1,s,hs,e⟩:=h
 refine ⟨s,hs,(nx r).1,_, ?_,h1, ?_,qD hr⟩
 ·unfold aN leaf;rw [e]
 ·rw [e];exact hm
theorem kS {s:List UInt8} {r:List aQ} (hr:qK Q r) (h:cI (bX s r)=true):Lf Q s (bX s r):=by
 have h1:=zP h
 have:bX s r=aN r:=by unfold bX;rw [h1];rfl
 rw [this]
 exact gl hr h1
def pre:gX→List aQ→Prop
 | .closed list _,r=>bN (zt list) r=true
 | _,_=>True
def Made (Q:aQ→Prop):gX→List T→Prop
 | .expr,l | .whole,l | .level _,l | .neg,l | .atom false,l | .closed _ false,l=> ∃t,l=[t]∧ET Q t
 | .ops _ a,l | .args a,l=>ET Q a→ ∃t,l=[t]∧ET Q t
 | .atom true,l | .closed _ true,l | .pattern,l=> ∃t,l=[t]∧PT Q t
 | .items list false,l=>O5 Q list l
 | .items list true,l=>Pk Q list l
 | .binding,l=>BT Q l
 | .params,l=> ∀x∈l,PT Q x
 | .arm,l=> ∃t,l=[t]∧AT Q t
 | .arms,l=>Pn Q l
theorem fD {N:Nat} {job:gX} {d:Nat} {r:List aQ} {l:List T} {r':List aQ} (h:P N job d r=some (l,r')) (hr:qK Q r):qK Q r':=zj (Q:=qK Q) (fun _ h=>bD h) N job d r l r' h hr
theorem JY: ∀(N:Nat) (job:gX) (d:Nat) (r:List aQ) (l:List T) (r':List aQ),P N job d r=some (l,r')→pre job r→qK Q r→aX l=true→Made Q job l:=by
 intro N
 induction N with
 | zero=>intro job d r l r' h;cases h
 | succ n ih=>
  intro job d r l r' h ha hr hg
  cases job with
  | expr=>
   simp only [P] at h
   split at h
   ·cases h;rw [aO,dQ] at hg;cases hg
   ·have:=ih _ _ _ _ _ h trivial hr hg;exact this
  | whole=>
   simp only [P] at h
   split at h
   ·rename_i hc
    obtain ⟨⟨bs,r2⟩,e1,h⟩:=bind_some h
    obtain ⟨⟨es,r3⟩,e2,h⟩:=bind_some h
    cases h
    rw [aO] at hg
    have hg:=aS hg
    simp only [aW,aX,Bool.and_eq_true,Bool.and_true] at hg
    have q2:=fD e1 (bD hr)
    obtain ⟨e,rfl,he⟩:=ih _ _ _ _ _ e2 trivial (iG _ q2) hg.2
    exact ⟨_,rfl,.letin (gl hr hc) (ih _ _ _ _ _ e1 trivial (bD hr) hg.1.1.2) (kS q2 hg.1.2) he⟩
   split at h
   ·rename_i hc
    obtain ⟨⟨a,r1⟩,e1,h⟩:=bind_some h
    obtain ⟨⟨ps,r2⟩,e2,h⟩:=bind_some h
    obtain ⟨⟨es,r3⟩,e3,h⟩:=bind_some h
    cases h
    rw [aO] at hg
    have hg:=aS hg
    simp only [aW,aX,Bool.and_eq_true,Bool.and_true] at hg
    have q1:=fD e1 (bD hr)
    have q2:=fD e2 q1
    obtain ⟨p,rfl,hp⟩:=ih _ _ _ _ _ e1 trivial (bD hr) hg.1.1.1.2
    have hps:=ih _ _ _ _ _ e2 trivial q1 hg.1.1.2
    obtain ⟨e,rfl,he⟩:=ih _ _ _ _ _ e3 trivial (iG _ q2) hg.2
    exact ⟨_,rfl,.lambda (gl hr hc) hp hps (kS q2 hg.1.2) he⟩
   split at h
   ·rename_i hc
    obtain ⟨⟨a,r1⟩,e1,h⟩:=bind_some h
    obtain ⟨⟨b,r2⟩,e2,h⟩:=bind_some h
    obtain ⟨⟨c,r3⟩,e3,h⟩:=bind_some h
    cases h
    rw [aO] at hg
    have hg:=aS hg
    simp only [aW,aX,Bool.and_eq_true,Bool.and_true] at hg
    have q1:=fD e1 (bD hr)
    have q2:=fD e2 (iG _ q1)
    obtain ⟨a',rfl,ha'⟩:=ih _ _ _ _ _ e1 trivial (bD hr) hg.1.1.1.1.2
    obtain ⟨b',rfl,hb'⟩:=ih _ _ _ _ _ e2 trivial (iG _ q1) hg.1.1.2
    obtain ⟨c',rfl,hc'⟩:=ih _ _ _ _ _ e3 trivial (iG _ q2) hg.2
    exact ⟨_,rfl,.ife (gl hr hc) ha' (kS q1 hg.1.1.1.2) hb' (kS q2 hg.1.2) hc'⟩
   split at h
   ·rename_i hc
    obtain ⟨⟨a,r1⟩,e1,h⟩:=bind_some h
    obtain ⟨⟨b,r3⟩,e2,h⟩:=bind_some h
    obtain ⟨⟨cs,r4⟩,e3,h⟩:=bind_some h
    cases h
    rw [aO] at hg
    have hg:=aS hg
    simp only [aW,aX,Bool.and_eq_true,Bool.and_true] at hg
    have q1:=fD e1 (bD hr)
    have q2:=iG bp q1
    have q2':qK Q (if bN gB (aT bp r1)=true then aJ (aT bp r1) else aT bp r1):=by
     split
     ·exact bD q2
     ·exact q2
    obtain ⟨a',rfl,ha'⟩:=ih _ _ _ _ _ e1 trivial (bD hr) hg.1.1.1.1.2
    obtain ⟨b',rfl,hb'⟩:=ih _ _ _ _ _ e2 trivial q2' hg.1.2
    have hcs:=ih _ _ _ _ _ e3 trivial (fD e2 q2') hg.2
    have hbar:(if bN gB (aT bp r1)=true then [aN (aT bp r1)] else [])=[]∨ ∃b,Lf Q gB b∧(if bN gB (aT bp r1)=true then [aN (aT bp r1)] else [])=[b]:=by
     split
     ·rename_i hb;exact .inr ⟨_,gl q2 hb,rfl⟩
     ·exact .inl rfl
    have:=ET.mtch (gl hr hc) ha' (kS q1 hg.1.1.1.2) hbar hb' hcs
    refine ⟨_,rfl, ?_⟩
    simpa using this
   have:=ih _ _ _ _ _ h trivial hr hg;exact this
  | level k=>
   simp only [P] at h
   split at h
   ·have:=ih _ _ _ _ _ h trivial hr hg;exact this
   ·obtain ⟨⟨a,r1⟩,e1,h⟩:=bind_some h
    dsimp only at h
    split at h
    ·have hga:=iR _ _ _ _ _ _ h hg
     obtain ⟨t,e,ht⟩:=ih _ _ _ _ _ e1 trivial hr hga
     cases e
     exact ih _ _ _ _ _ h trivial (fD e1 hr) hg ht
    ·cases h
  | ops k acc=>
   intro hacc
   simp only [P] at h
   split at h
   ·rename_i hc
    obtain ⟨⟨b,r1⟩,e1,h⟩:=bind_some h
    have hga:=iR _ _ _ _ _ _ h hg
    simp only [dn,aO] at hga
    have hga:=aS hga
    simp only [aX,Bool.and_eq_true] at hga
    obtain ⟨s,_,hs⟩:=JF hr hc
    obtain ⟨b',rfl,hb'⟩:=ih _ _ _ _ _ e1 trivial (bD hr) hga.2.2
    exact ih _ _ _ _ _ h trivial (fD e1 (bD hr)) hg (.bin hacc hs hb')
   ·cases h;exact ⟨_,rfl,hacc⟩
  | neg=>
   simp only [P] at h
   split at h
   ·rename_i hc
    split at h
    ·cases h
     rw [aO] at hg
     have hg:=aS hg
     simp only [aX,dQ,Bool.and_false,Bool.false_and] at hg
     cases hg
    ·obtain ⟨⟨a,r1⟩,e1,h⟩:=bind_some h
     cases h
     rw [aO] at hg
     have hg:=aS hg
     simp only [aX,Bool.and_eq_true] at hg
     obtain ⟨s,hm,hs⟩:=JF hr hc
     obtain ⟨a',rfl,ha'⟩:=ih _ _ _ _ _ e1 trivial (bD hr) hg.2
     simp only [List.mem_cons,List.mem_nil_iff,or_false] at hm
     refine ⟨_,rfl,.un ?_ ha'⟩
     rcases hm with rfl | rfl
     ·exact .inl hs
     ·exact .inr hs
   ·obtain ⟨⟨a,r1⟩,e1,h⟩:=bind_some h
    dsimp only at h
    split at h
    ·have hga:=iR _ _ _ _ _ _ h hg
     obtain ⟨t,e,ht⟩:=ih _ _ _ _ _ e1 trivial hr hga
     cases e
     exact ih _ _ _ _ _ h trivial (fD e1 hr) hg ht
    ·cases h
  | args acc=>
   intro hacc
   simp only [P] at h
   split at h
   ·rename_i hc
    obtain ⟨⟨b,r1⟩,e1,h⟩:=bind_some h
    have hga:=iR _ _ _ _ _ _ h hg
    simp only [dn,aO] at hga
    have hga:=aS hga
    simp only [aX,Bool.and_eq_true] at hga
    obtain ⟨b',rfl,hb'⟩:=ih _ _ _ _ _ e1 trivial hr hga.2
    exact ih _ _ _ _ _ h trivial (fD e1 hr) hg (.app hacc hb')
   ·cases h;exact ⟨_,rfl,hacc⟩
  | atom pat=>
   simp only [P] at h
   split at h
   ·rename_i hc
    have h0:=ju hc
    split at h
    ·cases h;rw [aO] at hg;cases hg
    ·rename_i h9
     split at h
     ·rename_i ho
      cases pat with
      | false=>have:=ih _ _ _ _ _ h ho hr hg;exact this
      | true=>have:=ih _ _ _ _ _ h ho hr hg;exact this
     ·rename_i ho
      split at h
      ·rename_i hol
       cases pat with
       | false=>have:=ih _ _ _ _ _ h hol hr hg;exact this
       | true=>have:=ih _ _ _ _ _ h hol hr hg;exact this
      ·rename_i hol
       cases h
       have hm:=hr _ (AM h0)
       have hk:(nx r).1=4∨(nx r).1=5∨(nx r).1=7∨(nx r).1=(if pat then 5 else 6)∨isAny [mW,jC,cy,jb,if pat then yj else cy] r=true:=by
        unfold bw at hc
        simp only [Bool.or_eq_true,beq_iff_eq] at hc
        rcases hc with ((((h | h) | h) | h) | h) | h
        ·exact .inl h
        ·exact .inr (.inl h)
        ·exact .inr (.inr (.inl h))
        ·exact absurd h h9
        ·exact .inr (.inr (.inr (.inl h)))
        ·exact .inr (.inr (.inr (.inr h)))
       have hw:isAny [mW,jC,cy,jb,if pat then yj else cy] r=true→((nx r).1=3∨(nx r).1=8)∧((nx r).2=mW∨(nx r).2=jC∨pat=true∧(nx r).2=yj):=by
        intro h
        unfold isAny at h
        unfold bN at ho hol
        simp only [Bool.and_eq_true,Bool.or_eq_true,beq_iff_eq,List.any_cons,List.any_nil,Bool.or_false] at h ho hol
        obtain ⟨h1,h⟩:=h
        refine ⟨h1, ?_⟩
        rcases h with h | h | h | h | h
        ·exact .inl h.symm
        ·exact .inr (.inl h.symm)
        ·exact absurd ⟨h1,h.symm⟩ ho
        ·exact absurd ⟨h1,h.symm⟩ hol
        ·cases pat with
         | true=>exact .inr (.inr ⟨rfl,h.symm⟩)
         | false=>exact absurd ⟨h1,h.symm⟩ ho
       cases pat with
       | false=>
        refine ⟨_,rfl,.leaf hm ?_ (qD hr)⟩
        rcases hk with h | h | h | h | h
        ·exact .inl h
        ·exact .inr (.inl h)
        ·exact .inr (.inr (.inr (.inl h)))
        ·exact .inr (.inr (.inl h))
        ·obtain ⟨a,b⟩:=hw h
         refine .inr (.inr (.inr (.inr ⟨a, ?_⟩)))
         rcases b with b | b | ⟨b,_⟩
         ·exact .inl b
         ·exact .inr b
         ·cases b
       | true=>
        refine ⟨_,rfl,.leaf hm ?_ (qD hr)⟩
        rcases hk with h | h | h | h | h
        ·exact .inl h
        ·exact .inr (.inl h)
        ·exact .inr (.inr (.inl h))
        ·exact .inr (.inl h)
        ·obtain ⟨a,b⟩:=hw h
         refine .inr (.inr (.inr ⟨a, ?_⟩))
         rcases b with b | b | ⟨_,b⟩
         ·exact .inl b
         ·exact .inr (.inl b)
         ·exact .inr (.inr b)
   ·cases h;rw [aO,kZ] at hg;cases hg
  | closed list pat=>
   have ho:bN (zt list) r=true:=ha
   simp only [P] at h
   have hlo:=gl hr ho
   split at h
   ·rename_i hc
    cases h
    cases pat with
    | false=>exact ⟨_,rfl,.none hlo (gl (bD hr) hc)⟩
    | true=>exact ⟨_,rfl,.none hlo (gl (bD hr) hc)⟩
   ·obtain ⟨⟨a,r2⟩,e1,h⟩:=bind_some h
    obtain ⟨⟨bs,r3⟩,e2,h⟩:=bind_some h
    cases h
    rw [aO] at hg
    have hg2:=aS hg
    simp only [List.cons_append,aW,aX,Bool.and_eq_true,Bool.and_true] at hg2
    have q2:=fD e1 (bD hr)
    have q3:=fD e2 q2
    cases pat with
    | false=>
     obtain ⟨a',rfl,ha'⟩:=ih .expr _ _ _ _ e1 trivial (bD hr) hg2.2.1.1
     exact ⟨_,rfl,.some hlo ha' (ih (.items list false) _ _ _ _ e2 trivial q2 hg2.2.1.2) (kS q3 hg2.2.2)⟩
    | true=>
     obtain ⟨a',rfl,ha'⟩:=ih .pattern _ _ _ _ e1 trivial (bD hr) hg2.2.1.1
     exact ⟨_,rfl,.some hlo ha' (ih (.items list true) _ _ _ _ e2 trivial q2 hg2.2.1.2) (kS q3 hg2.2.2)⟩
  | items list pat=>
   simp only [P] at h
   split at h
   ·rename_i hc
    obtain ⟨⟨a,r1⟩,e1,h⟩:=bind_some h
    obtain ⟨⟨bs,r2⟩,e2,h⟩:=bind_some h
    cases h
    simp only [List.cons_append,aW,aX,Bool.and_eq_true,Bool.and_true] at hg
    have q1:=fD e1 (bD hr)
    cases pat with
    | false=>
     obtain ⟨a',rfl,ha'⟩:=ih .expr _ _ _ _ e1 trivial (bD hr) hg.2.1
     exact .cons (gl hr hc) ha' (ih (.items list false) _ _ _ _ e2 trivial q1 hg.2.2)
    | true=>
     obtain ⟨a',rfl,ha'⟩:=ih .pattern _ _ _ _ e1 trivial (bD hr) hg.2.1
     exact .cons (gl hr hc) ha' (ih (.items list true) _ _ _ _ e2 trivial q1 hg.2.2)
   ·cases h
    cases pat with
    | false=>exact .nil
    | true=>exact .nil
  | pattern=>
   simp only [P] at h
   split at h
   ·cases h;rw [aO,dQ] at hg;cases hg
   ·obtain ⟨⟨a,r1⟩,e1,h⟩:=bind_some h
    dsimp only at h
    split at h
    ·rename_i hc
     obtain ⟨⟨b,r2⟩,e2,h⟩:=bind_some h
     cases h
     rw [aO] at hg
     have hg:=aS hg
     simp only [aW,aX,Bool.and_eq_true] at hg
     have q1:=fD e1 hr
     obtain ⟨a',rfl,ha'⟩:=ih _ _ _ _ _ e1 trivial hr hg.1
     obtain ⟨b',rfl,hb'⟩:=ih _ _ _ _ _ e2 trivial (bD q1) hg.2.2
     exact ⟨_,rfl,.cons ha' (gl q1 hc) hb'⟩
    ·cases h
     have:=ih _ _ _ _ _ e1 trivial hr hg;exact this
  | binding=>
   simp only [P] at h
   have hrc:(if bN dh r=true then [aN r] else [])=[]∨ ∃b,Lf Q dh b∧(if bN dh r=true then [aN r] else [])=[b]:=by
    split
    ·rename_i hb;exact .inr ⟨_,gl hr hb,rfl⟩
    ·exact .inl rfl
   have q0:qK Q (if bN dh r=true then aJ r else r):=by
    split
    ·exact bD hr
    ·exact hr
   generalize (if bN dh r=true then [aN r] else [])=rc at h hrc
   generalize (if bN dh r=true then aJ r else r)=r0 at h q0
   have fin: ∀{p:T} {ps:List T} {r1:List aQ} {es:List T} {r2:List aQ},P n .expr d (aT iw r1)=some (es,r2)→qK Q r1→aX (rc++(p::ps)++[bX iw r1]++es)=true→(cI p=true→PT Q p)→(aX ps=true→ ∀x∈ps,PT Q x)→BT Q (rc++(p::ps)++[bX iw r1]++es):=by
    intro p ps r1 es r2 e1 q1 hg hp hps
    simp only [aW,aX,Bool.and_eq_true,Bool.and_true] at hg
    obtain ⟨e,rfl,he⟩:=ih _ _ _ _ _ e1 trivial (iG _ q1) hg.2
    exact .mk hrc (hp hg.1.1.2.1) (hps hg.1.1.2.2) (kS q1 hg.1.2) he
   split at h
   ·rename_i h4
    obtain ⟨⟨xs,r1⟩,e1,h⟩:=bind_some h
    obtain ⟨⟨ps,r1'⟩,e0,e1⟩:=bind_some e1
    cases e1
    obtain ⟨⟨es,r2⟩,e2,h⟩:=bind_some h
    cases h
    refine fin e2 (fD e0 (bD q0)) hg (fun _=> ?_) (fun hg=>ih _ _ _ _ _ e0 trivial (bD q0) hg)
    exact .leaf (q0 _ (AM (by rw [h4];decide))) (.inl h4) (qD q0)
   ·obtain ⟨⟨xs,r1⟩,e1,h⟩:=bind_some h
    obtain ⟨⟨es,r2⟩,e2,h⟩:=bind_some h
    cases h
    obtain ⟨x,rfl⟩:=fK _ _ _ _ _ _ e1 rfl
    refine fin e2 (fD e1 q0) hg (fun hgx=> ?_) (fun _ x hx=>by cases hx)
    obtain ⟨x',e,hx'⟩:=ih _ _ _ _ _ e1 trivial q0 (by rw [aO];exact hgx)
    cases e
    exact hx'
  | params=>
   simp only [P] at h
   split at h
   ·obtain ⟨⟨a,r1⟩,e1,h⟩:=bind_some h
    obtain ⟨⟨bs,r2⟩,e2,h⟩:=bind_some h
    cases h
    simp only [aW,Bool.and_eq_true] at hg
    obtain ⟨a',rfl,ha'⟩:=ih _ _ _ _ _ e1 trivial hr hg.1
    have:=ih _ _ _ _ _ e2 trivial (fD e1 hr) hg.2
    intro x hx
    rcases List.mem_append.1 hx with hx | hx
    ·rw [List.mem_singleton.1 hx];exact ha'
    ·exact this x hx
   ·cases h;intro x hx;cases hx
  | arm=>
   simp only [P] at h
   obtain ⟨⟨a,r1⟩,e1,h⟩:=bind_some h
   obtain ⟨⟨es,r2⟩,e2,h⟩:=bind_some h
   cases h
   rw [aO] at hg
   have hg:=aS hg
   simp only [aW,aX,Bool.and_eq_true,Bool.and_true] at hg
   have q1:=fD e1 hr
   obtain ⟨a',rfl,ha'⟩:=ih _ _ _ _ _ e1 trivial hr hg.1.1
   obtain ⟨e,rfl,he⟩:=ih _ _ _ _ _ e2 trivial (iG _ q1) hg.2
   exact ⟨_,rfl,.mk ha' (kS q1 hg.1.2) he⟩
  | arms=>
   simp only [P] at h
   split at h
   ·rename_i hc
    obtain ⟨⟨a,r1⟩,e1,h⟩:=bind_some h
    obtain ⟨⟨bs,r2⟩,e2,h⟩:=bind_some h
    cases h
    simp only [List.cons_append,aW,aX,Bool.and_eq_true] at hg
    obtain ⟨a',rfl,ha'⟩:=ih _ _ _ _ _ e1 trivial (bD hr) hg.2.1
    exact .cons (gl hr hc) ha' (ih _ _ _ _ _ e2 trivial (fD e1 (bD hr)) hg.2.2)
   ·cases h;exact .nil
theorem uF: ∀(N:Nat) (r:List aQ) (l:List T),decls N r=some l→IQ r→qK Q r→aX l=true→DT Q l
 | 0,_,_,h,_,_,_=>by cases h
 | n+1,r,l,h,hz,hr,hg=>by
  simp only [decls] at h
  split at h
  ·rename_i h0
   cases h
   have:aN r= .mk 1 0 [] ((r.takeWhile aZ).map eR):=by
    unfold aN leaf
    have hx:nx r=(0,[]):=by
     unfold nx at h0 ⊢
     split
     ·rfl
     ·rename_i t l e
      rw [e] at h0
      exact absurd h0 (hz t ((List.dropWhile_suffix aZ).subset (by rw [e];exact List.mem_cons_self)))
    rw [hx]
   rw [this]
   exact .last (qD hr)
  split at h
  ·rename_i hc
   obtain ⟨⟨bs,r1⟩,e1,h⟩:=bind_some h
   obtain ⟨k,e2,h⟩:=bind_some h
   cases h
   simp only [aX,Bool.and_eq_true] at hg
   have hgn:=aS hg.1
   simp only [aX,Bool.and_eq_true] at hgn
   exact .cons (gl hr hc) (JY _ _ _ _ _ _ e1 trivial (bD hr) hgn.2) (uF n r1 k e2 (zj jO _ _ _ _ _ _ e1 (jO _ hz)) (fD e1 (bD hr)) hg.2)
  ·obtain ⟨k,e2,h⟩:=bind_some h
   cases h
   simp only [aX,Bool.and_eq_true] at hg
   cases hg.1
end
end Go.Parse
namespace Go.VM
open Go
def oX (st:St) (z:Nat) (e:TypeId) (x:AV) (ws:List AV):Prop:=
 (x= .aq∧ws=[])∨x= .sl z ws .shut∨(∃k,x= .sl z ws (.own k)∧st.get k= .ok (.tok ws.length e)∧st.ro≤k)∨ ∃k,x= .gs k z ws.length∧st.get k= .ok (.grow ws.length e z ws)∧st.ro≤k
structure ky (st st':St) (e:TypeId):Prop where
 ro:st'.ro=st.ro
 h:st.h≤st'.h
 old: ∀j o,(∀n,o≠ .tok n e)→(∀n z l,o≠ .grow n e z l)→st.get j= .ok o→st'.get j= .ok o
theorem ky.trans {a b c:St} {e:TypeId} (h:ky a b e) (k:ky b c e):ky a c e:=⟨k.ro.trans h.ro,Nat.le_trans h.h k.h,fun j o h1 h2 hg=>k.old j o h1 h2 (h.old j o h1 h2 hg)⟩
theorem ky.of {a b:St} {e:TypeId} (k:ba a b (fun _=>False)):ky a b e:=⟨k.ro,k.h,fun j o _ _ hg=>k.old j o (fun f=>f) hg⟩
theorem ky.vw {a b:St} {e:TypeId} (k:ky a b e) {l:ub} (w:Vw a l):Vw b l:=
 ⟨fun q hq=>⟨k.old _ _ (fun _ h=>by cases h) (fun _ _ _ h=>by cases h) (w.v q hq).1,by rw [k.ro];exact (w.v q hq).2⟩,w.nd,by rw [k.ro];exact Nat.le_trans w.ro k.h⟩
theorem oX.As {a b:St} {z:Nat} {e e':TypeId} {x:AV} {ws:List AV} (h:oX a z e x ws) (k:ky a b e') (hne:e≠e'):oX b z e x ws:=by
 rcases h with h | h | ⟨j,h1,h2,h3⟩ | ⟨j,h1,h2,h3⟩
 ·exact .inl h
 ·exact .inr (.inl h)
 ·exact .inr (.inr (.inl ⟨j,h1,k.old _ _ (fun _ h=>by cases h;exact hne rfl) (fun _ _ _ h=>by cases h) h2,by rw [k.ro];exact h3⟩))
 ·exact .inr (.inr (.inr ⟨j,h1,k.old _ _ (fun _ h=>by cases h) (fun _ _ _ h=>by cases h;exact hne rfl) h2,by rw [k.ro];exact h3⟩))
theorem oX.keeps {a b:St} {z:Nat} {e:TypeId} {x:AV} {ws:List AV} (h:oX a z e x ws) (k:ba a b (fun _=>False)):oX b z e x ws:=by
 rcases h with h | h | ⟨j,h1,h2,h3⟩ | ⟨j,h1,h2,h3⟩
 ·exact .inl h
 ·exact .inr (.inl h)
 ·exact .inr (.inr (.inl ⟨j,h1,k.old _ _ (fun f=>f) h2,by rw [k.ro];exact h3⟩))
 ·exact .inr (.inr (.inr ⟨j,h1,k.old _ _ (fun f=>f) h2,by rw [k.ro];exact h3⟩))
theorem oX.put {st:St} {z:Nat} {e:TypeId} {x:AV} {ws:List AV} {j:Nat} {t t':TypeId} {cs cs':List AV} (h:oX st z e x ws) (hj:st.get j= .ok (.cells t cs)):oX (st.put j (.cells t' cs')) z e x ws:=by
 have key: ∀k o,(∀t cs,o≠VM.Obj.cells t cs)→st.get k= .ok o→(st.put j (.cells t' cs')).get k= .ok o:=fun k o ho hg=>by
  have:j≠k:=by rintro rfl;rw [hj] at hg;cases hg;exact ho _ _ rfl
  rw [St.aU this];exact hg
 rcases h with h | h | ⟨k,h1,h2,h3⟩ | ⟨k,h1,h2,h3⟩
 ·exact .inl h
 ·exact .inr (.inl h)
 ·exact .inr (.inr (.inl ⟨k,h1,key _ _ (fun _ _ h=>by cases h) h2,h3⟩))
 ·exact .inr (.inr (.inr ⟨k,h1,key _ _ (fun _ _ h=>by cases h) h2,h3⟩))
theorem oX.one {st:St} {z:Nat} {e:TypeId} {x:AV} {ws:List AV} (h:oX st z e x ws):VM.one x=true:=by
 rcases h with ⟨rfl,_⟩ | rfl | ⟨k,rfl,_⟩ | ⟨k,rfl,_⟩ <;> rfl
theorem oX.len {β:Type} {st:St} {z:Nat} {e:TypeId} {x:AV} {ws:List AV} (h:oX st z e x ws) (K:Nat→Option β):fC x K=K ws.length:=by
 rcases h with ⟨rfl,rfl⟩ | rfl | ⟨k,rfl,_⟩ | ⟨k,rfl,_⟩ <;> rfl
theorem BA {O:qJ} {st:St} {z:Nat} {e:TypeId} {x u:AV} {ws:List AV} {i:TI} (h:oX st z e x ws) (hro:st.ro≤st.h) (hi:i.size=z) (hz:gi 1000 u (zeroV i)=true) (hf:fits [u]= .ok [u]) (hu:u.cells.length=z) (hr:cO (ws.length+1) i=true):
  ∃k s x1,(∀{β:Type} (K:Kv β),dF O (gP i e x [u]) st K=K (.gs k z (ws.length+1)) s x1)∧s.get k= .ok (.grow (ws.length+1) e z ws)∧s.ro≤k∧ky st s e∧ ∀j t cs,st.get j= .ok (.cells t cs)→j≠k:=by
 subst hi
 have hap:gP i e x [u]=oK i e x 1 []:=by
  have h1:([u].all fun v=>v.cells.length.beq i.size)=true:=by simp [hu]
  simp only [gP,hf,au,h1,List.isEmpty_nil,Bool.true_and,hz]
  rfl
 rcases h with ⟨rfl,rfl⟩ | rfl | ⟨k,rfl,hg,hk⟩ | ⟨k,rfl,hg,hk⟩
 ·refine ⟨st.h,st.add (.grow 1 e i.size []),⟨[],.made st.h (.grow 1 e i.size [])⟩,fun K=> ?_,St.dR,hro,⟨rfl,Nat.le_succ _,fun j o _ _ hg=>St.iF hg⟩,fun j t cs hj=>Nat.ne_of_lt (St.bM.1 hj).1⟩
  have hr:cO 1 i=true:=hr
  rw [hap]
  simp only [oK,hr]
  rfl
 ·refine ⟨st.h,st.add (.grow (ws.length+1) e i.size (ws++[])),⟨[],.made st.h (.grow (ws.length+1) e i.size (ws++[]))⟩,fun K=> ?_,by rw [St.dR,List.append_nil],hro,⟨rfl,Nat.le_succ _,fun j o _ _ hg=>St.iF hg⟩,fun j t cs hj=>Nat.ne_of_lt (St.bM.1 hj).1⟩
  rw [hap]
  simp only [oK,hr,Nat.beq_refl,Bool.and_self]
  rfl
 ·refine ⟨k,st.put k (.grow (ws.length+1) e i.size (ws++[])),⟨[k],.wrote k (.grow (ws.length+1) e i.size (ws++[]))⟩,fun K=> ?_,by rw [St.aR (St.bM.1 hg).1,List.append_nil],hk,⟨rfl,Nat.le_refl _,fun j o h1 _ hj=> ?_⟩,fun j t cs hj=> ?_⟩
  ·rw [hap]
   have hb:(ws.length.beq ws.length&&Nat.beq e e)=true:=by simp
   simp only [oK,hr,Nat.beq_refl,Bool.and_self,dF,lZ,mw,hg,hb,ja,Nat.ble_eq_true_of_le hk,al]
  ·have:k≠j:=by rintro rfl;rw [hg] at hj;cases hj;exact h1 _ rfl
   rw [St.aU this];exact hj
  ·rintro rfl;rw [hg] at hj;cases hj
 ·refine ⟨k,st.put k (.grow (ws.length+1) e i.size (ws++[])),⟨[k],.wrote k (.grow (ws.length+1) e i.size (ws++[]))⟩,fun K=> ?_,by rw [St.aR (St.bM.1 hg).1,List.append_nil],hk,⟨rfl,Nat.le_refl _,fun j o _ h1 hj=> ?_⟩,fun j t cs hj=> ?_⟩
  ·rw [hap]
   have hb:((ws.length.beq ws.length&&ws.length.beq ws.length)&&(Nat.beq e e&&i.size.beq i.size))=true:=by simp
   simp only [oK,hr,Nat.beq_refl,Bool.and_self,dF,lZ,mw,hg,hb,ja,Nat.ble_eq_true_of_le hk,al]
  ·have:k≠j:=by rintro rfl;rw [hg] at hj;cases hj;exact h1 _ _ _ rfl
   rw [St.aU this];exact hj
  ·rintro rfl;rw [hg] at hj;cases hj
theorem IE {β:Type} {st:St} {k n z:Nat} {e:TypeId} {ws:List AV} (h:st.get k= .ok (.grow (n+1) e z ws)) (hn:ws.length=n) (K:AV→List Nat→Option β):bZ z (.gs k z (n+1)) (n:Int) st K=K (.gp k (n+1) (n * z)) [k]:=by
 have h1:kQ (n:Int) (n+1)=some n:=by
  show (match n.blt (n+1) with | true=>some n | false=>none)= _
  rw [show n.blt (n+1)=true by rw [Nat.blt_eq];exact Nat.lt_succ_self _]
 have h2:((n+1).beq (n+1)&&z.beq z)=true:=by rw [Nat.beq_refl,Nat.beq_refl];rfl
 have h3:n.blt ws.length=false:=cL.2 (by omega)
 simp only [bZ,Bx,Nat.beq_refl,h1,h,h2,h3,al,Bool.and_self]
theorem Bt {β:Type} {O:qJ} {st:St} {k n z:Nat} {e:TypeId} {ws:List AV} {v:AV} {cs:List AV} (h:st.get k= .ok (.grow (n+1) e z ws)) (hn:ws.length=n) (hk:st.ro≤k) (hc:v.cells.length=z) (ho:eW v.cells=true) (hf:fit v= .ok v) (K:Kv β):
  ao O z (.gp k (n+1) (n * z)) v cs st K=K undef (st.put k (.grow (n+1) e z (ws++[v]))) ⟨[k],.wrote k (.grow (n+1) e z (ws++[v]))⟩:=by
 have h1:(v.cells.length.beq z&&eW v.cells)=true:=by rw [hc,Nat.beq_refl,ho];rfl
 have h2:(((n+1).beq (n+1)&&(n+1).beq (ws.length+1))&&((n * z).beq (ws.length * z)&&z.beq z))=true:=by rw [hn];simp
 have h3: ∀o,iU ⟨.other,z,0,[],false,false⟩ k (n+1) (n * z) v= .ok o→o= .obj k fun o=>match o with
   | .grow n' e' z' es=>match (n'.beq (n+1)&&n'.beq (es.length+1))&&((n * z).beq (es.length * z')&&z'.beq z) with
    | true=> .ok (undef,some (.grow n' e' z' (es++[v])))
    | false=> .error "store: not the last one"
   | o=>qz (n+1) (n * z) v.cells o:=fun o ho'=>by
  simp only [iU,h1,hf,au,aI] at ho'
  exact (Except.ok.inj ho').symm
 have h4:iU ⟨.other,z,0,[],false,false⟩ k (n+1) (n * z) v= .ok (.obj k fun o=>match o with
   | .grow n' e' z' es=>match (n'.beq (n+1)&&n'.beq (es.length+1))&&((n * z).beq (es.length * z')&&z'.beq z) with
    | true=> .ok (undef,some (.grow n' e' z' (es++[v])))
    | false=> .error "store: not the last one"
   | o=>qz (n+1) (n * z) v.cells o):=by
  simp only [iU,h1,hf,au,aI]
  rfl
 simp only [ao,lZ,Av,h4,mw,h,h2,ja,Nat.ble_eq_true_of_le hk,al]
end Go.VM
namespace Go.Parse
open Go.VM Go.Lex
structure tJ (φ:aQ→aQ):Prop where
 kind: ∀t,(φ t).1=t.1
 same: ∀t,aZ t=false→φ t=t
section
variable {φ:aQ→aQ} (hφ:tJ φ)
include hφ
theorem tJ.Q9 (t:aQ):aZ (φ t)=aZ t:=by simp only [aZ,hφ.kind]
theorem tJ.drop: ∀(r:List aQ),(r.map φ).dropWhile aZ=(r.dropWhile aZ).map φ
 | []=>rfl
 | t::r=>by
  rw [List.map_cons,List.dropWhile_cons,List.dropWhile_cons,hφ.Q9]
  cases aZ t with
  | true=>rw [if_pos rfl,if_pos rfl];exact tJ.drop r
  | false=>rw [if_neg (by decide),if_neg (by decide)];rfl
theorem tJ.nx (r:List aQ):Parse.nx (r.map φ)=Parse.nx r:=by
 unfold Parse.nx
 rw [hφ.drop]
 cases h:r.dropWhile aZ with
 | nil=>rfl
 | cons t l=>
  have ht:aZ t=false:=by
   have:=List.head?_dropWhile_not aZ r
   rw [h] at this
   simpa using this
  exact hφ.same t ht
theorem tJ.aJ (r:List aQ):Parse.aJ (r.map φ)=(Parse.aJ r).map φ:=by
 unfold Parse.aJ
 rw [hφ.drop,List.map_drop]
theorem tJ.aN (r:List aQ):eU (Parse.aN (r.map φ))=eU (Parse.aN r):=by
 unfold Parse.aN
 rw [rD,rD,hφ.nx]
theorem tJ.bN (s:List UInt8) (r:List aQ):Parse.bN s (r.map φ)=Parse.bN s r:=by unfold Parse.bN;rw [hφ.nx]
theorem tJ.isAny (l:List (List UInt8)) (r:List aQ):Parse.isAny l (r.map φ)=Parse.isAny l r:=by unfold Parse.isAny;rw [hφ.nx]
theorem tJ.bw (p:Bool) (r:List aQ):Parse.bw p (r.map φ)=Parse.bw p r:=by unfold Parse.bw;rw [hφ.nx,hφ.isAny]
theorem tJ.aT (s:List UInt8) (r:List aQ):Parse.aT s (r.map φ)=(Parse.aT s r).map φ:=by
 unfold Parse.aT
 rw [hφ.bN,hφ.aJ]
 split <;> rfl
theorem tJ.bX (s:List UInt8) (r:List aQ):eU (Parse.bX s (r.map φ))=eU (Parse.bX s r):=by
 unfold Parse.bX
 rw [hφ.bN]
 split
 ·exact hφ.aN r
 ·rfl
theorem tJ.gV (r:List aQ):Parse.gV (r.map φ)=(Parse.gV r).map φ:=by
 unfold Parse.gV
 rw [hφ.nx,hφ.aJ]
 split <;> rfl
end
def Rw (l:List T):List (List UInt8):=l.map eU
inductive MY:gX→gX→Prop where
 | rfl (j:gX):MY j j
 | ops (k:Nat) {t u:T}:eU t=eU u→MY (.ops k t) (.ops k u)
 | args {t u:T}:eU t=eU u→MY (.args t) (.args u)
end Go.Parse
namespace Go.Lex
open Go.VM
def Stop (x:List UInt8):Prop:=x=[]∨ ∃c r,x=c::r∧bJ c=true
theorem lQ: ∀(s:List UInt8),(fa s).1=7∨(fa s).1=9
 | []=> .inr rfl
 | [c]=>by
  simp only [fa]
  split
  ·exact .inr rfl
  split
  ·exact .inl rfl
  ·exact .inr rfl
 | c::d::l=>by
  simp only [fa]
  split
  ·exact .inr rfl
  split
  ·exact .inl rfl
  split
  ·split
   ·exact lQ l
   ·exact .inr rfl
  ·exact lQ (d::l)
end Go.Lex
namespace Go.Parse
open Go.VM Go.Lex
theorem pt (t:aQ) (l:List aQ):db (t::l)=t.2++db l:=by simp [db]
theorem oM (s:List UInt8):db (tokens s)=s:=by
 have:=uR s.length s (Nat.le_refl _)
 simpa [db,List.flatMap] using this
theorem gE {c:UInt8} {l:List UInt8}:tokens (c::l)=((cut (c::l)).1,(c::l).take (cut (c::l)).2)::tokens ((c::l).drop (cut (c::l)).2):=by
 have hc:=oH (s:=c::l) (by simp)
 show na (c::l).length (c::l)= _
 simp only [List.length_cons,na]
 congr 1
 refine tO _ _ _ ?_ (Nat.le_refl _)
 rw [List.length_drop]
 simp only [List.length_cons] at hc ⊢
 omega
theorem Ln {p:UInt8→Bool} {c:UInt8} {l:List UInt8} (h:p c=false):wh p (c::l)=0:=by simp [wh,h]
def Wt:List aQ→Nat
 | []=>0
 | t::r=>100+t.2.length+Wt r
theorem FD (p:aQ→Bool): ∀(r:List aQ),Wt (r.dropWhile p)≤Wt r
 | []=>Nat.le_refl _
 | t::r=>by
  rw [List.dropWhile_cons]
  split
  ·have:=FD p r
   simp only [Wt];omega
  ·exact Nat.le_refl _
theorem lg (r:List aQ):Wt (aJ r)+(nx r).2.length≤Wt r∧((nx r).1≠0→Wt (aJ r)+(nx r).2.length+100≤Wt r):=by
 have h:=FD aZ r
 unfold aJ nx
 cases hd:r.dropWhile aZ with
 | nil=>simp [Wt]
 | cons t l=>
  rw [hd] at h
  simp only [Wt,List.drop_succ_cons,List.drop_zero] at h ⊢
  omega
def SL (l:List T):Nat:=(pX l).length
theorem bk:SL []=0:=rfl
theorem bn (t:T) (l:List T):SL (t::l)=1+(eU t).length+SL l:=by simp [SL,pX];omega
theorem iB: ∀(l m:List T),SL (l++m)=SL l+SL m
 | [],m=>by simp [bk]
 | t::l,m=>by rw [List.cons_append,bn,bn,iB l m];omega
theorem fj {k:Nat} (h1:k≠1) (h2:k≠2) (l:List T):(eU (node k l)).length=3+SL l:=by
 simp only [eU,if_neg h1,if_neg h2,List.length_cons,List.length_append,List.length_nil,SL];omega
theorem dL (r:List aQ):(eU (aN r)).length=(nx r).2.length:=by unfold aN;rw [rD]
theorem rR (s:List UInt8):(eU (missing s)).length=1+s.length:=by simp [missing,eU];omega
theorem ld (s:List UInt8) (r:List aQ):(eU (bX s r)).length+Wt (aT s r)≤Wt r+1+s.length:=by
 unfold bX aT
 have:=lg r
 split
 ·rw [dL];omega
 ·rw [rR];omega
theorem Bg (s:List UInt8) (r:List aQ):(eU (ji s r)).length+Wt (gV r)≤Wt r+1+s.length:=by
 unfold ji gV
 have:=lg r
 split
 ·rw [rR];omega
 ·rename_i h
  have:=this.2 h
  rw [fj (by decide) (by decide),bn,bk,dL];omega
def allow:gX→Nat
 | .ops _ _=>0
 | .args _=>0
 | .closed _ _=>0
 | .items _ _=>0
 | .binding=>40
 | .params=>0
 | .arm=>40
 | .arms=>0
 | _=>10
def dM:gX→List aQ→Nat
 | .atom pat,r=>if bw pat r=true then 60 else 0
 | .closed _ _,_=>60
 | _,_=>0
theorem za (b:Bool):allow (if b then gX.pattern else .expr)=10:=by cases b <;> rfl
theorem B4 (b:Bool) (r:List aQ):dM (if b then gX.pattern else .expr) r=0:=by cases b <;> rfl
theorem at_one (b:Bool) (r:List aQ):at' (if b then gX.pattern else .expr) r:=by cases b <;> exact trivial
theorem LC (b:Bool):(gG b).length=1:=by cases b <;> rfl
theorem Rq: ∀(N:Nat) (job:gX) (d:Nat) (r:List aQ) (l:List T) (r':List aQ),P N job d r=some (l,r')→at' job r→SL l+Wt r'+dM job r≤SL (dA job)+Wt r+allow job:=by
 intro N
 induction N with
 | zero=>intro job d r l r' h;cases h
 | succ n ih=>
  intro job d r l r' h ha
  have tk:=lg r
  cases job with
  | expr=>
   simp only [P] at h
   simp only [dA,bk,allow,dM]
   split at h
   ·cases h
    have:=Bg hH r
    simp only [bn,bk,show hH.length=4 from rfl] at this ⊢
    omega
   ·have k:=ih _ _ _ _ _ h trivial
    simp only [dA,bk,allow,dM] at k
    omega
  | whole=>
   simp only [P] at h
   simp only [dA,bk,allow,dM]
   split at h
   ·rename_i hb
    obtain ⟨⟨bs,r2⟩,e1,h⟩:=bind_some h
    obtain ⟨⟨es,r3⟩,e2,h⟩:=bind_some h
    cases h
    have k1:=ih _ _ _ _ _ e1 trivial
    have k2:=ih _ _ _ _ _ e2 trivial
    have k3:=ld JR r2
    have k4:=tk.2 (dS hb)
    simp only [dA,bk,allow,dM,show JR.length=2 from rfl] at k1 k2 k3
    rw [bn,fj (by decide) (by decide)]
    simp only [iB,bn,bk,dL]
    omega
   split at h
   ·rename_i hb
    obtain ⟨⟨a,r1⟩,e1,h⟩:=bind_some h
    obtain ⟨⟨ps,r2⟩,e2,h⟩:=bind_some h
    obtain ⟨⟨es,r3⟩,e3,h⟩:=bind_some h
    cases h
    have k1:=ih _ _ _ _ _ e1 trivial
    have k2:=ih _ _ _ _ _ e2 trivial
    have k3:=ih _ _ _ _ _ e3 trivial
    have k5:=ld fG r2
    have k4:=tk.2 (dS hb)
    simp only [dA,bk,allow,dM,show fG.length=2 from rfl] at k1 k2 k3 k5
    rw [bn,fj (by decide) (by decide)]
    simp only [iB,bn,bk,dL]
    omega
   split at h
   ·rename_i hb
    obtain ⟨⟨a,r1⟩,e1,h⟩:=bind_some h
    obtain ⟨⟨b,r2⟩,e2,h⟩:=bind_some h
    obtain ⟨⟨c,r3⟩,e3,h⟩:=bind_some h
    cases h
    have k1:=ih _ _ _ _ _ e1 trivial
    have k2:=ih _ _ _ _ _ e2 trivial
    have k3:=ih _ _ _ _ _ e3 trivial
    have k5:=ld ri r1
    have k6:=ld qO r2
    have k4:=tk.2 (dS hb)
    simp only [dA,bk,allow,dM,show ri.length=4 from rfl,show qO.length=4 from rfl] at k1 k2 k3 k5 k6
    rw [bn,fj (by decide) (by decide)]
    simp only [iB,bn,bk,dL]
    omega
   split at h
   ·rename_i hb
    obtain ⟨⟨a,r1⟩,e1,h⟩:=bind_some h
    obtain ⟨⟨b,r3⟩,e2,h⟩:=bind_some h
    obtain ⟨⟨cs,r4⟩,e3,h⟩:=bind_some h
    cases h
    have k1:=ih _ _ _ _ _ e1 trivial
    have k2:=ih _ _ _ _ _ e2 trivial
    have k3:=ih _ _ _ _ _ e3 trivial
    have k5:=ld bp r1
    have k4:=tk.2 (dS hb)
    have kb:SL (if bN gB (aT bp r1) then [aN (aT bp r1)] else [])+Wt (if bN gB (aT bp r1) then aJ (aT bp r1) else aT bp r1)≤Wt (aT bp r1):=by
     split
     ·rename_i hb
      have:=(lg (aT bp r1)).2 (dS hb)
      simp only [bn,bk,dL]
      omega
     ·rw [bk];omega
    simp only [dA,bk,allow,dM,show bp.length=4 from rfl] at k1 k2 k3 k5
    rw [bn,fj (by decide) (by decide)]
    simp only [iB,bn,bk,dL]
    omega
   ·have k:=ih _ _ _ _ _ h trivial
    simp only [dA,bk,allow,dM] at k
    omega
  | level k=>
   simp only [P] at h
   simp only [dA,bk,allow,dM]
   split at h
   ·have k:=ih _ _ _ _ _ h trivial
    simp only [dA,bk,allow,dM] at k
    omega
   ·obtain ⟨⟨a,r1⟩,e1,h⟩:=bind_some h
    dsimp only at h
    split at h
    ·have k1:=ih _ _ _ _ _ e1 trivial
     have k2:=ih _ _ _ _ _ h trivial
     simp only [dA,bn,bk,allow,dM] at k1 k2
     omega
    ·cases h
  | ops k acc=>
   simp only [P] at h
   simp only [dA,bn,bk,allow,dM]
   split at h
   ·rename_i hb
    obtain ⟨⟨b,r1⟩,e1,h⟩:=bind_some h
    have k1:=ih _ _ _ _ _ e1 trivial
    have k2:=ih _ _ _ _ _ h trivial
    have k4:=tk.2 (jT hb)
    simp only [dA,bn,bk,allow,dM] at k1 k2
    rw [fj (by decide) (by decide)] at k2
    simp only [bn,bk,dL] at k2
    omega
   ·cases h;simp only [bn,bk];omega
  | neg=>
   simp only [P] at h
   simp only [dA,bk,allow,dM]
   split at h
   ·rename_i hb
    have k4:=tk.2 (jT hb)
    split at h
    ·cases h
     have:=Bg hH (aJ r)
     simp only [show hH.length=4 from rfl] at this
     rw [bn,fj (by decide) (by decide)]
     simp only [iB,bn,bk,dL]
     omega
    ·obtain ⟨⟨a,r1⟩,e1,h⟩:=bind_some h
     cases h
     have k1:=ih _ _ _ _ _ e1 trivial
     simp only [dA,bk,allow,dM] at k1
     rw [bn,fj (by decide) (by decide)]
     simp only [iB,bn,bk,dL]
     omega
   ·obtain ⟨⟨a,r1⟩,e1,h⟩:=bind_some h
    dsimp only at h
    split at h
    ·have k1:=ih _ _ _ _ _ e1 trivial
     have k2:=ih _ _ _ _ _ h trivial
     simp only [dA,bn,bk,allow,dM] at k1 k2
     omega
    ·cases h
  | args acc=>
   simp only [P] at h
   simp only [dA,bn,bk,allow,dM]
   split at h
   ·rename_i hb
    obtain ⟨⟨b,r1⟩,e1,h⟩:=bind_some h
    have k1:=ih _ _ _ _ _ e1 trivial
    have k2:=ih _ _ _ _ _ h trivial
    simp only [dA,bn,bk,allow,dM,if_pos hb] at k1 k2
    rw [fj (by decide) (by decide)] at k2
    simp only [bn,bk] at k2
    omega
   ·cases h;simp only [bn,bk];omega
  | atom pat=>
   simp only [P] at h
   simp only [dA,bk,allow,dM]
   split at h
   ·rename_i hb
    rw [if_pos hb]
    have k4:=tk.2 (ju hb)
    split at h
    ·cases h
     rw [bn,fj (by decide) (by decide)]
     simp only [bn,bk,dL]
     omega
    split at h
    ·have k:=ih _ _ _ _ _ h (ju hb)
     simp only [dA,bk,allow,dM] at k
     omega
    split at h
    ·have k:=ih _ _ _ _ _ h (ju hb)
     simp only [dA,bk,allow,dM] at k
     omega
    ·cases h
     simp only [bn,bk,dL]
     omega
   ·rename_i hb
    cases h
    rw [if_neg hb]
    simp only [bn,bk,rR]
    cases pat <;> simp [gr,hH] <;> omega
  | closed list pat=>
   simp only [P] at h
   simp only [dA,bk,allow,dM]
   have k4:=tk.2 ha
   have kn1:=nr list pat
   have kn2:=Dp list pat
   split at h
   ·cases h
    have k5:=lg (aJ r)
    rw [bn,fj kn1 kn2]
    simp only [bn,bk,dL]
    omega
   ·obtain ⟨⟨a,r2⟩,e1,h⟩:=bind_some h
    obtain ⟨⟨bs,r3⟩,e2,h⟩:=bind_some h
    cases h
    have k1:=ih _ _ _ _ _ e1 (at_one pat _)
    have k2:=ih _ _ _ _ _ e2 trivial
    have k5:=ld (gG list) r3
    rw [mY,za,B4,bk] at k1
    simp only [dA,bk,allow,dM,LC] at k1 k2 k5
    rw [bn,fj kn1 kn2]
    simp only [iB,bn,bk,dL]
    omega
  | items list pat=>
   simp only [P] at h
   simp only [dA,bk,allow,dM]
   split at h
   ·rename_i hb
    obtain ⟨⟨a,r1⟩,e1,h⟩:=bind_some h
    obtain ⟨⟨bs,r2⟩,e2,h⟩:=bind_some h
    cases h
    have k4:=tk.2 (dS hb)
    have k1:=ih _ _ _ _ _ e1 (at_one pat _)
    have k2:=ih _ _ _ _ _ e2 trivial
    rw [mY,za,B4,bk] at k1
    simp only [dA,bk,allow,dM] at k1 k2
    simp only [iB,bn,bk,dL]
    omega
   ·cases h;simp only [bk];omega
  | pattern=>
   simp only [P] at h
   simp only [dA,bk,allow,dM]
   split at h
   ·cases h
    have:=Bg gr r
    simp only [bn,bk,show gr.length=7 from rfl] at this ⊢
    omega
   ·obtain ⟨⟨a,r1⟩,e1,h⟩:=bind_some h
    have k1:=ih _ _ _ _ _ e1 trivial
    have k3:SL a+Wt r1≤Wt r+10:=by
     simp only [dA,bk,allow,dM] at k1
     omega
    dsimp only at h
    split at h
    ·rename_i hb
     obtain ⟨⟨b,r2⟩,e2,h⟩:=bind_some h
     cases h
     have k2:=ih _ _ _ _ _ e2 trivial
     have k4:=(lg r1).2 (dS hb)
     simp only [dA,bk,allow,dM] at k2
     rw [bn,fj (by decide) (by decide)]
     simp only [iB,bn,bk,dL]
     omega
    ·cases h;omega
  | binding=>
   simp only [P] at h
   simp only [dA,bk,allow,dM]
   have kr:SL (if bN dh r then [aN r] else [])+Wt (if bN dh r then aJ r else r)≤Wt r:=by
    split
    ·rename_i hb
     have:=tk.2 (dS hb)
     simp only [bn,bk,dL]
     omega
    ·rw [bk];omega
   generalize (if bN dh r then [aN r] else [])=rc at h kr
   generalize (if bN dh r then aJ r else r)=r0 at h kr
   split at h
   ·rename_i h4
    obtain ⟨⟨xs,r1⟩,e1,h⟩:=bind_some h
    obtain ⟨⟨ps,r3⟩,e3,e1⟩:=bind_some e1
    cases e1
    obtain ⟨⟨es,r2⟩,e2,h⟩:=bind_some h
    cases h
    have k3:=ih _ _ _ _ _ e3 trivial
    have k2:=ih _ _ _ _ _ e2 trivial
    have k4:=(lg r0).2 (by omega)
    have k5:=ld iw r3
    simp only [dA,bk,allow,dM,show iw.length=1 from rfl] at k2 k3 k5
    simp only [iB,bn,bk,dL]
    omega
   ·obtain ⟨⟨xs,r1⟩,e1,h⟩:=bind_some h
    obtain ⟨⟨es,r2⟩,e2,h⟩:=bind_some h
    cases h
    have k1:=ih _ _ _ _ _ e1 trivial
    have k2:=ih _ _ _ _ _ e2 trivial
    have k5:=ld iw r1
    simp only [dA,bk,allow,dM,show iw.length=1 from rfl] at k1 k2 k5
    simp only [iB,bn,bk,dL]
    omega
  | params=>
   simp only [P] at h
   simp only [dA,bk,allow,dM]
   split at h
   ·rename_i hb
    obtain ⟨⟨a,r1⟩,e1,h⟩:=bind_some h
    obtain ⟨⟨bs,r2⟩,e2,h⟩:=bind_some h
    cases h
    have k1:=ih _ _ _ _ _ e1 trivial
    have k2:=ih _ _ _ _ _ e2 trivial
    simp only [dA,bk,allow,dM,if_pos hb] at k1 k2
    simp only [iB]
    omega
   ·cases h;simp only [bk];omega
  | arm=>
   simp only [P] at h
   simp only [dA,bk,allow,dM]
   obtain ⟨⟨a,r1⟩,e1,h⟩:=bind_some h
   obtain ⟨⟨es,r2⟩,e2,h⟩:=bind_some h
   cases h
   have k1:=ih _ _ _ _ _ e1 trivial
   have k2:=ih _ _ _ _ _ e2 trivial
   have k5:=ld fG r1
   simp only [dA,bk,allow,dM,show fG.length=2 from rfl] at k1 k2 k5
   rw [bn,fj (by decide) (by decide)]
   simp only [iB,bn,bk]
   omega
  | arms=>
   simp only [P] at h
   simp only [dA,bk,allow,dM]
   split at h
   ·rename_i hb
    obtain ⟨⟨a,r1⟩,e1,h⟩:=bind_some h
    obtain ⟨⟨bs,r2⟩,e2,h⟩:=bind_some h
    cases h
    have k4:=tk.2 (dS hb)
    have k1:=ih _ _ _ _ _ e1 trivial
    have k2:=ih _ _ _ _ _ e2 trivial
    simp only [dA,bk,allow,dM] at k1 k2
    simp only [iB,bn,bk,dL]
    omega
   ·cases h;simp only [bk];omega
theorem Ft: ∀(n:Nat) (r:List aQ),SL (skip n r).1+Wt (skip n r).2≤Wt r
 | 0,r=>by show SL []+Wt r≤Wt r;rw [bk];omega
 | n+1,r=>by
  simp only [skip]
  split
  ·rename_i h
   have k:=Ft n (aJ r)
   have k4:=(lg r).2 h.1
   simp only [bn,dL]
   omega
  ·show SL []+Wt r≤Wt r;rw [bk];omega
theorem x9: ∀(N:Nat) (r:List aQ) (D:List T),decls N r=some D→SL D≤5 * Wt r+10
 | 0,_,_,h=>by cases h
 | n+1,r,D,h=>by
  simp only [decls] at h
  have tk:=lg r
  split at h
  ·cases h
   simp only [bn,bk,dL]
   omega
  rename_i h0
  have k4:=tk.2 h0
  split at h
  ·obtain ⟨⟨bs,r1⟩,e1,h⟩:=bind_some h
   obtain ⟨D1,e2,h⟩:=bind_some h
   cases h
   have k1:=Rq _ _ _ _ _ _ e1 trivial
   have k2:=x9 n r1 D1 e2
   simp only [dA,bk,allow,dM] at k1
   rw [bn,fj (by decide) (by decide),bn,dL]
   dsimp only
   omega
  ·rename_i hb
   obtain ⟨D1,e2,h⟩:=bind_some h
   cases h
   have k2:=x9 n _ D1 e2
   have k1:SL (skip r.length r).1+Wt (skip r.length r).2+20≤Wt r:=by
    obtain ⟨m,hm⟩: ∃m,r.length=m+1:=by
     cases r with
     | nil=>exact absurd rfl h0
     | cons t l=>exact ⟨l.length,rfl⟩
    rw [hm]
    simp only [skip]
    rw [if_pos ⟨h0,by simpa using hb⟩]
    have k:=Ft m (aJ r)
    simp only [bn,dL]
    omega
   rw [bn,fj (by decide) (by decide)]
   omega
theorem My (r:List aQ):(eU (doc r)).length≤5 * Wt r+20:=by
 obtain ⟨l,e1,e2⟩:=kY r
 rw [e2,fj (by decide) (by decide)]
 have:=x9 _ _ _ e1
 omega
structure wO {α:Type} (F1:T→List α) (F:List T→List α) (G:List aQ→List α):Prop where
 nil:F []=[]
 cons: ∀t l,F (t::l)=F1 t++F l
 node: ∀{k},k≠1→ ∀l,F1 (node k l)=F l
 miss: ∀s,F1 (missing s)=[]
 take: ∀r,F1 (aN r)++G (aJ r)=G r
section
variable {α:Type} {F1:T→List α} {F:List T→List α} {G:List aQ→List α} (hm:wO F1 F G)
include hm
theorem wO.one (t:T):F [t]=F1 t:=by rw [hm.cons,hm.nil,List.append_nil]
theorem wO.app: ∀(l m:List T),F (l++m)=F l++F m
 | [],m=>by rw [List.nil_append,hm.nil,List.nil_append]
 | t::l,m=>by rw [List.cons_append,hm.cons,hm.cons,wO.app l m,List.append_assoc]
theorem wO.mJ (s:List UInt8) (r:List aQ):F1 (bX s r)++G (aT s r)=G r:=by
 unfold bX aT
 split
 ·exact hm.take r
 ·rw [hm.miss];rfl
theorem wO.deep (s:List UInt8) (r:List aQ):F1 (ji s r)++G (gV r)=G r:=by
 unfold ji gV
 split
 ·rw [hm.miss];rfl
 ·rw [hm.node (by decide),hm.one];exact hm.take r
end
theorem Qe {α:Type} {F1:T→List α} {F:List T→List α} {G:List aQ→List α} (hm:wO F1 F G): ∀(N:Nat) (job:gX) (d:Nat) (r:List aQ) (l:List T) (r':List aQ),P N job d r=some (l,r')→F l++G r'=F (dn job)++G r:=by
 intro N
 induction N with
 | zero=>intro job d r l r' h;cases h
 | succ n ih=>
  intro job d r l r' h
  have tk:=hm.take r
  cases job with
  | expr=>
   simp only [P] at h
   split at h
   ·cases h;rw [hm.one,hm.deep];simp [dn,hm.nil]
   ·have k:=ih _ _ _ _ _ h;exact k
  | whole=>
   simp only [P] at h
   split at h
   ·obtain ⟨⟨bs,r2⟩,e1,h⟩:=bind_some h
    obtain ⟨⟨es,r3⟩,e2,h⟩:=bind_some h
    cases h
    have k1:=ih _ _ _ _ _ e1
    have k2:=ih _ _ _ _ _ e2
    simp only [dn,hm.nil,hm.one,List.nil_append] at k1 k2 ⊢
    (try rw [hm.one]);rw [hm.node (by decide)]
    simp only [hm.app,hm.cons,hm.nil,List.nil_append,List.append_nil,List.append_assoc,List.cons_append,k2,hm.mJ,k1,tk]
   split at h
   ·obtain ⟨⟨a,r1⟩,e1,h⟩:=bind_some h
    obtain ⟨⟨ps,r2⟩,e2,h⟩:=bind_some h
    obtain ⟨⟨es,r3⟩,e3,h⟩:=bind_some h
    cases h
    have k1:=ih _ _ _ _ _ e1
    have k2:=ih _ _ _ _ _ e2
    have k3:=ih _ _ _ _ _ e3
    simp only [dn,hm.nil,hm.one,List.nil_append] at k1 k2 k3 ⊢
    (try rw [hm.one]);rw [hm.node (by decide)]
    simp only [hm.app,hm.cons,hm.nil,List.nil_append,List.append_nil,List.append_assoc,List.cons_append,k3,hm.mJ,k2,k1,tk]
   split at h
   ·obtain ⟨⟨a,r1⟩,e1,h⟩:=bind_some h
    obtain ⟨⟨b,r2⟩,e2,h⟩:=bind_some h
    obtain ⟨⟨c,r3⟩,e3,h⟩:=bind_some h
    cases h
    have k1:=ih _ _ _ _ _ e1
    have k2:=ih _ _ _ _ _ e2
    have k3:=ih _ _ _ _ _ e3
    simp only [dn,hm.nil,hm.one,List.nil_append] at k1 k2 k3 ⊢
    (try rw [hm.one]);rw [hm.node (by decide)]
    simp only [hm.app,hm.cons,hm.nil,List.nil_append,List.append_nil,List.append_assoc,List.cons_append,k3,hm.mJ,k2,k1,tk]
   split at h
   ·obtain ⟨⟨a,r1⟩,e1,h⟩:=bind_some h
    obtain ⟨⟨b,r3⟩,e2,h⟩:=bind_some h
    obtain ⟨⟨cs,r4⟩,e3,h⟩:=bind_some h
    cases h
    have k1:=ih _ _ _ _ _ e1
    have k2:=ih _ _ _ _ _ e2
    have k3:=ih _ _ _ _ _ e3
    simp only [dn,hm.nil,hm.one,List.nil_append] at k1 k2 k3 ⊢
    have kb:F (if bN gB (aT bp r1) then [aN (aT bp r1)] else [])++G (if bN gB (aT bp r1) then aJ (aT bp r1) else aT bp r1)=G (aT bp r1):=by
     split
     ·rw [hm.one];exact hm.take _
     ·rw [hm.nil];rfl
    (try rw [hm.one]);rw [hm.node (by decide)]
    simp only [hm.app,hm.cons,hm.nil,List.nil_append,List.append_nil,List.append_assoc,List.cons_append,k3,k2,kb,hm.mJ,k1,tk]
   ·have k:=ih _ _ _ _ _ h;exact k
  | level k=>
   simp only [P] at h
   split at h
   ·have k:=ih _ _ _ _ _ h;exact k
   ·obtain ⟨⟨a,r1⟩,e1,h⟩:=bind_some h
    dsimp only at h
    split at h
    ·have k1:=ih _ _ _ _ _ e1
     have k2:=ih _ _ _ _ _ h
     simp only [dn,hm.nil,hm.one,List.nil_append,hm.one] at k1 k2 ⊢
     rw [k2,k1]
    ·cases h
  | ops k acc=>
   simp only [P] at h
   split at h
   ·obtain ⟨⟨b,r1⟩,e1,h⟩:=bind_some h
    have k1:=ih _ _ _ _ _ e1
    have k2:=ih _ _ _ _ _ h
    simp only [dn,hm.nil,hm.one,List.nil_append] at k1 k2 ⊢
    rw [k2,hm.node (by decide)]
    simp only [hm.cons,hm.nil,List.nil_append,List.append_assoc,k1,tk]
   ·cases h;simp [dn]
  | neg=>
   simp only [P] at h
   split at h
   ·split at h
    ·cases h
     (try rw [hm.one]);rw [hm.node (by decide)]
     simp only [hm.cons,hm.nil,List.nil_append,List.append_nil,List.append_assoc,dn,hm.nil,List.nil_append,hm.deep,tk]
    ·obtain ⟨⟨a,r1⟩,e1,h⟩:=bind_some h
     cases h
     have k1:=ih _ _ _ _ _ e1
     simp only [dn,hm.nil,hm.one,List.nil_append] at k1 ⊢
     (try rw [hm.one]);rw [hm.node (by decide)]
     simp only [hm.cons,hm.nil,List.nil_append,List.append_assoc,k1,tk]
   ·obtain ⟨⟨a,r1⟩,e1,h⟩:=bind_some h
    dsimp only at h
    split at h
    ·have k1:=ih _ _ _ _ _ e1
     have k2:=ih _ _ _ _ _ h
     simp only [dn,hm.nil,hm.one,List.nil_append,hm.one] at k1 k2 ⊢
     rw [k2,k1]
    ·cases h
  | args acc=>
   simp only [P] at h
   split at h
   ·obtain ⟨⟨b,r1⟩,e1,h⟩:=bind_some h
    have k1:=ih _ _ _ _ _ e1
    have k2:=ih _ _ _ _ _ h
    simp only [dn,hm.nil,hm.one,List.nil_append] at k1 k2 ⊢
    rw [k2,hm.node (by decide)]
    simp only [hm.cons,hm.nil,List.nil_append,List.append_assoc,k1]
   ·cases h;simp [dn]
  | atom pat=>
   simp only [P] at h
   split at h
   ·split at h
    ·cases h
     (try rw [hm.one]);rw [hm.node (by decide),hm.one]
     simp only [dn,hm.nil,List.nil_append];exact tk
    split at h
    ·have k:=ih _ _ _ _ _ h;exact k
    split at h
    ·have k:=ih _ _ _ _ _ h;exact k
    ·cases h;rw [hm.one];simp only [dn,hm.nil,List.nil_append];exact tk
   ·cases h;rw [hm.one,hm.miss];simp [dn,hm.nil]
  | closed list pat=>
   simp only [P] at h
   split at h
   ·cases h
    have tk2:=hm.take (aJ r)
    (try rw [hm.one]);rw [hm.node (nr _ _)]
    simp only [hm.cons,hm.nil,List.nil_append,List.append_nil,List.append_assoc,dn,hm.nil,List.nil_append,tk2,tk]
   ·obtain ⟨⟨a,r2⟩,e1,h⟩:=bind_some h
    obtain ⟨⟨bs,r3⟩,e2,h⟩:=bind_some h
    cases h
    have k1:=ih _ _ _ _ _ e1
    have k2:=ih _ _ _ _ _ e2
    have hd:dn (if pat then gX.pattern else gX.expr)=[]:=by cases pat <;> rfl
    rw [hd] at k1
    simp only [dn,hm.nil,hm.one,List.nil_append] at k1 k2 ⊢
    (try rw [hm.one]);rw [hm.node (nr _ _)]
    simp only [hm.app,hm.cons,hm.nil,List.nil_append,List.append_nil,List.append_assoc,List.cons_append,hm.mJ,k2,k1,tk]
  | items list pat=>
   simp only [P] at h
   split at h
   ·obtain ⟨⟨a,r2⟩,e1,h⟩:=bind_some h
    obtain ⟨⟨bs,r3⟩,e2,h⟩:=bind_some h
    cases h
    have k1:=ih _ _ _ _ _ e1
    have k2:=ih _ _ _ _ _ e2
    have hd:dn (if pat then gX.pattern else gX.expr)=[]:=by cases pat <;> rfl
    rw [hd] at k1
    simp only [dn,hm.nil,hm.one,List.nil_append] at k1 k2 ⊢
    simp only [hm.app,hm.cons,hm.nil,List.nil_append,List.append_assoc,List.cons_append,k2,k1,tk]
   ·cases h;simp [dn,hm.nil]
  | pattern=>
   simp only [P] at h
   split at h
   ·cases h;rw [hm.one,hm.deep];simp [dn,hm.nil]
   ·obtain ⟨⟨a,r1⟩,e1,h⟩:=bind_some h
    have k1:=ih _ _ _ _ _ e1
    dsimp only at h
    split at h
    ·obtain ⟨⟨b,r2⟩,e2,h⟩:=bind_some h
     cases h
     have k2:=ih _ _ _ _ _ e2
     simp only [dn,hm.nil,hm.one,List.nil_append] at k1 k2 ⊢
     (try rw [hm.one]);rw [hm.node (by decide)]
     simp only [hm.app,hm.cons,hm.nil,List.nil_append,List.append_assoc,k2,hm.take,k1]
    ·cases h;exact k1
  | binding=>
   simp only [P] at h
   have k0:F (if bN dh r then [aN r] else [])++G (if bN dh r then aJ r else r)=G r:=by
    split
    ·rw [hm.one];exact tk
    ·rw [hm.nil];rfl
   generalize (if bN dh r then [aN r] else [])=rc at h k0
   generalize (if bN dh r then aJ r else r)=r0 at h k0
   split at h
   ·obtain ⟨⟨xs,r1⟩,e1,h⟩:=bind_some h
    obtain ⟨⟨ps,r3⟩,e3,e1⟩:=bind_some e1
    cases e1
    obtain ⟨⟨es,r2⟩,e2,h⟩:=bind_some h
    cases h
    have k3:=ih _ _ _ _ _ e3
    have k2:=ih _ _ _ _ _ e2
    simp only [dn,hm.nil,hm.one,List.nil_append] at k2 k3 ⊢
    simp only [hm.app,hm.cons,hm.nil,List.nil_append,hm.one,List.append_assoc,List.cons_append,k2,hm.mJ,k3,hm.take,k0]
   ·obtain ⟨⟨xs,r1⟩,e1,h⟩:=bind_some h
    obtain ⟨⟨es,r2⟩,e2,h⟩:=bind_some h
    cases h
    have k1:=ih _ _ _ _ _ e1
    have k2:=ih _ _ _ _ _ e2
    simp only [dn,hm.nil,hm.one,List.nil_append] at k1 k2 ⊢
    simp only [hm.app,hm.one,List.append_assoc,k2,hm.mJ,k1,k0]
  | params=>
   simp only [P] at h
   split at h
   ·obtain ⟨⟨a,r1⟩,e1,h⟩:=bind_some h
    obtain ⟨⟨bs,r2⟩,e2,h⟩:=bind_some h
    cases h
    have k1:=ih _ _ _ _ _ e1
    have k2:=ih _ _ _ _ _ e2
    simp only [dn,hm.nil,hm.one,List.nil_append] at k1 k2 ⊢
    simp only [hm.app,List.append_assoc,k2,k1]
   ·cases h;simp [dn,hm.nil]
  | arm=>
   simp only [P] at h
   obtain ⟨⟨a,r1⟩,e1,h⟩:=bind_some h
   obtain ⟨⟨es,r2⟩,e2,h⟩:=bind_some h
   cases h
   have k1:=ih _ _ _ _ _ e1
   have k2:=ih _ _ _ _ _ e2
   simp only [dn,hm.nil,hm.one,List.nil_append] at k1 k2 ⊢
   (try rw [hm.one]);rw [hm.node (by decide)]
   simp only [hm.app,hm.one,List.append_assoc,k2,hm.mJ,k1]
  | arms=>
   simp only [P] at h
   split at h
   ·obtain ⟨⟨a,r1⟩,e1,h⟩:=bind_some h
    obtain ⟨⟨bs,r2⟩,e2,h⟩:=bind_some h
    cases h
    have k1:=ih _ _ _ _ _ e1
    have k2:=ih _ _ _ _ _ e2
    simp only [dn,hm.nil,hm.one,List.nil_append] at k1 k2 ⊢
    simp only [hm.app,hm.cons,hm.nil,List.nil_append,List.append_assoc,List.cons_append,k2,k1,tk]
   ·cases h;simp [dn,hm.nil]
theorem Bo {α:Type} {F1:T→List α} {F:List T→List α} {G:List aQ→List α} (hm:wO F1 F G): ∀(n:Nat) (r:List aQ),F (skip n r).1++G (skip n r).2=G r
 | 0,r=>by simp [skip,hm.nil]
 | n+1,r=>by
  simp only [skip]
  split
  ·simp only [hm.cons,List.append_assoc,Bo hm n (aJ r),hm.take]
  ·simp [hm.nil]
theorem tL {α:Type} {F1:T→List α} {F:List T→List α} {G:List aQ→List α} (hm:wO F1 F G) (h0:G []=[]): ∀(n:Nat) (r:List aQ) (l:List T),decls n r=some l→IQ r→F l=G r
 | 0,_,_,h,_=>by cases h
 | n+1,r,l,h,hz=>by
  simp only [decls] at h
  split at h
  ·rename_i hn
   cases h
   have:=hm.take r
   rw [Fa hz hn,h0,List.append_nil] at this
   rw [hm.one,this]
  split at h
  ·obtain ⟨⟨bs,r1⟩,e1,h⟩:=bind_some h
   obtain ⟨m,e2,h⟩:=bind_some h
   cases h
   have k1:=Qe hm _ _ _ _ _ _ e1
   have k2:=tL hm h0 n r1 m e2 (zj jO _ _ _ _ _ _ e1 (jO _ hz))
   simp only [dn,hm.nil,List.nil_append] at k1
   rw [hm.cons,hm.node (by decide),hm.cons,List.append_assoc,k2,k1,hm.take]
  ·obtain ⟨m,e2,h⟩:=bind_some h
   cases h
   have k2:=tL hm h0 n _ m e2 (wv jO _ _ hz)
   rw [hm.cons,hm.node (by decide),k2,Bo hm]
theorem KR {α:Type} {F1:T→List α} {F:List T→List α} {G:List aQ→List α} (hm:wO F1 F G) (h0:G []=[]) (r:List aQ) (h:IQ r):F1 (doc r)=G r:=by
 obtain ⟨l,e1,e2⟩:=kY r
 rw [e2,hm.node (by decide),tL hm h0 _ _ _ e1 h]
theorem Gk (w:List UInt8):nA w≠0:=by
 unfold nA
 split
 ·decide
 split <;> decide
theorem LR {s:List UInt8} (h:s≠[]):(cut s).1≠0:=by
 cases s with
 | nil=>exact absurd rfl h
 | cons c l=>
  unfold cut
  dsimp only
  split
  ·exact fun e=>by cases e
  split
  ·cases rem (List.drop 2 (c::l)) 1 <;> exact fun e=>by cases e
  split
  ·exact Gk _
  split
  ·have hnum:(number (c::l)).1≠0:=by
    unfold number
    dsimp only
    split
    ·split <;> exact fun e=>by cases e
    ·exact fun e=>by cases e
   exact hnum
  split
  ·have:=lQ l
   show (fa l).1≠0
   omega
  split
  ·exact fun e=>by cases e
  split <;> exact fun e=>by cases e
theorem B0: ∀(n:Nat) (s:List UInt8),∀p∈na n s,p.1≠0
 | 0,_,p,h=>by simp [na] at h
 | n+1,[],p,h=>by simp [na] at h
 | n+1,c::l,p,h=>by
  simp only [na,List.mem_cons] at h
  rcases h with rfl | h
  ·exact LR (by simp)
  ·exact B0 n _ p h
theorem nP (s:List UInt8):IQ (tokens s):=B0 _ s
theorem F7 {α:Type} {F1:T→List α} {F:List T→List α} {g:aQ→List α} (hn:F []=[]) (hc: ∀t l,F (t::l)=F1 t++F l) (h0: ∀t,aZ t=true→F1 (eR t)=g t) (h1: ∀t ks,aZ t=false→F1 (leaf t ks)=F ks++g t) (hz: ∀ks,F1 (leaf (0,[]) ks)=F ks) (r:List aQ):
  F1 (aN r)++(aJ r).flatMap g=r.flatMap g:=by
 have hl: ∀l:List aQ,(∀t∈l,aZ t=true)→F (l.map eR)=l.flatMap g:=by
  intro l
  induction l with
  | nil=>intro _;exact hn
  | cons t l ih=>
   intro h
   rw [List.map_cons,hc,h0 t (h t List.mem_cons_self),ih fun u hu=>h u (List.mem_cons_of_mem _ hu)]
   simp
 have hf:=hl (r.takeWhile aZ) fun t ht=>rX ht
 have e:r.flatMap g=(r.takeWhile aZ).flatMap g++(r.dropWhile aZ).flatMap g:=by
  rw [← List.flatMap_append,List.takeWhile_append_dropWhile]
 unfold aN aJ
 cases hd:r.dropWhile aZ with
 | nil=>
  have hx:nx r=(0,[]):=by unfold nx;rw [hd]
  rw [hx,hz,hf,e,hd]
  rfl
 | cons t l=>
  have hx:nx r=t:=by unfold nx;rw [hd]
  have ht:aZ t=false:=by
   have:=List.head_dropWhile_not aZ (l:=r) (by rw [hd];simp)
   simpa only [hd,List.head_cons] using this
  rw [hx,h1 t _ ht,hf,e,hd]
  simp
mutual
def JN:T→List Unit
 | .mk k tk _ l=>FY l++(if k=1∧tk=9 then [()] else [])
def FY:List T→List Unit
 | []=>[]
 | t::l=>JN t++FY l
end
theorem Kz:wO JN FY (fun r=>r.flatMap fun t=>if t.1=9 then [()] else []) where
 nil:=by simp [FY]
 cons t l:=by simp [FY]
 node:=fun {k} hk l=>by
  simp only [node,JN]
  rw [if_neg (fun h=>hk h.1),List.append_nil]
 miss s:=by simp [missing,JN,FY]
 take r:=by
  refine F7 (F1:=JN) (F:=FY) (g:=fun t=>if t.1=9 then [()] else []) (by simp only [FY]) (fun t l=>by simp only [FY]) (fun t ht=> ?_) (fun t ks ht=> ?_) (fun ks=> ?_) r
  ·simp only [eR,leaf,JN,FY,List.nil_append,true_and]
  ·simp only [leaf,JN,true_and]
  ·simp [leaf,JN]
theorem Nl (s:List UInt8) (h:JN (doc (tokens s))=[]): ∀t∈tokens s,t.1≠9:=by
 rw [KR Kz rfl (tokens s) (nP s)] at h
 intro t ht e
 have:=List.flatMap_eq_nil_iff.1 h t ht
 rw [if_pos e] at this
 cases this
structure Nq (f:List aQ→List aQ):Prop where
 nx: ∀r,(nx r).1≠0→Parse.nx (f r)=Parse.nx r
 tk: ∀r,(Parse.nx r).1≠0→aN (f r)=aN r
 tr: ∀r,(Parse.nx r).1≠0→aJ (f r)=f (aJ r)
 nd: ∀r,(Parse.nx r).1=0→Parse.nx (f r)=(8,cj)
section
variable {f:List aQ→List aQ} (hf:Nq f)
include hf
theorem Nq.bN {s:List UInt8} (hs:s≠cj) (r:List aQ):Parse.bN s (f r)=Parse.bN s r:=by
 by_cases h:(Parse.nx r).1=0
 ·unfold Parse.bN
  rw [hf.nd r h,h]
  have:(cj==s)=false:=beq_eq_false_iff_ne.2 fun e=>hs e.symm
  simp [this]
 ·unfold Parse.bN
  rw [hf.nx r h]
theorem Nq.QX {s:List UInt8} {r:List aQ} (h:(Parse.nx r).1≠0):Parse.bN s (f r)=Parse.bN s r:=by
 unfold Parse.bN
 rw [hf.nx r h]
theorem Nq.isAny {l:List (List UInt8)} (hl:cj∉l) (r:List aQ):Parse.isAny l (f r)=Parse.isAny l r:=by
 by_cases h:(Parse.nx r).1=0
 ·unfold Parse.isAny
  rw [hf.nd r h,h]
  have:(l.any fun s=>s==cj)=false:=by
   rw [List.any_eq_false]
   intro x hx
   simp only [beq_iff_eq]
   rintro rfl
   exact hl hx
  simp [this]
 ·unfold Parse.isAny
  rw [hf.nx r h]
theorem Nq.bw (pat:Bool) (r:List aQ):Parse.bw pat (f r)=Parse.bw pat r:=by
 have ha:=hf.isAny (l:=[mW,jC,cy,jb,if pat then yj else cy]) (by cases pat <;> decide) r
 unfold Parse.bw
 rw [ha]
 by_cases h:(Parse.nx r).1=0
 ·rw [hf.nd r h,h]
  cases pat <;> rfl
 ·rw [hf.nx r h]
end
theorem zy {N:Nat} {pat:Bool} {d:Nat} {r:List aQ} {l:List T} {r':List aQ} (h0:(nx r).1=0) (h:P N (if pat then .pattern else .expr) d r=some (l,r')):aX l=false:=by
 cases N with
 | zero=>cases h
 | succ n=>
  cases pat with
  | true=>
   simp only [if_true,P] at h
   split at h
   ·cases h;rw [aO,dQ]
   ·obtain ⟨⟨a,r1⟩,e1,h⟩:=bind_some h
    have:=(Ic n (d+1) r (a,r1) h0).2.2.2.2 true e1
    cases this
    simp only [nU h0,Bool.false_eq_true,if_false] at h
    cases h;rfl
  | false=>
   simp only [Bool.false_eq_true,if_false,P] at h
   split at h
   ·cases h;rw [aO,dQ]
   ·cases n with
    | zero=>cases h
    | succ n=>
     simp only [P,nU h0,Bool.false_eq_true,if_false] at h
     have:=(Ic n (d+1) r (l,r') h0).1 _ h
     cases this;rfl
theorem Py {f:List aQ→List aQ} (hf:Nq f): ∀(N:Nat) (job:gX) (d:Nat) (r:List aQ) (l:List T) (r':List aQ),P N job d r=some (l,r')→at' job r→aX l=true→P N job d (f r)=some (l,f r'):=by
 intro N
 induction N with
 | zero=>intro job d r l r' h;cases h
 | succ n ih=>
  intro job d r l r' h ha hg
  have mJ: ∀{s:List UInt8} {q:List aQ},cI (bX s q)=true→bX s (f q)=bX s q∧aT s (f q)=f (aT s q):=fun {s q} hgn=>by
   have h1:=zP hgn
   have h3:=dS h1
   have h2:bN s (f q)=true:=by rw [hf.QX h3];exact h1
   unfold bX aT
   rw [h1,h2]
   exact ⟨hf.tk q h3,hf.tr q h3⟩
  cases job with
  | expr=>
   simp only [P] at h ⊢
   split at h
   ·cases h;rw [aO,dQ] at hg;cases hg
   ·rename_i hc;rw [if_neg hc];exact ih _ _ _ _ _ h trivial hg
  | whole=>
   simp only [P] at h ⊢
   by_cases h0:(nx r).1=0
   ·simp only [nU h0,Bool.false_eq_true,if_false] at h
    have:=(Ic n d r (l,r') h0).1 _ h
    cases this
    rw [aO,kZ] at hg;cases hg
   rw [hf.QX (s:=fE) h0,hf.bN (s:=Ep) (by decide),hf.bN (s:=Ou) (by decide),hf.bN (s:=rM) (by decide),hf.tr r h0,hf.tk r h0]
   split at h
   ·rename_i hc;rw [if_pos hc]
    obtain ⟨⟨bs,r2⟩,e1,h⟩:=bind_some h
    obtain ⟨⟨es,r3⟩,e2,h⟩:=bind_some h
    cases h
    rw [aO] at hg
    have hg:=aS hg
    simp only [aW,aX,Bool.and_eq_true,Bool.and_true] at hg
    obtain ⟨n1,n2⟩:=mJ hg.1.2
    rw [ax (ih _ _ _ _ _ e1 trivial hg.1.1.2)]
    dsimp only
    rw [n2,ax (ih _ _ _ _ _ e2 trivial hg.2),n1]
   rename_i hc;rw [if_neg hc]
   split at h
   ·rename_i hc;rw [if_pos hc]
    obtain ⟨⟨a,r1⟩,e1,h⟩:=bind_some h
    obtain ⟨⟨ps,r2⟩,e2,h⟩:=bind_some h
    obtain ⟨⟨es,r3⟩,e3,h⟩:=bind_some h
    cases h
    rw [aO] at hg
    have hg:=aS hg
    simp only [aW,aX,Bool.and_eq_true,Bool.and_true] at hg
    obtain ⟨n1,n2⟩:=mJ hg.1.2
    rw [ax (ih _ _ _ _ _ e1 trivial hg.1.1.1.2)]
    dsimp only
    rw [ax (ih _ _ _ _ _ e2 trivial hg.1.1.2)]
    dsimp only
    rw [n2,ax (ih _ _ _ _ _ e3 trivial hg.2),n1]
   rename_i hc;rw [if_neg hc]
   split at h
   ·rename_i hc;rw [if_pos hc]
    obtain ⟨⟨a,r1⟩,e1,h⟩:=bind_some h
    obtain ⟨⟨b,r2⟩,e2,h⟩:=bind_some h
    obtain ⟨⟨c,r3⟩,e3,h⟩:=bind_some h
    cases h
    rw [aO] at hg
    have hg:=aS hg
    simp only [aW,aX,Bool.and_eq_true,Bool.and_true] at hg
    obtain ⟨n1,n2⟩:=mJ hg.1.1.1.2
    obtain ⟨m1,m2⟩:=mJ hg.1.2
    rw [ax (ih _ _ _ _ _ e1 trivial hg.1.1.1.1.2)]
    dsimp only
    rw [n2,ax (ih _ _ _ _ _ e2 trivial hg.1.1.2)]
    dsimp only
    rw [m2,ax (ih _ _ _ _ _ e3 trivial hg.2),n1,m1]
   rename_i hc;rw [if_neg hc]
   split at h
   ·rename_i hc;rw [if_pos hc]
    obtain ⟨⟨a,r1⟩,e1,h⟩:=bind_some h
    obtain ⟨⟨b,r3⟩,e2,h⟩:=bind_some h
    obtain ⟨⟨cs,r4⟩,e3,h⟩:=bind_some h
    cases h
    rw [aO] at hg
    have hg:=aS hg
    simp only [aW,aX,Bool.and_eq_true,Bool.and_true] at hg
    obtain ⟨n1,n2⟩:=mJ hg.1.1.1.2
    rw [ax (ih _ _ _ _ _ e1 trivial hg.1.1.1.1.2)]
    dsimp only
    rw [n2,n1,hf.bN (s:=gB) (by decide)]
    have hbar:(if bN gB (aT bp r1)=true then aJ (f (aT bp r1)) else f (aT bp r1))=f (if bN gB (aT bp r1)=true then aJ (aT bp r1) else aT bp r1):=by
     split
     ·rename_i hb;exact hf.tr _ (dS hb)
     ·rfl
    have hbar2:(if bN gB (aT bp r1)=true then [aN (f (aT bp r1))] else [])=(if bN gB (aT bp r1)=true then [aN (aT bp r1)] else []):=by
     split
     ·rename_i hb;rw [hf.tk _ (dS hb)]
     ·rfl
    rw [hbar,hbar2,ax (ih _ _ _ _ _ e2 trivial hg.1.2)]
    dsimp only
    rw [ax (ih _ _ _ _ _ e3 trivial hg.2)]
   rename_i hc;rw [if_neg hc]
   exact ih _ _ _ _ _ h trivial hg
  | level k=>
   simp only [P] at h ⊢
   split at h
   ·rename_i hc;rw [if_pos hc];exact ih _ _ _ _ _ h trivial hg
   ·rename_i hc;rw [if_neg hc]
    obtain ⟨⟨a,r1⟩,e1,h⟩:=bind_some h
    dsimp only at h
    split at h
    ·have hga:=iR _ _ _ _ _ _ h hg
     rw [ax (ih _ _ _ _ _ e1 trivial hga)]
     exact ih _ _ _ _ _ h trivial hg
    ·cases h
  | ops k acc=>
   simp only [P] at h ⊢
   have hop:cj∉opsOf k:=by
    unfold opsOf
    split <;> decide
   rw [hf.isAny hop]
   split at h
   ·rename_i hc;rw [if_pos hc]
    have h0:=jT hc
    obtain ⟨⟨b,r1⟩,e1,h⟩:=bind_some h
    have hga:=iR _ _ _ _ _ _ h hg
    simp only [dn,aO] at hga
    have hga:=aS hga
    simp only [aX,Bool.and_eq_true] at hga
    rw [hf.tr r h0,hf.tk r h0,ax (ih _ _ _ _ _ e1 trivial hga.2.2)]
    exact ih _ _ _ _ _ h trivial hg
   ·rename_i hc;rw [if_neg hc];cases h;rfl
  | neg=>
   simp only [P] at h ⊢
   rw [hf.isAny (by decide)]
   split at h
   ·rename_i hc;rw [if_pos hc]
    have h0:=jT hc
    rw [hf.tr r h0,hf.tk r h0]
    split at h
    ·cases h
     rw [aO] at hg
     have hg:=aS hg
     simp only [aX,Bool.and_eq_true,Bool.and_true,dQ] at hg
     exact absurd hg.2 (by simp)
    ·rename_i hc;rw [if_neg hc]
     obtain ⟨⟨a,r1⟩,e1,h⟩:=bind_some h
     cases h
     rw [aO] at hg
     have hg:=aS hg
     simp only [aX,Bool.and_eq_true] at hg
     rw [ax (ih _ _ _ _ _ e1 trivial hg.2)]
   ·rename_i hc;rw [if_neg hc]
    obtain ⟨⟨a,r1⟩,e1,h⟩:=bind_some h
    dsimp only at h
    split at h
    ·have hga:=iR _ _ _ _ _ _ h hg
     rw [ax (ih _ _ _ _ _ e1 trivial hga)]
     exact ih _ _ _ _ _ h trivial hg
    ·cases h
  | args acc=>
   simp only [P] at h ⊢
   rw [hf.bw]
   split at h
   ·rename_i hc;rw [if_pos hc]
    obtain ⟨⟨b,r1⟩,e1,h⟩:=bind_some h
    have hga:=iR _ _ _ _ _ _ h hg
    simp only [dn,aO] at hga
    have hga:=aS hga
    simp only [aX,Bool.and_eq_true] at hga
    rw [ax (ih _ _ _ _ _ e1 trivial hga.2)]
    exact ih _ _ _ _ _ h trivial hg
   ·rename_i hc;rw [if_neg hc];cases h;rfl
  | atom pat=>
   simp only [P] at h ⊢
   rw [hf.bw]
   split at h
   ·rename_i hc;rw [if_pos hc]
    have h0:=ju hc
    rw [hf.nx r h0,hf.bN (s:=cy) (by decide),hf.bN (s:=jb) (by decide)]
    split at h
    ·cases h
     rw [aO] at hg
     exact absurd hg (by simp [cI])
    rename_i hc;rw [if_neg hc]
    split at h
    ·rename_i hc;rw [if_pos hc];exact ih _ _ _ _ _ h h0 hg
    rename_i hc;rw [if_neg hc]
    split at h
    ·rename_i hc;rw [if_pos hc];exact ih _ _ _ _ _ h h0 hg
    ·rename_i hc;rw [if_neg hc]
     cases h
     rw [hf.tr r h0,hf.tk r h0]
   ·cases h;rw [aO,kZ] at hg;cases hg
  | closed list pat=>
   have h0:(nx r).1≠0:=ha
   simp only [P] at h ⊢
   rw [hf.tr r h0,hf.tk r h0]
   by_cases hz:(nx (aJ r)).1=0
   ·rw [nU hz] at h
    simp only [Bool.false_eq_true,if_false] at h
    obtain ⟨⟨a,r2⟩,e1,h⟩:=bind_some h
    obtain ⟨⟨bs,r3⟩,e2,h⟩:=bind_some h
    cases h
    rw [aO] at hg
    have hg:=aS hg
    simp only [aW,aX,Bool.and_eq_true,Bool.and_true] at hg
    exact absurd hg.1.1.2 (by rw [zy hz e1];simp)
   rw [hf.QX (s:=gG list) hz]
   split at h
   ·rename_i hc;rw [if_pos hc]
    cases h
    rw [hf.tk _ (dS hc),hf.tr _ (dS hc)]
   ·rename_i hc;rw [if_neg hc]
    obtain ⟨⟨a,r2⟩,e1,h⟩:=bind_some h
    obtain ⟨⟨bs,r3⟩,e2,h⟩:=bind_some h
    cases h
    rw [aO] at hg
    have hg:=aS hg
    simp only [aW,aX,Bool.and_eq_true,Bool.and_true] at hg
    obtain ⟨n1,n2⟩:=mJ hg.2
    rw [ax (ih _ _ _ _ _ e1 (by cases pat <;> trivial) hg.1.1.2)]
    dsimp only
    rw [ax (ih _ _ _ _ _ e2 trivial hg.1.2)]
    dsimp only
    rw [n1,n2]
  | items list pat=>
   simp only [P] at h ⊢
   rw [hf.bN (s:=tu list) (by cases list <;> decide)]
   split at h
   ·rename_i hc;rw [if_pos hc]
    have h0:=dS hc
    obtain ⟨⟨a,r2⟩,e1,h⟩:=bind_some h
    obtain ⟨⟨bs,r3⟩,e2,h⟩:=bind_some h
    cases h
    simp only [aW,aX,List.cons_append,Bool.and_eq_true] at hg
    rw [hf.tr r h0,hf.tk r h0,ax (ih _ _ _ _ _ e1 (by cases pat <;> trivial) hg.2.1)]
    dsimp only
    rw [ax (ih _ _ _ _ _ e2 trivial hg.2.2)]
   ·rename_i hc;rw [if_neg hc];cases h;rfl
  | pattern=>
   simp only [P] at h ⊢
   split at h
   ·cases h;rw [aO,dQ] at hg;cases hg
   ·rename_i hc;rw [if_neg hc]
    obtain ⟨⟨a,r1⟩,e1,h⟩:=bind_some h
    dsimp only at h
    split at h
    ·rename_i hc
     obtain ⟨⟨b,r2⟩,e2,h⟩:=bind_some h
     cases h
     rw [aO] at hg
     have hg:=aS hg
     simp only [aW,aX,Bool.and_eq_true] at hg
     have h0:=dS hc
     rw [ax (ih _ _ _ _ _ e1 trivial hg.1)]
     dsimp only
     rw [hf.bN (s:=uG) (by decide),if_pos hc,hf.tr r1 h0,hf.tk r1 h0,ax (ih _ _ _ _ _ e2 trivial hg.2.2)]
    ·rename_i hc
     cases h
     rw [ax (ih _ _ _ _ _ e1 trivial hg)]
     dsimp only
     rw [hf.bN (s:=uG) (by decide),if_neg hc]
  | binding=>
   simp only [P] at h ⊢
   rw [hf.bN (s:=dh) (by decide)]
   have k0:(if bN dh r=true then aJ (f r) else f r)=f (if bN dh r=true then aJ r else r):=by
    split
    ·rename_i hc;exact hf.tr r (dS hc)
    ·rfl
   have k1:(if bN dh r=true then [aN (f r)] else [])=(if bN dh r=true then [aN r] else []):=by
    split
    ·rename_i hc;rw [hf.tk r (dS hc)]
    ·rfl
   rw [k0,k1]
   generalize (if bN dh r=true then [aN r] else [])=rc at h ⊢
   generalize (if bN dh r=true then aJ r else r)=r0 at h ⊢
   have k4:((nx (f r0)).1=4)=((nx r0).1=4):=by
    by_cases h0:(nx r0).1=0
    ·rw [hf.nd r0 h0,h0];simp
    ·rw [hf.nx r0 h0]
   simp only [k4]
   split at h
   ·rename_i hc;rw [if_pos hc]
    have h0:(nx r0).1≠0:=by omega
    obtain ⟨⟨xs,r1⟩,e1,h⟩:=bind_some h
    obtain ⟨⟨ps,r3⟩,e3,e1⟩:=bind_some e1
    cases e1
    obtain ⟨⟨es,r2⟩,e2,h⟩:=bind_some h
    cases h
    simp only [aW,aX,Bool.and_eq_true,Bool.and_true] at hg
    obtain ⟨n1,n2⟩:=mJ hg.1.2
    rw [hf.tr r0 h0,hf.tk r0 h0,ax (ih _ _ _ _ _ e3 trivial hg.1.1.2.2)]
    show (P n .expr d (aT iw (f r3)) >>= _)= _
    rw [n2,ax (ih _ _ _ _ _ e2 trivial hg.2)]
    dsimp only
    rw [n1]
   ·rename_i hc;rw [if_neg hc]
    obtain ⟨⟨xs,r1⟩,e1,h⟩:=bind_some h
    obtain ⟨⟨es,r2⟩,e2,h⟩:=bind_some h
    cases h
    simp only [aW,aX,Bool.and_eq_true,Bool.and_true] at hg
    obtain ⟨n1,n2⟩:=mJ hg.1.2
    rw [ax (ih _ _ _ _ _ e1 trivial hg.1.1.2)]
    dsimp only
    rw [n2,ax (ih _ _ _ _ _ e2 trivial hg.2),n1]
  | params=>
   simp only [P] at h ⊢
   rw [hf.bw]
   split at h
   ·rename_i hc;rw [if_pos hc]
    obtain ⟨⟨a,r1⟩,e1,h⟩:=bind_some h
    obtain ⟨⟨bs,r2⟩,e2,h⟩:=bind_some h
    cases h
    simp only [aW,Bool.and_eq_true] at hg
    rw [ax (ih _ _ _ _ _ e1 trivial hg.1)]
    dsimp only
    rw [ax (ih _ _ _ _ _ e2 trivial hg.2)]
   ·rename_i hc;rw [if_neg hc];cases h;rfl
  | arm=>
   simp only [P] at h ⊢
   obtain ⟨⟨a,r1⟩,e1,h⟩:=bind_some h
   obtain ⟨⟨es,r2⟩,e2,h⟩:=bind_some h
   cases h
   rw [aO] at hg
   have hg:=aS hg
   simp only [aW,aX,Bool.and_eq_true,Bool.and_true] at hg
   obtain ⟨n1,n2⟩:=mJ hg.1.2
   rw [ax (ih _ _ _ _ _ e1 trivial hg.1.1)]
   dsimp only
   rw [n2,ax (ih _ _ _ _ _ e2 trivial hg.2),n1]
  | arms=>
   simp only [P] at h ⊢
   rw [hf.bN (s:=gB) (by decide)]
   split at h
   ·rename_i hc;rw [if_pos hc]
    have h0:=dS hc
    obtain ⟨⟨a,r1⟩,e1,h⟩:=bind_some h
    obtain ⟨⟨bs,r2⟩,e2,h⟩:=bind_some h
    cases h
    simp only [aW,aX,List.cons_append,Bool.and_eq_true] at hg
    rw [hf.tr r h0,hf.tk r h0,ax (ih _ _ _ _ _ e1 trivial hg.2.1)]
    dsimp only
    rw [ax (ih _ _ _ _ _ e2 trivial hg.2.2)]
   ·rename_i hc;rw [if_neg hc];cases h;rfl
def OP (c:UInt8):Bool:=c==40||(c==91||(c==45||(c==58||(c==102||(c==116||(c==110||c==104))))))
def wB:List UInt8→Nat
 | []=>0
 | c::s=>(if OP c=true then 1 else 0)+wB s
def mO:List aQ→Nat
 | []=>0
 | t::r=>wB t.2+mO r
theorem C8 (p:aQ→Bool): ∀(r:List aQ),mO (r.dropWhile p)≤mO r
 | []=>Nat.le_refl _
 | t::r=>by
  rw [List.dropWhile_cons]
  split
  ·have:=C8 p r
   simp only [mO];omega
  ·exact Nat.le_refl _
theorem x8 (r:List aQ):mO (aJ r)+wB (nx r).2≤mO r:=by
 have:=C8 aZ r
 unfold aJ nx
 cases h:r.dropWhile aZ with
 | nil=>simp only [List.drop_nil,mO,wB];omega
 | cons t l=>rw [h] at this;simp only [mO,List.drop_succ_cons,List.drop_zero] at this ⊢;omega
theorem pn (r:List aQ):mO (aJ r)≤mO r:=by have:=x8 r;omega
theorem Ew {s:List UInt8} {r:List aQ} (h:bN s r=true):mO (aJ r)+wB s≤mO r:=by
 have:=x8 r
 unfold bN at h
 simp only [Bool.and_eq_true,beq_iff_eq] at h
 rw [h.2] at this
 exact this
theorem PV {ss:List (List UInt8)} {r:List aQ} (h:isAny ss r=true) {k:Nat} (hk: ∀s∈ss,k≤wB s):mO (aJ r)+k≤mO r:=by
 have:=x8 r
 unfold isAny at h
 simp only [Bool.and_eq_true,List.any_eq_true,beq_iff_eq] at h
 obtain ⟨_,s,hs,e⟩:=h
 have h2:=hk s hs
 rw [e] at h2
 omega
theorem oC (s:List UInt8) (r:List aQ):mO (aT s r)≤mO r:=by
 unfold aT
 split
 ·exact pn r
 ·exact Nat.le_refl _
theorem oZ {N:Nat} {job:gX} {d:Nat} {r:List aQ} {l:List T} {r':List aQ} (h:P N job d r=some (l,r')):mO r'≤mO r:=
 zj (Q:=fun q=>mO q≤mO r) (fun q hq=>Nat.le_trans (pn q) hq) N job d r l r' h (Nat.le_refl _)
def cJ:gX→Nat
 | .expr | .pattern | .items _ _ | .binding | .arm | .arms=>1
 | _=>0
def PX:gX→List aQ→Prop
 | .closed _ _,r=>bN cy r=true∨bN jb r=true
 | _,_=>True
theorem HE (b:Bool):cJ (if b then gX.pattern else .expr)=1:=by cases b <;> rfl
theorem BI (b:Bool) (r:List aQ):PX (if b then gX.pattern else .expr) r:=by cases b <;> exact trivial
theorem JM: ∀(N:Nat) (job:gX) (d:Nat) (r:List aQ) (l:List T) (r':List aQ),P N job d r=some (l,r')→PX job r→aX l=true→d+mO r+cJ job≤63+mO r'→P N job (d+1) r=some (l,r'):=by
 intro N
 induction N with
 | zero=>intro job d r l r' h;cases h
 | succ n ih=>
  intro job d r l r' h ha hg hw
  have hmono:=oZ h
  cases job with
  | expr=>
   simp only [cJ] at hw
   simp only [P] at h ⊢
   split at h
   ·cases h;rw [aO,dQ] at hg;cases hg
   ·rw [if_neg (by omega)]
    exact ih _ _ _ _ _ h trivial hg (by dsimp only [cJ] at *;omega)
  | whole=>
   simp only [cJ] at hw
   simp only [P] at h ⊢
   split at h
   ·rename_i hc;rw [if_pos hc]
    have w0:=Ew hc
    have:wB fE=1:=by decide
    obtain ⟨⟨bs,r2⟩,e1,h⟩:=bind_some h
    obtain ⟨⟨es,r3⟩,e2,h⟩:=bind_some h
    cases h
    rw [aO] at hg
    have hg:=aS hg
    simp only [aW,aX,Bool.and_eq_true,Bool.and_true] at hg
    have w1:=oZ e1
    have w2:=oZ e2
    have w3:=oC JR r2
    rw [ax (ih _ _ _ _ _ e1 trivial hg.1.1.2 (by dsimp only [cJ] at *;omega))]
    dsimp only
    rw [ax (ih _ _ _ _ _ e2 trivial hg.2 (by dsimp only [cJ] at *;omega))]
   rename_i hc;rw [if_neg hc]
   split at h
   ·rename_i hc;rw [if_pos hc]
    have w0:=Ew hc
    have:wB Ep=2:=by decide
    obtain ⟨⟨a,r1⟩,e1,h⟩:=bind_some h
    obtain ⟨⟨ps,r2⟩,e2,h⟩:=bind_some h
    obtain ⟨⟨es,r3⟩,e3,h⟩:=bind_some h
    cases h
    rw [aO] at hg
    have hg:=aS hg
    simp only [aW,aX,Bool.and_eq_true,Bool.and_true] at hg
    have w1:=oZ e1
    have w2:=oZ e2
    have w3:=oZ e3
    have w4:=oC fG r2
    rw [ax (ih _ _ _ _ _ e1 trivial hg.1.1.1.2 (by dsimp only [cJ] at *;omega))]
    dsimp only
    rw [ax (ih _ _ _ _ _ e2 trivial hg.1.1.2 (by dsimp only [cJ] at *;omega))]
    dsimp only
    rw [ax (ih _ _ _ _ _ e3 trivial hg.2 (by dsimp only [cJ] at *;omega))]
   rename_i hc;rw [if_neg hc]
   split at h
   ·rename_i hc;rw [if_pos hc]
    have w0:=Ew hc
    have:wB Ou=1:=by decide
    obtain ⟨⟨a,r1⟩,e1,h⟩:=bind_some h
    obtain ⟨⟨b,r2⟩,e2,h⟩:=bind_some h
    obtain ⟨⟨c,r3⟩,e3,h⟩:=bind_some h
    cases h
    rw [aO] at hg
    have hg:=aS hg
    simp only [aW,aX,Bool.and_eq_true,Bool.and_true] at hg
    have w1:=oZ e1
    have w2:=oZ e2
    have w3:=oZ e3
    have w4:=oC ri r1
    have w5:=oC qO r2
    rw [ax (ih _ _ _ _ _ e1 trivial hg.1.1.1.1.2 (by dsimp only [cJ] at *;omega))]
    dsimp only
    rw [ax (ih _ _ _ _ _ e2 trivial hg.1.1.2 (by dsimp only [cJ] at *;omega))]
    dsimp only
    rw [ax (ih _ _ _ _ _ e3 trivial hg.2 (by dsimp only [cJ] at *;omega))]
   rename_i hc;rw [if_neg hc]
   split at h
   ·rename_i hc;rw [if_pos hc]
    have w0:=Ew hc
    have:wB rM=2:=by decide
    obtain ⟨⟨a,r1⟩,e1,h⟩:=bind_some h
    obtain ⟨⟨b,r3⟩,e2,h⟩:=bind_some h
    obtain ⟨⟨cs,r4⟩,e3,h⟩:=bind_some h
    cases h
    rw [aO] at hg
    have hg:=aS hg
    simp only [aW,aX,Bool.and_eq_true,Bool.and_true] at hg
    have w1:=oZ e1
    have w2:=oZ e2
    have w3:=oZ e3
    have w4:=oC bp r1
    have w5:mO (if bN gB (aT bp r1)=true then aJ (aT bp r1) else aT bp r1)≤mO (aT bp r1):=by
     split
     ·exact pn _
     ·exact Nat.le_refl _
    rw [ax (ih _ _ _ _ _ e1 trivial hg.1.1.1.1.2 (by dsimp only [cJ] at *;omega))]
    dsimp only
    rw [ax (ih _ _ _ _ _ e2 trivial hg.1.2 (by dsimp only [cJ] at *;omega))]
    dsimp only
    rw [ax (ih _ _ _ _ _ e3 trivial hg.2 (by dsimp only [cJ] at *;omega))]
   rename_i hc;rw [if_neg hc]
   exact ih _ _ _ _ _ h trivial hg (by dsimp only [cJ] at *;omega)
  | level k=>
   simp only [cJ] at hw
   simp only [P] at h ⊢
   split at h
   ·rename_i hc;rw [if_pos hc];exact ih _ _ _ _ _ h trivial hg (by dsimp only [cJ] at *;omega)
   ·rename_i hc;rw [if_neg hc]
    obtain ⟨⟨a,r1⟩,e1,h⟩:=bind_some h
    dsimp only at h
    have w1:=oZ e1
    split at h
    ·have hga:=iR _ _ _ _ _ _ h hg
     have w2:=oZ h
     rw [ax (ih _ _ _ _ _ e1 trivial hga (by dsimp only [cJ] at *;omega))]
     exact ih _ _ _ _ _ h trivial hg (by dsimp only [cJ] at *;omega)
    ·cases h
  | ops k acc=>
   simp only [cJ] at hw
   simp only [P] at h ⊢
   split at h
   ·rename_i hc;rw [if_pos hc]
    obtain ⟨⟨b,r1⟩,e1,h⟩:=bind_some h
    have hga:=iR _ _ _ _ _ _ h hg
    simp only [dn,aO] at hga
    have hga:=aS hga
    simp only [aX,Bool.and_eq_true] at hga
    have w0:=pn r
    have w1:=oZ e1
    have w2:=oZ h
    rw [ax (ih _ _ _ _ _ e1 trivial hga.2.2 (by dsimp only [cJ] at *;omega))]
    exact ih _ _ _ _ _ h trivial hg (by dsimp only [cJ] at *;omega)
   ·rename_i hc;rw [if_neg hc];cases h;rfl
  | neg=>
   simp only [cJ] at hw
   simp only [P] at h ⊢
   split at h
   ·rename_i hc;rw [if_pos hc]
    have w0:=PV hc (k:=1) (by decide)
    split at h
    ·cases h
     rw [aO] at hg
     have hg:=aS hg
     simp only [aX,Bool.and_eq_true,Bool.and_true,dQ] at hg
     exact absurd hg.2 (by simp)
    ·obtain ⟨⟨a,r1⟩,e1,h⟩:=bind_some h
     cases h
     rw [aO] at hg
     have hg:=aS hg
     simp only [aX,Bool.and_eq_true] at hg
     have w1:=oZ e1
     rw [if_neg (by dsimp only at *;omega),ax (ih _ _ _ _ _ e1 trivial hg.2 (by dsimp only [cJ] at *;omega))]
   ·rename_i hc;rw [if_neg hc]
    obtain ⟨⟨a,r1⟩,e1,h⟩:=bind_some h
    dsimp only at h
    have w1:=oZ e1
    split at h
    ·have hga:=iR _ _ _ _ _ _ h hg
     have w2:=oZ h
     rw [ax (ih _ _ _ _ _ e1 trivial hga (by dsimp only [cJ] at *;omega))]
     exact ih _ _ _ _ _ h trivial hg (by dsimp only [cJ] at *;omega)
    ·cases h
  | args acc=>
   simp only [cJ] at hw
   simp only [P] at h ⊢
   split at h
   ·rename_i hc;rw [if_pos hc]
    obtain ⟨⟨b,r1⟩,e1,h⟩:=bind_some h
    have hga:=iR _ _ _ _ _ _ h hg
    simp only [dn,aO] at hga
    have hga:=aS hga
    simp only [aX,Bool.and_eq_true] at hga
    have w1:=oZ e1
    have w2:=oZ h
    rw [ax (ih _ _ _ _ _ e1 trivial hga.2 (by dsimp only [cJ] at *;omega))]
    exact ih _ _ _ _ _ h trivial hg (by dsimp only [cJ] at *;omega)
   ·rename_i hc;rw [if_neg hc];cases h;rfl
  | atom pat=>
   simp only [cJ] at hw
   simp only [P] at h ⊢
   split at h
   ·rename_i hc;rw [if_pos hc]
    split at h
    ·cases h
     rw [aO] at hg
     exact absurd hg (by simp [cI])
    rename_i hc;rw [if_neg hc]
    split at h
    ·rename_i hc;rw [if_pos hc];exact ih _ _ _ _ _ h (.inl hc) hg (by dsimp only [cJ] at *;omega)
    rename_i hc;rw [if_neg hc]
    split at h
    ·rename_i hc;rw [if_pos hc];exact ih _ _ _ _ _ h (.inr hc) hg (by dsimp only [cJ] at *;omega)
    ·rename_i hc;rw [if_neg hc];exact h
   ·rename_i hc;rw [if_neg hc];exact h
  | closed list pat=>
   simp only [cJ] at hw
   have w0:mO (aJ r)+1≤mO r:=by
    rcases ha with ha | ha
    ·exact Ew ha
    ·exact Ew ha
   simp only [P] at h ⊢
   split at h
   ·rename_i hc;rw [if_pos hc];exact h
   ·rename_i hc;rw [if_neg hc]
    obtain ⟨⟨a,r2⟩,e1,h⟩:=bind_some h
    obtain ⟨⟨bs,r3⟩,e2,h⟩:=bind_some h
    cases h
    rw [aO] at hg
    have hg:=aS hg
    simp only [aW,aX,Bool.and_eq_true,Bool.and_true] at hg
    have w1:=oZ e1
    have w2:=oZ e2
    have w3:=oC (gG list) r3
    rw [ax (ih _ _ _ _ _ e1 (BI _ _) hg.1.1.2 (by rw [HE];dsimp only at *;omega))]
    dsimp only
    rw [ax (ih _ _ _ _ _ e2 trivial hg.1.2 (by dsimp only [cJ] at *;omega))]
  | items list pat=>
   simp only [cJ] at hw
   simp only [P] at h ⊢
   split at h
   ·rename_i hc;rw [if_pos hc]
    obtain ⟨⟨a,r2⟩,e1,h⟩:=bind_some h
    obtain ⟨⟨bs,r3⟩,e2,h⟩:=bind_some h
    cases h
    simp only [aW,aX,List.cons_append,Bool.and_eq_true] at hg
    have w0:=pn r
    have w1:=oZ e1
    have w2:=oZ e2
    rw [ax (ih _ _ _ _ _ e1 (BI _ _) hg.2.1 (by rw [HE];dsimp only at *;omega))]
    dsimp only
    rw [ax (ih _ _ _ _ _ e2 trivial hg.2.2 (by dsimp only [cJ] at *;omega))]
   ·rename_i hc;rw [if_neg hc];cases h;rfl
  | pattern=>
   simp only [cJ] at hw
   simp only [P] at h ⊢
   split at h
   ·cases h;rw [aO,dQ] at hg;cases hg
   ·rw [if_neg (by omega)]
    obtain ⟨⟨a,r1⟩,e1,h⟩:=bind_some h
    dsimp only at h
    have w1:=oZ e1
    split at h
    ·rename_i hc
     have w0:=Ew hc
     have:wB uG=2:=by decide
     obtain ⟨⟨b,r2⟩,e2,h⟩:=bind_some h
     cases h
     rw [aO] at hg
     have hg:=aS hg
     simp only [aW,aX,Bool.and_eq_true] at hg
     have w2:=oZ e2
     rw [ax (ih _ _ _ _ _ e1 trivial hg.1 (by dsimp only [cJ] at *;omega))]
     dsimp only
     rw [if_pos hc,ax (ih _ _ _ _ _ e2 trivial hg.2.2 (by dsimp only [cJ] at *;omega))]
    ·rename_i hc
     cases h
     rw [ax (ih _ _ _ _ _ e1 trivial hg (by dsimp only [cJ] at *;omega))]
     dsimp only
     rw [if_neg hc]
  | binding=>
   simp only [cJ] at hw
   simp only [P] at h ⊢
   have w0:mO (if bN dh r=true then aJ r else r)≤mO r:=by
    split
    ·exact pn r
    ·exact Nat.le_refl _
   generalize (if bN dh r=true then [aN r] else [])=rc at h ⊢
   generalize (if bN dh r=true then aJ r else r)=r0 at h w0 ⊢
   split at h
   ·rename_i hc;rw [if_pos hc]
    obtain ⟨⟨xs,r1⟩,e1,h⟩:=bind_some h
    obtain ⟨⟨ps,r3⟩,e3,e1⟩:=bind_some e1
    cases e1
    obtain ⟨⟨es,r2⟩,e2,h⟩:=bind_some h
    cases h
    simp only [aW,aX,Bool.and_eq_true,Bool.and_true] at hg
    have w1:=pn r0
    have w2:=oZ e3
    have w3:=oZ e2
    have w4:=oC iw r3
    rw [ax (ih _ _ _ _ _ e3 trivial hg.1.1.2.2 (by dsimp only [cJ] at *;omega))]
    show (P n .expr (d+1) (aT iw r3) >>= _)= _
    rw [ax (ih _ _ _ _ _ e2 trivial hg.2 (by dsimp only [cJ] at *;omega))]
   ·rename_i hc;rw [if_neg hc]
    obtain ⟨⟨xs,r1⟩,e1,h⟩:=bind_some h
    obtain ⟨⟨es,r2⟩,e2,h⟩:=bind_some h
    cases h
    simp only [aW,aX,Bool.and_eq_true,Bool.and_true] at hg
    have w2:=oZ e1
    have w3:=oZ e2
    have w4:=oC iw r1
    rw [ax (ih _ _ _ _ _ e1 trivial hg.1.1.2 (by dsimp only [cJ] at *;omega))]
    dsimp only
    rw [ax (ih _ _ _ _ _ e2 trivial hg.2 (by dsimp only [cJ] at *;omega))]
  | params=>
   simp only [cJ] at hw
   simp only [P] at h ⊢
   split at h
   ·rename_i hc;rw [if_pos hc]
    obtain ⟨⟨a,r1⟩,e1,h⟩:=bind_some h
    obtain ⟨⟨bs,r2⟩,e2,h⟩:=bind_some h
    cases h
    simp only [aW,Bool.and_eq_true] at hg
    have w1:=oZ e1
    have w2:=oZ e2
    rw [ax (ih _ _ _ _ _ e1 trivial hg.1 (by dsimp only [cJ] at *;omega))]
    dsimp only
    rw [ax (ih _ _ _ _ _ e2 trivial hg.2 (by dsimp only [cJ] at *;omega))]
   ·rename_i hc;rw [if_neg hc];cases h;rfl
  | arm=>
   simp only [cJ] at hw
   simp only [P] at h ⊢
   obtain ⟨⟨a,r1⟩,e1,h⟩:=bind_some h
   obtain ⟨⟨es,r2⟩,e2,h⟩:=bind_some h
   cases h
   rw [aO] at hg
   have hg:=aS hg
   simp only [aW,aX,Bool.and_eq_true,Bool.and_true] at hg
   have w1:=oZ e1
   have w2:=oZ e2
   have w3:=oC fG r1
   rw [ax (ih _ _ _ _ _ e1 trivial hg.1.1 (by dsimp only [cJ] at *;omega))]
   dsimp only
   rw [ax (ih _ _ _ _ _ e2 trivial hg.2 (by dsimp only [cJ] at *;omega))]
  | arms=>
   simp only [cJ] at hw
   simp only [P] at h ⊢
   split at h
   ·rename_i hc;rw [if_pos hc]
    obtain ⟨⟨a,r1⟩,e1,h⟩:=bind_some h
    obtain ⟨⟨bs,r2⟩,e2,h⟩:=bind_some h
    cases h
    simp only [aW,aX,List.cons_append,Bool.and_eq_true] at hg
    have w0:=pn r
    have w1:=oZ e1
    have w2:=oZ e2
    rw [ax (ih _ _ _ _ _ e1 trivial hg.2.1 (by dsimp only [cJ] at *;omega))]
    dsimp only
    rw [ax (ih _ _ _ _ _ e2 trivial hg.2.2 (by dsimp only [cJ] at *;omega))]
   ·rename_i hc;rw [if_neg hc];cases h;rfl
theorem Hk: ∀(N:Nat) (job:gX) (d:Nat) (r:List aQ) (l:List T) (r':List aQ),P N job (d+1) r=some (l,r')→d+1≤64→aX l=true→P N job d r=some (l,r'):=by
 intro N
 induction N with
 | zero=>intro job d r l r' h;cases h
 | succ n ih=>
  intro job d r l r' h hd hg
  cases job with
  | expr=>
   simp only [P] at h ⊢
   split at h
   ·cases h;rw [aO,dQ] at hg;cases hg
   ·rw [if_neg (by omega)]
    exact ih _ _ _ _ _ h (by omega) hg
  | whole=>
   simp only [P] at h ⊢
   split at h
   ·rename_i hc;rw [if_pos hc]
    obtain ⟨⟨bs,r2⟩,e1,h⟩:=bind_some h
    obtain ⟨⟨es,r3⟩,e2,h⟩:=bind_some h
    cases h
    rw [aO] at hg
    have hg:=aS hg
    simp only [aW,aX,Bool.and_eq_true,Bool.and_true] at hg
    rw [ax (ih _ _ _ _ _ e1 (by omega) hg.1.1.2)]
    dsimp only
    rw [ax (ih _ _ _ _ _ e2 (by omega) hg.2)]
   rename_i hc;rw [if_neg hc]
   split at h
   ·rename_i hc;rw [if_pos hc]
    obtain ⟨⟨a,r1⟩,e1,h⟩:=bind_some h
    obtain ⟨⟨ps,r2⟩,e2,h⟩:=bind_some h
    obtain ⟨⟨es,r3⟩,e3,h⟩:=bind_some h
    cases h
    rw [aO] at hg
    have hg:=aS hg
    simp only [aW,aX,Bool.and_eq_true,Bool.and_true] at hg
    rw [ax (ih _ _ _ _ _ e1 (by omega) hg.1.1.1.2)]
    dsimp only
    rw [ax (ih _ _ _ _ _ e2 (by omega) hg.1.1.2)]
    dsimp only
    rw [ax (ih _ _ _ _ _ e3 (by omega) hg.2)]
   rename_i hc;rw [if_neg hc]
   split at h
   ·rename_i hc;rw [if_pos hc]
    obtain ⟨⟨a,r1⟩,e1,h⟩:=bind_some h
    obtain ⟨⟨b,r2⟩,e2,h⟩:=bind_some h
    obtain ⟨⟨c,r3⟩,e3,h⟩:=bind_some h
    cases h
    rw [aO] at hg
    have hg:=aS hg
    simp only [aW,aX,Bool.and_eq_true,Bool.and_true] at hg
    rw [ax (ih _ _ _ _ _ e1 (by omega) hg.1.1.1.1.2)]
    dsimp only
    rw [ax (ih _ _ _ _ _ e2 (by omega) hg.1.1.2)]
    dsimp only
    rw [ax (ih _ _ _ _ _ e3 (by omega) hg.2)]
   rename_i hc;rw [if_neg hc]
   split at h
   ·rename_i hc;rw [if_pos hc]
    obtain ⟨⟨a,r1⟩,e1,h⟩:=bind_some h
    obtain ⟨⟨b,r3⟩,e2,h⟩:=bind_some h
    obtain ⟨⟨cs,r4⟩,e3,h⟩:=bind_some h
    cases h
    rw [aO] at hg
    have hg:=aS hg
    simp only [aW,aX,Bool.and_eq_true,Bool.and_true] at hg
    rw [ax (ih _ _ _ _ _ e1 (by omega) hg.1.1.1.1.2)]
    dsimp only
    rw [ax (ih _ _ _ _ _ e2 (by omega) hg.1.2)]
    dsimp only
    rw [ax (ih _ _ _ _ _ e3 (by omega) hg.2)]
   rename_i hc;rw [if_neg hc]
   exact ih _ _ _ _ _ h (by omega) hg
  | level k=>
   simp only [P] at h ⊢
   split at h
   ·rename_i hc;rw [if_pos hc];exact ih _ _ _ _ _ h (by omega) hg
   ·rename_i hc;rw [if_neg hc]
    obtain ⟨⟨a,r1⟩,e1,h⟩:=bind_some h
    dsimp only at h
    split at h
    ·have hga:=iR _ _ _ _ _ _ h hg
     rw [ax (ih _ _ _ _ _ e1 (by omega) hga)]
     exact ih _ _ _ _ _ h (by omega) hg
    ·cases h
  | ops k acc=>
   simp only [P] at h ⊢
   split at h
   ·rename_i hc;rw [if_pos hc]
    obtain ⟨⟨b,r1⟩,e1,h⟩:=bind_some h
    have hga:=iR _ _ _ _ _ _ h hg
    simp only [dn,aO] at hga
    have hga:=aS hga
    simp only [aX,Bool.and_eq_true] at hga
    rw [ax (ih _ _ _ _ _ e1 (by omega) hga.2.2)]
    exact ih _ _ _ _ _ h (by omega) hg
   ·rename_i hc;rw [if_neg hc];cases h;rfl
  | neg=>
   simp only [P] at h ⊢
   split at h
   ·rename_i hc;rw [if_pos hc]
    split at h
    ·cases h
     rw [aO] at hg
     have hg:=aS hg
     simp only [aX,Bool.and_eq_true,Bool.and_true,dQ] at hg
     exact absurd hg.2 (by simp)
    ·obtain ⟨⟨a,r1⟩,e1,h⟩:=bind_some h
     cases h
     rw [aO] at hg
     have hg:=aS hg
     simp only [aX,Bool.and_eq_true] at hg
     rw [if_neg (by omega),ax (ih _ _ _ _ _ e1 (by omega) hg.2)]
   ·rename_i hc;rw [if_neg hc]
    obtain ⟨⟨a,r1⟩,e1,h⟩:=bind_some h
    dsimp only at h
    split at h
    ·have hga:=iR _ _ _ _ _ _ h hg
     rw [ax (ih _ _ _ _ _ e1 (by omega) hga)]
     exact ih _ _ _ _ _ h (by omega) hg
    ·cases h
  | args acc=>
   simp only [P] at h ⊢
   split at h
   ·rename_i hc;rw [if_pos hc]
    obtain ⟨⟨b,r1⟩,e1,h⟩:=bind_some h
    have hga:=iR _ _ _ _ _ _ h hg
    simp only [dn,aO] at hga
    have hga:=aS hga
    simp only [aX,Bool.and_eq_true] at hga
    rw [ax (ih _ _ _ _ _ e1 (by omega) hga.2)]
    exact ih _ _ _ _ _ h (by omega) hg
   ·rename_i hc;rw [if_neg hc];cases h;rfl
  | atom pat=>
   simp only [P] at h ⊢
   split at h
   ·rename_i hc;rw [if_pos hc]
    split at h
    ·cases h
     rw [aO] at hg
     exact absurd hg (by simp [cI])
    rename_i hc;rw [if_neg hc]
    split at h
    ·rename_i hc;rw [if_pos hc];exact ih _ _ _ _ _ h (by omega) hg
    rename_i hc;rw [if_neg hc]
    split at h
    ·rename_i hc;rw [if_pos hc];exact ih _ _ _ _ _ h (by omega) hg
    ·rename_i hc;rw [if_neg hc];exact h
   ·rename_i hc;rw [if_neg hc];exact h
  | closed list pat=>
   simp only [P] at h ⊢
   split at h
   ·rename_i hc;rw [if_pos hc];exact h
   ·rename_i hc;rw [if_neg hc]
    obtain ⟨⟨a,r2⟩,e1,h⟩:=bind_some h
    obtain ⟨⟨bs,r3⟩,e2,h⟩:=bind_some h
    cases h
    rw [aO] at hg
    have hg:=aS hg
    simp only [aW,aX,Bool.and_eq_true,Bool.and_true] at hg
    rw [ax (ih _ _ _ _ _ e1 (by omega) hg.1.1.2)]
    dsimp only
    rw [ax (ih _ _ _ _ _ e2 (by omega) hg.1.2)]
  | items list pat=>
   simp only [P] at h ⊢
   split at h
   ·rename_i hc;rw [if_pos hc]
    obtain ⟨⟨a,r2⟩,e1,h⟩:=bind_some h
    obtain ⟨⟨bs,r3⟩,e2,h⟩:=bind_some h
    cases h
    simp only [aW,aX,List.cons_append,Bool.and_eq_true] at hg
    rw [ax (ih _ _ _ _ _ e1 (by omega) hg.2.1)]
    dsimp only
    rw [ax (ih _ _ _ _ _ e2 (by omega) hg.2.2)]
   ·rename_i hc;rw [if_neg hc];cases h;rfl
  | pattern=>
   simp only [P] at h ⊢
   split at h
   ·cases h;rw [aO,dQ] at hg;cases hg
   ·rw [if_neg (by omega)]
    obtain ⟨⟨a,r1⟩,e1,h⟩:=bind_some h
    dsimp only at h
    split at h
    ·rename_i hc
     obtain ⟨⟨b,r2⟩,e2,h⟩:=bind_some h
     cases h
     rw [aO] at hg
     have hg:=aS hg
     simp only [aW,aX,Bool.and_eq_true] at hg
     rw [ax (ih _ _ _ _ _ e1 (by omega) hg.1)]
     dsimp only
     rw [if_pos hc,ax (ih _ _ _ _ _ e2 (by omega) hg.2.2)]
    ·rename_i hc
     cases h
     rw [ax (ih _ _ _ _ _ e1 (by omega) hg)]
     dsimp only
     rw [if_neg hc]
  | binding=>
   simp only [P] at h ⊢
   generalize (if bN dh r=true then [aN r] else [])=rc at h ⊢
   generalize (if bN dh r=true then aJ r else r)=r0 at h ⊢
   split at h
   ·rename_i hc;rw [if_pos hc]
    obtain ⟨⟨xs,r1⟩,e1,h⟩:=bind_some h
    obtain ⟨⟨ps,r3⟩,e3,e1⟩:=bind_some e1
    cases e1
    obtain ⟨⟨es,r2⟩,e2,h⟩:=bind_some h
    cases h
    simp only [aW,aX,Bool.and_eq_true,Bool.and_true] at hg
    rw [ax (ih _ _ _ _ _ e3 (by omega) hg.1.1.2.2)]
    show (P n .expr d (aT iw r3) >>= _)= _
    rw [ax (ih _ _ _ _ _ e2 (by omega) hg.2)]
   ·rename_i hc;rw [if_neg hc]
    obtain ⟨⟨xs,r1⟩,e1,h⟩:=bind_some h
    obtain ⟨⟨es,r2⟩,e2,h⟩:=bind_some h
    cases h
    simp only [aW,aX,Bool.and_eq_true,Bool.and_true] at hg
    rw [ax (ih _ _ _ _ _ e1 (by omega) hg.1.1.2)]
    dsimp only
    rw [ax (ih _ _ _ _ _ e2 (by omega) hg.2)]
  | params=>
   simp only [P] at h ⊢
   split at h
   ·rename_i hc;rw [if_pos hc]
    obtain ⟨⟨a,r1⟩,e1,h⟩:=bind_some h
    obtain ⟨⟨bs,r2⟩,e2,h⟩:=bind_some h
    cases h
    simp only [aW,Bool.and_eq_true] at hg
    rw [ax (ih _ _ _ _ _ e1 (by omega) hg.1)]
    dsimp only
    rw [ax (ih _ _ _ _ _ e2 (by omega) hg.2)]
   ·rename_i hc;rw [if_neg hc];cases h;rfl
  | arm=>
   simp only [P] at h ⊢
   obtain ⟨⟨a,r1⟩,e1,h⟩:=bind_some h
   obtain ⟨⟨es,r2⟩,e2,h⟩:=bind_some h
   cases h
   rw [aO] at hg
   have hg:=aS hg
   simp only [aW,aX,Bool.and_eq_true,Bool.and_true] at hg
   rw [ax (ih _ _ _ _ _ e1 (by omega) hg.1.1)]
   dsimp only
   rw [ax (ih _ _ _ _ _ e2 (by omega) hg.2)]
  | arms=>
   simp only [P] at h ⊢
   split at h
   ·rename_i hc;rw [if_pos hc]
    obtain ⟨⟨a,r1⟩,e1,h⟩:=bind_some h
    obtain ⟨⟨bs,r2⟩,e2,h⟩:=bind_some h
    cases h
    simp only [aW,aX,List.cons_append,Bool.and_eq_true] at hg
    rw [ax (ih _ _ _ _ _ e1 (by omega) hg.2.1)]
    dsimp only
    rw [ax (ih _ _ _ _ _ e2 (by omega) hg.2.2)]
   ·rename_i hc;rw [if_neg hc];cases h;rfl
theorem FI: ∀(n:Nat) (t:T),SizeOf.sizeOf t < n→cI t=true→JN t=[]
 | 0,_,h,_=>by omega
 | n+1,.mk k tk tx l,h,hg=>by
  simp only [cI,Bool.and_eq_true,bne_iff_ne,ne_eq,Bool.or_eq_true] at hg
  simp only [JN]
  have hk:¬ (k=1∧tk=9):=by
   rintro ⟨h1,h9⟩
   rcases hg.1.2 with h | h
   ·exact h h1
   ·exact h h9
  rw [if_neg hk,List.append_nil]
  have hl: ∀(m:List T),(∀u∈m,u∈l)→aX m=true→FY m=[]:=by
   intro m
   induction m with
   | nil=>intro _ _;simp [FY]
   | cons u m ih=>
    intro hm hg
    simp only [aX,Bool.and_eq_true] at hg
    have hu:=FI n u (by
     have:=List.sizeOf_lt_of_mem (hm u List.mem_cons_self)
     simp only [T.mk.sizeOf_spec] at h
     omega) hg.1
    simp only [FY]
    rw [hu,ih (fun v hv=>hm v (List.mem_cons_of_mem _ hv)) hg.2]
    rfl
  exact hl l (fun u hu=>hu) hg.2
theorem Er (t:List UInt8):tokens (fE++t)=(nA ((fE++t).takeWhile gT),(fE++t).takeWhile gT)::tokens ((fE++t).drop (wh gT (fE++t))):=by
 have hc:cut (108::([101,116]++t))=(nA ((108::([101,116]++t)).takeWhile gT),wh gT (108::([101,116]++t))):=by
  unfold cut
  dsimp only
  rw [if_neg (by decide),if_neg (by simp),if_pos (by decide)]
 show tokens (108::([101,116]++t))= _
 rw [gE,hc]
 dsimp only
 rw [qx]
 rfl
end Go.Parse
