/-
  (A part of the proof: AstN, AstArg.)
-/
import Derived.Test.YtmngkfmgnkeclaaGreatDoorVmCD
import Derived.Test.YtmngkfmgnkeclaaGreatDoorVmBG
import Derived.Test.YtmngkfmgnkeclaaGreatDoorVmCC
import Derived.Test.YtmngkfmgnkeclaaGreatDoorVmBJ
set_option maxRecDepth 1000000
set_option linter.unusedSimpArgs false
namespace Go.Proofs.YtmngkfmgnkeclaaGreatDoor.Vm
open Go Go.VM Go.Proofs Go.Lex Go.Parse Go.Scope Go.Ast
theorem mA (c d:UInt8):(((c.toNat:Nat):Int)==((d.toNat:Nat):Int))=(c==d):=by
 by_cases h:c=d
 ·rw [h];simp
 ·rw [beq_eq_false_iff_ne.2 h,beq_eq_false_iff_ne.2 (jG h)]
theorem P4 (b c:Bool):bI b (some ([AV.bool true],S0)) (some ([AV.bool c],S0))=some ([AV.bool (b||c)],S0):=by cases b <;> rfl
theorem Km {s:List UInt8} {i:Nat} (h:i < s.length):wB (s.take (i+1))=wB (s.take i)+if OP s[i]=true then 1 else 0:=by
 have key: ∀(l:List UInt8) (c:UInt8),wB (l++[c])=wB l+if OP c=true then 1 else 0:=fun l c=>by
  induction l with
  | nil=>simp [wB]
  | cons a l ih=>simp only [List.cons_append,wB,ih];omega
 rw [jy h,key]
theorem KH (s:List UInt8) (hl:s.length≤1000000):(aG vE).bare 6 [.str s]=some (.bool (decide (50 < wB s))):=by
 have hw: ∀l:List UInt8,wB l≤l.length:=fun l=>by
  induction l with
  | nil=>exact Nat.le_refl _
  | cons a l ih=>simp only [wB,List.length_cons];split <;> omega
 refine br rfl (ad.eq (ad.step (Pw _) ?_))
 unfold g6
 refine ad.step (az _ _) (ad.bind (R:=fun c=>c=(0,[.int .i64 (wB s:Int)],S0)) (ad.upto (n:=s.length) (I:=fun i c=>c=([.int .i64 (wB (s.take i):Int),.int .i64 (i:Int)],S0)) ?_ ?_ s.length 0 _ (by omega) rfl) ?_)
 ·rintro i c hi rfl
  have hg:s[i]? =some s[i]:=List.getElem?_eq_getElem hi
  have hwi:=hw (s.take i)
  rw [List.length_take] at hwi
  simp only [Jw,ag,aj,ah,aF,if_pos (show (i:Int) < (s.length:Int) by omega)]
  rw [Km hi]
  generalize hc:s[i]=c at *
  refine ad.bind (R:=fun r=>r=([.bool (OP c)],S0)) ?_ ?_
  ·have b1:(((c.toNat:Nat):Int)==40)=(c==40):=mA c 40
   have b2:(((c.toNat:Nat):Int)==91)=(c==91):=mA c 91
   have b3:(((c.toNat:Nat):Int)==45)=(c==45):=mA c 45
   have b4:(((c.toNat:Nat):Int)==58)=(c==58):=mA c 58
   have b5:(((c.toNat:Nat):Int)==102)=(c==102):=mA c 102
   have b6:(((c.toNat:Nat):Int)==116)=(c==116):=mA c 116
   have b7:(((c.toNat:Nat):Int)==110)=(c==110):=mA c 110
   have b8:(((c.toNat:Nat):Int)==104)=(c==104):=mA c 104
   simp only [gM hg,b1,b2,b3,b4,b5,b6,b7,b8,OP]
   simp only [P4]
   exact ad.some rfl
  ·rintro r rfl
   simp only [ag,aC,ah]
   refine ad.bind (R:=fun r=>r=([.int .i64 ((wB (s.take i)+if OP c=true then 1 else 0:Nat):Int)],S0)) ?_ ?_
   ·cases OP c with
    | true=>
     refine ad.step (aH _ _) ?_
     simp only [aY,cH (show wB (s.take i)+1≤9223372036854775807 by omega)]
     exact ad.some rfl
    | false=>exact ad.step (aB _ _) (ad.some rfl)
   ·rintro r rfl
    simp only [ag,aj,ah,aY,cH (show i+1≤9223372036854775807 by omega)]
    exact ad.inl rfl
 ·rintro c rfl
  simp only [Jw,ag,aj,ah,aF,if_neg (show ¬ ((s.length:Nat):Int) < (s.length:Int) by omega),List.take_length]
  exact ad.inr rfl
 ·rintro c rfl
  simp only [ag,aj,ah]
  refine ad.some ?_
  have:decide ((wB s:Int) > 50)=decide (50 < wB s):=by
   by_cases h:50 < wB s
   ·rw [decide_eq_true h,decide_eq_true (show (wB s:Int) > 50 by omega)]
   ·rw [decide_eq_false h,decide_eq_false (show ¬ (wB s:Int) > 50 by omega)]
  rw [this]
theorem Fu (s:List UInt8): ∃v,Rm s v∧ ∀{γ:Type} (st:St) (K:Kv γ),ak (aG vE) 5 [.str s] st K=K v st q0:=by
 obtain ⟨v,e,h⟩:=PA s
 exact ⟨v,h,fun st K=>bj st K rfl rfl rfl e⟩
theorem G1 (s t:List UInt8) (h: ∀b∈t,b.toNat < 128):cG (t++s)=cG s:=qk _ t s (Nat.le_refl _) (yS t h)
theorem HT {t:List UInt8} {e:Nat} (h:oP t= .error e):e=4∨e=40∨e=50:=by
 unfold oP at h
 split at h
 ·cases h;exact .inr (.inl rfl)
 ·split at h
  ·split at h
   ·cases h
   ·cases h;exact .inr (.inr rfl)
  ·cases h;exact .inl rfl
theorem Lt (s:List UInt8) (hl:s.length≤1000):¬ 65536 < (iK++s).length∧¬ 65536 < (iK++(40::(s++[10,41]))).length:=by
 constructor
 ·rw [List.length_append,show iK.length=8 from rfl];omega
 ·rw [List.length_append,show iK.length=8 from rfl,List.length_cons,List.length_append,show ([10,41]:List UInt8).length=2 from rfl];omega
theorem J9 (s:List UInt8) (hl:s.length≤1000) (D:List Bd) (h1:oP (iK++s)= .ok D) (hone:D.length=1):(∃D',oP (iK++(40::(s++[10,41])))= .ok D'∧D.map vg=D'.map vg)∨(oP (iK++(40::(s++[10,41])))= .error 50∧50 < wB s):=by
 have valP: ∀t:List UInt8,cG (iK++t)=cG t:=fun t=>G1 t iK (by decide)
 obtain ⟨hl2,hl3⟩:=Lt s hl
 have hv3:cG s=true→cG (40::(s++[10,41]))=true:=fun g1=>by
  have e1:=qk _ [40] (s++[10,41]) (Nat.le_refl _) (by decide)
  have e2:=qk _ s [10,41] (Nat.le_refl _) g1
  rw [show (40::(s++[10,41]):List UInt8)=[40]++(s++[10,41]) from rfl,e1,e2]
  decide
 have key:=@IB s
 unfold oP at h1 ⊢
 rw [if_neg hl2,valP] at h1
 rw [if_neg hl3,valP]
 generalize iK++s=A at *
 generalize iK++(40::(s++[10,41]))=B at *
 cases hs:cG s with
 | false=>rw [hs] at h1;cases h1
 | true=>
  rw [hs,if_pos rfl] at h1
  rw [hv3 hs,if_pos rfl]
  cases hg:cI (doc (tokens A)) with
  | false=>rw [hg] at h1;cases h1
  | true=>
   rw [hg,if_pos rfl] at h1
   have hD:=Except.ok.inj h1
   rcases key hs hg (by rw [hD];exact hone) with ⟨b1,b2⟩ | ⟨b1,b2⟩
   ·rw [b1,if_pos rfl]
    exact .inl ⟨_,rfl,by rw [← hD];exact b2.symm⟩
   ·rw [b1,if_neg (by simp)]
    exact .inr ⟨rfl,b2⟩
def R4 (r:Except Nat (List Bd)) (v:AV):Prop:=match r with
 | .ok D=> ∃x es,v= .tup [x,.int .i64 0]∧bl 11 x es∧gW D es
 | .error e=>v= .tup [.aq,.int .i64 (e:Int)]
theorem AB (s:List UInt8):(aG vE).bare 3 [.str s]=some (.bool true):=by
 refine br rfl (ad.eq (ad.step (QC _) ?_))
 unfold g3
 refine ad.step (az _ _) ?_
 by_cases hl:1000 < s.length
 ·refine ad.bind (R:=fun c=>c=([.bool true],S0)) (by rw [decide_eq_true (show ((s.length:Nat):Int) > 1000 by omega)];exact ad.step (aH _ _) (ad.some rfl)) ?_
  rintro c rfl
  simp only [ag,aC,ah]
  exact ad.step (aH _ _) (ad.step (xb _ _) (ad.step (aC _ _) (ad.some rfl)))
 refine ad.bind (R:=fun c=>c=([.bool false],S0)) (by rw [decide_eq_false (show ¬ ((s.length:Nat):Int) > 1000 by omega)];exact ad.step (aB _ _) (ad.step (xb _ _) (ad.step (aC _ _) (ad.some rfl)))) ?_
 rintro c rfl
 simp only [ag,aC,ah]
 refine ad.step (aB _ _) ?_
 obtain ⟨v,hv,ev⟩:=Fu (iK++s)
 obtain ⟨w,hw,ew⟩:=Fu (iK++(40::(s++[10,41])))
 have ev': ∀{γ:Type} (st:St) (K:Kv γ),ak (aG vE) 5 [.str (108::101::116::32::120::32::61::32::s)] st K=K v st q0:=ev
 have ew': ∀{γ:Type} (st:St) (K:Kv γ),ak (aG vE) 5 [.str ((108::101::116::32::120::32::61::32::40::s)++[10,41])] st K=K w st q0:=ew
 simp only [gz (show 8+s.length≤9223372036854775807 by omega),gz (show 9+s.length≤9223372036854775807 by omega),bf,aY,ev',List.length_cons,gz (show Nat.succ (s.length+1+1+1+1+1+1+1+1+1+1)≤9223372036854775807 by omega),ew']
 have okI: ∀e:Nat,e=4∨e=40∨e=50→((e:Int) != 0)=true:=fun e h=>by rcases h with rfl | rfl | rfl <;> rfl
 have hv:R4 (oP (iK++s)) v:=hv
 have hw:R4 (oP (iK++(40::(s++[10,41])))) w:=hw
 have key:=J9 s (by omega)
 have errs:=fun e=>@HT (iK++s) e
 clear ev ew ev' ew'
 generalize oP (iK++s)=ra at *
 generalize oP (iK++(40::(s++[10,41])))=rb at *
 have hw2: ∃v28 n31,w= .tup [v28,.int .i64 n31]:=by
  cases rb with
  | ok D=>obtain ⟨x,es,rfl,_⟩:=hw;exact ⟨_,_,rfl⟩
  | error e=>exact ⟨_,_,hw⟩
 obtain ⟨v28,n31,hwe⟩:=hw2
 cases ra with
 | error e=>
  have hv:v= .tup [.aq,.int .i64 (e:Int)]:=hv
  rw [hv,hwe]
  simp only [dj,bS,cA,aj,okI e (errs _ rfl),aH,al,ag,aC,ah]
  exact ad.some rfl
 | ok D=>
  obtain ⟨x,es,rfl,hx,hD⟩:=hv
  have hlen:=hD.len
  rw [hwe]
  simp only [dj,bS,cA,aj,show ((0:Int) != 0)=false from rfl,aB,hx.len,al,ag,aC,ah]
  by_cases hone:D.length=1
  ·rw [show ((es.length:Int) != 1)=false by rw [hlen,hone];rfl]
   refine ad.step (aB _ _) ?_
   have cd:=fun {γ:Type} (st:St) (K:Kv γ)=>bj (f:=6) st K rfl rfl rfl (KH s (by omega))
   rcases key D rfl hone with ⟨D',rfl,b2⟩ | ⟨rfl,b2⟩
   ·obtain ⟨x',es',hwt,hx',hD'⟩:=hw
    rw [hwe] at hwt
    simp only [AV.tup.injEq,List.cons.injEq,AV.int.injEq,true_and,and_true] at hwt
    obtain ⟨rfl,rfl⟩:=hwt
    refine ad.bind (R:=fun c=>c=([.bool true],S0)) (ad.step (aB _ _) (ad.step (aH _ _) (ad.step (En hD hD' hx hx' b2 _ _) (ad.step (aC _ _) (ad.some rfl))))) ?_
    rintro c rfl
    exact ad.some rfl
   ·have hw:w= .tup [.aq,.int .i64 ((50:Nat):Int)]:=hw
    rw [hwe] at hw
    simp only [AV.tup.injEq,List.cons.injEq,AV.int.injEq,true_and,and_true] at hw
    obtain ⟨rfl,rfl⟩:=hw
    refine ad.bind (R:=fun c=>c=([.bool true],S0)) (ad.step (aH _ _) (ad.step (cd _ _) (ad.step (aC _ _) ?_))) ?_
    ·rw [decide_eq_true b2]
     exact ad.step (aH _ _) (ad.some rfl)
    ·rintro c rfl
     exact ad.some rfl
  ·rw [show ((es.length:Int) != 1)=true by rw [hlen];simp;omega]
   exact ad.step (aH _ _) (ad.some rfl)
end Go.Proofs.YtmngkfmgnkeclaaGreatDoor.Vm
namespace Go.Proofs.YtmngkfmgnkeclaaGreatDoor.Vm
open Go Go.VM Go.Proofs
def Es:List TypeId:=[9,5,3]
theorem EL: ∀t,C9 Es t=true→z8 Tryz.prog Es t=true:=by
 intro t ht
 have:t∈Es:=by
  obtain ⟨u,hu,e⟩:=List.any_eq_true.1 ht
  rw [← Nat.eq_of_beq_eq_true e];exact hu
 exact List.all_eq_true.1 (show (Es.all fun t=>z8 Tryz.prog Es t)=true by kernel_rfl) t this
theorem MP {n t:Nat} {cs:List AV} (hu:Tryz.prog.underlying t=some .string) (h:oY Tryz.prog n t cs): ∃s,cs=[.str s]∧s.length≤maxLen:=by
 cases n with
 | zero=>cases h
 | succ n=>simp only [oY,hu] at h;exact h
end Go.Proofs.YtmngkfmgnkeclaaGreatDoor.Vm
