/-
  (A part of the proof: ParseN, ParseC, ParseD, ParseE, ParseF, ParseG, ParseH, ParseI, ParseJ, ParseK, ParseL, ParseM, TokAny, ParseO, ParseQ, ScopeA, FA, AstA, FmtA, FmtB, FmtC, FmtD, FmtE, FmtG, LayB, LayC, LayD, LayE, LayF, FAW, FmtH, FL4, FmtT, AstArg.)
-/
import Derived.Test.YtmhofncehlaamaaGreatDoorVmAA
import Derived.Test.YtmhofncehlaamaaGreatDoorVmCE
import Derived.Test.YtmhofncehlaamaaGreatDoorVmBF
import Derived.Test.YtmhofncehlaamaaGreatDoorVmAJ
import Derived.Test.YtmhofncehlaamaaGreatDoorVmBG
import Derived.Test.YtmhofncehlaamaaGreatDoorVmBJ
import Derived.Test.YtmhofncehlaamaaGreatDoorVmBD
import Derived.Test.YtmhofncehlaamaaGreatDoorVmBH
import Derived.Test.YtmhofncehlaamaaGreatDoorVmCB
set_option maxRecDepth 1000000
set_option linter.unusedSimpArgs false
set_option maxHeartbeats 0
namespace Go.Proofs.YtmhofncehlaamaaGreatDoor.Vm
open Go Go.VM Go.Proofs Go.Lex Go.Parse
mutual
def jZ:T→AV→Prop
 | .mk k tk tx l,v=> ∃x es,v= .agg [.int .u8 (k:Int),.int .u8 (tk:Int),.str tx,x]∧bu 4 x es∧bq l es
def bq:List T→List AV→Prop
 | [],es=>es=[]
 | t::l,es=> ∃e r,es=e::r∧jZ t e∧bq l r
end
theorem bq.nil:bq [] []:=by simp only [bq]
theorem bq.cons {t:T} {l:List T} {e:AV} {r:List AV} (h:jZ t e) (hs:bq l r):bq (t::l) (e::r):=by
 simp only [bq];exact ⟨e,r,rfl,h,hs⟩
theorem bq.app: ∀{l m:List T} {es fs:List AV},bq l es→bq m fs→bq (l++m) (es++fs)
 | [],_,_,_,h,k=>by simp only [bq] at h;subst h;exact k
 | t::l,_,_,_,h,k=>by
  simp only [bq] at h;obtain ⟨e,r,rfl,h1,h2⟩:=h;exact bq.cons h1 (bq.app h2 k)
theorem bq.len: ∀{l:List T} {es:List AV},bq l es→es.length=l.length
 | [],_,h=>by simp only [bq] at h;subst h;rfl
 | t::l,_,h=>by
  simp only [bq] at h;obtain ⟨e,r,rfl,h1,h2⟩:=h;simp [bq.len h2]
def CJ (x:AV) (es:List AV):Prop:=bu 4 x es∨(es.length≤9223372036854775807∧ ∃k,x= .sl 4 es (.own k))
theorem CJ.one {x:AV} {es:List AV} (h:CJ x es):VM.one x=true:=by
 rcases h with h | ⟨_,k,rfl⟩
 ·exact h.one
 ·rfl
theorem CJ.af {β:Type} {x:AV} {es:List AV} (h:CJ x es) (K:Option β):af x K=K:=iS h.one K
theorem CJ.fit {x:AV} {es:List AV} (h:CJ x es): ∃x',bu 4 x' es∧ ∀{β:Type} (K:AV→Option β),aJ x K=K x':=by
 rcases h with h | ⟨hl,k,rfl⟩
 ·exact ⟨x,h,fun K=>h.aJ K⟩
 ·exact ⟨.sl 4 es .wide,bu.wide hl,fun K=>rfl⟩
theorem CJ.own {st:St} {e:TypeId} {x:AV} {es:List AV} (h:jq st 4 e x es):CJ x es:=by
 rcases h.2.2 with ⟨rfl | rfl,rfl⟩ | rfl | ⟨k,rfl,_,_⟩
 ·exact .inl bu.aG
 ·exact .inl bu.emp
 ·exact .inl (bu.shut h.2.1)
 ·exact .inr ⟨h.2.1,k,rfl⟩
theorem CJ.elems {β:Type} {x:AV} {es:List AV} (h:CJ x es) (K:List AV→Option β):mU x K=K es:=by
 rcases h with h | ⟨_,k,rfl⟩
 ·exact h.elems K
 ·rfl
structure VN (t:T) (v:AV):Prop where
 ex: ∃k tk tx l x es,t= .mk k tk tx l∧v= .agg [.int .u8 (k:Int),.int .u8 (tk:Int),.str tx,x]∧CJ x es∧bq l es
structure Nd (t:T) (k tk:Nat) (tx:List UInt8) (x:AV):Prop where
 ex: ∃l es,t= .mk k tk tx l∧CJ x es∧bq l es
theorem Nd.one {t:T} {k tk:Nat} {tx:List UInt8} {x:AV} (h:Nd t k tk tx x):VM.one x=true:=by
 obtain ⟨l,es,_,hk,_⟩:=h.ex;exact hk.one
theorem Nd.af {t:T} {k tk:Nat} {tx:List UInt8} {x:AV} (h:Nd t k tk tx x) {β:Type} (K:Option β):af x K=K:=iS h.one K
theorem Nd.fit {t:T} {k tk:Nat} {tx:List UInt8} {x:AV} (h:Nd t k tk tx x): ∃x',jZ t (.agg [.int .u8 (k:Int),.int .u8 (tk:Int),.str tx,x'])∧ ∀{β:Type} (K:AV→Option β),aJ x K=K x':=by
 obtain ⟨l,es,rfl,hk,hn⟩:=h.ex;obtain ⟨x',hx,hf⟩:=hk.fit;exact ⟨x',by simp only [jZ];exact ⟨x',es,rfl,hx,hn⟩,hf⟩
theorem VN.cells {t:T} {v:AV} (h:VN t v): ∃(k tk:Nat) (tx:List UInt8) (x:AV),v= .agg [.int .u8 (k:Int),.int .u8 (tk:Int),.str tx,x]∧Nd t k tk tx x:=by
 obtain ⟨k,tk,tx,l,x,es,rfl,rfl,hk,hn⟩:=h.ex;exact ⟨k,tk,tx,x,rfl,⟨⟨l,es,rfl,hk,hn⟩⟩⟩
theorem Nd.vn {t:T} {k tk:Nat} {tx:List UInt8} {x:AV} (h:Nd t k tk tx x):VN t (.agg [.int .u8 (k:Int),.int .u8 (tk:Int),.str tx,x]):=by
 obtain ⟨l,es,rfl,hk,hn⟩:=h.ex;exact ⟨⟨k,tk,tx,l,x,es,rfl,rfl,hk,hn⟩⟩
mutual
theorem jZ.rf: ∀{t:T} {v:AV},jZ t v→Rf (2 * gv t) v
 | .mk k tk tx l,v,h=>by
  simp only [jZ] at h;obtain ⟨x,es,rfl,hx,hn⟩:=h;have he:=bq.rf hn;have hxr:Rf (2 * fq l+1) x:=by
   rcases hx.2 with ⟨rfl | rfl,rfl⟩ | rfl | rfl
   ·exact BE.mono (by omega)
   ·exact JR.mono (by omega)
   ·exact vm he
   ·exact vm he
  simp only [gv];refine (Ro (d:=2 * fq l+1) fun c hc=> ?_).mono (by omega);simp only [Vv,VJ,or_false] at hc;rcases hc with rfl | rfl | rfl | rfl
  ·exact (ue _ _).mono (by omega)
  ·exact (ue _ _).mono (by omega)
  ·exact (E6 _).mono (by omega)
  ·exact hxr
theorem bq.rf: ∀{l:List T} {es:List AV},bq l es→ ∀e∈es,Rf (2 * fq l) e
 | [],_,h,e,he=>by simp only [bq] at h;subst h;cases he
 | t::l,_,h,e,he=>by
  simp only [bq] at h;obtain ⟨a,r,rfl,h1,h2⟩:=h;simp only [fq];rcases Vv.1 he with rfl | he
  ·exact (jZ.rf h1).mono (by omega)
  ·exact (bq.rf h2 e he).mono (by omega)
end
theorem Nd.rf {t:T} {k tk:Nat} {tx:List UInt8} {x:AV} (h:Nd t k tk tx x): ∀c∈[AV.int .u8 (k:Int),.int .u8 (tk:Int),.str tx,x],Rf (2 * gv t) c:=by
 obtain ⟨l,es,rfl,hk,hn⟩:=h.ex;have he:=bq.rf hn;have hxr:Rf (2 * fq l+1) x:=by
  rcases hk with hx | ⟨_,k,rfl⟩
  ·rcases hx.2 with ⟨rfl | rfl,rfl⟩ | rfl | rfl
   ·exact BE.mono (by omega)
   ·exact JR.mono (by omega)
   ·exact vm he
   ·exact vm he
  ·exact vm he
 intro c hc;simp only [gv];simp only [Vv,VJ,or_false] at hc;rcases hc with rfl | rfl | rfl | rfl
 ·exact (ue _ _).mono (by omega)
 ·exact (ue _ _).mono (by omega)
 ·exact (E6 _).mono (by omega)
 ·exact hxr.mono (by omega)
theorem Vb (st:St) (k tk:Int) (tx:List UInt8) (x:AV) (h:st.ro≤st.h): ∃st',st'.get st.h= .ok (.cells 27 [.int .u8 k,.int .u8 tk,.str tx,x])∧aX st st' (fun _=>False)∧st'.h=st.h+1∧ ∃fx,∀{β:Type} (K:Kv β),aD (aA vE) 4 (AV.mp st.h 0) (.agg [.int .u8 k,.int .u8 tk,.str tx,x]) [.int .u8 k,.int .u8 tk,.str tx,x] (st.add (.cells 27 [.int .u8 0,.int .u8 0,.str [],.aG])) K=K VM.undef st' fx:=by
 obtain ⟨st',g,k1,n,fx,e⟩:=qm (O:=aA vE) (st:=st) (t:=27) (z:=4) (old:=[.int .u8 0,.int .u8 0,.str [],.aG]) (cs:=[.int .u8 k,.int .u8 tk,.str tx,x]) (.agg [.int .u8 k,.int .u8 tk,.str tx,x]) rfl rfl h;exact ⟨st',g,k1,n,fx,e⟩
theorem TE {st:St} {id:Nat} {old:List AV} (hg:st.get id= .ok (.cells 27 old)) (ho:old.length=4) (k tk:Int) (tx:List UInt8) (x:AV) (hro:st.ro≤id): ∃st',st'.get id= .ok (.cells 27 [.int .u8 k,.int .u8 tk,.str tx,x])∧aX st st' (· =id)∧st'.h=st.h∧ ∃fx,∀{β:Type} (K:Kv β),aD (aA vE) 4 (AV.mp id 0) (.agg [.int .u8 k,.int .u8 tk,.str tx,x]) [.int .u8 k,.int .u8 tk,.str tx,x] st K=K VM.undef st' fx:=by
 obtain ⟨st',g,k1,n,fx,e⟩:=Hy (O:=aA vE) (.agg [.int .u8 k,.int .u8 tk,.str tx,x]) hg ho (cs:=[.int .u8 k,.int .u8 tk,.str tx,x]) rfl hro;exact ⟨st',g,k1,n,fx,e⟩
theorem aX.join {a b c:St} {p q:Nat→Prop} (h:aX a b p) (k:aX b c q) (hq: ∀j,q j→p j∨a.h≤j):aX a c p:=
 ⟨k.ro.trans h.ro,VZ h.h k.h,fun j o hj hg=>k.old j o (fun e=>by
  rcases hq j e with h1 | h1
  ·exact hj h1
  ·have:=(St.cC.1 hg).1;omega) (h.old j o hj hg)⟩
def A7 (t:bc):AV:= .agg [.int .u8 ((1:Nat):Int),.int .u8 (t.1:Int),.str t.2,.aG]
theorem C9: ∀(l:List bc),bq (l.map aT) (l.map A7)
 | []=>bq.nil
 | t::l=>bq.cons (by
   show jZ (.mk 1 t.1 t.2 []) (A7 t);simp only [jZ];exact ⟨.aG,[],rfl,bu.aG,bq.nil⟩) (C9 l)
theorem M7 (r:List bc):r.drop (wT r)=r.dropWhile bl:=by
 have h:(r.takeWhile bl++r.dropWhile bl).drop (r.takeWhile bl).length=r.dropWhile bl:=List.drop_left;rw [WN] at h;exact h
theorem SJ (r:List bc):wT r≤r.length:=(List.takeWhile_sublist bl).length_le
theorem N2 (r:List bc):r.take (wT r)=r.takeWhile bl:=by
 have h:(r.takeWhile bl++r.dropWhile bl).take (r.takeWhile bl).length=r.takeWhile bl:=WU;rw [WN] at h;exact h
def mD (L:List bc) (i:Nat):Nat:=min (i+wT (L.drop i)+1) L.length
theorem yC (L:List bc) (i:Nat):aQ (L.drop i)=L.drop (mD L i):=by
 unfold aQ mD;rw [← M7,WK,WK];rcases Nat.lt_or_ge (i+wT (L.drop i)+1) L.length with q | q
 ·rw [WQ (Xp q)];congr 1
 ·rw [Xk q,List.drop_of_length_le (by omega),List.drop_of_length_le (Vn _)]
theorem Ac {x:AV} {Z:List bc} (hx:bu 2 x (Z.map tok)) (hZ:Z.length≤1000000) {st19:St} {k tk:Int} {tx:List UInt8} {h0:Nat} (hn0:h0≤st19.h): ∀(l:List bc) (j:Nat) (st:St) (v:AV) (es:List AV),Z.drop j=l→st.get st19.h= .ok (.cells 27 [.int .u8 k,.int .u8 tk,.str tx,v])→jq st 4 27 v es→(∀j,ew v j→h0≤j)→es.length+l.length≤2000000→st.ro≤st19.h→h0≤st.h→
  ∃v' st',bn (xJ st19 x Z.length) ([.int .i64 (j:Int)],st)=some (0,[],st')∧st'.get st19.h= .ok (.cells 27 [.int .u8 k,.int .u8 tk,.str tx,v'])∧jq st' 4 27 v' (es++l.map A7)∧(∀j,ew v' j→h0≤j)∧aX st st' (fun j=>h0≤j)
 | [],j,st,v,es,hd,hg,ho,hfr,hl,hro,hh=>by
  have:=Wy.1 hd;have q:¬ (j:Int) < (Z.length:Int):=by omega
  refine ⟨v,st,bo ?_,hg,by simpa using ho,hfr,aX.refl _ _⟩;simp only [xJ,ag,ai,ah,ar,if_neg q]
 | t::l,j,st,v,es,hd,hg,ho,hfr,hl,hro,hh=>by
  obtain ⟨hgt,hr,hlt⟩:=drop_cons hd;have q:(j:Int) < (Z.length:Int):=by omega
  have hroh:st.ro≤st.h:=VZ hro (Xp (St.cC.1 hg).1);obtain ⟨s1,g1,k1,fx1,e1⟩:=TH st t.1 t.2 hroh;have hg1:=k1.old _ _ (fun f=>f) hg;have ho1:=px ho k1 (fun _ _ f=>f);simp only [Vh] at hl;obtain ⟨v2,s2,x2,a2,o2,k2,f2⟩:=qK (b:=56) (new:=[A7 t]) ho1 (by simp) (tJ (by simp only [Wj];omega) (by omega) (by omega));have hown2:¬ ew v st19.h:=ho.not hg;have hg2:=k2.old _ _ hown2 hg1;have hro2:s2.ro≤st19.h:=by rw [k2.ro,k1.ro];exact hro
  have hst:=fun {β:Type} (K:Kv β)=>eF (O:=aA vE) (v:=v2) (cs:=[v2]) (off:=3) (z:=1) hg2 rfl (by simp) hro2 K;have hsp:cO [.int .u8 k,.int .u8 tk,.str tx,v] 3 [v2]=[.int .u8 k,.int .u8 tk,.str tx,v2]:=rfl;rw [hsp] at hst;have hg3:(s2.put st19.h (.cells 27 [.int .u8 k,.int .u8 tk,.str tx,v2])).get st19.h= .ok (.cells 27 [.int .u8 k,.int .u8 tk,.str tx,v2]):=St.aS (St.cC.1 hg2).1;have ho3:jq (s2.put st19.h (.cells 27 [.int .u8 k,.int .u8 tk,.str tx,v2])) 4 27 v2 (es++[A7 t]):=o2.put hg2;have k3:aX s2 (s2.put st19.h (.cells 27 [.int .u8 k,.int .u8 tk,.str tx,v2])) (· =st19.h):=aX.put rfl;generalize s2.put st19.h (.cells 27 [.int .u8 k,.int .u8 tk,.str tx,v2])=s3 at hst hg3 ho3 k3;have hfr2: ∀j,ew v2 j→h0≤j:=fun j hj=>by
   rcases f2 j hj with h | h
   ·exact hfr j h
   ·have:=k1.h;omega
  obtain ⟨v',st',e',g',o',f',k'⟩:=Ac hx hZ hn0 l (j+1) s3 v2 (es++[A7 t]) hr hg3 ho3 hfr2 (by rw [Vg];simp;omega) (by rw [k3.ro];exact hro2) (by have:=k1.h;have:=k2.h;have:=k3.h;omega);refine ⟨v',st', ?_,g',by rw [Vx] at o';exact o',f', ?_⟩
  ·rw [br (s':=([.int .i64 ((j+1:Nat):Int)],s3)),e'];have a2: ∀{β:Type} (K:Kv β),eD 4 56 27 v [.agg [.int .u8 1,.int .u8 (t.1:Int),.str t.2,.aG]] s1 K=K v2 s2 x2:=fun K=>mB a2 K;have ov: ∀{β:Type} (K:Option β),af v2 K=K:=fun K=>iS o2.one K;simp only [xJ,ag,ai,ah,ar,if_pos q,xE hx hgt,cg,uc,aq,az,ao,bN,e1,bm hg1,RV,aZ,bm g1,VD,a2,ov,hst,aK,df (show j+1≤9223372036854775807 by omega)]
  ·refine ((k1.Jj (q:=fun j=>h0≤j) (fun _ f=>f.elim)).trans (k2.Jj fun j hj=>hfr j hj)).trans ((k3.Jj fun j hj=> ?_).trans k');have hj:j=st19.h:=hj;omega
theorem G8 {st:St} {p:Nat} {L:List bc} {x:AV} {i d:Nat} (h:PS st p L x i d):
  ∃v st',(aA vE).wide 81 [.mp p 0] st=some (v,st')∧VN (aR (L.drop i)) v∧PS st' p L x (mD L i) d∧aX st st' (· =p):=by
 have hle:=h.le;have hlen:=h.len;have hw:=SJ (L.drop i);rw [VF] at hw;have k0:aX st (st.add (.cells 27 [.int .u8 0,.int .u8 0,.str [],.aG])) (fun _=>False):=aX.add _ _ _;have g0:(st.add (.cells 27 [.int .u8 0,.int .u8 0,.str [],.aG])).get st.h= .ok (.cells 27 [.int .u8 0,.int .u8 0,.str [],.aG]):=St.ey;have hro:=h.zr;have hlt:=h.lt;have h1:=h.keeps k0 (fun f=>f);have n0:(st.add (.cells 27 [.int .u8 0,.int .u8 0,.str [],.aG])).h=st.h+1:=rfl;generalize hs0:st.add (.cells 27 [.int .u8 0,.int .u8 0,.str [],.aG])=s0 at k0 g0 h1 n0;obtain ⟨s1,k1,c1⟩:=nB h1;generalize hT:nx (L.drop i)=T0 at c1;obtain ⟨s2,g2,k2,fx2,e2⟩:=TH s1 T0.1 T0.2 (PS.jb k1 h1.zr);obtain ⟨s3,g3,k3,n3,fx3,e3⟩:=Vb s2 1 (T0.1:Int) T0.2 .aG (PS.jb k2 (PS.jb k1 h1.zr));have kk:=(k0.trans k1).trans (k2.trans k3);have h3:=h.keeps kk (fun f=>f);obtain ⟨z,hz,ez⟩:=h.sl.cut (lo:=some (i:Int)) (hi:=some ((i+wT (L.drop i):Nat):Int)) (jg (by omega)) (jg (by rw [VL];omega));have hzm:((L.map tok).take (i+wT (L.drop i))).drop i=((L.drop i).take (wT (L.drop i))).map tok:=by
  rw [← List.map_take, ← List.map_drop,List.drop_take];congr 2;omega
 rw [hzm] at hz;have hZl:((L.drop i).take (wT (L.drop i))).length≤1000000:=by rw [VB,VF];omega
 have h2h:s0.h≤s2.h:=by have:=k1.h;have:=k2.h;omega
 obtain ⟨v4,s4,e4,g4,o4,f4,k4⟩:=Ac hz hZl (st19:=s2) (h0:=s0.h) h2h ((L.drop i).take (wT (L.drop i))) 0 s3 .aG [] rfl g3 (jq.aG (PS.jb k3 (PS.jb k2 (PS.jb k1 h1.zr))) _ _) (fun j hj=>by obtain ⟨_,_,e⟩:=hj;cases e) (by simp only [Vj];omega) (by rw [kk.ro];omega) (by have:=k3.h;omega);rw [Vs,N2] at o4;have e4:bn (xJ s2 z ((L.drop i).take (wT (L.drop i))).length) ([.int .i64 0],s3)= _:=e4;have hzl: ∀{β:Type} (K:Nat→Option β),fJ z K=K ((L.drop i).take (wT (L.drop i))).length:=fun K=>by rw [hz.len,VL]
 have kk4:aX st s4 (fun _=>False):=aX.join kk k4 fun j hj=> .inr (by have:=k0.h;have hj:s0.h≤j:=hj;omega);have h4:=h.keeps kk4 (fun f=>f);have hmin:(if ((L.map tok).length:Int) < ((i+wT (L.drop i)+1:Nat):Int) then ((L.map tok).length:Int) else ((i+wT (L.drop i)+1:Nat):Int))=((mD L i:Nat):Int):=by
  unfold mD;rw [VL];split <;> omega
 have hst5:=fun {β:Type} (K:Kv β)=>eF (O:=aA vE) (v:= .int .i64 ((mD L i:Nat):Int)) (cs:=[.int .i64 ((mD L i:Nat):Int)]) (off:=1) (z:=1) h4.get rfl (by simp) h4.ro K;have hsp:cO [x,.int .i64 (i:Int),.int .i64 (d:Int)] 1 [.int .i64 ((mD L i:Nat):Int)]=[x,.int .i64 ((mD L i:Nat):Int),.int .i64 (d:Int)]:=rfl;rw [hsp] at hst5;have g5p:(s4.put p (.cells 89 [x,.int .i64 ((mD L i:Nat):Int),.int .i64 (d:Int)])).get p= .ok (.cells 89 [x,.int .i64 ((mD L i:Nat):Int),.int .i64 (d:Int)]):=St.aS (St.cC.1 h4.get).1;have k5:aX s4 (s4.put p (.cells 89 [x,.int .i64 ((mD L i:Nat):Int),.int .i64 (d:Int)])) (· =p):=aX.put rfl;generalize s4.put p (.cells 89 [x,.int .i64 ((mD L i:Nat):Int),.int .i64 (d:Int)])=s5 at hst5 g5p k5;have hp5:PS s5 p L x (mD L i) d:=⟨g5p,h.sl,Nat.min_le_right _ _,hlen,by rw [k5.ro,kk4.ro];exact h.ro⟩;have hs2p:s2.h≠p:=by omega
 have g5:=k5.Aj hs2p g4;have hsh:st.h≠p:=by omega
 have gr5:=k5.Aj hsh (k4.old _ _ (by omega) ((k1.trans (k2.trans k3)).old _ _ (fun f=>f) g0));obtain ⟨s6,g6',k6,n6,fx6,e6⟩:=TE gr5 rfl 1 (T0.1:Int) T0.2 v4 (by rw [k5.ro,kk4.ro];exact hro);have nd:Nd (aR (L.drop i)) 1 T0.1 T0.2 v4:=by
  refine ⟨⟨_,_, ?_,CJ.own o4,C9 _⟩⟩;unfold aR leaf;rw [hT]
 have kf:aX st s6 (· =p):=by
  have ka:aX st s5 (· =p):=(kk4.Jj fun _ f=>f.elim).trans k5;exact aX.join ka k6 fun j hj=> .inr (by have hj:j=st.h:=hj;omega)
 refine ⟨_,s6,gG ((Rj _ _).trans ?_),nd.vn,hp5.keeps k6 (fun e=>hsh e.symm),kf⟩;have w1:=df (show i+wT (L.drop i)+1≤9223372036854775807 by omega);simp only [UI,bN,hs0,c1,bw,aU,bj,az,ag,ai,ao,ah,e2,bm g2,VD,uc,aq,e3,ju,aV,bL,VC,bm h3.get,ve,aZ,ez,hzl,e4,aK,w1,bm h4.get,h.sl.len,hmin,hst5,bm g5,Bl,nd.af,e6,bm g6'];rfl
def NC (F:FuncId) (args:List AV) (st:St) (p:Nat) (L:List bc) (x:AV) (d:Nat) (t:T) (r':List bc):Prop:=
 ∃v st' i',(aA vE).wide F args st=some (v,st')∧VN t v∧PS st' p L x i' d∧L.drop i'=r'∧aX st st' (· =p)
theorem NC.call {F:FuncId} {args:List AV} {st:St} {p:Nat} {L:List bc} {x:AV} {d:Nat} {t:T} {r':List bc} (h:NC F args st p L x d t r') (h1:vE.isLook F=false) (h2:(bx (args.map strip)&& !vE.full F)=false):
  ∃(k tk:Nat) (tx:List UInt8) (y:AV) (st':St) (i':Nat),Nd t k tk tx y∧PS st' p L x i' d∧L.drop i'=r'∧aX st st' (· =p)∧ ∀{β:Type} (K:Kv β),al (aA vE) F args st K=K (.agg [.int .u8 (k:Int),.int .u8 (tk:Int),.str tx,y]) st' ⟨[],.all st st'⟩:=by
 obtain ⟨v,st',i',e,hv,hp,hr,hk⟩:=h;obtain ⟨k,tk,tx,y,rfl,hn⟩:=hv.cells;exact ⟨k,tk,tx,y,st',i',hn,hp,hr,hk,fun K=>fR (E:=vE) K h1 h2 e⟩
theorem N3 {st:St} {p:Nat} {L:List bc} {x:AV} {i d:Nat} (h:PS st p L x i d):NC 81 [.mp p 0] st p L x d (aR (L.drop i)) (aQ (L.drop i)):=by
 obtain ⟨v,st',e,hv,hp,hk⟩:=G8 h;exact ⟨v,st',_,e,hv,hp,(yC L i).symm,hk⟩
theorem HI {st:St} {p:Nat} {L:List bc} {x:AV} {i d:Nat} (h:PS st p L x i d):
  ∃(k tk:Nat) (tx:List UInt8) (y:AV) (st':St) (i':Nat),Nd (aR (L.drop i)) k tk tx y∧PS st' p L x i' d∧L.drop i'=aQ (L.drop i)∧aX st st' (· =p)∧ ∀{β:Type} (K:Kv β),al (aA vE) 81 [.mp p 0] st K=K (.agg [.int .u8 (k:Int),.int .u8 (tk:Int),.str tx,y]) st' ⟨[],.all st st'⟩:=
 (N3 h).call rfl rfl
theorem nQ (s:List UInt8) {β:Type} (st:St) (K:Kv β):al (aA vE) 170 [.str s] st K=K (.agg [.int .u8 2,.int .u8 0,.str s,.aG]) st q0:=
 aY st K rfl rfl rfl (bh rfl ((M6 _).trans (by simp only [Su,ao])))
theorem sc (s:List UInt8):Nd (missing s) 2 0 s .aG:=⟨⟨[],[],rfl,.inl bu.aG,bq.nil⟩⟩
theorem LR {st:St} {p:Nat} {L:List bc} {x:AV} {i d:Nat} (h:PS st p L x i d): ∃s0,st.add (.cells 27 [.int .u8 0,.int .u8 0,.str [],.aG])=s0∧s0.get st.h= .ok (.cells 27 [.int .u8 0,.int .u8 0,.str [],.aG])∧PS s0 p L x i d∧aX st s0 (fun _=>False)∧st.h≠p∧st.ro≤st.h∧s0.h=st.h+1:=
 ⟨_,rfl,St.ey,h.keeps (aX.add _ _ (fun _=>False)) (fun f=>f),aX.add _ _ _,Nat.ne_of_gt h.lt,h.zr,rfl⟩
theorem Hx {st s:St} {p:Nat} {L:List bc} {x:AV} {i d:Nat} {old:List AV} (hg:s.get st.h= .ok (.cells 27 old)) (ho:old.length=4) (hp:PS s p L x i d) (hne:st.h≠p) (hk:aX st s (· =p)) (hro:st.ro≤st.h) (k tk:Int) (tx:List UInt8) (y:AV):
  ∃s',s'.get st.h= .ok (.cells 27 [.int .u8 k,.int .u8 tk,.str tx,y])∧PS s' p L x i d∧aX st s' (· =p)∧ ∃fx,∀{β:Type} (K:Kv β),aD (aA vE) 4 (AV.mp st.h 0) (.agg [.int .u8 k,.int .u8 tk,.str tx,y]) [.int .u8 k,.int .u8 tk,.str tx,y] s K=K VM.undef s' fx:=by
 obtain ⟨s',g,k1,_,fx,e⟩:=TE hg ho k tk tx y (by rw [hk.ro];exact hro);exact ⟨s',g,hp.keeps k1 (fun e=>hne e.symm),aX.join hk k1 fun j hj=> .inr (Nat.le_of_eq hj.symm),fx,e⟩
theorem MA {st:St} {p:Nat} {L:List bc} {x:AV} {i d:Nat} (h:PS st p L x i d) (s:List UInt8):NC 120 [.mp p 0,.str s] st p L x d (da s (L.drop i)) (bk s (L.drop i)):=by
 obtain ⟨s0,es0,g0,h0,k0,hne,hro,n0⟩:=LR h;obtain ⟨s1,k1,c1⟩:=CC h0 (nr [s] (by simp));rw [zX] at c1;have c1: ∀{β:Type} (K:Kv β),al (aA vE) 80 [.mp p 0,.sl 1 [.str s] .shut] s0 K=K (.bool (dV s (L.drop i))) s1 ⟨[],.all s0 s1⟩:=fun K=>c1 K;have h1:=h0.keeps k1 (fun f=>f);have g1:=k1.old _ _ (fun f=>f) g0;unfold da bk;cases hb:dV s (L.drop i) with
 | true=>
  rw [hb] at c1;obtain ⟨k,tk,tx,y,s2,i2,hn,h2,hr2,k2,c2⟩:=HI h1;have g2:=k2.Aj hne g1;obtain ⟨s3,g3,h3,k3,fx,e3⟩:=Hx g2 rfl h2 hne (((k0.trans k1).Jj fun _ f=>f.elim).trans k2) hro (k:Int) (tk:Int) tx y;refine ⟨_,s3,i2,gG ((Ht _ _ _).trans ?_),hn.vn,h3,hr2,k3⟩;simp only [Rc,ao,bN,es0,c1,aE,aF,c2,az,ag,ai,ah,hn.af,e3,bm g3,VD,Bl,aq]
 | false=>
  rw [hb] at c1;obtain ⟨s3,g3,h3,k3,fx,e3⟩:=Hx g1 rfl h1 hne ((k0.trans k1).Jj fun _ f=>f.elim) hro 2 0 s .aG;refine ⟨_,s3,i,gG ((Ht _ _ _).trans ?_),(sc s).vn,h3,rfl,k3⟩;simp only [Rc,ao,bN,es0,c1,aE,aB,nQ,az,ag,ai,ah,FR,e3,bm g3,VD,Bl,aq];rfl
def rz (pat:Bool):Nat:=if pat then 5 else 6
def ry (pat:Bool):List UInt8:=if pat then EU else nf
theorem iy (a b:Nat):((a:Int)==(b:Int))=(a==b):=by
 by_cases h:a=b
 ·rw [h];simp
 ·rw [VX.2 h,VX.2 (show ¬ (a:Int)=(b:Int) by omega)]
theorem I8 {st:St} {p:Nat} {L:List bc} {x:AV} {i d:Nat} (h:PS st p L x i d) (pat:Bool):
  ∃st',(aA vE).wide 118 [.mp p 0,.int .u8 (rz pat:Int),.str (ry pat)] st=some (.bool (dp pat (L.drop i)),st')∧aX st st' (fun _=>False):=by
 obtain ⟨s1,k1,c1⟩:=nB h;have ht:nx (L.drop i)=nx (L.drop i):=rfl;generalize hT:nx (L.drop i)=t at c1 ht;obtain ⟨s2,g2,k2,fx2,e2⟩:=TH s1 t.1 t.2 (PS.jb k1 h.zr);have h2:=h.keeps (k1.trans k2) (fun f=>f);obtain ⟨s3,k3,c3⟩:=CC h2 (nr [qe,lI,nf,oE,ry pat] (by simp));have c3: ∀{β:Type} (K:Kv β),al (aA vE) 80 [.mp p 0,.sl 1 [.str [116,114,117,101],.str [102,97,108,115,101],.str [40],.str [91],.str (ry pat)] .shut] s2 K=K (.bool (isAny [qe,lI,nf,oE,ry pat] (L.drop i))) s3 ⟨[],.all s2 s3⟩:=fun K=>c3 K;have e4:((t.1:Int)==4)=(t.1==4):=iy t.1 4;have e5:((t.1:Int)==5)=(t.1==5):=iy t.1 5;have e7:((t.1:Int)==7)=(t.1==7):=iy t.1 7;have e9:((t.1:Int)==9)=(t.1==9):=iy t.1 9;have ek:=iy t.1 (rz pat);have hb:dp pat (L.drop i)=(t.1==4||t.1==5||t.1==7||t.1==9||t.1==rz pat||isAny [qe,lI,nf,oE,ry pat] (L.drop i)):=by
  unfold dp;rw [hT];rfl
 rw [hb];by_cases hk:(t.1==4||t.1==5||t.1==7||t.1==9||t.1==rz pat)=true
 ·refine ⟨s2,gG ((Hr _ _ _ _).trans ?_),k1.trans k2⟩;rw [hk,Xd];simp only [P9,ai,ao,c1,bw,aU,bj,az,ag,ah,bN,e2,bm g2,VD,aZ,aq,e4,e5,e7,e9,ek];cases h4:t.1==4 <;> simp only [h4,aF,aB,aq,ag,aE,ah]
  cases h5:t.1==5 <;> simp only [h5,aF,aB,aq,ag,aE,ah]
  cases h7:t.1==7 <;> simp only [h7,aF,aB,aq,ag,aE,ah]
  cases h9:t.1==9 <;> simp only [h9,aF,aB,aq,ag,aE,ah]
  simp only [h4,h5,h7,h9,Wu] at hk;simp only [hk,aF]
 ·have hk:(t.1==4||t.1==5||t.1==7||t.1==9||t.1==rz pat)=false:=by simpa using hk
  refine ⟨s3,gG ((Hr _ _ _ _).trans ?_),(k1.trans k2).trans k3⟩;rw [hk,Wu];simp only [V0] at hk;obtain ⟨⟨⟨⟨h4,h5⟩,h7⟩,h9⟩,h10⟩:=hk;simp only [P9,ai,ao,c1,bw,aU,bj,az,ag,ah,bN,e2,bm g2,VD,aZ,aq,e4,e5,e7,e9,ek,h4,h5,h7,h9,h10,aB,aE,c3]
theorem Dm {st:St} {p:Nat} {L:List bc} {x:AV} {i d:Nat} (h:PS st p L x i d) (pat:Bool):
  ∃st',aX st st' (fun _=>False)∧ ∀{β:Type} (K:Kv β),al (aA vE) 118 [.mp p 0,.int .u8 (rz pat:Int),.str (ry pat)] st K=K (.bool (dp pat (L.drop i))) st' ⟨[],.all st st'⟩:=by
 obtain ⟨st',e,k⟩:=I8 h pat
 exact ⟨st',k,fun K=>fR (E:=vE) K rfl rfl e⟩
abbrev ND:TypeId:=27
def CK {β:Type} (v:AV) (K:Int→Int→List UInt8→AV→Option β):Option β:=zH v fun l=>bE l fun v1 l=>bU .u8 v1 fun a=>bE l fun v2 l=>bU .u8 v2 fun b=>bE l fun v3 l=>eU v3 fun s=>bE l fun v4 l=>cj l (K a b s v4)
theorem oT {β:Type} (a b:Int) (s:List UInt8) (y:AV) (K:Int→Int→List UInt8→AV→Option β):CK (.agg [.int .u8 a,.int .u8 b,.str s,y]) K=K a b s y:=by
 simp only [CK,az,ag,ai,ao,ah]
def Pz (PT:TypeId) (st:St) (p:Nat) (L:List bc) (x:AV) (d:Nat) (r:List bc):Prop:= ∃i,LP PT st p L x i d∧L.drop i=r
theorem Pz.keeps {PT:TypeId} {st st':St} {p:Nat} {L:List bc} {x:AV} {d:Nat} {r:List bc} {but:Nat→Prop} (h:Pz PT st p L x d r) (k:aX st st' but) (hp:¬ but p):Pz PT st' p L x d r:=by
 obtain ⟨i,h,e⟩:=h;exact ⟨i,h.keeps k hp,e⟩
abbrev Vr:=Nat×TypeId×List AV
structure Wd (PT:TypeId) (st0 st:St) (p:Nat) (L:List bc) (x:AV) (d:Nat) (r:List bc) (l:List Vr) (os:List (AV×List AV)):Prop where
 pz:Pz PT st p L x d r
 k:aX st0 st (· =p)
 v: ∀q∈l,st.get q.1= .ok (.cells q.2.1 q.2.2)∧st0.h≤q.1
 nd:(l.map (·.1)).Nodup
 o: ∀q∈os,jq st 4 ND q.1 q.2∧ ∀j,ew q.1 j→st0.h≤j
 od:os.Pairwise fun a b=> ∀j,ew a.1 j→¬ ew b.1 j
 p0:p < st0.h
 ro0:st0.ro≤st0.h
section
variable {PT:TypeId} {st0 st st':St} {p:Nat} {L:List bc} {x:AV} {d d':Nat} {r r':List bc} {l l1 l2:List Vr} {os:List (AV×List AV)}
theorem Wd.start {i:Nat} (h:LP PT st p L x i d):Wd PT st st p L x d (L.drop i) [] []:=
 ⟨⟨i,h,rfl⟩,aX.refl _ _,(fun _ h=>by cases h),List.nodup_nil,(fun _ h=>by cases h),List.Pairwise.nil,h.lt,h.zr⟩
theorem Wd.begin (h:Pz PT st p L x d r):Wd PT st st p L x d r [] []:=by
 obtain ⟨i,h,rfl⟩:=h;exact Wd.start h
theorem Wd.ro (w:Wd PT st0 st p L x d r l os):st.ro≤st.h:=PS.jb w.k w.ro0
theorem Wd.h (w:Wd PT st0 st p L x d r l os):st0.h≤st.h:=w.k.h
theorem Wd.get (w:Wd PT st0 st p L x d r l os) {a:Nat} {t:TypeId} {cs:List AV} (h:(a,t,cs)∈l):st.get a= .ok (.cells t cs):=(w.v _ h).1
theorem Wd.ne (w:Wd PT st0 st p L x d r l os) {a:Nat} {t:TypeId} {cs:List AV} (h:(a,t,cs)∈l):a≠p:=by
 have:=(w.v _ h).2;have:=w.p0;simp only at *;omega
theorem Wd.US (w:Wd PT st0 st p L x d r l os) {a:Nat} {t:TypeId} {cs:List AV} (h:(a,t,cs)∈l):st.ro≤a:=by
 have h1:=(w.v _ h).2;have h2:=w.ro0;rw [w.k.ro];exact VZ h2 h1
theorem E2 {v:AV} {es:List AV} {j:Nat} {z:Nat} {t:TypeId} (h:jq st z t v es) (hj:ew v j):j < st.h∧ ∃n e,st.get j= .ok (.tok n e):=by
 obtain ⟨z',es',rfl⟩:=hj;rcases h.2.2 with ⟨h | h,_⟩ | h | ⟨k,h,hg,_⟩
 ·cases h
 ·cases h
 ·cases h
 ·cases h;exact ⟨(St.cC.1 hg).1,_,_,hg⟩
theorem Wd.keeps (w:Wd PT st0 st p L x d r l os) {but:Nat→Prop} (k:aX st st' but) (hb: ∀j,but j→j=p∨st.h≤j) (pz:Pz PT st' p L x d' r'):Wd PT st0 st' p L x d' r' l os where
 pz:=pz
 k:=aX.join w.k k fun j hj=>by
  rcases hb j hj with h | h
  ·exact .inl h
  ·exact .inr (VZ w.h h)
 v:=fun q hq=>⟨k.old _ _ (fun f=>by
  have h1:=(St.cC.1 (w.v q hq).1).1;have h2:=(w.v q hq).2;have h3:=w.p0;rcases hb _ f with h | h <;> omega) (w.v q hq).1,(w.v q hq).2⟩
 nd:=w.nd
 o:=fun q hq=>⟨px (w.o q hq).1 k fun j hj f=>by
  obtain ⟨h1,n,e,hg⟩:=E2 (w.o q hq).1 hj;have h2:=(w.o q hq).2 j hj;have h3:=w.p0;rcases hb _ f with h | h <;> omega,(w.o q hq).2⟩
 od:=w.od
 p0:=w.p0
 ro0:=w.ro0
theorem Wd.quiet (w:Wd PT st0 st p L x d r l os) (k:aX st st' (fun _=>False)):Wd PT st0 st' p L x d r l os:=
 w.keeps k (fun _ f=>f.elim) (w.pz.keeps k (fun f=>f))
theorem Wd.move (w:Wd PT st0 st p L x d r l os) (k:aX st st' (· =p)) (pz:Pz PT st' p L x d' r'):Wd PT st0 st' p L x d' r' l os:=
 w.keeps k (fun _ e=> .inl e) pz
theorem Wd.alloc (w:Wd PT st0 st p L x d r l os) (t:TypeId) (cs:List AV):Wd PT st0 (st.add (.cells t cs)) p L x d r ((st.h,t,cs)::l) os:=by
 have w':=w.quiet (aX.add st (.cells t cs) _);refine ⟨w'.pz,w'.k,fun q hq=> ?_, ?_,w'.o,w'.od,w.p0,w.ro0⟩
 ·rcases Vv.1 hq with rfl | hq
  ·exact ⟨St.ey,w.h⟩
  ·exact w'.v q hq
 ·rw [Vu,WX];refine ⟨fun hm=> ?_,w.nd⟩;obtain ⟨q,hq,e⟩:=We.1 hm;have h1:=(St.cC.1 (w.v q hq).1).1;simp only at e;omega
theorem Wd.putAt {a:Nat} {t t':TypeId} {old:List AV} (w:Wd PT st0 st p L x d r (l1++(a,t,old)::l2) os) (cs:List AV):Wd PT st0 (st.put a (.cells t' cs)) p L x d r (l1++(a,t',cs)::l2) os:=by
 have hm:(a,t,old)∈l1++(a,t,old)::l2:=List.mem_append_right _ Vp;have hg:=w.get hm;have hap:=w.ne hm;have k:aX st (st.put a (.cells t' cs)) (· =a):=aX.put rfl;have hnd:=w.nd;rw [VT,Vu] at hnd;refine ⟨w.pz.keeps k (fun e=>hap e.symm),aX.join w.k k fun j hj=> .inr (by have:=(w.v _ hm).2;simp only at this;omega),fun q hq=> ?_,by rw [VT,Vu];exact hnd,fun q hq=>⟨(w.o q hq).1.put hg,(w.o q hq).2⟩,w.od,w.p0,w.ro0⟩;have other: ∀q∈l1++(a,t,old)::l2,q.1≠a→(st.put a (.cells t' cs)).get q.1= .ok (.cells q.2.1 q.2.2)∧st0.h≤q.1:=fun q hq hne=>
  ⟨k.old _ _ hne (w.v q hq).1,(w.v q hq).2⟩
 rcases VE.1 hq with hq | hq
 ·refine other q (List.mem_append_left _ hq) fun e=> ?_;have:=(List.nodup_append.1 hnd).2.2 q.1 (List.mem_map_of_mem hq) a Vp;exact this e
 ·rcases Vv.1 hq with rfl | hq
  ·exact ⟨St.aS (St.cC.1 hg).1,(w.v _ hm).2⟩
  ·refine other q (List.mem_append_right _ (Vy _ hq)) fun e=> ?_;have h1:=(WX.1 (List.nodup_append.1 hnd).2.1).1;have h2:q.1∈l2.map (·.1):=List.mem_map_of_mem hq;rw [e] at h2;exact h1 h2
theorem Wd.store {a:Nat} {t:TypeId} {old:List AV} (l1:List Vr) (w:Wd PT st0 st p L x d r (l1++(a,t,old)::l2) os) {z:Nat} (hz:old.length=z) (v:AV) (cs:List AV) (hc:cs.length=z):
  ∃st' fx,Wd PT st0 st' p L x d r (l1++(a,t,cs)::l2) os∧ ∀{β:Type} (K:Kv β),aD (aA vE) z (.mp a 0) v cs st K=K VM.undef st' fx:=by
 have hm:(a,t,old)∈l1++(a,t,old)::l2:=List.mem_append_right _ Vp;exact ⟨st.put a (.cells t cs),⟨[a],.wrote a (.cells t cs)⟩,w.putAt cs,fun K=>by rw [eF (w.get hm) hc (by omega) (w.US hm),jO (by omega)]⟩
theorem Wd.mT {a:Nat} {t:TypeId} {old:List AV} (l1:List Vr) (w:Wd PT st0 st p L x d r (l1++(a,t,old)::l2) os) (off:Nat) (v:AV) (hl:off+1≤old.length):
  ∃st' fx,Wd PT st0 st' p L x d r (l1++(a,t,cO old off [v])::l2) os∧ ∀{β:Type} (K:Kv β),aD (aA vE) 1 (.mp a off) v [v] st K=K VM.undef st' fx:=by
 have hm:(a,t,old)∈l1++(a,t,old)::l2:=List.mem_append_right _ Vp;exact ⟨st.put a (.cells t (cO old off [v])),⟨[a],.wrote a (.cells t (cO old off [v]))⟩,w.putAt _,fun K=>eF (cs:=[v]) (z:=1) (w.get hm) rfl hl (w.US hm) K⟩
theorem Wd.sub {l':List Vr} (w:Wd PT st0 st p L x d r l os) (h:List.Sublist l' l):Wd PT st0 st p L x d r l' os:=
 ⟨w.pz,w.k,fun q hq=>w.v q (h.subset hq),(h.map _).nodup w.nd,w.o,w.od,w.p0,w.ro0⟩
theorem Wd.drop {o:AV×List AV} (w:Wd PT st0 st p L x d r l (o::os)):Wd PT st0 st p L x d r l os:=
 ⟨w.pz,w.k,w.v,w.nd,fun q hq=>w.o q (Vy _ hq),(Ww.1 w.od).2,w.p0,w.ro0⟩
theorem Wd.loose {v:AV} {es:List AV} (w:Wd PT st0 st p L x d r l os) (h:jq st 4 ND v es) (hn: ∀j,¬ ew v j):Wd PT st0 st p L x d r l ((v,es)::os):=
 ⟨w.pz,w.k,w.v,w.nd,fun q hq=>by
  rcases Vv.1 hq with rfl | hq
  ·exact ⟨h,fun j hj=>absurd hj (hn j)⟩
  ·exact w.o q hq,Ww.2 ⟨fun _ _ j hj=>absurd hj (hn j),w.od⟩,w.p0,w.ro0⟩
theorem Wd.aG (w:Wd PT st0 st p L x d r l os):Wd PT st0 st p L x d r l ((.aG,[])::os):=w.loose (jq.aG w.ro 4 ND) fun _ h=>by obtain ⟨_,_,e⟩:=h;cases e
theorem Wd.shut (w:Wd PT st0 st p L x d r l os) {es:List AV} (h:es.length≤1000):Wd PT st0 st p L x d r l ((.sl 4 es .shut,es)::os):=w.loose (jq.shut w.ro ND (by omega)) fun _ h=>by obtain ⟨_,_,e⟩:=h;cases e
theorem Wd.app {v:AV} {es:List AV} (w:Wd PT st0 st p L x d r l ((v,es)::os)) (new:List AV) (hn:new≠[]) (hl:es.length+new.length≤1000000000):
  ∃v' st' fx,Wd PT st0 st' p L x d r l ((v',es++new)::os)∧ ∀{β:Type} (K:Kv β),eD 4 56 ND v new st K=K v' st' fx:=by
 have ho:=w.o (v,es) Vp;obtain ⟨v',s2,fx,e,o2,k2,f2⟩:=qK (b:=56) (new:=new) ho.1 hn (tJ (by simpa using hl) (by omega) (by omega));have hp:¬ ew v p:=by
  obtain ⟨i,h,_⟩:=w.pz;exact ho.1.not h.get
 refine ⟨v',s2,fx,⟨w.pz.keeps k2 hp,aX.join w.k k2 fun j hj=> .inr (ho.2 j hj),fun q hq=>⟨k2.old _ _ (ho.1.not (w.v q hq).1) (w.v q hq).1,(w.v q hq).2⟩,w.nd,fun q hq=> ?_, ?_,w.p0,w.ro0⟩,fun K=>mB e K⟩
 ·rcases Vv.1 hq with rfl | hq
  ·refine ⟨o2,fun j hj=> ?_⟩;rcases f2 j hj with h | h
   ·exact ho.2 j h
   ·exact VZ w.h h
  ·have hq':=w.o q (Vy _ hq);exact ⟨px hq'.1 k2 fun j hj f=>(Ww.1 w.od).1 q hq j f hj,hq'.2⟩
 ·refine Ww.2 ⟨fun q hq j hj hj'=> ?_,(Ww.1 w.od).2⟩;rcases f2 j hj with h | h
  ·exact (Ww.1 w.od).1 q hq j h hj'
  ·have:=(E2 (w.o q (Vy _ hq)).1 hj').1;omega
theorem Wd.R5 {v:AV} {es:List AV} (w:Wd PT st0 st p L x d r l ((v,es)::os)):CJ v es:=CJ.own (w.o (v,es) Vp).1
end
section
variable {β:Type} {Q:β→Prop}
def NQ (PT:TypeId) (st:St) (p:Nat) (L:List bc) (x:AV) (d:Nat) (t:T) (r':List bc):AV×St→Prop:=fun b=>VN t b.1∧gv t≤1000000000000000∧Pz PT b.2 p L x d r'∧aX st b.2 (· =p)
abbrev NW (PT:TypeId) (F:FuncId) (args:List AV) (st:St) (p:Nat) (L:List bc) (x:AV) (d:Nat) (t:T) (r':List bc):Prop:=ad ((aA vE).wide F args st) (NQ PT st p L x d t r')
variable {PT:TypeId} {st0 st:St} {p:Nat} {L:List bc} {x:AV} {d:Nat} {r r':List bc} {l l1 l2:List Vr} {os:List (AV×List AV)} {t:T}
theorem _root_.Go.VM.ad.node {F:FuncId} {args:List AV} (w:Wd PT st0 st p L x d r l os) (hc:NW PT F args st p L x d t r') (h1:vE.isLook F=false) (h2:(bx (args.map strip)&& !vE.full F)=false) {K:Int→Int→List UInt8→AV→St→Fx→Option β}
  (g: ∀(k tk:Nat) (tx:List UInt8) (y:AV) (s:St),Nd t k tk tx y→gv t≤1000000000000000→Wd PT st0 s p L x d r' l os→ad (K (k:Int) (tk:Int) tx y s ⟨[],.all st s⟩) Q):
  ad (al (aA vE) F args st fun v s fx=>CK v fun a b c y=>K a b c y s fx) Q:=
 ad.mF hc h1 h2 fun v s h=>by
  obtain ⟨hv,hd,hp,hk⟩:=h;obtain ⟨k,tk,tx,y,rfl,hn⟩:=hv.cells;exact ad.step (oT ..) (g k tk tx y s hn hd (w.move hk hp))
theorem _root_.Go.VM.ad.alloc (w:Wd PT st0 st p L x d r l os) {ty:TypeId} {cs:List AV} {K:St→Option β} (g: ∀s,s.h=st.h+1→Wd PT st0 s p L x d r ((st.h,ty,cs)::l) os→ad (K s) Q):ad (bR (st.add (.cells ty cs)) K) Q:=
 g _ rfl (w.alloc ty cs)
theorem _root_.Go.VM.ad.store (l1:List Vr) {a:Nat} {ty:TypeId} {old:List AV} (w:Wd PT st0 st p L x d r (l1++(a,ty,old)::l2) os) {z:Nat} {v:AV} {cs:List AV} {K:Kv β}
  (g: ∀s fx,Wd PT st0 s p L x d r (l1++(a,ty,cs)::l2) os→ad (K VM.undef s fx) Q) (hz:old.length=z:=by rfl) (hc:cs.length=z:=by rfl):ad (aD (aA vE) z (.mp a 0) v cs st K) Q:=by
 obtain ⟨s,fx,w',e⟩:=w.store l1 hz v cs hc;exact ad.step (e K) (g s fx w')
theorem _root_.Go.VM.ad.mT (l1:List Vr) {a:Nat} {ty:TypeId} {old:List AV} (w:Wd PT st0 st p L x d r (l1++(a,ty,old)::l2) os) {off:Nat} {v:AV} (hl:off+1≤old.length) {K:Kv β}
  (g: ∀s fx,Wd PT st0 s p L x d r (l1++(a,ty,cO old off [v])::l2) os→ad (K VM.undef s fx) Q):ad (aD (aA vE) 1 (.mp a off) v [v] st K) Q:=by
 obtain ⟨s,fx,w',e⟩:=w.mT l1 off v hl;exact ad.step (e K) (g s fx w')
theorem _root_.Go.VM.ad.nO {a:Nat} {ty:TypeId} {cs:List AV} (hm:(a,ty,cs)∈l) (w:Wd PT st0 st p L x d r l os) {o:Nat} {v:AV} {post:List AV} (hv:cs.drop o=v::post) {K:AV→List Nat→Option β} (g:ad (K v [a]) Q):ad (ay 1 false (.mp a o) st K) Q:=by
 refine ad.step (bm (w.get hm) _ _ _ _) ?_;rw [hv];exact g
theorem _root_.Go.VM.ad.lK {a:Nat} {ty:TypeId} {k tk:Int} {tx:List UInt8} {y:AV} (hm:(a,ty,[.int .u8 k,.int .u8 tk,.str tx,y])∈l) (w:Wd PT st0 st p L x d r l os) {K:Int→Int→List UInt8→AV→List Nat→Option β} (g:ad (K k tk tx y [a]) Q):ad (ay 4 true (.mp a 0) st fun v rd=>CK v fun a b c y=>K a b c y rd) Q:=by
 refine ad.step (bm (w.get hm) _ _ _ _) ?_;exact ad.step (oT ..) g
theorem _root_.Go.VM.ad.RQ {a:Nat} {ty:TypeId} {u v:AV} (hm:(a,ty,[u,v])∈l) (w:Wd PT st0 st p L x d r l os) {K:AV→List Nat→Option β} (g:ad (K (.agg [u,v]) [a]) Q):ad (ay 2 true (.mp a 0) st K) Q:=
 ad.step (bm (w.get hm) _ _ _ _) g
theorem _root_.Go.VM.ad.res (l1:List Vr) {a:Nat} {old:List AV} (w:Wd PT st0 st p L x d r (l1++(a,ND,old)::l2) os) (ho:old.length=4) {k tk:Nat} {tx:List UInt8} {y:AV} (hn:Nd t k tk tx y) (hd:gv t≤1000000000000000):
  ad (af y (aD (aA vE) 4 (.mp a 0) (.agg [.int .u8 (k:Int),.int .u8 (tk:Int),.str tx,y]) [.int .u8 (k:Int),.int .u8 (tk:Int),.str tx,y] st fun _ s _=>ay 4 true (.mp a 0) s fun v _=>CK v fun n1 n2 s1 y=>some (.agg [.int .u8 n1,.int .u8 n2,.str s1,y],s))) (NQ PT st0 p L x d t r):=by
 refine ad.step (hn.af _) (ad.store l1 w (fun s fx w'=> ?_) ho);exact ad.lK (List.mem_append_right _ Vp) w' (ad.some ⟨hn.vn,hd,w'.pz,w'.k⟩)
theorem _root_.Go.VM.ad.J0 (l1:List Vr) {a:Nat} {old:List AV} (w:Wd PT st0 st p L x d r (l1++(a,ND,old)::l2) os) (ho:old.length=4) {k tk:Nat} {tx:List UInt8} {y:AV} (hn:Nd t k tk tx y) (hd:gv t≤1000000000000000):
  ad (aD (aA vE) 4 (.mp a 0) (.agg [.int .u8 (k:Int),.int .u8 (tk:Int),.str tx,y]) [.int .u8 (k:Int),.int .u8 (tk:Int),.str tx,y] st fun _ s _=>ay 4 true (.mp a 0) s fun v _=>CK v fun n1 n2 s1 y=>some (.agg [.int .u8 n1,.int .u8 n2,.str s1,y],s)) (NQ PT st0 p L x d t r):=by
 have h:=ad.res l1 w ho hn hd;rw [hn.af] at h;exact h
theorem _root_.Go.VM.ad.fit {k tk:Nat} {tx:List UInt8} {y:AV} (hn:Nd t k tk tx y) {K:AV→Option β} (g: ∀y',jZ t (.agg [.int .u8 (k:Int),.int .u8 (tk:Int),.str tx,y'])→VM.one y'=true→(∀{γ:Type} (K:AV→Option γ),aJ y' K=K y')→ad (K y') Q):ad (af y (aJ y K)) Q:=by
 obtain ⟨l,es,rfl,hk,hns⟩:=hn.ex;obtain ⟨y',hx,hf⟩:=hk.fit;refine ad.step (hk.af _) (ad.step (hf K) (g y' ?_ hx.one fun K=>hx.aJ K));simp only [jZ];exact ⟨y',es,rfl,hx,hns⟩
theorem _root_.Go.VM.ad.two {k tk:Nat} {tx:List UInt8} {y:AV} (hn:Nd t k tk tx y) {e:Option β} (g:ad e Q):ad (af y e) Q:=ad.step (hn.af e) g
theorem _root_.Go.VM.ad.app {v:AV} {es new:List AV} (w:Wd PT st0 st p L x d r l ((v,es)::os)) (hn:new≠[]) (hl:es.length+new.length≤1000000000) {K:Kv β} (g: ∀v' s fx,VM.one v'=true→Wd PT st0 s p L x d r l ((v',es++new)::os)→ad (K v' s fx) Q):ad (eD 4 56 ND v new st K) Q:=by
 obtain ⟨v',s,fx,w',e⟩:=w.app new hn hl;exact ad.step (e K) (g v' s fx w'.R5.one w')
theorem Wd.same {a:Nat} {s:St} {k tk:Int} {tx:List UInt8} {v:AV} {es:List AV} {ts:List T} (w:Wd PT st0 st p L x d r l os) (w':Wd PT st0 s p L x d r' l os) (hm:(a,ND,[.int .u8 k,.int .u8 tk,.str tx,v])∈l) (hk:CJ v es) (hn:bq ts es) (hd:fq ts≤1000000000000000):apart ⟨[a],.kept⟩ ⟨[],.all st s⟩=true:=by
 have hv:Rf (2 * fq ts+1) v:=by
  have he:=bq.rf hn;rcases hk with hx | ⟨_,k,rfl⟩
  ·rcases hx.2 with ⟨rfl | rfl,rfl⟩ | rfl | rfl
   ·exact BE.mono (by omega)
   ·exact JR.mono (by omega)
   ·exact vm he
   ·exact vm he
  ·exact vm he
 refine IV (H9 (w.get hm) (w'.get hm) (d:=2 * fq ts+1) (fun c hc=> ?_) (by omega));simp only [Vv,VJ,or_false] at hc;rcases hc with rfl | rfl | rfl | rfl
 ·exact (ue _ _).mono (by omega)
 ·exact (ue _ _).mono (by omega)
 ·exact (E6 _).mono (by omega)
 ·exact hv
theorem Wd.tm {a:Nat} {s:St} {k tk:Nat} {tx:List UInt8} {v:AV} (w:Wd PT st0 st p L x d r l os) (w':Wd PT st0 s p L x d r' l os) (hm:(a,ND,[.int .u8 (k:Int),.int .u8 (tk:Int),.str tx,v])∈l) (hn:Nd t k tk tx v) (hd:gv t≤1000000000000000):apart ⟨[a],.kept⟩ ⟨[],.all st s⟩=true:=by
 obtain ⟨ts,es,rfl,hk,hns⟩:=hn.ex;simp only [gv] at hd;exact w.same w' hm hk hns (by omega)
theorem _root_.Go.VM.ad.grow (l1:List Vr) {F:FuncId} {args:List AV} {a:Nat} {k tk:Int} {tx:List UInt8} {v:AV} {es:List AV} {ts:List T}
  (w:Wd PT st0 st p L x d r (l1++(a,ND,[.int .u8 k,.int .u8 tk,.str tx,v])::l2) ((v,es)::os)) (hc:NW PT F args st p L x d t r') (h1:vE.isLook F=false) (h2:(bx (args.map strip)&& !vE.full F)=false)
  (hns:bq ts es) (hdep:fq ts≤1000000000000000) (hl:ts.length≤100000000) {K:St→Option β}
  (g: ∀v' e s,bq (ts++[t]) (es++[e])→fq (ts++[t])≤1000000000000000→Wd PT st0 s p L x d r' (l1++(a,ND,[.int .u8 k,.int .u8 tk,.str tx,v'])::l2) ((v',es++[e])::os)→ad (K s) Q):
  ad (ay 1 false (.mp a 3) st fun v rd=>al (aA vE) F args st fun u s x=>CK u fun n1 n2 tx y=>dJ (apart ⟨rd,.kept⟩ x&&(apart ⟨[],.kept⟩ x&&true)) (af y (af y (aJ y fun y=>af y (aJ y fun y=>eD 4 56 ND v [.agg [.int .u8 n1,.int .u8 n2,.str tx,y]] s fun v s _=>af v (af v (aD (aA vE) 1 (.mp a 3) v [v] s fun _ s _=>K s))))))) Q:=by
 have hm:(a,ND,[AV.int .u8 k,.int .u8 tk,.str tx,v])∈l1++(a,ND,[AV.int .u8 k,.int .u8 tk,.str tx,v])::l2:=List.mem_append_right _ Vp;refine ad.nO hm w rfl (ad.node w hc h1 h2 fun k' tk' tx' y s hn hd w'=> ?_);have hap:=w.same w' hm w.R5 hns hdep;refine ad.step (kO (by rw [hap];rfl) _) (ad.two hn (ad.fit hn fun y' hN h1 hf=>ad.one h1 (ad.step (hf _) (ad.app w' (by simp) (by rw [bq.len hns];simp;omega) fun v' s' fx ho w2=> ?_))));refine ad.one ho (ad.one ho (ad.mT l1 w2 (VA rfl) fun s3 fx3 w3=> ?_));exact g v' _ s3 (bq.app hns (bq.cons hN bq.nil)) (by rw [cU,bp];omega) w3
end
abbrev PP:TypeId:=89
section
variable {β:Type} {Q:β→Prop} {st0 st:St} {p:Nat} {L:List bc} {x:AV} {d d':Nat} {r r':List bc} {l l1 l2:List Vr} {os:List (AV×List AV)} {t:T}
theorem _root_.Go.VM.ad.is (ss:List (List UInt8)) (hs:ss.length≤1000) (w:Wd PP st0 st p L x d r l os) {K:Bool→St→Fx→Option β} (g: ∀s,Wd PP st0 s p L x d r l os→ad (K (isAny ss r) s ⟨[],.all st s⟩) Q):
  ad (al (aA vE) 80 [.mp p 0,.sl 1 (ss.map AV.str) .shut] st fun v s fx=>cJ v fun b=>K b s fx) Q:=by
 obtain ⟨i,h,rfl⟩:=w.pz;obtain ⟨s,k,e⟩:=CC h (nr ss hs);exact ad.step (e _) (g s (w.quiet k))
theorem _root_.Go.VM.ad.Jr {s0:List UInt8} (w:Wd PP st0 st p L x d r l os) {K:Bool→St→Fx→Option β} (g: ∀s,Wd PP st0 s p L x d r l os→ad (K (dV s0 r) s ⟨[],.all st s⟩) Q):
  ad (al (aA vE) 80 [.mp p 0,.sl 1 [.str s0] .shut] st fun v s fx=>cJ v fun b=>K b s fx) Q:=
 ad.is [s0] (by simp) w fun s w'=>by rw [zX];exact g s w'
theorem _root_.Go.VM.ad.dp (pat:Bool) (w:Wd PP st0 st p L x d r l os) {K:Bool→St→Fx→Option β} (g: ∀s,Wd PP st0 s p L x d r l os→ad (K (dp pat r) s ⟨[],.all st s⟩) Q):
  ad (al (aA vE) 118 [.mp p 0,.int .u8 (rz pat:Int),.str (ry pat)] st fun v s fx=>cJ v fun b=>K b s fx) Q:=by
 obtain ⟨i,h,rfl⟩:=w.pz;obtain ⟨s,k,e⟩:=Dm h pat
 exact ad.step (e _) (g s (w.quiet k))
theorem _root_.Go.VM.ad.next (w:Wd PP st0 st p L x d r l os) {K:St→St→Option β} (g: ∀s s',Wd PP st0 s' p L x d r ((s.h,24,[.int .u8 ((nx r).1:Int),.str (nx r).2])::l) os→ad (K s s') Q):
  ad (al (aA vE) 79 [.mp p 0] st fun v s _=>gK v fun vs=>cE vs 0 fun u=>zH u fun cs=>bE cs fun a cs=>bU .u8 a fun n=>bE cs fun b cs=>eU b fun tx=>cj cs (gK v fun vs=>cE vs 1 fun u=>bU .i64 u fun _=>bR (St.add s (.cells 24 [.int .u8 0,.str []])) fun s1=>aD (aA vE) 2 (.mp (St.h s) 0) (.agg [.int .u8 n,.str tx]) [.int .u8 n,.str tx] s1 fun _ s' _=>K s s')) Q:=by
 obtain ⟨i,h,rfl⟩:=w.pz;obtain ⟨s,k,e⟩:=nB h;refine ad.step (e _) ?_;simp only [bw,aU,bj,az,ag,ai,ao,ah];refine ad.alloc (w.quiet k) fun s1 _ w1=> ?_;exact ad.store [] w1 fun s2 fx w2=>g s s2 w2
theorem iz (h:Pz PP st p L x d r):NW PP 81 [.mp p 0] st p L x d (aR r) (aQ r):=by
 obtain ⟨i,h,rfl⟩:=h;obtain ⟨v,s,e,hv,hp,hk⟩:=G8 h;exact ⟨(v,s),e,hv,VZ (db _) (by omega),⟨_,hp,(yC L i).symm⟩,hk⟩
theorem oN (h:Pz PP st p L x d r) (s:List UInt8):NW PP 120 [.mp p 0,.str s] st p L x d (da s r) (bk s r):=by
 obtain ⟨i,h,rfl⟩:=h;obtain ⟨v,s',i',e,hv,hp,hr,hk⟩:=MA h s;exact ⟨(v,s'),e,hv,VZ (gf _ _) (by omega),⟨_,hp,hr⟩,hk⟩
theorem _root_.Go.VM.ad.take (w:Wd PP st0 st p L x d r l os) {K:Int→Int→List UInt8→AV→St→Fx→Option β}
  (g: ∀(k tk:Nat) (tx:List UInt8) (y:AV) (s:St),Nd (aR r) k tk tx y→gv (aR r)≤1000000000000000→Wd PP st0 s p L x d (aQ r) l os→ad (K (k:Int) (tk:Int) tx y s ⟨[],.all st s⟩) Q):
  ad (al (aA vE) 81 [.mp p 0] st fun v s fx=>CK v fun a b c y=>K a b c y s fx) Q:=ad.node w (iz w.pz) rfl rfl g
theorem _root_.Go.VM.ad.xk (w:Wd PP st0 st p L x d r l os) {s0:List UInt8} {K:Int→Int→List UInt8→AV→St→Fx→Option β}
  (g: ∀(k tk:Nat) (tx:List UInt8) (y:AV) (s:St),Nd (da s0 r) k tk tx y→gv (da s0 r)≤1000000000000000→Wd PP st0 s p L x d (bk s0 r) l os→ad (K (k:Int) (tk:Int) tx y s ⟨[],.all st s⟩) Q):
  ad (al (aA vE) 120 [.mp p 0,.str s0] st fun v s fx=>CK v fun a b c y=>K a b c y s fx) Q:=ad.node w (oN w.pz s0) rfl rfl g
theorem _root_.Go.VM.ad.Ru {i o n:Nat} {K:AV→Option β} (g:ad (K (.mp i (o+n))) Q):ad (dJ (notNil (.mp i o)) (fU n (.mp i o) K)) Q:=g
theorem _root_.Go.VM.ad.Hl {PT:TypeId} (w:Wd PT st0 st p L x d r l os) {K:AV→List Nat→Option β} (g:ad (K (.int .i64 (d:Int)) [p]) Q):ad (ay 1 false (.mp p 2) st K) Q:=by
 obtain ⟨i,h,rfl⟩:=w.pz;exact ad.step (bm h.get _ _ _ _) g
theorem _root_.Go.VM.ad.deep {PT:TypeId} (d':Nat) (w:Wd PT st0 st p L x d r l os) {K:Kv β} (g: ∀s fx,Wd PT st0 s p L x d' r l os→ad (K VM.undef s fx) Q):ad (aD (aA vE) 1 (.mp p 2) (.int .i64 (d':Int)) [.int .i64 (d':Int)] st K) Q:=by
 obtain ⟨i,h,rfl⟩:=w.pz;refine ad.step (eF (cs:=[.int .i64 (d':Int)]) (z:=1) (off:=2) h.get rfl (VA rfl) h.ro K) (g _ _ ?_);have k:aX st (st.put p (.cells PT (cO [x,.int .i64 (i:Int),.int .i64 (d:Int)] 2 [.int .i64 (d':Int)]))) (· =p):=aX.put rfl;exact w.move k ⟨i,⟨St.aS (St.cC.1 h.get).1,h.sl,h.le,h.len,by rw [k.ro];exact h.ro⟩,rfl⟩
theorem pS {k:Nat} {es:List AV} {ts:List T} (h:bq ts es) (hl:es.length≤1000):Nd (node k ts) k 0 [] (.sl 4 es .shut):=⟨⟨ts,es,rfl,.inl (bu.shut (by omega)),h⟩⟩
theorem vi {t:T} {e:AV} (h:jZ t e):bq [t] [e]:=bq.cons h bq.nil
theorem Dz {t u:T} {e f:AV} (h:jZ t e) (h':jZ u f):bq [t,u] [e,f]:=bq.cons h (vi h')
theorem JN {t u v:T} {e f g:AV} (h:jZ t e) (h':jZ u f) (h'':jZ v g):bq [t,u,v] [e,f,g]:=bq.cons h (Dz h' h'')
theorem pM (f:AV) (s0:List UInt8) (h:Pz PP st p L x 64 r):NW PP 172 [.mp p 0,.str s0,f] st p L x 64 (kZ s0 r) (kW r):=by
 refine ad.wide (ad.step (Hg _ _ _ _) ?_);unfold Qw;refine ad.step (ao _ _) (ad.alloc (Wd.begin h) fun s1 _ w=> ?_);refine ad.Ru (ad.Hl w ?_);refine ad.step (ai _ _ _) ?_;refine ad.next w fun s2 s3 w=> ?_;refine ad.nO (Vp) w rfl (ad.step (ai _ _ _) ?_);unfold kZ kW;by_cases h0:(nx r).1=0
 ·rw [if_pos h0,if_pos h0,show (((nx r).1:Int)==0)=true by rw [h0];rfl];refine ad.step (aF _ _) (ad.step (nQ _ _ _) ?_);refine ad.res [_] (old:=[.int .u8 0,.int .u8 0,.str [],.aG]) w rfl (sc s0) ?_;rw [kg];omega
 ·rw [if_neg h0,if_neg h0,show (((nx r).1:Int)==0)=false from VX.2 (by omega)];refine ad.step (aB _ _) (ad.take w fun k tk tx y s hn hd w=> ?_);refine ad.two hn (ad.fit hn fun y' hN _ _=> ?_);refine ad.J0 [_] (old:=[.int .u8 0,.int .u8 0,.str [],.aG]) w rfl (pS (vi hN) (by simp)) ?_;rw [cu,bp];have:=db r;omega
theorem uy {f:AV} {F:FuncId} {args:List AV} (s0:List UInt8) (h:Pz PP st p L x d r) (hd:d < 64) (h1:vE.isLook F=false) (h2:(bx (args.map strip)&& !vE.full F)=false)
  (hf: ∀{β:Type} (s:St) (K:Kv β),jf (aA vE) (Sx.prim (sx vE 172)) f [] s K=al (aA vE) F args s K)
  (hc: ∀s,aX st s (· =p)→Pz PP s p L x (d+1) r→NW PP F args s p L x (d+1) t r'):NW PP 172 [.mp p 0,.str s0,f] st p L x d t r':=by
 refine ad.wide (ad.step (Hg _ _ _ _) ?_);unfold Qw;refine ad.step (ao _ _) (ad.alloc (Wd.begin h) fun s1 _ w=> ?_);refine ad.Ru (ad.Hl w ?_);refine ad.step (ai _ _ _) ?_;rw [show ((d:Int)==64)=false from VX.2 (by omega)];refine ad.step (aB _ _) (ad.Ru (ad.Hl w ?_));refine ad.step (ai _ _ _) ?_;rw [aK,df (by omega)];refine ad.Ru (ad.deep (d+1) w fun s2 fx w=> ?_);refine ad.step (hf _ _) (ad.node w (hc s2 w.k w.pz) h1 h2 fun k tk tx y s hn hd' w=> ?_);refine ad.alloc w fun s3 _ w=>ad.two hn ?_;refine ad.store [] w fun s4 fx w=> ?_;refine ad.Ru (ad.Hl w ?_);refine ad.step (ai _ _ _) ?_;rw [aK,show ((d+1:Nat):Int) - 1=((d+1:Nat):Int) - ((1:Nat):Int) from rfl,JV (by omega) (by omega),Nat.add_sub_cancel];refine ad.Ru (ad.deep d w fun s5 fx w=> ?_);refine ad.lK (Vp) w ?_;exact ad.res [_] (old:=[.int .u8 0,.int .u8 0,.str [],.aG]) w rfl hn hd'
end
def ra (F:FuncId) (more:Nat→List AV) (job:lC) (n:Nat):Prop:= ∀(st:St) (p:Nat) (L:List bc) (x:AV) (d:Nat) (r:List bc) (t:T) (r':List bc),Pz PP st p L x d r→d≤64→P n job d r=some ([t],r')→NW PP F (.mp p 0::more p) st p L x d t r'
def KO (pat:Bool):FuncId:=match pat with | true=>169 | false=>121
def yQ (pat:Bool) (p:Nat):AV:= .fn (.func (KO pat)) [.mp p 0] []
def BQ (PT:TypeId) (st:St) (p:Nat) (L:List bc) (x:AV) (d:Nat) (ts:List T) (r':List bc):AV×St→Prop:=fun b=> ∃es,jq b.2 4 ND b.1 es∧(∀j,ew b.1 j→st.h≤j)∧bq ts es∧fq ts≤1000000000000000∧Pz PT b.2 p L x d r'∧aX st b.2 (· =p)
def Lu (n:Nat):Prop:= ∀(st:St) (p:Nat) (L:List bc) (x:AV) (d:Nat) (r:List bc) (ts:List T) (r':List bc),Pz PP st p L x d r→d≤64→P n .binding d r=some (ts,r')→ad ((aA vE).wide 82 [.mp p 0] st) (BQ PP st p L x d ts r')
structure IH (n:Nat):Prop where
 expr:ra 121 (fun _=>[]) .expr n
 whole:ra 173 (fun _=>[]) .whole n
 level: ∀k:Nat,k≤7→ra 203 (fun _=>[.int .i64 (k:Int)]) (.level k) n
 neg:ra 220 (fun _=>[]) .neg n
 atom: ∀pat,ra 119 (fun _=>[.bool pat]) (.atom pat) n
 closed: ∀list pat,ra 171 (fun p=>[.int .u8 (kindOf list pat:Int),.str (uu list),.str (je list),yQ pat p]) (.closed list pat) n
 pattern:ra 169 (fun _=>[]) .pattern n
 arm:ra 202 (fun _=>[]) .arm n
 binding:Lu n
theorem Ft {n:Nat} (hn:n≤10000000) {job:lC} {d:Nat} {r:List bc} {l:List T} {r':List bc} (h:P n job d r=some (l,r')) (ha:lg job=[]):fq l≤100000020000000:=by
 have:=O2 n job d r l r' h;rw [ha,bg] at this;have hq:n * n≤10000000 * 10000000:=Xm hn hn;omega
theorem iU {n:Nat} (hn:n≤10000000) {job:lC} {d:Nat} {r:List bc} {t:T} {r':List bc} (h:P n job d r=some ([t],r')) (ha:lg job=[]):gv t≤100000020000000:=by
 have:=Ft hn h ha
 rwa [bp] at this
section
variable {β:Type} {Q:β→Prop} {st0 st:St} {p:Nat} {L:List bc} {x:AV} {d d':Nat} {r r':List bc} {l l1 l2:List Vr} {os:List (AV×List AV)} {t:T}
abbrev z4:List AV:=[.int .u8 0,.int .u8 0,.str [],.aG]
theorem Ic {n:Nat} (ih:IH n):ra 121 (fun _=>[]) .expr (n+1):=by
 intro st p L x d r t r' hp hd h;simp only [P] at h;refine ad.wide (ad.step (Ox _ _) ?_);unfold SY;refine ad.alloc (Wd.begin hp) fun s1 _ w=> ?_;split at h
 ·rename_i hd;subst hd;cases h;exact ad.node w (pM _ _ w.pz) rfl rfl fun k tk tx y s hn hd w=>ad.res [] (old:=z4) w rfl hn hd
 ·exact ad.node w (uy (F:=173) (args:=[.mp p 0]) _ w.pz (by omega) rfl rfl (fun _ _=>rfl) fun s _ hp=>ih.whole s p L x (d+1) r t r' hp (by omega) h) rfl rfl fun k tk tx y s hn hd w=>ad.res [] (old:=z4) w rfl hn hd
def Nv (PT:TypeId) (st0 s:St) (p:Nat) (L:List bc) (x:AV) (d:Nat) (r:List bc) (a b:Nat) (t:T):Prop:= ∃(k tk:Nat) (tx:List UInt8) (y:AV),Wd PT st0 s p L x d r [(a,ND,[.int .u8 (k:Int),.int .u8 (tk:Int),.str tx,y]),(b,ND,z4)] []∧Nd t k tk tx y
theorem Nv.fin {PT:TypeId} {s:St} {a b:Nat} (h:Nv PT st0 s p L x d r a b t) (hd:gv t≤1000000000000000):
  ad (ay 4 true (.mp a 0) s fun v _=>CK v fun n1 n2 tx y=>af y (aD (aA vE) 4 (.mp b 0) (.agg [.int .u8 n1,.int .u8 n2,.str tx,y]) [.int .u8 n1,.int .u8 n2,.str tx,y] s fun _ s _=>ay 4 true (.mp b 0) s fun v _=>CK v fun n1 n2 tx y=>some (.agg [.int .u8 n1,.int .u8 n2,.str tx,y],s))) (NQ PT st0 p L x d t r):=by
 obtain ⟨k,tk,tx,y,w,hn⟩:=h;exact ad.lK (Vp) w (ad.res [_] (old:=z4) w rfl hn hd)
theorem Tu {a b c:Vr}:List.Sublist [b,c] [a,b,c]:=List.Sublist.cons _ (WS _)
theorem eP {b c:Bool} (h:b=c) {α:Type} (x y:Option α):bD b x y=bD c x y:=by rw [h]
theorem Ni {n:Nat} (ih:IH n) {a:Nat} (ha:st.get a= .ok (.cells 87 [.mp p 0])) (hap:a≠p) (hp:Pz PP st p L x d r) (hd:d≤64)
  {r1:List bc} {u:T} (h1:P n (.atom true) d r=some ([u],r1)) (h2:if dV Dl r1=true then ∃v,P n .pattern d (aQ r1)=some ([v],r')∧t=node 16 [u,aR r1,v] else t=u∧r'=r1)
  (hn:n≤10000000):NW PP 200 [.mp a 0] st p L x d t r':=by
 have hdu':=iU hn h1 rfl;refine ad.wide (ad.step (MN _ _) ?_);unfold R9;have rd: ∀{s:St} {β:Type} (K:AV→List Nat→Option β),aX st s (· =p)→ay 1 false (.mp a 0) s K=K (.mp p 0) [a]:=fun K k=>bm (k.Aj hap ha) _ _ _ _;refine ad.alloc (Wd.begin hp) fun s1 _ w=> ?_;refine ad.step (rd _ w.k) (ad.node w (ih.atom true _ p L x d r u r1 w.pz hd h1) rfl rfl fun k tk tx y s hnd hdu w=> ?_);refine ad.alloc w fun s3 _ w=>ad.two hnd ?_;refine ad.store [] w fun s4 fx w=> ?_;refine ad.step (rd _ w.k) ?_;refine ad.Jr w fun s5 w=> ?_;cases hb:dV Dl r1 with
 | true=>
  rw [hb,if_pos rfl] at h2;obtain ⟨v,h2,rfl⟩:=h2;have hdv:=iU hn h2 rfl;have hdk:=db r1;refine ad.bind (R:=fun c=> ∃s6,c=([],s6)∧Nv PP st s6 p L x d r' s.h st.h (node 16 [u,aR r1,v])) ?_ ?_
  ·refine ad.step (eP (c:=true) hb _ _) (ad.step (aF _ _) ?_);refine ad.step (rd _ w.k) (ad.take w fun k' tk' tx' y' s6 hn' hd' w=> ?_);refine ad.alloc w fun s7 _ w=>ad.two hn' ?_;refine ad.store [] w fun s8 fx w=> ?_;refine ad.lK (a:=s.h) (Vy _ Vp) w ?_;refine ad.lK (Vp) w ?_;refine ad.step (rd _ w.k) (ad.node w (ih.pattern _ p L x d _ v r' w.pz hd h2) rfl rfl fun k2 tk2 tx2 y2 s9 hn2 hd2 w9=> ?_);have a1:=w.tm w9 (Vp) hn' hd';have a2:=w.tm w9 (a:=s.h) (Vy _ Vp) hnd hdu;refine ad.step (kO (by rw [a1,a2];rfl) _) ?_;refine ad.two hnd (ad.two hn' (ad.two hn2 (ad.fit hnd fun z1 hN1 _ _=>ad.fit hn' fun z2 hN2 _ _=>ad.fit hn2 fun z3 hN3 _ _=> ?_)));refine ad.store [_] w9 fun s10 fx w=> ?_;exact ad.some ⟨s10,rfl,16,0,[],_,w.sub Tu,pS (JN hN1 hN2 hN3) (by simp)⟩
  ·rintro c ⟨s6,rfl,h⟩;refine ad.step (ah _) (h.fin ?_);rw [cu];simp only [bY,bg];omega
 | false=>
  rw [hb,if_neg (by simp)] at h2;obtain ⟨rfl,rfl⟩:=h2;refine ad.bind (R:=fun c=> ∃s6,c=([],s6)∧Nv PP st s6 p L x d r' s.h st.h t) ?_ ?_
  ·exact ad.step (eP (c:=false) hb _ _) (ad.step (aB _ _) (ad.some ⟨s5,rfl,k,tk,tx,y,w,hnd⟩))
  ·rintro c ⟨s6,rfl,h⟩;exact ad.step (ah _) (h.fin hdu)
theorem Bz {n:Nat} (ih:IH n) (hn:n≤10000000):ra 169 (fun _=>[]) .pattern (n+1):=by
 intro st p L x d r t r' hp hd h;simp only [P] at h;refine ad.wide (ad.step (NI _ _) ?_);unfold S7;refine ad.one rfl (ad.one rfl ?_);refine ad.alloc (Wd.begin hp) fun s1 _ w=> ?_;refine ad.alloc w fun s2 _ w=> ?_;refine ad.nO (a:=st.h) (Vy _ Vp) w rfl ?_;have hne:st.h≠p:=w.ne (Vy _ Vp);have hg:=w.get (a:=st.h) (Vy _ Vp);split at h
 ·rename_i hd;subst hd;cases h;exact ad.node w (pM _ _ w.pz) rfl rfl fun k tk tx y s hn hd w=>ad.res [] (old:=z4) w rfl hn hd
 ·obtain ⟨⟨a,r1⟩,e1,h⟩:=bind_some h;obtain ⟨u,rfl⟩:=fY _ _ _ _ _ _ e1 rfl;refine ad.node w (uy (F:=200) (args:=[.mp st.h 0]) (t:=t) (r':=r') _ w.pz (by omega) rfl rfl (fun _ _=>rfl) fun s k hp=> ?_) rfl rfl fun k tk tx y s hn hd w=>ad.res [] (old:=z4) w rfl hn hd;refine Ni ih (k.Aj hne hg) hne hp (by omega) e1 ?_ hn;dsimp only at h;split at h
  ·rename_i hb;rw [if_pos hb];obtain ⟨⟨b,r2⟩,e2,h⟩:=bind_some h;obtain ⟨v,rfl⟩:=fY _ _ _ _ _ _ e2 rfl;cases h;exact ⟨v,e2,rfl⟩
  ·rename_i hb;rw [if_neg hb];cases h;exact ⟨rfl,rfl⟩
end
section
variable {β:Type} {Q:β→Prop} {st0 st:St} {p:Nat} {L:List bc} {x:AV} {d d':Nat} {r r':List bc} {l l1 l2:List Vr} {os:List (AV×List AV)} {t:T}
theorem JU {n:Nat} (ih:IH n) (hn:n≤10000000):ra 202 (fun _=>[]) .arm (n+1):=by
 intro st p L x d r t r' hp hd h;simp only [P] at h;obtain ⟨⟨a,r1⟩,e1,h⟩:=bind_some h;obtain ⟨u,rfl⟩:=fY _ _ _ _ _ _ e1 rfl;obtain ⟨⟨b,r2⟩,e2,h⟩:=bind_some h;obtain ⟨v,rfl⟩:=fY _ _ _ _ _ _ e2 rfl;cases h;have hdu:=iU hn e1 rfl;have hdv:=iU hn e2 rfl;have hdk:=gf iB r1;refine ad.wide (ad.step (L5 _ _) ?_);unfold S4;refine ad.alloc (Wd.begin hp) fun s1 _ w=> ?_;refine ad.node w (ih.pattern _ p L x d _ u r1 w.pz hd e1) rfl rfl fun k tk tx y s hnd hdu' w=> ?_;refine ad.alloc w fun s3 _ w=>ad.two hnd ?_;refine ad.store [] w fun s4 fx w=> ?_;refine ad.xk w fun k' tk' tx' y' s6 hn' hd' w=> ?_;refine ad.alloc w fun s7 _ w=>ad.two hn' ?_;refine ad.store [] w fun s8 fx w=> ?_;refine ad.lK (a:=s.h) (Vy _ Vp) w ?_;refine ad.lK (Vp) w ?_;refine ad.node w (ih.expr _ p L x d _ v r2 w.pz hd e2) rfl rfl fun k2 tk2 tx2 y2 s9 hn2 hd2 w9=> ?_;have a1:=w.tm w9 (Vp) hn' hd';have a2:=w.tm w9 (a:=s.h) (Vy _ Vp) hnd hdu';refine ad.step (kO (by rw [a1,a2];rfl) _) ?_;refine ad.two hnd (ad.two hn' (ad.two hn2 (ad.fit hnd fun z1 hN1 _ _=>ad.fit hn' fun z2 hN2 _ _=>ad.fit hn2 fun z3 hN3 _ _=> ?_)));refine ad.J0 [_,_] (old:=z4) w9 rfl (pS (JN hN1 hN2 hN3) (by simp)) ?_;simp only [cu,cU,bY,bg];omega
theorem uj (pat:Bool) (p:Nat) {β:Type} (s:St) (K:Kv β):jf (aA vE) (Sx.prim (sx vE 171)) (yQ pat p) [] s K=al (aA vE) (KO pat) [.mp p 0] s K:=by cases pat <;> rfl
theorem Kb {n:Nat} (ih:IH n) (pat:Bool) (hp:Pz PP st p L x d r) (hd:d≤64) (h:P n (if pat then .pattern else .expr) d r=some ([t],r')):NW PP (KO pat) [.mp p 0] st p L x d t r':=by
 cases pat with
 | true=>exact ih.pattern _ p L x d _ t r' hp hd h
 | false=>exact ih.expr _ p L x d _ t r' hp hd h
theorem DA (pat:Bool):vE.isLook (KO pat)=false:=by cases pat <;> rfl
theorem Dn (pat:Bool) (p:Nat):(bx ([AV.mp p 0].map strip)&& !vE.full (KO pat))=false:=rfl
theorem Hb (pat:Bool):single (if pat then lC.pattern else .expr)=true:=by cases pat <;> rfl
def Gv (PT:TypeId) (st0 s:St) (p:Nat) (L:List bc) (x:AV) (d:Nat) (r:List bc) (a b k:Nat) (ts:List T):Prop:= ∃(v:AV) (es:List AV),Wd PT st0 s p L x d r [(a,ND,[.int .u8 (k:Int),.int .u8 0,.str [],v]),(b,ND,z4)] [(v,es)]∧bq ts es∧fq ts≤1000000000000000
theorem Gv.nd {PT:TypeId} {s:St} {a b k:Nat} {ts:List T} (h:Gv PT st0 s p L x d r a b k ts):Nv PT st0 s p L x d r a b (node k ts):=by
 obtain ⟨v,es,w,hs,hd⟩:=h;exact ⟨k,0,[],v,w.drop,⟨⟨ts,es,rfl,w.R5,hs⟩⟩⟩
theorem Gv.grow {PT:TypeId} {s:St} {a b k:Nat} {ts:List T} (h:Gv PT st0 s p L x d r a b k ts) {F:FuncId} {args:List AV} (hc:NW PT F args s p L x d t r') (h1:vE.isLook F=false) (h2:(bx (args.map strip)&& !vE.full F)=false) (hl:ts.length≤100000000) {K:St→Option β} (g: ∀s,Gv PT st0 s p L x d r' a b k (ts++[t])→ad (K s) Q):
  ad (ay 1 false (.mp a 3) s fun v rd=>al (aA vE) F args s fun u s x=>CK u fun n1 n2 tx y=>dJ (apart ⟨rd,.kept⟩ x&&(apart ⟨[],.kept⟩ x&&true)) (af y (af y (aJ y fun y=>af y (aJ y fun y=>eD 4 56 ND v [.agg [.int .u8 n1,.int .u8 n2,.str tx,y]] s fun v s _=>af v (af v (aD (aA vE) 1 (.mp a 3) v [v] s fun _ s _=>K s))))))) Q:=by
 obtain ⟨v,es,w,hs,hd⟩:=h;exact ad.grow [] w hc h1 h2 hs hd hl fun v' e s hs' hd' w'=>g s ⟨v',_,w',hs',hd'⟩
theorem Gv.pz {PT:TypeId} {s:St} {a b k:Nat} {ts:List T} (h:Gv PT st0 s p L x d r a b k ts):Pz PT s p L x d r:=by
 obtain ⟨v,es,w,hs,hd⟩:=h;exact w.pz
theorem Gv.is {s:St} {a b k:Nat} {ts:List T} (h:Gv PP st0 s p L x d r a b k ts) {s0:List UInt8} {K:Bool→St→Fx→Option β} (g: ∀s',Gv PP st0 s' p L x d r a b k ts→ad (K (dV s0 r) s' ⟨[],.all s s'⟩) Q):
  ad (al (aA vE) 80 [.mp p 0,.sl 1 [.str s0] .shut] s fun v s fx=>cJ v fun b=>K b s fx) Q:=by
 obtain ⟨v,es,w,hs,hd⟩:=h;exact ad.Jr w fun s' w'=>g s' ⟨v,es,w',hs,hd⟩
theorem Fi {n:Nat} (hn:n≤10000000) (ih: ∀m,m < n→IH m) (list pat:Bool) {a b k:Nat} {st5:St} (ha:st5.h=a) (hd:d≤64): ∀(m:Nat) (ts bs:List T) (r r':List bc) (s:St),m≤n→P m (.items list pat) d r=some (bs,r')→Gv PP st0 s p L x d r a b k ts→ts.length+2 * m≤100000000→
  ad (bn (mJ (.mp p 0) (yQ pat p) (uu list) st5) ([],s)) (fun q=> ∃s',q=(0,[],s')∧Gv PP st0 s' p L x d r' a b k (ts++bs)):=by
 intro m
 induction m with
 | zero=>intro ts bs r r' s _ h;cases h
 | succ m ihm=>
  intro ts bs r r' s hm h hg hl;simp only [P] at h;have e0:mJ (.mp p 0) (yQ pat p) (uu list) st5 ([],s)=mJ (.mp p 0) (yQ pat p) (uu list) st5 ([],s):=rfl;split at h
  ·rename_i hb;obtain ⟨⟨a1,r1⟩,e1,h⟩:=bind_some h;obtain ⟨u,rfl⟩:=fY _ _ _ _ _ _ e1 (Hb pat);obtain ⟨⟨b1,r2⟩,e2,h⟩:=bind_some h;cases h;have hgo:ad (mJ (.mp p 0) (yQ pat p) (uu list) st5 ([],s)) (fun q=> ∃s',q= .inl ([],s')∧Gv PP st0 s' p L x d r1 a b k (ts++[aR r]++[u])):=by
    simp only [mJ,uj,ha,ah];refine hg.is fun s1 hg=> ?_;rw [hb];refine ad.step (aF _ _) ?_;refine hg.grow (iz hg.pz) rfl rfl (by omega) fun s2 hg=> ?_;refine hg.grow (Kb (ih m (by omega)) pat hg.pz hd e1) (DA pat) (Dn pat p) (by simp;omega) fun s3 hg=> ?_;exact ad.some ⟨s3,rfl,hg⟩
   obtain ⟨q,e,s',rfl,hg'⟩:=hgo;rw [br e];refine (ihm _ b1 r1 _ s' (by omega) e2 hg' (by simp;omega)).mono ?_;rintro q ⟨s2,rfl,hg2⟩;refine ⟨s2,rfl, ?_⟩;simpa using hg2
  ·rename_i hb;cases h;have hgo:ad (mJ (.mp p 0) (yQ pat p) (uu list) st5 ([],s)) (fun q=> ∃s',q= .inr (0,[],s')∧Gv PP st0 s' p L x d r a b k ts):=by
    simp only [mJ,uj,ha,ah];refine hg.is fun s1 hg=> ?_;rw [V7 hb];exact ad.step (aB _ _) (ad.some ⟨s1,rfl,hg⟩)
   obtain ⟨q,e,s',rfl,hg'⟩:=hgo;exact ⟨_,bo e,s',rfl,by simpa using hg'⟩
theorem D9 {n:Nat} (ih: ∀m,m≤n→IH m) (hn:n≤10000000) (list pat:Bool):ra 171 (fun p=>[.int .u8 (kindOf list pat:Int),.str (uu list),.str (je list),yQ pat p]) (.closed list pat) (n+1):=by
 intro st p L x d r t r' hp hd h;simp only [P] at h;refine ad.wide (ad.step (OG _ _ _ _ _ _) ?_);simp only [SM,uj,ai,ao];refine ad.alloc (Wd.begin hp) fun s1 _ w=> ?_;refine ad.take w fun k tk tx y s hnd hdu' w=> ?_;refine ad.two hnd (ad.fit hnd fun z1 hN1 _ _=> ?_);refine ad.alloc w fun s3 _ w=> ?_;refine ad.store [] w fun s4 fx w=> ?_;have hg:Gv PP st s4 p L x d (aQ r) s.h st.h (kindOf list pat) [aR r]:=⟨_,_,w.shut (by simp),vi hN1,by rw [bp];exact hdu'⟩;refine hg.is fun s5 hg=> ?_;split at h
 ·rename_i hb;cases h;rw [hb];refine ad.step (aF _ _) ?_;refine hg.grow (iz hg.pz) rfl rfl (by simp) fun s2 hg=> ?_;refine hg.nd.fin ?_;have:=db r;have:=db (aQ r);simp only [cu,cU,bY,bg];omega
 ·rename_i hb;rw [V7 hb];obtain ⟨⟨a1,r1⟩,e1,h⟩:=bind_some h;obtain ⟨u,rfl⟩:=fY _ _ _ _ _ _ e1 (Hb pat);obtain ⟨⟨b1,r2⟩,e2,h⟩:=bind_some h;cases h;refine ad.step (aB _ _) ?_;refine hg.grow (Kb (ih n (Vn _)) pat hg.pz hd e1) (DA pat) (Dn pat p) (by simp) fun s3 hg=> ?_;refine ad.bind (Fi hn (fun m hm=>ih m (by omega)) list pat rfl hd n _ b1 _ _ s3 (Vn _) e2 hg (by simp;omega)) ?_;rintro q ⟨s6,rfl,hg⟩;refine ad.step (ah _) ?_;have hd1:=Ft hn e2 rfl;have hdu:=iU hn e1 (uL pat);have hl:=I7 _ _ _ _ _ _ _ e2;refine hg.grow (oN hg.pz (je list)) rfl rfl (by simp;omega) fun s7 hg=> ?_;have hfin:=hg.nd.fin (t:=node (kindOf list pat) ([aR r]++[u]++b1++[da (je list) r2])) (by
   have:=db r;have:=gf (je list) r2;simp only [cu,cU,bY,bg];omega)
  exact hfin
end
section
variable {β:Type} {Q:β→Prop} {st0 st:St} {p:Nat} {L:List bc} {x:AV} {d d':Nat} {r r':List bc} {l l1 l2:List Vr} {os:List (AV×List AV)} {t:T}
def KT (pat:Bool):List UInt8:=if pat then pF else vy
theorem IB {n:Nat} (ih:IH n) (pat:Bool):ra 119 (fun _=>[.bool pat]) (.atom pat) (n+1):=by
 intro st p L x d r t r' hp hd h;simp only [P] at h;refine ad.wide (ad.step (NH _ _ _) ?_);unfold Tg;refine ad.step (aE _ _) (ad.alloc (Wd.begin hp) fun s1 _ w=> ?_);have e: ∀{β:Type} (K:dq→Option β),aH (bD pat (some ([AV.str pF,.int .u8 17,.int .u8 18,.str [95],yQ true p,.int .u8 5],s1)) (some ([.str vy,.int .u8 14,.int .u8 15,.str [40],yQ false p,.int .u8 6],s1))) K
   =K ([.str (KT pat),.int .u8 (kindOf false pat:Int),.int .u8 (kindOf true pat:Int),.str (ry pat),yQ pat p,.int .u8 (rz pat:Int)],s1):=by cases pat <;> exact fun K=>rfl
 refine ad.step (e _) ?_;simp only [ag,ao,ai,ah];refine ad.next w fun s2 s3 w=> ?_;refine ad.dp pat w fun s4 w=> ?_;split at h
 ·rename_i hb;rw [hb];refine ad.step (aB _ _) ?_;refine ad.nO (Vp) w rfl (ad.step (ai _ _ _) ?_);split at h
  ·rename_i h9;cases h;rw [show (((nx r).1:Int)==9)=true by rw [h9];rfl];refine ad.step (aF _ _) (ad.take w fun k tk tx y s hnd hdt w=> ?_);refine ad.two hnd (ad.fit hnd fun z1 hN1 _ _=> ?_);refine ad.J0 [_] (old:=z4) w rfl (pS (vi hN1) (by simp)) ?_;have:=db r;simp only [cu,bY,bg];omega
  rename_i h9;rw [show (((nx r).1:Int)==9)=false from VX.2 (by omega)];refine ad.step (aB _ _) (ad.Jr w fun s5 w=> ?_);split at h
  ·rename_i ho;refine ad.step (eP (c:=true) ho _ _) (ad.step (aF _ _) ?_);exact ad.node w (ih.closed false pat _ p L x d r t r' w.pz hd h) rfl rfl fun k tk tx y s hnd hdt w=>ad.res [_] (old:=z4) w rfl hnd hdt
  rename_i ho;refine ad.step (eP (c:=false) (V7 ho) _ _) (ad.step (aB _ _) (ad.Jr w fun s6 w=> ?_));split at h
  ·rename_i ho;refine ad.step (eP (c:=true) ho _ _) (ad.step (aF _ _) ?_);exact ad.node w (ih.closed true pat _ p L x d r t r' w.pz hd h) rfl rfl fun k tk tx y s hnd hdt w=>ad.res [_] (old:=z4) w rfl hnd hdt
  ·rename_i ho;cases h;refine ad.step (eP (c:=false) (V7 ho) _ _) (ad.step (aB _ _) ?_);exact ad.take w fun k tk tx y s hnd hdt w=>ad.res [_] (old:=z4) w rfl hnd hdt
 ·rename_i hb;cases h;rw [V7 hb];refine ad.step (aF _ _) (ad.step (nQ _ _ _) ?_);refine ad.res [_] (old:=z4) w rfl (sc (KT pat)) ?_;rw [kg];omega
theorem Nv.load {PT:TypeId} {s:St} {a b:Nat} (h:Nv PT st0 s p L x d r a b t) {K:Int→Int→List UInt8→AV→List Nat→Option β} (g: ∀(k tk:Nat) (tx:List UInt8) (y:AV),Wd PT st0 s p L x d r [(a,ND,[.int .u8 (k:Int),.int .u8 (tk:Int),.str tx,y]),(b,ND,z4)] []→Nd t k tk tx y→ad (K k tk tx y [a]) Q):ad (ay 4 true (.mp a 0) s fun v rd=>CK v fun a b c y=>K a b c y rd) Q:=by
 obtain ⟨k,tk,tx,y,w,hn⟩:=h;exact ad.lK (Vp) w (g k tk tx y w hn)
theorem ID {n:Nat} (hn:n≤10000000) (ih: ∀m,m < n→IH m) {a b:Nat} {st5:St} (ha:st5.h=a) (hd:d≤64): ∀(m:Nat) (acc t:T) (r r':List bc) (s:St),m≤n→P m (.args acc) d r=some ([t],r')→Nv PP st0 s p L x d r a b acc→gv acc+m≤900000000000000→
  ad (bn (qv (.mp p 0) st5) ([],s)) (fun q=> ∃s',q=(0,[],s')∧Nv PP st0 s' p L x d r' a b t∧gv t≤900000000000000):=by
 intro m
 induction m with
 | zero=>intro acc t r r' s _ h;cases h
 | succ m ihm=>
  intro acc t r r' s hm h hg hl;simp only [P] at h;obtain ⟨k,tk,tx,y,w,hnd⟩:=hg;split at h
  ·rename_i hb;obtain ⟨⟨a1,r1⟩,e1,h⟩:=bind_some h;obtain ⟨u,rfl⟩:=fY _ _ _ _ _ _ e1 rfl;have hdu:=iU (by omega:m≤10000000) e1 rfl;have hgo:ad (qv (.mp p 0) st5 ([],s)) (fun q=> ∃s',q= .inl ([],s')∧Nv PP st0 s' p L x d r1 a b (node 13 [acc,u])):=by
    simp only [qv,ha,ah];refine ad.dp false w fun s1 w=> ?_;rw [hb];refine ad.step (aF _ _) ?_;refine ad.lK (Vp) w ?_;refine ad.node w ((ih m (by omega)).atom false _ p L x d r u r1 w.pz hd e1) rfl rfl fun k2 tk2 tx2 y2 s9 hn2 hd2 w9=> ?_;have a1:=w.tm w9 (Vp) hnd (by omega);refine ad.step (kO (by rw [a1];rfl) _) ?_;refine ad.two hnd (ad.two hn2 (ad.fit hnd fun z1 hN1 _ _=>ad.fit hn2 fun z2 hN2 _ _=> ?_));refine ad.store [] w9 fun s10 fx w=> ?_;exact ad.some ⟨s10,rfl,13,0,[],_,w,pS (Dz hN1 hN2) (by simp)⟩
   obtain ⟨q,e,s',rfl,hg'⟩:=hgo;rw [br e];refine ihm _ t r1 _ s' (by omega) h hg' ?_;simp only [cu,bY,bg];omega
  ·rename_i hb;cases h;have hgo:ad (qv (.mp p 0) st5 ([],s)) (fun q=> ∃s',q= .inr (0,[],s')∧Nv PP st0 s' p L x d r a b acc):=by
    simp only [qv,ha,ah];refine ad.dp false w fun s1 w=> ?_;rw [V7 hb];exact ad.step (aB _ _) (ad.some ⟨s1,rfl,k,tk,tx,y,w,hnd⟩)
   obtain ⟨q,e,s',rfl,hg'⟩:=hgo;exact ⟨_,bo e,s',rfl,hg',by omega⟩
theorem LJ {n:Nat} (ih: ∀m,m≤n→IH m) (hn:n≤10000000):ra 220 (fun _=>[]) .neg (n+1):=by
 intro st p L x d r t r' hp hd h;simp only [P] at h;refine ad.wide (ad.step (Ml _ _) ?_);unfold SC;refine ad.alloc (Wd.begin hp) fun s1 _ w=> ?_;refine ad.is [[45],[45,46]] (by simp) w fun s2 w=> ?_;split at h
 ·rename_i hb;rw [hb];refine ad.step (aB _ _) ?_;refine ad.take w fun k tk tx y s hnd hdt w=> ?_;refine ad.alloc w fun s3 _ w=>ad.two hnd ?_;refine ad.store [] w fun s4 fx w=> ?_;refine ad.lK (Vp) w ?_;have dk:=db r;split at h
  ·rename_i hd;subst hd;cases h;refine ad.node w (pM _ _ w.pz) rfl rfl fun k2 tk2 tx2 y2 s9 hn2 hd2 w9=> ?_;have a1:=w.tm w9 (Vp) hnd (by omega);refine ad.step (kO (by rw [a1];rfl) _) ?_;refine ad.two hnd (ad.two hn2 (ad.fit hnd fun z1 hN1 _ _=>ad.fit hn2 fun z2 hN2 _ _=> ?_));refine ad.J0 [_] (old:=z4) w9 rfl (pS (Dz hN1 hN2) (by simp)) ?_;have:=tG vy (aQ r);simp only [cu,bY,bg];omega
  ·obtain ⟨⟨a1,r1⟩,e1,h⟩:=bind_some h;obtain ⟨u,rfl⟩:=fY _ _ _ _ _ _ e1 rfl;cases h;have hdu:=iU hn e1 rfl;refine ad.node w (uy (F:=220) (args:=[.mp p 0]) _ w.pz (by omega) rfl rfl (fun _ _=>rfl) fun s _ hp=>(ih n (Vn _)).neg s p L x (d+1) _ u r1 hp (by omega) e1) rfl rfl fun k2 tk2 tx2 y2 s9 hn2 hd2 w9=> ?_;have a1:=w.tm w9 (Vp) hnd (by omega);refine ad.step (kO (by rw [a1];rfl) _) ?_;refine ad.two hnd (ad.two hn2 (ad.fit hnd fun z1 hN1 _ _=>ad.fit hn2 fun z2 hN2 _ _=> ?_));refine ad.J0 [_] (old:=z4) w9 rfl (pS (Dz hN1 hN2) (by simp)) ?_;simp only [cu,bY,bg];omega
 ·rename_i hb;rw [V7 hb];refine ad.step (aF _ _) ?_;obtain ⟨⟨a1,r1⟩,e1,h⟩:=bind_some h;obtain ⟨u,rfl⟩:=fY _ _ _ _ _ _ e1 rfl;have hdu:=iU hn e1 rfl;refine ad.node w ((ih n (Vn _)).atom false _ p L x d r u r1 w.pz hd e1) rfl rfl fun k tk tx y s hnd hdt w=> ?_;refine ad.alloc w fun s3 _ w=>ad.two hnd ?_;refine ad.store [] w fun s4 fx w=> ?_;refine ad.bind (ID hn (fun m hm=>ih m (by omega)) rfl hd n u t r1 r' s4 (Vn _) h ⟨k,tk,tx,y,w,hnd⟩ (by omega)) ?_;rintro q ⟨s6,rfl,hg,hdt⟩;exact ad.step (ah _) (hg.fin (by omega))
def Ka:AV:= .sl 2 [.agg [.sl 1 [.str [124,124]] .shut,.bool false],.agg [.sl 1 [.str [38,38]] .shut,.bool false],.agg [.sl 1 [.str [61],.str [60,62],.str [60],.str [60,61],.str [62],.str [62,61]] .shut,.bool true],.agg [.sl 1 [.str [64],.str [94]] .shut,.bool false],
 .agg [.sl 1 [.str [58,58]] .shut,.bool false],.agg [.sl 1 [.str [43],.str [45],.str [43,46],.str [45,46]] .shut,.bool true],.agg [.sl 1 [.str [42],.str [47],.str [42,46],.str [47,46],.str [109,111,100]] .shut,.bool true]] .shut
theorem Ef {β:Type} (st:St) (K:Kv β):al (aA vE) 219 [] st K=K Ka st q0:=aY st K rfl rfl rfl (bh rfl (MP.trans rfl))
theorem GL {k:Nat} (hk:k≤6) {β:Type} (st:St) (K:AV→List Nat→Option β):eM 2 Ka (k:Int) st K=K (.ip [.sl 1 ((opsOf k).map AV.str) .shut,.bool (Parse.leftOf k)]) []:=by
 match k,hk with
 | 0,_=>rfl
 | 1,_=>rfl
 | 2,_=>rfl
 | 3,_=>rfl
 | 4,_=>rfl
 | 5,_=>rfl
 | 6,_=>rfl
theorem J1 {n:Nat} (hn:n≤10000000) (ih: ∀m,m < n→IH m) {a b k:Nat} (hk:k≤6) {st5:St} (ha:st5.h=a) (hd:d≤64): ∀(m:Nat) (acc t:T) (r r':List bc) (s:St),m≤n→P m (.ops k acc) d r=some ([t],r')→Nv PP st0 s p L x d r a b acc→gv acc+m≤900000000000000→
  ad (bn (qE (.mp p 0) (k:Int) Ka st5) ([],s)) (fun q=> ∃s',q=(0,[],s')∧Nv PP st0 s' p L x d r' a b t∧gv t≤900000000000000):=by
 intro m
 induction m with
 | zero=>intro acc t r r' s _ h;cases h
 | succ m ihm=>
  intro acc t r r' s hm h hg hl;simp only [P] at h;obtain ⟨k1,tk,tx,y,w,hnd⟩:=hg;have hlen:(opsOf k).length≤1000:=by
   match k,hk with
   | 0,_=>simp [opsOf]
   | 1,_=>simp [opsOf]
   | 2,_=>simp [opsOf]
   | 3,_=>simp [opsOf]
   | 4,_=>simp [opsOf]
   | 5,_=>simp [opsOf]
   | 6,_=>simp [opsOf]
  split at h
  ·rename_i hb;obtain ⟨⟨a1,r1⟩,e1,h⟩:=bind_some h;obtain ⟨u,rfl⟩:=fY _ _ _ _ _ _ e1 rfl;have hdu:=iU (by omega:m≤10000000) e1 rfl;have hdk:=db r;have hgo:ad (qE (.mp p 0) (k:Int) Ka st5 ([],s)) (fun q=> ∃s',q= .inl ([],s')∧Nv PP st0 s' p L x d r1 a b (node 11 [acc,aR r,u])):=by
    simp only [qE,ha,ah,GL hk,Hm,cg,VD,ve,aZ,aq,aE];refine ad.is (opsOf k) hlen w fun s1 w=> ?_;rw [hb];refine ad.step (aF _ _) ?_;refine ad.take w fun k' tk' tx' y' s6 hn' hd' w=> ?_;refine ad.alloc w fun s7 _ w=>ad.two hn' ?_;refine ad.store [] w fun s8 fx w=> ?_;have e: ∀{β:Type} (K:dq→Option β),aH (bD (Parse.leftOf k) (bB (IntKind.wrap .i64 ((k:Int)+1)) fun n97=>some ([AV.int .i64 n97],s8)) (some ([AV.int .i64 (k:Int)],s8))) K=K ([.int .i64 ((if Parse.leftOf k then k+1 else k:Nat):Int)],s8):=by
     intro β K;cases Parse.leftOf k with
     | true=>
      rw [aF,aK,df (by omega),if_pos rfl];rfl
     | false=>
      rw [aB,if_neg (by simp)];rfl
    refine ad.step (e _) ?_;simp only [ag,ai,ah];refine ad.lK (a:=a) (Vy _ Vp) w ?_;refine ad.lK (Vp) w ?_;refine ad.node w ((ih m (by omega)).level _ (by split <;> omega) _ p L x d _ u r1 w.pz hd e1) rfl rfl fun k2 tk2 tx2 y2 s9 hn2 hd2 w9=> ?_;have a1:=w.tm w9 (Vp) hn' hd';have a2:=w.tm w9 (a:=a) (Vy _ Vp) hnd (by omega);refine ad.step (kO (by rw [a1,a2];rfl) _) ?_;refine ad.two hnd (ad.two hn' (ad.two hn2 (ad.fit hnd fun z1 hN1 _ _=>ad.fit hn' fun z2 hN2 _ _=>ad.fit hn2 fun z3 hN3 _ _=> ?_)));refine ad.store [_] w9 fun s10 fx w=> ?_;exact ad.some ⟨s10,rfl,11,0,[],_,w.sub Tu,pS (JN hN1 hN2 hN3) (by simp)⟩
   obtain ⟨q,e,s',rfl,hg'⟩:=hgo;rw [br e];refine ihm _ t r1 _ s' (by omega) h hg' ?_;simp only [cu,bY,bg];omega
  ·rename_i hb;cases h;have hgo:ad (qE (.mp p 0) (k:Int) Ka st5 ([],s)) (fun q=> ∃s',q= .inr (0,[],s')∧Nv PP st0 s' p L x d r a b acc):=by
    simp only [qE,ha,ah,GL hk,Hm,cg,VD,ve,aZ,aq,aE];refine ad.is (opsOf k) hlen w fun s1 w=> ?_;rw [V7 hb];exact ad.step (aB _ _) (ad.some ⟨s1,rfl,k1,tk,tx,y,w,hnd⟩)
   obtain ⟨q,e,s',rfl,hg'⟩:=hgo;exact ⟨_,bo e,s',rfl,hg',by omega⟩
theorem FJ {n:Nat} (ih: ∀m,m≤n→IH m) (hn:n≤10000000) (k:Nat) (hk:k≤7):ra 203 (fun _=>[.int .i64 (k:Int)]) (.level k) (n+1):=by
 intro st p L x d r t r' hp hd h;simp only [P] at h;refine ad.wide (ad.step (Oo _ _ _) ?_);unfold SQ;refine ad.step (ai _ _ _) (ad.alloc (Wd.begin hp) fun s1 _ w=> ?_);refine ad.step (Ef _ _) ?_;refine ad.step (Ny _ _ _ _) ?_;split at h
 ·rename_i h7;subst h7;refine ad.step (aF _ _) ?_;exact ad.node w ((ih n (Vn _)).neg _ p L x d r t r' w.pz hd h) rfl rfl fun k tk tx y s hnd hdt w=>ad.res [] (old:=z4) w rfl hnd hdt
 ·rename_i h7;refine ad.step (eP (c:=false) (VX.2 (show (k:Int)≠((7:Nat):Int) by omega)) _ _) (ad.step (aB _ _) ?_);rw [aK,df (by omega)];obtain ⟨⟨a1,r1⟩,e1,h⟩:=bind_some h;obtain ⟨u,rfl⟩:=fY _ _ _ _ _ _ e1 rfl;have hdu:=iU hn e1 rfl;refine ad.node w ((ih n (Vn _)).level (k+1) (by omega) _ p L x d r u r1 w.pz hd e1) rfl rfl fun k1 tk tx y s hnd hdt w=> ?_;refine ad.alloc w fun s3 _ w=>ad.two hnd ?_;refine ad.store [] w fun s4 fx w=> ?_;refine ad.bind (J1 hn (fun m hm=>ih m (by omega)) (by omega:k≤6) rfl hd n u t r1 r' s4 (Vn _) h ⟨k1,tk,tx,y,w,hnd⟩ (by omega)) ?_;rintro q ⟨s6,rfl,hg,hdt⟩;exact ad.step (ah _) (hg.fin (by omega))
end
section
variable {β:Type} {Q:β→Prop} {PT:TypeId} {st0 st s:St} {p:Nat} {L:List bc} {x:AV} {d d':Nat} {r r':List bc} {l l1 l2:List Vr} {os:List (AV×List AV)} {t:T}
theorem Wd.made (w:Wd PT st0 st p L x d r l os) {es:List AV} {n:Nat} (hn:n=es.length) (hl:n≤1000000000):Wd PT st0 (st.add (.tok n ND)) p L x d r l ((.sl 4 es (.own st.h),es)::os):=by
 subst hn;have w':=w.quiet (aX.add st (.tok es.length ND) _);refine ⟨w'.pz,w'.k,w'.v,w'.nd,fun q hq=> ?_,Ww.2 ⟨fun q hq j hj hj'=> ?_,w'.od⟩,w.p0,w.ro0⟩
 ·rcases Vv.1 hq with rfl | hq
  ·refine ⟨⟨Xi w.ro,by show es.length≤9223372036854775807;omega,.inr (.inr ⟨st.h,rfl,St.ey,w.ro⟩)⟩,fun j hj=> ?_⟩;obtain ⟨_,_,e⟩:=hj;cases e;exact w.h
  ·exact w'.o q hq
 ·obtain ⟨_,_,e⟩:=hj;cases e;have:=(E2 (w.o q hq).1 hj').1;omega
def Sv (PT:TypeId) (st0 s:St) (p:Nat) (L:List bc) (x:AV) (d:Nat) (r:List bc) (v:AV) (ts:List T):Prop:= ∃es,Wd PT st0 s p L x d r [] [(v,es)]∧bq ts es∧fq ts≤1000000000000000
theorem Sv.app {v:AV} {ts:List T} (h:Sv PT st0 s p L x d r v ts) {F:FuncId} {args:List AV} (hc:NW PT F args s p L x d t r') (h1:vE.isLook F=false) (h2:(bx (args.map strip)&& !vE.full F)=false) (hl:ts.length≤100000000) {K:AV→St→Option β} (g: ∀v s,Sv PT st0 s p L x d r' v (ts++[t])→ad (K v s) Q):
  ad (al (aA vE) F args s fun u s _=>CK u fun n1 n2 tx y=>af y (af y (aJ y fun y=>af y (aJ y fun y=>eD 4 56 ND v [.agg [.int .u8 n1,.int .u8 n2,.str tx,y]] s fun v s _=>K v s)))) Q:=by
 obtain ⟨es,w,hs,hd⟩:=h;refine ad.node w hc h1 h2 fun k' tk' tx' y s hn hdt w'=> ?_;refine ad.two hn (ad.fit hn fun y' hN h1 hf=>ad.one h1 (ad.step (hf _) (ad.app w' (by simp) (by rw [bq.len hs];simp;omega) fun v' s' fx ho w2=> ?_)));exact g v' s' ⟨_,w2,bq.app hs (vi hN),by rw [cU,bp];omega⟩
theorem Sv.pz {v:AV} {ts:List T} (h:Sv PT st0 s p L x d r v ts):Pz PT s p L x d r:=by
 obtain ⟨es,w,hs,hd⟩:=h;exact w.pz
theorem Sv.dp {v:AV} {ts:List T} (pat:Bool) (h:Sv PP st0 s p L x d r v ts) {K:Bool→St→Fx→Option β} (g: ∀s',Sv PP st0 s' p L x d r v ts→ad (K (dp pat r) s' ⟨[],.all s s'⟩) Q):
  ad (al (aA vE) 118 [.mp p 0,.int .u8 (rz pat:Int),.str (ry pat)] s fun v s fx=>cJ v fun b=>K b s fx) Q:=by
 obtain ⟨es,w,hs,hd⟩:=h;exact ad.dp pat w fun s' w'=>g s' ⟨es,w',hs,hd⟩
theorem EE {n:Nat} (ih: ∀m,m < n→IH m) (hd:d≤64): ∀(m:Nat) (ts bs:List T) (r r':List bc) (v:AV) (s:St),m≤n→P m .params d r=some (bs,r')→Sv PP st0 s p L x d r v ts→ts.length+m≤100000000→
  ad (bn (ub (.mp p 0)) ([v],s)) (fun q=> ∃v' s',q=(0,[v'],s')∧Sv PP st0 s' p L x d r' v' (ts++bs)):=by
 intro m
 induction m with
 | zero=>intro ts bs r r' v s _ h;cases h
 | succ m ihm=>
  intro ts bs r r' v s hm h hg hl;simp only [P] at h;split at h
  ·rename_i hb;obtain ⟨⟨a1,r1⟩,e1,h⟩:=bind_some h;obtain ⟨u,rfl⟩:=fY _ _ _ _ _ _ e1 rfl;obtain ⟨⟨b1,r2⟩,e2,h⟩:=bind_some h;cases h;have hgo:ad (ub (.mp p 0) ([v],s)) (fun q=> ∃v' s',q= .inl ([v'],s')∧Sv PP st0 s' p L x d r1 v' (ts++[u])):=by
    simp only [ub,ag,ah];refine hg.dp true fun s1 hg=> ?_;rw [hb];refine ad.step (aF _ _) ?_;exact hg.app ((ih m (by omega)).atom true _ p L x d r u r1 hg.pz hd e1) rfl rfl (by omega) fun v' s' hg=>ad.some ⟨v',s',rfl,hg⟩
   obtain ⟨q,e,v',s',rfl,hg'⟩:=hgo;rw [br e];refine (ihm _ b1 r1 _ v' s' (by omega) e2 hg' (by simp;omega)).mono ?_;rintro q ⟨v2,s2,rfl,hg2⟩;exact ⟨v2,s2,rfl,by simpa using hg2⟩
  ·rename_i hb;cases h;have hgo:ad (ub (.mp p 0) ([v],s)) (fun q=> ∃s',q= .inr (0,[v],s')∧Sv PP st0 s' p L x d r v ts):=by
    simp only [ub,ag,ah];refine hg.dp true fun s1 hg=> ?_;rw [V7 hb];exact ad.step (aB _ _) (ad.some ⟨s1,rfl,hg⟩)
   obtain ⟨q,e,s',rfl,hg'⟩:=hgo;exact ⟨_,bo e,v,s',rfl,by simpa using hg'⟩
theorem Cj {n:Nat} (ih: ∀m,m≤n→IH m) (hn:n≤10000000):Lu (n+1):=by
 intro st p L x d r ts r' hp hd h;simp only [P] at h;refine ad.wide (ad.step (QP _ _) ?_);unfold UG;refine ad.Jr (Wd.begin hp) fun s1 w=> ?_;have dk:=db r;refine ad.bind (R:=fun c=> ∃v s,c=([v],s)∧Sv PP st s p L x d (if dV fM r then aQ r else r) v (if dV fM r then [aR r] else [])) ?_ ?_
 ·cases hb:dV fM r with
  | true=>
   refine ad.step (eP (c:=true) hb _ _) (ad.step (aF _ _) ?_);refine ad.take w fun k tk tx y s hnd hdt w=> ?_;refine ad.two hnd (ad.fit hnd fun z1 hN1 h1 hf=>ad.one h1 (ad.step (hf _) ?_));refine ad.some ⟨_,_,rfl,_,w.made rfl (by simp),vi hN1, ?_⟩;rw [if_pos rfl,bp];exact hdt
  | false=>
   refine ad.step (eP (c:=false) hb _ _) (ad.step (aB _ _) ?_);exact ad.some ⟨_,_,rfl,[],w.aG,bq.nil,by simp [bg]⟩
 generalize hrc:(if dV fM r then [aR r] else [])=rc at h;have hrl:rc.length≤1:=by rw [← hrc];split <;> simp
 generalize (if dV fM r then aQ r else r)=r0 at h;rintro c ⟨v,s,rfl,hg⟩;simp only [ag,ah];obtain ⟨es,w,hs,hdd⟩:=hg;refine ad.next w fun s2 s3 w=> ?_;refine ad.nO (Vp) w rfl (ad.step (ai _ _ _) ?_);have w:=w.sub (List.nil_sublist _);have hxs: ∃xs r1 es r2,P n .expr d (bk zo r1)=some ([es],r2)∧ts=rc++xs++[da zo r1]++[es]∧r'=r2∧xs.length≤n+1∧
   (if (nx r0).1=4 then ∃ps,P n .params d (aQ r0)=some (ps,r1)∧xs=aR r0::ps else P n (.atom true) d r0=some (xs,r1)):=by
  split at h
  ·rename_i h4;obtain ⟨⟨xs,r1⟩,e1,h⟩:=bind_some h;obtain ⟨⟨ps,r3⟩,e3,e1⟩:=bind_some e1;cases e1;obtain ⟨⟨es,r2⟩,e2,h⟩:=bind_some h;obtain ⟨u,rfl⟩:=fY _ _ _ _ _ _ e2 rfl;cases h;have:=r8 _ _ _ _ _ e3;exact ⟨aR r0::ps,r3,u,_,e2,rfl,rfl,by simpa using this,by rw [if_pos h4];exact ⟨ps,e3,rfl⟩⟩
  ·rename_i h4;obtain ⟨⟨xs,r1⟩,e1,h⟩:=bind_some h;obtain ⟨⟨es,r2⟩,e2,h⟩:=bind_some h;obtain ⟨u,rfl⟩:=fY _ _ _ _ _ _ e2 rfl;cases h;have:=oJ e1 rfl;exact ⟨xs,r1,u,_,e2,rfl,rfl,by omega,by rw [if_neg h4];exact e1⟩
 clear h;obtain ⟨xs,r1,u,r2,e2,rfl,rfl,hxl,hx⟩:=hxs;have hg:Sv PP st s3 p L x d r0 v rc:=⟨es,w,hrc ▸ hs,hrc ▸ hdd⟩;refine ad.bind (R:=fun c=> ∃v s,c=([v],s)∧Sv PP st s p L x d r1 v (rc++xs)) ?_ ?_
 ·by_cases h4:(nx r0).1=4
  ·rw [if_pos h4] at hx;obtain ⟨ps,e3,rfl⟩:=hx;refine ad.step (eP (c:=true) (by rw [h4];rfl) _ _) (ad.step (aF _ _) ?_);refine hg.app (iz hg.pz) rfl rfl (by omega) fun v' s' hg=> ?_;refine ad.bind (EE (fun m hm=>ih m (by omega)) hd n _ ps _ r1 v' s' (Vn _) e3 hg (by simp;omega)) ?_;rintro q ⟨v2,s4,rfl,hg⟩;simp only [ag,ah];exact ad.some ⟨v2,s4,rfl,by simpa using hg⟩
  ·rw [if_neg h4] at hx;obtain ⟨a1,rfl⟩:=fY _ _ _ _ _ _ hx rfl;refine ad.step (eP (c:=false) (VX.2 (by omega)) _ _) (ad.step (aB _ _) ?_);exact hg.app ((ih n (Vn _)).atom true _ p L x d r0 a1 r1 hg.pz hd hx) rfl rfl (by omega) fun v' s' hg=>ad.some ⟨v',s',rfl,hg⟩
 ·rintro c ⟨v',s4,rfl,es4,w,hs4,hd4⟩;simp only [ag,ah];have hdu:=iU hn e2 rfl;refine ad.xk w fun k tk tx y s5 hnd hdt w=> ?_;refine ad.node w ((ih n (Vn _)).expr _ p L x d _ u r' w.pz hd e2) rfl rfl fun k2 tk2 tx2 y2 s6 hn2 hd2 w=> ?_;refine ad.two hnd (ad.two hn2 (ad.fit hnd fun z1 hN1 h1 hf1=>ad.fit hn2 fun z2 hN2 h2 hf2=>ad.one h1 (ad.step (hf1 _) (ad.one h2 (ad.step (hf2 _) ?_)))));refine ad.app w (by simp) (by rw [bq.len hs4];simp;omega) fun v5 s7 fx ho w=> ?_;have hw:=w.o _ Vp;refine ad.some ⟨_,hw.1,hw.2, ?_, ?_,w.pz,w.k⟩
  ·rw [Vx (rc++xs)];exact bq.app hs4 (Dz hN1 hN2)
  ·have:=gf zo r1;simp only [cU,bp] at hd4 ⊢;omega
end
section
variable {β:Type} {Q:β→Prop} {PT:TypeId} {st0 st s:St} {p:Nat} {L:List bc} {x:AV} {d d':Nat} {r r':List bc} {l l1 l2:List Vr} {os:List (AV×List AV)} {t:T}
theorem LZ {t:T} {e:AV} (h:jZ t e) {β:Type} (K:AV→Option β):HM true e K=K e:=by
 cases t with
 | mk k tk tx l=>
  simp only [jZ] at h;obtain ⟨x,es,rfl,hx,_⟩:=h;simp only [HM,az,wN,Ia,HD,hx.af,KN,CO,K5,hx.aJ]
theorem HV {t:T} {e:AV} (h:jZ t e):e.cells.length=4:=by
 cases t with
 | mk k tk tx l=>
  simp only [jZ] at h;obtain ⟨x,es,rfl,hx,_⟩:=h;rfl
theorem bq.mem: ∀{l:List T} {es:List AV},bq l es→ ∀e∈es,∃t∈l,jZ t e
 | [],_,h,e,he=>by simp only [bq] at h;subst h;cases he
 | t::l,_,h,e,he=>by
  simp only [bq] at h;obtain ⟨a,r,rfl,h1,h2⟩:=h;rcases Vv.1 he with rfl | he
  ·exact ⟨t,Vp,h1⟩
  ·obtain ⟨u,hu,hi⟩:=bq.mem h2 e he;exact ⟨u,Vy _ hu,hi⟩
theorem GG {l:List T} {es:List AV} (h:bq l es) {β:Type} (K:List AV→Option β):lZ true es K=K es:=CR (fun v hv K=>by
 obtain ⟨t,_,hi⟩:=h.mem v hv;exact LZ hi K) K
theorem DS {l:List T} {es:List AV} (h:bq l es):lb 4 es=true:=FT fun v hv=>by
 obtain ⟨t,_,hi⟩:=h.mem v hv;exact HV hi
theorem J7 (u:AV) (a o:Nat) (F:FuncId):(bx ([u,AV.mp a o].map strip)&& !vE.full F)=false:=by
 show (bx [strip u,.mp a o]&& _)=false;simp only [bf];show (_&&(false&&true)&& _)=false;simp
theorem QN (l1:List Vr) {a:Nat} {k tk:Int} {tx:List UInt8} {v:AV} {es:List AV} {ts us:List T} {u:AV} {fs:List AV}
  (w:Wd PT st0 st p L x d r (l1++(a,ND,[.int .u8 k,.int .u8 tk,.str tx,v])::l2) ((v,es)::os)) (hns:bq ts es) (hu: ∀{γ:Type} (K:List AV→Option γ),mU u K=K fs) (hus:bq us fs) (hne:us≠[]) (hl:ts.length+us.length≤100000000):
  ad ((aA vE).wide 201 [u,.mp a 0] st) (fun b=>b.1= .tup []∧ ∃v',Wd PT st0 b.2 p L x d r (l1++(a,ND,[.int .u8 k,.int .u8 tk,.str tx,v'])::l2) ((v',es++fs)::os)):=by
 have hm:(a,ND,[AV.int .u8 k,.int .u8 tk,.str tx,v])∈l1++(a,ND,[AV.int .u8 k,.int .u8 tk,.str tx,v])::l2:=List.mem_append_right _ Vp;have hfl:=bq.len hus;have hel:=bq.len hns;have hfn:fs≠[]:=by
  rintro rfl;cases us with
  | nil=>exact hne rfl
  | cons _ _=>cases hfl
 refine ad.wide (ad.step (Nw _ _ _) ?_);unfold Sl;refine ad.step (bL _ _ _ _) ?_;refine ad.nO hm w rfl ?_;refine ad.step (hu _) (ad.step (GG hus _) (ad.step (kO (DS hus) _) ?_));refine ad.app w hfn (by omega) fun v' s fx ho w=> ?_;refine ad.step (bL _ _ _ _) (ad.one ho (ad.one ho ?_));exact ad.mT l1 w (VA rfl) fun s3 fx3 w3=>ad.some ⟨rfl,v',w3⟩
theorem Gv.add {a b k:Nat} {ts us:List T} {u:AV} {fs:List AV} (h:Gv PT st0 s p L x d r a b k ts) (hu: ∀{γ:Type} (K:List AV→Option γ),mU u K=K fs) (hus:bq us fs) (hne:us≠[]) (hd:fq us≤1000000000000000) (hl:ts.length+us.length≤100000000) {K:Kv β} (g: ∀s fx,Gv PT st0 s p L x d r a b k (ts++us)→ad (K (.tup []) s fx) Q):
  ad (al (aA vE) 201 [u,.mp a 0] s K) Q:=by
 obtain ⟨v,es,w,hs,hdd⟩:=h;refine ad.mF (QN [] w hs hu hus hne hl) rfl (J7 u a 0 _) fun v2 s2 h=> ?_;obtain ⟨rfl,v',w'⟩:=h;exact g s2 _ ⟨v',_,w',bq.app hs hus,by rw [cU];omega⟩
theorem Gv.addN {a b k:Nat} {ts:List T} (h:Gv PT st0 s p L x d r a b k ts) {F:FuncId} {args:List AV} (hc:NW PT F args s p L x d t r') (h1:vE.isLook F=false) (h2:(bx (args.map strip)&& !vE.full F)=false) (hl:ts.length+1≤100000000) {K:St→Option β} (g: ∀s,Gv PT st0 s p L x d r' a b k (ts++[t])→ad (K s) Q):
  ad (al (aA vE) F args s fun u s _=>CK u fun n1 n2 tx y=>af y (af y (aJ y fun y=>al (aA vE) 201 [.sl 4 [.agg [.int .u8 n1,.int .u8 n2,.str tx,y]] .shut,.mp a 0] s fun _ s _=>K s))) Q:=by
 obtain ⟨v,es,w,hs,hd⟩:=h;refine ad.node w hc h1 h2 fun k' tk' tx' y s hn hdt w'=> ?_;refine ad.two hn (ad.fit hn fun y' hN h1 hf=> ?_);have hg:Gv PT st0 s p L x d r' a b k ts:=⟨v,es,w',hs,hd⟩;exact hg.add (fun K=>rfl) (vi hN) (by simp) (by rw [bp];exact hdt) hl fun s fx hg=>g s hg
theorem Gv.dp {a b k:Nat} {ts:List T} (pat:Bool) (h:Gv PP st0 s p L x d r a b k ts) {K:Bool→St→Fx→Option β} (g: ∀s',Gv PP st0 s' p L x d r a b k ts→ad (K (dp pat r) s' ⟨[],.all s s'⟩) Q):
  ad (al (aA vE) 118 [.mp p 0,.int .u8 (rz pat:Int),.str (ry pat)] s fun v s fx=>cJ v fun b=>K b s fx) Q:=by
 obtain ⟨v,es,w,hs,hd⟩:=h;exact ad.dp pat w fun s' w'=>g s' ⟨v,es,w',hs,hd⟩
theorem Bh {n:Nat} (ih: ∀m,m < n→IH m) {a b k:Nat} {st5:St} (ha:st5.h=a) (hd:d≤64): ∀(m:Nat) (ts bs:List T) (r r':List bc) (s:St),m≤n→P m .params d r=some (bs,r')→Gv PP st0 s p L x d r a b k ts→ts.length+m≤100000000→
  ad (bn (qC (.mp p 0) st5) ([],s)) (fun q=> ∃s',q=(0,[],s')∧Gv PP st0 s' p L x d r' a b k (ts++bs)):=by
 intro m
 induction m with
 | zero=>intro ts bs r r' s _ h;cases h
 | succ m ihm=>
  intro ts bs r r' s hm h hg hl;simp only [P] at h;split at h
  ·rename_i hb;obtain ⟨⟨a1,r1⟩,e1,h⟩:=bind_some h;obtain ⟨u,rfl⟩:=fY _ _ _ _ _ _ e1 rfl;obtain ⟨⟨b1,r2⟩,e2,h⟩:=bind_some h;cases h;have hgo:ad (qC (.mp p 0) st5 ([],s)) (fun q=> ∃s',q= .inl ([],s')∧Gv PP st0 s' p L x d r1 a b k (ts++[u])):=by
    simp only [qC,ah,ha];refine hg.dp true fun s1 hg=> ?_;rw [hb];refine ad.step (aF _ _) ?_;exact hg.addN ((ih m (by omega)).atom true _ p L x d r u r1 hg.pz hd e1) rfl rfl (by omega) fun s' hg=>ad.some ⟨s',rfl,hg⟩
   obtain ⟨q,e,s',rfl,hg'⟩:=hgo;rw [br e];refine (ihm _ b1 r1 _ s' (by omega) e2 hg' (by simp;omega)).mono ?_;rintro q ⟨s2,rfl,hg2⟩;exact ⟨s2,rfl,by simpa using hg2⟩
  ·rename_i hb;cases h;have hgo:ad (qC (.mp p 0) st5 ([],s)) (fun q=> ∃s',q= .inr (0,[],s')∧Gv PP st0 s' p L x d r a b k ts):=by
    simp only [qC,ah,ha];refine hg.dp true fun s1 hg=> ?_;rw [V7 hb];exact ad.step (aB _ _) (ad.some ⟨s1,rfl,hg⟩)
   obtain ⟨q,e,s',rfl,hg'⟩:=hgo;exact ⟨_,bo e,s',rfl,by simpa using hg'⟩
theorem IL {n:Nat} (ih: ∀m,m < n→IH m) {a b k:Nat} {st5:St} (ha:st5.h=a) (hd:d≤64): ∀(m:Nat) (ts bs:List T) (r r':List bc) (s:St),m≤n→P m .arms d r=some (bs,r')→Gv PP st0 s p L x d r a b k ts→ts.length+2 * m≤100000000→
  ad (bn (qy (.mp p 0) st5) ([],s)) (fun q=> ∃s',q=(0,[],s')∧Gv PP st0 s' p L x d r' a b k (ts++bs)):=by
 intro m
 induction m with
 | zero=>intro ts bs r r' s _ h;cases h
 | succ m ihm=>
  intro ts bs r r' s hm h hg hl;simp only [P] at h;split at h
  ·rename_i hb;obtain ⟨⟨a1,r1⟩,e1,h⟩:=bind_some h;obtain ⟨u,rfl⟩:=fY _ _ _ _ _ _ e1 rfl;obtain ⟨⟨b1,r2⟩,e2,h⟩:=bind_some h;cases h;have hgo:ad (qy (.mp p 0) st5 ([],s)) (fun q=> ∃s',q= .inl ([],s')∧Gv PP st0 s' p L x d r1 a b k (ts++[aR r]++[u])):=by
    simp only [qy,ah,ha];refine hg.is fun s1 hg=> ?_;refine ad.step (eP (c:=true) hb _ _) (ad.step (aF _ _) ?_);refine hg.addN (iz hg.pz) rfl rfl (by omega) fun s' hg=> ?_;exact hg.addN ((ih m (by omega)).arm _ p L x d _ u r1 hg.pz hd e1) rfl rfl (by simp;omega) fun s' hg=>ad.some ⟨s',rfl,hg⟩
   obtain ⟨q,e,s',rfl,hg'⟩:=hgo;rw [br e];refine (ihm _ b1 r1 _ s' (by omega) e2 hg' (by simp;omega)).mono ?_;rintro q ⟨s2,rfl,hg2⟩;exact ⟨s2,rfl,by simpa using hg2⟩
  ·rename_i hb;cases h;have hgo:ad (qy (.mp p 0) st5 ([],s)) (fun q=> ∃s',q= .inr (0,[],s')∧Gv PP st0 s' p L x d r a b k ts):=by
    simp only [qy,ah,ha];refine hg.is fun s1 hg=> ?_;exact ad.step (eP (c:=false) (V7 hb) _ _) (ad.step (aB _ _) (ad.some ⟨s1,rfl,hg⟩))
   obtain ⟨q,e,s',rfl,hg'⟩:=hgo;exact ⟨_,bo e,s',rfl,by simpa using hg'⟩
def UP (n:Nat) (st s:St) (p:Nat) (L:List bc) (x:AV) (d a b:Nat) (t:T) (r':List bc):Prop:= ∃k ts e r3,Gv PP st s p L x d r3 a b k ts∧P n .expr d r3=some ([e],r')∧t=node k (ts++[e])∧ts.length≤50000000
def WR (M:St→Prop) (Q:AV×St→Prop):Sum dq (AV×St)→Prop
 | .inl q=> ∃s,q=([],s)∧M s
 | .inr b=>Q b
def Vd (M:St→Prop) (Q:AV×St→Prop):Sum dq (Sum dq (AV×St))→Prop
 | .inl q=> ∃s,q=([],s)∧M s
 | .inr b=>WR M Q b
theorem F2 {n:Nat} (ih: ∀m,m≤n→IH m) (hn:n≤10000000):ra 173 (fun _=>[]) .whole (n+1):=by
 intro st p L x d r t r' hp hd h;have hdt:gv t≤200000000000000:=by
  have:=O2 (n+1) .whole d r [t] r' h;rw [show lg lC.whole=[] from rfl,bg,bp] at this;have hq:(n+1) * (n+1)≤10000001 * 10000001:=Xm (by omega) (by omega);omega
 simp only [P] at h;refine ad.wide (ad.step (Ol _ _) ?_);unfold Tc;refine ad.alloc (Wd.begin hp) fun s0 h0 w=> ?_;refine ad.alloc w fun s1 _ w=> ?_;refine ad.Jr w fun s2 w=> ?_;have ihn:=ih n (Vn _);have dtk:=db r;refine ad.bind (R:=WR (fun s=>UP n st s p L x d s0.h st.h t r') (NQ PP st p L x d t r')) ?_ ?_
 ·split at h
  ·rename_i hb;obtain ⟨⟨bs,r2⟩,e1,h⟩:=bind_some h;obtain ⟨⟨es,r3⟩,e2,h⟩:=bind_some h;obtain ⟨e,rfl⟩:=fY _ _ _ _ _ _ e2 rfl;cases h;refine ad.step (eP (c:=true) hb _ _) (ad.step (aF _ _) ?_);refine ad.mT [] w (VA rfl) fun s3 _ w=> ?_;have hg:Gv PP st s3 p L x d r s0.h st.h 6 []:=⟨_,_,w.aG,bq.nil,by simp [bg]⟩;refine hg.addN (iz hg.pz) rfl rfl (by simp) fun s4 hg=> ?_;refine ad.mF (ihn.binding s4 p L x d _ bs r2 hg.pz hd e1) rfl rfl fun v s5 hv=> ?_;obtain ⟨es,ho,_,hns,hdl,hp5,hk5⟩:=hv;have hbl:=u4 _ _ _ _ _ e1;have hg:Gv PP st s5 p L x d r2 s0.h st.h 6 ([]++[aR r]):=by
    obtain ⟨v,es,w,hs,hd⟩:=hg;exact ⟨v,es,w.move hk5 hp5,hs,hd⟩
   refine hg.add (fun K=>(CJ.own ho).elems K) hns hbl.2 hdl (by simp;omega) fun s6 _ hg=> ?_;refine hg.addN (oN hg.pz _) rfl rfl (by simp;omega) fun s7 hg=> ?_;exact ad.some ⟨s7,rfl,6,_,e,_,hg,e2,by simp [Vx];rfl,by simp;omega⟩
  rename_i hb;refine ad.step (eP (c:=false) (V7 hb) _ _) (ad.step (aB _ _) ?_);refine ad.Jr w fun s3 w=> ?_;refine ad.bind (R:=Vd (fun s=>UP n st s p L x d s0.h st.h t r') (NQ PP st p L x d t r')) ?_ ?_
  ·split at h
   ·rename_i hb;obtain ⟨⟨a1,r1⟩,e1,h⟩:=bind_some h;obtain ⟨u,rfl⟩:=fY _ _ _ _ _ _ e1 rfl;obtain ⟨⟨ps,r2⟩,e2,h⟩:=bind_some h;obtain ⟨⟨es,r3⟩,e3,h⟩:=bind_some h;obtain ⟨e,rfl⟩:=fY _ _ _ _ _ _ e3 rfl;cases h;have hpl:=r8 _ _ _ _ _ e2;refine ad.step (eP (c:=true) hb _ _) (ad.step (aF _ _) ?_);refine ad.mT [] w (VA rfl) fun s4 _ w=> ?_;have hg:Gv PP st s4 p L x d r s0.h st.h 7 []:=⟨_,_,w.aG,bq.nil,by simp [bg]⟩;refine hg.addN (iz hg.pz) rfl rfl (by simp) fun s4 hg=> ?_;refine hg.addN (ihn.atom true _ p L x d _ u r1 hg.pz hd e1) rfl rfl (by simp) fun s5 hg=> ?_;refine ad.bind (Bh (fun m hm=>ih m (by omega)) rfl hd n _ ps _ r2 s5 (Vn _) e2 hg (by simp;omega)) ?_;rintro q ⟨s6,rfl,hg⟩;refine ad.step (ah _) ?_;refine hg.addN (oN hg.pz _) rfl rfl (by simp;omega) fun s7 hg=> ?_;exact ad.some ⟨s7,rfl,7,_,e,_,hg,e3,by simp [Vx];rfl,by simp;omega⟩
   rename_i hb;refine ad.step (eP (c:=false) (V7 hb) _ _) (ad.step (aB _ _) ?_);refine ad.Jr w fun s4 w=> ?_;split at h
   ·rename_i hb;obtain ⟨⟨a1,r1⟩,e1,h⟩:=bind_some h;obtain ⟨u,rfl⟩:=fY _ _ _ _ _ _ e1 rfl;obtain ⟨⟨b1,r2⟩,e2,h⟩:=bind_some h;obtain ⟨v,rfl⟩:=fY _ _ _ _ _ _ e2 rfl;obtain ⟨⟨es,r3⟩,e3,h⟩:=bind_some h;obtain ⟨e,rfl⟩:=fY _ _ _ _ _ _ e3 rfl;cases h;refine ad.step (eP (c:=true) hb _ _) (ad.step (aF _ _) ?_);refine ad.mT [] w (VA rfl) fun s4 _ w=> ?_;have hg:Gv PP st s4 p L x d r s0.h st.h 8 []:=⟨_,_,w.aG,bq.nil,by simp [bg]⟩;refine hg.addN (iz hg.pz) rfl rfl (by simp) fun s4 hg=> ?_;refine hg.addN (ihn.expr _ p L x d _ u r1 hg.pz hd e1) rfl rfl (by simp) fun s5 hg=> ?_;refine hg.addN (oN hg.pz _) rfl rfl (by simp) fun s6 hg=> ?_;refine hg.addN (ihn.expr _ p L x d _ v r2 hg.pz hd e2) rfl rfl (by simp) fun s7 hg=> ?_;refine hg.addN (oN hg.pz _) rfl rfl (by simp) fun s8 hg=> ?_;exact ad.some ⟨s8,rfl,8,_,e,_,hg,e3,rfl,by simp⟩
   rename_i hb;refine ad.step (eP (c:=false) (V7 hb) _ _) (ad.step (aB _ _) ?_);refine ad.Jr w fun s5 w=> ?_;split at h
   ·rename_i hb;obtain ⟨⟨a1,r1⟩,e1,h⟩:=bind_some h;obtain ⟨u,rfl⟩:=fY _ _ _ _ _ _ e1 rfl;obtain ⟨⟨b1,r3⟩,e2,h⟩:=bind_some h;obtain ⟨v,rfl⟩:=fY _ _ _ _ _ _ e2 rfl;obtain ⟨⟨cs,r4⟩,e3,h⟩:=bind_some h;cases h;have hal:=Lb _ _ _ _ _ e3;refine ad.step (eP (c:=true) hb _ _) (ad.step (aF _ _) ?_);refine ad.mT [] w (VA rfl) fun s4 _ w=> ?_;have hg:Gv PP st s4 p L x d r s0.h st.h 9 []:=⟨_,_,w.aG,bq.nil,by simp [bg]⟩;refine hg.addN (iz hg.pz) rfl rfl (by simp) fun s4 hg=> ?_;refine hg.addN (ihn.expr _ p L x d _ u r1 hg.pz hd e1) rfl rfl (by simp) fun s5 hg=> ?_;refine hg.addN (oN hg.pz _) rfl rfl (by simp) fun s6 hg=> ?_;refine hg.is fun s7 hg=> ?_;refine ad.bind (R:=fun c=> ∃s,c=([],s)∧Gv PP st s p L x d (if dV gH (bk bX r1)=true then aQ (bk bX r1) else bk bX r1) s0.h st.h 9 ([aR r]++[u]++[da bX r1]++if dV gH (bk bX r1)=true then [aR (bk bX r1)] else [])) ?_ ?_
    ·cases hb2:dV gH (bk bX r1) with
     | true=>
      refine ad.step (eP (c:=true) hb2 _ _) (ad.step (aF _ _) ?_);exact hg.addN (iz hg.pz) rfl rfl (by simp) fun s8 hg=>ad.some ⟨s8,rfl,hg⟩
     | false=>
      refine ad.step (eP (c:=false) hb2 _ _) (ad.step (aB _ _) ?_);exact ad.some ⟨s7,rfl,by rw [if_neg (by simp),if_neg (by simp),VH];exact hg⟩
    ·rintro c ⟨s8,rfl,hg⟩;have hbl:(if dV gH (bk bX r1)=true then [aR (bk bX r1)] else []).length≤1:=by split <;> simp
     generalize (if dV gH (bk bX r1)=true then [aR (bk bX r1)] else [])=bar at hbl hg hdt ⊢;refine ad.step (ah _) ?_;refine hg.addN (ihn.arm _ p L x d _ v r3 hg.pz hd e2) rfl rfl (by simp;omega) fun s9 hg=> ?_;refine ad.bind (IL (fun m hm=>ih m (by omega)) rfl hd n _ cs _ _ s9 (Vn _) e3 hg (by simp;omega)) ?_;rintro q ⟨s10,rfl,hg⟩;refine ad.step (ah _) ?_;refine hg.nd.load fun k tk tx y w hnd=>ad.two hnd ?_;refine ad.store [_] w fun s11 _ w=> ?_;refine ad.bind (R:=fun c=> ∃b,c= .inr b∧NQ PP st p L x d _ _ b) (ad.bind (R:=NQ PP st p L x d (node 9 ([aR r]++[u]++[da bX r1]++bar++[v]++cs)) _) (ad.lK (Vy _ Vp) w (ad.some ⟨hnd.vn,VZ hdt (by omega),w.pz,w.k⟩)) fun b hb=>ad.some ⟨b,rfl,hb⟩) ?_;rintro c ⟨b,rfl,hb⟩;exact ad.some hb
   ·rename_i hb;refine ad.step (eP (c:=false) (V7 hb) _ _) (ad.step (aB _ _) ?_);refine ad.node w (ihn.level 0 (by omega) _ p L x d r t r' w.pz hd h) rfl rfl fun k tk tx y s hnd hdt' w=>ad.two hnd ?_;refine ad.store [_] w fun s11 _ w=> ?_;refine ad.bind (R:=fun c=> ∃b,c= .inr b∧NQ PP st p L x d t r' b) (ad.bind (R:=NQ PP st p L x d t r') (ad.lK (Vy _ Vp) w (ad.some ⟨hnd.vn,hdt',w.pz,w.k⟩)) fun b hb=>ad.some ⟨b,rfl,hb⟩) ?_;rintro c ⟨b,rfl,hb⟩;exact ad.some hb
  ·intro c hc
   match c,hc with
   | .inl q,hc=>
    obtain ⟨s,rfl,hm⟩:=hc;exact ad.some ⟨s,rfl,hm⟩
   | .inr b,hc=>exact ad.some hc
 ·intro c hc
  match c,hc with
  | .inl q,hc=>
   obtain ⟨s,rfl,k,ts,e,r3,hg,he,rfl,hl⟩:=hc;refine ad.step (bA _ _) (ad.step (ah _) ?_);refine hg.addN (ihn.expr _ p L x d _ e r' hg.pz hd he) rfl rfl (by omega) fun s4 hg=> ?_;exact hg.nd.fin (VZ hdt (by omega))
  | .inr b,hc=>exact ad.some hc
theorem Ch: ∀n,n≤10000000→IH n:=by
 intro n
 induction n using Nat.strongRecOn with
 | _ n ih=>
  intro hn;cases n with
  | zero=>
   refine ⟨?_, ?_,fun k _=> ?_, ?_,fun pat=> ?_,fun list pat=> ?_, ?_, ?_, ?_⟩
   all_goals
    intro st p L x d r t r' _ _ h;cases h
  | succ n=>
   have ih': ∀m,m≤n→IH m:=fun m hm=>ih m (by omega) (by omega);have i:=ih' n (Vn _);have hn':n≤10000000:=by omega
   exact ⟨Ic i,F2 ih' hn',fun k hk=>FJ ih' hn' k hk,LJ ih' hn',fun pat=>IB i pat,fun list pat=>D9 ih' hn' list pat,Bz i hn',JU i hn',Cj ih' hn'⟩
end
section
variable {β:Type} {Q:β→Prop} {PT:TypeId} {st0 st s:St} {p:Nat} {L:List bc} {x:AV} {d d':Nat} {r r':List bc} {l l1 l2:List Vr} {os:List (AV×List AV)} {t:T}
abbrev TO:TypeId:=24
theorem _root_.Go.VM.ad.renew {tk:Nat} {a:Int} {b:List UInt8} (w:Wd PP st0 st p L x d r l os) (hm:(tk,TO,[.int .u8 a,.str b])∈l) {K:St→Option β} (g: ∀s',Wd PP st0 s' p L x d r ((st.h,TO,[.int .u8 ((nx r).1:Int),.str (nx r).2])::l) os→ad (K s') Q):
  ad (ay 2 true (.mp tk 0) st fun v _=>zH v fun cs=>bE cs fun u cs=>bU .u8 u fun n=>bE cs fun u cs=>eU u fun tx=>cj cs (bR (St.add st (.cells TO [.int .u8 0,.str []])) fun s1=>aD (aA vE) 2 (.mp (St.h st) 0) (.agg [.int .u8 n,.str tx]) [.int .u8 n,.str tx] s1 fun _ s2 _=>
   al (aA vE) 79 [.mp p 0] s2 fun v s _=>gK v fun vs=>cE vs 0 fun u=>zH u fun cs=>bE cs fun a cs=>bU .u8 a fun n=>bE cs fun b cs=>eU b fun tx=>cj cs (gK v fun vs=>cE vs 1 fun u=>bU .i64 u fun _=>aD (aA vE) 2 (.mp (St.h st) 0) (.agg [.int .u8 n,.str tx]) [.int .u8 n,.str tx] s fun _ s' _=>K s'))) Q:=by
 refine ad.RQ hm w ?_;simp only [az,ag,ai,ao,ah];refine ad.alloc w fun s1 _ w1=>ad.store [] w1 fun s2 _ w2=> ?_;obtain ⟨i,h,rfl⟩:=w2.pz;obtain ⟨s3,k,e⟩:=nB h;refine ad.step (e _) ?_;simp only [bw,aU,bj,az,ag,ai,ao,ah];exact ad.store [] (w2.quiet k) fun s4 _ w4=>g s4 w4
theorem B2 {a b:Nat} (h:a≠b):((a:Int) != (b:Int))=true:=by
 rw [bne,VX.2 (show (a:Int)≠(b:Int) by omega)];rfl
theorem Iq {c26:dq} {kc:Nat} (hc:c26.2.h=kc): ∀(m:Nat) (r:List bc) (tk:Nat) (ts:List T) (es:List AV) (v:AV) (s:St) (os:List (AV×List AV)),
  Wd PP st0 s p L x d r ([(tk,TO,[.int .u8 ((nx r).1:Int),.str (nx r).2])]++(kc,ND,[.int .u8 3,.int .u8 0,.str [],v])::l2) ((v,es)::os)→bq ts es→fq ts≤2→ts.length+m≤100000000→r.length≤m→
  ad (bn (pR (.mp p 0) c26) ([.mp tk 0],s)) (fun q=> ∃s' v' es',q=(0,[],s')∧Wd PP st0 s' p L x d (skip m r).2 ((kc,ND,[.int .u8 3,.int .u8 0,.str [],v'])::l2) ((v',es')::os)∧bq (ts++(skip m r).1) es'∧fq (ts++(skip m r).1)≤2):=by
 intro m
 induction m with
 | zero=>
  intro r tk ts es v s os w hns hdl hl hr;obtain rfl:r=[]:=V8 (by omega);simp only [skip,VH];have hgo:ad (pR (.mp p 0) c26 ([.mp tk 0],s)) (fun q=>q= .inr (0,[],s)):=by
   simp only [pR,ag,ah];refine ad.bind (R:=fun c=>c=([.bool false],s)) ?_ ?_
   ·refine ad.step (bL _ _ _ _) ?_;refine ad.nO (Vp) w rfl (ad.step (ai _ _ _) ?_);exact ad.some rfl
   ·rintro c rfl;exact ad.some rfl
  obtain ⟨q,e,rfl⟩:=hgo;exact ⟨_,bo e,s,v,es,rfl,w.sub (List.Sublist.cons _ (WS _)),hns,hdl⟩
 | succ m ihm=>
  intro r tk ts es v s os w hns hdl hl hr;by_cases hcond:(nx r).1≠0∧dV qZ r=false
  ·have hgo:ad (pR (.mp p 0) c26 ([.mp tk 0],s)) (fun q=> ∃tk' s' v' e,q= .inl ([.mp tk' 0],s')∧Wd PP st0 s' p L x d (aQ r) ([(tk',TO,[.int .u8 ((nx (aQ r)).1:Int),.str (nx (aQ r)).2])]++(kc,ND,[.int .u8 3,.int .u8 0,.str [],v'])::l2) ((v',es++[e])::os)∧bq (ts++[aR r]) (es++[e])):=by
    simp only [pR,ag,ah,hc];refine ad.bind (R:=fun c=> ∃s',c=([.bool true],s')∧Wd PP st0 s' p L x d r ([(tk,TO,[.int .u8 ((nx r).1:Int),.str (nx r).2])]++(kc,ND,[.int .u8 3,.int .u8 0,.str [],v])::l2) ((v,es)::os)) ?_ ?_
    ·refine ad.step (bL _ _ _ _) ?_;refine ad.nO (Vp) w rfl (ad.step (ai _ _ _) ?_);refine ad.step (eP (c:=true) (B2 (b:=0) hcond.1) _ _) (ad.step (aF _ _) ?_);refine ad.Jr w fun s1 w=> ?_;exact ad.some ⟨s1,by rw [show dV [108,101,116] r=false from hcond.2];rfl,w⟩
    ·rintro c ⟨s1,rfl,w⟩;simp only [ag,ah,aE,aF];refine ad.grow [_] w (iz w.pz) rfl rfl hns (by omega) (by omega) fun v' e s2 hns' _ w=> ?_;refine ad.renew w (tk:=tk) Vp fun s3 w=> ?_;refine ad.some ⟨_,s3,v',e,rfl,w.sub ?_,hns'⟩;exact List.Sublist.cons_cons _ (List.Sublist.cons _ (WS _))
   obtain ⟨q,e,tk',s',v',e1,rfl,w',hns'⟩:=hgo;rw [br e];have hlt:=eA hcond.1;have hsk:skip (m+1) r=(aR r::(skip m (aQ r)).1,(skip m (aQ r)).2):=by
    simp only [skip];rw [if_pos hcond]
   rw [hsk];refine (ihm (aQ r) tk' _ _ v' s' os w' hns' ?_ (by simp;omega) (by omega)).mono ?_
   ·have:=db r;rw [cU,bp];omega
   ·rintro q ⟨s2,v2,es2,rfl,w2,hn2,hd2⟩;exact ⟨s2,v2,es2,rfl,w2,by simpa using hn2,by simpa using hd2⟩
  ·have hsk:skip (m+1) r=([],r):=by
    simp only [skip];rw [if_neg hcond]
   rw [hsk,VH];have hgo:ad (pR (.mp p 0) c26 ([.mp tk 0],s)) (fun q=> ∃s',q= .inr (0,[],s')∧Wd PP st0 s' p L x d r ([(tk,TO,[.int .u8 ((nx r).1:Int),.str (nx r).2])]++(kc,ND,[.int .u8 3,.int .u8 0,.str [],v])::l2) ((v,es)::os)):=by
    simp only [pR,ag,ah];refine ad.bind (R:=fun c=> ∃s',c=([.bool false],s')∧Wd PP st0 s' p L x d r ([(tk,TO,[.int .u8 ((nx r).1:Int),.str (nx r).2])]++(kc,ND,[.int .u8 3,.int .u8 0,.str [],v])::l2) ((v,es)::os)) ?_ ?_
    ·refine ad.step (bL _ _ _ _) ?_;refine ad.nO (Vp) w rfl (ad.step (ai _ _ _) ?_);by_cases h0:(nx r).1=0
     ·rw [h0];exact ad.some ⟨s,rfl,by rw [h0] at w;exact w⟩
     ·have hb:dV qZ r=true:=by
       cases hb:dV qZ r with
       | true=>rfl
       | false=>exact absurd ⟨h0,hb⟩ hcond
      refine ad.step (eP (c:=true) (B2 (b:=0) h0) _ _) (ad.step (aF _ _) ?_);refine ad.Jr w fun s1 w=> ?_;exact ad.some ⟨s1,by rw [show dV [108,101,116] r=true from hb];rfl,w⟩
    ·rintro c ⟨s1,rfl,w⟩;exact ad.some ⟨s1,rfl,w⟩
   obtain ⟨q,e,s',rfl,w'⟩:=hgo;exact ⟨_,bo e,s',v,es,rfl,w'.sub (List.Sublist.cons _ (WS _)),hns,hdl⟩
theorem LG (n:Nat) (r:List bc):fq (skip n r).1≤2:=by
 induction n generalizing r with
 | zero=>simp [skip,bg]
 | succ n ih=>
  simp only [skip];split
  ·have:=db r;have:=ih (aQ r);simp only [bY];omega
  ·simp [bg]
theorem zv {s0:St} {a b:Nat} (ha:s0.h=a): ∀(N:Nat) (r:List bc) (D:List T) (tk:Nat) (ts:List T) (es:List AV) (v:AV) (s:St),N≤10000000→decls N r=some D→r.length≤1000000→
  Wd PP st0 s p L x 0 r ([(tk,TO,[.int .u8 ((nx r).1:Int),.str (nx r).2])]++(a,ND,[.int .u8 4,.int .u8 0,.str [],v])::[(b,ND,z4)]) [(v,es)]→bq ts es→fq ts≤500000000000000→ts.length+N≤90000000→
  ad (bn (sd (.mp p 0) s0) ([.mp tk 0],s)) (fun q=> ∃s' rE D0,q=(0,[],s')∧D=D0++[aR rE]∧Gv PP st0 s' p L x 0 rE a b 4 (ts++D0)∧(ts++D0).length≤90000000∧fq (ts++D0)≤500000000000000):=by
 intro N
 induction N with
 | zero=>intro r D tk ts es v s _ h;cases h
 | succ n ihn=>
  intro r D tk ts es v s hN h hrl w hns hdl hl;simp only [decls] at h;split at h
  ·rename_i h0;cases h;have hgo:ad (sd (.mp p 0) s0 ([.mp tk 0],s)) (fun q=>q= .inr (0,[],s)):=by
    simp only [sd,ag,ah];refine ad.step (bL _ _ _ _) ?_;refine ad.nO (Vp) w rfl (ad.step (ai _ _ _) ?_);rw [h0];exact ad.some rfl
   obtain ⟨q,e,rfl⟩:=hgo;exact ⟨_,bo e,s,r,[],rfl,rfl,⟨v,es,w.sub (List.Sublist.cons _ (WS _)),by simpa using hns,by rw [VH];omega⟩,by simp;omega,by rw [VH];exact hdl⟩
  ·rename_i h0;have hst: ∃(u:T) (r1:List bc) (D1:List T),decls n r1=some D1∧D=u::D1∧gv u≤300000000000000∧r1.length≤r.length∧
     ad (sd (.mp p 0) s0 ([.mp tk 0],s)) (fun q=> ∃tk' s' v' e,q= .inl ([.mp tk' 0],s')∧Wd PP st0 s' p L x 0 r1 ([(tk',TO,[.int .u8 ((nx r1).1:Int),.str (nx r1).2])]++(a,ND,[.int .u8 4,.int .u8 0,.str [],v'])::[(b,ND,z4)]) [(v',es++[e])]∧jZ u e):=by
    have back: ∀(kc:Nat) (k:Nat) (u:T) (r1:List bc) (s5:St) (vk:AV),Nd u k 0 [] vk→
      Wd PP st0 s5 p L x 0 r1 ((kc,ND,[.int .u8 (k:Int),.int .u8 0,.str [],vk])::(tk,TO,[.int .u8 ((nx r).1:Int),.str (nx r).2])::(a,ND,[.int .u8 4,.int .u8 0,.str [],v])::[(b,ND,z4)]) [(v,es)]→
      ad (ay 1 false (.mp a 3) s5 fun v166 _=>ay 4 true (.mp kc 0) s5 fun v168 _=>CK v168 fun n1 n2 tx y=>af y (af y (aJ y fun y=>af y (aJ y fun y=>eD 4 56 ND v166 [.agg [.int .u8 n1,.int .u8 n2,.str tx,y]] s5 fun v185 s6 _=>af v185 (af v185 (aD (aA vE) 1 (.mp a 3) v185 [v185] s6 fun _ s7 _=>
       ay 2 true (.mp tk 0) s7 fun v _=>zH v fun cs=>bE cs fun u cs=>bU .u8 u fun n=>bE cs fun u cs=>eU u fun tx=>cj cs (bR (St.add s7 (.cells TO [.int .u8 0,.str []])) fun s1=>aD (aA vE) 2 (.mp (St.h s7) 0) (.agg [.int .u8 n,.str tx]) [.int .u8 n,.str tx] s1 fun _ s2 _=>
        al (aA vE) 79 [.mp p 0] s2 fun v s _=>gK v fun vs=>cE vs 0 fun u=>zH u fun cs=>bE cs fun a cs=>bU .u8 a fun n=>bE cs fun b cs=>eU b fun tx=>cj cs (gK v fun vs=>cE vs 1 fun u=>bU .i64 u fun _=>aD (aA vE) 2 (.mp (St.h s7) 0) (.agg [.int .u8 n,.str tx]) [.int .u8 n,.str tx] s fun _ s' _=>some (Sum.inl (β:=Nat×dq) ([AV.mp (St.h s7) 0],s'))))))))))
       (fun q=> ∃tk' s' v' e,q= .inl ([.mp tk' 0],s')∧Wd PP st0 s' p L x 0 r1 ([(tk',TO,[.int .u8 ((nx r1).1:Int),.str (nx r1).2])]++(a,ND,[.int .u8 4,.int .u8 0,.str [],v'])::[(b,ND,z4)]) [(v',es++[e])]∧jZ u e):=by
     intro kc k u r1 s5 vk hnd w;refine ad.nO (a:=a) (Vy _ (Vy _ Vp)) w rfl ?_;refine ad.lK (Vp) w ?_;refine ad.two hnd (ad.fit hnd fun y' hN h1 hf=>ad.one h1 (ad.step (hf _) (ad.app w (by simp) (by rw [bq.len hns];simp;omega) fun v' s6 _ ho w=> ?_)));refine ad.one ho (ad.one ho (ad.mT [_,_] w (VA rfl) fun s7 _ w=> ?_));refine ad.renew w (tk:=tk) (Vy _ Vp) fun s8 w=> ?_;refine ad.some ⟨_,s8,v',_,rfl,w.sub ?_,hN⟩;exact List.Sublist.cons_cons _ (List.Sublist.cons _ (List.Sublist.cons _ (WS _)))
    split at h
    ·rename_i hb;obtain ⟨⟨bs,r1⟩,e1,h⟩:=bind_some h;obtain ⟨D1,e2,h⟩:=bind_some h;cases h;have hbd:=Ft (by omega:n≤10000000) e1 rfl;have hbl:=u4 _ _ _ _ _ e1;have hdt:=db r;refine ⟨_,r1,D1,e2,rfl,by simp only [cu,bY];omega, ?_, ?_⟩
     ·have:=Dh (Q:=fun q=>q.length≤r.length) (fun q hq=>VZ (kB q) hq) _ _ _ _ _ _ e1 (kB r);exact this
     simp only [sd,ag,ah,ha];refine ad.step (bL _ _ _ _) ?_;refine ad.nO (Vp) w rfl (ad.step (ai _ _ _) ?_);refine ad.step (eP (c:=true) (B2 (b:=0) h0) _ _) (ad.step (aF _ _) ?_);refine ad.alloc w fun s1 _ w=> ?_;refine ad.Jr w fun s2 w=> ?_;refine ad.bind (R:=fun c=> ∃s5 vk,c=([],s5)∧Nd (node 5 (aR r::bs)) 5 0 [] vk∧Wd PP st0 s5 p L x 0 r1 ((s.h,ND,[.int .u8 ((5:Nat):Int),.int .u8 0,.str [],vk])::(tk,TO,[.int .u8 ((nx r).1:Int),.str (nx r).2])::(a,ND,[.int .u8 4,.int .u8 0,.str [],v])::[(b,ND,z4)]) [(v,es)]) ?_ ?_
     ·refine ad.step (eP (c:=true) hb _ _) (ad.step (aF _ _) ?_);refine ad.take w fun k tk' tx y s3 hnd hdt' w=> ?_;refine ad.two hnd (ad.fit hnd fun z1 hN1 _ _=> ?_);refine ad.mF ((Ch n (by omega)).binding s3 p L x 0 _ bs r1 w.pz (by omega) e1) rfl rfl fun v4 s4 hv=> ?_;obtain ⟨es4,ho,_,hns4,hdl4,hp4,hk4⟩:=hv;have w4:=w.move hk4 hp4;refine ad.step ((CJ.own ho).elems _) (ad.step (GG hns4 _) (ad.step (kO (DS hns4) _) ?_));have hfl:=bq.len hns4;refine ad.app (w4.shut (es:=[_]) (by simp)) (by
       intro e;rw [e] at hfl;exact hbl.2 (V8 hfl.symm)) (by rw [hfl];simp;omega) fun v5 s5 _ ho5 w5=> ?_
      refine ad.one ho5 (ad.one ho5 ?_);refine ad.store [] w5 fun s6 _ w6=> ?_;exact ad.some ⟨s6,v5,rfl,⟨⟨_,_,rfl,w6.R5,bq.cons hN1 hns4⟩⟩,w6.drop⟩
     ·rintro c ⟨s5,vk,rfl,hnd,w⟩;refine ad.step (ah _) ?_;exact back s.h 5 _ r1 s5 vk hnd w
    ·rename_i hb;obtain ⟨D1,e2,h⟩:=bind_some h;cases h;refine ⟨_,_,D1,e2,rfl,by have:=LG r.length r;simp only [cu];omega,BV _ _, ?_⟩;simp only [sd,ag,ah,ha];refine ad.step (bL _ _ _ _) ?_;refine ad.nO (Vp) w rfl (ad.step (ai _ _ _) ?_);refine ad.step (eP (c:=true) (B2 (b:=0) h0) _ _) (ad.step (aF _ _) ?_);refine ad.alloc w fun s1 _ w=> ?_;refine ad.Jr w fun s2 w=> ?_;refine ad.bind (R:=fun c=> ∃s5 vk,c=([],s5)∧Nd (node 3 (skip r.length r).1) 3 0 [] vk∧Wd PP st0 s5 p L x 0 (skip r.length r).2 ((s.h,ND,[.int .u8 ((3:Nat):Int),.int .u8 0,.str [],vk])::(tk,TO,[.int .u8 ((nx r).1:Int),.str (nx r).2])::(a,ND,[.int .u8 4,.int .u8 0,.str [],v])::[(b,ND,z4)]) [(v,es)]) ?_ ?_
     ·refine ad.step (eP (c:=false) (V7 hb) _ _) (ad.step (aB _ _) ?_);refine ad.mT [] w (VA rfl) fun s3 _ w=> ?_;refine ad.next w fun s4 s5 w=> ?_;refine ad.bind (Iq (kc:=s.h) rfl r.length r _ [] [] .aG s5 _ w.aG bq.nil (by simp [bg]) (by simp;omega) (Vn _)) ?_;rintro q ⟨s6,v6,es6,rfl,w6,hn6,hd6⟩;refine ad.step (ah _) ?_;exact ad.some ⟨s6,v6,rfl,⟨⟨_,_,rfl,w6.R5,by simpa using hn6⟩⟩,w6.drop⟩
     ·rintro c ⟨s5,vk,rfl,hnd,w⟩;refine ad.step (ah _) ?_;exact back s.h 3 _ _ s5 vk hnd w
   obtain ⟨u,r1,D1,e2,rfl,hdu,hrl',q,e,tk',s',v',e1,rfl,w',hN⟩:=hst;rw [br e];refine (ihn r1 D1 tk' (ts++[u]) _ v' s' (by omega) e2 (by omega) w' (bq.app hns (vi hN)) (by rw [cU,bp];omega) (by simp;omega)).mono ?_;rintro q ⟨s2,rE,D0,rfl,rfl,hg,hl2,hd2⟩;exact ⟨s2,rE,u::D0,rfl,rfl,by simpa using hg,by simpa using hl2,by simpa using hd2⟩
theorem Mb {r:List bc} (h:r.length≤70000):fuel r≤10000000:=by unfold fuel;omega
theorem C1 {i:Nat} (h:PS st p L x i 0) (hi:i=0) (hL:L.length≤70000):ad ((aA vE).wide 39 [.mp p 0] st) (fun b=>VN (doc L) b.1∧gv (doc L)≤1000000000000000∧aX st b.2 (· =p)):=by
 subst hi;obtain ⟨D,hD,hdoc⟩:=mE L;refine ad.wide (ad.step (PI _ _) ?_);unfold UU;have w:=Wd.start h;rw [VD] at w;refine ad.alloc w fun s0 _ w=> ?_;refine ad.alloc w fun s1 _ w=> ?_;refine ad.store [] w fun s2 _ w=> ?_;refine ad.next w fun s3 s4 w=> ?_;have hf:=Mb hL;refine ad.bind (zv rfl (fuel L) L D _ [] [] .aG s4 hf hD (by omega) w.aG bq.nil (by rw [bg];omega) (by simp;omega)) ?_;rintro q ⟨s5,rE,D0,rfl,rfl,hg,hl,hd⟩;refine ad.step (ah _) ?_;rw [Vs] at hg hl hd;refine hg.grow (iz hg.pz) rfl rfl (by omega) fun s6 hg=> ?_;rw [hdoc];have hdd:gv (node 4 (D0++[aR rE]))≤1000000000000000:=by
  have:=db rE;simp only [cu,cU,bp];omega
 refine (hg.nd.fin hdd).mono fun b hb=>⟨hb.1,hb.2.1,hb.2.2.2⟩
end
end Go.Proofs.YtmhofncehlaamaaGreatDoor.Vm
namespace Go.Proofs.YtmhofncehlaamaaGreatDoor.Vm
open Go Go.VM Go.Proofs Go.Lex
theorem Fg (s:List UInt8): ∃x,(aA vE).bare 29 [.str s]=some (.tup [x,.int .i64 (zn s)])∧bu 2 x (if zn s=0 then (tokens s).map tok else []):=by
 by_cases h1:65536 < s.length
 ·have e:zn s=40:=by unfold zn;rw [if_pos h1]
  exact ⟨.aG,by rw [e];exact B0 h1,by rw [e];exact bu.aG⟩
 ·cases hv:bO s with
  | false=>
   have e:zn s=4:=by unfold zn;rw [if_neg h1,hv];rfl
   exact ⟨.aG,by rw [e];exact DP (by omega) hv,by rw [e];exact bu.aG⟩
  | true=>
   obtain ⟨x,hx,h⟩:=JC (by omega) hv;have e:zn s=0:=P5 (by omega) hv;exact ⟨x,by rw [e];exact hx,by rw [e];exact h⟩
end Go.Proofs.YtmhofncehlaamaaGreatDoor.Vm
namespace Go.Proofs.YtmhofncehlaamaaGreatDoor.Vm
open Go Go.VM Go.Proofs Go.Lex Go.Parse
theorem Ie {t:T} {k tk:Nat} {tx:List UInt8} {y:AV} (h:Nd t k tk tx y): ∃y',jZ t (.agg [.int .u8 (k:Int),.int .u8 (tk:Int),.str tx,y'])∧ ∀(st:St) (n:Nat),VM.freeze st 0 (n+2) (.agg [.int .u8 (k:Int),.int .u8 (tk:Int),.str tx,y])= .ok (.agg [.int .u8 (k:Int),.int .u8 (tk:Int),.str tx,y']):=by
 obtain ⟨l,es,rfl,hk,hns⟩:=h.ex;rcases hk with hx | ⟨hl,j,rfl⟩
 ·refine ⟨y,by simp only [jZ];exact ⟨y,es,rfl,hx,hns⟩,fun st n=> ?_⟩;refine KZ (d:=1) (fun c hc=> ?_) st 0 (n+2) (by omega);simp only [Vv,VJ,or_false] at hc;rcases hc with rfl | rfl | rfl | rfl
  ·exact kF _ _
  ·exact kF _ _
  ·exact B7 _
  ·exact Gt hx
 ·exact ⟨.sl 4 es .wide,by simp only [jZ];exact ⟨_,es,rfl,bu.wide hl,hns⟩,fun st n=>rfl⟩
theorem wF {t:T} {v:AV} (h:jZ t v):VM.bare v=true∧VM.strip v=v:=by
 cases t with
 | mk k tk tx l=>
  simp only [jZ] at h;obtain ⟨x,es,rfl,hx,_⟩:=h;refine ⟨?_,rfl⟩;rw [za];simp only [bf,hx.bare];rfl
theorem HZ (s:List UInt8):(zn s=0∧(65536 < s.length)=False∧bO s=true)∨(zn s=40∧65536 < s.length)∨(zn s=4∧¬ 65536 < s.length∧bO s=false):=by
 unfold zn;by_cases h:65536 < s.length
 ·rw [if_pos h];exact .inr (.inl ⟨rfl,h⟩)
 ·rw [if_neg h];cases hv:bO s with
  | true=>exact .inl ⟨rfl,by simp [h],rfl⟩
  | false=>exact .inr (.inr ⟨rfl,h,rfl⟩)
def kS (s:List UInt8):T:=if zn s=0 then doc (tokens s) else .mk 0 0 [] []
theorem Dp {t:T} {k tk:Nat} {tx:List UInt8} {y:AV} (h:Nd t k tk tx y) (n:Int): ∃v,jZ t v∧ ∀{β:Type} (st:St) (K:AV→Option β),eZ st 0 (.tup [.agg [.int .u8 (k:Int),.int .u8 (tk:Int),.str tx,y],.int .i64 n]) K=K (.tup [v,.int .i64 n]):=by
 obtain ⟨y',hN,hf⟩:=Ie h;refine ⟨_,hN,fun st K=>GZ (fy (hf st 97) (fy (by exact kF _ _ st 0 99 (by omega)) tK)) ?_ K⟩;simp only [bf,(wF hN).1];rfl
theorem MQ:Nd (.mk 0 0 [] []) 0 0 [] .aG:=⟨⟨[],[],rfl,.inl bu.aG,bq.nil⟩⟩
theorem JQ (s:List UInt8): ∃v,jZ (kS s) v∧gv (kS s)≤1000000000000000∧(aA vE).bare 20 [.str s]=some (.tup [v,.int .i64 (zn s)]):=by
 obtain ⟨x,e,hx⟩:=Fg s;have c: ∀{β:Type} (st:St) (K:Kv β),al (aA vE) 29 [.str s] st K=K (.tup [x,.int .i64 (zn s)]) st q0:=fun st K=>aY st K rfl rfl rfl e;have key:ad (bQ vE 20 [.str s]) (fun b=> ∃v,b= .tup [v,.int .i64 (zn s)]∧jZ (kS s) v∧gv (kS s)≤1000000000000000):=by
  refine ad.step (Pg _) ?_;unfold g20;generalize hs0:St.mk 1 0 (Tr.node (some (VM.Obj.cells ND z4)) Tr.leaf Tr.leaf)=st;have hg:st.get 0= .ok (.cells ND z4):=by rw [← hs0];rfl
  have hh:st.h=1:=by rw [← hs0]
  have hr:st.ro=0:=by rw [← hs0]
  refine ad.step (ao _ _) (ad.step (c _ _) ?_);simp only [bw,aU,bj,ai];by_cases h0:zn s=0
  ·rw [h0] at hx ⊢;rw [if_pos rfl] at hx;have ht:kS s=doc (tokens s):=by unfold kS;rw [if_pos h0]
   rw [ht];refine ad.step (aB _ _) (ad.step (iS hx.one _) (ad.step (iS hx.one _) ?_));rw [bN];have hl:=(J9 h0).1;have htl:=Ap s;generalize hs1:st.add (VM.Obj.cells PP [x,.int .i64 0,.int .i64 0])=st1;have k1:aX st st1 (fun _=>False):=by rw [← hs1];exact aX.add _ _ _
   have g1:st1.get st.h= .ok (.cells PP [x,.int .i64 ((0:Nat):Int),.int .i64 ((0:Nat):Int)]):=by rw [← hs1];exact St.ey
   have hp:PS st1 st.h (tokens s) x 0 0:=⟨g1,hx,Wc _,by omega,by rw [k1.ro,hr];omega⟩;refine ad.mF (C1 hp rfl (by omega)) rfl rfl fun v s2 hv=> ?_;obtain ⟨hv,hd,hk⟩:=hv;have g2:s2.get 0= .ok (.cells ND z4):=hk.Aj (by omega) (k1.old _ _ (fun f=>f) hg);obtain ⟨k,tk,tx,y,rfl,hnd⟩:=hv.cells;refine ad.step (oT ..) (ad.two hnd ?_);obtain ⟨s3,g3,_,_,fx,e3⟩:=TE g2 rfl (k:Int) (tk:Int) tx y (by rw [hk.ro,k1.ro,hr];omega);refine ad.step (e3 _) (ad.step (bm g3 _ _ _ _) (ad.step (aq _ _) (ad.step (oT ..) ?_)));obtain ⟨w,hN,hf⟩:=Dp hnd 0;exact ad.step (hf _ _) (ad.some ⟨w,rfl,hN,hd⟩)
  ·have ht:kS s= .mk 0 0 [] []:=by unfold kS;rw [if_neg h0]
   rw [ht];refine ad.step (eP (c:=true) (by simpa using h0) _ _) (ad.step (aF _ _) ?_);obtain ⟨s3,g3,_,_,fx,e3⟩:=TE hg rfl 0 0 [] .aG (by rw [hr];omega);refine ad.step (e3 _) (ad.step (bm g3 _ _ _ _) (ad.step (aq _ _) (ad.step (oT ..) ?_)));obtain ⟨w,hN,hf⟩:=Dp MQ (zn s);exact ad.step (hf _ _) (ad.some ⟨w,rfl,hN,by simp [gv,fq]⟩)
 obtain ⟨b,e,v,rfl,h1,h2⟩:=key;exact ⟨v,h1,h2,bh rfl e⟩
section
variable {β:Type} {Q:β→Prop} {st:St} {t:T}
theorem FZ (s:List UInt8): ∃v,jZ (kS s) v∧gv (kS s)≤1000000000000000∧ ∀{β:Type} (st:St) (K:Kv β),al (aA vE) 20 [.str s] st K=K (.tup [v,.int .i64 (zn s)]) st q0:=by
 obtain ⟨v,h,hd,e⟩:=JQ s;exact ⟨v,h,hd,fun st K=>aY st K rfl rfl rfl e⟩
theorem gO {t:T} {v:AV} (h:jZ t v): ∃(k tk:Nat) (tx:List UInt8) (l:List T) (x:AV) (es:List AV),t= .mk k tk tx l∧v= .agg [.int .u8 (k:Int),.int .u8 (tk:Int),.str tx,x]∧bu 4 x es∧bq l es:=by
 cases t with
 | mk k tk tx l=>
  simp only [jZ] at h;obtain ⟨x,es,rfl,hx,hs⟩:=h;exact ⟨k,tk,tx,l,x,es,rfl,rfl,hx,hs⟩
theorem bq.at: ∀{l:List T} {es:List AV} {k:Nat} {t:T},bq l es→l[k]? =some t→ ∃e,es[k]? =some e∧jZ t e
 | [],_,_,_,_,hk=>by simp at hk
 | t::l,_,0,_,h,hk=>by
  simp only [bq] at h;obtain ⟨a,r,rfl,h1,h2⟩:=h;obtain rfl:t= _:=by simpa using hk
  exact ⟨a,rfl,h1⟩
 | t::l,_,k+1,t',h,hk=>by
  simp only [bq] at h;obtain ⟨a,r,rfl,h1,h2⟩:=h;obtain ⟨e,he,hi⟩:=bq.at (k:=k) (t:=t') h2 (by simpa using hk);exact ⟨e,by simpa using he,hi⟩
theorem Fl {l:List T} {x:AV} {es:List AV} {k:Nat} (hx:bu 4 x es) (hs:bq l es) (hk:l[k]? =some t): ∃(a b:Nat) (s:List UInt8) (y:AV),jZ t (.agg [.int .u8 (a:Int),.int .u8 (b:Int),.str s,y])∧ ∀{β:Type} (st:St) (K:Int→Int→List UInt8→AV→Option β),(eM 4 x (k:Int) st fun u _=>ay 4 true u st fun u _=>CK u K)=K (a:Int) (b:Int) s y:=by
 obtain ⟨e,he,hN⟩:=hs.at hk;obtain ⟨a,b,s,ll,y,es',rfl,rfl,hy,hys⟩:=gO hN;refine ⟨a,b,s,y,hN,fun st K=> ?_⟩;rw [hx.idx he,HT,cg,Bl,aq,oT]
theorem T.ind {Pr:T→Prop} (h: ∀k tk tx l,(∀t∈l,Pr t)→Pr (.mk k tk tx l)): ∀t,Pr t:=by
 intro t;have key: ∀n (t:T),SizeOf.sizeOf t < n→Pr t:=by
  intro n
  induction n with
  | zero=>intro t ht;omega
  | succ n ih=>
   intro t ht;cases t with
   | mk k tk tx l=>
    refine h k tk tx l fun u hu=>ih u ?_;have:=List.sizeOf_lt_of_mem hu;simp only [T.mk.sizeOf_spec] at ht;omega
 exact key _ t (Wq _)
end
section
variable {β:Type} {Q:β→Prop}
abbrev S0:St:=St.mk 0 0 Tr.leaf
theorem vO {F:FuncId} {t:T} {v r:AV} (hN:jZ t v) (hf:vE.full F=false) (h:(aA vE).bare F [v]=some r) {β:Type} (st:St) (K:Kv β):al (aA vE) F [v] st K=K r st q0:=
 aY st K hf (by simp only [Vu,VY,(wF hN).2]) (by simp only [bf,(wF hN).1];rfl) h
theorem tu (a b:Nat):((a:Int) != (b:Int))=(a != b):=by rw [bne,iy, ← bne]
theorem Ev: ∀(l:List T),Parse.cY l=l.all Parse.dW
 | []=>rfl
 | t::l=>by simp only [Parse.cY,WO,Ev l]
theorem jH {l:List T} {x:AV} {es:List AV} (hx:bu 4 x es) (hs:bq l es) {γ:Type} (K:Nat→Option γ):fJ x K=K l.length:=by rw [hx.len,hs.len]
theorem O0 {l:List T} {x:AV} {es:List AV} (hx:bu 4 x es) (hs:bq l es):l.length≤9223372036854775807:=by rw [← hs.len];exact hx.1
theorem A3 {l:List T} {x:AV} {es:List AV} (hx:bu 4 x es) (hs:bq l es) (hg: ∀t∈l,∀v,jZ t v→(aA vE).bare 21 [v]=some (.bool (Parse.dW t))) (st:St): ∀(m:List T) (j:Nat),l.drop j=m→
  ∃(k:Nat) (i:Int),bn (lR x (.fn (.func 41) [] []) l.length) ([.int .i64 0,.int .i64 (j:Int)],st)=some (k,[.int .i64 i],st)∧((k=0∧m.all Parse.dW=true)∨(k=1∧0≤i∧m.all Parse.dW=false))
 | [],j,hd=>by
  have:=Wy.1 hd;have q:¬ (j:Int) < (l.length:Int):=by omega
  refine ⟨0,0,bo ?_,.inl ⟨rfl,rfl⟩⟩;simp only [lR,ag,ai,ah,ar,if_neg q]
 | t::m,j,hd=>by
  obtain ⟨hgt,hr,hlt⟩:=drop_cons hd;have q:(j:Int) < (l.length:Int):=by omega
  have hlen:=O0 hx hs;obtain ⟨a,b,s,y,hN,e⟩:=Fl hx hs hgt;obtain ⟨a',b',s',ll,y',es',ht,hv,hy,hys⟩:=gO hN;have c:=hg t (VQ hgt) _ hN;have c1:(aA vE).bare 41 [.agg [.int .u8 (a:Int),.int .u8 (b:Int),.str s,y]]=some (.bool (!Parse.dW t)):=by
   refine bh rfl ((P2 _).trans ?_);have hy':y=y':=by injection hv with hv;simpa using (List.cons.inj (List.cons.inj (List.cons.inj (List.cons.inj hv).2).2).2).1
   subst hy';simp only [U3,az,ag,ai,ao,ah,hy.af,hy.aJ,vO hN rfl c,aE]
  have c2: ∀{γ:Type} (st:St) (K:Kv γ),jf (aA vE) (Sx.prim (sx vE 83)) (.fn (.func 41) [] []) [.agg [.int .u8 (a:Int),.int .u8 (b:Int),.str s,y]] st K=K (.bool (!Parse.dW t)) st q0:=fun st K=>(show _=al (aA vE) 41 [_] st K from rfl).trans (vO hN rfl c1 st K);have e':lR x (.fn (.func 41) [] []) l.length ([.int .i64 0,.int .i64 (j:Int)],st)=bD (!Parse.dW t) (some (.inr (1,[.int .i64 (j:Int)],st))) (some (.inl ([.int .i64 0,.int .i64 ((j+1:Nat):Int)],st))):=by
   simp only [lR,ag,ai,ah,ar,if_pos q];refine (e st _).trans ?_;simp only [c2,aE,aK,df (show j+1≤9223372036854775807 by omega)]
  cases ht:Parse.dW t with
  | false=>
   rw [ht] at e';exact ⟨1,j,bo e',.inr ⟨rfl,by omega,by simp [ht]⟩⟩
  | true=>
   rw [ht] at e';obtain ⟨k,i,e2,h⟩:=A3 hx hs hg st m (j+1) hr;refine ⟨k,i,by rw [br e',e2], ?_⟩;simpa [ht] using h
theorem My: ∀(t:T) (v:AV),jZ t v→(aA vE).bare 21 [v]=some (.bool (Parse.dW t)):=by
 refine T.ind fun k tk tx l ih v hv=> ?_;simp only [jZ] at hv;obtain ⟨x,es,rfl,hx,hs⟩:=hv;have hc:(aA vE).bare 40 [x,.fn (.func 41) [] []]=some (.bool (!l.all Parse.dW)):=by
  have hi: ∃i:Int,(aA vE).bare 83 [x,.fn (.func 41) [] []]=some (.int .i64 i)∧decide (i≥0)= !l.all Parse.dW:=by
   obtain ⟨k,i,e,h⟩:=A3 hx hs ih S0 l 0 rfl;have e:bn (lR x (.fn (.func 41) [] []) l.length) ([.int .i64 0,.int .i64 0],S0)= _:=e;rcases h with ⟨rfl,h⟩ | ⟨rfl,h0,h⟩
   ·refine ⟨-1,bh rfl ((BU _ _).trans ?_),by rw [h];rfl⟩;simp only [SD,jH hx hs,e,aq,ag,ai,ah,jJ]
   ·refine ⟨i,bh rfl ((BU _ _).trans ?_),by rw [h];simpa using h0⟩;simp only [SD,jH hx hs,e,aq,ag,ai,ah,mZ]
  obtain ⟨i,h1,h2⟩:=hi;refine bh rfl ((LH _ _).trans ?_);have c:=fun {β:Type} (st:St) (K:Kv β)=>aY (f:=83) st K rfl (by simp only [Vu,VY,hx.strip];rfl) (by simp only [bf,hx.bare];rfl) h1;simp only [TW,c,ai,h2]
 have cc:=fun {β:Type} (st:St) (K:Kv β)=>aY (f:=40) st K rfl (by simp only [Vu,VY,hx.strip];rfl) (by simp only [bf,hx.bare];rfl) hc;refine bh rfl ((QV _).trans ?_);have e2:((k:Int) != 2)=(k != 2):=tu k 2;have e3:((k:Int) != 3)=(k != 3):=tu k 3;have e1:((k:Int) != 1)=(k != 1):=tu k 1;have e9:((tk:Int) != 9)=(tk != 9):=tu tk 9;simp only [g21,az,ag,ai,ao,ah,hx.af,hx.aJ,e1,e2,e3,e9,Parse.dW,Ev];cases h2:k != 2 <;> simp only [aF,aB,aq,ag,aE,ah,WT,WW]
 cases h3:k != 3 <;> simp only [aF,aB,aq,ag,aE,ah,WT,WW]
 cases h1:k != 1 <;> simp only [aF,aB,aq,ag,aE,ah,Wu,Xd,WW,cc,Bool.not_not]
 cases h9:tk != 9 <;> simp only [aF,aB,aq,ag,aE,ah,WT,WW,cc,Bool.not_not]
end
end Go.Proofs.YtmhofncehlaamaaGreatDoor.Vm
namespace Go.Proofs.YtmhofncehlaamaaGreatDoor.Vm
open Go Go.VM Go.Proofs Go.Scope
section
variable {p:JF} {ps:List JF} {e:M3} {l:List M3} {es:List AV} {v:AV}
end
def Lp {σ β:Type} (I:σ→Prop) (Q:β→Prop):Sum σ β→Prop
 | .inl s=>I s
 | .inr b=>Q b
theorem ad.inl {σ β:Type} {I:σ→Prop} {Q:β→Prop} {s:σ} (h:I s):ad (some (Sum.inl s:Sum σ β)) (Lp I Q):=⟨_,rfl,h⟩
theorem ad.inr {σ β:Type} {I:σ→Prop} {Q:β→Prop} {b:β} (h:Q b):ad (some (Sum.inr b:Sum σ β)) (Lp I Q):=⟨_,rfl,h⟩
theorem ad.upto {σ β:Type} {Q:β→Prop} {F:σ→Option (Sum σ β)} {n:Nat} {I:Nat→σ→Prop} (step: ∀i s,i < n→I i s→ad (F s) (Lp (I (i+1)) Q))
  (last: ∀s,I n s→ad (F s) (Lp (fun _=>False) Q)): ∀(k i:Nat) (s:σ),i+k=n→I i s→ad (bn F s) Q:=by
 intro k
 induction k with
 | zero=>
  intro i s hi h;obtain ⟨r,e,hr⟩:=last s (by rw [← show i=n by omega];exact h);cases r with
  | inl s'=>exact hr.elim
  | inr b=>exact ⟨b,bo e,hr⟩
 | succ k ih=>
  intro i s hi h;obtain ⟨r,e,hr⟩:=step i s (by omega) h;cases r with
  | inl s'=>rw [br e];exact ih (i+1) s' (by omega) hr
  | inr b=>exact ⟨b,bo e,hr⟩
@[simp] theorem ju (i o:Nat):notNil (.mp i o)=true:=id rfl
section
variable {β:Type} {z:Nat} {x:AV} {es:List AV}
end
section
variable {p q:Nat→Prop} {a b c:St}
end
structure QX (st:St) (x:Fx):Prop where
 l0:apart ⟨[],.kept⟩ x=true
 r0:apart x ⟨[],.kept⟩=true
 l: ∀i t cs,st.get i= .ok (.cells t cs)→apart ⟨[i],.kept⟩ x=true
 r: ∀i t cs,st.get i= .ok (.cells t cs)→apart x ⟨[i],.kept⟩=true
end Go.Proofs.YtmhofncehlaamaaGreatDoor.Vm
namespace Go.Proofs.YtmhofncehlaamaaGreatDoor.Vm
open Go Go.VM Go.Proofs
noncomputable def g3:AV→AV→Option AV:=fun q r=>eU q fun d=>bU .u8 r fun s=>aH (bD (decide ((↑(List.length d):Int) > 2000)) (some ([.bool true],St.mk 0 0 Tr.leaf)) (al (aA vE) 7 [] (St.mk 0 0 Tr.leaf) fun t u _x=>cJ t fun v=>some ([.bool !v],u))) fun e=>bE e.1 fun w y=>cJ w fun z=>cj y (bD z (al (aA vE) 7 [] e.2 fun a0 _x _x_1=>cJ a0 fun a1=>some (.bool a1)) (al (aA vE) 8 [.str d] e.2 fun i a _x=>gK i fun a2=>cE a2 0 fun a3=>aw a3 fun j k l f=>(gK i fun a4=>cE a4 1 fun a5=>bU .i64 a5 fun a6=>bR (St.add a (VM.Obj.cells 27 [.int .u8 0,.int .u8 0,.str [],.aG])) fun a7=>af f (aD (aA vE) 4 (.mp (St.h a) 0) (.agg [.int .u8 j,.int .u8 k,.str l,f]) [.int .u8 j,.int .u8 k,.str l,f] a7 fun _x g _x_1=>aH (bD (a6 != 0) (some ([.bool true],g)) (ay 4 true (.mp (St.h a) 0) g fun a8 _x=>aw a8 fun a9 b0 b1 b2=>(al (aA vE) 9 [.agg [.int .u8 a9,.int .u8 b0,.str b1,b2]] g fun b3 b4 _x=>cJ b3 fun b5=>some ([.bool !b5],b4)))) fun b=>bE b.1 fun b6 b7=>cJ b6 fun b8=>cj b7 (bD b8 (some (.bool true)) (bB (Int.tmod s 4) fun b9=>eM 1 (.sl 1 [.str [32],.str [10],.str [9,32,13,10],.str [32,32,32,32]] .shut) b9 b.2 fun c0 _x=>ay 1 false c0 b.2 fun c1 _x=>eU c1 fun c2=>al (aA vE) 10 [.str d] b.2 fun m n _x=>gK m fun c3=>cE c3 0 fun c4=>gK m fun c5=>cE c5 1 fun c6=>bU .i64 c6 fun c7=>ay 4 true (.mp (St.h a) 0) n fun c8 _x=>aw c8 fun c9 d0 d1 d2=>(al (aA vE) 11 [.agg [.int .u8 c9,.int .u8 d0,.str d1,d2],.str c2] n fun d3 d4 _x=>eU d3 fun d5=>al (aA vE) 10 [.str d5] d4 fun o c _x=>gK o fun d6=>cE d6 0 fun d7=>gK o fun d8=>cE d8 1 fun d9=>bU .i64 d9 fun p=>aH (bD (p==40) (some ([.bool true],c)) (bD (c7==0) (bD (p==0) (al (aA vE) 12 [c4,d7,.bool false] c fun e0 e1 _x=>cJ e0 fun e2=>some ([.bool e2],e1)) (some ([.bool false],c))) (some ([.bool false],c)))) fun e3=>bE e3.1 fun e4 e5=>cJ e4 fun e6=>cj e5 (some (.bool e6)))))))))
end Go.Proofs.YtmhofncehlaamaaGreatDoor.Vm
namespace Go.Proofs.YtmhofncehlaamaaGreatDoor.Vm
open Go Go.VM Go.Proofs Go.Lex Go.Parse Go.Scope Go.Ast
section
variable {α:Type} {R:α→AV→Prop} {l:List α} {es:List AV}
end
theorem iK {α:Type} {l:List α} {i:Nat} (hi:i < l.length):l.take (i+1)=l.take i++[l[i]]:=by rw [List.take_add_one,VG hi];rfl
end Go.Proofs.YtmhofncehlaamaaGreatDoor.Vm
namespace Go.Proofs.YtmhofncehlaamaaGreatDoor.Vm
open Go Go.VM Go.Proofs Go.Lex Go.Parse Go.Lay
abbrev ot:TypeId:=71
abbrev dO (k:Int) (s:List UInt8) (m:Int) (x:AV):List AV:=[.int .u8 k,.str s,.int .i64 m,x]
abbrev d4:List AV:=[.int .u8 0,.str [],.int .i64 0,.aG]
theorem jA {d:Doc} {v:AV} (h:cL d v): ∃k s m kids x es,d= .mk k s m kids∧v= .agg (dO k s m x)∧bu 4 x es∧bC kids es:=by
 cases d with
 | mk k s m kids=>
  simp only [cL] at h;obtain ⟨x,es,rfl,_,_,_,hx,hs⟩:=h;exact ⟨k,s,m,kids,x,es,rfl,rfl,hx,hs⟩
theorem lG {k:Int} {s:List UInt8} {m:Int} {kids:List Doc} {x:AV} {es:List AV} (hk:0≤k∧k≤255) (hs:s.length≤9223372036854775807) (hm:0≤m∧m≤1000) (hx:bu 4 x es) (h:bC kids es):cL (.mk k s m kids) (.agg (dO k s m x)):=by
 simp only [cL];exact ⟨x,es,rfl,hk,hs,⟨by omega,by omega⟩,hx,h⟩
theorem gr:bC [] []:=by simp only [bC]
theorem fC {d:Doc} {l:List Doc} {v:AV} {es:List AV} (h:cL d v) (hs:bC l es):bC (d::l) (v::es):=by
 simp only [bC];exact ⟨v,es,rfl,h,hs⟩
theorem dt: ∀{l m:List Doc} {es fs:List AV},bC l es→bC m fs→bC (l++m) (es++fs)
 | [],_,_,_,h,k=>by simp only [bC] at h;subst h;exact k
 | d::l,_,_,_,h,k=>by
  simp only [bC] at h;obtain ⟨v,vs,rfl,h1,h2⟩:=h;exact fC h1 (dt h2 k)
theorem du {d:Doc} {v:AV} (h:cL d v):bC [d] [v]:=fC h gr
theorem eL {d e:Doc} {v w:AV} (h:cL d v) (h':cL e w):bC [d,e] [v,w]:=fC h (du h')
theorem cT: ∀{l:List Doc} {es:List AV},bC l es→es.length=l.length
 | [],_,h=>by simp only [bC] at h;subst h;rfl
 | d::l,_,h=>by
  simp only [bC] at h;obtain ⟨v,vs,rfl,_,h2⟩:=h;simp [cT h2]
theorem ua: ∀{l:List Doc} {es:List AV} {i:Nat} {d:Doc},bC l es→l[i]? =some d→ ∃v,es[i]? =some v∧cL d v
 | [],_,_,_,_,h=>by simp at h
 | e::l,_,0,d,h,hi=>by
  simp only [bC] at h;obtain ⟨v,vs,rfl,h1,_⟩:=h;simp at hi;subst hi;exact ⟨v,rfl,h1⟩
 | e::l,_,i+1,d,h,hi=>by
  simp only [bC] at h;obtain ⟨v,vs,rfl,_,h2⟩:=h;obtain ⟨u,h3,h4⟩:=ua h2 (by simpa using hi);exact ⟨u,by simpa using h3,h4⟩
theorem gZ {a b c d:AV}:jd 4 true [a,b,c,d]=some (.agg [a,b,c,d]):=rfl
theorem KS (s:List UInt8):(aA vE).bare 51 [.str s]=some (.agg (dO 1 s 0 .aG)):=bh rfl ((QJ _).trans (by simp only [U0,ao]))
theorem uR {γ:Type} (s:List UInt8) (st:St) (K:Kv γ):al (aA vE) 51 [.str s] st K=K (.agg (dO 1 s 0 .aG)) st q0:=aY st K rfl rfl rfl (KS s)
theorem gi {γ:Type} (st:St) (K:Kv γ):al (aA vE) 89 [] st K=K (.agg (dO 2 [] 0 .aG)) st q0:=aY st K rfl rfl rfl (bh rfl P3)
theorem Jl:(caller vE 60).bare 144 []= .ok (.agg (dO 1 [32] 0 .aG)):=by kernel_rfl
theorem gN {γ:Type} (st:St) (K:Kv γ):al (aA vE) 144 [] st K=K (.agg (dO 1 [32] 0 .aG)) st q0:=aY st K rfl rfl rfl (zg Jl)
theorem Be {s:List UInt8} (h:s.length≤9223372036854775807):cL (Format.tx s) (.agg (dO 1 s 0 .aG)):=lG (by omega) h (by omega) bu.aG gr
theorem ji:cL Format.iD (.agg (dO 2 [] 0 .aG)):=lG (by omega) (by simp) (by omega) bu.aG gr
theorem Hj:cL Format.KE (.agg (dO 4 [] 0 .aG)):=lG (by omega) (by simp) (by omega) bu.aG gr
theorem jT:cL Format.cf (.agg (dO 1 [32] 0 .aG)):=Be (by simp)
theorem PY {st:St} {x x':AV} {es:List AV} (hx:bu 4 x' es) (fx: ∀n,VM.freeze st 0 (n+1) x= .ok x') (k:Int) (s:List UInt8) (m:Int) {β:Type} (K:AV→Option β):
  eZ st 0 (.agg (dO k s m x)) K=K (.agg (dO k s m x')):=by
 refine N7 (fy (kF _ _ st 0 99 (by omega)) (fy (B7 _ st 0 99 (by omega)) (fy (kF _ _ st 0 99 (by omega)) (fy (fx 98) tK)))) ?_ K;simp only [bf,hx.bare];rfl
theorem wj {st:St} {x:AV} {es:List AV} (hx:bu 4 x es) (k:Int) (s:List UInt8) (m:Int) {β:Type} (K:AV→Option β):eZ st 0 (.agg (dO k s m x)) K=K (.agg (dO k s m x)):=
 PY hx (fun n=>Gt hx _ 0 (n+1) (by omega)) k s m K
theorem uO {st:St} {z:Nat} {e:TypeId} {v:AV} {es:List AV} (h:jq st z e v es): ∃x,bu z x es∧VM.strip v=x:=by
 rcases h with ⟨_,hl,⟨rfl | rfl,rfl⟩ | rfl | ⟨k,rfl,_,_⟩⟩
 ·exact ⟨.aG,bu.aG,rfl⟩
 ·exact ⟨.es,bu.emp,rfl⟩
 ·exact ⟨.sl z es .shut,bu.shut hl,rfl⟩
 ·exact ⟨.sl z es .wide,bu.wide hl,rfl⟩
theorem zi {β:Type} {E:Env} {f:FuncId} {args args':List AV} {v:AV} (st:St) (K:Kv β) (hf:E.full f=false) (hs:args.map strip=args') (hb:bx args'=true) (h:(aA E).bare f args'=some v):al (aA E) f args st K=K v st q0:=by
 have h1:(bx (args.map strip)&& !(aA E).full f)=true:=by
  rw [hs,hb];show (true&& !E.full f)=true;rw [hf];rfl
 unfold al nN Af;rw [h1,hs,h];rfl
theorem PX {x:AV} {es:List AV} (hx:bu 4 x es):(aA vE).bare 136 [x]=some (.agg (dO 6 [] 0 x)):=by
 refine bh rfl ((Nk _).trans ?_);simp only [R4,hx.af];exact wj hx 6 [] 0 _
theorem JO {x:AV} {es:List AV} (hx:bu 4 x es):(aA vE).bare 52 [x]=some (.agg (dO 7 [] 0 x)):=by
 refine bh rfl ((Qj _).trans ?_);simp only [UO,hx.af];exact wj hx 7 [] 0 _
theorem Ms (n:Int) {x:AV} {es:List AV} (hx:bu 4 x es):(aA vE).bare 140 [.int .i64 n,x]=some (.agg (dO 5 [] n x)):=by
 refine bh rfl ((ME _ _).trans ?_);simp only [R8,ai,hx.af];exact wj hx 5 [] n _
section
variable {st:St} {e:TypeId} {v:AV} {ws:List AV} {D:List Doc}
theorem kE (h:jq st 4 e v ws) (hd:bC D ws): ∃x,bu 4 x ws∧cL (Format.sk D) (.agg (dO 6 [] 0 x))∧ ∀{γ:Type} (s:St) (K:Kv γ),al (aA vE) 136 [v] s K=K (.agg (dO 6 [] 0 x)) s q0:=by
 obtain ⟨x,hx,e1⟩:=uO h;exact ⟨x,hx,lG (by omega) (by simp) (by omega) hx hd,fun s K=>zi s K rfl (by rw [Vu,VY,e1]) (by simp only [bf,hx.bare];rfl) (PX hx)⟩
theorem wS (h:jq st 4 e v ws) (hd:bC D ws): ∃x,bu 4 x ws∧cL (Format.row D) (.agg (dO 7 [] 0 x))∧ ∀{γ:Type} (s:St) (K:Kv γ),al (aA vE) 52 [v] s K=K (.agg (dO 7 [] 0 x)) s q0:=by
 obtain ⟨x,hx,e1⟩:=uO h;exact ⟨x,hx,lG (by omega) (by simp) (by omega) hx hd,fun s K=>zi s K rfl (by rw [Vu,VY,e1]) (by simp only [bf,hx.bare];rfl) (JO hx)⟩
theorem qM (n:Int) (hn:0≤n∧n≤1000) (h:jq st 4 e v ws) (hd:bC D ws): ∃x,bu 4 x ws∧cL (Format.zy n D) (.agg (dO 5 [] n x))∧ ∀{γ:Type} (s:St) (K:Kv γ),al (aA vE) 140 [.int .i64 n,v] s K=K (.agg (dO 5 [] n x)) s q0:=by
 obtain ⟨x,hx,e1⟩:=uO h;exact ⟨x,hx,lG (by omega) (by simp) hn hx hd,fun s K=>zi s K rfl (by rw [Vu,Vu,VY,e1];rfl) (by simp only [bf,hx.bare];rfl) (Ms n hx)⟩
end
theorem ph {st:St} (w:Vw st [(0,ot,d4)]) {k:Int} {s:List UInt8} {m:Int} {x:AV} {es:List AV} {d:Doc} (hx:bu 4 x es) (hd:cL d (.agg (dO k s m x))):
  ad (af x (aD (aA vE) 4 (.mp 0 0) (.agg (dO k s m x)) (dO k s m x) st fun _ s _=>ay 4 true (.mp 0 0) s fun v _=>zH v fun l=>bE l fun v1 l=>bU .u8 v1 fun n1=>bE l fun v2 l=>eU v2 fun s1=>bE l fun v3 l=>bU .i64 v3 fun n3=>bE l fun v4 l=>cj l (eZ s 0 (.agg [.int .u8 n1,.str s1,.int .i64 n3,v4]) fun v=>some v))) (cL d):=by
 refine ad.step (hx.af _) (ad.yd [] w (fun s2 _ _ w=>ad.nC Vp w rfl ?_));simp only [az,ag,ai,ao,ah];exact ad.step (wj hx k s m _) (ad.some hd)
abbrev S1:St:=St.mk 1 0 (Tr.node (some (VM.Obj.cells ot d4)) Tr.leaf Tr.leaf)
theorem Jd:Vw S1 [(0,ot,d4)]:=⟨fun q hq=>by
 rw [VR.1 hq];exact ⟨rfl,Wc _⟩,by simp,Wc _⟩
def kJ (t:T):Prop:= ∀v,jZ t v→ ∃dv,(aA vE).bare 49 [v]=some dv∧cL (Format.au t) dv
theorem C4 {l:List T} {x:AV} {es:List AV} {i:Nat} {t:T} (hx:bu 4 x es) (hs:bq l es) (hi:l[i]? =some t) (h:kJ t):
  ∃(a b:Nat) (s:List UInt8) (y:AV),jZ t (.agg [.int .u8 (a:Int),.int .u8 (b:Int),.str s,y])∧(∀{γ:Type} (K:Option γ),af y K=K)∧(∀{γ:Type} (st:St) (K:Int→Int→List UInt8→AV→List Nat→Option γ),(eM 4 x (i:Int) st fun u _=>ay 4 true u st fun u rd=>CK u fun a b s y=>K a b s y rd)=K (a:Int) (b:Int) s y [])∧
   ∃(k:Int) (s':List UInt8) (m:Int) (z:AV) (zs:List AV),cL (Format.au t) (.agg (dO k s' m z))∧bu 4 z zs∧ ∀{γ:Type} (st:St) (K:Kv γ),al (aA vE) 49 [.agg [.int .u8 (a:Int),.int .u8 (b:Int),.str s,y]] st K=K (.agg (dO k s' m z)) st q0:=by
 obtain ⟨v,hv,hN⟩:=bq.at hs hi;obtain ⟨dv,e1,hd⟩:=h v hN;obtain ⟨a,b,s,l',y,es',rfl,rfl,hy,hs'⟩:=gO hN;obtain ⟨k,s',m,kids,z,zs,hq,rfl,hz,_⟩:=jA hd;refine ⟨a,b,s,y,hN,fun K=>hy.af K,fun st K=> ?_,k,s',m,z,zs,hd,hz,fun st K=>vO hN rfl e1 st K⟩;rw [hx.idx hv];simp only [AV.cells,cg,gZ,aq,oT]
theorem yX (ahead:List Doc): ∀(i:Nat) (l m:List Doc),Format.bI ahead i (l++m)=Format.bI ahead i l++Format.bI ahead (i+l.length) m
 | i,[],m=>by simp [Format.bI]
 | i,d::l,m=>by
  rw [Vz,Format.bI,Format.bI,yX ahead (i+1) l m,Vh,Vx,Vz,show i+1+l.length=i+(l.length+1) by omega]
theorem jM (ahead:List Doc): ∀(i:Nat) (l:List Doc),(Format.bI ahead i l).length≤2 * l.length
 | i,[]=>by simp [Format.bI]
 | i,d::l=>by
  have:=jM ahead (i+1) l;rw [Format.bI];split <;> simp only [Vg,Vh,Vj] <;> omega
theorem jy {ts:List T} {x y:AV} {es fs:List AV} {ahead:List Doc} (hx:bu 4 x es) (hs:bq ts es) (hy:bu 4 y fs) (ha:bC ahead fs) (hne:ahead≠[]) (hn:ts.length≤100000000) (ih: ∀t∈ts,kJ t) (st:St) (hro:st.ro≤st.h):
  ad ((aA vE).wide 143 [x,y] st) fun r=> ∃ws,Wv st r.2 [] 4 ot r.1 ws∧bC (Format.bI ahead 0 (ts.map Format.au)) ws:=by
 have hal:=cT ha;have hyl:=hy.1;have hal1:1≤ahead.length:=by cases ahead with
  | nil=>exact absurd rfl hne
  | cons _ _=>simp
 refine ad.wide (ad.step (Ma _ _ _) ?_);simp only [RT,jH hx hs];refine ad.bind (R:=fun c=> ∃s v ws,c=(0,[v],s)∧Wv st s [] 4 ot v ws∧bC (Format.bI ahead 0 (ts.map Format.au)) ws) ?_ ?_
 ·refine ad.upto (n:=ts.length) (I:=fun i c=> ∃s v ws,c=([v,.int .i64 (i:Int)],s)∧Wv st s [] 4 ot v ws∧bC (Format.bI ahead 0 ((ts.take i).map Format.au)) ws) ?_ ?_ ts.length 0 _ (by omega) ⟨st,.aG,[],rfl,Wv.start hro _ _,gr⟩
  ·rintro i c hi ⟨s,v,ws,rfl,w,hw⟩;have hwl:=cT hw;have hal2:=jM ahead 0 ((ts.take i).map Format.au);rw [VL,VB] at hal2;obtain ⟨a,b,tx,z,hN,hz1,eidx,k,s',m,q,qs,hd,hq,cn⟩:=C4 hx hs (VG hi) (ih _ (Wh hi));have hstep:Format.bI ahead 0 ((ts.take (i+1)).map Format.au)=Format.bI ahead 0 ((ts.take i).map Format.au)++((if i=0 then [] else [ahead.getD (min (i - 1) (ahead.length - 1)) Format.cf])++[Format.au ts[i]]):=by
    rw [iK hi,VT,yX,Vu,VY,Format.bI,Format.bI,VL,VB,WQ (by omega),VC]
   rw [hstep];simp only [BX,ag,ai,ah,ar,if_pos (show (i:Int) < (ts.length:Int) by omega)];refine ad.step (eidx s _) ?_;refine ad.sn w fun s1 _ w=>ad.step (hz1 _) ?_;refine ad.pU [] w fun s2 _ _ w=> ?_;refine ad.bind (R:=fun c=> ∃s3 v ws,c=([v],s3)∧Wv st s3 [(s.h,27,[.int .u8 (a:Int),.int .u8 (b:Int),.str tx,z])] 4 ot v ws∧bC (Format.bI ahead 0 ((ts.take i).map Format.au)++(if i=0 then [] else [ahead.getD (min (i - 1) (ahead.length - 1)) Format.cf])) ws) ?_ ?_
   ·by_cases h0:i=0
    ·subst h0;exact ad.step (if_neg (by omega)) (ad.some ⟨s2,v,ws,rfl,w,by simpa using hw⟩)
    ·rw [if_neg h0];refine ad.step (if_pos (by omega)) ?_;have e1:IntKind.wrap .i64 ((i:Int) - 1)=((i - 1:Nat):Int):=by rw [wrap_i64 (by omega) (by omega)];omega
     have e2:IntKind.wrap .i64 ((fs.length:Int) - 1)=((fs.length - 1:Nat):Int):=by rw [wrap_i64 (by omega) (by omega)];omega
     have e3:(if ((fs.length - 1:Nat):Int) < ((i - 1:Nat):Int) then ((fs.length - 1:Nat):Int) else ((i - 1:Nat):Int))=((min (i - 1) (ahead.length - 1):Nat):Int):=by
      rw [hal];split <;> omega
     have hj:min (i - 1) (ahead.length - 1) < ahead.length:=by omega
     have hg:ahead[min (i - 1) (ahead.length - 1)]? =some (ahead.getD (min (i - 1) (ahead.length - 1)) Format.cf):=by
      rw [VI,VG hj];rfl
     obtain ⟨u,hu,hU⟩:=ua ha hg;obtain ⟨k3,s3,m3,ks3,x3,es3,hq3,rfl,hx3,hd3⟩:=jA hU;simp only [aK,e1,hy.len,e2,e3,hy.idx hu,AV.cells,cg,gZ,aq,az,ag,ai,ao,ah,hx3.af,hx3.aJ];refine ad.wM w (by omega) (by omega) (by omega) fun v4 s4 _ w=>ad.some ⟨s4,v4,_,rfl,w,dt hw (du hU)⟩
   ·rintro c ⟨s3,v3,ws3,rfl,w,hw3⟩;have hwl3:=cT hw3;rw [Vg] at hwl3;have hif:(if i=0 then ([]:List Doc) else [ahead.getD (min (i - 1) (ahead.length - 1)) Format.cf]).length≤1:=by split <;> simp
    simp only [ag,ah];refine ad.nC Vp w.w rfl ?_;simp only [az,ag,ai,ao,ah];refine ad.step (cn _ _) ?_;simp only [az,ag,ai,ao,ah,hq.af,hq.aJ];refine ad.wM w (by omega) (by omega) (by omega) fun v4 s4 _ w=> ?_;simp only [aK,df (show i+1≤9223372036854775807 by omega)];refine ad.inl ⟨s4,v4,_,rfl,w.none, ?_⟩;rw [← Vx];exact dt hw3 (du hd)
  ·rintro c ⟨s,v,ws,rfl,w,hw⟩;simp only [BX,ag,ai,ah,ar,if_neg (show ¬ ((ts.length:Nat):Int) < (ts.length:Int) by omega)];rw [VV] at hw;exact ad.inr ⟨s,v,ws,rfl,w,hw⟩
 ·rintro c ⟨s,v,ws,rfl,w,hw⟩;simp only [ag,ah,uh];exact ad.some ⟨ws,w,hw⟩
theorem _root_.Go.VM.ad.Hk {β:Type} {Q:β→Prop} {st0 st:St} {l:EH} {z:Nat} {e:TypeId} {v:AV} {ws:List AV} (w:Wv st0 st l z e v ws) {b:Nat} {new:List AV} (hn:new≠[]) (hr:ws.length+new.length≤1000000000) (hb:b≤1000) (hz:1≤z) {K:Kv β} (g: ∀v' s fx,Wv st0 s l z e v' (ws++new)→ad (K v' s fx) Q):ad (eD z b e v new st K) Q:=by
 obtain ⟨v',s,fx,e1,o1,k1,n1⟩:=qK (b:=b) (new:=new) w.o hn (tJ (by simpa using hr) hb hz);refine ad.step (mB e1 K) (g v' s fx ⟨w.w.keeps k1 (fun q hq h=>w.o.not (w.w.v q hq).1 h),o1,fun j hj=> ?_,pQ w.k k1 w.nw,w.ge⟩);rcases n1 j hj with h | h
 ·exact w.nw j h
 ·exact VZ w.k.h h
theorem nU: ∀{l:List T} {es:List AV} (n:Nat),bq l es→bq (l.take n) (es.take n)
 | [],_,n,h=>by simp only [bq] at h;subst h;simpa using bq.nil
 | t::l,_,0,h=>by simpa using bq.nil
 | t::l,_,n+1,h=>by
  simp only [bq] at h;obtain ⟨e,r,rfl,h1,h2⟩:=h;exact bq.cons h1 (nU n h2)
theorem Hp: ∀{l:List T} {es:List AV} (n:Nat),bq l es→bq (l.drop n) (es.drop n)
 | [],_,n,h=>by simp only [bq] at h;subst h;simpa using bq.nil
 | t::l,_,0,h=>h
 | t::l,_,n+1,h=>by
  simp only [bq] at h;obtain ⟨e,r,rfl,h1,h2⟩:=h;exact Hp n h2
theorem jG {st st':St}:apart ⟨[],.all st st'⟩ ⟨[],.kept⟩=true:=id rfl
theorem jx {st st':St}:apart ⟨[],.all st st'⟩ q0=true:=id rfl
theorem ga:apart q0 q0=true:=id rfl
theorem oV (l:List AV):(bx (l.map strip)&& !vE.full 143)=false:=by rw [show vE.full 143=true from rfl];simp
theorem Gz (l:List AV):(bx (l.map strip)&& !vE.full 137)=false:=by rw [show vE.full 137=true from rfl];simp
theorem gI:bu 4 AV.aG []:=bu.aG
theorem pk {l:List T} {x:AV} {es:List AV} {i:Nat} {t:T} (hx:bu 4 x es) (hs:bq l es) (hi:l[i]? =some t) (h:kJ t) {j:Int} (hj:j=(i:Int)):
  ∃(a b:Nat) (s:List UInt8) (y:AV) (k:Int) (s':List UInt8) (m:Int) (z:AV) (zs:List AV),jZ t (.agg [.int .u8 (a:Int),.int .u8 (b:Int),.str s,y])∧(∀{γ:Type} (K:Option γ),af y K=K)∧cL (Format.au t) (.agg (dO k s' m z))∧bu 4 z zs∧(∀{γ:Type} (st:St) (K:AV→List Nat→Option γ),eM 4 x j st K=K (.ip [.int .u8 (a:Int),.int .u8 (b:Int),.str s,y]) [])∧
   ∀{γ:Type} (st:St) (K:Kv γ),al (aA vE) 49 [.agg [.int .u8 (a:Int),.int .u8 (b:Int),.str s,y]] st K=K (.agg (dO k s' m z)) st q0:=by
 subst hj;obtain ⟨v,hv,hN⟩:=bq.at hs hi;obtain ⟨dv,e1,hd⟩:=h v hN;obtain ⟨a,b,s,l',y,es',rfl,rfl,hy,hs'⟩:=gO hN;obtain ⟨k,s',m,kids,z,zs,hq,rfl,hz,_⟩:=jA hd;exact ⟨a,b,s,y,k,s',m,z,zs,hN,fun K=>hy.af K,hd,hz,fun st K=>hx.idx hv st K,fun st K=>vO hN rfl e1 st K⟩
theorem BH (ss:List (List UInt8)) (s:List UInt8):ss.contains s=ss.any fun t=>t==s:=by
 induction ss with
 | nil=>rfl
 | cons a l ih=>
  rw [List.contains_cons,WH,ih];congr 1;rw [Bool.eq_iff_iff,V4,V4];exact eq_comm
theorem Pp {t:T} {v:AV} (hN:jZ t v) (ss:List (List UInt8)) (hl:ss.length≤1000):(aA vE).bare 139 [v,.sl 1 (ss.map AV.str) .shut]=some (.bool (Format.jQ ss t)):=by
 obtain ⟨a,b,s,l',y,es',rfl,rfl,hy,hs'⟩:=gO hN;refine bh rfl ((MV _ _).trans ?_);simp only [SP,az,ag,ai,ao,ah,hy.af,hy.aJ,Format.jQ,mX (nr ss hl),BH];rw [show ((a:Int)==1)=(a==1) from iy a 1,show ((b:Int)==8)=(b==8) from iy b 8];cases a==1 <;> cases b==8 <;> simp [aF,aB,aq,ag,aE,ah]
theorem CT {t:T} {v:AV} (hN:jZ t v) (ss:List (List UInt8)) (hl:ss.length≤1000) {γ:Type} (st:St) (K:Kv γ):al (aA vE) 139 [v,.sl 1 (ss.map AV.str) .shut] st K=K (.bool (Format.jQ ss t)) st q0:=by
 obtain ⟨h1,h2⟩:=wF hN;have hb:=nr ss hl;exact aY st K rfl (by simp only [Vu,VY,h2,hb.strip]) (by simp only [bf,h1,hb.bare];rfl) (Pp hN ss hl)
def PW (F:FuncId) (k:Nat) (ks:List T):Prop:= ∀x es,bu 4 x es→bq ks es→ad ((aA vE).bare F [x]) (cL (Format.dr k ks (ks.map Format.au)))
section
variable {ks:List T} {x:AV} {es:List AV} (hx:bu 4 x es) (hs:bq ks es) (hn:ks.length≤1000000) (ih: ∀t∈ks,kJ t)
include hx hs hn ih
theorem vM (h1:1≤ks.length) (st:St) (hro:st.ro≤st.h):ad ((aA vE).wide 137 [x] st) fun r=> ∃ws,Wv st r.2 [] 4 ot r.1 ws∧bC (Format.kV (ks.map Format.au)) ws:=by
 have hlen:=hs.len;have hlt:ks.length - 1 < ks.length:=by omega
 have hgl:ks[ks.length - 1]? =some ks[ks.length - 1]:=VG hlt;have e1:IntKind.wrap .i64 ((ks.length:Int) - 1)=((ks.length - 1:Nat):Int):=by rw [wrap_i64 (by omega) (by omega)];omega
 obtain ⟨x2,hx2,hsl⟩:=hx.cut (lo:=none) (hi:=some ((ks.length - 1:Nat):Int)) (l:=0) (m:=ks.length - 1) lW (jg (by omega));rw [VD] at hx2;obtain ⟨a,b,s0,y,k,s',m,z,zs,hN,hy1,hd,hz,ei,cn⟩:=pk hx hs hgl (ih _ (Wh hlt)) (j:=((ks.length - 1:Nat):Int)) rfl;refine ad.wide (ad.step (L8 _ _) ?_);simp only [SW,jH hx hs,aK,e1,hsl,gN,az,ag,ai,ao,ah,dL,dR,ga,V6,aV,gI.af,gI.aJ];refine ad.mF (jy hx2 (nU _ hs) (bu.shut (by simp)) (du jT) (by simp) (by rw [VB];omega) (fun t ht=>ih t (List.mem_of_mem_take ht)) st hro) rfl (oV _) ?_;rintro v s ⟨ws,w,hw⟩;have hwl:=cT hw;have hal:=jM [Format.cf] 0 ((ks.take (ks.length - 1)).map Format.au);rw [VL,VB] at hal;obtain ⟨x3,hx3,hd3,e3⟩:=qM 2 (by omega) (jq.shut w.w.ro ot (es:=[.agg (dO 2 [] 0 .aG),.agg (dO k s' m z)]) (by simp)) (eL ji hd);simp only [gi,az,ag,ai,ao,ah,dL,dR,ga,jG,jx,V6,aV,ei,cg,gZ,aq,cn,hz.af,hz.aJ,gI.af,gI.aJ];refine ad.step (e3 _ _) ?_;simp only [az,ag,ai,ao,ah,hx3.af,hx3.aJ];refine ad.wM w (by omega) (by omega) (by omega) fun v4 s4 _ w=> ?_;rw [uh];refine ad.some ⟨_,w, ?_⟩;rw [Format.kV,VL, ← List.map_take,Format.gh _ _ _ hgl];exact dt hw (du hd3)
theorem Tm (h1:1≤ks.length) {k:Nat} (hk:k=5∨k=7):ad ((aA vE).bare 135 [x]) (cL (Format.dr k ks (ks.map Format.au))):=by
 refine ad.bare rfl (ad.step (OB _) ?_);unfold Sr;refine ad.mF (vM hx hs hn ih h1 S1 (Wc _)) rfl (Gz _) ?_;rintro v s ⟨ws,w,hw⟩;obtain ⟨x3,hx3,hd3,e3⟩:=kE w.o hw;refine ad.step (e3 _ _) ?_;simp only [az,ag,ai,ao,ah];rw [Format.dr,if_pos hk];exact ph (Jd.keeps w.k (fun _ _ f=>f)) hx3 hd3
theorem Uc:ad ((aA vE).bare 142 [x]) (cL (Format.dr 8 ks (ks.map Format.au))):=by
 refine ad.bare rfl (ad.step (Mj _) ?_);simp only [SO,gN,gi,az,ag,ai,ao,ah,gI.af,gI.aJ];refine ad.mF (jy hx hs (bu.shut (by simp)) (fC jT (fC ji (fC jT (eL ji jT)))) (by simp) (by omega) ih S1 (Wc _)) rfl (oV _) ?_;rintro v s ⟨ws,w,hw⟩;obtain ⟨x3,hx3,hd3,e3⟩:=kE w.o hw;refine ad.step (e3 _ _) ?_;simp only [az,ag,ai,ao,ah];exact ph (Jd.keeps w.k (fun _ _ f=>f)) hx3 hd3
theorem Uq:ad ((aA vE).bare 147 [x]) (cL (Format.dr 11 ks (ks.map Format.au))):=by
 refine ad.bare rfl (ad.step (L4 _) ?_);simp only [S5,gN,gi,az,ag,ai,ao,ah,gI.af,gI.aJ];refine ad.mF (jy hx hs (bu.shut (by simp)) (eL ji jT) (by simp) (by omega) ih S1 (Wc _)) rfl (oV _) ?_;rintro v s ⟨ws,w,hw⟩;obtain ⟨x3,hx3,hd3,e3⟩:=kE w.o hw;refine ad.step (e3 _ _) ?_;simp only [az,ag,ai,ao,ah];exact ph (Jd.keeps w.k (fun _ _ f=>f)) hx3 hd3
theorem Um:ad ((aA vE).bare 148 [x]) (cL (Format.dr 12 ks (ks.map Format.au))):=by
 refine ad.bare rfl (ad.step (NK _) ?_);simp only [Tj,gN,gi,az,ag,ai,ao,ah,gI.af,gI.aJ];refine ad.mF (jy hx hs (bu.shut (by simp)) (du jT) (by simp) (by omega) ih S1 (Wc _)) rfl (oV _) ?_;rintro v s ⟨ws,w,hw⟩;obtain ⟨x3,hx3,hd3,e3⟩:=wS w.o hw;refine ad.step (e3 _ _) ?_;simp only [az,ag,ai,ao,ah];exact ph (Jd.keeps w.k (fun _ _ f=>f)) hx3 hd3
theorem Ur:ad ((aA vE).bare 149 [x]) (cL (Format.dr 16 ks (ks.map Format.au))):=by
 refine ad.bare rfl (ad.step (L9 _) ?_);simp only [Ts,gN,gi,az,ag,ai,ao,ah,gI.af,gI.aJ];refine ad.mF (jy hx hs (bu.shut (by simp)) (du jT) (by simp) (by omega) ih S1 (Wc _)) rfl (oV _) ?_;rintro v s ⟨ws,w,hw⟩;obtain ⟨x3,hx3,hd3,e3⟩:=wS w.o hw;refine ad.step (e3 _ _) ?_;simp only [az,ag,ai,ao,ah];exact ph (Jd.keeps w.k (fun _ _ f=>f)) hx3 hd3
omit hn in
theorem R0 (h2:ks.length=2):ad ((aA vE).bare 150 [x]) (cL (Format.dr 13 ks (ks.map Format.au))):=by
 have hg0:ks[0]? =some ks[0]:=VG (by omega);have hg1:ks[1]? =some ks[1]:=VG (by omega);obtain ⟨a0,b0,s0,y0,k0,t0,m0,z0,zs0,hN0,hy0,hd0,hz0,ei0,cn0⟩:=pk hx hs hg0 (ih _ (Wh _)) (j:=0) rfl;obtain ⟨a1,b1,s1,y1,k1,t1,m1,z1,zs1,hN1,hy1,hd1,hz1,ei1,cn1⟩:=pk hx hs hg1 (ih _ (Wh _)) (j:=1) rfl;refine ad.bare rfl (ad.step (Mg _) ?_);obtain ⟨x2,hx2,hd2,e2⟩:=qM 2 (by omega) (jq.shut (st:=S1) (Wc _) ot (es:=[.agg (dO 2 [] 0 .aG),.agg (dO k1 t1 m1 z1)]) (by simp)) (eL ji hd1);obtain ⟨x3,hx3,hd3,e3⟩:=kE (jq.shut (st:=S1) (Wc _) ot (es:=[.agg (dO k0 t0 m0 z0),.agg (dO 5 [] 2 x2)]) (by simp)) (eL hd0 hd2);simp only [Sk,ei0,ei1,cn0,cn1,cg,gZ,aq,gi,az,ag,ai,ao,ah,dL,dR,ga,jG,jx,V6,aV,hz0.af,hz0.aJ,hz1.af,hz1.aJ,gI.af,gI.aJ];refine ad.step (e2 _ _) ?_;simp only [az,ag,ai,ao,ah,hx2.af,hx2.aJ,hz0.af,hz0.aJ];refine ad.step (e3 _ _) ?_;simp only [az,ag,ai,ao,ah];have hk:Format.dr 13 ks (ks.map Format.au)=Format.sk [Format.au ks[0],Format.zy 2 [Format.iD,Format.au ks[1]]]:=by
  rw [Format.dr,if_neg (by decide),if_neg (by decide),if_neg (by decide),if_neg (by decide),if_neg (by decide),if_neg (by decide),if_neg (by decide),if_pos rfl,Format.gh _ _ _ hg0,Format.gh _ _ _ hg1]
 rw [hk];exact ph Jd hx3 hd3
omit hn in
theorem Ue (h3:ks.length=3):ad ((aA vE).bare 146 [x]) (cL (Format.dr 10 ks (ks.map Format.au))):=by
 have hlen:=hs.len;have hg2:ks[2]? =some ks[2]:=VG (by omega);obtain ⟨x2,hx2,hsl⟩:=hx.cut (lo:=none) (hi:=some 2) (l:=0) (m:=2) lW (jg (k:=2) (by omega));rw [VD] at hx2;obtain ⟨a,b,s0,y,k,s',m,z,zs,hN,hy1,hd,hz,ei,cn⟩:=pk hx hs hg2 (ih _ (Wh _)) (j:=2) rfl;refine ad.bare rfl (ad.step (NP _) ?_);simp only [SA,hsl,gN,az,ag,ai,ao,ah,dL,dR,ga,V6,aV,gI.af,gI.aJ];refine ad.mF (jy hx2 (nU _ hs) (bu.shut (by simp)) (du jT) (by simp) (by rw [VB];omega) (fun t ht=>ih t (List.mem_of_mem_take ht)) S1 (Wc _)) rfl (oV _) ?_;rintro v s ⟨ws,w,hw⟩;have hwl:=cT hw;have hal:=jM [Format.cf] 0 ((ks.take 2).map Format.au);rw [VL,VB] at hal;obtain ⟨x3,hx3,hd3,e3⟩:=qM 4 (by omega) (jq.shut w.w.ro ot (es:=[.agg (dO 2 [] 0 .aG),.agg (dO k s' m z)]) (by simp)) (eL ji hd);simp only [gi,az,ag,ai,ao,ah,dL,dR,ga,jG,jx,V6,aV,ei,cg,gZ,aq,cn,hz.af,hz.aJ,gI.af,gI.aJ];refine ad.step (e3 _ _) ?_;simp only [az,ag,ai,ao,ah,hx3.af,hx3.aJ];refine ad.wM w (by omega) (by omega) (by omega) fun v4 s4 _ w=> ?_;obtain ⟨x5,hx5,hd5,e5⟩:=kE w.o (dt hw (du hd3));refine ad.step (e5 _ _) ?_;simp only [az,ag,ai,ao,ah];have hk:Format.dr 10 ks (ks.map Format.au)=Format.sk (Format.bI [Format.cf] 0 ((ks.take 2).map Format.au)++[Format.zy 4 [Format.iD,Format.au ks[2]]]):=by
  rw [Format.dr,if_neg (by decide),if_neg (by decide),if_neg (by decide),if_neg (by decide),if_pos rfl,Format.gh _ _ _ hg2,List.map_take]
 rw [hk];exact ph (Jd.keeps w.k (fun _ _ f=>f)) hx5 hd5
theorem TS (h4:4≤ks.length):ad ((aA vE).bare 141 [x]) (cL (Format.dr 6 ks (ks.map Format.au))):=by
 have hlen:=hs.len;have hgA:ks[ks.length - 2]? =some ks[ks.length - 2]:=VG (by omega);have hgB:ks[ks.length - 1]? =some ks[ks.length - 1]:=VG (by omega);have e1:IntKind.wrap .i64 ((ks.length:Int) - 2)=((ks.length - 2:Nat):Int):=by rw [wrap_i64 (by omega) (by omega)];omega
 have e2:IntKind.wrap .i64 (((ks.length - 2:Nat):Int)+1)=((ks.length - 1:Nat):Int):=by rw [wrap_i64 (by omega) (by omega)];omega
 obtain ⟨x2,hx2,hsl⟩:=hx.cut (lo:=none) (hi:=some ((ks.length - 2:Nat):Int)) (l:=0) (m:=ks.length - 2) lW (jg (by omega));rw [VD] at hx2;obtain ⟨a0,b0,s0,y0,k0,t0,m0,z0,zs0,hN0,hy0,hd0,hz0,ei0,cn0⟩:=pk hx hs hgA (ih _ (Wh _)) (j:=((ks.length - 2:Nat):Int)) rfl;obtain ⟨a1,b1,s1,y1,k1,t1,m1,z1,zs1,hN1,hy1,hd1,hz1,ei1,cn1⟩:=pk hx hs hgB (ih _ (Wh _)) (j:=((ks.length - 1:Nat):Int)) rfl;refine ad.bare rfl (ad.step (MB _) ?_);simp only [Te,jH hx hs,aK,e1,hsl];refine ad.mF (vM hx2 (nU _ hs) (by rw [VB];omega) (fun t ht=>ih t (List.mem_of_mem_take ht)) (by rw [VB];omega) S1 (Wc _)) rfl (Gz _) ?_;rintro v s ⟨ws,w,hw⟩;have hwl:=cT hw;have hbl:(Format.kV ((ks.take (ks.length - 2)).map Format.au)).length≤2 * ks.length+1:=by
  have:=jM [Format.cf] 0 (((ks.take (ks.length - 2)).map Format.au).take (((ks.take (ks.length - 2)).map Format.au).length - 1));rw [Format.kV,Vg];simp only [VB,VL,Wj] at this ⊢;omega
 simp only [gi,e2,az,ag,ai,ao,ah,dL,dR,ga,jG,jx,V6,aV,ei0,ei1,cn0,cn1,cg,gZ,aq,aK,hz0.af,hz0.aJ,hz1.af,hz1.aJ,gI.af,gI.aJ];refine ad.Hk w (by simp) (by simp only [Vh,Vj];omega) (by omega) (by omega) fun v4 s4 _ w=> ?_;obtain ⟨x5,hx5,hd5,e5⟩:=kE w.o (dt hw (fC ji (fC hd0 (eL ji hd1))));refine ad.step (e5 _ _) ?_;simp only [az,ag,ai,ao,ah];have hk:Format.dr 6 ks (ks.map Format.au)=Format.sk (Format.kV ((ks.take (ks.length - 2)).map Format.au)++[Format.iD,Format.au ks[ks.length - 2],Format.iD,Format.au ks[ks.length - 1]]):=by
  rw [Format.dr,if_neg (by decide),if_pos rfl,VL,Format.gh _ _ _ hgA,Format.gh _ _ _ hgB,List.map_take]
 rw [hk];exact ph (Jd.keeps w.k (fun _ _ f=>f)) hx5 hd5
end
theorem C6: ∀(l:List T) (t:T),Format.kX (l++[t]) ((l++[t]).map Format.au)=Format.kX l (l.map Format.au)++Format.au t::(if Format.jQ [jz,nt] t then [Format.iD] else [])
 | [],t=>by
  simp only [Vs,Vu,VY,Format.kX]
 | a::l,t=>by
  have ih:=C6 l t;simp only [Vz,Vu,Format.kX] at ih ⊢;rw [ih];split <;> rfl
theorem Hh: ∀(l:List T) (D:List Doc),(Format.kX l D).length≤2 * l.length
 | [],D=>by simp [Format.kX]
 | _:: _,[]=>by simp [Format.kX]
 | a::l,d::D=>by
  have ih:=Hh l D;rw [Format.kX];split <;> simp only [Vh] <;> omega
theorem xC: ∀(l:List T) (p t:T),Format.fb p (l++[t]) ((l++[t]).map Format.au)=Format.fb p l (l.map Format.au)++[if Format.jQ [gH] ((p::l).getD l.length default) then Format.cf else Format.iD,Format.au t]
 | [],p,t=>by
  simp only [Vs,Vu,VY,Format.fb,Vj,List.getD_cons_zero]
 | a::l,p,t=>by
  have ih:=xC l a t;simp only [Vz,Vu,Format.fb,Vh,List.getD_cons_succ] at ih ⊢;rw [ih]
theorem zW: ∀(l:List T) (p:T) (D:List Doc),(Format.fb p l D).length≤2 * l.length
 | [],p,D=>by simp [Format.fb]
 | _:: _,p,[]=>by simp [Format.fb]
 | a::l,p,d::D=>by
  have ih:=zW l a D;rw [Format.fb];simp only [Vh];omega
section
variable {ks:List T} {x:AV} {es:List AV} (hx:bu 4 x es) (hs:bq ks es) (hn:ks.length≤1000000) (ih: ∀t∈ks,kJ t)
include hx hs hn ih
theorem Mz (h2:2≤ks.length) {k:Nat} (hk:k=14∨k=15∨k=17∨k=18):ad ((aA vE).bare 138 [x]) (cL (Format.dr k ks (ks.map Format.au))):=by
 have hlen:=hs.len;have hg0:ks[0]? =some ks[0]:=VG (by omega);have hgB:ks[ks.length - 1]? =some ks[ks.length - 1]:=VG (by omega);have e1:IntKind.wrap .i64 ((ks.length:Int) - 1)=((ks.length - 1:Nat):Int):=by rw [wrap_i64 (by omega) (by omega)];omega
 obtain ⟨x2,hx2,hsl⟩:=hx.cut (lo:=some 1) (hi:=some ((ks.length - 1:Nat):Int)) (l:=1) (m:=ks.length - 1) (jg (k:=1) (by omega)) (jg (by omega));have hs2:=Hp 1 (nU (ks.length - 1) hs);have hmid:(ks.take (ks.length - 1)).drop 1=(ks.drop 1).take (ks.length - 2):=by rw [List.drop_take,show ks.length - 1 - 1=ks.length - 2 by omega]
 rw [hmid] at hs2;have ihm: ∀t∈(ks.drop 1).take (ks.length - 2),kJ t:=fun t ht=>ih t (List.mem_of_mem_drop (List.mem_of_mem_take ht));have hml:((ks.drop 1).take (ks.length - 2)).length=ks.length - 2:=by rw [VB,VF];omega
 have hk':Format.dr k ks (ks.map Format.au)=Format.sk [Format.au ks[0],Format.zy 1 (Format.kX ((ks.drop 1).take (ks.length - 2)) (((ks.drop 1).take (ks.length - 2)).map Format.au)),Format.au ks[ks.length - 1]]:=by
  rw [Format.dr,if_neg (by omega),if_neg (by omega),if_neg (by omega),if_neg (by omega),if_neg (by omega),if_neg (by omega),if_neg (by omega),if_neg (by omega),Format.gh _ _ _ hg0,VL,Format.gh _ _ _ hgB,List.map_take,List.map_drop]
 generalize (ks.drop 1).take (ks.length - 2)=ms at hs2 ihm hml hk';obtain ⟨a0,b0,s0,y0,k0,t0,m0,z0,zs0,hN0,hy0,hd0,hz0,ei0,cn0⟩:=pk hx hs hg0 (ih _ (Wh _)) (j:=0) rfl;obtain ⟨a1,b1,s1,y1,k1,t1,m1,z1,zs1,hN1,hy1,hd1,hz1,ei1,cn1⟩:=pk hx hs hgB (ih _ (Wh _)) (j:=((ks.length - 1:Nat):Int)) rfl;refine ad.bare rfl (ad.step (OI _) ?_);simp only [Tf,jH hx hs,aK,e1,hsl,jH hx2 hs2];refine ad.bind (R:=fun c=> ∃s v ws,c=(0,[v],s)∧Wv S1 s [] 4 ot v ws∧bC (Format.kX ms (ms.map Format.au)) ws) ?_ ?_
 ·refine ad.upto (n:=ms.length) (I:=fun i c=> ∃s v ws,c=([v,.int .i64 (i:Int)],s)∧Wv S1 s [] 4 ot v ws∧bC (Format.kX (ms.take i) ((ms.take i).map Format.au)) ws) ?_ ?_ ms.length 0 _ (by omega) ⟨S1,.aG,[],rfl,Wv.start (Wc _) _ _,gr⟩
  ·rintro i c hi ⟨s,v,ws,rfl,w,hw⟩;have hwl:=cT hw;have hil:=Hh (ms.take i) ((ms.take i).map Format.au);rw [VB] at hil;obtain ⟨a,b,tx,y,kk,s',m,z,zs,hN,hy1,hd,hz,ei,cn⟩:=pk hx2 hs2 (VG hi) (ihm _ (Wh hi)) (j:=(i:Int)) rfl;rw [iK hi,C6];simp only [Bg,ag,ai,ah,ar,if_pos (show (i:Int) < (ms.length:Int) by omega),ei,cg,gZ,aq,az,ao];refine ad.sn w fun s1 _ w=>ad.step (hy1 _) ?_;refine ad.pU [] w fun s2 _ _ w=>ad.nC Vp w.w rfl ?_;simp only [az,ag,ai,ao,ah];refine ad.step (cn _ _) ?_;simp only [az,ag,ai,ao,ah,hz.af,hz.aJ];refine ad.wM w (by omega) (by omega) (by omega) fun v3 s3 _ w=>ad.nC Vp w.w rfl ?_;simp only [az,ag,ai,ao,ah];refine ad.step (CT hN [jz,nt] (by simp) _ _) (ad.step (aE _ _) ?_);refine ad.bind (R:=fun c=> ∃s4 v4 ws4,c=([v4],s4)∧Wv S1 s4 [(s.h,27,[.int .u8 (a:Int),.int .u8 (b:Int),.str tx,y])] 4 ot v4 ws4∧bC (Format.kX (ms.take i) ((ms.take i).map Format.au)++Format.au ms[i]::(if Format.jQ [jz,nt] ms[i] then [Format.iD] else [])) ws4) ?_ ?_
   ·cases hb:Format.jQ [jz,nt] ms[i] with
    | false=>
     refine ad.step (aB _ _) (ad.some ⟨s3,v3,_,rfl,w, ?_⟩);rw [if_neg (by simp)];exact dt hw (du hd)
    | true=>
     refine ad.step (aF _ _) (ad.step (gi _ _) ?_);simp only [az,ag,ai,ao,ah,gI.af,gI.aJ];refine ad.wM w (by rw [Vg];simp only [Wj];omega) (by omega) (by omega) fun v4 s4 _ w=>ad.some ⟨s4,v4,_,rfl,w, ?_⟩;rw [if_pos trivial,Vx];exact dt hw (eL hd ji)
   ·rintro c ⟨s4,v4,ws4,rfl,w,hw4⟩;simp only [ag,ah,aK,df (show i+1≤9223372036854775807 by omega)];exact ad.inl ⟨s4,v4,_,rfl,w.none,hw4⟩
  ·rintro c ⟨s,v,ws,rfl,w,hw⟩;simp only [Bg,ag,ai,ah,ar,if_neg (show ¬ ((ms.length:Nat):Int) < (ms.length:Int) by omega)];rw [VV] at hw;exact ad.inr ⟨s,v,ws,rfl,w,hw⟩
 ·rintro c ⟨s,v,ws,rfl,w,hw⟩;obtain ⟨x3,hx3,hd3,e3⟩:=qM 1 (by omega) w.o hw;obtain ⟨x4,hx4,hd4,e4⟩:=kE (jq.shut w.w.ro ot (es:=[.agg (dO k0 t0 m0 z0),.agg (dO 5 [] 1 x3),.agg (dO k1 t1 m1 z1)]) (by simp)) (fC hd0 (eL hd3 hd1));simp only [ag,ah,ei0,ei1,cn0,cn1,cg,gZ,aq,az,ai,ao,dL,dR,ga,jG,jx,V6,aV];refine ad.step (e3 _ _) ?_;simp only [jH hx hs,aK,e1,ei1,cn1,cg,gZ,aq,az,ag,ai,ao,ah,dL,dR,ga,jG,jx,V6,aV,hz0.af,hz0.aJ,hz1.af,hz1.aJ,hx3.af,hx3.aJ];refine ad.step (e4 _ _) ?_;simp only [az,ag,ai,ao,ah];rw [hk'];exact ph (Jd.keeps w.k (fun _ _ f=>f)) hx4 hd4
theorem T2 (h4:4≤ks.length):ad ((aA vE).bare 145 [x]) (cL (Format.dr 9 ks (ks.map Format.au))):=by
 have hlen:=hs.len;obtain ⟨x2,hx2,hsl⟩:=hx.cut (lo:=none) (hi:=some 3) (l:=0) (m:=3) lW (jg (k:=3) (by omega));rw [VD] at hx2;have hpre: ∀j,j+3 < ks.length→((ks.getD 2 default)::(ks.drop 3).take j).getD ((ks.drop 3).take j).length default=ks.getD (j+2) default:=fun j hj=>by
  have hl:((ks.drop 3).take j).length=j:=by rw [VB,VF];omega
  rw [hl];cases j with
  | zero=>rfl
  | succ j=>
   rw [List.getD_cons_succ,VI,VI,List.getElem?_take,if_pos (by omega),WI,show 3+j=j+1+2 by omega]
 have hk:Format.dr 9 ks (ks.map Format.au)=Format.sk (Format.bI [Format.cf] 0 ((ks.take 3).map Format.au)++Format.fb (ks.getD 2 default) (ks.drop 3) ((ks.drop 3).map Format.au)):=by
  rw [Format.dr,if_neg (by decide),if_neg (by decide),if_neg (by decide),if_pos rfl,List.map_take,List.map_drop]
 refine ad.bare rfl (ad.step (M1 _) ?_);simp only [SG,hsl,gN,az,ag,ai,ao,ah,dL,dR,ga,V6,aV,gI.af,gI.aJ];refine ad.mF (jy hx2 (nU _ hs) (bu.shut (by simp)) (du jT) (by simp) (by rw [VB];omega) (fun t ht=>ih t (List.mem_of_mem_take ht)) S1 (Wc _)) rfl (oV _) ?_;rintro v0 s0 ⟨ws0,w0,hw0⟩;refine ad.bind (R:=fun c=> ∃s v ws,c=(0,[v],s)∧Wv S1 s [] 4 ot v ws∧bC (Format.bI [Format.cf] 0 ((ks.take 3).map Format.au)++Format.fb (ks.getD 2 default) (ks.drop 3) ((ks.drop 3).map Format.au)) ws) ?_ ?_
 ·refine ad.upto (n:=ks.length) (I:=fun i c=>3≤i∧ ∃s v ws,c=([v,.int .i64 (i:Int)],s)∧Wv S1 s [] 4 ot v ws∧bC (Format.bI [Format.cf] 0 ((ks.take 3).map Format.au)++Format.fb (ks.getD 2 default) ((ks.drop 3).take (i - 3)) (((ks.drop 3).take (i - 3)).map Format.au)) ws) ?_ ?_ (ks.length - 3) 3 _ (by omega) ⟨Vn _,s0,v0,ws0,rfl,w0,by rw [WZ,List.take_zero];simpa [Format.fb] using hw0⟩
  ·rintro i c hi ⟨h3,s,v,ws,rfl,w,hw⟩;have hwl:=cT hw;have hil:=zW ((ks.drop 3).take (i - 3)) (ks.getD 2 default) (((ks.drop 3).take (i - 3)).map Format.au);have hal:=jM [Format.cf] 0 ((ks.take 3).map Format.au);rw [VB,VF] at hil;rw [Vg] at hwl;rw [VL,VB] at hal;have hgp:ks[i - 1]? =some ks[i - 1]:=VG (by omega);have hgi:ks[i]? =some ks[i]:=VG hi;have e1:IntKind.wrap .i64 ((i:Int) - 1)=((i - 1:Nat):Int):=by rw [wrap_i64 (by omega) (by omega)];omega
   obtain ⟨a0,b0,t0,y0,k0,t1,m0,z0,zs0,hN0,hy0,hd0,hz0,ei0,cn0⟩:=pk hx hs hgp (ih _ (Wh _)) (j:=((i - 1:Nat):Int)) rfl;obtain ⟨a,b,tx,y,kk,s',m,z,zs,hN,hy1,hd,hz,ei,cn⟩:=pk hx hs hgi (ih _ (Wh hi)) (j:=(i:Int)) rfl;have htk:(ks.drop 3).take (i+1 - 3)=(ks.drop 3).take (i - 3)++[ks[i]]:=by
    have hlt:i - 3 < (ks.drop 3).length:=by rw [VF];omega
    rw [show i+1 - 3=(i - 3)+1 by omega,iK hlt,List.getElem_drop];congr 3;omega
   have hpr:=hpre (i - 3) (by omega);have hgd:ks.getD (i - 1) default=ks[i - 1]:=by rw [VI,hgp];rfl
   rw [show i - 3+2=i - 1 by omega,hgd] at hpr;rw [htk,xC,hpr];have hisB:=fun {γ:Type} (st:St) (K:Kv γ)=>CT hN0 [gH] (by simp) st K;have hisB: ∀{γ:Type} (st:St) (K:Kv γ),al (aA vE) 139 [.agg [.int .u8 (a0:Int),.int .u8 (b0:Int),.str t0,y0],.sl 1 [.str [124]] .shut] st K=K (.bool (Format.jQ [gH] ks[i - 1])) st q0:=fun st K=>hisB st K;simp only [Cu,ag,ai,ah,jH hx hs,ar,if_pos (show (i:Int) < (ks.length:Int) by omega),gi,az,ao];refine ad.sn w fun s1 _ w=>ad.step (gI.af _) ?_;refine ad.pU [] w fun s2 _ _ w=> ?_;simp only [aK,e1,ei0,cg,gZ,aq,az,ag,ai,ao,ah,hisB,aE];refine ad.bind (R:=fun c=> ∃s4 kq sq,c=([],s4)∧Wv S1 s4 [(s.h,ot,dO kq sq 0 .aG)] 4 ot v ws∧cL (if Format.jQ [gH] ks[i - 1] then Format.cf else Format.iD) (.agg (dO kq sq 0 .aG))) ?_ ?_
   ·cases hb:Format.jQ [gH] ks[i - 1] with
    | false=>exact ad.step (aB _ _) (ad.some ⟨s2,2,[],rfl,w,by rw [if_neg (by simp)];exact ji⟩)
    | true=>
     refine ad.step (aF _ _) (ad.step (gN _ _) ?_);simp only [az,ag,ai,ao,ah];refine ad.step (gI.af _) (ad.pU [] w fun s4 _ _ w=>ad.some ⟨s4,1,[32],rfl,w, ?_⟩);rw [if_pos trivial];exact jT
   ·rintro c ⟨s4,kq,sq,rfl,w,hq⟩;refine ad.step (ah _) (ad.nC Vp w.w rfl ?_);simp only [az,ag,ai,ao,ah,ei,cg,gZ,aq];refine ad.step (cn _ _) ?_;simp only [az,ag,ai,ao,ah,dL,dR,ga,V6,aV,gI.af,gI.aJ,hz.af,hz.aJ];refine ad.Hk w (by simp) (by simp only [Vh,Vj];omega) (by omega) (by omega) fun v5 s5 _ w=> ?_;simp only [aK,df (show i+1≤9223372036854775807 by omega)];refine ad.inl ⟨by omega,s5,v5,_,rfl,w.none, ?_⟩;rw [← Vx];exact dt hw (eL hq hd)
  ·rintro c ⟨_,s,v,ws,rfl,w,hw⟩;simp only [Cu,ag,ai,ah,jH hx hs,ar,if_neg (show ¬ ((ks.length:Nat):Int) < (ks.length:Int) by omega)];have hall:(ks.drop 3).take (ks.length - 3)=ks.drop 3:=List.take_of_length_le (by rw [VF];exact Vn _);rw [hall] at hw;exact ad.inr ⟨s,v,ws,rfl,w,hw⟩
 ·rintro c ⟨s,v,ws,rfl,w,hw⟩;obtain ⟨x4,hx4,hd4,e4⟩:=kE w.o hw;simp only [ag,ah];refine ad.step (e4 _ _) ?_;simp only [az,ag,ai,ao,ah];rw [hk];exact ph (Jd.keeps w.k (fun _ _ f=>f)) hx4 hd4
end
theorem I9 (l:List T) (t:T):Format.dP (l++[t])=Format.dP l++(match Format.iE t with | some s=>[s] | none=>[]):=by
 unfold Format.dP;rw [List.filterMap_append];congr 1;cases h:Format.iE t <;> simp [h]
theorem uV (l:List T):(Format.dP l).length≤l.length:=List.length_filterMap_le _ _
abbrev sT:TypeId:=9
theorem F5 {k tk:Nat} {s0:List UInt8} {l:List T} {v:AV} (h:jZ (.mk k tk s0 l) v) (hl:l.length≤100000000): ∃x,(aA vE).bare 50 [v]=some x∧bu 1 x ((Format.dP l).map AV.str):=by
 obtain ⟨a1,b1,s1,l',x,es,hq,rfl,hx,hs⟩:=gO h;cases hq;have key:ad (bQ vE 50 [.agg [.int .u8 (k:Int),.int .u8 (tk:Int),.str s0,x]]) (fun x=>bu 1 x ((Format.dP l).map AV.str)):=by
  refine ad.step (Qn _) ?_;simp only [UJ,az,ag,ai,ao,ah,hx.af,hx.aJ,jH hx hs];refine ad.bind (R:=fun c=> ∃s v,c=(0,[v],s)∧Wv S0 s [] 1 sT v ((Format.dP l).map AV.str)) ?_ ?_
  ·refine ad.upto (n:=l.length) (I:=fun i c=> ∃s v,c=([v,.int .i64 (i:Int)],s)∧Wv S0 s [] 1 sT v ((Format.dP (l.take i)).map AV.str)) ?_ ?_ l.length 0 _ (by omega) ⟨S0,.aG,rfl,Wv.start (Vn _) _ _⟩
   ·rintro i c hi ⟨s,v,rfl,w⟩;have hrl:=uV (l.take i);rw [VB] at hrl;obtain ⟨a,b,tx,y,hN,e⟩:=Fl hx hs (VG hi);obtain ⟨a2,b2,tx2,l2,y2,es2,hq2,hv2,hy2,hs2⟩:=gO hN;simp only [AV.agg.injEq,WG,AV.int.injEq,Xe,Int.natCast_inj,AV.str.injEq,Xf] at hv2;obtain ⟨rfl,rfl,rfl,rfl⟩:=hv2;rw [iK hi,I9,hq2];simp only [E5,ag,ai,ah,ar,if_pos (show (i:Int) < (l.length:Int) by omega)];refine ad.step (e s _) ?_;refine ad.sn w fun s1 _ w=>ad.step (hy2.af _) ?_;refine ad.pU [] w fun s2 _ _ w=>ad.sj Vp w.w (o:=1) rfl ?_;refine ad.step (ai _ _ _) ?_;rw [show ((b:Int)==2)=(b==2) from iy b 2];refine ad.bind (R:=fun c=> ∃s3 v3,c=([v3],s3)∧Wv S0 s3 [(s.h,27,[.int .u8 (a:Int),.int .u8 (b:Int),.str tx,y])] 1 sT v3 ((Format.dP (l.take i)++(match Format.iE (.mk a b tx l2) with | some s=>[s] | none=>[])).map AV.str)) ?_ ?_
    ·by_cases hb:b=2
     ·subst hb;refine ad.step (aF _ _) (ad.sj Vp w.w (o:=2) rfl (ad.step (ao _ _) ?_));refine ad.wM w (by rw [VL];omega) (by omega) (by omega) fun v3 s3 _ w=>ad.some ⟨s3,v3,rfl, ?_⟩;rw [VT];exact w
     ·refine ad.step (eP (c:=false) (VX.2 hb) _ _) (ad.step (aB _ _) (ad.some ⟨s2,v,rfl, ?_⟩));rw [show Format.iE (.mk a b tx l2)=none from if_neg hb];simpa using w
    ·rintro c ⟨s3,v3,rfl,w⟩;simp only [ag,ah,aK,df (show i+1≤9223372036854775807 by omega)];exact ad.inl ⟨s3,v3,rfl,w.none⟩
   ·rintro c ⟨s,v,rfl,w⟩;simp only [E5,ag,ai,ah,ar,if_neg (show ¬ ((l.length:Nat):Int) < (l.length:Int) by omega)];rw [VV] at w;exact ad.inr ⟨s,v,rfl,w⟩
  ·rintro c ⟨s,v,rfl,w⟩;simp only [ag,ah,uh];exact ad.Uu w fun x hx=>ad.some hx
 obtain ⟨x',e,hx'⟩:=key;exact ⟨x',bh rfl e,hx'⟩
theorem tB {k tk:Nat} {s0:List UInt8} {l:List T} {v:AV} (h:jZ (.mk k tk s0 l) v) (hl:l.length≤100000000): ∃x,bu 1 x ((Format.dP l).map AV.str)∧ ∀{γ:Type} (st:St) (K:Kv γ),al (aA vE) 50 [v] st K=K x st q0:=by
 obtain ⟨x,e,hx⟩:=F5 h hl;exact ⟨x,hx,fun st K=>vO h rfl e st K⟩
theorem Jm {tk:Nat} {s0:List UInt8} {l:List T} (hl:l.length≤100000000) (hr: ∀r∈Format.dP l,r.length≤1000000000) (h0:s0.length≤1000000000):kJ (.mk 1 tk s0 l):=by
 intro v h;obtain ⟨rx,hrx,er⟩:=tB h hl;obtain ⟨a1,b1,s1,l',x,es,hq,rfl,hx,hs⟩:=gO h;cases hq;have hrl:=uV l;have hnd:Format.au (.mk 1 tk s0 l)=Format.row ((Format.dP l).flatMap (fun r=>[Format.tx r,Format.iD])++[Format.tx s0]):=by rw [Format.au,if_pos rfl,Format.AL]
 have hfl: ∀(m:List (List UInt8)),(m.flatMap (fun r=>[Format.tx r,Format.iD])).length=2 * m.length:=fun m=>by
  induction m with
  | nil=>rfl
  | cons a m ih=>rw [Wz,Vg,ih,Vh];simp only [Vh,Vj];omega
 have key:ad (bQ vE 49 [.agg [.int .u8 ((1:Nat):Int),.int .u8 (tk:Int),.str s0,x]]) (cL (Format.au (.mk 1 tk s0 l))):=by
  rw [hnd];refine ad.step (Lo _) ?_;simp only [TX,az,ag,ai,ao,ah,hx.af,hx.aJ];rw [show (((1:Nat):Int) != 1)=false from rfl];refine ad.step (aB _ _) (ad.step (er _ _) ?_);simp only [hrx.len,VL];generalize Format.dP l=R at *;refine ad.bind (R:=fun c=> ∃s v ws,c=(0,[v],s)∧Wv S1 s [] 4 ot v ws∧bC (R.flatMap fun r=>[Format.tx r,Format.iD]) ws) ?_ ?_
  ·refine ad.upto (n:=R.length) (I:=fun i c=> ∃s v ws,c=([v,.int .i64 (i:Int)],s)∧Wv S1 s [] 4 ot v ws∧bC ((R.take i).flatMap fun r=>[Format.tx r,Format.iD]) ws) ?_ ?_ R.length 0 _ (by omega) ⟨S1,.aG,[],rfl,Wv.start (Wc _) _ _,gr⟩
   ·rintro i c hi ⟨s,v,ws,rfl,w,hw⟩;have hwl:=cT hw;rw [hfl,VB] at hwl;have ei:=fun {γ:Type} (st:St) (K:AV→List Nat→Option γ)=>hrx.idx (k:=i) (v:= .str R[i]) (by rw [Wa,VG hi];rfl) st K;have hri:=hr R[i] (Wh hi);rw [iK hi,List.flatMap_append];simp only [FX,ag,ai,ah,ar,if_pos (show (i:Int) < (R.length:Int) by omega),ei,AV.cells,cg,aZ,aq,ao,uR,gi,az,gI.af,gI.aJ];refine ad.Hk w (by simp) (by simp only [Vh,Vj];omega) (by omega) (by omega) fun v3 s3 _ w=> ?_;simp only [aK,df (show i+1≤9223372036854775807 by omega)];exact ad.inl ⟨s3,v3,_,rfl,w,dt hw (eL (Be (by omega)) ji)⟩
   ·rintro c ⟨s,v,ws,rfl,w,hw⟩;simp only [FX,ag,ai,ah,ar,if_neg (show ¬ ((R.length:Nat):Int) < (R.length:Int) by omega)];rw [VV] at hw;exact ad.inr ⟨s,v,ws,rfl,w,hw⟩
  ·rintro c ⟨s,v,ws,rfl,w,hw⟩;have hwl:=cT hw;rw [hfl] at hwl;simp only [ag,ah,uR,az,ai,ao,gI.af,gI.aJ];refine ad.wM w (by omega) (by omega) (by omega) fun v3 s3 _ w=> ?_;obtain ⟨x4,hx4,hd4,e4⟩:=wS w.o (dt hw (du (Be (s:=s0) (by omega))));refine ad.step (e4 _ _) ?_;simp only [az,ag,ai,ao,ah];exact ph (Jd.keeps w.k (fun _ _ f=>f)) hx4 hd4
 obtain ⟨dv,e,hd⟩:=key;exact ⟨dv,bh rfl e,hd⟩
noncomputable def ES:AV:=(UZ).getD .aG
theorem FW {γ:Type} (st:St) (K:Kv γ):al (aA vE) 88 [] st K=K ES st q0:=aY st K rfl rfl rfl (bh rfl QG)
def fG (k F:Nat):Prop:=iR (Env.T vE) 139 ES (.int .u8 (k:Int)) false= .ok (.val (.fn (.func F) [] []))
theorem U5:fG 5 135:=by unfold fG;kernel_rfl
theorem Vc:fG 7 135:=by unfold fG;kernel_rfl
theorem U7:fG 6 141:=by unfold fG;kernel_rfl
theorem Va:fG 8 142:=by unfold fG;kernel_rfl
theorem U9:fG 9 145:=by unfold fG;kernel_rfl
theorem T9:fG 10 146:=by unfold fG;kernel_rfl
theorem TR:fG 11 147:=by unfold fG;kernel_rfl
theorem Uo:fG 12 148:=by unfold fG;kernel_rfl
theorem T3:fG 16 149:=by unfold fG;kernel_rfl
theorem Ut:fG 13 150:=by unfold fG;kernel_rfl
theorem T1:fG 14 138:=by unfold fG;kernel_rfl
theorem T4:fG 15 138:=by unfold fG;kernel_rfl
theorem Ub:fG 17 138:=by unfold fG;kernel_rfl
theorem Ux:fG 18 138:=by unfold fG;kernel_rfl
theorem eJ {k F:Nat} {ks:List T} (hk:k≠1) (look:fG k F) (hfull:vE.full F=false)
  (hcall: ∀(y:AV) (st:St) (K:Kv AV),jf (aA vE) (Sx.prim (sx vE 49)) (.fn (.func F) [] []) [y] st K=al (aA vE) F [y] st K) (ok:PW F k ks):kJ (node k ks):=by
 intro v h;obtain ⟨a1,b1,s1,l',x,es,hq,rfl,hx,hs⟩:=gO h;cases hq;obtain ⟨dv,e1,hd⟩:=ok x es hx hs;have cF:=fun {γ:Type} (st:St) (K:Kv γ)=>aY (f:=F) st K hfull (by simp only [Vu,VY,hx.strip]) (by simp only [bf,hx.bare];rfl) e1;have look:iR (Env.T vE) 139 ES (.int .u8 (k:Int)) false= _:=look;have key:ad (bQ vE 49 [.agg [.int .u8 (k:Int),.int .u8 ((0:Nat):Int),.str [],x]]) (cL (Format.au (node k ks))):=by
  rw [Format.eY hk];refine ad.step (Lo _) ?_;simp only [TX,az,ag,ai,ao,ah,hx.af,hx.aJ];rw [show ((k:Int) != 1)=true by rw [show ((k:Int) != 1)=(k != 1) from tu k 1];simpa using hk];refine ad.step (aF _ _) (ad.step (FW _ _) ?_);simp only [dL,dR,ga,V6,aV,look,Is];refine ad.step (hcall _ _ _) (ad.step (cF _ _) ?_);obtain ⟨k2,s2,m2,kids,z,zs,hq,rfl,hz,_⟩:=jA hd;simp only [az,ag,ai,ao,ah];exact ph Jd hz hd
 obtain ⟨dv,e,hd⟩:=key;exact ⟨dv,bh rfl e,hd⟩
def nV (t:T):Prop:=1≤(eh t).length∧((eh t).length≤1000000→kJ t)
theorem Gl (t:T) (l:List T):ck (t::l)=eh t++ck l:=by simp [ck]
theorem ql: ∀{ks:List T},(∀t∈ks,1≤(eh t).length)→ks.length≤(ck ks).length
 | [],_=>Wc _
 | t::l,h=>by
  have h1:=h t (by simp);have h2:=ql (ks:=l) fun u hu=>h u (Vy _ hu);rw [Gl,Vg,Vh];omega
theorem lA {t:T}: ∀{ks:List T},t∈ks→(eh t).length≤(ck ks).length
 | u::l,h=>by
  rw [Gl,Vg];rcases Vv.1 h with rfl | h
  ·omega
  ·have:=lA h;omega
def NE (t:bc):Prop:=t.2≠[]
theorem oa (x:bc):eh (aT x)=x.2:=by simp [aT,leaf,eh,ck]
theorem mO (k:Nat) (s:List UInt8) (r:List bc) (_h0:k≠0) (_h1:k≠1) (_h2:k≠2) (hq:NE (k,s)) (hr: ∀x∈r,bl x=true∧NE x):nV (.mk 1 k s (r.map aT)):=by
 have hs:1≤s.length:=by
  cases s with
  | nil=>exact absurd rfl hq
  | cons _ _=>simp
 have ht:(eh (.mk 1 k s (r.map aT))).length=(ck (r.map aT)).length+s.length:=by simp [eh]
 have hg:(r.map aT).length≤(ck (r.map aT)).length:=ql fun t ht=>by
  obtain ⟨x,hx,rfl⟩:=We.1 ht;have:=(hr x hx).2;rw [oa];exact W6.2 this
 refine ⟨by omega,fun hl=>Jm (by omega) (fun q hq=> ?_) (by omega)⟩;obtain ⟨t,ht',e⟩:=List.mem_filterMap.1 hq;obtain ⟨x,hx,rfl⟩:=We.1 ht';have hm:=lA ht';rw [oa] at hm;have:q=x.2:=by
  have e:(if x.1=2 then some x.2 else none)=some q:=e;split at e
  ·cases e;rfl
  ·cases e
 rw [this];omega
theorem mL (k:Nat) (ks:List T) (hk:Format.Kd k ks) (h: ∀t∈ks,nV t):nV (node k ks):=by
 have hg:=ql fun t ht=>(h t ht).1;have ht:eh (node k ks)=ck ks:=by simp [node,eh,hk.k1]
 have h2:=hk.two;refine ⟨by rw [ht];omega,fun hl=> ?_⟩;rw [ht] at hl;have hn:ks.length≤1000000:=by omega
 have ih: ∀t∈ks,kJ t:=fun t ht=>(h t ht).2 (by have:=lA ht;omega);have hkd:=hk.kind;have hcase:k=5∨k=6∨k=7∨k=8∨k=9∨k=10∨k=11∨k=12∨k=13∨k=14∨k=15∨k=16∨k=17∨k=18:=by omega
 rcases hcase with rfl | rfl | rfl | rfl | rfl | rfl | rfl | rfl | rfl | rfl | rfl | rfl | rfl | rfl
 ·exact eJ (by decide) U5 rfl (fun _ _ _=>rfl) fun x es hx hs=>Tm hx hs hn ih (by omega) (.inl rfl)
 ·exact eJ (by decide) U7 rfl (fun _ _ _=>rfl) fun x es hx hs=>TS hx hs hn ih (hk.k6 rfl)
 ·exact eJ (by decide) Vc rfl (fun _ _ _=>rfl) fun x es hx hs=>Tm hx hs hn ih (by omega) (.inr rfl)
 ·exact eJ (by decide) Va rfl (fun _ _ _=>rfl) fun x es hx hs=>Uc hx hs hn ih
 ·exact eJ (by decide) U9 rfl (fun _ _ _=>rfl) fun x es hx hs=>T2 hx hs hn ih (hk.k9 rfl)
 ·exact eJ (by decide) T9 rfl (fun _ _ _=>rfl) fun x es hx hs=>Ue hx hs ih (hk.k10 rfl)
 ·exact eJ (by decide) TR rfl (fun _ _ _=>rfl) fun x es hx hs=>Uq hx hs hn ih
 ·exact eJ (by decide) Uo rfl (fun _ _ _=>rfl) fun x es hx hs=>Um hx hs hn ih
 ·exact eJ (by decide) Ut rfl (fun _ _ _=>rfl) fun x es hx hs=>R0 hx hs ih (hk.k13 rfl)
 ·exact eJ (by decide) T1 rfl (fun _ _ _=>rfl) fun x es hx hs=>Mz hx hs hn ih h2 (.inl rfl)
 ·exact eJ (by decide) T4 rfl (fun _ _ _=>rfl) fun x es hx hs=>Mz hx hs hn ih h2 (.inr (.inl rfl))
 ·exact eJ (by decide) T3 rfl (fun _ _ _=>rfl) fun x es hx hs=>Ur hx hs hn ih
 ·exact eJ (by decide) Ub rfl (fun _ _ _=>rfl) fun x es hx hs=>Mz hx hs hn ih h2 (.inr (.inr (.inl rfl)))
 ·exact eJ (by decide) Ux rfl (fun _ _ _=>rfl) fun x es hx hs=>Mz hx hs hn ih h2 (.inr (.inr (.inr rfl)))
end Go.Proofs.YtmhofncehlaamaaGreatDoor.Vm
namespace Go.Proofs.YtmhofncehlaamaaGreatDoor.Vm
open Go Go.VM Go.Proofs Go.Lex Go.Parse
def Hv (s:List UInt8):Bool:=s.any fun c=>c==10||c==13
theorem Fc {s:List UInt8} (h:s.length≤4000000000):mu [.str s,.str [10,13]]= .ok (.bool (Hv s)):=by
 have h1:(s.length.blt 4294967281&&([10,13]:List UInt8).isEqv [10,13] (fun a b=>a.toNat.beq b.toNat))=true:=by
  rw [show ([10,13]:List UInt8).isEqv [10,13] (fun a b=>a.toNat.beq b.toNat)=true from rfl,Wp];exact cH.2 (by omega)
 simp only [mu,h1,Hv]
theorem He: ∀(l:List T),Format.fu l=l.any Format.dn
 | []=>rfl
 | t::l=>by simp only [Format.fu,WH,He l]
theorem AB {l:List T} {x:AV} {es:List AV} (hx:bu 4 x es) (hs:bq l es) (hg: ∀t∈l,∀v,jZ t v→(aA vE).bare 48 [v]=some (.bool (Format.dn t))) (st:St): ∀(m:List T) (j:Nat),l.drop j=m→
  ∃(k:Nat) (i:Int),bn (lR x (.fn (.func 48) [] []) l.length) ([.int .i64 0,.int .i64 (j:Int)],st)=some (k,[.int .i64 i],st)∧((k=0∧m.any Format.dn=false)∨(k=1∧0≤i∧m.any Format.dn=true))
 | [],j,hd=>by
  have:=Wy.1 hd;have q:¬ (j:Int) < (l.length:Int):=by omega
  refine ⟨0,0,bo ?_,.inl ⟨rfl,rfl⟩⟩;simp only [lR,ag,ai,ah,ar,if_neg q]
 | t::m,j,hd=>by
  obtain ⟨hgt,hr,hlt⟩:=drop_cons hd;have q:(j:Int) < (l.length:Int):=by omega
  have hlen:=O0 hx hs;obtain ⟨a,b,s,y,hN,e⟩:=Fl hx hs hgt;have c:=hg t (VQ hgt) _ hN;have c2: ∀{γ:Type} (st:St) (K:Kv γ),jf (aA vE) (Sx.prim (sx vE 83)) (.fn (.func 48) [] []) [.agg [.int .u8 (a:Int),.int .u8 (b:Int),.str s,y]] st K=K (.bool (Format.dn t)) st q0:=fun st K=>(show _=al (aA vE) 48 [_] st K from rfl).trans (vO hN rfl c st K);have e':lR x (.fn (.func 48) [] []) l.length ([.int .i64 0,.int .i64 (j:Int)],st)=bD (Format.dn t) (some (.inr (1,[.int .i64 (j:Int)],st))) (some (.inl ([.int .i64 0,.int .i64 ((j+1:Nat):Int)],st))):=by
   simp only [lR,ag,ai,ah,ar,if_pos q];refine (e st _).trans ?_;simp only [c2,aE,aK,df (show j+1≤9223372036854775807 by omega)]
  cases ht:Format.dn t with
  | true=>
   rw [ht] at e';exact ⟨1,j,bo e',.inr ⟨rfl,by omega,by simp [ht]⟩⟩
  | false=>
   rw [ht] at e';obtain ⟨k,i,e2,h⟩:=AB hx hs hg st m (j+1) hr;refine ⟨k,i,by rw [br e',e2], ?_⟩;simpa [ht] using h
theorem qB {tk:Nat} {tx:List UInt8} {l:List T}:eh (.mk 1 tk tx l)=ck l++tx:=by simp [eh]
theorem rT {k tk:Nat} {tx:List UInt8} {l:List T} (h:k≠1):eh (.mk k tk tx l)=ck l:=by simp [eh,h]
theorem zl {t:T}: ∀{ks:List T},t∈ks→(eh t).length≤(ck ks).length
 | u::l,h=>by
  rw [ck,Vg];rcases Vv.1 h with rfl | h
  ·omega
  ·have:=zl h;omega
theorem Kh: ∀(t:T),(eh t).length≤1000000000→ ∀(v:AV),jZ t v→(aA vE).bare 48 [v]=some (.bool (Format.dn t)):=by
 refine T.ind fun k tk tx l ih hlen v hv=> ?_;simp only [jZ] at hv;obtain ⟨x,es,rfl,hx,hs⟩:=hv;have hll:(ck l).length≤1000000000:=by
  by_cases h:k=1
  ·subst h;rw [qB,Vg] at hlen;omega
  ·rw [rT h] at hlen;exact hlen
 have ih: ∀t∈l,∀v,jZ t v→(aA vE).bare 48 [v]=some (.bool (Format.dn t)):=fun t ht=>ih t ht (by have:=zl ht;omega);have hc:(aA vE).bare 40 [x,.fn (.func 48) [] []]=some (.bool (Format.fu l)):=by
  rw [He];have hi: ∃i:Int,(aA vE).bare 83 [x,.fn (.func 48) [] []]=some (.int .i64 i)∧decide (i≥0)=l.any Format.dn:=by
   obtain ⟨k,i,e,h⟩:=AB hx hs ih S0 l 0 rfl;have e:bn (lR x (.fn (.func 48) [] []) l.length) ([.int .i64 0,.int .i64 0],S0)= _:=e;rcases h with ⟨rfl,h⟩ | ⟨rfl,h0,h⟩
   ·refine ⟨-1,bh rfl ((BU _ _).trans ?_),by rw [h];rfl⟩;simp only [SD,jH hx hs,e,aq,ag,ai,ah,jJ]
   ·refine ⟨i,bh rfl ((BU _ _).trans ?_),by rw [h];simpa using h0⟩;simp only [SD,jH hx hs,e,aq,ag,ai,ah,mZ]
  obtain ⟨i,h1,h2⟩:=hi;refine bh rfl ((LH _ _).trans ?_);have c:=fun {β:Type} (st:St) (K:Kv β)=>aY (f:=83) st K rfl (by simp only [Vu,VY,hx.strip];rfl) (by simp only [bf,hx.bare];rfl) h1;simp only [TW,c,ai,h2]
 have cc:=fun {β:Type} (st:St) (K:Kv β)=>aY (f:=40) st K rfl (by simp only [Vu,VY,hx.strip];rfl) (by simp only [bf,hx.bare];rfl) hc;refine bh rfl ((P8 _).trans ?_);have e1:((k:Int)==1)=(k==1):=iy k 1;have e2:((tk:Int)==2)=(tk==2):=iy tk 2;have e7:((tk:Int)==7)=(tk==7):=iy tk 7;have hany:(tx.any fun c=>c==10||c==13)=Hv tx:=rfl;simp only [UT,az,ag,ai,ao,ah,hx.af,hx.aJ,e1,e2,e7,Format.dn,hany];cases h1:k==1 with
 | false=>simp only [aB,cc,aq,ag,aE,ah,WT,Wu]
 | true=>
  have hk:k=1:=V4.1 h1;subst hk;have hl:=fun {β:Type} (st:St) (K:Kv β)=>eX (O:=aA vE) (Fc (s:=tx) (by rw [qB,Vg] at hlen;omega)) st K;generalize Hv tx=A at *;simp only [aF,hl];cases h2:tk==2 <;> cases h7:tk==7 <;> cases A <;> simp only [aF,aB,hl,cc,aq,ag,aE,ah,WT,Wu,WW,Xd,Wp,W9,Xo,Bool.or_true,V6,Bool.or_self]
theorem Gg {t:T} {v:AV} (hN:jZ t v) (h:(eh t).length≤1000000000) {γ:Type} (st:St) (K:Kv γ):al (aA vE) 48 [v] st K=K (.bool (Format.dn t)) st q0:=vO hN rfl (Kh t h v hN) st K
end Go.Proofs.YtmhofncehlaamaaGreatDoor.Vm
namespace Go.Proofs.YtmhofncehlaamaaGreatDoor.Vm
open Go Go.VM Go.Proofs Go.Lex Go.Parse Go.Lay
theorem zP: ∀(i:Nat) (l m:List Doc),Format.cA i (l++m)=Format.cA i l++Format.cA (i+l.length) m
 | i,[],m=>by simp [Format.cA]
 | i,d::l,m=>by
  rw [Vz,Format.cA,Format.cA,zP (i+1) l m,Vh,Vx,show i+1+l.length=i+(l.length+1) by omega];rfl
theorem Aw: ∀(i:Nat) (l:List Doc),(Format.cA i l).length≤3 * l.length
 | i,[]=>by simp [Format.cA]
 | i,d::l=>by
  have:=Aw (i+1) l;rw [Format.cA];split <;> simp only [Vg,Vh,Vj] <;> omega
theorem BO {s:List UInt8} {t:T} (h:Lf NE s t):nV t:=Format.dM mO h
theorem QF {t:T} (h:ET NE t):nV t:=(Format.Bv mO mL _).1 _ (Wq _) h
theorem Ky {t:T} (h:PT NE t):nV t:=(Format.Bv mO mL _).2.1 _ (Wq _) h
theorem Mt {l:List T} (h:BT NE l): ∀x∈l,nV x:=by
 intro x hx;cases h with
 | mk hr hp hps hq he=>
  simp only [Vv,VE,VR,VJ,or_false] at hx;rcases hx with ((hx | rfl | hx) | rfl) | rfl
  ·rcases hr with rfl | ⟨r,hr,rfl⟩
   ·cases hx
   ·rw [VR.1 hx];exact BO hr
  ·exact Ky hp
  ·exact Ky (hps x hx)
  ·exact BO hq
  ·exact QF he
theorem Jy {a:T} {bs:List T} (ha:Lf NE qZ a) (hb:BT NE bs):nV (node 5 (a::bs)):=by
 have:=Format.Km hb;refine mL 5 _ (Format.uM (by simp only [Vh];omega) (.inl rfl)) fun x hx=> ?_;rcases Vv.1 hx with rfl | hx
 ·exact BO ha
 ·exact Mt hb x hx
theorem Es: ∀(l:List T),DT NE l→ ∃(ds:List T) (r:List bc),l=ds++[.mk 1 0 [] (r.map aT)]∧(∀t∈ds,nV t)∧ ∀x∈r,NE x
 | _,.last (ks:=ks) hv=>by
  obtain ⟨r,rfl,hr⟩:=hv;exact ⟨[],r,rfl,(by simp),fun x hx=>(hr x hx).2⟩
 | _,.cons (a:=a) (bs:=bs) (l:=l) ha hb hl=>by
  obtain ⟨ds,r,rfl,h1,h2⟩:=Es l hl;refine ⟨node 5 (a::bs)::ds,r,rfl,fun t ht=> ?_,h2⟩;rcases Vv.1 ht with rfl | ht
  ·exact Jy ha hb
  ·exact h1 t ht
theorem HH (s:List UInt8):pj NE (tokens s):=fun t ht=>(Ast.J2 _ s t ht).1
theorem Jg {s:List UInt8} (hg:dW (doc (tokens s))=true): ∃(ds:List T) (r:List bc),doc (tokens s)=node 4 (ds++[.mk 1 0 [] (r.map aT)])∧(s.length≤65536→ds.length≤65536∧r.length≤65536∧ ∀t∈ds,kJ t):=by
 obtain ⟨l,e1,e2⟩:=mE (tokens s);have hgl:=hg;rw [e2] at hgl;have hdt:=me (Q:=NE) _ _ _ e1 (gS s) (HH s) (dD hgl);obtain ⟨ds,r,rfl,h1,h2⟩:=Es l hdt;refine ⟨ds,r,e2,fun hs=> ?_⟩;have ht:ck (ds++[.mk 1 0 [] (r.map aT)])=s:=by
  have:=DN (tokens s) (gS s);rw [e2,sN] at this;rw [← this];exact (rT (by decide)).symm
 have hl:=Wb List.length ht;rw [eI,Vg] at hl;have hr:(ck [T.mk 1 0 [] (r.map aT)]).length=(ck (r.map aT)).length:=by
  rw [Gl,qB];simp [ck]
 have hd1:=ql fun t ht=>(h1 t ht).1;have hr1:(r.map aT).length≤(ck (r.map aT)).length:=ql fun t ht=>by
  obtain ⟨x,hx,rfl⟩:=We.1 ht;rw [oa];exact W6.2 (h2 x hx)
 rw [VL] at hr1;refine ⟨by omega,by omega,fun t ht=>(h1 t ht).2 ?_⟩;have:=lA ht;omega
theorem U8 {st:St} {x x':AV} (fx: ∀n,VM.freeze st 0 (n+1) x= .ok x') (k:Int) (s:List UInt8) (m:Int) (n:Nat):VM.freeze st 0 (n+2) (.agg (dO k s m x))= .ok (.agg (dO k s m x')):=by
 have h:jD (VM.freeze st 0 (n+1)) (dO k s m x)= .ok (dO k s m x'):=fy (kF _ _ st 0 (n+1) (by omega)) (fy (B7 _ st 0 (n+1) (by omega)) (fy (kF _ _ st 0 (n+1) (by omega)) (fy (fx n) tK)));show (do pure (.agg (← jD (VM.freeze st 0 (n+1)) (dO k s m x))):cM AV)= _;rw [h];rfl
theorem Gy {st:St} {x x':AV} {es:List AV} (hx:bu 4 x' es) (fx: ∀n,VM.freeze st 0 (n+1) x= .ok x') (k:Int) (s:List UInt8) (m n:Int) {β:Type} (K:AV→Option β):
  eZ st 0 (.tup [.agg (dO k s m x),.int .i64 n]) K=K (.tup [.agg (dO k s m x'),.int .i64 n]):=by
 refine GZ (fy (U8 fx k s m 97) (fy (kF _ _ st 0 99 (by omega)) tK)) ?_ K;simp only [bf,za,hx.bare];rfl
theorem G7 {st:St} (w:Vw st [(0,ot,d4)]) (n:Int):
  ad (aD (aA vE) 4 (.mp 0 0) (.agg d4) d4 st fun _ s _=>ay 4 true (.mp 0 0) s fun v _=>zH v fun l=>bE l fun v1 l=>bU .u8 v1 fun n1=>bE l fun v2 l=>eU v2 fun s1=>bE l fun v3 l=>bU .i64 v3 fun n3=>bE l fun v4 l=>cj l (eZ s 0 (.tup [.agg [.int .u8 n1,.str s1,.int .i64 n3,v4],.int .i64 n]) fun v=>some v)) (· = .tup [.agg d4,.int .i64 n]):=by
 refine ad.yd [] w (fun s2 _ _ w=>ad.nC Vp w rfl ?_);simp only [az,ag,ai,ao,ah];exact ad.step (Gy bu.aG (fun n=>GS s2 0 (n+1) (by omega)) 0 [] 0 n _) (ad.some rfl)
def Ct (s:List UInt8) (b:AV):Prop:=match Format.qW s with
 | .ok d=> ∃dv,b= .tup [dv,.int .i64 0]∧cL d dv
 | .error n=>b= .tup [.agg d4,.int .i64 (n:Int)]
theorem QC {ds:List T} {x:AV} {es:List AV} (hx:bu 4 x es) (hs:bq ds es) (hn:ds.length≤100000) (ih: ∀t∈ds,kJ t) {st0:St} (hro:st0.ro≤st0.h):
  ad (bn (Cp x es.length) ([.aG,.int .i64 0],st0)) fun c=> ∃s v ws,c=(0,[v],s)∧Wv st0 s [] 4 ot v ws∧bC (ds.map Format.au) ws:=by
 have hlen:=hs.len;refine ad.upto (n:=ds.length) (I:=fun i c=> ∃s v ws,c=([v,.int .i64 (i:Int)],s)∧Wv st0 s [] 4 ot v ws∧bC ((ds.take i).map Format.au) ws) ?_ ?_ ds.length 0 _ (by omega) ⟨st0,.aG,[],rfl,Wv.start hro _ _,gr⟩
 ·rintro i c hi ⟨s,v,ws,rfl,w,hw⟩;have hwl:=cT hw;rw [VL,VB] at hwl;obtain ⟨a,b,tx,z,hN,hz1,eidx,k,s',m,q,qs,hd,hq,cn⟩:=C4 hx hs (VG hi) (ih _ (Wh hi));rw [iK hi,VT];simp only [Cp,ag,ai,ah,ar,if_pos (show (i:Int) < (es.length:Int) by omega)];refine ad.step (eidx s _) ?_;refine ad.sn w fun s1 _ w=>ad.step (hz1 _) ?_;refine ad.pU [] w fun s2 _ _ w=> ?_;refine ad.nC Vp w.w rfl ?_;simp only [az,ag,ai,ao,ah];refine ad.step (cn _ _) ?_;simp only [az,ag,ai,ao,ah,hq.af,hq.aJ];refine ad.wM w (by omega) (by omega) (by omega) fun v4 s4 _ w=> ?_;simp only [aK,df (show i+1≤9223372036854775807 by omega)];exact ad.inl ⟨s4,v4,_,rfl,w.none,dt hw (du hd)⟩
 ·rintro c ⟨s,v,ws,rfl,w,hw⟩;simp only [Cp,ag,ai,ah,ar,if_neg (show ¬ ((ds.length:Nat):Int) < (es.length:Int) by omega)];rw [VV] at hw;exact ad.inr ⟨s,v,ws,rfl,w,hw⟩
theorem Q0 {R:List (List UInt8)} {x:AV} (hx:bu 1 x (R.map AV.str)) (hn:R.length≤100000) (hr: ∀r∈R,r.length≤1000000000) {st0 st1:St} {v0:AV} {ws0:List AV} {D0:List Doc} (w0:Wv st0 st1 [] 4 ot v0 ws0) (hw0:bC D0 ws0) (hD:D0.length≤100000):
  ad (bn (BW x R.length) ([v0,.int .i64 0],st1)) fun c=> ∃s v ws,c=(0,[v],s)∧Wv st0 s [] 4 ot v ws∧bC (D0++R.map Format.tx) ws:=by
 refine ad.upto (n:=R.length) (I:=fun i c=> ∃s v ws,c=([v,.int .i64 (i:Int)],s)∧Wv st0 s [] 4 ot v ws∧bC (D0++(R.take i).map Format.tx) ws) ?_ ?_ R.length 0 _ (by omega) ⟨st1,v0,ws0,rfl,w0,by simpa using hw0⟩
 ·rintro i c hi ⟨s,v,ws,rfl,w,hw⟩;have hwl:=cT hw;rw [Vg,VL,VB] at hwl;have ei:=fun {γ:Type} (st:St) (K:AV→List Nat→Option γ)=>hx.idx (k:=i) (v:= .str R[i]) (by rw [Wa,VG hi];rfl) st K;have hri:=hr R[i] (Wh hi);rw [iK hi,VT, ← Vx];simp only [BW,ag,ai,ah,ar,if_pos (show (i:Int) < (R.length:Int) by omega),ei,AV.cells,cg,aZ,aq,ao,uR,az,gI.af,gI.aJ];refine ad.wM w (by omega) (by omega) (by omega) fun v3 s3 _ w=> ?_;simp only [aK,df (show i+1≤9223372036854775807 by omega)];exact ad.inl ⟨s3,v3,_,rfl,w,dt hw (du (Be (by omega)))⟩
 ·rintro c ⟨s,v,ws,rfl,w,hw⟩;simp only [BW,ag,ai,ah,ar,if_neg (show ¬ ((R.length:Nat):Int) < (R.length:Int) by omega)];rw [VV] at hw;exact ad.inr ⟨s,v,ws,rfl,w,hw⟩
theorem P1 {D:List Doc} {x:AV} {ws:List AV} {e:TypeId} {sx:St} (hx:jq sx 4 e x ws) (hw:bC D ws) (hn:D.length≤200000) {st0 st1:St} (w0:Wv st0 st1 [(st0.h,ot,dO 7 [] 0 .aG)] 4 ot .aG []):
  ad (bn (BM x st0 ws.length) ([.int .i64 0],st1)) fun c=> ∃s y us,c=(0,[],s)∧Wv st0 s [(st0.h,ot,dO 7 [] 0 y)] 4 ot y us∧bC (Format.cA 0 D) us:=by
 have hlen:=cT hw;refine ad.upto (n:=D.length) (I:=fun i c=> ∃s y us,c=([.int .i64 (i:Int)],s)∧Wv st0 s [(st0.h,ot,dO 7 [] 0 y)] 4 ot y us∧bC (Format.cA 0 (D.take i)) us) ?_ ?_ D.length 0 _ (by omega) ⟨st1,.aG,[],rfl,w0,gr⟩
 ·rintro i c hi ⟨s,y,us,rfl,w,hu⟩;have hul:=cT hu;have hh:=Aw 0 (D.take i);rw [VB] at hh;obtain ⟨u,hu1,hu2⟩:=ua hw (VG hi);obtain ⟨k,s',m,kids,z,zs,hq,rfl,hz,_⟩:=jA hu2;have hst:Format.cA 0 (D.take (i+1))=Format.cA 0 (D.take i)++((if i=0 then [] else [Format.KE])++[D[i],Format.KE]):=by
   rw [iK hi,zP,VB,WQ (by omega),VC,Format.cA,Format.cA]
  rw [hst];simp only [BM,ag,ai,ah,ar,if_pos (show (i:Int) < (ws.length:Int) by omega)];refine ad.step (OJ hx hu1 _ _) ?_;simp only [AV.cells,cg,gZ,aq,az,ag,ai,ao,ah];refine ad.sn w fun s1 _ w=>ad.step (hz.af _) ?_;refine ad.pU [] w fun s2 _ _ w=> ?_;refine ad.bind (R:=fun c=> ∃s3 y us,c=([],s3)∧Wv st0 s3 [(s.h,ot,dO k s' m z),(st0.h,ot,dO 7 [] 0 y)] 4 ot y us∧bC (Format.cA 0 (D.take i)++(if i=0 then [] else [Format.KE])) us) ?_ ?_
  ·by_cases h0:i=0
   ·subst h0;exact ad.step (if_neg (by omega)) (ad.some ⟨s2,y,us,rfl,w,by simpa using hu⟩)
   ·rw [if_neg h0];refine ad.step (if_pos (by omega)) ?_;refine ad.sj (Vy _ Vp) w.w (o:=3) rfl ?_;refine ad.wM w (by omega) (by omega) (by omega) fun v4 s4 _ w=> ?_;refine ad.one w.o.one (ad.one w.o.one ?_);exact ad.Uz [_] w (VA rfl) fun s5 o5 _ w=>ad.some ⟨s5,v4,_,rfl,w,dt hu (du Hj)⟩
  ·rintro c ⟨s3,y3,us3,rfl,w,hu3⟩;have hul3:=cT hu3;rw [Vg] at hul3;have hif:(if i=0 then ([]:List Doc) else [Format.KE]).length≤1:=by split <;> simp
   simp only [ah];refine ad.sj (Vy _ Vp) w.w (o:=3) rfl ?_;refine ad.nC Vp w.w rfl ?_;simp only [az,ag,ai,ao,ah,hz.af,hz.aJ];refine ad.Hk w (by simp) (by simp only [Vh,Vj];omega) (by omega) (by omega) fun v4 s4 _ w=> ?_;refine ad.one w.o.one (ad.one w.o.one ?_);refine ad.Uz [_] w (VA rfl) fun s5 o5 _ w=> ?_;simp only [aK,df (show i+1≤9223372036854775807 by omega)];refine ad.inl ⟨s5,v4,_,rfl,w.sub (Xc _ _), ?_⟩;rw [← Vx];exact dt hu3 (eL hu2 Hj)
 ·rintro c ⟨s,y,us,rfl,w,hu⟩;simp only [BM,ag,ai,ah,ar,if_neg (show ¬ ((D.length:Nat):Int) < (ws.length:Int) by omega)];rw [VV] at hu;exact ad.inr ⟨s,y,us,rfl,w,hu⟩
theorem H2 (s:List UInt8): ∃b,(aA vE).bare 27 [.str s]=some b∧Ct s b:=by
 obtain ⟨v,hN,_,ep⟩:=FZ s;have key:ad (bQ vE 27 [.str s]) (Ct s):=by
  obtain ⟨k,tk,tx,kids,x,es,hq,rfl,hx,hs⟩:=gO hN;refine ad.step (PH _) ?_;unfold UD;refine ad.step (ao _ _) (ad.step (ep _ _) ?_);simp only [bw,aU,bj,az,ag,ai,ao,ah];refine ad.Fp Jd fun s1 _ w=>ad.step (hx.af _) ?_;refine ad.yd [] w fun s2 _ _ w=> ?_;have w0:=w.sub (Xc _ _);rcases HZ s with ⟨h0,h1,h2⟩ | ⟨h0,h1⟩ | ⟨h0,h1,h2⟩
  ·rw [h0];have hlt:¬ 65536 < s.length:=by rw [h1];exact id
   have htr:kS s=doc (tokens s):=by unfold kS;rw [if_pos h0]
   rw [htr] at hN hq;have htxt:(eh (doc (tokens s))).length≤65536:=by rw [DN _ (gS s),sN];omega
   refine ad.step (aB _ _) (ad.nC Vp w rfl ?_);simp only [az,ag,ai,ao,ah];refine ad.step (vO hN rfl (My _ _ hN) _ _) (ad.step (aE _ _) ?_);cases hg:dW (doc (tokens s)) with
   | false=>
    refine ad.step (aF _ _) ((G7 w0 50).mono fun b hb=> ?_);unfold Ct Format.qW;rw [if_neg hlt,if_pos h2,if_neg (by rw [hg];exact Xg)];exact hb
   | true=>
    refine ad.step (aB _ _) (ad.nC Vp w rfl ?_);simp only [az,ag,ai,ao,ah];refine ad.step (Gg hN (by omega) _ _) (ad.step (aE _ _) ?_);cases he:Format.dn (doc (tokens s)) with
    | true=>
     refine ad.step (aF _ _) ((G7 w0 4).mono fun b hb=> ?_);unfold Ct Format.qW;rw [if_neg hlt,if_pos h2,if_pos hg,if_pos he];exact hb
    | false=>
     have hL:Format.qW s= .ok (Format.row (Format.cA 0 (Format.dw (doc (tokens s)).kids))):=by
      unfold Format.qW;rw [if_neg hlt,if_pos h2,if_pos hg,if_neg (by rw [he];exact Xg)]
     obtain ⟨ds,r,hd,hd2⟩:=Jg hg;obtain ⟨hd3,hd4,hd5⟩:=hd2 (by omega);have hk:kids=ds++[.mk 1 0 [] (r.map aT)]:=by rw [hd] at hq;injection hq with _ _ _ e;exact e.symm
     have hk2:(doc (tokens s)).kids=ds++[.mk 1 0 [] (r.map aT)]:=by rw [hd];rfl
     rw [hk2] at hL;have hit:Format.dw (ds++[.mk 1 0 [] (r.map aT)])=ds.map Format.au++(Format.dP (r.map aT)).map Format.tx:=by
      unfold Format.dw;rw [Vg,Wj,Nat.add_sub_cancel,WU,Format.oF,VI,V5 (Vn _),WZ];rfl
     rw [hit] at hL;subst hk;have hel:es.length=ds.length+1:=by rw [hs.len,Vg,Wj]
     obtain ⟨x1,hx1,ecut⟩:=hx.cut (lo:=none) (hi:=some (ds.length:Int)) (l:=0) (m:=ds.length) rfl (by
      show (match ds.length.ble es.length with | true=>some ds.length | false=>none)= _;rw [VS (by omega)])
     rw [VD] at hx1;have hs1:bq ds (es.take ds.length):=by
      have:=nU ds.length hs
      rwa [WU] at this
     have hl1:(es.take ds.length).length=ds.length:=by rw [VB];omega
     refine ad.step (aB _ _) (ad.sj Vp w (o:=3) rfl (ad.step (hx.len _) ?_));rw [show IntKind.wrap .i64 ((es.length:Int) - 1)=(ds.length:Int) by rw [wrap_i64 (by omega) (by omega)];omega];simp only [aK];refine ad.sj Vp w (o:=3) rfl (ad.step (ecut _) (ad.step (hx1.len _) ?_));refine ad.bind (QC hx1 hs1 (by omega) hd5 w.ro) ?_;rintro c ⟨s3,v3,ws3,rfl,w3,hw3⟩;have wv:=w.keeps w3.k (fun _ _ f=>f);simp only [ag,ah];refine ad.sj Vp wv (o:=3) rfl ?_;obtain ⟨vl,hvl,hNl⟩:=bq.at (k:=ds.length) (t:= .mk 1 0 [] (r.map aT)) hs (by rw [V5 (Vn _),WZ];rfl);obtain ⟨a,b,sl,ll,yl,esl,hql,rfl,hyl,_⟩:=gO hNl;refine ad.step (hx.idx hvl _ _) ?_;simp only [AV.cells,cg,gZ,aq,az,ag,ai,ao,ah];obtain ⟨xr,hxr,er⟩:=tB hNl (by rw [VL];omega);have hrl:=uV (r.map aT);rw [VL] at hrl;have hrs: ∀q∈Format.dP (r.map aT),q.length≤1000000000:=fun q hq=>by
      obtain ⟨t,ht,e⟩:=List.mem_filterMap.1 hq;obtain ⟨y,hy,rfl⟩:=We.1 ht;have e:(if y.1=2 then some y.2 else none)=some q:=e;have hb:(eh (aT y)).length≤(eh (doc (tokens s))).length:=by
       have h1:=lA ht;rw [hd];have h2:(eh (T.mk 1 0 [] (r.map aT))).length≤(ck (ds++[.mk 1 0 [] (r.map aT)])).length:=lA (List.mem_append_right _ Vp);rw [qB,Vg] at h2;rw [show eh (node 4 (ds++[.mk 1 0 [] (r.map aT)]))=ck (ds++[.mk 1 0 [] (r.map aT)]) from rT (by decide)];omega
      rw [oa] at hb;split at e
      ·cases e;omega
      ·cases e
     generalize Format.dP (r.map aT)=R at *;refine ad.step (er _ _) (ad.step (hxr.len _) ?_);rw [VL];refine ad.bind (Q0 hxr (by omega) hrs w3 hw3 (by rw [VL];omega)) ?_;rintro c ⟨s4,v4,ws4,rfl,w4,hw4⟩;have wv:=w.keeps w4.k (fun _ _ f=>f);simp only [ag,ah];refine ad.step (aY _ _ rfl rfl rfl (JO bu.aG)) ?_;simp only [az,ag,ai,ao,ah];refine ad.sn (Wv.start wv.ro 4 ot) fun s5 hh5 w5=>ad.step (gI.af _) ?_;refine ad.pU [] w5 fun s6 _ _ w6=>ad.step (Na w4.o _) ?_;have hDl:=cT hw4;refine ad.bind (P1 w4.o hw4 (by rw [Vg,VL,VL];omega) w6) ?_;rintro c ⟨s7,y7,us7,rfl,w7,hw7⟩;have wv0:Vw s7 [(0,ot,d4)]:=(wv.keeps w7.k (fun _ _ f=>f)).sub (Xc _ _);simp only [ah];refine ad.nC Vp w7.w rfl ?_;simp only [az,ag,ai,ao,ah];refine ad.one w7.o.one ?_;refine ad.Ve [] ⟨wv0,w7.o⟩ (VA rfl) fun s8 o8 _ w8=> ?_;refine ad.nC Vp w8.w rfl ?_;obtain ⟨xf,hxf,fxf⟩:=xx w8.o;show ad (zH (.agg (dO 7 [] 0 y7)) _) _;simp only [az,ag,ai,ao,ah];refine ad.step (Gy hxf fxf 7 [] 0 0 _) (ad.some ?_);unfold Ct;rw [hL];exact ⟨_,rfl,lG (by omega) (by simp) (by omega) hxf hw7⟩
  ·rw [h0];refine ad.step (aF _ _) ((G7 w0 40).mono fun b hb=> ?_);unfold Ct Format.qW;rw [if_pos h1];exact hb
  ·rw [h0];refine ad.step (aF _ _) ((G7 w0 4).mono fun b hb=> ?_);unfold Ct Format.qW;rw [if_neg h1,if_neg (by rw [h2];exact Xg)];exact hb
 obtain ⟨b,e,hb⟩:=key;exact ⟨b,bh rfl e,hb⟩
end Go.Proofs.YtmhofncehlaamaaGreatDoor.Vm
namespace Go.Proofs.YtmhofncehlaamaaGreatDoor.Vm
open Go Go.VM Go.Proofs Go.Lay
def ja {α:Type} (R:α→AV→Prop):List α→List AV→Prop
 | [],ws=>ws=[]
 | a::l,ws=> ∃v vs,ws=v::vs∧R a v∧ja R l vs
theorem ja.len {α:Type} {R:α→AV→Prop}: ∀{l:List α} {ws:List AV},ja R l ws→ws.length=l.length
 | [],_,h=>by rw [show _=[] from h];rfl
 | a::l,_,h=>by
  obtain ⟨v,vs,rfl,_,h⟩:=h;simp [ja.len h]
theorem ja.append {α:Type} {R:α→AV→Prop}: ∀{l m:List α} {ws us:List AV},ja R l ws→ja R m us→ja R (l++m) (ws++us)
 | [],_,_,_,h,k=>by rw [show _=[] from h];exact k
 | a::l,_,_,_,h,k=>by
  obtain ⟨v,vs,rfl,h1,h⟩:=h;exact ⟨v,vs++ _,rfl,h1,ja.append h k⟩
theorem ja.at {α:Type} {R:α→AV→Prop}: ∀{l:List α} {ws:List AV} {i:Nat} {a:α},ja R l ws→l[i]? =some a→ ∃v,ws[i]? =some v∧R a v
 | [],_,_,_,_,h=>by simp at h
 | b::l,_,0,a,h,hi=>by
  obtain ⟨v,vs,rfl,h1,_⟩:=h;simp at hi;subst hi;exact ⟨v,rfl,h1⟩
 | b::l,_,i+1,a,h,hi=>by
  obtain ⟨v,vs,rfl,_,h⟩:=h;obtain ⟨u,h2,h3⟩:=ja.at h (by simpa using hi);exact ⟨u,by simpa using h2,h3⟩
theorem bC.all: ∀{ds:List Doc} {es:List AV},bC ds es→ja cL ds es
 | [],_,h=>h
 | _:: _,_,h=>by
  obtain ⟨v,vs,rfl,h1,h⟩:=h;exact ⟨v,vs,rfl,h1,h.all⟩
def gU (f:iC) (v:AV):Prop:= ∃c0 c1 c2 c3,cL f.1 (.agg [c0,c1,c2,c3])∧v= .agg [c0,c1,c2,c3,.int .i64 f.2.1,.bool f.2.2]
theorem zK (ind:Int) (fl:Bool) {kids:List Doc} {x:AV} {es:List AV} (hx:bu 4 x es) (hk:bC kids es): ∀(m:Nat) (v:AV) (st:St) (ws:List AV),m≤kids.length→jq st 6 111 v ws→ws.length+m≤1000000→
  ∃st' v' us,bn (BF ind fl x) ([v,.int .i64 ((m:Int) - 1)],st)=some (0,[v'],st')∧ja gU ((kids.take m).reverse.map fun d=>(d,ind,fl)) us∧jq st' 6 111 v' (ws++us)∧(v≠ .aG∧v≠ .es→v'≠ .aG∧v'≠ .es)
 | 0,v,st,ws,_,hI,_=>by
  refine ⟨st,v,[], ?_,rfl,by simpa using hI,id⟩;rw [nu];simp [BF]
 | m+1,v,st,ws,hm,hI,hb=>by
  have hlen:=hk.all.len;have hd:kids[m]? =some kids[m]:=VG (by omega);obtain ⟨u,hu,hdoc⟩:=hk.all.at hd;have hge:(m:Int)≥0:=by omega
  have hm1:((m+1:Nat):Int) - 1=(m:Int):=by omega
  have hw:IntKind.wrap .i64 ((m:Int) - 1)=(m:Int) - 1:=wrap_i64 (by omega) (by have:=hx.1;omega);have hidx:=fun (st:St) (K:AV→List Nat→Option (Sum dq (Nat×dq)))=>hx.idx hu st K;have htk:kids.take (m+1)=kids.take m++[kids[m]]:=List.take_succ_eq_append_getElem (by omega);generalize kids[m]=d at hdoc htk;obtain ⟨k,s,n,ks⟩:=d;have hdoc':=hdoc;obtain ⟨y,es',rfl,r1,r2,r3,hy,hk'⟩:=hdoc;have hroom:cZ (ws.length+[AV.agg [.int .u8 k,.str s,.int .i64 n,y,.int .i64 ind,.bool fl]].length) ⟨.other,6,72,[],false,false⟩=true:=by
   simp only [cZ,Wj,Vl];exact ⟨VS (by omega),rfl,VS (by omega)⟩
  obtain ⟨v2,st2,x2,happ,hown,_,_⟩:=qK (b:=72) hI (new:=[.agg [.int .u8 k,.str s,.int .i64 n,y,.int .i64 ind,.bool fl]]) (by simp) hroom;have hne:v2≠ .aG∧v2≠ .es:=by
   rcases hown.2.2 with ⟨_,h⟩ | rfl | ⟨j,rfl,_⟩
   ·simp at h
   ·exact ⟨(by intro h;cases h),(by intro h;cases h)⟩
   ·exact ⟨(by intro h;cases h),(by intro h;cases h)⟩
  obtain ⟨st',v',us,hrun,hus,hfin,hne'⟩:=zK ind fl hx hk m v2 st2 _ (by omega) hown (by rw [Vg];simp;omega);refine ⟨st',v',.agg [.int .u8 k,.str s,.int .i64 n,y,.int .i64 ind,.bool fl]::us, ?_, ?_,by simpa using hfin,fun _=>hne' hne⟩
  ·have ht:jd 4 true [.int .u8 k,.str s,.int .i64 n,y]=some (.agg [.int .u8 k,.str s,.int .i64 n,y]):=rfl;rw [nu];simp only [BF,ag,ai,ah,ar,hm1,if_pos hge,hidx,AV.cells,cg,ht,aq,az,ao,hy.af,hy.aJ,mB happ,aK,hw];exact hrun
  ·rw [htk];simp only [List.reverse_append,List.reverse_cons,List.reverse_nil,Vs,List.singleton_append,Vu];exact ⟨_,_,rfl,⟨_,_,_,_,hdoc',rfl⟩,hus⟩
def oW (z:Nat) (x:AV) (es:List AV):Prop:=es.length≤9223372036854775807∧(x= .sl z es .shut∨x= .sl z es .wide)
theorem oW.sl {z:Nat} {x:AV} {es:List AV} (h:oW z x es):bu z x es:=⟨h.1,.inr h.2⟩
theorem EJ {β:Type} {z:Nat} {x:AV} {es:List AV} (h:oW z x es) (K:AV→Option β):eR z x none (some (es.length:Int)) (some (es.length:Int)) K=K (.sl z es .shut):=by
 have hz:z.beq z=true:=Wx z;have h1:su (some (es.length:Int)) es.length 0=some es.length:=jg (Vn _);have h2:su (some (es.length:Int)) es.length es.length=some es.length:=jg (Vn _);have h3:es.length.beq es.length=true:=Wx _;rcases h.2 with rfl | rfl <;> simp only [eR,kK,hz,h1,h2,lW,h3,aq,VV,VD]
theorem E9 {β:Type} {z n:Nat} {x:AV} {es:List AV} (h:oW z x es) (hn:n≤es.length): ∃x',oW z x' (es.take n)∧ ∀K:AV→Option β,eR z x none (some (n:Int)) none K=K x':=by
 have hz:z.beq z=true:=Wx z;have h2:su (some (n:Int)) es.length es.length=some n:=jg hn;have hl:(es.take n).length≤9223372036854775807:=by rw [VB];have:=h.1;omega
 rcases h.2 with rfl | rfl
 ·simp only [eR,kK,hz,h2,lW];cases e:n.beq es.length with
  | true=>
   have:=Vq e;subst this;exact ⟨.sl z es .shut,⟨hl,.inl (by simp)⟩,fun _=>rfl⟩
  | false=>exact ⟨.sl z (es.take n) .wide,⟨hl,.inr rfl⟩,fun _=>rfl⟩
 ·simp only [eR,kK,hz,h2,lW];cases e:n.beq es.length with
  | true=>exact ⟨.sl z (es.take n) .wide,⟨hl,.inr rfl⟩,fun _=>rfl⟩
  | false=>exact ⟨.sl z (es.take n) .wide,⟨hl,.inr rfl⟩,fun _=>rfl⟩
theorem N8 {f:iC} {fv x:AV} {ws:List AV} (hx:oW 6 x ws) (hf:gU f fv) (ind:Int) (fl:Bool) (kids:List Doc) (hk: ∃k s n,f.1= .mk k s n kids) (hb:ws.length+kids.length≤1000000):
  ∃x' us,(aA vE).bare 97 [x,fv,.int .i64 ind,.bool fl]=some x'∧oW 6 x' (ws++us)∧ja gU (kids.reverse.map fun d=>(d,ind,fl)) us:=by
 obtain ⟨d,i0,b0⟩:=f;obtain ⟨k,s,n,hd⟩:=hk;dsimp only at hd;subst hd;obtain ⟨c0,c1,c2,c3,hdoc,rfl⟩:=hf;obtain ⟨y,es',he,r1,r2,r3,hy,hk'⟩:=hdoc;cases he;have hlen:=hk'.all.len;have hw:IntKind.wrap .i64 ((es'.length:Int) - 1)=(es'.length:Int) - 1:=wrap_i64 (by omega) (by have:=hy.1;omega);obtain ⟨st',v',us,hrun,hus,hfin,hne⟩:=zK ind fl hy hk' kids.length (.sl 6 ws .shut) (St.mk 0 0 Tr.leaf) ws (Vn _) (jq.shut (Vn _) 111 hx.1) hb;rw [← hlen] at hrun;rw [VV] at hus;have hsn: ∃x',oW 6 x' (ws++us)∧ ∀K:AV→Option AV,eZ st' 0 v' K=K x':=by
  have hne:=hne ⟨(by intro h;cases h),(by intro h;cases h)⟩;rcases hfin with ⟨_,hl,⟨rfl | rfl,_⟩ | rfl | ⟨j,rfl,_⟩⟩
  ·exact absurd rfl hne.1
  ·exact absurd rfl hne.2
  ·exact ⟨.sl 6 (ws++us) .shut,⟨hl,.inl rfl⟩,fun _=>rfl⟩
  ·exact ⟨.sl 6 (ws++us) .wide,⟨hl,.inr rfl⟩,fun _=>rfl⟩
 obtain ⟨x',hx',hfz⟩:=hsn;refine ⟨x',us,bh rfl ((QE _ _ _ _).trans ?_),hx',hus⟩;simp only [UB,az,ag,ai,ao,aE,ah,hy.af,hy.aJ,hx.sl.len,EJ hx,hy.len,aK,hw,hrun,aq,oneOf,hfz]
theorem gU.shape {f:iC} {w:AV} (h:gU f w): ∃k s n kids y es,f.1= .mk k s n kids∧w= .agg [.int .u8 k,.str s,.int .i64 n,y,.int .i64 f.2.1,.bool f.2.2]∧bu 4 y es∧bC kids es∧(0≤k∧k≤255)∧s.length≤9223372036854775807∧(-9223372036854775808≤n∧n≤9223372036854775807):=by
 obtain ⟨d,i0,b0⟩:=f;obtain ⟨c0,c1,c2,c3,hdoc,rfl⟩:=h;obtain ⟨k,s,n,kids⟩:=d;obtain ⟨y,es',he,r1,r2,r3,hy,hk'⟩:=hdoc;cases he;exact ⟨k,s,n,kids,_,es',rfl,rfl,hy,hk',r1,r2,r3⟩
theorem BI {f:iC} {w:AV} (h:gU f w):Fz 2 w∧VM.bare w=true∧strip w=w:=by
 obtain ⟨k,s,n,kids,y,es,_,rfl,hy,_⟩:=h.shape;refine ⟨KZ fun c hc=> ?_, ?_,rfl⟩
 ·simp only [Vv,List.not_mem_nil,or_false] at hc;rcases hc with rfl | rfl | rfl | rfl | rfl | rfl
  ·exact kF _ _
  ·exact B7 _
  ·exact kF _ _
  ·exact Gt hy
  ·exact kF _ _
  ·exact MT _
 ·simp only [za,bf,hy.bare];rfl
theorem PL {f:iC} {w x:AV} {ws:List AV} (hx:oW 6 x (ws++[w])) (hf:gU f w): ∃x',(aA vE).bare 96 [x]=some (.tup [w,x'])∧oW 6 x' ws:=by
 have hfz:=BI hf;have hl:(ws++[w]).length=ws.length+1:=by simp
 have hmax:=hx.1;have hw:IntKind.wrap .i64 (((ws.length+1:Nat):Int) - 1)=(ws.length:Int):=by rw [wrap_i64 (by omega) (by omega)];omega
 have hlen: ∀{β:Type} (K:Nat→Option β),fJ x K=K (ws.length+1):=fun K=>by rw [hx.sl.len,hl]
 have hidx:=fun (st:St) (K:AV→List Nat→Option AV)=>hx.sl.idx (k:=ws.length) (v:=w) (by simp) st K;obtain ⟨x',hx',hsl⟩:=E9 (β:=AV) hx (n:=ws.length) (by omega);have htake:(ws++[w]).take ws.length=ws:=by simp
 rw [htake] at hx';refine ⟨x',bh rfl ((P4 _).trans ?_),hx'⟩;have hb:VM.bare (.tup [w,x'])=true:=by simp only [Lk,bf,hfz.2.1,hx'.sl.bare];rfl
 have hf3:Fz 3 (.tup [w,x']):=Ri fun c hc=>by
  simp only [Vv,List.not_mem_nil,or_false] at hc;rcases hc with rfl | rfl
  ·exact hfz.1
  ·exact (Gt hx'.sl).mono (by omega)
 have hfr:=fun (st:St) (K:AV→Option AV)=>PB hf3 (by omega) hb st 0 K;obtain ⟨k,s,n,kids,y,es,_,rfl,hy,_⟩:=hf.shape;have ht:jd 6 true [.int .u8 k,.str s,.int .i64 n,y,.int .i64 f.2.1,.bool f.2.2]=some (.agg [.int .u8 k,.str s,.int .i64 n,y,.int .i64 f.2.1,.bool f.2.2]):=rfl;simp only [UM,hlen,aK,hw,hidx,AV.cells,cg,ht,aq,az,ag,ai,ao,aE,ah,hsl,hy.af,hfr]
theorem ja.snoc {α:Type} {R:α→AV→Prop} {l:List α} {a:α} {ws:List AV} (h:ja R (l++[a]) ws): ∃vs v,ws=vs++[v]∧ja R l vs∧R a v:=by
 induction l generalizing ws with
 | nil=>
  obtain ⟨v,vs,rfl,h1,h⟩:=h;have h:vs=[]:=h;subst h;exact ⟨[],v,rfl,rfl,h1⟩
 | cons b l ih=>
  obtain ⟨v,vs,rfl,h1,h⟩:=h;obtain ⟨us,u,rfl,h2,h3⟩:=ih h;exact ⟨v::us,u,rfl,⟨v,us,rfl,h1,h2⟩,h3⟩
theorem pt (ks:List Doc) (i:Int) (f:Bool) (l:List iC):(dB ks i f++l).reverse=l.reverse++ks.reverse.map fun d=>(d,i,f):=by
 simp [dB,List.map_reverse]
theorem Db {f:iC} {w x:AV} {ws:List AV} (hx:oW 6 x (ws++[w])) (hf:gU f w): ∃x',oW 6 x' ws∧ ∀{β:Type} (st:St) (K:Kv β),al (aA vE) 96 [x] st K=K (.tup [w,x']) st q0:=by
 obtain ⟨x',h1,h2⟩:=PL hx hf;exact ⟨x',h2,fun st K=>aY st K rfl (by simp only [Vu,VY,hx.sl.strip]) (by simp only [bf,hx.sl.bare];rfl) h1⟩
theorem ng {f:iC} {fv x:AV} {ws:List AV} (hx:oW 6 x ws) (hf:gU f fv) (ind:Int) (fl:Bool) (kids:List Doc) (hk: ∃k s n,f.1= .mk k s n kids) (hb:ws.length+kids.length≤1000000):
  ∃x' us,oW 6 x' (ws++us)∧ja gU (kids.reverse.map fun d=>(d,ind,fl)) us∧ ∀{β:Type} (st:St) (K:Kv β),al (aA vE) 97 [x,fv,.int .i64 ind,.bool fl] st K=K x' st q0:=by
 obtain ⟨x',us,h1,h2,h3⟩:=N8 hx hf ind fl kids hk hb;exact ⟨x',us,h2,h3,fun st K=>aY st K rfl (by simp only [Vu,VY,hx.sl.strip,(BI hf).2.2];rfl) (by simp only [bf,hx.sl.bare,(BI hf).2.1];rfl) h1⟩
theorem qI (w:Int) (hw: -1000000000≤w∧w≤1000000000) {p:Nat} {a0 a1 a2:AV}: ∀(n:Nat) (l:List iC) (x:AV) (ws:List AV) (c:Int) (b:Bool) (st:St),qc l≤n→n≤1000000→oW 6 x ws→ja gU l.reverse ws→xH l=true→0≤c→c+cI l+qc l≤1000000000→st.ro≤st.h→
  st.get p= .ok (.cells 108 [a0,a1,a2,.int .i64 w])→
  ∃k c' b' st',bn (kG (.mp p 0)) ([.bool b,.int .i64 c,x],st)=some (k,[.bool b',.int .i64 c'],st')∧(match k with | 0=>decide (c'≤w) | _+1=>b')=qX w n l c∧aX st st' (fun _=>False)
 | n,[],x,ws,c,b,st,hm,hn,hx,hl,hd,h0,hc,hro,hp=>by
  have hl:ws=[]:=hl;subst hl;refine ⟨0,c,b,st, ?_,by cases n <;> rfl,aX.refl _ _⟩;rw [bo];simp [kG,hx.sl.len]
 | 0,t::l,x,ws,c,b,st,hm,hn,hx,hl,hd,h0,hc,hro,hp=>by
  have:=tF t.1;simp only [qc] at hm;omega
 | n+1,(d,i,f)::l,x,ws,c,b,st,hm,hn,hx,hl,hd,h0,hc,hro,hp=>by
  rw [List.reverse_cons] at hl;obtain ⟨vs,v,rfl,hl2,ht⟩:=hl.snoc;have hlen:vs.length=l.length:=by rw [hl2.len,List.length_reverse]
  obtain ⟨x',hx',hpop⟩:=Db hx ht;obtain ⟨k,s,m,kids,y,es,e,rfl,hy,hk,r1,r2,r3⟩:=ht.shape;dsimp only at e;subst e;have hpos:((vs.length+1:Nat):Int) > 0:=by omega
  have hxl: ∀{β:Type} (K:Nat→Option β),fJ x K=K (vs.length+1):=fun K=>by rw [hx.sl.len];simp
  simp only [xH,nz,Vl] at hd;obtain ⟨⟨hok,hks⟩,hls⟩:=hd;simp only [qc,fV,cI,vY] at hm hc;have ldw0:=fun {β:Type} (K:AV→List Nat→Option β)=>bm hp 1 false 3 K;have ldw: ∀{β:Type} (K:AV→List Nat→Option β),ay 1 false (.mp p 3) st K=K (.int .i64 w) [p]:=fun K=>by rw [ldw0];rfl
  by_cases hcw:c > w
  ·refine ⟨0,c,b,st, ?_,by simp only [qX,if_pos hcw];exact WD (by omega),aX.refl _ _⟩;rw [bo];simp only [kG,ag,aE,ai,ah,hxl,ar,if_pos hpos,notNil,aV,bL,VC,ldw,aq,if_neg (show ¬ c≤w from by omega)]
  have hcw':c≤w:=by omega
  have hcwd:decide (c≤w)=true:=WJ hcw';obtain ⟨st2,hg,hkeep,hh,fx,hst⟩:=qm (O:=aA vE) (st:=st) (t:=111) (z:=6) (old:=[.int .u8 0,.str [],.int .i64 0,.aG,.int .i64 0,.bool false]) (cs:=[.int .u8 k,.str s,.int .i64 m,y,.int .i64 i,.bool f]) (.agg [.int .u8 k,.str s,.int .i64 m,y,.int .i64 i,.bool f]) rfl rfl hro;have hst1:=fun {β:Type} (K:Kv β)=>hst K;have hro2:st2.ro≤st2.h:=by rw [hkeep.ro,hh];omega
  have hp2:=hkeep.old p _ (fun h=>h) hp;have ht6:jd 6 true [.int .u8 k,.str s,.int .i64 m,y,.int .i64 i,.bool f]=some (.agg [.int .u8 k,.str s,.int .i64 m,y,.int .i64 i,.bool f]):=rfl;have ld:=fun {β:Type} (o:Nat) (K:AV→List Nat→Option β)=>bm hg 1 false o K;have ld6:=fun {β:Type} (K:AV→List Nat→Option β)=>bm hg 6 true 0 K;have hw1:IntKind.wrap .i64 (c+1)=c+1:=wrap_i64 (by omega) (by omega);by_cases k1:k=1
  ·have hval:bO s=true:=by
    subst k1;simp only [J6,if_true,Vl] at hok;exact hok.1.1.2
   have hch: ∀{β:Type} (K:Kv β),cK (aA vE) (dm (Prim.lib ik) [.str s]) st2 K=K (.int .i64 (chars s:Int)) st2 q0:=fun K=>by
    rw [← vK hval];exact eX (vb (by omega)) st2 K
   have hcl:=wL s;have hwc:IntKind.wrap .i64 (c+(chars s:Int))=c+chars s:=wrap_i64 (by omega) (by omega);obtain ⟨k',c',b',st',hrun,hres,hke⟩:=qI w hw n l x' vs (c+chars s) b st2 (by omega) (by omega) hx' hl2 hls (by omega) (by omega) hro2 hp2;refine ⟨k',c',b',st', ?_,by rw [hres];simp only [qX,if_neg hcw,if_pos k1],hkeep.trans hke⟩;rw [br (s':=([.bool b,.int .i64 (c+chars s),x'],st2))]
   ·exact hrun
   ·simp only [kG,ag,aE,ai,ah,hxl,ar,notNil,aV,bL,VC,ldw,bN,hpop,bw,aU,bj,az,ao,hy.af,hst,hst1,ld,VD,VK,aZ,aq,bP,bA,bW,aK,aF,aB,if_pos hpos,if_pos hcw',if_pos k1,hch,hwc]
  by_cases k2:k=2∨k=3
  ·by_cases hf:f=false
   ·refine ⟨1,c,true,st2, ?_,by simp only [qX,if_neg hcw,if_neg k1,if_pos k2,if_pos hf],hkeep⟩;rw [bo];subst hf;rcases k2 with rfl | rfl
    ·simp only [kG,ag,aE,ai,ah,hxl,ar,notNil,aV,bL,VC,ldw,bN,hpop,bw,aU,bj,az,ao,hy.af,hst,hst1,ld,VD,VK,aZ,aq,bP,bA,bW,aK,aF,aB,if_pos hpos,if_pos hcw',if_true,if_neg k1,Wg,Wo]
    ·simp only [kG,ag,aE,ai,ah,hxl,ar,notNil,aV,bL,VC,ldw,bN,hpop,bw,aU,bj,az,ao,hy.af,hst,hst1,ld,VD,VK,aZ,aq,bP,bA,bW,aK,aF,aB,if_pos hpos,if_pos hcw',if_true,if_neg k1,Wg,Wo,show ¬ (3:Int)=2 from by omega,if_false]
   ·have hf:f=true:=by simpa using hf
    subst hf;obtain ⟨k',c',b',st',hrun,hres,hke⟩:=qI w hw n l x' vs (if k=2 then c+1 else c) b st2 (by omega) (by omega) hx' hl2 hls (by split <;> omega) (by split <;> omega) hro2 hp2;refine ⟨k',c',b',st', ?_,by rw [hres];simp only [qX,if_neg hcw,if_neg k1,if_pos k2,if_neg hf],hkeep.trans hke⟩;rw [br (s':=([.bool b,.int .i64 (if k=2 then c+1 else c),x'],st2))]
    ·exact hrun
    ·rcases k2 with rfl | rfl
     ·simp only [kG,ag,aE,ai,ah,hxl,ar,notNil,aV,bL,VC,ldw,bN,hpop,bw,aU,bj,az,ao,hy.af,hst,hst1,ld,VD,VK,aZ,aq,bP,bA,bW,aK,aF,aB,if_pos hpos,if_pos hcw',if_true,if_neg k1,V9,Wo,hw1,show ((2:Int)==4)=false from rfl]
     ·simp only [kG,ag,aE,ai,ah,hxl,ar,notNil,aV,bL,VC,ldw,bN,hpop,bw,aU,bj,az,ao,hy.af,hst,hst1,ld,VD,VK,aZ,aq,bP,bA,bW,aK,aF,aB,if_pos hpos,if_pos hcw',if_true,if_neg k1,V9,Wo,show ¬ (3:Int)=2 from by omega,if_false,show ((3:Int)==4)=false from rfl]
  have k2':¬ k=2∧¬ k=3:=by omega
  have e2:(k==2)=false:=beq_false_of_ne k2'.1;have e3:(k==3)=false:=beq_false_of_ne k2'.2;by_cases k4:k=4
  ·refine ⟨1,c,true,st2, ?_,by simp only [qX,if_neg hcw,if_neg k1,if_neg k2,if_pos k4],hkeep⟩;rw [bo];subst k4;cases f <;> simp only [kG,ag,aE,ai,ah,hxl,ar,notNil,aV,bL,VC,ldw,bN,hpop,bw,aU,bj,az,ao,hy.af,hst,hst1,ld,VD,VK,aZ,aq,bP,bA,bW,aK,aF,aB,if_pos hpos,if_pos hcw',if_neg k1,if_neg k2'.1,if_neg k2'.2,if_true,V9,Wg,Wo]
  have e4:(k==4)=false:=beq_false_of_ne k4;have hlm:=CA l;have hkm:=wQ kids;obtain ⟨x2,us,hx2,hus,hpush⟩:=ng hx' ht i (f||k==6) kids ⟨k,s,m,rfl⟩ (by omega);obtain ⟨k',c',b',st',hrun,hres,hke⟩:=qI w hw n (dB kids i (f||k==6)++l) x2 (vs++us) c b st2 (by rw [eN];omega) (by omega) hx2 (by rw [pt];exact ja.append hl2 hus) (nM hks hls) h0 (by rw [gP,eN];omega) hro2 hp2;refine ⟨k',c',b',st', ?_,by rw [hres];simp only [qX,if_neg hcw,if_neg k1,if_neg k2,if_neg k4],hkeep.trans hke⟩;rw [br (s':=([.bool b,.int .i64 c,x2],st2))]
  ·exact hrun
  ·cases f with
   | true=>
    rw [Xd] at hpush;simp only [kG,ag,aE,ai,ah,hxl,ar,notNil,aV,bL,VC,ldw,bN,hpop,bw,aU,bj,az,ao,hy.af,hst,hst1,ld,VD,VK,aZ,aq,bP,bA,bW,aK,aF,aB,if_pos hpos,if_pos hcw',if_neg k1,if_neg k2'.1,if_neg k2'.2,e4,ld6,ht6,hpush]
   | false=>
    rw [Wu] at hpush;simp only [kG,ag,aE,ai,ah,hxl,ar,notNil,aV,bL,VC,ldw,bN,hpop,bw,aU,bj,az,ao,hy.af,hst,hst1,ld,VD,VK,aZ,aq,bP,bA,bW,aK,aF,aB,if_pos hpos,if_pos hcw',if_neg k1,if_neg k2'.1,if_neg k2'.2,e4,ld6,ht6,hpush]
theorem LU {l:List iC} {x:AV} {ws:List AV} {c w:Int} {p:Nat} {a0 a1:AV} {st:St} (hw: -1000000000≤w∧w≤1000000000) (hm:qc l≤1000000) (hx:oW 6 x ws) (hl:ja gU l.reverse ws) (hd:xH l=true) (h0:0≤c) (hc:c+cI l+qc l≤1000000000) (hro:st.ro≤st.h)
  (hp:st.get p= .ok (.cells 108 [a0,a1,.int .i64 c,.int .i64 w])):
  ∃st',aX st st' (fun _=>False)∧(aA vE).wide 99 [.mp p 0,x] st=some (.bool (qX w (qc l) l c),st'):=by
 obtain ⟨k,c',b',st',hrun,hres,hke⟩:=qI w hw (qc l) l x ws c false st (Vn _) hm hx hl hd h0 hc hro hp;refine ⟨st',hke,gG ((Pm _ _ _).trans ?_)⟩;have hp':=hke.old p _ (fun h=>h) hp;have ld:=fun {β:Type} (o:Nat) (K:AV→List Nat→Option β)=>bm hp 1 false o K;have ld':=fun {β:Type} (o:Nat) (K:AV→List Nat→Option β)=>bm hp' 1 false o K;cases k with
 | zero=>simp only [Uk,notNil,aV,bL,VC,ld,VK,VD,aZ,aq,ai,hrun,ag,aE,ah,jJ,ld'];rw [← hres]
 | succ k=>simp only [Uk,notNil,aV,bL,VC,ld,VK,VD,aZ,aq,ai,hrun,ag,aE,ah,JE,ld'];rw [← hres]
def gC (st:St) (p:Nat) (c w:Int) (out:List UInt8):Prop:=O9 st 108 5 p [] [.int .i64 c,.int .i64 w] out
theorem gC.cells {st:St} {p:Nat} {c w:Int} {out:List UInt8} (h:gC st p c w out): ∃a0 a1,st.get p= .ok (.cells 108 [a0,a1,.int .i64 c,.int .i64 w])∧st.ro≤p:=by
 obtain ⟨a0,a1,h1,_,_,h4⟩:=h;exact ⟨a0,a1,h1,h4⟩
theorem gC.set {st:St} {p:Nat} {c w:Int} {out:List UInt8} (h:gC st p c w out) (c':Int):
  ∃st',gC st' p c' w out∧gM st st' 5 p∧ ∃fx,∀{β:Type} (K:Kv β),aD (aA vE) 1 (.mp p 2) (.int .i64 c') [.int .i64 c'] st K=K VM.undef st' fx:=by
 obtain ⟨a0,a1,h1,h2,h3,h4⟩:=h;refine ⟨st.put p (.cells 108 [a0,a1,.int .i64 c',.int .i64 w]),⟨a0,a1,St.aS (St.cC.1 h1).1,h2,h3.put h1,h4⟩,gM.put,⟨[p],.wrote p (.cells 108 [a0,a1,.int .i64 c',.int .i64 w])⟩,fun K=> ?_⟩;exact (eF (O:=aA vE) (z:=1) (off:=2) (v:= .int .i64 c') (cs:=[.int .i64 c']) h1 rfl (by simp) h4 K).trans rfl
theorem vD {st:St} {p:Nat} {c w:Int} {out s:List UInt8} (h:gC st p c w out) (hlen:out.length+s.length≤70368744177664) (hro:st.ro≤st.h):
  ∃st',gC st' p c w (out++s)∧gM st st' 5 p∧ ∃fx,∀{β:Type} (K:Kv β),al (aA vE) 154 [.mp p 0,.str s] st K=K (.tup [.int .i64 (s.length:Int),.nili]) st' fx:=by
 obtain ⟨st',h1,h2,h3⟩:=Jc (O:=aA vE) (L:=[(105,2,0),(106,2,0),(107,4,0),(108,4,0)]) h rfl hlen hro;exact ⟨st',h2,h3,_,fun K=>fR K rfl rfl (gG ((Nc _ _ _).trans h1))⟩
theorem y9 {st:St} {p:Nat} {c w:Int} {out s:List UInt8} (h:gC st p c w out) (hv:bO s=true) (hlen:out.length+s.length≤70368744177664) (hro:st.ro≤st.h) (h0:0≤c) (hc:c≤1000000000000):
  ∃st',gC st' p (c+chars s) w (out++s)∧gM st st' 5 p∧ ∃fx,∀{β:Type} (K:Kv β),al (aA vE) 94 [.mp p 0,.str s] st K=K (.tup []) st' fx:=by
 obtain ⟨st2,h2,k2,fx,hw⟩:=vD h hlen hro;obtain ⟨a0,a1,hg,hr⟩:=h2.cells;obtain ⟨st3,h3,k3,fx3,hs⟩:=h2.set (c+chars s);have hcl:=wL s;have ld:=fun {β:Type} (K:AV→List Nat→Option β)=>bm hg 1 false 2 K;have hch: ∀{β:Type} (K:Kv β),cK (aA vE) (dm (Prim.lib ik) [.str s]) st2 K=K (.int .i64 (chars s:Int)) st2 q0:=fun K=>by
  rw [← vK hv];exact eX (vb (by omega)) st2 K
 have hwc:IntKind.wrap .i64 (c+(chars s:Int))=c+chars s:=wrap_i64 (by omega) (by omega);refine ⟨st3,h3,k2.trans k3,_,fun K=>fR K rfl rfl (gG ((Qi _ _ _).trans ?_))⟩;simp only [UL,ao,notNil,aV,bL,VC,hw,ld,VK,VD,aZ,aq,ai,hch,dL,V6,aK,hwc,hs]
theorem Pl {st:St} {p:Nat} {c w:Int} {out:List UInt8} (h:gC st p c w out) (ind:Nat) (hi:ind≤10000000) (hlen:out.length+(1+ind)≤70368744177664) (hro:st.ro≤st.h):
  ∃st',gC st' p (ind:Int) w (out++10::List.replicate ind 32)∧gM st st' 5 p∧ ∃fx,∀{β:Type} (K:Kv β),al (aA vE) 95 [.mp p 0,.int .i64 (ind:Int)] st K=K (.tup []) st' fx:=by
 obtain ⟨st2,h2,k2,fx,hw⟩:=vD (s:=10::List.replicate ind 32) h (by simp only [Vh,W2];omega) hro;obtain ⟨st3,h3,k3,fx3,hs⟩:=h2.set (ind:Int);have hrep: ∀{β:Type} (K:Kv β),cK (aA vE) (dm (Prim.lib jR) [.str [32],.int .i64 (ind:Int)]) st K=K (.str (List.replicate ind 32)) st q0:=fun K=>by
  rw [← repeatL_one];exact eX (CF (by simp only [Wj];omega) (by omega)) st K
 have hb:Nat.ble (1+(List.replicate ind (32:UInt8)).length) 9223372036854775807=true:=VS (by rw [W2];omega);refine ⟨st3,h3,k2.trans k3,_,fun K=>fR K rfl rfl (gG ((Q7 _ _ _).trans ?_))⟩;simp only [UN,ai,notNil,aV,bL,VC,hrep,ao,dL,V6,hb,aK,hw,hs]
def O7 (st:St) (p:Nat) (c w:Int) (out:List UInt8):Prop:=gC st p c w out∧out.length≤70000000000000
theorem iJ (w:Int) (hw: -1000000000≤w∧w≤1000000000) {p:Nat}: ∀(n:Nat) (l:List iC) (x:AV) (ws:List AV) (c I:Int) (out:List UInt8) (st:St),qc l≤n→n≤1000000→oW 6 x ws→ja gU l.reverse ws→xH l=true→0≤c→c+cI l+qc l≤1000000000→0≤I→SZ I l→(I+Eb l≤10000000∧cI l≤500000000)→
  out.length+cI l+10000002 * qc l≤70000000000000→st.ro≤st.h→gC st p c w out→
  ∃st' c',bn (gD (.mp p 0)) ([x],st)=some (0,[],st')∧O7 st' p c' w (out++jm w n l c)
 | n,[],x,ws,c,I,out,st,hm,hn,hx,hl,hd,h0,hc,hI0,hI,hI2,ho,hro,hp=>by
  have hl:ws=[]:=hl;subst hl;have e:jm w n [] c=[]:=by cases n <;> rfl
  refine ⟨st,c, ?_,by rw [e,VH];exact ⟨hp,by omega⟩⟩;rw [bo];simp [gD,hx.sl.len]
 | 0,t::l,x,ws,c,I,out,st,hm,hn,hx,hl,hd,h0,hc,hI0,hI,hI2,ho,hro,hp=>by
  have:=tF t.1;simp only [qc] at hm;omega
 | n+1,(d,i,f)::l,x,ws,c,I,out,st,hm,hn,hx,hl,hd,h0,hc,hI0,hI,hI2,ho,hro,hp=>by
  rw [List.reverse_cons] at hl;obtain ⟨vs,v,rfl,hl2,ht⟩:=hl.snoc;have hlen:vs.length=l.length:=by rw [hl2.len,List.length_reverse]
  obtain ⟨x',hx',hpop⟩:=Db hx ht;obtain ⟨k,s,m,kids,y,es,e,rfl,hy,hk,r1,r2,r3⟩:=ht.shape;dsimp only at e;subst e;have hpos:((vs.length+1:Nat):Int) > 0:=by omega
  have hxl: ∀{β:Type} (K:Nat→Option β),fJ x K=K (vs.length+1):=fun K=>by rw [hx.sl.len];simp
  simp only [xH,nz,Vl] at hd;obtain ⟨⟨hok,hks⟩,hls⟩:=hd;have hnok:=Mk hok;simp only [Qa,V2,Vl,V4,V1] at hnok;have hIi:=hI _ (Vp);dsimp only at hIi;have hIl:SZ I l:=fun t ht=>hI t (Vy _ ht);simp only [qc,fV,cI,vY,Eb,DY] at hm hc hI2 ho;obtain ⟨st2,hg,hkeep,hh,fx,hst⟩:=qm (O:=aA vE) (st:=st) (t:=111) (z:=6) (old:=[.int .u8 0,.str [],.int .i64 0,.aG,.int .i64 0,.bool false]) (cs:=[.int .u8 k,.str s,.int .i64 m,y,.int .i64 i,.bool f]) (.agg [.int .u8 k,.str s,.int .i64 m,y,.int .i64 i,.bool f]) rfl rfl hro;have hst1:=fun {β:Type} (K:Kv β)=>hst K;have hro2:st2.ro≤st2.h:=by rw [hkeep.ro,hh];omega
  have hp2:gC st2 p c w out:=hp.Dr hkeep;obtain ⟨b0,b1,hpc,_⟩:=hp2.cells;have ht6:jd 6 true [.int .u8 k,.str s,.int .i64 m,y,.int .i64 i,.bool f]=some (.agg [.int .u8 k,.str s,.int .i64 m,y,.int .i64 i,.bool f]):=rfl;have ht4:jd 4 true [.int .u8 k,.str s,.int .i64 m,y,.int .i64 i,.bool f]=some (.agg [.int .u8 k,.str s,.int .i64 m,y]):=rfl;have ld:=fun {β:Type} (o:Nat) (K:AV→List Nat→Option β)=>bm hg 1 false o K;have ld6:=fun {β:Type} (K:AV→List Nat→Option β)=>bm hg 6 true 0 K;have ld4:=fun {β:Type} (K:AV→List Nat→Option β)=>bm hg 4 true 0 K;have hlm:=CA l;have hkm:=wQ kids;by_cases k1:k=1
  ·have hval:bO s=true:=by
    subst k1;simp only [J6,if_true,Vl] at hok;exact hok.1.1.2
   have hcl:=wL s;obtain ⟨st3,hp3,hk3,fx3,htext⟩:=y9 (s:=s) hp2 hval (by omega) hro2 h0 (by omega);obtain ⟨st',c',hrun,hW⟩:=iJ w hw n l x' vs (c+chars s) I (out++s) st3 (by omega) (by omega) hx' hl2 hls (by omega) (by omega) hI0 hIl (by omega) (by rw [Vg];omega) (by have:=hk3.ro;have:=hk3.h;omega) hp3;refine ⟨st',c', ?_,by simp only [jm,if_pos k1];rw [← Vx];exact hW⟩;rw [br (s':=([x'],st3))]
   ·exact hrun
   ·simp only [gD,ag,aE,ai,ah,hxl,ar,if_pos hpos,notNil,aV,bL,VC,bN,hpop,bw,aU,bj,az,ao,hy.af,hst,hst1,ld,VD,VK,aZ,aq,bP,bA,bW,aK,aF,aB,if_pos k1,htext]
  by_cases k5:k=5
  ·have hm5:0≤m∧m≤200:=by omega
   obtain ⟨x2,us,hx2,hus,hpush⟩:=ng hx' ht (i+m) f kids ⟨k,s,m,rfl⟩ (by omega);have hwi:IntKind.wrap .i64 (i+m)=i+m:=wrap_i64 (by omega) (by omega);obtain ⟨st',c',hrun,hW⟩:=iJ w hw n (dB kids (i+m) f++l) x2 (vs++us) c (I+m) out st2 (by rw [eN];omega) (by omega) hx2 (by rw [pt];exact ja.append hl2 hus) (nM hks hls) h0 (by simp only [gP,eN,iW];omega) (by omega) (wZ hIl (by omega) (by omega) (by omega)) (by simp only [gP,eN,iW];omega) (by simp only [gP,eN,iW];omega) hro2 hp2;refine ⟨st',c', ?_,by simp only [jm,if_neg k1,if_pos k5];exact hW⟩;rw [br (s':=([x2],st2))]
   ·exact hrun
   ·subst k5;simp only [gD,ag,aE,ai,ah,hxl,ar,if_pos hpos,notNil,aV,bL,VC,bN,hpop,bw,aU,bj,az,ao,hy.af,hst,hst1,ld,VD,VK,aZ,aq,bP,bA,bW,aK,aF,aB,if_neg k1,show ¬ (5:Int)=2 from by omega,show ¬ (5:Int)=3 from by omega,show ¬ (5:Int)=6 from by omega,show ((5:Int)==4)=false from rfl,if_false,ld6,ht6,hwi,hpush]
  by_cases k6:k=6
  ·have hdoc:cL (.mk k s m kids) (.agg [.int .u8 k,.str s,.int .i64 m,y]):=⟨y,es,rfl,r1,r2,r3,hy,hk⟩;obtain ⟨x3,us3,hx3,hus3,hpush3⟩:=ng hx' ht i true kids ⟨k,s,m,rfl⟩ (by omega);have hmk:=eN kids i true l;have htk:=gP kids i true l;obtain ⟨st3,hk3,hfits⟩:=LU (l:=dB kids i true++l) hw (by omega) hx3 (by rw [pt];exact ja.append hl2 hus3) (nM hks hls) h0 (by omega) hro2 hpc;have hfits: ∀{β:Type} (K:Kv β),al (aA vE) 99 [.mp p 0,x3] st2 K=K (.bool (qX w (qc (dB kids i true++l)) (dB kids i true++l) c)) st3 ⟨[],.all st2 st3⟩:=fun K=>fR K rfl rfl hfits;have hhard: ∀{β:Type} (K:Kv β),al (aA vE) 98 [.agg [.int .u8 k,.str s,.int .i64 m,y]] st2 K=K (.bool (pq (.mk k s m kids))) st2 q0:=fun K=>GF st2 rfl hdoc.bare (Ba _ _ hdoc) K;have hlay:jm w (n+1) ((.mk k s m kids,i,f)::l) c=jm w n (dB kids i (f||(!pq (.mk k s m kids)&&qX w (qc (dB kids i true++l)) (dB kids i true++l) c))++l) c:=by
    simp only [jm,if_neg k1,if_neg k5,if_pos k6]
   subst k6;have go: ∀(fl:Bool) (x2:AV) (us:List AV) (st4:St),oW 6 x2 (vs++us)→ja gU (kids.reverse.map fun d=>(d,i,fl)) us→st4.ro≤st4.h→gC st4 p c w out→gD (.mp p 0) ([x],st)=some (.inl ([x2],st4))→
     (f||(!pq (.mk 6 s m kids)&&qX w (qc (dB kids i true++l)) (dB kids i true++l) c))=fl→
     ∃st' c',bn (gD (.mp p 0)) ([x],st)=some (0,[],st')∧O7 st' p c' w (out++jm w (n+1) ((.mk 6 s m kids,i,f)::l) c):=by
    intro fl x2 us st4 hx2 hus hro4 hp4 hstep hfl;obtain ⟨st',c',hrun,hW⟩:=iJ w hw n (dB kids i fl++l) x2 (vs++us) c I out st4 (by rw [eN];omega) (by omega) hx2 (by rw [pt];exact ja.append hl2 hus) (nM hks hls) h0 (by simp only [gP,eN,iW];omega) hI0 (wZ hIl (by omega) (by omega) (by omega)) (by simp only [gP,eN,iW];omega) (by simp only [gP,eN,iW];omega) hro4 hp4;refine ⟨st',c', ?_,by rw [hlay,hfl];exact hW⟩;rw [br hstep];exact hrun
   cases hf:f with
   | true=>
    subst hf;refine go true x3 us3 st2 hx3 hus3 hro2 hp2 ?_ (Xd _);simp only [gD,ag,aE,ai,ah,hxl,ar,if_pos hpos,notNil,aV,bL,VC,bN,hpop,bw,aU,bj,az,ao,hy.af,hst,hst1,ld,VD,VK,aZ,aq,bP,bA,bW,aK,aF,aB,if_neg k1,show ¬ (6:Int)=2 from by omega,show ¬ (6:Int)=3 from by omega,show ((6:Int)==4)=false from rfl,if_false,if_true,ld6,ht6,hpush3]
   | false=>
    subst hf;obtain ⟨x2,us,hx2,hus,hpush⟩:=ng hx' ht i false kids ⟨6,s,m,rfl⟩ (by omega);cases hh6:pq (.mk 6 s m kids) with
    | true=>
     rw [hh6] at hhard;refine go false x2 us st2 hx2 hus hro2 hp2 ?_ (by rw [hh6];rfl);simp only [gD,ag,aE,ai,ah,hxl,ar,if_pos hpos,notNil,aV,bL,VC,bN,hpop,bw,aU,bj,az,ao,hy.af,hst,hst1,ld,VD,VK,aZ,aq,bP,bA,bW,aK,aF,aB,if_neg k1,show ¬ (6:Int)=2 from by omega,show ¬ (6:Int)=3 from by omega,show ((6:Int)==4)=false from rfl,if_false,if_true,ld6,ht6,ld4,ht4,hpush3,hhard,V9,hpush]
    | false=>
     rw [hh6] at hhard;have hro3:st3.ro≤st3.h:=by have:=hk3.ro;have:=hk3.h;omega
     have hp3:gC st3 p c w out:=hp2.Dr hk3;have hg3:=hk3.old _ _ (fun h=>h) hg;have ld3:=fun {β:Type} (o:Nat) (K:AV→List Nat→Option β)=>bm hg3 1 false o K;have ld63:=fun {β:Type} (K:AV→List Nat→Option β)=>bm hg3 6 true 0 K;cases hff:qX w (qc (dB kids i true++l)) (dB kids i true++l) c with
     | true=>
      rw [hff] at hfits;refine go true x3 us3 st3 hx3 hus3 hro3 hp3 ?_ (by rw [hh6,hff];rfl);simp only [gD,ag,aE,ai,ah,hxl,ar,if_pos hpos,notNil,aV,bL,VC,bN,hpop,bw,aU,bj,az,ao,hy.af,hst,hst1,ld,VD,VK,aZ,aq,bP,bA,bW,aK,aF,aB,if_neg k1,show ¬ (6:Int)=2 from by omega,show ¬ (6:Int)=3 from by omega,show ((6:Int)==4)=false from rfl,if_false,if_true,ld6,ht6,ld4,ht4,hpush3,hhard,Wg,hfits]
     | false=>
      rw [hff] at hfits;refine go false x2 us st3 hx2 hus hro3 hp3 ?_ (by rw [hh6,hff];rfl);simp only [gD,ag,aE,ai,ah,hxl,ar,if_pos hpos,notNil,aV,bL,VC,bN,hpop,bw,aU,bj,az,ao,hy.af,hst,hst1,ld,VD,VK,aZ,aq,bP,bA,bW,aK,aF,aB,if_neg k1,show ¬ (6:Int)=2 from by omega,show ¬ (6:Int)=3 from by omega,show ((6:Int)==4)=false from rfl,if_false,if_true,ld6,ht6,ld4,ht4,hpush3,hhard,Wg,hfits,ld63,ld3,hpush]
  by_cases k7:k=7
  ·have hm7:m=0:=by omega
   obtain ⟨x2,us,hx2,hus,hpush⟩:=ng hx' ht i f kids ⟨k,s,m,rfl⟩ (by omega);have hwi:IntKind.wrap .i64 (i+m)=i:=by rw [hm7,Int.add_zero];exact wrap_i64 (by omega) (by omega)
   obtain ⟨st',c',hrun,hW⟩:=iJ w hw n (dB kids i f++l) x2 (vs++us) c I out st2 (by rw [eN];omega) (by omega) hx2 (by rw [pt];exact ja.append hl2 hus) (nM hks hls) h0 (by simp only [gP,eN,iW];omega) hI0 (wZ hIl (by omega) (by omega) (by omega)) (by simp only [gP,eN,iW];omega) (by simp only [gP,eN,iW];omega) hro2 hp2;refine ⟨st',c', ?_,by simp only [jm,if_neg k1,if_neg k5,if_neg k6,if_pos k7];exact hW⟩;rw [br (s':=([x2],st2))]
   ·exact hrun
   ·subst k7;simp only [gD,ag,aE,ai,ah,hxl,ar,if_pos hpos,notNil,aV,bL,VC,bN,hpop,bw,aU,bj,az,ao,hy.af,hst,hst1,ld,VD,VK,aZ,aq,bP,bA,bW,aK,aF,aB,if_neg k1,show ¬ (7:Int)=2 from by omega,show ¬ (7:Int)=3 from by omega,show ¬ (7:Int)=6 from by omega,show ((7:Int)==4)=false from rfl,if_false,ld6,ht6,hwi,hpush]
  by_cases hf:f=true∧k≠4
  ·obtain ⟨rfl,k4⟩:=hf;have e4:(k==4)=false:=beq_false_of_ne k4;by_cases k2:k=2
   ·obtain ⟨st3,hp3,hk3,fx3,htext⟩:=y9 (s:=[32]) hp2 rfl (by simp only [Wj];omega) hro2 h0 (by omega);obtain ⟨st',c',hrun,hW⟩:=iJ w hw n l x' vs (c+1) I (out++[32]) st3 (by omega) (by omega) hx' hl2 hls (by omega) (by omega) hI0 hIl (by omega) (by rw [Vg,Wj];omega) (by have:=hk3.ro;have:=hk3.h;omega) hp3;refine ⟨st',c', ?_,by simp only [jm,if_neg k1,if_neg k5,if_neg k6,if_neg k7,if_pos k2,if_pos (show True∧k≠4 from ⟨trivial,k4⟩)];rw [Vx] at hW;exact hW⟩;rw [br (s':=([x'],st3))]
    ·exact hrun
    ·subst k2;simp only [gD,ag,aE,ai,ah,hxl,ar,if_pos hpos,notNil,aV,bL,VC,bN,hpop,bw,aU,bj,az,ao,hy.af,hst,hst1,ld,VD,VK,aZ,aq,bP,bA,bW,aK,aF,aB,if_neg k1,if_true,Wo,V9,show ((2:Int)==4)=false from rfl,htext]
   ·have k3:k=3:=by omega
    obtain ⟨st',c',hrun,hW⟩:=iJ w hw n l x' vs c I out st2 (by omega) (by omega) hx' hl2 hls (by omega) (by omega) hI0 hIl (by omega) (by omega) hro2 hp2;refine ⟨st',c', ?_,by simp only [jm,if_neg k1,if_neg k5,if_neg k6,if_neg k7,if_neg k2,if_pos (show True∧k≠4 from ⟨trivial,k4⟩)];exact hW⟩;rw [br (s':=([x'],st2))]
    ·exact hrun
    ·subst k3;simp only [gD,ag,aE,ai,ah,hxl,ar,if_pos hpos,notNil,aV,bL,VC,bN,hpop,bw,aU,bj,az,ao,hy.af,hst,hst1,ld,VD,VK,aZ,aq,bP,bA,bW,aK,aF,aB,if_neg k1,if_true,Wo,V9,if_neg k2,if_false,show ((3:Int)==4)=false from rfl]
  ·obtain ⟨ind,rfl⟩:=Int.eq_ofNat_of_zero_le hIi.1;obtain ⟨st3,hp3,hk3,fx3,hend⟩:=Pl hp2 ind (by omega) (by omega) hro2;obtain ⟨st',c',hrun,hW⟩:=iJ w hw n l x' vs (ind:Int) I (out++10::List.replicate ind 32) st3 (by omega) (by omega) hx' hl2 hls (by omega) (by omega) hI0 hIl (by omega) (by simp only [Vg,Vh,W2];omega) (by have:=hk3.ro;have:=hk3.h;omega) hp3;refine ⟨st',c', ?_,by simp only [jm,if_neg k1,if_neg k5,if_neg k6,if_neg k7,if_neg hf];rw [Vx] at hW;exact hW⟩;rw [br (s':=([x'],st3))]
   ·exact hrun
   ·have kk:k=2∨k=3∨k=4:=by omega
    cases hff:f with
    | false=>
     subst hff;rcases kk with rfl | rfl | rfl
     ·simp only [gD,ag,aE,ai,ah,hxl,ar,if_pos hpos,notNil,aV,bL,VC,bN,hpop,bw,aU,bj,az,ao,hy.af,hst,hst1,ld,VD,VK,aZ,aq,bP,bA,bW,aK,aF,aB,if_neg k1,if_true,Wo,Wg,hend]
     ·simp only [gD,ag,aE,ai,ah,hxl,ar,if_pos hpos,notNil,aV,bL,VC,bN,hpop,bw,aU,bj,az,ao,hy.af,hst,hst1,ld,VD,VK,aZ,aq,bP,bA,bW,aK,aF,aB,if_neg k1,if_true,Wo,Wg,show ¬ (3:Int)=2 from by omega,if_false,hend]
     ·simp only [gD,ag,aE,ai,ah,hxl,ar,if_pos hpos,notNil,aV,bL,VC,bN,hpop,bw,aU,bj,az,ao,hy.af,hst,hst1,ld,VD,VK,aZ,aq,bP,bA,bW,aK,aF,aB,if_neg k1,if_true,Wo,Wg,show ¬ (4:Int)=2 from by omega,show ¬ (4:Int)=3 from by omega,if_false,hend]
    | true=>
     have k4:k=4:=by
      rw [hff] at hf;simpa using hf
     subst hff k4;simp only [gD,ag,aE,ai,ah,hxl,ar,if_pos hpos,notNil,aV,bL,VC,bN,hpop,bw,aU,bj,az,ao,hy.af,hst,hst1,ld,VD,VK,aZ,aq,bP,bA,bW,aK,aF,aB,if_neg k1,if_true,Wo,V9,show ¬ (4:Int)=2 from by omega,show ¬ (4:Int)=3 from by omega,if_false,hend]
theorem MO {l:List iC} {x:AV} {ws:List AV} {w I:Int} {p:Nat} {st:St} (hw: -1000000000≤w∧w≤1000000000) (hm:qc l≤1000000) (hx:oW 6 x ws) (hl:ja gU l.reverse ws) (hn:xH l=true) (hI0:0≤I) (hI:SZ I l) (hI2:(I+Eb l≤10000000∧cI l≤500000000)) (hro:st.ro≤st.h) (hp:gC st p 0 w []):
  ∃st',(aA vE).wide 54 [.mp p 0,x] st=some (.str (jm w (qc l) l 0),st'):=by
 obtain ⟨st',c',hrun,hW⟩:=iJ w hw (qc l) l x ws 0 I [] st (Vn _) (by omega) hx hl hn (by omega) (by omega) hI0 hI hI2 (by simp only [Vj];omega) hro hp;rw [Vs] at hW;obtain ⟨hW,hL⟩:=hW;have hlen:(jm w (qc l) l 0).length < 4611686018427387904:=by omega
 obtain ⟨fx,hbs⟩:=FV (O:=aA vE) (β:=AV×St) hW hlen (fun v st _=>eU v fun l=>some (.str l,st));refine ⟨st',gG ((Qx _ _ _).trans ?_)⟩;simp only [UY,hrun,aq,ah,notNil,aV,bL,VC];exact hbs
theorem wX {kids:List Doc} {es:List AV} (h:es.length=kids.length):es=[]↔kids.isEmpty=true:=by
 cases kids with
 | nil=>simp only [Vj] at h;simp [V8 h]
 | cons d l=>
  simp only [List.isEmpty_cons];constructor
  ·rintro rfl;simp at h
  ·intro h;cases h
theorem Hd: ∀(ds:List Doc),(!(ds.any fun d=> !nz d))=pf ds
 | []=>rfl
 | d::ds=>by
  simp only [WH,pf, ← Hd ds];cases nz d <;> simp
theorem Gr {d:Doc}: ∀{ds:List Doc},d∈ds→vY d≤nv ds
 | _:: _,h=>by
  rcases Vv.1 h with rfl | h
  ·simp only [nv];omega
  ·have:=Gr h;simp only [nv];omega
theorem Er (d:Doc) (v:AV) (hv:cL d v) (hb:vY d≤1000000000):(aA vE).bare 53 [v]=some (.bool (nz d)):=by
 match d with
 | .mk k s n kids=>
  obtain ⟨x,es,rfl,r1,r2,r3,hx,hes⟩:=hv;simp only [vY] at hb;refine bh rfl ((Rh _).trans ?_);have hc:=fun (st:St) (K:Kv dq)=>contains_of (f:=93) rfl rfl (fun d=> !nz d) hx hes (fun d hd v hv=>by
   have hrec:=Er d v hv (by have:=Gr hd;omega);have hcall:=fun K=>GF (β:=AV) (f:=53) (St.mk 0 0 Tr.leaf) rfl hv.bare hrec K;refine bh rfl ((Qz _).trans ?_);obtain ⟨k',s',n',kids'⟩:=d;obtain ⟨y,es',rfl,_,_,_,hy,_⟩:=hv;simp only [UF,az,ag,ai,ao,ah,hy.af,hy.aJ,hcall,aE]) st K
  have hval: ∀{β:Type} (st:St) (K:Kv β),cK (aA vE) (dm (Prim.lib iT) [.str s]) st K=K (.bool (bO s)) st q0:=fun st K=>eX (u5 (by omega)) st K;have hco: ∀{β:Type} (c:UInt8) (st:St) (K:Kv β),cK (aA vE) (dm (Prim.lib fE) [.str s,.str [c]]) st K=K (.bool (s.any fun b=>b==c)) st q0:=fun c st K=>eX (wJ s c) st K;have hlen:=hes.all.len;have hem:=wX hlen;have hfin: ∀(b:Bool) (st:St) (K:dq→Option AV),aH (bD b (al (aA vE) 92 [x,AV.fn (Fn.func 93) [] []] st fun v72 st73 _x=>cJ v72 fun b75=>some ([AV.bool !b75],st73)) (some ([AV.bool false],st))) K=K ([.bool (b&&pf kids)],st):=fun b st K=>by
   cases b with
   | false=>rfl
   | true=>
    rw [aF,hc,aE,aq,Hd];rfl
  simp only [nz,J6];by_cases k1:k=1
  ·subst k1;by_cases n0:n=0
   ·subst n0;by_cases he:es=[]
    ·have hke:kids.isEmpty=true:=hem.1 he;cases hv:bO s with
     | false=>simp [Fa,az,ag,ai,ao,ah,hx.af,hx.aJ,hx.len,he,hval,hco,hfin,hke,hv]
     | true=>
      cases h10:s.any fun b=>b==10 with
      | false=>simp [Fa,az,ag,ai,ao,ah,hx.af,hx.aJ,hx.len,he,hval,hco,hfin,hke,hv,h10]
      | true=>simp [Fa,az,ag,ai,ao,ah,hx.af,hx.aJ,hx.len,he,hval,hco,hfin,hke,hv,h10]
    ·have hke:kids.isEmpty=false:=by cases h:kids.isEmpty <;> simp_all
     simp [Fa,az,ag,ai,ao,ah,hx.af,hx.aJ,hx.len,he,hval,hco,hfin,hke]
   ·simp [Fa,az,ag,ai,ao,ah,hx.af,hx.aJ,hx.len,n0,hval,hco,hfin]
  by_cases k2:k=2∨k=3∨k=4
  ·by_cases n0:n=0
   ·subst n0;by_cases he:es=[]
    ·have hke:kids.isEmpty=true:=hem.1 he;rcases k2 with rfl | rfl | rfl <;> simp [Fa,az,ag,ai,ao,ah,hx.af,hx.aJ,hx.len,he,hfin,hke]
    ·have hke:kids.isEmpty=false:=by cases h:kids.isEmpty <;> simp_all
     rcases k2 with rfl | rfl | rfl <;> simp [Fa,az,ag,ai,ao,ah,hx.af,hx.aJ,hx.len,he,hfin,hke]
   ·rcases k2 with rfl | rfl | rfl <;> simp [Fa,az,ag,ai,ao,ah,hx.af,hx.aJ,hx.len,n0,hfin]
  have k2':¬ k=2∧¬ k=3∧¬ k=4:=by omega
  by_cases k5:k=5
  ·subst k5;by_cases h0:n≥0
   ·have h0':0≤n:=h0;by_cases h2:n≤200
    ·simp [Fa,az,ag,ai,ao,ah,hx.af,hx.aJ,hx.len,hfin,h0',h2]
    ·simp [Fa,az,ag,ai,ao,ah,hx.af,hx.aJ,hx.len,hfin,h0',h2]
   ·have h0':¬ 0≤n:=h0;simp [Fa,az,ag,ai,ao,ah,hx.af,hx.aJ,hx.len,hfin,h0']
  by_cases k6:k=6∨k=7
  ·by_cases n0:n=0
   ·subst n0;rcases k6 with rfl | rfl <;> simp [Fa,az,ag,ai,ao,ah,hx.af,hx.aJ,hx.len,hfin]
   ·rcases k6 with rfl | rfl <;> simp [Fa,az,ag,ai,ao,ah,hx.af,hx.aJ,hx.len,hfin,n0]
  have k6':¬ k=6∧¬ k=7:=by omega
  simp [Fa,az,ag,ai,ao,ah,hx.af,hx.aJ,hx.len,hfin,k1,k2',k5,k6']
termination_by SizeOf.sizeOf d
decreasing_by
 have:=zk hd
 simp_wf
 omega
theorem Oy {d:Doc} {v:AV} (hv:cL d v) (f:Bool): ∃k s n x,v= .agg [.int .u8 k,.str s,.int .i64 n,x]∧gU (d,0,f) (.agg [.int .u8 k,.str s,.int .i64 n,x,.int .i64 0,.bool f])∧one x=true∧(∀{β:Type} (K:AV→Option β),aJ x K=K x):=by
 obtain ⟨k,s,n,kids⟩:=d;have hv':=hv;obtain ⟨x,es,rfl,r1,r2,r3,hx,hes⟩:=hv;exact ⟨k,s,n,x,rfl,⟨_,_,_,_,hv',rfl⟩,hx.one,fun K=>hx.aJ K⟩
theorem HE {d:Doc} {v:AV} {f:Bool} (ht:gU (d,0,f) v) (hn:nz d=true) (h1:fV d≤1000000) (h2:vY d≤100000000) (h3:DY d≤10000000) {w:Int} (hw: -1000000000≤w∧w≤1000000000) {st:St} (hro:st.ro≤st.h):
  ∃st' fx,∀{β:Type} (K:Kv β),al (aA vE) 54 [.mp st.h 0,.sl 6 [v] .shut] (st.add (.cells 108 [.nilp,.aG,.int .i64 0,.int .i64 w])) K=K (.str (jm w (fV d) [(d,0,f)] 0)) st' fx:=by
 have hm:qc [(d,(0:Int),f)]=fV d:=by simp [qc]
 have hW:gC (st.add (.cells 108 [.nilp,.aG,.int .i64 0,.int .i64 w])) st.h 0 w []:=⟨.nilp,.aG,St.ey,.inl rfl,.inl ⟨rfl,rfl⟩,hro⟩;obtain ⟨st',hl⟩:=MO (l:=[(d,0,f)]) (x:= .sl 6 [v] .shut) (ws:=[v]) (w:=w) (I:=0) (p:=st.h) hw (by omega) ⟨by simp,.inl rfl⟩ ⟨v,[],rfl,ht,rfl⟩ (by simp [xH,hn]) (by omega) (by intro t h;simp at h;subst h;exact ⟨Int.le_refl _,Int.le_refl _⟩) (by simp [qc,cI,Eb];omega)
  (by show st.ro≤st.h+1;omega) hW
 rw [hm] at hl;exact ⟨st',_,fun K=>fR K rfl rfl hl⟩
theorem Jo {d:Doc} {v:AV} (hv:cL d v) (w:Int) (h1:fV d≤1000000) (h2:vY d≤100000000) (h3:DY d≤10000000):(aA vE).bare 28 [v,.int .i64 w]=some (.tup [.str (De d w).1,.int .i64 (De d w).2]):=by
 refine bh rfl ((QY _ _).trans ?_);obtain ⟨k,s,n,x,rfl,ht,ho,hf⟩:=Oy hv false;have hmay:=fun {β:Type} (st:St) (K:Kv β)=>GF (f:=53) st rfl hv.bare (Er d _ hv (by omega)) K;have hx:=fun {β:Type} (K:Option β)=>iS ho K;unfold De;by_cases c1:w < 1
 ·rw [if_pos (.inl c1)];simp only [Sn,az,ag,ai,ao,ah,hx,hf,ar,if_pos c1,aq,aE,aF]
 by_cases c2:w > 200
 ·rw [if_pos (.inr c2)];simp only [Sn,az,ag,ai,ao,ah,hx,hf,ar,if_neg c1,aq,aE,if_pos c2]
 rw [if_neg (by omega)];cases hm:nz d with
 | false=>
  rw [hm] at hmay;simp only [Sn,az,ag,ai,ao,ah,hx,hf,ar,if_neg c1,aq,aE,if_neg c2,hmay,Wg,aF,if_true]
 | true=>
  rw [hm] at hmay;obtain ⟨st',fx,hlay⟩:=HE ht hm h1 h2 h3 (w:=w) (by omega) (st:=St.mk 0 0 Tr.leaf) (Vn _);simp only [Sn,az,ag,ai,ao,ah,hx,hf,ar,if_neg c1,aq,aE,if_neg c2,hmay,V9,aB,bN,hlay,Bool.true_eq_false,if_false]
end Go.Proofs.YtmhofncehlaamaaGreatDoor.Vm
namespace Go.Proofs.YtmhofncehlaamaaGreatDoor.Vm
open Go Go.VM Go.Proofs
noncomputable def g13:Option AV:=al (aA vE) 14 [.str [108,101,116,32,32,32,120,61,49],.int .i64 80] (St.mk 0 0 Tr.leaf) fun b d _x=>gK b fun e=>cE e 0 fun f=>eU f fun g=>gK b fun h=>cE h 1 fun i=>bU .i64 i fun j=>al (aA vE) 14 [.str [108,101,116,32,120,32,61,10,10,40,49,10,41,108,101,116,32,121,61,120],.int .i64 20] d fun c a _x=>gK c fun k=>cE k 0 fun l=>eU l fun m=>gK c fun n=>cE n 1 fun o=>bU .i64 o fun p=>aH (bD (j==0) (bD (g==[108,101,116,32,120,32,61,32,49,10]) (bD (p==0) (some ([.bool (m==[108,101,116,32,120,32,61,32,40,49,41,10,10,108,101,116,32,121,32,61,32,120,10])],a)) (some ([.bool false],a))) (some ([.bool false],a))) (some ([.bool false],a))) fun q=>bE q.1 fun r s=>cJ r fun t=>cj s (some (.bool t))
theorem PM:bQ vE 13 []=g13:=by kernel_rfl
end Go.Proofs.YtmhofncehlaamaaGreatDoor.Vm
namespace Go.Proofs.YtmhofncehlaamaaGreatDoor.Vm
open Go Go.VM Go.Proofs Go.Lex Go.Parse Go.Lay
def EI (s:List UInt8) (w:Int):AV:=match Format.nc s w with
 | .ok t=> .tup [.str t,.int .i64 0]
 | .error e=> .tup [.str [],.int .i64 (e:Int)]
theorem Gs {s:List UInt8} {e:Nat} (h:Format.qW s= .error e):e≠0:=by
 rw [Format.wm] at h
 repeat' split at h
 all_goals first | (cases h;done) | (cases h;decide)
theorem Kj {s:List UInt8} {w:Int} {e:Nat} (h:Format.nc s w= .error e):e≠0:=by
 unfold Format.nc at h;split at h
 ·cases h;decide
 ·split at h
  ·rename_i e' he;cases h;exact Gs he
  ·split at h
   ·cases h;decide
   ·cases h
theorem Nf {β:Type} (b c:Bool) (K:List AV×St→Option β):aH (bD b (some ([AV.bool true],S0)) (some ([AV.bool c],S0))) K=K ([AV.bool (b||c)],S0):=by cases b <;> rfl
theorem I6 (s:List UInt8) (w:Int):(aA vE).bare 14 [.str s,.int .i64 w]=some (EI s w):=by
 obtain ⟨b,eb,hb⟩:=H2 s;have cl:=fun {γ:Type} (st:St) (K:Kv γ)=>aY (f:=27) (args:=[.str s]) st K rfl rfl rfl eb;refine bh rfl (ad.eq (ad.step (Q6 _ _) ?_));unfold g14;refine ad.step (ao _ _) (ad.step (ai _ _ _) (ad.step (Nf _ _ _) ?_));simp only [ag,aE,ah];by_cases hw:w < 20∨200 < w
 ·have h1:(decide (w < 20)||decide (w > 200))=true:=by
   rcases hw with h | h
   ·rw [WJ h];rfl
   ·rw [WJ (show w > 200 from h),Bool.or_true]
  rw [h1];have e1:EI s w= .tup [.str [],.int .i64 1]:=by unfold EI Format.nc;rw [if_pos hw];rfl
  rw [e1];exact ad.step (aF _ _) (ad.some rfl)
 ·have h1:(decide (w < 20)||decide (w > 200))=false:=by
   rw [WD (show ¬ w < 20 by omega),WD (show ¬ w > 200 by omega)];rfl
  rw [h1];refine ad.step (aB _ _) (ad.step (cl _ _) ?_);cases hL:Format.qW s with
  | error e=>
   have e1:EI s w= .tup [.str [],.int .i64 (e:Int)]:=by unfold EI Format.nc;rw [if_neg hw,hL]
   rw [e1];unfold Ct at hb;rw [hL] at hb;have hb:b= .tup [.agg d4,.int .i64 (e:Int)]:=hb;have hne:((e:Int) != 0)=true:=by simpa using Gs hL
   rw [hb];simp only [bw,aU,bj,az,ag,ai,ao,ah];refine ad.Fp (Vw.start (Wc _)) fun s1 _ w1=>ad.step (gI.af _) ?_;refine ad.yd [] w1 fun s2 _ _ w2=> ?_;rw [hne];exact ad.step (aF _ _) (ad.some rfl)
  | ok d=>
   obtain ⟨rfl,hv,hg,he,hl⟩:=Format.Cy hL;unfold Ct at hb;rw [hL] at hb;obtain ⟨dv,rfl,hd⟩: ∃dv,b= .tup [dv,.int .i64 0]∧cL (Format.ny s) dv:=hb;obtain ⟨f1,f2,f3,f4⟩:=Format.HW hv hg he;have hsw:De (Format.ny s) w=(Format.qd (Format.ny s) w,0):=by
    unfold De;rw [if_neg (by omega),if_neg (by rw [f1];exact Bool.noConfusion)];rfl
   have e1:EI s w=if 65536 < (Format.qd (Format.ny s) w).length then .tup [.str [],.int .i64 40] else .tup [.str (Format.qd (Format.ny s) w),.int .i64 0]:=by
    unfold EI Format.nc;rw [if_neg hw,hL];dsimp only;by_cases hX:65536 < (Format.qd (Format.ny s) w).length
    ·rw [if_pos hX,if_pos hX];rfl
    ·rw [if_neg hX,if_neg hX]
   rw [e1];have sp:=Jo hd w (by omega) (by omega) (by omega);rw [hsw] at sp;generalize Format.qd (Format.ny s) w=X at *;have hdb:=hd.bare;obtain ⟨k,s',m,kids,z,zs,hq,rfl,hz,_⟩:=jA hd;have cs:=fun {γ:Type} (st:St) (K:Kv γ)=>aY (f:=28) (args:=[.agg (dO k s' m z),.int .i64 w]) st K rfl rfl (by simp only [bf,hdb];rfl) sp;simp only [bw,aU,bj,az,ag,ai,ao,ah];refine ad.Fp (Vw.start (Wc _)) fun s1 _ w1=>ad.step (hz.af _) ?_;refine ad.yd [] w1 fun s2 _ _ w2=>ad.step (aB _ _) ?_;refine ad.nC Vp w2 rfl ?_;simp only [az,ag,ai,ao,ah];refine ad.step (cs _ _) ?_;simp only [bw,aU,bj,ai,ao];refine ad.step (aB _ _) ?_;by_cases hX:65536 < X.length
   ·rw [if_pos hX];exact ad.step (eP (c:=true) (WJ (show ((X.length:Nat):Int) > 65536 by omega)) _ _) (ad.step (aF _ _) (ad.some rfl))
   ·rw [if_neg hX];exact ad.step (eP (c:=false) (WD (show ¬ ((X.length:Nat):Int) > 65536 by omega)) _ _) (ad.step (aB _ _) (ad.some rfl))
theorem qP (s:List UInt8) (w:Int) {γ:Type} (st:St) (K:Kv γ):al (aA vE) 14 [.str s,.int .i64 w] st K=K (EI s w) st q0:=aY st K rfl rfl rfl (I6 s w)
def TU:List UInt8:=[108,101,116,32,32,32,120,61,49]
def TM:List UInt8:=[108,101,116,32,120,32,61,10,10,40,49,10,41,108,101,116,32,121,61,120]
def TZ:List UInt8:=[108,101,116,32,120,32,61,32,49,10]
def Up:List UInt8:=[108,101,116,32,120,32,61,32,40,49,41,10,10,108,101,116,32,121,32,61,32,120,10]
theorem JX:EI TU 80= .tup [.str TZ,.int .i64 0]:=by kernel_rfl
theorem KB:EI TM 20= .tup [.str Up,.int .i64 0]:=by kernel_rfl
theorem Ow:(aA vE).bare 13 []=some (.bool true):=by
 refine bh rfl (PM.trans ?_);have a:=fun {γ:Type} (st:St) (K:Kv γ)=>(qP TU 80 st K).trans (by rw [JX]);have b:=fun {γ:Type} (st:St) (K:Kv γ)=>(qP TM 20 st K).trans (by rw [KB]);simp only [TU,TM] at a b;simp only [g13,a,b,bw,aU,bj,ai,ao];rfl
theorem tA {γ:Type} (st:St) (K:Kv γ):al (aA vE) 13 [] st K=K (.bool true) st q0:=aY st K rfl rfl rfl Ow
theorem Nh (n:Int): ∃w:Int,20≤w∧w≤200∧IntKind.wrap .i64 (20+IntKind.wrap .i64 (Int.tmod (IntKind.wrap .u64 n) 181))=w:=by
 have h0:0≤IntKind.wrap .u64 n:=by
  show 0≤(n % (2 ^ 64:Int):Int);omega
 have h1:0≤Int.tmod (IntKind.wrap .u64 n) 181:=Int.tmod_nonneg _ h0;have h2:Int.tmod (IntKind.wrap .u64 n) 181 < 181:=Int.tmod_lt_of_pos _ (by decide);generalize Int.tmod (IntKind.wrap .u64 n) 181=m at *;refine ⟨20+m,by omega,by omega, ?_⟩;rw [wrap_i64 (n:=m) (by omega) (by omega),wrap_i64 (by omega) (by omega)]
end Go.Proofs.YtmhofncehlaamaaGreatDoor.Vm
namespace Go.Proofs.YtmhofncehlaamaaGreatDoor.Vm
open Go Go.VM Go.Proofs
noncomputable def g4:AV→AV→Option AV:=fun h i=>eU h fun c=>bU .i64 i fun j=>aH (bD (decide ((↑(List.length c):Int) > 2000)) (some ([.bool true],St.mk 0 0 Tr.leaf)) (al (aA vE) 13 [] (St.mk 0 0 Tr.leaf) fun k l _x=>cJ k fun m=>some ([.bool !m],l))) fun a=>bE a.1 fun n o=>cJ n fun p=>cj o (bD p (al (aA vE) 13 [] a.2 fun q _x _x_1=>cJ q fun r=>some (.bool r)) (bB (IntKind.wrap .u64 j) fun s=>bB (Int.tmod s 181) fun t=>bB (IntKind.wrap .i64 t) fun u=>bB (IntKind.wrap .i64 (20+u)) fun d=>al (aA vE) 14 [.str c,.int .i64 d] a.2 fun e v _x=>gK e fun w=>cE w 0 fun y=>eU y fun b=>gK e fun z=>cE z 1 fun a0=>bU .i64 a0 fun a1=>bD (a1 != 0) (some (.bool (b==[]))) (al (aA vE) 14 [.str b,.int .i64 d] v fun f g _x=>gK f fun a2=>cE a2 0 fun a3=>eU a3 fun a4=>gK f fun a5=>cE a5 1 fun a6=>bU .i64 a6 fun a7=>aH (bD (a7==0) (some ([.bool (b==a4)],g)) (some ([.bool false],g))) fun a8=>bE a8.1 fun a9 b0=>cJ a9 fun b1=>cj b0 (some (.bool b1)))))
theorem Si (x0 x1:AV):bQ vE 4 [x0,x1]=g4 x0 x1:=by kernel_rfl
end Go.Proofs.YtmhofncehlaamaaGreatDoor.Vm
namespace Go.Proofs.YtmhofncehlaamaaGreatDoor.Vm
open Go Go.VM Go.Proofs Go.Lex Go.Parse Go.Lay
theorem I2 (s:List UInt8) (n:Int):(aA vE).bare 4 [.str s,.int .i64 n]=some (.bool true):=by
 refine bh rfl (ad.eq (ad.step (Si _ _) ?_));unfold g4;refine ad.step (ao _ _) (ad.step (ai _ _ _) ?_);refine ad.bind (R:=fun c=> ∃b,c=([.bool b],S0)) ?_ ?_
 ·cases decide ((s.length:Int) > 2000) with
  | true=>exact ad.step (aF _ _) (ad.some ⟨_,rfl⟩)
  | false=>exact ad.step (aB _ _) (ad.step (tA _ _) (ad.step (aE _ _) (ad.some ⟨_,rfl⟩)))
 ·rintro c ⟨b,rfl⟩;simp only [ag,aE,ah];cases b with
  | true=>exact ad.step (aF _ _) (ad.step (tA _ _) (ad.step (aE _ _) (ad.some rfl)))
  | false=>
   obtain ⟨w,_,_,hw⟩:=Nh n;refine ad.step (aB _ _) ?_;simp only [aK,hw];refine ad.step (qP s w _ _) ?_;cases hf:Format.nc s w with
   | error e=>
    have e1:EI s w= .tup [.str [],.int .i64 (e:Int)]:=by unfold EI;rw [hf]
    have hne:((e:Int) != 0)=true:=by simpa using Kj hf
    rw [e1];simp only [bw,aU,bj,ao,ai,hne,aF];exact ad.some rfl
   | ok t=>
    have e1:EI s w= .tup [.str t,.int .i64 0]:=by unfold EI;rw [hf]
    have e2:EI t w= .tup [.str t,.int .i64 0]:=by unfold EI;rw [Format.Fh hf]
    rw [e1];simp only [bw,aU,bj,ao,ai];refine ad.step (aB _ _) (ad.step (qP t w _ _) ?_);rw [e2];simp only [bw,aU,bj,ao,ai];refine ad.step (Wb (aH · _) (aF _ _)) ?_;simp only [aq,ag,aE,ah,Wo];exact ad.some rfl
end Go.Proofs.YtmhofncehlaamaaGreatDoor.Vm
namespace Go.Proofs.YtmhofncehlaamaaGreatDoor.Vm
open Go Go.VM Go.Proofs
def EC:List TypeId:=[9,5,3]
theorem BL: ∀t,CL EC t=true→CD Tryz.prog EC t=true:=by
 intro t ht;have:t∈EC:=by
  obtain ⟨u,hu,e⟩:=List.any_eq_true.1 ht;rw [← Vq e];exact hu
 exact Wf.1 (show (EC.all fun t=>CD Tryz.prog EC t)=true by kernel_rfl) t this
theorem Pc {n t:Nat} {cs:List AV} (hu:Tryz.prog.underlying t=some .string) (h:nA Tryz.prog n t cs): ∃s,cs=[.str s]∧s.length≤maxLen:=by
 cases n with
 | zero=>cases h
 | succ n=>simp only [nA,hu] at h;exact h
theorem PC {n t:Nat} {cs:List AV} (hu:Tryz.prog.underlying t=some (.int .i64)) (h:nA Tryz.prog n t cs): ∃m:Int,cs=[.int .i64 m]:=by
 cases n with
 | zero=>cases h
 | succ n=>
  simp only [nA,hu] at h;obtain ⟨m,rfl,_⟩:=h;exact ⟨m,rfl⟩
end Go.Proofs.YtmhofncehlaamaaGreatDoor.Vm
