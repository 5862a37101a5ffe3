/-
  (A part of the proof: ParseJ, ParseK, ParseL, ParseM, TokAny, ParseO, ParseQ, ScopeA, FA, AstA, AstB, AstC, AstD, AstE, AstF, AstG, AstH, AstI, AstJ, AstK, AstL, AstM, AstAw.)
-/
import Derived.Test.YtmngkfmgnkeclaaGreatDoorVmCC
import Derived.Test.YtmngkfmgnkeclaaGreatDoorVmBF
import Derived.Test.YtmngkfmgnkeclaaGreatDoorVmAA
import Derived.Test.YtmngkfmgnkeclaaGreatDoorVmAJ
set_option maxRecDepth 1000000
set_option linter.unusedSimpArgs false
set_option maxHeartbeats 0
namespace Go.Proofs.YtmngkfmgnkeclaaGreatDoor.Vm
open Go Go.VM Go.Proofs Go.Lex Go.Parse
section
variable {β:Type} {Q:β→Prop} {st0 st:St} {p:Nat} {L:List aQ} {x:AV} {d d':Nat} {r r':List aQ} {l l1 l2:List Vr} {os:List (AV×List AV)} {t:T}
def IU (pat:Bool):List UInt8:=if pat then gr else hH
theorem Gj {n:Nat} (ih:IH n) (pat:Bool):qI 56 (fun _=>[.bool pat]) (.atom pat) (n+1):=by
 intro st p L x d r t r' hp hd h
 simp only [P] at h
 refine ad.wide (ad.step (Ns _ _ _) ?_)
 unfold SE
 refine ad.step (aC _ _) (ad.alloc (Wd.begin hp) fun s1 _ w=> ?_)
 have e: ∀{β:Type} (K:dK→Option β),aK (bI pat (some ([AV.str gr,.int .u8 17,.int .u8 18,.str [95],xk true p,.int .u8 5],s1)) (some ([.str hH,.int .u8 14,.int .u8 15,.str [40],xk false p,.int .u8 6],s1))) K
   =K ([.str (IU pat),.int .u8 (kindOf false pat:Int),.int .u8 (kindOf true pat:Int),.str (qZ pat),xk pat p,.int .u8 (rn pat:Int)],s1):=by cases pat <;> exact fun K=>rfl
 refine ad.step (e _) ?_
 simp only [ag,az,aj,ah]
 refine ad.next w fun s2 s3 w=> ?_
 refine ad.bw pat w fun s4 w=> ?_
 split at h
 ·rename_i hb
  rw [hb]
  refine ad.step (aB _ _) ?_
  refine ad.mV (List.mem_cons_self) w rfl (ad.step (aj _ _ _) ?_)
  split at h
  ·rename_i h9
   cases h
   rw [show (((nx r).1:Int)==9)=true by rw [h9];rfl]
   refine ad.step (aH _ _) (ad.take w fun k tk tx y s hnd hdt w=> ?_)
   refine ad.two hnd (ad.fit hnd fun z1 hN1 _ _=> ?_)
   refine ad.Ig [_] (old:=z4) w rfl (pS (uZ hN1) (by simp)) ?_
   have:=dp r
   simp only [cC,cb,bh]
   omega
  rename_i h9
  rw [show (((nx r).1:Int)==9)=false from beq_eq_false_iff_ne.2 (by omega)]
  refine ad.step (aB _ _) (ad.G7 w fun s5 w=> ?_)
  split at h
  ·rename_i ho
   refine ad.step (eY (c:=true) ho _ _) (ad.step (aH _ _) ?_)
   exact ad.node w (ih.closed false pat _ p L x d r t r' w.pz hd h) rfl rfl fun k tk tx y s hnd hdt w=>ad.res [_] (old:=z4) w rfl hnd hdt
  rename_i ho
  refine ad.step (eY (c:=false) (eq_false_of_ne_true ho) _ _) (ad.step (aB _ _) (ad.G7 w fun s6 w=> ?_))
  split at h
  ·rename_i ho
   refine ad.step (eY (c:=true) ho _ _) (ad.step (aH _ _) ?_)
   exact ad.node w (ih.closed true pat _ p L x d r t r' w.pz hd h) rfl rfl fun k tk tx y s hnd hdt w=>ad.res [_] (old:=z4) w rfl hnd hdt
  ·rename_i ho
   cases h
   refine ad.step (eY (c:=false) (eq_false_of_ne_true ho) _ _) (ad.step (aB _ _) ?_)
   exact ad.take w fun k tk tx y s hnd hdt w=>ad.res [_] (old:=z4) w rfl hnd hdt
 ·rename_i hb
  cases h
  rw [eq_false_of_ne_true hb]
  refine ad.step (aH _ _) (ad.step (nS _ _ _) ?_)
  refine ad.res [_] (old:=z4) w rfl (rC (IU pat)) ?_
  rw [jU];omega
theorem Nv.load {PT:TypeId} {s:St} {a b:Nat} (h:Nv PT st0 s p L x d r a b t) {K:Int→Int→List UInt8→AV→List Nat→Option β} (g: ∀(k tk:Nat) (tx:List UInt8) (y:AV),Wd PT st0 s p L x d r [(a,ND,[.int .u8 (k:Int),.int .u8 (tk:Int),.str tx,y]),(b,ND,z4)] []→Nd t k tk tx y→ad (K k tk tx y [a]) Q):ad (aA 4 true (.mp a 0) s fun v rd=>BC v fun a b c y=>K a b c y rd) Q:=by
 obtain ⟨k,tk,tx,y,w,hn⟩:=h
 exact ad.lG (List.mem_cons_self) w (g k tk tx y w hn)
theorem GD {n:Nat} (hn:n≤10000000) (ih: ∀m,m < n→IH m) {a b:Nat} {st5:St} (ha:st5.h=a) (hd:d≤64): ∀(m:Nat) (acc t:T) (r r':List aQ) (s:St),m≤n→P m (.args acc) d r=some ([t],r')→Nv PP st0 s p L x d r a b acc→gq acc+m≤900000000000000→
  ad (bu (ql (.mp p 0) st5) ([],s)) (fun q=> ∃s',q=(0,[],s')∧Nv PP st0 s' p L x d r' a b t∧gq t≤900000000000000):=by
 intro m
 induction m with
 | zero=>intro acc t r r' s _ h;cases h
 | succ m ihm=>
  intro acc t r r' s hm h hg hl
  simp only [P] at h
  obtain ⟨k,tk,tx,y,w,hnd⟩:=hg
  split at h
  ·rename_i hb
   obtain ⟨⟨a1,r1⟩,e1,h⟩:=bind_some h
   obtain ⟨u,rfl⟩:=fK _ _ _ _ _ _ e1 rfl
   have hdu:=iS (by omega:m≤10000000) e1 rfl
   have hgo:ad (ql (.mp p 0) st5 ([],s)) (fun q=> ∃s',q= .inl ([],s')∧Nv PP st0 s' p L x d r1 a b (node 13 [acc,u])):=by
    simp only [ql,ha,ah]
    refine ad.bw false w fun s1 w=> ?_
    rw [hb]
    refine ad.step (aH _ _) ?_
    refine ad.lG (List.mem_cons_self) w ?_
    refine ad.node w ((ih m (by omega)).atom false _ p L x d r u r1 w.pz hd e1) rfl rfl fun k2 tk2 tx2 y2 s9 hn2 hd2 w9=> ?_
    have a1:=w.se w9 (List.mem_cons_self) hnd (by omega)
    refine ad.step (kE (by rw [a1];rfl) _) ?_
    refine ad.two hnd (ad.two hn2 (ad.fit hnd fun z1 hN1 _ _=>ad.fit hn2 fun z2 hN2 _ _=> ?_))
    refine ad.store [] w9 fun s10 fx w=> ?_
    exact ad.some ⟨s10,rfl,13,0,[],_,w,pS (CC hN1 hN2) (by simp)⟩
   obtain ⟨q,e,s',rfl,hg'⟩:=hgo
   rw [bR e]
   refine ihm _ t r1 _ s' (by omega) h hg' ?_
   simp only [cC,cb,bh]
   omega
  ·rename_i hb
   cases h
   have hgo:ad (ql (.mp p 0) st5 ([],s)) (fun q=> ∃s',q= .inr (0,[],s')∧Nv PP st0 s' p L x d r a b acc):=by
    simp only [ql,ha,ah]
    refine ad.bw false w fun s1 w=> ?_
    rw [eq_false_of_ne_true hb]
    exact ad.step (aB _ _) (ad.some ⟨s1,rfl,k,tk,tx,y,w,hnd⟩)
   obtain ⟨q,e,s',rfl,hg'⟩:=hgo
   exact ⟨_,bC e,s',rfl,hg',by omega⟩
theorem H7 {n:Nat} (ih: ∀m,m≤n→IH m) (hn:n≤10000000):qI 114 (fun _=>[]) .neg (n+1):=by
 intro st p L x d r t r' hp hd h
 simp only [P] at h
 refine ad.wide (ad.step (Lc _ _) ?_)
 unfold P0
 refine ad.alloc (Wd.begin hp) fun s1 _ w=> ?_
 refine ad.is [[45],[45,46]] (by simp) w fun s2 w=> ?_
 split at h
 ·rename_i hb
  rw [hb]
  refine ad.step (aB _ _) ?_
  refine ad.take w fun k tk tx y s hnd hdt w=> ?_
  refine ad.alloc w fun s3 _ w=>ad.two hnd ?_
  refine ad.store [] w fun s4 fx w=> ?_
  refine ad.lG (List.mem_cons_self) w ?_
  have dk:=dp r
  split at h
  ·rename_i hd
   subst hd
   cases h
   refine ad.node w (pG _ _ w.pz) rfl rfl fun k2 tk2 tx2 y2 s9 hn2 hd2 w9=> ?_
   have a1:=w.se w9 (List.mem_cons_self) hnd (by omega)
   refine ad.step (kE (by rw [a1];rfl) _) ?_
   refine ad.two hnd (ad.two hn2 (ad.fit hnd fun z1 hN1 _ _=>ad.fit hn2 fun z2 hN2 _ _=> ?_))
   refine ad.Ig [_] (old:=z4) w9 rfl (pS (CC hN1 hN2) (by simp)) ?_
   have:=th hH (aJ r)
   simp only [cC,cb,bh]
   omega
  ·obtain ⟨⟨a1,r1⟩,e1,h⟩:=bind_some h
   obtain ⟨u,rfl⟩:=fK _ _ _ _ _ _ e1 rfl
   cases h
   have hdu:=iS hn e1 rfl
   refine ad.node w (uj (F:=114) (args:=[.mp p 0]) _ w.pz (by omega) rfl rfl (fun _ _=>rfl) fun s _ hp=>(ih n (Nat.le_refl _)).neg s p L x (d+1) _ u r1 hp (by omega) e1) rfl rfl fun k2 tk2 tx2 y2 s9 hn2 hd2 w9=> ?_
   have a1:=w.se w9 (List.mem_cons_self) hnd (by omega)
   refine ad.step (kE (by rw [a1];rfl) _) ?_
   refine ad.two hnd (ad.two hn2 (ad.fit hnd fun z1 hN1 _ _=>ad.fit hn2 fun z2 hN2 _ _=> ?_))
   refine ad.Ig [_] (old:=z4) w9 rfl (pS (CC hN1 hN2) (by simp)) ?_
   simp only [cC,cb,bh]
   omega
 ·rename_i hb
  rw [eq_false_of_ne_true hb]
  refine ad.step (aH _ _) ?_
  obtain ⟨⟨a1,r1⟩,e1,h⟩:=bind_some h
  obtain ⟨u,rfl⟩:=fK _ _ _ _ _ _ e1 rfl
  have hdu:=iS hn e1 rfl
  refine ad.node w ((ih n (Nat.le_refl _)).atom false _ p L x d r u r1 w.pz hd e1) rfl rfl fun k tk tx y s hnd hdt w=> ?_
  refine ad.alloc w fun s3 _ w=>ad.two hnd ?_
  refine ad.store [] w fun s4 fx w=> ?_
  refine ad.bind (GD hn (fun m hm=>ih m (by omega)) rfl hd n u t r1 r' s4 (Nat.le_refl _) h ⟨k,tk,tx,y,w,hnd⟩ (by omega)) ?_
  rintro q ⟨s6,rfl,hg,hdt⟩
  exact ad.step (ah _) (hg.fin (by omega))
def JE:AV:= .sl 2 [.agg [.sl 1 [.str [124,124]] .shut,.bool false],.agg [.sl 1 [.str [38,38]] .shut,.bool false],.agg [.sl 1 [.str [61],.str [60,62],.str [60],.str [60,61],.str [62],.str [62,61]] .shut,.bool true],.agg [.sl 1 [.str [64],.str [94]] .shut,.bool false],
 .agg [.sl 1 [.str [58,58]] .shut,.bool false],.agg [.sl 1 [.str [43],.str [45],.str [43,46],.str [45,46]] .shut,.bool true],.agg [.sl 1 [.str [42],.str [47],.str [42,46],.str [47,46],.str [109,111,100]] .shut,.bool true]] .shut
theorem BS {β:Type} (st:St) (K:Kv β):ak (aG vE) 113 [] st K=K JE st q0:=bj st K rfl rfl rfl (br rfl (J0.trans rfl))
theorem E8 {k:Nat} (hk:k≤6) {β:Type} (st:St) (K:AV→List Nat→Option β):bZ 2 JE (k:Int) st K=K (.ip [.sl 1 ((opsOf k).map AV.str) .shut,.bool (Parse.leftOf k)]) []:=by
 match k,hk with
 | 0,_=>rfl
 | 1,_=>rfl
 | 2,_=>rfl
 | 3,_=>rfl
 | 4,_=>rfl
 | 5,_=>rfl
 | 6,_=>rfl
theorem HU {n:Nat} (hn:n≤10000000) (ih: ∀m,m < n→IH m) {a b k:Nat} (hk:k≤6) {st5:St} (ha:st5.h=a) (hd:d≤64): ∀(m:Nat) (acc t:T) (r r':List aQ) (s:St),m≤n→P m (.ops k acc) d r=some ([t],r')→Nv PP st0 s p L x d r a b acc→gq acc+m≤900000000000000→
  ad (bu (qv (.mp p 0) (k:Int) JE st5) ([],s)) (fun q=> ∃s',q=(0,[],s')∧Nv PP st0 s' p L x d r' a b t∧gq t≤900000000000000):=by
 intro m
 induction m with
 | zero=>intro acc t r r' s _ h;cases h
 | succ m ihm=>
  intro acc t r r' s hm h hg hl
  simp only [P] at h
  obtain ⟨k1,tk,tx,y,w,hnd⟩:=hg
  have hlen:(opsOf k).length≤1000:=by
   match k,hk with
   | 0,_=>simp [opsOf]
   | 1,_=>simp [opsOf]
   | 2,_=>simp [opsOf]
   | 3,_=>simp [opsOf]
   | 4,_=>simp [opsOf]
   | 5,_=>simp [opsOf]
   | 6,_=>simp [opsOf]
  split at h
  ·rename_i hb
   obtain ⟨⟨a1,r1⟩,e1,h⟩:=bind_some h
   obtain ⟨u,rfl⟩:=fK _ _ _ _ _ _ e1 rfl
   have hdu:=iS (by omega:m≤10000000) e1 rfl
   have hdk:=dp r
   have hgo:ad (qv (.mp p 0) (k:Int) JE st5 ([],s)) (fun q=> ∃s',q= .inl ([],s')∧Nv PP st0 s' p L x d r1 a b (node 11 [acc,aN r,u])):=by
    simp only [qv,ha,ah,E8 hk,kU,bL,List.drop_zero,tj,bU,al,aC]
    refine ad.is (opsOf k) hlen w fun s1 w=> ?_
    rw [hb]
    refine ad.step (aH _ _) ?_
    refine ad.take w fun k' tk' tx' y' s6 hn' hd' w=> ?_
    refine ad.alloc w fun s7 _ w=>ad.two hn' ?_
    refine ad.store [] w fun s8 fx w=> ?_
    have e: ∀{β:Type} (K:dK→Option β),aK (bI (Parse.leftOf k) (bA (IntKind.wrap .i64 ((k:Int)+1)) fun n97=>some ([AV.int .i64 n97],s8)) (some ([AV.int .i64 (k:Int)],s8))) K=K ([.int .i64 ((if Parse.leftOf k then k+1 else k:Nat):Int)],s8):=by
     intro β K
     cases Parse.leftOf k with
     | true=>
      rw [aH,aY,cH (by omega),if_pos rfl]
      rfl
     | false=>
      rw [aB,if_neg (by simp)]
      rfl
    refine ad.step (e _) ?_
    simp only [ag,aj,ah]
    refine ad.lG (a:=a) (List.mem_cons_of_mem _ List.mem_cons_self) w ?_
    refine ad.lG (List.mem_cons_self) w ?_
    refine ad.node w ((ih m (by omega)).level _ (by split <;> omega) _ p L x d _ u r1 w.pz hd e1) rfl rfl fun k2 tk2 tx2 y2 s9 hn2 hd2 w9=> ?_
    have a1:=w.se w9 (List.mem_cons_self) hn' hd'
    have a2:=w.se w9 (a:=a) (List.mem_cons_of_mem _ List.mem_cons_self) hnd (by omega)
    refine ad.step (kE (by rw [a1,a2];rfl) _) ?_
    refine ad.two hnd (ad.two hn' (ad.two hn2 (ad.fit hnd fun z1 hN1 _ _=>ad.fit hn' fun z2 hN2 _ _=>ad.fit hn2 fun z3 hN3 _ _=> ?_)))
    refine ad.store [_] w9 fun s10 fx w=> ?_
    exact ad.some ⟨s10,rfl,11,0,[],_,w.sub Pv,pS (HC hN1 hN2 hN3) (by simp)⟩
   obtain ⟨q,e,s',rfl,hg'⟩:=hgo
   rw [bR e]
   refine ihm _ t r1 _ s' (by omega) h hg' ?_
   simp only [cC,cb,bh]
   omega
  ·rename_i hb
   cases h
   have hgo:ad (qv (.mp p 0) (k:Int) JE st5 ([],s)) (fun q=> ∃s',q= .inr (0,[],s')∧Nv PP st0 s' p L x d r a b acc):=by
    simp only [qv,ha,ah,E8 hk,kU,bL,List.drop_zero,tj,bU,al,aC]
    refine ad.is (opsOf k) hlen w fun s1 w=> ?_
    rw [eq_false_of_ne_true hb]
    exact ad.step (aB _ _) (ad.some ⟨s1,rfl,k1,tk,tx,y,w,hnd⟩)
   obtain ⟨q,e,s',rfl,hg'⟩:=hgo
   exact ⟨_,bC e,s',rfl,hg',by omega⟩
theorem DY {n:Nat} (ih: ∀m,m≤n→IH m) (hn:n≤10000000) (k:Nat) (hk:k≤7):qI 104 (fun _=>[.int .i64 (k:Int)]) (.level k) (n+1):=by
 intro st p L x d r t r' hp hd h
 simp only [P] at h
 refine ad.wide (ad.step (JW _ _ _) ?_)
 unfold PH
 refine ad.step (aj _ _ _) (ad.alloc (Wd.begin hp) fun s1 _ w=> ?_)
 refine ad.step (BS _ _) ?_
 refine ad.step (K6 _ _ _ _) ?_
 split at h
 ·rename_i h7
  subst h7
  refine ad.step (aH _ _) ?_
  exact ad.node w ((ih n (Nat.le_refl _)).neg _ p L x d r t r' w.pz hd h) rfl rfl fun k tk tx y s hnd hdt w=>ad.res [] (old:=z4) w rfl hnd hdt
 ·rename_i h7
  refine ad.step (eY (c:=false) (beq_eq_false_iff_ne.2 (show (k:Int)≠((7:Nat):Int) by omega)) _ _) (ad.step (aB _ _) ?_)
  rw [aY,cH (by omega)]
  obtain ⟨⟨a1,r1⟩,e1,h⟩:=bind_some h
  obtain ⟨u,rfl⟩:=fK _ _ _ _ _ _ e1 rfl
  have hdu:=iS hn e1 rfl
  refine ad.node w ((ih n (Nat.le_refl _)).level (k+1) (by omega) _ p L x d r u r1 w.pz hd e1) rfl rfl fun k1 tk tx y s hnd hdt w=> ?_
  refine ad.alloc w fun s3 _ w=>ad.two hnd ?_
  refine ad.store [] w fun s4 fx w=> ?_
  refine ad.bind (HU hn (fun m hm=>ih m (by omega)) (by omega:k≤6) rfl hd n u t r1 r' s4 (Nat.le_refl _) h ⟨k1,tk,tx,y,w,hnd⟩ (by omega)) ?_
  rintro q ⟨s6,rfl,hg,hdt⟩
  exact ad.step (ah _) (hg.fin (by omega))
end
section
variable {β:Type} {Q:β→Prop} {PT:TypeId} {st0 st s:St} {p:Nat} {L:List aQ} {x:AV} {d d':Nat} {r r':List aQ} {l l1 l2:List Vr} {os:List (AV×List AV)} {t:T}
theorem Wd.made (w:Wd PT st0 st p L x d r l os) {es:List AV} {n:Nat} (hn:n=es.length) (hl:n≤1000000000):Wd PT st0 (st.add (.tok n ND)) p L x d r l ((.sl 4 es (.own st.h),es)::os):=by
 subst hn
 have w':=w.quiet (ba.add st (.tok es.length ND) _)
 refine ⟨w'.pz,w'.k,w'.v,w'.nd,fun q hq=> ?_,List.pairwise_cons.2 ⟨fun q hq j hj hj'=> ?_,w'.od⟩,w.p0,w.ro0⟩
 ·rcases List.mem_cons.1 hq with rfl | hq
  ·refine ⟨⟨Nat.le_succ_of_le w.ro,by show es.length≤9223372036854775807;omega,.inr (.inr ⟨st.h,rfl,St.dR,w.ro⟩)⟩,fun j hj=> ?_⟩
   obtain ⟨_,_,e⟩:=hj
   cases e
   exact w.h
  ·exact w'.o q hq
 ·obtain ⟨_,_,e⟩:=hj
  cases e
  have:=(DR (w.o q hq).1 hj').1
  omega
def Sv (PT:TypeId) (st0 s:St) (p:Nat) (L:List aQ) (x:AV) (d:Nat) (r:List aQ) (v:AV) (ts:List T):Prop:= ∃es,Wd PT st0 s p L x d r [] [(v,es)]∧bO ts es∧fc ts≤1000000000000000
theorem Sv.app {v:AV} {ts:List T} (h:Sv PT st0 s p L x d r v ts) {F:FuncId} {args:List AV} (hc:NW PT F args s p L x d t r') (h1:vE.isLook F=false) (h2:(bz (args.map strip)&& !vE.full F)=false) (hl:ts.length≤100000000) {K:AV→St→Option β} (g: ∀v s,Sv PT st0 s p L x d r' v (ts++[t])→ad (K v s) Q):
  ad (ak (aG vE) F args s fun u s _=>BC u fun n1 n2 tx y=>af y (af y (aV y fun y=>af y (aV y fun y=>gf 4 56 ND v [.agg [.int .u8 n1,.int .u8 n2,.str tx,y]] s fun v s _=>K v s)))) Q:=by
 obtain ⟨es,w,hs,hd⟩:=h
 refine ad.node w hc h1 h2 fun k' tk' tx' y s hn hdt w'=> ?_
 refine ad.two hn (ad.fit hn fun y' hN h1 hf=>ad.one h1 (ad.step (hf _) (ad.app w' (by simp) (by rw [bO.len hs];simp;omega) fun v' s' fx ho w2=> ?_)))
 exact g v' s' ⟨_,w2,bO.app hs (uZ hN),by rw [dc,bq];omega⟩
theorem Sv.pz {v:AV} {ts:List T} (h:Sv PT st0 s p L x d r v ts):Pz PT s p L x d r:=by
 obtain ⟨es,w,hs,hd⟩:=h
 exact w.pz
theorem Sv.bw {v:AV} {ts:List T} (pat:Bool) (h:Sv PP st0 s p L x d r v ts) {K:Bool→St→Fx→Option β} (g: ∀s',Sv PP st0 s' p L x d r v ts→ad (K (bw pat r) s' ⟨[],.all s s'⟩) Q):
  ad (ak (aG vE) 55 [.mp p 0,.int .u8 (rn pat:Int),.str (qZ pat)] s fun v s fx=>du v fun b=>K b s fx) Q:=by
 obtain ⟨es,w,hs,hd⟩:=h
 exact ad.bw pat w fun s' w'=>g s' ⟨es,w',hs,hd⟩
theorem CK {n:Nat} (ih: ∀m,m < n→IH m) (hd:d≤64): ∀(m:Nat) (ts bs:List T) (r r':List aQ) (v:AV) (s:St),m≤n→P m .params d r=some (bs,r')→Sv PP st0 s p L x d r v ts→ts.length+m≤100000000→
  ad (bu (tX (.mp p 0)) ([v],s)) (fun q=> ∃v' s',q=(0,[v'],s')∧Sv PP st0 s' p L x d r' v' (ts++bs)):=by
 intro m
 induction m with
 | zero=>intro ts bs r r' v s _ h;cases h
 | succ m ihm=>
  intro ts bs r r' v s hm h hg hl
  simp only [P] at h
  split at h
  ·rename_i hb
   obtain ⟨⟨a1,r1⟩,e1,h⟩:=bind_some h
   obtain ⟨u,rfl⟩:=fK _ _ _ _ _ _ e1 rfl
   obtain ⟨⟨b1,r2⟩,e2,h⟩:=bind_some h
   cases h
   have hgo:ad (tX (.mp p 0) ([v],s)) (fun q=> ∃v' s',q= .inl ([v'],s')∧Sv PP st0 s' p L x d r1 v' (ts++[u])):=by
    simp only [tX,ag,ah]
    refine hg.bw true fun s1 hg=> ?_
    rw [hb]
    refine ad.step (aH _ _) ?_
    exact hg.app ((ih m (by omega)).atom true _ p L x d r u r1 hg.pz hd e1) rfl rfl (by omega) fun v' s' hg=>ad.some ⟨v',s',rfl,hg⟩
   obtain ⟨q,e,v',s',rfl,hg'⟩:=hgo
   rw [bR e]
   refine (ihm _ b1 r1 _ v' s' (by omega) e2 hg' (by simp;omega)).mono ?_
   rintro q ⟨v2,s2,rfl,hg2⟩
   exact ⟨v2,s2,rfl,by simpa using hg2⟩
  ·rename_i hb
   cases h
   have hgo:ad (tX (.mp p 0) ([v],s)) (fun q=> ∃s',q= .inr (0,[v],s')∧Sv PP st0 s' p L x d r v ts):=by
    simp only [tX,ag,ah]
    refine hg.bw true fun s1 hg=> ?_
    rw [eq_false_of_ne_true hb]
    exact ad.step (aB _ _) (ad.some ⟨s1,rfl,hg⟩)
   obtain ⟨q,e,s',rfl,hg'⟩:=hgo
   exact ⟨_,bC e,v,s',rfl,by simpa using hg'⟩
theorem AA {n:Nat} (ih: ∀m,m≤n→IH m) (hn:n≤10000000):I3 (n+1):=by
 intro st p L x d r ts r' hp hd h
 simp only [P] at h
 refine ad.wide (ad.step (NY _ _) ?_)
 unfold Sd
 refine ad.G7 (Wd.begin hp) fun s1 w=> ?_
 have dk:=dp r
 refine ad.bind (R:=fun c=> ∃v s,c=([v],s)∧Sv PP st s p L x d (if bN dh r then aJ r else r) v (if bN dh r then [aN r] else [])) ?_ ?_
 ·cases hb:bN dh r with
  | true=>
   refine ad.step (eY (c:=true) hb _ _) (ad.step (aH _ _) ?_)
   refine ad.take w fun k tk tx y s hnd hdt w=> ?_
   refine ad.two hnd (ad.fit hnd fun z1 hN1 h1 hf=>ad.one h1 (ad.step (hf _) ?_))
   refine ad.some ⟨_,_,rfl,_,w.made rfl (by simp),uZ hN1, ?_⟩
   rw [if_pos rfl,bq];exact hdt
  | false=>
   refine ad.step (eY (c:=false) hb _ _) (ad.step (aB _ _) ?_)
   exact ad.some ⟨_,_,rfl,[],w.aq,bO.nil,by simp [bh]⟩
 generalize hrc:(if bN dh r then [aN r] else [])=rc at h
 have hrl:rc.length≤1:=by rw [← hrc];split <;> simp
 generalize (if bN dh r then aJ r else r)=r0 at h
 rintro c ⟨v,s,rfl,hg⟩
 simp only [ag,ah]
 obtain ⟨es,w,hs,hdd⟩:=hg
 refine ad.next w fun s2 s3 w=> ?_
 refine ad.mV (List.mem_cons_self) w rfl (ad.step (aj _ _ _) ?_)
 have w:=w.sub (List.nil_sublist _)
 have hxs: ∃xs r1 es r2,P n .expr d (aT iw r1)=some ([es],r2)∧ts=rc++xs++[bX iw r1]++[es]∧r'=r2∧xs.length≤n+1∧
   (if (nx r0).1=4 then ∃ps,P n .params d (aJ r0)=some (ps,r1)∧xs=aN r0::ps else P n (.atom true) d r0=some (xs,r1)):=by
  split at h
  ·rename_i h4
   obtain ⟨⟨xs,r1⟩,e1,h⟩:=bind_some h
   obtain ⟨⟨ps,r3⟩,e3,e1⟩:=bind_some e1
   cases e1
   obtain ⟨⟨es,r2⟩,e2,h⟩:=bind_some h
   obtain ⟨u,rfl⟩:=fK _ _ _ _ _ _ e2 rfl
   cases h
   have:=rQ _ _ _ _ _ e3
   exact ⟨aN r0::ps,r3,u,_,e2,rfl,rfl,by simpa using this,by rw [if_pos h4];exact ⟨ps,e3,rfl⟩⟩
  ·rename_i h4
   obtain ⟨⟨xs,r1⟩,e1,h⟩:=bind_some h
   obtain ⟨⟨es,r2⟩,e2,h⟩:=bind_some h
   obtain ⟨u,rfl⟩:=fK _ _ _ _ _ _ e2 rfl
   cases h
   have:=nM e1 rfl
   exact ⟨xs,r1,u,_,e2,rfl,rfl,by omega,by rw [if_neg h4];exact e1⟩
 clear h
 obtain ⟨xs,r1,u,r2,e2,rfl,rfl,hxl,hx⟩:=hxs
 have hg:Sv PP st s3 p L x d r0 v rc:=⟨es,w,hrc ▸ hs,hrc ▸ hdd⟩
 refine ad.bind (R:=fun c=> ∃v s,c=([v],s)∧Sv PP st s p L x d r1 v (rc++xs)) ?_ ?_
 ·by_cases h4:(nx r0).1=4
  ·rw [if_pos h4] at hx
   obtain ⟨ps,e3,rfl⟩:=hx
   refine ad.step (eY (c:=true) (by rw [h4];rfl) _ _) (ad.step (aH _ _) ?_)
   refine hg.app (iz hg.pz) rfl rfl (by omega) fun v' s' hg=> ?_
   refine ad.bind (CK (fun m hm=>ih m (by omega)) hd n _ ps _ r1 v' s' (Nat.le_refl _) e3 hg (by simp;omega)) ?_
   rintro q ⟨v2,s4,rfl,hg⟩
   simp only [ag,ah]
   exact ad.some ⟨v2,s4,rfl,by simpa using hg⟩
  ·rw [if_neg h4] at hx
   obtain ⟨a1,rfl⟩:=fK _ _ _ _ _ _ hx rfl
   refine ad.step (eY (c:=false) (beq_eq_false_iff_ne.2 (by omega)) _ _) (ad.step (aB _ _) ?_)
   exact hg.app ((ih n (Nat.le_refl _)).atom true _ p L x d r0 a1 r1 hg.pz hd hx) rfl rfl (by omega) fun v' s' hg=>ad.some ⟨v',s',rfl,hg⟩
 ·rintro c ⟨v',s4,rfl,es4,w,hs4,hd4⟩
  simp only [ag,ah]
  have hdu:=iS hn e2 rfl
  refine ad.mJ w fun k tk tx y s5 hnd hdt w=> ?_
  refine ad.node w ((ih n (Nat.le_refl _)).expr _ p L x d _ u r' w.pz hd e2) rfl rfl fun k2 tk2 tx2 y2 s6 hn2 hd2 w=> ?_
  refine ad.two hnd (ad.two hn2 (ad.fit hnd fun z1 hN1 h1 hf1=>ad.fit hn2 fun z2 hN2 h2 hf2=>ad.one h1 (ad.step (hf1 _) (ad.one h2 (ad.step (hf2 _) ?_)))))
  refine ad.app w (by simp) (by rw [bO.len hs4];simp;omega) fun v5 s7 fx ho w=> ?_
  have hw:=w.o _ List.mem_cons_self
  refine ad.some ⟨_,hw.1,hw.2, ?_, ?_,w.pz,w.k⟩
  ·rw [List.append_assoc (rc++xs)]
   exact bO.app hs4 (CC hN1 hN2)
  ·have:=fP iw r1
   simp only [dc,bq] at hd4 ⊢
   omega
end
section
variable {β:Type} {Q:β→Prop} {PT:TypeId} {st0 st s:St} {p:Nat} {L:List aQ} {x:AV} {d d':Nat} {r r':List aQ} {l l1 l2:List Vr} {os:List (AV×List AV)} {t:T}
theorem Lj {t:T} {e:AV} (h:kO t e) {β:Type} (K:AV→Option β):GA true e K=K e:=by
 cases t with
 | mk k tk tx l=>
  simp only [kO] at h
  obtain ⟨x,es,rfl,hx,_⟩:=h
  simp only [GA,aL,xC,F0,GF,hx.af,IG,Ij,Jm,hx.aV]
theorem Hb {t:T} {e:AV} (h:kO t e):e.cells.length=4:=by
 cases t with
 | mk k tk tx l=>
  simp only [kO] at h
  obtain ⟨x,es,rfl,hx,_⟩:=h
  rfl
theorem bO.mem: ∀{l:List T} {es:List AV},bO l es→ ∀e∈es,∃t∈l,kO t e
 | [],_,h,e,he=>by simp only [bO] at h;subst h;cases he
 | t::l,_,h,e,he=>by
  simp only [bO] at h
  obtain ⟨a,r,rfl,h1,h2⟩:=h
  rcases List.mem_cons.1 he with rfl | he
  ·exact ⟨t,List.mem_cons_self,h1⟩
  ·obtain ⟨u,hu,hi⟩:=bO.mem h2 e he
   exact ⟨u,List.mem_cons_of_mem _ hu,hi⟩
theorem EO {l:List T} {es:List AV} (h:bO l es) {β:Type} (K:List AV→Option β):pU true es K=K es:=CB (fun v hv K=>by
 obtain ⟨t,_,hi⟩:=h.mem v hv
 exact Lj hi K) K
theorem BB {l:List T} {es:List AV} (h:bO l es):tf 4 es=true:=DQ fun v hv=>by
 obtain ⟨t,_,hi⟩:=h.mem v hv
 exact Hb hi
theorem Jg (u:AV) (a o:Nat) (F:FuncId):(bz ([u,AV.mp a o].map strip)&& !vE.full F)=false:=by
 show (bz [strip u,.mp a o]&& _)=false
 simp only [bg]
 show (_&&(false&&true)&& _)=false
 simp
theorem N6 (l1:List Vr) {a:Nat} {k tk:Int} {tx:List UInt8} {v:AV} {es:List AV} {ts us:List T} {u:AV} {fs:List AV}
  (w:Wd PT st0 st p L x d r (l1++(a,ND,[.int .u8 k,.int .u8 tk,.str tx,v])::l2) ((v,es)::os)) (hns:bO ts es) (hu: ∀{γ:Type} (K:List AV→Option γ),lT u K=K fs) (hus:bO us fs) (hne:us≠[]) (hl:ts.length+us.length≤100000000):
  ad ((aG vE).wide 102 [u,.mp a 0] st) (fun b=>b.1= .tup []∧ ∃v',Wd PT st0 b.2 p L x d r (l1++(a,ND,[.int .u8 k,.int .u8 tk,.str tx,v'])::l2) ((v',es++fs)::os)):=by
 have hm:(a,ND,[AV.int .u8 k,.int .u8 tk,.str tx,v])∈l1++(a,ND,[AV.int .u8 k,.int .u8 tk,.str tx,v])::l2:=List.mem_append_right _ List.mem_cons_self
 have hfl:=bO.len hus
 have hel:=bO.len hns
 have hfn:fs≠[]:=by
  rintro rfl
  cases us with
  | nil=>exact hne rfl
  | cons _ _=>cases hfl
 refine ad.wide (ad.step (Lw _ _ _) ?_)
 unfold Qu
 refine ad.step (di _ _ _ _) ?_
 refine ad.mV hm w rfl ?_
 refine ad.step (hu _) (ad.step (EO hus _) (ad.step (kE (BB hus) _) ?_))
 refine ad.app w hfn (by omega) fun v' s fx ho w=> ?_
 refine ad.step (di _ _ _ _) (ad.one ho (ad.one ho ?_))
 exact ad.mC l1 w (Nat.le_of_ble_eq_true rfl) fun s3 fx3 w3=>ad.some ⟨rfl,v',w3⟩
theorem Gv.add {a b k:Nat} {ts us:List T} {u:AV} {fs:List AV} (h:Gv PT st0 s p L x d r a b k ts) (hu: ∀{γ:Type} (K:List AV→Option γ),lT u K=K fs) (hus:bO us fs) (hne:us≠[]) (hd:fc us≤1000000000000000) (hl:ts.length+us.length≤100000000) {K:Kv β} (g: ∀s fx,Gv PT st0 s p L x d r a b k (ts++us)→ad (K (.tup []) s fx) Q):
  ad (ak (aG vE) 102 [u,.mp a 0] s K) Q:=by
 obtain ⟨v,es,w,hs,hdd⟩:=h
 refine ad.iD (N6 [] w hs hu hus hne hl) rfl (Jg u a 0 _) fun v2 s2 h=> ?_
 obtain ⟨rfl,v',w'⟩:=h
 exact g s2 _ ⟨v',_,w',bO.app hs hus,by rw [dc];omega⟩
theorem Gv.ot {a b k:Nat} {ts:List T} (h:Gv PT st0 s p L x d r a b k ts) {F:FuncId} {args:List AV} (hc:NW PT F args s p L x d t r') (h1:vE.isLook F=false) (h2:(bz (args.map strip)&& !vE.full F)=false) (hl:ts.length+1≤100000000) {K:St→Option β} (g: ∀s,Gv PT st0 s p L x d r' a b k (ts++[t])→ad (K s) Q):
  ad (ak (aG vE) F args s fun u s _=>BC u fun n1 n2 tx y=>af y (af y (aV y fun y=>ak (aG vE) 102 [.sl 4 [.agg [.int .u8 n1,.int .u8 n2,.str tx,y]] .shut,.mp a 0] s fun _ s _=>K s))) Q:=by
 obtain ⟨v,es,w,hs,hd⟩:=h
 refine ad.node w hc h1 h2 fun k' tk' tx' y s hn hdt w'=> ?_
 refine ad.two hn (ad.fit hn fun y' hN h1 hf=> ?_)
 have hg:Gv PT st0 s p L x d r' a b k ts:=⟨v,es,w',hs,hd⟩
 exact hg.add (fun K=>rfl) (uZ hN) (by simp) (by rw [bq];exact hdt) hl fun s fx hg=>g s hg
theorem Gv.bw {a b k:Nat} {ts:List T} (pat:Bool) (h:Gv PP st0 s p L x d r a b k ts) {K:Bool→St→Fx→Option β} (g: ∀s',Gv PP st0 s' p L x d r a b k ts→ad (K (bw pat r) s' ⟨[],.all s s'⟩) Q):
  ad (ak (aG vE) 55 [.mp p 0,.int .u8 (rn pat:Int),.str (qZ pat)] s fun v s fx=>du v fun b=>K b s fx) Q:=by
 obtain ⟨v,es,w,hs,hd⟩:=h
 exact ad.bw pat w fun s' w'=>g s' ⟨v,es,w',hs,hd⟩
theorem Aw {n:Nat} (ih: ∀m,m < n→IH m) {a b k:Nat} {st5:St} (ha:st5.h=a) (hd:d≤64): ∀(m:Nat) (ts bs:List T) (r r':List aQ) (s:St),m≤n→P m .params d r=some (bs,r')→Gv PP st0 s p L x d r a b k ts→ts.length+m≤100000000→
  ad (bu (uf (.mp p 0) st5) ([],s)) (fun q=> ∃s',q=(0,[],s')∧Gv PP st0 s' p L x d r' a b k (ts++bs)):=by
 intro m
 induction m with
 | zero=>intro ts bs r r' s _ h;cases h
 | succ m ihm=>
  intro ts bs r r' s hm h hg hl
  simp only [P] at h
  split at h
  ·rename_i hb
   obtain ⟨⟨a1,r1⟩,e1,h⟩:=bind_some h
   obtain ⟨u,rfl⟩:=fK _ _ _ _ _ _ e1 rfl
   obtain ⟨⟨b1,r2⟩,e2,h⟩:=bind_some h
   cases h
   have hgo:ad (uf (.mp p 0) st5 ([],s)) (fun q=> ∃s',q= .inl ([],s')∧Gv PP st0 s' p L x d r1 a b k (ts++[u])):=by
    simp only [uf,ah,ha]
    refine hg.bw true fun s1 hg=> ?_
    rw [hb]
    refine ad.step (aH _ _) ?_
    exact hg.ot ((ih m (by omega)).atom true _ p L x d r u r1 hg.pz hd e1) rfl rfl (by omega) fun s' hg=>ad.some ⟨s',rfl,hg⟩
   obtain ⟨q,e,s',rfl,hg'⟩:=hgo
   rw [bR e]
   refine (ihm _ b1 r1 _ s' (by omega) e2 hg' (by simp;omega)).mono ?_
   rintro q ⟨s2,rfl,hg2⟩
   exact ⟨s2,rfl,by simpa using hg2⟩
  ·rename_i hb
   cases h
   have hgo:ad (uf (.mp p 0) st5 ([],s)) (fun q=> ∃s',q= .inr (0,[],s')∧Gv PP st0 s' p L x d r a b k ts):=by
    simp only [uf,ah,ha]
    refine hg.bw true fun s1 hg=> ?_
    rw [eq_false_of_ne_true hb]
    exact ad.step (aB _ _) (ad.some ⟨s1,rfl,hg⟩)
   obtain ⟨q,e,s',rfl,hg'⟩:=hgo
   exact ⟨_,bC e,s',rfl,by simpa using hg'⟩
theorem Hi {n:Nat} (ih: ∀m,m < n→IH m) {a b k:Nat} {st5:St} (ha:st5.h=a) (hd:d≤64): ∀(m:Nat) (ts bs:List T) (r r':List aQ) (s:St),m≤n→P m .arms d r=some (bs,r')→Gv PP st0 s p L x d r a b k ts→ts.length+2 * m≤100000000→
  ad (bu (uo (.mp p 0) st5) ([],s)) (fun q=> ∃s',q=(0,[],s')∧Gv PP st0 s' p L x d r' a b k (ts++bs)):=by
 intro m
 induction m with
 | zero=>intro ts bs r r' s _ h;cases h
 | succ m ihm=>
  intro ts bs r r' s hm h hg hl
  simp only [P] at h
  split at h
  ·rename_i hb
   obtain ⟨⟨a1,r1⟩,e1,h⟩:=bind_some h
   obtain ⟨u,rfl⟩:=fK _ _ _ _ _ _ e1 rfl
   obtain ⟨⟨b1,r2⟩,e2,h⟩:=bind_some h
   cases h
   have hgo:ad (uo (.mp p 0) st5 ([],s)) (fun q=> ∃s',q= .inl ([],s')∧Gv PP st0 s' p L x d r1 a b k (ts++[aN r]++[u])):=by
    simp only [uo,ah,ha]
    refine hg.is fun s1 hg=> ?_
    refine ad.step (eY (c:=true) hb _ _) (ad.step (aH _ _) ?_)
    refine hg.ot (iz hg.pz) rfl rfl (by omega) fun s' hg=> ?_
    exact hg.ot ((ih m (by omega)).arm _ p L x d _ u r1 hg.pz hd e1) rfl rfl (by simp;omega) fun s' hg=>ad.some ⟨s',rfl,hg⟩
   obtain ⟨q,e,s',rfl,hg'⟩:=hgo
   rw [bR e]
   refine (ihm _ b1 r1 _ s' (by omega) e2 hg' (by simp;omega)).mono ?_
   rintro q ⟨s2,rfl,hg2⟩
   exact ⟨s2,rfl,by simpa using hg2⟩
  ·rename_i hb
   cases h
   have hgo:ad (uo (.mp p 0) st5 ([],s)) (fun q=> ∃s',q= .inr (0,[],s')∧Gv PP st0 s' p L x d r a b k ts):=by
    simp only [uo,ah,ha]
    refine hg.is fun s1 hg=> ?_
    exact ad.step (eY (c:=false) (eq_false_of_ne_true hb) _ _) (ad.step (aB _ _) (ad.some ⟨s1,rfl,hg⟩))
   obtain ⟨q,e,s',rfl,hg'⟩:=hgo
   exact ⟨_,bC e,s',rfl,by simpa using hg'⟩
def RX (n:Nat) (st s:St) (p:Nat) (L:List aQ) (x:AV) (d a b:Nat) (t:T) (r':List aQ):Prop:= ∃k ts e r3,Gv PP st s p L x d r3 a b k ts∧P n .expr d r3=some ([e],r')∧t=node k (ts++[e])∧ts.length≤50000000
def WR (M:St→Prop) (Q:AV×St→Prop):Sum dK (AV×St)→Prop
 | .inl q=> ∃s,q=([],s)∧M s
 | .inr b=>Q b
def SR (M:St→Prop) (Q:AV×St→Prop):Sum dK (Sum dK (AV×St))→Prop
 | .inl q=> ∃s,q=([],s)∧M s
 | .inr b=>WR M Q b
theorem DM {n:Nat} (ih: ∀m,m≤n→IH m) (hn:n≤10000000):qI 85 (fun _=>[]) .whole (n+1):=by
 intro st p L x d r t r' hp hd h
 have hdt:gq t≤200000000000000:=by
  have:=Mg (n+1) .whole d r [t] r' h
  rw [show dA gX.whole=[] from rfl,bh,bq] at this
  have hq:(n+1) * (n+1)≤10000001 * 10000001:=Nat.mul_le_mul (by omega) (by omega)
  omega
 simp only [P] at h
 refine ad.wide (ad.step (Mr _ _) ?_)
 unfold R6
 refine ad.alloc (Wd.begin hp) fun s0 h0 w=> ?_
 refine ad.alloc w fun s1 _ w=> ?_
 refine ad.G7 w fun s2 w=> ?_
 have ihn:=ih n (Nat.le_refl _)
 have dtk:=dp r
 refine ad.bind (R:=WR (fun s=>RX n st s p L x d s0.h st.h t r') (NQ PP st p L x d t r')) ?_ ?_
 ·split at h
  ·rename_i hb
   obtain ⟨⟨bs,r2⟩,e1,h⟩:=bind_some h
   obtain ⟨⟨es,r3⟩,e2,h⟩:=bind_some h
   obtain ⟨e,rfl⟩:=fK _ _ _ _ _ _ e2 rfl
   cases h
   refine ad.step (eY (c:=true) hb _ _) (ad.step (aH _ _) ?_)
   refine ad.mC [] w (Nat.le_of_ble_eq_true rfl) fun s3 _ w=> ?_
   have hg:Gv PP st s3 p L x d r s0.h st.h 6 []:=⟨_,_,w.aq,bO.nil,by simp [bh]⟩
   refine hg.ot (iz hg.pz) rfl rfl (by simp) fun s4 hg=> ?_
   refine ad.iD (ihn.binding s4 p L x d _ bs r2 hg.pz hd e1) rfl rfl fun v s5 hv=> ?_
   obtain ⟨es,ho,_,hns,hdl,hp5,hk5⟩:=hv
   have hbl:=uX _ _ _ _ _ e1
   have hg:Gv PP st s5 p L x d r2 s0.h st.h 6 ([]++[aN r]):=by
    obtain ⟨v,es,w,hs,hd⟩:=hg
    exact ⟨v,es,w.move hk5 hp5,hs,hd⟩
   refine hg.add (fun K=>(Bi.own ho).elems K) hns hbl.2 hdl (by simp;omega) fun s6 _ hg=> ?_
   refine hg.ot (oa hg.pz _) rfl rfl (by simp;omega) fun s7 hg=> ?_
   exact ad.some ⟨s7,rfl,6,_,e,_,hg,e2,by simp [List.append_assoc];rfl,by simp;omega⟩
  rename_i hb
  refine ad.step (eY (c:=false) (eq_false_of_ne_true hb) _ _) (ad.step (aB _ _) ?_)
  refine ad.G7 w fun s3 w=> ?_
  refine ad.bind (R:=SR (fun s=>RX n st s p L x d s0.h st.h t r') (NQ PP st p L x d t r')) ?_ ?_
  ·split at h
   ·rename_i hb
    obtain ⟨⟨a1,r1⟩,e1,h⟩:=bind_some h
    obtain ⟨u,rfl⟩:=fK _ _ _ _ _ _ e1 rfl
    obtain ⟨⟨ps,r2⟩,e2,h⟩:=bind_some h
    obtain ⟨⟨es,r3⟩,e3,h⟩:=bind_some h
    obtain ⟨e,rfl⟩:=fK _ _ _ _ _ _ e3 rfl
    cases h
    have hpl:=rQ _ _ _ _ _ e2
    refine ad.step (eY (c:=true) hb _ _) (ad.step (aH _ _) ?_)
    refine ad.mC [] w (Nat.le_of_ble_eq_true rfl) fun s4 _ w=> ?_
    have hg:Gv PP st s4 p L x d r s0.h st.h 7 []:=⟨_,_,w.aq,bO.nil,by simp [bh]⟩
    refine hg.ot (iz hg.pz) rfl rfl (by simp) fun s4 hg=> ?_
    refine hg.ot (ihn.atom true _ p L x d _ u r1 hg.pz hd e1) rfl rfl (by simp) fun s5 hg=> ?_
    refine ad.bind (Aw (fun m hm=>ih m (by omega)) rfl hd n _ ps _ r2 s5 (Nat.le_refl _) e2 hg (by simp;omega)) ?_
    rintro q ⟨s6,rfl,hg⟩
    refine ad.step (ah _) ?_
    refine hg.ot (oa hg.pz _) rfl rfl (by simp;omega) fun s7 hg=> ?_
    exact ad.some ⟨s7,rfl,7,_,e,_,hg,e3,by simp [List.append_assoc];rfl,by simp;omega⟩
   rename_i hb
   refine ad.step (eY (c:=false) (eq_false_of_ne_true hb) _ _) (ad.step (aB _ _) ?_)
   refine ad.G7 w fun s4 w=> ?_
   split at h
   ·rename_i hb
    obtain ⟨⟨a1,r1⟩,e1,h⟩:=bind_some h
    obtain ⟨u,rfl⟩:=fK _ _ _ _ _ _ e1 rfl
    obtain ⟨⟨b1,r2⟩,e2,h⟩:=bind_some h
    obtain ⟨v,rfl⟩:=fK _ _ _ _ _ _ e2 rfl
    obtain ⟨⟨es,r3⟩,e3,h⟩:=bind_some h
    obtain ⟨e,rfl⟩:=fK _ _ _ _ _ _ e3 rfl
    cases h
    refine ad.step (eY (c:=true) hb _ _) (ad.step (aH _ _) ?_)
    refine ad.mC [] w (Nat.le_of_ble_eq_true rfl) fun s4 _ w=> ?_
    have hg:Gv PP st s4 p L x d r s0.h st.h 8 []:=⟨_,_,w.aq,bO.nil,by simp [bh]⟩
    refine hg.ot (iz hg.pz) rfl rfl (by simp) fun s4 hg=> ?_
    refine hg.ot (ihn.expr _ p L x d _ u r1 hg.pz hd e1) rfl rfl (by simp) fun s5 hg=> ?_
    refine hg.ot (oa hg.pz _) rfl rfl (by simp) fun s6 hg=> ?_
    refine hg.ot (ihn.expr _ p L x d _ v r2 hg.pz hd e2) rfl rfl (by simp) fun s7 hg=> ?_
    refine hg.ot (oa hg.pz _) rfl rfl (by simp) fun s8 hg=> ?_
    exact ad.some ⟨s8,rfl,8,_,e,_,hg,e3,rfl,by simp⟩
   rename_i hb
   refine ad.step (eY (c:=false) (eq_false_of_ne_true hb) _ _) (ad.step (aB _ _) ?_)
   refine ad.G7 w fun s5 w=> ?_
   split at h
   ·rename_i hb
    obtain ⟨⟨a1,r1⟩,e1,h⟩:=bind_some h
    obtain ⟨u,rfl⟩:=fK _ _ _ _ _ _ e1 rfl
    obtain ⟨⟨b1,r3⟩,e2,h⟩:=bind_some h
    obtain ⟨v,rfl⟩:=fK _ _ _ _ _ _ e2 rfl
    obtain ⟨⟨cs,r4⟩,e3,h⟩:=bind_some h
    cases h
    have hal:=Jk _ _ _ _ _ e3
    refine ad.step (eY (c:=true) hb _ _) (ad.step (aH _ _) ?_)
    refine ad.mC [] w (Nat.le_of_ble_eq_true rfl) fun s4 _ w=> ?_
    have hg:Gv PP st s4 p L x d r s0.h st.h 9 []:=⟨_,_,w.aq,bO.nil,by simp [bh]⟩
    refine hg.ot (iz hg.pz) rfl rfl (by simp) fun s4 hg=> ?_
    refine hg.ot (ihn.expr _ p L x d _ u r1 hg.pz hd e1) rfl rfl (by simp) fun s5 hg=> ?_
    refine hg.ot (oa hg.pz _) rfl rfl (by simp) fun s6 hg=> ?_
    refine hg.is fun s7 hg=> ?_
    refine ad.bind (R:=fun c=> ∃s,c=([],s)∧Gv PP st s p L x d (if bN gB (aT bp r1)=true then aJ (aT bp r1) else aT bp r1) s0.h st.h 9 ([aN r]++[u]++[bX bp r1]++if bN gB (aT bp r1)=true then [aN (aT bp r1)] else [])) ?_ ?_
    ·cases hb2:bN gB (aT bp r1) with
     | true=>
      refine ad.step (eY (c:=true) hb2 _ _) (ad.step (aH _ _) ?_)
      exact hg.ot (iz hg.pz) rfl rfl (by simp) fun s8 hg=>ad.some ⟨s8,rfl,hg⟩
     | false=>
      refine ad.step (eY (c:=false) hb2 _ _) (ad.step (aB _ _) ?_)
      exact ad.some ⟨s7,rfl,by rw [if_neg (by simp),if_neg (by simp),List.append_nil];exact hg⟩
    ·rintro c ⟨s8,rfl,hg⟩
     have hbl:(if bN gB (aT bp r1)=true then [aN (aT bp r1)] else []).length≤1:=by split <;> simp
     generalize (if bN gB (aT bp r1)=true then [aN (aT bp r1)] else [])=bar at hbl hg hdt ⊢
     refine ad.step (ah _) ?_
     refine hg.ot (ihn.arm _ p L x d _ v r3 hg.pz hd e2) rfl rfl (by simp;omega) fun s9 hg=> ?_
     refine ad.bind (Hi (fun m hm=>ih m (by omega)) rfl hd n _ cs _ _ s9 (Nat.le_refl _) e3 hg (by simp;omega)) ?_
     rintro q ⟨s10,rfl,hg⟩
     refine ad.step (ah _) ?_
     refine hg.nd.load fun k tk tx y w hnd=>ad.two hnd ?_
     refine ad.store [_] w fun s11 _ w=> ?_
     refine ad.bind (R:=fun c=> ∃b,c= .inr b∧NQ PP st p L x d _ _ b) (ad.bind (R:=NQ PP st p L x d (node 9 ([aN r]++[u]++[bX bp r1]++bar++[v]++cs)) _) (ad.lG (List.mem_cons_of_mem _ List.mem_cons_self) w (ad.some ⟨hnd.vn,Nat.le_trans hdt (by omega),w.pz,w.k⟩)) fun b hb=>ad.some ⟨b,rfl,hb⟩) ?_
     rintro c ⟨b,rfl,hb⟩
     exact ad.some hb
   ·rename_i hb
    refine ad.step (eY (c:=false) (eq_false_of_ne_true hb) _ _) (ad.step (aB _ _) ?_)
    refine ad.node w (ihn.level 0 (by omega) _ p L x d r t r' w.pz hd h) rfl rfl fun k tk tx y s hnd hdt' w=>ad.two hnd ?_
    refine ad.store [_] w fun s11 _ w=> ?_
    refine ad.bind (R:=fun c=> ∃b,c= .inr b∧NQ PP st p L x d t r' b) (ad.bind (R:=NQ PP st p L x d t r') (ad.lG (List.mem_cons_of_mem _ List.mem_cons_self) w (ad.some ⟨hnd.vn,hdt',w.pz,w.k⟩)) fun b hb=>ad.some ⟨b,rfl,hb⟩) ?_
    rintro c ⟨b,rfl,hb⟩
    exact ad.some hb
  ·intro c hc
   match c,hc with
   | .inl q,hc=>
    obtain ⟨s,rfl,hm⟩:=hc
    exact ad.some ⟨s,rfl,hm⟩
   | .inr b,hc=>exact ad.some hc
 ·intro c hc
  match c,hc with
  | .inl q,hc=>
   obtain ⟨s,rfl,k,ts,e,r3,hg,he,rfl,hl⟩:=hc
   refine ad.step (dC _ _) (ad.step (ah _) ?_)
   refine hg.ot (ihn.expr _ p L x d _ e r' hg.pz hd he) rfl rfl (by omega) fun s4 hg=> ?_
   exact hg.nd.fin (Nat.le_trans hdt (by omega))
  | .inr b,hc=>exact ad.some hc
theorem Om: ∀n,n≤10000000→IH n:=by
 intro n
 induction n using Nat.strongRecOn with
 | _ n ih=>
  intro hn
  cases n with
  | zero=>
   refine ⟨?_, ?_,fun k _=> ?_, ?_,fun pat=> ?_,fun list pat=> ?_, ?_, ?_, ?_⟩
   all_goals
    intro st p L x d r t r' _ _ h
    cases h
  | succ n=>
   have ih': ∀m,m≤n→IH m:=fun m hm=>ih m (by omega) (by omega)
   have i:=ih' n (Nat.le_refl _)
   have hn':n≤10000000:=by omega
   exact ⟨G6 i,DM ih' hn',fun k hk=>DY ih' hn' k hk,H7 ih' hn',fun pat=>Gj i pat,fun list pat=>CE ih' hn' list pat,AF i hn',Iz i hn',AA ih' hn'⟩
end
section
variable {β:Type} {Q:β→Prop} {PT:TypeId} {st0 st s:St} {p:Nat} {L:List aQ} {x:AV} {d d':Nat} {r r':List aQ} {l l1 l2:List Vr} {os:List (AV×List AV)} {t:T}
abbrev TO:TypeId:=41
theorem _root_.Go.VM.ad.renew {tk:Nat} {a:Int} {b:List UInt8} (w:Wd PP st0 st p L x d r l os) (hm:(tk,TO,[.int .u8 a,.str b])∈l) {K:St→Option β} (g: ∀s',Wd PP st0 s' p L x d r ((st.h,TO,[.int .u8 ((nx r).1:Int),.str (nx r).2])::l) os→ad (K s') Q):
  ad (aA 2 true (.mp tk 0) st fun v _=>ui v fun cs=>bK cs fun u cs=>bV .u8 u fun n=>bK cs fun u cs=>fY u fun tx=>cT cs (bP (St.add st (.cells TO [.int .u8 0,.str []])) fun s1=>ao (aG vE) 2 (.mp (St.h st) 0) (.agg [.int .u8 n,.str tx]) [.int .u8 n,.str tx] s1 fun _ s2 _=>
   ak (aG vE) 37 [.mp p 0] s2 fun v s _=>iy v fun vs=>da vs 0 fun u=>ui u fun cs=>bK cs fun a cs=>bV .u8 a fun n=>bK cs fun b cs=>fY b fun tx=>cT cs (iy v fun vs=>da vs 1 fun u=>bV .i64 u fun _=>ao (aG vE) 2 (.mp (St.h st) 0) (.agg [.int .u8 n,.str tx]) [.int .u8 n,.str tx] s fun _ s' _=>K s'))) Q:=by
 refine ad.PC hm w ?_
 simp only [aL,ag,aj,az,ah]
 refine ad.alloc w fun s1 _ w1=>ad.store [] w1 fun s2 _ w2=> ?_
 obtain ⟨i,h,rfl⟩:=w2.pz
 obtain ⟨s3,k,e⟩:=nv h
 refine ad.step (e _) ?_
 simp only [dj,bS,cA,aL,ag,aj,az,ah]
 exact ad.store [] (w2.quiet k) fun s4 _ w4=>g s4 w4
theorem AH {a b:Nat} (h:a≠b):((a:Int) != (b:Int))=true:=by
 rw [bne,beq_eq_false_iff_ne.2 (show (a:Int)≠(b:Int) by omega)];rfl
theorem Hj {c26:dK} {kc:Nat} (hc:c26.2.h=kc): ∀(m:Nat) (r:List aQ) (tk:Nat) (ts:List T) (es:List AV) (v:AV) (s:St) (os:List (AV×List AV)),
  Wd PP st0 s p L x d r ([(tk,TO,[.int .u8 ((nx r).1:Int),.str (nx r).2])]++(kc,ND,[.int .u8 3,.int .u8 0,.str [],v])::l2) ((v,es)::os)→bO ts es→fc ts≤2→ts.length+m≤100000000→r.length≤m→
  ad (bu (py (.mp p 0) c26) ([.mp tk 0],s)) (fun q=> ∃s' v' es',q=(0,[],s')∧Wd PP st0 s' p L x d (skip m r).2 ((kc,ND,[.int .u8 3,.int .u8 0,.str [],v'])::l2) ((v',es')::os)∧bO (ts++(skip m r).1) es'∧fc (ts++(skip m r).1)≤2):=by
 intro m
 induction m with
 | zero=>
  intro r tk ts es v s os w hns hdl hl hr
  obtain rfl:r=[]:=List.eq_nil_of_length_eq_zero (by omega)
  simp only [skip,List.append_nil]
  have hgo:ad (py (.mp p 0) c26 ([.mp tk 0],s)) (fun q=>q= .inr (0,[],s)):=by
   simp only [py,ag,ah]
   refine ad.bind (R:=fun c=>c=([.bool false],s)) ?_ ?_
   ·refine ad.step (di _ _ _ _) ?_
    refine ad.mV (List.mem_cons_self) w rfl (ad.step (aj _ _ _) ?_)
    exact ad.some rfl
   ·rintro c rfl
    exact ad.some rfl
  obtain ⟨q,e,rfl⟩:=hgo
  exact ⟨_,bC e,s,v,es,rfl,w.sub (List.Sublist.cons _ (List.Sublist.refl _)),hns,hdl⟩
 | succ m ihm=>
  intro r tk ts es v s os w hns hdl hl hr
  by_cases hcond:(nx r).1≠0∧bN fE r=false
  ·have hgo:ad (py (.mp p 0) c26 ([.mp tk 0],s)) (fun q=> ∃tk' s' v' e,q= .inl ([.mp tk' 0],s')∧Wd PP st0 s' p L x d (aJ r) ([(tk',TO,[.int .u8 ((nx (aJ r)).1:Int),.str (nx (aJ r)).2])]++(kc,ND,[.int .u8 3,.int .u8 0,.str [],v'])::l2) ((v',es++[e])::os)∧bO (ts++[aN r]) (es++[e])):=by
    simp only [py,ag,ah,hc]
    refine ad.bind (R:=fun c=> ∃s',c=([.bool true],s')∧Wd PP st0 s' p L x d r ([(tk,TO,[.int .u8 ((nx r).1:Int),.str (nx r).2])]++(kc,ND,[.int .u8 3,.int .u8 0,.str [],v])::l2) ((v,es)::os)) ?_ ?_
    ·refine ad.step (di _ _ _ _) ?_
     refine ad.mV (List.mem_cons_self) w rfl (ad.step (aj _ _ _) ?_)
     refine ad.step (eY (c:=true) (AH (b:=0) hcond.1) _ _) (ad.step (aH _ _) ?_)
     refine ad.G7 w fun s1 w=> ?_
     exact ad.some ⟨s1,by rw [show bN [108,101,116] r=false from hcond.2];rfl,w⟩
    ·rintro c ⟨s1,rfl,w⟩
     simp only [ag,ah,aC,aH]
     refine ad.grow [_] w (iz w.pz) rfl rfl hns (by omega) (by omega) fun v' e s2 hns' _ w=> ?_
     refine ad.renew w (tk:=tk) List.mem_cons_self fun s3 w=> ?_
     refine ad.some ⟨_,s3,v',e,rfl,w.sub ?_,hns'⟩
     exact List.Sublist.cons_cons _ (List.Sublist.cons _ (List.Sublist.refl _))
   obtain ⟨q,e,tk',s',v',e1,rfl,w',hns'⟩:=hgo
   rw [bR e]
   have hlt:=eA hcond.1
   have hsk:skip (m+1) r=(aN r::(skip m (aJ r)).1,(skip m (aJ r)).2):=by
    simp only [skip]
    rw [if_pos hcond]
   rw [hsk]
   refine (ihm (aJ r) tk' _ _ v' s' os w' hns' ?_ (by simp;omega) (by omega)).mono ?_
   ·have:=dp r
    rw [dc,bq]
    omega
   ·rintro q ⟨s2,v2,es2,rfl,w2,hn2,hd2⟩
    exact ⟨s2,v2,es2,rfl,w2,by simpa using hn2,by simpa using hd2⟩
  ·have hsk:skip (m+1) r=([],r):=by
    simp only [skip]
    rw [if_neg hcond]
   rw [hsk,List.append_nil]
   have hgo:ad (py (.mp p 0) c26 ([.mp tk 0],s)) (fun q=> ∃s',q= .inr (0,[],s')∧Wd PP st0 s' p L x d r ([(tk,TO,[.int .u8 ((nx r).1:Int),.str (nx r).2])]++(kc,ND,[.int .u8 3,.int .u8 0,.str [],v])::l2) ((v,es)::os)):=by
    simp only [py,ag,ah]
    refine ad.bind (R:=fun c=> ∃s',c=([.bool false],s')∧Wd PP st0 s' p L x d r ([(tk,TO,[.int .u8 ((nx r).1:Int),.str (nx r).2])]++(kc,ND,[.int .u8 3,.int .u8 0,.str [],v])::l2) ((v,es)::os)) ?_ ?_
    ·refine ad.step (di _ _ _ _) ?_
     refine ad.mV (List.mem_cons_self) w rfl (ad.step (aj _ _ _) ?_)
     by_cases h0:(nx r).1=0
     ·rw [h0]
      exact ad.some ⟨s,rfl,by rw [h0] at w;exact w⟩
     ·have hb:bN fE r=true:=by
       cases hb:bN fE r with
       | true=>rfl
       | false=>exact absurd ⟨h0,hb⟩ hcond
      refine ad.step (eY (c:=true) (AH (b:=0) h0) _ _) (ad.step (aH _ _) ?_)
      refine ad.G7 w fun s1 w=> ?_
      exact ad.some ⟨s1,by rw [show bN [108,101,116] r=true from hb];rfl,w⟩
    ·rintro c ⟨s1,rfl,w⟩
     exact ad.some ⟨s1,rfl,w⟩
   obtain ⟨q,e,s',rfl,w'⟩:=hgo
   exact ⟨_,bC e,s',v,es,rfl,w'.sub (List.Sublist.cons _ (List.Sublist.refl _)),hns,hdl⟩
theorem JB (n:Nat) (r:List aQ):fc (skip n r).1≤2:=by
 induction n generalizing r with
 | zero=>simp [skip,bh]
 | succ n ih=>
  simp only [skip]
  split
  ·have:=dp r
   have:=ih (aJ r)
   simp only [cb]
   omega
  ·simp [bh]
theorem yz {s0:St} {a b:Nat} (ha:s0.h=a): ∀(N:Nat) (r:List aQ) (D:List T) (tk:Nat) (ts:List T) (es:List AV) (v:AV) (s:St),N≤10000000→decls N r=some D→r.length≤1000000→
  Wd PP st0 s p L x 0 r ([(tk,TO,[.int .u8 ((nx r).1:Int),.str (nx r).2])]++(a,ND,[.int .u8 4,.int .u8 0,.str [],v])::[(b,ND,z4)]) [(v,es)]→bO ts es→fc ts≤500000000000000→ts.length+N≤90000000→
  ad (bu (rL (.mp p 0) s0) ([.mp tk 0],s)) (fun q=> ∃s' rE D0,q=(0,[],s')∧D=D0++[aN rE]∧Gv PP st0 s' p L x 0 rE a b 4 (ts++D0)∧(ts++D0).length≤90000000∧fc (ts++D0)≤500000000000000):=by
 intro N
 induction N with
 | zero=>intro r D tk ts es v s _ h;cases h
 | succ n ihn=>
  intro r D tk ts es v s hN h hrl w hns hdl hl
  simp only [decls] at h
  split at h
  ·rename_i h0
   cases h
   have hgo:ad (rL (.mp p 0) s0 ([.mp tk 0],s)) (fun q=>q= .inr (0,[],s)):=by
    simp only [rL,ag,ah]
    refine ad.step (di _ _ _ _) ?_
    refine ad.mV (List.mem_cons_self) w rfl (ad.step (aj _ _ _) ?_)
    rw [h0]
    exact ad.some rfl
   obtain ⟨q,e,rfl⟩:=hgo
   exact ⟨_,bC e,s,r,[],rfl,rfl,⟨v,es,w.sub (List.Sublist.cons _ (List.Sublist.refl _)),by simpa using hns,by rw [List.append_nil];omega⟩,by simp;omega,by rw [List.append_nil];exact hdl⟩
  ·rename_i h0
   have hst: ∃(u:T) (r1:List aQ) (D1:List T),decls n r1=some D1∧D=u::D1∧gq u≤300000000000000∧r1.length≤r.length∧
     ad (rL (.mp p 0) s0 ([.mp tk 0],s)) (fun q=> ∃tk' s' v' e,q= .inl ([.mp tk' 0],s')∧Wd PP st0 s' p L x 0 r1 ([(tk',TO,[.int .u8 ((nx r1).1:Int),.str (nx r1).2])]++(a,ND,[.int .u8 4,.int .u8 0,.str [],v'])::[(b,ND,z4)]) [(v',es++[e])]∧kO u e):=by
    have back: ∀(kc:Nat) (k:Nat) (u:T) (r1:List aQ) (s5:St) (vk:AV),Nd u k 0 [] vk→
      Wd PP st0 s5 p L x 0 r1 ((kc,ND,[.int .u8 (k:Int),.int .u8 0,.str [],vk])::(tk,TO,[.int .u8 ((nx r).1:Int),.str (nx r).2])::(a,ND,[.int .u8 4,.int .u8 0,.str [],v])::[(b,ND,z4)]) [(v,es)]→
      ad (aA 1 false (.mp a 3) s5 fun v166 _=>aA 4 true (.mp kc 0) s5 fun v168 _=>BC v168 fun n1 n2 tx y=>af y (af y (aV y fun y=>af y (aV y fun y=>gf 4 56 ND v166 [.agg [.int .u8 n1,.int .u8 n2,.str tx,y]] s5 fun v185 s6 _=>af v185 (af v185 (ao (aG vE) 1 (.mp a 3) v185 [v185] s6 fun _ s7 _=>
       aA 2 true (.mp tk 0) s7 fun v _=>ui v fun cs=>bK cs fun u cs=>bV .u8 u fun n=>bK cs fun u cs=>fY u fun tx=>cT cs (bP (St.add s7 (.cells TO [.int .u8 0,.str []])) fun s1=>ao (aG vE) 2 (.mp (St.h s7) 0) (.agg [.int .u8 n,.str tx]) [.int .u8 n,.str tx] s1 fun _ s2 _=>
        ak (aG vE) 37 [.mp p 0] s2 fun v s _=>iy v fun vs=>da vs 0 fun u=>ui u fun cs=>bK cs fun a cs=>bV .u8 a fun n=>bK cs fun b cs=>fY b fun tx=>cT cs (iy v fun vs=>da vs 1 fun u=>bV .i64 u fun _=>ao (aG vE) 2 (.mp (St.h s7) 0) (.agg [.int .u8 n,.str tx]) [.int .u8 n,.str tx] s fun _ s' _=>some (Sum.inl (β:=Nat×dK) ([AV.mp (St.h s7) 0],s'))))))))))
       (fun q=> ∃tk' s' v' e,q= .inl ([.mp tk' 0],s')∧Wd PP st0 s' p L x 0 r1 ([(tk',TO,[.int .u8 ((nx r1).1:Int),.str (nx r1).2])]++(a,ND,[.int .u8 4,.int .u8 0,.str [],v'])::[(b,ND,z4)]) [(v',es++[e])]∧kO u e):=by
     intro kc k u r1 s5 vk hnd w
     refine ad.mV (a:=a) (List.mem_cons_of_mem _ (List.mem_cons_of_mem _ List.mem_cons_self)) w rfl ?_
     refine ad.lG (List.mem_cons_self) w ?_
     refine ad.two hnd (ad.fit hnd fun y' hN h1 hf=>ad.one h1 (ad.step (hf _) (ad.app w (by simp) (by rw [bO.len hns];simp;omega) fun v' s6 _ ho w=> ?_)))
     refine ad.one ho (ad.one ho (ad.mC [_,_] w (Nat.le_of_ble_eq_true rfl) fun s7 _ w=> ?_))
     refine ad.renew w (tk:=tk) (List.mem_cons_of_mem _ List.mem_cons_self) fun s8 w=> ?_
     refine ad.some ⟨_,s8,v',_,rfl,w.sub ?_,hN⟩
     exact List.Sublist.cons_cons _ (List.Sublist.cons _ (List.Sublist.cons _ (List.Sublist.refl _)))
    split at h
    ·rename_i hb
     obtain ⟨⟨bs,r1⟩,e1,h⟩:=bind_some h
     obtain ⟨D1,e2,h⟩:=bind_some h
     cases h
     have hbd:=ED (by omega:n≤10000000) e1 rfl
     have hbl:=uX _ _ _ _ _ e1
     have hdt:=dp r
     refine ⟨_,r1,D1,e2,rfl,by simp only [cC,cb];omega, ?_, ?_⟩
     ·have:=zj (Q:=fun q=>q.length≤r.length) (fun q hq=>Nat.le_trans (km q) hq) _ _ _ _ _ _ e1 (km r)
      exact this
     simp only [rL,ag,ah,ha]
     refine ad.step (di _ _ _ _) ?_
     refine ad.mV (List.mem_cons_self) w rfl (ad.step (aj _ _ _) ?_)
     refine ad.step (eY (c:=true) (AH (b:=0) h0) _ _) (ad.step (aH _ _) ?_)
     refine ad.alloc w fun s1 _ w=> ?_
     refine ad.G7 w fun s2 w=> ?_
     refine ad.bind (R:=fun c=> ∃s5 vk,c=([],s5)∧Nd (node 5 (aN r::bs)) 5 0 [] vk∧Wd PP st0 s5 p L x 0 r1 ((s.h,ND,[.int .u8 ((5:Nat):Int),.int .u8 0,.str [],vk])::(tk,TO,[.int .u8 ((nx r).1:Int),.str (nx r).2])::(a,ND,[.int .u8 4,.int .u8 0,.str [],v])::[(b,ND,z4)]) [(v,es)]) ?_ ?_
     ·refine ad.step (eY (c:=true) hb _ _) (ad.step (aH _ _) ?_)
      refine ad.take w fun k tk' tx y s3 hnd hdt' w=> ?_
      refine ad.two hnd (ad.fit hnd fun z1 hN1 _ _=> ?_)
      refine ad.iD ((Om n (by omega)).binding s3 p L x 0 _ bs r1 w.pz (by omega) e1) rfl rfl fun v4 s4 hv=> ?_
      obtain ⟨es4,ho,_,hns4,hdl4,hp4,hk4⟩:=hv
      have w4:=w.move hk4 hp4
      refine ad.step ((Bi.own ho).elems _) (ad.step (EO hns4 _) (ad.step (kE (BB hns4) _) ?_))
      have hfl:=bO.len hns4
      refine ad.app (w4.shut (es:=[_]) (by simp)) (by
       intro e
       rw [e] at hfl
       exact hbl.2 (List.eq_nil_of_length_eq_zero hfl.symm)) (by rw [hfl];simp;omega) fun v5 s5 _ ho5 w5=> ?_
      refine ad.one ho5 (ad.one ho5 ?_)
      refine ad.store [] w5 fun s6 _ w6=> ?_
      exact ad.some ⟨s6,v5,rfl,⟨⟨_,_,rfl,w6.Px,bO.cons hN1 hns4⟩⟩,w6.drop⟩
     ·rintro c ⟨s5,vk,rfl,hnd,w⟩
      refine ad.step (ah _) ?_
      exact back s.h 5 _ r1 s5 vk hnd w
    ·rename_i hb
     obtain ⟨D1,e2,h⟩:=bind_some h
     cases h
     refine ⟨_,_,D1,e2,rfl,by have:=JB r.length r;simp only [cC];omega,zX _ _, ?_⟩
     simp only [rL,ag,ah,ha]
     refine ad.step (di _ _ _ _) ?_
     refine ad.mV (List.mem_cons_self) w rfl (ad.step (aj _ _ _) ?_)
     refine ad.step (eY (c:=true) (AH (b:=0) h0) _ _) (ad.step (aH _ _) ?_)
     refine ad.alloc w fun s1 _ w=> ?_
     refine ad.G7 w fun s2 w=> ?_
     refine ad.bind (R:=fun c=> ∃s5 vk,c=([],s5)∧Nd (node 3 (skip r.length r).1) 3 0 [] vk∧Wd PP st0 s5 p L x 0 (skip r.length r).2 ((s.h,ND,[.int .u8 ((3:Nat):Int),.int .u8 0,.str [],vk])::(tk,TO,[.int .u8 ((nx r).1:Int),.str (nx r).2])::(a,ND,[.int .u8 4,.int .u8 0,.str [],v])::[(b,ND,z4)]) [(v,es)]) ?_ ?_
     ·refine ad.step (eY (c:=false) (eq_false_of_ne_true hb) _ _) (ad.step (aB _ _) ?_)
      refine ad.mC [] w (Nat.le_of_ble_eq_true rfl) fun s3 _ w=> ?_
      refine ad.next w fun s4 s5 w=> ?_
      refine ad.bind (Hj (kc:=s.h) rfl r.length r _ [] [] .aq s5 _ w.aq bO.nil (by simp [bh]) (by simp;omega) (Nat.le_refl _)) ?_
      rintro q ⟨s6,v6,es6,rfl,w6,hn6,hd6⟩
      refine ad.step (ah _) ?_
      exact ad.some ⟨s6,v6,rfl,⟨⟨_,_,rfl,w6.Px,by simpa using hn6⟩⟩,w6.drop⟩
     ·rintro c ⟨s5,vk,rfl,hnd,w⟩
      refine ad.step (ah _) ?_
      exact back s.h 3 _ _ s5 vk hnd w
   obtain ⟨u,r1,D1,e2,rfl,hdu,hrl',q,e,tk',s',v',e1,rfl,w',hN⟩:=hst
   rw [bR e]
   refine (ihn r1 D1 tk' (ts++[u]) _ v' s' (by omega) e2 (by omega) w' (bO.app hns (uZ hN)) (by rw [dc,bq];omega) (by simp;omega)).mono ?_
   rintro q ⟨s2,rE,D0,rfl,rfl,hg,hl2,hd2⟩
   exact ⟨s2,rE,u::D0,rfl,rfl,by simpa using hg,by simpa using hl2,by simpa using hd2⟩
theorem KN {r:List aQ} (h:r.length≤70000):fuel r≤10000000:=by unfold fuel;omega
theorem CG {i:Nat} (h:PS st p L x i 0) (hi:i=0) (hL:L.length≤70000):ad ((aG vE).wide 20 [.mp p 0] st) (fun b=>VN (doc L) b.1∧gq (doc L)≤1000000000000000∧ba st b.2 (· =p)):=by
 subst hi
 obtain ⟨D,hD,hdoc⟩:=kY L
 refine ad.wide (ad.step (Og _ _) ?_)
 unfold RY
 have w:=Wd.start h
 rw [List.drop_zero] at w
 refine ad.alloc w fun s0 _ w=> ?_
 refine ad.alloc w fun s1 _ w=> ?_
 refine ad.store [] w fun s2 _ w=> ?_
 refine ad.next w fun s3 s4 w=> ?_
 have hf:=KN hL
 refine ad.bind (yz rfl (fuel L) L D _ [] [] .aq s4 hf hD (by omega) w.aq bO.nil (by rw [bh];omega) (by simp;omega)) ?_
 rintro q ⟨s5,rE,D0,rfl,rfl,hg,hl,hd⟩
 refine ad.step (ah _) ?_
 rw [List.nil_append] at hg hl hd
 refine hg.grow (iz hg.pz) rfl rfl (by omega) fun s6 hg=> ?_
 rw [hdoc]
 have hdd:gq (node 4 (D0++[aN rE]))≤1000000000000000:=by
  have:=dp rE
  simp only [cC,dc,bq]
  omega
 refine (hg.nd.fin hdd).mono fun b hb=>⟨hb.1,hb.2.1,hb.2.2.2⟩
end
end Go.Proofs.YtmngkfmgnkeclaaGreatDoor.Vm
namespace Go.Proofs.YtmngkfmgnkeclaaGreatDoor.Vm
open Go Go.VM Go.Proofs Go.Lex
theorem Ek (s:List UInt8): ∃x,(aG vE).bare 19 [.str s]=some (.tup [x,.int .i64 (yd s)])∧bl 2 x (if yd s=0 then (tokens s).map tok else []):=by
 by_cases h1:65536 < s.length
 ·have e:yd s=40:=by unfold yd;rw [if_pos h1]
  exact ⟨.aq,by rw [e];exact Au h1,by rw [e];exact bl.aq⟩
 ·cases hv:cG s with
  | false=>
   have e:yd s=4:=by unfold yd;rw [if_neg h1,hv];rfl
   exact ⟨.aq,by rw [e];exact B3 (by omega) hv,by rw [e];exact bl.aq⟩
  | true=>
   obtain ⟨x,hx,h⟩:=Hd (by omega) hv
   have e:yd s=0:=Nf (by omega) hv
   exact ⟨x,by rw [e];exact hx,by rw [e];exact h⟩
end Go.Proofs.YtmngkfmgnkeclaaGreatDoor.Vm
namespace Go.Proofs.YtmngkfmgnkeclaaGreatDoor.Vm
open Go Go.VM Go.Proofs Go.Lex Go.Parse
theorem Ha {t:T} {k tk:Nat} {tx:List UInt8} {y:AV} (h:Nd t k tk tx y): ∃y',kO t (.agg [.int .u8 (k:Int),.int .u8 (tk:Int),.str tx,y'])∧ ∀(st:St) (n:Nat),VM.freeze st 0 (n+2) (.agg [.int .u8 (k:Int),.int .u8 (tk:Int),.str tx,y])= .ok (.agg [.int .u8 (k:Int),.int .u8 (tk:Int),.str tx,y']):=by
 obtain ⟨l,es,rfl,hk,hns⟩:=h.ex
 rcases hk with hx | ⟨hl,j,rfl⟩
 ·refine ⟨y,by simp only [kO];exact ⟨y,es,rfl,hx,hns⟩,fun st n=> ?_⟩
  refine MB (d:=1) (fun c hc=> ?_) st 0 (n+2) (by omega)
  simp only [List.mem_cons,List.mem_nil_iff,or_false] at hc
  rcases hc with rfl | rfl | rfl | rfl
  ·exact gF _ _
  ·exact gF _ _
  ·exact AR _
  ·exact xa hx
 ·exact ⟨.sl 4 es .wide,by simp only [kO];exact ⟨_,es,rfl,bl.wide hl,hns⟩,fun st n=>rfl⟩
theorem Ad {t:T} {v:AV} (h:kO t v):VM.bare v=true∧VM.strip v=v:=by
 cases t with
 | mk k tk tx l=>
  simp only [kO] at h
  obtain ⟨x,es,rfl,hx,_⟩:=h
  refine ⟨?_,rfl⟩
  rw [ny]
  simp only [bg,hx.bare]
  rfl
def kH (s:List UInt8):T:=if yd s=0 then doc (tokens s) else .mk 0 0 [] []
theorem BL {t:T} {k tk:Nat} {tx:List UInt8} {y:AV} (h:Nd t k tk tx y) (n:Int): ∃v,kO t v∧ ∀{β:Type} (st:St) (K:AV→Option β),iL st 0 (.tup [.agg [.int .u8 (k:Int),.int .u8 (tk:Int),.str tx,y],.int .i64 n]) K=K (.tup [v,.int .i64 n]):=by
 obtain ⟨y',hN,hf⟩:=Ha h
 refine ⟨_,hN,fun st K=>KW (bT (hf st 97) (bT (by exact gF _ _ st 0 99 (by omega)) sg)) ?_ K⟩
 simp only [bg,(Ad hN).1]
 rfl
theorem Ka:Nd (.mk 0 0 [] []) 0 0 [] .aq:=⟨⟨[],[],rfl,.inl bl.aq,bO.nil⟩⟩
theorem I5 (s:List UInt8): ∃v,kO (kH s) v∧gq (kH s)≤1000000000000000∧(aG vE).bare 9 [.str s]=some (.tup [v,.int .i64 (yd s)]):=by
 obtain ⟨x,e,hx⟩:=Ek s
 have c: ∀{β:Type} (st:St) (K:Kv β),ak (aG vE) 19 [.str s] st K=K (.tup [x,.int .i64 (yd s)]) st q0:=fun st K=>bj st K rfl rfl rfl e
 have key:ad (cP vE 9 [.str s]) (fun b=> ∃v,b= .tup [v,.int .i64 (yd s)]∧kO (kH s) v∧gq (kH s)≤1000000000000000):=by
  refine ad.step (Qi _) ?_
  unfold g9
  generalize hs0:St.mk 1 0 (Tr.node (some (VM.Obj.cells ND z4)) Tr.leaf Tr.leaf)=st
  have hg:st.get 0= .ok (.cells ND z4):=by rw [← hs0];rfl
  have hh:st.h=1:=by rw [← hs0]
  have hr:st.ro=0:=by rw [← hs0]
  refine ad.step (az _ _) (ad.step (c _ _) ?_)
  simp only [dj,bS,cA,aj]
  by_cases h0:yd s=0
  ·rw [h0] at hx ⊢
   rw [if_pos rfl] at hx
   have ht:kH s=doc (tokens s):=by unfold kH;rw [if_pos h0]
   rw [ht]
   refine ad.step (aB _ _) (ad.step (iQ hx.one _) (ad.step (iQ hx.one _) ?_))
   rw [fo]
   have hl:=(C4 h0).1
   have htl:=zH s
   generalize hs1:st.add (VM.Obj.cells PP [x,.int .i64 0,.int .i64 0])=st1
   have k1:ba st st1 (fun _=>False):=by rw [← hs1];exact ba.add _ _ _
   have g1:st1.get st.h= .ok (.cells PP [x,.int .i64 ((0:Nat):Int),.int .i64 ((0:Nat):Int)]):=by rw [← hs1];exact St.dR
   have hp:PS st1 st.h (tokens s) x 0 0:=⟨g1,hx,Nat.zero_le _,by omega,by rw [k1.ro,hr];omega⟩
   refine ad.iD (CG hp rfl (by omega)) rfl rfl fun v s2 hv=> ?_
   obtain ⟨hv,hd,hk⟩:=hv
   have g2:s2.get 0= .ok (.cells ND z4):=hk.yD (by omega) (k1.old _ _ (fun f=>f) hg)
   obtain ⟨k,tk,tx,y,rfl,hnd⟩:=hv.cells
   refine ad.step (qm ..) (ad.two hnd ?_)
   obtain ⟨s3,g3,_,_,fx,e3⟩:=Q0 g2 rfl (k:Int) (tk:Int) tx y (by rw [hk.ro,k1.ro,hr];omega)
   refine ad.step (e3 _) (ad.step (bF g3 _ _ _ _) (ad.step (al _ _) (ad.step (qm ..) ?_)))
   obtain ⟨w,hN,hf⟩:=BL hnd 0
   exact ad.step (hf _ _) (ad.some ⟨w,rfl,hN,hd⟩)
  ·have ht:kH s= .mk 0 0 [] []:=by unfold kH;rw [if_neg h0]
   rw [ht]
   refine ad.step (eY (c:=true) (by simpa using h0) _ _) (ad.step (aH _ _) ?_)
   obtain ⟨s3,g3,_,_,fx,e3⟩:=Q0 hg rfl 0 0 [] .aq (by rw [hr];omega)
   refine ad.step (e3 _) (ad.step (bF g3 _ _ _ _) (ad.step (al _ _) (ad.step (qm ..) ?_)))
   obtain ⟨w,hN,hf⟩:=BL Ka (yd s)
   exact ad.step (hf _ _) (ad.some ⟨w,rfl,hN,by simp [gq,fc]⟩)
 obtain ⟨b,e,v,rfl,h1,h2⟩:=key
 exact ⟨v,h1,h2,br rfl e⟩
section
variable {β:Type} {Q:β→Prop} {st:St} {t:T}
theorem D7 (s:List UInt8): ∃v,kO (kH s) v∧gq (kH s)≤1000000000000000∧ ∀{β:Type} (st:St) (K:Kv β),ak (aG vE) 9 [.str s] st K=K (.tup [v,.int .i64 (yd s)]) st q0:=by
 obtain ⟨v,h,hd,e⟩:=I5 s
 exact ⟨v,h,hd,fun st K=>bj st K rfl rfl rfl e⟩
theorem wN {t:T} {v:AV} (h:kO t v): ∃(k tk:Nat) (tx:List UInt8) (l:List T) (x:AV) (es:List AV),t= .mk k tk tx l∧v= .agg [.int .u8 (k:Int),.int .u8 (tk:Int),.str tx,x]∧bl 4 x es∧bO l es:=by
 cases t with
 | mk k tk tx l=>
  simp only [kO] at h
  obtain ⟨x,es,rfl,hx,hs⟩:=h
  exact ⟨k,tk,tx,l,x,es,rfl,rfl,hx,hs⟩
theorem bO.at: ∀{l:List T} {es:List AV} {k:Nat} {t:T},bO l es→l[k]? =some t→ ∃e,es[k]? =some e∧kO t e
 | [],_,_,_,_,hk=>by simp at hk
 | t::l,_,0,_,h,hk=>by
  simp only [bO] at h
  obtain ⟨a,r,rfl,h1,h2⟩:=h
  obtain rfl:t= _:=by simpa using hk
  exact ⟨a,rfl,h1⟩
 | t::l,_,k+1,t',h,hk=>by
  simp only [bO] at h
  obtain ⟨a,r,rfl,h1,h2⟩:=h
  obtain ⟨e,he,hi⟩:=bO.at (k:=k) (t:=t') h2 (by simpa using hk)
  exact ⟨e,by simpa using he,hi⟩
theorem Ae {l:List T} {x:AV} {es:List AV} {k:Nat} (hx:bl 4 x es) (hs:bO l es) (hk:l[k]? =some t): ∃(a b:Nat) (s:List UInt8) (y:AV),kO t (.agg [.int .u8 (a:Int),.int .u8 (b:Int),.str s,y])∧ ∀{β:Type} (st:St) (K:Int→Int→List UInt8→AV→Option β),(bZ 4 x (k:Int) st fun u _=>aA 4 true u st fun u _=>BC u K)=K (a:Int) (b:Int) s y:=by
 obtain ⟨e,he,hN⟩:=hs.at hk
 obtain ⟨a,b,s,ll,y,es',rfl,rfl,hy,hys⟩:=wN hN
 refine ⟨a,b,s,y,hN,fun st K=> ?_⟩
 rw [hx.idx he,jx,bL,AP,al,qm]
theorem T.ind {Pr:T→Prop} (h: ∀k tk tx l,(∀t∈l,Pr t)→Pr (.mk k tk tx l)): ∀t,Pr t:=by
 intro t
 have key: ∀n (t:T),SizeOf.sizeOf t < n→Pr t:=by
  intro n
  induction n with
  | zero=>intro t ht;omega
  | succ n ih=>
   intro t ht
   cases t with
   | mk k tk tx l=>
    refine h k tk tx l fun u hu=>ih u ?_
    have:=List.sizeOf_lt_of_mem hu
    simp only [T.mk.sizeOf_spec] at ht
    omega
 exact key _ t (Nat.lt_succ_self _)
end
section
variable {β:Type} {Q:β→Prop}
abbrev S0:St:=St.mk 0 0 Tr.leaf
theorem CJ {F:FuncId} {t:T} {v r:AV} (hN:kO t v) (hf:vE.full F=false) (h:(aG vE).bare F [v]=some r) {β:Type} (st:St) (K:Kv β):ak (aG vE) F [v] st K=K r st q0:=
 bj st K hf (by simp only [List.map_cons,List.map_nil,(Ad hN).2]) (by simp only [bg,(Ad hN).1];rfl) h
theorem mu (a b:Nat):((a:Int) != (b:Int))=(a != b):=by rw [bne,dz, ← bne]
theorem Bs: ∀(l:List T),Parse.aX l=l.all Parse.cI
 | []=>rfl
 | t::l=>by simp only [Parse.aX,List.all_cons,Bs l]
theorem wy {l:List T} {x:AV} {es:List AV} (hx:bl 4 x es) (hs:bO l es) {γ:Type} (K:Nat→Option γ):fC x K=K l.length:=by rw [hx.len,hs.len]
theorem IA {l:List T} {x:AV} {es:List AV} (hx:bl 4 x es) (hs:bO l es):l.length≤9223372036854775807:=by rw [← hs.len];exact hx.1
theorem yB {l:List T} {x:AV} {es:List AV} (hx:bl 4 x es) (hs:bO l es) (hg: ∀t∈l,∀v,kO t v→(aG vE).bare 10 [v]=some (.bool (Parse.cI t))) (st:St): ∀(m:List T) (j:Nat),l.drop j=m→
  ∃(k:Nat) (i:Int),bu (ud x (.fn (.func 22) [] []) l.length) ([.int .i64 0,.int .i64 (j:Int)],st)=some (k,[.int .i64 i],st)∧((k=0∧m.all Parse.cI=true)∨(k=1∧0≤i∧m.all Parse.cI=false))
 | [],j,hd=>by
  have:=List.drop_eq_nil_iff.1 hd
  have q:¬ (j:Int) < (l.length:Int):=by omega
  refine ⟨0,0,bC ?_,.inl ⟨rfl,rfl⟩⟩
  simp only [ud,ag,aj,ah,aF,if_neg q]
 | t::m,j,hd=>by
  obtain ⟨hgt,hr,hlt⟩:=drop_cons hd
  have q:(j:Int) < (l.length:Int):=by omega
  have hlen:=IA hx hs
  obtain ⟨a,b,s,y,hN,e⟩:=Ae hx hs hgt
  obtain ⟨a',b',s',ll,y',es',ht,hv,hy,hys⟩:=wN hN
  have c:=hg t (List.mem_of_getElem? hgt) _ hN
  have c1:(aG vE).bare 22 [.agg [.int .u8 (a:Int),.int .u8 (b:Int),.str s,y]]=some (.bool (!Parse.cI t)):=by
   refine br rfl ((N8 _).trans ?_)
   have hy':y=y':=by injection hv with hv;simpa using (List.cons.inj (List.cons.inj (List.cons.inj (List.cons.inj hv).2).2).2).1
   subst hy'
   simp only [g22,aL,ag,aj,az,ah,hy.af,hy.aV,CJ hN rfl c,aC]
  have c2: ∀{γ:Type} (st:St) (K:Kv γ),jR (aG vE) (Sx.prim (sx vE 41)) (.fn (.func 22) [] []) [.agg [.int .u8 (a:Int),.int .u8 (b:Int),.str s,y]] st K=K (.bool (!Parse.cI t)) st q0:=fun st K=>(show _=ak (aG vE) 22 [_] st K from rfl).trans (CJ hN rfl c1 st K)
  have e':ud x (.fn (.func 22) [] []) l.length ([.int .i64 0,.int .i64 (j:Int)],st)=bI (!Parse.cI t) (some (.inr (1,[.int .i64 (j:Int)],st))) (some (.inl ([.int .i64 0,.int .i64 ((j+1:Nat):Int)],st))):=by
   simp only [ud,ag,aj,ah,aF,if_pos q]
   refine (e st _).trans ?_
   simp only [c2,aC,aY,cH (show j+1≤9223372036854775807 by omega)]
  cases ht:Parse.cI t with
  | false=>
   rw [ht] at e'
   exact ⟨1,j,bC e',.inr ⟨rfl,by omega,by simp [ht]⟩⟩
  | true=>
   rw [ht] at e'
   obtain ⟨k,i,e2,h⟩:=yB hx hs hg st m (j+1) hr
   refine ⟨k,i,by rw [bR e',e2], ?_⟩
   simpa [ht] using h
theorem JZ: ∀(t:T) (v:AV),kO t v→(aG vE).bare 10 [v]=some (.bool (Parse.cI t)):=by
 refine T.ind fun k tk tx l ih v hv=> ?_
 simp only [kO] at hv
 obtain ⟨x,es,rfl,hx,hs⟩:=hv
 have hc:(aG vE).bare 21 [x,.fn (.func 22) [] []]=some (.bool (!l.all Parse.cI)):=by
  have hi: ∃i:Int,(aG vE).bare 41 [x,.fn (.func 22) [] []]=some (.int .i64 i)∧decide (i≥0)= !l.all Parse.cI:=by
   obtain ⟨k,i,e,h⟩:=yB hx hs ih S0 l 0 rfl
   have e:bu (ud x (.fn (.func 22) [] []) l.length) ([.int .i64 0,.int .i64 0],S0)= _:=e
   rcases h with ⟨rfl,h⟩ | ⟨rfl,h0,h⟩
   ·refine ⟨-1,br rfl ((H9 _ _).trans ?_),by rw [h];rfl⟩
    simp only [Rb,wy hx hs,e,al,ag,aj,ah,iH]
   ·refine ⟨i,br rfl ((H9 _ _).trans ?_),by rw [h];simpa using h0⟩
    simp only [Rb,wy hx hs,e,al,ag,aj,ah,pC]
  obtain ⟨i,h1,h2⟩:=hi
  refine br rfl ((NA _ _).trans ?_)
  have c:=fun {β:Type} (st:St) (K:Kv β)=>bj (f:=41) st K rfl (by simp only [List.map_cons,List.map_nil,hx.strip];rfl) (by simp only [bg,hx.bare];rfl) h1
  simp only [g21,c,aj,h2]
 have cc:=fun {β:Type} (st:St) (K:Kv β)=>bj (f:=21) st K rfl (by simp only [List.map_cons,List.map_nil,hx.strip];rfl) (by simp only [bg,hx.bare];rfl) hc
 refine br rfl ((M3 _).trans ?_)
 have e2:((k:Int) != 2)=(k != 2):=mu k 2
 have e3:((k:Int) != 3)=(k != 3):=mu k 3
 have e1:((k:Int) != 1)=(k != 1):=mu k 1
 have e9:((tk:Int) != 9)=(tk != 9):=mu tk 9
 simp only [g10,aL,ag,aj,az,ah,hx.af,hx.aV,e1,e2,e3,e9,Parse.cI,Bs]
 cases h2:k != 2 <;> simp only [aH,aB,al,ag,aC,ah,Bool.false_and,Bool.true_and]
 cases h3:k != 3 <;> simp only [aH,aB,al,ag,aC,ah,Bool.false_and,Bool.true_and]
 cases h1:k != 1 <;> simp only [aH,aB,al,ag,aC,ah,Bool.false_or,Bool.true_or,Bool.true_and,cc,Bool.not_not]
 cases h9:tk != 9 <;> simp only [aH,aB,al,ag,aC,ah,Bool.false_and,Bool.true_and,cc,Bool.not_not]
end
end Go.Proofs.YtmngkfmgnkeclaaGreatDoor.Vm
namespace Go.Proofs.YtmngkfmgnkeclaaGreatDoor.Vm
open Go Go.VM Go.Proofs Go.Scope
mutual
def ym:ij→AV→Prop
 | .mk k lit sp nm ps,v=> ∃x es,v= .agg [.int .u8 (k:Int),.int .u8 (lit:Int),.int .i64 sp.1,.int .i64 sp.2,.str nm,x]∧bl 6 x es∧cu ps es
def cu:List ij→List AV→Prop
 | [],es=>es=[]
 | p::ps,es=> ∃v vs,es=v::vs∧ym p v∧cu ps vs
end
mutual
def uD:iT→AV→Prop
 | .mk k sp rc nm ps ls,v=> ∃x es y fs,v= .agg [.int .u8 (k:Int),.int .i64 sp.1,.int .i64 sp.2,.bool rc,.str nm,x,y]∧bl 6 x es∧cu ps es∧bl 7 y fs∧dO ls fs∧ps.length≤100000000
def dO:List iT→List AV→Prop
 | [],es=>es=[]
 | e::l,es=> ∃v vs,es=v::vs∧uD e v∧dO l vs
end
def Nk (d:Bd) (v:AV):Prop:= ∃x es be,v= .agg ([.int .i64 d.sp.1,.int .i64 d.sp.2,.bool d.rc,x]++be)∧bl 6 x es∧cu d.ps es∧uD d.body (.agg be)
def gW:List Bd→List AV→Prop
 | [],es=>es=[]
 | d::l,es=> ∃v vs,es=v::vs∧Nk d v∧gW l vs
section
variable {p:ij} {ps:List ij} {e:iT} {l:List iT} {es:List AV} {v:AV}
theorem cu.nil:cu [] []:=by simp only [cu]
theorem cu.cons {vs:List AV} (h:ym p v) (k:cu ps vs):cu (p::ps) (v::vs):=by simp only [cu];exact ⟨v,vs,rfl,h,k⟩
theorem dO.nil:dO [] []:=by simp only [dO]
theorem dO.cons {vs:List AV} (h:uD e v) (k:dO l vs):dO (e::l) (v::vs):=by simp only [dO];exact ⟨v,vs,rfl,h,k⟩
theorem cu.len: ∀{ps:List ij} {es:List AV},cu ps es→es.length=ps.length
 | [],_,h=>by simp only [cu] at h;rw [h];rfl
 | p::ps,_,h=>by
  simp only [cu] at h
  obtain ⟨v,vs,rfl,_,h⟩:=h
  simp [cu.len h]
theorem dO.len: ∀{l:List iT} {es:List AV},dO l es→es.length=l.length
 | [],_,h=>by simp only [dO] at h;rw [h];rfl
 | e::l,_,h=>by
  simp only [dO] at h
  obtain ⟨v,vs,rfl,_,h⟩:=h
  simp [dO.len h]
theorem gW.len: ∀{l:List Bd} {es:List AV},gW l es→es.length=l.length
 | [],_,h=>by simp only [gW] at h;rw [h];rfl
 | e::l,_,h=>by
  simp only [gW] at h
  obtain ⟨v,vs,rfl,_,h⟩:=h
  simp [gW.len h]
theorem cu.drop: ∀{ps:List ij} {es:List AV} (i:Nat),cu ps es→cu (ps.drop i) (es.drop i)
 | ps,es,0,h=>by simpa using h
 | [],_,i+1,h=>by simp only [cu] at h;subst h;simp [cu]
 | p::ps,_,i+1,h=>by
  simp only [cu] at h
  obtain ⟨v,vs,rfl,_,h⟩:=h
  simpa using cu.drop i h
theorem dO.drop: ∀{l:List iT} {es:List AV} (i:Nat),dO l es→dO (l.drop i) (es.drop i)
 | l,es,0,h=>by simpa using h
 | [],_,i+1,h=>by simp only [dO] at h;subst h;simp [dO]
 | e::l,_,i+1,h=>by
  simp only [dO] at h
  obtain ⟨v,vs,rfl,_,h⟩:=h
  simpa using dO.drop i h
theorem gW.drop: ∀{l:List Bd} {es:List AV} (i:Nat),gW l es→gW (l.drop i) (es.drop i)
 | l,es,0,h=>by simpa using h
 | [],_,i+1,h=>by simp only [gW] at h;subst h;simp [gW]
 | e::l,_,i+1,h=>by
  simp only [gW] at h
  obtain ⟨v,vs,rfl,_,h⟩:=h
  simpa using gW.drop i h
theorem cu.take: ∀{ps:List ij} {es:List AV} (i:Nat),cu ps es→cu (ps.take i) (es.take i)
 | ps,es,0,h=>by simp [cu]
 | [],_,i+1,h=>by simp only [cu] at h;subst h;simp [cu]
 | p::ps,_,i+1,h=>by
  simp only [cu] at h
  obtain ⟨v,vs,rfl,hp,h⟩:=h
  simp only [List.take_succ_cons]
  exact cu.cons hp (cu.take i h)
theorem dO.take: ∀{l:List iT} {es:List AV} (i:Nat),dO l es→dO (l.take i) (es.take i)
 | ps,es,0,h=>by simp [dO]
 | [],_,i+1,h=>by simp only [dO] at h;subst h;simp [dO]
 | p::ps,_,i+1,h=>by
  simp only [dO] at h
  obtain ⟨v,vs,rfl,hp,h⟩:=h
  simp only [List.take_succ_cons]
  exact dO.cons hp (dO.take i h)
theorem cu.get {r:List ij} {i:Nat} (h:cu ps es) (hd:ps.drop i=p::r): ∃v,es[i]? =some v∧ym p v∧i < ps.length:=by
 have h1:=cu.drop i h
 rw [hd] at h1
 simp only [cu] at h1
 obtain ⟨v,vs,he,hp,_⟩:=h1
 exact ⟨v,(drop_cons he).1,hp,(drop_cons hd).2.2⟩
theorem dO.get {r:List iT} {i:Nat} (h:dO l es) (hd:l.drop i=e::r): ∃v,es[i]? =some v∧uD e v∧i < l.length:=by
 have h1:=dO.drop i h
 rw [hd] at h1
 simp only [dO] at h1
 obtain ⟨v,vs,he,hp,_⟩:=h1
 exact ⟨v,(drop_cons he).1,hp,(drop_cons hd).2.2⟩
theorem gW.get {l r:List Bd} {d:Bd} {i:Nat} (h:gW l es) (hd:l.drop i=d::r): ∃v,es[i]? =some v∧Nk d v∧i < l.length:=by
 have h1:=gW.drop i h
 rw [hd] at h1
 simp only [gW] at h1
 obtain ⟨v,vs,he,hp,_⟩:=h1
 exact ⟨v,(drop_cons he).1,hp,(drop_cons hd).2.2⟩
theorem ym.RC {k lit:Nat} {sp:Sp} {nm:Tx} (h:ym (.mk k lit sp nm ps) v): ∃x es,v= .agg [.int .u8 (k:Int),.int .u8 (lit:Int),.int .i64 sp.1,.int .i64 sp.2,.str nm,x]∧bl 6 x es∧cu ps es:=by
 simpa only [ym] using h
theorem uD.RC {k:Nat} {sp:Sp} {rc:Bool} {nm:Tx} {ls:List iT} (h:uD (.mk k sp rc nm ps ls) v): ∃x es y fs,v= .agg [.int .u8 (k:Int),.int .i64 sp.1,.int .i64 sp.2,.bool rc,.str nm,x,y]∧bl 6 x es∧cu ps es∧bl 7 y fs∧dO ls fs:=by
 simp only [uD] at h
 obtain ⟨x,es,y,fs,h0,h1,h2,h3,h4,_⟩:=h
 exact ⟨x,es,y,fs,h0,h1,h2,h3,h4⟩
theorem uD.SK {k:Nat} {sp:Sp} {rc:Bool} {nm:Tx} {ls:List iT} (h:uD (.mk k sp rc nm ps ls) v):ps.length≤100000000:=by
 simp only [uD] at h
 obtain ⟨x,es,y,fs,_,_,_,_,_,h5⟩:=h
 exact h5
end
def Lp {σ β:Type} (I:σ→Prop) (Q:β→Prop):Sum σ β→Prop
 | .inl s=>I s
 | .inr b=>Q b
theorem ad.inl {σ β:Type} {I:σ→Prop} {Q:β→Prop} {s:σ} (h:I s):ad (some (Sum.inl s:Sum σ β)) (Lp I Q):=⟨_,rfl,h⟩
theorem ad.inr {σ β:Type} {I:σ→Prop} {Q:β→Prop} {b:β} (h:Q b):ad (some (Sum.inr b:Sum σ β)) (Lp I Q):=⟨_,rfl,h⟩
theorem ad.upto {σ β:Type} {Q:β→Prop} {F:σ→Option (Sum σ β)} {n:Nat} {I:Nat→σ→Prop} (step: ∀i s,i < n→I i s→ad (F s) (Lp (I (i+1)) Q))
  (last: ∀s,I n s→ad (F s) (Lp (fun _=>False) Q)): ∀(k i:Nat) (s:σ),i+k=n→I i s→ad (bu F s) Q:=by
 intro k
 induction k with
 | zero=>
  intro i s hi h
  obtain ⟨r,e,hr⟩:=last s (by rw [← show i=n by omega];exact h)
  cases r with
  | inl s'=>exact hr.elim
  | inr b=>exact ⟨b,bC e,hr⟩
 | succ k ih=>
  intro i s hi h
  obtain ⟨r,e,hr⟩:=step i s (by omega) h
  cases r with
  | inl s'=>rw [bR e];exact ih (i+1) s' (by omega) hr
  | inr b=>exact ⟨b,bC e,hr⟩
@[simp] theorem dv (i o:Nat):notNil (.mp i o)=true:=id rfl
def Dd (z:Nat) (x:AV) (es:List AV):Prop:=bl z x es∨(es.length≤9223372036854775807∧ ∃k,x= .sl z es (.own k))
section
variable {β:Type} {z:Nat} {x:AV} {es:List AV}
theorem Dd.len (h:Dd z x es) (K:Nat→Option β):fC x K=K es.length:=by
 rcases h with h | ⟨_,k,rfl⟩
 ·exact h.len K
 ·rfl
theorem Dd.elems (h:Dd z x es) (K:List AV→Option β):lT x K=K es:=by
 rcases h with h | ⟨_,k,rfl⟩
 ·exact h.elems K
 ·rfl
theorem Dd.one (h:Dd z x es):VM.one x=true:=by
 rcases h with h | ⟨_,k,rfl⟩
 ·exact h.one
 ·rfl
theorem Dd.af (h:Dd z x es) (K:Option β):af x K=K:=iQ h.one K
theorem Dd.idx (h:Dd z x es) {k:Nat} {v:AV} (hk:es[k]? =some v) (st:St) (K:AV→List Nat→Option β):bZ z x (k:Int) st K=K (.ip v.cells) []:=by
 rcases h with h | ⟨_,j,rfl⟩
 ·exact h.idx hk st K
 ·have hlt:=(List.getElem?_eq_some_iff.1 hk).1
  have hz:z.beq z=true:=Nat.beq_refl z
  have hi:kQ ((k:Nat):Int) es.length=some k:=by
   show (match k.blt es.length with | true=>some k | false=>none)= _
   rw [cY.2 hlt]
  simp only [bZ,Bx,hz,hi,vB hk,al]
theorem Dd.le (h:Dd z x es):es.length≤9223372036854775807:=by
 rcases h with h | h
 ·exact h.1
 ·exact h.1
theorem Dd.fit (h:Dd z x es): ∃x',bl z x' es∧ ∀{β:Type} (K:AV→Option β),aV x K=K x':=by
 rcases h with h | ⟨hl,k,rfl⟩
 ·exact ⟨x,h,fun K=>h.aV K⟩
 ·exact ⟨_,bl.wide hl,fun K=>rfl⟩
end
theorem Dd.strip {z:Nat} {x:AV} {es:List AV} (h:Dd z x es):bl z (VM.strip x) es:=by
 rcases h with h | ⟨hl,k,rfl⟩
 ·rw [h.strip];exact h
 ·exact bl.wide hl
structure Kt (but:Nat→Prop) (st st':St):Prop where
 ro:st'.ro=st.ro
 h:st.h≤st'.h
 old: ∀j o,¬ but j→(∀n e,o≠ .tok n e)→st.get j= .ok o→st'.get j= .ok o
section
variable {p q:Nat→Prop} {a b c:St}
theorem Kt.refl (p:Nat→Prop) (a:St):Kt p a a:=⟨rfl,Nat.le_refl _,fun _ _ _ _ h=>h⟩
theorem Kt.trans (h:Kt p a b) (k:Kt p b c):Kt p a c:=⟨k.ro.trans h.ro,Nat.le_trans h.h k.h,fun j o hj ho hg=>k.old j o hj ho (h.old j o hj ho hg)⟩
theorem Kt.Dn (h:Kt p a b) (k: ∀j,p j→q j):Kt q a b:=⟨h.ro,h.h,fun j o hj ho hg=>h.old j o (fun f=>hj (k j f)) ho hg⟩
theorem Kt.join (h:Kt p a b) (k:Kt q b c) (hq: ∀j,q j→p j∨a.h≤j):Kt p a c:=⟨k.ro.trans h.ro,Nat.le_trans h.h k.h,fun j o hj ho hg=>k.old j o (fun f=>by
 rcases hq j f with h1 | h1
 ·exact hj h1
 ·have:=(St.bM.1 hg).1
  omega) ho (h.old j o hj ho hg)⟩
theorem Kt.keeps (h:ba a b p):Kt p a b:=⟨h.ro,h.h,fun j o hj _ hg=>h.old j o hj hg⟩
theorem Kt.own {z:Nat} {e:TypeId} {v:AV} {es:List AV} (h:ba a b (dW v)) (ho:iN a z e v es):Kt p a b:=⟨h.ro,h.h,fun j o _ hn hg=>h.old j o (fun ⟨z',es',hv⟩=>by
 subst hv
 rcases ho.2.2 with ⟨h1 | h1,_⟩ | h1 | ⟨k,h1,h2,_⟩
 ·cases h1
 ·cases h1
 ·cases h1
 ·cases h1
  rw [hg] at h2
  exact hn _ _ (Except.ok.inj h2)) hg⟩
theorem Kt.cells (h:Kt p a b) {i:Nat} {t:TypeId} {cs:List AV} (hi:¬ p i) (hg:a.get i= .ok (.cells t cs)):b.get i= .ok (.cells t cs):=h.old i _ hi (fun _ _ e=>by cases e) hg
theorem Kt.map (h:Kt p a b) {i:Nat} {es:List (AV×AV)} (hi:¬ p i) (hg:a.get i= .ok (.map es)):b.get i= .ok (.map es):=h.old i _ hi (fun _ _ e=>by cases e) hg
end
structure MD (st:St) (x:Fx):Prop where
 l0:apart ⟨[],.kept⟩ x=true
 r0:apart x ⟨[],.kept⟩=true
 l: ∀i t cs,st.get i= .ok (.cells t cs)→apart ⟨[i],.kept⟩ x=true
 r: ∀i t cs,st.get i= .ok (.cells t cs)→apart x ⟨[i],.kept⟩=true
end Go.Proofs.YtmngkfmgnkeclaaGreatDoor.Vm
namespace Go.Proofs.YtmngkfmgnkeclaaGreatDoor.Vm
open Go Go.VM Go.Proofs
noncomputable def g3:AV→Option AV:=fun l=>fY l fun a=>aK (bI (decide ((↑(List.length a):Int) > 1000)) (some ([.bool true],St.mk 0 0 Tr.leaf)) (ak (aG vE) 4 [] (St.mk 0 0 Tr.leaf) fun m n _x=>du m fun o=>some ([.bool !o],n))) fun c=>bK c.1 fun p q=>du p fun r=>cT q (bI r (ak (aG vE) 4 [] c.2 fun s _x _x_1=>du s fun t=>some (.bool t)) (cQ (Nat.ble (8+List.length a) 9223372036854775807) (bA (108::101::116::32::120::32::61::32::a) fun u=>ak (aG vE) 5 [.str u] c.2 fun g v _x=>iy g fun w=>da w 0 fun d=>iy g fun y=>da y 1 fun z=>bV .i64 z fun a0=>cQ (Nat.ble (9+List.length a) 9223372036854775807) (bA (108::101::116::32::120::32::61::32::40::a) fun h=>cQ (Nat.ble (Nat.succ ((List.length h+1))) 9223372036854775807) (bA (h++[10,41]) fun a1=>ak (aG vE) 5 [.str a1] v fun i j _x=>iy i fun a2=>da a2 0 fun k=>iy i fun a3=>da a3 1 fun a4=>bV .i64 a4 fun e=>aK (bI (a0 != 0) (some ([.bool true],j)) (fC d fun a5=>some ([.bool ((↑a5:Int) != 1)],j))) fun b=>bK b.1 fun a6 a7=>du a6 fun a8=>cT a7 (bI a8 (some (.bool true)) (aK (bI (e==50) (ak (aG vE) 6 [.str a] b.2 fun a9 f _x=>du a9 fun b0=>bI b0 (some ([.bool true],f)) (bI (e==0) (ak (aG vE) 7 [d,k,.bool false] f fun b1 b2 _x=>du b1 fun b3=>some ([.bool b3],b2)) (some ([.bool false],f)))) (bI (e==0) (ak (aG vE) 7 [d,k,.bool false] b.2 fun b4 b5 _x=>du b4 fun b6=>some ([.bool b6],b5)) (some ([.bool false],Prod.snd b)))) fun b7=>bK b7.1 fun b8 b9=>du b8 fun c0=>cT b9 (some (.bool c0)))))))))
theorem QC (x0:AV):cP vE 3 [x0]=g3 x0:=by kernel_rfl
noncomputable def EY (a9:AV) (b0:Nat):dK→Option (dK ⊕ Nat×dK):=fun a=>bK a.1 fun d b1=>bK b1 fun b2 b3=>bV .i64 b2 fun e=>cT b3 (bI (decide (e < (↑b0:Int))) (bZ 5 a9 e a.2 fun b4 _x=>aA 5 true b4 a.2 fun b5 _x=>cr b5 fun n o p f q=>(bP (St.add a.2 (VM.Obj.cells 50 [.int .u8 0,.int .u8 0,.str [],.aq,.int .i64 0])) fun b6=>af f (ao (aG vE) 5 (.mp (St.h a.2) 0) (.agg [.int .u8 n,.int .u8 o,.str p,f,.int .i64 q]) [.int .u8 n,.int .u8 o,.str p,f,.int .i64 q] b6 fun _x b _x_1=>aA 1 false (.mp (St.h a.2) 0) b fun b7 _x=>bV .u8 b7 fun b8=>aK (bI (b8==5) (aA 5 true (.mp (St.h a.2) 0) b fun b9 _x=>cr b9 fun c0 c1 c2 c3 c4=>(ak (aG vE) 11 [.agg [.int .u8 c0,.int .u8 c1,.str c2,c3,.int .i64 c4]] b fun c5 c6 _x=>ak (aG vE) 12 [c5] c6 fun c7 c _x=>gD c7 fun r s t g u v w y z i j=>(bP (St.add c (VM.Obj.cells 36 [.int .i64 0,.int .i64 0,.bool false,.aq,.int .u8 0,.int .i64 0,.int .i64 0,.bool false,.str [],.aq,.aq])) fun c8=>af g (af i (af j (ao (aG vE) 11 (.mp (St.h c) 0) (.agg [.int .i64 r,.int .i64 s,.bool t,g,.int .u8 u,.int .i64 v,.int .i64 w,.bool y,.str z,i,j]) [.int .i64 r,.int .i64 s,.bool t,g,.int .u8 u,.int .i64 v,.int .i64 w,.bool y,.str z,i,j] c8 fun _x a0 _x_2=>aA 5 true (.mp (St.h a.2) 0) a0 fun c9 _x=>cr c9 fun d0 d1 d2 d3 d4=>(ak (aG vE) 13 [.agg [.int .u8 d0,.int .u8 d1,.str d2,d3,.int .i64 d4]] a0 fun a1 d5 _x=>iy a1 fun d6=>da d6 0 fun d7=>xu d7 fun a2 a3=>(iy a1 fun d8=>da d8 1 fun d9=>du d9 fun _x=>ao (aG vE) 2 (.mp (St.h c) 0) (.agg [.int .i64 a2,.int .i64 a3]) [.int .i64 a2,.int .i64 a3] d5 fun _x a4 _x_3=>aA 11 true (.mp (St.h c) 0) a4 fun e0 _x=>gD e0 fun e1 e2 e3 k e4 e5 e6 e7 e8 l m=>(af k (af l (af m (af k (af l (af m (aV k fun a5=>aV l fun a6=>aV m fun a7=>af a5 (af a6 (af a7 (aV a5 fun e9=>aV a6 fun f0=>aV a7 fun f1=>gf 11 144 36 d [.agg [.int .i64 e1,.int .i64 e2,.bool e3,e9,.int .u8 e4,.int .i64 e5,.int .i64 e6,.bool e7,.str e8,f0,f1]] a4 fun f2 f3 _x=>some ([f2],f3))))))))))))))))))) (some ([d],b))) fun a8=>bK a8.1 fun f4 f5=>cT f5 (bA (IntKind.wrap .i64 (e+1)) fun f6=>some (Sum.inl ([f4,.int .i64 f6],Prod.snd a8)))))) (some (Sum.inr (0,[d],Prod.snd a))))
noncomputable def g5:AV→Option AV:=fun m=>fY m fun n=>ak (aG vE) 9 [.str n] (St.mk 0 0 Tr.leaf) fun c a _x=>iy c fun o=>da o 0 fun p=>aE p fun d e f b=>(iy c fun q=>da q 1 fun r=>bV .i64 r fun g=>bP (St.add a (VM.Obj.cells 44 [.int .u8 0,.int .u8 0,.str [],.aq])) fun s=>af b (ao (aG vE) 4 (.mp (St.h a) 0) (.agg [.int .u8 d,.int .u8 e,.str f,b]) [.int .u8 d,.int .u8 e,.str f,b] s fun _x i _x_1=>bI (g != 0) (some (.tup [.aq,.int .i64 g])) (aA 4 true (.mp (St.h a) 0) i fun t _x=>aE t fun u v w y=>(ak (aG vE) 10 [.agg [.int .u8 u,.int .u8 v,.str w,y]] i fun z j _x=>du z fun a0=>bI (!a0) (some (.tup [.aq,.int .i64 50])) (aA 4 true (.mp (St.h a) 0) j fun a1 _x=>aE a1 fun a2 a3 a4 a5=>(ak (aG vE) 11 [.agg [.int .u8 a2,.int .u8 a3,.str a4,a5,.int .i64 0]] j fun k a6 _x=>fC k fun a7=>aK (bu (EY k a7) ([.aq,.int .i64 0],a6)) fun l=>bK l.2.1 fun a8 a9=>cT a9 (iL l.2.2 0 (.tup [a8,.int .i64 0]) fun b0=>some b0)))))))
theorem QP (x0:AV):cP vE 5 [x0]=g5 x0:=by kernel_rfl
noncomputable def Jw (c:List UInt8):dK→Option (dK ⊕ Nat×dK):=fun a=>bK a.1 fun g h=>bV .i64 g fun d=>bK h fun i j=>bV .i64 i fun b=>cT j (bI (decide (b < (↑(List.length c):Int))) (aK (fb c b fun k=>bI ((↑(UInt8.toNat k):Int)==40) (some ([.bool true],Prod.snd a)) (fb c b fun l=>bI ((↑(UInt8.toNat l):Int)==91) (some ([.bool true],Prod.snd a)) (fb c b fun m=>bI ((↑(UInt8.toNat m):Int)==45) (some ([.bool true],Prod.snd a)) (fb c b fun n=>bI ((↑(UInt8.toNat n):Int)==58) (some ([.bool true],Prod.snd a)) (fb c b fun o=>bI ((↑(UInt8.toNat o):Int)==102) (some ([.bool true],Prod.snd a)) (fb c b fun p=>bI ((↑(UInt8.toNat p):Int)==116) (some ([.bool true],Prod.snd a)) (fb c b fun q=>bI ((↑(UInt8.toNat q):Int)==110) (some ([.bool true],Prod.snd a)) (fb c b fun r=>some ([.bool ((↑(UInt8.toNat r):Int)==104)],Prod.snd a))))))))) fun e=>bK e.1 fun s t=>du s fun u=>cT t (aK (bI u (bA (IntKind.wrap .i64 (d+1)) fun v=>some ([.int .i64 v],Prod.snd e)) (some ([.int .i64 d],Prod.snd e))) fun f=>bK f.1 fun w y=>bV .i64 w fun z=>cT y (bA (IntKind.wrap .i64 (b+1)) fun a0=>some (Sum.inl ([.int .i64 z,.int .i64 a0],Prod.snd f))))) (some (Sum.inr (0,[.int .i64 d],Prod.snd a))))
noncomputable def g6:AV→Option AV:=fun a=>fY a fun b=>aK (bu (Jw b) ([.int .i64 0,.int .i64 0],St.mk 0 0 Tr.leaf)) fun c=>bK c.2.1 fun d e=>bV .i64 d fun f=>cT e (some (.bool (decide (f > 50))))
theorem Pw (x0:AV):cP vE 6 [x0]=g6 x0:=by kernel_rfl
noncomputable def Js (c:AV) (d:AV) (g:Bool):dK→Option (dK ⊕ Nat×dK):=fun a=>bK a.1 fun j k=>du j fun i=>bK k fun l m=>bV .i64 l fun b=>cT m (fC c fun n=>bI (decide (b < (↑n:Int))) (aK (bZ 11 c b a.2 fun o _x=>ct 2 o fun p=>aA 1 false p a.2 fun q _x=>du q fun r=>bZ 11 d b a.2 fun s _x=>ct 2 s fun t=>aA 1 false t a.2 fun u _x=>du u fun v=>bI (!r==v) (some ([.bool true],Prod.snd a)) (bI g (bZ 11 c b a.2 fun w _x=>ct 0 w fun y=>aA 2 true y a.2 fun z _x=>xu z fun a0 a1=>(bZ 11 d b a.2 fun a2 _x=>ct 0 a2 fun a3=>aA 2 true a3 a.2 fun a4 _x=>xu a4 fun a5 a6=>(aK (Ji (VM.binOp (Env.T vE) BinOp.neq 30 (.agg [.int .i64 a0,.int .i64 a1]) (.agg [.int .i64 a5,.int .i64 a6]))) fun a7=>du a7 fun a8=>bI a8 (some ([.bool true],Prod.snd a)) (bZ 11 c b a.2 fun a9 _x=>ct 3 a9 fun b0=>aA 1 false b0 a.2 fun b1 _x=>bZ 11 d b a.2 fun b2 _x=>ct 3 b2 fun b3=>aA 1 false b3 a.2 fun b4 _x=>ak (aG vE) 14 [b1,b4,.bool g] a.2 fun b5 e _x=>du b5 fun b6=>bI (!b6) (some ([.bool true],e)) (bZ 11 c b e fun b7 _x=>ct 4 b7 fun b8=>aA 7 true b8 e fun b9 _x=>cM b9 fun c0 c1 c2 c3 c4 c5 c6=>(bZ 11 d b e fun c7 _x=>ct 4 c7 fun c8=>aA 7 true c8 e fun c9 _x=>cM c9 fun d0 d1 d2 d3 d4 d5 d6=>(ak (aG vE) 15 [.agg [.int .u8 c0,.int .i64 c1,.int .i64 c2,.bool c3,.str c4,c5,c6],.agg [.int .u8 d0,.int .i64 d1,.int .i64 d2,.bool d3,.str d4,d5,d6],.bool g] e fun d7 d8 _x=>du d7 fun d9=>some ([.bool !d9],d8)))))))) (bZ 11 c b a.2 fun e0 _x=>ct 3 e0 fun e1=>aA 1 false e1 a.2 fun e2 _x=>bZ 11 d b a.2 fun e3 _x=>ct 3 e3 fun e4=>aA 1 false e4 a.2 fun e5 _x=>ak (aG vE) 14 [e2,e5,.bool g] a.2 fun e6 f _x=>du e6 fun e7=>bI (!e7) (some ([.bool true],f)) (bZ 11 c b f fun e8 _x=>ct 4 e8 fun e9=>aA 7 true e9 f fun f0 _x=>cM f0 fun f1 f2 f3 f4 f5 f6 f7=>(bZ 11 d b f fun f8 _x=>ct 4 f8 fun f9=>aA 7 true f9 f fun h0 _x=>cM h0 fun h1 h2 h3 h4 h5 h6 h7=>(ak (aG vE) 15 [.agg [.int .u8 f1,.int .i64 f2,.int .i64 f3,.bool f4,.str f5,f6,f7],.agg [.int .u8 h1,.int .i64 h2,.int .i64 h3,.bool h4,.str h5,h6,h7],.bool g] f fun h8 h9 _x=>du h8 fun i0=>some ([.bool !i0],h9))))))) fun h=>bK h.1 fun i1 i2=>du i1 fun i3=>cT i2 (bI i3 (some (Sum.inr (1,[.bool false],Prod.snd h))) (bA (IntKind.wrap .i64 (b+1)) fun i4=>some (Sum.inl ([.bool i,.int .i64 i4],Prod.snd h))))) (some (Sum.inr (0,[.bool i],Prod.snd a))))
noncomputable def g7:AV→AV→AV→Option AV:=fun a b d=>du d fun e=>fC a fun f=>fC b fun g=>bI ((↑f:Int) != (↑g:Int)) (some (.bool false)) (aK (bu (Js a b e) ([.bool false,.int .i64 0],St.mk 0 0 Tr.leaf)) fun c=>bK c.2.1 fun h i=>du h fun j=>cT i (sH c.1 (some (.bool true)) fun _x=>some (.bool j)))
theorem Qj (x0 x1 x2:AV):cP vE 7 [x0,x1,x2]=g7 x0 x1 x2:=by kernel_rfl
noncomputable def Ec (n:AV) (o:Nat):dK→Option (dK ⊕ Nat×dK):=fun a=>bK a.1 fun e p=>bK p fun q r=>bV .i64 q fun f=>bK r fun s t=>bV .i64 s fun b=>cT t (bI (decide (b < (↑o:Int))) (bZ 4 n b a.2 fun u _x=>aA 4 true u a.2 fun v _x=>aE v fun g i j c=>(bP (St.add a.2 (VM.Obj.cells 44 [.int .u8 0,.int .u8 0,.str [],.aq])) fun w=>af c (ao (aG vE) 4 (.mp (St.h a.2) 0) (.agg [.int .u8 g,.int .u8 i,.str j,c]) [.int .u8 g,.int .u8 i,.str j,c] w fun _x k _x_1=>aA 4 true (.mp (St.h a.2) 0) k fun y _x=>aE y fun z a0 a1 d=>(af d (af d (aV d fun l=>af l (aV l fun a2=>gf 5 64 50 e [.agg [.int .u8 z,.int .u8 a0,.str a1,a2,.int .i64 f]] k fun a3 m _x=>aA 4 true (.mp (St.h a.2) 0) m fun a4 _x=>aE a4 fun a5 a6 a7 a8=>(ak (aG vE) 23 [.agg [.int .u8 a5,.int .u8 a6,.str a7,a8]] m fun a9 b0 _x=>bV .i64 a9 fun b1=>bA (IntKind.wrap .i64 (f+b1)) fun b2=>bA (IntKind.wrap .i64 (b+1)) fun b3=>some (Sum.inl ([a3,.int .i64 b2,.int .i64 b3],b0)))))))))) (some (Sum.inr (0,[e],Prod.snd a))))
noncomputable def g11:AV→Option AV:=fun d=>cr d fun _x _x _x a e=>(af a (aV a fun b=>fC b fun f=>aK (bu (Ec b f) ([.aq,.int .i64 e,.int .i64 0],St.mk 0 0 Tr.leaf)) fun c=>bK c.2.1 fun g h=>cT h (iL c.2.2 0 (oneOf [g]) fun i=>some i)))
theorem M9 (x0:AV):cP vE 11 [x0]=g11 x0:=by kernel_rfl
noncomputable def g12:AV→Option AV:=fun x0=>fO 5 x0 (some 1) none none fun c=>aK (bZ 5 c 0 (St.mk 2 0 (Tr.node (some (VM.Obj.cells 36 [.int .i64 0,.int .i64 0,.bool false,.aq,.int .u8 0,.int .i64 0,.int .i64 0,.bool false,.str [],.aq,.aq])) (Tr.node (some (VM.Obj.cells 36 [.int .i64 0,.int .i64 0,.bool false,.aq,.int .u8 0,.int .i64 0,.int .i64 0,.bool false,.str [],.aq,.aq])) Tr.leaf Tr.leaf) Tr.leaf)) fun v1 _x=>ct 0 v1 fun v3=>ct 1 v3 fun v4=>ct 0 v4 fun v5=>aA 1 false v5 (St.mk 2 0 (Tr.node (some (VM.Obj.cells 36 [.int .i64 0,.int .i64 0,.bool false,.aq,.int .u8 0,.int .i64 0,.int .i64 0,.bool false,.str [],.aq,.aq])) (Tr.node (some (VM.Obj.cells 36 [.int .i64 0,.int .i64 0,.bool false,.aq,.int .u8 0,.int .i64 0,.int .i64 0,.bool false,.str [],.aq,.aq])) Tr.leaf Tr.leaf) Tr.leaf)) fun v6 _x=>bV .u8 v6 fun n8=>bI (n8==3) (bZ 5 c 0 (St.mk 2 0 (Tr.node (some (VM.Obj.cells 36 [.int .i64 0,.int .i64 0,.bool false,.aq,.int .u8 0,.int .i64 0,.int .i64 0,.bool false,.str [],.aq,.aq])) (Tr.node (some (VM.Obj.cells 36 [.int .i64 0,.int .i64 0,.bool false,.aq,.int .u8 0,.int .i64 0,.int .i64 0,.bool false,.str [],.aq,.aq])) Tr.leaf Tr.leaf) Tr.leaf)) fun v9 _x=>ct 0 v9 fun a5=>ct 1 a5 fun a6=>ct 1 a6 fun a7=>aA 1 false a7 (St.mk 2 0 (Tr.node (some (VM.Obj.cells 36 [.int .i64 0,.int .i64 0,.bool false,.aq,.int .u8 0,.int .i64 0,.int .i64 0,.bool false,.str [],.aq,.aq])) (Tr.node (some (VM.Obj.cells 36 [.int .i64 0,.int .i64 0,.bool false,.aq,.int .u8 0,.int .i64 0,.int .i64 0,.bool false,.str [],.aq,.aq])) Tr.leaf Tr.leaf) Tr.leaf)) fun a8 _x=>fY a8 fun a9=>some ([.bool (a9==[114,101,99])],St.mk 2 0 (Tr.node (some (VM.Obj.cells 36 [.int .i64 0,.int .i64 0,.bool false,.aq,.int .u8 0,.int .i64 0,.int .i64 0,.bool false,.str [],.aq,.aq])) (Tr.node (some (VM.Obj.cells 36 [.int .i64 0,.int .i64 0,.bool false,.aq,.int .u8 0,.int .i64 0,.int .i64 0,.bool false,.str [],.aq,.aq])) Tr.leaf Tr.leaf) Tr.leaf))) (some ([.bool false],St.mk 2 0 (Tr.node (some (VM.Obj.cells 36 [.int .i64 0,.int .i64 0,.bool false,.aq,.int .u8 0,.int .i64 0,.int .i64 0,.bool false,.str [],.aq,.aq])) (Tr.node (some (VM.Obj.cells 36 [.int .i64 0,.int .i64 0,.bool false,.aq,.int .u8 0,.int .i64 0,.int .i64 0,.bool false,.str [],.aq,.aq])) Tr.leaf Tr.leaf) Tr.leaf)))) fun e=>bK e.1 fun b0 b1=>du b0 fun b2=>cT b1 (aK (bI b2 (ao (aG vE) 1 (.mp 1 2) (.bool true) [.bool true] e.2 fun _x b3 _x_1=>fO 5 c (some 1) none none fun b4=>some ([b4],b3)) (some ([c],Prod.snd e))) fun n=>bK n.1 fun f b5=>cT b5 (fC f fun o=>bA (IntKind.wrap .i64 ((↑o:Int) - 2)) fun b6=>fO 5 f none (some b6) none fun b7=>ak (aG vE) 24 [b7] n.2 fun d g b=>cQ (apart b (⟨[],.kept⟩)&&true) (cQ (apart b (⟨[],.kept⟩)&&true) (bA (IntKind.wrap .i64 ((↑o:Int) - 1)) fun b8=>cQ (apart b (⟨[],.kept⟩)&&true) (bZ 5 f b8 g fun b9 c0=>cQ (apart b (Fx.mk c0 gg.kept)&&true) (aA 5 true b9 g fun c1 c2=>cr c1 fun c3 c4 c5 c6 c7=>(cQ (apart b (Fx.mk c2 gg.kept)&&true) (ak (aG vE) 25 [.agg [.int .u8 c3,.int .u8 c4,.str c5,c6,.int .i64 c7]] g fun c8 c9 d0=>cM c8 fun p q r s t h i=>(cQ (apart d0 (⟨[],.kept⟩)&&true) (af d (af d (ao (aG vE) 1 (.mp 1 3) d [d] c9 fun _x d1 _x_1=>af h (af i (ao (aG vE) 7 (.mp 1 4) (.agg [.int .u8 p,.int .i64 q,.int .i64 r,.bool s,.str t,h,i]) [.int .u8 p,.int .i64 q,.int .i64 r,.bool s,.str t,h,i] d1 fun _x a _x_2=>aK (aA 1 false (.mp 1 2) a fun d2 _x=>du d2 fun d3=>bI d3 (aA 1 false (.mp 1 3) a fun d4 _x=>bZ 6 d4 0 a fun d5 _x=>ct 0 d5 fun d6=>aA 1 false d6 a fun d7 _x=>bV .u8 d7 fun u=>ao (aG vE) 1 (.mp 1 2) (.bool (u==15)) [.bool (u==15)] a fun _x d8 _x_3=>some ([],d8)) (ao (aG vE) 1 (.mp 1 2) (.bool false) [.bool false] a fun _x d9 _x_3=>some ([],d9))) fun j=>cT j.1 (aA 11 true (.mp 1 0) j.2 fun e0 _x=>gD e0 fun v w y k z a0 a1 a2 a3 l m=>(af k (af l (af m (ao (aG vE) 11 (.mp 0 0) (.agg [.int .i64 v,.int .i64 w,.bool y,k,.int .u8 z,.int .i64 a0,.int .i64 a1,.bool a2,.str a3,l,m]) [.int .i64 v,.int .i64 w,.bool y,k,.int .u8 z,.int .i64 a0,.int .i64 a1,.bool a2,.str a3,l,m] j.2 fun _x a4 _x_3=>aA 11 true (.mp 0 0) a4 fun e1 _x=>gD e1 fun e2 e3 e4 e5 e6 e7 e8 e9 f0 f1 f2=>(iL a4 0 (.agg [.int .i64 e2,.int .i64 e3,.bool e4,e5,.int .u8 e6,.int .i64 e7,.int .i64 e8,.bool e9,.str f0,f1,f2]) fun f3=>some f3))))))))))))))))))))
theorem Mw (x0:AV):cP vE 12 [x0]=g12 x0:=by kernel_rfl
noncomputable def g13:AV→Option AV:=fun e=>cr e fun f g h b i=>(af b (aV b fun j=>ak (aG vE) 26 [.agg [.int .u8 f,.int .u8 g,.str h,j],.mp 4 0,.mp 2 0,.mp 3 0,.mp 1 0] (St.mk 5 0 (Tr.node (some (VM.Obj.cells 30 [.int .i64 0,.int .i64 0])) (Tr.node (some (VM.Obj.cells 30 [.int .i64 0,.int .i64 0])) (Tr.node (some (VM.Obj.cells 3 [.int .i64 i])) Tr.leaf Tr.leaf) Tr.leaf) (Tr.node (some (VM.Obj.cells 4 [.bool false])) (Tr.node (some (VM.Obj.cells 71 [.fn (Fn.func 26) [] [.mp 4 0,.mp 2 0,.mp 3 0,.mp 1 0]])) Tr.leaf Tr.leaf) Tr.leaf))) fun _x a _x_1=>aA 2 true (.mp 1 0) a fun k _x=>xu k fun c d=>(aA 1 false (.mp 2 0) a fun l m=>du l fun n=>ao (aG vE) 2 (.mp 0 0) (.agg [.int .i64 c,.int .i64 d]) [.int .i64 c,.int .i64 d] a fun _x o p=>cQ (apart (Fx.mk m gg.kept) p&&true) (aA 2 true (.mp 0 0) o fun q _x=>xu q fun r s=>(some (.tup [.agg [.int .i64 r,.int .i64 s],.bool n]))))))
theorem MG (x0:AV):cP vE 13 [x0]=g13 x0:=by kernel_rfl
noncomputable def De (c:AV) (f:AV) (g:Bool):dK→Option (dK ⊕ Nat×dK):=fun a=>bK a.1 fun h i=>du h fun d=>bK i fun j k=>bV .i64 j fun b=>cT k (fC c fun l=>bI (decide (b < (↑l:Int))) (bZ 6 c b a.2 fun m _x=>aA 6 true m a.2 fun n _x=>fh n fun o p q r s t=>(bZ 6 f b a.2 fun u _x=>aA 6 true u a.2 fun v _x=>fh v fun w y z a0 a1 a2=>(ak (aG vE) 28 [.agg [.int .u8 o,.int .u8 p,.int .i64 q,.int .i64 r,.str s,t],.agg [.int .u8 w,.int .u8 y,.int .i64 z,.int .i64 a0,.str a1,a2],.bool g] a.2 fun a3 e _x=>du a3 fun a4=>bI (!a4) (some (Sum.inr (1,[.bool false],e))) (bA (IntKind.wrap .i64 (b+1)) fun a5=>some (Sum.inl ([.bool d,.int .i64 a5],e)))))) (some (Sum.inr (0,[.bool d],Prod.snd a))))
noncomputable def g14:AV→AV→AV→Option AV:=fun a b d=>du d fun e=>fC a fun f=>fC b fun g=>bI ((↑f:Int) != (↑g:Int)) (some (.bool false)) (aK (bu (De a b e) ([.bool false,.int .i64 0],St.mk 0 0 Tr.leaf)) fun c=>bK c.2.1 fun h i=>du h fun j=>cT i (sH c.1 (some (.bool true)) fun _x=>some (.bool j)))
theorem Ov (x0 x1 x2:AV):cP vE 14 [x0,x1,x2]=g14 x0 x1 x2:=by kernel_rfl
noncomputable def Dr (f:Bool) (c:AV) (g:AV):dK→Option (dK ⊕ Nat×dK):=fun a=>bK a.1 fun h i=>du h fun d=>bK i fun j k=>bV .i64 j fun b=>cT k (fC c fun l=>bI (decide (b < (↑l:Int))) (bZ 7 c b a.2 fun m _x=>aA 7 true m a.2 fun n _x=>cM n fun o p q r s t u=>(bZ 7 g b a.2 fun v _x=>aA 7 true v a.2 fun w _x=>cM w fun y z a0 a1 a2 a3 a4=>(ak (aG vE) 15 [.agg [.int .u8 o,.int .i64 p,.int .i64 q,.bool r,.str s,t,u],.agg [.int .u8 y,.int .i64 z,.int .i64 a0,.bool a1,.str a2,a3,a4],.bool f] a.2 fun a5 e _x=>du a5 fun a6=>bI (!a6) (some (Sum.inr (1,[.bool false],e))) (bA (IntKind.wrap .i64 (b+1)) fun a7=>some (Sum.inl ([.bool d,.int .i64 a7],e)))))) (some (Sum.inr (0,[.bool d],Prod.snd a))))
noncomputable def g15:AV→AV→AV→Option AV:=fun l m n=>cM l fun o p q r s b c=>(cM m fun t u v w y d e=>(du n fun a=>af b (af c (aV b fun f=>aV c fun g=>af d (af e (aV d fun h=>aV e fun i=>aK (bI (o != t) (some ([.bool true],St.mk 0 0 Tr.leaf)) (bI (!r==w) (some ([.bool true],St.mk 0 0 Tr.leaf)) (bI (!s==y) (some ([.bool true],St.mk 0 0 Tr.leaf)) (fC g fun z=>fC i fun a0=>bI ((↑z:Int) != (↑a0:Int)) (some ([.bool true],St.mk 0 0 Tr.leaf)) (bI a (aK (Ji (VM.binOp (Env.T vE) BinOp.neq 30 (.agg [.int .i64 p,.int .i64 q]) (.agg [.int .i64 u,.int .i64 v]))) fun a1=>du a1 fun a2=>bI a2 (some ([.bool true],St.mk 0 0 Tr.leaf)) (ak (aG vE) 14 [f,h,.bool a] (St.mk 0 0 Tr.leaf) fun a3 a4 _x=>du a3 fun a5=>some ([.bool !a5],a4))) (ak (aG vE) 14 [f,h,.bool a] (St.mk 0 0 Tr.leaf) fun a6 a7 _x=>du a6 fun a8=>some ([.bool !a8],a7))))))) fun j=>bK j.1 fun a9 b0=>du a9 fun b1=>cT b0 (bI b1 (some (.bool false)) (aK (bu (Dr a g i) ([.bool false,.int .i64 0],Prod.snd j)) fun k=>bK k.2.1 fun b2 b3=>du b2 fun b4=>cT b3 (sH k.1 (some (.bool true)) fun _x=>some (.bool b4))))))))))
theorem Ok (x0 x1 x2:AV):cP vE 15 [x0,x1,x2]=g15 x0 x1 x2:=by kernel_rfl
noncomputable def Az (j:AV) (k:Nat):dK→Option (dK ⊕ Nat×dK):=fun a=>bK a.1 fun l m=>bV .i64 l fun d=>bK m fun n o=>bV .i64 n fun b=>cT o (bI (decide (b < (↑k:Int))) (bZ 4 j b a.2 fun p _x=>aA 4 true p a.2 fun q _x=>aE q fun e f g c=>(bP (St.add a.2 (VM.Obj.cells 44 [.int .u8 0,.int .u8 0,.str [],.aq])) fun r=>af c (ao (aG vE) 4 (.mp (St.h a.2) 0) (.agg [.int .u8 e,.int .u8 f,.str g,c]) [.int .u8 e,.int .u8 f,.str g,c] r fun _x i _x_1=>aA 4 true (.mp (St.h a.2) 0) i fun s _x=>aE s fun t u v w=>(ak (aG vE) 23 [.agg [.int .u8 t,.int .u8 u,.str v,w]] i fun y z _x=>bV .i64 y fun a0=>bA (IntKind.wrap .i64 (d+a0)) fun a1=>bA (IntKind.wrap .i64 (b+1)) fun a2=>some (Sum.inl ([.int .i64 a1,.int .i64 a2],z)))))) (some (Sum.inr (0,[.int .i64 d],Prod.snd a))))
noncomputable def g23:AV→Option AV:=fun e=>aE e fun f _x g b=>(af b (aV b fun c=>fC c fun h=>aK (bu (Az c h) ([.int .i64 0,.int .i64 0],St.mk 0 0 Tr.leaf)) fun a=>bK a.2.1 fun i j=>bV .i64 i fun d=>cT j (aK (bI (f==1) (bA (IntKind.wrap .i64 (d+(↑(List.length g):Int))) fun k=>some ([.int .i64 k],Prod.snd a.2)) (some ([.int .i64 d],Prod.snd a.2))) fun l=>bK l.1 fun m n=>bV .i64 m fun o=>cT n (some (.int .i64 o)))))
theorem OD (x0:AV):cP vE 23 [x0]=g23 x0:=by kernel_rfl
noncomputable def Dm (m:AV) (n:Nat):dK→Option (dK ⊕ Nat×dK):=fun a=>bK a.1 fun e o=>bK o fun p q=>bV .i64 p fun b=>cT q (bI (decide (b < (↑n:Int))) (bZ 5 m b a.2 fun r _x=>aA 5 true r a.2 fun s _x=>cr s fun f g i c j=>(bP (St.add a.2 (VM.Obj.cells 50 [.int .u8 0,.int .u8 0,.str [],.aq,.int .i64 0])) fun t=>af c (ao (aG vE) 5 (.mp (St.h a.2) 0) (.agg [.int .u8 f,.int .u8 g,.str i,c,.int .i64 j]) [.int .u8 f,.int .u8 g,.str i,c,.int .i64 j] t fun _x k _x_1=>aA 5 true (.mp (St.h a.2) 0) k fun u _x=>cr u fun v w y z a0=>(ak (aG vE) 42 [.agg [.int .u8 v,.int .u8 w,.str y,z,.int .i64 a0]] k fun a1 a2 _x=>fh a1 fun a3 a4 a5 a6 a7 d=>(af d (af d (aV d fun l=>af l (aV l fun a8=>gf 6 64 38 e [.agg [.int .u8 a3,.int .u8 a4,.int .i64 a5,.int .i64 a6,.str a7,a8]] a2 fun a9 b0 _x=>bA (IntKind.wrap .i64 (b+1)) fun b1=>some (Sum.inl ([a9,.int .i64 b1],b0)))))))))) (some (Sum.inr (0,[e],Prod.snd a))))
noncomputable def SH:AV→St→Option (AV×St):=fun a st=>fC a fun c=>aK (bu (Dm a c) ([.aq,.int .i64 0],st)) fun b=>bK b.2.1 fun d e=>cT e (some (oneOf [d],Prod.snd b.2))
theorem NJ (x0:AV) (st:St):ey vE 24 [x0] st=SH x0 st:=by kernel_rfl
noncomputable def RJ:AV→Option AV:=fun x0=>cr x0 fun b e f n o=>(af n (aV n fun p=>ak (aG vE) 13 [.agg [.int .u8 b,.int .u8 e,.str f,p,.int .i64 o]] (St.mk 2 0 (Tr.node (some (VM.Obj.cells 34 [.int .u8 0,.int .i64 0,.int .i64 0,.bool false,.str [],.aq,.aq])) (Tr.node (some (VM.Obj.cells 34 [.int .u8 0,.int .i64 0,.int .i64 0,.bool false,.str [],.aq,.aq])) Tr.leaf Tr.leaf) Tr.leaf)) fun q b8 _x=>iy q fun b9=>da b9 0 fun c0=>xu c0 fun r s=>(iy q fun c1=>da c1 1 fun c2=>du c2 fun _x=>ao (aG vE) 2 (.mp 1 1) (.agg [.int .i64 r,.int .i64 s]) [.int .i64 r,.int .i64 s] b8 fun _x t _x_1=>bI (b==1) (ak (aG vE) 43 [.agg [.int .u8 e,.str f]] t fun u c3 _x=>iy u fun c4=>da c4 0 fun c5=>bV .u8 c5 fun v=>iy u fun c6=>da c6 1 fun c7=>fY c7 fun w=>ao (aG vE) 1 (.mp 1 0) (.int .u8 v) [.int .u8 v] c3 fun _x c8 _x_2=>ao (aG vE) 1 (.mp 1 4) (.str w) [.str w] c8 fun _x y _x_3=>aA 7 true (.mp 1 0) y fun c9 _x=>cM c9 fun z a0 a1 a2 a3 g h=>(af g (af h (ao (aG vE) 7 (.mp 0 0) (.agg [.int .u8 z,.int .i64 a0,.int .i64 a1,.bool a2,.str a3,g,h]) [.int .u8 z,.int .i64 a0,.int .i64 a1,.bool a2,.str a3,g,h] y fun _x a4 _x_4=>aA 7 true (.mp 0 0) a4 fun d0 _x=>cM d0 fun d1 d2 d3 d4 d5 d6 d7=>(iL a4 0 (.agg [.int .u8 d1,.int .i64 d2,.int .i64 d3,.bool d4,.str d5,d6,d7]) fun d8=>some d8))))) (ak (aG vE) 44 [] t fun d9 e0 c=>cQ (apart c (⟨[],.kept⟩)&&true) (cQ (apart c (⟨[],.kept⟩)&&true) (cQ (apart c (⟨[],.kept⟩)&&true) (dF (aG vE) (iO (Env.T vE) 87 d9 (.int .u8 b) false) e0 fun e1 e2 a5=>cQ (apart a5 (⟨[],.kept⟩)&&(apart c (⟨[],.kept⟩)&&true)) (ak (aG vE) 11 [.agg [.int .u8 b,.int .u8 e,.str f,p,.int .i64 o]] e2 fun e3 e4 d=>cQ (apart a5 d&&(apart (⟨[],.kept⟩) d&&(apart (⟨[],.kept⟩) d&&(apart (⟨[],.kept⟩) d&&true)))) (jR (aG vE) (Sx.prim (sx vE 25)) e1 [.mp 1 0,e3] e4 fun _x i _x_2=>aK (bI (b==14) (aA 1 false (.mp 1 6) i fun e5 _x=>fC e5 fun e6=>some ([.bool ((↑e6:Int)==1)],i)) (some ([.bool false],i))) fun a=>bK a.1 fun e7 e8=>du e7 fun e9=>cT e8 (bI e9 (aA 1 false (.mp 1 6) a.2 fun f0 _x=>bZ 7 f0 0 a.2 fun f1 _x=>aA 7 true f1 a.2 fun f2 _x=>cM f2 fun a6 a7 a8 a9 b0 j k=>(af j (af k (ao (aG vE) 7 (.mp 0 0) (.agg [.int .u8 a6,.int .i64 a7,.int .i64 a8,.bool a9,.str b0,j,k]) [.int .u8 a6,.int .i64 a7,.int .i64 a8,.bool a9,.str b0,j,k] a.2 fun _x b1 _x_3=>aA 7 true (.mp 0 0) b1 fun f3 _x=>cM f3 fun f4 f5 f6 f7 f8 f9 h0=>(iL b1 0 (.agg [.int .u8 f4,.int .i64 f5,.int .i64 f6,.bool f7,.str f8,f9,h0]) fun h1=>some h1))))) (aA 7 true (.mp 1 0) a.2 fun h2 _x=>cM h2 fun b2 b3 b4 b5 b6 l m=>(af l (af m (ao (aG vE) 7 (.mp 0 0) (.agg [.int .u8 b2,.int .i64 b3,.int .i64 b4,.bool b5,.str b6,l,m]) [.int .u8 b2,.int .i64 b3,.int .i64 b4,.bool b5,.str b6,l,m] a.2 fun _x b7 _x_3=>aA 7 true (.mp 0 0) b7 fun h3 _x=>cM h3 fun h4 h5 h6 h7 h8 h9 i0=>(iL b7 0 (.agg [.int .u8 h4,.int .i64 h5,.int .i64 h6,.bool h7,.str h8,h9,i0]) fun i1=>some i1)))))))))))))))
theorem HJ (x0:AV):cP vE 25 [x0]=RJ x0:=by kernel_rfl
noncomputable def DH (i:AV) (j:AV) (k:Nat):dK→Option (dK ⊕ Nat×dK):=fun a=>bK a.1 fun l m=>bV .i64 l fun b=>cT m (bI (decide (b < (↑k:Int))) (bZ 4 j b a.2 fun n _x=>aA 4 true n a.2 fun o _x=>aE o fun e f g c=>(bP (St.add a.2 (VM.Obj.cells 44 [.int .u8 0,.int .u8 0,.str [],.aq])) fun p=>af c (ao (aG vE) 4 (.mp (St.h a.2) 0) (.agg [.int .u8 e,.int .u8 f,.str g,c]) [.int .u8 e,.int .u8 f,.str g,c] p fun _x d _x_1=>aA 1 false i d fun q _x=>aA 4 true (.mp (St.h a.2) 0) d fun r _x=>aE r fun s t u v=>(jR (aG vE) (Sx.prim (sx vE 26)) q [.agg [.int .u8 s,.int .u8 t,.str u,v]] d fun _x w _x_2=>bA (IntKind.wrap .i64 (b+1)) fun y=>some (Sum.inl ([.int .i64 y],w)))))) (some (Sum.inr (0,[],Prod.snd a))))
noncomputable def R9:AV→AV→AV→AV→AV→St→Option (AV×St):=fun n o g b h st=>aE n fun p q c i=>(af i (aV i fun j=>fC j fun r=>aK (bu (DH o j r) ([.int .i64 0],st)) fun d=>cT d.2.1 (bI (p != 1) (some (.tup [],Prod.snd d.2)) (ak (aG vE) 27 [.agg [.int .u8 q,.str c]] d.2.2 fun s a _x=>du s fun t=>aK (bI t (aA 1 false g a fun u _x=>du u fun v=>aK (bI (!v) (aA 1 false b a fun w _x=>bV .i64 w fun k=>ct 0 h fun y=>ao (aG vE) 1 y (.int .i64 k) [.int .i64 k] a fun _x z _x_1=>ao (aG vE) 1 g (.bool true) [.bool true] z fun _x a0 _x_2=>some ([],a0)) (some ([],a))) fun e=>cT e.1 (aA 1 false b e.2 fun a1 _x=>bV .i64 a1 fun a2=>bA (IntKind.wrap .i64 (a2+(↑(List.length c):Int))) fun l=>ct 1 h fun a3=>ao (aG vE) 1 a3 (.int .i64 l) [.int .i64 l] e.2 fun _x a4 _x_1=>some ([],a4))) (some ([],a))) fun f=>cT f.1 (aA 1 false b f.2 fun a5 _x=>bV .i64 a5 fun a6=>bA (IntKind.wrap .i64 (a6+(↑(List.length c):Int))) fun m=>ao (aG vE) 1 b (.int .i64 m) [.int .i64 m] f.2 fun _x a7 _x_1=>some (.tup [],a7))))))
theorem OJ (x0 x1 x2 x3 x4:AV) (st:St):ey vE 26 [x0,x1,x2,x3,x4] st=R9 x0 x1 x2 x3 x4 st:=by kernel_rfl
noncomputable def Sg:AV→Option AV:=fun b=>gU b fun a _x=>(aK (bI (a != 0) (bI (a != 1) (some ([.bool (a != 2)],St.mk 0 0 Tr.leaf)) (some ([.bool false],St.mk 0 0 Tr.leaf))) (some ([.bool false],St.mk 0 0 Tr.leaf))) fun c=>bK c.1 fun d e=>du d fun f=>cT e (some (.bool f)))
theorem NK (x0:AV):cP vE 27 [x0]=Sg x0:=by kernel_rfl
noncomputable def RZ:AV→AV→AV→Option AV:=fun e f g=>fh e fun h i j k l a=>(fh f fun m n o p q b=>(du g fun c=>af a (aV a fun r=>af b (aV b fun s=>aK (bI (h != m) (some ([.bool true],St.mk 0 0 Tr.leaf)) (bI (i != n) (some ([.bool true],St.mk 0 0 Tr.leaf)) (bI (!l==q) (some ([.bool true],St.mk 0 0 Tr.leaf)) (bI c (aK (Ji (VM.binOp (Env.T vE) BinOp.neq 30 (.agg [.int .i64 j,.int .i64 k]) (.agg [.int .i64 o,.int .i64 p]))) fun t=>du t fun u=>some ([.bool u],St.mk 0 0 Tr.leaf)) (some ([.bool false],St.mk 0 0 Tr.leaf)))))) fun d=>bK d.1 fun v w=>du v fun y=>cT w (bI y (some (.bool false)) (ak (aG vE) 14 [r,s,.bool c] d.2 fun z _x _x_1=>du z fun a0=>some (.bool a0)))))))
theorem Oe (x0 x1 x2:AV):cP vE 28 [x0,x1,x2]=RZ x0 x1 x2:=by kernel_rfl
noncomputable def Sq:AV→Option AV:=fun x0=>cr x0 fun c d j q r=>(af q (aV q fun s=>ak (aG vE) 13 [.agg [.int .u8 c,.int .u8 d,.str j,s,.int .i64 r]] (St.mk 2 0 (Tr.node (some (VM.Obj.cells 38 [.int .u8 0,.int .u8 0,.int .i64 0,.int .i64 0,.str [],.aq])) (Tr.node (some (VM.Obj.cells 38 [.int .u8 0,.int .u8 0,.int .i64 0,.int .i64 0,.str [],.aq])) Tr.leaf Tr.leaf) Tr.leaf)) fun t c8 _x=>iy t fun c9=>da c9 0 fun d0=>xu d0 fun u v=>(iy t fun d1=>da d1 1 fun d2=>du d2 fun _x=>ao (aG vE) 2 (.mp 1 2) (.agg [.int .i64 u,.int .i64 v]) [.int .i64 u,.int .i64 v] c8 fun _x d3 _x_1=>ak (aG vE) 11 [.agg [.int .u8 c,.int .u8 d,.str j,s,.int .i64 r]] d3 fun e a _x=>aK (bI (c==16) (bZ 5 e 0 a fun d4 _x=>aA 5 true d4 a fun d5 _x=>cr d5 fun d6 d7 d8 d9 e0=>(ak (aG vE) 42 [.agg [.int .u8 d6,.int .u8 d7,.str d8,d9,.int .i64 e0]] a fun e1 k f=>fh e1 fun w y z a0 a1 l=>(cQ (apart f (⟨[],.kept⟩)&&true) (bZ 5 e 2 k fun e2 e3=>cQ (apart f (Fx.mk e3 gg.kept)&&true) (aA 5 true e2 k fun e4 e5=>cr e4 fun e6 e7 e8 e9 f0=>(cQ (apart f (Fx.mk e5 gg.kept)&&true) (ak (aG vE) 42 [.agg [.int .u8 e6,.int .u8 e7,.str e8,e9,.int .i64 f0]] k fun f1 f2 f3=>fh f1 fun a2 a3 a4 a5 a6 m=>(af l (af m (af l (aV l fun a7=>af m (aV m fun a8=>cQ (apart f3 (⟨[],.kept⟩)&&(apart f (⟨[],.kept⟩)&&true)) (ao (aG vE) 1 (.mp 1 0) (.int .u8 20) [.int .u8 20] f2 fun _x f4 f5=>cQ (apart (⟨[],.kept⟩) f5&&true) (ao (aG vE) 1 (.mp 1 5) (.sl 6 [.agg [.int .u8 w,.int .u8 y,.int .i64 z,.int .i64 a0,.str a1,a7],.agg [.int .u8 a2,.int .u8 a3,.int .i64 a4,.int .i64 a5,.str a6,a8]] .shut) [.sl 6 [.agg [.int .u8 w,.int .u8 y,.int .i64 z,.int .i64 a0,.str a1,a7],.agg [.int .u8 a2,.int .u8 a3,.int .i64 a4,.int .i64 a5,.str a6,a8]] .shut] f4 fun _x f6 _x_2=>some (Sum.inl ([],f6)))))))))))))))) (aK (bI (c==18) (ak (aG vE) 59 [e] a fun f7 f8 _x=>ak (aG vE) 24 [f7] f8 fun g f9 _x=>ao (aG vE) 1 (.mp 1 0) (.int .u8 19) [.int .u8 19] f9 fun _x h0 _x_2=>af g (af g (ao (aG vE) 1 (.mp 1 5) g [g] h0 fun _x h1 _x_3=>some (Sum.inl ([],h1))))) (aK (bI (c==17) (ak (aG vE) 59 [e] a fun h2 h3 _x=>ak (aG vE) 24 [h2] h3 fun h h4 _x=>ao (aG vE) 1 (.mp 1 0) (.int .u8 18) [.int .u8 18] h4 fun _x h5 _x_2=>af h (af h (ao (aG vE) 1 (.mp 1 5) h [h] h5 fun _x b _x_3=>aA 1 false (.mp 1 5) b fun h6 _x=>fC h6 fun h7=>bI ((↑h7:Int)==1) (aA 1 false (.mp 1 5) b fun h8 _x=>bZ 6 h8 0 b fun h9 _x=>aA 6 true h9 b fun i0 _x=>fh i0 fun a9 b0 b1 b2 b3 n=>(af n (ao (aG vE) 6 (.mp 0 0) (.agg [.int .u8 a9,.int .u8 b0,.int .i64 b1,.int .i64 b2,.str b3,n]) [.int .u8 a9,.int .u8 b0,.int .i64 b1,.int .i64 b2,.str b3,n] b fun _x b4 _x_4=>aK (aK (aK (aA 6 true (.mp 0 0) b4 fun i1 _x=>fh i1 fun i2 i3 i4 i5 i6 i7=>(iL b4 0 (.agg [.int .u8 i2,.int .u8 i3,.int .i64 i4,.int .i64 i5,.str i6,i7]) fun i8=>some i8)) fun i9=>some (Sum.inr i9)) fun j0=>some (Sum.inr j0)) fun j1=>some (Sum.inr j1)))) (some (Sum.inl ([],b)))))) (ak (aG vE) 43 [.agg [.int .u8 d,.str j]] a fun b5 j2 _x=>iy b5 fun j3=>da j3 0 fun j4=>bV .u8 j4 fun b6=>iy b5 fun j5=>da j5 1 fun j6=>fY j6 fun b7=>ao (aG vE) 1 (.mp 1 1) (.int .u8 b6) [.int .u8 b6] j2 fun _x j7 _x_2=>ao (aG vE) 1 (.mp 1 4) (.str b7) [.str b7] j7 fun _x i _x_3=>aA 1 false (.mp 1 1) i fun j8 _x=>bV .u8 j8 fun j9=>aK (bI (j9==1) (ao (aG vE) 1 (.mp 1 0) (.int .u8 15) [.int .u8 15] i fun _x k0 _x_4=>ao (aG vE) 1 (.mp 1 1) (.int .u8 0) [.int .u8 0] k0 fun _x k1 _x_5=>some ([],k1)) (aK (bI (d==8) (ao (aG vE) 1 (.mp 1 0) (.int .u8 16) [.int .u8 16] i fun _x k2 _x_4=>ao (aG vE) 1 (.mp 1 1) (.int .u8 0) [.int .u8 0] k2 fun _x k3 _x_5=>ao (aG vE) 1 (.mp 1 4) (.str []) [.str []] k3 fun _x k4 _x_6=>some ([],k4)) (ao (aG vE) 1 (.mp 1 0) (.int .u8 17) [.int .u8 17] i fun _x k5 _x_4=>some ([],k5))) fun b8=>cT b8.1 (some ([],Prod.snd b8)))) fun b9=>cT b9.1 (some (Sum.inl ([],Prod.snd b9))))) fun k6=>kq k6 fun c0=>cT c0.1 (some (Sum.inl ([],Prod.snd c0))))) fun k7=>kq k7 fun c1=>cT c1.1 (some (Sum.inl ([],Prod.snd c1))))) fun k8=>kq k8 fun o=>cT o.1 (aA 6 true (.mp 1 0) o.2 fun k9 _x=>fh k9 fun c2 c3 c4 c5 c6 p=>(af p (ao (aG vE) 6 (.mp 0 0) (.agg [.int .u8 c2,.int .u8 c3,.int .i64 c4,.int .i64 c5,.str c6,p]) [.int .u8 c2,.int .u8 c3,.int .i64 c4,.int .i64 c5,.str c6,p] o.2 fun _x c7 _x_2=>aA 6 true (.mp 0 0) c7 fun m0 _x=>fh m0 fun m1 m2 m3 m4 m5 m6=>(iL c7 0 (.agg [.int .u8 m1,.int .u8 m2,.int .i64 m3,.int .i64 m4,.str m5,m6]) fun m7=>some m7)))))))
theorem NP (x0:AV):cP vE 42 [x0]=Sq x0:=by kernel_rfl
noncomputable def Sk:AV→Option AV:=fun c=>gU c fun b a=>(bI (b==4) (some (.tup [.int .u8 1,.str a])) (bI (b==5) (some (.tup [.int .u8 2,.str a])) (bI (b==6) (some (.tup [.int .u8 3,.str a])) (bI (b==7) (ak (aG vE) 60 [.str a] (St.mk 0 0 Tr.leaf) fun d _x _x_1=>fY d fun e=>some (.tup [.int .u8 4,.str e])) (some (.tup [.int .u8 5,.str a]))))))
theorem Mv (x0:AV):cP vE 43 [x0]=Sk x0:=by kernel_rfl
noncomputable def SM:Option AV:=some (.im [(.int .u8 14,.fn (Fn.func 61) [] []),(.int .u8 15,.fn (Fn.func 63) [] []),(.int .u8 13,.fn (Fn.func 64) [] []),(.int .u8 11,.fn (Fn.func 65) [] []),(.int .u8 12,.fn (Fn.func 66) [] []),(.int .u8 8,.fn (Fn.func 67) [] []),(.int .u8 7,.fn (Fn.func 68) [] []),(.int .u8 6,.fn (Fn.func 69) [] []),(.int .u8 9,.fn (Fn.func 70) [] [])])
theorem Ol:cP vE 44 []=SM:=by kernel_rfl
noncomputable def DB (d:AV):dK→Option (dK ⊕ Nat×dK):=fun a=>bK a.1 fun e g=>bK g fun h i=>bV .i64 h fun b=>cT i (fC d fun j=>bA (IntKind.wrap .i64 ((↑j:Int) - 1)) fun k=>bI (decide (b < k)) (bZ 5 d b a.2 fun l _x=>aA 5 true l a.2 fun m _x=>cr m fun n o p c q=>(af c (af c (aV c fun f=>af f (aV f fun r=>gf 5 64 50 e [.agg [.int .u8 n,.int .u8 o,.str p,r,.int .i64 q]] a.2 fun s t _x=>bA (IntKind.wrap .i64 (b+2)) fun u=>some (Sum.inl ([s,.int .i64 u],t))))))) (some (Sum.inr (0,[e],Prod.snd a))))
noncomputable def So:AV→Option AV:=fun b=>aK (bu (DB b) ([.aq,.int .i64 1],St.mk 0 0 Tr.leaf)) fun a=>bK a.2.1 fun c d=>cT d (iL a.2.2 0 (oneOf [c]) fun e=>some e)
theorem Mp (x0:AV):cP vE 59 [x0]=So x0:=by kernel_rfl
noncomputable def mK (b:List UInt8):dK→Option (dK ⊕ Nat×dK):=fun a=>bK a.1 fun i j=>bV .i64 i fun c=>cT j (bI (decide (c < (↑(List.length b):Int))) (aK (fb b c fun k=>bI ((↑(UInt8.toNat k):Int) != 92) (fb b c fun l=>ak (aG vE) 86 [.mp 0 0,.int .u8 (↑(UInt8.toNat l):Int)] a.2 fun _x m _x_1=>some (Sum.inl ([.int .i64 c],m))) (bA (IntKind.wrap .i64 (c+1)) fun d=>fb b d fun e=>aK (bI ((↑(UInt8.toNat e):Int)==110) (ak (aG vE) 86 [.mp 0 0,.int .u8 10] a.2 fun _x n _x_1=>some ([],n)) (aK (bI ((↑(UInt8.toNat e):Int)==116) (ak (aG vE) 86 [.mp 0 0,.int .u8 9] a.2 fun _x o _x_1=>some ([],o)) (fb b d fun p=>ak (aG vE) 86 [.mp 0 0,.int .u8 (↑(UInt8.toNat p):Int)] a.2 fun _x q _x_1=>some ([],q))) fun f=>cT f.1 (some ([],Prod.snd f)))) fun g=>cT g.1 (some (Sum.inl ([.int .i64 d],Prod.snd g))))) fun r=>kq r fun h=>bK h.1 fun s t=>bV .i64 s fun u=>cT t (bA (IntKind.wrap .i64 (u+1)) fun v=>some (Sum.inl ([.int .i64 v],Prod.snd h)))) (some (Sum.inr (0,[],Prod.snd a))))
noncomputable def Sc:AV→Option AV:=fun d=>fY d fun a=>bA (IntKind.wrap .i64 ((↑(List.length a):Int) - 1)) fun e=>fJ e (List.length a) fun b=>cQ (Nat.ble 1 b) (bA (List.drop 1 (List.take b a)) fun f=>aK (bu (mK f) ([.int .i64 0],St.mk 1 0 (Tr.node (some (VM.Obj.cells 127 [.nilp,.aq])) Tr.leaf Tr.leaf))) fun c=>cT c.2.1 (dF (aG vE) (fu (Prim.builderString 5) [.mp 0 0]) c.2.2 fun g _x _x_1=>fY g fun h=>some (.str h)))
theorem MC (x0:AV):cP vE 60 [x0]=Sc x0:=by kernel_rfl
noncomputable def SJ:AV→AV→St→Option (AV×St):=fun a c st=>ak (aG vE) 59 [c] st fun d e _x=>ak (aG vE) 62 [d] e fun b f _x=>cQ (notNil a) (ct 0 a fun g=>ao (aG vE) 1 g (.int .u8 6) [.int .u8 6] f fun _x h _x_1=>cQ (notNil a) (ct 6 a fun i=>af b (af b (ao (aG vE) 1 i b [b] h fun _x j _x_2=>some (.tup [],j)))))
theorem Nj (x0 x1:AV) (st:St):ey vE 61 [x0,x1] st=SJ x0 x1 st:=by kernel_rfl
noncomputable def Ea (o:AV) (p:Nat):dK→Option (dK ⊕ Nat×dK):=fun a=>bK a.1 fun f q=>bK q fun r s=>bV .i64 r fun b=>cT s (bI (decide (b < (↑p:Int))) (bZ 5 o b a.2 fun t _x=>aA 5 true t a.2 fun u _x=>cr u fun g i j c k=>(bP (St.add a.2 (VM.Obj.cells 50 [.int .u8 0,.int .u8 0,.str [],.aq,.int .i64 0])) fun v=>af c (ao (aG vE) 5 (.mp (St.h a.2) 0) (.agg [.int .u8 g,.int .u8 i,.str j,c,.int .i64 k]) [.int .u8 g,.int .u8 i,.str j,c,.int .i64 k] v fun _x l _x_1=>aA 5 true (.mp (St.h a.2) 0) l fun w _x=>cr w fun y z a0 a1 a2=>(ak (aG vE) 25 [.agg [.int .u8 y,.int .u8 z,.str a0,a1,.int .i64 a2]] l fun a3 a4 _x=>cM a3 fun a5 a6 a7 a8 a9 d e=>(af d (af e (af d (af e (aV d fun m=>aV e fun n=>af m (af n (aV m fun b0=>aV n fun b1=>gf 7 96 34 f [.agg [.int .u8 a5,.int .i64 a6,.int .i64 a7,.bool a8,.str a9,b0,b1]] a4 fun b2 b3 _x=>bA (IntKind.wrap .i64 (b+1)) fun b4=>some (Sum.inl ([b2,.int .i64 b4],b3))))))))))))) (some (Sum.inr (0,[f],Prod.snd a))))
noncomputable def RU:AV→St→Option (AV×St):=fun a st=>fC a fun c=>aK (bu (Ea a c) ([.aq,.int .i64 0],st)) fun b=>bK b.2.1 fun d e=>cT e (some (oneOf [d],Prod.snd b.2))
theorem Ms (x0:AV) (st:St):ey vE 62 [x0] st=RU x0 st:=by kernel_rfl
noncomputable def SN:AV→AV→St→Option (AV×St):=fun a c st=>ak (aG vE) 59 [c] st fun d e _x=>ak (aG vE) 62 [d] e fun b f _x=>cQ (notNil a) (ct 0 a fun g=>ao (aG vE) 1 g (.int .u8 7) [.int .u8 7] f fun _x h _x_1=>cQ (notNil a) (ct 6 a fun i=>af b (af b (ao (aG vE) 1 i b [b] h fun _x j _x_2=>some (.tup [],j)))))
theorem Na (x0 x1:AV) (st:St):ey vE 63 [x0,x1] st=SN x0 x1 st:=by kernel_rfl
noncomputable def SO:AV→AV→St→Option (AV×St):=fun a c st=>ak (aG vE) 62 [c] st fun b d _x=>cQ (notNil a) (ct 0 a fun e=>ao (aG vE) 1 e (.int .u8 8) [.int .u8 8] d fun _x f _x_1=>cQ (notNil a) (ct 6 a fun g=>af b (af b (ao (aG vE) 1 g b [b] f fun _x h _x_2=>some (.tup [],h)))))
theorem OV (x0 x1:AV) (st:St):ey vE 64 [x0,x1] st=SO x0 x1 st:=by kernel_rfl
noncomputable def Su:AV→AV→St→Option (AV×St):=fun b d st=>bZ 5 d 1 st fun i j=>ct 0 i fun k=>ct 1 k fun l=>ct 1 l fun m=>aA 1 false m st fun n o=>fY n fun g=>bZ 5 d 0 st fun p _x=>aA 5 true p st fun q _x=>cr q fun r s t e u=>(bZ 5 d 2 st fun v _x=>aA 5 true v st fun w _x=>cr w fun y z a0 f a1=>(af e (af f (af e (aV e fun a2=>af f (aV f fun a3=>ak (aG vE) 62 [.sl 5 [.agg [.int .u8 r,.int .u8 s,.str t,a2,.int .i64 u],.agg [.int .u8 y,.int .u8 z,.str a0,a3,.int .i64 a1]] .shut] st fun c a4 a=>cQ (apart (Fx.mk o gg.kept) a&&(apart (⟨[],.kept⟩) a&&(apart (⟨[],.kept⟩) a&&(apart (⟨[],.kept⟩) a&&(apart (Fx.mk j gg.kept) a&&(apart (⟨[],.kept⟩) a&&(apart (⟨[],.kept⟩) a&&(apart (⟨[],.kept⟩) a&&(apart (⟨[],.kept⟩) a&&true))))))))) (cQ (notNil b) (ct 0 b fun a5=>ao (aG vE) 1 a5 (.int .u8 9) [.int .u8 9] a4 fun _x a6 h=>cQ (apart (⟨[],.kept⟩) h&&(apart (⟨[],.kept⟩) h&&true)) (cQ (notNil b) (ct 4 b fun a7=>ao (aG vE) 1 a7 (.str g) [.str g] a6 fun _x a8 a9=>cQ (apart (⟨[],.kept⟩) a9&&true) (cQ (notNil b) (ct 6 b fun b0=>af c (af c (ao (aG vE) 1 b0 c [c] a8 fun _x b1 _x_1=>some (.tup [],b1)))))))))))))))
theorem Nu (x0 x1:AV) (st:St):ey vE 65 [x0,x1] st=Su x0 x1 st:=by kernel_rfl
noncomputable def Sl:AV→AV→St→Option (AV×St):=fun b e st=>bZ 5 e 0 st fun h i=>ct 0 h fun j=>ct 1 j fun k=>ct 1 k fun l=>aA 1 false l st fun m n=>fY m fun f=>bZ 5 e 1 st fun o _x=>aA 5 true o st fun p _x=>cr p fun q r s d t=>(af d (af d (aV d fun u=>ak (aG vE) 62 [.sl 5 [.agg [.int .u8 q,.int .u8 r,.str s,u,.int .i64 t]] .shut] st fun c v a=>cQ (apart (Fx.mk n gg.kept) a&&(apart (⟨[],.kept⟩) a&&(apart (⟨[],.kept⟩) a&&(apart (⟨[],.kept⟩) a&&(apart (Fx.mk i gg.kept) a&&(apart (⟨[],.kept⟩) a&&(apart (⟨[],.kept⟩) a&&(apart (⟨[],.kept⟩) a&&(apart (⟨[],.kept⟩) a&&true))))))))) (cQ (notNil b) (ct 0 b fun w=>ao (aG vE) 1 w (.int .u8 10) [.int .u8 10] v fun _x y g=>cQ (apart (⟨[],.kept⟩) g&&(apart (⟨[],.kept⟩) g&&true)) (cQ (notNil b) (ct 4 b fun z=>ao (aG vE) 1 z (.str f) [.str f] y fun _x a0 a1=>cQ (apart (⟨[],.kept⟩) a1&&true) (cQ (notNil b) (ct 6 b fun a2=>af c (af c (ao (aG vE) 1 a2 c [c] a0 fun _x a3 _x_1=>some (.tup [],a3))))))))))))
theorem N5 (x0 x1:AV) (st:St):ey vE 66 [x0,x1] st=Sl x0 x1 st:=by kernel_rfl
noncomputable def Sn:AV→AV→St→Option (AV×St):=fun a c st=>bZ 5 c 1 st fun h _x=>aA 5 true h st fun i _x=>cr i fun j k l d m=>(bZ 5 c 3 st fun n _x=>aA 5 true n st fun o _x=>cr o fun p q r e s=>(bZ 5 c 5 st fun t _x=>aA 5 true t st fun u _x=>cr u fun v w y f z=>(af d (af e (af f (af d (aV d fun a0=>af e (aV e fun a1=>af f (aV f fun a2=>ak (aG vE) 62 [.sl 5 [.agg [.int .u8 j,.int .u8 k,.str l,a0,.int .i64 m],.agg [.int .u8 p,.int .u8 q,.str r,a1,.int .i64 s],.agg [.int .u8 v,.int .u8 w,.str y,a2,.int .i64 z]] .shut] st fun b a3 g=>cQ (apart (⟨[],.kept⟩) g&&(apart (⟨[],.kept⟩) g&&true)) (cQ (notNil a) (ct 0 a fun a4=>ao (aG vE) 1 a4 (.int .u8 12) [.int .u8 12] a3 fun _x a5 a6=>cQ (apart (⟨[],.kept⟩) a6&&true) (cQ (notNil a) (ct 6 a fun a7=>af b (af b (ao (aG vE) 1 a7 b [b] a5 fun _x a8 _x_1=>some (.tup [],a8))))))))))))))))
theorem Nn (x0 x1:AV) (st:St):ey vE 67 [x0,x1] st=Sn x0 x1 st:=by kernel_rfl
noncomputable def SI:AV→AV→St→Option (AV×St):=fun b e st=>fC e fun i=>bA (IntKind.wrap .i64 ((↑i:Int) - 2)) fun k=>fO 5 e (some 1) (some k) none fun l=>ak (aG vE) 24 [l] st fun c f a=>cQ (apart (⟨[],.kept⟩) a&&(apart (⟨[],.kept⟩) a&&(apart (⟨[],.kept⟩) a&&true))) (cQ (apart a (⟨[],.kept⟩)&&true) (cQ (apart a (⟨[],.kept⟩)&&true) (bA (IntKind.wrap .i64 ((↑i:Int) - 1)) fun m=>cQ (apart a (⟨[],.kept⟩)&&true) (bZ 5 e m f fun n o=>cQ (apart a (Fx.mk o gg.kept)&&true) (aA 5 true n f fun p q=>cr p fun r s t g u=>(cQ (apart a (Fx.mk q gg.kept)&&true) (af g (af g (aV g fun v=>cQ (apart a (⟨[],.kept⟩)&&true) (ak (aG vE) 62 [.sl 5 [.agg [.int .u8 r,.int .u8 s,.str t,v,.int .i64 u]] .shut] f fun d w h=>cQ (apart (⟨[],.kept⟩) h&&(apart (⟨[],.kept⟩) h&&(apart (⟨[],.kept⟩) h&&true))) (cQ (notNil b) (ct 0 b fun y=>ao (aG vE) 1 y (.int .u8 11) [.int .u8 11] w fun _x z j=>cQ (apart (⟨[],.kept⟩) j&&(apart (⟨[],.kept⟩) j&&true)) (cQ (notNil b) (ct 5 b fun a0=>af c (af c (ao (aG vE) 1 a0 c [c] z fun _x a1 a2=>cQ (apart (⟨[],.kept⟩) a2&&true) (cQ (notNil b) (ct 6 b fun a3=>af d (af d (ao (aG vE) 1 a3 d [d] a1 fun _x a4 _x_1=>some (.tup [],a4)))))))))))))))))))))
theorem M7 (x0 x1:AV) (st:St):ey vE 68 [x0,x1] st=SI x0 x1 st:=by kernel_rfl
noncomputable def R7:AV→AV→St→Option (AV×St):=fun b k st=>fC k fun t=>bA (IntKind.wrap .i64 ((↑t:Int) - 2)) fun n1=>fO 5 k none (some n1) none fun v2=>ak (aG vE) 12 [v2] st fun v3 e _x=>gD v3 fun u v w l y z a0 a1 a2 m n=>(bP (St.add e (VM.Obj.cells 36 [.int .i64 0,.int .i64 0,.bool false,.aq,.int .u8 0,.int .i64 0,.int .i64 0,.bool false,.str [],.aq,.aq])) fun c0=>af l (af m (af n (ao (aG vE) 11 (.mp (St.h e) 0) (.agg [.int .i64 u,.int .i64 v,.bool w,l,.int .u8 y,.int .i64 z,.int .i64 a0,.bool a1,.str a2,m,n]) [.int .i64 u,.int .i64 v,.bool w,l,.int .u8 y,.int .i64 z,.int .i64 a0,.bool a1,.str a2,m,n] c0 fun _x d _x_1=>aA 1 false (.mp (St.h e) 2) d fun c1 o=>du c1 fun a3=>aA 1 false (.mp (St.h e) 3) d fun g i=>aA 7 true (.mp (St.h e) 4) d fun c2 c3=>cM c2 fun a4 a5 a6 a7 a8 p q=>(af p (af q (af p (af q (aV p fun a9=>aV q fun b0=>bA (IntKind.wrap .i64 ((↑t:Int) - 1)) fun c4=>bZ 5 k c4 d fun c5 _x=>aA 5 true c5 d fun c6 _x=>cr c6 fun c7 c8 c9 d0 d1=>(ak (aG vE) 25 [.agg [.int .u8 c7,.int .u8 c8,.str c9,d0,.int .i64 d1]] d fun d2 f a=>cM d2 fun b1 b2 b3 b4 b5 r s=>(cQ (apart (⟨[],.kept⟩) a&&(apart (Fx.mk c3 gg.kept) a&&(apart (⟨[],.kept⟩) a&&(apart (Fx.mk i gg.kept) a&&(apart (⟨[],.kept⟩) a&&(apart (Fx.mk o gg.kept) a&&(apart (⟨[],.kept⟩) a&&(apart (⟨[],.kept⟩) a&&(apart (⟨[],.kept⟩) a&&(apart (⟨[],.kept⟩) a&&(apart (⟨[],.kept⟩) a&&true))))))))))) (af r (af s (af r (af s (aV r fun b6=>aV s fun b7=>af b6 (af b7 (aV b6 fun b8=>aV b7 fun b9=>bP (St.add f (Obj.tok 2 34)) fun d3=>cQ (apart (Fx.mk i gg.kept) (Fx.mk [] (gg.made (St.h f) (Obj.tok 2 34)))&&(apart (Fx.mk o gg.kept) (Fx.mk [] (gg.made (St.h f) (Obj.tok 2 34)))&&true)) (cQ (notNil b) (ct 0 b fun d4=>ao (aG vE) 1 d4 (.int .u8 14) [.int .u8 14] d3 fun _x d5 c=>cQ (apart (Fx.mk i gg.kept) c&&(apart (⟨[],.kept⟩) c&&(apart (Fx.mk o gg.kept) c&&(apart (⟨[],.kept⟩) c&&(apart (⟨[],.kept⟩) c&&(apart (⟨[],.kept⟩) c&&(apart (⟨[],.kept⟩) c&&true))))))) (cQ (notNil b) (ct 3 b fun d6=>ao (aG vE) 1 d6 (.bool a3) [.bool a3] d5 fun _x d7 j=>cQ (apart (Fx.mk i gg.kept) j&&(apart (⟨[],.kept⟩) j&&(apart (⟨[],.kept⟩) j&&(apart (⟨[],.kept⟩) j&&true)))) (cQ (notNil b) (ct 5 b fun d8=>af g (af g (ao (aG vE) 1 d8 g [g] d7 fun _x d9 e0=>cQ (apart (⟨[],.kept⟩) e0&&true) (cQ (notNil b) (ct 6 b fun e1=>ao (aG vE) 1 e1 (.sl 7 [.agg [.int .u8 a4,.int .i64 a5,.int .i64 a6,.bool a7,.str a8,a9,b0],.agg [.int .u8 b1,.int .i64 b2,.int .i64 b3,.bool b4,.str b5,b8,b9]] (Perm.own (St.h f))) [.sl 7 [.agg [.int .u8 a4,.int .i64 a5,.int .i64 a6,.bool a7,.str a8,a9,b0],.agg [.int .u8 b1,.int .i64 b2,.int .i64 b3,.bool b4,.str b5,b8,b9]] (Perm.own (St.h f))] d9 fun _x e2 _x_2=>some (.tup [],e2)))))))))))))))))))))))))))))
theorem N4 (x0 x1:AV) (st:St):ey vE 69 [x0,x1] st=R7 x0 x1 st:=by kernel_rfl
noncomputable def EE (a:AV) (x1:AV) (b4:Nat):dK→Option (dK ⊕ Nat×dK):=fun b=>bK b.1 fun b5 b6=>bV .i64 b5 fun k=>cT b6 (bI (decide (k < (↑b4:Int))) (bZ 5 x1 k b.2 fun b7 _x=>aA 5 true b7 b.2 fun b8 _x=>cr b8 fun r s t l u=>(bP (St.add b.2 (VM.Obj.cells 50 [.int .u8 0,.int .u8 0,.str [],.aq,.int .i64 0])) fun b9=>af l (ao (aG vE) 5 (.mp (St.h b.2) 0) (.agg [.int .u8 r,.int .u8 s,.str t,l,.int .i64 u]) [.int .u8 r,.int .u8 s,.str t,l,.int .i64 u] b9 fun _x g _x_1=>aA 1 false (.mp (St.h b.2) 0) g fun c0 _x=>bV .u8 c0 fun c1=>aK (bI (c1==10) (aA 5 true (.mp (St.h b.2) 0) g fun c2 _x=>cr c2 fun c3 c4 c5 c6 c7=>(ak (aG vE) 11 [.agg [.int .u8 c3,.int .u8 c4,.str c5,c6,.int .i64 c7]] g fun v i _x=>cQ (notNil a) (ct 5 a fun c8=>aA 1 false c8 i fun w c9=>bZ 5 v 0 i fun d0 _x=>aA 5 true d0 i fun d1 _x=>cr d1 fun d2 d3 d4 d5 d6=>(ak (aG vE) 42 [.agg [.int .u8 d2,.int .u8 d3,.str d4,d5,.int .i64 d6]] i fun d7 d8 c=>fh d7 fun y z a0 a1 a2 m=>(cQ (apart (Fx.mk c9 gg.kept) c&&(apart (⟨[],.kept⟩) c&&(apart (⟨[],.kept⟩) c&&(apart (⟨[],.kept⟩) c&&true)))) (fC w fun d9=>cQ (apart c (⟨[],.kept⟩)&&true) (cQ (apart c (⟨[],.kept⟩)&&true) (dF (aG vE) (gP (TI.mk (U.struct [(0,5),(1,5),(2,30),(4,9),(5,31)]) 6 64 [.int .u8 0,.int .u8 0,.int .i64 0,.int .i64 0,.str [],.aq] true true) 38 w [.agg [.int .u8 0,.int .u8 0,.int .i64 0,.int .i64 0,.str [],.aq]]) d8 fun e a3 _x=>bZ 6 e (↑d9:Int) a3 fun e0 e1=>af m (ao (aG vE) 6 e0 (.agg [.int .u8 y,.int .u8 z,.int .i64 a0,.int .i64 a1,.str a2,m]) [.int .u8 y,.int .u8 z,.int .i64 a0,.int .i64 a1,.str a2,m] a3 fun _x e2 n=>cQ (notNil a) (cQ (apart n (⟨[],.kept⟩)&&true) (ct 5 a fun e3=>cQ (apart n (⟨[],.kept⟩)&&true) (af e (af e (ao (aG vE) 1 e3 e [e] e2 fun _x j a4=>cQ (apart n a4&&(apart (Fx.mk e1 gg.kept) a4&&true)) (cQ (notNil a) (ct 6 a fun e4=>aA 1 false e4 j fun a5 e5=>bZ 5 v 2 j fun e6 _x=>aA 5 true e6 j fun e7 _x=>cr e7 fun e8 e9 f0 f1 f2=>(ak (aG vE) 25 [.agg [.int .u8 e8,.int .u8 e9,.str f0,f1,.int .i64 f2]] j fun f3 f4 d=>cM f3 fun a6 a7 a8 a9 b0 o p=>(cQ (apart (Fx.mk e5 gg.kept) d&&(apart (⟨[],.kept⟩) d&&(apart (⟨[],.kept⟩) d&&(apart (⟨[],.kept⟩) d&&true)))) (fC a5 fun f5=>cQ (apart d (⟨[],.kept⟩)&&true) (cQ (apart d (⟨[],.kept⟩)&&true) (dF (aG vE) (gP (TI.mk (U.struct [(0,5),(1,30),(3,4),(4,9),(5,31),(6,32)]) 7 96 [.int .u8 0,.int .i64 0,.int .i64 0,.bool false,.str [],.aq,.aq] true true) 34 a5 [.agg [.int .u8 0,.int .i64 0,.int .i64 0,.bool false,.str [],.aq,.aq]]) f4 fun f b1 _x=>bZ 7 f (↑f5:Int) b1 fun f6 f7=>af o (af p (ao (aG vE) 7 f6 (.agg [.int .u8 a6,.int .i64 a7,.int .i64 a8,.bool a9,.str b0,o,p]) [.int .u8 a6,.int .i64 a7,.int .i64 a8,.bool a9,.str b0,o,p] b1 fun _x f8 q=>cQ (notNil a) (cQ (apart q (⟨[],.kept⟩)&&true) (ct 6 a fun f9=>cQ (apart q (⟨[],.kept⟩)&&true) (af f (af f (ao (aG vE) 1 f9 f [f] f8 fun _x h0 b2=>cQ (apart q b2&&(apart (Fx.mk f7 gg.kept) b2&&true)) (some ([],h0)))))))))))))))))))))))))))))) (some ([],g))) fun b3=>cT b3.1 (bA (IntKind.wrap .i64 (k+1)) fun h1=>some (Sum.inl ([.int .i64 h1],Prod.snd b3)))))) (some (Sum.inr (0,[],Prod.snd b))))
noncomputable def Se:AV→AV→St→Option (AV×St):=fun a c st=>bZ 5 c 1 st fun f _x=>aA 5 true f st fun g _x=>cr g fun h i j d k=>(af d (af d (aV d fun l=>ak (aG vE) 62 [.sl 5 [.agg [.int .u8 h,.int .u8 i,.str j,l,.int .i64 k]] .shut] st fun b m _x=>cQ (notNil a) (ct 0 a fun n=>ao (aG vE) 1 n (.int .u8 13) [.int .u8 13] m fun _x o _x_1=>cQ (notNil a) (ct 6 a fun p=>af b (af b (ao (aG vE) 1 p b [b] o fun _x q _x_2=>fC c fun r=>aK (bu (EE a c r) ([.int .i64 0],q)) fun e=>cT e.2.1 (some (.tup [],Prod.snd e.2)))))))))
theorem OW (x0 x1:AV) (st:St):ey vE 70 [x0,x1] st=Se x0 x1 st:=by kernel_rfl
noncomputable def R0:AV→AV→St→Option (AV×St):=fun a d st=>bV .u8 d fun e=>dF (aG vE) (fu (Prim.copyCheck [(126,2,0),(127,2,0)]) [a]) st fun _x c _x_1=>cQ (notNil a) (ct 1 a fun f=>aA 1 false f c fun g _x=>gf 1 1 5 g [.int .u8 e] c fun b h _x=>cQ (notNil a) (ct 1 a fun i=>af b (af b (ao (aG vE) 1 i b [b] h fun _x j _x_2=>some (.nili,j)))))
theorem MM (x0 x1:AV) (st:St):ey vE 86 [x0,x1] st=R0 x0 x1 st:=by kernel_rfl
end Go.Proofs.YtmngkfmgnkeclaaGreatDoor.Vm
namespace Go.Proofs.YtmngkfmgnkeclaaGreatDoor.Vm
open Go Go.VM Go.Proofs Go.Lex Go.Parse Go.Scope Go.Ast
structure fW {α:Type} (R:α→AV→Prop) (l:List α) (es:List AV):Prop where
 len:es.length=l.length
 at': ∀(i:Nat) (a:α),l[i]? =some a→ ∃v,es[i]? =some v∧R a v
section
variable {α:Type} {R:α→AV→Prop} {l:List α} {es:List AV}
theorem fW.nil:fW R [] []:=⟨rfl,fun i a h=>by simp at h⟩
theorem fW.snoc {a:α} {v:AV} (h:fW R l es) (hv:R a v):fW R (l++[a]) (es++[v]):=by
 refine ⟨by simp [h.len],fun i b hb=> ?_⟩
 by_cases hi:i < l.length
 ·rw [List.getElem?_append_left hi] at hb
  obtain ⟨w,hw,hr⟩:=h.at' i b hb
  exact ⟨w,by rw [List.getElem?_append_left (by rw [h.len];exact hi)];exact hw,hr⟩
 ·rw [List.getElem?_append_right (by omega)] at hb
  have hi0:i - l.length=0:=by
   by_cases h0:i - l.length=0
   ·exact h0
   ·rw [List.getElem?_eq_none (by simp;omega)] at hb;cases hb
  rw [hi0] at hb
  obtain rfl:a=b:=by simpa using hb
  exact ⟨v,by rw [List.getElem?_append_right (by rw [h.len];omega),h.len,hi0];rfl,hv⟩
theorem fW.drop (h:fW R l es) (m:Nat):fW R (l.drop m) (es.drop m):=
 ⟨by simp [h.len],fun i a hi=>by
  rw [List.getElem?_drop] at hi ⊢
  exact h.at' _ a hi⟩
theorem fW.take (h:fW R l es) (m:Nat):fW R (l.take m) (es.take m):=
 ⟨by simp [h.len],fun i a hi=>by
  rw [List.getElem?_take] at hi ⊢
  split at hi
  ·rename_i h1;rw [if_pos h1];exact h.at' _ a hi
  ·cases hi⟩
end
theorem kK {t:T} {a b:Nat} {s:List UInt8} {y:AV} (h:kO t (.agg [.int .u8 (a:Int),.int .u8 (b:Int),.str s,y])): ∃l es,t= .mk a b s l∧bl 4 y es∧bO l es:=by
 cases t with
 | mk k tk tx l=>
  simp only [kO] at h
  obtain ⟨x,es,hv,hx,hs⟩:=h
  injection hv with hv
  have h2:=List.cons.inj hv
  have h3:=List.cons.inj h2.2
  have h4:=List.cons.inj h3.2
  have h5:=List.cons.inj h4.2
  have e1:=h2.1
  have e2:=h3.1
  have e3:=h4.1
  have e4:=h5.1
  simp only [AV.int.injEq,true_and] at e1 e2
  simp only [AV.str.injEq] at e3
  obtain rfl:a=k:=by omega
  obtain rfl:b=tk:=by omega
  subst e3 e4
  exact ⟨l,es,rfl,hx,hs⟩
def kW (p:Nat×T) (v:AV):Prop:= ∃(a b:Nat) (s:List UInt8) (y:AV),v= .agg [.int .u8 (a:Int),.int .u8 (b:Int),.str s,y,.int .i64 (p.1:Int)]∧kO p.2 (.agg [.int .u8 (a:Int),.int .u8 (b:Int),.str s,y])
def bH (a:Nat):List T→List (Nat×T)
 | []=>[]
 | t::l=>(a,t)::bH (a+(bY t).length) l
theorem dq: ∀(l:List T) (a:Nat),(bH a l).length=l.length
 | [],_=>rfl
 | t::l,a=>by simp [bH,dq l]
theorem lh: ∀(l:List T) (t:T) (a:Nat),bH a (l++[t])=bH a l++[(a+(bo l).length,t)]
 | [],t,a=>by simp [bH,bo]
 | u::l,t,a=>by
  rw [List.cons_append,bH,lh l t,bH,show bo (u::l)=bY u++bo l by simp [bo],List.length_append,Nat.add_assoc]
  rfl
theorem I0: ∀(t:T) (v:AV),kO t v→(bY t).length≤1000000000000→(aG vE).bare 23 [v]=some (.int .i64 ((bY t).length:Int)):=by
 refine T.ind fun k tk tx l ih v hv hl=> ?_
 simp only [kO] at hv
 obtain ⟨x,es,rfl,hx,hs⟩:=hv
 have hlen:=IA hx hs
 have hl1:(bo l).length≤1000000000000:=by
  simp only [bY,List.length_append] at hl
  omega
 have key:ad (bu (Az x l.length) ([.int .i64 0,.int .i64 0],S0)) fun c=> ∃s,c=(0,[.int .i64 ((bo l).length:Int)],s):=by
  refine ad.upto (n:=l.length) (I:=fun i c=> ∃s:St,c=([.int .i64 ((bo (l.take i)).length:Int),.int .i64 (i:Int)],s)∧s.ro≤s.h) ?_ ?_ l.length 0 _ (by omega) ⟨S0,rfl,Nat.le_refl _⟩
  ·rintro i c hi ⟨s,rfl,hro⟩
   have ht:l[i]? =some l[i]:=List.getElem?_eq_getElem hi
   obtain ⟨a,b,tx2,y,hN,e⟩:=Ae hx hs ht
   obtain ⟨l',es',_,hy,_⟩:=kK hN
   have htk:l.take (i+1)=l.take i++[l[i]]:=by rw [List.take_add_one,ht];rfl
   have hb:(bo (l.take (i+1))).length≤(bo l).length:=by
    have:=congrArg (fun m=>(bo m).length) (List.take_append_drop (i+1) l)
    simp only [dy,List.length_append] at this
    omega
   have he:(bo (l.take (i+1))).length=(bo (l.take i)).length+(bY l[i]).length:=by rw [htk,dy,bE,List.length_append]
   simp only [Az,ag,aj,ah,aF,if_pos (show (i:Int) < (l.length:Int) by omega)]
   refine ad.step (e s _) ?_
   refine ad.Hs (Vw.start hro) fun s1 _ w=>ad.step (hy.af _) ?_
   refine ad.zY [] w fun s2 _ _ w=>ad.gY List.mem_cons_self w rfl ?_
   have c:=fun {γ:Type} (st:St) (K:Kv γ)=>CJ hN rfl (ih _ (List.getElem_mem hi) _ hN (by omega)) st K
   simp only [aL,ag,aj,az,ah,c,aY,oO (show (bo (l.take i)).length+(bY l[i]).length≤9223372036854775807 by omega),cH (show i+1≤9223372036854775807 by omega)]
   exact ad.inl ⟨s2,by rw [he],w.ro⟩
  ·rintro c ⟨s,rfl,hro⟩
   simp only [Az,ag,aj,ah,aF,if_neg (show ¬ ((l.length:Nat):Int) < (l.length:Int) by omega),List.take_length]
   exact ad.inr ⟨s,rfl⟩
 obtain ⟨c,e,s,rfl⟩:=key
 refine br rfl ((OD _).trans ?_)
 simp only [g23,aL,ag,aj,az,ah,hx.af,hx.aV,wy hx hs,e,al,dz]
 simp only [bY] at hl ⊢
 by_cases h:k=1
 ·rw [if_pos h] at hl ⊢
  rw [List.length_append] at hl
  simp only [dz k 1,show ((k:Int)==1)=(k==1) from dz k 1,beq_iff_eq.2 h,aH,aY,oO (show (bo l).length+tx.length≤9223372036854775807 by omega),al,ag,aj,ah,List.length_append]
 ·rw [if_neg h] at hl ⊢
  simp only [show ((k:Int)==1)=(k==1) from dz k 1,beq_eq_false_iff_ne.2 h,aB,al,ag,aj,ah,List.append_nil]
theorem qQ (l:List T) (i:Nat):(bo (l.take i)).length≤(bo l).length:=by
 have:=congrArg (fun m=>(bo m).length) (List.take_append_drop i l)
 simp only [dy,List.length_append] at this
 omega
theorem jy {α:Type} {l:List α} {i:Nat} (hi:i < l.length):l.take (i+1)=l.take i++[l[i]]:=by rw [List.take_add_one,List.getElem?_eq_getElem hi];rfl
theorem pb {a k tk:Nat} {tx:List UInt8} {l:List T} {v:AV} (h:kW (a,.mk k tk tx l) v) (ha:a+(bo l).length≤1000000000000) (hn:l.length < 1000000000): ∃x es,(aG vE).bare 11 [v]=some x∧bl 5 x es∧fW kW (bH a l) es:=by
 obtain ⟨a1,b1,s1,x,rfl,hN⟩:=h
 obtain ⟨l',es,ht,hx,hs⟩:=kK hN
 cases ht
 have key:ad (cP vE 11 [.agg [.int .u8 (k:Int),.int .u8 (tk:Int),.str tx,x,.int .i64 (a:Int)]]) fun b=> ∃fs,bl 5 b fs∧fW kW (bH a l) fs:=by
  refine ad.step (M9 _) ?_
  simp only [g11,aL,ag,aj,az,ah,hx.af,hx.aV,wy hx hs]
  refine ad.bind (R:=fun c=> ∃s v ws,c=(0,[v],s)∧Wv S0 s [] 5 50 v ws∧fW kW (bH a l) ws) ?_ ?_
  ·refine ad.upto (n:=l.length) (I:=fun i c=> ∃s v ws,c=([v,.int .i64 ((a+(bo (l.take i)).length:Nat):Int),.int .i64 (i:Int)],s)∧Wv S0 s [] 5 50 v ws∧fW kW (bH a (l.take i)) ws) ?_ ?_ l.length 0 _ (by omega) ⟨S0,.aq,[],rfl,Wv.start (Nat.le_refl _) _ _,fW.nil⟩
   ·rintro i c hi ⟨s,v,ws,rfl,w,hw⟩
    have htk:=jy hi
    have hb:=qQ l (i+1)
    have he:(bo (l.take (i+1))).length=(bo (l.take i)).length+(bY l[i]).length:=by rw [htk,dy,bE,List.length_append]
    have hwl:=hw.len
    rw [dq,List.length_take] at hwl
    obtain ⟨a2,b2,tx2,y,hN2,e⟩:=Ae hx hs (List.getElem?_eq_getElem hi)
    obtain ⟨l2,es2,_,hy,_⟩:=kK hN2
    simp only [Ec,ag,aj,ah,aF,if_pos (show (i:Int) < (l.length:Int) by omega)]
    refine ad.step (e s _) ?_
    refine ad.uv w fun s1 _ w=>ad.step (hy.af _) ?_
    refine ad.tz [] w fun s2 _ _ w=>ad.gY List.mem_cons_self w.w rfl ?_
    simp only [aL,ag,aj,az,ah,hy.af,hy.aV]
    refine ad.Ii w (by omega) (by omega) (by omega) fun v2 s3 _ w=>ad.gY List.mem_cons_self w.w rfl ?_
    have c:=fun {γ:Type} (st:St) (K:Kv γ)=>CJ hN2 rfl (I0 _ _ hN2 (by omega)) st K
    simp only [aL,ag,aj,az,ah,c,aY,oO (show (a+(bo (l.take i)).length)+(bY l[i]).length≤9223372036854775807 by omega),cH (show i+1≤9223372036854775807 by omega)]
    refine ad.inl ⟨s3,v2,_,by rw [he,Nat.add_assoc],w.none, ?_⟩
    rw [htk,lh]
    exact hw.snoc ⟨a2,b2,tx2,y,rfl,hN2⟩
   ·rintro c ⟨s,v,ws,rfl,w,hw⟩
    simp only [Ec,ag,aj,ah,aF,if_neg (show ¬ ((l.length:Nat):Int) < (l.length:Int) by omega)]
    rw [List.take_length] at hw
    exact ad.inr ⟨s,v,ws,rfl,w,hw⟩
  ·rintro c ⟨s,v,ws,rfl,w,hw⟩
   simp only [ag,ah,qo]
   exact ad.P5 w fun x hx=>ad.some ⟨ws,hx,hw⟩
 obtain ⟨x,e,fs,hx,hr⟩:=key
 exact ⟨x,fs,br rfl e,hx,hr⟩
theorem oL {ps:List (Nat×T)} {x:AV} {es:List AV} {p:Nat×T} {i:Nat} (hx:bl 5 x es) (hs:fW kW ps es) (hp:ps[i]? =some p): ∃(a b:Nat) (s:List UInt8) (y:AV),kO p.2 (.agg [.int .u8 (a:Int),.int .u8 (b:Int),.str s,y])∧(∀{β:Type} (st:St) (K:AV→List Nat→Option β),bZ 5 x (i:Int) st K=K (.ip [.int .u8 (a:Int),.int .u8 (b:Int),.str s,y,.int .i64 (p.1:Int)]) []):=by
 obtain ⟨v,hv,a,b,s,y,rfl,hN⟩:=hs.at' i p hp
 exact ⟨a,b,s,y,hN,fun st K=>hx.idx hv st K⟩
theorem gd {a b c d e:AV}:lu 5 true [a,b,c,d,e]=some (.agg [a,b,c,d,e]):=rfl
theorem xT {α:Type} [Inhabited α]: ∀(l:List α),eh l=(List.range ((l.length - 1) / 2)).map fun q=>l.getD (2 * q+1) default
 | []=>by simp [eh]
 | [_]=>by simp [eh]
 | [_,_]=>by simp [eh]
 | z::x::y::l=>by
  have ih:=xT (y::l)
  simp only [eh,ih]
  have e:((z::x::y::l:List α).length - 1) / 2=(((y::l).length - 1) / 2)+1:=by simp only [List.length_cons];omega
  rw [e,List.range_succ_eq_map,List.map_cons,List.map_map]
  refine congr (congrArg List.cons (by rfl)) ?_
  refine List.map_congr_left fun q _=> ?_
  show (y::l).getD (2 * q+1) default=(z::x::y::l).getD (2 * (q+1)+1) default
  rw [show 2 * (q+1)+1=(2 * q)+1+1+1 by omega]
  simp only [List.getD_cons_succ]
theorem Ak {ps:List (Nat×T)} {x:AV} {es:List AV} (hx:bl 5 x es) (hs:fW kW ps es) (hn:ps.length < 1000000000): ∃y fs,(aG vE).bare 59 [x]=some y∧bl 5 y fs∧fW kW (eh ps) fs:=by
 have hlen:=hs.len
 have key:ad (cP vE 59 [x]) fun b=> ∃fs,bl 5 b fs∧fW kW (eh ps) fs:=by
  refine ad.step (Mp _) ?_
  unfold So
  refine ad.bind (R:=fun c=> ∃s v ws,c=(0,[v],s)∧Wv S0 s [] 5 50 v ws∧fW kW (eh ps) ws) ?_ ?_
  ·rw [xT ps]
   refine ad.upto (n:=(ps.length - 1) / 2) (I:=fun i c=> ∃s v ws,c=([v,.int .i64 ((2 * i+1:Nat):Int)],s)∧Wv S0 s [] 5 50 v ws∧fW kW ((List.range i).map fun q=>ps.getD (2 * q+1) default) ws) ?_ ?_ ((ps.length - 1) / 2) 0 _ (by omega) ⟨S0,.aq,[],rfl,Wv.start (Nat.le_refl _) _ _,fW.nil⟩
   ·rintro i c hi ⟨s,v,ws,rfl,w,hw⟩
    have hlt:2 * i+1 < ps.length:=by omega
    have hwl:=hw.len
    rw [List.length_map,List.length_range] at hwl
    obtain ⟨a2,b2,tx2,y,hN2,e⟩:=oL hx hs (List.getElem?_eq_getElem hlt)
    obtain ⟨l2,es2,_,hy,_⟩:=kK hN2
    have hw1:IntKind.wrap .i64 ((es.length:Int) - 1)=((es.length - 1:Nat):Int):=CY (m:=1) (by omega) hx.1
    simp only [DB,ag,aj,ah,hx.len,aY,hw1,aF,if_pos (show ((2 * i+1:Nat):Int) < ((es.length - 1:Nat):Int) by omega),e,bL,gd,al,aL,az,hy.af,hy.aV]
    refine ad.Ii w (by omega) (by omega) (by omega) fun v2 s3 _ w=> ?_
    simp only [aY,vO (show (2 * i+1)+2≤9223372036854775807 by omega)]
    refine ad.inl ⟨s3,v2,_,by rw [show 2 * (i+1)+1=2 * i+1+2 by omega],w, ?_⟩
    rw [List.range_succ,List.map_append]
    have hq:ps.getD (2 * i+1) default=ps[2 * i+1]:=by rw [List.getD_eq_getElem?_getD,List.getElem?_eq_getElem hlt];rfl
    refine hw.snoc ?_
    show kW (ps.getD (2 * i+1) default) _
    rw [hq]
    exact ⟨a2,b2,tx2,y,rfl,hN2⟩
   ·rintro c ⟨s,v,ws,rfl,w,hw⟩
    have hnl:¬ ((2 * ((ps.length - 1) / 2)+1:Nat):Int) < IntKind.wrap .i64 ((es.length:Int) - 1):=by
     have h1:=hx.1
     rw [wrap_i64 (by omega) (by omega)]
     omega
    simp only [DB,ag,aj,ah,hx.len,aY,aF,if_neg hnl]
    exact ad.inr ⟨s,v,ws,rfl,w,hw⟩
  ·rintro c ⟨s,v,ws,rfl,w,hw⟩
   simp only [ag,ah,qo]
   exact ad.P5 w fun x hx=>ad.some ⟨ws,hx,hw⟩
 obtain ⟨x,e,fs,hx,hr⟩:=key
 exact ⟨x,fs,br rfl e,hx,hr⟩
abbrev O8 (st:St) (out:List UInt8):Prop:=O0 st 127 5 0 [] [] out∧st.ro≤st.h
theorem HK {st:St} {out:List UInt8} (h:O8 st out) (hl:out.length≤1000000000) (b:UInt8): ∃st',O8 st' (out++[b])∧ ∃v fx,∀{β:Type} (K:Kv β),ak (aG vE) 86 [.mp 0 0,.int .u8 (b.toNat:Int)] st K=K v st' fx:=by
 obtain ⟨hB,hro⟩:=h
 obtain ⟨st2,a1,h1,h2,h3,h4,hh,fx,hcc⟩:=Ba (O:=aG vE) (L:=[(126,2,0),(127,2,0)]) hB rfl
 obtain ⟨v,st3,b1,b2,b3,b4,b5,fx2,happ⟩:=J6 (s:=[b]) h2 (by simp;omega) (by rw [h4.ro,hh];exact hro)
 have hp3:=b5 0 _ (by intro n;simp) h1
 have hst:=fun (K:Kv (AV×St))=>dw (O:=aG vE) (z:=1) (v:=v) (cs:=[v]) (off:=1) hp3 rfl (by simp) (by rw [b3];exact h3) K
 refine ⟨st3.put 0 (.cells 127 [.mp 0 0,v]),⟨⟨_,v,St.aR (St.bM.1 hp3).1,.inr rfl,b1.put hp3,by show st3.ro≤0;rw [b3];exact h3⟩, ?_⟩, ?_⟩
 ·show st3.ro≤st3.h
  rw [b3,h4.ro]
  exact Nat.le_trans hro (Nat.le_trans h4.h b4)
 ·have e:ey vE 86 [.mp 0 0,.int .u8 (b.toNat:Int)] st=some (.nili,st3.put 0 (.cells 127 [.mp 0 0,v])):=by
   refine (MM _ _ _).trans ?_
   have happ':=fun {γ:Type} (K:Kv γ)=>happ K
   have hcc':=fun {γ:Type} (K:Kv γ)=>hcc K
   simp only [List.length_nil,ofBytes,List.map_cons,List.map_nil] at happ' hcc'
   simp only [R0,aj,hcc',dv,bf,di,Nat.zero_add,bF h1,List.nil_append,tj,bU,al,happ',iQ b2,hst]
   rfl
  exact ⟨_,_,fun K=>js K rfl rfl (jF e)⟩
theorem gM {β:Type} {s:List UInt8} {i:Nat} {c:UInt8} (h:s[i]? =some c) (K:UInt8→Option β):fb s (i:Int) K=K c:=by
 have hl:=(List.getElem?_eq_some_iff.1 h).1
 rw [eP hl,nK hl h]
theorem qu (s:List UInt8) (hs:s.length≤1000000): ∀(m:List UInt8) (i:Nat) (out:List UInt8) (st:St),s.drop i=m→tS m=true→out.length≤i→O8 st out→ad (bu (mK s) ([.int .i64 (i:Int)],st)) fun c=> ∃st',c=(0,[],st')∧O8 st' (out++kN m)
 | [],i,out,st,hd,he,ho,hB=>by
  have:=List.drop_eq_nil_iff.1 hd
  refine ⟨(0,[],st),bC ?_,st,rfl,by simpa [kN] using hB⟩
  simp only [mK,ag,aj,ah,aF,if_neg (show ¬ (i:Int) < (s.length:Int) by omega)]
 | [c],i,out,st,hd,he,ho,hB=>by
  obtain ⟨hgt,hr,hlt⟩:=drop_cons hd
  have hc:c≠92:=by simpa [tS] using he
  have hne:(((c.toNat:Nat):Int) != 92)=true:=by
   have:=jG hc
   simpa using this
  obtain ⟨st1,hB1,v,fx,e1⟩:=HK hB (by omega) c
  obtain ⟨q,e2,st2,rfl,hB2⟩:=qu s hs [] (i+1) (out++[c]) st1 hr rfl (by simp;omega) hB1
  refine ⟨_, ?_,st2,rfl,by simpa [kN] using hB2⟩
  rw [bR (s':=([.int .i64 ((i+1:Nat):Int)],st1)),e2]
  simp only [mK,ag,aj,ah,aF,if_pos (show (i:Int) < (s.length:Int) by omega),gM hgt,hne,aH,e1,al,dC,aY,cH (show i+1≤9223372036854775807 by omega)]
 | c::d::l,i,out,st,hd,he,ho,hB=>by
  obtain ⟨hgt,hr,hlt⟩:=drop_cons hd
  obtain ⟨hgt2,hr2,hlt2⟩:=drop_cons hr
  by_cases hc:c=92
  ·subst hc
   have hne:(((92:UInt8).toNat:Int) != 92)=false:=by decide
   have hw1:=cH (show i+1≤9223372036854775807 by omega)
   have hw2:=cH (show i+1+1≤9223372036854775807 by omega)
   simp only [tS,if_true] at he
   have key: ∀b:UInt8,b=(if d=110 then 10 else if d=116 then 9 else d)→ad (bu (mK s) ([.int .i64 (i:Int)],st)) fun c=> ∃st',c=(0,[],st')∧O8 st' (out++kN (92::d::l)):=fun b hb=>by
    obtain ⟨st1,hB1,v,fx,e1⟩:=HK hB (by omega) b
    obtain ⟨q,e2,st2,rfl,hB2⟩:=qu s hs l (i+1+1) (out++[b]) st1 hr2 he (by simp;omega) hB1
    refine ⟨_, ?_,st2,rfl,by rw [kN,if_pos rfl, ← hb];simpa using hB2⟩
    rw [bR (s':=([.int .i64 ((i+1+1:Nat):Int)],st1)),e2]
    by_cases h1:d=110
    ·subst h1
     rw [if_pos rfl] at hb
     subst hb
     have e1:=fun {γ:Type} (K:Kv γ)=>e1 K
     have q1:(((110:UInt8).toNat:Int)==110)=true:=by decide
     have e1':=fun {γ:Type} (K:Kv γ)=>(show ak (aG vE) 86 [.mp 0 0,.int .u8 10] st K= _ from e1 K)
     simp only [mK,ag,aj,ah,aF,if_pos (show (i:Int) < (s.length:Int) by omega),gM hgt,gM hgt2,hne,aB,aY,hw1,q1,aH,e1',al,dC,hw2]
    ·rw [if_neg h1] at hb
     have q1:(((d.toNat:Nat):Int)==110)=false:=by
      have:=jG h1
      simpa using this
     by_cases h2:d=116
     ·subst h2
      rw [if_pos rfl] at hb
      subst hb
      have q2:(((116:UInt8).toNat:Int)==116)=true:=by decide
      have e1':=fun {γ:Type} (K:Kv γ)=>(show ak (aG vE) 86 [.mp 0 0,.int .u8 9] st K= _ from e1 K)
      simp only [mK,ag,aj,ah,aF,if_pos (show (i:Int) < (s.length:Int) by omega),gM hgt,gM hgt2,hne,aB,aY,hw1,q1,q2,aH,e1',al,dC,hw2]
     ·rw [if_neg h2] at hb
      subst hb
      have q2:(((b.toNat:Nat):Int)==116)=false:=by
       have:=jG h2
       simpa using this
      simp only [mK,ag,aj,ah,aF,if_pos (show (i:Int) < (s.length:Int) by omega),gM hgt,gM hgt2,hne,aB,aY,hw1,q1,q2,e1,al,dC,hw2]
   exact key _ rfl
  ·have hne:(((c.toNat:Nat):Int) != 92)=true:=by
    have:=jG hc
    simpa using this
   rw [tS,if_neg hc] at he
   obtain ⟨st1,hB1,v,fx,e1⟩:=HK hB (by omega) c
   obtain ⟨q,e2,st2,rfl,hB2⟩:=qu s hs (d::l) (i+1) (out++[c]) st1 hr he (by simp;omega) hB1
   refine ⟨_, ?_,st2,rfl,by rw [kN,if_neg hc];simpa using hB2⟩
   rw [bR (s':=([.int .i64 ((i+1:Nat):Int)],st1)),e2]
   simp only [mK,ag,aj,ah,aF,if_pos (show (i:Int) < (s.length:Int) by omega),gM hgt,hne,aH,e1,al,dC,aY,cH (show i+1≤9223372036854775807 by omega)]
theorem Lq {s u:List UInt8} (hs:s=34::u++[34]) (he:tS u=true) (hl:s.length≤1000000):(aG vE).bare 60 [.str s]=some (.str (told s)):=by
 have hlen:s.length=u.length+2:=by rw [hs];simp
 have hu:(s.take (s.length - 1)).drop 1=u:=by rw [hlen,hs];simp
 have ht:told s=kN u:=by unfold told;rw [hs];simp
 have hB:O8 (St.mk 1 0 (Tr.node (some (VM.Obj.cells 127 [AV.nilp,AV.aq])) Tr.leaf Tr.leaf)) []:=⟨⟨.nilp,.aq,rfl,.inl rfl,.inl ⟨rfl,rfl⟩,Nat.le_refl _⟩,Nat.zero_le _⟩
 obtain ⟨q,e2,st2,rfl,hB2⟩:=qu u (by omega) u 0 [] _ rfl he (Nat.zero_le _) hB
 have e2:bu (mK u) ([.int .i64 0],_)= _:=e2
 have hlen2:(kN u).length≤1000000:=by
  have: ∀(n:Nat) (l:List UInt8),l.length≤n→(kN l).length≤l.length:=by
   intro n
   induction n with
   | zero=>intro l h;obtain rfl:=List.length_eq_zero_iff.1 (Nat.le_zero.1 h);simp [kN]
   | succ n ih=>
    intro l h
    match l with
    | []=>simp [kN]
    | [c]=>simp [kN]
    | c::d::l=>
     rw [kN]
     split
     ·have:=ih l (by simp at h;omega)
      simp;omega
     ·have:=ih (d::l) (by simp at h ⊢;omega)
      simp at this ⊢;omega
  have:=this _ u (Nat.le_refl _)
  omega
 obtain ⟨fx,e3⟩:=Dy (O:=aG vE) hB2.1 (by rw [List.nil_append];omega) (fun v34 _ _=>fY v34 fun l37=>some (AV.str l37))
 refine br rfl ((MC _).trans ?_)
 have hw:IntKind.wrap .i64 ((s.length:Int) - 1)=((s.length - 1:Nat):Int):=CY (m:=1) (by omega) (by omega)
 simp only [Sc,az,aY,hw,cR (show s.length - 1≤s.length by omega),gz (show 1≤s.length - 1 by omega),bf,hu,e2,al,ah]
 refine e3.trans ?_
 rw [List.nil_append,az,ht]
theorem FH {tk:Nat} {s:List UInt8} (hq:hU (tk,s)) (hl:s.length≤1000000):(aG vE).bare 43 [.agg [.int .u8 (tk:Int),.str s]]=some (.tup [.int .u8 ((fS tk s).1:Int),.str (fS tk s).2]):=by
 refine br rfl ((Mv _).trans ?_)
 have e4:((tk:Int)==4)=(tk==4):=dz tk 4
 have e5:((tk:Int)==5)=(tk==5):=dz tk 5
 have e6:((tk:Int)==6)=(tk==6):=dz tk 6
 have e7:((tk:Int)==7)=(tk==7):=dz tk 7
 simp only [Sk,aL,ag,aj,az,ah,e4,e5,e6,e7]
 unfold fS
 by_cases h4:tk=4
 ·simp [h4,aH]
 by_cases h5:tk=5
 ·simp [h5,aH,aB]
 by_cases h6:tk=6
 ·simp [h6,aH,aB]
 by_cases h7:tk=7
 ·obtain ⟨u,hu,he⟩:=hq.2.1 h7
  have c:=fun {γ:Type} (st:St) (K:Kv γ)=>bj (f:=60) st K rfl rfl rfl (Lq hu he hl)
  rw [beq_eq_false_iff_ne.2 h4,beq_eq_false_iff_ne.2 h5,beq_eq_false_iff_ne.2 h6,beq_iff_eq.2 h7,if_neg h4,if_neg h5,if_neg h6,if_pos h7]
  simp only [aH,aB,c,az]
  rfl
 ·rw [beq_eq_false_iff_ne.2 h4,beq_eq_false_iff_ne.2 h5,beq_eq_false_iff_ne.2 h6,beq_eq_false_iff_ne.2 h7,if_neg h4,if_neg h5,if_neg h6,if_neg h7]
  rfl
theorem Iu (tk:Nat) (s:List UInt8):(aG vE).bare 27 [.agg [.int .u8 (tk:Int),.str s]]=some (.bool (tk != 0&&(tk != 1&&tk != 2))):=by
 refine br rfl ((NK _).trans ?_)
 have e0:((tk:Int) != 0)=(tk != 0):=mu tk 0
 have e1:((tk:Int) != 1)=(tk != 1):=mu tk 1
 have e2:((tk:Int) != 2)=(tk != 2):=mu tk 2
 simp only [Sg,aL,ag,aj,az,ah,e0,e1,e2]
 cases tk != 0 <;> cases tk != 1 <;> rfl
abbrev RQ:AV:= .fn (.func 26) [] [.mp 4 0,.mp 2 0,.mp 3 0,.mp 1 0]
abbrev Vx (fnd:Bool) (a f t:Int):ub:=[(4,71,[RQ]),(2,4,[.bool fnd]),(3,3,[.int .i64 a]),(1,30,[.int .i64 f,.int .i64 t]),(0,30,[.int .i64 0,.int .i64 0])]
abbrev Vs (L:List (Nat×Nat)) (a:Nat):ub:=Vx (!L.isEmpty) (a:Int) (jP L).1 (jP L).2
theorem R1 (v:AV) (i o:Nat) (l:List AV) (x:Bool):(bz ((v:: .mp i o::l).map strip)&&x)=false:=by
  simp only [List.map_cons,bg,show strip (.mp i o)= .mp i o from rfl,show VM.bare (.mp i o)=false from rfl,Bool.false_and,Bool.and_false]
theorem CW: ∀(l:List T) (t:T) (a:Nat),Hq a (l++[t])=Hq a l++JP (a+(bo l).length) t
  | [],t,a=>by simp [Hq,bo]
  | u::l,t,a=>by
    rw [List.cons_append,Hq,CW l t,Hq,show bo (u::l)=bY u++bo l by simp [bo],List.length_append,Nat.add_assoc,List.append_assoc]
theorem DV (L:List (Nat×Nat)) (p q:Nat):(jP (L++[(p,q)])).2=(q:Int)∧(jP (L++[(p,q)])).1=if L.isEmpty=true then (p:Int) else (jP L).1:=by
  unfold jP
  refine ⟨by simp, ?_⟩
  cases L with
  | nil=>simp
  | cons a l=>simp
theorem LO: ∀(t:T) (v:AV) (st:St) (L:List (Nat×Nat)) (a:Nat),kO t v→Vw st (Vs L a)→a+(bY t).length≤1000000000000→
    ad ((aG vE).wide 26 [v,.mp 4 0,.mp 2 0,.mp 3 0,.mp 1 0] st) fun r=>r.1= .tup []∧Vw r.2 (Vs (L++JP a t) (a+(bY t).length)):=by
  refine T.ind fun k tk tx l ih v st L a hv hw ha=> ?_
  simp only [kO] at hv
  obtain ⟨x,es,rfl,hx,hs⟩:=hv
  have hlen:=IA hx hs
  have hl1:a+(bo l).length≤1000000000000:=by
    simp only [bY,List.length_append] at ha
    omega
  refine ad.wide (ad.step (OJ _ _ _ _ _ _) ?_)
  simp only [R9,aL,ag,aj,az,ah,hx.af,hx.aV,wy hx hs]
  refine ad.bind (R:=fun c=> ∃s,c=(0,[],s)∧Vw s (Vs (L++Hq a l) (a+(bo l).length))) ?_ ?_
  · refine ad.upto (n:=l.length) (I:=fun i c=> ∃s,c=([.int .i64 (i:Int)],s)∧Vw s (Vs (L++Hq a (l.take i)) (a+(bo (l.take i)).length))) ?_ ?_ l.length 0 _ (by omega) ⟨st,rfl,by simpa [Hq,bo] using hw⟩
    · rintro i c hi ⟨s,rfl,w⟩
      have htk:=jy hi
      have hb:=qQ l (i+1)
      have he:(bo (l.take (i+1))).length=(bo (l.take i)).length+(bY l[i]).length:=by rw [htk,dy,bE,List.length_append]
      obtain ⟨a2,b2,tx2,y,hN2,e⟩:=Ae hx hs (List.getElem?_eq_getElem hi)
      obtain ⟨l2,es2,_,hy,_⟩:=kK hN2
      simp only [DH,ag,aj,ah,aF,if_pos (show (i:Int) < (l.length:Int) by omega)]
      refine ad.step (e s _) ?_
      refine ad.Hs w fun s1 _ w=>ad.step (hy.af _) ?_
      refine ad.zY [] w fun s2 _ _ w=> ?_
      refine ad.gm (List.mem_cons_of_mem _ List.mem_cons_self) w rfl (ad.gY List.mem_cons_self w rfl ?_)
      simp only [aL,ag,aj,az,ah]
      refine ad.step (show jR _ _ _ _ _ _=ak (aG vE) 26 [_,.mp 4 0,.mp 2 0,.mp 3 0,.mp 1 0] s2 _ from rfl) ?_
      refine ad.iD (ih _ (List.getElem_mem hi) _ s2 (L++Hq a (l.take i)) (a+(bo (l.take i)).length) hN2 (w.sub (List.sublist_cons_self _ _)) (by omega)) rfl (R1 _ _ _ _ _) ?_
      rintro u s3 ⟨_,w3⟩
      simp only [aY,cH (show i+1≤9223372036854775807 by omega)]
      refine ad.inl ⟨s3,rfl, ?_⟩
      rw [htk,CW, ← List.append_assoc, ← htk,he, ← Nat.add_assoc]
      exact w3
    · rintro c ⟨s,rfl,w⟩
      rw [List.take_length] at w
      simp only [DH,ag,aj,ah,aF,if_neg (show ¬ ((l.length:Nat):Int) < (l.length:Int) by omega)]
      exact ad.inr ⟨s,rfl,w⟩
  rintro c ⟨s,rfl,w⟩
  simp only [ah,show ((k:Int) != 1)=(k != 1) from mu k 1]
  simp only [JP,bY] at ha ⊢
  by_cases hk:k=1
  · subst hk
    rw [if_pos rfl,List.length_append] at ha
    rw [if_pos rfl,List.length_append, ← Nat.add_assoc, ← List.append_assoc]
    generalize hP:a+(bo l).length=P at *
    generalize L++Hq a l=M at *
    have cp:=fun {γ:Type} (st:St) (K:Kv γ)=>bj (f:=27) st K rfl rfl rfl (Iu tk tx)
    simp only [show ((1:Nat) != 1)=false from rfl,aB,cp,aC]
    refine ad.bind (R:=fun c=> ∃s,c=([],s)∧Vw s (Vx (!(M++if pT 1 tk=true then [(P,P+tx.length)] else []).isEmpty) (P:Int) (jP (M++if pT 1 tk=true then [(P,P+tx.length)] else [])).1 (jP (M++if pT 1 tk=true then [(P,P+tx.length)] else [])).2)) ?_ ?_
    · have hpl:pT 1 tk=(tk != 0&&(tk != 1&&tk != 2)):=rfl
      rw [← hpl]
      cases hb:pT 1 tk with
      | false=>
        refine ad.step (aB _ _) (ad.some ⟨s,rfl, ?_⟩)
        simpa using w
      | true=>
        obtain ⟨e2,e1⟩:=DV M P (P+tx.length)
        simp only [if_true,e1,e2]
        refine ad.step (aH _ _) (ad.gm (List.mem_cons_of_mem _ List.mem_cons_self) w rfl (ad.step (aC _ _) ?_))
        have hne:(!(M++[(P,P+tx.length)]).isEmpty)=true:=by simp
        rw [hne]
        have w:Vw s (Vx (!M.isEmpty) (P:Int) (jP M).1 (jP M).2):=w
        refine ad.bind (R:=fun c=> ∃s,c=([],s)∧Vw s (Vx true (P:Int) (if M.isEmpty=true then (P:Int) else (jP M).1) (jP M).2)) ?_ ?_
        · cases hM:M.isEmpty with
          | false=>
            rw [hM] at w
            refine ad.step (aB _ _) (ad.some ⟨s,rfl, ?_⟩)
            simpa using w
          | true=>
            rw [hM] at w
            refine ad.step (aH _ _) (ad.gm (List.mem_cons_of_mem _ (List.mem_cons_of_mem _ List.mem_cons_self)) w rfl (ad.step (aj _ _ _) ?_))
            simp only [di,Nat.add_zero]
            refine ad.Be [_,_,_] w (Nat.le_of_ble_eq_true rfl) fun s2 _ _ w=>ad.zY [_] w fun s3 _ _ w=>ad.some ⟨s3,rfl,w⟩
        · rintro c ⟨s2,rfl,w⟩
          refine ad.step (ah _) (ad.gm (List.mem_cons_of_mem _ (List.mem_cons_of_mem _ List.mem_cons_self)) w rfl (ad.step (aj _ _ _) ?_))
          simp only [aY,di,Nat.zero_add,oO (show P+tx.length≤9223372036854775807 by omega)]
          exact ad.Be [_,_,_] w (Nat.le_of_ble_eq_true rfl) fun s2 _ _ w=>ad.some ⟨s2,rfl,w⟩
    · rintro c ⟨s2,rfl,w⟩
      refine ad.step (ah _) (ad.gm (List.mem_cons_of_mem _ (List.mem_cons_of_mem _ List.mem_cons_self)) w rfl (ad.step (aj _ _ _) ?_))
      simp only [aY,oO (show P+tx.length≤9223372036854775807 by omega)]
      exact ad.zY [_,_] w fun s2 _ _ w=>ad.some ⟨rfl,w⟩
  · have hp:pT k tk=false:=by simp [pT,hk]
    rw [hp,if_neg (by simp),if_neg hk,List.append_nil,List.append_nil]
    rw [show (k != 1)=true by simpa using hk]
    exact ad.step (aH _ _) (ad.some ⟨rfl,w⟩)
theorem vq {p:Nat×T} {v:AV} (h:kW p v) (ha:p.1+(bY p.2).length≤1000000000000):(aG vE).bare 13 [v]=some (.tup [.agg [.int .i64 (mz p.1 p.2).1,.int .i64 (mz p.1 p.2).2],.bool (!(JP p.1 p.2).isEmpty)]):=by
  obtain ⟨a1,b1,s1,y,rfl,hN⟩:=h
  obtain ⟨l',es,ht,hy,hs⟩:=kK hN
  obtain ⟨p1,p2⟩:=p
  simp only at hN ha ht ⊢
  refine br rfl ((MG _).trans (ad.eq ?_))
  simp only [g13,aL,ag,aj,az,ah,hy.af,hy.aV]
  have w0:Vw (St.mk 5 0 (Tr.node (some (VM.Obj.cells 30 [AV.int .i64 0,AV.int .i64 0])) (Tr.node (some (VM.Obj.cells 30 [AV.int .i64 0,AV.int .i64 0])) (Tr.node (some (VM.Obj.cells 3 [AV.int .i64 (p1:Int)])) Tr.leaf Tr.leaf) Tr.leaf) (Tr.node (some
 (VM.Obj.cells 4 [AV.bool false])) (Tr.node (some (VM.Obj.cells 71 [RQ])) Tr.leaf Tr.leaf) Tr.leaf))) (Vs [] p1):=by
    refine ⟨fun q hq=> ?_,by show ([4,2,3,1,0]:List Nat).Nodup;decide,Nat.zero_le _⟩
    simp only [Vs,Vx,List.mem_cons,List.mem_nil_iff,or_false] at hq
    rcases hq with rfl | rfl | rfl | rfl | rfl <;> (refine ⟨?_,Nat.zero_le _⟩;dsimp only;rfl)
  refine ad.iD (LO _ _ _ [] p1 hN w0 ha) rfl (R1 _ _ _ _ _) ?_
  rintro u s ⟨_,w⟩
  refine ad.gY (List.mem_cons_of_mem _ (List.mem_cons_of_mem _ (List.mem_cons_of_mem _ List.mem_cons_self))) w rfl ?_
  simp only [aL,ag,aj,ah]
  refine ad.gm (List.mem_cons_of_mem _ List.mem_cons_self) w rfl (ad.step (aC _ _) ?_)
  have hm:=w.v _ (List.mem_cons_of_mem _ (List.mem_cons_of_mem _ (List.mem_cons_of_mem _ (List.mem_cons_of_mem _ List.mem_cons_self))))
  have e1:=fun {γ:Type} (K:Kv γ)=>dw (O:=aG vE) (z:=2) (v:= .agg [.int .i64 (jP ([]++JP p1 p2)).1,.int .i64 (jP ([]++JP p1 p2)).2]) (cs:=[.int .i64 (jP ([]++JP p1 p2)).1,.int .i64 (jP ([]++JP p1 p2)).2]) (off:=0) hm.1 rfl (Nat.le_of_ble_eq_true rfl) hm.2 K
  refine ad.step (e1 _) ?_
  have hap: ∀o,apart ⟨[2],.kept⟩ ⟨[0],.wrote 0 o⟩=true:=fun o=>pf (by decide)
  rw [hap,Bool.and_true]
  refine ad.step (bf _) (ad.step (bF (St.aR (St.bM.1 hm.1).1) _ _ _ _) ?_)
  exact ad.some rfl
structure Fit (p:Nat×T):Prop where
 t:p.1+(bY p.2).length≤1000000
 s:(eU p.2).length≤100000000
theorem nf: ∀(l:List T) (a:Nat),(bH a l).map (·.2)=l
 | [],_=>rfl
 | t::l,a=>by rw [bH,List.map_cons,nf l]
theorem EK: ∀(l:List T) (a:Nat),a+(bo l).length≤1000000→(pX l).length≤100000000→ ∀p∈bH a l,Fit p
 | [],_,_,_,p,h=>by cases h
 | t::l,a,h1,h2,p,h=>by
  simp only [bo,pX,List.length_append,List.length_cons] at h1 h2
  rcases List.mem_cons.1 h with rfl | h
  ·exact ⟨by simp only;omega,by simp only;omega⟩
  ·exact EK l (a+(bY t).length) (by omega) (by omega) p h
theorem wG: ∀(l:List T),l.length≤(pX l).length
 | []=>Nat.le_refl _
 | t::l=>by
  have:=wG l
  simp only [pX,List.length_append,List.length_cons]
  omega
theorem Fit.kids {a k:Nat} {l:List T} (h:Fit (a,node k l)) (h1:k≠1) (h2:k≠2):a+(bo l).length≤1000000∧l.length < 100000000∧ ∀p∈bH a l,Fit p:=by
 have ht:=h.t
 have hs:=h.s
 simp only [node,bY,if_neg h1,List.append_nil,eU,if_neg h2,List.length_cons,List.length_append,List.length_nil] at ht hs
 have:=wG l
 exact ⟨ht,by omega,EK l a ht (by omega)⟩
theorem D4 {ks:List T} (h:Tv hU ks):ks.length≤(bo ks).length:=by
 obtain ⟨r,rfl,hr⟩:=h
 induction r with
 | nil=>exact Nat.le_refl _
 | cons t r ih=>
  have h1:=ih fun x hx=>hr x (List.mem_cons_of_mem _ hx)
  have h2:=(hr t List.mem_cons_self).2.1
  have h3:0 < t.2.length:=List.length_pos_iff.2 h2
  simp only [List.map_cons,List.length_cons,bo,List.length_append]
  have h4:(bY (eR t)).length=t.2.length:=by simp [eR,leaf,bY,bo]
  omega
theorem ue: ∀{l:List ij} {es:List AV} {p:ij} {v:AV},cu l es→ym p v→cu (l++[p]) (es++[v])
 | [],_,_,_,h,k=>by simp only [cu] at h;subst h;exact cu.cons k cu.nil
 | p::l,_,_,_,h,k=>by
  simp only [cu] at h
  obtain ⟨w,ws,rfl,h1,h2⟩:=h
  exact cu.cons h1 (ue h2 k)
abbrev sc:TypeId:=38
abbrev z6:List AV:=[.int .u8 0,.int .u8 0,.int .i64 0,.int .i64 0,.str [],.aq]
abbrev qM (k lit:Nat) (sp:Sp) (nm:List UInt8) (x:AV):List AV:=[.int .u8 (k:Int),.int .u8 (lit:Int),.int .i64 sp.1,.int .i64 sp.2,.str nm,x]
def nC (p:Nat×T):Prop:= ∀v,kW p v→ad ((aG vE).bare 42 [v]) fun x=>ym (gC p.1 p.2) x
theorem gJ {p:ij} {v:AV} (h:ym p v): ∃k lit sp nm ps x es,p= .mk k lit sp nm ps∧v= .agg (qM k lit sp nm x)∧bl 6 x es∧cu ps es:=by
 cases p with
 | mk k lit sp nm ps=>
  obtain ⟨x,es,e,h1,h2⟩:=h.RC
  exact ⟨k,lit,sp,nm,ps,x,es,rfl,e,h1,h2⟩
theorem Cl {p:Nat×T} {v:AV} (h:kW p v):VM.bare v=true∧VM.strip v=v:=by
 obtain ⟨a,b,s,y,rfl,hN⟩:=h
 obtain ⟨l,es,_,hy,_⟩:=kK hN
 refine ⟨?_,rfl⟩
 rw [ny]
 simp only [bg,hy.bare]
 rfl
theorem qy {a b c d e f g:AV}:lu 7 true [a,b,c,d,e,f,g]=some (.agg [a,b,c,d,e,f,g]):=rfl
theorem gZ {F:FuncId} {p:Nat×T} {v r:AV} (hN:kW p v) (hf:vE.full F=false) (h:(aG vE).bare F [v]=some r) {β:Type} (st:St) (K:Kv β):ak (aG vE) F [v] st K=K r st q0:=
 bj st K hf (by simp only [List.map_cons,List.map_nil,(Cl hN).2]) (by simp only [bg,(Cl hN).1];rfl) h
theorem vL {ps:List (Nat×T)} {x:AV} {es:List AV} (hx:bl 5 x es) (hs:fW kW ps es) (hn:ps.length < 1000000000) (ih: ∀p∈ps,nC p) (st:St) (hro:st.ro≤st.h):
  ad ((aG vE).wide 24 [x] st) fun r=> ∃ws,Wv st r.2 [] 6 sc r.1 ws∧cu (ps.map fun p=>gC p.1 p.2) ws:=by
 have hlen:=hs.len
 refine ad.wide (ad.step (NJ _ _) ?_)
 simp only [SH,hx.len]
 refine ad.bind (R:=fun c=> ∃s v ws,c=(0,[v],s)∧Wv st s [] 6 sc v ws∧cu (ps.map fun p=>gC p.1 p.2) ws) ?_ ?_
 ·refine ad.upto (n:=es.length) (I:=fun i c=> ∃s v ws,c=([v,.int .i64 (i:Int)],s)∧Wv st s [] 6 sc v ws∧cu ((ps.take i).map fun p=>gC p.1 p.2) ws) ?_ ?_ es.length 0 _ (by omega) ⟨st,.aq,[],rfl,Wv.start hro _ _,by simpa using cu.nil⟩
  ·rintro i c hi ⟨s,v,ws,rfl,w,hw⟩
   have hlt:i < ps.length:=by omega
   have hwl:=hw.len
   rw [List.length_map,List.length_take] at hwl
   obtain ⟨a2,b2,tx2,y,hN2,e⟩:=oL hx hs (List.getElem?_eq_getElem hlt)
   obtain ⟨l2,es2,_,hy,_⟩:=kK hN2
   have hP:kW ps[i] (.agg [.int .u8 (a2:Int),.int .u8 (b2:Int),.str tx2,y,.int .i64 (ps[i].1:Int)]):=⟨a2,b2,tx2,y,rfl,hN2⟩
   obtain ⟨u,eu,hu⟩:=ih _ (List.getElem_mem hlt) _ hP
   obtain ⟨k,lit,sp,nm,qs,y2,fs,hq,rfl,hy2,hq2⟩:=gJ hu
   simp only [Dm,ag,aj,ah,aF,if_pos (show (i:Int) < (es.length:Int) by omega),e,bL,gd,al,aL,az]
   refine ad.uv w fun s1 _ w=>ad.step (hy.af _) ?_
   refine ad.tz [] w fun s2 _ _ w=>ad.gY List.mem_cons_self w.w rfl ?_
   simp only [aL,ag,aj,az,ah]
   refine ad.step (gZ hP rfl eu s2 _) ?_
   simp only [aL,ag,aj,az,ah,hy2.af,hy2.aV]
   refine ad.Ii w (by omega) (by omega) (by omega) fun v2 s3 _ w=> ?_
   simp only [aY,cH (show i+1≤9223372036854775807 by omega)]
   refine ad.inl ⟨s3,v2,_,rfl,w.none, ?_⟩
   rw [jy hlt,List.map_append]
   exact ue hw hu
  ·rintro c ⟨s,v,ws,rfl,w,hw⟩
   simp only [Dm,ag,aj,ah,aF,if_neg (show ¬ ((es.length:Nat):Int) < (es.length:Int) by omega)]
   rw [hlen,List.take_length] at hw
   exact ad.inr ⟨s,v,ws,rfl,w,hw⟩
 ·rintro c ⟨s,v,ws,rfl,w,hw⟩
  simp only [ag,ah,qo]
  exact ad.some ⟨ws,w,hw⟩
theorem Iy {st:St} {x x':AV} {ws:List AV} (hx:bl 6 x' ws) (hf: ∀n,VM.freeze st 0 (n+1) x= .ok x') (k lit:Int) (a b:Int) (nm:List UInt8) {β:Type} (K:AV→Option β):
  iL st 0 (.agg [.int .u8 k,.int .u8 lit,.int .i64 a,.int .i64 b,.str nm,x]) K=K (.agg [.int .u8 k,.int .u8 lit,.int .i64 a,.int .i64 b,.str nm,x']):=by
 refine AY (bT (gF _ _ st 0 99 (by omega)) (bT (gF _ _ st 0 99 (by omega)) (bT (gF _ _ st 0 99 (by omega)) (bT (gF _ _ st 0 99 (by omega)) (bT (AR _ st 0 99 (by omega)) (bT (hf 98) sg)))))) ?_ K
 simp only [bg,hx.bare]
 rfl
theorem HF {k lit:Nat} {sp:Sp} {nm:List UInt8} {ps:List ij} {x:AV} {es:List AV} (hx:bl 6 x es) (hp:cu ps es):ym (.mk k lit sp nm ps) (.agg (qM k lit sp nm x)):=by
 simp only [ym]
 exact ⟨x,es,rfl,hx,hp⟩
theorem J3 {l:List T} {a:Nat}:(eh (bH a l)).map (·.2)=eh l:=by rw [← jI,nf]
theorem vM {α:Type}: ∀{l:List α} {x:α},x∈eh l→x∈l
 | [],_,h=>by simp [eh] at h
 | [_],_,h=>by simp [eh] at h
 | [_,_],_,h=>by simp [eh] at h
 | _::x::y::l,u,h=>by
  simp only [eh,List.mem_cons] at h
  rcases h with rfl | h
  ·simp
  ·have:=vM (l:=y::l) h
   simp only [List.mem_cons] at this ⊢
   exact .inr (.inr this)
theorem pj {α:Type}: ∀(l:List α),(eh l).length≤l.length
 | []=>Nat.le_refl _
 | [_]=>by simp [eh]
 | [_,_]=>by simp [eh]
 | _::x::y::l=>by
  have:=pj (y::l)
  simp only [eh,List.length_cons] at this ⊢
  omega
theorem lR: ∀(l:List T) (a:Nat),ow a l=(bH a l).map fun p=>gC p.1 p.2
 | [],_=>rfl
 | t::l,a=>by rw [ow,bH,List.map_cons,lR l]
abbrev Mm (k lit:Nat) (sp:Sp) (nm:List UInt8) (x:AV):ub:=[(1,sc,qM k lit sp nm x),(0,sc,z6)]
def QO (p:Nat×T) (S:Sp) {X:Type} (f:AV→X) (c:Sum dK X):Prop:=(∃s k2 lit nm z ws ps,c= .inl ([],s)∧Vo s (Mm k2 lit S nm z) 6 sc z ws∧cu ps ws∧gC p.1 p.2= .mk k2 lit S nm ps)∨ ∃r,c= .inr (f r)∧ym (gC p.1 p.2) r
theorem Mf {p:Nat×T} {S:Sp} {X:Type} (f:AV→X) (c:Sum dK (Sum dK X)) (h:QO p S (fun r=>Sum.inr (f r)) c):ad (kq c fun c=>cT c.1 (some (Sum.inl ([],c.2)))) (QO p S f):=by
 rcases h with ⟨s,k2,lit,nm,z,ws,ps,rfl,h⟩ | ⟨r,rfl,hr⟩
 ·exact ad.some (.inl ⟨s,k2,lit,nm,z,ws,ps,rfl,h⟩)
 ·exact ad.some (.inr ⟨r,rfl,hr⟩)
theorem qG (l:List AV):(bz (l.map strip)&& !vE.full 24)=false:=by rw [show vE.full 24=true from rfl];simp
theorem E6 {a b c d e f:AV}:lu 6 true [a,b,c,d,e,f]=some (.agg [a,b,c,d,e,f]):=rfl
theorem Kk: ∀{l:List ij} (_:l.length≠1) (S:Sp),Cz S l= .mk 18 0 S [] l
 | [],_,_=>rfl
 | [_],h,_=>absurd rfl h
 | _:: _:: _,_,_=>rfl
theorem yb {p:Nat×T} {k tk:Nat} {tx:List UInt8} {l:List T} (hp:p.2= .mk k tk tx l) (hf:Fit p) (hl:l.length < 1000000000) (ht:p.1+(bo l).length≤1000000)
  (hq:k≠16→k≠17→k≠18→hU (tk,tx)∧tx.length≤1000000) (h16:k=16→ ∀i p',(i=0∨i=2)→(bH p.1 l)[i]? =some p'→nC p') (h16l:k=16→l.length=3) (hod: ∀p'∈eh (bH p.1 l),(k=17∨k=18)→nC p'):nC p:=by
 rintro v hv
 have hsp:=vq hv (by have:=hf.t;omega)
 have hpt:kW (p.1,.mk k tk tx l) v:=by rw [← hp];exact hv
 obtain ⟨x,es,epa,hx,hs⟩:=pb hpt (by omega) hl
 have csp:=fun {γ:Type} (st:St) (K:Kv γ)=>gZ hv rfl hsp st K
 have cpa:=fun {γ:Type} (st:St) (K:Kv γ)=>gZ hv rfl epa st K
 have hpT:gC p.1 p.2=re k tk tx (mz p.1 p.2) ((bH p.1 l).map fun q=>gC q.1 q.2):=by rw [hp,gC,lR]
 obtain ⟨a1,b1,s1,y,rfl,hN⟩:=hpt
 obtain ⟨l',es',ht',hy,hs'⟩:=kK hN
 cases ht'
 generalize hS:mz p.1 p.2=S at *
 refine ad.bare rfl (ad.step (NP _) ?_)
 simp only [Sq,aL,ag,aj,az,ah,hy.af,hy.aV]
 refine ad.step (csp _ _) ?_
 simp only [dj,bS,cA,aL,ag,aj,ah,aC]
 have w0:Vo (St.mk 2 0 (Tr.node (some (VM.Obj.cells sc z6)) (Tr.node (some (VM.Obj.cells sc z6)) Tr.leaf Tr.leaf) Tr.leaf)) [(1,sc,z6),(0,sc,z6)] 6 sc .aq []:=by
  refine ⟨⟨fun q hq=> ?_,by show ([1,0]:List Nat).Nodup;decide,Nat.zero_le _⟩,iN.aq (Nat.zero_le _) _ _⟩
  simp only [List.mem_cons,List.mem_nil_iff,or_false] at hq
  rcases hq with rfl | rfl <;> (refine ⟨?_,Nat.zero_le _⟩;dsimp only;rfl)
 refine ad.lL [] w0 (Nat.le_of_ble_eq_true rfl) fun s1 o1 _ w=>ad.step (cpa _ _) ?_
 have w:Vo s1 (Mm 0 0 S [] .aq) 6 sc .aq []:=w
 have e16:((k:Int)==16)=(k==16):=dz k 16
 have e17:((k:Int)==17)=(k==17):=dz k 17
 have e18:((k:Int)==18)=(k==18):=dz k 18
 simp only [e16,e17,e18]
 refine ad.bind (R:=QO p S id) ?_ ?_
 ·by_cases h1:k=16
  ·obtain ⟨p0,hp0⟩: ∃p0,(bH p.1 l)[0]? =some p0:=⟨_,List.getElem?_eq_getElem (by rw [dq,h16l h1];omega)⟩
   obtain ⟨p2,hp2⟩: ∃p2,(bH p.1 l)[2]? =some p2:=⟨_,List.getElem?_eq_getElem (by rw [dq,h16l h1];omega)⟩
   obtain ⟨a0,b0,s0,y0,hN0,e0⟩:=oL hx hs hp0
   obtain ⟨a2,b2,s2,y2,hN2,e2⟩:=oL hx hs hp2
   have hP0:kW p0 (.agg [.int .u8 (a0:Int),.int .u8 (b0:Int),.str s0,y0,.int .i64 (p0.1:Int)]):=⟨a0,b0,s0,y0,rfl,hN0⟩
   have hP2:kW p2 (.agg [.int .u8 (a2:Int),.int .u8 (b2:Int),.str s2,y2,.int .i64 (p2.1:Int)]):=⟨a2,b2,s2,y2,rfl,hN2⟩
   obtain ⟨u0,eu0,hu0⟩:=h16 h1 0 p0 (.inl rfl) hp0 _ hP0
   obtain ⟨u2,eu2,hu2⟩:=h16 h1 2 p2 (.inr rfl) hp2 _ hP2
   obtain ⟨k3,lit3,sp3,nm3,qs3,y3,fs3,hq3,rfl,hy3,hs3⟩:=gJ hu0
   obtain ⟨k4,lit4,sp4,nm4,qs4,y4,fs4,hq4,rfl,hy4,hs4⟩:=gJ hu2
   have e0: ∀{β:Type} (st:St) (K:AV→List Nat→Option β),bZ 5 x 0 st K= _:=e0
   have e2: ∀{β:Type} (st:St) (K:AV→List Nat→Option β),bZ 5 x 2 st K= _:=e2
   have c0:=fun {γ:Type} (st:St) (K:Kv γ)=>gZ hP0 rfl eu0 st K
   have c2:=fun {γ:Type} (st:St) (K:Kv γ)=>gZ hP2 rfl eu2 st K
   rw [beq_iff_eq.2 h1]
   refine ad.step (aH _ _) ?_
   simp only [e0,e2,c0,c2,bL,gd,al,aL,ag,aj,az,ah,gH,ga,Bool.and_self,bf,hy3.af,hy3.aV,hy4.af,hy4.aV]
   refine ad.lL [] w (Nat.le_of_ble_eq_true rfl) fun s5 o5 _ w=>ad.step (bf _) (ad.lL [] w (Nat.le_of_ble_eq_true rfl) fun s6 o6 _ w=>ad.some (.inl ⟨s6,20,0,[],.sl 6 [.agg (qM k3 lit3 sp3 nm3 y3),.agg (qM k4 lit4 sp4 nm4 y4)] .shut,_,[gC p0.1 p0.2,gC p2.1 p2.2],rfl,Vo.new w (.inr rfl) (Nat.le_of_ble_eq_true rfl),cu.cons hu0 (cu.cons hu2 cu.nil), ?_⟩))
   ·rw [hpT,re,if_pos h1]
    simp only [List.getD_eq_getElem?_getD,List.getElem?_map,hp0,hp2,Option.map_some,Option.getD_some]
  ·rw [beq_eq_false_iff_ne.2 h1]
   refine ad.step (aB _ _) (ad.bind (R:=QO (X:=Sum dK AV) p S fun r=>Sum.inr (id r)) ?_ (Mf id))
   by_cases h2:k=18
   ·obtain ⟨z,gs,eo,hz,hg⟩:=Ak hx hs (by rw [dq];exact hl)
    have co:=fun {γ:Type} (st:St) (K:Kv γ)=>bj (f:=59) st K rfl (by simp only [List.map_cons,List.map_nil,hx.strip]) (by simp only [bg,hx.bare];rfl) eo
    rw [beq_iff_eq.2 h2]
    refine ad.step (aH _ _) (ad.step (co _ _) ?_)
    refine ad.iD (vL hz hg (by have:=pj (bH p.1 l);rw [dq] at this;omega) (fun q hq=>hod q hq (.inr h2)) s1 w.w.ro) rfl (qG _) ?_
    rintro v5 s5 ⟨ws,w5,hps⟩
    have w:=w.call w5
    refine ad.lL [] w (Nat.le_of_ble_eq_true rfl) fun s6 o6 _ w=>ad.one w.o.one (ad.one w.o.one (ad.lL [] w (Nat.le_of_ble_eq_true rfl) fun s7 o7 _ w=>ad.some (.inl ⟨s7,19,0,[],_,_,_,rfl,w,hps, ?_⟩)))
    rw [hpT,re,if_neg h1,if_pos h2,jI]
   ·rw [beq_eq_false_iff_ne.2 h2]
    refine ad.step (aB _ _) (ad.bind (R:=QO (X:=Sum dK (Sum dK AV)) p S fun r=>Sum.inr (Sum.inr r)) ?_ (Mf (X:=Sum dK AV) fun r=>Sum.inr r))
    by_cases h3:k=17
    ·obtain ⟨z,gs,eo,hz,hg⟩:=Ak hx hs (by rw [dq];exact hl)
     have co:=fun {γ:Type} (st:St) (K:Kv γ)=>bj (f:=59) st K rfl (by simp only [List.map_cons,List.map_nil,hx.strip]) (by simp only [bg,hx.bare];rfl) eo
     rw [beq_iff_eq.2 h3]
     refine ad.step (aH _ _) (ad.step (co _ _) ?_)
     refine ad.iD (vL hz hg (by have:=pj (bH p.1 l);rw [dq] at this;omega) (fun q hq=>hod q hq (.inl h3)) s1 w.w.ro) rfl (qG _) ?_
     rintro v5 s5 ⟨ws,w5,hps⟩
     have w:=w.call w5
     have hkp:gC p.1 p.2=Cz S ((eh (bH p.1 l)).map fun q=>gC q.1 q.2):=by rw [hpT,re,if_neg h1,if_neg h2,if_pos h3,jI]
     refine ad.lL [] w (Nat.le_of_ble_eq_true rfl) fun s6 o6 _ w=>ad.one w.o.one (ad.one w.o.one (ad.lL [] w (Nat.le_of_ble_eq_true rfl) fun s7 o7 _ w=> ?_))
     refine ad.gm List.mem_cons_self w.w rfl (ad.step (E1 w.o _) ?_)
     by_cases hone:ws.length=1
     ·obtain ⟨q,hq⟩: ∃q,(eh (bH p.1 l)).map (fun q=>gC q.1 q.2)=[q]:=by
       have:=hps.len
       exact List.length_eq_one_iff.1 (by omega)
      rw [hq] at hps
      simp only [cu] at hps
      obtain ⟨u,us,rfl,hu,rfl⟩:=hps
      obtain ⟨k3,lit3,sp3,nm3,qs3,y3,fs3,hq3,rfl,hy3,hs3⟩:=gJ hu
      refine ad.step (aH _ _) (ad.gm List.mem_cons_self w.w rfl (ad.step (Ag w.o (k:=0) rfl _ _) ?_))
      simp only [jx,bL,E6,al,aL,ag,aj,az,ah,hy3.af]
      refine ad.lL [_] w (Nat.le_of_ble_eq_true rfl) fun s8 o8 _ w=> ?_
      have hres:gC p.1 p.2= .mk k3 lit3 sp3 nm3 qs3:=by rw [hkp,hq];exact hq3
      refine ad.bind (R:=fun c=> ∃r,c=Sum.inr (Sum.inr r)∧ym (gC p.1 p.2) r) (ad.bind (R:=fun c=> ∃r,c=Sum.inr r∧ym (gC p.1 p.2) r) (ad.bind (R:=fun r=>ym (gC p.1 p.2) r) (ad.gY (List.mem_cons_of_mem _ List.mem_cons_self) w.w rfl ?_) fun r hr=>ad.some ⟨r,rfl,hr⟩) ?_) ?_
      ·show ad (ui (.agg [_,_,_,_,_,_]) _) _
       simp only [aL,ag,aj,az,ah]
       refine ad.step (Iy hy3 (fun n=>xa hy3 _ 0 (n+1) (by omega)) _ _ _ _ _ _) (ad.some ?_)
       rw [hres]
       exact HF hy3 hs3
      ·rintro c ⟨r,rfl,hr⟩
       exact ad.some ⟨r,rfl,hr⟩
      ·rintro c ⟨r,rfl,hr⟩
       exact ad.some (.inr ⟨r,rfl,hr⟩)
     ·rw [show ((ws.length:Int)==1)=false by rw [beq_eq_false_iff_ne];omega]
      refine ad.step (aB _ _) (ad.some (.inl ⟨s7,18,0,[],_,_,_,rfl,w,hps, ?_⟩))
      rw [hkp]
      exact Kk (by rw [← hps.len];exact hone) S
    ·obtain ⟨hq,hql⟩:=hq h1 h3 h2
     have cl:=fun {γ:Type} (st:St) (K:Kv γ)=>bj (f:=43) st K rfl rfl rfl (FH hq hql)
     rw [beq_eq_false_iff_ne.2 h3]
     refine ad.step (aB _ _) (ad.step (cl _ _) ?_)
     simp only [dj,bS,cA,aj,az]
     refine ad.lL [] w (Nat.le_of_ble_eq_true rfl) fun s5 o5 _ w=>ad.lL [] w (Nat.le_of_ble_eq_true rfl) fun s6 o6 _ w=> ?_
     have w:Vo s6 (Mm 0 (fS tk tx).1 S (fS tk tx).2 .aq) 6 sc .aq []:=w
     have hkp:gC p.1 p.2=if (fS tk tx).1=1 then .mk 15 0 S (fS tk tx).2 [] else if tk=8 then .mk 16 0 S [] [] else .mk 17 (fS tk tx).1 S (fS tk tx).2 []:=by rw [hpT,re,if_neg h1,if_neg h2,if_neg h3]
     refine ad.gm List.mem_cons_self w.w rfl (ad.step (aj _ _ _) ?_)
     have e1:(((fS tk tx).1:Int)==1)=((fS tk tx).1==1):=dz _ 1
     have e8:((tk:Int)==8)=(tk==8):=dz tk 8
     rw [e1,e8]
     by_cases g1:(fS tk tx).1=1
     ·rw [beq_iff_eq.2 g1]
      rw [if_pos g1] at hkp
      refine ad.bind (R:=fun c=> ∃s,c=([],s)∧Vo s (Mm 15 0 S (fS tk tx).2 .aq) 6 sc .aq []) (ad.step (aH _ _) (ad.lL [] w (Nat.le_of_ble_eq_true rfl) fun s7 o7 _ w=>ad.lL [] w (Nat.le_of_ble_eq_true rfl) fun s8 o8 _ w=>ad.some ⟨s8,rfl,w⟩)) ?_
      rintro c ⟨s,rfl,w⟩
      exact ad.some (.inl ⟨s,15,0,_,_,_,_,rfl,w,cu.nil,hkp⟩)
     ·rw [beq_eq_false_iff_ne.2 g1]
      rw [if_neg g1] at hkp
      by_cases g8:tk=8
      ·rw [beq_iff_eq.2 g8]
       rw [if_pos g8] at hkp
       refine ad.bind (R:=fun c=> ∃s,c=([],s)∧Vo s (Mm 16 0 S [] .aq) 6 sc .aq []) (ad.step (aB _ _) (ad.bind (R:=fun c=> ∃s,c=([],s)∧Vo s (Mm 16 0 S [] .aq) 6 sc .aq []) (ad.step (aH _ _) (ad.lL [] w (Nat.le_of_ble_eq_true rfl) fun s7 o7 _ w=>ad.lL [] w (Nat.le_of_ble_eq_true rfl) fun s8 o8 _ w=>ad.lL [] w (Nat.le_of_ble_eq_true rfl) fun s9 o9 _ w=>ad.some ⟨s9,rfl,w⟩)) ?_)) ?_
       ·rintro c ⟨s,rfl,w⟩
        exact ad.some ⟨s,rfl,w⟩
       ·rintro c ⟨s,rfl,w⟩
        exact ad.some (.inl ⟨s,16,0,_,_,_,_,rfl,w,cu.nil,hkp⟩)
      ·rw [beq_eq_false_iff_ne.2 g8]
       rw [if_neg g8] at hkp
       refine ad.bind (R:=fun c=> ∃s,c=([],s)∧Vo s (Mm 17 (fS tk tx).1 S (fS tk tx).2 .aq) 6 sc .aq []) (ad.step (aB _ _) (ad.bind (R:=fun c=> ∃s,c=([],s)∧Vo s (Mm 17 (fS tk tx).1 S (fS tk tx).2 .aq) 6 sc .aq []) (ad.step (aB _ _) (ad.lL [] w (Nat.le_of_ble_eq_true rfl) fun s7 o7 _ w=>ad.some ⟨s7,rfl,w⟩)) ?_)) ?_
       ·rintro c ⟨s,rfl,w⟩
        exact ad.some ⟨s,rfl,w⟩
       ·rintro c ⟨s,rfl,w⟩
        exact ad.some (.inl ⟨s,17,_,_,_,_,_,rfl,w,cu.nil,hkp⟩)
 ·rintro c (⟨s,k2,lit,nm,z,ws,ps,rfl,w,hps,hpp⟩ | ⟨r,rfl,hr⟩)
  ·simp only [dC,ah]
   refine ad.gY List.mem_cons_self w.w rfl ?_
   simp only [aL,ag,aj,az,ah]
   refine ad.one w.o.one (ad.lL [_] w (Nat.le_of_ble_eq_true rfl) fun s2 o2 _ w=> ?_)
   refine ad.gY (List.mem_cons_of_mem _ List.mem_cons_self) w.w rfl ?_
   obtain ⟨x',hx',hf'⟩:=rY w.o
   show ad (ui (.agg [_,_,_,_,_,_]) _) _
   simp only [aL,ag,aj,az,ah]
   refine ad.step (Iy hx' hf' _ _ _ _ _ _) (ad.some ?_)
   rw [hpp]
   exact HF hx' hps
  ·exact ad.some hr
theorem EM {b:Bool}: ∀(n:Nat) (l:List T),l.length≤n→Pk hU b l→ ∀o a c,PT hU a→ ∀t∈eh (o::a::(l++[c])),PT hU t
 | n,[],_,_,o,a,c,ha,t,ht=>by
  simp only [List.nil_append,eh,List.mem_cons,List.mem_nil_iff,or_false] at ht
  rw [ht];exact ha
 | 0,_:: _,h,_,_,_,_,_,_,_=>by simp at h
 | n+1,s::l,h,hl,o,a,c,ha,t,ht=>by
  cases hl with
  | cons hb hx hl=>
   rename_i x l'
   simp only [List.cons_append,eh,List.mem_cons] at ht
   rcases ht with rfl | ht
   ·exact ha
   ·exact EM n l' (by simp at h;omega) hl s x c hx t ht
theorem Ab {b:Bool}: ∀(n:Nat) (l:List T),l.length≤n→O5 hU b l→ ∀o a c,ET hU a→ ∀t∈eh (o::a::(l++[c])),ET hU t
 | n,[],_,_,o,a,c,ha,t,ht=>by
  simp only [List.nil_append,eh,List.mem_cons,List.mem_nil_iff,or_false] at ht
  rw [ht];exact ha
 | 0,_:: _,h,_,_,_,_,_,_,_=>by simp at h
 | n+1,s::l,h,hl,o,a,c,ha,t,ht=>by
  cases hl with
  | cons hb hx hl=>
   rename_i x l'
   simp only [List.cons_append,eh,List.mem_cons] at ht
   rcases ht with rfl | ht
   ·exact ha
   ·exact Ab n l' (by simp at h;omega) hl s x c hx t ht
theorem qH {l:List T} {a:Nat} {p:Nat×T} (h:p∈bH a l):p.2∈l:=by
 have:=List.mem_map_of_mem (f:=fun q:Nat×T=>q.2) h
 rw [nf] at this
 exact this
theorem Aj {l:List T} {a:Nat} {p:Nat×T} (h:p∈eh (bH a l)):p.2∈eh l:=by
 have:=List.mem_map_of_mem (f:=fun q:Nat×T=>q.2) h
 rw [J3] at this
 exact this
theorem wm {k:Nat} {l:List T} {t:T} (h:t∈l):SizeOf.sizeOf t < SizeOf.sizeOf (node k l):=by
 have:=List.sizeOf_lt_of_mem h
 simp only [node,T.mk.sizeOf_spec]
 omega
theorem C5 {a k:Nat} {tx:List UInt8} {ks:List T} (h:Fit (a,.mk 1 k tx ks)) (ht:Tv hU ks):ks.length < 1000000000∧a+(bo ks).length≤1000000∧tx.length≤1000000:=by
 have h1:=h.t
 have h2:=D4 ht
 simp only [bY,if_true,List.length_append] at h1
 exact ⟨by omega,by omega,by omega⟩
theorem wc {a k:Nat} {l:List T} (hf:Fit (a,node k l)) (h1:k≠1) (h2:k≠2) (hk:k=16∨k=17∨k=18) (h16:k=16→ ∀i p',(i=0∨i=2)→(bH a l)[i]? =some p'→nC p') (h16l:k=16→l.length=3) (hod: ∀p'∈eh (bH a l),(k=17∨k=18)→nC p'):nC (a,node k l):=by
 obtain ⟨g1,g2,g3⟩:=hf.kids h1 h2
 exact yb rfl hf (by omega) g1 (fun e1 e2 e3=>by omega) h16 h16l hod
theorem Eb: ∀(n:Nat) (t:T) (a:Nat),SizeOf.sizeOf t < n→PT hU t→Fit (a,t)→nC (a,t):=by
 intro n
 induction n with
 | zero=>intro t a h;omega
 | succ n ih=>
  intro t a hn hP hf
  cases hP with
  | leaf hq hk ht=>
   obtain ⟨g1,g2,g3⟩:=C5 hf ht
   exact yb rfl hf g1 g2 (fun _ _ _=>⟨hq,g3⟩) (fun e=>by cases e) (fun e=>by cases e) (fun p _ e=>by rcases e with e | e <;> cases e)
  | cons ha ho hb=>
   rename_i x op y
   obtain ⟨g1,g2,g3⟩:=hf.kids (by decide) (by decide)
   refine wc hf (by decide) (by decide) (.inl rfl) (fun _ i p' hi hp=> ?_) (fun _=>rfl) (fun p _ e=>by rcases e with e | e <;> cases e)
   have hm:=List.mem_of_getElem? hp
   have hs:=wm (k:=16) (qH hm)
   have hPp:PT hU p'.2:=by
    rcases hi with rfl | rfl
    ·obtain rfl: _=p':=by simpa [bH] using hp
     exact ha
    ·obtain rfl: _=p':=by simpa [bH] using hp
     exact hb
   exact ih p'.2 p'.1 (by omega) hPp (g3 p' hm)
  | none ho hc=>
   rename_i list o c
   have hk:kindOf list true=17∨kindOf list true=18:=by cases list <;> decide
   have hk':kindOf list true≠1∧kindOf list true≠2∧kindOf list true≠16:=by cases list <;> decide
   refine wc hf hk'.1 hk'.2.1 (.inr hk) (fun e=>absurd e hk'.2.2) (fun e=>absurd e hk'.2.2) (fun p hp _=> ?_)
   simp [bH,eh] at hp
  | some ho ha hl hc=>
   rename_i list o c x l
   have hk:kindOf list true=17∨kindOf list true=18:=by cases list <;> decide
   have hk':kindOf list true≠1∧kindOf list true≠2∧kindOf list true≠16:=by cases list <;> decide
   obtain ⟨g1,g2,g3⟩:=hf.kids hk'.1 hk'.2.1
   refine wc hf hk'.1 hk'.2.1 (.inr hk) (fun e=>absurd e hk'.2.2) (fun e=>absurd e hk'.2.2) (fun p hp _=> ?_)
   have hm:=vM hp
   have hs:=wm (k:=kindOf list true) (qH hm)
   have hPp:=EM _ l (Nat.le_refl _) hl o x c ha p.2 (Aj hp)
   exact ih p.2 p.1 (by omega) hPp (g3 p hm)
abbrev rB:TypeId:=34
abbrev z7:List AV:=[.int .u8 0,.int .i64 0,.int .i64 0,.bool false,.str [],.aq,.aq]
abbrev eF (k:Nat) (sp:Sp) (rc:Bool) (nm:List UInt8) (x y:AV):List AV:=[.int .u8 (k:Int),.int .i64 sp.1,.int .i64 sp.2,.bool rc,.str nm,x,y]
def eZ (p:Nat×T):Prop:= ∀v,kW p v→ad ((aG vE).bare 25 [v]) fun x=>uD (bW p.1 p.2) x
theorem gv {e:iT} {v:AV} (h:uD e v): ∃k sp rc nm ps ls x es y fs,e= .mk k sp rc nm ps ls∧v= .agg (eF k sp rc nm x y)∧bl 6 x es∧cu ps es∧bl 7 y fs∧dO ls fs∧ps.length≤100000000:=by
 cases e with
 | mk k sp rc nm ps ls=>
  have hf:=h.SK
  obtain ⟨x,es,y,fs,e,h1,h2,h3,h4⟩:=h.RC
  exact ⟨k,sp,rc,nm,ps,ls,x,es,y,fs,rfl,e,h1,h2,h3,h4,hf⟩
theorem uu {k:Nat} {sp:Sp} {rc:Bool} {nm:List UInt8} {ps:List ij} {ls:List iT} {x y:AV} {es fs:List AV} (hx:bl 6 x es) (hp:cu ps es) (hy:bl 7 y fs) (hl:dO ls fs) (hn:ps.length≤100000000):uD (.mk k sp rc nm ps ls) (.agg (eF k sp rc nm x y)):=by
 simp only [uD]
 exact ⟨x,es,y,fs,rfl,hx,hp,hy,hl,hn⟩
theorem tQ: ∀{l:List iT} {es:List AV} {p:iT} {v:AV},dO l es→uD p v→dO (l++[p]) (es++[v])
 | [],_,_,_,h,k=>by simp only [dO] at h;subst h;exact dO.cons k dO.nil
 | p::l,_,_,_,h,k=>by
  simp only [dO] at h
  obtain ⟨w,ws,rfl,h1,h2⟩:=h
  exact dO.cons h1 (tQ h2 k)
theorem fR: ∀(l:List T) (a:Nat),fU a l=(bH a l).map fun p=>bW p.1 p.2
 | [],_=>rfl
 | t::l,a=>by rw [fU,bH,List.map_cons,fR l]
theorem kh {ps:List (Nat×T)} {x:AV} {es:List AV} (hx:bl 5 x es) (hs:fW kW ps es) (hn:ps.length < 1000000000) (ih: ∀p∈ps,eZ p) (st:St) (hro:st.ro≤st.h):
  ad ((aG vE).wide 62 [x] st) fun r=> ∃ws,Wv st r.2 [] 7 rB r.1 ws∧dO (ps.map fun p=>bW p.1 p.2) ws:=by
 have hlen:=hs.len
 refine ad.wide (ad.step (Ms _ _) ?_)
 simp only [RU,hx.len]
 refine ad.bind (R:=fun c=> ∃s v ws,c=(0,[v],s)∧Wv st s [] 7 rB v ws∧dO (ps.map fun p=>bW p.1 p.2) ws) ?_ ?_
 ·refine ad.upto (n:=es.length) (I:=fun i c=> ∃s v ws,c=([v,.int .i64 (i:Int)],s)∧Wv st s [] 7 rB v ws∧dO ((ps.take i).map fun p=>bW p.1 p.2) ws) ?_ ?_ es.length 0 _ (by omega) ⟨st,.aq,[],rfl,Wv.start hro _ _,by simpa using dO.nil⟩
  ·rintro i c hi ⟨s,v,ws,rfl,w,hw⟩
   have hlt:i < ps.length:=by omega
   have hwl:=hw.len
   rw [List.length_map,List.length_take] at hwl
   obtain ⟨a2,b2,tx2,y,hN2,e⟩:=oL hx hs (List.getElem?_eq_getElem hlt)
   obtain ⟨l2,es2,_,hy,_⟩:=kK hN2
   have hP:kW ps[i] (.agg [.int .u8 (a2:Int),.int .u8 (b2:Int),.str tx2,y,.int .i64 (ps[i].1:Int)]):=⟨a2,b2,tx2,y,rfl,hN2⟩
   obtain ⟨u,eu,hu⟩:=ih _ (List.getElem_mem hlt) _ hP
   obtain ⟨k,sp,rc,nm,qs,ls,x2,gs,y2,fs,hq,rfl,hx2,hq2,hy2,hl2,_⟩:=gv hu
   simp only [Ea,ag,aj,ah,aF,if_pos (show (i:Int) < (es.length:Int) by omega),e,bL,gd,al,aL,az]
   refine ad.uv w fun s1 _ w=>ad.step (hy.af _) ?_
   refine ad.tz [] w fun s2 _ _ w=>ad.gY List.mem_cons_self w.w rfl ?_
   simp only [aL,ag,aj,az,ah]
   refine ad.step (gZ hP rfl eu s2 _) ?_
   simp only [aL,ag,aj,aC,az,ah,hx2.af,hx2.aV,hy2.af,hy2.aV]
   refine ad.Ii w (by omega) (by omega) (by omega) fun v2 s3 _ w=> ?_
   simp only [aY,cH (show i+1≤9223372036854775807 by omega)]
   refine ad.inl ⟨s3,v2,_,rfl,w.none, ?_⟩
   rw [jy hlt,List.map_append]
   exact tQ hw hu
  ·rintro c ⟨s,v,ws,rfl,w,hw⟩
   simp only [Ea,ag,aj,ah,aF,if_neg (show ¬ ((es.length:Nat):Int) < (es.length:Int) by omega)]
   rw [hlen,List.take_length] at hw
   exact ad.inr ⟨s,v,ws,rfl,w,hw⟩
 ·rintro c ⟨s,v,ws,rfl,w,hw⟩
  simp only [ag,ah,qo]
  exact ad.some ⟨ws,w,hw⟩
structure Ma (st:St) (z:Nat) (x:AV) (ws:List AV):Prop where
 one:VM.one x=true
 fr: ∀st':St,(∀j o,2≤j→st.get j= .ok o→st'.get j= .ok o)→ ∃x',bl z x' ws∧ ∀n,VM.freeze st' 0 (n+1) x= .ok x'
theorem fN {st st2:St} {z:Nat} {e:TypeId} {x:AV} {ws:List AV} (h:iN st z e x ws):Ma st2 z x ws:=by
 refine ⟨h.one,fun st' _=> ?_⟩
 rcases h with ⟨_,hl,⟨rfl | rfl,rfl⟩ | rfl | ⟨k,rfl,_,_⟩⟩
 ·exact ⟨.aq,bl.aq,fun _=>rfl⟩
 ·exact ⟨.es,bl.emp,fun _=>rfl⟩
 ·exact ⟨.sl z ws .shut,bl.shut hl,fun _=>rfl⟩
 ·exact ⟨.sl z ws .wide,bl.wide hl,fun _=>rfl⟩
abbrev sk (k:Nat) (sp:Sp) (rc:Bool) (nm:List UInt8) (x y:AV):ub:=[(1,rB,eF k sp rc nm x y),(0,rB,z7)]
def yr (S:Sp) (k:Nat) (rc:Bool) (nm:List UInt8) (ps:List ij) (es:List iT) (r:AV×St):Prop:=
 r.1= .tup []∧ ∃x ws y fs,Vw r.2 (sk k S rc nm x y)∧Ma r.2 6 x ws∧Ma r.2 7 y fs∧cu ps ws∧dO es fs∧(k=6→iN r.2 7 rB y fs)
theorem gK (l:List AV):(bz (l.map strip)&& !vE.full 62)=false:=by rw [show vE.full 62=true from rfl];simp
section
variable {st:St} {S:Sp} {x:AV} {es:List AV} {ps:List (Nat×T)} (w0:Vw st (sk 0 S false [] .aq .aq)) (hx:bl 5 x es) (hs:fW kW ps es) (hn:ps.length < 100000000)
include w0 hx hs hn
theorem Qc (ih: ∀p∈eh ps,eZ p):ad ((aG vE).wide 61 [.mp 1 0,x] st) (yr S 6 false [] [] ((eh ps).map fun p=>bW p.1 p.2)):=by
 obtain ⟨z,gs,eo,hz,hg⟩:=Ak hx hs (by omega)
 have co:=fun {γ:Type} (st:St) (K:Kv γ)=>bj (f:=59) st K rfl (by simp only [List.map_cons,List.map_nil,hx.strip]) (by simp only [bg,hx.bare];rfl) eo
 refine ad.wide (ad.step (Nj _ _ _) (ad.step (co _ _) ?_))
 refine ad.iD (kh hz hg (by have:=pj ps;omega) ih st w0.ro) rfl (gK _) ?_
 rintro v s ⟨ws,w,hw⟩
 have w:Vo s (sk 0 S false [] .aq .aq) 7 rB v ws:=⟨w0.keeps w.k fun _ _ f=>f,w.o⟩
 simp only [dv,bf,di,Nat.zero_add]
 refine ad.lL [] w (Nat.le_of_ble_eq_true rfl) fun s6 o6 _ w=>ad.one w.o.one (ad.one w.o.one (ad.lL [] w (Nat.le_of_ble_eq_true rfl) fun s7 o7 _ w=>ad.some ⟨rfl,.aq,[],_,_,w.w,fN (iN.aq w.w.ro _ sc),fN w.o,cu.nil,hw,fun _=>w.o⟩))
theorem Qv (ih: ∀p∈eh ps,eZ p):ad ((aG vE).wide 63 [.mp 1 0,x] st) (yr S 7 false [] [] ((eh ps).map fun p=>bW p.1 p.2)):=by
 obtain ⟨z,gs,eo,hz,hg⟩:=Ak hx hs (by omega)
 have co:=fun {γ:Type} (st:St) (K:Kv γ)=>bj (f:=59) st K rfl (by simp only [List.map_cons,List.map_nil,hx.strip]) (by simp only [bg,hx.bare];rfl) eo
 refine ad.wide (ad.step (Na _ _ _) (ad.step (co _ _) ?_))
 refine ad.iD (kh hz hg (by have:=pj ps;omega) ih st w0.ro) rfl (gK _) ?_
 rintro v s ⟨ws,w,hw⟩
 have w:Vo s (sk 0 S false [] .aq .aq) 7 rB v ws:=⟨w0.keeps w.k fun _ _ f=>f,w.o⟩
 simp only [dv,bf,di,Nat.zero_add]
 refine ad.lL [] w (Nat.le_of_ble_eq_true rfl) fun s6 o6 _ w=>ad.one w.o.one (ad.one w.o.one (ad.lL [] w (Nat.le_of_ble_eq_true rfl) fun s7 o7 _ w=>ad.some ⟨rfl,.aq,[],_,_,w.w,fN (iN.aq w.w.ro _ sc),fN w.o,cu.nil,hw,fun _=>w.o⟩))
theorem RN (ih: ∀p∈ps,eZ p):ad ((aG vE).wide 64 [.mp 1 0,x] st) (yr S 8 false [] [] (ps.map fun p=>bW p.1 p.2)):=by
 refine ad.wide (ad.step (OV _ _ _) ?_)
 refine ad.iD (kh hx hs (by omega) ih st w0.ro) rfl (gK _) ?_
 rintro v s ⟨ws,w,hw⟩
 have w:Vo s (sk 0 S false [] .aq .aq) 7 rB v ws:=⟨w0.keeps w.k fun _ _ f=>f,w.o⟩
 simp only [dv,bf,di,Nat.zero_add]
 refine ad.lL [] w (Nat.le_of_ble_eq_true rfl) fun s6 o6 _ w=>ad.one w.o.one (ad.one w.o.one (ad.lL [] w (Nat.le_of_ble_eq_true rfl) fun s7 o7 _ w=>ad.some ⟨rfl,.aq,[],_,_,w.w,fN (iN.aq w.w.ro _ sc),fN w.o,cu.nil,hw,fun _=>w.o⟩))
end
theorem Fv {p:Nat×T} {v:AV} (h:kW p v):fW kW [p] [v]:=fW.nil.snoc h
theorem LZ {p q:Nat×T} {v w:AV} (h:kW p v) (k:kW q w):fW kW [p,q] [v,w]:=(Fv h).snoc k
theorem Qa {p q r:Nat×T} {v w u:AV} (h:kW p v) (k:kW q w) (m:kW r u):fW kW [p,q,r] [v,w,u]:=(LZ h k).snoc m
theorem fM {ps:List (Nat×T)} {x:AV} {es:List AV} {p:Nat×T} {i:Nat} (hx:bl 5 x es) (hs:fW kW ps es) (hp:ps[i]? =some p): ∃(a b:Nat) (s:List UInt8) (y:AV),kW p (.agg [.int .u8 (a:Int),.int .u8 (b:Int),.str s,y,.int .i64 (p.1:Int)])∧sJ p.2=s∧(∃gs,bl 4 y gs)∧(∀{β:Type} (st:St) (K:AV→List Nat→Option β),bZ 5 x (i:Int) st K=K (.ip [.int .u8 (a:Int),.int .u8 (b:Int),.str s,y,.int .i64 (p.1:Int)]) []):=by
 obtain ⟨a,b,s,y,hN,e⟩:=oL hx hs hp
 obtain ⟨l,gs,ht,hy,_⟩:=kK hN
 exact ⟨a,b,s,y,⟨a,b,s,y,rfl,hN⟩,by rw [ht];rfl,⟨gs,hy⟩,e⟩
section
variable {st:St} {S:Sp} {x:AV} {es:List AV} (w0:Vw st (sk 0 S false [] .aq .aq)) (hx:bl 5 x es)
include w0 hx
theorem Rz {p0 p1 p2:Nat×T} (hs:fW kW [p0,p1,p2] es) (h0:eZ p0) (h2:eZ p2):ad ((aG vE).wide 65 [.mp 1 0,x] st) (yr S 9 false (sJ p1.2) [] [bW p0.1 p0.2,bW p2.1 p2.2]):=by
 obtain ⟨a0,b0,s0,y0,hP0,_,⟨g0,hy0⟩,e0⟩:=fM hx hs (i:=0) rfl
 obtain ⟨a1,b1,s1,y1,hP1,ht1,_,e1⟩:=fM hx hs (i:=1) rfl
 obtain ⟨a2,b2,s2,y2,hP2,_,⟨g2,hy2⟩,e2⟩:=fM hx hs (i:=2) rfl
 have e0: ∀{β:Type} (st:St) (K:AV→List Nat→Option β),bZ 5 x 0 st K= _:=e0
 have e1: ∀{β:Type} (st:St) (K:AV→List Nat→Option β),bZ 5 x 1 st K= _:=e1
 have e2: ∀{β:Type} (st:St) (K:AV→List Nat→Option β),bZ 5 x 2 st K= _:=e2
 refine ad.wide (ad.step (Nu _ _ _) ?_)
 simp only [Su,e0,e1,e2,kU,List.drop_succ_cons,List.drop_zero,bL,bU,gd,al,aL,ag,aj,az,ah,hy0.af,hy0.aV,hy2.af,hy2.aV]
 refine ad.iD (kh (bl.shut (Nat.le_of_ble_eq_true rfl)) (LZ hP0 hP2) (Nat.le_of_ble_eq_true rfl) (fun p hp=>by
  rcases List.mem_cons.1 hp with rfl | hp
  ·exact h0
  ·rcases List.mem_cons.1 hp with rfl | hp
   ·exact h2
   ·cases hp) st w0.ro) rfl (gK _) ?_
 rintro v s ⟨ws,w,hw⟩
 have w:Vo s (sk 0 S false [] .aq .aq) 7 rB v ws:=⟨w0.keeps w.k fun _ _ f=>f,w.o⟩
 simp only [lz,Bool.and_self,bf,dv,di,Nat.zero_add]
 refine ad.lL [] w (Nat.le_of_ble_eq_true rfl) fun s6 o6 _ w=>ad.step (bf _) (ad.lL [] w (Nat.le_of_ble_eq_true rfl) fun s7 o7 _ w=>ad.step (bf _) (ad.one w.o.one (ad.one w.o.one (ad.lL [] w (Nat.le_of_ble_eq_true rfl) fun s8 o8 _ w=>ad.some ⟨rfl,.aq,[],_,_, ?_,fN (iN.aq w.w.ro _ sc),fN w.o,cu.nil,hw,fun _=>w.o⟩))))
 rw [ht1]
 exact w.w
theorem Rc {p0 p1:Nat×T} (hs:fW kW [p0,p1] es) (h1:eZ p1):ad ((aG vE).wide 66 [.mp 1 0,x] st) (yr S 10 false (sJ p0.2) [] [bW p1.1 p1.2]):=by
 obtain ⟨a0,b0,s0,y0,hP0,ht0,_,e0⟩:=fM hx hs (i:=0) rfl
 obtain ⟨a1,b1,s1,y1,hP1,_,⟨g1,hy1⟩,e1⟩:=fM hx hs (i:=1) rfl
 have e0: ∀{β:Type} (st:St) (K:AV→List Nat→Option β),bZ 5 x 0 st K= _:=e0
 have e1: ∀{β:Type} (st:St) (K:AV→List Nat→Option β),bZ 5 x 1 st K= _:=e1
 refine ad.wide (ad.step (N5 _ _ _) ?_)
 simp only [Sl,e0,e1,kU,List.drop_succ_cons,List.drop_zero,bL,bU,gd,al,aL,ag,aj,az,ah,hy1.af,hy1.aV]
 refine ad.iD (kh (bl.shut (Nat.le_of_ble_eq_true rfl)) (Fv hP1) (Nat.le_of_ble_eq_true rfl) (fun p hp=>by
  rcases List.mem_cons.1 hp with rfl | hp
  ·exact h1
  ·cases hp) st w0.ro) rfl (gK _) ?_
 rintro v s ⟨ws,w,hw⟩
 have w:Vo s (sk 0 S false [] .aq .aq) 7 rB v ws:=⟨w0.keeps w.k fun _ _ f=>f,w.o⟩
 simp only [lz,Bool.and_self,bf,dv,di,Nat.zero_add]
 refine ad.lL [] w (Nat.le_of_ble_eq_true rfl) fun s6 o6 _ w=>ad.step (bf _) (ad.lL [] w (Nat.le_of_ble_eq_true rfl) fun s7 o7 _ w=>ad.step (bf _) (ad.one w.o.one (ad.one w.o.one (ad.lL [] w (Nat.le_of_ble_eq_true rfl) fun s8 o8 _ w=>ad.some ⟨rfl,.aq,[],_,_, ?_,fN (iN.aq w.w.ro _ sc),fN w.o,cu.nil,hw,fun _=>w.o⟩))))
 rw [ht0]
 exact w.w
theorem RA {p0 p1 p2 p3 p4 p5:Nat×T} (hs:fW kW [p0,p1,p2,p3,p4,p5] es) (h1:eZ p1) (h3:eZ p3) (h5:eZ p5):ad ((aG vE).wide 67 [.mp 1 0,x] st) (yr S 12 false [] [] [bW p1.1 p1.2,bW p3.1 p3.2,bW p5.1 p5.2]):=by
 obtain ⟨a1,b1,s1,y1,hP1,_,⟨g1,hy1⟩,e1⟩:=fM hx hs (i:=1) rfl
 obtain ⟨a3,b3,s3,y3,hP3,_,⟨g3,hy3⟩,e3⟩:=fM hx hs (i:=3) rfl
 obtain ⟨a5,b5,s5,y5,hP5,_,⟨g5',hy5⟩,e5⟩:=fM hx hs (i:=5) rfl
 have e1: ∀{β:Type} (st:St) (K:AV→List Nat→Option β),bZ 5 x 1 st K= _:=e1
 have e3: ∀{β:Type} (st:St) (K:AV→List Nat→Option β),bZ 5 x 3 st K= _:=e3
 have e5: ∀{β:Type} (st:St) (K:AV→List Nat→Option β),bZ 5 x 5 st K= _:=e5
 refine ad.wide (ad.step (Nn _ _ _) ?_)
 simp only [Sn,e1,e3,e5,kU,List.drop_succ_cons,List.drop_zero,bL,bU,gd,al,aL,ag,aj,az,ah,hy1.af,hy1.aV,hy3.af,hy3.aV,hy5.af,hy5.aV]
 refine ad.iD (kh (bl.shut (Nat.le_of_ble_eq_true rfl)) (Qa hP1 hP3 hP5) (Nat.le_of_ble_eq_true rfl) (fun p hp=>by
  rcases List.mem_cons.1 hp with rfl | hp
  ·exact h1
  ·rcases List.mem_cons.1 hp with rfl | hp
   ·exact h3
   ·rcases List.mem_cons.1 hp with rfl | hp
    ·exact h5
    ·cases hp) st w0.ro) rfl (gK _) ?_
 rintro v s ⟨ws,w,hw⟩
 have w:Vo s (sk 0 S false [] .aq .aq) 7 rB v ws:=⟨w0.keeps w.k fun _ _ f=>f,w.o⟩
 simp only [lz,Bool.and_self,bf,dv,di,Nat.zero_add]
 exact ad.lL [] w (Nat.le_of_ble_eq_true rfl) fun s6 o6 _ w=>ad.step (bf _) (ad.one w.o.one (ad.one w.o.one (ad.lL [] w (Nat.le_of_ble_eq_true rfl) fun s7 o7 _ w=>ad.some ⟨rfl,.aq,[],_,_,w.w,fN (iN.aq w.w.ro _ sc),fN w.o,cu.nil,hw,fun _=>w.o⟩)))
theorem RI {p0 pa pe:Nat×T} {pp:List (Nat×T)} (hs:fW kW (p0::pp++[pa]++[pe]) es) (hn:pp.length < 100000000) (hp: ∀p∈pp,nC p) (he:eZ pe):ad ((aG vE).wide 68 [.mp 1 0,x] st) (yr S 11 false [] (pp.map fun p=>gC p.1 p.2) [bW pe.1 pe.2]):=by
 have hlen:es.length=pp.length+3:=by have:=hs.len;simpa using this
 have hxl:=hx.1
 have hl:(p0::pp++[pa]++[pe])[pp.length+2]? =some pe:=by
  rw [List.getElem?_append_right (by simp)]
  simp
 obtain ⟨a1,b1,s1,y1,hP1,_,⟨g1,hy1⟩,e1⟩:=fM hx hs (i:=pp.length+2) hl
 have hw1:IntKind.wrap .i64 ((es.length:Int) - 2)=((pp.length+1:Nat):Int):=by rw [wrap_i64 (by omega) (by omega)];omega
 have hw2:IntKind.wrap .i64 ((es.length:Int) - 1)=((pp.length+2:Nat):Int):=by rw [wrap_i64 (by omega) (by omega)];omega
 obtain ⟨x',hx',ec⟩:=hx.cut (lo:=some 1) (hi:=some ((pp.length+1:Nat):Int)) (l:=1) (m:=pp.length+1) (qd (k:=1) (by omega)) (qd (by omega))
 have hs':=(hs.take (pp.length+1)).drop 1
 have hcut:((p0::pp++[pa]++[pe]).take (pp.length+1)).drop 1=pp:=by simp [List.append_assoc]
 rw [hcut] at hs'
 refine ad.wide (ad.step (M7 _ _ _) ?_)
 simp only [SI,hx.len,aY,hw1,hw2,ec]
 refine ad.iD (vL hx' hs' (by omega) hp st w0.ro) rfl (qG _) ?_
 rintro v s ⟨ws,w,hw⟩
 have w1:Vw s (sk 0 S false [] .aq .aq):=w0.keeps w.k fun _ _ f=>f
 have hap:apart ⟨[],.all st s⟩ ⟨[],.kept⟩=true:=rfl
 simp only [lz,hap,Bool.and_self,bf,e1,bL,gd,al,aL,ag,aj,az,ah,hy1.af,hy1.aV]
 refine ad.iD (kh (bl.shut (Nat.le_of_ble_eq_true rfl)) (Fv hP1) (Nat.le_of_ble_eq_true rfl) (fun p hp=>by
  rcases List.mem_cons.1 hp with rfl | hp
  ·exact he
  ·cases hp) s w1.ro) rfl (gK _) ?_
 rintro v2 s2 ⟨ws2,w2,hw2'⟩
 have w':Vo s2 (sk 0 S false [] .aq .aq) 7 rB v2 ws2:=⟨w1.keeps w2.k fun _ _ f=>f,w2.o⟩
 simp only [lz,Bool.and_self,bf,dv,di,Nat.zero_add]
 refine ad.lL [] w' (Nat.le_of_ble_eq_true rfl) fun s6 o6 _ w'=>ad.step (bf _) (ad.one w.o.one (ad.one w.o.one (ad.lL [] w' (Nat.le_of_ble_eq_true rfl) fun s7 o7 _ w'=>ad.step (bf _) (ad.one w'.o.one (ad.one w'.o.one (ad.lL [] w' (Nat.le_of_ble_eq_true rfl) fun s8 o8 _ w'=>ad.some ⟨rfl,v,ws,_,_,w'.w,fN w.o,fN w'.o,hw,hw2',fun e=>by cases e⟩))))))
end
abbrev Hr:TypeId:=36
abbrev QZ:List AV:=[.int .i64 0,.int .i64 0,.bool false,.aq,.int .u8 0,.int .i64 0,.int .i64 0,.bool false,.str [],.aq,.aq]
abbrev po (s:Sp) (rc:Bool) (z:AV) (k:Nat) (sp:Sp) (rc2:Bool) (nm:List UInt8) (x y:AV):List AV:=[.int .i64 s.1,.int .i64 s.2,.bool rc,z,.int .u8 (k:Int),.int .i64 sp.1,.int .i64 sp.2,.bool rc2,.str nm,x,y]
theorem Cd {z k:Nat} {x:AV} {es:List AV} (h:bl z x es) (hk:k≤es.length): ∃x',bl z x' (es.drop k)∧ ∀{β:Type} (K:AV→Option β),fO z x (some (k:Int)) none none K=K x':=by
 obtain ⟨x',hx,e⟩:=h.cut (lo:=some (k:Int)) (hi:=none) (l:=k) (m:=es.length) (qd hk) Ct
 rw [List.take_length] at hx
 exact ⟨x',hx,e⟩
theorem Im {z k:Nat} {x:AV} {es:List AV} (h:bl z x es) (hk:k≤es.length): ∃x',bl z x' (es.take k)∧ ∀{β:Type} (K:AV→Option β),fO z x none (some (k:Int)) none K=K x':=by
 obtain ⟨x',hx,e⟩:=h.cut (lo:=none) (hi:=some (k:Int)) (l:=0) (m:=k) Ct (qd hk)
 rw [List.drop_zero] at hx
 exact ⟨x',hx,e⟩
theorem Kd {st:St} {z x y z' x' y':AV} {a b c:List AV} (hz:bl 6 z' a) (hx:bl 6 x' b) (hy:bl 7 y' c) (fz: ∀n,VM.freeze st 0 (n+1) z= .ok z') (fx: ∀n,VM.freeze st 0 (n+1) x= .ok x') (fy: ∀n,VM.freeze st 0 (n+1) y= .ok y') (s:Sp) (rc:Bool) (k:Nat) (sp:Sp) (rc2:Bool) (nm:List UInt8) {β:Type} (K:AV→Option β):
  iL st 0 (.agg (po s rc z k sp rc2 nm x y)) K=K (.agg (po s rc z' k sp rc2 nm x' y')):=by
 refine AY (bT (gF _ _ st 0 99 (by omega)) (bT (gF _ _ st 0 99 (by omega)) (bT (Aq _ st 0 99 (by omega)) (bT (fz 98) (bT (gF _ _ st 0 99 (by omega)) (bT (gF _ _ st 0 99 (by omega)) (bT (gF _ _ st 0 99 (by omega)) (bT (Aq _ st 0 99 (by omega)) (bT (AR _ st 0 99 (by omega)) (bT (fx 98) (bT (fy 98) sg))))))))))) ?_ K
 simp only [bg,hz.bare,hx.bare,hy.bare]
 rfl
abbrev PU (rc:Bool) (z:AV) (k:Nat) (sp:Sp) (rc2:Bool) (nm:List UInt8) (x y:AV):ub:=[(1,Hr,po (0,0) rc z k sp rc2 nm x y),(0,Hr,QZ)]
def vp (m:Nat) (ps:List (Nat×T)):List ij:=((ps.drop m).take (ps.length - m - 2)).map fun p=>gC p.1 p.2
def xH (l:List ij):Bool:=match l.getD 0 default with | .mk k _ _ _ _=>k==15
theorem xe {x:AV} {es:List AV} {ps:List (Nat×T)} {p1 pe:Nat×T} {m:Nat} (hx:bl 5 x es) (hs:fW kW ps es) (hn:ps.length < 100000000) (h1:ps[1]? =some p1) (hm:m=if isRec p1.2=true then 2 else 1) (hl:m+3≤ps.length)
  (hp: ∀p∈(ps.drop m).take (ps.length - m - 2),nC p) (he:ps[ps.length - 1]? =some pe) (hE:eZ pe):
  ad ((aG vE).bare 12 [x]) fun v=>Nk ⟨(0,0),isRec p1.2&&xH (vp m ps),vp m ps,bW pe.1 pe.2⟩ v:=by
 have hlen:=hs.len
 have hxl:=hx.1
 have hm2:1≤m∧m≤2:=by rw [hm];split <;> omega
 obtain ⟨x1,hx1,ec1⟩:=Cd (k:=1) hx (by omega)
 have ec1: ∀{β:Type} (K:AV→Option β),fO 5 x (some 1) none none K=K x1:=ec1
 have hs1:=hs.drop 1
 obtain ⟨a1,b1,s1,y1,hP1,ht1,_,e1⟩:=fM hx1 hs1 (i:=0) (p:=p1) (by rw [List.getElem?_drop];exact h1)
 have e1: ∀{β:Type} (st:St) (K:AV→List Nat→Option β),bZ 5 x1 0 st K= _:=e1
 have hrec:isRec p1.2=(b1==3&&s1==dh):=by
  obtain ⟨a,b,s,y,e,hN⟩:=hP1
  obtain ⟨l,gs,ht,_,_⟩:=kK hN
  injection e with e
  have q2:=(List.cons.inj e).2
  have q3:=(List.cons.inj q2).1
  have q4:=(List.cons.inj (List.cons.inj q2).2).1
  simp only [AV.int.injEq,true_and,AV.str.injEq] at q3 q4
  rw [ht]
  show (b==3&&s==dh)= _
  rw [q4,show b1=b by omega]
 obtain ⟨xm,hxm,ecm⟩: ∃xm,bl 5 xm (es.drop m)∧(isRec p1.2=true→ ∀{β:Type} (K:AV→Option β),fO 5 x1 (some 1) none none K=K xm)∧(isRec p1.2=false→xm=x1):=by
  cases hb:isRec p1.2 with
  | true=>
   obtain ⟨x2,hx2,ec2⟩:=Cd (k:=1) hx1 (by rw [List.length_drop];omega)
   rw [List.drop_drop] at hx2
   rw [hb,if_pos rfl] at hm
   subst hm
   exact ⟨x2,hx2,⟨fun _=>ec2,fun e=>absurd e.symm Bool.false_ne_true⟩⟩
  | false=>
   rw [hb] at hm
   obtain rfl:m=1:=by simpa using hm
   exact ⟨x1,hx1,⟨fun e=>absurd e Bool.false_ne_true,fun _=>rfl⟩⟩
 have hsm:=hs.drop m
 have hlm:(es.drop m).length=ps.length - m:=by rw [List.length_drop,hlen]
 have hw1:IntKind.wrap .i64 (((es.drop m).length:Int) - 2)=((ps.length - m - 2:Nat):Int):=by rw [wrap_i64 (by omega) (by omega)];omega
 have hw2:IntKind.wrap .i64 (((es.drop m).length:Int) - 1)=((ps.length - m - 1:Nat):Int):=by rw [wrap_i64 (by omega) (by omega)];omega
 obtain ⟨xp,hxp,ecp⟩:=Im (k:=ps.length - m - 2) hxm (by omega)
 have hsp:=hsm.take (ps.length - m - 2)
 obtain ⟨a2,b2,s2,y2,hP2,_,⟨g2,hy2⟩,e2⟩:=fM hxm hsm (i:=ps.length - m - 1) (p:=pe) (by rw [List.getElem?_drop,show m+(ps.length - m - 1)=ps.length - 1 by omega];exact he)
 obtain ⟨u,eu,hu⟩:=hE _ hP2
 obtain ⟨k,sp,rc,nm,qs,ls,x3,gs,y3,fs,hq,rfl,hx3,hq3,hy3,hl3,hfew⟩:=gv hu
 refine ad.bare rfl (ad.step (Mw _) ?_)
 unfold g12
 refine ad.step (ec1 _) ?_
 generalize hS0:(St.mk 2 0 _:St)=st0
 have w0:Vw st0 (PU false .aq 0 (0,0) false [] .aq .aq):=by
  rw [← hS0]
  refine ⟨fun q hq=> ?_,by show ([1,0]:List Nat).Nodup;decide,Nat.zero_le _⟩
  simp only [List.mem_cons,List.mem_nil_iff,or_false] at hq
  rcases hq with rfl | rfl <;> (refine ⟨?_,Nat.zero_le _⟩;dsimp only;rfl)
 refine ad.bind (R:=fun c=>c=([.bool (isRec p1.2)],st0)) ?_ ?_
 ·refine ad.step (e1 _ _) ?_
  simp only [kU,List.drop_succ_cons,List.drop_zero,bL,bU,al,aj,show ((b1:Int)==3)=(b1==3) from dz b1 3]
  cases hb:b1==3 with
  | false=>
   refine ad.step (aB _ _) (ad.some ?_)
   rw [hrec,hb];rfl
  | true=>
   refine ad.step (aH _ _) (ad.step (e1 _ _) ?_)
   simp only [kU,List.drop_succ_cons,List.drop_zero,bL,bU,al,az]
   refine ad.some ?_
   rw [hrec,hb];rfl
 rintro c rfl
 simp only [ag,aC,ah]
 refine ad.bind (R:=fun c=> ∃s,c=([xm],s)∧Vw s (PU (isRec p1.2) .aq 0 (0,0) false [] .aq .aq)) ?_ ?_
 ·cases hb:isRec p1.2 with
  | false=>
   rw [hb] at ecm
   refine ad.step (aB _ _) (ad.some ⟨st0,by rw [ecm.2 rfl],w0⟩)
  | true=>
   rw [hb] at ecm
   refine ad.step (aH _ _) (ad.Be [] w0 (Nat.le_of_ble_eq_true rfl) fun s _ _ w=>ad.step (ecm.1 rfl _) (ad.some ⟨s,rfl,w⟩))
 rintro c ⟨s,rfl,w0⟩
 simp only [ag,ah,hxm.len,aY,hw1,hw2,ecp]
 refine ad.iD (vL hxp hsp (by rw [List.length_take,List.length_drop];omega) hp s w0.ro) rfl (qG _) ?_
 rintro v s2 ⟨ws,w,hw⟩
 have w:Vo s2 (PU (isRec p1.2) .aq 0 (0,0) false [] .aq .aq) 6 sc v ws:=⟨w0.keeps w.k fun _ _ f=>f,w.o⟩
 have hap:apart ⟨[],.all s s2⟩ ⟨[],.kept⟩=true:=rfl
 simp only [hap,Bool.and_self,bf,e2,bL,gd,al,aL,ag,aj,az,ah,gZ hP2 rfl eu,aC,gH,ga,hx3.af,hy3.af]
 refine ad.one w.o.one (ad.one w.o.one (ad.lL [] w (Nat.le_of_ble_eq_true rfl) fun s3 o3 _ w=>ad.lL [] w (Nat.le_of_ble_eq_true rfl) fun s4 o4 _ w=> ?_))
 have w:Vo s4 (PU (isRec p1.2) v k sp rc nm x3 y3) 6 sc v ws:=w
 have hpl:=hw.len
 rw [List.length_map,List.length_take,List.length_drop] at hpl
 have hws: ∃q qs2,vp m ps=q::qs2:=by
  have h1:(vp m ps).length≠0:=by unfold vp;rw [List.length_map,List.length_take,List.length_drop];omega
  cases hq:vp m ps with
  | nil=>rw [hq] at h1;exact absurd rfl h1
  | cons q l=>exact ⟨q,l,rfl⟩
 obtain ⟨q0,qs2,hb0⟩:=hws
 have hw:cu (vp m ps) ws:=hw
 refine ad.bind (R:=fun c=> ∃s,c=([],s)∧Vo s (PU (isRec p1.2&&xH (vp m ps)) v k sp rc nm x3 y3) 6 sc v ws) ?_ ?_
 ·refine ad.gm List.mem_cons_self w.w rfl (ad.step (aC _ _) ?_)
  cases hb:isRec p1.2 with
  | false=>
   refine ad.step (aB _ _) (ad.lL [] w (Nat.le_of_ble_eq_true rfl) fun s5 o5 _ w=>ad.some ⟨s5,rfl,w⟩)
  | true=>
   refine ad.step (aH _ _) (ad.gm List.mem_cons_self w.w rfl ?_)
   rw [hb0] at hw
   have hw':=hw
   simp only [cu] at hw'
   obtain ⟨u0,us,rfl,hu0,_⟩:=hw'
   obtain ⟨k5,lit5,sp5,nm5,qs5,y5,fs5,hq5,rfl,hy5,hs5⟩:=gJ hu0
   refine ad.step (Ag w.o (k:=0) rfl _ _) ?_
   simp only [jx,kU,List.drop_zero,bL,bU,al,aj,show ((k5:Int)==15)=(k5==15) from dz k5 15]
   have hnm:xH (vp m ps)=(k5==15):=by rw [hb0,hq5];rfl
   rw [← hnm]
   exact ad.lL [] w (Nat.le_of_ble_eq_true rfl) fun s5 o5 _ w=>ad.some ⟨s5,rfl,w⟩
 rintro c ⟨s5,rfl,w⟩
 refine ad.step (ah _) (ad.gY List.mem_cons_self w.w rfl ?_)
 simp only [aL,ag,aj,aC,az,ah,hx3.af,hy3.af]
 refine ad.one w.o.one (ad.lL [_] w (Nat.le_of_ble_eq_true rfl) fun s6 o6 _ w=>ad.gY (List.mem_cons_of_mem _ List.mem_cons_self) w.w rfl ?_)
 show ad (ui (.agg (po (0,0) (isRec p1.2&&xH (vp m ps)) v k sp rc nm x3 y3)) _) _
 simp only [aL,ag,aj,aC,az,ah]
 obtain ⟨v',hv',hf'⟩:=rY w.o
 refine ad.step (Kd hv' hx3 hy3 hf' (fun n=>xa hx3 _ 0 (n+1) (by omega)) (fun n=>xa hy3 _ 0 (n+1) (by omega)) (0,0) _ k sp rc nm _) (ad.some ?_)
 exact ⟨v',ws,eF k sp rc nm x3 y3,rfl,hv',hw,by rw [show bW pe.1 pe.2= _ from hq];exact uu hx3 hq3 hy3 hl3 hfew⟩
theorem Bw {d:Bd} {v:AV} (h:Nk d v) (hs:d.sp=(0,0)): ∃z a k sp rc nm ps ls x es y fs,v= .agg (po (0,0) d.rc z k sp rc nm x y)∧bl 6 z a∧cu d.ps a∧d.body= .mk k sp rc nm ps ls∧bl 6 x es∧cu ps es∧bl 7 y fs∧dO ls fs∧ps.length≤100000000:=by
 obtain ⟨z,a,be,rfl,hz,ha,hb⟩:=h
 obtain ⟨k,sp,rc,nm,ps,ls,x,es,y,fs,hq,e,hx,hp,hy,hl,hn⟩:=gv hb
 injection e with e
 subst e
 rw [hs]
 exact ⟨z,a,k,sp,rc,nm,ps,ls,x,es,y,fs,rfl,hz,ha,hq,hx,hp,hy,hl,hn⟩
theorem M4 {st:St} {z:Nat} {x:AV} {ws:List AV} (h:bl z x ws):Ma st z x ws:=⟨h.one,fun _ _=>⟨x,h,fun n=>xa h _ 0 (n+1) (by omega)⟩⟩
theorem Jf {st:St} {z k:Nat} {ws:List AV} (h:ws.length≤9223372036854775807):Ma st z (.sl z ws (.own k)) ws:=⟨rfl,fun _ _=>⟨.sl z ws .wide,bl.wide h,fun _=>rfl⟩⟩
theorem Jc {F:FuncId} {z:Nat} {x:AV} {es:List AV} (hx:bl z x es) {v:AV} (h:(aG vE).bare F [x]=some v) (hf:vE.full F=false) {γ:Type} (st:St) (K:Kv γ):ak (aG vE) F [x] st K=K v st q0:=
 bj st K hf (by simp only [List.map_cons,List.map_nil,hx.strip]) (by simp only [bg,hx.bare];rfl) h
theorem I1 {a b:Nat} (h:a≠b) (o:VM.Obj):apart ⟨[a],.kept⟩ ⟨[],.made b o⟩=true:=by
 show (![a].contains b)=true
 simp [h.symm]
section
variable {st:St} {S:Sp} {x:AV} {es:List AV} (w0:Vw st (sk 0 S false [] .aq .aq)) (hx:bl 5 x es)
include w0 hx
theorem RO {bs:List (Nat×T)} {pi px p1 pe:Nat×T} {m:Nat} (hs:fW kW (bs++[pi]++[px]) es) (hn:bs.length < 100000000) (h1:bs[1]? =some p1) (hm:m=if isRec p1.2=true then 2 else 1) (hl:m+3≤bs.length)
  (hp: ∀p∈(bs.drop m).take (bs.length - m - 2),nC p) (he:bs[bs.length - 1]? =some pe) (hE:eZ pe) (hX:eZ px):ad ((aG vE).wide 69 [.mp 1 0,x] st) (yr S 14 (isRec p1.2&&xH (vp m bs)) [] (vp m bs) [bW pe.1 pe.2,bW px.1 px.2]):=by
 have hlen:es.length=bs.length+2:=by have:=hs.len;simpa using this
 have hxl:=hx.1
 have hlx:(bs++[pi]++[px])[bs.length+1]? =some px:=by
  rw [List.getElem?_append_right (by simp)]
  simp
 obtain ⟨a1,b1,s1,y1,hP1,_,⟨g1,hy1⟩,e1⟩:=fM hx hs (i:=bs.length+1) hlx
 have hw1:IntKind.wrap .i64 ((es.length:Int) - 2)=((bs.length:Nat):Int):=by rw [wrap_i64 (by omega) (by omega)];omega
 have hw2:IntKind.wrap .i64 ((es.length:Int) - 1)=((bs.length+1:Nat):Int):=by rw [wrap_i64 (by omega) (by omega)];omega
 obtain ⟨x',hx',ec⟩:=Im (k:=bs.length) hx (by omega)
 have hs':=hs.take bs.length
 have hcut:(bs++[pi]++[px]).take bs.length=bs:=by rw [List.append_assoc,List.take_left'];rfl
 rw [hcut] at hs'
 obtain ⟨v,eb,hv⟩:=xe hx' hs' (by omega) h1 hm hl hp he hE
 obtain ⟨z,a,k,sp,rc,nm,ps,ls,x3,es3,y3,fs3,rfl,hz,ha,hbody,hx3,hp3,hy3,hl3,hn3⟩:=Bw hv rfl
 obtain ⟨u,eu,hu⟩:=hX _ hP1
 obtain ⟨k4,sp4,rc4,nm4,ps4,ls4,x4,es4,y4,fs4,hq4,rfl,hx4,hp4,hy4,hl4,hn4⟩:=gv hu
 refine ad.wide (ad.step (N4 _ _ _) ?_)
 simp only [R7,hx.len,aY,hw1,hw2,ec]
 refine ad.step (Jc hx' eb rfl _ _) ?_
 simp only [aL,ag,aj,aC,az,ah]
 have hh:2≤st.h:=by
  have:=(St.bM.1 (w0.get (List.mem_cons_self))).1
  omega
 have w0:Vo st (sk 0 S false [] .aq .aq) 7 rB .aq []:=⟨w0,iN.aq w0.ro _ _⟩
 show ad (bP (st.add (.cells Hr QZ)) _) _
 have w1:Vo (st.add (.cells Hr QZ)) ((st.h,Hr,QZ)::sk 0 S false [] .aq .aq) 7 rB .aq []:=⟨w0.w.alloc _ _,iN.aq (Nat.le_succ_of_le w0.w.ro) _ _⟩
 refine ad.step (fo _ _) (ad.one hz.one (ad.one hx3.one (ad.one hy3.one (ad.lL [] w1 (Nat.le_of_ble_eq_true rfl) fun s2 o2 hh2 w2=> ?_))))
 have w2:Vo s2 ((st.h,Hr,po (0,0) (isRec p1.2&&xH (vp m bs)) z k sp rc nm x3 y3)::sk 0 S false [] .aq .aq) 7 rB .aq []:=w2
 refine ad.gm List.mem_cons_self w2.w rfl (ad.step (aC _ _) (ad.gm List.mem_cons_self w2.w rfl ?_))
 refine ad.step (bF (w2.w.get List.mem_cons_self) _ _ _ _) ?_
 simp only [po,List.drop_succ_cons,List.drop_zero,qy,al,aL,ag,aj,aC,az,ah,hx3.af,hx3.aV,hy3.af,hy3.aV,e1,bL,gd,gZ hP1 rfl eu,gH,ga,Bool.and_self,bf,hx4.af,hx4.aV,hy4.af,hy4.aV]
 have hlt:st.h < s2.h:=by
  rw [hh2];exact Nat.lt_succ_self _
 have w3:Vo (s2.add (VM.Obj.tok 2 rB)) ((st.h,Hr,po (0,0) (isRec p1.2&&xH (vp m bs)) z k sp rc nm x3 y3)::sk 0 S false [] .aq .aq) 7 rB .aq []:=⟨w2.w.keeps (ba.add _ _ (fun _=>False)) (fun _ _ f=>f),iN.aq (Nat.le_succ_of_le w2.w.ro) _ _⟩
 have hne:st.h≠1:=by omega
 have am:=fun o=>I1 (show st.h≠s2.h by omega) o
 have aw: ∀o,apart ⟨[st.h],.kept⟩ ⟨[1],.wrote 1 o⟩=true:=fun o=>pf hne
 refine ad.step (fo _ _) ?_
 show ad (cQ (apart ⟨[st.h],.kept⟩ ⟨[],.made s2.h (VM.Obj.tok 2 rB)⟩&&(apart ⟨[st.h],.kept⟩ ⟨[],.made s2.h (VM.Obj.tok 2 rB)⟩&&true)) _) _
 simp only [am,Bool.and_self,bf,dv,di,Nat.zero_add]
 refine ad.lL [_] w3 (Nat.le_of_ble_eq_true rfl) fun s5 o5 _ w=> ?_
 simp only [aw,oG,Bool.and_self,bf]
 refine ad.lL [_] w (Nat.le_of_ble_eq_true rfl) fun s6 o6 _ w=> ?_
 simp only [aw,oG,Bool.and_self,bf,hz.af]
 refine ad.lL [_] w (Nat.le_of_ble_eq_true rfl) fun s7 o7 _ w=> ?_
 simp only [oG,Bool.and_self,bf]
 refine ad.lL [_] w (Nat.le_of_ble_eq_true rfl) fun s8 o8 _ w=>ad.some ⟨rfl,z,a,.sl 7 [.agg (eF k sp rc nm x3 y3),.agg (eF k4 sp4 rc4 nm4 x4 y4)] (.own s2.h),_,w.w.sub (List.sublist_cons_self _ _),M4 hz,Jf (Nat.le_of_ble_eq_true rfl),ha, ?_,fun e=>by cases e⟩
 rw [show bW pe.1 pe.2= _ from hbody,hq4]
 exact dO.cons (uu hx3 hp3 hy3 hl3 hn3) (dO.cons (uu hx4 hp4 hy4 hl4 hn4) dO.nil)
end
abbrev Sf:TI:=TI.mk (U.struct [(0,5),(1,5),(2,30),(4,9),(5,31)]) 6 64 z6 true true
abbrev Sz:TI:=TI.mk (U.struct [(0,5),(1,30),(3,4),(4,9),(5,31),(6,32)]) 7 96 z7 true true
theorem Ny {n:Nat} (h:n≤1000000000):cO n Sf=true:=by
 simp only [cO,gz (show n * 64≤70368744177664 by omega),gz (show n≤70368744177664 by omega)];rfl
theorem OL {n:Nat} (h:n≤1000000000):cO n Sz=true:=by
 simp only [cO,gz (show n * 96≤70368744177664 by omega),gz (show n≤70368744177664 by omega)];rfl
structure Vg (st:St) (l:ub) (X:AV) (ws:List AV) (Y:AV) (fs:List AV):Prop where
 w:Vw st l
 p:oX st 6 sc X ws
 a:oX st 7 rB Y fs
section
variable {β:Type} {Q:β→Prop} {st:St} {l:ub} {X Y:AV} {ws fs:List AV}
theorem ad.OU (w:Vg st l X ws Y fs) {ty:TypeId} {cs:List AV} {K:St→Option β} (g: ∀s,s.h=st.h+1→Vg s ((st.h,ty,cs)::l) X ws Y fs→ad (K s) Q):ad (bP (st.add (.cells ty cs)) K) Q:=
 g _ rfl ⟨w.w.alloc ty cs,w.p.keeps (ba.add _ _ _),w.a.keeps (ba.add _ _ _)⟩
theorem ad.P6 {O:qJ} (l1:ub) {l2:ub} {a:Nat} {ty:TypeId} {old:List AV} (w:Vg st (l1++(a,ty,old)::l2) X ws Y fs) {off y:Nat} {u:AV} {cs:List AV} {K:Kv β} (hl:off+cs.length≤old.length)
  (g: ∀s o,s.h=st.h→Vg s (l1++(a,ty,cF old off cs)::l2) X ws Y fs→ad (K VM.undef s ⟨[a],.wrote a o⟩) Q) (hc:cs.length=y:=by rfl):ad (ao O y (.mp a off) u cs st K) Q:=by
 have hm:(a,ty,old)∈l1++(a,ty,old)::l2:=List.mem_append_right _ List.mem_cons_self
 have hg:=w.w.get hm
 exact ad.step (dw hg hc hl (w.w.v _ hm).2 K) (g _ _ rfl ⟨w.w.putAt _,w.p.put hg,w.a.put hg⟩)
theorem vV {s:St} {k n z n' z':Nat} {e:TypeId} {es es':List AV} (h:ky st s e) (hg:s.get k= .ok (.grow n e z es)):ky st (s.put k (.grow n' e z' es')) e:=
 ⟨h.ro,h.h,fun j o h1 h2 hj=>by
  have hj':=h.old j o h1 h2 hj
  have:k≠j:=by rintro rfl;rw [hg] at hj';cases hj';exact h2 _ _ _ rfl
  rw [St.aU this];exact hj'⟩
theorem H0 {z:Nat} {e:TypeId} {x:AV} (h:oX st z e x ws) (hl:ws.length≤9223372036854775807) (h0: ∃t cs,st.get 0= .ok (.cells t cs)) (h1: ∃t cs,st.get 1= .ok (.cells t cs)):Ma st z x ws:=by
 refine ⟨h.one,fun st' hst=> ?_⟩
 rcases h with ⟨rfl,rfl⟩ | rfl | ⟨k,rfl,_⟩ | ⟨k,rfl,hg,_⟩
 ·exact ⟨.aq,bl.aq,fun _=>rfl⟩
 ·exact ⟨.sl z ws .shut,bl.shut hl,fun _=>rfl⟩
 ·exact ⟨.sl z ws .wide,bl.wide hl,fun _=>rfl⟩
 ·have hk:2≤k:=by
   obtain ⟨t,cs,h0⟩:=h0
   obtain ⟨t',cs',h1⟩:=h1
   have a0:k≠0:=by rintro rfl;rw [h0] at hg;cases hg
   have a1:k≠1:=by rintro rfl;rw [h1] at hg;cases hg
   omega
  have hg':=hst k _ hk hg
  refine ⟨.sl z ws .wide,bl.wide hl,fun n=> ?_⟩
  have hb:((ws.length).beq ws.length&&(ws.length).beq ws.length&&z.beq z)=true:=by simp
  have h0:k.blt 0=false:=cL.2 (Nat.zero_le _)
  show (match k.blt 0 with
   | true=>Except.ok (AV.gs k z ws.length)
   | false=>do
    match ← st'.get k with
    | .grow m _ z' es=>match ((ws.length).beq m&&(ws.length).beq es.length)&&z'.beq z with
     | true=> .ok (.sl z es .wide)
     | false=> .error "freeze: an elder slice"
    | _=> .error "freeze: what?")= _
  rw [h0,hg']
  simp only [au,hb]
end
theorem I2 {a b:Nat} (h:a≠b):a.beq b=false:=by
 cases e:a.beq b with
 | true=>exact absurd (Nat.eq_of_beq_eq_true e) h
 | false=>rfl
theorem LH {k lit:Nat} {sp:Sp} {nm:List UInt8} {x:AV} {es:List AV} (h:bl 6 x es):VM.fit (.agg (qM k lit sp nm x))= .ok (.agg (qM k lit sp nm x))∧eW (qM k lit sp nm x)=true:=by
 refine ⟨?_,by simp only [qM,eW,h.one];rfl⟩
 show (match VM.bare (.agg [.int .u8 (k:Int),.int .u8 (lit:Int),.int .i64 sp.1,.int .i64 sp.2,.str nm,strip x]) with
  | true=>Except.ok (AV.agg [.int .u8 (k:Int),.int .u8 (lit:Int),.int .i64 sp.1,.int .i64 sp.2,.str nm,strip x])
  | false=> .error "a name within what never changes")= _
 rw [h.strip,ny]
 simp only [bg,h.bare]
 rfl
theorem Ih {k:Nat} {sp:Sp} {rc:Bool} {nm:List UInt8} {x y:AV} {es fs:List AV} (h:bl 6 x es) (h':bl 7 y fs):VM.fit (.agg (eF k sp rc nm x y))= .ok (.agg (eF k sp rc nm x y))∧eW (eF k sp rc nm x y)=true:=by
 refine ⟨?_,by simp only [eF,eW,h.one,h'.one];rfl⟩
 show (match VM.bare (.agg [.int .u8 (k:Int),.int .i64 sp.1,.int .i64 sp.2,.bool rc,.str nm,strip x,strip y]) with
  | true=>Except.ok (AV.agg [.int .u8 (k:Int),.int .i64 sp.1,.int .i64 sp.2,.bool rc,.str nm,strip x,strip y])
  | false=> .error "a name within what never changes")= _
 rw [h.strip,h'.strip,ny]
 simp only [bg,h.bare,h'.bare]
 rfl
def H5 (p:Nat×T):Prop:= ∀tk tx l,p.2= .mk 10 tk tx l→l.length < 1000000000∧p.1+(bo l).length≤1000000000000∧ ∃q0 q1 q2,bH p.1 l=[q0,q1,q2]∧nC q0∧eZ q2
def mP (p:Nat×T):List (ij×iT):=A8 p.1 p.2
theorem Ke {p:Nat×T} {k tk:Nat} {tx:List UInt8} {l:List T} (h:p.2= .mk k tk tx l) (hk:k≠10):mP p=[]:=by
 unfold mP
 rw [h,A8,if_neg hk]
theorem II {p q0 q1 q2:Nat×T} {tk:Nat} {tx:List UInt8} {l:List T} (h:p.2= .mk 10 tk tx l) (hq:bH p.1 l=[q0,q1,q2]):mP p=[(gC q0.1 q0.2,bW q2.1 q2.2)]:=by
 unfold mP
 rw [h,A8,if_pos rfl,lR,fR,hq]
 rfl
theorem yR: ∀(l:List T) (a:Nat),sn a l=(bH a l).flatMap mP
 | [],_=>rfl
 | t::l,a=>by rw [sn,bH,List.flatMap_cons,yR l];rfl
section
variable {st:St} {S:Sp} {x:AV} {es:List AV} (w0:Vw st (sk 0 S false [] .aq .aq)) (hx:bl 5 x es)
include w0 hx
theorem Q7 {ps:List (Nat×T)} {p1:Nat×T} (hs:fW kW ps es) (hn:ps.length < 100000000) (h1:ps[1]? =some p1) (hE:eZ p1) (hA: ∀p∈ps,H5 p):
  ad ((aG vE).wide 70 [.mp 1 0,x] st) (yr S 13 false [] ((ps.flatMap mP).map (·.1)) (bW p1.1 p1.2::(ps.flatMap mP).map (·.2))):=by
 have hlen:=hs.len
 have hxl:=hx.1
 obtain ⟨a1,b1,s1,y1,hP1,_,⟨g1,hy1⟩,e1⟩:=fM hx hs (i:=1) h1
 have e1: ∀{β:Type} (st:St) (K:AV→List Nat→Option β),bZ 5 x 1 st K= _:=e1
 refine ad.wide (ad.step (OW _ _ _) ?_)
 simp only [Se,e1,bL,gd,al,aL,ag,aj,az,ah,hy1.af,hy1.aV]
 refine ad.iD (kh (bl.shut (Nat.le_of_ble_eq_true rfl)) (Fv hP1) (Nat.le_of_ble_eq_true rfl) (fun p hp=>by
  rcases List.mem_cons.1 hp with rfl | hp
  ·exact hE
  ·cases hp) st w0.ro) rfl (gK _) ?_
 rintro v s ⟨fs0,w,hw⟩
 have hfl:fs0.length=1:=by have:=hw.len;simpa using this
 have hga:oX s 7 rB v fs0:=by
  rcases w.o.2.2 with ⟨_,rfl⟩ | h | ⟨k,h1,h2,h3⟩
  ·cases hfl
  ·exact .inr (.inl h)
  ·exact .inr (.inr (.inl ⟨k,h1,h2,h3⟩))
 have w2:Vg s (sk 0 S false [] .aq .aq) .aq [] v fs0:=⟨w0.keeps w.k fun _ _ f=>f,.inl ⟨rfl,rfl⟩,hga⟩
 simp only [dv,bf,di,Nat.zero_add]
 refine ad.P6 [] w2 (Nat.le_of_ble_eq_true rfl) fun s3 o3 _ w2=>ad.one w2.a.one (ad.one w2.a.one (ad.P6 [] w2 (Nat.le_of_ble_eq_true rfl) fun s4 o4 _ w2=> ?_))
 have w2:Vg s4 (sk 13 S false [] .aq v) .aq [] v fs0:=w2
 refine ad.step (hx.len _) ?_
 refine ad.bind (R:=fun c=> ∃s X ws Y fs,c=(0,[],s)∧Vg s (sk 13 S false [] X Y) X ws Y fs∧cu ((ps.flatMap mP).map (·.1)) ws∧dO (bW p1.1 p1.2::(ps.flatMap mP).map (·.2)) fs∧ws.length≤ps.length∧fs.length≤ps.length+1) ?_ ?_
 ·refine ad.upto (n:=es.length) (I:=fun i c=> ∃s X ws Y fs,c=([.int .i64 (i:Int)],s)∧Vg s (sk 13 S false [] X Y) X ws Y fs∧cu (((ps.take i).flatMap mP).map (·.1)) ws∧dO (bW p1.1 p1.2::((ps.take i).flatMap mP).map (·.2)) fs∧ws.length≤i∧fs.length≤i+1) ?_ ?_ es.length 0 _ (by omega) ⟨s4,.aq,[],v,fs0,rfl,w2,by simpa using cu.nil,by simpa using hw,Nat.le_refl _,by omega⟩
  ·rintro i c hi ⟨s,X,ws,Y,fs,rfl,w,hws,hfs,lw,lf⟩
   have hlt:i < ps.length:=by omega
   obtain ⟨a2,b2,tx2,y2,hP2,_,⟨g2,hy2⟩,e2⟩:=fM hx hs (i:=i) (List.getElem?_eq_getElem hlt)
   have hpk: ∃l2,ps[i].2= .mk a2 b2 tx2 l2:=by
    obtain ⟨a,b,s,y,e,hN⟩:=hP2
    obtain ⟨l,gs,ht,_,_⟩:=kK hN
    injection e with e
    have q1:=(List.cons.inj e).1
    have q2:=(List.cons.inj e).2
    have q3:=(List.cons.inj q2).1
    have q4:=(List.cons.inj (List.cons.inj q2).2).1
    simp only [AV.int.injEq,true_and,AV.str.injEq] at q1 q3 q4
    obtain rfl:a2=a:=by omega
    obtain rfl:b2=b:=by omega
    subst q4
    exact ⟨l,ht⟩
   obtain ⟨l2,hpk⟩:=hpk
   have hh:2≤s.h:=by
    have:=(St.bM.1 (w.w.get (List.mem_cons_self))).1
    omega
   simp only [EE,ag,aj,ah,aF,if_pos (show (i:Int) < (es.length:Int) by omega),e2,bL,gd,al,aL,az]
   refine ad.OU w fun s5 _ w=>ad.one hy2.one (ad.P6 [] w (Nat.le_of_ble_eq_true rfl) fun s6 o6 _ w=>ad.gm List.mem_cons_self w.w rfl (ad.step (aj _ _ _) ?_))
   rw [show ((a2:Int)==10)=(a2==10) from dz a2 10]
   refine ad.bind (R:=fun c=> ∃s X ws Y fs,c=([],s)∧Vg s (sk 13 S false [] X Y) X ws Y fs∧cu (((ps.take (i+1)).flatMap mP).map (·.1)) ws∧dO (bW p1.1 p1.2::((ps.take (i+1)).flatMap mP).map (·.2)) fs∧ws.length≤i+1∧fs.length≤i+2) ?_ ?_
   ·rw [jy hlt,List.flatMap_append,List.map_append,List.map_append]
    by_cases hk:a2=10
    ·subst hk
     obtain ⟨h5,h6,q0,q1,q2,hq,hp0,he2⟩:=hA _ (List.getElem_mem hlt) _ _ _ hpk
     have harm:[ps[i]].flatMap mP=[(gC q0.1 q0.2,bW q2.1 q2.2)]:=by rw [List.flatMap_cons,List.flatMap_nil,List.append_nil,II hpk hq]
     rw [harm]
     obtain ⟨z,zs,epz,hz,hzs⟩:=pb (a:=ps[i].1) (k:=10) (tk:=b2) (tx:=tx2) (l:=l2) (by rw [← hpk];exact hP2) h6 h5
     rw [hq] at hzs
     obtain ⟨a7,b7,s7,y7,hP7,_,⟨g7,hy7⟩,e7⟩:=fM hz hzs (i:=0) rfl
     obtain ⟨a9,b9,s9,y9,hP9,_,⟨g9,hy9⟩,e9⟩:=fM hz hzs (i:=2) rfl
     have e7: ∀{β:Type} (st:St) (K:AV→List Nat→Option β),bZ 5 z 0 st K= _:=e7
     have e9: ∀{β:Type} (st:St) (K:AV→List Nat→Option β),bZ 5 z 2 st K= _:=e9
     obtain ⟨u,eu,hu⟩:=hp0 _ hP7
     obtain ⟨u2,eu2,hu2⟩:=he2 _ hP9
     obtain ⟨k3,lit3,sp3,nm3,qs3,y3,fs3,hq3,rfl,hy3,hs3⟩:=gJ hu
     obtain ⟨k4,sp4,rc4,nm4,ps4,ls4,x4,es4,y4,fs4,hq4,rfl,hx4,hp4,hy4,hl4,hn4⟩:=gv hu2
     have hP2':kW (ps[i].1,.mk 10 b2 tx2 l2) (.agg [.int .u8 ((10:Nat):Int),.int .u8 (b2:Int),.str tx2,y2,.int .i64 (ps[i].1:Int)]):=by rw [← hpk];exact hP2
     refine ad.step (aH _ _) (ad.gY List.mem_cons_self w.w rfl ?_)
     show ad (ui (.agg [_,_,_,_,_]) _) _
     simp only [aL,ag,aj,az,ah]
     refine ad.step (gZ hP2' rfl epz s6 _) ?_
     simp only [dv,bf,di,Nat.zero_add]
     refine ad.gm (List.mem_cons_of_mem _ List.mem_cons_self) w.w rfl ?_
     simp only [e7,bL,gd,al,aL,ag,aj,az,ah,gZ hP7 rfl eu,gH,ga,Bool.and_self,bf,w.p.len]
     obtain ⟨k,t1,x1,ep,gk,rk,kk,nk⟩:=BA (O:=aG vE) (i:=Sf) (u:= .agg z6) w.p w.w.ro rfl rfl rfl rfl (Ny (by omega))
     obtain ⟨fp,op⟩:=LH (k:=k3) (lit:=lit3) (sp:=sp3) (nm:=nm3) hy3
     refine ad.step (ep _) (ad.step (IE gk rfl _) (ad.one hy3.one (ad.step (Bt (v:= .agg (qM k3 lit3 sp3 nm3 y3)) gk rfl rk rfl op fp _) ?_)))
     have kp:=vV (n':=ws.length+1) (z':=6) (es':=ws++[.agg (qM k3 lit3 sp3 nm3 y3)]) kk gk
     have w9:Vg (t1.put k (.grow (ws.length+1) sc 6 (ws++[.agg (qM k3 lit3 sp3 nm3 y3)]))) ((s.h,50,[.int .u8 ((10:Nat):Int),.int .u8 (b2:Int),.str tx2,y2,.int .i64 (ps[i].1:Int)])::sk 13 S false [] X Y) (.gs k 6 (ws.length+1)) (ws++[.agg (qM k3 lit3 sp3 nm3 y3)]) Y fs:=
      ⟨kp.vw w.w,.inr (.inr (.inr ⟨k,by rw [List.length_append];rfl,by rw [List.length_append];exact St.aR (St.bM.1 gk).1,rk⟩)),w.a.As kp (by decide)⟩
     have hk1:k≠1:=(nk 1 _ _ (w.w.get (List.mem_cons_of_mem _ List.mem_cons_self))).symm
     have aw1: ∀o o',apart ⟨[k],.wrote k o⟩ ⟨[1],.wrote 1 o'⟩=true:=fun o o'=>by
      show (!k.beq 1&& ![1].contains k&& ![k].contains 1)=true
      have:k.beq 1=false:=I2 hk1
      simp [this,hk1,hk1.symm]
     have aw2: ∀o',apart ⟨[k],.kept⟩ ⟨[1],.wrote 1 o'⟩=true:=fun o'=>pf hk1
     have aw3: ∀o,apart ⟨[k],.wrote k o⟩ ⟨[],.kept⟩=true:=fun o=>rfl
     simp only [aw3,Bool.and_self,bf]
     refine ad.one rfl (ad.one rfl (ad.P6 [_] w9 (Nat.le_of_ble_eq_true rfl) fun s9 o9 _ w=> ?_))
     simp only [aw1,aw2,Bool.and_self,bf]
     refine ad.gm (List.mem_cons_of_mem _ List.mem_cons_self) w.w rfl ?_
     simp only [e9,bL,gd,al,aL,ag,aj,aC,az,ah,gZ hP9 rfl eu2,gH,ga,Bool.and_self,bf,w.a.len]
     obtain ⟨j,t2,x2,ep2,gj,rj,kj,nj⟩:=BA (O:=aG vE) (i:=Sz) (u:= .agg z7) w.a w.w.ro rfl rfl rfl rfl (OL (by omega))
     obtain ⟨fp2,op2⟩:=Ih (k:=k4) (sp:=sp4) (rc:=rc4) (nm:=nm4) hx4 hy4
     refine ad.step (ep2 _) (ad.step (IE gj rfl _) (ad.one hx4.one (ad.one hy4.one (ad.step (Bt (v:= .agg (eF k4 sp4 rc4 nm4 x4 y4)) gj rfl rj rfl op2 fp2 _) ?_))))
     have kp2:=vV (n':=fs.length+1) (z':=7) (es':=fs++[.agg (eF k4 sp4 rc4 nm4 x4 y4)]) kj gj
     have w10:Vg (t2.put j (.grow (fs.length+1) rB 7 (fs++[.agg (eF k4 sp4 rc4 nm4 x4 y4)]))) ((s.h,50,[.int .u8 ((10:Nat):Int),.int .u8 (b2:Int),.str tx2,y2,.int .i64 (ps[i].1:Int)])::sk 13 S false [] (.gs k 6 (ws.length+1)) Y) (.gs k 6 (ws.length+1)) (ws++[.agg (qM k3 lit3 sp3 nm3 y3)]) (.gs j 7 (fs.length+1)) (fs++[.agg (eF k4 sp4 rc4 nm4 x4 y4)]):=
      ⟨kp2.vw w.w,w.p.As kp2 (by decide),.inr (.inr (.inr ⟨j,by rw [List.length_append];rfl,by rw [List.length_append];exact St.aR (St.bM.1 gj).1,rj⟩))⟩
     have hj1:j≠1:=(nj 1 _ _ (w.w.get (List.mem_cons_of_mem _ List.mem_cons_self))).symm
     have bw1: ∀o o',apart ⟨[j],.wrote j o⟩ ⟨[1],.wrote 1 o'⟩=true:=fun o o'=>by
      show (!j.beq 1&& ![1].contains j&& ![j].contains 1)=true
      have:j.beq 1=false:=I2 hj1
      simp [this,hj1,hj1.symm]
     have bw2: ∀o',apart ⟨[j],.kept⟩ ⟨[1],.wrote 1 o'⟩=true:=fun o'=>pf hj1
     have bw3: ∀o,apart ⟨[j],.wrote j o⟩ ⟨[],.kept⟩=true:=fun o=>rfl
     simp only [bw3,Bool.and_self,bf]
     refine ad.one rfl (ad.one rfl (ad.P6 [_] w10 (Nat.le_of_ble_eq_true rfl) fun s11 o11 _ w=> ?_))
     simp only [bw1,bw2,Bool.and_self,bf]
     refine ad.some ⟨s11,_,_,_,_,rfl,⟨w.w.sub (List.sublist_cons_self _ _),w.p,w.a⟩,ue hws hu, ?_,by rw [List.length_append];simp;omega,by rw [List.length_append];simp;omega⟩
     exact tQ (l:=bW p1.1 p1.2:: _) hfs hu2
    ·have harm:[ps[i]].flatMap mP=[]:=by rw [List.flatMap_cons,List.flatMap_nil,List.append_nil,Ke hpk hk]
     rw [harm,List.map_nil,List.map_nil,List.append_nil,List.append_nil,beq_eq_false_iff_ne.2 hk]
     exact ad.step (aB _ _) (ad.some ⟨s6,X,ws,Y,fs,rfl,⟨w.w.sub (List.sublist_cons_self _ _),w.p,w.a⟩,hws,hfs,by omega,by omega⟩)
   ·rintro c ⟨s,X,ws,Y,fs,rfl,w,hws,hfs,lw,lf⟩
    simp only [ah,aY,cH (show i+1≤9223372036854775807 by omega)]
    exact ad.inl ⟨s,X,ws,Y,fs,rfl,w,hws,hfs,by omega,by omega⟩
  ·rintro c ⟨s,X,ws,Y,fs,rfl,w,hws,hfs,lw,lf⟩
   simp only [EE,ag,aj,ah,aF,if_neg (show ¬ ((es.length:Nat):Int) < (es.length:Int) by omega)]
   rw [hlen,List.take_length] at hws hfs
   exact ad.inr ⟨s,X,ws,Y,fs,rfl,w,hws,hfs,by omega,by omega⟩
 ·rintro c ⟨s,X,ws,Y,fs,rfl,w,hws,hfs,lw,lf⟩
  have c1: ∃t cs,s.get 1= .ok (.cells t cs):=⟨_,_,w.w.get List.mem_cons_self⟩
  have c0: ∃t cs,s.get 0= .ok (.cells t cs):=⟨_,_,w.w.get (List.mem_cons_of_mem _ List.mem_cons_self)⟩
  exact ad.step (ah _) (ad.some ⟨rfl,X,ws,Y,fs,w.w,H0 w.p (by omega) c0 c1,H0 w.a (by omega) c0 c1,hws,hfs,fun e=>by cases e⟩)
end
abbrev EZ:AV:=AV.im [(AV.int .u8 14,AV.fn (Fn.func 61) [] []),(AV.int .u8 15,AV.fn (Fn.func 63) [] []),(AV.int .u8 13,AV.fn (Fn.func 64) [] []),(AV.int .u8 11,AV.fn (Fn.func 65) [] []),(AV.int .u8 12,AV.fn (Fn.func 66) [] []),(AV.int .u8 8,AV.fn (Fn.func 67) [] []),(AV.int .u8 7,AV.fn (Fn.func 68) [] []),(AV.int .u8 6,AV.fn (Fn.func 69) [] []),(AV.int .u8 9,AV.fn (Fn.func 70) [] [])]
theorem Lm:(aG vE).bare 44 []=some EZ:=br rfl Ol
theorem Gm {γ:Type} (st:St) (K:Kv γ):ak (aG vE) 44 [] st K=K EZ st q0:=bj st K rfl rfl rfl Lm
def oz (k F:Nat):Prop:=iO (Env.T vE) 87 EZ (.int .u8 (k:Int)) false= .ok (.val (.fn (.func F) [] []))
theorem Jo:oz 14 61:=by unfold oz;kernel_rfl
theorem Iv:oz 15 63:=by unfold oz;kernel_rfl
theorem MI:oz 13 64:=by unfold oz;kernel_rfl
theorem Ox:oz 11 65:=by unfold oz;kernel_rfl
theorem NT:oz 12 66:=by unfold oz;kernel_rfl
theorem Qw:oz 8 67:=by unfold oz;kernel_rfl
theorem QB:oz 7 68:=by unfold oz;kernel_rfl
theorem QL:oz 6 69:=by unfold oz;kernel_rfl
theorem PN:oz 9 70:=by unfold oz;kernel_rfl
theorem Fg {st:St} {x y x' y':AV} {b c:List AV} (hx:bl 6 x' b) (hy:bl 7 y' c) (fx: ∀n,VM.freeze st 0 (n+1) x= .ok x') (fy: ∀n,VM.freeze st 0 (n+1) y= .ok y') (k:Nat) (sp:Sp) (rc2:Bool) (nm:List UInt8) {β:Type} (K:AV→Option β):
  iL st 0 (.agg (eF k sp rc2 nm x y)) K=K (.agg (eF k sp rc2 nm x' y')):=by
 refine AY (bT (gF _ _ st 0 99 (by omega)) (bT (gF _ _ st 0 99 (by omega)) (bT (gF _ _ st 0 99 (by omega)) (bT (Aq _ st 0 99 (by omega)) (bT (AR _ st 0 99 (by omega)) (bT (fx 98) (bT (fy 98) sg))))))) ?_ K
 simp only [bg,hx.bare,hy.bare]
 rfl
theorem FJ {S:Sp} {Q:AV→Prop} {K:St→Option AV} {st:St} (hst:st=St.mk 2 0 (Tr.node (some (VM.Obj.cells rB z7)) (Tr.node (some (VM.Obj.cells rB z7)) Tr.leaf Tr.leaf) Tr.leaf)) (g: ∀s,Vw s (sk 0 S false [] .aq .aq)→ad (K s) Q):
  ad (ao (aG vE) 2 (.mp 1 1) (.agg [.int .i64 S.1,.int .i64 S.2]) [.int .i64 S.1,.int .i64 S.2] st fun _ s _=>K s) Q:=by
 have w0:Vo st [(1,rB,z7),(0,rB,z7)] 7 rB .aq []:=by
  rw [hst]
  refine ⟨⟨fun q hq=> ?_,by show ([1,0]:List Nat).Nodup;decide,Nat.zero_le _⟩,iN.aq (Nat.zero_le _) _ _⟩
  simp only [List.mem_cons,List.mem_nil_iff,or_false] at hq
  rcases hq with rfl | rfl <;> (refine ⟨?_,Nat.zero_le _⟩;dsimp only;rfl)
 exact ad.lL [] w0 (Nat.le_of_ble_eq_true rfl) fun s1 o1 _ w=>g s1 w.w
theorem Jd {st:St} {k:Nat} {S:Sp} {rc:Bool} {nm:List UInt8} {x y:AV} {ws fs:List AV} {P:List ij} {E:List iT} (w:Vw st (sk k S rc nm x y)) (hx:Ma st 6 x ws) (hy:Ma st 7 y fs) (hp:cu P ws) (he:dO E fs) (hn:P.length≤100000000) {k2:Nat} {S2:Sp} {rc2:Bool} {nm2:List UInt8} {x2 y2:AV} (e2:eF k2 S2 rc2 nm2 x2 y2=eF k S rc nm x y):
  ad (ao (aG vE) 7 (.mp 0 0) (.agg (eF k2 S2 rc2 nm2 x2 y2)) (eF k2 S2 rc2 nm2 x2 y2) st fun _ s _=>aA 7 true (.mp 0 0) s fun v _=>ui v fun l=>bK l fun v1 l=>bV .u8 v1 fun n1=>bK l fun v2 l=>bV .i64 v2 fun n2=>bK l fun v3 l=>bV .i64 v3 fun n3=>bK l fun v4 l=>du v4 fun b4=>bK l fun v5 l=>fY v5 fun l5=>bK l fun v6 l=>bK l fun v7 l=>cT l (iL s 0 (.agg [.int .u8 n1,.int .i64 n2,.int .i64 n3,.bool b4,.str l5,v6,v7]) fun v=>some v)) (uD (.mk k S rc nm P E)):=by
 rw [e2]
 have hm:=w.v _ (List.mem_cons_of_mem _ List.mem_cons_self)
 refine ad.step (dw (z:=7) (cs:=eF k S rc nm x y) (off:=0) (old:=z7) hm.1 rfl (Nat.le_of_ble_eq_true rfl) hm.2 _) (ad.step (bF (St.aR (St.bM.1 hm.1).1) _ _ _ _) ?_)
 have hsp:cF z7 0 (eF k S rc nm x y)=eF k S rc nm x y:=rfl
 rw [hsp]
 simp only [eF,List.drop_zero,qy,al,aL,ag,aj,aC,az,ah]
 have hst: ∀j o,2≤j→st.get j= .ok o→(st.put 0 (.cells rB (eF k S rc nm x y))).get j= .ok o:=fun j o hj hg=>by
  rw [St.aU (by omega)];exact hg
 obtain ⟨x',hx',fx⟩:=hx.fr _ hst
 obtain ⟨y',hy',fy⟩:=hy.fr _ hst
 exact ad.step (Fg hx' hy' fx fy k S rc nm _) (ad.some (uu hx' hp hy' he hn))
theorem BZ:apart q0 q0=true:=rfl
def pick (r:iT):List iT→iT
 | [e]=>e
 | _=>r
theorem fQ {a k F k2:Nat} {l:List T} {S:Sp} {rc:Bool} {nm:List UInt8} {P:List ij} {E:List iT} (hf:Fit (a,node k l)) (h1:k≠1) (h2:k≠2) (hS:mz a (node k l)=S) (look:oz k F) (hlook:vE.isLook F=false)
  (hcall: ∀(y:AV) (st:St) (K:Kv AV),jR (aG vE) (Sx.prim (sx vE 25)) (.fn (.func F) [] []) [.mp 1 0,y] st K=ak (aG vE) F [.mp 1 0,y] st K)
  (say: ∀(st:St) (x:AV) (es:List AV),Vw st (sk 0 S false [] .aq .aq)→bl 5 x es→fW kW (bH a l) es→ad ((aG vE).wide F [.mp 1 0,x] st) (yr S k2 rc nm P E)) (hP:P.length≤100000000) (h14:k=14→k2=6)
  (hres:bW a (node k l)=if k=14 then pick (.mk k2 S rc nm P E) E else .mk k2 S rc nm P E):eZ (a,node k l):=by
 rintro v hv
 obtain ⟨g1,g2,g3⟩:=hf.kids h1 h2
 have hsp:=vq hv (by have:=hf.t;omega)
 obtain ⟨x,es,epa,hx,hs⟩:=pb (a:=a) (k:=k) (tk:=0) (tx:=[]) (l:=l) hv (by omega) (by omega)
 have csp:=fun {γ:Type} (st:St) (K:Kv γ)=>gZ hv rfl hsp st K
 have cpa:=fun {γ:Type} (st:St) (K:Kv γ)=>gZ hv rfl epa st K
 obtain ⟨a1,b1,s1,y,rfl,hN⟩:=hv
 obtain ⟨l',es',ht',hy,hs'⟩:=kK hN
 cases ht'
 simp only [hS] at csp
 refine ad.bare rfl (ad.step (HJ _) ?_)
 simp only [RJ,aL,ag,aj,az,ah,hy.af,hy.aV]
 refine ad.step (csp _ _) ?_
 simp only [dj,bS,cA,aL,ag,aj,ah,aC]
 refine FJ rfl fun s w=> ?_
 rw [show ((k:Int)==1)=(k==1) from dz k 1,beq_eq_false_iff_ne.2 h1,show ((k:Int)==14)=(k==14) from dz k 14]
 refine ad.step (aB _ _) (ad.step (Gm _ _) ?_)
 have look:iO (Env.T vE) 87 EZ (.int .u8 (k:Int)) false= _:=look
 simp only [gH,ga,BZ,Bool.and_self,bf,look,Gt]
 refine ad.step (cpa _ _) ?_
 simp only [gH,ga,BZ,Bool.and_self,bf]
 refine ad.step (hcall _ _ _) ?_
 refine ad.iD (say s x es w hx hs) hlook rfl ?_
 rintro v2 s2 ⟨_,X,ws,Y,fs,w,sx,sy,hp,he,ho⟩
 by_cases hk:k=14
 ·subst hk
  obtain rfl:=h14 rfl
  rw [if_pos rfl] at hres
  have ho:=ho rfl
  have hel:=he.len
  refine ad.bind (R:=fun c=>c=([.bool ((fs.length:Int)==1)],s2)) (ad.step (aH _ _) (ad.gm List.mem_cons_self w rfl (ad.step (E1 ho _) (ad.some rfl)))) ?_
  rintro c rfl
  simp only [ag,aC,ah]
  by_cases hone:fs.length=1
  ·obtain ⟨e,rfl⟩:=List.length_eq_one_iff.1 (show E.length=1 by omega)
   simp only [dO] at he
   obtain ⟨u,us,rfl,hu,rfl⟩:=he
   obtain ⟨k4,sp4,rc4,nm4,ps4,ls4,x4,es4,y4,fs4,hq4,rfl,hx4,hp4,hy4,hl4,hn4⟩:=gv hu
   refine ad.step (aH _ _) (ad.gm List.mem_cons_self w rfl (ad.step (Ag ho (k:=0) rfl _ _) ?_))
   simp only [jx,bL,qy,al,aL,ag,aj,aC,az,ah,hx4.af,hy4.af]
   have hm:=w.v _ (List.mem_cons_of_mem _ List.mem_cons_self)
   refine ad.step (dw (z:=7) (cs:=eF k4 sp4 rc4 nm4 x4 y4) (off:=0) (old:=z7) hm.1 rfl (Nat.le_of_ble_eq_true rfl) hm.2 _) (ad.step (bF (St.aR (St.bM.1 hm.1).1) _ _ _ _) ?_)
   rw [show cF z7 0 (eF k4 sp4 rc4 nm4 x4 y4)=eF k4 sp4 rc4 nm4 x4 y4 from rfl]
   simp only [eF,List.drop_zero,qy,al,aL,ag,aj,aC,az,ah]
   refine ad.step (Fg hx4 hy4 (fun n=>xa hx4 _ 0 (n+1) (by omega)) (fun n=>xa hy4 _ 0 (n+1) (by omega)) k4 sp4 rc4 nm4 _) (ad.some ?_)
   show uD (bW a (node 14 l)) _
   rw [hres]
   show uD e _
   rw [hq4]
   exact uu hx4 hp4 hy4 hl4 hn4
  ·rw [show ((fs.length:Int)==1)=false by rw [beq_eq_false_iff_ne];omega]
   refine ad.step (aB _ _) (ad.gY List.mem_cons_self w rfl ?_)
   simp only [aL,ag,aj,aC,az,ah]
   refine ad.one sx.one (ad.one sy.one ?_)
   have hne:bW a (node 14 l)= .mk 6 S rc nm P E:=by
    rw [hres]
    match E,hel with
    | [],_=>rfl
    | [_],h=>exact absurd (h.trans rfl) hone
    | _:: _:: _,_=>rfl
   show ad _ (uD (bW a (node 14 l)))
   rw [hne]
   exact Jd w sx sy hp he hP rfl
 ·rw [if_neg hk] at hres
  refine ad.bind (R:=fun c=>c=([.bool false],s2)) (by rw [beq_eq_false_iff_ne.2 hk];exact ad.step (aB _ _) (ad.some rfl)) ?_
  rintro c rfl
  simp only [ag,aC,ah]
  refine ad.step (aB _ _) (ad.gY List.mem_cons_self w rfl ?_)
  simp only [aL,ag,aj,aC,az,ah]
  refine ad.one sx.one (ad.one sy.one ?_)
  show ad _ (uD (bW a (node k l)))
  rw [hres]
  exact Jd w sx sy hp he hP rfl
theorem F4 {a tk:Nat} {tx:List UInt8} {ks:List T} (hf:Fit (a,.mk 1 tk tx ks)) (ht:Tv hU ks) (hq:hU (tk,tx)):eZ (a,.mk 1 tk tx ks):=by
 rintro v hv
 obtain ⟨g1,g2,g3⟩:=C5 hf ht
 have hsp:=vq hv (by have:=hf.t;omega)
 have csp:=fun {γ:Type} (st:St) (K:Kv γ)=>gZ hv rfl hsp st K
 obtain ⟨a1,b1,s1,y,rfl,hN⟩:=hv
 obtain ⟨l',es',ht',hy,hs'⟩:=kK hN
 cases ht'
 have cl:=fun {γ:Type} (st:St) (K:Kv γ)=>bj (f:=43) st K rfl rfl rfl (FH hq g3)
 have hres:bW a (.mk 1 tk tx ks)= .mk (fS tk tx).1 (mz a (.mk 1 tk tx ks)) false (fS tk tx).2 [] []:=by rw [bW,nc,if_pos rfl]
 generalize hS:mz a (.mk 1 tk tx ks)=S at *
 refine ad.bare rfl (ad.step (HJ _) ?_)
 simp only [RJ,aL,ag,aj,az,ah,hy.af,hy.aV]
 refine ad.step (csp _ _) ?_
 simp only [dj,bS,cA,aL,ag,aj,ah,aC,hS]
 refine FJ rfl fun s w=> ?_
 refine ad.step (aH _ _) (ad.step (cl _ _) ?_)
 simp only [dj,bS,cA,aj,az]
 have w:Vo s (sk 0 S false [] .aq .aq) 7 rB .aq []:=⟨w,iN.aq w.ro _ _⟩
 refine ad.lL [] w (Nat.le_of_ble_eq_true rfl) fun s5 o5 _ w=>ad.lL [] w (Nat.le_of_ble_eq_true rfl) fun s6 o6 _ w=> ?_
 have w:Vo s6 (sk (fS tk tx).1 S false (fS tk tx).2 .aq .aq) 7 rB .aq []:=w
 refine ad.gY List.mem_cons_self w.w rfl ?_
 simp only [aL,ag,aj,aC,az,ah]
 show ad _ (uD (bW a (.mk 1 tk tx ks)))
 rw [hres]
 exact ad.one rfl (ad.one rfl (Jd w.w (fN (iN.aq w.w.ro 6 sc)) (fN w.o) cu.nil dO.nil (Nat.zero_le _) rfl))
theorem eX (a k:Nat) (l:List T):bW a (node k l)=nc k 0 [] (mz a (node k l)) l (ow a l) (fU a l) (sn a l):=by rw [node,bW]
structure Af (ps:List (Nat×T)) (m:Nat) (p1 pe:Nat×T):Prop where
 h1:ps[1]? =some p1
 hm:m=if isRec p1.2=true then 2 else 1
 hl:m+3≤ps.length
 hp: ∀p∈(ps.drop m).take (ps.length - m - 2),nC p
 he:ps[ps.length - 1]? =some pe
 hE:eZ pe
theorem Af.eq {l:List T} {a m:Nat} {p1 pe:Nat×T} (h:Af (bH a l) m p1 pe):lO l (ow a l) (fU a l)=(isRec p1.2&&xH (vp m (bH a l)),vp m (bH a l),bW pe.1 pe.2):=by
 have e1:l.getD 1 default=p1.2:=by
  have:=congrArg (fun o:Option (Nat×T)=>o.map (·.2)) h.h1
  simp only [Option.map_some] at this
  rw [← List.getElem?_map,nf] at this
  rw [List.getD_eq_getElem?_getD,this];rfl
 have e2:(fU a l).getD ((fU a l).length - 1) default=bW pe.1 pe.2:=by
  rw [fR,List.length_map,List.getD_eq_getElem?_getD,List.getElem?_map,h.he];rfl
 have hm:=h.hm
 have hm':m=if isRec p1.2=true then 2 else 1:=hm
 unfold lO
 simp only [e1,e2, ← hm']
 have e3:((ow a l).drop m).take ((ow a l).length - m - 2)=vp m (bH a l):=by
  unfold vp
  rw [lR,List.length_map,List.map_take,List.map_drop]
 rw [e3]
 rfl
theorem IL {t:T} (h:PT hU t):isRec t=false:=by
 cases h with
 | leaf hq hk ht=>
  rename_i k tx ks
  show (k==3&&tx==dh)=false
  rcases hk with rfl | rfl | rfl | ⟨_,rfl | rfl | rfl⟩
  ·rfl
  ·rfl
  ·rfl
  ·simp [mW,dh]
  ·simp [jC,dh]
  ·simp [yj,dh]
 | cons _ _ _=>rfl
 | none _ _=>rfl
 | some _ _ _ _=>rfl
theorem NL {t:T} (h:Lf hU dh t):isRec t=true:=by
 obtain ⟨k,ks,rfl,hk,hq,_⟩:=h
 rcases hk with rfl | rfl
 ·rfl
 ·have:=hq.2.2 rfl
  simp [dh] at this
theorem Kg {s:List UInt8} {t:T} (h:Lf hU s t): ∃tk tx l,t= .mk 1 tk tx l:=by
 obtain ⟨k,ks,rfl,_⟩:=h
 exact ⟨k,s,ks,rfl⟩
theorem Nc {p:Nat×T} {k tk:Nat} {tx:List UInt8} {l:List T} (h:p.2= .mk k tk tx l) (hk:k≠10):H5 p:=fun tk' tx' l' e=>by
 rw [h] at e
 injection e with e
 exact absurd e hk
theorem KX {t:T} (h:ET hU t): ∃k tk tx l,t= .mk k tk tx l∧k≠10:=by
 cases h with
 | leaf _ _ _=>exact ⟨_,_,_,_,rfl,by decide⟩
 | letin _ _ _ _=>exact ⟨_,_,_,_,rfl,by decide⟩
 | lambda _ _ _ _ _=>exact ⟨_,_,_,_,rfl,by decide⟩
 | ife _ _ _ _ _ _=>exact ⟨_,_,_,_,rfl,by decide⟩
 | mtch _ _ _ _ _ _=>exact ⟨_,_,_,_,rfl,by decide⟩
 | bin _ _ _=>exact ⟨_,_,_,_,rfl,by decide⟩
 | un _ _=>exact ⟨_,_,_,_,rfl,by decide⟩
 | app _ _=>exact ⟨_,_,_,_,rfl,by decide⟩
 | none h1 h2=>rename_i list o c;exact ⟨_,_,_,_,rfl,by cases list <;> decide⟩
 | some h1 h2 h3 h4=>rename_i list o c x l;exact ⟨_,_,_,_,rfl,by cases list <;> decide⟩
theorem HH: ∀(n:Nat) (l:List T),l.length≤n→Pn hU l→ ∀t∈l,AT hU t∨ ∃s,Lf hU s t
 | _,[],_,_,t,ht=>by cases ht
 | 0,_:: _,h,_,_,_=>by simp at h
 | n+1,b::l,h,hl,t,ht=>by
  cases hl with
  | cons hb ha hl=>
   rename_i a l'
   rcases List.mem_cons.1 ht with rfl | ht
   ·exact .inr ⟨_,hb⟩
   ·rcases List.mem_cons.1 ht with rfl | ht
    ·exact .inl ha
    ·exact HH n l' (by simp at h;omega) hl t ht
theorem u4 {l:List T} {a i:Nat} {t:T} (h:l[i]? =some t): ∃p,(bH a l)[i]? =some p∧p.2=t:=by
 have:(bH a l).map (·.2)=l:=nf l a
 rw [← this,List.getElem?_map] at h
 obtain ⟨p,hp,e⟩:=Option.map_eq_some_iff.1 h
 exact ⟨p,hp,e⟩
structure Below (n:Nat) (ps:List (Nat×T)):Prop where
 s: ∀p∈ps,SizeOf.sizeOf p.2 < n
 f: ∀p∈ps,Fit p
theorem ae {n:Nat} (ih: ∀(t:T) (a:Nat),SizeOf.sizeOf t < n→ET hU t→Fit (a,t)→eZ (a,t)) {x:T} {bs:List T} {a:Nat} (hb:BT hU bs) (hbl:Below n (bH a (x::bs))): ∃m p1 pe,Af (bH a (x::bs)) m p1 pe:=by
 cases hb with
 | mk hrc hp hps hq he=>
  rename_i rc ps p q e
  have hlen:(bH a (x::(rc++(p::ps)++[q]++[e]))).length=rc.length+ps.length+4:=by rw [dq];simp;omega
  have hpat: ∀t,t=p∨t∈ps→PT hU t:=fun t ht=>by
   rcases ht with rfl | ht
   ·exact hp
   ·exact hps t ht
  have hrl:rc=[]∨ ∃r,Lf hU dh r∧rc=[r]:=hrc
  obtain ⟨t1,hg1,hm⟩: ∃t1,(x::(rc++(p::ps)++[q]++[e]))[1]? =some t1∧rc.length+1=if isRec t1=true then 2 else 1:=by
   rcases hrl with rfl | ⟨r,hr',rfl⟩
   ·exact ⟨p,rfl,by rw [IL hp];rfl⟩
   ·exact ⟨r,rfl,by rw [NL hr'];rfl⟩
  obtain ⟨p1,hp1,rfl⟩:=u4 (a:=a) hg1
  have hge:(x::(rc++(p::ps)++[q]++[e]))[rc.length+ps.length+3]? =some e:=by
   rw [show rc.length+ps.length+3=(rc.length+ps.length+2)+1 from rfl,List.getElem?_cons_succ,List.getElem?_append_right (by simp;omega)]
   have:rc.length+ps.length+2 - (rc++(p::ps)++[q]).length=0:=by simp;omega
   rw [this];rfl
  obtain ⟨pe,hpe,rfl⟩:=u4 (a:=a) hge
  refine ⟨rc.length+1,p1,pe,hp1,hm,by omega,fun y hy=> ?_,by rw [hlen];exact hpe, ?_⟩
  ·have hmem:y∈bH a (x::(rc++(p::ps)++[q]++[pe.2])):=List.mem_of_mem_drop (List.mem_of_mem_take hy)
   have hy2:y.2∈(p::ps):=by
    have h1:=List.mem_map_of_mem (f:=fun z:Nat×T=>z.2) hy
    rw [List.map_take,List.map_drop,nf,hlen] at h1
    have e1:rc.length+ps.length+4 - (rc.length+1) - 2=ps.length+1:=by omega
    rw [e1,List.drop_succ_cons,List.append_assoc,List.append_assoc,List.drop_left',List.take_left'] at h1
    ·exact h1
    ·rfl
    ·rfl
   exact Eb _ y.2 y.1 (Nat.lt_succ_self _) (hpat _ (List.mem_cons.1 hy2)) (hbl.f y hmem)
  ·have hmem:=List.mem_of_getElem? hpe
   exact ih pe.2 pe.1 (hbl.s _ hmem) he (hbl.f _ hmem)
theorem iC {n a k:Nat} {l:List T} (hs:SizeOf.sizeOf (node k l) < n+1) (hf:Fit (a,node k l)) (h1:k≠1) (h2:k≠2):Below n (bH a l):=
 ⟨fun p hp=>by have:=wm (k:=k) (qH hp);omega,(hf.kids h1 h2).2.2⟩
theorem Below.sub {n:Nat} {ps qs:List (Nat×T)} (h:Below n ps) (hs: ∀p∈qs,p∈ps):Below n qs:=⟨fun p hp=>h.s p (hs p hp),fun p hp=>h.f p (hs p hp)⟩
theorem Jp {l:List (Nat×T)} (h:l.length < 100000000):(l.map fun p=>gC p.1 p.2).length≤100000000:=by rw [List.length_map];omega
theorem LG: ∀(n:Nat) (t:T) (a:Nat),SizeOf.sizeOf t < n→ET hU t→Fit (a,t)→eZ (a,t):=by
 intro n
 induction n with
 | zero=>intro t a h;omega
 | succ n ih=>
  intro t a hn hE hf
  have sub: ∀{k:Nat} {l:List T},t=node k l→k≠1→k≠2→ ∀p∈bH a l,ET hU p.2→eZ p:=fun ht h1 h2 p hp hpe=>by
   subst ht
   have hb:=iC hn hf h1 h2
   exact ih p.2 p.1 (hb.s p hp) hpe (hb.f p hp)
  cases hE with
  | leaf hq hk ht=>exact F4 hf ht hq
  | bin ha ho hb=>
   rename_i x op y s
   have hs:=sub rfl (by decide) (by decide)
   refine fQ hf (by decide) (by decide) rfl Ox rfl (fun _ _ _=>rfl) (fun st x es w hx hs'=>Rz w hx hs' (hs _ (by simp [bH]) ha) (hs _ (by simp [bH]) hb)) (Nat.zero_le _) (fun e=>by cases e) ?_
   rw [eX]
   simp [nc,fU,bH]
  | un ho ha=>
   rename_i op x
   have hs:=sub rfl (by decide) (by decide)
   refine fQ hf (by decide) (by decide) rfl NT rfl (fun _ _ _=>rfl) (fun st x es w hx hs'=>Rc w hx hs' (hs _ (by simp [bH]) ha)) (Nat.zero_le _) (fun e=>by cases e) ?_
   rw [eX]
   simp [nc,fU,bH]
  | ife hi ha ht hb hl hc=>
   have hs:=sub rfl (by decide) (by decide)
   refine fQ hf (by decide) (by decide) rfl Qw rfl (fun _ _ _=>rfl) (fun st x es w hx hs'=>RA w hx hs' (hs _ (by simp [bH]) ha) (hs _ (by simp [bH]) hb) (hs _ (by simp [bH]) hc)) (Nat.zero_le _) (fun e=>by cases e) ?_
   rw [eX]
   simp [nc,fU,bH]
  | app ha hb=>
   rename_i x y
   have hs:=sub rfl (by decide) (by decide)
   obtain ⟨g1,g2,g3⟩:=hf.kids (by decide) (by decide)
   refine fQ hf (by decide) (by decide) rfl MI rfl (fun _ _ _=>rfl) (fun st x es w hx hs'=>RN w hx hs' (by rw [dq];omega) (fun p hp=>hs p hp ?_)) (Nat.zero_le _) (fun e=>by cases e) ?_
   ·have:=qH hp
    simp only [List.mem_cons,List.mem_nil_iff,or_false] at this
    rcases this with h | h <;> rw [h] <;> assumption
   ·rw [eX]
    simp [nc,fR]
  | none ho hc=>
   rename_i list o c
   cases list with
   | false=>
    refine fQ hf (by decide) (by decide) rfl Jo rfl (fun _ _ _=>rfl) (fun st x es w hx hs'=>Qc w hx hs' (by rw [dq];exact Nat.le_of_ble_eq_true rfl) (fun p hp=>by simp [bH,eh] at hp)) (Nat.zero_le _) (fun _=>rfl) ?_
    rw [eX]
    simp [nc,fU,bH,eh,Ck,pick,kindOf]
   | true=>
    refine fQ hf (by decide) (by decide) rfl Iv rfl (fun _ _ _=>rfl) (fun st x es w hx hs'=>Qv w hx hs' (by rw [dq];exact Nat.le_of_ble_eq_true rfl) (fun p hp=>by simp [bH,eh] at hp)) (Nat.zero_le _) (fun e=>by cases e) ?_
    rw [eX]
    simp [nc,fU,bH,eh,kindOf]
  | some ho ha hl hc=>
   rename_i list o c x l
   cases list with
   | false=>
    have hs:=sub rfl (by decide) (by decide)
    obtain ⟨g1,g2,g3⟩:=hf.kids (by decide) (by decide)
    refine fQ hf (by decide) (by decide) rfl Jo rfl (fun _ _ _=>rfl) (fun st y es w hx hs'=>Qc w hx hs' (by rw [dq];exact g2) (fun p hp=>hs p (vM hp) (Ab _ l (Nat.le_refl _) hl o x c ha p.2 (Aj hp)))) (Nat.zero_le _) (fun _=>rfl) ?_
    rw [eX]
    show Ck _ (eh (fU a _))=pick _ _
    rw [fR,jI]
    generalize List.map (fun p:Nat×T=>bW p.1 p.2) _=E
    match E with
    | []=>rfl
    | [_]=>rfl
    | _:: _:: _=>rfl
   | true=>
    have hs:=sub rfl (by decide) (by decide)
    obtain ⟨g1,g2,g3⟩:=hf.kids (by decide) (by decide)
    refine fQ hf (by decide) (by decide) rfl Iv rfl (fun _ _ _=>rfl) (fun st y es w hx hs'=>Qv w hx hs' (by rw [dq];exact g2) (fun p hp=>hs p (vM hp) (Ab _ l (Nat.le_refl _) hl o x c ha p.2 (Aj hp)))) (Nat.zero_le _) (fun e=>by cases e) ?_
    rw [eX]
    show iT.mk 7 _ false [] [] (eh (fU a _))= _
    rw [fR,jI]
    rfl
  | lambda hfu hp hps harr he=>
   rename_i f p ar e ps
   have hs:=sub rfl (by decide) (by decide)
   obtain ⟨g1,g2,g3⟩:=hf.kids (by decide) (by decide)
   have hb:=iC hn hf (by decide) (by decide)
   obtain ⟨b1,hpos⟩: ∃b1 b2 b3,bH a (f::p::ps++[ar]++[e])=(a,f)::bH b1 (p::ps)++[(b2,ar)]++[(b3,e)]:=⟨_,_,_,by rw [lh,lh];rfl⟩
   obtain ⟨b2,b3,hpos⟩:=hpos
   rw [hpos] at hs hb
   refine fQ (k2:=11) (rc:=false) (nm:=[]) (P:=(bH b1 (p::ps)).map fun p=>gC p.1 p.2) (E:=[bW b3 e]) hf (by decide) (by decide) rfl QB rfl (fun _ _ _=>rfl) (fun st y es w hx hs'=> ?_) (Jp (by rw [dq];simp at g2 ⊢;omega)) (fun e=>by cases e) ?_
   ·rw [hpos] at hs'
    refine RI w hx hs' (by rw [dq];simp at g2 ⊢;omega) (fun q hq=> ?_) (hs (b3,e) (by simp) he)
    have hm:q∈(a,f)::bH b1 (p::ps)++[(b2,ar)]++[(b3,e)]:=by simp [hq]
    have hq2:=qH hq
    refine Eb _ q.2 q.1 (Nat.lt_succ_self _) ?_ (hb.f q hm)
    rcases List.mem_cons.1 hq2 with h | h
    ·rw [h];exact hp
    ·exact hps _ h
   ·rw [eX,lR,fR,hpos]
    show iT.mk 11 _ false [] (List.take _ (List.drop 1 _)) [_]= _
    have hlen:(bH b1 (p::ps)).length=ps.length+1:=dq _ _
    have e1:((List.map (fun p:Nat×T=>bW p.1 p.2) ((a,f)::bH b1 (p::ps)++[(b2,ar)]++[(b3,e)])).getD ((List.map (fun p:Nat×T=>bW p.1 p.2) ((a,f)::bH b1 (p::ps)++[(b2,ar)]++[(b3,e)])).length - 1) default)=bW b3 e:=by
     rw [List.map_append,List.getD_eq_getElem?_getD,List.getElem?_append_right (by simp)]
     simp
    rw [e1]
    have e2:List.take ((List.map (fun p:Nat×T=>gC p.1 p.2) ((a,f)::bH b1 (p::ps)++[(b2,ar)]++[(b3,e)])).length - 3) (List.drop 1 (List.map (fun p:Nat×T=>gC p.1 p.2) ((a,f)::bH b1 (p::ps)++[(b2,ar)]++[(b3,e)])))=(bH b1 (p::ps)).map fun p=>gC p.1 p.2:=by
     simp only [List.cons_append,List.map_cons,List.drop_succ_cons,List.drop_zero,List.map_append,List.append_assoc]
     rw [List.take_left']
     simp
    rw [e2]
    rfl
  | letin hle hb hin he=>
   rename_i x i e bs
   have hs:=sub rfl (by decide) (by decide)
   obtain ⟨g1,g2,g3⟩:=hf.kids (by decide) (by decide)
   have hbl:=iC hn hf (by decide) (by decide)
   obtain ⟨b2,b3,hpos⟩: ∃b2 b3,bH a (x::bs++[i]++[e])=bH a (x::bs)++[(b2,i)]++[(b3,e)]:=⟨_,_,by rw [lh,lh]⟩
   rw [hpos] at hs hbl
   obtain ⟨m,p1,pe,hB⟩:=ae ih (x:=x) (a:=a) hb (hbl.sub fun p hp=>by simp [hp])
   have heq:=hB.eq
   have hlb:(bH a (x::bs)).length=bs.length+1:=dq _ _
   have hl2:bs.length+3 < 100000000:=by simpa using g2
   refine fQ (k2:=14) (nm:=[]) (P:=vp m (bH a (x::bs))) (E:=[bW pe.1 pe.2,bW b3 e]) (rc:=isRec p1.2&&xH (vp m (bH a (x::bs)))) hf (by decide) (by decide) rfl QL rfl (fun _ _ _=>rfl) (fun st y es w hx hs'=> ?_) (by unfold vp;rw [List.length_map,List.length_take];omega) (fun e=>by cases e) ?_
   ·rw [hpos] at hs'
    exact RO w hx hs' (by omega) hB.h1 hB.hm hB.hl hB.hp hB.he hB.hE (hs (b3,e) (by simp) he)
   ·rw [eX]
    have e0:(x::bs++[i]++[e]).take ((x::bs++[i]++[e]).length - 2)=x::bs:=by
     rw [List.append_assoc,List.take_left']
     simp
    have e1:(ow a (x::bs++[i]++[e])).take ((ow a (x::bs++[i]++[e])).length - 2)=ow a (x::bs):=by
     rw [lR,lR,hpos,List.map_append,List.map_append,List.append_assoc,List.take_left']
     simp
    have e2:(fU a (x::bs++[i]++[e])).take ((fU a (x::bs++[i]++[e])).length - 2)=fU a (x::bs):=by
     rw [fR,fR,hpos,List.map_append,List.map_append,List.append_assoc,List.take_left']
     simp
    have e3:(fU a (x::bs++[i]++[e])).getD ((fU a (x::bs++[i]++[e])).length - 1) default=bW b3 e:=by
     rw [fR,hpos,List.map_append,List.getD_eq_getElem?_getD,List.getElem?_append_right (by simp)]
     simp
    show iT.mk 14 _ (lO _ _ _).1 [] (lO _ _ _).2.1 [(lO _ _ _).2.2,_]= _
    rw [e0,e1,e2,e3,heq]
    rfl
  | mtch hm he hw hbar ha has=>
   rename_i m e w x bar l2
   have hs:=sub rfl (by decide) (by decide)
   obtain ⟨g1,g2,g3⟩:=hf.kids (by decide) (by decide)
   have hbl:=iC hn hf (by decide) (by decide)
   have hmem: ∀t∈m::e::w::bar++x::l2,AT hU t∨ ∃k tk tx l,t= .mk k tk tx l∧k≠10:=fun t ht=>by
    have lfk: ∀{s:List UInt8} {t:T},Lf hU s t→ ∃k tk tx l,t= .mk k tk tx l∧k≠10:=fun h=>by
     obtain ⟨tk,tx,l,rfl⟩:=Kg h
     exact ⟨1,tk,tx,l,rfl,by decide⟩
    simp only [List.cons_append,List.mem_cons,List.mem_append] at ht
    rcases ht with rfl | rfl | rfl | h | rfl | h
    ·exact .inr (lfk hm)
    ·exact .inr (KX he)
    ·exact .inr (lfk hw)
    ·rcases hbar with rfl | ⟨b,hb,rfl⟩
     ·cases h
     ·obtain rfl:t=b:=by simpa using h
      exact .inr (lfk hb)
    ·exact .inl ha
    ·rcases HH _ l2 (Nat.le_refl _) has t h with h | ⟨s,h⟩
     ·exact .inl h
     ·exact .inr (lfk h)
   have harm: ∀p∈bH a (m::e::w::bar++x::l2),H5 p:=fun p hp=>by
    rcases hmem p.2 (qH hp) with h | ⟨k,tk,tx,l,e,hk⟩
    ·obtain ⟨q,t⟩:=p
     have hfp:=hbl.f _ hp
     have hsp:=hbl.s _ hp
     simp only at h
     cases h with
     | mk hp' harr he'=>
      rename_i y ar z
      intro tk tx l e
      have e:node 10 [y,ar,z]= .mk 10 tk tx l:=e
      injection e with _ _ _ e
      subst e
      obtain ⟨f1,f2,f3⟩:=hfp.kids (by decide) (by decide)
      have hb2:Below n (bH q [y,ar,z]):=iC (k:=10) (Nat.lt_succ_of_lt hsp) hfp (by decide) (by decide)
      refine ⟨Nat.le_of_ble_eq_true rfl,(show q+(bo [y,ar,z]).length≤1000000000000 by omega),_,_,_,rfl, ?_, ?_⟩
      ·exact Eb _ y q (Nat.lt_succ_self _) hp' (hb2.f (q,y) (by simp [bH]))
      ·exact ih z (q+(bY y).length+(bY ar).length) (hb2.s (q+(bY y).length+(bY ar).length,z) (by simp [bH])) he' (hb2.f (q+(bY y).length+(bY ar).length,z) (by simp [bH]))
    ·exact Nc e hk
   have h1:(bH a (m::e::w::bar++x::l2))[1]? =some (a+(bY m).length,e):=rfl
   refine fQ (P:=((bH a (m::e::w::bar++x::l2)).flatMap mP).map (·.1)) (E:=bW (a+(bY m).length) e::((bH a (m::e::w::bar++x::l2)).flatMap mP).map (·.2)) hf (by decide) (by decide) rfl PN rfl (fun _ _ _=>rfl) (fun st y es w' hx hs'=>Q7 w' hx hs' (by rw [dq];exact g2) h1 (hs (a+(bY m).length,e) (List.mem_of_getElem? h1) he) harm) ?_ (fun e=>by cases e) ?_
   ·rw [List.length_map]
    have: ∀l:List (Nat×T),(l.flatMap mP).length≤l.length:=fun l=>by
     induction l with
     | nil=>exact Nat.le_refl _
     | cons p l ih=>
      rw [List.flatMap_cons,List.length_append,List.length_cons]
      have:(mP p).length≤1:=by
       unfold mP
       cases p.2 with
       | mk k tk tx l=>rw [A8];split <;> simp
      omega
    have h2:=this (bH a (m::e::w::bar++x::l2))
    rw [dq] at h2
    exact Nat.le_trans h2 (Nat.le_of_lt g2)
   ·rw [eX,yR,fR]
    rfl
theorem zi: ∀{l:List Bd} {es:List AV} {p:Bd} {v:AV},gW l es→Nk p v→gW (l++[p]) (es++[v])
 | [],_,_,_,h,k=>by
  simp only [gW] at h;subst h
  simp only [gW,List.nil_append]
  exact ⟨_,_,rfl,k,rfl⟩
 | p::l,_,_,_,h,k=>by
  simp only [gW] at h
  obtain ⟨w,ws,rfl,h1,h2⟩:=h
  simp only [List.cons_append,gW]
  exact ⟨w,_,rfl,h1,zi h2 k⟩
def D9 (p:Nat×T):Prop:= ∀tk tx l,p.2= .mk 5 tk tx l→l.length < 100000000∧p.1+(bo l).length≤1000000∧ ∃m p1 pe,Af (bH p.1 l) m p1 pe
def oW (p:Nat×T):List Bd:=kM p.1 p.2
theorem HA {p:Nat×T} {k tk:Nat} {tx:List UInt8} {l:List T} (h:p.2= .mk k tk tx l) (hk:k≠5):oW p=[]:=by
 unfold oW
 rw [h,kM,if_neg hk]
theorem wi: ∀(l:List T) (a:Nat),dY a l=(bH a l).flatMap oW
 | [],_=>rfl
 | t::l,a=>by rw [dY,bH,List.flatMap_cons,wi l];rfl
theorem CD: ∀(l:List (Nat×T)),(l.flatMap oW).length≤l.length
 | []=>Nat.le_refl _
 | p::l=>by
  rw [List.flatMap_cons,List.length_append,List.length_cons]
  have h1:=CD l
  have h2:(oW p).length≤1:=by
   unfold oW
   cases p.2 with
   | mk k tk tx l=>rw [kM];split <;> simp
  omega
theorem DI {ps:List (Nat×T)} {x:AV} {es:List AV} (hx:bl 5 x es) (hs:fW kW ps es) (hn:ps.length < 100000000) (hd: ∀p∈ps,D9 p) (hf: ∀p∈ps,p.1+(bY p.2).length≤1000000) {st0:St} (w0:Wv S0 st0 [] 11 Hr .aq []):
  ad (bu (EY x es.length) ([.aq,.int .i64 0],st0)) fun c=> ∃s v ws,c=(0,[v],s)∧Wv S0 s [] 11 Hr v ws∧gW (ps.flatMap oW) ws:=by
 have hlen:=hs.len
 refine ad.upto (n:=es.length) (I:=fun i c=> ∃s v ws,c=([v,.int .i64 (i:Int)],s)∧Wv S0 s [] 11 Hr v ws∧gW ((ps.take i).flatMap oW) ws) ?_ ?_ es.length 0 _ (by omega) ⟨st0,.aq,[],rfl,w0,by simp [gW]⟩
 ·rintro i c hi ⟨s,v,ws,rfl,w,hw⟩
  have hlt:i < ps.length:=by omega
  have hwl:=hw.len
  have hwl2:=CD (ps.take i)
  rw [List.length_take] at hwl2
  obtain ⟨a2,b2,tx2,y,hN2,e⟩:=oL hx hs (List.getElem?_eq_getElem hlt)
  obtain ⟨l2,es2,hpk,hy,_⟩:=kK hN2
  have hP:kW ps[i] (.agg [.int .u8 (a2:Int),.int .u8 (b2:Int),.str tx2,y,.int .i64 (ps[i].1:Int)]):=⟨a2,b2,tx2,y,rfl,hN2⟩
  simp only [EY,ag,aj,ah,aF,if_pos (show (i:Int) < (es.length:Int) by omega),e,bL,gd,al,aL,az]
  refine ad.uv w fun s1 _ w=>ad.step (hy.af _) ?_
  refine ad.tz [] w fun s2 _ _ w=>ad.gm List.mem_cons_self w.w rfl (ad.step (aj _ _ _) ?_)
  rw [show ((a2:Int)==5)=(a2==5) from dz a2 5,jy hlt,List.flatMap_append]
  refine ad.bind (R:=fun c=> ∃s v ws2,c=([v],s)∧Wv S0 s [] 11 Hr v ws2∧gW ((ps.take i).flatMap oW++[ps[i]].flatMap oW) ws2) ?_ ?_
  ·by_cases hk:a2=5
   ·subst hk
    obtain ⟨h5,h6,m,p1,pe,hB⟩:=hd _ (List.getElem_mem hlt) _ _ _ hpk
    have hP':kW (ps[i].1,.mk 5 b2 tx2 l2) (.agg [.int .u8 ((5:Nat):Int),.int .u8 (b2:Int),.str tx2,y,.int .i64 (ps[i].1:Int)]):=by rw [← hpk];exact hP
    obtain ⟨z,zs,epz,hz,hzs⟩:=pb hP' (by omega) (by omega)
    obtain ⟨u,eb,hu⟩:=xe hz hzs (by rw [dq];exact h5) hB.h1 hB.hm hB.hl hB.hp hB.he hB.hE
    obtain ⟨z3,a3,k,sp,rc,nm,qs,ls,x3,es3,y3,fs3,rfl,hz3,ha3,hbody,hx3,hp3,hy3,hl3,hn3⟩:=Bw hu rfl
    have hsp:=vq hP (by have:=hf _ (List.getElem_mem hlt);omega)
    have hdecl:[ps[i]].flatMap oW=[⟨mz ps[i].1 ps[i].2,isRec p1.2&&xH (vp m (bH ps[i].1 l2)),vp m (bH ps[i].1 l2),bW pe.1 pe.2⟩]:=by
     rw [List.flatMap_cons,List.flatMap_nil,List.append_nil]
     unfold oW
     generalize hS:mz ps[i].1 ps[i].2=S
     rw [hpk] at hS ⊢
     rw [kM,if_pos rfl,hB.eq,hS]
    rw [hdecl]
    generalize mz ps[i].1 ps[i].2=S at *
    refine ad.step (aH _ _) (ad.gY List.mem_cons_self w.w rfl ?_)
    simp only [aL,ag,aj,az,ah]
    refine ad.step (gZ hP' rfl epz _ _) (ad.step (Jc hz eb rfl _ _) ?_)
    simp only [aL,ag,aj,aC,az,ah]
    refine ad.uv w fun s4 hh4 w=>ad.step (hz3.af _) (ad.step (hx3.af _) (ad.step (hy3.af _) ?_))
    refine ad.tz [] w fun s5 _ _ w=>ad.gY (List.mem_cons_of_mem _ List.mem_cons_self) w.w rfl ?_
    simp only [aL,ag,aj,az,ah]
    refine ad.step (gZ hP rfl hsp _ _) ?_
    simp only [dj,bS,cA,aL,ag,aj,ah,aC]
    refine ad.SP [] w (Nat.le_of_ble_eq_true rfl) fun s6 o6 _ w=>ad.gY List.mem_cons_self w.w rfl ?_
    show ad (ui (.agg (po S (isRec p1.2&&xH (vp m (bH ps[i].1 l2))) z3 k sp rc nm x3 y3)) _) _
    simp only [aL,ag,aj,aC,az,ah,hz3.af,hx3.af,hy3.af,hz3.aV,hx3.aV,hy3.aV]
    refine ad.Ii w (by omega) (by omega) (by omega) fun v2 s7 _ w=>ad.some ⟨s7,v2,_,rfl,w.none,zi hw ?_⟩
    exact ⟨z3,a3,eF k sp rc nm x3 y3,rfl,hz3,ha3,by rw [show bW pe.1 pe.2= _ from hbody];exact uu hx3 hp3 hy3 hl3 hn3⟩
   ·rw [beq_eq_false_iff_ne.2 hk,List.flatMap_cons,List.flatMap_nil,List.append_nil,HA hpk hk,List.append_nil]
    exact ad.step (aB _ _) (ad.some ⟨s2,v,ws,rfl,w.none,hw⟩)
  ·rintro c ⟨s,v,ws2,rfl,w,hw⟩
   simp only [ag,ah,aY,cH (show i+1≤9223372036854775807 by have:=hx.1;omega)]
   exact ad.inl ⟨s,v,ws2,rfl,w,hw⟩
 ·rintro c ⟨s,v,ws,rfl,w,hw⟩
  simp only [EY,ag,aj,ah,aF,if_neg (show ¬ ((es.length:Nat):Int) < (es.length:Int) by omega)]
  rw [hlen,List.take_length] at hw
  exact ad.inr ⟨s,v,ws,rfl,w,hw⟩
def Rm (s:List UInt8) (v:AV):Prop:=match oP s with
 | .ok D=> ∃x es,v= .tup [x,.int .i64 0]∧bl 11 x es∧gW D es
 | .error e=>v= .tup [.aq,.int .i64 (e:Int)]
theorem Hf (s:List UInt8):(yd s=0∧(65536 < s.length)=False∧cG s=true)∨(yd s=40∧65536 < s.length)∨(yd s=4∧¬ 65536 < s.length∧cG s=false):=by
 unfold yd
 by_cases h:65536 < s.length
 ·rw [if_pos h];exact .inr (.inl ⟨rfl,h⟩)
 ·rw [if_neg h]
  cases hv:cG s with
  | true=>exact .inl ⟨rfl,by simp [h],rfl⟩
  | false=>exact .inr (.inr ⟨rfl,h,rfl⟩)
theorem BE {n:Nat}: ∀(k:Nat) (l:List T) (a:Nat),l.length≤k→DT hU l→Below n (bH a l)→ ∀p∈bH a l,D9 p
 | _,[],_,_,_,_,p,hp=>by cases hp
 | 0,_:: _,_,h,_,_,_,_=>by simp at h
 | k+1,t::l,a,h,hd,hb,p,hp=>by
  cases hd with
  | last _=>
   intro tk tx l' e
   obtain rfl:p=(a,_):=by simpa [bH] using hp
   injection e with e
   cases e
  | cons ha hbt hl=>
   rename_i x bs
   rcases List.mem_cons.1 hp with rfl | hp
   ·intro tk tx l' e
    have e:node 5 (x::bs)= .mk 5 tk tx l':=e
    injection e with _ _ _ e
    subst e
    have hfp:=hb.f _ List.mem_cons_self
    have hsp:=hb.s _ List.mem_cons_self
    obtain ⟨f1,f2,f3⟩:=hfp.kids (by decide) (by decide)
    have hb2:Below n (bH a (x::bs)):=iC (k:=5) (Nat.lt_succ_of_lt hsp) hfp (by decide) (by decide)
    exact ⟨f2,f1,ae (LG n) hbt hb2⟩
   ·exact BE k l _ (by simp at h;omega) hl (hb.sub fun q hq=>List.mem_cons_of_mem _ hq) p hp
theorem Me: ∀(r:List aQ),Wt r=100 * r.length+(db r).length
 | []=>rfl
 | t::r=>by
  rw [Wt,Me r,Parse.pt,List.length_append,List.length_cons]
  omega
theorem Gr {s:List UInt8} (hl:s.length≤65536) (hg:cI (doc (tokens s))=true): ∃l,doc (tokens s)=node 4 l∧l.length < 100000000∧(bo l).length≤1000000∧(∀p∈bH 0 l,D9 p)∧ ∀p∈bH 0 l,Fit p:=by
 obtain ⟨l,e1,e2⟩:=kY (tokens s)
 have ht:=HY (tokens s) (nP s)
 have hz:=My (tokens s)
 have hk:=zH s
 rw [oM] at ht
 rw [Me,oM] at hz
 rw [e2] at hg ht hz
 have hfit:Fit (0,node 4 l):=⟨by simp only [ht];omega,by simp only;omega⟩
 obtain ⟨f1,f2,f3⟩:=hfit.kids (by decide) (by decide)
 have hgl:aX l=true:=by simpa [node,cI] using hg
 have hdt:=uF (Q:=hU) _ _ _ e1 (nP s) (fun t ht=>JJ _ _ t ht) hgl
 exact ⟨l,e2,f2,by omega,BE _ l 0 (Nat.le_refl _) hdt (iC (k:=4) (n:=SizeOf.sizeOf (node 4 l)) (Nat.lt_succ_self _) hfit (by decide) (by decide)),f3⟩
theorem PA (s:List UInt8):ad ((aG vE).bare 5 [.str s]) (Rm s):=by
 obtain ⟨v,hN,_,ep⟩:=D7 s
 obtain ⟨k,tk,tx,l',x,es,ht,rfl,hx,hs⟩:=wN hN
 refine ad.bare rfl (ad.step (QP _) ?_)
 unfold g5
 refine ad.step (az _ _) (ad.step (ep _ _) ?_)
 simp only [dj,bS,cA,aL,ag,aj,az,ah]
 refine ad.uv (Wv.start (st:=S0) (Nat.le_refl _) 11 Hr) fun s1 _ w=>ad.step (hx.af _) ?_
 refine ad.tz [] w fun s2 _ _ w=> ?_
 unfold Rm oP
 rcases Hf s with ⟨h0,h1,h2⟩ | ⟨h0,h1⟩ | ⟨h0,h1,h2⟩
 ·rw [h0,if_neg (by rw [h1];exact fun f=>f),if_pos h2]
  refine ad.step (aB _ _) (ad.gY List.mem_cons_self w.w rfl ?_)
  simp only [aL,ag,aj,az,ah]
  have htr:kH s=doc (tokens s):=by unfold kH;rw [if_pos h0]
  have cg:=fun {γ:Type} (st:St) (K:Kv γ)=>CJ hN rfl (JZ _ _ hN) st K
  refine ad.step (cg _ _) (ad.step (aC _ _) ?_)
  rw [htr]
  cases hg:cI (doc (tokens s)) with
  | false=>
   rw [if_neg (by simp)]
   exact ad.step (aH _ _) (ad.some rfl)
  | true=>
   rw [if_pos rfl]
   have hlen:s.length≤65536:=(C4 h0).1
   obtain ⟨l,el,f1,f2,f3,f4⟩:=Gr hlen hg
   rw [htr,el] at ht
   injection (show T.mk 4 0 [] l= .mk k tk tx l' from ht) with q1 q2 q3 q4
   subst q1 q2 q3 q4
   refine ad.step (aB _ _) (ad.gY List.mem_cons_self w.w rfl ?_)
   simp only [aL,ag,aj,az,ah]
   have hP:kW (0,node 4 l) (.agg [.int .u8 ((4:Nat):Int),.int .u8 ((0:Nat):Int),.str [],x,.int .i64 ((0:Nat):Int)]):=⟨4,0,[],x,rfl,by rw [htr,el] at hN;exact hN⟩
   obtain ⟨z,zs,epz,hz,hzs⟩:=pb hP (by omega) (by omega)
   refine ad.step (gZ hP rfl epz _ _) (ad.step (hz.len _) ?_)
   refine ad.bind (DI hz hzs (by rw [dq];exact f1) f3 (fun p hp=>(f4 p hp).t) w.none) ?_
   rintro c ⟨s3,v,ws,rfl,w3,hD⟩
   simp only [ag,ah]
   obtain ⟨x',hx',e3⟩:=CI (u:= .int .i64 0) w3.o (gF _ _) rfl
   refine ad.step (e3 _) (ad.some ?_)
   rw [el]
   show ∃x es,_= _∧bl 11 x es∧gW (dY 0 l) es
   rw [wi]
   exact ⟨x',ws,rfl,hx',hD⟩
 ·rw [h0,if_pos h1]
  exact ad.step (aH _ _) (ad.some rfl)
 ·rw [h0,if_neg h1,if_neg (by simp [h2])]
  exact ad.step (aH _ _) (ad.some rfl)
theorem CH {p:ij} {v:AV} (h:ym p v):VM.bare v=true∧VM.strip v=v:=by
 obtain ⟨k,lit,sp,nm,ps,x,es,rfl,rfl,hx,_⟩:=gJ h
 refine ⟨?_,rfl⟩
 rw [ny]
 simp only [bg,hx.bare]
 rfl
theorem si {p:iT} {v:AV} (h:uD p v):VM.bare v=true∧VM.strip v=v:=by
 obtain ⟨k,sp,rc,nm,ps,ls,x,es,y,fs,rfl,rfl,hx,_,hy,_⟩:=gv h
 refine ⟨?_,rfl⟩
 rw [ny]
 simp only [bg,hx.bare,hy.bare]
 rfl
theorem call3 {F:FuncId} {v w r:AV} (hv:VM.bare v=true∧VM.strip v=v) (hw:VM.bare w=true∧VM.strip w=w) (hf:vE.full F=false) (h:(aG vE).bare F [v,w,.bool false]=some r) {β:Type} (st:St) (K:Kv β):ak (aG vE) F [v,w,.bool false] st K=K r st q0:=
 bj st K hf (by simp only [List.map_cons,List.map_nil,hv.2,hw.2];rfl) (by simp only [bg,hv.1,hw.1];rfl) h
theorem L8 {ps:List ij} {es:List AV} (h:cu ps es) {i:Nat} (hi:i < ps.length): ∃v,es[i]? =some v∧ym ps[i] v:=by
 obtain ⟨v,h1,h2,_⟩:=h.get (i:=i) (List.drop_eq_getElem_cons hi)
 exact ⟨v,h1,h2⟩
theorem Mi {ps:List iT} {es:List AV} (h:dO ps es) {i:Nat} (hi:i < ps.length): ∃v,es[i]? =some v∧uD ps[i] v:=by
 obtain ⟨v,h1,h2,_⟩:=h.get (i:=i) (List.drop_eq_getElem_cons hi)
 exact ⟨v,h1,h2⟩
theorem LV {ps:List Bd} {es:List AV} (h:gW ps es) {i:Nat} (hi:i < ps.length): ∃v,es[i]? =some v∧Nk ps[i] v:=by
 obtain ⟨v,h1,h2,_⟩:=h.get (i:=i) (List.drop_eq_getElem_cons hi)
 exact ⟨v,h1,h2⟩
theorem yJ {ps qs:List ij} {es fs:List AV} {x y:AV} (hp:cu ps es) (hq:cu qs fs) (hx:bl 6 x es) (hy:bl 6 y fs) (he:ps.map je=qs.map je) (ih: ∀p∈ps,∀q,je p=je q→ ∀v w,ym p v→ym q w→(aG vE).bare 28 [v,w,.bool false]=some (.bool true)):
  (aG vE).bare 14 [x,y,.bool false]=some (.bool true):=by
 have hl:ps.length=qs.length:=by simpa using congrArg List.length he
 have l1:=hp.len
 have l2:=hq.len
 have hxl:=hx.1
 refine br rfl (ad.eq (ad.step (Ov _ _ _) ?_))
 unfold g14
 refine ad.step (aC _ _) (ad.step (hx.len _) (ad.step (hy.len _) ?_))
 rw [show ((es.length:Int) != (fs.length:Int))=false by rw [show es.length=fs.length by omega];simp]
 refine ad.step (aB _ _) (ad.bind (R:=fun c=>c=(0,[.bool false],S0)) (ad.upto (n:=es.length) (I:=fun i c=>c=([.bool false,.int .i64 (i:Int)],S0)) ?_ ?_ es.length 0 _ (by omega) rfl) ?_)
 ·rintro i c hi rfl
  have hip:i < ps.length:=by omega
  have hiq:i < qs.length:=by omega
  obtain ⟨v,hv,hV⟩:=L8 hp hip
  obtain ⟨w,hw,hW⟩:=L8 hq hiq
  have hei:je ps[i]=je qs[i]:=by
   have:=congrArg (fun l=>l[i]?) he
   simpa [hip,hiq] using this
  have c:=fun {γ:Type} (st:St) (K:Kv γ)=>call3 (CH hV) (CH hW) rfl (ih _ (List.getElem_mem hip) _ hei v w hV hW) st K
  obtain ⟨k3,lit3,sp3,nm3,qs3,y3,fs3,hq3,rfl,hy3,hs3⟩:=gJ hV
  obtain ⟨k4,lit4,sp4,nm4,qs4,y4,fs4,hq4,rfl,hy4,hs4⟩:=gJ hW
  simp only [De,ag,aj,aC,ah,hx.len,aF,if_pos (show (i:Int) < (es.length:Int) by omega),hx.idx hv,hy.idx hw,jx,qM,bL,E6,al,aL,az]
  refine ad.step (c _ _) ?_
  simp only [aC,Bool.not_true,aB,aY,cH (show i+1≤9223372036854775807 by omega)]
  exact ad.inl rfl
 ·rintro c rfl
  simp only [De,ag,aj,aC,ah,hx.len,aF,if_neg (show ¬ ((es.length:Nat):Int) < (es.length:Int) by omega)]
  exact ad.inr rfl
 ·rintro c rfl
  simp only [ag,aC,ah,iH]
  exact ad.some rfl
theorem JI: ∀(n:Nat) (p q:ij),SizeOf.sizeOf p < n→je p=je q→ ∀v w,ym p v→ym q w→(aG vE).bare 28 [v,w,.bool false]=some (.bool true):=by
 intro n
 induction n with
 | zero=>intro p q h;omega
 | succ n ih=>
  intro p q hn he v w hv hw
  obtain ⟨k,lit,sp,nm,ps,x,es,rfl,rfl,hx,hp⟩:=gJ hv
  obtain ⟨k',lit',sp',nm',qs,y,fs,rfl,rfl,hy,hq⟩:=gJ hw
  simp only [je,ij.mk.injEq,true_and,er] at he
  obtain ⟨rfl,rfl,rfl,he⟩:=he
  have h1:=yJ hp hq hx hy he fun p hp q=>ih p q (by
   have:=List.sizeOf_lt_of_mem hp
   simp only [ij.mk.sizeOf_spec] at hn
   omega)
  have c:=fun {γ:Type} (st:St) (K:Kv γ)=>call3 ⟨hx.bare,hx.strip⟩ ⟨hy.bare,hy.strip⟩ rfl h1 st K
  refine br rfl ((Oe _ _ _).trans ?_)
  simp only [RZ,qM,aL,ag,aj,az,ah,aC,hx.af,hx.aV,hy.af,hy.aV,bne_self_eq_false,aB,beq_self_eq_true,Bool.not_true,al,c]
theorem zc {ps qs:List ij} {es fs:List AV} {x y:AV} (hp:cu ps es) (hq:cu qs fs) (hx:bl 6 x es) (hy:bl 6 y fs) (he:ps.map je=qs.map je) {β:Type} (st:St) (K:Kv β):ak (aG vE) 14 [x,y,.bool false] st K=K (.bool true) st q0:=
 call3 ⟨hx.bare,hx.strip⟩ ⟨hy.bare,hy.strip⟩ rfl (yJ hp hq hx hy he fun p _ q=>JI _ p q (Nat.lt_succ_self _)) st K
theorem Hp: ∀(n:Nat) (p q:iT),SizeOf.sizeOf p < n→kL p=kL q→ ∀v w,uD p v→uD q w→(aG vE).bare 15 [v,w,.bool false]=some (.bool true):=by
 intro n
 induction n with
 | zero=>intro p q h;omega
 | succ n ih=>
  intro p q hn he v w hv hw
  obtain ⟨k,sp,rc,nm,ps,ls,x,es,y,fs,rfl,rfl,hx,hp,hy,hl,_⟩:=gv hv
  obtain ⟨k',sp',rc',nm',ps',ls',x',es',y',fs',rfl,rfl,hx',hp',hy',hl',_⟩:=gv hw
  simp only [kL,iT.mk.injEq,true_and,er,gu] at he
  obtain ⟨rfl,rfl,rfl,hep,hee⟩:=he
  have hll:ls.length=ls'.length:=by simpa using congrArg List.length hee
  have l1:=hl.len
  have l2:=hl'.len
  have hxl:=hy.1
  have c:=fun {γ:Type} (st:St) (K:Kv γ)=>zc hp hp' hx hx' hep st K
  have hne:((fs.length:Int) != (fs'.length:Int))=false:=by rw [show fs.length=fs'.length by omega];simp
  refine br rfl (ad.eq (ad.step (Ok _ _ _) ?_))
  simp only [g15,eF,aL,ag,aj,az,ah,aC,hx.af,hx.aV,hy.af,hy.aV,hx'.af,hx'.aV,hy'.af,hy'.aV,bne_self_eq_false,aB,beq_self_eq_true,Bool.not_true,al,c,hy.len,hy'.len,hne]
  refine ad.bind (R:=fun c=>c=(0,[.bool false],S0)) (ad.upto (n:=fs.length) (I:=fun i c=>c=([.bool false,.int .i64 (i:Int)],S0)) ?_ ?_ fs.length 0 _ (by omega) rfl) ?_
  ·rintro i c hi rfl
   have hip:i < ls.length:=by omega
   have hiq:i < ls'.length:=by omega
   obtain ⟨v,hv,hV⟩:=Mi hl hip
   obtain ⟨w,hw,hW⟩:=Mi hl' hiq
   have hei:kL ls[i]=kL ls'[i]:=by
    have:=congrArg (fun l=>l[i]?) hee
    simpa [hip,hiq] using this
   have c:=fun {γ:Type} (st:St) (K:Kv γ)=>call3 (si hV) (si hW) rfl (ih _ _ (by
    have:=List.sizeOf_lt_of_mem (List.getElem_mem hip)
    simp only [iT.mk.sizeOf_spec] at hn
    omega) hei v w hV hW) st K
   obtain ⟨k3,sp3,rc3,nm3,ps3,ls3,x3,es3,y3,fs3,_,rfl,_⟩:=gv hV
   obtain ⟨k4,sp4,rc4,nm4,ps4,ls4,x4,es4,y4,fs4,_,rfl,_⟩:=gv hW
   simp only [Dr,ag,aj,aC,ah,hy.len,aF,if_pos (show (i:Int) < (fs.length:Int) by omega),hy.idx hv,hy'.idx hw,jx,eF,bL,qy,al,aL,az]
   refine ad.step (c _ _) ?_
   simp only [aC,Bool.not_true,aB,aY,cH (show i+1≤9223372036854775807 by omega)]
   exact ad.inl rfl
  ·rintro c rfl
   simp only [Dr,ag,aj,aC,ah,hy.len,aF,if_neg (show ¬ ((fs.length:Nat):Int) < (fs.length:Int) by omega)]
   exact ad.inr rfl
  ·rintro c rfl
   simp only [ag,aC,ah,iH]
   exact ad.some rfl
theorem E2 {d:Bd} {v:AV} (h:Nk d v): ∃z a k sp rc nm x y,v= .agg (po d.sp d.rc z k sp rc nm x y)∧bl 6 z a∧cu d.ps a∧uD d.body (.agg (eF k sp rc nm x y)):=by
 obtain ⟨z,a,be,rfl,hz,ha,hb⟩:=h
 obtain ⟨k,sp,rc,nm,ps,ls,x,es,y,fs,hq,e,hx,hp,hy,hl,hn⟩:=gv hb
 injection e with e
 subst e
 exact ⟨z,a,k,sp,rc,nm,x,y,rfl,hz,ha,hb⟩
theorem En {ps qs:List Bd} {es fs:List AV} {x y:AV} (hp:gW ps es) (hq:gW qs fs) (hx:bl 11 x es) (hy:bl 11 y fs) (he:ps.map vg=qs.map vg) {β:Type} (st:St) (K:Kv β):
  ak (aG vE) 7 [x,y,.bool false] st K=K (.bool true) st q0:=by
 refine call3 ⟨hx.bare,hx.strip⟩ ⟨hy.bare,hy.strip⟩ rfl ?_ st K
 have hl:ps.length=qs.length:=by simpa using congrArg List.length he
 have l1:=hp.len
 have l2:=hq.len
 have hxl:=hx.1
 refine br rfl (ad.eq (ad.step (Qj _ _ _) ?_))
 unfold g7
 refine ad.step (aC _ _) (ad.step (hx.len _) (ad.step (hy.len _) ?_))
 rw [show ((es.length:Int) != (fs.length:Int))=false by rw [show es.length=fs.length by omega];simp]
 refine ad.step (aB _ _) (ad.bind (R:=fun c=>c=(0,[.bool false],S0)) (ad.upto (n:=es.length) (I:=fun i c=>c=([.bool false,.int .i64 (i:Int)],S0)) ?_ ?_ es.length 0 _ (by omega) rfl) ?_)
 ·rintro i c hi rfl
  have hip:i < ps.length:=by omega
  have hiq:i < qs.length:=by omega
  obtain ⟨v,hv,hV⟩:=LV hp hip
  obtain ⟨w,hw,hW⟩:=LV hq hiq
  have hei:vg ps[i]=vg qs[i]:=by
   have:=congrArg (fun l=>l[i]?) he
   simpa [hip,hiq] using this
  obtain ⟨z,a,k,sp,rc,nm,x1,y1,rfl,hz,ha,hb⟩:=E2 hV
  obtain ⟨z',a',k',sp',rc',nm',x1',y1',rfl,hz',ha',hb'⟩:=E2 hW
  unfold vg at hei
  injection hei with _ h1 h2 h3
  have c1:=fun {γ:Type} (st:St) (K:Kv γ)=>zc ha ha' hz hz' h2 st K
  have c2:=fun {γ:Type} (st:St) (K:Kv γ)=>call3 (si hb) (si hb') rfl (Hp _ _ _ (Nat.lt_succ_self _) h3 _ _ hb hb') st K
  simp only [eF] at c2
  simp only [Js,ag,aj,aC,ah,hx.len,aF,if_pos (show (i:Int) < (es.length:Int) by omega),hx.idx hv,hy.idx hw,jx,po,kU,List.drop_succ_cons,List.drop_zero,bL,bU,qy,al,aL,az,h1,beq_self_eq_true,Bool.not_true,aB,c1,c2,aY,cH (show i+1≤9223372036854775807 by omega)]
  exact ad.inl rfl
 ·rintro c rfl
  simp only [Js,ag,aj,aC,ah,hx.len,aF,if_neg (show ¬ ((es.length:Nat):Int) < (es.length:Int) by omega)]
  exact ad.inr rfl
 ·rintro c rfl
  simp only [ag,aC,ah,iH]
  exact ad.some rfl
end Go.Proofs.YtmngkfmgnkeclaaGreatDoor.Vm
namespace Go.Proofs.YtmngkfmgnkeclaaGreatDoor.Vm
open Go Go.VM Go.Proofs
theorem FM:(caller vE 3000).bare 4 []= .ok (.bool true):=by kernel_rfl
theorem xb {γ:Type} (st:St) (K:Kv γ):ak (aG vE) 4 [] st K=K (.bool true) st q0:=bj st K rfl rfl rfl (vS FM)
end Go.Proofs.YtmngkfmgnkeclaaGreatDoor.Vm
