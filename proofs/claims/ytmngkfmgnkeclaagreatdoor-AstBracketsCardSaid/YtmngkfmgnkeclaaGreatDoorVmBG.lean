/-
  (A part of the proof: ParseBrk.)
-/
import Derived.Test.YtmngkfmgnkeclaaGreatDoorVmBF
set_option linter.unusedSimpArgs false
namespace Go.Parse
open Go.VM Go.Lex Go.Ast
theorem sQ {c:UInt8} (h:bJ c=true) (s:List UInt8):nb (tokens (c::s))=nb (tokens s):=by
 have h1:cut (c::s)=(1,wh bJ (c::s)):=by simp only [cut,h,if_true]
 have h2:wh bJ (c::s)=wh bJ s+1:=by simp [wh,h]
 rw [gE,h1,dU,if_pos rfl,h2,List.drop_succ_cons]
 cases s with
 | nil=>rfl
 | cons d l=>
  cases hd:bJ d with
  | false=>
   have:wh bJ (d::l)=0:=Ln hd
   rw [this];rfl
  | true=>
   have h3:cut (d::l)=(1,wh bJ (d::l)):=by simp only [cut,hd,if_true]
   rw [gE (c:=d),h3,dU,if_pos rfl]
theorem EV: ∀(r:List aQ),nb (glue r)=nb r
 | []=>rfl
 | [t]=>by
  simp only [glue]
  split
  ·rename_i h
   rw [dU,dU,if_pos rfl,if_pos h]
  ·rename_i h
   rw [dU,if_neg h,dU (t:=t),if_neg h,dU,if_pos rfl]
 | t::u::l=>by
  have ih:=EV (u::l)
  show nb (t::glue (u::l))=nb (t::u::l)
  rw [dU,dU,ih]
theorem E4 {c d:UInt8} {l:List UInt8} (h1:bJ c=false) (h2:(c::d::l).take 2≠[40,42]) (h3:jW c=false) (h4:bm c=false) (h5:c≠34) (h6:jV.contains [c,d]=false) (h7:kJ c=true):tokens (c::d::l)=(8,[c])::tokens (d::l):=by
 have hc:cut (c::d::l)=(8,1):=by
  have e:(c::d::l).take 2=[c,d]:=rfl
  rw [e] at h2
  simp only [cut,h1,Bool.false_eq_true,if_false,h3,h4,if_neg h5,e,h6,h7,if_true,if_neg h2]
 rw [gE,hc]
 rfl
def iK:List UInt8:=[108,101,116,32,120,32,61,32]
def sr:List aQ:=[(3,fE),(4,[120]),(8,iw)]
theorem Il (z:List UInt8):nb (tokens (iK++z))=sr++nb (tokens (32::z)):=by
 have h1:tokens (iK++z)=(3,fE)::tokens (32::120::32::61::32::z):=by
  have:=Er (32::120::32::61::32::z)
  exact this
 have h2:nb (tokens (32::120::32::61::32::z))=nb (tokens (120::32::61::32::z)):=sQ rfl _
 have h3:tokens (120::32::61::32::z)=(4,[120])::tokens (32::61::32::z):=by
  rw [gE];rfl
 have h4:nb (tokens (32::61::32::z))=nb (tokens (61::32::z)):=sQ rfl _
 have h5:tokens (61::32::z)=(8,[61])::tokens (32::z):=E4 rfl (by simp) rfl rfl (by decide) rfl rfl
 rw [h1,dU,if_neg (by decide),h2,h3,dU,if_neg (by decide),h4,h5,dU,if_neg (by decide)]
 rfl
theorem LM {z:List UInt8} (hz:z≠[]) (h:z.head?≠some 42):nb (tokens (32::40::z))=(8,cy)::nb (tokens z):=by
 rw [sQ rfl]
 cases z with
 | nil=>exact absurd rfl hz
 | cons d l=>
  have:tokens (40::d::l)=(8,[40])::tokens (d::l):=E4 rfl (by
   intro e
   have:d=42:=by simpa using e
   exact h (by rw [this];rfl)) rfl rfl (by decide) (by
   simp [jV]) rfl
  rw [this,dU,if_neg (by decide)]
  rfl
theorem M6 {r:List aQ} {t:aQ} (h:t∈r) (h1:t.1≠1):t∈nb r:=List.mem_filter.2 ⟨h,by simp [OY,h1]⟩
theorem Jy {r:List aQ} {t:aQ} (h:t∈nb r):t∈r:=(List.mem_filter.1 h).1
theorem Oc {s:List UInt8} (hs:cG s=true) (h9: ∀t∈tokens s,t.1≠9) (h:s.head?≠some 42):nb (tokens (iK++(40::(s++[10,41]))))=sr++(8,cy)::(nb (tokens s)++[(8,cj)]):=by
 have hg:tokens (s++10::[41])=glue (tokens s)++tokens [41]:=BR (by rfl) s.length s (Nat.le_refl _) hs h9
 have hc:tokens [41]=[(8,cj)]:=rfl
 rw [Il,LM (by simp) (by
  cases s with
  | nil=>decide
  | cons c l=>exact h)]
 show sr++(8,cy)::nb (tokens (s++10::[41]))= _
 rw [hg,On,EV,hc]
 rfl
def fB (r:List aQ):List aQ:=r.takeWhile nz++[(8,cj)]
theorem EU {r:List aQ} (h:IQ r):fB r=r++[(8,cj)]:=by
 unfold fB
 have:r.takeWhile nz=r:=by
  have:=vu (p:=nz) (pre:=r) (rest:=[]) (fun x hx=>by
   have:=h x hx
   simp only [nz,bne_iff_ne,ne_eq];exact this)
  simpa using this
 rw [this]
theorem Db {r:List aQ} (h:(nx r).1=0):nx (fB r)=(8,cj)∧aN (fB r)=leaf (8,cj) ((r.takeWhile nz).map eR)∧aJ (fB r)=[]:=by
 have hall: ∀x∈r.takeWhile nz,aZ x=true:=by
  intro x hx
  have hr:=List.takeWhile_append_dropWhile (p:=aZ) (l:=r)
  rw [← hr,vu fun y hy=>Bh (rX hy)] at hx
  rcases List.mem_append.1 hx with hx | hx
  ·exact rX hx
  ·exfalso
   unfold nx at h
   cases e:r.dropWhile aZ with
   | nil=>rw [e] at hx;cases hx
   | cons t l=>
    rw [e] at h
    have hz:nz t=false:=by simp only [nz,h];rfl
    rw [e,List.takeWhile_cons,hz] at hx
    cases hx
 unfold fB
 exact gQ hall rfl
theorem H3:Nq fB:=by
 have key: ∀{pre:List aQ} {t:aQ} {rest:List aQ},(∀x∈pre,aZ x=true)→aZ t=false→t.1≠0→fB (pre++t::rest)=pre++t::fB rest:=by
  intro pre t rest hp ht h0
  unfold fB
  rw [vu fun x hx=>Bh (hp x hx),List.takeWhile_cons,if_pos (by simp only [nz,bne_iff_ne,ne_eq];exact h0),List.append_assoc]
  rfl
 refine ⟨fun r h=> ?_,fun r h=> ?_,fun r h=> ?_,fun r h=>(Db h).1⟩
 ·obtain ⟨pre,t,rest,rfl,hp,ht,h0⟩:=AJ h
  rw [key hp ht h0,(gQ hp ht).1,(gQ hp ht).1]
 ·obtain ⟨pre,t,rest,rfl,hp,ht,h0⟩:=AJ h
  rw [key hp ht h0,(gQ hp ht).2.1,(gQ hp ht).2.1]
 ·obtain ⟨pre,t,rest,rfl,hp,ht,h0⟩:=AJ h
  rw [key hp ht h0,(gQ hp ht).2.2,(gQ hp ht).2.2]
theorem xJ {r:List aQ} (h:bN cj r=true) {l:List (List UInt8)} (hl:cj∉l):isAny l r=false:=by
 unfold bN at h
 simp only [Bool.and_eq_true,beq_iff_eq] at h
 unfold isAny
 rw [h.2]
 have:(l.any fun s=>s==cj)=false:=by
  rw [List.any_eq_false]
  intro x hx
  simp only [beq_iff_eq]
  rintro rfl
  exact hl hx
 rw [this,Bool.and_false]
theorem wS {r:List aQ} (h:bN cj r=true) {s:List UInt8} (hs:s≠cj):bN s r=false:=by
 unfold bN at h ⊢
 simp only [Bool.and_eq_true,beq_iff_eq] at h
 rw [h.2]
 have:(cj==s)=false:=beq_eq_false_iff_ne.2 fun e=>hs e.symm
 rw [this,Bool.and_false]
theorem uL {r:List aQ} (h:bN cj r=true) (pat:Bool):bw pat r=false:=by
 have ha:=xJ h (l:=[mW,jC,cy,jb,if pat then yj else cy]) (by cases pat <;> decide)
 unfold bN at h
 simp only [Bool.and_eq_true,Bool.or_eq_true,beq_iff_eq] at h
 unfold bw
 rw [ha]
 rcases h.1 with h | h <;> rw [h] <;> cases pat <;> rfl
theorem LI (k:Nat):cj∉opsOf k:=by
 unfold opsOf
 split <;> decide
theorem OA: ∀(N:Nat) (d:Nat) (r:List aQ) (x:List T×List aQ),bN cj r=true→
  (∀k,P N (.level k) d r=some x→x=([missing hH],r))∧(P N .neg d r=some x→x=([missing hH],r))∧(∀k t,P N (.ops k t) d r=some x→x=([t],r))∧(∀t,P N (.args t) d r=some x→x=([t],r))∧(∀pat,P N (.atom pat) d r=some x→x=([missing (if pat then gr else hH)],r)):=by
 intro N
 induction N with
 | zero=>intro d r x _;exact ⟨fun _ h=>(by cases h),fun h=>(by cases h),fun _ _ h=>(by cases h),fun _ h=>(by cases h),fun _ h=>(by cases h)⟩
 | succ n ih=>
  intro d r x h0
  have hops: ∀k t,P (n+1) (.ops k t) d r=some x→x=([t],r):=fun k t h=>by
   simp only [P,xJ h0 (LI k),Bool.false_eq_true,if_false] at h
   exact (Option.some.inj h).symm
  have hargs: ∀t,P (n+1) (.args t) d r=some x→x=([t],r):=fun t h=>by
   simp only [P,uL h0,Bool.false_eq_true,if_false] at h
   exact (Option.some.inj h).symm
  have hatom: ∀pat,P (n+1) (.atom pat) d r=some x→x=([missing (if pat then gr else hH)],r):=fun pat h=>by
   simp only [P,uL h0,Bool.false_eq_true,if_false] at h
   exact (Option.some.inj h).symm
  refine ⟨fun k h=> ?_,fun h=> ?_,hops,hargs,hatom⟩
  ·simp only [P] at h
   split at h
   ·exact (ih d r x h0).2.1 h
   ·obtain ⟨⟨a,r1⟩,e1,h⟩:=bind_some h
    have h1:=(ih d r (a,r1) h0).1 _ e1
    cases h1
    exact (ih d r x h0).2.2.1 _ _ h
  ·simp only [P,xJ h0 (l:=[[45],[45,46]]) (by decide),Bool.false_eq_true,if_false] at h
   obtain ⟨⟨a,r1⟩,e1,h⟩:=bind_some h
   have h1:=(ih d r (a,r1) h0).2.2.2.2 false e1
   cases h1
   exact (ih d r x h0).2.2.2.1 _ h
theorem Cq {N d:Nat} {r:List aQ} {l:List T} {r':List aQ} (h0:bN cj r=true) (h:P N .expr d r=some (l,r')):aX l=false:=by
 cases N with
 | zero=>cases h
 | succ n=>
  simp only [P] at h
  split at h
  ·cases h;rw [aO,dQ]
  ·cases n with
   | zero=>cases h
   | succ n=>
    simp only [P,wS h0 (s:=fE) (by decide),wS h0 (s:=Ep) (by decide),wS h0 (s:=Ou) (by decide),wS h0 (s:=rM) (by decide),Bool.false_eq_true,if_false] at h
    have:=(OA n (d+1) r (l,r') h0).1 _ h
    cases this;rfl
abbrev Pd (job:gX) (d:Nat) (r:List aQ) (x:List T×List aQ):Prop:= ∃n,P n job d r=some x
theorem Pd.uniq {job:gX} {d:Nat} {r:List aQ} {x y:List T×List aQ} (h:Pd job d r x) (k:Pd job d r y):x=y:=by
 obtain ⟨n,h⟩:=h
 obtain ⟨m,k⟩:=k
 have h1:=r9 _ _ _ _ _ h (max n m) (Nat.le_max_left _ _)
 have k1:=r9 _ _ _ _ _ k (max n m) (Nat.le_max_right _ _)
 rw [h1] at k1
 exact Option.some.inj k1
theorem Pd.level {d:Nat} {r r':List aQ} {t:T} (h:Pd .neg d r ([t],r')) (ho: ∀j,isAny (opsOf j) r'=false): ∀j k,k+j=7→Pd (.level k) d r ([t],r')
 | 0,k,hk=>by
  obtain ⟨n,h⟩:=h
  refine ⟨n+1, ?_⟩
  have:k=7:=by omega
  subst this
  simp only [P,if_true]
  exact h
 | j+1,k,hk=>by
  obtain ⟨n,h⟩:=Pd.level h ho j (k+1) (by omega)
  refine ⟨n+2, ?_⟩
  have h1:=r9 _ _ _ _ _ h (n+1) (by omega)
  rw [P,if_neg (by omega),ax h1]
  simp only [P,ho,Bool.false_eq_true,if_false]
theorem tY: ∀(N k d:Nat) (r:List aQ) (l:List T) (r':List aQ),P N (.level k) d r=some (l,r')→aX l=true→ ∃n l' r'',P n .neg d r=some (l',r'')∧aX l'=true
 | 0,_,_,_,_,_,h,_=>by cases h
 | n+1,k,d,r,l,r',h,hg=>by
  simp only [P] at h
  split at h
  ·exact ⟨n,l,r',h,hg⟩
  ·obtain ⟨⟨a,r1⟩,e1,h⟩:=bind_some h
   dsimp only at h
   split at h
   ·have hga:=iR _ _ _ _ _ _ h hg
    exact tY n _ _ _ _ _ e1 hga
   ·cases h
section
variable {b r2:List aQ} {e:T}
theorem jD (b:List aQ):nx ((8,cy)::fB b)=(8,cy)∧aN ((8,cy)::fB b)=leaf (8,cy) []∧aJ ((8,cy)::fB b)=fB b:=
 gQ (pre:=[]) (t:=(8,cy)) (rest:=fB b) (fun _ h=>by cases h) rfl
theorem pI (b:List aQ) {s:List UInt8} (h:s≠cy):bN s ((8,cy)::fB b)=false:=by
 unfold bN
 rw [(jD b).1]
 have:(cy==s)=false:=beq_eq_false_iff_ne.2 fun e=>h e.symm
 simp [this]
theorem Cb (b:List aQ) {l:List (List UInt8)} (h:cy∉l):isAny l ((8,cy)::fB b)=false:=by
 unfold isAny
 rw [(jD b).1]
 have:(l.any fun s=>s==cy)=false:=by
  rw [List.any_eq_false]
  intro x hx
  simp only [beq_iff_eq]
  rintro rfl
  exact h hx
 rw [this,Bool.and_false]
theorem uS (b:List aQ):bw false ((8,cy)::fB b)=true:=by
 unfold bw isAny
 rw [(jD b).1]
 decide
theorem FF (b:List aQ):bN cy ((8,cy)::fB b)=true:=by
 unfold bN
 rw [(jD b).1]
 decide
theorem Kn (h:Pd .expr 1 (fB b) ([e],fB r2)) (h0:(nx r2).1=0) (hc:bN cj (fB b)=false):Pd .expr 0 ((8,cy)::fB b) ([node 14 [leaf (8,cy) [],e,leaf (8,cj) ((r2.takeWhile nz).map eR)]],[]):=by
 obtain ⟨n,h⟩:=h
 obtain ⟨o1,o2,o3⟩:=jD b
 obtain ⟨c1,c2,c3⟩:=Db h0
 have hsc:bN cj (fB r2)=true:=by unfold bN;rw [c1];decide
 have hcomma:bN H4 (fB r2)=false:=wS hsc (by decide)
 have hcl:P (n+2) (.closed false false) 1 ((8,cy)::fB b)=some ([node 14 [leaf (8,cy) [],e,leaf (8,cj) ((r2.takeWhile nz).map eR)]],[]):=by
  have h1:=r9 _ _ _ _ _ h (n+1) (by omega)
  simp only [P,o2,o3,gG,Bool.false_eq_true,if_false,hc]
  show ((P (n+1) .expr 1 (fB b)) >>= _)= _
  rw [ax h1]
  simp only [P,tu,Bool.false_eq_true,if_false,hcomma]
  have hn:bX cj (fB r2)=leaf (8,cj) ((r2.takeWhile nz).map eR):=by unfold bX;rw [hsc,if_pos rfl,c2]
  have hr:aT cj (fB r2)=[]:=by unfold aT;rw [hsc,if_pos rfl,c3]
  show some ([node (kindOf false false) (leaf (8,cy) []::[e]++[]++[bX cj (fB r2)])],aT cj (fB r2))= _
  rw [hn,hr]
  rfl
 have hat:P (n+3) (.atom false) 1 ((8,cy)::fB b)=some ([node 14 [leaf (8,cy) [],e,leaf (8,cj) ((r2.takeWhile nz).map eR)]],[]):=by
  rw [P,uS,if_pos rfl,o1,if_neg (by decide),FF,if_pos rfl]
  exact hcl
 have hne:Pd .neg 1 ((8,cy)::fB b) ([node 14 [leaf (8,cy) [],e,leaf (8,cj) ((r2.takeWhile nz).map eR)]],[]):=by
  refine ⟨n+4, ?_⟩
  rw [P,Cb b (by decide),if_neg (by simp),ax hat]
  show P (n+3) (.args _) 1 []= _
  rw [P]
  rfl
 obtain ⟨m,hl⟩:=hne.level (fun j=>nL rfl) 7 0 rfl
 refine ⟨m+2, ?_⟩
 rw [P,if_neg (by decide),P,pI b (by decide),if_neg (by simp),pI b (by decide),if_neg (by simp),pI b (by decide),if_neg (by simp),pI b (by decide),if_neg (by simp)]
 exact hl
theorem Oz {l:List T} {r':List aQ} (h:Pd .expr 0 ((8,cy)::fB b) (l,r')) (hg:aX l=true) (hc:bN cj (fB b)=false): ∃l1 r1,Pd .expr 1 (fB b) (l1,r1)∧aX l1=true:=by
 obtain ⟨o1,o2,o3⟩:=jD b
 obtain ⟨n,h⟩:=h
 cases n with
 | zero=>cases h
 | succ n=>
 rw [P,if_neg (by decide)] at h
 cases n with
 | zero=>cases h
 | succ n=>
 rw [P,pI b (by decide),if_neg (by simp),pI b (by decide),if_neg (by simp),pI b (by decide),if_neg (by simp),pI b (by decide),if_neg (by simp)] at h
 obtain ⟨n,l',r'',h,hg⟩:=tY _ _ _ _ _ _ h hg
 cases n with
 | zero=>cases h
 | succ n=>
 rw [P,Cb b (by decide),if_neg (by simp)] at h
 obtain ⟨⟨a,r1⟩,e1,h⟩:=bind_some h
 dsimp only at h
 split at h
 ·have hga:=iR _ _ _ _ _ _ h hg
  cases n with
  | zero=>cases e1
  | succ n=>
  rw [P,uS,if_pos rfl,o1,if_neg (by decide),FF,if_pos rfl] at e1
  cases n with
  | zero=>cases e1
  | succ n=>
  simp only [P,o2,o3,gG,Bool.false_eq_true,if_false,hc] at e1
  obtain ⟨⟨a2,r3⟩,f1,e1⟩:=bind_some e1
  obtain ⟨⟨bs,r4⟩,f2,e1⟩:=bind_some e1
  cases e1
  simp only [dn,aO] at hga
  have hga:=aS hga
  simp only [aW,aX,Bool.and_eq_true,Bool.and_true] at hga
  exact ⟨a2,r3,⟨n,f1⟩,hga.1.1.2⟩
 ·cases h
end
theorem Bb (d:Nat) (r:List aQ): ∃x,Pd .expr d r x:=by
 obtain ⟨l,r',h,_⟩:=(Mn (16 * r.length+dN .expr+1) .expr d r trivial trivial (by omega)).some
 exact ⟨_,_,h⟩
theorem KC (X:List aQ):nx ((4,[120])::(8,iw)::X)=(4,[120])∧aN ((4,[120])::(8,iw)::X)=leaf (4,[120]) []∧aJ ((4,[120])::(8,iw)::X)=(8,iw)::X:=
 gQ (pre:=[]) (t:=(4,[120])) (rest:=(8,iw)::X) (fun _ h=>by cases h) rfl
theorem Ky (X:List aQ):nx ((8,iw)::X)=(8,iw)∧aN ((8,iw)::X)=leaf (8,iw) []∧aJ ((8,iw)::X)=X:=
 gQ (pre:=[]) (t:=(8,iw)) (rest:=X) (fun _ h=>by cases h) rfl
theorem KP (X:List aQ):nx ((3,fE)::X)=(3,fE)∧aN ((3,fE)::X)=leaf (3,fE) []∧aJ ((3,fE)::X)=X:=
 gQ (pre:=[]) (t:=(3,fE)) (rest:=X) (fun _ h=>by cases h) rfl
theorem Jh {X:List aQ} {es:List T} {r2:List aQ} (h:Pd .expr 0 X (es,r2)):Pd .binding 0 ((4,[120])::(8,iw)::X) ([leaf (4,[120]) [],leaf (8,iw) []]++es,r2):=by
 obtain ⟨n,h⟩:=h
 obtain ⟨x1,x2,x3⟩:=KC X
 obtain ⟨q1,q2,q3⟩:=Ky X
 refine ⟨n+2, ?_⟩
 have hr:bN dh ((4,[120])::(8,iw)::X)=false:=by unfold bN;rw [x1];decide
 have hb:bw true ((8,iw)::X)=false:=by unfold bw isAny;rw [q1];decide
 have hq:bN iw ((8,iw)::X)=true:=by unfold bN;rw [q1];decide
 have hp:P (n+1) .params 0 ((8,iw)::X)=some ([],(8,iw)::X):=by
  rw [P,hb,if_neg (by simp)]
 have hn:aT iw ((8,iw)::X)=X:=by unfold aT;rw [hq,if_pos rfl,q3]
 have ht:bX iw ((8,iw)::X)=leaf (8,iw) []:=by unfold bX;rw [hq,if_pos rfl,q2]
 have h1:=r9 _ _ _ _ _ h (n+1) (by omega)
 rw [P]
 simp only [hr,Bool.false_eq_true,if_false,x1,if_true,x2,x3]
 rw [ax hp]
 show ((P (n+1) .expr 0 (aT iw ((8,iw)::X))) >>= _)= _
 rw [hn,ax h1,ht]
 rfl
theorem Gf {X:List aQ} {bs:List T} {r1:List aQ} {k:List T} (h:Pd .binding 0 X (bs,r1)) (hk: ∃n,decls n r1=some k): ∃n,decls n ((3,fE)::X)=some (node 5 (leaf (3,fE) []::bs)::k):=by
 obtain ⟨n,h⟩:=h
 obtain ⟨m,hk⟩:=hk
 obtain ⟨l1,l2,l3⟩:=KP X
 have h1:=r9 _ _ _ _ _ h (max n m) (Nat.le_max_left _ _)
 have k1:=lA _ _ _ hk (max n m) (Nat.le_max_right _ _)
 have hl:bN fE ((3,fE)::X)=true:=by unfold bN;rw [l1];decide
 refine ⟨max n m+1, ?_⟩
 rw [decls,l1,if_neg (by decide),hl,if_pos rfl,l3,l2,ax h1]
 dsimp only
 rw [ax k1]
theorem vJ {X:List aQ} {es:List T} {r2:List aQ} {k:List T} (h:Pd .expr 0 X (es,r2)) (hk: ∃n,decls n r2=some k):doc (sr++X)=node 4 (node 5 (leaf (3,fE) []::([leaf (4,[120]) [],leaf (8,iw) []]++es))::k):=by
 obtain ⟨n,hn⟩:=Gf (Jh h) hk
 exact y8 hn
theorem L3 (a:Nat) (l:List T):(kM a (node 5 l)).length=1:=by
 rw [kM,if_pos rfl];rfl
theorem J1 (p q:Nat) (e:T):Go.Ast.kL (bW p e)=Go.Ast.kL (bW q e):=by rw [← rW e p 0, ← rW e q 0]
theorem JT {b:List aQ} (hz:IQ b) (hg:cI (doc (sr++b))=true) (h1:(dY 0 (doc (sr++b)).kids).length=1):
  (cI (doc (sr++(8,cy)::(b++[(8,cj)])))=true∧(dY 0 (doc (sr++(8,cy)::(b++[(8,cj)]))).kids).map vg=(dY 0 (doc (sr++b)).kids).map vg)∨
  (cI (doc (sr++(8,cy)::(b++[(8,cj)])))=false∧50 < mO b):=by
 obtain ⟨⟨es,r2⟩,hx⟩:=Bb 0 b
 obtain ⟨k,hk⟩: ∃k,decls (17 * r2.length+16+1) r2=some k:=qg _ _ (by omega)
 have hd:=vJ hx ⟨_,hk⟩
 rw [hd] at hg h1
 have hg4:=aS hg
 simp only [aX,Bool.and_eq_true] at hg4
 have hg5:=aS hg4.1
 simp only [List.cons_append,List.nil_append,aX,Bool.and_eq_true] at hg5
 have hges:aX es=true:=hg5.2.2.2
 obtain ⟨N,hx⟩:=hx
 obtain ⟨e,rfl⟩:=fK _ _ _ _ _ _ hx rfl
 have hk1:(nx r2).1=0∧k=[aN r2]:=by
  have h1:(kM 0 (node 5 (leaf (3,fE) []::([leaf (4,[120]) [],leaf (8,iw) []]++[e])))++dY (0+(bY (node 5 (leaf (3,fE) []::([leaf (4,[120]) [],leaf (8,iw) []]++[e])))).length) k).length=1:=h1
  rw [List.length_append,L3] at h1
  rw [decls] at hk
  split at hk
  ·rename_i h0
   cases hk
   exact ⟨h0,rfl⟩
  split at hk
  ·obtain ⟨⟨bs,r3⟩,f1,hk⟩:=bind_some hk
   obtain ⟨k',f2,hk⟩:=bind_some hk
   cases hk
   exfalso
   rw [dY,List.length_append,L3] at h1
   omega
  ·obtain ⟨k',f2,hk⟩:=bind_some hk
   cases hk
   have:=hg4.2
   simp only [aX,Bool.and_eq_true] at this
   cases this.1
 obtain ⟨h0,rfl⟩:=hk1
 have hb:(nx b).1≠0:=fun h=>by
  have:=zy (pat:=false) h hx
  rw [hges] at this;cases this
 have hcb:bN cj b=false:=by
  cases hc:bN cj b with
  | false=>rfl
  | true=>
   have:=Cq hc hx
   rw [hges] at this;cases this
 have hcl:=H3
 have hc:bN cj (fB b)=false:=by rw [hcl.QX hb];exact hcb
 have hclo:P N .expr 0 (fB b)=some ([e],fB r2):=Py hcl _ _ _ _ _ _ hx trivial hges
 obtain ⟨⟨l1,r1⟩,hy⟩:=Bb 1 (fB b)
 have hge:cI e=true:=by rw [aO] at hges;exact hges
 rw [← EU hz]
 have hnil: ∃n,decls n []=some [aN []]:=⟨1,rfl⟩
 cases hg1:aX l1 with
 | true=>
  left
  obtain ⟨M,hM⟩:=id hy
  have hs:=Hk _ _ _ _ _ _ hM (by omega) hg1
  have hu:=Pd.uniq ⟨M,hs⟩ ⟨N,hclo⟩
  cases hu
  have hyes:=Kn hy h0 hc
  have hd2:=vJ hyes hnil
  rw [hd2,hd]
  refine ⟨?_, ?_⟩
  ·rw [tH (by decide) (by decide)]
   simp only [aX,tH (show (5:Nat)≠2 by decide) (show (5:Nat)≠3 by decide),List.cons_append,List.nil_append,tH (show (14:Nat)≠2 by decide) (show (14:Nat)≠3 by decide),hge]
   have hlv: ∀(r:List aQ),(∀x∈r,aZ x=true)→aX (r.map eR)=true:=by
    intro r
    induction r with
    | nil=>intro _;rfl
    | cons t r ih=>
     intro h
     have ht:=h t (by simp)
     have h9:t.1≠9:=by
      intro e9
      simp [aZ,e9] at ht
     simp only [List.map_cons,aX,ih fun x hx=>h x (List.mem_cons_of_mem _ hx),eR,leaf,cI]
     simp [h9]
   have hall: ∀x∈r2.takeWhile nz,aZ x=true:=by
    intro x hx
    have hr:=List.takeWhile_append_dropWhile (p:=aZ) (l:=r2)
    rw [← hr,vu fun y hy=>Bh (rX hy)] at hx
    rcases List.mem_append.1 hx with hx | hx
    ·exact rX hx
    ·exfalso
     unfold nx at h0
     cases e:r2.dropWhile aZ with
     | nil=>rw [e] at hx;cases hx
     | cons t l=>
      rw [e] at h0
      have hz:nz t=false:=by simp only [nz,h0];rfl
      rw [e,List.takeWhile_cons,hz] at hx
      cases hx
   have hc2:cI (leaf (8,cj) ((r2.takeWhile nz).map eR))=true:=by
    simp only [leaf,cI,hlv _ hall];rfl
   rw [hc2]
   rfl
  ·show (kM 0 _++dY _ [_]).map vg=(kM 0 _++dY _ [_]).map vg
   have hlast: ∀a r,dY a [aN r]=[]:=fun a r=>rfl
   rw [hlast,hlast,List.append_nil,List.append_nil,kM,kM,if_pos rfl,if_pos rfl]
   have hb1: ∀(p:Nat) (t:T),(lO [leaf (3,fE) [],leaf (4,[120]) [],leaf (8,iw) [],t] (ow 0 [leaf (3,fE) [],leaf (4,[120]) [],leaf (8,iw) [],t]) (fU 0 [leaf (3,fE) [],leaf (4,[120]) [],leaf (8,iw) [],t]))=(false,[gC 3 (leaf (4,[120]) [])],bW 5 t):=fun p t=>rfl
   simp only [List.cons_append,List.nil_append,hb1 0,List.map_cons,List.map_nil,vg]
   have h14:bW 5 (node 14 [leaf (8,cy) [],e,leaf (8,cj) ((r2.takeWhile nz).map eR)])=bW 6 e:=rfl
   rw [h14,J1 6 5]
 | false=>
  right
  constructor
  ·cases hgd:cI (doc (sr++(8,cy)::fB b)) with
   | false=>rfl
   | true=>
    exfalso
    obtain ⟨⟨es2,r4⟩,hx2⟩:=Bb 0 ((8,cy)::fB b)
    obtain ⟨k2,hk2⟩: ∃k,decls (17 * r4.length+17) r4=some k:=qg _ _ (by omega)
    rw [vJ hx2 ⟨_,hk2⟩] at hgd
    have hgd4:=aS hgd
    simp only [aX,Bool.and_eq_true] at hgd4
    have hgd5:=aS hgd4.1
    simp only [List.cons_append,List.nil_append,aX,Bool.and_eq_true] at hgd5
    obtain ⟨l1',r1',hy',hgy⟩:=Oz hx2 hgd5.2.2.2 hc
    have:=Pd.uniq hy hy'
    cases this
    rw [hg1] at hgy;cases hgy
  ·by_cases hw:50 < mO b
   ·exact hw
   ·exfalso
    have hwc:mO (fB b)=mO b:=by
     rw [EU hz]
     have: ∀(r:List aQ),mO (r++[(8,cj)])=mO r:=by
      intro r
      induction r with
      | nil=>rfl
      | cons t r ih=>simp only [List.cons_append,mO,ih]
     exact this b
    have:=JM _ _ _ _ _ _ hclo trivial hges (by simp only [cJ];omega)
    have hu:=Pd.uniq hy ⟨_,this⟩
    cases hu
    rw [hges] at hg1;cases hg1
theorem Ht {b:List aQ} (h:nx b=(8,[42])∨nx b=(8,[42,46])) {N d:Nat} {l:List T} {r':List aQ} (hp:P N .expr d b=some (l,r')):aX l=false:=by
 cases hg:aX l with
 | false=>rfl
 | true=>
  exfalso
  have hs: ∀s:List UInt8,s≠[42]→s≠[42,46]→bN s b=false:=fun s h1 h2=>by
   unfold bN
   rcases h with h | h
   ·rw [h]
    have:(([42]:List UInt8)==s)=false:=beq_eq_false_iff_ne.2 fun e=>h1 e.symm
    simp [this]
   ·rw [h]
    have:(([42,46]:List UInt8)==s)=false:=beq_eq_false_iff_ne.2 fun e=>h2 e.symm
    simp [this]
  have hn:isAny [[45],[45,46]] b=false:=by
   unfold isAny
   rcases h with h | h <;> rw [h] <;> decide
  have hb:bw false b=false:=by
   unfold bw isAny
   rcases h with h | h <;> rw [h] <;> decide
  cases N with
  | zero=>cases hp
  | succ n=>
   rw [P] at hp
   split at hp
   ·cases hp;rw [aO,dQ] at hg;cases hg
   cases n with
   | zero=>cases hp
   | succ n=>
    rw [P,hs fE (by decide) (by decide),if_neg (by simp),hs Ep (by decide) (by decide),if_neg (by simp),hs Ou (by decide) (by decide),if_neg (by simp),hs rM (by decide) (by decide),if_neg (by simp)] at hp
    obtain ⟨n,l',r'',hp,hg⟩:=tY _ _ _ _ _ _ hp hg
    cases n with
    | zero=>cases hp
    | succ n=>
     rw [P,hn,if_neg (by simp)] at hp
     obtain ⟨⟨a,r1⟩,e1,hp⟩:=bind_some hp
     dsimp only at hp
     split at hp
     ·have hga:=iR _ _ _ _ _ _ hp hg
      cases n with
      | zero=>cases e1
      | succ n=>
       rw [P,hb,if_neg (by simp)] at e1
       cases e1
       cases hga
     ·cases hp
theorem Co (l:List UInt8): ∃r,tokens (42::l)=(8,[42])::r∨tokens (42::l)=(8,[42,46])::r:=by
 cases l with
 | nil=>exact ⟨[],.inl rfl⟩
 | cons d l=>
  have e:(42::d::l).take 2=[42,d]:=rfl
  by_cases h:d=46
  ·subst h
   have hc:cut (42::46::l)=(8,2):=by
    simp only [cut,show bJ 42=false from rfl,Bool.false_eq_true,if_false,e,if_neg (show ¬ ([42,46]:List UInt8)=[40,42] by decide),show jW 42=false from rfl,show bm 42=false from rfl,if_neg (show ¬ (42:UInt8)=34 by decide),show jV.contains [42,46]=true from rfl,if_true]
   refine ⟨tokens l,.inr ?_⟩
   rw [gE,hc]
   rfl
  ·have hc:cut (42::d::l)=(8,1):=by
    have h1:¬ ([42,d]:List UInt8)=[40,42]:=by simp
    have h2:jV.contains [42,d]=false:=by
     simp [jV,h]
    simp only [cut,show bJ 42=false from rfl,Bool.false_eq_true,if_false,e,if_neg h1,show jW 42=false from rfl,show bm 42=false from rfl,if_neg (show ¬ (42:UInt8)=34 by decide),h2,show kJ 42=true from rfl,if_true]
   refine ⟨tokens (d::l),.inl ?_⟩
   rw [gE,hc]
   rfl
theorem Jv: ∀(a b:List UInt8),wB (a++b)=wB a+wB b
 | [],b=>by simp [wB]
 | c::a,b=>by simp only [List.cons_append,wB,Jv a b];omega
theorem zM: ∀(r:List aQ),mO r=wB (db r)
 | []=>rfl
 | t::r=>by rw [pt,Jv,mO,zM r]
theorem IP: ∀(r:List aQ),mO (nb r)≤mO r
 | []=>Nat.le_refl _
 | t::r=>by
  have:=IP r
  rw [dU]
  split
  ·simp only [mO];omega
  ·simp only [mO];omega
theorem H8 (s:List UInt8):mO (nb (tokens s))≤wB s:=by
 have h:=IP (tokens s)
 rw [zM (tokens s),oM] at h
 exact h
theorem PZ (r:List aQ):nb (nb r)=nb r:=by
 unfold nb
 rw [List.filter_filter]
 simp
theorem FB (r:List aQ):cI (doc (nb r))=cI (doc r):=by rw [Ed,yF]
theorem um (r:List aQ):(dY 0 (doc (nb r)).kids).map vg=(dY 0 (doc r).kids).map vg:=Eg (PZ r)
theorem IB {s:List UInt8} (hs:cG s=true) (hg:cI (doc (tokens (iK++s)))=true) (h1:(dY 0 (doc (tokens (iK++s))).kids).length=1):
  (cI (doc (tokens (iK++(40::(s++[10,41])))))=true∧(dY 0 (doc (tokens (iK++(40::(s++[10,41]))))).kids).map vg=(dY 0 (doc (tokens (iK++s))).kids).map vg)∨
  (cI (doc (tokens (iK++(40::(s++[10,41])))))=false∧50 < wB s):=by
 have e1:nb (tokens (iK++s))=sr++nb (tokens s):=by rw [Il,sQ rfl]
 have h9: ∀t∈tokens s,t.1≠9:=fun t ht h=>by
  have hb:=Nl _ (FI _ _ (Nat.lt_succ_self _) hg)
  have:t∈nb (tokens (iK++s)):=by
   rw [e1]
   exact List.mem_append_right _ (M6 ht (by omega))
  exact hb t (Jy this) h
 have hz:IQ (nb (tokens s)):=fun t ht=>nP s t (Jy ht)
 have hg':cI (doc (sr++nb (tokens s)))=true:=by rw [← e1,FB];exact hg
 have hh:s.head?≠some 42:=fun h=>by
  cases s with
  | nil=>cases h
  | cons c l=>
   simp only [List.head?_cons,Option.some.injEq] at h
   subst h
   obtain ⟨r,hr⟩:=Co l
   have hnx:nx (nb (tokens (42::l)))=(8,[42])∨nx (nb (tokens (42::l)))=(8,[42,46]):=by
    rw [mZ]
    rcases hr with hr | hr
    ·left;rw [hr];exact (gQ (pre:=[]) (fun _ h=>by cases h) rfl).1
    ·right;rw [hr];exact (gQ (pre:=[]) (fun _ h=>by cases h) rfl).1
   obtain ⟨⟨es,r2⟩,hx⟩:=Bb 0 (nb (tokens (42::l)))
   obtain ⟨k,hk⟩: ∃k,decls (17 * r2.length+17) r2=some k:=qg _ _ (by omega)
   rw [vJ hx ⟨_,hk⟩] at hg'
   have hg4:=aS hg'
   simp only [aX,Bool.and_eq_true] at hg4
   have hg5:=aS hg4.1
   simp only [List.cons_append,List.nil_append,aX,Bool.and_eq_true] at hg5
   obtain ⟨N,hx⟩:=hx
   have:=Ht hnx hx
   rw [hg5.2.2.2] at this
   cases this
 have e2:=Oc hs h9 hh
 have h1':(dY 0 (doc (sr++nb (tokens s))).kids).length=1:=by
  have:=congrArg List.length (um (tokens (iK++s)))
  rw [e1] at this
  simp only [List.length_map] at this
  rw [this];exact h1
 have hm:=JT hz hg' h1'
 rw [← e2, ← e1,FB,um,um] at hm
 rcases hm with hm | ⟨a,b⟩
 ·exact .inl hm
 ·exact .inr ⟨a,Nat.lt_of_lt_of_le b (H8 s)⟩
end Go.Parse
