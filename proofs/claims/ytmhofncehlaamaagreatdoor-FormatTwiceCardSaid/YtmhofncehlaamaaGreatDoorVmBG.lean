/-
  (A part of the proof: FormDoc, AstTold.)
-/
import Derived.Test.YtmhofncehlaamaaGreatDoorVmAA
import Derived.Test.YtmhofncehlaamaaGreatDoorVmBF
set_option linter.unusedSimpArgs false
namespace Go.Format
open Go.VM Go.Lex Go.Parse Go.Lay
def gT:List bc→Nat
 | []=>0
 | t::l=>t.2.length+gT l
theorem xK: ∀(l m:List bc),gT (l++m)=gT l+gT m
 | [],m=>by simp [gT]
 | t::l,m=>by simp only [Vz,gT,xK l m];omega
mutual
theorem ud: ∀(d:Lay.Doc),nz d=true→vY d≤gT (cr (fo d))+fV d
 | .mk k s m kids,h=>by
  simp only [nz,Vl] at h;obtain ⟨hok,hk⟩:=h;have ih:=G5 kids hk;unfold J6 at hok;rw [fo,vY,fV];by_cases h1:k=1
  ·rw [if_pos h1] at hok ⊢;simp only [Vl,List.isEmpty_iff] at hok;obtain ⟨⟨⟨⟨_,rfl⟩,_⟩,_⟩,_⟩:=hok;unfold tO;simp only [nv,bG];split
   ·rename_i e;subst e;simp [cr,gT]
   ·simp only [cr,gT];omega
  ·rw [if_neg h1] at hok ⊢;have hs:s=[]∧(k=2∨k=4→kids=[]):=by
    by_cases h2:k=2∨k=3∨k=4
    ·rw [if_pos h2] at hok;simp only [Vl,List.isEmpty_iff,V4] at hok;exact ⟨hok.2,fun _=>hok.1.2⟩
    ·rw [if_neg h2] at hok;refine ⟨?_,fun h=>absurd h (by omega)⟩;by_cases h5:k=5
     ·rw [if_pos h5] at hok;simp only [Vl,V4] at hok;exact hok.2
     ·rw [if_neg h5] at hok;split at hok
      ·simp only [Vl,V4] at hok;exact hok.2
      ·cases hok
   obtain ⟨rfl,hnil⟩:=hs;by_cases h24:k=2∨k=4
   ·rw [if_pos h24,hnil h24];simp [cr,gT,nv]
   ·rw [if_neg h24];simp only [Vj];omega
theorem G5: ∀(l:List Lay.Doc),pf l=true→nv l≤gT (cr (dc l))+bG l
 | [],_=>by simp [nv]
 | d::l,h=>by
  simp only [pf,Vl] at h;have a:=ud d h.1;have b:=G5 l h.2;rw [nv,dc,cw,xK,bG];omega
end
mutual
theorem Kr: ∀(d:Lay.Doc),OT d=true→DY d≤4 * fV d
 | .mk k s m kids,h=>by
  simp only [OT,Vl,V1] at h;have:=GH kids h.2;have h1:=h.1;simp only [DY,fV];omega
theorem GH: ∀(l:List Lay.Doc),F9 l=true→vN l≤4 * bG l
 | [],_=>by simp [vN]
 | d::l,h=>by
  simp only [F9,Vl] at h;have a:=Kr d h.1;have b:=GH l h.2;simp only [vN,bG];omega
end
theorem Ad: ∀(D:List Lay.Doc) (i:Nat),bG (cA i D)≤bG D+2 * D.length
 | [],i=>by simp [cA,bG]
 | d::D,i=>by
  have ih:=Ad D (i+1);have h1:fV KE=1:=rfl;rw [cA];split
  ·simp only [Vs,bG,h1,Vh];omega
  ·simp only [Vz,Vs,bG,h1,Vh];omega
theorem Da: ∀{D:List Lay.Doc} (i:Nat),sB D→sB (cA i D)
 | [],i,_=>en
 | d::D,i,h=>by
  rw [cA];refine oC ?_ (bJ (h d (by simp)) (bJ Ll (Da (i+1) fun x hx=>h x (Vy _ hx))));split
  ·exact en
  ·exact bJ Ll en
theorem Mr {l:List T} (h:BT Q1 l): ∀x∈l,sJ x:=by
 intro x hx;cases h with
 | mk hr hp hps hq he=>
  simp only [Vv,VE,VR,VJ,or_false] at hx;rcases hx with ((hx | rfl | hx) | rfl) | rfl
  ·rcases hr with rfl | ⟨r,hr,rfl⟩
   ·cases hx
   ·rw [VR.1 hx];exact Bi hr
  ·exact (ya _).2.1 _ (Wq _) hp
  ·exact (ya _).2.1 _ (Wq _) (hps x hx)
  ·exact Bi hq
  ·exact (ya _).1 _ (Wq _) he
theorem Sw {l:List T} (h:BT Q1 l):1≤l.length:=by
 cases h with
 | mk hr hp hps hq he=>simp only [Vg,Vh,Vj];omega
theorem zV {a:T} {bs:List T} (ha:Lf Q1 qZ a) (hb:BT Q1 bs):sJ (node 5 (a::bs)):=by
 have:=Sw hb;refine .node (by decide) (by simp only [Vh];omega) fun x hx=> ?_;rcases Vv.1 hx with rfl | hx
 ·exact Bi ha
 ·exact Mr hb x hx
theorem yP {a:T} {bs l:List T} (hl:l≠[]):dw (node 5 (a::bs)::l)=au (node 5 (a::bs))::dw l:=by
 unfold dw;cases l with
 | nil=>exact absurd rfl hl
 | cons x l=>
  have e1:(node 5 (a::bs)::x::l).length - 1=((x::l).length - 1)+1:=by simp
  rw [e1,W7,lO];rfl
theorem yj: ∀(l:List B),bG (l.map tx)=l.length
 | []=>rfl
 | x::l=>by
  rw [Vu,bG,yj l,FC,Vh];omega
theorem Ag: ∀(l:List T),DT Q1 l→bG (dw l)+2 * (dw l).length≤12 * (iO l).length
 | _,.last (ks:=ks) hv=>by
  obtain ⟨r,rfl,hr⟩:=hv;have e:dw [.mk 1 0 [] (r.map aT)]=(dP (r.map aT)).map tx:=rfl;have ef:iO [.mk 1 0 [] (r.map aT)]=iO (r.map aT):=by simp [iO,tV]
  have:=xw hr;rw [e,ef,yj,VL];omega
 | _,.cons (a:=a) (bs:=bs) (l:=l) ha hb hl=>by
  have ih:=Ag l hl;have hn:=J8 (zV ha hb);have hne:l≠[]:=by cases hl <;> simp
  rw [yP hne,bG,Vh,iO,Vg];omega
theorem Ed: ∀(l:List T),DT Q1 l→fu l=false→sB (dw l)
 | _,.last (ks:=ks) hv,he=>by
  obtain ⟨r,rfl,hr⟩:=hv;have e:dw [.mk 1 0 [] (r.map aT)]=(dP (r.map aT)).map tx:=rfl;rw [e];have he':fu (r.map aT)=false:=by
   simp only [fu,dn,V0] at he;exact he.1.2
  intro d hd;obtain ⟨s,hs,rfl⟩:=We.1 hd;exact Cv hr he' s hs
 | _,.cons (a:=a) (bs:=bs) (l:=l) ha hb hl,he=>by
  rw [fu,V0] at he;have hne:l≠[]:=by cases hl <;> simp
  rw [yP hne];exact bJ (Oj (zV ha hb) he.1) (Ed l hl he.2)
def ny (s:B):Lay.Doc:=row (cA 0 (dw (doc (tokens s)).kids))
theorem Sb (r:List bc):(nb r).length≤r.length:=List.length_filter_le _ _
theorem vC: ∀(r:List bc),gT r=((r.map (·.2)).flatten).length
 | []=>rfl
 | t::r=>by simp only [gT,vC r,Vu,List.flatten_cons,Vg]
theorem zZ: ∀(r:List bc),gT (nb r)≤gT r
 | []=>Vn _
 | t::r=>by
  have:=zZ r;rw [gV];split
  ·simp only [gT];omega
  ·simp only [gT];omega
theorem HW {s:B} (hv:bO s=true) (hg:dW (doc (tokens s))=true) (he:dn (doc (tokens s))=false):
  nz (ny s)=true∧fV (ny s)≤12 * s.length+1∧vY (ny s)≤13 * s.length+1∧DY (ny s)≤48 * s.length+4:=by
 obtain ⟨l,e1,e2⟩:=mE (tokens s);have h9:=KJ _ (Bo _ _ (Wq _) hg);have hq:=yf _ s (Vn _) hv h9;have hfl:=Ke s e2;rw [e2] at hg he;have hdt:=me (Q:=Q1) _ _ _ e1 (gS s) hq (dD hg);have hel:fu l=false:=by
  rw [node,dn,V0] at he;exact he.2
 have hk:(doc (tokens s)).kids=l:=by rw [e2];rfl
 have hms:=Fm (Da 0 (Ed l hdt hel));have hc:=Ag l hdt;have hc2:=Ad (dw l) 0;have ht:=Sb (tokens s);have htl:=Ap s;rw [hfl] at hc;have hcnt:fV (row (cA 0 (dw l)))≤12 * s.length+1:=by rw [BR];omega
 have hn:=Kr _ hms.2;have htx:=ud _ hms.1;obtain ⟨i1,i2⟩:=wW l hdt;obtain ⟨_,h2,_⟩:=yL (dw l) 0 i1;rw [QU,h2,i2,hfl] at htx;have h3:=zZ (tokens s);rw [vC (tokens s),qj _ s (Vn _)] at h3;unfold ny;rw [hk];exact ⟨hms.1,hcnt,by omega,by omega⟩
theorem KC (t:T):iE (cG t)=iE t:=by
 cases t with
 | mk k tk s l=>rw [cG];rfl
theorem rb: ∀(l:List T),dP (l.map cG)=dP l
 | []=>rfl
 | t::l=>by
  have ih:=rb l;unfold dP at ih ⊢;rw [Vu,Wr,Wr,KC,ih]
theorem wP (t:T):dP (cG t).kids=dP t.kids:=by
 cases t with
 | mk k tk s l=>
  rw [cG];show dP (if k=1 then l.filter fun t=> !ec t else pE l)=dP l;split
  ·exact Bu l
  ·rw [lz,rb]
theorem xR (l:List T):dw (l.map cG)=dw l:=by
 unfold dw;rw [VL, ← List.map_take,getD_map,wP, ← lz,pn]
theorem zG {r s:List bc} (h:nb r=nb s):(doc r).kids.map cG=(doc s).kids.map cG:=by
 have e:=Wb T.kids (zf h);rw [zN (by rw [Dd];decide),zN (by rw [Dd];decide)] at e;exact e
theorem OH {s t:B} (h:nb (tokens s)=nb (tokens t)):ny s=ny t:=by
 unfold ny;rw [← xR (doc (tokens s)).kids, ← xR (doc (tokens t)).kids,zG h]
theorem Iy {s t:B} (h:nb (tokens s)=nb (tokens t)):dW (doc (tokens s))=dW (doc (tokens t)):=by
 rw [← uZ (doc (tokens s)), ← uZ (doc (tokens t)),zf h]
theorem EM {s t:B} (h:nb (tokens s)=nb (tokens t)):dn (doc (tokens s))=dn (doc (tokens t)):=by
 rw [← sf (doc (tokens s)), ← sf (doc (tokens t)),zf h]
theorem wm (s:B):qW s=if 65536 < s.length then .error 40 else if bO s=true then (if dW (doc (tokens s))=true then (if dn (doc (tokens s))=true then .error 4 else .ok (ny s)) else .error 50) else .error 4:=rfl
theorem PR {s t:B} (hv:bO s=true) (ht:bO t=true) (h1:s.length≤65536) (h2:t.length≤65536) (h:nb (tokens s)=nb (tokens t)):qW s=qW t:=by
 rw [wm s,wm t,if_neg (show ¬ 65536 < s.length by omega),if_neg (show ¬ 65536 < t.length by omega),if_pos hv,if_pos ht,Iy h,EM h,OH h]
theorem Cy {s:B} {D:Lay.Doc} (h:qW s= .ok D):D=ny s∧bO s=true∧dW (doc (tokens s))=true∧dn (doc (tokens s))=false∧s.length≤65536:=by
 rw [wm] at h;split at h
 ·cases h
 split at h
 ·split at h
  ·split at h
   ·cases h
   ·rename_i h1 h2 h3 h4;cases h;exact ⟨rfl,h2,h3,by simpa using h4,by omega⟩
  ·cases h
 ·cases h
def qd (D:Lay.Doc) (w:Int):B:=jm w (fV D) [(D,0,false)] 0
def nc (s:B) (w:Int):Except Nat B:=
 if w < 20∨200 < w then .error 1
 else match qW s with
  | .error e=> .error e
  | .ok D=>if 65536 < (qd D w).length then .error 40 else .ok (qd D w)
theorem Hn {s t:B} {w:Int} (h:nc s w= .ok t):(20≤w∧w≤200)∧qW s= .ok (ny s)∧t=qd (ny s) w∧t.length≤65536:=by
 unfold nc at h;split at h
 ·cases h
 ·rename_i hw;split at h
  ·cases h
  ·rename_i D hD;obtain ⟨rfl,_⟩:=Cy hD;split at h
   ·cases h
   ·cases h;exact ⟨by omega,hD,rfl,by omega⟩
theorem Nq {s t:B} {w:Int} (h:nc s w= .ok t):nb (tokens t)=nb (tokens s)∧bO t=true:=by
 obtain ⟨_,h1,rfl,_⟩:=Hn h;obtain ⟨_,hv,hg,_⟩:=Cy h1;exact En hv hg w
theorem Fh {s t:B} {w:Int} (h:nc s w= .ok t):nc t w= .ok t:=by
 obtain ⟨hn,hvt⟩:=Nq h;obtain ⟨hw,h1,e,hl⟩:=Hn h;obtain ⟨_,hv,hg,_,hs⟩:=Cy h1;have h2:qW t= .ok (ny s):=by rw [PR hvt hv hl hs hn,h1]
 unfold nc;rw [if_neg (by omega),h2];dsimp only;rw [← e,if_neg (by omega)]
end Go.Format
namespace Go.Ast
open Go.VM Go.Lex Go.Parse
def EF:List UInt8→Bool
 | []=>true
 | [c]=>c != 92
 | c::d::l=>if c=92 then EF l else EF (d::l)
theorem Bj: ∀(s:List UInt8) (n:Nat),cI s=(7,n)→ ∃u,s.take n=u++[34]∧EF u=true
 | [],n,h=>by simp [cI] at h
 | [c],n,h=>by
  simp only [cI] at h;split at h
  ·simp at h
  ·split at h
   ·rename_i h1;obtain rfl:1=n:=by simpa using h
    exact ⟨[],by simp [h1],rfl⟩
   ·simp at h
 | c::d::l,n,h=>by
  simp only [cI] at h;split at h
  ·simp at h
  ·split at h
   ·rename_i h1;obtain rfl:1=n:=by simpa using h
    exact ⟨[],by simp [h1],rfl⟩
   ·split at h
    ·rename_i h1;split at h
     ·simp only [Vk] at h;obtain ⟨u,hu,he⟩:=Bj l (cI l).2 (by rw [← h.1]);refine ⟨c::d::u, ?_, ?_⟩
      ·rw [← h.2];simp [hu]
      ·simp only [EF,if_pos h1];exact he
     ·simp at h
    ·rename_i h1;simp only [Vk] at h;obtain ⟨u,hu,he⟩:=Bj (d::l) (cI (d::l)).2 (by rw [← h.1]);refine ⟨c::u, ?_, ?_⟩
     ·rw [← h.2];simp [hu]
     ·cases u with
      | nil=>simp [EF,h1]
      | cons a u=>
       simp only [EF,if_neg h1];exact he
def Uf (t:bc):Prop:=t.2≠[]∧(t.1=7→ ∃u,t.2=34::u++[34]∧EF u=true)∧(t.1=8→t.2.length≤2)
theorem ig: ∀(l:List UInt8),(cI l).1=7∨(cI l).1=9
 | []=> .inr rfl
 | [c]=>by
  simp only [cI];split
  ·exact .inr rfl
  ·split
   ·exact .inl rfl
   ·exact .inr rfl
 | c::d::l=>by
  simp only [cI];split
  ·exact .inr rfl
  ·split
   ·exact .inl rfl
   ·split
    ·split
     ·exact ig l
     ·exact .inr rfl
    ·exact ig (d::l)
theorem SK (s:List UInt8) (hs:s≠[]):(cut s).1=7→ ∃u,s.take (cut s).2=34::u++[34]∧EF u=true:=by
 cases s with
 | nil=>exact absurd rfl hs
 | cons c l=>
  intro h;simp only [cut] at h ⊢;by_cases h1:bV c=true
  ·rw [if_pos h1] at h;cases h
  rw [if_neg h1] at h ⊢;by_cases h2:(c::l).take 2=[40,42]
  ·rw [if_pos h2] at h;cases hr:rem ((c::l).drop 2) 1 <;> rw [hr] at h <;> cases h
  rw [if_neg h2] at h ⊢;by_cases h3:iY c=true
  ·rw [if_pos h3] at h;simp only [rn] at h;split at h
   ·cases h
   ·split at h <;> cases h
  rw [if_neg h3] at h ⊢;by_cases h4:aO c=true
  ·rw [if_pos h4] at h;simp only [number] at h;split at h
   ·split at h <;> cases h
   ·cases h
  rw [if_neg h4] at h ⊢;by_cases h5:c=34
  ·rw [if_pos h5] at h ⊢;obtain ⟨u,hu,he⟩:=Bj l (cI l).2 (by rw [← h]);exact ⟨u,by rw [h5];simp [hu],he⟩
  rw [if_neg h5] at h ⊢;by_cases h6:gw.contains ((c::l).take 2)=true
  ·rw [if_pos h6] at h;cases h
  rw [if_neg h6] at h ⊢;by_cases h7:iQ c=true
  ·rw [if_pos h7] at h;cases h
  rw [if_neg h7] at h;cases h
theorem R3 (s:List UInt8):(cut s).1=8→(s.take (cut s).2).length≤2:=by
 cases s with
 | nil=>intro h;cases h
 | cons c l=>
  intro h;simp only [cut] at h ⊢;by_cases h1:bV c=true
  ·rw [if_pos h1] at h;cases h
  rw [if_neg h1] at h ⊢;by_cases h2:(c::l).take 2=[40,42]
  ·rw [if_pos h2] at h;cases hr:rem ((c::l).drop 2) 1 <;> rw [hr] at h <;> cases h
  rw [if_neg h2] at h ⊢;by_cases h3:iY c=true
  ·rw [if_pos h3] at h ⊢;simp only [rn] at h;split at h
   ·rename_i hw;rw [qw,hw];decide
   ·split at h <;> cases h
  rw [if_neg h3] at h ⊢;by_cases h4:aO c=true
  ·rw [if_pos h4] at h;simp only [number] at h;split at h
   ·split at h <;> cases h
   ·cases h
  rw [if_neg h4] at h ⊢;by_cases h5:c=34
  ·rw [if_pos h5] at h;have: ∀l:List UInt8,(cI l).1=7∨(cI l).1=9:=ig;have:=this l;simp only at h;omega
  rw [if_neg h5] at h ⊢;by_cases h6:gw.contains ((c::l).take 2)=true
  ·rw [if_pos h6,VB];omega
  rw [if_neg h6] at h ⊢;by_cases h7:iQ c=true
  ·rw [if_pos h7,VB];omega
  rw [if_neg h7] at h;cases h
theorem J2: ∀(n:Nat) (s:List UInt8),∀t∈eV n s,Uf t
 | 0,_,t,h=>by cases h
 | n+1,s,t,h=>by
  cases s with
  | nil=>simp [eV] at h
  | cons c l=>
   simp only [eV,Vv] at h;rcases h with rfl | h
   ·refine ⟨?_,SK _ (by simp),R3 _⟩;have:=mQ (s:=c::l) (by simp);intro e;have h2:=Wb List.length e;rw [VB,Vj] at h2;omega
   ·exact J2 n _ t h
end Go.Ast
