/-
  A part of the proof.
-/
import Derived.Test.YtkbkbndajpbcjaaGreatDoorVmBF
set_option linter.all false
namespace Go.Format
open Go.VM Go.Lex Go.Parse Go.Lay
def jk:List bc->Nat
 | []=>0
 | t::l=>t.2.length+jk l
theorem AL: ∀(l m:List bc),jk (l++m)=jk l+jk m
 | [],m=>by simp [jk]
 | t::l,m=>by simp only [aat,jk,AL l m];omega
mutual
theorem xZ: ∀(d:Lay.Doc),pO d=true->zg d<=jk (cR (gg d))+gO d
 | .mk k s m kids,h=>by
  simp only [pO,aak] at h;obtain ⟨hok,hk⟩:=h;have ih:=JX kids hk;unfold Nj at hok;rw [gg,zg,gO];by_cases h1:k=1
  .rw [if_pos h1] at hok ⊢;simp only [aak,List.isEmpty_iff] at hok;obtain ⟨⟨⟨⟨_,rfl⟩,_⟩,_⟩,_⟩:=hok;unfold vW;simp only [pZ,bR];split
   .rename_i e;subst e;simp [cR,jk]
   .simp only [cR,jk];omega
  .rw [if_neg h1] at hok ⊢;have hs:s=[]/\(k=2\/k=4->kids=[]):=by
    by_cases h2:k=2\/k=3\/k=4
    .rw [if_pos h2] at hok;simp only [aak,List.isEmpty_iff,aaX] at hok;exact ⟨hok.2,fun _=>hok.1.2⟩
    .rw [if_neg h2] at hok;refine ⟨?_,fun h=>absurd h (by omega)⟩;by_cases h5:k=5
     .rw [if_pos h5] at hok;simp only [aak,aaX] at hok;exact hok.2
     .rw [if_neg h5] at hok;split at hok
      .simp only [aak,aaX] at hok;exact hok.2
      .cases hok
   obtain ⟨rfl,hnil⟩:=hs;by_cases h24:k=2\/k=4
   .rw [if_pos h24,hnil h24];simp [cR,jk,pZ]
   .rw [if_neg h24];simp only [aai];omega
theorem JX: ∀(l:List Lay.Doc),rG l=true->pZ l<=jk (cR (dI l))+bR l
 | [],_=>by simp [pZ]
 | d::l,h=>by
  simp only [rG,aak] at h;have a:=xZ d h.1;have b:=JX l h.2;rw [pZ,dI,cP,AL,bR];omega
end
mutual
theorem NG: ∀(d:Lay.Doc),Ts d=true->GC d<=4 * gO d
 | .mk k s m kids,h=>by
  simp only [Ts,aak,aaZ] at h;have:=KQ kids h.2;have h1:=h.1;simp only [GC,gO];omega
theorem KQ: ∀(l:List Lay.Doc),Jz l=true->yO l<=4 * bR l
 | [],_=>by simp [yO]
 | d::l,h=>by
  simp only [Jz,aak] at h;have a:=NG d h.1;have b:=KQ l h.2;simp only [yO,bR];omega
end
theorem DJ: ∀(D:List Lay.Doc) (i:Nat),bR (cT i D)<=bR D+2 * D.length
 | [],i=>by simp [cT,bR]
 | d::D,i=>by
  have ih:=DJ D (i+1);have h1:gO Oh=1:=rfl;rw [cT];split
  .simp only [aaq,bR,h1,aae];omega
  .simp only [aat,aaq,bR,h1,aae];omega
theorem G3: ∀{D:List Lay.Doc} (i:Nat),vJ D->vJ (cT i D)
 | [],i,_=>eY
 | d::D,i,h=>by
  rw [cT];refine qF ?_ (bV (h d (by simp)) (bV PB (G3 (i+1) fun x hx=>h x (aam _ hx))));split
  .exact eY
  .exact bV PB eY
theorem Rh {l:List T} (h:BT Q1 l): ∀x∈l,vO x:=by
 intro x hx;cases h with
 | mk a hp b c he=>
  simp only [aao,aaC,aaQ,aaF,or_false] at hx;rcases hx with ((hx | rfl | hx) | rfl) | rfl
  .rcases a with rfl | ⟨r,a,rfl⟩
   .cases hx
   .rw [aaQ.1 hx];exact Eb a
  .exact (AR _).2.1 _ (aa3 _) hp
  .exact (AR _).2.1 _ (aa3 _) (b x hx)
  .exact Eb c
  .exact (AR _).1 _ (aa3 _) he
theorem XP {l:List T} (h:BT Q1 l):1<=l.length:=by
 cases h with
 | mk b hp a c he=>simp only [aad,aae,aai];omega
theorem Dz {a:T} {bs:List T} (c:Lf Q1 ub a) (b:BT Q1 bs):vO (node 5 (a::bs)):=by
 have:=XP b;refine .node (by decide) (by simp only [aae];omega) fun x hx=> ?_;rcases aao.1 hx with rfl | hx
 .exact Eb c
 .exact Rh b x hx
theorem Cb {a:T} {bs l:List T} (hl:l≠[]):eP (node 5 (a::bs)::l)=aB (node 5 (a::bs))::eP l:=by
 unfold eP;cases l with
 | nil=>exact absurd rfl hl
 | cons x l=>
  have b:(node 5 (a::bs)::x::l).length - 1=((x::l).length - 1)+1:=by simp
  rw [b,abT,uG];rfl
theorem Bb: ∀(l:List B),bR (l.map tx)=l.length
 | []=>rfl
 | x::l=>by
  rw [aan,bR,Bb l,Jj,aae];omega
theorem CL: ∀(l:List T),DT Q1 l->bR (eP l)+2 * (eP l).length<=12 * (kD l).length
 | _,.last (ks:=ks) c=>by
  obtain ⟨r,rfl,d⟩:=c;have e:eP [.mk 1 0 [] (r.map aY)]=(fP (r.map aY)).map tx:=rfl;have f:kD [.mk 1 0 [] (r.map aY)]=kD (r.map aY):=by simp [kD,wU]
  have:=BO d;rw [e,f,Bb,aaA];omega
 | _,.cons (a:=a) (bs:=bs) (l:=l) g h hl=>by
  have ih:=CL l hl;have hn:=Ow (Dz g h);have b:l≠[]:=by cases hl <;> simp
  rw [Cb b,bR,aae,kD,aad];omega
theorem FD: ∀(l:List T),DT Q1 l->jU l=false->vJ (eP l)
 | _,.last (ks:=ks) f,he=>by
  obtain ⟨r,rfl,g⟩:=f;have e:eP [.mk 1 0 [] (r.map aY)]=(fP (r.map aY)).map tx:=rfl;rw [e];have b:jU (r.map aY)=false:=by
   simp only [jU,fB,aaY] at he;exact he.1.2
  intro d h;obtain ⟨s,hs,rfl⟩:=aa8.1 h;exact DZ g b s hs
 | _,.cons (a:=a) (bs:=bs) (l:=l) i j hl,he=>by
  rw [jU,aaY] at he;have c:l≠[]:=by cases hl <;> simp
  rw [Cb c];exact bV (Q5 (Dz i j) he.1) (FD l hl he.2)
def tY (s:B):Lay.Doc:=row (cT 0 (eP (doc (tokens s)).kids))
theorem Oy (r:List bc):(nb r).length<=r.length:=List.length_filter_le _ _
theorem yP: ∀(r:List bc),jk r=((r.map (·.2)).flatten).length
 | []=>rfl
 | t::r=>by simp only [jk,yP r,aan,List.flatten_cons,aad]
theorem CW: ∀(r:List bc),jk (nb r)<=jk r
 | []=>aal _
 | t::r=>by
  have:=CW r;rw [iS];split
  .simp only [jk];omega
  .simp only [jk];omega
theorem Ma {s:B} (i:cb s=true) (e:dS (doc (tokens s))=true) (he:fB (doc (tokens s))=false):
  pO (tY s)=true/\gO (tY s)<=12 * s.length+1/\zg (tY s)<=13 * s.length+1/\GC (tY s)<=48 * s.length+4:=by
 obtain ⟨l,j,f⟩:=jK (tokens s);have k:=NL _ (Et _ _ (aa3 _) e);have m:=Ag _ s (aal _) i k;have c:=OU s f;rw [f] at e he;have a:=mu (Q:=Q1) _ _ _ j (gL s) m (eh e);have g:jU l=false:=by
  rw [node,fB,aaY] at he;exact he.2
 have n:(doc (tokens s)).kids=l:=by rw [f];rfl
 have b:=I3 (G3 0 (FD l a g));have o:=CL l a;have p:=DJ (eP l) 0;have w:=Oy (tokens s);have q:=tM s;rw [c] at o;have d:gO (row (cT 0 (eP l)))<=12 * s.length+1:=by rw [E1];omega
 have hn:=NG _ b.2;have h:=xZ _ b.1;obtain ⟨r,t⟩:=zM l a;obtain ⟨_,u,_⟩:=B0 (eP l) 0 r;rw [V6,u,t,c] at h;have v:=CW (tokens s);rw [yP (tokens s),se _ s (aal _)] at v;unfold tY;rw [n];exact ⟨b.1,d,by omega,by omega⟩
theorem Lb {s t:B} (h:nb (tokens s)=nb (tokens t)):dS (doc (tokens s))=dS (doc (tokens t)):=by
 rw [<- wW (doc (tokens s)), <- wW (doc (tokens t)),HM h]
theorem JF (s:B):xq s=if 65536 < s.length then .error 40 else if cb s=true then (if dS (doc (tokens s))=true then (if fB (doc (tokens s))=true then .error 4 else .ok (tY s)) else .error 50) else .error 4:=rfl
theorem El {s:B} {D:Lay.Doc} (h:xq s= .ok D):D=tY s/\cb s=true/\dS (doc (tokens s))=true/\fB (doc (tokens s))=false/\s.length<=65536:=by
 rw [JF] at h;split at h
 .cases h
 split at h
 .split at h
  .split at h
   .cases h
   .rename_i h1 a b c;cases h;exact ⟨rfl,a,b,by simpa using c,by omega⟩
  .cases h
 .cases h
def sc (D:Lay.Doc) (w:Int):B:=kW w (gO D) [(D,0,false)] 0
def ur (s:B) (w:Int):Except Nat B:=
 if w < 20\/200 < w then .error 1
 else match xq s with
  | .error e=> .error e
  | .ok D=>if 65536 < (sc D w).length then .error 40 else .ok (sc D w)
theorem Kq {s t:B} {w:Int} (h:ur s w= .ok t):(20<=w/\w<=200)/\xq s= .ok (tY s)/\t=sc (tY s) w/\t.length<=65536:=by
 unfold ur at h;split at h
 .cases h
 .rename_i b;split at h
  .cases h
  .rename_i D a;obtain ⟨rfl,_⟩:=El a;split at h
   .cases h
   .cases h;exact ⟨by omega,a,rfl,by omega⟩
theorem Rl {s t:B} {w:Int} (h:ur s w= .ok t):nb (tokens t)=nb (tokens s)/\cb t=true:=by
 obtain ⟨_,h1,rfl,_⟩:=Kq h;obtain ⟨_,a,b,_⟩:=El h1;exact Gm a b w
end Go.Format
namespace Go.Ast
open Go.VM Go.Lex Go.Parse
def xd:LB->Bool
 | []=>true
 | [c]=>c != 92
 | c::d::l=>if c=92 then xd l else xd (d::l)
theorem Ec: ∀(s:LB) (n:Nat),dD s=(7,n)-> ∃u,s.take n=u++[34]/\xd u=true
 | [],n,h=>by simp [dD] at h
 | [c],n,h=>by
  simp only [dD] at h;split at h
  .simp at h
  .split at h
   .rename_i h1;obtain rfl:1=n:=by simpa using h
    exact ⟨[],by simp [h1],rfl⟩
   .simp at h
 | c::d::l,n,h=>by
  simp only [dD] at h;split at h
  .simp at h
  .split at h
   .rename_i h1;obtain rfl:1=n:=by simpa using h
    exact ⟨[],by simp [h1],rfl⟩
   .split at h
    .rename_i h1;split at h
     .simp only [aaj] at h;obtain ⟨u,b,he⟩:=Ec l (dD l).2 (by rw [<- h.1]);refine ⟨c::d::u, ?_, ?_⟩
      .rw [<- h.2];simp [b]
      .simp only [xd,if_pos h1];exact he
     .simp at h
    .rename_i h1;simp only [aaj] at h;obtain ⟨u,b,he⟩:=Ec (d::l) (dD (d::l)).2 (by rw [<- h.1]);refine ⟨c::u, ?_, ?_⟩
     .rw [<- h.2];simp [b]
     .cases u with
      | nil=>simp [xd,h1]
      | cons a u=>
       simp only [xd,if_neg h1];exact he
def jE (t:bc):Prop:=t.2≠[]/\(t.1=7-> ∃u,t.2=34::u++[34]/\xd u=true)/\(t.1=8->t.2.length<=2)
theorem jI: ∀(l:LB),(dD l).1=7\/(dD l).1=9
 | []=> .inr rfl
 | [c]=>by
  simp only [dD];split
  .exact .inr rfl
  .split
   .exact .inl rfl
   .exact .inr rfl
 | c::d::l=>by
  simp only [dD];split
  .exact .inr rfl
  .split
   .exact .inl rfl
   .split
    .split
     .exact jI l
     .exact .inr rfl
    .exact jI (d::l)
theorem Yn (s:LB) (hs:s≠[]):(cut s).1=7-> ∃u,s.take (cut s).2=34::u++[34]/\xd u=true:=by
 cases s with
 | nil=>exact absurd rfl hs
 | cons c l=>
  intro h;simp only [cut] at h ⊢;by_cases h1:cr c=true
  .rw [if_pos h1] at h;cases h
  rw [if_neg h1] at h ⊢;by_cases b:(c::l).take 2=[40,42]
  .rw [if_pos b] at h;cases i:rem ((c::l).drop 2) 1 <;> rw [i] at h <;> cases h
  rw [if_neg b] at h ⊢;by_cases d:lb c=true
  .rw [if_pos d] at h;simp only [um] at h;split at h
   .cases h
   .split at h <;> cases h
  rw [if_neg d] at h ⊢;by_cases e:aW c=true
  .rw [if_pos e] at h;simp only [number] at h;split at h
   .split at h <;> cases h
   .cases h
  rw [if_neg e] at h ⊢;by_cases a:c=34
  .rw [if_pos a] at h ⊢;obtain ⟨u,j,he⟩:=Ec l (dD l).2 (by rw [<- h]);exact ⟨u,by rw [a];simp [j],he⟩
  rw [if_neg a] at h ⊢;by_cases f:iJ.contains ((c::l).take 2)=true
  .rw [if_pos f] at h;cases h
  rw [if_neg f] at h ⊢;by_cases g:kS c=true
  .rw [if_pos g] at h;cases h
  rw [if_neg g] at h;cases h
theorem XZ (s:LB):(cut s).1=8->(s.take (cut s).2).length<=2:=by
 cases s with
 | nil=>intro h;cases h
 | cons c l=>
  intro h;simp only [cut] at h ⊢;by_cases h1:cr c=true
  .rw [if_pos h1] at h;cases h
  rw [if_neg h1] at h ⊢;by_cases a:(c::l).take 2=[40,42]
  .rw [if_pos a] at h;cases i:rem ((c::l).drop 2) 1 <;> rw [i] at h <;> cases h
  rw [if_neg a] at h ⊢;by_cases b:lb c=true
  .rw [if_pos b] at h ⊢;simp only [um] at h;split at h
   .rename_i j;rw [tD,j];decide
   .split at h <;> cases h
  rw [if_neg b] at h ⊢;by_cases d:aW c=true
  .rw [if_pos d] at h;simp only [number] at h;split at h
   .split at h <;> cases h
   .cases h
  rw [if_neg d] at h ⊢;by_cases e:c=34
  .rw [if_pos e] at h;have: ∀l:LB,(dD l).1=7\/(dD l).1=9:=jI;have:=this l;simp only at h;omega
  rw [if_neg e] at h ⊢;by_cases f:iJ.contains ((c::l).take 2)=true
  .rw [if_pos f,aau];omega
  rw [if_neg f] at h ⊢;by_cases g:kS c=true
  .rw [if_pos g,aau];omega
  rw [if_neg g] at h;cases h
theorem Jm: ∀(n:Nat) (s:LB),∀t∈fQ n s,jE t
 | 0,_,t,h=>by cases h
 | n+1,s,t,h=>by
  cases s with
  | nil=>simp [fQ] at h
  | cons c l=>
   simp only [fQ,aao] at h;rcases h with rfl | h
   .refine ⟨?_,Yn _ (by simp),XZ _⟩;have:=pd (s:=c::l) (by simp);intro e;have a:=aaU List.length e;rw [aau,aai] at a;omega
   .exact Jm n _ t h
end Go.Ast
namespace Go.VM
open Go
def rK (st:St) (z:Nat) (e:Td) (x:AV) (ws:LA):Prop:=
 (x= .ax/\ws=[])\/x= .sl z ws .shut\/(∃k,x= .sl z ws (.own k)/\st.get k= .ok (.tok ws.length e)/\st.ro<=k)\/ ∃k,x= .gs k z ws.length/\st.get k= .ok (.grow ws.length e z ws)/\st.ro<=k
structure ya (st st':St) (e:Td):Prop where
 ro:st'.ro=st.ro
 h:st.h<=st'.h
 old: ∀j o,(∀n,o≠ .tok n e)->(∀n z l,o≠ .grow n e z l)->st.get j= .ok o->st'.get j= .ok o
theorem ya.vw {a b:St} {e:Td} (k:ya a b e) {l:wS} (w:Vw a l):Vw b l:=
 ⟨fun q c=>⟨k.old _ _ (fun _ h=>by cases h) (fun _ _ _ h=>by cases h) (w.v q c).1,by rw [k.ro];exact (w.v q c).2⟩,w.nd,by rw [k.ro];exact aaR w.ro k.h⟩
theorem rK.BI {a b:St} {z:Nat} {e g:Td} {x:AV} {ws:LA} (h:rK a z e x ws) (k:ya a b g) (c:e≠g):rK b z e x ws:=by
 rcases h with h | h | ⟨j,h1,d,f⟩ | ⟨j,h1,d,f⟩
 .exact .inl h
 .exact .inr (.inl h)
 .exact .inr (.inr (.inl ⟨j,h1,k.old _ _ (fun _ h=>by cases h;exact c rfl) (fun _ _ _ h=>by cases h) d,by rw [k.ro];exact f⟩))
 .exact .inr (.inr (.inr ⟨j,h1,k.old _ _ (fun _ h=>by cases h) (fun _ _ _ h=>by cases h;exact c rfl) d,by rw [k.ro];exact f⟩))
theorem rK.keeps {a b:St} {z:Nat} {e:Td} {x:AV} {ws:LA} (h:rK a z e x ws) (k:aZ a b (fun _=>False)):rK b z e x ws:=by
 rcases h with h | h | ⟨j,h1,c,d⟩ | ⟨j,h1,c,d⟩
 .exact .inl h
 .exact .inr (.inl h)
 .exact .inr (.inr (.inl ⟨j,h1,k.old _ _ (fun f=>f) c,by rw [k.ro];exact d⟩))
 .exact .inr (.inr (.inr ⟨j,h1,k.old _ _ (fun f=>f) c,by rw [k.ro];exact d⟩))
theorem rK.put {st:St} {z:Nat} {e:Td} {x:AV} {ws:LA} {j:Nat} {t t':Td} {cs cs':LA} (h:rK st z e x ws) (d:st.get j= .ok (.cells t cs)):rK (st.put j (.cells t' cs')) z e x ws:=by
 have key: ∀k o,(∀t cs,o≠VM.Obj.cells t cs)->st.get k= .ok o->(st.put j (.cells t' cs')).get k= .ok o:=fun k o ho a=>by
  have:j≠k:=by rintro rfl;rw [d] at a;cases a;exact ho _ _ rfl
  rw [St.aT this];exact a
 rcases h with h | h | ⟨k,h1,b,c⟩ | ⟨k,h1,b,c⟩
 .exact .inl h
 .exact .inr (.inl h)
 .exact .inr (.inr (.inl ⟨k,h1,key _ _ (fun _ _ h=>by cases h) b,c⟩))
 .exact .inr (.inr (.inr ⟨k,h1,key _ _ (fun _ _ h=>by cases h) b,c⟩))
theorem rK.one {st:St} {z:Nat} {e:Td} {x:AV} {ws:LA} (h:rK st z e x ws):VM.one x=true:=by
 rcases h with ⟨rfl,_⟩ | rfl | ⟨k,rfl,_⟩ | ⟨k,rfl,_⟩ <;> rfl
theorem rK.len {β:Type} {st:St} {z:Nat} {e:Td} {x:AV} {ws:LA} (h:rK st z e x ws) (K:Nat->Oq β):dm x K=K ws.length:=by
 rcases h with ⟨rfl,rfl⟩ | rfl | ⟨k,rfl,_⟩ | ⟨k,rfl,_⟩ <;> rfl
theorem FR {O:tf} {st:St} {z:Nat} {e:Td} {x u:AV} {ws:LA} {i:TI} (h:rK st z e x ws) (f:st.ro<=st.h) (hi:i.size=z) (m:iC 1000 u (zeroV i)=true) (hf:fits [u]= .ok [u]) (n:u.cells.length=z) (d:dn (ws.length+1) i=true):
  ∃k s p,(∀{β:Type} (K:Kv β),cE O (jn i e x [u]) st K=K (.gs k z (ws.length+1)) s p)/\s.get k= .ok (.grow (ws.length+1) e z ws)/\s.ro<=k/\ya st s e/\ ∀j t cs,st.get j= .ok (.cells t cs)->j≠k:=by
 subst hi;have c:jn i e x [u]=rn i e x 1 []:=by
  have h1:([u].all fun v=>v.cells.length.beq i.size)=true:=by simp [n]
  simp only [jn,hf,aA,h1,List.isEmpty_nil,abJ,m];rfl
 rcases h with ⟨rfl,rfl⟩ | rfl | ⟨k,rfl,b,g⟩ | ⟨k,rfl,b,g⟩
 .refine ⟨st.h,st.add (.grow 1 e i.size []),⟨[],.made st.h (.grow 1 e i.size [])⟩,fun K=> ?_,St.dZ,f,⟨rfl,Nat.le_succ _,fun j o _ _ b=>St.kh b⟩,fun j t cs a=>Nat.ne_of_lt (St.ca.1 a).1⟩;have d:dn 1 i=true:=d;rw [c];simp only [rn,d];rfl
 .refine ⟨st.h,st.add (.grow (ws.length+1) e i.size (ws++[])),⟨[],.made st.h (.grow (ws.length+1) e i.size (ws++[]))⟩,fun K=> ?_,by rw [St.dZ,aay],f,⟨rfl,Nat.le_succ _,fun j o _ _ b=>St.kh b⟩,fun j t cs a=>Nat.ne_of_lt (St.ca.1 a).1⟩;rw [c];simp only [rn,d,aa9,aaI];rfl
 .refine ⟨k,st.put k (.grow (ws.length+1) e i.size (ws++[])),⟨[k],.wrote k (.grow (ws.length+1) e i.size (ws++[]))⟩,fun K=> ?_,by rw [St.aN (St.ca.1 b).1,aay],g,⟨rfl,aal _,fun j o h1 _ a=> ?_⟩,fun j t cs a=> ?_⟩
  .rw [c];have l:(ws.length.beq ws.length&&Nat.beq e e)=true:=by simp
   simp only [rn,d,aa9,aaI,cE,oq,oN,b,l,kM,aaL g,ai]
  .have:k≠j:=by rintro rfl;rw [b] at a;cases a;exact h1 _ rfl
   rw [St.aT this];exact a
  .rintro rfl;rw [b] at a;cases a
 .refine ⟨k,st.put k (.grow (ws.length+1) e i.size (ws++[])),⟨[k],.wrote k (.grow (ws.length+1) e i.size (ws++[]))⟩,fun K=> ?_,by rw [St.aN (St.ca.1 b).1,aay],g,⟨rfl,aal _,fun j o _ h1 a=> ?_⟩,fun j t cs a=> ?_⟩
  .rw [c];have l:((ws.length.beq ws.length&&ws.length.beq ws.length)&&(Nat.beq e e&&i.size.beq i.size))=true:=by simp
   simp only [rn,d,aa9,aaI,cE,oq,oN,b,l,kM,aaL g,ai]
  .have:k≠j:=by rintro rfl;rw [b] at a;cases a;exact h1 _ _ _ rfl
   rw [St.aT this];exact a
  .rintro rfl;rw [b] at a;cases a
theorem Po {β:Type} {st:St} {k n z:Nat} {e:Td} {ws:LA} (h:st.get k= .ok (.grow (n+1) e z ws)) (hn:ws.length=n) (K:AV->Ln->Oq β):bL z (.gs k z (n+1)) (n:Int) st K=K (.gp k (n+1) (n * z)) [k]:=by
 have h1:oy (n:Int) (n+1)=some n:=by
  show (match n.blt (n+1) with | true=>some n | false=>none)= _;rw [show n.blt (n+1)=true by rw [Nat.blt_eq];exact aa3 _]
 have a:((n+1).beq (n+1)&&z.beq z)=true:=by rw [aa9,aa9];rfl
 have b:n.blt ws.length=false:=da.2 (by omega);simp only [bL,H9,aa9,h1,h,a,b,ai,aaI]
theorem He {β:Type} {O:tf} {st:St} {k n z:Nat} {e:Td} {ws:LA} {v:AV} {cs:LA} (h:st.get k= .ok (.grow (n+1) e z ws)) (hn:ws.length=n) (c:st.ro<=k) (d:v.cells.length=z) (ho:gh v.cells=true) (hf:fit v= .ok v) (K:Kv β):
  aK O z (.gp k (n+1) (n * z)) v cs st K=K undef (st.put k (.grow (n+1) e z (ws++[v]))) ⟨[k],.wrote k (.grow (n+1) e z (ws++[v]))⟩:=by
 have h1:(v.cells.length.beq z&&gh v.cells)=true:=by rw [d,aa9,ho];rfl
 have f:(((n+1).beq (n+1)&&(n+1).beq (ws.length+1))&&((n * z).beq (ws.length * z)&&z.beq z))=true:=by rw [hn];simp
 have i: ∀o,kY ⟨.other,z,0,[],false,false⟩ k (n+1) (n * z) v= .ok o->o= .obj k fun o=>match o with
   | .grow n' b z' es=>match (n'.beq (n+1)&&n'.beq (es.length+1))&&((n * z).beq (es.length * z')&&z'.beq z) with
    | true=> .ok (undef,some (.grow n' b z' (es++[v])))
    | false=> .error "store: not the last one"
   | o=>tB (n+1) (n * z) v.cells o:=fun o a=>by
  simp only [kY,h1,hf,aA,aH] at a;exact (Except.ok.inj a).symm
 have g:kY ⟨.other,z,0,[],false,false⟩ k (n+1) (n * z) v= .ok (.obj k fun o=>match o with
   | .grow n' b z' es=>match (n'.beq (n+1)&&n'.beq (es.length+1))&&((n * z).beq (es.length * z')&&z'.beq z) with
    | true=> .ok (undef,some (.grow n' b z' (es++[v])))
    | false=> .error "store: not the last one"
   | o=>tB (n+1) (n * z) v.cells o):=by
  simp only [kY,h1,hf,aA,aH];rfl
 simp only [aK,oq,E6,g,oN,h,f,kM,aaL c,ai]
end Go.VM
namespace Go.Parse
open Go.VM Go.Lex
def Wt:List bc->Nat
 | []=>0
 | t::r=>100+t.2.length+Wt r
theorem Ks (p:bc->Bool): ∀(r:List bc),Wt (r.dropWhile p)<=Wt r
 | []=>aal _
 | t::r=>by
  rw [abn];split
  .have:=Ks p r;simp only [Wt];omega
  .exact aal _
theorem ng (r:List bc):Wt (aS r)+(nx r).2.length<=Wt r/\((nx r).1≠0->Wt (aS r)+(nx r).2.length+100<=Wt r):=by
 have h:=Ks bC r;unfold aS nx;cases a:r.dropWhile bC with
 | nil=>simp [Wt]
 | cons t l=>
  rw [a] at h;simp only [Wt,aaD,aaw] at h ⊢;omega
def SL (l:List T):Nat:=(sO l).length
theorem bn:SL []=0:=rfl
theorem bD (t:T) (l:List T):SL (t::l)=1+(jS t).length+SL l:=by simp [SL,sO];omega
theorem jW: ∀(l m:List T),SL (l++m)=SL l+SL m
 | [],m=>by simp [bn]
 | t::l,m=>by rw [aat,bD,bD,jW l m];omega
theorem gD {k:Nat} (h1:k≠1) (a:k≠2) (l:List T):(jS (node k l)).length=3+SL l:=by
 simp only [jS,if_neg h1,if_neg a,aae,aad,aai,SL];omega
theorem eE (r:List bc):(jS (aV r)).length=(nx r).2.length:=by unfold aV;rw [IQ]
theorem uP (s:LB):(jS (missing s)).length=1+s.length:=by simp [missing,jS];omega
theorem nE (s:LB) (r:List bc):(jS (dy s r)).length+Wt (bp s r)<=Wt r+1+s.length:=by
 unfold dy bp;have:=ng r;split
 .rw [eE];omega
 .rw [uP];omega
theorem Fh (s:LB) (r:List bc):(jS (lr s r)).length+Wt (lq r)<=Wt r+1+s.length:=by
 unfold lr lq;have:=ng r;split
 .rw [uP];omega
 .rename_i h;have:=this.2 h;rw [gD (by decide) (by decide),bD,bn,eE];omega
def allow:lX->Nat
 | .ops _ _=>0
 | .args _=>0
 | .closed _ _=>0
 | .items _ _=>0
 | .binding=>40
 | .params=>0
 | .arm=>40
 | .arms=>0
 | _=>10
def eG:lX->List bc->Nat
 | .atom pat,r=>if dM pat r=true then 60 else 0
 | .closed _ _,_=>60
 | _,_=>0
theorem CP (b:Bool):allow (if b then lX.pattern else .expr)=10:=by cases b <;> rfl
theorem F0 (b:Bool) (r:List bc):eG (if b then lX.pattern else .expr) r=0:=by cases b <;> rfl
theorem at_one (b:Bool) (r:List bc):at' (if b then lX.pattern else .expr) r:=by cases b <;> exact trivial
theorem Sb (b:Bool):(jJ b).length=1:=by cases b <;> rfl
theorem Zh: ∀(N:Nat) (job:lX) (d:Nat) (r:List bc) (l:List T) (r':List bc),P N job d r=some (l,r')->at' job r->SL l+Wt r'+eG job r<=SL (dW job)+Wt r+allow job:=by
 intro N
 induction N with
 | zero=>intro job d r l r' h;cases h
 | succ n ih=>
  intro job d r l r' h v;have tk:=ng r;cases job with
  | expr=>
   simp only [P] at h;simp only [dW,bn,allow,eG];split at h
   .cases h;have:=Fh pD r;simp only [bD,bn,show pD.length=4 from rfl] at this ⊢;omega
   .have k:=ih _ _ _ _ _ h trivial;simp only [dW,bn,allow,eG] at k;omega
  | whole=>
   simp only [P] at h;simp only [dW,bn,allow,eG];split at h
   .rename_i f;obtain ⟨⟨bs,r2⟩,e,h⟩:=bind_some h;obtain ⟨⟨es,p⟩,i,h⟩:=bind_some h;cases h;have k1:=ih _ _ _ _ _ e trivial;have k2:=ih _ _ _ _ _ i trivial;have o:=nE R5 r2;have m:=tk.2 (jd f);simp only [dW,bn,allow,eG,show R5.length=2 from rfl] at k1 k2 o;rw [bD,gD (by decide) (by decide)];simp only [jW,bD,bn,eE];omega
   split at h
   .rename_i f;obtain ⟨⟨a,g⟩,e,h⟩:=bind_some h;obtain ⟨⟨ps,r2⟩,i,h⟩:=bind_some h;obtain ⟨⟨es,p⟩,q,h⟩:=bind_some h;cases h;have k1:=ih _ _ _ _ _ e trivial;have k2:=ih _ _ _ _ _ i trivial;have o:=ih _ _ _ _ _ q trivial;have j:=nE iw r2;have m:=tk.2 (jd f);simp only [dW,bn,allow,eG,show iw.length=2 from rfl] at k1 k2 o j;rw [bD,gD (by decide) (by decide)];simp only [jW,bD,bn,eE];omega
   split at h
   .rename_i f;obtain ⟨⟨a,g⟩,e,h⟩:=bind_some h;obtain ⟨⟨b,r2⟩,i,h⟩:=bind_some h;obtain ⟨⟨c,p⟩,q,h⟩:=bind_some h;cases h;have k1:=ih _ _ _ _ _ e trivial;have k2:=ih _ _ _ _ _ i trivial;have o:=ih _ _ _ _ _ q trivial;have j:=nE vu g;have k6:=nE vh r2;have m:=tk.2 (jd f);simp only [dW,bn,allow,eG,show vu.length=4 from rfl,show vh.length=4 from rfl] at k1 k2 o j k6;rw [bD,gD (by decide) (by decide)];simp only [jW,bD,bn,eE];omega
   split at h
   .rename_i f;obtain ⟨⟨a,g⟩,e,h⟩:=bind_some h;obtain ⟨⟨b,p⟩,i,h⟩:=bind_some h;obtain ⟨⟨cs,w⟩,q,h⟩:=bind_some h;cases h;have k1:=ih _ _ _ _ _ e trivial;have k2:=ih _ _ _ _ _ i trivial;have o:=ih _ _ _ _ _ q trivial;have j:=nE bW g;have m:=tk.2 (jd f);have x:SL (if eH iF (bp bW g) then [aV (bp bW g)] else [])+Wt (if eH iF (bp bW g) then aS (bp bW g) else bp bW g)<=Wt (bp bW g):=by
     split
     .rename_i f;have:=(ng (bp bW g)).2 (jd f);simp only [bD,bn,eE];omega
     .rw [bn];omega
    simp only [dW,bn,allow,eG,show bW.length=4 from rfl] at k1 k2 o j;rw [bD,gD (by decide) (by decide)];simp only [jW,bD,bn,eE];omega
   .have k:=ih _ _ _ _ _ h trivial;simp only [dW,bn,allow,eG] at k;omega
  | level k=>
   simp only [P] at h;simp only [dW,bn,allow,eG];split at h
   .have k:=ih _ _ _ _ _ h trivial;simp only [dW,bn,allow,eG] at k;omega
   .obtain ⟨⟨a,g⟩,e,h⟩:=bind_some h;dsimp only at h;split at h
    .have k1:=ih _ _ _ _ _ e trivial;have k2:=ih _ _ _ _ _ h trivial;simp only [dW,bD,bn,allow,eG] at k1 k2;omega
    .cases h
  | ops k acc=>
   simp only [P] at h;simp only [dW,bD,bn,allow,eG];split at h
   .rename_i f;obtain ⟨⟨b,g⟩,e,h⟩:=bind_some h;have k1:=ih _ _ _ _ _ e trivial;have k2:=ih _ _ _ _ _ h trivial;have m:=tk.2 (rV f);simp only [dW,bD,bn,allow,eG] at k1 k2;rw [gD (by decide) (by decide)] at k2;simp only [bD,bn,eE] at k2;omega
   .cases h;simp only [bD,bn];omega
  | neg=>
   simp only [P] at h;simp only [dW,bn,allow,eG];split at h
   .rename_i f;have m:=tk.2 (rV f);split at h
    .cases h;have:=Fh pD (aS r);simp only [show pD.length=4 from rfl] at this;rw [bD,gD (by decide) (by decide)];simp only [jW,bD,bn,eE];omega
    .obtain ⟨⟨a,g⟩,e,h⟩:=bind_some h;cases h;have k1:=ih _ _ _ _ _ e trivial;simp only [dW,bn,allow,eG] at k1;rw [bD,gD (by decide) (by decide)];simp only [jW,bD,bn,eE];omega
   .obtain ⟨⟨a,g⟩,e,h⟩:=bind_some h;dsimp only at h;split at h
    .have k1:=ih _ _ _ _ _ e trivial;have k2:=ih _ _ _ _ _ h trivial;simp only [dW,bD,bn,allow,eG] at k1 k2;omega
    .cases h
  | args acc=>
   simp only [P] at h;simp only [dW,bD,bn,allow,eG];split at h
   .rename_i f;obtain ⟨⟨b,g⟩,e,h⟩:=bind_some h;have k1:=ih _ _ _ _ _ e trivial;have k2:=ih _ _ _ _ _ h trivial;simp only [dW,bD,bn,allow,eG,if_pos f] at k1 k2;rw [gD (by decide) (by decide)] at k2;simp only [bD,bn] at k2;omega
   .cases h;simp only [bD,bn];omega
  | atom pat=>
   simp only [P] at h;simp only [dW,bn,allow,eG];split at h
   .rename_i f;rw [if_pos f];have m:=tk.2 (pA f);split at h
    .cases h;rw [bD,gD (by decide) (by decide)];simp only [bD,bn,eE];omega
    split at h
    .have k:=ih _ _ _ _ _ h (pA f);simp only [dW,bn,allow,eG] at k;omega
    split at h
    .have k:=ih _ _ _ _ _ h (pA f);simp only [dW,bn,allow,eG] at k;omega
    .cases h;simp only [bD,bn,eE];omega
   .rename_i f;cases h;rw [if_neg f];simp only [bD,bn,uP];cases pat <;> simp [mo,pD] <;> omega
  | closed list pat=>
   simp only [P] at h;simp only [dW,bn,allow,eG];have m:=tk.2 v;have s:=pQ list pat
   have t:=Jw list pat
   split at h
   .cases h;have j:=ng (aS r);rw [bD,gD s t];simp only [bD,bn,eE];omega
   .obtain ⟨⟨a,r2⟩,e,h⟩:=bind_some h;obtain ⟨⟨bs,p⟩,i,h⟩:=bind_some h;cases h;have k1:=ih _ _ _ _ _ e (at_one pat _);have k2:=ih _ _ _ _ _ i trivial;have j:=nE (jJ list) p;rw [pY,CP,F0,bn] at k1;simp only [dW,bn,allow,eG,Sb] at k1 k2 j;rw [bD,gD s t];simp only [jW,bD,bn,eE];omega
  | items list pat=>
   simp only [P] at h;simp only [dW,bn,allow,eG];split at h
   .rename_i f;obtain ⟨⟨a,g⟩,e,h⟩:=bind_some h;obtain ⟨⟨bs,r2⟩,i,h⟩:=bind_some h;cases h;have m:=tk.2 (jd f);have k1:=ih _ _ _ _ _ e (at_one pat _);have k2:=ih _ _ _ _ _ i trivial;rw [pY,CP,F0,bn] at k1;simp only [dW,bn,allow,eG] at k1 k2;simp only [jW,bD,bn,eE];omega
   .cases h;simp only [bn];omega
  | pattern=>
   simp only [P] at h;simp only [dW,bn,allow,eG];split at h
   .cases h;have:=Fh mo r;simp only [bD,bn,show mo.length=7 from rfl] at this ⊢;omega
   .obtain ⟨⟨a,g⟩,e,h⟩:=bind_some h;have k1:=ih _ _ _ _ _ e trivial;have o:SL a+Wt g<=Wt r+10:=by
     simp only [dW,bn,allow,eG] at k1;omega
    dsimp only at h;split at h
    .rename_i f;obtain ⟨⟨b,r2⟩,i,h⟩:=bind_some h;cases h;have k2:=ih _ _ _ _ _ i trivial;have m:=(ng g).2 (jd f);simp only [dW,bn,allow,eG] at k2;rw [bD,gD (by decide) (by decide)];simp only [jW,bD,bn,eE];omega
    .cases h;omega
  | binding=>
   simp only [P] at h;simp only [dW,bn,allow,eG];have u:SL (if eH eO r then [aV r] else [])+Wt (if eH eO r then aS r else r)<=Wt r:=by
    split
    .rename_i f;have:=tk.2 (jd f);simp only [bD,bn,eE];omega
    .rw [bn];omega
   generalize (if eH eO r then [aV r] else [])=rc at h u;generalize (if eH eO r then aS r else r)=r0 at h u;split at h
   .rename_i y;obtain ⟨⟨xs,g⟩,e,h⟩:=bind_some h;obtain ⟨⟨ps,p⟩,q,e⟩:=bind_some e;cases e;obtain ⟨⟨es,r2⟩,i,h⟩:=bind_some h;cases h;have o:=ih _ _ _ _ _ q trivial;have k2:=ih _ _ _ _ _ i trivial;have m:=(ng r0).2 (by omega);have j:=nE yu p;simp only [dW,bn,allow,eG,show yu.length=1 from rfl] at k2 o j;simp only [jW,bD,bn,eE];omega
   .obtain ⟨⟨xs,g⟩,e,h⟩:=bind_some h;obtain ⟨⟨es,r2⟩,i,h⟩:=bind_some h;cases h;have k1:=ih _ _ _ _ _ e trivial;have k2:=ih _ _ _ _ _ i trivial;have j:=nE yu g;simp only [dW,bn,allow,eG,show yu.length=1 from rfl] at k1 k2 j;simp only [jW,bD,bn,eE];omega
  | params=>
   simp only [P] at h;simp only [dW,bn,allow,eG];split at h
   .rename_i f;obtain ⟨⟨a,g⟩,e,h⟩:=bind_some h;obtain ⟨⟨bs,r2⟩,i,h⟩:=bind_some h;cases h;have k1:=ih _ _ _ _ _ e trivial;have k2:=ih _ _ _ _ _ i trivial;simp only [dW,bn,allow,eG,if_pos f] at k1 k2;simp only [jW];omega
   .cases h;simp only [bn];omega
  | arm=>
   simp only [P] at h;simp only [dW,bn,allow,eG];obtain ⟨⟨a,g⟩,e,h⟩:=bind_some h;obtain ⟨⟨es,r2⟩,i,h⟩:=bind_some h;cases h;have k1:=ih _ _ _ _ _ e trivial;have k2:=ih _ _ _ _ _ i trivial;have j:=nE iw g;simp only [dW,bn,allow,eG,show iw.length=2 from rfl] at k1 k2 j;rw [bD,gD (by decide) (by decide)];simp only [jW,bD,bn];omega
  | arms=>
   simp only [P] at h;simp only [dW,bn,allow,eG];split at h
   .rename_i f;obtain ⟨⟨a,g⟩,e,h⟩:=bind_some h;obtain ⟨⟨bs,r2⟩,i,h⟩:=bind_some h;cases h;have m:=tk.2 (jd f);have k1:=ih _ _ _ _ _ e trivial;have k2:=ih _ _ _ _ _ i trivial;simp only [dW,bn,allow,eG] at k1 k2;simp only [jW,bD,bn,eE];omega
   .cases h;simp only [bn];omega
theorem K2: ∀(n:Nat) (r:List bc),SL (skip n r).1+Wt (skip n r).2<=Wt r
 | 0,r=>by show SL []+Wt r<=Wt r;rw [bn];omega
 | n+1,r=>by
  simp only [skip];split
  .rename_i h;have k:=K2 n (aS r);have a:=(ng r).2 h.1;simp only [bD,eE];omega
  .show SL []+Wt r<=Wt r;rw [bn];omega
theorem AJ: ∀(N:Nat) (r:List bc) (D:List T),decls N r=some D->SL D<=5 * Wt r+10
 | 0,_,_,h=>by cases h
 | n+1,r,D,h=>by
  simp only [decls] at h;have tk:=ng r;split at h
  .cases h;simp only [bD,bn,eE];omega
  rename_i h0;have f:=tk.2 h0;split at h
  .obtain ⟨⟨bs,c⟩,d,h⟩:=bind_some h;obtain ⟨a,b,h⟩:=bind_some h;cases h;have k1:=Zh _ _ _ _ _ _ d trivial;have k2:=AJ n c a b;simp only [dW,bn,allow,eG] at k1;rw [bD,gD (by decide) (by decide),bD,eE];dsimp only;omega
  .rename_i e;obtain ⟨a,b,h⟩:=bind_some h;cases h;have k2:=AJ n _ a b;have k1:SL (skip r.length r).1+Wt (skip r.length r).2+20<=Wt r:=by
    obtain ⟨m,hm⟩: ∃m,r.length=m+1:=by
     cases r with
     | nil=>exact absurd rfl h0
     | cons t l=>exact ⟨l.length,rfl⟩
    rw [hm];simp only [skip];rw [if_pos ⟨h0,by simpa using e⟩];have k:=K2 m (aS r);simp only [bD,eE];omega
   rw [bD,gD (by decide) (by decide)];omega
theorem Ty (r:List bc):(jS (doc r)).length<=5 * Wt r+20:=by
 obtain ⟨l,a,b⟩:=jK r;rw [b,gD (by decide) (by decide)];have:=AJ _ _ _ a;omega
end Go.Parse
