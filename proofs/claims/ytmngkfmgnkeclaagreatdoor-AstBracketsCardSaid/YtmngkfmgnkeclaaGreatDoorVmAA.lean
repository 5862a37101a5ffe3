/-
  (A part of the proof: ScopeSpec, ScopeRen, ScopeLaw.)
-/
namespace Go.Scope
abbrev Tx:=List UInt8
abbrev Sp:=Int×Int
inductive ij where
 | mk (k lit:Nat) (sp:Sp) (nm:Tx) (ps:List ij)
 deriving Inhabited
inductive iT where
 | mk (k:Nat) (sp:Sp) (rc:Bool) (nm:Tx) (ps:List ij) (ls:List iT)
 deriving Inhabited
structure Bd where
 sp:Sp
 rc:Bool
 ps:List ij
 body:iT
structure Tb where
 bs:List (Tx×Sp)
 us:List (Tx×Sp×Int)
 tw:List Nat
def Tb.none:Tb:=⟨[],[],[]⟩
def PG (fr:Nat) (nm:Tx) (sp:Sp) (t:Tb):Tb:=⟨t.bs++[(nm,sp)],t.us,if (t.bs.drop fr).any (fun b=>b.1==nm)=true then t.tw++[t.bs.length] else t.tw⟩
mutual
def Sw (fr:Nat):ij→Tb→List Nat→Tb×List Nat
 | .mk k _ sp nm ps,t,bd=>if k=15 then JX fr ps (PG fr nm sp t) (bd++[t.bs.length]) else JX fr ps t bd
def JX (fr:Nat):List ij→Tb→List Nat→Tb×List Nat
 | [],t,bd=>(t,bd)
 | p::ps,t,bd=>JX fr ps (Sw fr p t bd).1 (Sw fr p t bd).2
end
def binders (ps:List ij) (t:Tb) (bd:List Nat):Tb×List Nat:=JX t.bs.length ps t bd
def Ry:Tx:=[110,111,116]
def Rj:Tx:=[102,115,116]
def RM:Tx:=[115,110,100]
def Np:Tx:=[102,108,111,97,116]
def given (nm:Tx):Bool:=[Ry,Rj,RM,Np].any fun s=>s==nm
def zr (bs:List (Tx×Sp)) (nm:Tx) (i:Nat):Bool:=(bs[i]?.map (·.1))==some nm
def vb (bs:List (Tx×Sp)) (nm:Tx) (bd:List Nat):Option Nat:=bd.reverse.find? (zr bs nm)
def rh (bs:List (Tx×Sp)) (nm:Tx) (bd:List Nat):Int:=
 match vb bs nm bd with
 | some i=>(i:Int)
 | none=>if given nm=true then -2 else -1
def Ru (nm:Tx) (sp:Sp) (t:Tb) (bd:List Nat):Tb:=⟨t.bs,t.us++[(nm,sp,rh t.bs nm bd)],t.tw⟩
def two (rc:Bool) (ps:List ij) (t:Tb) (bd:List Nat):Tb×List Nat×List Nat:=
 let r:=binders (ps.take 1) t bd
 let q:=binders (ps.drop 1) r.1 (if rc=true then r.2 else bd)
 (q.1,r.2,q.2)
def MZ:List ij→Tb→List Nat→Tb
 | [],t,_=>t
 | p::ps,t,bd=>MZ ps (binders [p] t bd).1 bd
mutual
def expr:iT→Tb→List Nat→Tb
 | .mk k sp rc nm ps ls,t,bd=>
  if k=11 then exprs ls (binders ps t bd).1 (binders ps t bd).2
  else if k=14 then RF ls (two rc ps t bd).1 (two rc ps t bd).2.1 (two rc ps t bd).2.2
  else if k=13 then NI ls ps t bd
  else exprs ls (if k=1 then Ru nm sp t bd else t) bd
def exprs:List iT→Tb→List Nat→Tb
 | [],t,_=>t
 | e::l,t,bd=>exprs l (expr e t bd) bd
def RF:List iT→Tb→List Nat→List Nat→Tb
 | [],t,_,_=>t
 | a::r,t,first,inner=>exprs r (expr a t inner) first
def NI:List iT→List ij→Tb→List Nat→Tb
 | [],ps,t,bd=>MZ ps t bd
 | a::r,ps,t,bd=>HW r ps (expr a t bd) bd
def HW:List iT→List ij→Tb→List Nat→Tb
 | [],ps,t,bd=>MZ ps t bd
 | e::r,[],t,bd=>HW r [] (expr e t bd) bd
 | e::r,p::ps,t,bd=>HW r ps (expr e (binders [p] t bd).1 (binders [p] t bd).2) bd
end
def decls:List Bd→Tb→List Nat→Tb
 | [],t,_=>t
 | d::l,t,row=>decls l (expr d.body (two d.rc d.ps t row).1 (two d.rc d.ps t row).2.2) (two d.rc d.ps t row).2.1
structure Ext (t t':Tb):Prop where
 bs: ∃x,t'.bs=t.bs++x
 us: ∃x,t'.us=t.us++x
 tw: ∃x,t'.tw=t.tw++x
theorem Ext.refl (t:Tb):Ext t t:=⟨⟨[],by simp⟩,⟨[],by simp⟩,⟨[],by simp⟩⟩
theorem Ext.trans {a b c:Tb} (h:Ext a b) (k:Ext b c):Ext a c:=by
 obtain ⟨⟨x1,h1⟩,⟨x2,h2⟩,⟨x3,h3⟩⟩:=h
 obtain ⟨⟨y1,k1⟩,⟨y2,k2⟩,⟨y3,k3⟩⟩:=k
 exact ⟨⟨x1++y1,by rw [k1,h1,List.append_assoc]⟩,⟨x2++y2,by rw [k2,h2,List.append_assoc]⟩,⟨x3++y3,by rw [k3,h3,List.append_assoc]⟩⟩
def Fb (bs:List (Tx×Sp)) (u:Tx×Sp×Int):Prop:=(∃k:Nat,u.2.2=(k:Int)∧ ∃s,bs[k]? =some (u.1,s))∨(u.2.2= -2∧given u.1=true)∨(u.2.2= -1∧given u.1=false)
structure Good (t:Tb) (bd:List Nat):Prop where
 us: ∀u∈t.us,Fb t.bs u
 bd: ∀i∈bd,i < t.bs.length
 tw: ∀i∈t.tw,1≤i∧i < t.bs.length
 up:t.tw.Pairwise (· < ·)
theorem Fb.ext {bs x:List (Tx×Sp)} {u:Tx×Sp×Int} (h:Fb bs u):Fb (bs++x) u:=by
 rcases h with ⟨k,h1,s,h2⟩ | h | h
 ·refine .inl ⟨k,h1,s, ?_⟩
  rw [List.getElem?_append_left (List.getElem?_eq_some_iff.1 h2).1]
  exact h2
 ·exact .inr (.inl h)
 ·exact .inr (.inr h)
theorem Gp {bs:List (Tx×Sp)} {nm:Tx} {bd:List Nat} {i:Nat} (h:vb bs nm bd=some i):i∈bd∧ ∃s,bs[i]? =some (nm,s):=by
 unfold vb at h
 have h1:=List.find?_some h
 have h2:=List.mem_of_find?_eq_some h
 refine ⟨by simpa using h2, ?_⟩
 unfold zr at h1
 cases hb:bs[i]? with
 | none=>rw [hb] at h1;simp at h1
 | some b=>
  rw [hb] at h1
  simp only [Option.map_some,beq_iff_eq,Option.some.injEq] at h1
  exact ⟨b.2,by rw [← h1]⟩
section
variable (T:Tb) (nms:List Tx)
structure Fit (D:Prop):Prop where
 len:nms.length=T.bs.length
 use: ∀(bd:List Nat) (nm:Tx) (sp:Sp) (k:Int) (bs:List (Tx×Sp)),(∀i∈bd,i < T.bs.length)→(nm,sp,k)∈T.us→rh T.bs nm bd=k→(∀i,i < T.bs.length→ ∃s,bs[i]? =some (nms.getD i [],s))→
  rh bs (if 0≤k∧k < (nms.length:Int) then nms.getD k.toNat [] else nm) bd=k
 dis:D→ ∀i j,i < j→j < T.bs.length→nms.getD i []≠nms.getD j []
structure Rl (D:Prop) (t t':Tb):Prop where
 len:t'.bs.length=t.bs.length
 bs: ∀(i:Nat) (b:Tx×Sp),t.bs[i]? =some b→t'.bs[i]? =some (nms.getD i [],b.2)
 us:t'.us.map (·.2)=t.us.map (·.2)
 tw:D→t'.tw=[]
variable {T nms} {D:Prop}
def In (t:Tb) (bd:List Nat):Prop:= ∀i∈bd,i < t.bs.length
theorem In.ext {t u:Tb} {bd:List Nat} (h:In t bd) (e:Ext t u):In u bd:=fun i hi=>by
 obtain ⟨x,hx⟩:=e.bs
 have:=h i hi
 rw [hx,List.length_append];omega
end
def QE (n:Nat):Tx:=if h:n < 10 then [48+UInt8.ofNat n] else QE (n / 10)++[48+UInt8.ofNat (n % 10)]
termination_by n
decreasing_by omega
def fresh (long n:Nat):Tx:=List.replicate (long+1) 122++QE n
theorem Ho (long i:Nat):long < (fresh long i).length:=by
 unfold fresh
 rw [List.length_append,List.length_replicate]
 omega
theorem xF {bs:List (Tx×Sp)} {nm n:Tx} {i:Nat} {s:Sp} (h:bs[i]? =some (n,s)):zr bs nm i=(n==nm):=by
 unfold zr
 rw [h]
 show (some n==some nm)= _
 rw [Option.some_beq_some]
theorem yW {α:Type} {p q:α→Bool} {k:α}: ∀{l:List α},(∀i∈l,q i=true→p i=true)→q k=true→l.find? p=some k→l.find? q=some k
 | [],_,_,h=>by simp at h
 | a::l,hl,hk,h=>by
  rw [List.find?_cons] at h ⊢
  cases hp:p a with
  | true=>
   rw [hp] at h
   simp only [Option.some.injEq] at h
   rw [h,hk]
  | false=>
   rw [hp] at h
   have:q a=false:=by
    cases hq:q a with
    | false=>rfl
    | true=>rw [hl a List.mem_cons_self hq] at hp;cases hp
   rw [this]
   exact yW (fun i hi=>hl i (List.mem_cons_of_mem _ hi)) hk h
structure Ro (T:Tb) (long:Nat):Prop where
 bs: ∀b∈T.bs,b.1.length≤long
 us: ∀u∈T.us,u.1.length≤long
theorem DL {bs:List (Tx×Sp)} {nm:Tx} {bd:List Nat} {k:Int} (h:rh bs nm bd=k) (h0:0≤k):vb bs nm bd=some k.toNat:=by
 unfold rh at h
 cases hs:vb bs nm bd with
 | some i=>rw [hs] at h;rw [← h];rfl
 | none=>rw [hs] at h;dsimp only at h;split at h <;> omega
theorem wL {bs:List (Tx×Sp)} {nm:Tx} {bd:List Nat} (h:vb bs nm bd=none):rh bs nm bd=if given nm=true then -2 else -1:=by unfold rh;rw [h]
theorem zm {bs:List (Tx×Sp)} {nm:Tx} {bd:List Nat} {k:Int} (h:rh bs nm bd=k) (h0:k < 0):vb bs nm bd=none:=by
 unfold rh at h
 cases hs:vb bs nm bd with
 | none=>rfl
 | some i=>rw [hs] at h;dsimp only at h;omega
def ng (long:Nat) (bs:List (Tx×Sp)) (k:Nat):List Tx:=(List.range bs.length).map fun i=>if i=k then fresh long i else (bs[i]?.map (·.1)).getD []
theorem rm {long k i:Nat} {bs:List (Tx×Sp)} {b:Tx×Sp} (h:bs[i]? =some b):(ng long bs k).getD i []=if i=k then fresh long i else b.1:=by
 unfold ng
 rw [List.getD_eq_getElem?_getD,List.getElem?_map,List.getElem?_range (List.getElem?_eq_some_iff.1 h).1]
 show (some _).getD []= _
 rw [Option.getD_some]
 dsimp only
 rw [h]
 rfl
theorem E3 {T:Tb} {row:List Nat} (_hG:Good T row) {long:Nat} (hL:Ro T long) {k0:Nat} (hk: ∀u∈T.us,u.2.2≠(k0:Int)):Fit T (ng long T.bs k0) False:=by
 have hlen:(ng long T.bs k0).length=T.bs.length:=by simp [ng]
 refine ⟨hlen,fun bd nm sp k bs hbd hmem hm hbs=> ?_,fun h=>h.elim⟩
 rw [hlen]
 have hnl:=hL.us _ hmem
 dsimp only at hnl
 have hne:=hk _ hmem
 dsimp only at hne
 have hless: ∀i∈bd.reverse,zr bs nm i=true→zr T.bs nm i=true:=fun i hi hq=>by
  have hil:=hbd i (by simpa using hi)
  obtain ⟨s',hs'⟩:=hbs i hil
  have hb:=List.getElem?_eq_getElem hil
  rw [xF hs',rm hb] at hq
  rw [xF (n:=T.bs[i].1) (s:=T.bs[i].2) hb]
  split at hq
  ·have h1:fresh long i=nm:=by simpa using hq
   have h2:=Ho long i
   rw [h1] at h2
   omega
  ·exact hq
 by_cases h0:0≤k
 ·have hs:=DL hm h0
  obtain ⟨hi,s,hsb⟩:=Gp hs
  have hlt:=hbd _ hi
  have hkk:k.toNat≠k0:=by omega
  have hg:(ng long T.bs k0).getD k.toNat []=nm:=by rw [rm hsb,if_neg hkk]
  rw [if_pos ⟨h0,by omega⟩,hg]
  have hfind:vb bs nm bd=some k.toNat:=by
   unfold vb at hs ⊢
   refine yW hless ?_ hs
   obtain ⟨s',hs'⟩:=hbs _ hlt
   rw [xF hs',hg]
   simp
  unfold rh
  rw [hfind]
  show ((k.toNat:Nat):Int)=k
  omega
 ·rw [if_neg (by omega)]
  have hs:vb bs nm bd=none:=by
   have h1:=zm hm (by omega)
   unfold vb at h1 ⊢
   rw [List.find?_eq_none] at h1 ⊢
   intro i hi hq
   exact h1 i hi (hless i hi hq)
  rw [wL hs, ← hm,wL (zm hm (by omega))]
end Go.Scope
