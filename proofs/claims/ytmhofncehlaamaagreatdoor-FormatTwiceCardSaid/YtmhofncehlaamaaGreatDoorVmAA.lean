/-
  (A part of the proof: Nm, ScopeSpec, ScopeRen, ScopeLaw.)
-/
set_option linter.unusedSimpArgs false
namespace Go
abbrev Vg:=@List.length_append
abbrev Vh:=@List.length_cons
abbrev Vi:=@Except.ok.injEq
abbrev Vj:=@List.length_nil
abbrev Vk:=@Prod.mk.injEq
abbrev Vl:=@Bool.and_eq_true
abbrev Vn:=@Nat.le_refl
abbrev Vp:=@List.mem_cons_self
abbrev Vq:=@Nat.eq_of_beq_eq_true
abbrev Vs:=@List.nil_append
abbrev Vt:=@Option.some.injEq
abbrev Vu:=@List.map_cons
abbrev Vv:=@List.mem_cons
abbrev Vx:=@List.append_assoc
abbrev Vy:=@List.mem_cons_of_mem
abbrev Vz:=@List.cons_append
abbrev VA:=@Nat.le_of_ble_eq_true
abbrev VB:=@List.length_take
abbrev VC:=@Nat.zero_add
abbrev VD:=@List.drop_zero
abbrev VE:=@List.mem_append
abbrev VF:=@List.length_drop
abbrev VG:=@List.getElem?_eq_getElem
abbrev VH:=@List.append_nil
abbrev VI:=@List.getD_eq_getElem?_getD
abbrev VJ:=@List.mem_nil_iff
abbrev VK:=@List.drop_succ_cons
abbrev VL:=@List.length_map
abbrev VO:=@Option.map_eq_some_iff
abbrev VP:=@Bool.false_eq_true
abbrev VQ:=@List.mem_of_getElem?
abbrev VR:=@List.mem_singleton
abbrev VS:=@Nat.ble_eq_true_of_le
abbrev VT:=@List.map_append
abbrev VU:=@List.getElem?_append_left
abbrev VV:=@List.take_length
abbrev VW:=@List.getElem?_eq_none
abbrev VX:=@beq_eq_false_iff_ne
abbrev VY:=@List.map_nil
abbrev VZ:=@Nat.le_trans
abbrev V0:=@Bool.or_eq_false_iff
abbrev V1:=@decide_eq_true_eq
abbrev V2:=@Bool.or_eq_true
abbrev V3:=@List.takeWhile_cons
abbrev V4:=@beq_iff_eq
abbrev V5:=@List.getElem?_append_right
abbrev V6:=@Bool.and_self
abbrev V7:=@eq_false_of_ne_true
abbrev V8:=@List.eq_nil_of_length_eq_zero
abbrev V9:=@Bool.not_true
abbrev Wa:=@List.getElem?_map
abbrev Wb:=@congrArg
abbrev Wc:=@Nat.zero_le
abbrev We:=@List.mem_map
abbrev Wf:=@List.all_eq_true
abbrev Wg:=@Bool.not_false
abbrev Wh:=@List.getElem_mem
abbrev Wi:=@List.getElem?_toArray
abbrev Wj:=@List.length_singleton
abbrev Wk:=@Nat.add_zero
abbrev Wl:=@List.take_append_drop
abbrev Wm:=@Array.getElem?_toList
abbrev Wn:=@Array.length_toList
abbrev Wo:=@beq_self_eq_true
abbrev Wp:=@Bool.and_true
abbrev Wq:=@Nat.lt_succ_self
abbrev Wr:=@List.filterMap_cons
abbrev Ws:=@Option.bind_eq_some_iff
abbrev Wt:=@decide_eq_false_iff_not
abbrev Wu:=@Bool.false_or
abbrev Ww:=@List.pairwise_cons
abbrev Wx:=@Nat.beq_refl
abbrev Wy:=@List.drop_eq_nil_iff
abbrev Wz:=@List.flatMap_cons
abbrev WA:=@Option.some.inj
abbrev WB:=@List.dropWhile_cons
abbrev WC:=@UInt8.toNat_inj
abbrev WD:=@decide_eq_false
abbrev WE:=@Nat.add_comm
abbrev WG:=@List.cons.injEq
abbrev WH:=@List.any_cons
abbrev WI:=@List.getElem?_drop
abbrev WJ:=@decide_eq_true
abbrev WK:=@List.drop_drop
abbrev WL:=@List.dropWhile_suffix
abbrev WM:=@List.getElem?_eq_some_iff
abbrev WN:=@List.takeWhile_append_dropWhile
abbrev WO:=@List.all_cons
abbrev WQ:=@Nat.min_eq_left
abbrev WS:=@List.Sublist.refl
abbrev WT:=@Bool.false_and
abbrev WU:=@List.take_left
abbrev WV:=@List.getElem?_cons_succ
abbrev WW:=@Bool.true_and
abbrev WX:=@List.nodup_cons
abbrev WY:=@List.size_toArray
abbrev WZ:=@Nat.sub_self
abbrev W2:=@List.length_replicate
abbrev W5:=@List.filter_cons
abbrev W6:=@List.length_pos_iff
abbrev W7:=@List.take_succ_cons
abbrev W8:=@Nat.not_lt_zero
abbrev W9:=@Bool.and_false
abbrev Xa:=@List.getElem?_cons_zero
abbrev Xb:=@of_decide_eq_true
abbrev Xc:=@List.sublist_cons_self
abbrev Xd:=@Bool.true_or
abbrev Xe:=@true_and
abbrev Xf:=@and_true
abbrev Xg:=@Bool.false_ne_true
abbrev Xh:=@Array.getElem?_eq_some_iff
abbrev Xi:=@Nat.le_succ_of_le
abbrev Xj:=@List.drop_append
abbrev Xk:=@Nat.min_eq_right
abbrev Xl:=@List.foldl_cons
abbrev Xm:=@Nat.mul_le_mul
abbrev Xn:=@Nat.add_assoc
abbrev Xo:=@Bool.or_false
abbrev Xp:=@Nat.le_of_lt
end Go
namespace Go.Scope
abbrev Tx:=List UInt8
abbrev Sp:=Int×Int
inductive JF where
 | mk (k lit:Nat) (sp:Sp) (nm:Tx) (ps:List JF)
 deriving Inhabited
inductive M3 where
 | mk (k:Nat) (sp:Sp) (rc:Bool) (nm:Tx) (ps:List JF) (ls:List M3)
 deriving Inhabited
structure Bd where
 sp:Sp
 rc:Bool
 ps:List JF
 body:M3
structure Tb where
 bs:List (Tx×Sp)
 us:List (Tx×Sp×Int)
 tw:List Nat
def RW (fr:Nat) (nm:Tx) (sp:Sp) (t:Tb):Tb:=⟨t.bs++[(nm,sp)],t.us,if (t.bs.drop fr).any (fun b=>b.1==nm)=true then t.tw++[t.bs.length] else t.tw⟩
mutual
def sk (fr:Nat):JF→Tb→List Nat→Tb×List Nat
 | .mk k _ sp nm ps,t,bd=>if k=15 then M5 fr ps (RW fr nm sp t) (bd++[t.bs.length]) else M5 fr ps t bd
def M5 (fr:Nat):List JF→Tb→List Nat→Tb×List Nat
 | [],t,bd=>(t,bd)
 | p::ps,t,bd=>M5 fr ps (sk fr p t bd).1 (sk fr p t bd).2
end
def binders (ps:List JF) (t:Tb) (bd:List Nat):Tb×List Nat:=M5 t.bs.length ps t bd
def Us:Tx:=[110,111,116]
def TQ:Tx:=[102,115,116]
def TV:Tx:=[115,110,100]
def Qg:Tx:=[102,108,111,97,116]
def given (nm:Tx):Bool:=[Us,TQ,TV,Qg].any fun s=>s==nm
def Ak (bs:List (Tx×Sp)) (nm:Tx) (i:Nat):Bool:=(bs[i]?.map (·.1))==some nm
def vV (bs:List (Tx×Sp)) (nm:Tx) (bd:List Nat):Option Nat:=bd.reverse.find? (Ak bs nm)
def rm (bs:List (Tx×Sp)) (nm:Tx) (bd:List Nat):Int:=
 match vV bs nm bd with
 | some i=>(i:Int)
 | none=>if given nm=true then -2 else -1
def TL (nm:Tx) (sp:Sp) (t:Tb) (bd:List Nat):Tb:=⟨t.bs,t.us++[(nm,sp,rm t.bs nm bd)],t.tw⟩
def two (rc:Bool) (ps:List JF) (t:Tb) (bd:List Nat):Tb×List Nat×List Nat:=
 let r:=binders (ps.take 1) t bd
 let q:=binders (ps.drop 1) r.1 (if rc=true then r.2 else bd)
 (q.1,r.2,q.2)
def Qm:List JF→Tb→List Nat→Tb
 | [],t,_=>t
 | p::ps,t,bd=>Qm ps (binders [p] t bd).1 bd
mutual
def expr:M3→Tb→List Nat→Tb
 | .mk k sp rc nm ps ls,t,bd=>
  if k=11 then exprs ls (binders ps t bd).1 (binders ps t bd).2
  else if k=14 then T8 ls (two rc ps t bd).1 (two rc ps t bd).2.1 (two rc ps t bd).2.2
  else if k=13 then Pk ls ps t bd
  else exprs ls (if k=1 then TL nm sp t bd else t) bd
def exprs:List M3→Tb→List Nat→Tb
 | [],t,_=>t
 | e::l,t,bd=>exprs l (expr e t bd) bd
def T8:List M3→Tb→List Nat→List Nat→Tb
 | [],t,_,_=>t
 | a::r,t,first,inner=>exprs r (expr a t inner) first
def Pk:List M3→List JF→Tb→List Nat→Tb
 | [],ps,t,bd=>Qm ps t bd
 | a::r,ps,t,bd=>JW r ps (expr a t bd) bd
def JW:List M3→List JF→Tb→List Nat→Tb
 | [],ps,t,bd=>Qm ps t bd
 | e::r,[],t,bd=>JW r [] (expr e t bd) bd
 | e::r,p::ps,t,bd=>JW r ps (expr e (binders [p] t bd).1 (binders [p] t bd).2) bd
end
def decls:List Bd→Tb→List Nat→Tb
 | [],t,_=>t
 | d::l,t,row=>decls l (expr d.body (two d.rc d.ps t row).1 (two d.rc d.ps t row).2.2) (two d.rc d.ps t row).2.1
structure Ext (t t':Tb):Prop where
 bs: ∃x,t'.bs=t.bs++x
 us: ∃x,t'.us=t.us++x
 tw: ∃x,t'.tw=t.tw++x
def RR (bs:List (Tx×Sp)) (u:Tx×Sp×Int):Prop:=(∃k:Nat,u.2.2=(k:Int)∧ ∃s,bs[k]? =some (u.1,s))∨(u.2.2= -2∧given u.1=true)∨(u.2.2= -1∧given u.1=false)
structure Good (t:Tb) (bd:List Nat):Prop where
 us: ∀u∈t.us,RR t.bs u
 bd: ∀i∈bd,i < t.bs.length
 tw: ∀i∈t.tw,1≤i∧i < t.bs.length
 up:t.tw.Pairwise (· < ·)
theorem Jp {bs:List (Tx×Sp)} {nm:Tx} {bd:List Nat} {i:Nat} (h:vV bs nm bd=some i):i∈bd∧ ∃s,bs[i]? =some (nm,s):=by
 unfold vV at h;have h1:=List.find?_some h;have h2:=List.mem_of_find?_eq_some h;refine ⟨by simpa using h2, ?_⟩;unfold Ak at h1;cases hb:bs[i]? with
 | none=>rw [hb] at h1;simp at h1
 | some b=>
  rw [hb] at h1;simp only [Option.map_some,V4,Vt] at h1;exact ⟨b.2,by rw [← h1]⟩
section
variable (T:Tb) (nms:List Tx)
structure Fit (D:Prop):Prop where
 len:nms.length=T.bs.length
 use: ∀(bd:List Nat) (nm:Tx) (sp:Sp) (k:Int) (bs:List (Tx×Sp)),(∀i∈bd,i < T.bs.length)→(nm,sp,k)∈T.us→rm T.bs nm bd=k→(∀i,i < T.bs.length→ ∃s,bs[i]? =some (nms.getD i [],s))→
  rm bs (if 0≤k∧k < (nms.length:Int) then nms.getD k.toNat [] else nm) bd=k
 dis:D→ ∀i j,i < j→j < T.bs.length→nms.getD i []≠nms.getD j []
variable {T nms} {D:Prop}
def In (t:Tb) (bd:List Nat):Prop:= ∀i∈bd,i < t.bs.length
end
def Ss (n:Nat):Tx:=if h:n < 10 then [48+UInt8.ofNat n] else Ss (n / 10)++[48+UInt8.ofNat (n % 10)]
termination_by n
decreasing_by omega
def fresh (long n:Nat):Tx:=List.replicate (long+1) 122++Ss n
theorem Jf (long i:Nat):long < (fresh long i).length:=by
 unfold fresh;rw [Vg,W2];omega
theorem xe {bs:List (Tx×Sp)} {nm n:Tx} {i:Nat} {s:Sp} (h:bs[i]? =some (n,s)):Ak bs nm i=(n==nm):=by
 unfold Ak;rw [h];show (some n==some nm)= _;rw [Option.some_beq_some]
theorem A4 {α:Type} {p q:α→Bool} {k:α}: ∀{l:List α},(∀i∈l,q i=true→p i=true)→q k=true→l.find? p=some k→l.find? q=some k
 | [],_,_,h=>by simp at h
 | a::l,hl,hk,h=>by
  rw [List.find?_cons] at h ⊢;cases hp:p a with
  | true=>
   rw [hp] at h;simp only [Vt] at h;rw [h,hk]
  | false=>
   rw [hp] at h;have:q a=false:=by
    cases hq:q a with
    | false=>rfl
    | true=>rw [hl a Vp hq] at hp;cases hp
   rw [this];exact A4 (fun i hi=>hl i (Vy _ hi)) hk h
structure Un (T:Tb) (long:Nat):Prop where
 bs: ∀b∈T.bs,b.1.length≤long
 us: ∀u∈T.us,u.1.length≤long
theorem EZ {bs:List (Tx×Sp)} {nm:Tx} {bd:List Nat} {k:Int} (h:rm bs nm bd=k) (h0:0≤k):vV bs nm bd=some k.toNat:=by
 unfold rm at h;cases hs:vV bs nm bd with
 | some i=>rw [hs] at h;rw [← h];rfl
 | none=>rw [hs] at h;dsimp only at h;split at h <;> omega
theorem xj {bs:List (Tx×Sp)} {nm:Tx} {bd:List Nat} (h:vV bs nm bd=none):rm bs nm bd=if given nm=true then -2 else -1:=by unfold rm;rw [h]
theorem Aa {bs:List (Tx×Sp)} {nm:Tx} {bd:List Nat} {k:Int} (h:rm bs nm bd=k) (h0:k < 0):vV bs nm bd=none:=by
 unfold rm at h;cases hs:vV bs nm bd with
 | none=>rfl
 | some i=>rw [hs] at h;dsimp only at h;omega
def nL (long:Nat) (bs:List (Tx×Sp)) (k:Nat):List Tx:=(List.range bs.length).map fun i=>if i=k then fresh long i else (bs[i]?.map (·.1)).getD []
theorem rv {long k i:Nat} {bs:List (Tx×Sp)} {b:Tx×Sp} (h:bs[i]? =some b):(nL long bs k).getD i []=if i=k then fresh long i else b.1:=by
 unfold nL;rw [VI,Wa,List.getElem?_range (WM.1 h).1];show (some _).getD []= _;rw [Option.getD_some];dsimp only;rw [h];rfl
theorem Hz {T:Tb} {row:List Nat} (_hG:Good T row) {long:Nat} (hL:Un T long) {k0:Nat} (hk: ∀u∈T.us,u.2.2≠(k0:Int)):Fit T (nL long T.bs k0) False:=by
 have hlen:(nL long T.bs k0).length=T.bs.length:=by simp [nL]
 refine ⟨hlen,fun bd nm sp k bs hbd hmem hm hbs=> ?_,fun h=>h.elim⟩;rw [hlen];have hnl:=hL.us _ hmem;dsimp only at hnl;have hne:=hk _ hmem;dsimp only at hne;have hless: ∀i∈bd.reverse,Ak bs nm i=true→Ak T.bs nm i=true:=fun i hi hq=>by
  have hil:=hbd i (by simpa using hi);obtain ⟨s',hs'⟩:=hbs i hil;have hb:=VG hil;rw [xe hs',rv hb] at hq;rw [xe (n:=T.bs[i].1) (s:=T.bs[i].2) hb];split at hq
  ·have h1:fresh long i=nm:=by simpa using hq
   have h2:=Jf long i;rw [h1] at h2;omega
  ·exact hq
 by_cases h0:0≤k
 ·have hs:=EZ hm h0;obtain ⟨hi,s,hsb⟩:=Jp hs;have hlt:=hbd _ hi;have hkk:k.toNat≠k0:=by omega
  have hg:(nL long T.bs k0).getD k.toNat []=nm:=by rw [rv hsb,if_neg hkk]
  rw [if_pos ⟨h0,by omega⟩,hg];have hfind:vV bs nm bd=some k.toNat:=by
   unfold vV at hs ⊢;refine A4 hless ?_ hs;obtain ⟨s',hs'⟩:=hbs _ hlt;rw [xe hs',hg];simp
  unfold rm;rw [hfind];show ((k.toNat:Nat):Int)=k;omega
 ·rw [if_neg (by omega)];have hs:vV bs nm bd=none:=by
   have h1:=Aa hm (by omega);unfold vV at h1 ⊢;rw [List.find?_eq_none] at h1 ⊢;intro i hi hq;exact h1 i hi (hless i hi hq)
  rw [xj hs, ← hm,xj (Aa hm (by omega))]
end Go.Scope
