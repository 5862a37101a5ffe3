/-
  A part of the proof.
-/
set_option linter.all false
namespace Go
abbrev NT:=@Except.ok.injEq
abbrev NU:=@Prod.mk.injEq
abbrev NV:=@List.mem_cons_self
abbrev NX:=@Nat.le_refl
abbrev NY:=@beq_eq_false_iff_ne
abbrev NZ:=@Nat.eq_of_beq_eq_true
abbrev N0:=@Bool.and_eq_true
abbrev N1:=@Option.some.injEq
abbrev N2:=@List.mem_cons_of_mem
abbrev N3:=@List.length_drop
abbrev N4:=@Nat.le_of_ble_eq_true
abbrev N5:=@Nat.zero_add
abbrev N6:=@eq_false_of_ne_true
abbrev N7:=@List.drop_zero
abbrev N8:=@List.length_append
abbrev N9:=@List.mem_append
abbrev Oa:=@List.length_take
abbrev Ob:=@List.mem_of_getElem?
abbrev Oc:=@List.mem_cons
abbrev Od:=@List.map_cons
abbrev Oe:=@Nat.le_trans
abbrev Og:=@List.getElem?_eq_none
abbrev Oh:=@List.getElem?_append_left
abbrev Oi:=@Bool.false_eq_true
abbrev Oj:=@List.getElem?_eq_getElem
abbrev Ok:=@List.length_map
abbrev Ol:=@List.drop_eq_nil_iff
abbrev Om:=@List.length_cons
abbrev On:=@List.append_assoc
abbrev Oo:=@List.eq_nil_of_length_eq_zero
abbrev Ot:=@List.take_length
abbrev Ou:=@Bool.not_true
abbrev Ov:=@Bool.false_or
abbrev Ow:=@Nat.add_zero
abbrev Ox:=@List.all_eq_true
abbrev Oy:=@Bool.false_ne_true
abbrev Oz:=@Nat.ble_eq_true_of_le
abbrev OA:=@List.getElem?_toArray
abbrev OB:=@Option.bind_eq_some_iff
abbrev OC:=@congrArg
abbrev OD:=@Option.map_eq_some_iff
abbrev OE:=@Array.getElem?_toList
abbrev OG:=@Bool.not_false
abbrev OH:=@List.takeWhile_cons
abbrev OI:=@decide_eq_true_eq
abbrev OJ:=@List.map_append
abbrev OK:=@Array.length_toList
abbrev OL:=@beq_iff_eq
abbrev OM:=@List.getElem?_map
abbrev ON:=@List.append_nil
abbrev OO:=@List.length_nil
abbrev OP:=@List.pairwise_cons
abbrev OQ:=@List.mem_map
abbrev OS:=@Option.some.inj
abbrev OT:=@List.cons.injEq
abbrev OU:=@List.nil_sublist
abbrev OV:=@List.getElem?_append_right
abbrev OW:=@Bool.or_eq_true
abbrev OX:=@decide_eq_false
abbrev OY:=@List.take_append_drop
abbrev OZ:=@Bool.and_self
abbrev O0:=@Bool.false_and
abbrev O3:=@List.nil_append
abbrev O4:=@Nat.zero_le
abbrev O5:=@List.map_nil
abbrev O7:=@Bool.true_and
abbrev O8:=@List.drop_drop
abbrev O9:=@Bool.true_or
abbrev Pa:=@decide_eq_true
abbrev Pb:=@Nat.add_comm
abbrev Pc:=@List.getD_eq_getElem?_getD
abbrev Pf:=@List.size_toArray
abbrev Pg:=@List.Sublist.refl
abbrev Ph:=@List.getElem?_eq_some_iff
abbrev Pj:=@Nat.lt_succ_self
abbrev Pk:=@List.dropWhile_cons
abbrev Pl:=@List.takeWhile_append_dropWhile
abbrev Pm:=@List.all_cons
abbrev Pn:=@List.any_cons
abbrev Po:=@List.getElem?_drop
abbrev Pp:=@UInt8.toNat_inj
abbrev Ps:=@List.nodup_cons
abbrev Pu:=@List.cons_append
abbrev Pv:=@Nat.min_eq_left
abbrev Pw:=@List.mem_singleton
abbrev Px:=@and_true
abbrev Py:=@Nat.beq_refl
abbrev PA:=@Nat.lt_of_lt_of_le
abbrev PB:=@Nat.add_sub_cancel
abbrev PC:=@Nat.mul_le_mul
abbrev PD:=@List.getElem?_cons_zero
abbrev PE:=@List.getElem?_cons_succ
abbrev PG:=@of_decide_eq_true
abbrev PH:=@List.mem_nil_iff
abbrev PI:=@Bool.or_eq_false_iff
abbrev PJ:=@List.drop_succ_cons
abbrev PK:=@Nat.min_eq_right
abbrev PL:=@List.foldl_cons
abbrev PM:=@List.sublist_cons_self
abbrev PN:=@List.dropWhile_suffix
abbrev PO:=@Nat.add_assoc
abbrev PQ:=@Bool.or_false
abbrev PU:=@Nat.le_of_lt
end Go
namespace Go.Scope
abbrev Tx:=List UInt8
abbrev Sp:=Int×Int
inductive Dl where
 | mk (k lit:Nat) (sp:Sp) (nm:Tx) (ps:List Dl)
 deriving Inhabited
inductive Ft where
 | mk (k:Nat) (sp:Sp) (rc:Bool) (nm:Tx) (ps:List Dl) (ls:List Ft)
 deriving Inhabited
structure Bd where
 sp:Sp
 rc:Bool
 ps:List Dl
 body:Ft
structure Tb where
 bs:List (Tx×Sp)
 us:List (Tx×Sp×Int)
 tw:List Nat
def LK (fr:Nat) (nm:Tx) (sp:Sp) (t:Tb):Tb:=⟨t.bs++[(nm,sp)],t.us,if (t.bs.drop fr).any (fun b=>b.1==nm)=true then t.tw++[t.bs.length] else t.tw⟩
mutual
def Nc (fr:Nat):Dl->Tb->List Nat->Tb×List Nat
 | .mk k _ sp nm ps,t,bd=>if k=15 then FH fr ps (LK fr nm sp t) (bd++[t.bs.length]) else FH fr ps t bd
def FH (fr:Nat):List Dl->Tb->List Nat->Tb×List Nat
 | [],t,bd=>(t,bd)
 | p::ps,t,bd=>FH fr ps (Nc fr p t bd).1 (Nc fr p t bd).2
end
def binders (ps:List Dl) (t:Tb) (bd:List Nat):Tb×List Nat:=FH t.bs.length ps t bd
def Mu:Tx:=[110,111,116]
def MD:Tx:=[102,115,116]
def Mw:Tx:=[115,110,100]
def Is:Tx:=[102,108,111,97,116]
def given (nm:Tx):Bool:=[Mu,MD,Mw,Is].any fun s=>s==nm
def KB (bs:List (Tx×Sp)) (nm:Tx) (i:Nat):Bool:=(bs[i]?.map (·.1))==some nm
def MG (bs:List (Tx×Sp)) (nm:Tx) (bd:List Nat):Option Nat:=bd.reverse.find? (KB bs nm)
def Ly (bs:List (Tx×Sp)) (nm:Tx) (bd:List Nat):Int:=
 match MG bs nm bd with
 | some i=>(i:Int)
 | none=>if given nm=true then -2 else -1
def MF (nm:Tx) (sp:Sp) (t:Tb) (bd:List Nat):Tb:=⟨t.bs,t.us++[(nm,sp,Ly t.bs nm bd)],t.tw⟩
def two (rc:Bool) (ps:List Dl) (t:Tb) (bd:List Nat):Tb×List Nat×List Nat:=
 let r:=binders (ps.take 1) t bd
 let q:=binders (ps.drop 1) r.1 (if rc=true then r.2 else bd)
 (q.1,r.2,q.2)
def Iv:List Dl->Tb->List Nat->Tb
 | [],t,_=>t
 | p::ps,t,bd=>Iv ps (binders [p] t bd).1 bd
mutual
def expr:Ft->Tb->List Nat->Tb
 | .mk k sp rc nm ps ls,t,bd=>
  if k=11 then exprs ls (binders ps t bd).1 (binders ps t bd).2
  else if k=14 then Ml ls (two rc ps t bd).1 (two rc ps t bd).2.1 (two rc ps t bd).2.2
  else if k=13 then Jd ls ps t bd
  else exprs ls (if k=1 then MF nm sp t bd else t) bd
def exprs:List Ft->Tb->List Nat->Tb
 | [],t,_=>t
 | e::l,t,bd=>exprs l (expr e t bd) bd
def Ml:List Ft->Tb->List Nat->List Nat->Tb
 | [],t,_,_=>t
 | a::r,t,first,inner=>exprs r (expr a t inner) first
def Jd:List Ft->List Dl->Tb->List Nat->Tb
 | [],ps,t,bd=>Iv ps t bd
 | a::r,ps,t,bd=>D3 r ps (expr a t bd) bd
def D3:List Ft->List Dl->Tb->List Nat->Tb
 | [],ps,t,bd=>Iv ps t bd
 | e::r,[],t,bd=>D3 r [] (expr e t bd) bd
 | e::r,p::ps,t,bd=>D3 r ps (expr e (binders [p] t bd).1 (binders [p] t bd).2) bd
end
def decls:List Bd->Tb->List Nat->Tb
 | [],t,_=>t
 | d::l,t,row=>decls l (expr d.body (two d.rc d.ps t row).1 (two d.rc d.ps t row).2.2) (two d.rc d.ps t row).2.1
structure Ext (t t':Tb):Prop where
 bs: ∃x,t'.bs=t.bs++x
 us: ∃x,t'.us=t.us++x
 tw: ∃x,t'.tw=t.tw++x
def KF (bs:List (Tx×Sp)) (u:Tx×Sp×Int):Prop:=(∃k:Nat,u.2.2=(k:Int)/\ ∃s,bs[k]? =some (u.1,s))\/(u.2.2= -2/\given u.1=true)\/(u.2.2= -1/\given u.1=false)
structure Good (t:Tb) (bd:List Nat):Prop where
 us: ∀u∈t.us,KF t.bs u
 bd: ∀i∈bd,i < t.bs.length
 tw: ∀i∈t.tw,1<=i/\i < t.bs.length
 up:t.tw.Pairwise (· < ·)
section
variable (T:Tb) (nms:List Tx)
variable {T nms} {D:Prop}
def In (t:Tb) (bd:List Nat):Prop:= ∀i∈bd,i < t.bs.length
end
def Li (n:Nat):Tx:=if h:n < 10 then [48+UInt8.ofNat n] else Li (n / 10)++[48+UInt8.ofNat (n % 10)]
termination_by n
decreasing_by omega
def fresh (long n:Nat):Tx:=List.replicate (long+1) 122++Li n
end Go.Scope
