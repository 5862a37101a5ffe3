/-
  A part of the proof.
-/
set_option linter.all false
namespace Go
abbrev aaa:=@List.length_append
abbrev aab:=@List.length_cons
abbrev aac:=@Except.ok.injEq
abbrev aad:=@List.mem_cons_self
abbrev aae:=@List.length_nil
abbrev aaf:=@Bool.and_eq_true
abbrev aag:=@Prod.mk.injEq
abbrev aah:=@Nat.le_refl
abbrev aai:=@beq_eq_false_iff_ne
abbrev aaj:=@List.nil_append
abbrev aak:=@List.mem_cons_of_mem
abbrev aal:=@List.map_cons
abbrev aam:=@List.mem_cons
abbrev aan:=@Nat.eq_of_beq_eq_true
abbrev aao:=@List.append_assoc
abbrev aap:=@List.cons_append
abbrev aaq:=@Nat.le_of_ble_eq_true
abbrev aar:=@List.drop_zero
abbrev aas:=@List.length_drop
abbrev aat:=@List.length_take
abbrev aau:=@Nat.zero_add
abbrev aav:=@Option.some.injEq
abbrev aaw:=@List.append_nil
abbrev aax:=@List.getElem?_eq_getElem
abbrev aay:=@List.length_map
abbrev aaz:=@List.getD_eq_getElem?_getD
abbrev aaA:=@List.mem_append
abbrev aaB:=@Bool.false_eq_true
abbrev aaC:=@eq_false_of_ne_true
abbrev aaD:=@List.mem_nil_iff
abbrev aaE:=@List.drop_succ_cons
abbrev aaF:=@Option.map_eq_some_iff
abbrev aaG:=@List.mem_singleton
abbrev aaH:=@List.take_length
abbrev aaI:=@Nat.ble_eq_true_of_le
abbrev aaJ:=@List.mem_of_getElem?
abbrev aaK:=@List.map_append
abbrev aaL:=@Nat.le_trans
abbrev aaM:=@beq_iff_eq
abbrev aaN:=@List.map_nil
abbrev aaO:=@Bool.or_eq_false_iff
abbrev aaP:=@Bool.or_eq_true
abbrev aaQ:=@List.drop_eq_nil_iff
abbrev aaR:=@Bool.not_false
abbrev aaS:=@Bool.not_true
abbrev aaT:=@decide_eq_true_eq
abbrev aaU:=@List.takeWhile_cons
abbrev aaV:=@Bool.false_or
abbrev aaW:=@Bool.and_self
abbrev aaX:=@List.getElem?_eq_none
abbrev aaY:=@congrArg
abbrev aaZ:=@List.eq_nil_of_length_eq_zero
abbrev aba:=@Nat.zero_le
abbrev abb:=@Bool.false_ne_true
abbrev abc:=@List.getElem?_map
abbrev abd:=@List.all_eq_true
abbrev abe:=@decide_eq_false
abbrev abf:=@List.mem_map
abbrev abg:=@List.getElem?_append_right
abbrev abh:=@decide_eq_true
abbrev abi:=@List.getElem?_append_left
abbrev abj:=@List.getElem_mem
abbrev abk:=@List.take_append_drop
abbrev abl:=@List.length_singleton
abbrev abm:=@beq_self_eq_true
abbrev abn:=@Array.getElem?_toList
abbrev abo:=@List.cons.injEq
abbrev abp:=@decide_eq_false_iff_not
abbrev abq:=@Nat.add_zero
abbrev abr:=@List.any_cons
abbrev abt:=@Nat.lt_succ_self
abbrev abu:=@List.filterMap_cons
abbrev abv:=@Bool.and_true
abbrev abw:=@Bool.false_and
abbrev abx:=@List.pairwise_cons
abbrev aby:=@Nat.beq_refl
abbrev abz:=@List.nil_sublist
abbrev abA:=@List.flatMap_cons
abbrev abB:=@Bool.true_and
abbrev abC:=@Nat.add_comm
abbrev abD:=@List.drop_drop
abbrev abE:=@UInt8.toNat_inj
abbrev abF:=@Option.some.inj
abbrev abG:=@List.getElem?_drop
abbrev abH:=@Option.bind_eq_some_iff
abbrev abI:=@Bool.true_or
abbrev abJ:=@List.takeWhile_append_dropWhile
abbrev abK:=@Array.length_toList
abbrev abL:=@List.dropWhile_cons
abbrev abM:=@List.dropWhile_suffix
abbrev abN:=@List.getElem?_eq_some_iff
abbrev abO:=@List.take_succ_cons
abbrev abP:=@List.take_left
abbrev abQ:=@List.sublist_cons_self
abbrev abR:=@Nat.min_eq_left
abbrev abS:=@List.getElem?_toArray
abbrev abT:=@List.nodup_cons
abbrev abU:=@List.all_cons
abbrev abV:=@List.Sublist.refl
abbrev abW:=@and_true
abbrev abX:=@List.getElem?_cons_succ
abbrev abY:=@Nat.add_sub_cancel
abbrev abZ:=@Nat.sub_self
abbrev aca:=@true_and
abbrev acb:=@List.filter_cons
abbrev acd:=@List.length_pos_iff
abbrev ace:=@Nat.not_lt_zero
abbrev acf:=@Bool.and_false
abbrev acg:=@Nat.mul_le_mul
abbrev ach:=@List.getElem?_cons_zero
abbrev aci:=@of_decide_eq_true
abbrev acj:=@Bool.or_false
abbrev ack:=@List.length_replicate
abbrev acm:=@Array.getElem?_eq_some_iff
abbrev acn:=@Nat.le_succ_of_le
abbrev aco:=@Nat.min_eq_right
abbrev acp:=@List.foldl_cons
abbrev acq:=@List.drop_left
abbrev acr:=@Nat.add_assoc
abbrev LB:=List UInt8
abbrev Ln:=List Nat
abbrev Oq:=Option
end Go
namespace Go.Scope
abbrev Tx:=LB
abbrev Sp:=Int×Int
inductive MC where
 | mk (k lit:Nat) (sp:Sp) (nm:Tx) (ps:List MC)
 deriving Inhabited
inductive Pc where
 | mk (k:Nat) (sp:Sp) (rc:Bool) (nm:Tx) (ps:List MC) (ls:List Pc)
 deriving Inhabited
structure Bd where
 sp:Sp
 rc:Bool
 ps:List MC
 body:Pc
structure Tb where
 bs:List (Tx×Sp)
 us:List (Tx×Sp×Int)
 tw:Ln
def V5 (fr:Nat) (nm:Tx) (sp:Sp) (t:Tb):Tb:=⟨t.bs++[(nm,sp)],t.us,if (t.bs.drop fr).any (fun b=>b.1==nm)=true then t.tw++[t.bs.length] else t.tw⟩
mutual
def sV (fr:Nat):MC->Tb->Ln->Tb×Ln
 | .mk k _ sp nm ps,t,bd=>if k=15 then RD fr ps (V5 fr nm sp t) (bd++[t.bs.length]) else RD fr ps t bd
def RD (fr:Nat):List MC->Tb->Ln->Tb×Ln
 | [],t,bd=>(t,bd)
 | p::ps,t,bd=>RD fr ps (sV fr p t bd).1 (sV fr p t bd).2
end
def binders (ps:List MC) (t:Tb) (bd:Ln):Tb×Ln:=RD t.bs.length ps t bd
def X9:Tx:=[110,111,116]
def Yy:Tx:=[102,115,116]
def Yd:Tx:=[115,110,100]
def T7:Tx:=[102,108,111,97,116]
def given (nm:Tx):Bool:=[X9,Yy,Yd,T7].any fun s=>s==nm
def Xn (bs:List (Tx×Sp)) (nm:Tx) (i:Nat):Bool:=(bs[i]?.map (·.1))==some nm
def YG (bs:List (Tx×Sp)) (nm:Tx) (bd:Ln):Oq Nat:=bd.reverse.find? (Xn bs nm)
def Xq (bs:List (Tx×Sp)) (nm:Tx) (bd:Ln):Int:=
 match YG bs nm bd with
 | some i=>(i:Int)
 | none=>if given nm=true then -2 else -1
def X7 (nm:Tx) (sp:Sp) (t:Tb) (bd:Ln):Tb:=⟨t.bs,t.us++[(nm,sp,Xq t.bs nm bd)],t.tw⟩
def two (rc:Bool) (ps:List MC) (t:Tb) (bd:Ln):Tb×Ln×Ln:=
 let r:=binders (ps.take 1) t bd
 let q:=binders (ps.drop 1) r.1 (if rc=true then r.2 else bd)
 (q.1,r.2,q.2)
def UT:List MC->Tb->Ln->Tb
 | [],t,_=>t
 | p::ps,t,bd=>UT ps (binders [p] t bd).1 bd
mutual
def expr:Pc->Tb->Ln->Tb
 | .mk k sp rc nm ps ls,t,bd=>
  if k=11 then exprs ls (binders ps t bd).1 (binders ps t bd).2
  else if k=14 then XY ls (two rc ps t bd).1 (two rc ps t bd).2.1 (two rc ps t bd).2.2
  else if k=13 then T6 ls ps t bd
  else exprs ls (if k=1 then X7 nm sp t bd else t) bd
def exprs:List Pc->Tb->Ln->Tb
 | [],t,_=>t
 | e::l,t,bd=>exprs l (expr e t bd) bd
def XY:List Pc->Tb->Ln->Ln->Tb
 | [],t,_,_=>t
 | a::r,t,first,inner=>exprs r (expr a t inner) first
def T6:List Pc->List MC->Tb->Ln->Tb
 | [],ps,t,bd=>UT ps t bd
 | a::r,ps,t,bd=>O1 r ps (expr a t bd) bd
def O1:List Pc->List MC->Tb->Ln->Tb
 | [],ps,t,bd=>UT ps t bd
 | e::r,[],t,bd=>O1 r [] (expr e t bd) bd
 | e::r,p::ps,t,bd=>O1 r ps (expr e (binders [p] t bd).1 (binders [p] t bd).2) bd
end
def decls:List Bd->Tb->Ln->Tb
 | [],t,_=>t
 | d::l,t,row=>decls l (expr d.body (two d.rc d.ps t row).1 (two d.rc d.ps t row).2.2) (two d.rc d.ps t row).2.1
structure Ext (t t':Tb):Prop where
 bs: ∃x,t'.bs=t.bs++x
 us: ∃x,t'.us=t.us++x
 tw: ∃x,t'.tw=t.tw++x
def Wb (bs:List (Tx×Sp)) (u:Tx×Sp×Int):Prop:=(∃k:Nat,u.2.2=(k:Int)/\ ∃s,bs[k]? =some (u.1,s))\/(u.2.2= -2/\given u.1=true)\/(u.2.2= -1/\given u.1=false)
structure Good (t:Tb) (bd:Ln):Prop where
 us: ∀u∈t.us,Wb t.bs u
 bd: ∀i∈bd,i < t.bs.length
 tw: ∀i∈t.tw,1<=i/\i < t.bs.length
 up:t.tw.Pairwise (· < ·)
section
variable (T:Tb) (nms:List Tx)
variable {T nms} {D:Prop}
def In (t:Tb) (bd:Ln):Prop:= ∀i∈bd,i < t.bs.length
end
def V0 (n:Nat):Tx:=if h:n < 10 then [48+UInt8.ofNat n] else V0 (n / 10)++[48+UInt8.ofNat (n % 10)]
termination_by n
decreasing_by omega
def fresh (long n:Nat):Tx:=List.replicate (long+1) 122++V0 n
end Go.Scope
