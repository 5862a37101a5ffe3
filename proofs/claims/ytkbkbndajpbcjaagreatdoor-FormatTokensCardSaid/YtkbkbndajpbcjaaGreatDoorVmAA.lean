/-
  A part of the proof.
-/
set_option linter.all false
namespace Go
abbrev aad:=@List.length_append
abbrev aae:=@List.length_cons
abbrev aaf:=@Except.ok.injEq
abbrev aag:=@List.mem_cons_self
abbrev aah:=@Nat.le_of_ble_eq_true
abbrev aai:=@List.length_nil
abbrev aaj:=@Prod.mk.injEq
abbrev aak:=@Bool.and_eq_true
abbrev aal:=@Nat.le_refl
abbrev aam:=@List.mem_cons_of_mem
abbrev aan:=@List.map_cons
abbrev aao:=@List.mem_cons
abbrev aap:=@Nat.eq_of_beq_eq_true
abbrev aaq:=@List.nil_append
abbrev aar:=@List.append_assoc
abbrev aas:=@Option.some.injEq
abbrev aat:=@List.cons_append
abbrev aau:=@List.length_take
abbrev aav:=@List.getElem?_eq_getElem
abbrev aaw:=@List.drop_zero
abbrev aax:=@Nat.zero_add
abbrev aay:=@List.append_nil
abbrev aaz:=@List.length_drop
abbrev aaA:=@List.length_map
abbrev aaB:=@beq_eq_false_iff_ne
abbrev aaC:=@List.mem_append
abbrev aaD:=@List.drop_succ_cons
abbrev aaE:=@List.getD_eq_getElem?_getD
abbrev aaF:=@List.mem_nil_iff
abbrev aaG:=@List.map_append
abbrev aaH:=@List.map_nil
abbrev aaI:=@Bool.and_self
abbrev aaJ:=@List.take_length
abbrev aaK:=@List.mem_of_getElem?
abbrev aaL:=@Nat.ble_eq_true_of_le
abbrev aaM:=@List.getElem?_append_right
abbrev aaN:=@Option.map_eq_some_iff
abbrev aaO:=@Nat.zero_le
abbrev aaP:=@List.getElem?_append_left
abbrev aaQ:=@List.mem_singleton
abbrev aaR:=@Nat.le_trans
abbrev aaS:=@List.getElem?_eq_none
abbrev aaT:=@Bool.false_eq_true
abbrev aaU:=@congrArg
abbrev aaV:=@List.getElem_mem
abbrev aaW:=@List.getElem?_map
abbrev aaX:=@beq_iff_eq
abbrev aaY:=@Bool.or_eq_false_iff
abbrev aaZ:=@decide_eq_true_eq
abbrev aa0:=@Bool.or_eq_true
abbrev aa1:=@List.takeWhile_cons
abbrev aa2:=@Bool.not_true
abbrev aa3:=@Nat.lt_succ_self
abbrev aa4:=@List.flatMap_cons
abbrev aa5:=@eq_false_of_ne_true
abbrev aa6:=@List.eq_nil_of_length_eq_zero
abbrev aa7:=@List.all_eq_true
abbrev aa8:=@List.mem_map
abbrev aa9:=@Nat.beq_refl
abbrev aba:=@beq_self_eq_true
abbrev abb:=@List.take_append_drop
abbrev abc:=@List.getElem?_toArray
abbrev abd:=@List.length_singleton
abbrev abe:=@Bool.not_false
abbrev abf:=@Nat.add_zero
abbrev abg:=@Array.getElem?_toList
abbrev abh:=@Bool.and_true
abbrev abi:=@List.drop_eq_nil_iff
abbrev abj:=@Array.length_toList
abbrev abk:=@decide_eq_false_iff_not
abbrev abl:=@List.getElem?_drop
abbrev abm:=@List.pairwise_cons
abbrev abn:=@List.dropWhile_cons
abbrev abo:=@Bool.false_or
abbrev abp:=@Option.some.inj
abbrev abq:=@Option.bind_eq_some_iff
abbrev abr:=@List.sublist_cons_self
abbrev abt:=@UInt8.toNat_inj
abbrev abu:=@decide_eq_false
abbrev abv:=@Nat.add_comm
abbrev abw:=@List.drop_drop
abbrev abx:=@List.cons.injEq
abbrev aby:=@List.any_cons
abbrev abz:=@decide_eq_true
abbrev abA:=@List.dropWhile_suffix
abbrev abB:=@List.getElem?_eq_some_iff
abbrev abC:=@List.takeWhile_append_dropWhile
abbrev abD:=@List.getElem?_cons_succ
abbrev abE:=@List.filterMap_cons
abbrev abF:=@Bool.false_and
abbrev abG:=@Nat.min_eq_left
abbrev abH:=@Nat.add_assoc
abbrev abI:=@List.all_cons
abbrev abJ:=@Bool.true_and
abbrev abK:=@List.Sublist.refl
abbrev abL:=@List.take_left
abbrev abM:=@true_and
abbrev abN:=@List.length_pos_iff
abbrev abO:=@List.nodup_cons
abbrev abP:=@Bool.false_ne_true
abbrev abQ:=@Nat.le_succ_of_le
abbrev abR:=@Bool.and_false
abbrev abS:=@Nat.sub_self
abbrev abT:=@List.take_succ_cons
abbrev abU:=@Nat.not_lt_zero
abbrev abV:=@List.getElem?_cons_zero
abbrev abW:=@of_decide_eq_true
abbrev abX:=@List.length_replicate
abbrev abY:=@Bool.true_or
abbrev abZ:=@and_true
abbrev ab0:=@Array.getElem?_eq_some_iff
abbrev ab1:=@List.size_toArray
abbrev ab2:=@Nat.min_eq_right
abbrev ab3:=@Nat.le_of_lt
abbrev ab4:=@List.filter_cons
abbrev ab5:=@List.foldl_cons
abbrev ab6:=@Nat.mul_le_mul
abbrev ab7:=@Bool.or_false
abbrev LB:=List UInt8
abbrev Ln:=List Nat
abbrev Oq:=Option
end Go
namespace Go.Scope
abbrev Tx:=LB
abbrev Sp:=Int×Int
inductive jQ where
 | mk (k lit:Nat) (sp:Sp) (nm:Tx) (ps:List jQ)
 deriving Inhabited
inductive lg where
 | mk (k:Nat) (sp:Sp) (rc:Bool) (nm:Tx) (ps:List jQ) (ls:List lg)
 deriving Inhabited
structure Bd where
 sp:Sp
 rc:Bool
 ps:List jQ
 body:lg
structure Tb where
 bs:List (Tx×Sp)
 us:List (Tx×Sp×Int)
 tw:Ln
def WV (fr:Nat) (nm:Tx) (sp:Sp) (t:Tb):Tb:=⟨t.bs++[(nm,sp)],t.us,if (t.bs.drop fr).any (fun b=>b.1==nm)=true then t.tw++[t.bs.length] else t.tw⟩
mutual
def uR (fr:Nat):jQ->Tb->Ln->Tb×Ln
 | .mk k _ sp nm ps,t,bd=>if k=15 then SM fr ps (WV fr nm sp t) (bd++[t.bs.length]) else SM fr ps t bd
def SM (fr:Nat):List jQ->Tb->Ln->Tb×Ln
 | [],t,bd=>(t,bd)
 | p::ps,t,bd=>SM fr ps (uR fr p t bd).1 (uR fr p t bd).2
end
def binders (ps:List jQ) (t:Tb) (bd:Ln):Tb×Ln:=SM t.bs.length ps t bd
def YU:Tx:=[110,111,116]
def ZI:Tx:=[102,115,116]
def Zy:Tx:=[115,110,100]
def VS:Tx:=[102,108,111,97,116]
def given (nm:Tx):Bool:=[YU,ZI,Zy,VS].any fun s=>s==nm
def XE (bs:List (Tx×Sp)) (nm:Tx) (i:Nat):Bool:=(bs[i]?.map (·.1))==some nm
def Y8 (bs:List (Tx×Sp)) (nm:Tx) (bd:Ln):Oq Nat:=bd.reverse.find? (XE bs nm)
def PV (bs:List (Tx×Sp)) (nm:Tx) (bd:Ln):Int:=
 match Y8 bs nm bd with
 | some i=>(i:Int)
 | none=>if given nm=true then -2 else -1
def Zx (nm:Tx) (sp:Sp) (t:Tb) (bd:Ln):Tb:=⟨t.bs,t.us++[(nm,sp,PV t.bs nm bd)],t.tw⟩
def two (rc:Bool) (ps:List jQ) (t:Tb) (bd:Ln):Tb×Ln×Ln:=
 let r:=binders (ps.take 1) t bd
 let q:=binders (ps.drop 1) r.1 (if rc=true then r.2 else bd)
 (q.1,r.2,q.2)
def VQ:List jQ->Tb->Ln->Tb
 | [],t,_=>t
 | p::ps,t,bd=>VQ ps (binders [p] t bd).1 bd
mutual
def expr:lg->Tb->Ln->Tb
 | .mk k sp rc nm ps ls,t,bd=>
  if k=11 then exprs ls (binders ps t bd).1 (binders ps t bd).2
  else if k=14 then ZA ls (two rc ps t bd).1 (two rc ps t bd).2.1 (two rc ps t bd).2.2
  else if k=13 then VF ls ps t bd
  else exprs ls (if k=1 then Zx nm sp t bd else t) bd
def exprs:List lg->Tb->Ln->Tb
 | [],t,_=>t
 | e::l,t,bd=>exprs l (expr e t bd) bd
def ZA:List lg->Tb->Ln->Ln->Tb
 | [],t,_,_=>t
 | a::r,t,first,inner=>exprs r (expr a t inner) first
def VF:List lg->List jQ->Tb->Ln->Tb
 | [],ps,t,bd=>VQ ps t bd
 | a::r,ps,t,bd=>OO r ps (expr a t bd) bd
def OO:List lg->List jQ->Tb->Ln->Tb
 | [],ps,t,bd=>VQ ps t bd
 | e::r,[],t,bd=>OO r [] (expr e t bd) bd
 | e::r,p::ps,t,bd=>OO r ps (expr e (binders [p] t bd).1 (binders [p] t bd).2) bd
end
def decls:List Bd->Tb->Ln->Tb
 | [],t,_=>t
 | d::l,t,row=>decls l (expr d.body (two d.rc d.ps t row).1 (two d.rc d.ps t row).2.2) (two d.rc d.ps t row).2.1
structure Ext (t t':Tb):Prop where
 bs: ∃x,t'.bs=t.bs++x
 us: ∃x,t'.us=t.us++x
 tw: ∃x,t'.tw=t.tw++x
def Yb (bs:List (Tx×Sp)) (u:Tx×Sp×Int):Prop:=(∃k:Nat,u.2.2=(k:Int)/\ ∃s,bs[k]? =some (u.1,s))\/(u.2.2= -2/\given u.1=true)\/(u.2.2= -1/\given u.1=false)
structure Good (t:Tb) (bd:Ln):Prop where
 us: ∀u∈t.us,Yb t.bs u
 bd: ∀i∈bd,i < t.bs.length
 tw: ∀i∈t.tw,1<=i/\i < t.bs.length
 up:t.tw.Pairwise (· < ·)
section
variable (T:Tb) (nms:List Tx)
structure Fit (D:Prop):Prop where
 len:nms.length=T.bs.length
 use: ∀(bd:Ln) (nm:Tx) (sp:Sp) (k:Int) (bs:List (Tx×Sp)),(∀i∈bd,i < T.bs.length)->(nm,sp,k)∈T.us->PV T.bs nm bd=k->(∀i,i < T.bs.length-> ∃s,bs[i]? =some (nms.getD i [],s))->
  PV bs (if 0<=k/\k < (nms.length:Int) then nms.getD k.toNat [] else nm) bd=k
 dis:D-> ∀i j,i < j->j < T.bs.length->nms.getD i []≠nms.getD j []
variable {T nms} {D:Prop}
def In (t:Tb) (bd:Ln):Prop:= ∀i∈bd,i < t.bs.length
end
def XL (n:Nat):Tx:=if h:n < 10 then [48+UInt8.ofNat n] else XL (n / 10)++[48+UInt8.ofNat (n % 10)]
termination_by n
decreasing_by omega
def fresh (long n:Nat):Tx:=List.replicate (long+1) 122++XL n
end Go.Scope
