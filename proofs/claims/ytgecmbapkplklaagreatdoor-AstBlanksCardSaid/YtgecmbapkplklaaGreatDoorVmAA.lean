/-
  (A part of the proof: Nm, ScopeSpec, ScopeRen, ScopeLaw.)
-/
set_option linter.unusedSimpArgs false
namespace Go
abbrev WS:=@List.mem_cons_self
abbrev WT:=@Except.ok.injEq
abbrev WU:=@Nat.le_of_ble_eq_true
abbrev WV:=@Prod.mk.injEq
abbrev WW:=@Nat.le_refl
abbrev WX:=@beq_eq_false_iff_ne
abbrev WY:=@Bool.and_eq_true
abbrev WZ:=@List.mem_cons_of_mem
abbrev W2:=@Nat.eq_of_beq_eq_true
abbrev W5:=@List.nil_append
abbrev W6:=@List.append_assoc
abbrev W7:=@Option.some.injEq
abbrev W8:=@List.map_cons
abbrev W9:=@List.length_append
abbrev Xa:=@List.length_drop
abbrev Xb:=@List.mem_cons
abbrev Xc:=@List.drop_zero
abbrev Xd:=@Nat.zero_add
abbrev Xe:=@List.append_nil
abbrev Xf:=@List.cons_append
abbrev Xg:=@List.length_take
abbrev Xh:=@List.map_append
abbrev Xi:=@eq_false_of_ne_true
abbrev Xj:=@List.mem_append
abbrev Xk:=@List.length_cons
abbrev Xl:=@List.getElem?_eq_getElem
abbrev Xm:=@List.map_nil
abbrev Xn:=@List.length_map
abbrev Xo:=@List.mem_of_getElem?
abbrev Xp:=@List.getD_eq_getElem?_getD
abbrev Xq:=@Option.map_eq_some_iff
abbrev Xr:=@List.getElem?_append_left
abbrev Xs:=@Nat.le_trans
abbrev Xt:=@Bool.and_self
abbrev Xu:=@List.getElem?_eq_none
abbrev Xv:=@List.take_length
abbrev Xw:=@Bool.false_eq_true
abbrev Xx:=@Nat.ble_eq_true_of_le
abbrev Xy:=@congrArg
abbrev Xz:=@List.drop_eq_nil_iff
abbrev XA:=@beq_iff_eq
abbrev XB:=@List.getElem?_append_right
abbrev XC:=@Nat.zero_le
abbrev XD:=@List.takeWhile_cons
abbrev XE:=@Bool.not_true
abbrev XF:=@List.eq_nil_of_length_eq_zero
abbrev XG:=@List.getElem?_map
abbrev XH:=@List.all_eq_true
abbrev XI:=@List.length_nil
abbrev XJ:=@Bool.false_ne_true
abbrev XK:=@Bool.false_or
abbrev XL:=@Bool.or_eq_true
abbrev XM:=@List.take_append_drop
abbrev XN:=@List.drop_succ_cons
abbrev XO:=@Nat.add_zero
abbrev XP:=@List.getElem?_toArray
abbrev XQ:=@Nat.beq_refl
abbrev XR:=@Bool.not_false
abbrev XS:=@List.mem_nil_iff
abbrev XT:=@Array.getElem?_toList
abbrev XU:=@decide_eq_true_eq
abbrev XV:=@List.cons.injEq
abbrev XW:=@Nat.lt_succ_self
abbrev XX:=@Array.length_toList
abbrev XY:=@List.mem_map
abbrev XZ:=@List.pairwise_cons
abbrev X0:=@List.nil_sublist
abbrev X1:=@List.dropWhile_cons
abbrev X2:=@List.flatMap_cons
abbrev X3:=@Bool.false_and
abbrev X4:=@Option.some.inj
abbrev X5:=@decide_eq_false
abbrev X6:=@List.getElem?_drop
abbrev X7:=@Option.bind_eq_some_iff
abbrev X8:=@Bool.true_and
abbrev X9:=@List.takeWhile_append_dropWhile
abbrev Ya:=@List.drop_drop
abbrev Yb:=@List.getElem?_eq_some_iff
abbrev Yc:=@List.dropWhile_suffix
abbrev Yd:=@List.getElem_mem
abbrev Ye:=@decide_eq_true
abbrev Yf:=@List.sublist_cons_self
abbrev Yg:=@Bool.and_true
abbrev Yh:=@Nat.add_comm
abbrev Yi:=@Bool.true_or
abbrev Yj:=@List.mem_singleton
abbrev Yk:=@List.nodup_cons
abbrev Yl:=@Nat.add_assoc
abbrev Ym:=@List.any_cons
abbrev Yn:=@List.Sublist.refl
abbrev Yo:=@true_and
abbrev Yp:=@List.getElem?_cons_succ
abbrev Yq:=@List.all_cons
abbrev Yr:=@UInt8.toNat_inj
abbrev Ys:=@and_true
abbrev Yt:=@Nat.le_succ_of_le
abbrev Yu:=@Bool.or_eq_false_iff
abbrev Yv:=@Nat.min_eq_left
abbrev Yw:=@Nat.not_lt_zero
abbrev Yx:=@Nat.add_sub_cancel
abbrev Yy:=@Nat.mul_le_mul
abbrev Yz:=@List.getElem?_cons_zero
abbrev YA:=@of_decide_eq_true
abbrev YB:=@beq_self_eq_true
abbrev YC:=@List.length_pos_iff
abbrev YD:=@Bool.and_false
abbrev YE:=@Bool.or_false
abbrev YF:=@List.size_toArray
abbrev YG:=@Nat.min_eq_right
abbrev YH:=@Nat.le_of_lt
abbrev YI:=@List.filter_cons
abbrev YJ:=@List.foldl_cons
abbrev YK:=@List.drop_left
abbrev YL:=@List.take_left
end Go
namespace Go.Scope
abbrev Tx:=List UInt8
abbrev Sp:=Int×Int
inductive iV where
 | mk (k lit:Nat) (sp:Sp) (nm:Tx) (ps:List iV)
 deriving Inhabited
inductive jG where
 | mk (k:Nat) (sp:Sp) (rc:Bool) (nm:Tx) (ps:List iV) (ls:List jG)
 deriving Inhabited
structure Bd where
 sp:Sp
 rc:Bool
 ps:List iV
 body:jG
structure Tb where
 bs:List (Tx×Sp)
 us:List (Tx×Sp×Int)
 tw:List Nat
def SS (fr:Nat) (nm:Tx) (sp:Sp) (t:Tb):Tb:=⟨t.bs++[(nm,sp)],t.us,if (t.bs.drop fr).any (fun b=>b.1==nm)=true then t.tw++[t.bs.length] else t.tw⟩
mutual
def U1 (fr:Nat):iV->Tb->List Nat->Tb×List Nat
 | .mk k _ sp nm ps,t,bd=>if k=15 then N0 fr ps (SS fr nm sp t) (bd++[t.bs.length]) else N0 fr ps t bd
def N0 (fr:Nat):List iV->Tb->List Nat->Tb×List Nat
 | [],t,bd=>(t,bd)
 | p::ps,t,bd=>N0 fr ps (U1 fr p t bd).1 (U1 fr p t bd).2
end
def binders (ps:List iV) (t:Tb) (bd:List Nat):Tb×List Nat:=N0 t.bs.length ps t bd
def U6:Tx:=[110,111,116]
def Vb:Tx:=[102,115,116]
def Vk:Tx:=[115,110,100]
def Qc:Tx:=[102,108,111,97,116]
def given (nm:Tx):Bool:=[U6,Vb,Vk,Qc].any fun s=>s==nm
def TD (bs:List (Tx×Sp)) (nm:Tx) (i:Nat):Bool:=(bs[i]?.map (·.1))==some nm
def UQ (bs:List (Tx×Sp)) (nm:Tx) (bd:List Nat):Option Nat:=bd.reverse.find? (TD bs nm)
def LV (bs:List (Tx×Sp)) (nm:Tx) (bd:List Nat):Int:=
 match UQ bs nm bd with
 | some i=>(i:Int)
 | none=>if given nm=true then -2 else -1
def U9 (nm:Tx) (sp:Sp) (t:Tb) (bd:List Nat):Tb:=⟨t.bs,t.us++[(nm,sp,LV t.bs nm bd)],t.tw⟩
def two (rc:Bool) (ps:List iV) (t:Tb) (bd:List Nat):Tb×List Nat×List Nat:=
 let r:=binders (ps.take 1) t bd
 let q:=binders (ps.drop 1) r.1 (if rc=true then r.2 else bd)
 (q.1,r.2,q.2)
def Qa:List iV->Tb->List Nat->Tb
 | [],t,_=>t
 | p::ps,t,bd=>Qa ps (binders [p] t bd).1 bd
mutual
def expr:jG->Tb->List Nat->Tb
 | .mk k sp rc nm ps ls,t,bd=>
  if k=11 then exprs ls (binders ps t bd).1 (binders ps t bd).2
  else if k=14 then UF ls (two rc ps t bd).1 (two rc ps t bd).2.1 (two rc ps t bd).2.2
  else if k=13 then Pu ls ps t bd
  else exprs ls (if k=1 then U9 nm sp t bd else t) bd
def exprs:List jG->Tb->List Nat->Tb
 | [],t,_=>t
 | e::l,t,bd=>exprs l (expr e t bd) bd
def UF:List jG->Tb->List Nat->List Nat->Tb
 | [],t,_,_=>t
 | a::r,t,first,inner=>exprs r (expr a t inner) first
def Pu:List jG->List iV->Tb->List Nat->Tb
 | [],ps,t,bd=>Qa ps t bd
 | a::r,ps,t,bd=>LB r ps (expr a t bd) bd
def LB:List jG->List iV->Tb->List Nat->Tb
 | [],ps,t,bd=>Qa ps t bd
 | e::r,[],t,bd=>LB r [] (expr e t bd) bd
 | e::r,p::ps,t,bd=>LB r ps (expr e (binders [p] t bd).1 (binders [p] t bd).2) bd
end
def decls:List Bd->Tb->List Nat->Tb
 | [],t,_=>t
 | d::l,t,row=>decls l (expr d.body (two d.rc d.ps t row).1 (two d.rc d.ps t row).2.2) (two d.rc d.ps t row).2.1
structure Ext (t t':Tb):Prop where
 bs: ∃x,t'.bs=t.bs++x
 us: ∃x,t'.us=t.us++x
 tw: ∃x,t'.tw=t.tw++x
def TU (bs:List (Tx×Sp)) (u:Tx×Sp×Int):Prop:=(∃k:Nat,u.2.2=(k:Int)/\ ∃s,bs[k]? =some (u.1,s))\/(u.2.2= -2/\given u.1=true)\/(u.2.2= -1/\given u.1=false)
structure Good (t:Tb) (bd:List Nat):Prop where
 us: ∀u∈t.us,TU t.bs u
 bd: ∀i∈bd,i < t.bs.length
 tw: ∀i∈t.tw,1<=i/\i < t.bs.length
 up:t.tw.Pairwise (· < ·)
section
variable (T:Tb) (nms:List Tx)
structure Fit (D:Prop):Prop where
 len:nms.length=T.bs.length
 use: ∀(bd:List Nat) (nm:Tx) (sp:Sp) (k:Int) (bs:List (Tx×Sp)),(∀i∈bd,i < T.bs.length)->(nm,sp,k)∈T.us->LV T.bs nm bd=k->(∀i,i < T.bs.length-> ∃s,bs[i]? =some (nms.getD i [],s))->
  LV bs (if 0<=k/\k < (nms.length:Int) then nms.getD k.toNat [] else nm) bd=k
 dis:D-> ∀i j,i < j->j < T.bs.length->nms.getD i []≠nms.getD j []
variable {T nms} {D:Prop}
def In (t:Tb) (bd:List Nat):Prop:= ∀i∈bd,i < t.bs.length
end
def SF (n:Nat):Tx:=if h:n < 10 then [48+UInt8.ofNat n] else SF (n / 10)++[48+UInt8.ofNat (n % 10)]
termination_by n
decreasing_by omega
def fresh (long n:Nat):Tx:=List.replicate (long+1) 122++SF n
end Go.Scope
