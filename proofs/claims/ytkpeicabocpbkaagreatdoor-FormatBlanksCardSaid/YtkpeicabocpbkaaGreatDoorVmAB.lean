/-
  A part of the proof.
-/
import Derived.Test.YtkpeicabocpbkaaGreatDoorVmAA
import GoSem.Step
set_option linter.all false
namespace Go.VM
inductive Perm where
 | shut
 | wide
 | own (name:Nat)
 deriving DecidableEq,Repr,Inhabited
inductive AV where
 | bool (b:Bool)
 | int (k:IntKind) (n:Int)
 | str (s:LB)
 | flt (k:FloatKind) (bits:Nat)
 | nilp
 | ip (cells:List AV)
 | mp (id off:Nat)
 | aD
 | sl (sz:Nat) (elems:List AV) (perm:Perm)
 | ms (id off sz len cap:Nat)
 | nilm
 | mm (id:Nat)
 | im (entries:List (AV×AV))
 | fn (f:Fn) (first captured:List AV)
 | nilfn
 | iface (t:TypeId) (v:AV)
 | nili
 | agg (cs:List AV)
 | tup (vs:List AV)
 | gs (k z n:Nat)
 | gp (k n off:Nat)
 | es
 | opq (i:Bool)
 | yld (k:Nat)
 deriving Inhabited
def undef:AV:= .tup []
inductive Tr (α:Type) where
 | leaf
 | node (v:Oq α) (l r:Tr α)
 deriving Inhabited
namespace Tr
variable {α:Type}
def get:Tr α->Nat->Oq α
 | .leaf,_=>none
 | .node v l r,n=>match n.beq 0 with
  | true=>v
  | false=>match (n % 2).beq 1 with
   | true=>l.get (n / 2)
   | false=>r.get (n / 2 - 1)
def set:(fuel:Nat)->Tr α->Nat->α->Tr α
 | 0,t,_,_=>t
 | f+1,t,n,x=>
  let (v,l,r):=match t with | .leaf=>(none,.leaf,.leaf) | .node v l r=>(v,l,r)
  match n.beq 0 with
  | true=> .node (some x) l r
  | false=>match (n % 2).beq 1 with
   | true=> .node v (set f l (n / 2) x) r
   | false=> .node v l (set f r (n / 2 - 1) x)
def put (t:Tr α) (n:Nat) (x:α):Tr α:=set (n+1) t n x
end Tr
structure Fr where
 n:Nat
 t:Tr AV
 strict:Bool
 deriving Inhabited
def Fr.get (f:Fr) (i:Nat):AV:=(f.t.get i).getD undef
def Fr.put (f:Fr) (d:Oq Tmp) (v:AV):Fr:=
 match d with
 | none=>f
 | some d=>match d.blt f.n with
  | true=>{f with t:=f.t.put d v}
  | false=>f
inductive Ex where
 | normal | exit (id:Nat) | ret
 deriving DecidableEq,Repr,Inhabited
inductive Obj where
 | cells (t:TypeId) (cs:List AV)
 | tok (n:Nat) (e:TypeId)
 | map (es:List (AV×AV))
 | sit (s:LB) (pos:Nat)
 | dead
 | grow (n:Nat) (e:TypeId) (z:Nat) (es:List AV)
 | AF
 | row (n:Nat) (e:TypeId) (z:Nat) (cs:List AV)
 | loop (imm:TypeId->Bool) (ps:List Tmp) (first body:Code) (fr:Fr) (s:Nat) (p:Ex)
 deriving Inhabited
structure St where
 h:Nat
 ro:Nat
 objs:Tr Obj
 deriving Inhabited
def St.empty:St:=⟨0,0,.leaf⟩
abbrev cY (α:Type):=Except String α
def St.get (s:St) (i:Nat):cY Obj:=
 match i.blt s.h with
 | true=>match s.objs.get i with | some o=> .ok o | none=> .error "no object"
 | false=> .error "no such name"
def St.put (s:St) (i:Nat) (o:Obj):St:={s with objs:=s.objs.put i o}
def St.new (s:St) (o:Obj):Nat×St:=(s.h,⟨s.h+1,s.ro,s.objs.put s.h o⟩)
inductive U where
 | bool | int (k:IntKind) | str | flt (k:FloatKind)
 | ptr (e:TypeId) | slice (e:TypeId) | arr (n:Nat) (e:TypeId) | map (k e:TypeId)
 | struct (fs:List (Nat×TypeId))
 | func | iface (bare:Bool) | uptr | other
 deriving Inhabited
structure TI where
 und:U
 size:Nat
 bytes:Nat
 zero:List AV
 agg:Bool
 cmp:Bool
 deriving Inhabited
abbrev TT:=Tr TI
def ti (T:TT) (t:TypeId):cY TI:=match T.get t with | some i=> .ok i | none=> .error "no such type"
def AV.cells:AV->List AV
 | .agg cs=>cs
 | v=>[v]
def one:AV->Bool
 | .agg _=>false
 | .tup _=>false
 | _=>true
def iw:List AV->Bool
 | []=>true
 | v::l=>one v&&iw l
def strip:AV->AV
 | .sl z e (.own _)=> .sl z e .wide
 | v=>v
def bare:AV->Bool
 | .mp .. =>false
 | .gs .. =>false
 | .gp .. =>false
 | .yld _=>false
 | .mm _=>false
 | .ms .. =>false
 | .sl _ _ (.own _)=>false
 | .fn _ f c=>bareAll f&&bareAll c
 | .iface _ v=>bare v
 | .agg cs=>bareAll cs
 | .tup vs=>bareAll vs
 | .im es=>qv es
 | _=>true
 where
 bareAll:List AV->Bool
  | []=>true
  | v::l=>bare v&&bareAll l
 qv:List (AV×AV)->Bool
  | []=>true
  | (k,v)::l=>bare k&&bare v&&qv l
def bN:List AV->Bool:=bare.bareAll
def fit (v:AV):cY AV:=
 let v:=match v with
  | .agg cs=> .agg (cs.map strip)
  | v=>strip v
 match bare v with
 | true=> .ok v
 | false=> .error "a name within what never changes"
def fits:List AV->cY (List AV)
 | []=> .ok []
 | v::l=>do let v <- fit v;let l <- fits l;pure (v::l)
def cM (size:Nat) (agg:Bool) (cells:List AV):cY AV:=
 match agg with
 | true=>match size.ble cells.length with
  | true=> .ok (.agg (cells.take size))
  | false=> .error "too few cells"
 | false=>match cells with
  | v:: _=> .ok v
  | []=> .error "no cell"
inductive dI where
 | val (v:AV)
 | obj (id:Nat) (f:Obj->cY (AV×Oq Obj))
 | both (id:Nat) (k:Obj->cY (Oq Nat)) (f:Obj->Oq Obj->cY AV)
 | new (o:Obj) (f:Nat->AV)
 | call (f:FuncId) (args:List AV)
 | yield (k:Nat) (args:List AV)
def iV (id:Nat) (f:Obj->cY AV):dI:= .obj id fun o=>do pure (<- f o,none)
def cellsOf:Obj->cY (List AV)
 | .cells _ cs=> .ok cs
 | _=> .error "no cells"
def nc:Obj->cY (TypeId×List AV)
 | .cells t cs=> .ok (t,cs)
 | _=> .error "no cells"
def mA (i:TI) (a:AV):cY dI:=
 match a with
 | .ip cells=>do pure (.val (<- cM i.size i.agg cells))
 | .mp id off=> .ok (iV id fun o=>do cM i.size i.agg ((<- cellsOf o).drop off))
 | .gp k n off=> .ok (iV k fun o=>match o with
  | .row m _ _ cs=>match n.beq m with
   | true=>cM i.size i.agg (cs.drop off)
   | false=> .error "load: an elder slice"
  | _=> .error "load: no slice that may be written")
 | _=> .error "load: no address"
def dj (cs:List AV) (off:Nat) (new:List AV):List AV:=cs.take off++new++cs.drop (off+new.length)
def vW (i:TI) (a v:AV):cY dI:=
 match a with
 | .mp id off=>
  match v.cells.length.beq i.size&&iw v.cells with
  | true=> .ok (.obj id fun o=>do
   let (t,cs) <- nc o
   match (off+v.cells.length).ble cs.length with
   | true=>pure (undef,some (.cells t (dj cs off v.cells)))
   | false=> .error "store: outside")
  | false=> .error "store: sizes"
 | _=> .error "store: no address that may be written"
def NL (imm:Bool) (t:TypeId) (i:TI) (v:AV):cY dI:=
 match v.cells.length.beq i.size&&iw v.cells with
 | false=> .error "box: sizes"
 | true=>match imm with
  | true=>do pure (.val (.ip (<- fits v.cells)))
  | false=> .ok (.new (.cells t v.cells) fun n=> .mp n 0)
def zeroV (i:TI):AV:=match i.agg,i.zero with
 | false,[v]=>v
 | _,z=> .agg z
def fieldAddr (T:TT) (t:TypeId) (a:AV) (f:Nat):cY AV:=do
 match (<- ti T t).und with
 | .struct fs=>match fs[f]? with
  | some (off,b)=>
   match (<- ti T b).size with
   | 0=> .error "field of no size"
   | _+1=>match a with
    | .ip cells=>pure (.ip (cells.drop off))
    | .mp id o=>pure (.mp id (o+off))
    | .gp k n o=>pure (.gp k n (o+off))
    | _=> .error "fieldAddr: no address"
  | none=> .error "no such field"
 | _=> .error "fieldAddr: no struct"
def field (T:TT) (t:TypeId) (x:AV) (f:Nat):cY AV:=do
 match (<- ti T t).und,x with
 | .struct fs,.agg cs=>match fs[f]? with
  | some (off,a)=>do
   let i <- ti T a
   cM i.size i.agg (cs.drop off)
  | none=> .error "no such field"
 | _,_=> .error "field: no struct"
def asInt:AV->cY Int
 | .int _ n=> .ok n
 | _=> .error "int expected"
def asBool:AV->cY Bool
 | .bool b=> .ok b
 | _=> .error "bool expected"
def inside (i:Int) (n:Nat):cY Nat:=
 match i with
 | .ofNat k=>match k.blt n with
  | true=> .ok k
  | false=> .error "index out of range"
 | _=> .error "index below 0"
def upto (i:Int) (n:Nat):cY Nat:=
 match i with
 | .ofNat k=>match k.ble n with
  | true=> .ok k
  | false=> .error "bound out of range"
 | _=> .error "bound below 0"
def fy:List AV->Nat->cY AV
 | [],_=> .error "nth"
 | v:: _,0=> .ok v
 | _::l,n+1=>fy l n
def group (sz:Nat) (agg:Bool):(n:Nat)->List AV->cY (List AV)
 | 0,_=> .ok []
 | n+1,cs=>do
  let v <- cM sz agg cs
  let l <- group sz agg n (cs.drop sz)
  pure (v::l)
def flat:List AV->List AV
 | []=>[]
 | v::l=>v.cells++flat l
def indexAddr (T:TT) (t:TypeId) (x i:AV):cY AV:=do
 let n <- asInt i
 match (<- ti T t).und,x with
 | .slice e,.sl sz elems _=>do
  let k <- inside n elems.length
  match sz.beq (<- ti T e).size with
  | true=>do pure (.ip (<- fy elems k).cells)
  | false=> .error "indexAddr: size"
 | .slice e,.ms id off sz len _=>do
  let k <- inside n len
  match sz.beq (<- ti T e).size with
  | true=>pure (.mp id (off+k * sz))
  | false=> .error "indexAddr: size"
 | .arr len e,.mp id off=>do
  let k <- inside n len
  pure (.mp id (off+k * (<- ti T e).size))
 | .arr len e,.ip cells=>do
  let k <- inside n len
  pure (.ip (cells.drop (k * (<- ti T e).size)))
 | .arr len e,.gp id m off=>do
  let k <- inside n len
  pure (.gp id m (off+k * (<- ti T e).size))
 | _,_=> .error "indexAddr: what?"
def zf (T:TT) (t:TypeId) (x i:AV):cY AV:=do
 let n <- asInt i
 match (<- ti T t).und,x with
 | .str,.str s=>do
  let k <- inside n s.length
  match s[k]? with
  | some b=>pure (.int .u8 b.toNat)
  | none=> .error "index: string"
 | .arr len e,.agg cs=>do
  let k <- inside n len
  let i <- ti T e
  cM i.size i.agg (cs.drop (k * i.size))
 | _,_=> .error "index: what?"
def lP:Oq AV->cY (Oq Int)
 | none=> .ok none
 | some v=>do pure (some (<- asInt v))
def lK (hi:Oq Int) (m dflt:Nat):cY Nat:=match hi with | some h=>upto h m | none=> .ok dflt
def sw (lo:Oq Int) (h:Nat):cY Nat:=match lo with | some l=>upto l h | none=> .ok 0
def vb (_i:TI) (_k _m _off:Nat) (_v:AV):cY dI:= .error "gpStoreP"
def lC (T:TT) (t:TypeId) (k z n:Nat) (i:AV):cY dI:=do
 let j <- asInt i
 let j <- inside j n
 match (<- ti T t).und with
 | .slice e=>match z.beq (<- ti T e).size with
  | true=> .ok (iV k fun o=>match o with
   | .grow m _ a es=>match n.beq m&&a.beq z with
    | true=>match j.blt es.length with
     | true=>do pure (.ip (<- fy es j).cells)
     | false=> .ok (.gp k n (j * z))
    | false=> .error "indexAddr: an elder slice"
   | .row m _ a _=>match n.beq m&&a.beq z with
    | true=> .ok (.gp k n (j * z))
    | false=> .error "indexAddr: an elder slice"
   | _=> .error "indexAddr: no slice")
  | false=> .error "indexAddr: size"
 | _=> .error "indexAddr: what?"
def mS (T:TT) (t:TypeId) (x:AV) (lo hi mx:Oq AV):cY AV:=do
 let lo <- lP lo
 let hi <- lP hi
 let mx <- lP mx
 match (<- ti T t).und,x,mx with
 | .str,.str s,none=>do
  let h <- lK hi s.length s.length
  let l <- sw lo h
  pure (.str ((s.take h).drop l))
 | .slice e,.aD,mx=>do
  let _ <- ti T e
  let m <- lK mx 0 0
  let h <- lK hi m 0
  let _ <- sw lo h
  pure .aD
 | .slice e,.es,mx=>do
  let _ <- ti T e
  let m <- lK mx 0 0
  let h <- lK hi m 0
  let _ <- sw lo h
  pure .es
 | .slice e,.ms id off sz len cap,mx=>do
  match sz.beq (<- ti T e).size with
  | false=> .error "slice: size"
  | true=>do
   let m <- lK mx cap cap
   let h <- lK hi m len
   let l <- sw lo h
   match h.ble m with
   | true=>pure (.ms id (off+l * sz) sz (h - l) (m - l))
   | false=> .error "slice: bounds"
 | .slice e,.sl sz es p,none=>do
  match sz.beq (<- ti T e).size with
  | false=> .error "slice: size"
  | true=>do
   let h <- lK hi es.length es.length
   let l <- sw lo h
   match h.beq es.length,p with
   | true,.shut=>pure (.sl sz (es.drop l) .shut)
   | true,.own k=>match l.beq 0 with
    | true=>pure (.sl sz es (.own k))
    | false=>pure (.sl sz (es.drop l) .wide)
   | _,_=>pure (.sl sz ((es.take h).drop l) .wide)
 | .slice e,.sl sz es _,some m=>do
  match sz.beq (<- ti T e).size with
  | false=> .error "slice: size"
  | true=>do
   let m <- upto m es.length
   let h <- lK hi m m
   let l <- sw lo h
   pure (.sl sz ((es.take h).drop l) (match m.beq h with | true=> .shut | false=> .wide))
 | _,_,_=> .error "slice: what?"
def eqFields (T:TT) (g:TypeId->AV->AV->cY Bool) (xs ys:List AV):List (Nat×TypeId)->cY Bool
 | []=> .ok true
 | (off,t)::l=>do
  let i <- ti T t
  let a <- cM i.size i.agg (xs.drop off)
  let b <- cM i.size i.agg (ys.drop off)
  match <- g t a b with
  | true=>eqFields T g xs ys l
  | false=> .ok false
def Hk (T:TT):(fuel:Nat)->TypeId->AV->AV->cY Bool
 | 0,_,_,_=> .error "==: too deep"
 | f+1,t,x,y=>do
  let i <- ti T t
  match i.und,x,y with
  | .bool,.bool a,.bool b=> .ok (a==b)
  | .int _,.int j a,.int k b=>if j=k then .ok (a==b) else .error "==: kinds"
  | .str,.str a,.str b=> .ok (a==b)
  | .ptr _,.nilp,.nilp=> .ok true
  | .ptr _,.nilp,.ip _=> .ok false
  | .ptr _,.ip _,.nilp=> .ok false
  | .ptr _,.nilp,.mp .. => .ok false
  | .ptr _,.mp ..,.nilp=> .ok false
  | .slice _,.aD,.aD=> .ok true
  | .slice _,.aD,.sl .. => .ok false
  | .slice _,.sl ..,.aD=> .ok false
  | .slice _,.aD,.ms .. => .ok false
  | .slice _,.ms ..,.aD=> .ok false
  | .slice _,.aD,.es=> .ok false
  | .slice _,.es,.aD=> .ok false
  | .map ..,.nilm,.nilm=> .ok true
  | .map ..,.nilm,.mm _=> .ok false
  | .map ..,.mm _,.nilm=> .ok false
  | .func,.nilfn,.nilfn=> .ok true
  | .func,.nilfn,.fn .. => .ok false
  | .func,.fn ..,.nilfn=> .ok false
  | .struct fs,.agg xs,.agg ys=>match i.cmp with
   | true=>eqFields T (Hk T f) xs ys fs
   | false=> .error "==: a struct"
  | _,_,_=> .error "==: what?"
def sI:AV->AV->cY Bool
 | .bool a,.bool b=> .ok (a==b)
 | .int j a,.int k b=>if j=k then .ok (a==b) else .error "key: kinds"
 | .str a,.str b=> .ok (a==b)
 | _,_=> .error "key: what?"
def Gz (op:BinOp) (k:IntKind) (a b:Int):cY AV:=
 match op with
 | .add=> .ok (.int k (k.wrap (a+b)))
 | .sub=> .ok (.int k (k.wrap (a - b)))
 | .mul=> .ok (.int k (k.wrap (a * b)))
 | .quo=>if b=0 then .error "division by zero" else .ok (.int k (k.wrap (a.tdiv b)))
 | .rem=>if b=0 then .error "division by zero" else .ok (.int k (a.tmod b))
 | .and=> .ok (.int k (k.wrap ((BitVec.ofInt k.bits a)&&& (BitVec.ofInt k.bits b)).toNat))
 | .or=> .ok (.int k (k.wrap ((BitVec.ofInt k.bits a)||| (BitVec.ofInt k.bits b)).toNat))
 | .xor=> .ok (.int k (k.wrap ((BitVec.ofInt k.bits a) ^^^ (BitVec.ofInt k.bits b)).toNat))
 | .andNot=> .ok (.int k (k.wrap ((BitVec.ofInt k.bits a)&&& ~~~(BitVec.ofInt k.bits b)).toNat))
 | .eql=> .ok (.bool (a==b))
 | .neq=> .ok (.bool (a != b))
 | .lss=> .ok (.bool (a < b))
 | .leq=> .ok (.bool (a<=b))
 | .gtr=> .ok (.bool (a > b))
 | .geq=> .ok (.bool (a>=b))
 | _=> .error "intOp"
def Km (op:BinOp) (x y:LB):cY AV:=
 match op with
 | .add=>match (x.length+y.length).ble 9223372036854775807 with
  | true=> .ok (.str (x++y))
  | false=> .error "string too long"
 | .eql=> .ok (.bool (x==y))
 | .neq=> .ok (.bool !(x==y))
 | .lss=> .ok (.bool (Op.bytesLess x y))
 | .leq=> .ok (.bool (Op.bytesLess x y||x==y))
 | .gtr=> .ok (.bool !(Op.bytesLess x y||x==y))
 | .geq=> .ok (.bool !(Op.bytesLess x y))
 | _=> .error "strOp"
def binOp (T:TT) (op:BinOp) (t:TypeId) (x y:AV):cY AV:=
 match op,x,y with
 | .shl,.int k a,.int _ b=>if b < 0 then .error "shift" else .ok (.int k (k.wrap (a * 2 ^ (min b.toNat k.bits))))
 | .shr,.int k a,.int _ b=>if b < 0 then .error "shift" else .ok (.int k (a.fdiv (2 ^ (min b.toNat k.bits))))
 | op,.int k a,.int c b=>if k=c then Gz op k a b else .error "binOp: kinds"
 | op,.str a,.str b=>Km op a b
 | .eql,x,y=>do pure (.bool (<- Hk T 20 t x y))
 | .neq,x,y=>do pure (.bool !(<- Hk T 20 t x y))
 | _,_,_=> .error "binOp"
def UH (a:Operand) (b:AV):Bool:=
 match a with
 | .const _=>match b with | .nili=>true | _=>false
 | _=>false
def Na (T:TT) (t:TypeId):Bool:=
 match T.get t with
 | some i=>match i.und with | .iface _=>true | _=>false
 | none=>false
def Rb (op:BinOp) (a:AV):Oq AV:=
 match op,a with
 | .eql,.nili=>some (.bool true)
 | .eql,.iface .. =>some (.bool false)
 | .neq,.nili=>some (.bool false)
 | .neq,.iface .. =>some (.bool true)
 | _,_=>none
def zB (T:TT) (op:BinOp) (t:TypeId) (c:Operand) (a b:AV):cY AV:=
 match UH c b&&Na T t with
 | true=>match Rb op a with | some v=> .ok v | none=> .error "binOp: nil"
 | false=>binOp T op t a b
def unOp (op:UnOp) (x:AV):cY AV:=
 match op,x with
 | .neg,.int k n=> .ok (.int k (k.wrap (0 - n)))
 | .not,.bool b=> .ok (.bool !b)
 | .xor,.int k n=> .ok (.int k (k.wrap ((BitVec.ofInt k.bits (if k.signed then -1 else k.max)) ^^^ (BitVec.ofInt k.bits n)).toNat))
 | _,_=> .error "unOp"
def bytesOf:List AV->cY LB
 | []=> .ok []
 | .int .u8 n::l=>do pure (UInt8.ofNat n.toNat::(<- bytesOf l))
 | _:: _=> .error "bytes expected"
def ofBytes (s:LB):List AV:=s.map fun b=> .int .u8 b.toNat
def isByte:U->Bool
 | .int .u8=>true
 | _=>false
def tP (T:TT) (src dst:TypeId) (x:AV):cY dI:=do
 match (<- ti T src).und,(<- ti T dst).und,x with
 | _,.int k,.int _ n=>pure (.val (.int k (k.wrap n)))
 | _,.str,.str s=>pure (.val (.str s))
 | .slice e,.str,x=>do
  match isByte (<- ti T e).und with
  | false=> .error "convert: no bytes"
  | true=>match x with
   | .aD=>pure (.val (.str []))
   | .sl _ es _=>do pure (.val (.str (<- bytesOf es)))
   | .ms id off _ len _=>pure (iV id fun o=>do
    let cs:=(<- cellsOf o).drop off
    match len.ble cs.length with
    | true=>do pure (.str (<- bytesOf (cs.take len)))
    | false=> .error "convert: length")
   | _=> .error "convert: what?"
 | .str,.slice e,.str s=>do
  match isByte (<- ti T e).und with
  | false=> .error "convert: no bytes"
  | true=>pure (.val (.sl 1 (ofBytes s) .wide))
 | _,_,_=> .error "convert"
def oT:AV->Oq (List AV)
 | .aD=>some []
 | .sl _ e _=>some e
 | .str s=>some (ofBytes s)
 | .es=>some []
 | _=>none
def fo (n:Nat) (i:TI):Bool:=(n * i.bytes).ble 70368744177664&&(Nat.ble 1 i.size&&n.ble 70368744177664)
def iZ (i:TI) (e:TypeId) (s:AV) (new:List AV):cY dI:=do
 match new with
 | []=>match s with
  | .aD=>pure (.val .aD)
  | .sl z es p=>pure (.val (.sl z es p))
  | .es=>pure (.val .es)
  | _=> .error "append: no slice"
 | _:: _=>do
  let new <- fits new
  match new.all (fun v=>v.cells.length.beq i.size) with
  | false=> .error "append: sizes"
  | true=>match s with
   | .aD=>match fo new.length i with
    | true=>pure (.new (.tok new.length e) fun k=> .sl i.size new (.own k))
    | false=> .error "append: too long"
   | .sl z es p=>match fo (es.length+new.length) i&&z.beq i.size with
    | false=> .error "append: too long"
    | true=>match p with
     | .shut=>pure (.new (.tok (es.length+new.length) e) fun k=> .sl z (es++new) (.own k))
     | .own k=>pure (.obj k fun o=>match o with
      | .tok n a=>match n.beq es.length&&a.beq e with
       | true=>pure (.sl z (es++new) (.own k),some (.tok (es.length+new.length) e))
       | false=> .error "append: not at the end"
      | _=> .error "append: no right to")
     | .wide=> .error "append: to what may have room"
   | .es=>match fo new.length i with
    | true=>pure (.new (.tok new.length e) fun k=> .sl i.size new (.own k))
    | false=> .error "append: too long"
   | _=> .error "append: no slice"
def BU (T:TT) (t:TypeId) (x:AV):cY dI:=do
 match (<- ti T t).und,x with
 | .arr n _,_=>pure (.val (.int .i64 n))
 | .str,.str s=>pure (.val (.int .i64 s.length))
 | .slice _,.aD=>pure (.val (.int .i64 0))
 | .slice _,.sl _ e _=>pure (.val (.int .i64 e.length))
 | .slice _,.ms _ _ _ len _=>pure (.val (.int .i64 len))
 | .slice _,.gs _ _ n=>pure (.val (.int .i64 n))
 | .slice _,.es=>pure (.val (.int .i64 0))
 | .map ..,.nilm=>pure (.val (.int .i64 0))
 | .map ..,.im es=>pure (.val (.int .i64 es.length))
 | .map ..,.mm i=>pure (iV i fun o=>match o with
  | .map es=> .ok (.int .i64 es.length)
  | _=> .error "len: no map")
 | _,_=> .error "len: what?"
def min2 (lower:Bool):AV->AV->cY AV
 | .int k x,.int _ y=> .ok (.int k (match lower with | true=>if y < x then y else x | false=>if y > x then y else x))
 | _,_=> .error "min, max"
def vB (lower:Bool):AV->List AV->cY AV
 | x,[]=> .ok x
 | x,y::l=>do vB lower (<- min2 lower x y) l
def pZ:U->AV->Bool
 | .str,.str _=>true
 | .int _,.int .. =>true
 | .bool,.bool _=>true
 | _,_=>false
def iK (k:AV):List (AV×AV)->cY (Oq AV)
 | []=> .ok none
 | (a,v)::l=>do
  match <- sI k a with
  | true=>pure (some v)
  | false=>iK k l
def qy (k v:AV):List (AV×AV)->cY (List (AV×AV))
 | []=> .ok [(k,v)]
 | (a,u)::l=>do
  match <- sI k a with
  | true=>pure ((a,v)::l)
  | false=>do pure ((a,u)::(<- qy k v l))
def okV (ok b:Bool) (v:AV):AV:=match ok with | true=> .tup [v,.bool b] | false=>v
def found (i:TI) (ok:Bool) (k:AV) (es:List (AV×AV)):cY AV:=do
 match <- iK k es with
 | some v=>pure (okV ok true v)
 | none=>pure (okV ok false (zeroV i))
def jM (T:TT) (t:TypeId) (x k:AV) (ok:Bool):cY dI:=do
 match (<- ti T t).und with
 | .map a e=>do
  let i <- ti T e
  match pZ (<- ti T a).und k with
  | false=> .error "lookup: the key"
  | true=>match x with
   | .nilm=>do pure (.val (<- found i ok k []))
   | .im es=>do pure (.val (<- found i ok k es))
   | .mm m=>pure (iV m fun o=>match o with
    | .map es=>found i ok k es
    | _=> .error "lookup: no map")
   | _=> .error "lookup: no map"
 | _=> .error "lookup: no map type"
def pc (T:TT) (t:TypeId) (m k v:AV):cY dI:=do
 match (<- ti T t).und with
 | .map a _=>do
  match m,pZ (<- ti T a).und k with
  | .mm i,true=>pure (.obj i fun o=>match o with
   | .map es=>do pure (undef,some (.map (<- qy k v es)))
   | _=> .error "mapUpdate: no map")
  | _,_=> .error "mapUpdate"
 | _=> .error "mapUpdate: no map type"
def uS (s:LB) (i:Nat):Nat×Nat:=Utf8.decode ⟨s.toArray⟩ i
def B5 (x:AV):cY dI:=
 match x with
 | .mp id 0=> .ok (.obj id fun o=>match o with
  | .sit s pos=>
   match pos.blt s.length with
   | true=>
    let (c,w):=uS s pos
    .ok (.tup [.bool true,.int .i64 pos,.int .i32 c],some (.sit s (pos+w)))
   | false=> .ok (.tup [.bool false],none)
  | _=> .error "next: no iterator")
 | _=> .error "next"
def ofConst:Value->cY AV
 | .bool b=> .ok (.bool b)
 | .int k n=> .ok (.int k n)
 | .float k b=> .ok (.flt k b)
 | .string s=> .ok (.str s.data.toList)
 | .pointer none=> .ok .nilp
 | .slice none 0 0=> .ok .aD
 | .map none=> .ok .nilm
 | .nilFunc=> .ok .nilfn
 | .nilIface=> .ok .nili
 | .agg cs=>do pure (.agg (<- ofAll cs.toList))
 | .tuple vs=>do pure (.tup (<- ofAll vs.toList))
 | _=> .error "a constant"
 where
 ofAll:List Value->cY (List AV)
  | []=> .ok []
  | v::l=>do pure ((<- ofConst v)::(<- ofAll l))
def ch (G:Nat->Oq (List AV)) (f:Fr):Operand->cY AV
 | .tmp t=>match f.strict with
  | false=> .ok (f.get t)
  | true=>match f.t.get t with
   | some v=> .ok v
   | none=> .error "a slot that a round does not know"
 | .const v=>ofConst v
 | .global g=>match G g with
  | some cs=> .ok (.ip cs)
  | none=> .error "a variable of the program"
 | .func g=> .ok (.fn (.func g) [] [])
def nv (G:Nat->Oq (List AV)) (f:Fr):List Operand->cY (List AV)
 | []=> .ok []
 | x::l=>do pure ((<- ch G f x)::(<- nv G f l))
def ej (G:Nat->Oq (List AV)) (f:Fr):Oq Operand->cY (Oq AV)
 | none=> .ok none
 | some x=>do pure (some (<- ch G f x))
def gL (G:Nat->Oq (List AV)) (f:Fr):List (Nat×Operand)->cY (List (Nat×AV))
 | []=> .ok []
 | (i,x)::l=>do pure ((i, <- ch G f x)::(<- gL G f l))
def lF (place:Nat->Oq (Nat×Nat)) (cells:List AV):List (Nat×AV)->cY (List AV)
 | []=> .ok cells
 | (i,v)::l=>
  match place i with
  | none=> .error "build: no such part"
  | some (off,size)=>match v.cells.length.beq size&&(off+size).ble cells.length with
   | true=>lF place (dj cells off v.cells) l
   | false=> .error "build: sizes"
def pj (T:TT):List (Nat×TypeId)->cY (List (Nat×Nat))
 | []=> .ok []
 | (o,t)::l=>do pure ((o,(<- ti T t).size)::(<- pj T l))
def build (T:TT) (t:TypeId) (parts:List (Nat×AV)):cY AV:=do
 let i <- ti T t
 match i.und with
 | .struct fs=>do
  let ps <- pj T fs
  pure (.agg (<- lF (fun k=>ps[k]?) i.zero parts))
 | .arr _ e=>do
  let z:=(<- ti T e).size
  pure (.agg (<- lF (fun k=>some (k * z,z)) i.zero parts))
 | _=> .error "build: what?"
def zeros (z:List AV):Nat->List AV
 | 0=>[]
 | n+1=>z++zeros z n
def pJ (T:TT) (t:TypeId) (l c:AV):cY dI:=do
 match (<- ti T t).und,l,c with
 | .slice e,.int _ (.ofNat l),.int _ (.ofNat c)=>do
  let i <- ti T e
  match l.ble c&&(c * i.size).ble 16777216&&(i.bytes * c).ble 281474976710656&&c.ble 9223372036854775807&&Nat.ble 1 i.size with
  | true=>match l.beq 0 with
   | true=>pure (.new (.tok 0 e) fun k=> .sl i.size [] (.own k))
   | false=>pure (.new (.cells e (zeros i.zero c)) fun k=> .ms k 0 i.size l c)
  | false=> .error "make: size"
 | _,_,_=> .error "make: what?"
def buildSlice (T:TT) (t:TypeId) (len:Nat) (parts:List (Nat×AV)):cY AV:=do
 match (<- ti T t).und with
 | .slice e=>do
  let i <- ti T e
  match (len * i.size).ble 16777216&&Nat.ble 1 i.size with
  | true=>do
   let cs <- lF (fun k=>some (k * i.size,i.size)) (zeros i.zero len) parts
   match iw cs with
   | true=>pure (.sl i.size (<- fits (<- group i.size i.agg len cs)) .shut)
   | false=> .error "buildSlice: cells"
  | false=> .error "buildSlice: too long"
 | _=> .error "buildSlice: what?"
def fA:List AV->cY LB
 | []=> .ok []
 | .int .u8 n::l=>match n with
  | .ofNat k=>match k.blt 256 with
   | true=>do pure (UInt8.ofNat k::(<- fA l))
   | false=> .error "no byte"
  | .negSucc _=> .error "no byte"
 | _:: _=> .error "bytes expected"
inductive Prim where
 | same | count | indexByte | index
 | copyCheck (l:List (TypeId×Nat×Nat))
 | builderString (u8:TypeId)
 | lib (f:List AV->cY AV)
def CJ (sep:LB):LB->Nat->Oq Nat
 | [],i=>if sep.isEmpty then some i else none
 | s@(_::l),i=>if sep.isPrefixOf s then some i else CJ sep l (i+1)
def El (l:List (TypeId×Nat×Nat)) (t:TypeId) (n off:Nat):Bool:=
 match l with
 | []=>false
 | (a,b,c)::l=>(a.beq t&&b.beq n&&c.beq off&&t.blt 1000000)||El l t n off
def dH (c:Nat):LB->Oq Nat
 | []=>none
 | b::l=>match b.toNat.beq c with
  | true=>some 0
  | false=>match dH c l with
   | some i=>some (i+1)
   | none=>none
def dy (p:Prim) (args:List AV):cY dI:=
 match p,args with
 | .same,[v]=> .ok (.val v)
 | .count,[.str s,.int .u8 c]=> .ok (.val (.int .i64 (s.countP fun b=>b.toNat.beq (c.toNat % 256))))
 | .indexByte,[.str s,.int .u8 c]=> .ok (.val (.int .i64 (match dH (c.toNat % 256) s with | some i=>(i:Int) | none=> -1)))
 | .index,[.str s,.str t]=> .ok (.val (.int .i64 (match CJ t s 0 with | some i=>(i:Int) | none=> -1)))
 | .copyCheck l,[.mp id off]=> .ok (.obj id fun o=>do
   let (t,cs) <- nc o
   match (El l t cs.length off) with
   | false=> .error "copyCheck: where?"
   | true=>do
    match <- fy cs off with
    | .nilp=>pure (.tup [],some (.cells t (dj cs off [.mp id off])))
    | .mp id' a=>match id'.beq id&&a.beq off with
     | true=>pure (.tup [],none)
     | false=> .error "copyCheck"
    | _=> .error "copyCheck")
 | .builderString u8,[.mp id off]=> .ok (.both id
   (fun o=>do
    match <- fy (<- cellsOf o) (off+1) with
    | .aD=>pure none
    | .sl 1 _ (.own k)=>pure (some k)
    | _=> .error "Builder.String")
   (fun o o'=>do
    match <- fy (<- cellsOf o) (off+1),o' with
    | .aD,_=>pure (.str [])
    | .sl 1 e (.own _),some (.tok n ty)=>match ty.beq u8&&n.beq e.length&& !e.isEmpty&&n.blt 4611686018427387904 with
     | true=>do pure (.str (<- fA e))
     | false=> .error "Builder.String: bytes"
    | _,_=> .error "Builder.String"))
 | .lib f,args=>match f args with
  | .ok v=> .ok (.val v)
  | .error e=> .error e
 | _,_=> .error "a function that is not walked"
def kF (g:AV->cY AV):List AV->cY (List AV)
 | []=> .ok []
 | v::l=>do pure ((<- g v)::(<- kF g l))
def qK (g:AV->cY AV):List (AV×AV)->cY (List (AV×AV))
 | []=> .ok []
 | (k,v)::l=>do pure ((k,strip (<- g v))::(<- qK g l))
def freeze (st:St) (base:Nat):(fuel:Nat)->AV->cY AV
 | 0,_=> .error "freeze: too deep"
 | f+1,v=>
  match v with
  | .mp id off=>match id.blt base with
   | true=> .ok v
   | false=>do
    match <- st.get id with
    | .cells _ cs=>do
     let cs <- kF (freeze st base f) (cs.drop off)
     pure (.ip (<- fits cs))
    | _=> .error "freeze: what?"
  | .mm id=>match id.blt base with
   | true=> .ok v
   | false=>do
    match <- st.get id with
    | .map es=>do
     let es <- qK (freeze st base f) es
     match bare.qv es with
     | true=>pure (.im es)
     | false=> .error "freeze: a map"
    | _=> .error "freeze: what?"
  | .sl z e (.own k)=>match k.blt base with
   | true=> .ok v
   | false=> .ok (.sl z e .wide)
  | .agg cs=>do pure (.agg (<- kF (freeze st base f) cs))
  | .tup vs=>do pure (.tup (<- kF (freeze st base f) vs))
  | .iface t v=>do pure (.iface t (<- freeze st base f v))
  | .fn g a c=>do pure (.fn g (<- kF (freeze st base f) a) (<- kF (freeze st base f) c))
  | .ms id off z len cap=>match id.blt base with
   | true=> .ok v
   | false=>do
    match <- st.get id with
    | .cells _ cs=>do
     let cs <- kF (freeze st base f) ((cs.drop off).take (len * z))
     match iw cs with
     | true=>do
      let es <- fits (<- group z (Nat.ble 2 z) len cs)
      match cap.beq 0 with
      | true=>match len.beq 0 with
       | true=> .error "freeze: no array"
       | false=>pure (.sl z es .wide)
      | false=>pure (.sl z es (match cap.beq len with | true=> .shut | false=> .wide))
     | false=> .error "freeze: cells"
    | _=> .error "freeze: what?"
  | .gs k z n=>match k.blt base with
   | true=> .ok v
   | false=>do
    match <- st.get k with
    | .grow m _ b es=>match (n.beq m&&n.beq es.length)&&b.beq z with
     | true=> .ok (.sl z es .wide)
     | false=> .error "freeze: an elder slice"
    | _=> .error "freeze: what?"
  | v=> .ok v
def I2:U->Bool
 | .slice _=>true
 | .str=>true
 | _=>false
def nj:LB->LB->Bool
 | [],[]=>true
 | a::l,b::m=>match a.toNat.beq b.toNat with
  | true=>nj l m
  | false=>false
 | _,_=>false
def fu (g:AV->AV->Bool):List AV->List AV->Bool
 | [],[]=>true
 | a::l,b::m=>match g a b with
  | true=>fu g l m
  | false=>false
 | _,_=>false
def ia:(fuel:Nat)->AV->AV->Bool
 | 0,_,_=>false
 | f+1,a,b=>match a,b with
  | .bool a,.bool b=>a==b
  | .int j a,.int k b=>decide (j=k)&&decide (a=b)
  | .str a,.str b=>nj a b
  | .nilp,.nilp=>true
  | .aD,.aD=>true
  | .nilm,.nilm=>true
  | .nilfn,.nilfn=>true
  | .nili,.nili=>true
  | .es,.es=>true
  | .ip a,.ip b=>fu (ia f) a b
  | .mp a b,.mp c d=>a.beq c&&b.beq d
  | .mm a,.mm b=>a.beq b
  | .gs a b c,.gs a' b' g=>a.beq a'&&b.beq b'&&c.beq g
  | .gp a b c,.gp a' b' g=>a.beq a'&&b.beq b'&&c.beq g
  | .ms a b c d e,.ms a' b' g d' h=>a.beq a'&&b.beq b'&&c.beq g&&d.beq d'&&e.beq h
  | .sl z e p,.sl i h l=>z.beq i&&decide (p=l)&&fu (ia f) e h
  | .iface t a,.iface u b=>t.beq u&&ia f a b
  | .agg a,.agg b=>fu (ia f) a b
  | .tup a,.tup b=>fu (ia f) a b
  | _,_=>false
def IX (_i:TI) (_e:TypeId) (_s:AV) (_c:Nat) (_new:List AV):cY dI:= .error "gsPutP"
def si (i:TI) (e:TypeId) (s:AV) (new:List AV):cY dI:=do
 match new with
 | []=> .error "append: nothing"
 | v::l=>do
  let new <- fits (v::l)
  match new.all (fun v=>v.cells.length.beq i.size) with
  | false=> .error "append: sizes"
  | true=>match l.isEmpty&&ia 1000 v (zeroV i) with
   | true=>IX i e s new.length []
   | false=>IX i e s new.length new
def sf (i:TI) (e:TypeId) (s:AV) (new:List AV):cY dI:=do
 match new with
 | []=>iZ i e s []
 | v::l=>do
  let new <- fits (v::l)
  match new.all (fun v=>v.cells.length.beq i.size)&&fo new.length i with
  | false=> .error "append: sizes"
  | true=>match s with
   | .aD=> .ok (.new (.cells (1000000+e) (flat new)) fun k=> .ms k 0 i.size new.length 0)
   | .es=> .ok (.new (.cells (1000000+e) (flat new)) fun k=> .ms k 0 i.size new.length 0)
   | .sl _ [] .shut=> .ok (.new (.cells (1000000+e) (flat new)) fun k=> .ms k 0 i.size new.length 0)
   | _=> .error "append: to what?"
def tJ (_i:TI) (_e:TypeId) (_s:AV) (_new:List AV):cY dI:= .error "row"
def fO (T:TT) (imm:TypeId->Bool) (b:Builtin) (argTypes:List TypeId) (args:List AV):cY dI:=
 match b,argTypes,args with
 | .append,[t,xt],[s,x]=>do
  match (<- ti T t).und,I2 (<- ti T xt).und with
  | .slice e,true=>do
   let i <- ti T e
   match oT x with
   | some new=>match imm (1000000+t) with
    | true=>si i e s new
    | false=>match imm (2000000+t) with
     | true=>sf i e s new
     | false=>match imm (3000000+t) with
      | true=>tJ i e s new
      | false=>iZ i e s new
   | none=> .error "append: what?"
  | _,_=> .error "append: no slice type"
 | .len,t:: _,[x]=>BU T t x
 | .min,_,x::l=>do pure (.val (<- vB true x l))
 | .max,_,x::l=>do pure (.val (<- vB false x l))
 | _,_,_=> .error ("builtin " ++toString (repr b))
def eY (T:TT) (prim:FuncId->Oq Prim) (imm:TypeId->Bool) (G:Nat->Oq (List AV)) (fr:Fr) (o:Op):cY dI:=
 let p (r:cY AV):cY dI:=do pure (.val (<- r))
 match o with
 | .move x | .assign x=>p (ch G fr x)
 | .pick c a b=>p do
  match <- asBool (<- ch G fr c) with
  | true=>ch G fr a
  | false=>ch G fr b
 | .alloc t=>do
  let i <- ti T t
  pure (.new (.cells t i.zero) fun k=> .mp k 0)
 | .box t x=>do NL (imm t) t (<- ti T t) (<- ch G fr x)
 | .build t parts=>p do build T t (<- gL G fr parts.toList)
 | .buildSlice t len parts=>p do buildSlice T t len (<- gL G fr parts.toList)
 | .makeSlice t l c=>do pJ T t (<- ch G fr l) (<- ch G fr c)
 | .load t a=>do mA (<- ti T t) (<- ch G fr a)
 | .store t a x=>do
  let i <- ti T t
  match <- ch G fr a with
  | .gp k m off=>do vb i k m off (<- ch G fr x)
  | a=>do vW i a (<- ch G fr x)
 | .nilCheck x=>p do
  match <- ch G fr x with
  | .ip c=>pure (.ip c)
  | .mp i o=>pure (.mp i o)
  | .gp k n o=>pure (.gp k n o)
  | .fn (.func f) a c=>pure (.fn (.func f) a c)
  | _=> .error "nilCheck"
 | .binOp op t x y _=>p do zB T op t y (<- ch G fr x) (<- ch G fr y)
 | .unOp op _ x=>p do unOp op (<- ch G fr x)
 | .convert s d x=>do tP T s d (<- ch G fr x)
 | .makeInterface t x=>p do
  match (<- ti T t).und with
  | .iface _ | .other=> .error "makeInterface"
  | _=>do pure (.iface t (<- ch G fr x))
 | .makeFunc f first cap=>p do pure (.fn f (<- nv G fr first.toList) (<- nv G fr cap.toList))
 | .makeMap _ none=> .ok (.new (.map []) fun k=> .mm k)
 | .slice t x lo hi mx=>match mx,hi with
  | some _,none=> .error "slice: max without high"
  | _,_=>p do mS T t (<- ch G fr x) (<- ej G fr lo) (<- ej G fr hi) (<- ej G fr mx)
 | .fieldAddr t x f=>p do fieldAddr T t (<- ch G fr x) f
 | .field t x f=>p do field T t (<- ch G fr x) f
 | .indexAddr t x i=>do
  match <- ch G fr x with
  | .gs k z n=>do lC T t k z n (<- ch G fr i)
  | x=>p do indexAddr T t x (<- ch G fr i)
 | .index t x i=>p do zf T t (<- ch G fr x) (<- ch G fr i)
 | .lookup t x k ok=>do jM T t (<- ch G fr x) (<- ch G fr k) ok
 | .mapUpdate t m k v | .insert t m k v=>do pc T t (<- ch G fr m) (<- ch G fr k) (<- ch G fr v)
 | .range t x=>do
  match (<- ti T t).und, <- ch G fr x with
  | .str,.str s=>pure (.new (.sit s 0) fun k=> .mp k 0)
  | _,_=> .error "range"
 | .next x true=>do B5 (<- ch G fr x)
 | .extract x i=>p do
  match <- ch G fr x with
  | .tup vs=>fy vs i
  | _=> .error "extract"
 | .call c=>do
  let args <- nv G fr c.args.toList
  match c.callee with
  | .builtin b=>fO T imm b c.argTypes.toList args
  | .value f=>do
   match <- ch G fr f with
   | .fn (.func g) first cap=>match prim g with
    | some q=>dy q (first++args++cap)
    | none=>pure (.call g (first++args++cap))
   | .yld k=>pure (.yield k args)
   | _=> .error "call: what?"
  | .invoke .. => .error "call: a method behind an interface"
 | _=> .error "an operation"
def Dr:Obj->Obj->Bool
 | .cells t a,.cells u b=>t.beq u&&fu (ia 1000000000000000000) a b
 | .tok n e,.tok m d=>n.beq m&&e.beq d
 | .grow n e z a,.grow m d y b=>n.beq m&&e.beq d&&z.beq y&&fu (ia 1000000000000000000) a b
 | .row n e z a,.row m d y b=>n.beq m&&e.beq d&&z.beq y&&fu (ia 1000000000000000000) a b
 | _,_=>false
def sameAt (s t:St) (i:Nat):Bool:=
 match s.get i,t.get i with
 | .ok a,.ok b=>Dr a b
 | _,_=>false
inductive du where
 | kept
 | wrote (id:Nat) (o:Obj)
 | made (n:Nat) (o:Obj)
 | looked
 | all (st0 st:St)
structure Fx where
 reads:Ln
 did:du
def du.app:du->St->St
 | .kept,s=>s
 | .looked,s=>s
 | .wrote id o,s=>s.put id o
 | .made _ o,s=>(s.new o).2
 | .all _ s,_=>s
structure dh where
 full:FuncId->Bool
 bare:FuncId->List AV->cY AV
 wide:FuncId->List AV->St->cY (AV×St)
 isLook:FuncId->Bool
 look:FuncId->List AV->St->cY AV
 round:Nat->List AV->St->cY (AV×St)
def fK (st:St) (id:Nat):Oq Obj->cY du
 | none=> .ok .kept
 | some o=>match id.blt st.ro with
  | true=> .error "a write to what is only read"
  | false=> .ok (.wrote id o)
def aE (C:dh) (st:St) (p:dI):cY (AV×Fx):=
 match p with
 | .val v=> .ok (v,⟨[],.kept⟩)
 | .obj id f=>do
  let (v,o) <- f (<- st.get id)
  pure (v,⟨[id], <- fK st id o⟩)
 | .both id k f=>do
  let o <- st.get id
  match <- k o with
  | none=>do pure (<- f o none,⟨[],.looked⟩)
  | some j=>match st.ro.ble j with
   | true=>do
    let o' <- st.get j
    pure (<- f o (some o'),⟨[],.looked⟩)
   | false=> .error "both: not ours"
 | .new o f=> .ok (f st.h,⟨[],.made st.h o⟩)
 | .call f args=>
  let a:=args.map strip
  match bN a&& !C.full f with
  | true=>do pure (<- C.bare f a,⟨[],.kept⟩)
  | false=>match C.isLook f with
   | true=>do pure (<- C.look f a st,⟨[],.looked⟩)
   | false=>do
    let (v,s) <- C.wide f args st
    pure (v,⟨[],.all st s⟩)
 | .yield k args=>do
  let (v,s) <- C.round k args st
  pure (v,⟨[],.all st s⟩)
def wanted (ops:List Oper) (fr:Fr) (g:Oq (Nat×Bool)):Bool:=
 match g with
 | none=>true
 | some (j,want)=>match (ops[j]?).bind (·.dst) with
  | some d=>match fr.get d with
   | .bool b=>b==want
   | _=>false
  | none=>false
structure Cx where
 T:TT
 prim:FuncId->Oq Prim
 imm:TypeId->Bool
 G:Nat->Oq (List AV)
 C:dh
def oper (X:Cx) (all:List Oper) (fr:Fr) (st:St) (o:Oper):cY (AV×Fx):=
 match wanted all fr o.guard with
 | true=>do aE X.C st (<- eY X.T X.prim X.imm X.G fr o.op)
 | false=> .ok (undef,⟨[],.kept⟩)
def du.wD:du->Bool
 | .kept=>true
 | _=>false
def apart (a b:Fx):Bool:=
 match a.did,b.did with
 | .all s t,.kept=>b.reads.all (sameAt s t)
 | .kept,.all s t=>a.reads.all (sameAt s t)
 | .looked,.wrote .. | .looked,.made .. =>b.reads.isEmpty&&b.did.wD
 | .wrote ..,.looked | .made ..,.looked=>a.reads.isEmpty&&a.did.wD
 | .looked,.kept | .kept,.looked | .looked,.looked=>true
 | .all ..,_ | _,.all .. =>false
 | .made ..,.made .. =>false
 | .kept,.kept=>true
 | .wrote i _,.kept | .made i _,.kept=> !b.reads.contains i
 | .kept,.wrote i _ | .kept,.made i _=> !a.reads.contains i
 | .wrote i _,.wrote j _ | .wrote i _,.made j _ | .made i _,.wrote j _=> !i.beq j&& !b.reads.contains i&& !a.reads.contains j
def behind (ops:List Oper):(fuel:Nat)->(j i:Nat)->Bool
 | 0,_,_=>false
 | f+1,j,i=>match ops[j]? with
  | some o=>o.after.toList.any fun e=>Region.binds .any e&&(e.on.beq i||(i.blt e.on&&behind ops f e.on i))
  | none=>false
def quiet (x:Fx):Bool:=match x.did with | .kept=>x.reads.isEmpty | _=>false
def py (ops:List Oper) (j:Nat) (x:Fx):List (Nat×Fx)->Bool
 | []=>true
 | (i,y)::l=>(apart y x||behind ops (j+1) j i)&&py ops j x l
def dO (X:Cx) (all:List Oper) (draw:Bool):(j:Nat)->(seen:List (Nat×Fx))->List Oper->Fr->St->cY (Fr×St)
 | _,_,[],fr,st=> .ok (fr,st)
 | j,seen,o::l,fr,st=>do
  let (v,x) <- oper X all fr st o
  match draw&& !quiet x with
  | false=>dO X all draw (j+1) seen l (fr.put o.dst v) (x.did.app st)
  | true=>match py all j x seen with
   | true=>dO X all draw (j+1) ((j,x)::seen) l (fr.put o.dst v) (x.did.app st)
   | false=> .error "an order that Go leaves open"
def pd:List Oper->Ln
 | []=>[]
 | o::l=>match o.op,o.dst with
  | .alloc _,some d=>d::pd l
  | _,_=>pd l
def CS (h:Nat):Ln->Nat->Oq Nat
 | [],_=>none
 | d::l,e=>match d.beq e with
  | true=>some h
  | false=>CS (h+1) l e
def St.lay (st:St):Ln->St
 | []=>st
 | _::l=>St.lay (st.new .AF).2 l
def xI (T:TT) (t:TypeId) (nm:Nat) (st:St):cY (AV×Fx):=do
 let i <- ti T t
 match <- st.get nm with
 | .AF=>match st.ro.ble nm with
  | true=> .ok (.mp nm 0,⟨[nm],.wrote nm (.cells t i.zero)⟩)
  | false=> .error "hatch: not ours"
 | _=> .error "hatch: no egg"
def sn (e:Nat->Oq Nat) (o:Oper):Oq (TypeId×Nat):=
 match o.dst with
 | none=>none
 | some d=>match e d with
  | none=>none
  | some nm=>match o.op with
   | .alloc t=>some (t,nm)
   | _=>none
def gn (X:Cx) (e:Nat->Oq Nat) (all:List Oper) (fr:Fr) (st:St) (o:Oper):cY (AV×Fx):=
 match wanted all fr o.guard with
 | true=>match sn e o with
  | some (t,nm)=>xI X.T t nm st
  | none=>do aE X.C st (<- eY X.T X.prim X.imm X.G fr o.op)
 | false=> .ok (undef,⟨[],.kept⟩)
def db (X:Cx) (e:Nat->Oq Nat) (all:List Oper):(j:Nat)->(seen:List (Nat×Fx))->List Oper->Fr->St->cY (Fr×St)
 | _,_,[],fr,st=> .ok (fr,st)
 | j,seen,o::l,fr,st=>do
  let (v,x) <- gn X e all fr st o
  match !quiet x with
  | false=>db X e all (j+1) seen l (fr.put o.dst v) (x.did.app st)
  | true=>match py all j x seen with
   | true=>db X e all (j+1) ((j,x)::seen) l (fr.put o.dst v) (x.did.app st)
   | false=> .error "an order that Go leaves open"
def iter (body:Fr->St->cY (Ex×Fr×St)):Nat->Fr->St->cY (Ex×Fr×St)
 | 0,_,_=> .error "out of fuel"
 | n+1,fr,st=>do
  match <- body fr st with
  | (.normal,fr,st)=>iter body n fr st
  | r=>pure r
def uW (n:Nat):Ln->Bool
 | []=>false
 | m::l=>n.beq m||uW n l
def dedup:Ln->Ln
 | []=>[]
 | i::l=>match uW i l with
  | true=>dedup l
  | false=>i::dedup l
def OA (ws:Ln):Ln->Ln
 | []=>[]
 | i::l=>match uW i ws with
  | true=>OA ws l
  | false=>i::OA ws l
def EF:Operand->Ln
 | .tmp t=>[t]
 | _=>[]
def Ha:List Operand->Ln
 | []=>[]
 | x::l=>EF x++Ha l
def FM (all:List Oper):List Oper->Ln
 | []=>[]
 | o::l=>Ha o.op.operands.toList++FM all l
def cN:List Oper->Ln
 | []=>[]
 | o::l=>match o.dst with
  | some d=>d::cN l
  | none=>cN l
def xZ:Code->Ln
 | .region _ ops _=>FM ops.toList ops.toList
 | .seq a b=>xZ a++xZ b
 | .cond c a b=>EF c++(xZ a++xZ b)
 | .block _ c=>xZ c
 | .loop c=>xZ c
 | .scope c=>xZ c
 | .rangeFunc g _ a c=>EF g++(xZ a++xZ c)
 | _=>[]
def writes:Code->Ln
 | .region _ ops _=>cN ops.toList
 | .seq a b=>writes a++writes b
 | .cond _ a b=>writes a++writes b
 | .block _ c=>writes c
 | .loop c=>writes c
 | .scope c=>writes c
 | _=>[]
def qq (ps:Ln) (a c:Code):Ln:=dedup (OA (ps++(writes a++writes c)) (xZ a++xZ c))
def qC:Ln->List AV->Tr AV->Tr AV
 | i::l,v::vs,t=>qC l vs (t.put i v)
 | _,_,t=>t
def kZ (fr:Fr):Ln->List AV
 | []=>[]
 | i::l=>fr.get i::kZ fr l
def Mx (n:Nat) (us:Ln) (vs:List AV):Fr:=⟨n,qC us vs .leaf,true⟩
def iU:List Oper->Bool
 | []=>true
 | o::l=>match o.guard with
  | none=>iU l
  | some _=>false
def cE:Code->Bool
 | .region _ ops _=>iU ops.toList
 | .seq a b=>cE a&&cE b
 | .cond _ a b=>cE a&&cE b
 | .block _ c=>cE c
 | .loop c=>cE c
 | .skip=>true
 | .label _=>true
 | .exit _=>true
 | .ret=>true
 | _=>false
def pq:Ln->List AV->Fr->Fr
 | i::l,v::vs,fr=>pq l vs (fr.put (some i) v)
 | _,_,fr=>fr
def rR (k s0 b:Nat) (p:Ex) (st:St):cY St:=do
 match <- st.get k with
 | .loop imm ps a c fr s _=>match s.beq s0 with
  | true=> .ok (st.put k (.loop imm ps a c fr b p))
  | false=> .error "a round: out of turn"
 | _=> .error "a round: of what?"
def exec (X:Cx) (n:Nat):Code->Fr->St->cY (Ex×Fr×St)
 | .skip,fr,st=> .ok (.normal,fr,st)
 | .region _ ops draw,fr,st=>match draw&&X.imm 4000000 with
  | false=>do
   let (fr,st) <- dO X ops.toList draw 0 [] ops.toList fr st
   pure (.normal,fr,st)
  | true=>do
   let (fr,st) <- db X (CS st.h (pd ops.toList)) ops.toList 0 [] ops.toList fr (st.lay (pd ops.toList))
   pure (.normal,fr,st)
 | .seq a b,fr,st=>do
  match <- exec X n a fr st with
  | (.normal,fr,st)=>exec X n b fr st
  | r=>pure r
 | .cond c a b,fr,st=>do
  match <- asBool (<- ch X.G fr c) with
  | true=>exec X n a fr st
  | false=>exec X n b fr st
 | .block id c,fr,st=>do
  match <- exec X n c fr st with
  | (.exit i,fr,st)=>match i.beq id with
   | true=>pure (.normal,fr,st)
   | false=>pure (.exit i,fr,st)
  | r=>pure r
 | .loop c,fr,st=>iter (exec X n c) n fr st
 | .exit id,fr,st=> .ok (.exit id,fr,st)
 | .label _,fr,st=> .ok (.normal,fr,st)
 | .ret,fr,st=> .ok (.ret,fr,st)
 | .scope c,fr,st=>exec X n c fr st
 | .rangeFunc g ps a c,fr,st=>match fr.strict with
  | true=> .error "a loop in a round"
  | false=>do
   match <- ch X.G fr g with
   | .fn (.func f) [] cap=>do
    let us:=qq ps.toList a c
    let (_,st1) <- X.C.wide f (.yld st.h::cap) (st.new (.loop X.imm ps.toList a c (Mx fr.n us (kZ fr us)) 0 .normal)).2
    match <- st1.get st.h with
    | .loop _ _ _ _ _ s p=>match s.beq 0||s.beq 2 with
     | true=>pure (p,fr,st1.put st.h .dead)
     | false=> .error "a loop: out of turn"
    | _=> .error "a loop: of what?"
   | _=> .error "a range over what?"
 | _,_,_=> .error "code"
def qD (X:Cx) (n k:Nat) (a c:Code) (fr:Fr) (st:St):cY (AV×St):=do
 match <- exec X n a fr st with
 | (.normal,d,st1)=>do
  let st2 <- rR k 0 1 .normal st1
  let (ex,_,b) <- exec X n c d st2
  match ex with
  | .normal=>do pure (.bool true, <- rR k 1 0 .normal b)
  | ex=>do pure (.bool false, <- rR k 1 2 ex b)
 | _=> .error "a round: its beginning"
def wH:Nat->List AV->Tr AV->Tr AV
 | _,[],t=>t
 | i,v::l,t=>wH (i+1) l (t.put i v)
def tW (n:Nat) (args:List AV):Fr:=⟨n,wH 0 args .leaf,false⟩
def lu (T:TT) (fr:Fr) (st:St):ResultVar->cY AV
 | .tmp t=> .ok (fr.get t)
 | .cell a t=>do
  match <- mA (<- ti T t) (fr.get a) with
  | .val v=>pure v
  | .obj id f=>do
   let (v,_) <- f (<- st.get id)
   pure v
  | _=> .error "result"
def iL (T:TT) (fr:Fr) (st:St):List ResultVar->cY (List AV)
 | []=> .ok []
 | r::l=>do pure ((<- lu T fr st r)::(<- iL T fr st l))
def oneOf:List AV->AV
 | [v]=>v
 | vs=> .tup vs
def body (X:Cx) (n:Nat) (fn:Func) (args:List AV) (st:St):cY (AV×St):=
 match fn.body with
 | none=> .error ("no body: " ++fn.name)
 | some c=>
  match args.length.ble fn.ntmps with
  | false=> .error "too many arguments"
  | true=>do
   match <- exec X n c (tW fn.ntmps args) st with
   | (.normal,fr,st) | (.ret,fr,st)=>do
    pure (oneOf (<- iL X.T fr st fn.results.toList),st)
   | _=> .error "exit out of a body"
structure Env where
 T:TT
 F:FuncId->Oq Func
 prim:FuncId->Oq Prim
 full:FuncId->Bool
 isLook:FuncId->Bool
 imm:FuncId->TypeId->Bool
 G:Nat->Oq (List AV)
 memo:FuncId->List (List AV×AV)
 rule:FuncId->Oq (List AV->Oq AV):=fun _=>none
 wrule:FuncId->Oq (List AV->St->cY (AV×St)):=fun _=>none
def vh (args:List AV):List (List AV×AV)->Oq AV
 | []=>none
 | (a,v)::l=>match fu (ia 1000) a args with
  | true=>some v
  | false=>vh args l
def Env.known (E:Env) (f:FuncId) (args:List AV):Oq AV:=
 match E.rule f with
 | some r=>r args
 | none=>vh args (E.memo f)
def caller (E:Env):Nat->dh
 | 0=>⟨E.full,fun _ _=> .error "out of fuel",fun _ _ _=> .error "out of fuel",E.isLook,fun _ _ _=> .error "out of fuel",fun _ _ _=> .error "out of fuel"⟩
 | n+1=>⟨E.full,
  fun f args=>
   match E.known f args with
   | some v=> .ok v
   | none=>match E.F f with
    | none=> .error "no such function"
    | some fn=>do
     let (v,s) <- body ⟨E.T,E.prim,E.imm f,E.G,caller E n⟩ n fn args St.empty
     let v <- freeze s 0 100 v
     match bare v with
     | true=>pure v
     | false=> .error "call: what it hands back",
  fun f args st=>
   match E.F f with
   | none=>match E.wrule f with
    | some r=>r args st
    | none=> .error "no such function"
   | some fn=>do
    let (v,s) <- body ⟨E.T,E.prim,E.imm f,E.G,caller E n⟩ n fn args st
    pure (v,s),
  E.isLook,
  fun f args st=>
   match E.F f with
   | none=> .error "no such function"
   | some fn=>do
    let (v,s) <- body ⟨E.T,E.prim,E.imm f,E.G,caller E n⟩ n fn args ⟨st.h,st.h,st.objs⟩
    let v <- freeze s st.h 100 v
    match bare v with
    | true=>pure v
    | false=> .error "look: what it hands back",
  fun k args st=>do
   match <- st.get k with
   | .loop imm ps a c fr s _=>match (s.beq 0&&st.ro.ble k)&&(args.length.beq ps.length&&(cE a&&cE c)) with
    | true=>qD ⟨E.T,E.prim,imm,E.G,caller E n⟩ n k a c (pq ps args fr) st
    | false=> .error "a round: out of turn"
   | _=> .error "a round: of what?"⟩
abbrev LA:=List AV
abbrev Td:=TypeId
end Go.VM
