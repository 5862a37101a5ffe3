/-
  A part of the proof.
-/
import Derived.Test.YtpinfliihpdjcaaGreatDoorVmAA
import GoSem.Step
set_option linter.all false
namespace Go.VM
inductive Perm where
 | shut
 | wide
 | own (name:Nat)
 deriving DecidableEq,Repr,Inhabited
inductive AV where
 | bool (b:Bool)
 | int (k:IntKind) (n:Int)
 | str (s:List UInt8)
 | flt (k:FloatKind) (bits:Nat)
 | nilp
 | ip (cells:List AV)
 | mp (id off:Nat)
 | aG
 | sl (sz:Nat) (elems:List AV) (perm:Perm)
 | ms (id off sz len cap:Nat)
 | nilm
 | mm (id:Nat)
 | im (entries:List (AV×AV))
 | fn (f:Fn) (first captured:List AV)
 | nilfn
 | iface (t:TypeId) (v:AV)
 | nili
 | agg (cs:List AV)
 | tup (vs:List AV)
 | gs (k z n:Nat)
 | gp (k n off:Nat)
 | es
 | opq (i:Bool)
 | yld (k:Nat)
 deriving Inhabited
def undef:AV:= .tup []
inductive Tr (α:Type) where
 | leaf
 | node (v:Option α) (l r:Tr α)
 deriving Inhabited
namespace Tr
variable {α:Type}
def get:Tr α->Nat->Option α
 | .leaf,_=>none
 | .node v l r,n=>match n.beq 0 with
  | true=>v
  | false=>match (n % 2).beq 1 with
   | true=>l.get (n / 2)
   | false=>r.get (n / 2 - 1)
def set:(fuel:Nat)->Tr α->Nat->α->Tr α
 | 0,t,_,_=>t
 | f+1,t,n,x=>
  let (v,l,r):=match t with | .leaf=>(none,.leaf,.leaf) | .node v l r=>(v,l,r)
  match n.beq 0 with
  | true=> .node (some x) l r
  | false=>match (n % 2).beq 1 with
   | true=> .node v (set f l (n / 2) x) r
   | false=> .node v l (set f r (n / 2 - 1) x)
def put (t:Tr α) (n:Nat) (x:α):Tr α:=set (n+1) t n x
end Tr
structure Fr where
 n:Nat
 t:Tr AV
 strict:Bool
 deriving Inhabited
def Fr.get (f:Fr) (i:Nat):AV:=(f.t.get i).getD undef
def Fr.put (f:Fr) (d:Option Tmp) (v:AV):Fr:=
 match d with
 | none=>f
 | some d=>match d.blt f.n with
  | true=>{f with t:=f.t.put d v}
  | false=>f
inductive Ex where
 | normal | exit (id:Nat) | ret
 deriving DecidableEq,Repr,Inhabited
inductive Obj where
 | cells (t:TypeId) (cs:List AV)
 | tok (n:Nat) (e:TypeId)
 | map (es:List (AV×AV))
 | sit (s:List UInt8) (pos:Nat)
 | dead
 | grow (n:Nat) (e:TypeId) (z:Nat) (es:List AV)
 | tG
 | row (n:Nat) (e:TypeId) (z:Nat) (cs:List AV)
 | loop (imm:TypeId->Bool) (ps:List Tmp) (first body:Code) (fr:Fr) (s:Nat) (p:Ex)
 deriving Inhabited
structure St where
 h:Nat
 ro:Nat
 objs:Tr Obj
 deriving Inhabited
def St.empty:St:=⟨0,0,.leaf⟩
abbrev cl (α:Type):=Except String α
def St.get (s:St) (i:Nat):cl Obj:=
 match i.blt s.h with
 | true=>match s.objs.get i with | some o=> .ok o | none=> .error "no object"
 | false=> .error "no such name"
def St.put (s:St) (i:Nat) (o:Obj):St:={s with objs:=s.objs.put i o}
def St.new (s:St) (o:Obj):Nat×St:=(s.h,⟨s.h+1,s.ro,s.objs.put s.h o⟩)
inductive U where
 | bool | int (k:IntKind) | str | flt (k:FloatKind)
 | ptr (e:TypeId) | slice (e:TypeId) | arr (n:Nat) (e:TypeId) | map (k e:TypeId)
 | struct (fs:List (Nat×TypeId))
 | func | iface (bare:Bool) | uptr | other
 deriving Inhabited
structure TI where
 und:U
 size:Nat
 bytes:Nat
 zero:List AV
 agg:Bool
 cmp:Bool
 deriving Inhabited
abbrev TT:=Tr TI
def ti (T:TT) (t:TypeId):cl TI:=match T.get t with | some i=> .ok i | none=> .error "no such type"
def AV.cells:AV->List AV
 | .agg cs=>cs
 | v=>[v]
def one:AV->Bool
 | .agg _=>false
 | .tup _=>false
 | _=>true
def eI:List AV->Bool
 | []=>true
 | v::l=>one v&&eI l
def strip:AV->AV
 | .sl z e (.own _)=> .sl z e .wide
 | v=>v
def bare:AV->Bool
 | .mp .. =>false
 | .gs .. =>false
 | .gp .. =>false
 | .yld _=>false
 | .mm _=>false
 | .ms .. =>false
 | .sl _ _ (.own _)=>false
 | .fn _ f c=>bareAll f&&bareAll c
 | .iface _ v=>bare v
 | .agg cs=>bareAll cs
 | .tup vs=>bareAll vs
 | .im es=>lY es
 | _=>true
 where
 bareAll:List AV->Bool
  | []=>true
  | v::l=>bare v&&bareAll l
 lY:List (AV×AV)->Bool
  | []=>true
  | (k,v)::l=>bare k&&bare v&&lY l
def bx:List AV->Bool:=bare.bareAll
def fit (v:AV):cl AV:=
 let v:=match v with
  | .agg cs=> .agg (cs.map strip)
  | v=>strip v
 match bare v with
 | true=> .ok v
 | false=> .error "a name within what never changes"
def fits:List AV->cl (List AV)
 | []=> .ok []
 | v::l=>do let v <- fit v;let l <- fits l;pure (v::l)
def bX (size:Nat) (agg:Bool) (cells:List AV):cl AV:=
 match agg with
 | true=>match size.ble cells.length with
  | true=> .ok (.agg (cells.take size))
  | false=> .error "too few cells"
 | false=>match cells with
  | v:: _=> .ok v
  | []=> .error "no cell"
inductive cV where
 | val (v:AV)
 | obj (id:Nat) (f:Obj->cl (AV×Option Obj))
 | both (id:Nat) (k:Obj->cl (Option Nat)) (f:Obj->Option Obj->cl AV)
 | new (o:Obj) (f:Nat->AV)
 | call (f:FuncId) (args:List AV)
 | yield (k:Nat) (args:List AV)
def fD (id:Nat) (f:Obj->cl AV):cV:= .obj id fun o=>do pure (<- f o,none)
def cellsOf:Obj->cl (List AV)
 | .cells _ cs=> .ok cs
 | _=> .error "no cells"
def ox:Obj->cl (TypeId×List AV)
 | .cells t cs=> .ok (t,cs)
 | _=> .error "no cells"
def iT (i:TI) (a:AV):cl cV:=
 match a with
 | .ip cells=>do pure (.val (<- bX i.size i.agg cells))
 | .mp id off=> .ok (fD id fun o=>do bX i.size i.agg ((<- cellsOf o).drop off))
 | .gp k n off=> .ok (fD k fun o=>match o with
  | .row m _ _ cs=>match n.beq m with
   | true=>bX i.size i.agg (cs.drop off)
   | false=> .error "load: an elder slice"
  | _=> .error "load: no slice that may be written")
 | _=> .error "load: no address"
def cJ (cs:List AV) (off:Nat) (new:List AV):List AV:=cs.take off++new++cs.drop (off+new.length)
def pk (i:TI) (a v:AV):cl cV:=
 match a with
 | .mp id off=>
  match v.cells.length.beq i.size&&eI v.cells with
  | true=> .ok (.obj id fun o=>do
   let (t,cs) <- ox o
   match (off+v.cells.length).ble cs.length with
   | true=>pure (undef,some (.cells t (cJ cs off v.cells)))
   | false=> .error "store: outside")
  | false=> .error "store: sizes"
 | _=> .error "store: no address that may be written"
def EU (imm:Bool) (t:TypeId) (i:TI) (v:AV):cl cV:=
 match v.cells.length.beq i.size&&eI v.cells with
 | false=> .error "box: sizes"
 | true=>match imm with
  | true=>do pure (.val (.ip (<- fits v.cells)))
  | false=> .ok (.new (.cells t v.cells) fun n=> .mp n 0)
def zeroV (i:TI):AV:=match i.agg,i.zero with
 | false,[v]=>v
 | _,z=> .agg z
def fieldAddr (T:TT) (t:TypeId) (a:AV) (f:Nat):cl AV:=do
 match (<- ti T t).und with
 | .struct fs=>match fs[f]? with
  | some (off,b)=>
   match (<- ti T b).size with
   | 0=> .error "field of no size"
   | _+1=>match a with
    | .ip cells=>pure (.ip (cells.drop off))
    | .mp id o=>pure (.mp id (o+off))
    | .gp k n o=>pure (.gp k n (o+off))
    | _=> .error "fieldAddr: no address"
  | none=> .error "no such field"
 | _=> .error "fieldAddr: no struct"
def field (T:TT) (t:TypeId) (x:AV) (f:Nat):cl AV:=do
 match (<- ti T t).und,x with
 | .struct fs,.agg cs=>match fs[f]? with
  | some (off,a)=>do
   let i <- ti T a
   bX i.size i.agg (cs.drop off)
  | none=> .error "no such field"
 | _,_=> .error "field: no struct"
def asInt:AV->cl Int
 | .int _ n=> .ok n
 | _=> .error "int expected"
def asBool:AV->cl Bool
 | .bool b=> .ok b
 | _=> .error "bool expected"
def inside (i:Int) (n:Nat):cl Nat:=
 match i with
 | .ofNat k=>match k.blt n with
  | true=> .ok k
  | false=> .error "index out of range"
 | _=> .error "index below 0"
def upto (i:Int) (n:Nat):cl Nat:=
 match i with
 | .ofNat k=>match k.ble n with
  | true=> .ok k
  | false=> .error "bound out of range"
 | _=> .error "bound below 0"
def fa:List AV->Nat->cl AV
 | [],_=> .error "nth"
 | v:: _,0=> .ok v
 | _::l,n+1=>fa l n
def group (sz:Nat) (agg:Bool):(n:Nat)->List AV->cl (List AV)
 | 0,_=> .ok []
 | n+1,cs=>do
  let v <- bX sz agg cs
  let l <- group sz agg n (cs.drop sz)
  pure (v::l)
def flat:List AV->List AV
 | []=>[]
 | v::l=>v.cells++flat l
def indexAddr (T:TT) (t:TypeId) (x i:AV):cl AV:=do
 let n <- asInt i
 match (<- ti T t).und,x with
 | .slice e,.sl sz elems _=>do
  let k <- inside n elems.length
  match sz.beq (<- ti T e).size with
  | true=>do pure (.ip (<- fa elems k).cells)
  | false=> .error "indexAddr: size"
 | .slice e,.ms id off sz len _=>do
  let k <- inside n len
  match sz.beq (<- ti T e).size with
  | true=>pure (.mp id (off+k * sz))
  | false=> .error "indexAddr: size"
 | .arr len e,.mp id off=>do
  let k <- inside n len
  pure (.mp id (off+k * (<- ti T e).size))
 | .arr len e,.ip cells=>do
  let k <- inside n len
  pure (.ip (cells.drop (k * (<- ti T e).size)))
 | .arr len e,.gp id m off=>do
  let k <- inside n len
  pure (.gp id m (off+k * (<- ti T e).size))
 | _,_=> .error "indexAddr: what?"
def rJ (T:TT) (t:TypeId) (x i:AV):cl AV:=do
 let n <- asInt i
 match (<- ti T t).und,x with
 | .str,.str s=>do
  let k <- inside n s.length
  match s[k]? with
  | some b=>pure (.int .u8 b.toNat)
  | none=> .error "index: string"
 | .arr len e,.agg cs=>do
  let k <- inside n len
  let i <- ti T e
  bX i.size i.agg (cs.drop (k * i.size))
 | _,_=> .error "index: what?"
def gX:Option AV->cl (Option Int)
 | none=> .ok none
 | some v=>do pure (some (<- asInt v))
def gW (hi:Option Int) (m dflt:Nat):cl Nat:=match hi with | some h=>upto h m | none=> .ok dflt
def mM (lo:Option Int) (h:Nat):cl Nat:=match lo with | some l=>upto l h | none=> .ok 0
def vt (m off:Nat) (cs:List AV):Obj->cl (AV×Option Obj)
 | .row n e z old=>match n.beq m&&(off+cs.length).ble old.length with
  | true=> .ok (undef,some (.row n e z (cJ old off cs)))
  | false=> .error "store: an elder slice"
 | _=> .error "store: nothing is open"
def lZ (i:TI) (k m off:Nat) (v:AV):cl cV:=
 match v.cells.length.beq i.size&&eI v.cells with
 | true=>do
  let cs:=v.cells
  let v <- fit v
  pure (.obj k fun o=>match o with
   | .grow n e z es=>match (n.beq m&&n.beq (es.length+1))&&(off.beq (es.length * z)&&z.beq i.size) with
    | true=> .ok (undef,some (.grow n e z (es++[v])))
    | false=> .error "store: not the last one"
   | o=>vt m off cs o)
 | false=> .error "store: sizes"
def gQ (T:TT) (t:TypeId) (k z n:Nat) (i:AV):cl cV:=do
 let j <- asInt i
 let j <- inside j n
 match (<- ti T t).und with
 | .slice e=>match z.beq (<- ti T e).size with
  | true=> .ok (fD k fun o=>match o with
   | .grow m _ z' es=>match n.beq m&&z'.beq z with
    | true=>match j.blt es.length with
     | true=>do pure (.ip (<- fa es j).cells)
     | false=> .ok (.gp k n (j * z))
    | false=> .error "indexAddr: an elder slice"
   | .row m _ z' _=>match n.beq m&&z'.beq z with
    | true=> .ok (.gp k n (j * z))
    | false=> .error "indexAddr: an elder slice"
   | _=> .error "indexAddr: no slice")
  | false=> .error "indexAddr: size"
 | _=> .error "indexAddr: what?"
def iV (T:TT) (t:TypeId) (x:AV) (lo hi mx:Option AV):cl AV:=do
 let lo <- gX lo
 let hi <- gX hi
 let mx <- gX mx
 match (<- ti T t).und,x,mx with
 | .str,.str s,none=>do
  let h <- gW hi s.length s.length
  let l <- mM lo h
  pure (.str ((s.take h).drop l))
 | .slice e,.aG,mx=>do
  let _ <- ti T e
  let m <- gW mx 0 0
  let h <- gW hi m 0
  let _ <- mM lo h
  pure .aG
 | .slice e,.es,mx=>do
  let _ <- ti T e
  let m <- gW mx 0 0
  let h <- gW hi m 0
  let _ <- mM lo h
  pure .es
 | .slice e,.ms id off sz len cap,mx=>do
  match sz.beq (<- ti T e).size with
  | false=> .error "slice: size"
  | true=>do
   let m <- gW mx cap cap
   let h <- gW hi m len
   let l <- mM lo h
   match h.ble m with
   | true=>pure (.ms id (off+l * sz) sz (h - l) (m - l))
   | false=> .error "slice: bounds"
 | .slice e,.sl sz es p,none=>do
  match sz.beq (<- ti T e).size with
  | false=> .error "slice: size"
  | true=>do
   let h <- gW hi es.length es.length
   let l <- mM lo h
   match h.beq es.length,p with
   | true,.shut=>pure (.sl sz (es.drop l) .shut)
   | true,.own k=>match l.beq 0 with
    | true=>pure (.sl sz es (.own k))
    | false=>pure (.sl sz (es.drop l) .wide)
   | _,_=>pure (.sl sz ((es.take h).drop l) .wide)
 | .slice e,.sl sz es _,some m=>do
  match sz.beq (<- ti T e).size with
  | false=> .error "slice: size"
  | true=>do
   let m <- upto m es.length
   let h <- gW hi m m
   let l <- mM lo h
   pure (.sl sz ((es.take h).drop l) (match m.beq h with | true=> .shut | false=> .wide))
 | _,_,_=> .error "slice: what?"
def eqFields (T:TT) (g:TypeId->AV->AV->cl Bool) (xs ys:List AV):List (Nat×TypeId)->cl Bool
 | []=> .ok true
 | (off,t)::l=>do
  let i <- ti T t
  let a <- bX i.size i.agg (xs.drop off)
  let b <- bX i.size i.agg (ys.drop off)
  match <- g t a b with
  | true=>eqFields T g xs ys l
  | false=> .ok false
def xg (T:TT):(fuel:Nat)->TypeId->AV->AV->cl Bool
 | 0,_,_,_=> .error "==: too deep"
 | f+1,t,x,y=>do
  let i <- ti T t
  match i.und,x,y with
  | .bool,.bool a,.bool b=> .ok (a==b)
  | .int _,.int j a,.int k b=>if j=k then .ok (a==b) else .error "==: kinds"
  | .str,.str a,.str b=> .ok (a==b)
  | .ptr _,.nilp,.nilp=> .ok true
  | .ptr _,.nilp,.ip _=> .ok false
  | .ptr _,.ip _,.nilp=> .ok false
  | .ptr _,.nilp,.mp .. => .ok false
  | .ptr _,.mp ..,.nilp=> .ok false
  | .slice _,.aG,.aG=> .ok true
  | .slice _,.aG,.sl .. => .ok false
  | .slice _,.sl ..,.aG=> .ok false
  | .slice _,.aG,.ms .. => .ok false
  | .slice _,.ms ..,.aG=> .ok false
  | .slice _,.aG,.es=> .ok false
  | .slice _,.es,.aG=> .ok false
  | .map ..,.nilm,.nilm=> .ok true
  | .map ..,.nilm,.mm _=> .ok false
  | .map ..,.mm _,.nilm=> .ok false
  | .func,.nilfn,.nilfn=> .ok true
  | .func,.nilfn,.fn .. => .ok false
  | .func,.fn ..,.nilfn=> .ok false
  | .struct fs,.agg xs,.agg ys=>match i.cmp with
   | true=>eqFields T (xg T f) xs ys fs
   | false=> .error "==: a struct"
  | _,_,_=> .error "==: what?"
def nf:AV->AV->cl Bool
 | .bool a,.bool b=> .ok (a==b)
 | .int j a,.int k b=>if j=k then .ok (a==b) else .error "key: kinds"
 | .str a,.str b=> .ok (a==b)
 | _,_=> .error "key: what?"
def xI (op:BinOp) (k:IntKind) (a b:Int):cl AV:=
 match op with
 | .add=> .ok (.int k (k.wrap (a+b)))
 | .sub=> .ok (.int k (k.wrap (a - b)))
 | .mul=> .ok (.int k (k.wrap (a * b)))
 | .quo=>if b=0 then .error "division by zero" else .ok (.int k (k.wrap (a.tdiv b)))
 | .rem=>if b=0 then .error "division by zero" else .ok (.int k (a.tmod b))
 | .and=> .ok (.int k (k.wrap ((BitVec.ofInt k.bits a)&&& (BitVec.ofInt k.bits b)).toNat))
 | .or=> .ok (.int k (k.wrap ((BitVec.ofInt k.bits a)||| (BitVec.ofInt k.bits b)).toNat))
 | .xor=> .ok (.int k (k.wrap ((BitVec.ofInt k.bits a) ^^^ (BitVec.ofInt k.bits b)).toNat))
 | .andNot=> .ok (.int k (k.wrap ((BitVec.ofInt k.bits a)&&& ~~~(BitVec.ofInt k.bits b)).toNat))
 | .eql=> .ok (.bool (a==b))
 | .neq=> .ok (.bool (a != b))
 | .lss=> .ok (.bool (a < b))
 | .leq=> .ok (.bool (a<=b))
 | .gtr=> .ok (.bool (a > b))
 | .geq=> .ok (.bool (a>=b))
 | _=> .error "intOp"
def AY (op:BinOp) (x y:List UInt8):cl AV:=
 match op with
 | .add=>match (x.length+y.length).ble 9223372036854775807 with
  | true=> .ok (.str (x++y))
  | false=> .error "string too long"
 | .eql=> .ok (.bool (x==y))
 | .neq=> .ok (.bool !(x==y))
 | .lss=> .ok (.bool (Op.bytesLess x y))
 | .leq=> .ok (.bool (Op.bytesLess x y||x==y))
 | .gtr=> .ok (.bool !(Op.bytesLess x y||x==y))
 | .geq=> .ok (.bool !(Op.bytesLess x y))
 | _=> .error "strOp"
def binOp (T:TT) (op:BinOp) (t:TypeId) (x y:AV):cl AV:=
 match op,x,y with
 | .shl,.int k a,.int _ b=>if b < 0 then .error "shift" else .ok (.int k (k.wrap (a * 2 ^ (min b.toNat k.bits))))
 | .shr,.int k a,.int _ b=>if b < 0 then .error "shift" else .ok (.int k (a.fdiv (2 ^ (min b.toNat k.bits))))
 | op,.int k a,.int c b=>if k=c then xI op k a b else .error "binOp: kinds"
 | op,.str a,.str b=>AY op a b
 | .eql,x,y=>do pure (.bool (<- xg T 20 t x y))
 | .neq,x,y=>do pure (.bool !(<- xg T 20 t x y))
 | _,_,_=> .error "binOp"
def Iz (yo:Operand) (b:AV):Bool:=
 match yo with
 | .const _=>match b with | .nili=>true | _=>false
 | _=>false
def DR (T:TT) (t:TypeId):Bool:=
 match T.get t with
 | some i=>match i.und with | .iface _=>true | _=>false
 | none=>false
def GI (op:BinOp) (a:AV):Option AV:=
 match op,a with
 | .eql,.nili=>some (.bool true)
 | .eql,.iface .. =>some (.bool false)
 | .neq,.nili=>some (.bool false)
 | .neq,.iface .. =>some (.bool true)
 | _,_=>none
def tC (T:TT) (op:BinOp) (t:TypeId) (yo:Operand) (a b:AV):cl AV:=
 match Iz yo b&&DR T t with
 | true=>match GI op a with | some v=> .ok v | none=> .error "binOp: nil"
 | false=>binOp T op t a b
def unOp (op:UnOp) (x:AV):cl AV:=
 match op,x with
 | .neg,.int k n=> .ok (.int k (k.wrap (0 - n)))
 | .not,.bool b=> .ok (.bool !b)
 | .xor,.int k n=> .ok (.int k (k.wrap ((BitVec.ofInt k.bits (if k.signed then -1 else k.max)) ^^^ (BitVec.ofInt k.bits n)).toNat))
 | _,_=> .error "unOp"
def bytesOf:List AV->cl (List UInt8)
 | []=> .ok []
 | .int .u8 n::l=>do pure (UInt8.ofNat n.toNat::(<- bytesOf l))
 | _:: _=> .error "bytes expected"
def ofBytes (s:List UInt8):List AV:=s.map fun b=> .int .u8 b.toNat
def isByte:U->Bool
 | .int .u8=>true
 | _=>false
def oC (T:TT) (src dst:TypeId) (x:AV):cl cV:=do
 match (<- ti T src).und,(<- ti T dst).und,x with
 | _,.int k,.int _ n=>pure (.val (.int k (k.wrap n)))
 | _,.str,.str s=>pure (.val (.str s))
 | .slice e,.str,x=>do
  match isByte (<- ti T e).und with
  | false=> .error "convert: no bytes"
  | true=>match x with
   | .aG=>pure (.val (.str []))
   | .sl _ es _=>do pure (.val (.str (<- bytesOf es)))
   | .ms id off _ len _=>pure (fD id fun o=>do
    let cs:=(<- cellsOf o).drop off
    match len.ble cs.length with
    | true=>do pure (.str (<- bytesOf (cs.take len)))
    | false=> .error "convert: length")
   | _=> .error "convert: what?"
 | .str,.slice e,.str s=>do
  match isByte (<- ti T e).und with
  | false=> .error "convert: no bytes"
  | true=>pure (.val (.sl 1 (ofBytes s) .wide))
 | _,_,_=> .error "convert"
def kH:AV->Option (List AV)
 | .aG=>some []
 | .sl _ e _=>some e
 | .str s=>some (ofBytes s)
 | .es=>some []
 | _=>none
def cU (n:Nat) (i:TI):Bool:=(n * i.bytes).ble 70368744177664&&(Nat.ble 1 i.size&&n.ble 70368744177664)
def fG (i:TI) (e:TypeId) (s:AV) (new:List AV):cl cV:=do
 match new with
 | []=>match s with
  | .aG=>pure (.val .aG)
  | .sl z es p=>pure (.val (.sl z es p))
  | .es=>pure (.val .es)
  | _=> .error "append: no slice"
 | _:: _=>do
  let new <- fits new
  match new.all (fun v=>v.cells.length.beq i.size) with
  | false=> .error "append: sizes"
  | true=>match s with
   | .aG=>match cU new.length i with
    | true=>pure (.new (.tok new.length e) fun k=> .sl i.size new (.own k))
    | false=> .error "append: too long"
   | .sl z es p=>match cU (es.length+new.length) i&&z.beq i.size with
    | false=> .error "append: too long"
    | true=>match p with
     | .shut=>pure (.new (.tok (es.length+new.length) e) fun k=> .sl z (es++new) (.own k))
     | .own k=>pure (.obj k fun o=>match o with
      | .tok n a=>match n.beq es.length&&a.beq e with
       | true=>pure (.sl z (es++new) (.own k),some (.tok (es.length+new.length) e))
       | false=> .error "append: not at the end"
      | _=> .error "append: no right to")
     | .wide=> .error "append: to what may have room"
   | .es=>match cU new.length i with
    | true=>pure (.new (.tok new.length e) fun k=> .sl i.size new (.own k))
    | false=> .error "append: too long"
   | _=> .error "append: no slice"
def tT (T:TT) (t:TypeId) (x:AV):cl cV:=do
 match (<- ti T t).und,x with
 | .arr n _,_=>pure (.val (.int .i64 n))
 | .str,.str s=>pure (.val (.int .i64 s.length))
 | .slice _,.aG=>pure (.val (.int .i64 0))
 | .slice _,.sl _ e _=>pure (.val (.int .i64 e.length))
 | .slice _,.ms _ _ _ len _=>pure (.val (.int .i64 len))
 | .slice _,.gs _ _ n=>pure (.val (.int .i64 n))
 | .slice _,.es=>pure (.val (.int .i64 0))
 | .map ..,.nilm=>pure (.val (.int .i64 0))
 | .map ..,.im es=>pure (.val (.int .i64 es.length))
 | .map ..,.mm i=>pure (fD i fun o=>match o with
  | .map es=> .ok (.int .i64 es.length)
  | _=> .error "len: no map")
 | _,_=> .error "len: what?"
def min2 (lower:Bool):AV->AV->cl AV
 | .int k x,.int _ y=> .ok (.int k (match lower with | true=>if y < x then y else x | false=>if y > x then y else x))
 | _,_=> .error "min, max"
def pM (lower:Bool):AV->List AV->cl AV
 | x,[]=> .ok x
 | x,y::l=>do pM lower (<- min2 lower x y) l
def lj:U->AV->Bool
 | .str,.str _=>true
 | .int _,.int .. =>true
 | .bool,.bool _=>true
 | _,_=>false
def fp (k:AV):List (AV×AV)->cl (Option AV)
 | []=> .ok none
 | (a,v)::l=>do
  match <- nf k a with
  | true=>pure (some v)
  | false=>fp k l
def lO (k v:AV):List (AV×AV)->cl (List (AV×AV))
 | []=> .ok [(k,v)]
 | (a,u)::l=>do
  match <- nf k a with
  | true=>pure ((a,v)::l)
  | false=>do pure ((a,u)::(<- lO k v l))
def okV (ok b:Bool) (v:AV):AV:=match ok with | true=> .tup [v,.bool b] | false=>v
def found (i:TI) (ok:Bool) (k:AV) (es:List (AV×AV)):cl AV:=do
 match <- fp k es with
 | some v=>pure (okV ok true v)
 | none=>pure (okV ok false (zeroV i))
def jk (T:TT) (t:TypeId) (x k:AV) (ok:Bool):cl cV:=do
 match (<- ti T t).und with
 | .map a e=>do
  let i <- ti T e
  match lj (<- ti T a).und k with
  | false=> .error "lookup: the key"
  | true=>match x with
   | .nilm=>do pure (.val (<- found i ok k []))
   | .im es=>do pure (.val (<- found i ok k es))
   | .mm m=>pure (fD m fun o=>match o with
    | .map es=>found i ok k es
    | _=> .error "lookup: no map")
   | _=> .error "lookup: no map"
 | _=> .error "lookup: no map type"
def kK (T:TT) (t:TypeId) (m k v:AV):cl cV:=do
 match (<- ti T t).und with
 | .map a _=>do
  match m,lj (<- ti T a).und k with
  | .mm i,true=>pure (.obj i fun o=>match o with
   | .map es=>do pure (undef,some (.map (<- lO k v es)))
   | _=> .error "mapUpdate: no map")
  | _,_=> .error "mapUpdate"
 | _=> .error "mapUpdate: no map type"
def oq (s:List UInt8) (i:Nat):Nat×Nat:=Utf8.decode ⟨s.toArray⟩ i
def vy (x:AV):cl cV:=
 match x with
 | .mp id 0=> .ok (.obj id fun o=>match o with
  | .sit s pos=>
   match pos.blt s.length with
   | true=>
    let (c,w):=oq s pos
    .ok (.tup [.bool true,.int .i64 pos,.int .i32 c],some (.sit s (pos+w)))
   | false=> .ok (.tup [.bool false],none)
  | _=> .error "next: no iterator")
 | _=> .error "next"
def ofConst:Value->cl AV
 | .bool b=> .ok (.bool b)
 | .int k n=> .ok (.int k n)
 | .float k b=> .ok (.flt k b)
 | .string s=> .ok (.str s.data.toList)
 | .pointer none=> .ok .nilp
 | .slice none 0 0=> .ok .aG
 | .map none=> .ok .nilm
 | .nilFunc=> .ok .nilfn
 | .nilIface=> .ok .nili
 | .agg cs=>do pure (.agg (<- ofAll cs.toList))
 | .tuple vs=>do pure (.tup (<- ofAll vs.toList))
 | _=> .error "a constant"
 where
 ofAll:List Value->cl (List AV)
  | []=> .ok []
  | v::l=>do pure ((<- ofConst v)::(<- ofAll l))
def bD (G:Nat->Option (List AV)) (f:Fr):Operand->cl AV
 | .tmp t=>match f.strict with
  | false=> .ok (f.get t)
  | true=>match f.t.get t with
   | some v=> .ok v
   | none=> .error "a slot that a round does not know"
 | .const v=>ofConst v
 | .global g=>match G g with
  | some cs=> .ok (.ip cs)
  | none=> .error "a variable of the program"
 | .func g=> .ok (.fn (.func g) [] [])
def jt (G:Nat->Option (List AV)) (f:Fr):List Operand->cl (List AV)
 | []=> .ok []
 | x::l=>do pure ((<- bD G f x)::(<- jt G f l))
def dj (G:Nat->Option (List AV)) (f:Fr):Option Operand->cl (Option AV)
 | none=> .ok none
 | some x=>do pure (some (<- bD G f x))
def eD (G:Nat->Option (List AV)) (f:Fr):List (Nat×Operand)->cl (List (Nat×AV))
 | []=> .ok []
 | (i,x)::l=>do pure ((i, <- bD G f x)::(<- eD G f l))
def gY (place:Nat->Option (Nat×Nat)) (cells:List AV):List (Nat×AV)->cl (List AV)
 | []=> .ok cells
 | (i,v)::l=>
  match place i with
  | none=> .error "build: no such part"
  | some (off,size)=>match v.cells.length.beq size&&(off+size).ble cells.length with
   | true=>gY place (cJ cells off v.cells) l
   | false=> .error "build: sizes"
def kC (T:TT):List (Nat×TypeId)->cl (List (Nat×Nat))
 | []=> .ok []
 | (o,t)::l=>do pure ((o,(<- ti T t).size)::(<- kC T l))
def build (T:TT) (t:TypeId) (parts:List (Nat×AV)):cl AV:=do
 let i <- ti T t
 match i.und with
 | .struct fs=>do
  let ps <- kC T fs
  pure (.agg (<- gY (fun k=>ps[k]?) i.zero parts))
 | .arr _ e=>do
  let z:=(<- ti T e).size
  pure (.agg (<- gY (fun k=>some (k * z,z)) i.zero parts))
 | _=> .error "build: what?"
def zeros (z:List AV):Nat->List AV
 | 0=>[]
 | n+1=>z++zeros z n
def kL (T:TT) (t:TypeId) (l c:AV):cl cV:=do
 match (<- ti T t).und,l,c with
 | .slice e,.int _ (.ofNat l),.int _ (.ofNat c)=>do
  let i <- ti T e
  match l.ble c&&(c * i.size).ble 16777216&&(i.bytes * c).ble 281474976710656&&c.ble 9223372036854775807&&Nat.ble 1 i.size with
  | true=>match l.beq 0 with
   | true=>pure (.new (.tok 0 e) fun k=> .sl i.size [] (.own k))
   | false=>pure (.new (.cells e (zeros i.zero c)) fun k=> .ms k 0 i.size l c)
  | false=> .error "make: size"
 | _,_,_=> .error "make: what?"
def buildSlice (T:TT) (t:TypeId) (len:Nat) (parts:List (Nat×AV)):cl AV:=do
 match (<- ti T t).und with
 | .slice e=>do
  let i <- ti T e
  match (len * i.size).ble 16777216&&Nat.ble 1 i.size with
  | true=>do
   let cs <- gY (fun k=>some (k * i.size,i.size)) (zeros i.zero len) parts
   match eI cs with
   | true=>pure (.sl i.size (<- fits (<- group i.size i.agg len cs)) .shut)
   | false=> .error "buildSlice: cells"
  | false=> .error "buildSlice: too long"
 | _=> .error "buildSlice: what?"
def qt:List AV->cl (List UInt8)
 | []=> .ok []
 | .int .u8 n::l=>match n with
  | .ofNat k=>match k.blt 256 with
   | true=>do pure (UInt8.ofNat k::(<- qt l))
   | false=> .error "no byte"
  | .negSucc _=> .error "no byte"
 | _:: _=> .error "bytes expected"
inductive Prim where
 | same | count | indexByte | index
 | copyCheck (l:List (TypeId×Nat×Nat))
 | builderString (u8:TypeId)
 | lib (f:List AV->cl AV)
def uL (sep:List UInt8):List UInt8->Nat->Option Nat
 | [],i=>if sep.isEmpty then some i else none
 | s@(_::l),i=>if sep.isPrefixOf s then some i else uL sep l (i+1)
def K8 (l:List (TypeId×Nat×Nat)) (t:TypeId) (n off:Nat):Bool:=
 match l with
 | []=>false
 | (a,b,c)::l=>(a.beq t&&b.beq n&&c.beq off&&t.blt 1000000)||K8 l t n off
def cP (c:Nat):List UInt8->Option Nat
 | []=>none
 | b::l=>match b.toNat.beq c with
  | true=>some 0
  | false=>match cP c l with
   | some i=>some (i+1)
   | none=>none
def gT (p:Prim) (args:List AV):cl cV:=
 match p,args with
 | .same,[v]=> .ok (.val v)
 | .count,[.str s,.int .u8 c]=> .ok (.val (.int .i64 (s.countP fun b=>b.toNat.beq (c.toNat % 256))))
 | .indexByte,[.str s,.int .u8 c]=> .ok (.val (.int .i64 (match cP (c.toNat % 256) s with | some i=>(i:Int) | none=> -1)))
 | .index,[.str s,.str t]=> .ok (.val (.int .i64 (match uL t s 0 with | some i=>(i:Int) | none=> -1)))
 | .copyCheck l,[.mp id off]=> .ok (.obj id fun o=>do
   let (t,cs) <- ox o
   match (K8 l t cs.length off) with
   | false=> .error "copyCheck: where?"
   | true=>do
    match <- fa cs off with
    | .nilp=>pure (.tup [],some (.cells t (cJ cs off [.mp id off])))
    | .mp id' a=>match id'.beq id&&a.beq off with
     | true=>pure (.tup [],none)
     | false=> .error "copyCheck"
    | _=> .error "copyCheck")
 | .builderString u8,[.mp id off]=> .ok (.both id
   (fun o=>do
    match <- fa (<- cellsOf o) (off+1) with
    | .aG=>pure none
    | .sl 1 _ (.own k)=>pure (some k)
    | _=> .error "Builder.String")
   (fun o o'=>do
    match <- fa (<- cellsOf o) (off+1),o' with
    | .aG,_=>pure (.str [])
    | .sl 1 e (.own _),some (.tok n ty)=>match ty.beq u8&&n.beq e.length&& !e.isEmpty&&n.blt 4611686018427387904 with
     | true=>do pure (.str (<- qt e))
     | false=> .error "Builder.String: bytes"
    | _,_=> .error "Builder.String"))
 | .lib f,args=>match f args with
  | .ok v=> .ok (.val v)
  | .error e=> .error e
 | _,_=> .error "a function that is not walked"
def iZ (g:AV->cl AV):List AV->cl (List AV)
 | []=> .ok []
 | v::l=>do pure ((<- g v)::(<- iZ g l))
def lP (g:AV->cl AV):List (AV×AV)->cl (List (AV×AV))
 | []=> .ok []
 | (k,v)::l=>do pure ((k,strip (<- g v))::(<- lP g l))
def freeze (st:St) (base:Nat):(fuel:Nat)->AV->cl AV
 | 0,_=> .error "freeze: too deep"
 | f+1,v=>
  match v with
  | .mp id off=>match id.blt base with
   | true=> .ok v
   | false=>do
    match <- st.get id with
    | .cells _ cs=>do
     let cs <- iZ (freeze st base f) (cs.drop off)
     pure (.ip (<- fits cs))
    | _=> .error "freeze: what?"
  | .mm id=>match id.blt base with
   | true=> .ok v
   | false=>do
    match <- st.get id with
    | .map es=>do
     let es <- lP (freeze st base f) es
     match bare.lY es with
     | true=>pure (.im es)
     | false=> .error "freeze: a map"
    | _=> .error "freeze: what?"
  | .sl z e (.own k)=>match k.blt base with
   | true=> .ok v
   | false=> .ok (.sl z e .wide)
  | .agg cs=>do pure (.agg (<- iZ (freeze st base f) cs))
  | .tup vs=>do pure (.tup (<- iZ (freeze st base f) vs))
  | .iface t v=>do pure (.iface t (<- freeze st base f v))
  | .fn g a c=>do pure (.fn g (<- iZ (freeze st base f) a) (<- iZ (freeze st base f) c))
  | .ms id off z len cap=>match id.blt base with
   | true=> .ok v
   | false=>do
    match <- st.get id with
    | .cells _ cs=>do
     let cs <- iZ (freeze st base f) ((cs.drop off).take (len * z))
     match eI cs with
     | true=>do
      let es <- fits (<- group z (Nat.ble 2 z) len cs)
      match cap.beq 0 with
      | true=>match len.beq 0 with
       | true=> .error "freeze: no array"
       | false=>pure (.sl z es .wide)
      | false=>pure (.sl z es (match cap.beq len with | true=> .shut | false=> .wide))
     | false=> .error "freeze: cells"
    | _=> .error "freeze: what?"
  | .gs k z n=>match k.blt base with
   | true=> .ok v
   | false=>do
    match <- st.get k with
    | .grow m _ z' es=>match (n.beq m&&n.beq es.length)&&z'.beq z with
     | true=> .ok (.sl z es .wide)
     | false=> .error "freeze: an elder slice"
    | _=> .error "freeze: what?"
  | v=> .ok v
def AE:U->Bool
 | .slice _=>true
 | .str=>true
 | _=>false
def jm:List UInt8->List UInt8->Bool
 | [],[]=>true
 | a::l,b::m=>match a.toNat.beq b.toNat with
  | true=>jm l m
  | false=>false
 | _,_=>false
def dJ (g:AV->AV->Bool):List AV->List AV->Bool
 | [],[]=>true
 | a::l,b::m=>match g a b with
  | true=>dJ g l m
  | false=>false
 | _,_=>false
def eV:(fuel:Nat)->AV->AV->Bool
 | 0,_,_=>false
 | f+1,a,b=>match a,b with
  | .bool a,.bool b=>a==b
  | .int j a,.int k b=>decide (j=k)&&decide (a=b)
  | .str a,.str b=>jm a b
  | .nilp,.nilp=>true
  | .aG,.aG=>true
  | .nilm,.nilm=>true
  | .nilfn,.nilfn=>true
  | .nili,.nili=>true
  | .es,.es=>true
  | .ip a,.ip b=>dJ (eV f) a b
  | .mp a b,.mp c d=>a.beq c&&b.beq d
  | .mm a,.mm b=>a.beq b
  | .gs a b c,.gs a' b' g=>a.beq a'&&b.beq b'&&c.beq g
  | .gp a b c,.gp a' b' g=>a.beq a'&&b.beq b'&&c.beq g
  | .ms a b c d e,.ms a' b' g d' h=>a.beq a'&&b.beq b'&&c.beq g&&d.beq d'&&e.beq h
  | .sl z e p,.sl z' h i=>z.beq z'&&decide (p=i)&&dJ (eV f) e h
  | .iface t a,.iface u b=>t.beq u&&eV f a b
  | .agg a,.agg b=>dJ (eV f) a b
  | .tup a,.tup b=>dJ (eV f) a b
  | _,_=>false
def wx (i:TI) (e:TypeId) (s:AV) (c:Nat) (new:List AV):cl cV:=
 match s with
 | .aG=>match cU c i with
  | true=> .ok (.new (.grow c e i.size new) fun k=> .gs k i.size c)
  | false=> .error "append: too long"
 | .sl z es .shut=>match cU (es.length+c) i&&z.beq i.size with
  | true=> .ok (.new (.grow (es.length+c) e z (es++new)) fun k=> .gs k z (es.length+c))
  | false=> .error "append: too long"
 | .sl z es (.own k)=>match cU (es.length+c) i&&z.beq i.size with
  | true=> .ok (.obj k fun o=>match o with
   | .tok n a=>match n.beq es.length&&a.beq e with
    | true=> .ok (.gs k z (es.length+c),some (.grow (es.length+c) e z (es++new)))
    | false=> .error "append: not at the end"
   | _=> .error "append: no right to")
  | false=> .error "append: too long"
 | .gs k z n=>match cU (n+c) i&&z.beq i.size with
  | true=> .ok (.obj k fun o=>match o with
   | .grow m a z' es=>match (n.beq m&&n.beq es.length)&&(a.beq e&&z'.beq z) with
    | true=> .ok (.gs k z (n+c),some (.grow (n+c) e z (es++new)))
    | false=> .error "append: not at the end"
   | _=> .error "append: no right to")
  | false=> .error "append: too long"
 | _=> .error "append: to what?"
def mH (i:TI) (e:TypeId) (s:AV) (new:List AV):cl cV:=do
 match new with
 | []=> .error "append: nothing"
 | v::l=>do
  let new <- fits (v::l)
  match new.all (fun v=>v.cells.length.beq i.size) with
  | false=> .error "append: sizes"
  | true=>match l.isEmpty&&eV 1000 v (zeroV i) with
   | true=>wx i e s new.length []
   | false=>wx i e s new.length new
def mg (i:TI) (e:TypeId) (s:AV) (new:List AV):cl cV:=do
 match new with
 | []=>fG i e s []
 | v::l=>do
  let new <- fits (v::l)
  match new.all (fun v=>v.cells.length.beq i.size)&&cU new.length i with
  | false=> .error "append: sizes"
  | true=>match s with
   | .aG=> .ok (.new (.cells (1000000+e) (flat new)) fun k=> .ms k 0 i.size new.length 0)
   | .es=> .ok (.new (.cells (1000000+e) (flat new)) fun k=> .ms k 0 i.size new.length 0)
   | .sl _ [] .shut=> .ok (.new (.cells (1000000+e) (flat new)) fun k=> .ms k 0 i.size new.length 0)
   | _=> .error "append: to what?"
def kj (i:TI) (e:TypeId) (s:AV) (new:List AV):cl cV:=do
 match new with
 | []=> .error "append: nothing"
 | v::l=>do
  let new <- fits (v::l)
  match new.all (fun v=>v.cells.length.beq i.size) with
  | false=> .error "append: sizes"
  | true=>match s with
   | .aG=>match cU new.length i with
    | true=> .ok (.new (.row new.length e i.size (flat new)) fun k=> .gs k i.size new.length)
    | false=> .error "append: too long"
   | .gs k z n=>match cU (n+new.length) i&&z.beq i.size with
    | true=> .ok (.obj k fun o=>match o with
     | .row m a z' cs=>match n.beq m&&(a.beq e&&z'.beq z) with
      | true=> .ok (.gs k z (n+new.length),some (.row (n+new.length) e z (cs++flat new)))
      | false=> .error "append: not at the end"
     | _=> .error "append: no right to")
    | false=> .error "append: too long"
   | _=> .error "append: to what?"
def dS (T:TT) (imm:TypeId->Bool) (b:Builtin) (argTypes:List TypeId) (args:List AV):cl cV:=
 match b,argTypes,args with
 | .append,[t,xt],[s,x]=>do
  match (<- ti T t).und,AE (<- ti T xt).und with
  | .slice e,true=>do
   let i <- ti T e
   match kH x with
   | some new=>match imm (1000000+t) with
    | true=>mH i e s new
    | false=>match imm (2000000+t) with
     | true=>mg i e s new
     | false=>match imm (3000000+t) with
      | true=>kj i e s new
      | false=>fG i e s new
   | none=> .error "append: what?"
  | _,_=> .error "append: no slice type"
 | .len,t:: _,[x]=>tT T t x
 | .min,_,x::l=>do pure (.val (<- pM true x l))
 | .max,_,x::l=>do pure (.val (<- pM false x l))
 | _,_,_=> .error ("builtin " ++toString (repr b))
def dG (T:TT) (prim:FuncId->Option Prim) (imm:TypeId->Bool) (G:Nat->Option (List AV)) (fr:Fr) (o:Op):cl cV:=
 let p (r:cl AV):cl cV:=do pure (.val (<- r))
 match o with
 | .move x | .assign x=>p (bD G fr x)
 | .pick c a b=>p do
  match <- asBool (<- bD G fr c) with
  | true=>bD G fr a
  | false=>bD G fr b
 | .alloc t=>do
  let i <- ti T t
  pure (.new (.cells t i.zero) fun k=> .mp k 0)
 | .box t x=>do EU (imm t) t (<- ti T t) (<- bD G fr x)
 | .build t parts=>p do build T t (<- eD G fr parts.toList)
 | .buildSlice t len parts=>p do buildSlice T t len (<- eD G fr parts.toList)
 | .makeSlice t l c=>do kL T t (<- bD G fr l) (<- bD G fr c)
 | .load t a=>do iT (<- ti T t) (<- bD G fr a)
 | .store t a x=>do
  let i <- ti T t
  match <- bD G fr a with
  | .gp k m off=>do lZ i k m off (<- bD G fr x)
  | a=>do pk i a (<- bD G fr x)
 | .nilCheck x=>p do
  match <- bD G fr x with
  | .ip c=>pure (.ip c)
  | .mp i o=>pure (.mp i o)
  | .gp k n o=>pure (.gp k n o)
  | .fn (.func f) a c=>pure (.fn (.func f) a c)
  | _=> .error "nilCheck"
 | .binOp op t x y _=>p do tC T op t y (<- bD G fr x) (<- bD G fr y)
 | .unOp op _ x=>p do unOp op (<- bD G fr x)
 | .convert s d x=>do oC T s d (<- bD G fr x)
 | .makeInterface t x=>p do
  match (<- ti T t).und with
  | .iface _ | .other=> .error "makeInterface"
  | _=>do pure (.iface t (<- bD G fr x))
 | .makeFunc f first cap=>p do pure (.fn f (<- jt G fr first.toList) (<- jt G fr cap.toList))
 | .makeMap _ none=> .ok (.new (.map []) fun k=> .mm k)
 | .slice t x lo hi mx=>match mx,hi with
  | some _,none=> .error "slice: max without high"
  | _,_=>p do iV T t (<- bD G fr x) (<- dj G fr lo) (<- dj G fr hi) (<- dj G fr mx)
 | .fieldAddr t x f=>p do fieldAddr T t (<- bD G fr x) f
 | .field t x f=>p do field T t (<- bD G fr x) f
 | .indexAddr t x i=>do
  match <- bD G fr x with
  | .gs k z n=>do gQ T t k z n (<- bD G fr i)
  | x=>p do indexAddr T t x (<- bD G fr i)
 | .index t x i=>p do rJ T t (<- bD G fr x) (<- bD G fr i)
 | .lookup t x k ok=>do jk T t (<- bD G fr x) (<- bD G fr k) ok
 | .mapUpdate t m k v | .insert t m k v=>do kK T t (<- bD G fr m) (<- bD G fr k) (<- bD G fr v)
 | .range t x=>do
  match (<- ti T t).und, <- bD G fr x with
  | .str,.str s=>pure (.new (.sit s 0) fun k=> .mp k 0)
  | _,_=> .error "range"
 | .next x true=>do vy (<- bD G fr x)
 | .extract x i=>p do
  match <- bD G fr x with
  | .tup vs=>fa vs i
  | _=> .error "extract"
 | .call c=>do
  let args <- jt G fr c.args.toList
  match c.callee with
  | .builtin b=>dS T imm b c.argTypes.toList args
  | .value f=>do
   match <- bD G fr f with
   | .fn (.func g) first cap=>match prim g with
    | some q=>gT q (first++args++cap)
    | none=>pure (.call g (first++args++cap))
   | .yld k=>pure (.yield k args)
   | _=> .error "call: what?"
  | .invoke .. => .error "call: a method behind an interface"
 | _=> .error "an operation"
def wE:Obj->Obj->Bool
 | .cells t a,.cells u b=>t.beq u&&dJ (eV 1000000000000000000) a b
 | .tok n e,.tok m d=>n.beq m&&e.beq d
 | .grow n e z a,.grow m d y b=>n.beq m&&e.beq d&&z.beq y&&dJ (eV 1000000000000000000) a b
 | .row n e z a,.row m d y b=>n.beq m&&e.beq d&&z.beq y&&dJ (eV 1000000000000000000) a b
 | _,_=>false
def sameAt (s t:St) (i:Nat):Bool:=
 match s.get i,t.get i with
 | .ok a,.ok b=>wE a b
 | _,_=>false
inductive dL where
 | kept
 | wrote (id:Nat) (o:Obj)
 | made (n:Nat) (o:Obj)
 | looked
 | all (st0 st:St)
structure Fx where
 reads:List Nat
 did:dL
def dL.app:dL->St->St
 | .kept,s=>s
 | .looked,s=>s
 | .wrote id o,s=>s.put id o
 | .made _ o,s=>(s.new o).2
 | .all _ s,_=>s
structure cp where
 full:FuncId->Bool
 bare:FuncId->List AV->cl AV
 wide:FuncId->List AV->St->cl (AV×St)
 isLook:FuncId->Bool
 look:FuncId->List AV->St->cl AV
 round:Nat->List AV->St->cl (AV×St)
def dv (st:St) (id:Nat):Option Obj->cl dL
 | none=> .ok .kept
 | some o=>match id.blt st.ro with
  | true=> .error "a write to what is only read"
  | false=> .ok (.wrote id o)
def az (C:cp) (st:St) (p:cV):cl (AV×Fx):=
 match p with
 | .val v=> .ok (v,⟨[],.kept⟩)
 | .obj id f=>do
  let (v,o) <- f (<- st.get id)
  pure (v,⟨[id], <- dv st id o⟩)
 | .both id k f=>do
  let o <- st.get id
  match <- k o with
  | none=>do pure (<- f o none,⟨[],.looked⟩)
  | some j=>match st.ro.ble j with
   | true=>do
    let o' <- st.get j
    pure (<- f o (some o'),⟨[],.looked⟩)
   | false=> .error "both: not ours"
 | .new o f=> .ok (f st.h,⟨[],.made st.h o⟩)
 | .call f args=>
  let a:=args.map strip
  match bx a&& !C.full f with
  | true=>do pure (<- C.bare f a,⟨[],.kept⟩)
  | false=>match C.isLook f with
   | true=>do pure (<- C.look f a st,⟨[],.looked⟩)
   | false=>do
    let (v,s) <- C.wide f args st
    pure (v,⟨[],.all st s⟩)
 | .yield k args=>do
  let (v,s) <- C.round k args st
  pure (v,⟨[],.all st s⟩)
def wanted (ops:List Oper) (fr:Fr) (g:Option (Nat×Bool)):Bool:=
 match g with
 | none=>true
 | some (j,want)=>match (ops[j]?).bind (·.dst) with
  | some d=>match fr.get d with
   | .bool b=>b==want
   | _=>false
  | none=>false
structure Cx where
 T:TT
 prim:FuncId->Option Prim
 imm:TypeId->Bool
 G:Nat->Option (List AV)
 C:cp
def oper (X:Cx) (all:List Oper) (fr:Fr) (st:St) (o:Oper):cl (AV×Fx):=
 match wanted all fr o.guard with
 | true=>do az X.C st (<- dG X.T X.prim X.imm X.G fr o.op)
 | false=> .ok (undef,⟨[],.kept⟩)
def dL.pn:dL->Bool
 | .kept=>true
 | _=>false
def apart (a b:Fx):Bool:=
 match a.did,b.did with
 | .all s t,.kept=>b.reads.all (sameAt s t)
 | .kept,.all s t=>a.reads.all (sameAt s t)
 | .looked,.wrote .. | .looked,.made .. =>b.reads.isEmpty&&b.did.pn
 | .wrote ..,.looked | .made ..,.looked=>a.reads.isEmpty&&a.did.pn
 | .looked,.kept | .kept,.looked | .looked,.looked=>true
 | .all ..,_ | _,.all .. =>false
 | .made ..,.made .. =>false
 | .kept,.kept=>true
 | .wrote i _,.kept | .made i _,.kept=> !b.reads.contains i
 | .kept,.wrote i _ | .kept,.made i _=> !a.reads.contains i
 | .wrote i _,.wrote j _ | .wrote i _,.made j _ | .made i _,.wrote j _=> !i.beq j&& !b.reads.contains i&& !a.reads.contains j
def behind (ops:List Oper):(fuel:Nat)->(j i:Nat)->Bool
 | 0,_,_=>false
 | f+1,j,i=>match ops[j]? with
  | some o=>o.after.toList.any fun e=>Region.binds .any e&&(e.on.beq i||(i.blt e.on&&behind ops f e.on i))
  | none=>false
def quiet (x:Fx):Bool:=match x.did with | .kept=>x.reads.isEmpty | _=>false
def la (ops:List Oper) (j:Nat) (x:Fx):List (Nat×Fx)->Bool
 | []=>true
 | (i,y)::l=>(apart y x||behind ops (j+1) j i)&&la ops j x l
def cS (X:Cx) (all:List Oper) (draw:Bool):(j:Nat)->(seen:List (Nat×Fx))->List Oper->Fr->St->cl (Fr×St)
 | _,_,[],fr,st=> .ok (fr,st)
 | j,seen,o::l,fr,st=>do
  let (v,x) <- oper X all fr st o
  match draw&& !quiet x with
  | false=>cS X all draw (j+1) seen l (fr.put o.dst v) (x.did.app st)
  | true=>match la all j x seen with
   | true=>cS X all draw (j+1) ((j,x)::seen) l (fr.put o.dst v) (x.did.app st)
   | false=> .error "an order that Go leaves open"
def kU:List Oper->List Nat
 | []=>[]
 | o::l=>match o.op,o.dst with
  | .alloc _,some d=>d::kU l
  | _,_=>kU l
def vo (h:Nat):List Nat->Nat->Option Nat
 | [],_=>none
 | d::l,e=>match d.beq e with
  | true=>some h
  | false=>vo (h+1) l e
def St.lay (st:St):List Nat->St
 | []=>st
 | _::l=>St.lay (st.new .tG).2 l
def qo (T:TT) (t:TypeId) (nm:Nat) (st:St):cl (AV×Fx):=do
 let i <- ti T t
 match <- st.get nm with
 | .tG=>match st.ro.ble nm with
  | true=> .ok (.mp nm 0,⟨[nm],.wrote nm (.cells t i.zero)⟩)
  | false=> .error "hatch: not ours"
 | _=> .error "hatch: no egg"
def mG (e:Nat->Option Nat) (o:Oper):Option (TypeId×Nat):=
 match o.dst with
 | none=>none
 | some d=>match e d with
  | none=>none
  | some nm=>match o.op with
   | .alloc t=>some (t,nm)
   | _=>none
def dZ (X:Cx) (e:Nat->Option Nat) (all:List Oper) (fr:Fr) (st:St) (o:Oper):cl (AV×Fx):=
 match wanted all fr o.guard with
 | true=>match mG e o with
  | some (t,nm)=>qo X.T t nm st
  | none=>do az X.C st (<- dG X.T X.prim X.imm X.G fr o.op)
 | false=> .ok (undef,⟨[],.kept⟩)
def cw (X:Cx) (e:Nat->Option Nat) (all:List Oper):(j:Nat)->(seen:List (Nat×Fx))->List Oper->Fr->St->cl (Fr×St)
 | _,_,[],fr,st=> .ok (fr,st)
 | j,seen,o::l,fr,st=>do
  let (v,x) <- dZ X e all fr st o
  match !quiet x with
  | false=>cw X e all (j+1) seen l (fr.put o.dst v) (x.did.app st)
  | true=>match la all j x seen with
   | true=>cw X e all (j+1) ((j,x)::seen) l (fr.put o.dst v) (x.did.app st)
   | false=> .error "an order that Go leaves open"
def iter (body:Fr->St->cl (Ex×Fr×St)):Nat->Fr->St->cl (Ex×Fr×St)
 | 0,_,_=> .error "out of fuel"
 | n+1,fr,st=>do
  match <- body fr st with
  | (.normal,fr,st)=>iter body n fr st
  | r=>pure r
def pb (n:Nat):List Nat->Bool
 | []=>false
 | m::l=>n.beq m||pb n l
def dedup:List Nat->List Nat
 | []=>[]
 | i::l=>match pb i l with
  | true=>dedup l
  | false=>i::dedup l
def EP (ws:List Nat):List Nat->List Nat
 | []=>[]
 | i::l=>match pb i ws with
  | true=>EP ws l
  | false=>i::EP ws l
def vV:Operand->List Nat
 | .tmp t=>[t]
 | _=>[]
def zk:List Operand->List Nat
 | []=>[]
 | x::l=>vV x++zk l
def zi (all:List Oper):List Oper->List Nat
 | []=>[]
 | o::l=>zk o.op.operands.toList++zi all l
def bZ:List Oper->List Nat
 | []=>[]
 | o::l=>match o.dst with
  | some d=>d::bZ l
  | none=>bZ l
def qF:Code->List Nat
 | .region _ ops _=>zi ops.toList ops.toList
 | .seq a b=>qF a++qF b
 | .cond c a b=>vV c++(qF a++qF b)
 | .block _ c=>qF c
 | .loop c=>qF c
 | .scope c=>qF c
 | .rangeFunc g _ a c=>vV g++(qF a++qF c)
 | _=>[]
def writes:Code->List Nat
 | .region _ ops _=>bZ ops.toList
 | .seq a b=>writes a++writes b
 | .cond _ a b=>writes a++writes b
 | .block _ c=>writes c
 | .loop c=>writes c
 | .scope c=>writes c
 | _=>[]
def lK (ps:List Nat) (a c:Code):List Nat:=dedup (EP (ps++(writes a++writes c)) (qF a++qF c))
def lF:List Nat->List AV->Tr AV->Tr AV
 | i::l,v::vs,t=>lF l vs (t.put i v)
 | _,_,t=>t
def gG (fr:Fr):List Nat->List AV
 | []=>[]
 | i::l=>fr.get i::gG fr l
def CD (n:Nat) (us:List Nat) (vs:List AV):Fr:=⟨n,lF us vs .leaf,true⟩
def fE:List Oper->Bool
 | []=>true
 | o::l=>match o.guard with
  | none=>fE l
  | some _=>false
def bQ:Code->Bool
 | .region _ ops _=>fE ops.toList
 | .seq a b=>bQ a&&bQ b
 | .cond _ a b=>bQ a&&bQ b
 | .block _ c=>bQ c
 | .loop c=>bQ c
 | .skip=>true
 | .label _=>true
 | .exit _=>true
 | .ret=>true
 | _=>false
def kI:List Nat->List AV->Fr->Fr
 | i::l,v::vs,fr=>kI l vs (fr.put (some i) v)
 | _,_,fr=>fr
def mu (k s0 b:Nat) (p:Ex) (st:St):cl St:=do
 match <- st.get k with
 | .loop imm ps a c fr s _=>match s.beq s0 with
  | true=> .ok (st.put k (.loop imm ps a c fr b p))
  | false=> .error "a round: out of turn"
 | _=> .error "a round: of what?"
def exec (X:Cx) (n:Nat):Code->Fr->St->cl (Ex×Fr×St)
 | .skip,fr,st=> .ok (.normal,fr,st)
 | .region _ ops draw,fr,st=>match draw&&X.imm 4000000 with
  | false=>do
   let (fr,st) <- cS X ops.toList draw 0 [] ops.toList fr st
   pure (.normal,fr,st)
  | true=>do
   let (fr,st) <- cw X (vo st.h (kU ops.toList)) ops.toList 0 [] ops.toList fr (st.lay (kU ops.toList))
   pure (.normal,fr,st)
 | .seq a b,fr,st=>do
  match <- exec X n a fr st with
  | (.normal,fr,st)=>exec X n b fr st
  | r=>pure r
 | .cond c a b,fr,st=>do
  match <- asBool (<- bD X.G fr c) with
  | true=>exec X n a fr st
  | false=>exec X n b fr st
 | .block id c,fr,st=>do
  match <- exec X n c fr st with
  | (.exit i,fr,st)=>match i.beq id with
   | true=>pure (.normal,fr,st)
   | false=>pure (.exit i,fr,st)
  | r=>pure r
 | .loop c,fr,st=>iter (exec X n c) n fr st
 | .exit id,fr,st=> .ok (.exit id,fr,st)
 | .label _,fr,st=> .ok (.normal,fr,st)
 | .ret,fr,st=> .ok (.ret,fr,st)
 | .scope c,fr,st=>exec X n c fr st
 | .rangeFunc g ps a c,fr,st=>match fr.strict with
  | true=> .error "a loop in a round"
  | false=>do
   match <- bD X.G fr g with
   | .fn (.func f) [] cap=>do
    let us:=lK ps.toList a c
    let (_,st1) <- X.C.wide f (.yld st.h::cap) (st.new (.loop X.imm ps.toList a c (CD fr.n us (gG fr us)) 0 .normal)).2
    match <- st1.get st.h with
    | .loop _ _ _ _ _ s p=>match s.beq 0||s.beq 2 with
     | true=>pure (p,fr,st1.put st.h .dead)
     | false=> .error "a loop: out of turn"
    | _=> .error "a loop: of what?"
   | _=> .error "a range over what?"
 | _,_,_=> .error "code"
def lL (X:Cx) (n k:Nat) (a c:Code) (fr:Fr) (st:St):cl (AV×St):=do
 match <- exec X n a fr st with
 | (.normal,d,st1)=>do
  let e <- mu k 0 1 .normal st1
  let (ex,_,b) <- exec X n c d e
  match ex with
  | .normal=>do pure (.bool true, <- mu k 1 0 .normal b)
  | ex=>do pure (.bool false, <- mu k 1 2 ex b)
 | _=> .error "a round: its beginning"
def pT:Nat->List AV->Tr AV->Tr AV
 | _,[],t=>t
 | i,v::l,t=>pT (i+1) l (t.put i v)
def nW (n:Nat) (args:List AV):Fr:=⟨n,pT 0 args .leaf,false⟩
def gR (T:TT) (fr:Fr) (st:St):ResultVar->cl AV
 | .tmp t=> .ok (fr.get t)
 | .cell a t=>do
  match <- iT (<- ti T t) (fr.get a) with
  | .val v=>pure v
  | .obj id f=>do
   let (v,_) <- f (<- st.get id)
   pure v
  | _=> .error "result"
def fo (T:TT) (fr:Fr) (st:St):List ResultVar->cl (List AV)
 | []=> .ok []
 | r::l=>do pure ((<- gR T fr st r)::(<- fo T fr st l))
def oneOf:List AV->AV
 | [v]=>v
 | vs=> .tup vs
def body (X:Cx) (n:Nat) (fn:Func) (args:List AV) (st:St):cl (AV×St):=
 match fn.body with
 | none=> .error ("no body: " ++fn.name)
 | some c=>
  match args.length.ble fn.ntmps with
  | false=> .error "too many arguments"
  | true=>do
   match <- exec X n c (nW fn.ntmps args) st with
   | (.normal,fr,st) | (.ret,fr,st)=>do
    pure (oneOf (<- fo X.T fr st fn.results.toList),st)
   | _=> .error "exit out of a body"
structure Env where
 T:TT
 F:FuncId->Option Func
 prim:FuncId->Option Prim
 full:FuncId->Bool
 isLook:FuncId->Bool
 imm:FuncId->TypeId->Bool
 G:Nat->Option (List AV)
 memo:FuncId->List (List AV×AV)
 rule:FuncId->Option (List AV->Option AV):=fun _=>none
 wrule:FuncId->Option (List AV->St->cl (AV×St)):=fun _=>none
def nQ (args:List AV):List (List AV×AV)->Option AV
 | []=>none
 | (a,v)::l=>match dJ (eV 1000) a args with
  | true=>some v
  | false=>nQ args l
def Env.known (E:Env) (f:FuncId) (args:List AV):Option AV:=
 match E.rule f with
 | some r=>r args
 | none=>nQ args (E.memo f)
def caller (E:Env):Nat->cp
 | 0=>⟨E.full,fun _ _=> .error "out of fuel",fun _ _ _=> .error "out of fuel",E.isLook,fun _ _ _=> .error "out of fuel",fun _ _ _=> .error "out of fuel"⟩
 | n+1=>⟨E.full,
  fun f args=>
   match E.known f args with
   | some v=> .ok v
   | none=>match E.F f with
    | none=> .error "no such function"
    | some fn=>do
     let (v,s) <- body ⟨E.T,E.prim,E.imm f,E.G,caller E n⟩ n fn args St.empty
     let v <- freeze s 0 100 v
     match bare v with
     | true=>pure v
     | false=> .error "call: what it hands back",
  fun f args st=>
   match E.F f with
   | none=>match E.wrule f with
    | some r=>r args st
    | none=> .error "no such function"
   | some fn=>do
    let (v,s) <- body ⟨E.T,E.prim,E.imm f,E.G,caller E n⟩ n fn args st
    pure (v,s),
  E.isLook,
  fun f args st=>
   match E.F f with
   | none=> .error "no such function"
   | some fn=>do
    let (v,s) <- body ⟨E.T,E.prim,E.imm f,E.G,caller E n⟩ n fn args ⟨st.h,st.h,st.objs⟩
    let v <- freeze s st.h 100 v
    match bare v with
    | true=>pure v
    | false=> .error "look: what it hands back",
  fun k args st=>do
   match <- st.get k with
   | .loop imm ps a c fr s _=>match (s.beq 0&&st.ro.ble k)&&(args.length.beq ps.length&&(bQ a&&bQ c)) with
    | true=>lL ⟨E.T,E.prim,imm,E.G,caller E n⟩ n k a c (kI ps args fr) st
    | false=> .error "a round: out of turn"
   | _=> .error "a round: of what?"⟩
end Go.VM
