/-
  (A part of the proof: Vm.)
-/
import Derived.Test.YtgecmbapkplklaaGreatDoorVmAA
import GoSem.Step
set_option linter.unusedSimpArgs false
namespace Go.VM
inductive Perm where
 | shut
 | wide
 | own (name:Nat)
 deriving DecidableEq,Repr,Inhabited
inductive AV where
 | bool (b:Bool)
 | int (k:IntKind) (n:Int)
 | str (s:List UInt8)
 | flt (k:FloatKind) (bits:Nat)
 | nilp
 | ip (cells:List AV)
 | mp (id off:Nat)
 | ay
 | sl (sz:Nat) (elems:List AV) (perm:Perm)
 | ms (id off sz len cap:Nat)
 | nilm
 | mm (id:Nat)
 | im (entries:List (AV×AV))
 | fn (f:Fn) (first captured:List AV)
 | nilfn
 | iface (t:TypeId) (v:AV)
 | nili
 | agg (cs:List AV)
 | tup (vs:List AV)
 | gs (k z n:Nat)
 | gp (k n off:Nat)
 | es
 | opq (i:Bool)
 | yld (k:Nat)
 deriving Inhabited
def undef:AV:= .tup []
inductive Tr (α:Type) where
 | leaf
 | node (v:Option α) (l r:Tr α)
 deriving Inhabited
namespace Tr
variable {α:Type}
def get:Tr α->Nat->Option α
 | .leaf,_=>none
 | .node v l r,n=>match n.beq 0 with
  | true=>v
  | false=>match (n % 2).beq 1 with
   | true=>l.get (n / 2)
   | false=>r.get (n / 2 - 1)
def set:(fuel:Nat)->Tr α->Nat->α->Tr α
 | 0,t,_,_=>t
 | f+1,t,n,x=>
  let (v,l,r):=match t with | .leaf=>(none,.leaf,.leaf) | .node v l r=>(v,l,r)
  match n.beq 0 with
  | true=> .node (some x) l r
  | false=>match (n % 2).beq 1 with
   | true=> .node v (set f l (n / 2) x) r
   | false=> .node v l (set f r (n / 2 - 1) x)
def put (t:Tr α) (n:Nat) (x:α):Tr α:=set (n+1) t n x
end Tr
structure Fr where
 n:Nat
 t:Tr AV
 strict:Bool
 deriving Inhabited
def Fr.get (f:Fr) (i:Nat):AV:=(f.t.get i).getD undef
def Fr.put (f:Fr) (d:Option Tmp) (v:AV):Fr:=
 match d with
 | none=>f
 | some d=>match d.blt f.n with
  | true=>{f with t:=f.t.put d v}
  | false=>f
inductive Ex where
 | normal | exit (id:Nat) | ret
 deriving DecidableEq,Repr,Inhabited
inductive Obj where
 | cells (t:TypeId) (cs:List AV)
 | tok (n:Nat) (e:TypeId)
 | map (es:List (AV×AV))
 | sit (s:List UInt8) (pos:Nat)
 | dead
 | grow (n:Nat) (e:TypeId) (z:Nat) (es:List AV)
 | yZ
 | row (n:Nat) (e:TypeId) (z:Nat) (cs:List AV)
 | loop (imm:TypeId->Bool) (ps:List Tmp) (first body:Code) (fr:Fr) (s:Nat) (p:Ex)
 deriving Inhabited
structure St where
 h:Nat
 ro:Nat
 objs:Tr Obj
 deriving Inhabited
def St.empty:St:=⟨0,0,.leaf⟩
abbrev db (α:Type):=Except String α
def St.get (s:St) (i:Nat):db Obj:=
 match i.blt s.h with
 | true=>match s.objs.get i with | some o=> .ok o | none=> .error "no object"
 | false=> .error "no such name"
def St.put (s:St) (i:Nat) (o:Obj):St:={s with objs:=s.objs.put i o}
def St.new (s:St) (o:Obj):Nat×St:=(s.h,⟨s.h+1,s.ro,s.objs.put s.h o⟩)
inductive U where
 | bool | int (k:IntKind) | str | flt (k:FloatKind)
 | ptr (e:TypeId) | slice (e:TypeId) | arr (n:Nat) (e:TypeId) | map (k e:TypeId)
 | struct (fs:List (Nat×TypeId))
 | func | iface (bare:Bool) | uptr | other
 deriving Inhabited
structure TI where
 und:U
 size:Nat
 bytes:Nat
 zero:List AV
 agg:Bool
 cmp:Bool
 deriving Inhabited
abbrev TT:=Tr TI
def ti (T:TT) (t:TypeId):db TI:=match T.get t with | some i=> .ok i | none=> .error "no such type"
def AV.cells:AV->List AV
 | .agg cs=>cs
 | v=>[v]
def one:AV->Bool
 | .agg _=>false
 | .tup _=>false
 | _=>true
def fw:List AV->Bool
 | []=>true
 | v::l=>one v&&fw l
def strip:AV->AV
 | .sl z e (.own _)=> .sl z e .wide
 | v=>v
def bare:AV->Bool
 | .mp .. =>false
 | .gs .. =>false
 | .gp .. =>false
 | .yld _=>false
 | .mm _=>false
 | .ms .. =>false
 | .sl _ _ (.own _)=>false
 | .fn _ f c=>bareAll f&&bareAll c
 | .iface _ v=>bare v
 | .agg cs=>bareAll cs
 | .tup vs=>bareAll vs
 | .im es=>pJ es
 | _=>true
 where
 bareAll:List AV->Bool
  | []=>true
  | v::l=>bare v&&bareAll l
 pJ:List (AV×AV)->Bool
  | []=>true
  | (k,v)::l=>bare k&&bare v&&pJ l
def bL:List AV->Bool:=bare.bareAll
def fit (v:AV):db AV:=
 let v:=match v with
  | .agg cs=> .agg (cs.map strip)
  | v=>strip v
 match bare v with
 | true=> .ok v
 | false=> .error "a name within what never changes"
def fits:List AV->db (List AV)
 | []=> .ok []
 | v::l=>do let v <- fit v;let l <- fits l;pure (v::l)
def cR (size:Nat) (agg:Bool) (cells:List AV):db AV:=
 match agg with
 | true=>match size.ble cells.length with
  | true=> .ok (.agg (cells.take size))
  | false=> .error "too few cells"
 | false=>match cells with
  | v:: _=> .ok v
  | []=> .error "no cell"
inductive dG where
 | val (v:AV)
 | obj (id:Nat) (f:Obj->db (AV×Option Obj))
 | both (id:Nat) (k:Obj->db (Option Nat)) (f:Obj->Option Obj->db AV)
 | new (o:Obj) (f:Nat->AV)
 | call (f:FuncId) (args:List AV)
 | yield (k:Nat) (args:List AV)
def iN (id:Nat) (f:Obj->db AV):dG:= .obj id fun o=>do pure (<- f o,none)
def cellsOf:Obj->db (List AV)
 | .cells _ cs=> .ok cs
 | _=> .error "no cells"
def mI:Obj->db (TypeId×List AV)
 | .cells t cs=> .ok (t,cs)
 | _=> .error "no cells"
def ma (i:TI) (a:AV):db dG:=
 match a with
 | .ip cells=>do pure (.val (<- cR i.size i.agg cells))
 | .mp id off=> .ok (iN id fun o=>do cR i.size i.agg ((<- cellsOf o).drop off))
 | .gp k n off=> .ok (iN k fun o=>match o with
  | .row m _ _ cs=>match n.beq m with
   | true=>cR i.size i.agg (cs.drop off)
   | false=> .error "load: an elder slice"
  | _=> .error "load: no slice that may be written")
 | _=> .error "load: no address"
def cJ (cs:List AV) (off:Nat) (new:List AV):List AV:=cs.take off++new++cs.drop (off+new.length)
def vj (i:TI) (a v:AV):db dG:=
 match a with
 | .mp id off=>
  match v.cells.length.beq i.size&&fw v.cells with
  | true=> .ok (.obj id fun o=>do
   let (t,cs) <- mI o
   match (off+v.cells.length).ble cs.length with
   | true=>pure (undef,some (.cells t (cJ cs off v.cells)))
   | false=> .error "store: outside")
  | false=> .error "store: sizes"
 | _=> .error "store: no address that may be written"
def Kf (imm:Bool) (t:TypeId) (i:TI) (v:AV):db dG:=
 match v.cells.length.beq i.size&&fw v.cells with
 | false=> .error "box: sizes"
 | true=>match imm with
  | true=>do pure (.val (.ip (<- fits v.cells)))
  | false=> .ok (.new (.cells t v.cells) fun n=> .mp n 0)
def zeroV (i:TI):AV:=match i.agg,i.zero with
 | false,[v]=>v
 | _,z=> .agg z
def fieldAddr (T:TT) (t:TypeId) (a:AV) (f:Nat):db AV:=do
 match (<- ti T t).und with
 | .struct fs=>match fs[f]? with
  | some (off,b)=>
   match (<- ti T b).size with
   | 0=> .error "field of no size"
   | _+1=>match a with
    | .ip cells=>pure (.ip (cells.drop off))
    | .mp id o=>pure (.mp id (o+off))
    | .gp k n o=>pure (.gp k n (o+off))
    | _=> .error "fieldAddr: no address"
  | none=> .error "no such field"
 | _=> .error "fieldAddr: no struct"
def field (T:TT) (t:TypeId) (x:AV) (f:Nat):db AV:=do
 match (<- ti T t).und,x with
 | .struct fs,.agg cs=>match fs[f]? with
  | some (off,a)=>do
   let i <- ti T a
   cR i.size i.agg (cs.drop off)
  | none=> .error "no such field"
 | _,_=> .error "field: no struct"
def asInt:AV->db Int
 | .int _ n=> .ok n
 | _=> .error "int expected"
def asBool:AV->db Bool
 | .bool b=> .ok b
 | _=> .error "bool expected"
def inside (i:Int) (n:Nat):db Nat:=
 match i with
 | .ofNat k=>match k.blt n with
  | true=> .ok k
  | false=> .error "index out of range"
 | _=> .error "index below 0"
def upto (i:Int) (n:Nat):db Nat:=
 match i with
 | .ofNat k=>match k.ble n with
  | true=> .ok k
  | false=> .error "bound out of range"
 | _=> .error "bound below 0"
def eZ:List AV->Nat->db AV
 | [],_=> .error "nth"
 | v:: _,0=> .ok v
 | _::l,n+1=>eZ l n
def group (sz:Nat) (agg:Bool):(n:Nat)->List AV->db (List AV)
 | 0,_=> .ok []
 | n+1,cs=>do
  let v <- cR sz agg cs
  let l <- group sz agg n (cs.drop sz)
  pure (v::l)
def flat:List AV->List AV
 | []=>[]
 | v::l=>v.cells++flat l
def indexAddr (T:TT) (t:TypeId) (x i:AV):db AV:=do
 let n <- asInt i
 match (<- ti T t).und,x with
 | .slice e,.sl sz elems _=>do
  let k <- inside n elems.length
  match sz.beq (<- ti T e).size with
  | true=>do pure (.ip (<- eZ elems k).cells)
  | false=> .error "indexAddr: size"
 | .slice e,.ms id off sz len _=>do
  let k <- inside n len
  match sz.beq (<- ti T e).size with
  | true=>pure (.mp id (off+k * sz))
  | false=> .error "indexAddr: size"
 | .arr len e,.mp id off=>do
  let k <- inside n len
  pure (.mp id (off+k * (<- ti T e).size))
 | .arr len e,.ip cells=>do
  let k <- inside n len
  pure (.ip (cells.drop (k * (<- ti T e).size)))
 | .arr len e,.gp id m off=>do
  let k <- inside n len
  pure (.gp id m (off+k * (<- ti T e).size))
 | _,_=> .error "indexAddr: what?"
def zw (T:TT) (t:TypeId) (x i:AV):db AV:=do
 let n <- asInt i
 match (<- ti T t).und,x with
 | .str,.str s=>do
  let k <- inside n s.length
  match s[k]? with
  | some b=>pure (.int .u8 b.toNat)
  | none=> .error "index: string"
 | .arr len e,.agg cs=>do
  let k <- inside n len
  let i <- ti T e
  cR i.size i.agg (cs.drop (k * i.size))
 | _,_=> .error "index: what?"
def kV:Option AV->db (Option Int)
 | none=> .ok none
 | some v=>do pure (some (<- asInt v))
def kZ (hi:Option Int) (m dflt:Nat):db Nat:=match hi with | some h=>upto h m | none=> .ok dflt
def rz (lo:Option Int) (h:Nat):db Nat:=match lo with | some l=>upto l h | none=> .ok 0
def qN (m off:Nat) (cs:List AV):Obj->db (AV×Option Obj)
 | .row n e z old=>match n.beq m&&(off+cs.length).ble old.length with
  | true=> .ok (undef,some (.row n e z (cJ old off cs)))
  | false=> .error "store: an elder slice"
 | _=> .error "store: nothing is open"
def jw (i:TI) (k m off:Nat) (v:AV):db dG:=
 match v.cells.length.beq i.size&&fw v.cells with
 | true=>do
  let cs:=v.cells
  let v <- fit v
  pure (.obj k fun o=>match o with
   | .grow n e z es=>match (n.beq m&&n.beq (es.length+1))&&(off.beq (es.length * z)&&z.beq i.size) with
    | true=> .ok (undef,some (.grow n e z (es++[v])))
    | false=> .error "store: not the last one"
   | o=>qN m off cs o)
 | false=> .error "store: sizes"
def kN (T:TT) (t:TypeId) (k z n:Nat) (i:AV):db dG:=do
 let j <- asInt i
 let j <- inside j n
 match (<- ti T t).und with
 | .slice e=>match z.beq (<- ti T e).size with
  | true=> .ok (iN k fun o=>match o with
   | .grow m _ z' es=>match n.beq m&&z'.beq z with
    | true=>match j.blt es.length with
     | true=>do pure (.ip (<- eZ es j).cells)
     | false=> .ok (.gp k n (j * z))
    | false=> .error "indexAddr: an elder slice"
   | .row m _ z' _=>match n.beq m&&z'.beq z with
    | true=> .ok (.gp k n (j * z))
    | false=> .error "indexAddr: an elder slice"
   | _=> .error "indexAddr: no slice")
  | false=> .error "indexAddr: size"
 | _=> .error "indexAddr: what?"
def mj (T:TT) (t:TypeId) (x:AV) (lo hi mx:Option AV):db AV:=do
 let lo <- kV lo
 let hi <- kV hi
 let mx <- kV mx
 match (<- ti T t).und,x,mx with
 | .str,.str s,none=>do
  let h <- kZ hi s.length s.length
  let l <- rz lo h
  pure (.str ((s.take h).drop l))
 | .slice e,.ay,mx=>do
  let _ <- ti T e
  let m <- kZ mx 0 0
  let h <- kZ hi m 0
  let _ <- rz lo h
  pure .ay
 | .slice e,.es,mx=>do
  let _ <- ti T e
  let m <- kZ mx 0 0
  let h <- kZ hi m 0
  let _ <- rz lo h
  pure .es
 | .slice e,.ms id off sz len cap,mx=>do
  match sz.beq (<- ti T e).size with
  | false=> .error "slice: size"
  | true=>do
   let m <- kZ mx cap cap
   let h <- kZ hi m len
   let l <- rz lo h
   match h.ble m with
   | true=>pure (.ms id (off+l * sz) sz (h - l) (m - l))
   | false=> .error "slice: bounds"
 | .slice e,.sl sz es p,none=>do
  match sz.beq (<- ti T e).size with
  | false=> .error "slice: size"
  | true=>do
   let h <- kZ hi es.length es.length
   let l <- rz lo h
   match h.beq es.length,p with
   | true,.shut=>pure (.sl sz (es.drop l) .shut)
   | true,.own k=>match l.beq 0 with
    | true=>pure (.sl sz es (.own k))
    | false=>pure (.sl sz (es.drop l) .wide)
   | _,_=>pure (.sl sz ((es.take h).drop l) .wide)
 | .slice e,.sl sz es _,some m=>do
  match sz.beq (<- ti T e).size with
  | false=> .error "slice: size"
  | true=>do
   let m <- upto m es.length
   let h <- kZ hi m m
   let l <- rz lo h
   pure (.sl sz ((es.take h).drop l) (match m.beq h with | true=> .shut | false=> .wide))
 | _,_,_=> .error "slice: what?"
def eqFields (T:TT) (g:TypeId->AV->AV->db Bool) (xs ys:List AV):List (Nat×TypeId)->db Bool
 | []=> .ok true
 | (off,t)::l=>do
  let i <- ti T t
  let a <- cR i.size i.agg (xs.drop off)
  let b <- cR i.size i.agg (ys.drop off)
  match <- g t a b with
  | true=>eqFields T g xs ys l
  | false=> .ok false
def GD (T:TT):(fuel:Nat)->TypeId->AV->AV->db Bool
 | 0,_,_,_=> .error "==: too deep"
 | f+1,t,x,y=>do
  let i <- ti T t
  match i.und,x,y with
  | .bool,.bool a,.bool b=> .ok (a==b)
  | .int _,.int j a,.int k b=>if j=k then .ok (a==b) else .error "==: kinds"
  | .str,.str a,.str b=> .ok (a==b)
  | .ptr _,.nilp,.nilp=> .ok true
  | .ptr _,.nilp,.ip _=> .ok false
  | .ptr _,.ip _,.nilp=> .ok false
  | .ptr _,.nilp,.mp .. => .ok false
  | .ptr _,.mp ..,.nilp=> .ok false
  | .slice _,.ay,.ay=> .ok true
  | .slice _,.ay,.sl .. => .ok false
  | .slice _,.sl ..,.ay=> .ok false
  | .slice _,.ay,.ms .. => .ok false
  | .slice _,.ms ..,.ay=> .ok false
  | .slice _,.ay,.es=> .ok false
  | .slice _,.es,.ay=> .ok false
  | .map ..,.nilm,.nilm=> .ok true
  | .map ..,.nilm,.mm _=> .ok false
  | .map ..,.mm _,.nilm=> .ok false
  | .func,.nilfn,.nilfn=> .ok true
  | .func,.nilfn,.fn .. => .ok false
  | .func,.fn ..,.nilfn=> .ok false
  | .struct fs,.agg xs,.agg ys=>match i.cmp with
   | true=>eqFields T (GD T f) xs ys fs
   | false=> .error "==: a struct"
  | _,_,_=> .error "==: what?"
def rR:AV->AV->db Bool
 | .bool a,.bool b=> .ok (a==b)
 | .int j a,.int k b=>if j=k then .ok (a==b) else .error "key: kinds"
 | .str a,.str b=> .ok (a==b)
 | _,_=> .error "key: what?"
def Dw (op:BinOp) (k:IntKind) (a b:Int):db AV:=
 match op with
 | .add=> .ok (.int k (k.wrap (a+b)))
 | .sub=> .ok (.int k (k.wrap (a - b)))
 | .mul=> .ok (.int k (k.wrap (a * b)))
 | .quo=>if b=0 then .error "division by zero" else .ok (.int k (k.wrap (a.tdiv b)))
 | .rem=>if b=0 then .error "division by zero" else .ok (.int k (a.tmod b))
 | .and=> .ok (.int k (k.wrap ((BitVec.ofInt k.bits a)&&& (BitVec.ofInt k.bits b)).toNat))
 | .or=> .ok (.int k (k.wrap ((BitVec.ofInt k.bits a)||| (BitVec.ofInt k.bits b)).toNat))
 | .xor=> .ok (.int k (k.wrap ((BitVec.ofInt k.bits a) ^^^ (BitVec.ofInt k.bits b)).toNat))
 | .andNot=> .ok (.int k (k.wrap ((BitVec.ofInt k.bits a)&&& ~~~(BitVec.ofInt k.bits b)).toNat))
 | .eql=> .ok (.bool (a==b))
 | .neq=> .ok (.bool (a != b))
 | .lss=> .ok (.bool (a < b))
 | .leq=> .ok (.bool (a<=b))
 | .gtr=> .ok (.bool (a > b))
 | .geq=> .ok (.bool (a>=b))
 | _=> .error "intOp"
def HA (op:BinOp) (x y:List UInt8):db AV:=
 match op with
 | .add=>match (x.length+y.length).ble 9223372036854775807 with
  | true=> .ok (.str (x++y))
  | false=> .error "string too long"
 | .eql=> .ok (.bool (x==y))
 | .neq=> .ok (.bool !(x==y))
 | .lss=> .ok (.bool (Op.bytesLess x y))
 | .leq=> .ok (.bool (Op.bytesLess x y||x==y))
 | .gtr=> .ok (.bool !(Op.bytesLess x y||x==y))
 | .geq=> .ok (.bool !(Op.bytesLess x y))
 | _=> .error "strOp"
def binOp (T:TT) (op:BinOp) (t:TypeId) (x y:AV):db AV:=
 match op,x,y with
 | .shl,.int k a,.int _ b=>if b < 0 then .error "shift" else .ok (.int k (k.wrap (a * 2 ^ (min b.toNat k.bits))))
 | .shr,.int k a,.int _ b=>if b < 0 then .error "shift" else .ok (.int k (a.fdiv (2 ^ (min b.toNat k.bits))))
 | op,.int k a,.int c b=>if k=c then Dw op k a b else .error "binOp: kinds"
 | op,.str a,.str b=>HA op a b
 | .eql,x,y=>do pure (.bool (<- GD T 20 t x y))
 | .neq,x,y=>do pure (.bool !(<- GD T 20 t x y))
 | _,_,_=> .error "binOp"
def Pw (a:Operand) (b:AV):Bool:=
 match a with
 | .const _=>match b with | .nili=>true | _=>false
 | _=>false
def Lb (T:TT) (t:TypeId):Bool:=
 match T.get t with
 | some i=>match i.und with | .iface _=>true | _=>false
 | none=>false
def L9 (op:BinOp) (a:AV):Option AV:=
 match op,a with
 | .eql,.nili=>some (.bool true)
 | .eql,.iface .. =>some (.bool false)
 | .neq,.nili=>some (.bool false)
 | .neq,.iface .. =>some (.bool true)
 | _,_=>none
def yf (T:TT) (op:BinOp) (t:TypeId) (c:Operand) (a b:AV):db AV:=
 match Pw c b&&Lb T t with
 | true=>match L9 op a with | some v=> .ok v | none=> .error "binOp: nil"
 | false=>binOp T op t a b
def unOp (op:UnOp) (x:AV):db AV:=
 match op,x with
 | .neg,.int k n=> .ok (.int k (k.wrap (0 - n)))
 | .not,.bool b=> .ok (.bool !b)
 | .xor,.int k n=> .ok (.int k (k.wrap ((BitVec.ofInt k.bits (if k.signed then -1 else k.max)) ^^^ (BitVec.ofInt k.bits n)).toNat))
 | _,_=> .error "unOp"
def bytesOf:List AV->db (List UInt8)
 | []=> .ok []
 | .int .u8 n::l=>do pure (UInt8.ofNat n.toNat::(<- bytesOf l))
 | _:: _=> .error "bytes expected"
def ofBytes (s:List UInt8):List AV:=s.map fun b=> .int .u8 b.toNat
def isByte:U->Bool
 | .int .u8=>true
 | _=>false
def tm (T:TT) (src dst:TypeId) (x:AV):db dG:=do
 match (<- ti T src).und,(<- ti T dst).und,x with
 | _,.int k,.int _ n=>pure (.val (.int k (k.wrap n)))
 | _,.str,.str s=>pure (.val (.str s))
 | .slice e,.str,x=>do
  match isByte (<- ti T e).und with
  | false=> .error "convert: no bytes"
  | true=>match x with
   | .ay=>pure (.val (.str []))
   | .sl _ es _=>do pure (.val (.str (<- bytesOf es)))
   | .ms id off _ len _=>pure (iN id fun o=>do
    let cs:=(<- cellsOf o).drop off
    match len.ble cs.length with
    | true=>do pure (.str (<- bytesOf (cs.take len)))
    | false=> .error "convert: length")
   | _=> .error "convert: what?"
 | .str,.slice e,.str s=>do
  match isByte (<- ti T e).und with
  | false=> .error "convert: no bytes"
  | true=>pure (.val (.sl 1 (ofBytes s) .wide))
 | _,_,_=> .error "convert"
def oP:AV->Option (List AV)
 | .ay=>some []
 | .sl _ e _=>some e
 | .str s=>some (ofBytes s)
 | .es=>some []
 | _=>none
def dp (n:Nat) (i:TI):Bool:=(n * i.bytes).ble 70368744177664&&(Nat.ble 1 i.size&&n.ble 70368744177664)
def iO (i:TI) (e:TypeId) (s:AV) (new:List AV):db dG:=do
 match new with
 | []=>match s with
  | .ay=>pure (.val .ay)
  | .sl z es p=>pure (.val (.sl z es p))
  | .es=>pure (.val .es)
  | _=> .error "append: no slice"
 | _:: _=>do
  let new <- fits new
  match new.all (fun v=>v.cells.length.beq i.size) with
  | false=> .error "append: sizes"
  | true=>match s with
   | .ay=>match dp new.length i with
    | true=>pure (.new (.tok new.length e) fun k=> .sl i.size new (.own k))
    | false=> .error "append: too long"
   | .sl z es p=>match dp (es.length+new.length) i&&z.beq i.size with
    | false=> .error "append: too long"
    | true=>match p with
     | .shut=>pure (.new (.tok (es.length+new.length) e) fun k=> .sl z (es++new) (.own k))
     | .own k=>pure (.obj k fun o=>match o with
      | .tok n a=>match n.beq es.length&&a.beq e with
       | true=>pure (.sl z (es++new) (.own k),some (.tok (es.length+new.length) e))
       | false=> .error "append: not at the end"
      | _=> .error "append: no right to")
     | .wide=> .error "append: to what may have room"
   | .es=>match dp new.length i with
    | true=>pure (.new (.tok new.length e) fun k=> .sl i.size new (.own k))
    | false=> .error "append: too long"
   | _=> .error "append: no slice"
def zK (T:TT) (t:TypeId) (x:AV):db dG:=do
 match (<- ti T t).und,x with
 | .arr n _,_=>pure (.val (.int .i64 n))
 | .str,.str s=>pure (.val (.int .i64 s.length))
 | .slice _,.ay=>pure (.val (.int .i64 0))
 | .slice _,.sl _ e _=>pure (.val (.int .i64 e.length))
 | .slice _,.ms _ _ _ len _=>pure (.val (.int .i64 len))
 | .slice _,.gs _ _ n=>pure (.val (.int .i64 n))
 | .slice _,.es=>pure (.val (.int .i64 0))
 | .map ..,.nilm=>pure (.val (.int .i64 0))
 | .map ..,.im es=>pure (.val (.int .i64 es.length))
 | .map ..,.mm i=>pure (iN i fun o=>match o with
  | .map es=> .ok (.int .i64 es.length)
  | _=> .error "len: no map")
 | _,_=> .error "len: what?"
def min2 (lower:Bool):AV->AV->db AV
 | .int k x,.int _ y=> .ok (.int k (match lower with | true=>if y < x then y else x | false=>if y > x then y else x))
 | _,_=> .error "min, max"
def uZ (lower:Bool):AV->List AV->db AV
 | x,[]=> .ok x
 | x,y::l=>do uZ lower (<- min2 lower x y) l
def pk:U->AV->Bool
 | .str,.str _=>true
 | .int _,.int .. =>true
 | .bool,.bool _=>true
 | _,_=>false
def ig (k:AV):List (AV×AV)->db (Option AV)
 | []=> .ok none
 | (a,v)::l=>do
  match <- rR k a with
  | true=>pure (some v)
  | false=>ig k l
def pE (k v:AV):List (AV×AV)->db (List (AV×AV))
 | []=> .ok [(k,v)]
 | (a,u)::l=>do
  match <- rR k a with
  | true=>pure ((a,v)::l)
  | false=>do pure ((a,u)::(<- pE k v l))
def okV (ok b:Bool) (v:AV):AV:=match ok with | true=> .tup [v,.bool b] | false=>v
def found (i:TI) (ok:Bool) (k:AV) (es:List (AV×AV)):db AV:=do
 match <- ig k es with
 | some v=>pure (okV ok true v)
 | none=>pure (okV ok false (zeroV i))
def js (T:TT) (t:TypeId) (x k:AV) (ok:Bool):db dG:=do
 match (<- ti T t).und with
 | .map a e=>do
  let i <- ti T e
  match pk (<- ti T a).und k with
  | false=> .error "lookup: the key"
  | true=>match x with
   | .nilm=>do pure (.val (<- found i ok k []))
   | .im es=>do pure (.val (<- found i ok k es))
   | .mm m=>pure (iN m fun o=>match o with
    | .map es=>found i ok k es
    | _=> .error "lookup: no map")
   | _=> .error "lookup: no map"
 | _=> .error "lookup: no map type"
def oq (T:TT) (t:TypeId) (m k v:AV):db dG:=do
 match (<- ti T t).und with
 | .map a _=>do
  match m,pk (<- ti T a).und k with
  | .mm i,true=>pure (.obj i fun o=>match o with
   | .map es=>do pure (undef,some (.map (<- pE k v es)))
   | _=> .error "mapUpdate: no map")
  | _,_=> .error "mapUpdate"
 | _=> .error "mapUpdate: no map type"
def tX (s:List UInt8) (i:Nat):Nat×Nat:=Utf8.decode ⟨s.toArray⟩ i
def Ad (x:AV):db dG:=
 match x with
 | .mp id 0=> .ok (.obj id fun o=>match o with
  | .sit s pos=>
   match pos.blt s.length with
   | true=>
    let (c,w):=tX s pos
    .ok (.tup [.bool true,.int .i64 pos,.int .i32 c],some (.sit s (pos+w)))
   | false=> .ok (.tup [.bool false],none)
  | _=> .error "next: no iterator")
 | _=> .error "next"
def ofConst:Value->db AV
 | .bool b=> .ok (.bool b)
 | .int k n=> .ok (.int k n)
 | .float k b=> .ok (.flt k b)
 | .string s=> .ok (.str s.data.toList)
 | .pointer none=> .ok .nilp
 | .slice none 0 0=> .ok .ay
 | .map none=> .ok .nilm
 | .nilFunc=> .ok .nilfn
 | .nilIface=> .ok .nili
 | .agg cs=>do pure (.agg (<- ofAll cs.toList))
 | .tuple vs=>do pure (.tup (<- ofAll vs.toList))
 | _=> .error "a constant"
 where
 ofAll:List Value->db (List AV)
  | []=> .ok []
  | v::l=>do pure ((<- ofConst v)::(<- ofAll l))
def cj (G:Nat->Option (List AV)) (f:Fr):Operand->db AV
 | .tmp t=>match f.strict with
  | false=> .ok (f.get t)
  | true=>match f.t.get t with
   | some v=> .ok v
   | none=> .error "a slot that a round does not know"
 | .const v=>ofConst v
 | .global g=>match G g with
  | some cs=> .ok (.ip cs)
  | none=> .error "a variable of the program"
 | .func g=> .ok (.fn (.func g) [] [])
def mG (G:Nat->Option (List AV)) (f:Fr):List Operand->db (List AV)
 | []=> .ok []
 | x::l=>do pure ((<- cj G f x)::(<- mG G f l))
def dY (G:Nat->Option (List AV)) (f:Fr):Option Operand->db (Option AV)
 | none=> .ok none
 | some x=>do pure (some (<- cj G f x))
def gn (G:Nat->Option (List AV)) (f:Fr):List (Nat×Operand)->db (List (Nat×AV))
 | []=> .ok []
 | (i,x)::l=>do pure ((i, <- cj G f x)::(<- gn G f l))
def ld (place:Nat->Option (Nat×Nat)) (cells:List AV):List (Nat×AV)->db (List AV)
 | []=> .ok cells
 | (i,v)::l=>
  match place i with
  | none=> .error "build: no such part"
  | some (off,size)=>match v.cells.length.beq size&&(off+size).ble cells.length with
   | true=>ld place (cJ cells off v.cells) l
   | false=> .error "build: sizes"
def oF (T:TT):List (Nat×TypeId)->db (List (Nat×Nat))
 | []=> .ok []
 | (o,t)::l=>do pure ((o,(<- ti T t).size)::(<- oF T l))
def build (T:TT) (t:TypeId) (parts:List (Nat×AV)):db AV:=do
 let i <- ti T t
 match i.und with
 | .struct fs=>do
  let ps <- oF T fs
  pure (.agg (<- ld (fun k=>ps[k]?) i.zero parts))
 | .arr _ e=>do
  let z:=(<- ti T e).size
  pure (.agg (<- ld (fun k=>some (k * z,z)) i.zero parts))
 | _=> .error "build: what?"
def zeros (z:List AV):Nat->List AV
 | 0=>[]
 | n+1=>z++zeros z n
def oa (T:TT) (t:TypeId) (l c:AV):db dG:=do
 match (<- ti T t).und,l,c with
 | .slice e,.int _ (.ofNat l),.int _ (.ofNat c)=>do
  let i <- ti T e
  match l.ble c&&(c * i.size).ble 16777216&&(i.bytes * c).ble 281474976710656&&c.ble 9223372036854775807&&Nat.ble 1 i.size with
  | true=>match l.beq 0 with
   | true=>pure (.new (.tok 0 e) fun k=> .sl i.size [] (.own k))
   | false=>pure (.new (.cells e (zeros i.zero c)) fun k=> .ms k 0 i.size l c)
  | false=> .error "make: size"
 | _,_,_=> .error "make: what?"
def buildSlice (T:TT) (t:TypeId) (len:Nat) (parts:List (Nat×AV)):db AV:=do
 match (<- ti T t).und with
 | .slice e=>do
  let i <- ti T e
  match (len * i.size).ble 16777216&&Nat.ble 1 i.size with
  | true=>do
   let cs <- ld (fun k=>some (k * i.size,i.size)) (zeros i.zero len) parts
   match fw cs with
   | true=>pure (.sl i.size (<- fits (<- group i.size i.agg len cs)) .shut)
   | false=> .error "buildSlice: cells"
  | false=> .error "buildSlice: too long"
 | _=> .error "buildSlice: what?"
def fa:List AV->db (List UInt8)
 | []=> .ok []
 | .int .u8 n::l=>match n with
  | .ofNat k=>match k.blt 256 with
   | true=>do pure (UInt8.ofNat k::(<- fa l))
   | false=> .error "no byte"
  | .negSucc _=> .error "no byte"
 | _:: _=> .error "bytes expected"
inductive Prim where
 | same | count | indexByte | index
 | copyCheck (l:List (TypeId×Nat×Nat))
 | builderString (u8:TypeId)
 | lib (f:List AV->db AV)
def AH (sep:List UInt8):List UInt8->Nat->Option Nat
 | [],i=>if sep.isEmpty then some i else none
 | s@(_::l),i=>if sep.isPrefixOf s then some i else AH sep l (i+1)
def D6 (l:List (TypeId×Nat×Nat)) (t:TypeId) (n off:Nat):Bool:=
 match l with
 | []=>false
 | (a,b,c)::l=>(a.beq t&&b.beq n&&c.beq off&&t.blt 1000000)||D6 l t n off
def dI (c:Nat):List UInt8->Option Nat
 | []=>none
 | b::l=>match b.toNat.beq c with
  | true=>some 0
  | false=>match dI c l with
   | some i=>some (i+1)
   | none=>none
def fO (p:Prim) (args:List AV):db dG:=
 match p,args with
 | .same,[v]=> .ok (.val v)
 | .count,[.str s,.int .u8 c]=> .ok (.val (.int .i64 (s.countP fun b=>b.toNat.beq (c.toNat % 256))))
 | .indexByte,[.str s,.int .u8 c]=> .ok (.val (.int .i64 (match dI (c.toNat % 256) s with | some i=>(i:Int) | none=> -1)))
 | .index,[.str s,.str t]=> .ok (.val (.int .i64 (match AH t s 0 with | some i=>(i:Int) | none=> -1)))
 | .copyCheck l,[.mp id off]=> .ok (.obj id fun o=>do
   let (t,cs) <- mI o
   match (D6 l t cs.length off) with
   | false=> .error "copyCheck: where?"
   | true=>do
    match <- eZ cs off with
    | .nilp=>pure (.tup [],some (.cells t (cJ cs off [.mp id off])))
    | .mp id' a=>match id'.beq id&&a.beq off with
     | true=>pure (.tup [],none)
     | false=> .error "copyCheck"
    | _=> .error "copyCheck")
 | .builderString u8,[.mp id off]=> .ok (.both id
   (fun o=>do
    match <- eZ (<- cellsOf o) (off+1) with
    | .ay=>pure none
    | .sl 1 _ (.own k)=>pure (some k)
    | _=> .error "Builder.String")
   (fun o o'=>do
    match <- eZ (<- cellsOf o) (off+1),o' with
    | .ay,_=>pure (.str [])
    | .sl 1 e (.own _),some (.tok n ty)=>match ty.beq u8&&n.beq e.length&& !e.isEmpty&&n.blt 4611686018427387904 with
     | true=>do pure (.str (<- fa e))
     | false=> .error "Builder.String: bytes"
    | _,_=> .error "Builder.String"))
 | .lib f,args=>match f args with
  | .ok v=> .ok (.val v)
  | .error e=> .error e
 | _,_=> .error "a function that is not walked"
def lF (g:AV->db AV):List AV->db (List AV)
 | []=> .ok []
 | v::l=>do pure ((<- g v)::(<- lF g l))
def pN (g:AV->db AV):List (AV×AV)->db (List (AV×AV))
 | []=> .ok []
 | (k,v)::l=>do pure ((k,strip (<- g v))::(<- pN g l))
def freeze (st:St) (base:Nat):(fuel:Nat)->AV->db AV
 | 0,_=> .error "freeze: too deep"
 | f+1,v=>
  match v with
  | .mp id off=>match id.blt base with
   | true=> .ok v
   | false=>do
    match <- st.get id with
    | .cells _ cs=>do
     let cs <- lF (freeze st base f) (cs.drop off)
     pure (.ip (<- fits cs))
    | _=> .error "freeze: what?"
  | .mm id=>match id.blt base with
   | true=> .ok v
   | false=>do
    match <- st.get id with
    | .map es=>do
     let es <- pN (freeze st base f) es
     match bare.pJ es with
     | true=>pure (.im es)
     | false=> .error "freeze: a map"
    | _=> .error "freeze: what?"
  | .sl z e (.own k)=>match k.blt base with
   | true=> .ok v
   | false=> .ok (.sl z e .wide)
  | .agg cs=>do pure (.agg (<- lF (freeze st base f) cs))
  | .tup vs=>do pure (.tup (<- lF (freeze st base f) vs))
  | .iface t v=>do pure (.iface t (<- freeze st base f v))
  | .fn g a c=>do pure (.fn g (<- lF (freeze st base f) a) (<- lF (freeze st base f) c))
  | .ms id off z len cap=>match id.blt base with
   | true=> .ok v
   | false=>do
    match <- st.get id with
    | .cells _ cs=>do
     let cs <- lF (freeze st base f) ((cs.drop off).take (len * z))
     match fw cs with
     | true=>do
      let es <- fits (<- group z (Nat.ble 2 z) len cs)
      match cap.beq 0 with
      | true=>match len.beq 0 with
       | true=> .error "freeze: no array"
       | false=>pure (.sl z es .wide)
      | false=>pure (.sl z es (match cap.beq len with | true=> .shut | false=> .wide))
     | false=> .error "freeze: cells"
    | _=> .error "freeze: what?"
  | .gs k z n=>match k.blt base with
   | true=> .ok v
   | false=>do
    match <- st.get k with
    | .grow m _ z' es=>match (n.beq m&&n.beq es.length)&&z'.beq z with
     | true=> .ok (.sl z es .wide)
     | false=> .error "freeze: an elder slice"
    | _=> .error "freeze: what?"
  | v=> .ok v
def FH:U->Bool
 | .slice _=>true
 | .str=>true
 | _=>false
def mM:List UInt8->List UInt8->Bool
 | [],[]=>true
 | a::l,b::m=>match a.toNat.beq b.toNat with
  | true=>mM l m
  | false=>false
 | _,_=>false
def eX (g:AV->AV->Bool):List AV->List AV->Bool
 | [],[]=>true
 | a::l,b::m=>match g a b with
  | true=>eX g l m
  | false=>false
 | _,_=>false
def gE:(fuel:Nat)->AV->AV->Bool
 | 0,_,_=>false
 | f+1,a,b=>match a,b with
  | .bool a,.bool b=>a==b
  | .int j a,.int k b=>decide (j=k)&&decide (a=b)
  | .str a,.str b=>mM a b
  | .nilp,.nilp=>true
  | .ay,.ay=>true
  | .nilm,.nilm=>true
  | .nilfn,.nilfn=>true
  | .nili,.nili=>true
  | .es,.es=>true
  | .ip a,.ip b=>eX (gE f) a b
  | .mp a b,.mp c d=>a.beq c&&b.beq d
  | .mm a,.mm b=>a.beq b
  | .gs a b c,.gs a' b' g=>a.beq a'&&b.beq b'&&c.beq g
  | .gp a b c,.gp a' b' g=>a.beq a'&&b.beq b'&&c.beq g
  | .ms a b c d e,.ms a' b' g d' h=>a.beq a'&&b.beq b'&&c.beq g&&d.beq d'&&e.beq h
  | .sl z e p,.sl z' h i=>z.beq z'&&decide (p=i)&&eX (gE f) e h
  | .iface t a,.iface u b=>t.beq u&&gE f a b
  | .agg a,.agg b=>eX (gE f) a b
  | .tup a,.tup b=>eX (gE f) a b
  | _,_=>false
def oj (i:TI) (e:TypeId) (s:AV) (c:Nat) (new:List AV):db dG:=
 match s with
 | .ay=>match dp c i with
  | true=> .ok (.new (.grow c e i.size new) fun k=> .gs k i.size c)
  | false=> .error "append: too long"
 | .sl z es .shut=>match dp (es.length+c) i&&z.beq i.size with
  | true=> .ok (.new (.grow (es.length+c) e z (es++new)) fun k=> .gs k z (es.length+c))
  | false=> .error "append: too long"
 | .sl z es (.own k)=>match dp (es.length+c) i&&z.beq i.size with
  | true=> .ok (.obj k fun o=>match o with
   | .tok n a=>match n.beq es.length&&a.beq e with
    | true=> .ok (.gs k z (es.length+c),some (.grow (es.length+c) e z (es++new)))
    | false=> .error "append: not at the end"
   | _=> .error "append: no right to")
  | false=> .error "append: too long"
 | .gs k z n=>match dp (n+c) i&&z.beq i.size with
  | true=> .ok (.obj k fun o=>match o with
   | .grow m a z' es=>match (n.beq m&&n.beq es.length)&&(a.beq e&&z'.beq z) with
    | true=> .ok (.gs k z (n+c),some (.grow (n+c) e z (es++new)))
    | false=> .error "append: not at the end"
   | _=> .error "append: no right to")
  | false=> .error "append: too long"
 | _=> .error "append: to what?"
def ia (i:TI) (e:TypeId) (s:AV) (new:List AV):db dG:=do
 match new with
 | []=> .error "append: nothing"
 | v::l=>do
  let new <- fits (v::l)
  match new.all (fun v=>v.cells.length.beq i.size) with
  | false=> .error "append: sizes"
  | true=>match l.isEmpty&&gE 1000 v (zeroV i) with
   | true=>oj i e s new.length []
   | false=>oj i e s new.length new
def rv (i:TI) (e:TypeId) (s:AV) (new:List AV):db dG:=do
 match new with
 | []=>iO i e s []
 | v::l=>do
  let new <- fits (v::l)
  match new.all (fun v=>v.cells.length.beq i.size)&&dp new.length i with
  | false=> .error "append: sizes"
  | true=>match s with
   | .ay=> .ok (.new (.cells (1000000+e) (flat new)) fun k=> .ms k 0 i.size new.length 0)
   | .es=> .ok (.new (.cells (1000000+e) (flat new)) fun k=> .ms k 0 i.size new.length 0)
   | .sl _ [] .shut=> .ok (.new (.cells (1000000+e) (flat new)) fun k=> .ms k 0 i.size new.length 0)
   | _=> .error "append: to what?"
def sk (_i:TI) (_e:TypeId) (_s:AV) (_new:List AV):db dG:= .error "row"
def fk (T:TT) (imm:TypeId->Bool) (b:Builtin) (argTypes:List TypeId) (args:List AV):db dG:=
 match b,argTypes,args with
 | .append,[t,xt],[s,x]=>do
  match (<- ti T t).und,FH (<- ti T xt).und with
  | .slice e,true=>do
   let i <- ti T e
   match oP x with
   | some new=>match imm (1000000+t) with
    | true=>ia i e s new
    | false=>match imm (2000000+t) with
     | true=>rv i e s new
     | false=>match imm (3000000+t) with
      | true=>sk i e s new
      | false=>iO i e s new
   | none=> .error "append: what?"
  | _,_=> .error "append: no slice type"
 | .len,t:: _,[x]=>zK T t x
 | .min,_,x::l=>do pure (.val (<- uZ true x l))
 | .max,_,x::l=>do pure (.val (<- uZ false x l))
 | _,_,_=> .error ("builtin " ++toString (repr b))
def eR (T:TT) (prim:FuncId->Option Prim) (imm:TypeId->Bool) (G:Nat->Option (List AV)) (fr:Fr) (o:Op):db dG:=
 let p (r:db AV):db dG:=do pure (.val (<- r))
 match o with
 | .move x | .assign x=>p (cj G fr x)
 | .pick c a b=>p do
  match <- asBool (<- cj G fr c) with
  | true=>cj G fr a
  | false=>cj G fr b
 | .alloc t=>do
  let i <- ti T t
  pure (.new (.cells t i.zero) fun k=> .mp k 0)
 | .box t x=>do Kf (imm t) t (<- ti T t) (<- cj G fr x)
 | .build t parts=>p do build T t (<- gn G fr parts.toList)
 | .buildSlice t len parts=>p do buildSlice T t len (<- gn G fr parts.toList)
 | .makeSlice t l c=>do oa T t (<- cj G fr l) (<- cj G fr c)
 | .load t a=>do ma (<- ti T t) (<- cj G fr a)
 | .store t a x=>do
  let i <- ti T t
  match <- cj G fr a with
  | .gp k m off=>do jw i k m off (<- cj G fr x)
  | a=>do vj i a (<- cj G fr x)
 | .nilCheck x=>p do
  match <- cj G fr x with
  | .ip c=>pure (.ip c)
  | .mp i o=>pure (.mp i o)
  | .gp k n o=>pure (.gp k n o)
  | .fn (.func f) a c=>pure (.fn (.func f) a c)
  | _=> .error "nilCheck"
 | .binOp op t x y _=>p do yf T op t y (<- cj G fr x) (<- cj G fr y)
 | .unOp op _ x=>p do unOp op (<- cj G fr x)
 | .convert s d x=>do tm T s d (<- cj G fr x)
 | .makeInterface t x=>p do
  match (<- ti T t).und with
  | .iface _ | .other=> .error "makeInterface"
  | _=>do pure (.iface t (<- cj G fr x))
 | .makeFunc f first cap=>p do pure (.fn f (<- mG G fr first.toList) (<- mG G fr cap.toList))
 | .makeMap _ none=> .ok (.new (.map []) fun k=> .mm k)
 | .slice t x lo hi mx=>match mx,hi with
  | some _,none=> .error "slice: max without high"
  | _,_=>p do mj T t (<- cj G fr x) (<- dY G fr lo) (<- dY G fr hi) (<- dY G fr mx)
 | .fieldAddr t x f=>p do fieldAddr T t (<- cj G fr x) f
 | .field t x f=>p do field T t (<- cj G fr x) f
 | .indexAddr t x i=>do
  match <- cj G fr x with
  | .gs k z n=>do kN T t k z n (<- cj G fr i)
  | x=>p do indexAddr T t x (<- cj G fr i)
 | .index t x i=>p do zw T t (<- cj G fr x) (<- cj G fr i)
 | .lookup t x k ok=>do js T t (<- cj G fr x) (<- cj G fr k) ok
 | .mapUpdate t m k v | .insert t m k v=>do oq T t (<- cj G fr m) (<- cj G fr k) (<- cj G fr v)
 | .range t x=>do
  match (<- ti T t).und, <- cj G fr x with
  | .str,.str s=>pure (.new (.sit s 0) fun k=> .mp k 0)
  | _,_=> .error "range"
 | .next x true=>do Ad (<- cj G fr x)
 | .extract x i=>p do
  match <- cj G fr x with
  | .tup vs=>eZ vs i
  | _=> .error "extract"
 | .call c=>do
  let args <- mG G fr c.args.toList
  match c.callee with
  | .builtin b=>fk T imm b c.argTypes.toList args
  | .value f=>do
   match <- cj G fr f with
   | .fn (.func g) first cap=>match prim g with
    | some q=>fO q (first++args++cap)
    | none=>pure (.call g (first++args++cap))
   | .yld k=>pure (.yield k args)
   | _=> .error "call: what?"
  | .invoke .. => .error "call: a method behind an interface"
 | _=> .error "an operation"
def B8:Obj->Obj->Bool
 | .cells t a,.cells u b=>t.beq u&&eX (gE 1000000000000000000) a b
 | .tok n e,.tok m d=>n.beq m&&e.beq d
 | .grow n e z a,.grow m d y b=>n.beq m&&e.beq d&&z.beq y&&eX (gE 1000000000000000000) a b
 | .row n e z a,.row m d y b=>n.beq m&&e.beq d&&z.beq y&&eX (gE 1000000000000000000) a b
 | _,_=>false
def sameAt (s t:St) (i:Nat):Bool:=
 match s.get i,t.get i with
 | .ok a,.ok b=>B8 a b
 | _,_=>false
inductive dO where
 | kept
 | wrote (id:Nat) (o:Obj)
 | made (n:Nat) (o:Obj)
 | looked
 | all (st0 st:St)
structure Fx where
 reads:List Nat
 did:dO
def dO.app:dO->St->St
 | .kept,s=>s
 | .looked,s=>s
 | .wrote id o,s=>s.put id o
 | .made _ o,s=>(s.new o).2
 | .all _ s,_=>s
structure df where
 full:FuncId->Bool
 bare:FuncId->List AV->db AV
 wide:FuncId->List AV->St->db (AV×St)
 isLook:FuncId->Bool
 look:FuncId->List AV->St->db AV
 round:Nat->List AV->St->db (AV×St)
def eG (st:St) (id:Nat):Option Obj->db dO
 | none=> .ok .kept
 | some o=>match id.blt st.ro with
  | true=> .error "a write to what is only read"
  | false=> .ok (.wrote id o)
def aC (C:df) (st:St) (p:dG):db (AV×Fx):=
 match p with
 | .val v=> .ok (v,⟨[],.kept⟩)
 | .obj id f=>do
  let (v,o) <- f (<- st.get id)
  pure (v,⟨[id], <- eG st id o⟩)
 | .both id k f=>do
  let o <- st.get id
  match <- k o with
  | none=>do pure (<- f o none,⟨[],.looked⟩)
  | some j=>match st.ro.ble j with
   | true=>do
    let o' <- st.get j
    pure (<- f o (some o'),⟨[],.looked⟩)
   | false=> .error "both: not ours"
 | .new o f=> .ok (f st.h,⟨[],.made st.h o⟩)
 | .call f args=>
  let a:=args.map strip
  match bL a&& !C.full f with
  | true=>do pure (<- C.bare f a,⟨[],.kept⟩)
  | false=>match C.isLook f with
   | true=>do pure (<- C.look f a st,⟨[],.looked⟩)
   | false=>do
    let (v,s) <- C.wide f args st
    pure (v,⟨[],.all st s⟩)
 | .yield k args=>do
  let (v,s) <- C.round k args st
  pure (v,⟨[],.all st s⟩)
def wanted (ops:List Oper) (fr:Fr) (g:Option (Nat×Bool)):Bool:=
 match g with
 | none=>true
 | some (j,want)=>match (ops[j]?).bind (·.dst) with
  | some d=>match fr.get d with
   | .bool b=>b==want
   | _=>false
  | none=>false
structure Cx where
 T:TT
 prim:FuncId->Option Prim
 imm:TypeId->Bool
 G:Nat->Option (List AV)
 C:df
def oper (X:Cx) (all:List Oper) (fr:Fr) (st:St) (o:Oper):db (AV×Fx):=
 match wanted all fr o.guard with
 | true=>do aC X.C st (<- eR X.T X.prim X.imm X.G fr o.op)
 | false=> .ok (undef,⟨[],.kept⟩)
def dO.vg:dO->Bool
 | .kept=>true
 | _=>false
def apart (a b:Fx):Bool:=
 match a.did,b.did with
 | .all s t,.kept=>b.reads.all (sameAt s t)
 | .kept,.all s t=>a.reads.all (sameAt s t)
 | .looked,.wrote .. | .looked,.made .. =>b.reads.isEmpty&&b.did.vg
 | .wrote ..,.looked | .made ..,.looked=>a.reads.isEmpty&&a.did.vg
 | .looked,.kept | .kept,.looked | .looked,.looked=>true
 | .all ..,_ | _,.all .. =>false
 | .made ..,.made .. =>false
 | .kept,.kept=>true
 | .wrote i _,.kept | .made i _,.kept=> !b.reads.contains i
 | .kept,.wrote i _ | .kept,.made i _=> !a.reads.contains i
 | .wrote i _,.wrote j _ | .wrote i _,.made j _ | .made i _,.wrote j _=> !i.beq j&& !b.reads.contains i&& !a.reads.contains j
def behind (ops:List Oper):(fuel:Nat)->(j i:Nat)->Bool
 | 0,_,_=>false
 | f+1,j,i=>match ops[j]? with
  | some o=>o.after.toList.any fun e=>Region.binds .any e&&(e.on.beq i||(i.blt e.on&&behind ops f e.on i))
  | none=>false
def quiet (x:Fx):Bool:=match x.did with | .kept=>x.reads.isEmpty | _=>false
def nZ (ops:List Oper) (j:Nat) (x:Fx):List (Nat×Fx)->Bool
 | []=>true
 | (i,y)::l=>(apart y x||behind ops (j+1) j i)&&nZ ops j x l
def dM (X:Cx) (all:List Oper) (draw:Bool):(j:Nat)->(seen:List (Nat×Fx))->List Oper->Fr->St->db (Fr×St)
 | _,_,[],fr,st=> .ok (fr,st)
 | j,seen,o::l,fr,st=>do
  let (v,x) <- oper X all fr st o
  match draw&& !quiet x with
  | false=>dM X all draw (j+1) seen l (fr.put o.dst v) (x.did.app st)
  | true=>match nZ all j x seen with
   | true=>dM X all draw (j+1) ((j,x)::seen) l (fr.put o.dst v) (x.did.app st)
   | false=> .error "an order that Go leaves open"
def oU:List Oper->List Nat
 | []=>[]
 | o::l=>match o.op,o.dst with
  | .alloc _,some d=>d::oU l
  | _,_=>oU l
def Ap (h:Nat):List Nat->Nat->Option Nat
 | [],_=>none
 | d::l,e=>match d.beq e with
  | true=>some h
  | false=>Ap (h+1) l e
def St.lay (st:St):List Nat->St
 | []=>st
 | _::l=>St.lay (st.new .yZ).2 l
def vY (T:TT) (t:TypeId) (nm:Nat) (st:St):db (AV×Fx):=do
 let i <- ti T t
 match <- st.get nm with
 | .yZ=>match st.ro.ble nm with
  | true=> .ok (.mp nm 0,⟨[nm],.wrote nm (.cells t i.zero)⟩)
  | false=> .error "hatch: not ours"
 | _=> .error "hatch: no egg"
def qZ (e:Nat->Option Nat) (o:Oper):Option (TypeId×Nat):=
 match o.dst with
 | none=>none
 | some d=>match e d with
  | none=>none
  | some nm=>match o.op with
   | .alloc t=>some (t,nm)
   | _=>none
def fE (X:Cx) (e:Nat->Option Nat) (all:List Oper) (fr:Fr) (st:St) (o:Oper):db (AV×Fx):=
 match wanted all fr o.guard with
 | true=>match qZ e o with
  | some (t,nm)=>vY X.T t nm st
  | none=>do aC X.C st (<- eR X.T X.prim X.imm X.G fr o.op)
 | false=> .ok (undef,⟨[],.kept⟩)
def di (X:Cx) (e:Nat->Option Nat) (all:List Oper):(j:Nat)->(seen:List (Nat×Fx))->List Oper->Fr->St->db (Fr×St)
 | _,_,[],fr,st=> .ok (fr,st)
 | j,seen,o::l,fr,st=>do
  let (v,x) <- fE X e all fr st o
  match !quiet x with
  | false=>di X e all (j+1) seen l (fr.put o.dst v) (x.did.app st)
  | true=>match nZ all j x seen with
   | true=>di X e all (j+1) ((j,x)::seen) l (fr.put o.dst v) (x.did.app st)
   | false=> .error "an order that Go leaves open"
def iter (body:Fr->St->db (Ex×Fr×St)):Nat->Fr->St->db (Ex×Fr×St)
 | 0,_,_=> .error "out of fuel"
 | n+1,fr,st=>do
  match <- body fr st with
  | (.normal,fr,st)=>iter body n fr st
  | r=>pure r
def tQ (n:Nat):List Nat->Bool
 | []=>false
 | m::l=>n.beq m||tQ n l
def dedup:List Nat->List Nat
 | []=>[]
 | i::l=>match tQ i l with
  | true=>dedup l
  | false=>i::dedup l
def K8 (ws:List Nat):List Nat->List Nat
 | []=>[]
 | i::l=>match tQ i ws with
  | true=>K8 ws l
  | false=>i::K8 ws l
def BI:Operand->List Nat
 | .tmp t=>[t]
 | _=>[]
def Ec:List Operand->List Nat
 | []=>[]
 | x::l=>BI x++Ec l
def Dt (all:List Oper):List Oper->List Nat
 | []=>[]
 | o::l=>Ec o.op.operands.toList++Dt all l
def cV:List Oper->List Nat
 | []=>[]
 | o::l=>match o.dst with
  | some d=>d::cV l
  | none=>cV l
def wv:Code->List Nat
 | .region _ ops _=>Dt ops.toList ops.toList
 | .seq a b=>wv a++wv b
 | .cond c a b=>BI c++(wv a++wv b)
 | .block _ c=>wv c
 | .loop c=>wv c
 | .scope c=>wv c
 | .rangeFunc g _ a c=>BI g++(wv a++wv c)
 | _=>[]
def writes:Code->List Nat
 | .region _ ops _=>cV ops.toList
 | .seq a b=>writes a++writes b
 | .cond _ a b=>writes a++writes b
 | .block _ c=>writes c
 | .loop c=>writes c
 | .scope c=>writes c
 | _=>[]
def pH (ps:List Nat) (a c:Code):List Nat:=dedup (K8 (ps++(writes a++writes c)) (wv a++wv c))
def pM:List Nat->List AV->Tr AV->Tr AV
 | i::l,v::vs,t=>pM l vs (t.put i v)
 | _,_,t=>t
def km (fr:Fr):List Nat->List AV
 | []=>[]
 | i::l=>fr.get i::km fr l
def Jw (n:Nat) (us:List Nat) (vs:List AV):Fr:=⟨n,pM us vs .leaf,true⟩
def iJ:List Oper->Bool
 | []=>true
 | o::l=>match o.guard with
  | none=>iJ l
  | some _=>false
def cL:Code->Bool
 | .region _ ops _=>iJ ops.toList
 | .seq a b=>cL a&&cL b
 | .cond _ a b=>cL a&&cL b
 | .block _ c=>cL c
 | .loop c=>cL c
 | .skip=>true
 | .label _=>true
 | .exit _=>true
 | .ret=>true
 | _=>false
def pd:List Nat->List AV->Fr->Fr
 | i::l,v::vs,fr=>pd l vs (fr.put (some i) v)
 | _,_,fr=>fr
def qy (k s0 s1:Nat) (p:Ex) (st:St):db St:=do
 match <- st.get k with
 | .loop imm ps a c fr s _=>match s.beq s0 with
  | true=> .ok (st.put k (.loop imm ps a c fr s1 p))
  | false=> .error "a round: out of turn"
 | _=> .error "a round: of what?"
def exec (X:Cx) (n:Nat):Code->Fr->St->db (Ex×Fr×St)
 | .skip,fr,st=> .ok (.normal,fr,st)
 | .region _ ops draw,fr,st=>match draw&&X.imm 4000000 with
  | false=>do
   let (fr,st) <- dM X ops.toList draw 0 [] ops.toList fr st
   pure (.normal,fr,st)
  | true=>do
   let (fr,st) <- di X (Ap st.h (oU ops.toList)) ops.toList 0 [] ops.toList fr (st.lay (oU ops.toList))
   pure (.normal,fr,st)
 | .seq a b,fr,st=>do
  match <- exec X n a fr st with
  | (.normal,fr,st)=>exec X n b fr st
  | r=>pure r
 | .cond c a b,fr,st=>do
  match <- asBool (<- cj X.G fr c) with
  | true=>exec X n a fr st
  | false=>exec X n b fr st
 | .block id c,fr,st=>do
  match <- exec X n c fr st with
  | (.exit i,fr,st)=>match i.beq id with
   | true=>pure (.normal,fr,st)
   | false=>pure (.exit i,fr,st)
  | r=>pure r
 | .loop c,fr,st=>iter (exec X n c) n fr st
 | .exit id,fr,st=> .ok (.exit id,fr,st)
 | .label _,fr,st=> .ok (.normal,fr,st)
 | .ret,fr,st=> .ok (.ret,fr,st)
 | .scope c,fr,st=>exec X n c fr st
 | .rangeFunc g ps a c,fr,st=>match fr.strict with
  | true=> .error "a loop in a round"
  | false=>do
   match <- cj X.G fr g with
   | .fn (.func f) [] cap=>do
    let us:=pH ps.toList a c
    let (_,st1) <- X.C.wide f (.yld st.h::cap) (st.new (.loop X.imm ps.toList a c (Jw fr.n us (km fr us)) 0 .normal)).2
    match <- st1.get st.h with
    | .loop _ _ _ _ _ s p=>match s.beq 0||s.beq 2 with
     | true=>pure (p,fr,st1.put st.h .dead)
     | false=> .error "a loop: out of turn"
    | _=> .error "a loop: of what?"
   | _=> .error "a range over what?"
 | _,_,_=> .error "code"
def qn (X:Cx) (n k:Nat) (a c:Code) (fr:Fr) (st:St):db (AV×St):=do
 match <- exec X n a fr st with
 | (.normal,d,st1)=>do
  let e <- qy k 0 1 .normal st1
  let (ex,_,b) <- exec X n c d e
  match ex with
  | .normal=>do pure (.bool true, <- qy k 1 0 .normal b)
  | ex=>do pure (.bool false, <- qy k 1 2 ex b)
 | _=> .error "a round: its beginning"
def uT:Nat->List AV->Tr AV->Tr AV
 | _,[],t=>t
 | i,v::l,t=>uT (i+1) l (t.put i v)
def tJ (n:Nat) (args:List AV):Fr:=⟨n,uT 0 args .leaf,false⟩
def kA (T:TT) (fr:Fr) (st:St):ResultVar->db AV
 | .tmp t=> .ok (fr.get t)
 | .cell a t=>do
  match <- ma (<- ti T t) (fr.get a) with
  | .val v=>pure v
  | .obj id f=>do
   let (v,_) <- f (<- st.get id)
   pure v
  | _=> .error "result"
def ij (T:TT) (fr:Fr) (st:St):List ResultVar->db (List AV)
 | []=> .ok []
 | r::l=>do pure ((<- kA T fr st r)::(<- ij T fr st l))
def oneOf:List AV->AV
 | [v]=>v
 | vs=> .tup vs
def body (X:Cx) (n:Nat) (fn:Func) (args:List AV) (st:St):db (AV×St):=
 match fn.body with
 | none=> .error ("no body: " ++fn.name)
 | some c=>
  match args.length.ble fn.ntmps with
  | false=> .error "too many arguments"
  | true=>do
   match <- exec X n c (tJ fn.ntmps args) st with
   | (.normal,fr,st) | (.ret,fr,st)=>do
    pure (oneOf (<- ij X.T fr st fn.results.toList),st)
   | _=> .error "exit out of a body"
structure Env where
 T:TT
 F:FuncId->Option Func
 prim:FuncId->Option Prim
 full:FuncId->Bool
 isLook:FuncId->Bool
 imm:FuncId->TypeId->Bool
 G:Nat->Option (List AV)
 memo:FuncId->List (List AV×AV)
 rule:FuncId->Option (List AV->Option AV):=fun _=>none
 wrule:FuncId->Option (List AV->St->db (AV×St)):=fun _=>none
def tM (args:List AV):List (List AV×AV)->Option AV
 | []=>none
 | (a,v)::l=>match eX (gE 1000) a args with
  | true=>some v
  | false=>tM args l
def Env.known (E:Env) (f:FuncId) (args:List AV):Option AV:=
 match E.rule f with
 | some r=>r args
 | none=>tM args (E.memo f)
def caller (E:Env):Nat->df
 | 0=>⟨E.full,fun _ _=> .error "out of fuel",fun _ _ _=> .error "out of fuel",E.isLook,fun _ _ _=> .error "out of fuel",fun _ _ _=> .error "out of fuel"⟩
 | n+1=>⟨E.full,
  fun f args=>
   match E.known f args with
   | some v=> .ok v
   | none=>match E.F f with
    | none=> .error "no such function"
    | some fn=>do
     let (v,s) <- body ⟨E.T,E.prim,E.imm f,E.G,caller E n⟩ n fn args St.empty
     let v <- freeze s 0 100 v
     match bare v with
     | true=>pure v
     | false=> .error "call: what it hands back",
  fun f args st=>
   match E.F f with
   | none=>match E.wrule f with
    | some r=>r args st
    | none=> .error "no such function"
   | some fn=>do
    let (v,s) <- body ⟨E.T,E.prim,E.imm f,E.G,caller E n⟩ n fn args st
    pure (v,s),
  E.isLook,
  fun f args st=>
   match E.F f with
   | none=> .error "no such function"
   | some fn=>do
    let (v,s) <- body ⟨E.T,E.prim,E.imm f,E.G,caller E n⟩ n fn args ⟨st.h,st.h,st.objs⟩
    let v <- freeze s st.h 100 v
    match bare v with
    | true=>pure v
    | false=> .error "look: what it hands back",
  fun k args st=>do
   match <- st.get k with
   | .loop imm ps a c fr s _=>match (s.beq 0&&st.ro.ble k)&&(args.length.beq ps.length&&(cL a&&cL c)) with
    | true=>qn ⟨E.T,E.prim,imm,E.G,caller E n⟩ n k a c (pd ps args fr) st
    | false=> .error "a round: out of turn"
   | _=> .error "a round: of what?"⟩
end Go.VM
