/-
  A part of the proof.
-/
import GoSem.Step
namespace Go.VM
inductive Perm where
  | shut
  | wide
  | own (name : Nat)
  deriving DecidableEq, Repr, Inhabited
inductive AV where
  | bool (b : Bool)
  | int (k : IntKind) (n : Int)
  | str (s : List UInt8)
  | flt (k : FloatKind) (bits : Nat)
  | nilp
  | ip (cells : List AV)
  | mp (id off : Nat)
  | nils
  | sl (sz : Nat) (elems : List AV) (perm : Perm)
  | ms (id off sz len cap : Nat)
  | nilm
  | mm (id : Nat)
  | im (entries : List (AV × AV))
  | fn (f : Fn) (first captured : List AV)
  | nilfn
  | iface (t : TypeId) (v : AV)
  | nili
  | agg (cs : List AV)
  | tup (vs : List AV)
  | gs (k z n : Nat)
  | gp (k n off : Nat)
  | es
  | opq (i : Bool)
  | yld (k : Nat)
  | hs (z n : Nat) (cs : List AV)
  deriving Inhabited
def undef : AV := .tup []
inductive Tr (α : Type) where
  | leaf
  | node (v : Option α) (l r : Tr α)
  deriving Inhabited
namespace Tr
variable {α : Type}
def get : Tr α → Nat → Option α
  | .leaf, _ => none
  | .node v l r, n => match n.beq 0 with
    | true => v
    | false => match (n % 2).beq 1 with
      | true => l.get (n / 2)
      | false => r.get (n / 2 - 1)
def set : (fuel : Nat) → Tr α → Nat → α → Tr α
  | 0, t, _, _ => t
  | f + 1, t, n, x =>
    let (v, l, r) := match t with | .leaf => (none, .leaf, .leaf) | .node v l r => (v, l, r)
    match n.beq 0 with
    | true => .node (some x) l r
    | false => match (n % 2).beq 1 with
      | true => .node v (set f l (n / 2) x) r
      | false => .node v l (set f r (n / 2 - 1) x)
def put (t : Tr α) (n : Nat) (x : α) : Tr α := set (n + 1) t n x
end Tr
structure Fr where
  n : Nat
  t : Tr AV
  strict : Bool
  deriving Inhabited
def Fr.get (f : Fr) (i : Nat) : AV := (f.t.get i).getD undef
def Fr.put (f : Fr) (d : Option Tmp) (v : AV) : Fr :=
  match d with
  | none => f
  | some d => match d.blt f.n with
    | true => { f with t := f.t.put d v }
    | false => f
inductive Ex where
  | normal | exit (id : Nat) | ret
  deriving DecidableEq, Repr, Inhabited
inductive Obj where
  | cells (t : TypeId) (cs : List AV)
  | tok (n : Nat) (e : TypeId)
  | map (es : List (AV × AV))
  | sit (s : List UInt8) (pos : Nat)
  | dead
  | grow (n : Nat) (e : TypeId) (z : Nat) (es : List AV)
  | egg
  | row (n : Nat) (e : TypeId) (z : Nat) (cs : List AV)
  | loop (imm : TypeId → Bool) (ps : List Tmp) (first body : Code) (fr : Fr) (s : Nat) (p : Ex)
  deriving Inhabited
structure St where
  h : Nat
  ro : Nat
  objs : Tr Obj
  deriving Inhabited
def St.empty : St := ⟨0, 0, .leaf⟩
abbrev Res (α : Type) := Except String α
def St.get (s : St) (i : Nat) : Res Obj :=
  match i.blt s.h with
  | true => match s.objs.get i with | some o => .ok o | none => .error "no object"
  | false => .error "no such name"
def St.put (s : St) (i : Nat) (o : Obj) : St := { s with objs := s.objs.put i o }
def St.new (s : St) (o : Obj) : Nat × St := (s.h, ⟨s.h + 1, s.ro, s.objs.put s.h o⟩)
inductive U where
  | bool | int (k : IntKind) | str | flt (k : FloatKind)
  | ptr (e : TypeId) | slice (e : TypeId) | arr (n : Nat) (e : TypeId) | map (k e : TypeId)
  | struct (fs : List (Nat × TypeId))
  | func | iface (bare : Bool) | uptr | other
  deriving Inhabited
structure TI where
  und : U
  size : Nat
  bytes : Nat
  zero : List AV
  agg : Bool
  cmp : Bool
  deriving Inhabited
abbrev TT := Tr TI
def ti (T : TT) (t : TypeId) : Res TI := match T.get t with | some i => .ok i | none => .error "no such type"
def AV.cells : AV → List AV
  | .agg cs => cs
  | v => [v]
def one : AV → Bool
  | .agg _ => false
  | .tup _ => false
  | _ => true
def ones : List AV → Bool
  | [] => true
  | v :: l => one v && ones l
def strip : AV → AV
  | .sl z e (.own _) => .sl z e .wide
  | v => v
def bare : AV → Bool
  | .mp .. => false
  | .gs .. => false
  | .gp .. => false
  | .yld _ => false
  | .hs .. => false
  | .mm _ => false
  | .ms .. => false
  | .sl _ _ (.own _) => false
  | .fn _ f c => bareAll f && bareAll c
  | .iface _ v => bare v
  | .agg cs => bareAll cs
  | .tup vs => bareAll vs
  | .im es => bareEs es
  | _ => true
  where
  bareAll : List AV → Bool
    | [] => true
    | v :: l => bare v && bareAll l
  bareEs : List (AV × AV) → Bool
    | [] => true
    | (k, v) :: l => bare k && bare v && bareEs l
def bares : List AV → Bool := bare.bareAll
def fit (v : AV) : Res AV :=
  let v := match v with
    | .agg cs => .agg (cs.map strip)
    | v => strip v
  match bare v with
  | true => .ok v
  | false => .error "a name within what never changes"
def fits : List AV → Res (List AV)
  | [] => .ok []
  | v :: l => do let v ← fit v; let l ← fits l; pure (v :: l)
def takeCells (size : Nat) (agg : Bool) (cells : List AV) : Res AV :=
  match agg with
  | true => match size.ble cells.length with
    | true => .ok (.agg (cells.take size))
    | false => .error "too few cells"
  | false => match cells with
    | v :: _ => .ok v
    | [] => .error "no cell"
inductive Plan where
  | val (v : AV)
  | obj (id : Nat) (f : Obj → Res (AV × Option Obj))
  | both (id : Nat) (k : Obj → Res (Option Nat)) (f : Obj → Option Obj → Res AV)
  | new (o : Obj) (f : Nat → AV)
  | call (f : FuncId) (args : List AV)
  | yield (k : Nat) (args : List AV)
def readP (id : Nat) (f : Obj → Res AV) : Plan := .obj id fun o => do pure (← f o, none)
def cellsOf : Obj → Res (List AV)
  | .cells _ cs => .ok cs
  | _ => .error "no cells"
def typedOf : Obj → Res (TypeId × List AV)
  | .cells t cs => .ok (t, cs)
  | _ => .error "no cells"
def loadP (i : TI) (a : AV) : Res Plan :=
  match a with
  | .ip cells => do pure (.val (← takeCells i.size i.agg cells))
  | .mp id off => .ok (readP id fun o => do takeCells i.size i.agg ((← cellsOf o).drop off))
  | .gp k n off => .ok (readP k fun o => match o with
    | .row m _ _ cs => match n.beq m with
      | true => takeCells i.size i.agg (cs.drop off)
      | false => .error "load: an elder slice"
    | _ => .error "load: no slice that may be written")
  | _ => .error "load: no address"
def splice (cs : List AV) (off : Nat) (new : List AV) : List AV := cs.take off ++ new ++ cs.drop (off + new.length)
def storeP (i : TI) (a v : AV) : Res Plan :=
  match a with
  | .mp id off =>
    match v.cells.length.beq i.size && ones v.cells with
    | true => .ok (.obj id fun o => do
      let (t, cs) ← typedOf o
      match (off + v.cells.length).ble cs.length with
      | true => pure (undef, some (.cells t (splice cs off v.cells)))
      | false => .error "store: outside")
    | false => .error "store: sizes"
  | _ => .error "store: no address that may be written"
def boxP (imm : Bool) (t : TypeId) (i : TI) (v : AV) : Res Plan :=
  match v.cells.length.beq i.size && ones v.cells with
  | false => .error "box: sizes"
  | true => match imm with
    | true => do pure (.val (.ip (← fits v.cells)))
    | false => .ok (.new (.cells t v.cells) fun n => .mp n 0)
def zeroV (i : TI) : AV := match i.agg, i.zero with
  | false, [v] => v
  | _, z => .agg z
def fieldAddr (T : TT) (t : TypeId) (a : AV) (f : Nat) : Res AV := do
  match (← ti T t).und with
  | .struct fs => match fs[f]? with
    | some (off, ft) =>
      match (← ti T ft).size with
      | 0 => .error "field of no size"
      | _ + 1 => match a with
        | .ip cells => pure (.ip (cells.drop off))
        | .mp id o => pure (.mp id (o + off))
        | .gp k n o => pure (.gp k n (o + off))
        | _ => .error "fieldAddr: no address"
    | none => .error "no such field"
  | _ => .error "fieldAddr: no struct"
def field (T : TT) (t : TypeId) (x : AV) (f : Nat) : Res AV := do
  match (← ti T t).und, x with
  | .struct fs, .agg cs => match fs[f]? with
    | some (off, ft) => do
      let i ← ti T ft
      takeCells i.size i.agg (cs.drop off)
    | none => .error "no such field"
  | _, _ => .error "field: no struct"
def asInt : AV → Res Int
  | .int _ n => .ok n
  | _ => .error "int expected"
def asBool : AV → Res Bool
  | .bool b => .ok b
  | _ => .error "bool expected"
def inside (i : Int) (n : Nat) : Res Nat :=
  match i with
  | .ofNat k => match k.blt n with
    | true => .ok k
    | false => .error "index out of range"
  | _ => .error "index below 0"
def upto (i : Int) (n : Nat) : Res Nat :=
  match i with
  | .ofNat k => match k.ble n with
    | true => .ok k
    | false => .error "bound out of range"
  | _ => .error "bound below 0"
def nthAV : List AV → Nat → Res AV
  | [], _ => .error "nth"
  | v :: _, 0 => .ok v
  | _ :: l, n + 1 => nthAV l n
def group (sz : Nat) (agg : Bool) : (n : Nat) → List AV → Res (List AV)
  | 0, _ => .ok []
  | n + 1, cs => do
    let v ← takeCells sz agg cs
    let l ← group sz agg n (cs.drop sz)
    pure (v :: l)
def flat : List AV → List AV
  | [] => []
  | v :: l => v.cells ++ flat l
def indexAddr (T : TT) (t : TypeId) (x i : AV) : Res AV := do
  let n ← asInt i
  match (← ti T t).und, x with
  | .slice e, .sl sz elems _ => do
    let k ← inside n elems.length
    match sz.beq (← ti T e).size with
    | true => do pure (.ip (← nthAV elems k).cells)
    | false => .error "indexAddr: size"
  | .slice e, .ms id off sz len _ => do
    let k ← inside n len
    match sz.beq (← ti T e).size with
    | true => pure (.mp id (off + k * sz))
    | false => .error "indexAddr: size"
  | .arr len e, .mp id off => do
    let k ← inside n len
    pure (.mp id (off + k * (← ti T e).size))
  | .arr len e, .ip cells => do
    let k ← inside n len
    pure (.ip (cells.drop (k * (← ti T e).size)))
  | .arr len e, .gp id m off => do
    let k ← inside n len
    pure (.gp id m (off + k * (← ti T e).size))
  | _, _ => .error "indexAddr: what?"
def indexV (T : TT) (t : TypeId) (x i : AV) : Res AV := do
  let n ← asInt i
  match (← ti T t).und, x with
  | .str, .str s => do
    let k ← inside n s.length
    match s[k]? with
    | some b => pure (.int .u8 b.toNat)
    | none => .error "index: string"
  | .arr len e, .agg cs => do
    let k ← inside n len
    let i ← ti T e
    takeCells i.size i.agg (cs.drop (k * i.size))
  | _, _ => .error "index: what?"
def optInt : Option AV → Res (Option Int)
  | none => .ok none
  | some v => do pure (some (← asInt v))
def hiOf (hi : Option Int) (m dflt : Nat) : Res Nat := match hi with | some h => upto h m | none => .ok dflt
def loOf (lo : Option Int) (h : Nat) : Res Nat := match lo with | some l => upto l h | none => .ok 0
def rowStoreP (m off : Nat) (cs : List AV) : Obj → Res (AV × Option Obj)
  | .row n e z old => match n.beq m && (off + cs.length).ble old.length with
    | true => .ok (undef, some (.row n e z (splice old off cs)))
    | false => .error "store: an elder slice"
  | _ => .error "store: nothing is open"
def gpStoreP (i : TI) (k m off : Nat) (v : AV) : Res Plan :=
  match v.cells.length.beq i.size && ones v.cells with
  | true => do
    let cs := v.cells
    let v ← fit v
    pure (.obj k fun o => match o with
      | .grow n e z es => match (n.beq m && n.beq (es.length + 1)) && (off.beq (es.length * z) && z.beq i.size) with
        | true => .ok (undef, some (.grow n e z (es ++ [v])))
        | false => .error "store: not the last one"
      | o => rowStoreP m off cs o)
  | false => .error "store: sizes"
def gsIndexP (T : TT) (t : TypeId) (k z n : Nat) (i : AV) : Res Plan := do
  let j ← asInt i
  let j ← inside j n
  match (← ti T t).und with
  | .slice e => match z.beq (← ti T e).size with
    | true => .ok (readP k fun o => match o with
      | .grow m _ z' es => match n.beq m && z'.beq z with
        | true => match j.blt es.length with
          | true => do pure (.ip (← nthAV es j).cells)
          | false => .ok (.gp k n (j * z))
        | false => .error "indexAddr: an elder slice"
      | .row m _ z' _ => match n.beq m && z'.beq z with
        | true => .ok (.gp k n (j * z))
        | false => .error "indexAddr: an elder slice"
      | _ => .error "indexAddr: no slice")
    | false => .error "indexAddr: size"
  | _ => .error "indexAddr: what?"
def sliceV (T : TT) (t : TypeId) (x : AV) (lo hi mx : Option AV) : Res AV := do
  let lo ← optInt lo
  let hi ← optInt hi
  let mx ← optInt mx
  match (← ti T t).und, x, mx with
  | .str, .str s, none => do
    let h ← hiOf hi s.length s.length
    let l ← loOf lo h
    pure (.str ((s.take h).drop l))
  | .slice e, .nils, mx => do
    let _ ← ti T e
    let m ← hiOf mx 0 0
    let h ← hiOf hi m 0
    let _ ← loOf lo h
    pure .nils
  | .slice e, .es, mx => do
    let _ ← ti T e
    let m ← hiOf mx 0 0
    let h ← hiOf hi m 0
    let _ ← loOf lo h
    pure .es
  | .slice e, .ms id off sz len cap, mx => do
    match sz.beq (← ti T e).size with
    | false => .error "slice: size"
    | true => do
      let m ← hiOf mx cap cap
      let h ← hiOf hi m len
      let l ← loOf lo h
      match h.ble m with
      | true => pure (.ms id (off + l * sz) sz (h - l) (m - l))
      | false => .error "slice: bounds"
  | .slice e, .sl sz es p, none => do
    match sz.beq (← ti T e).size with
    | false => .error "slice: size"
    | true => do
      let h ← hiOf hi es.length es.length
      let l ← loOf lo h
      match h.beq es.length, p with
      | true, .shut => pure (.sl sz (es.drop l) .shut)
      | true, .own k => match l.beq 0 with
        | true => pure (.sl sz es (.own k))
        | false => pure (.sl sz (es.drop l) .wide)
      | _, _ => pure (.sl sz ((es.take h).drop l) .wide)
  | .slice e, .sl sz es _, some m => do
    match sz.beq (← ti T e).size with
    | false => .error "slice: size"
    | true => do
      let m ← upto m es.length
      let h ← hiOf hi m m
      let l ← loOf lo h
      pure (.sl sz ((es.take h).drop l) (match m.beq h with | true => .shut | false => .wide))
  | _, _, _ => .error "slice: what?"
def eqFields (T : TT) (g : TypeId → AV → AV → Res Bool) (xs ys : List AV) : List (Nat × TypeId) → Res Bool
  | [] => .ok true
  | (off, t) :: l => do
    let i ← ti T t
    let a ← takeCells i.size i.agg (xs.drop off)
    let b ← takeCells i.size i.agg (ys.drop off)
    match ← g t a b with
    | true => eqFields T g xs ys l
    | false => .ok false
def eqT (T : TT) : (fuel : Nat) → TypeId → AV → AV → Res Bool
  | 0, _, _, _ => .error "==: too deep"
  | f + 1, t, x, y => do
    let i ← ti T t
    match i.und, x, y with
    | .bool, .bool a, .bool b => .ok (a == b)
    | .int _, .int j a, .int k b => if j = k then .ok (a == b) else .error "==: kinds"
    | .str, .str a, .str b => .ok (a == b)
    | .ptr _, .nilp, .nilp => .ok true
    | .ptr _, .nilp, .ip _ => .ok false
    | .ptr _, .ip _, .nilp => .ok false
    | .ptr _, .nilp, .mp .. => .ok false
    | .ptr _, .mp .., .nilp => .ok false
    | .slice _, .nils, .nils => .ok true
    | .slice _, .nils, .sl .. => .ok false
    | .slice _, .sl .., .nils => .ok false
    | .slice _, .nils, .ms .. => .ok false
    | .slice _, .ms .., .nils => .ok false
    | .slice _, .nils, .es => .ok false
    | .slice _, .es, .nils => .ok false
    | .map .., .nilm, .nilm => .ok true
    | .map .., .nilm, .mm _ => .ok false
    | .map .., .mm _, .nilm => .ok false
    | .func, .nilfn, .nilfn => .ok true
    | .func, .nilfn, .fn .. => .ok false
    | .func, .fn .., .nilfn => .ok false
    | .struct fs, .agg xs, .agg ys => match i.cmp with
      | true => eqFields T (eqT T f) xs ys fs
      | false => .error "==: a struct"
    | _, _, _ => .error "==: what?"
def strsEq : List AV → List AV → Res Bool
  | [], [] => .ok true
  | .str a :: l, .str b :: m => match a == b with
    | true => strsEq l m
    | false => .ok false
  | _, _ => .error "key: no texts"
def keyEq : AV → AV → Res Bool
  | .bool a, .bool b => .ok (a == b)
  | .int j a, .int k b => if j = k then .ok (a == b) else .error "key: kinds"
  | .str a, .str b => .ok (a == b)
  | .agg a, .agg b => strsEq a b
  | _, _ => .error "key: what?"
def intOp (op : BinOp) (k : IntKind) (a b : Int) : Res AV :=
  match op with
  | .add => .ok (.int k (k.wrap (a + b)))
  | .sub => .ok (.int k (k.wrap (a - b)))
  | .mul => .ok (.int k (k.wrap (a * b)))
  | .quo => if b = 0 then .error "division by zero" else .ok (.int k (k.wrap (a.tdiv b)))
  | .rem => if b = 0 then .error "division by zero" else .ok (.int k (a.tmod b))
  | .and => .ok (.int k (k.wrap ((BitVec.ofInt k.bits a) &&& (BitVec.ofInt k.bits b)).toNat))
  | .or => .ok (.int k (k.wrap ((BitVec.ofInt k.bits a) ||| (BitVec.ofInt k.bits b)).toNat))
  | .xor => .ok (.int k (k.wrap ((BitVec.ofInt k.bits a) ^^^ (BitVec.ofInt k.bits b)).toNat))
  | .andNot => .ok (.int k (k.wrap ((BitVec.ofInt k.bits a) &&& ~~~(BitVec.ofInt k.bits b)).toNat))
  | .eql => .ok (.bool (a == b))
  | .neq => .ok (.bool (a != b))
  | .lss => .ok (.bool (a < b))
  | .leq => .ok (.bool (a ≤ b))
  | .gtr => .ok (.bool (a > b))
  | .geq => .ok (.bool (a ≥ b))
  | _ => .error "intOp"
def strOp (op : BinOp) (x y : List UInt8) : Res AV :=
  match op with
  | .add => match (x.length + y.length).ble 9223372036854775807 with
    | true => .ok (.str (x ++ y))
    | false => .error "string too long"
  | .eql => .ok (.bool (x == y))
  | .neq => .ok (.bool !(x == y))
  | .lss => .ok (.bool (Op.bytesLess x y))
  | .leq => .ok (.bool (Op.bytesLess x y || x == y))
  | .gtr => .ok (.bool !(Op.bytesLess x y || x == y))
  | .geq => .ok (.bool !(Op.bytesLess x y))
  | _ => .error "strOp"
def binOp (T : TT) (op : BinOp) (t : TypeId) (x y : AV) : Res AV :=
  match op, x, y with
  | .shl, .int k a, .int _ b => if b < 0 then .error "shift" else .ok (.int k (k.wrap (a * 2 ^ (min b.toNat k.bits))))
  | .shr, .int k a, .int _ b => if b < 0 then .error "shift" else .ok (.int k (a.fdiv (2 ^ (min b.toNat k.bits))))
  | op, .int k a, .int k' b => if k = k' then intOp op k a b else .error "binOp: kinds"
  | op, .str a, .str b => strOp op a b
  | .eql, x, y => do pure (.bool (← eqT T 20 t x y))
  | .neq, x, y => do pure (.bool !(← eqT T 20 t x y))
  | _, _, _ => .error "binOp"
def nilC (yo : Operand) (b : AV) : Bool :=
  match yo with
  | .const _ => match b with | .nili => true | _ => false
  | _ => false
def isIfc (T : TT) (t : TypeId) : Bool :=
  match T.get t with
  | some i => match i.und with | .iface _ => true | _ => false
  | none => false
def nifO (op : BinOp) (a : AV) : Option AV :=
  match op, a with
  | .eql, .nili => some (.bool true)
  | .eql, .iface .. => some (.bool false)
  | .neq, .nili => some (.bool false)
  | .neq, .iface .. => some (.bool true)
  | _, _ => none
def binOpN (T : TT) (op : BinOp) (t : TypeId) (yo : Operand) (a b : AV) : Res AV :=
  match nilC yo b && isIfc T t with
  | true => match nifO op a with | some v => .ok v | none => .error "binOp: nil"
  | false => binOp T op t a b
def unOp (op : UnOp) (x : AV) : Res AV :=
  match op, x with
  | .neg, .int k n => .ok (.int k (k.wrap (0 - n)))
  | .not, .bool b => .ok (.bool !b)
  | .xor, .int k n => .ok (.int k (k.wrap ((BitVec.ofInt k.bits (if k.signed then -1 else k.max)) ^^^ (BitVec.ofInt k.bits n)).toNat))
  | _, _ => .error "unOp"
def bytesOf : List AV → Res (List UInt8)
  | [] => .ok []
  | .int .u8 n :: l => do pure (UInt8.ofNat n.toNat :: (← bytesOf l))
  | _ :: _ => .error "bytes expected"
def ofBytes (s : List UInt8) : List AV := s.map fun b => .int .u8 b.toNat
def isByte : U → Bool
  | .int .u8 => true
  | _ => false
def convertP (T : TT) (src dst : TypeId) (x : AV) : Res Plan := do
  match (← ti T src).und, (← ti T dst).und, x with
  | _, .int k, .int _ n => pure (.val (.int k (k.wrap n)))
  | _, .str, .str s => pure (.val (.str s))
  | .int _, .str, .int _ n => match Nat.blt 0 (n + 1).toNat && n.toNat.blt 128 with
    | true => pure (.val (.str [UInt8.ofNat n.toNat]))
    | false => .error "convert: a rune"
  | .slice e, .str, x => do
    match isByte (← ti T e).und with
    | false => .error "convert: no bytes"
    | true => match x with
      | .nils => pure (.val (.str []))
      | .sl _ es _ => do pure (.val (.str (← bytesOf es)))
      | .ms id off _ len _ => pure (readP id fun o => do
        let cs := (← cellsOf o).drop off
        match len.ble cs.length with
        | true => do pure (.str (← bytesOf (cs.take len)))
        | false => .error "convert: length")
      | _ => .error "convert: what?"
  | .str, .slice e, .str s => do
    match isByte (← ti T e).und with
    | false => .error "convert: no bytes"
    | true => pure (.val (.sl 1 (ofBytes s) .wide))
  | _, _, _ => .error "convert"
def elemsV : AV → Option (List AV)
  | .nils => some []
  | .sl _ e _ => some e
  | .str s => some (ofBytes s)
  | .es => some []
  | _ => none
def roomOk (n : Nat) (i : TI) : Bool := (n * i.bytes).ble 70368744177664 && (Nat.ble 1 i.size && n.ble 70368744177664)
def appendP (i : TI) (e : TypeId) (s : AV) (new : List AV) : Res Plan := do
  match new with
  | [] => match s with
    | .nils => pure (.val .nils)
    | .sl z es p => pure (.val (.sl z es p))
    | .es => pure (.val .es)
    | _ => .error "append: no slice"
  | _ :: _ => do
    let new ← fits new
    match new.all (fun v => v.cells.length.beq i.size) with
    | false => .error "append: sizes"
    | true => match s with
      | .nils => match roomOk new.length i with
        | true => pure (.new (.tok new.length e) fun k => .sl i.size new (.own k))
        | false => .error "append: too long"
      | .sl z es p => match roomOk (es.length + new.length) i && z.beq i.size with
        | false => .error "append: too long"
        | true => match p with
          | .shut => pure (.new (.tok (es.length + new.length) e) fun k => .sl z (es ++ new) (.own k))
          | .own k => pure (.obj k fun o => match o with
            | .tok n e' => match n.beq es.length && e'.beq e with
              | true => pure (.sl z (es ++ new) (.own k), some (.tok (es.length + new.length) e))
              | false => .error "append: not at the end"
            | _ => .error "append: no right to")
          | .wide => .error "append: to what may have room"
      | .es => match roomOk new.length i with
        | true => pure (.new (.tok new.length e) fun k => .sl i.size new (.own k))
        | false => .error "append: too long"
      | _ => .error "append: no slice"
def lenP (T : TT) (t : TypeId) (x : AV) : Res Plan := do
  match (← ti T t).und, x with
  | .arr n _, _ => pure (.val (.int .i64 n))
  | .str, .str s => pure (.val (.int .i64 s.length))
  | .slice _, .nils => pure (.val (.int .i64 0))
  | .slice _, .sl _ e _ => pure (.val (.int .i64 e.length))
  | .slice _, .ms _ _ _ len _ => pure (.val (.int .i64 len))
  | .slice _, .gs _ _ n => pure (.val (.int .i64 n))
  | .slice _, .es => pure (.val (.int .i64 0))
  | .map .., .nilm => pure (.val (.int .i64 0))
  | .map .., .im es => pure (.val (.int .i64 es.length))
  | .map .., .mm i => pure (readP i fun o => match o with
    | .map es => .ok (.int .i64 es.length)
    | _ => .error "len: no map")
  | _, _ => .error "len: what?"
def min2 (lower : Bool) : AV → AV → Res AV
  | .int k x, .int _ y => .ok (.int k (match lower with | true => if y < x then y else x | false => if y > x then y else x))
  | _, _ => .error "min, max"
def minAll (lower : Bool) : AV → List AV → Res AV
  | x, [] => .ok x
  | x, y :: l => do minAll lower (← min2 lower x y) l
def keyOk : U → AV → Bool
  | .str, .str _ => true
  | .int _, .int .. => true
  | .bool, .bool _ => true
  | _, _ => false
def strFields (T : TT) : List (Nat × TypeId) → List AV → Nat → Bool
  | [], [], _ => true
  | (o, t) :: l, .str _ :: cs, n => match T.get t with
    | some i => match i.und with
      | .str => match o.beq n && (i.size.beq 1 && !i.agg) with
        | true => strFields T l cs (n + 1)
        | false => false
      | _ => false
    | none => false
  | _, _, _ => false
def keyIn (T : TT) (i : TI) (k : AV) : Bool :=
  match i.und, k with
  | .struct fs, .agg cs => i.cmp && strFields T fs cs 0
  | u, k => keyOk u k
def findEntry (k : AV) : List (AV × AV) → Res (Option AV)
  | [] => .ok none
  | (a, v) :: l => do
    match ← keyEq k a with
    | true => pure (some v)
    | false => findEntry k l
def setEntry (k v : AV) : List (AV × AV) → Res (List (AV × AV))
  | [] => .ok [(k, v)]
  | (a, u) :: l => do
    match ← keyEq k a with
    | true => pure ((a, v) :: l)
    | false => do pure ((a, u) :: (← setEntry k v l))
def okV (ok b : Bool) (v : AV) : AV := match ok with | true => .tup [v, .bool b] | false => v
def found (i : TI) (ok : Bool) (k : AV) (es : List (AV × AV)) : Res AV := do
  match ← findEntry k es with
  | some v => pure (okV ok true v)
  | none => pure (okV ok false (zeroV i))
def lookupP (T : TT) (t : TypeId) (x k : AV) (ok : Bool) : Res Plan := do
  match (← ti T t).und with
  | .map kt e => do
    let i ← ti T e
    match keyIn T (← ti T kt) k with
    | false => .error "lookup: the key"
    | true => match x with
      | .nilm => do pure (.val (← found i ok k []))
      | .im es => do pure (.val (← found i ok k es))
      | .mm m => pure (readP m fun o => match o with
        | .map es => found i ok k es
        | _ => .error "lookup: no map")
      | _ => .error "lookup: no map"
  | _ => .error "lookup: no map type"
def mapUpdateP (T : TT) (t : TypeId) (m k v : AV) : Res Plan := do
  match (← ti T t).und with
  | .map kt _ => do
    match m, keyIn T (← ti T kt) k with
    | .mm i, true => pure (.obj i fun o => match o with
      | .map es => do pure (undef, some (.map (← setEntry k v es)))
      | _ => .error "mapUpdate: no map")
    | _, _ => .error "mapUpdate"
  | _ => .error "mapUpdate: no map type"
def delEntry (k : AV) : List (AV × AV) → Res (List (AV × AV))
  | [] => .ok []
  | (a, u) :: l => do
    match ← keyEq k a with
    | true => pure l
    | false => do pure ((a, u) :: (← delEntry k l))
def deleteP (T : TT) (t : TypeId) (m k : AV) : Res Plan := do
  match (← ti T t).und with
  | .map kt _ => do
    match m, keyIn T (← ti T kt) k with
    | .mm i, true => pure (.obj i fun o => match o with
      | .map es => do pure (.tup [], some (.map (← delEntry k es)))
      | _ => .error "delete: no map")
    | _, _ => .error "delete"
  | _ => .error "delete: no map type"
def decodeAt (s : List UInt8) (i : Nat) : Nat × Nat := Utf8.decode ⟨s.toArray⟩ i
def nextP (x : AV) : Res Plan :=
  match x with
  | .mp id 0 => .ok (.obj id fun o => match o with
    | .sit s pos =>
      match pos.blt s.length with
      | true =>
        let (c, w) := decodeAt s pos
        .ok (.tup [.bool true, .int .i64 pos, .int .i32 c], some (.sit s (pos + w)))
      | false => .ok (.tup [.bool false], none)
    | _ => .error "next: no iterator")
  | _ => .error "next"
def ofConst : Value → Res AV
  | .bool b => .ok (.bool b)
  | .int k n => .ok (.int k n)
  | .float k b => .ok (.flt k b)
  | .string s => .ok (.str s.data.toList)
  | .pointer none => .ok .nilp
  | .slice none 0 0 => .ok .nils
  | .map none => .ok .nilm
  | .nilFunc => .ok .nilfn
  | .nilIface => .ok .nili
  | .agg cs => do pure (.agg (← ofAll cs.toList))
  | .tuple vs => do pure (.tup (← ofAll vs.toList))
  | _ => .error "a constant"
  where
  ofAll : List Value → Res (List AV)
    | [] => .ok []
    | v :: l => do pure ((← ofConst v) :: (← ofAll l))
def evalO (G : Nat → Option (List AV)) (f : Fr) : Operand → Res AV
  | .tmp t => match f.strict with
    | false => .ok (f.get t)
    | true => match f.t.get t with
      | some v => .ok v
      | none => .error "a slot that a round does not know"
  | .const v => ofConst v
  | .global g => match G g with
    | some cs => .ok (.ip cs)
    | none => .error "a variable of the program"
  | .func g => .ok (.fn (.func g) [] [])
def evalL (G : Nat → Option (List AV)) (f : Fr) : List Operand → Res (List AV)
  | [] => .ok []
  | x :: l => do pure ((← evalO G f x) :: (← evalL G f l))
def evalOpt (G : Nat → Option (List AV)) (f : Fr) : Option Operand → Res (Option AV)
  | none => .ok none
  | some x => do pure (some (← evalO G f x))
def evalParts (G : Nat → Option (List AV)) (f : Fr) : List (Nat × Operand) → Res (List (Nat × AV))
  | [] => .ok []
  | (i, x) :: l => do pure ((i, ← evalO G f x) :: (← evalParts G f l))
def fillAt (place : Nat → Option (Nat × Nat)) (cells : List AV) : List (Nat × AV) → Res (List AV)
  | [] => .ok cells
  | (i, v) :: l =>
    match place i with
    | none => .error "build: no such part"
    | some (off, size) => match v.cells.length.beq size && (off + size).ble cells.length with
      | true => fillAt place (splice cells off v.cells) l
      | false => .error "build: sizes"
def sizesOf (T : TT) : List (Nat × TypeId) → Res (List (Nat × Nat))
  | [] => .ok []
  | (o, t) :: l => do pure ((o, (← ti T t).size) :: (← sizesOf T l))
def build (T : TT) (t : TypeId) (parts : List (Nat × AV)) : Res AV := do
  let i ← ti T t
  match i.und with
  | .struct fs => do
    let ps ← sizesOf T fs
    pure (.agg (← fillAt (fun k => ps[k]?) i.zero parts))
  | .arr _ e => do
    let z := (← ti T e).size
    pure (.agg (← fillAt (fun k => some (k * z, z)) i.zero parts))
  | _ => .error "build: what?"
def zeros (z : List AV) : Nat → List AV
  | 0 => []
  | n + 1 => z ++ zeros z n
def makeSliceP (T : TT) (t : TypeId) (l c : AV) : Res Plan := do
  match (← ti T t).und, l, c with
  | .slice e, .int _ (.ofNat l), .int _ (.ofNat c) => do
    let i ← ti T e
    match l.ble c && (c * i.size).ble 16777216 && (i.bytes * c).ble 281474976710656 && c.ble 9223372036854775807 && Nat.ble 1 i.size with
    | true => match l.beq 0 with
      | true => pure (.new (.tok 0 e) fun k => .sl i.size [] (.own k))
      | false => pure (.new (.cells e (zeros i.zero c)) fun k => .ms k 0 i.size l c)
    | false => .error "make: size"
  | _, _, _ => .error "make: what?"
def isFunc : U → Bool
  | .func => true
  | _ => false
def buildSlice (T : TT) (t : TypeId) (len : Nat) (parts : List (Nat × AV)) : Res AV := do
  match (← ti T t).und with
  | .slice e => do
    let i ← ti T e
    match (len * i.size).ble 16777216 && Nat.ble 1 i.size with
    | true => do
      let cs ← fillAt (fun k => some (k * i.size, i.size)) (zeros i.zero len) parts
      match ones cs with
      | true => match isFunc i.und && !bares cs with
        | true => pure (.hs i.size len cs)
        | false => pure (.sl i.size (← fits (← group i.size i.agg len cs)) .shut)
      | false => .error "buildSlice: cells"
    | false => .error "buildSlice: too long"
  | _ => .error "buildSlice: what?"
def strictBytes : List AV → Res (List UInt8)
  | [] => .ok []
  | .int .u8 n :: l => match n with
    | .ofNat k => match k.blt 256 with
      | true => do pure (UInt8.ofNat k :: (← strictBytes l))
      | false => .error "no byte"
    | .negSucc _ => .error "no byte"
  | _ :: _ => .error "bytes expected"
inductive Prim where
  | same | count | indexByte | index
  | copyCheck (l : List (TypeId × Nat × Nat))
  | builderString (u8 : TypeId)
  | lib (f : List AV → Res AV)
def indexFrom (sep : List UInt8) : List UInt8 → Nat → Option Nat
  | [], i => if sep.isEmpty then some i else none
  | s@(_ :: l), i => if sep.isPrefixOf s then some i else indexFrom sep l (i + 1)
def lies (l : List (TypeId × Nat × Nat)) (t : TypeId) (n off : Nat) : Bool :=
  match l with
  | [] => false
  | (a, b, c) :: l => (a.beq t && b.beq n && c.beq off && t.blt 1000000) || lies l t n off
def findByte (c : Nat) : List UInt8 → Option Nat
  | [] => none
  | b :: l => match b.toNat.beq c with
    | true => some 0
    | false => match findByte c l with
      | some i => some (i + 1)
      | none => none
def primP (p : Prim) (args : List AV) : Res Plan :=
  match p, args with
  | .same, [v] => .ok (.val v)
  | .count, [.str s, .int .u8 c] => .ok (.val (.int .i64 (s.countP fun b => b.toNat.beq (c.toNat % 256))))
  | .indexByte, [.str s, .int .u8 c] => .ok (.val (.int .i64 (match findByte (c.toNat % 256) s with | some i => (i : Int) | none => -1)))
  | .index, [.str s, .str t] => .ok (.val (.int .i64 (match indexFrom t s 0 with | some i => (i : Int) | none => -1)))
  | .copyCheck l, [.mp id off] => .ok (.obj id fun o => do
      let (t, cs) ← typedOf o
      match (lies l t cs.length off) with
      | false => .error "copyCheck: where?"
      | true => do
        match ← nthAV cs off with
        | .nilp => pure (.tup [], some (.cells t (splice cs off [.mp id off])))
        | .mp id' off' => match id'.beq id && off'.beq off with
          | true => pure (.tup [], none)
          | false => .error "copyCheck"
        | _ => .error "copyCheck")
  | .builderString u8, [.mp id off] => .ok (.both id
      (fun o => do
        match ← nthAV (← cellsOf o) (off + 1) with
        | .nils => pure none
        | .sl 1 _ (.own k) => pure (some k)
        | _ => .error "Builder.String")
      (fun o o' => do
        match ← nthAV (← cellsOf o) (off + 1), o' with
        | .nils, _ => pure (.str [])
        | .sl 1 e (.own _), some (.tok n ty) => match ty.beq u8 && n.beq e.length && !e.isEmpty && n.blt 4611686018427387904 with
          | true => do pure (.str (← strictBytes e))
          | false => .error "Builder.String: bytes"
        | _, _ => .error "Builder.String"))
  | .lib f, args => match f args with
    | .ok v => .ok (.val v)
    | .error e => .error e
  | _, _ => .error "a function that is not walked"
def allE (g : AV → Res AV) : List AV → Res (List AV)
  | [] => .ok []
  | v :: l => do pure ((← g v) :: (← allE g l))
def entriesE (g : AV → Res AV) : List (AV × AV) → Res (List (AV × AV))
  | [] => .ok []
  | (k, v) :: l => do pure ((k, strip (← g v)) :: (← entriesE g l))
def freeze (st : St) (base : Nat) : (fuel : Nat) → AV → Res AV
  | 0, _ => .error "freeze: too deep"
  | f + 1, v =>
    match v with
    | .mp id off => match id.blt base with
      | true => .ok v
      | false => do
        match ← st.get id with
        | .cells _ cs => do
          let cs ← allE (freeze st base f) (cs.drop off)
          pure (.ip (← fits cs))
        | _ => .error "freeze: what?"
    | .mm id => match id.blt base with
      | true => .ok v
      | false => do
        match ← st.get id with
        | .map es => do
          let es ← entriesE (freeze st base f) es
          match bare.bareEs es with
          | true => pure (.im es)
          | false => .error "freeze: a map"
        | _ => .error "freeze: what?"
    | .sl z e (.own k) => match k.blt base with
      | true => .ok v
      | false => .ok (.sl z e .wide)
    | .agg cs => do pure (.agg (← allE (freeze st base f) cs))
    | .tup vs => do pure (.tup (← allE (freeze st base f) vs))
    | .iface t v => do pure (.iface t (← freeze st base f v))
    | .fn g a c => do pure (.fn g (← allE (freeze st base f) a) (← allE (freeze st base f) c))
    | .ms id off z len cap => match id.blt base with
      | true => .ok v
      | false => do
        match ← st.get id with
        | .cells _ cs => do
          let cs ← allE (freeze st base f) ((cs.drop off).take (len * z))
          match ones cs with
          | true => do
            let es ← fits (← group z (Nat.ble 2 z) len cs)
            match cap.beq 0 with
            | true => match len.beq 0 with
              | true => .error "freeze: no array"
              | false => pure (.sl z es .wide)
            | false => pure (.sl z es (match cap.beq len with | true => .shut | false => .wide))
          | false => .error "freeze: cells"
        | _ => .error "freeze: what?"
    | .gs k z n => match k.blt base with
      | true => .ok v
      | false => do
        match ← st.get k with
        | .grow m _ z' es => match (n.beq m && n.beq es.length) && z'.beq z with
          | true => .ok (.sl z es .wide)
          | false => .error "freeze: an elder slice"
        | _ => .error "freeze: what?"
    | v => .ok v
def notInt : U → Bool
  | .slice _ => true
  | .str => true
  | _ => false
def sameStr : List UInt8 → List UInt8 → Bool
  | [], [] => true
  | a :: l, b :: m => match a.toNat.beq b.toNat with
    | true => sameStr l m
    | false => false
  | _, _ => false
def sameAll (g : AV → AV → Bool) : List AV → List AV → Bool
  | [], [] => true
  | a :: l, b :: m => match g a b with
    | true => sameAll g l m
    | false => false
  | _, _ => false
def sameAV : (fuel : Nat) → AV → AV → Bool
  | 0, _, _ => false
  | f + 1, a, b => match a, b with
    | .bool a, .bool b => a == b
    | .int j a, .int k b => decide (j = k) && decide (a = b)
    | .str a, .str b => sameStr a b
    | .nilp, .nilp => true
    | .nils, .nils => true
    | .nilm, .nilm => true
    | .nilfn, .nilfn => true
    | .nili, .nili => true
    | .es, .es => true
    | .ip a, .ip b => sameAll (sameAV f) a b
    | .mp a b, .mp c d => a.beq c && b.beq d
    | .mm a, .mm b => a.beq b
    | .gs a b c, .gs a' b' c' => a.beq a' && b.beq b' && c.beq c'
    | .gp a b c, .gp a' b' c' => a.beq a' && b.beq b' && c.beq c'
    | .ms a b c d e, .ms a' b' c' d' e' => a.beq a' && b.beq b' && c.beq c' && d.beq d' && e.beq e'
    | .sl z e p, .sl z' e' p' => z.beq z' && decide (p = p') && sameAll (sameAV f) e e'
    | .iface t a, .iface u b => t.beq u && sameAV f a b
    | .agg a, .agg b => sameAll (sameAV f) a b
    | .tup a, .tup b => sameAll (sameAV f) a b
    | _, _ => false
def gsPutP (i : TI) (e : TypeId) (s : AV) (c : Nat) (new : List AV) : Res Plan :=
  match s with
  | .nils => match roomOk c i with
    | true => .ok (.new (.grow c e i.size new) fun k => .gs k i.size c)
    | false => .error "append: too long"
  | .sl z es .shut => match roomOk (es.length + c) i && z.beq i.size with
    | true => .ok (.new (.grow (es.length + c) e z (es ++ new)) fun k => .gs k z (es.length + c))
    | false => .error "append: too long"
  | .sl z es (.own k) => match roomOk (es.length + c) i && z.beq i.size with
    | true => .ok (.obj k fun o => match o with
      | .tok n e' => match n.beq es.length && e'.beq e with
        | true => .ok (.gs k z (es.length + c), some (.grow (es.length + c) e z (es ++ new)))
        | false => .error "append: not at the end"
      | _ => .error "append: no right to")
    | false => .error "append: too long"
  | .gs k z n => match roomOk (n + c) i && z.beq i.size with
    | true => .ok (.obj k fun o => match o with
      | .grow m e' z' es => match (n.beq m && n.beq es.length) && (e'.beq e && z'.beq z) with
        | true => .ok (.gs k z (n + c), some (.grow (n + c) e z (es ++ new)))
        | false => .error "append: not at the end"
      | _ => .error "append: no right to")
    | false => .error "append: too long"
  | _ => .error "append: to what?"
def gsAppendP (i : TI) (e : TypeId) (s : AV) (new : List AV) : Res Plan := do
  match new with
  | [] => .error "append: nothing"
  | v :: l => do
    let new ← fits (v :: l)
    match new.all (fun v => v.cells.length.beq i.size) with
    | false => .error "append: sizes"
    | true => match l.isEmpty && sameAV 1000 v (zeroV i) with
      | true => gsPutP i e s new.length []
      | false => gsPutP i e s new.length new
def msAppendP (i : TI) (e : TypeId) (s : AV) (new : List AV) : Res Plan := do
  match new with
  | [] => appendP i e s []
  | v :: l => do
    let new ← fits (v :: l)
    match new.all (fun v => v.cells.length.beq i.size) && roomOk new.length i with
    | false => .error "append: sizes"
    | true => match s with
      | .nils => .ok (.new (.cells (1000000 + e) (flat new)) fun k => .ms k 0 i.size new.length 0)
      | .es => .ok (.new (.cells (1000000 + e) (flat new)) fun k => .ms k 0 i.size new.length 0)
      | .sl _ [] .shut => .ok (.new (.cells (1000000 + e) (flat new)) fun k => .ms k 0 i.size new.length 0)
      | _ => .error "append: to what?"
def rowAppendP (i : TI) (e : TypeId) (s : AV) (new : List AV) : Res Plan := do
  match new with
  | [] => appendP i e s []
  | v :: l => do
    let new ← fits (v :: l)
    match new.all (fun v => v.cells.length.beq i.size) with
    | false => .error "append: sizes"
    | true => match s with
      | .nils => match roomOk new.length i with
        | true => .ok (.new (.row new.length e i.size (flat new)) fun k => .gs k i.size new.length)
        | false => .error "append: too long"
      | .gs k z n => match roomOk (n + new.length) i && z.beq i.size with
        | true => .ok (.obj k fun o => match o with
          | .row m e' z' cs => match n.beq m && (e'.beq e && z'.beq z) with
            | true => .ok (.gs k z (n + new.length), some (.row (n + new.length) e z (cs ++ flat new)))
            | false => .error "append: not at the end"
          | _ => .error "append: no right to")
        | false => .error "append: too long"
      | _ => .error "append: to what?"
def rowHeldP (i : TI) (e : TypeId) (s : AV) (z c : Nat) (new : List AV) : Res Plan :=
  match Nat.blt 0 c && z.beq i.size with
  | false => .error "append: nothing"
  | true => match s with
    | .nils => match roomOk c i with
      | true => .ok (.new (.row c e i.size new) fun k => .gs k i.size c)
      | false => .error "append: too long"
    | .gs k z n => match roomOk (n + c) i && z.beq i.size with
      | true => .ok (.obj k fun o => match o with
        | .row m e' z' cs => match n.beq m && (e'.beq e && z'.beq z) with
          | true => .ok (.gs k z (n + c), some (.row (n + c) e z (cs ++ new)))
          | false => .error "append: not at the end"
        | _ => .error "append: no right to")
      | false => .error "append: too long"
    | _ => .error "append: to what?"
def allStr : List AV → Bool
  | [] => true
  | .str _ :: l => allStr l
  | _ :: _ => false
def gsReadP (i : TI) (e : TypeId) (s : AV) (k z n : Nat) : Res Plan :=
  match s with
  | .sl y es .shut => match roomOk (es.length + n) i && (Nat.blt 0 n && (y.beq i.size && (z.beq i.size && Nat.beq i.size 1))) with
    | true => .ok (.obj k fun o => match o with
      | .row m e' z' cs => match (n.beq m && (e'.beq e && z'.beq z)) && allStr cs with
        | true => .ok (.sl y (es ++ cs) .wide, none)
        | false => .error "append: of what row?"
      | _ => .error "append: of no row")
    | false => .error "append: too long"
  | _ => .error "append: to what?"
def builtinP (T : TT) (imm : TypeId → Bool) (b : Builtin) (argTypes : List TypeId) (args : List AV) : Res Plan :=
  match b, argTypes, args with
  | .append, [t, xt], [s, x] => do
    match (← ti T t).und, notInt (← ti T xt).und with
    | .slice e, true => do
      let i ← ti T e
      match elemsV x with
      | some new => match imm (1000000 + t) with
        | true => gsAppendP i e s new
        | false => match imm (2000000 + t) with
          | true => msAppendP i e s new
          | false => match imm (3000000 + t) with
            | true => rowAppendP i e s new
            | false => appendP i e s new
      | none => match x with
        | .hs z c cs => match imm (3000000 + t) with
          | true => rowHeldP i e s z c cs
          | false => .error "append: of what holds names"
        | .gs k z n => match imm (3000000 + t) with
          | true => gsReadP i e s k z n
          | false => .error "append: of a row"
        | _ => .error "append: what?"
    | _, _ => .error "append: no slice type"
  | .len, t :: _, [x] => lenP T t x
  | .min, _, x :: l => do pure (.val (← minAll true x l))
  | .max, _, x :: l => do pure (.val (← minAll false x l))
  | .delete, t :: _, [m, k] => deleteP T t m k
  | _, _, _ => .error ("builtin " ++ toString (repr b))
def plan (T : TT) (prim : FuncId → Option Prim) (imm : TypeId → Bool) (G : Nat → Option (List AV)) (fr : Fr) (o : Op) : Res Plan :=
  let p (r : Res AV) : Res Plan := do pure (.val (← r))
  match o with
  | .move x | .assign x => p (evalO G fr x)
  | .pick c a b => p do
    match ← asBool (← evalO G fr c) with
    | true => evalO G fr a
    | false => evalO G fr b
  | .alloc t => do
    let i ← ti T t
    pure (.new (.cells t i.zero) fun k => .mp k 0)
  | .box t x => do boxP (imm t) t (← ti T t) (← evalO G fr x)
  | .build t parts => p do build T t (← evalParts G fr parts.toList)
  | .buildSlice t len parts => p do buildSlice T t len (← evalParts G fr parts.toList)
  | .makeSlice t l c => do makeSliceP T t (← evalO G fr l) (← evalO G fr c)
  | .load t a => do loadP (← ti T t) (← evalO G fr a)
  | .store t a x => do
    let i ← ti T t
    match ← evalO G fr a with
    | .gp k m off => do gpStoreP i k m off (← evalO G fr x)
    | a => do storeP i a (← evalO G fr x)
  | .nilCheck x => p do
    match ← evalO G fr x with
    | .ip c => pure (.ip c)
    | .mp i o => pure (.mp i o)
    | .gp k n o => pure (.gp k n o)
    | .fn (.func f) a c => pure (.fn (.func f) a c)
    | _ => .error "nilCheck"
  | .binOp op t x y _ => p do binOpN T op t y (← evalO G fr x) (← evalO G fr y)
  | .unOp op _ x => p do unOp op (← evalO G fr x)
  | .convert s d x => do convertP T s d (← evalO G fr x)
  | .makeInterface t x => p do
    match (← ti T t).und with
    | .iface _ | .other => .error "makeInterface"
    | _ => do pure (.iface t (← evalO G fr x))
  | .makeFunc f first cap => p do pure (.fn f (← evalL G fr first.toList) (← evalL G fr cap.toList))
  | .makeMap _ none => .ok (.new (.map []) fun k => .mm k)
  | .slice t x lo hi mx => match mx, hi with
    | some _, none => .error "slice: max without high"
    | _, _ => p do sliceV T t (← evalO G fr x) (← evalOpt G fr lo) (← evalOpt G fr hi) (← evalOpt G fr mx)
  | .fieldAddr t x f => p do fieldAddr T t (← evalO G fr x) f
  | .field t x f => p do field T t (← evalO G fr x) f
  | .indexAddr t x i => do
    match ← evalO G fr x with
    | .gs k z n => do gsIndexP T t k z n (← evalO G fr i)
    | x => p do indexAddr T t x (← evalO G fr i)
  | .index t x i => p do indexV T t (← evalO G fr x) (← evalO G fr i)
  | .lookup t x k ok => do lookupP T t (← evalO G fr x) (← evalO G fr k) ok
  | .mapUpdate t m k v | .insert t m k v => do mapUpdateP T t (← evalO G fr m) (← evalO G fr k) (← evalO G fr v)
  | .range t x => do
    match (← ti T t).und, ← evalO G fr x with
    | .str, .str s => pure (.new (.sit s 0) fun k => .mp k 0)
    | _, _ => .error "range"
  | .next x true => do nextP (← evalO G fr x)
  | .extract x i => p do
    match ← evalO G fr x with
    | .tup vs => nthAV vs i
    | _ => .error "extract"
  | .call c => do
    let args ← evalL G fr c.args.toList
    match c.callee with
    | .builtin b => builtinP T imm b c.argTypes.toList args
    | .value f => do
      match ← evalO G fr f with
      | .fn (.func g) first cap => match prim g with
        | some q => primP q (first ++ args ++ cap)
        | none => pure (.call g (first ++ args ++ cap))
      | .yld k => pure (.yield k args)
      | _ => .error "call: what?"
    | .invoke .. => .error "call: a method behind an interface"
  | _ => .error "an operation"
def sameObj : Obj → Obj → Bool
  | .cells t a, .cells u b => t.beq u && sameAll (sameAV 1000000000000000000) a b
  | .tok n e, .tok m d => n.beq m && e.beq d
  | .grow n e z a, .grow m d y b => n.beq m && e.beq d && z.beq y && sameAll (sameAV 1000000000000000000) a b
  | .row n e z a, .row m d y b => n.beq m && e.beq d && z.beq y && sameAll (sameAV 1000000000000000000) a b
  | _, _ => false
def sameAt (s t : St) (i : Nat) : Bool :=
  match s.get i, t.get i with
  | .ok a, .ok b => sameObj a b
  | _, _ => false
inductive Did where
  | kept
  | wrote (id : Nat) (o : Obj)
  | made (n : Nat) (o : Obj)
  | looked
  | all (st0 st : St)
structure Fx where
  reads : List Nat
  did : Did
def Did.app : Did → St → St
  | .kept, s => s
  | .looked, s => s
  | .wrote id o, s => s.put id o
  | .made _ o, s => (s.new o).2
  | .all _ s, _ => s
structure Caller where
  full : FuncId → Bool
  bare : FuncId → List AV → Res AV
  wide : FuncId → List AV → St → Res (AV × St)
  isLook : FuncId → Bool
  look : FuncId → List AV → St → Res AV
  round : Nat → List AV → St → Res (AV × St)
def didOf (st : St) (id : Nat) : Option Obj → Res Did
  | none => .ok .kept
  | some o => match id.blt st.ro with
    | true => .error "a write to what is only read"
    | false => .ok (.wrote id o)
def runPlan (C : Caller) (st : St) (p : Plan) : Res (AV × Fx) :=
  match p with
  | .val v => .ok (v, ⟨[], .kept⟩)
  | .obj id f => do
    let (v, o) ← f (← st.get id)
    pure (v, ⟨[id], ← didOf st id o⟩)
  | .both id k f => do
    let o ← st.get id
    match ← k o with
    | none => do pure (← f o none, ⟨[], .looked⟩)
    | some j => match st.ro.ble j with
      | true => do
        let o' ← st.get j
        pure (← f o (some o'), ⟨[], .looked⟩)
      | false => .error "both: not ours"
  | .new o f => .ok (f st.h, ⟨[], .made st.h o⟩)
  | .call f args =>
    let args' := args.map strip
    match bares args' && !C.full f with
    | true => do pure (← C.bare f args', ⟨[], .kept⟩)
    | false => match C.isLook f with
      | true => do pure (← C.look f args' st, ⟨[], .looked⟩)
      | false => do
        let (v, s) ← C.wide f args st
        pure (v, ⟨[], .all st s⟩)
  | .yield k args => do
    let (v, s) ← C.round k args st
    pure (v, ⟨[], .all st s⟩)
def wanted (ops : List Oper) (fr : Fr) (g : Option (Nat × Bool)) : Bool :=
  match g with
  | none => true
  | some (j, want) => match (ops[j]?).bind (·.dst) with
    | some d => match fr.get d with
      | .bool b => b == want
      | _ => false
    | none => false
structure Cx where
  T : TT
  prim : FuncId → Option Prim
  imm : TypeId → Bool
  G : Nat → Option (List AV)
  C : Caller
def oper (X : Cx) (all : List Oper) (fr : Fr) (st : St) (o : Oper) : Res (AV × Fx) :=
  match wanted all fr o.guard with
  | true => do runPlan X.C st (← plan X.T X.prim X.imm X.G fr o.op)
  | false => .ok (undef, ⟨[], .kept⟩)
def Did.isKept : Did → Bool
  | .kept => true
  | _ => false
def apart (a b : Fx) : Bool :=
  match a.did, b.did with
  | .all s t, .kept => b.reads.all (sameAt s t)
  | .kept, .all s t => a.reads.all (sameAt s t)
  | .looked, .wrote .. | .looked, .made .. => b.reads.isEmpty && b.did.isKept
  | .wrote .., .looked | .made .., .looked => a.reads.isEmpty && a.did.isKept
  | .looked, .kept | .kept, .looked | .looked, .looked => true
  | .all .., _ | _, .all .. => false
  | .made .., .made .. => false
  | .kept, .kept => true
  | .wrote i _, .kept | .made i _, .kept => !b.reads.contains i
  | .kept, .wrote i _ | .kept, .made i _ => !a.reads.contains i
  | .wrote i _, .wrote j _ | .wrote i _, .made j _ | .made i _, .wrote j _ => !i.beq j && !b.reads.contains i && !a.reads.contains j
def behind (ops : List Oper) : (fuel : Nat) → (j i : Nat) → Bool
  | 0, _, _ => false
  | f + 1, j, i => match ops[j]? with
    | some o => o.after.toList.any fun e => Region.binds .any e && (e.on.beq i || (i.blt e.on && behind ops f e.on i))
    | none => false
def quiet (x : Fx) : Bool := match x.did with | .kept => x.reads.isEmpty | _ => false
def orderly (ops : List Oper) (j : Nat) (x : Fx) : List (Nat × Fx) → Bool
  | [] => true
  | (i, y) :: l => (apart y x || behind ops (j + 1) j i) && orderly ops j x l
def opsFrom (X : Cx) (all : List Oper) (draw : Bool) : (j : Nat) → (seen : List (Nat × Fx)) → List Oper → Fr → St → Res (Fr × St)
  | _, _, [], fr, st => .ok (fr, st)
  | j, seen, o :: l, fr, st => do
    let (v, x) ← oper X all fr st o
    match draw && !quiet x with
    | false => opsFrom X all draw (j + 1) seen l (fr.put o.dst v) (x.did.app st)
    | true => match orderly all j x seen with
      | true => opsFrom X all draw (j + 1) ((j, x) :: seen) l (fr.put o.dst v) (x.did.app st)
      | false => .error "an order that Go leaves open"
def eggsOf : List Oper → List Nat
  | [] => []
  | o :: l => match o.op, o.dst with
    | .alloc _, some d => d :: eggsOf l
    | _, _ => eggsOf l
def eggAt (h : Nat) : List Nat → Nat → Option Nat
  | [], _ => none
  | d :: l, e => match d.beq e with
    | true => some h
    | false => eggAt (h + 1) l e
def St.lay (st : St) : List Nat → St
  | [] => st
  | _ :: l => St.lay (st.new .egg).2 l
def hatch (T : TT) (t : TypeId) (nm : Nat) (st : St) : Res (AV × Fx) := do
  let i ← ti T t
  match ← st.get nm with
  | .egg => match st.ro.ble nm with
    | true => .ok (.mp nm 0, ⟨[nm], .wrote nm (.cells t i.zero)⟩)
    | false => .error "hatch: not ours"
  | _ => .error "hatch: no egg"
def hatchOf (e : Nat → Option Nat) (o : Oper) : Option (TypeId × Nat) :=
  match o.dst with
  | none => none
  | some d => match e d with
    | none => none
    | some nm => match o.op with
      | .alloc t => some (t, nm)
      | _ => none
def operE (X : Cx) (e : Nat → Option Nat) (all : List Oper) (fr : Fr) (st : St) (o : Oper) : Res (AV × Fx) :=
  match wanted all fr o.guard with
  | true => match hatchOf e o with
    | some (t, nm) => hatch X.T t nm st
    | none => do runPlan X.C st (← plan X.T X.prim X.imm X.G fr o.op)
  | false => .ok (undef, ⟨[], .kept⟩)
def opsFromE (X : Cx) (e : Nat → Option Nat) (all : List Oper) : (j : Nat) → (seen : List (Nat × Fx)) → List Oper → Fr → St → Res (Fr × St)
  | _, _, [], fr, st => .ok (fr, st)
  | j, seen, o :: l, fr, st => do
    let (v, x) ← operE X e all fr st o
    match !quiet x with
    | false => opsFromE X e all (j + 1) seen l (fr.put o.dst v) (x.did.app st)
    | true => match orderly all j x seen with
      | true => opsFromE X e all (j + 1) ((j, x) :: seen) l (fr.put o.dst v) (x.did.app st)
      | false => .error "an order that Go leaves open"
def iter (body : Fr → St → Res (Ex × Fr × St)) : Nat → Fr → St → Res (Ex × Fr × St)
  | 0, _, _ => .error "out of fuel"
  | n + 1, fr, st => do
    match ← body fr st with
    | (.normal, fr, st) => iter body n fr st
    | r => pure r
def elemN (n : Nat) : List Nat → Bool
  | [] => false
  | m :: l => n.beq m || elemN n l
def dedup : List Nat → List Nat
  | [] => []
  | i :: l => match elemN i l with
    | true => dedup l
    | false => i :: dedup l
def sansN (ws : List Nat) : List Nat → List Nat
  | [] => []
  | i :: l => match elemN i ws with
    | true => sansN ws l
    | false => i :: sansN ws l
def opdUses : Operand → List Nat
  | .tmp t => [t]
  | _ => []
def opdsUses : List Operand → List Nat
  | [] => []
  | x :: l => opdUses x ++ opdsUses l
def operUses (all : List Oper) : List Oper → List Nat
  | [] => []
  | o :: l => opdsUses o.op.operands.toList ++ operUses all l
def operWrites : List Oper → List Nat
  | [] => []
  | o :: l => match o.dst with
    | some d => d :: operWrites l
    | none => operWrites l
def uses : Code → List Nat
  | .region _ ops _ => operUses ops.toList ops.toList
  | .seq a b => uses a ++ uses b
  | .cond c a b => opdUses c ++ (uses a ++ uses b)
  | .block _ c => uses c
  | .loop c => uses c
  | .scope c => uses c
  | .rangeFunc g _ a c => opdUses g ++ (uses a ++ uses c)
  | _ => []
def writes : Code → List Nat
  | .region _ ops _ => operWrites ops.toList
  | .seq a b => writes a ++ writes b
  | .cond _ a b => writes a ++ writes b
  | .block _ c => writes c
  | .loop c => writes c
  | .scope c => writes c
  | _ => []
def capsOf (ps : List Nat) (a c : Code) : List Nat := dedup (sansN (ps ++ (writes a ++ writes c)) (uses a ++ uses c))
def putPairs : List Nat → List AV → Tr AV → Tr AV
  | i :: l, v :: vs, t => putPairs l vs (t.put i v)
  | _, _, t => t
def getEach (fr : Fr) : List Nat → List AV
  | [] => []
  | i :: l => fr.get i :: getEach fr l
def frOf (n : Nat) (us : List Nat) (vs : List AV) : Fr := ⟨n, putPairs us vs .leaf, true⟩
def plainOps : List Oper → Bool
  | [] => true
  | o :: l => match o.guard with
    | none => plainOps l
    | some _ => false
def straight : Code → Bool
  | .region _ ops _ => plainOps ops.toList
  | .seq a b => straight a && straight b
  | .cond _ a b => straight a && straight b
  | .block _ c => straight c
  | .loop c => straight c
  | .skip => true
  | .label _ => true
  | .exit _ => true
  | .ret => true
  | _ => false
def putArgs : List Nat → List AV → Fr → Fr
  | i :: l, v :: vs, fr => putArgs l vs (fr.put (some i) v)
  | _, _, fr => fr
def setLoop (k s0 s1 : Nat) (p : Ex) (st : St) : Res St := do
  match ← st.get k with
  | .loop imm ps a c fr s _ => match s.beq s0 with
    | true => .ok (st.put k (.loop imm ps a c fr s1 p))
    | false => .error "a round: out of turn"
  | _ => .error "a round: of what?"
def exec (X : Cx) (n : Nat) : Code → Fr → St → Res (Ex × Fr × St)
  | .skip, fr, st => .ok (.normal, fr, st)
  | .region _ ops draw, fr, st => match draw && X.imm 4000000 with
    | false => do
      let (fr, st) ← opsFrom X ops.toList draw 0 [] ops.toList fr st
      pure (.normal, fr, st)
    | true => do
      let (fr, st) ← opsFromE X (eggAt st.h (eggsOf ops.toList)) ops.toList 0 [] ops.toList fr (st.lay (eggsOf ops.toList))
      pure (.normal, fr, st)
  | .seq a b, fr, st => do
    match ← exec X n a fr st with
    | (.normal, fr, st) => exec X n b fr st
    | r => pure r
  | .cond c a b, fr, st => do
    match ← asBool (← evalO X.G fr c) with
    | true => exec X n a fr st
    | false => exec X n b fr st
  | .block id c, fr, st => do
    match ← exec X n c fr st with
    | (.exit i, fr, st) => match i.beq id with
      | true => pure (.normal, fr, st)
      | false => pure (.exit i, fr, st)
    | r => pure r
  | .loop c, fr, st => iter (exec X n c) n fr st
  | .exit id, fr, st => .ok (.exit id, fr, st)
  | .label _, fr, st => .ok (.normal, fr, st)
  | .ret, fr, st => .ok (.ret, fr, st)
  | .scope c, fr, st => exec X n c fr st
  | .rangeFunc g ps a c, fr, st => match fr.strict with
    | true => .error "a loop in a round"
    | false => do
      match ← evalO X.G fr g with
      | .fn (.func f) [] cap => do
        let us := capsOf ps.toList a c
        let (_, st1) ← X.C.wide f (.yld st.h :: cap) (st.new (.loop X.imm ps.toList a c (frOf fr.n us (getEach fr us)) 0 .normal)).2
        match ← st1.get st.h with
        | .loop _ _ _ _ _ s p => match s.beq 0 || s.beq 2 with
          | true => pure (p, fr, st1.put st.h .dead)
          | false => .error "a loop: out of turn"
        | _ => .error "a loop: of what?"
      | _ => .error "a range over what?"
  | _, _, _ => .error "code"
def roundE (X : Cx) (n k : Nat) (a c : Code) (fr : Fr) (st : St) : Res (AV × St) := do
  match ← exec X n a fr st with
  | (.normal, fr1, st1) => do
    let st2 ← setLoop k 0 1 .normal st1
    let (ex, _, st3) ← exec X n c fr1 st2
    match ex with
    | .normal => do pure (.bool true, ← setLoop k 1 0 .normal st3)
    | ex => do pure (.bool false, ← setLoop k 1 2 ex st3)
  | _ => .error "a round: its beginning"
def putAll : Nat → List AV → Tr AV → Tr AV
  | _, [], t => t
  | i, v :: l, t => putAll (i + 1) l (t.put i v)
def frameOf (n : Nat) (args : List AV) : Fr := ⟨n, putAll 0 args .leaf, false⟩
def resultOf (T : TT) (fr : Fr) (st : St) : ResultVar → Res AV
  | .tmp t => .ok (fr.get t)
  | .cell a t => do
    match ← loadP (← ti T t) (fr.get a) with
    | .val v => pure v
    | .obj id f => do
      let (v, _) ← f (← st.get id)
      pure v
    | _ => .error "result"
def resultsOf (T : TT) (fr : Fr) (st : St) : List ResultVar → Res (List AV)
  | [] => .ok []
  | r :: l => do pure ((← resultOf T fr st r) :: (← resultsOf T fr st l))
def oneOf : List AV → AV
  | [v] => v
  | vs => .tup vs
def body (X : Cx) (n : Nat) (fn : Func) (args : List AV) (st : St) : Res (AV × St) :=
  match fn.body with
  | none => .error ("no body: " ++ fn.name)
  | some c =>
    match args.length.ble fn.ntmps with
    | false => .error "too many arguments"
    | true => do
      match ← exec X n c (frameOf fn.ntmps args) st with
      | (.normal, fr, st) | (.ret, fr, st) => do
        pure (oneOf (← resultsOf X.T fr st fn.results.toList), st)
      | _ => .error "exit out of a body"
structure Env where
  T : TT
  F : FuncId → Option Func
  prim : FuncId → Option Prim
  full : FuncId → Bool
  isLook : FuncId → Bool
  imm : FuncId → TypeId → Bool
  G : Nat → Option (List AV)
  memo : FuncId → List (List AV × AV)
  rule : FuncId → Option (List AV → Option AV) := fun _ => none
  wrule : FuncId → Option (List AV → St → Res (AV × St)) := fun _ => none
def findMemo (args : List AV) : List (List AV × AV) → Option AV
  | [] => none
  | (a, v) :: l => match sameAll (sameAV 1000) a args with
    | true => some v
    | false => findMemo args l
def Env.known (E : Env) (f : FuncId) (args : List AV) : Option AV :=
  match E.rule f with
  | some r => r args
  | none => findMemo args (E.memo f)
def caller (E : Env) : Nat → Caller
  | 0 => ⟨E.full, fun _ _ => .error "out of fuel", fun _ _ _ => .error "out of fuel", E.isLook, fun _ _ _ => .error "out of fuel", fun _ _ _ => .error "out of fuel"⟩
  | n + 1 => ⟨E.full,
    fun f args =>
      match E.known f args with
      | some v => .ok v
      | none => match E.F f with
        | none => .error "no such function"
        | some fn => do
          let (v, s) ← body ⟨E.T, E.prim, E.imm f, E.G, caller E n⟩ n fn args St.empty
          let v ← freeze s 0 100 v
          match bare v with
          | true => pure v
          | false => .error "call: what it hands back",
    fun f args st =>
      match E.F f with
      | none => match E.wrule f with
        | some r => r args st
        | none => .error "no such function"
      | some fn => do
        let (v, s) ← body ⟨E.T, E.prim, E.imm f, E.G, caller E n⟩ n fn args st
        pure (v, s),
    E.isLook,
    fun f args st =>
      match E.F f with
      | none => .error "no such function"
      | some fn => do
        let (v, s) ← body ⟨E.T, E.prim, E.imm f, E.G, caller E n⟩ n fn args ⟨st.h, st.h, st.objs⟩
        let v ← freeze s st.h 100 v
        match bare v with
        | true => pure v
        | false => .error "look: what it hands back",
    fun k args st => do
      match ← st.get k with
      | .loop imm ps a c fr s _ => match (s.beq 0 && st.ro.ble k) && (args.length.beq ps.length && (straight a && straight c)) with
        | true => roundE ⟨E.T, E.prim, imm, E.G, caller E n⟩ n k a c (putArgs ps args fr) st
        | false => .error "a round: out of turn"
      | _ => .error "a round: of what?"⟩
end Go.VM
