/-
  A part of the proof.
-/
import Derived.Test.YtlfilkniobkbiaaDoorVmBC
import Derived.DataReads
import Derived.DataElems
/- Arguments: what reads az a datum at a type is a value of that type, and lies in memory that the call does not change. -/
namespace Go.VM
open Go.RowKit Go.ChangeShapes
def tiles (P : Program) (n : Nat) : Nat → List Field → Bool
  | off, [] => off.beq n
  | off, f :: fs => f.offset.beq off && tiles P n (off + P.cellsOf f.type) fs
def inS (S : List TypeId) (t : TypeId) : Bool := S.any fun u => Nat.beq u t
/-- May a type be read so? (Its parts are among S.) -/
def okTy (P : Program) (S : List TypeId) (t : TypeId) : Bool :=
  match P.underlying t with
  | some .bool => (P.cellsOf t).beq 1
  | some (.int _) => (P.cellsOf t).beq 1
  | some .string => (P.cellsOf t).beq 1
  | some (.slice e) => (P.cellsOf t).beq 1 && (inS S e && Nat.ble 1 (P.cellsOf e))
  | some (.struct fs) => fs.toList.all (fun f => inS S f.type) && tiles P (P.cellsOf t) 0 fs.toList
  | _ => false
/-- What is known of them. -/
structure AvIn (P : Program) (w : World) (agg : Bool) (z : Nat) (az : List AV) (cs : List Value) : Prop where
  rel : RL (oldGh w) az cs
  bare : bares az = true
  ones : ones az = true
  one : ∀ x ∈ cs, x.oneCell' = true
  len : cs.length = z
  agg : agg = false → az.length = 1
section
variable {H : Type} {enc : TypeId × Value → H} {P : Program} {w : World} {sp : Nat → Bool} {held : Bool} {S : List TypeId}
end
end Go.VM
