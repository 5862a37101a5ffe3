/-
  (A part of the proof: LibP.)
-/
import Derived.Test.YtoopmjhdgkcleaaVmBB
import Derived.Below
import Derived.Lib.Repeat
import Derived.Lib.RuneCount
import Derived.Lib.ValidU
/- Functions of the library, by their contracts: what they compute. -/
namespace Go.VM
open Go.RowKit

section
variable {P : Program} {T : TT} {G : Nat → Option (List AV)} {A : Nat → Prop} {g : Gh} {st : St} {w : World}
theorem Inv.below {w' : World} (h : Inv T A g st w) (hB : Below w.heap.size w w') : Inv T A g st w' := h.world hB.size fun b hb => hB.block b hb
theorem Kp.below {w' : World} (h : Inv T A g st w) (hB : Below w.heap.size w w') : Kp A g w g w' :=
  ⟨hB.size, fun b hb => hB.block b (Nat.lt_of_not_le fun k => hb (h.up b k)), fun _ _ _ => rfl, fun _ _ => rfl, Le.refl g, hB.os, hB.tape, hB.output⟩
end
end Go.VM
