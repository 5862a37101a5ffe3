/-
  A part of the proof.
-/
import Derived.Test.YthapbjoekpbhgaaGreatDoorVmAG
import Derived.Test.YthapbjoekpbhgaaGreatDoorProg
import Derived.WalkKit
import Derived.Deep.LoopGhost
import Derived.Deep.RegionLaw
import Derived.Lib.Walk
import Derived.Sort.WalkB12
import Derived.Lib.SliceRun
import Derived.Shelf.RegionOpenPlain
import Derived.KernelRfl
set_option linter.unusedSimpArgs false
/- slices.Grow of no slice of nodes, walked. -/
namespace Go.Proofs.YthapbjoekpbhgaaGreatDoor.Vm
open Go Go.Proofs Go.Lib Go.RowKit
theorem zc_size (n : Nat) : (Builtin.zeroCells #[.int .u8 0, .int .u8 0, .string ⟨#[]⟩, .slice none 0 0] n).size = n * 4 := by
  simp [Builtin.zeroCells]
set_option maxHeartbeats 4000000 in
set_option maxRecDepth 1000000 in
theorem run_grow0 (n : Nat) (w : World) (h1 : 1 ≤ n) (h2 : n ≤ 1000000) : Calls Tryz.prog 26 #[.slice none 0 0, .int .i64 (n : Int)] w fun x w' => Below w.heap.size w w' ∧ ∃ b cap cur, x = .returned (.slice (some ⟨b, 0, none⟩) 0 cap) ∧ w.heap.size ≤ b ∧ w'.heap[b]? = some (.cells cur 43 (0, 0)) ∧ cur.size = cap * 4 := by
  have hw : IntKind.i64.wrap (n : Int) = (n : Int) := by rw [IntKind.wrap_i64]; omega
  have a1 : ¬ (n : Int) < 0 := by omega
  have a2 : (0 : Int) < (n : Int) := by omega
  have h56 : Tryz.t43.bytes = 56 := by kernel_rfl
  have hnx : Builtin.nextslicecap n 0 = n := by
    unfold Builtin.nextslicecap; split <;> omega
  have hge : n ≤ grownCap w n 0 43 := VM.grownCap_ge
  go_enter Tryz.func26, Tryz.ntmps26
  go_wp2_with fail
  have hge : n ≤ (Question.appendCap n 0 43).cut (w.tape w.drawn (Question.appendCap n 0 43)) := hge
  generalize (Question.appendCap n 0 43).cut (w.tape w.drawn (Question.appendCap n 0 43)) = cap at *
  go_ret
  have e : ∀ o : Obj, (w.alloc o).drew.heap = w.heap.push o := fun o => rfl
  refine ⟨⟨rfl, rfl, rfl, ?_, fun b hb => ?_⟩, w.heap.size, cap, rfl, Nat.le_refl _, ?_⟩
  · rw [e]
    simp
  · rw [e, Array.getElem?_push_lt hb]
    simp [hb]
  · rw [e]
    exact ⟨_, Array.getElem?_push_size, by rw [Array.size_append, zc_size, zc_size]; omega⟩
end Go.Proofs.YthapbjoekpbhgaaGreatDoor.Vm
