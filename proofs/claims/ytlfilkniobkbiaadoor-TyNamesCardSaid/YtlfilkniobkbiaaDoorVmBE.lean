/-
  A part of the proof.
-/
import Derived.Test.YtlfilkniobkbiaaDoorVmBB
import Derived.Below
import Derived.Lib.Repeat
import Derived.Lib.RuneCount
import Derived.Lib.ValidU
/- Functions of the library, by their contracts: what they compute. -/
namespace Go.VM
open Go.RowKit
section
variable {P : Program} {T : TT} {G : Nat → Option (List AV)} {A : Nat → Prop} {g : Gh} {st : St} {w : World}
theorem Inv.below {w' : World} (h : Inv T A g st w) (hB : Below w.heap.size w w') : Inv T A g st w' := h.world hB.size fun b hb => hB.block b hb
theorem Kp.below {w' : World} (h : Inv T A g st w) (hB : Below w.heap.size w w') : Kp A g w g w' :=
  ⟨hB.size, fun b hb => hB.block b (Nat.lt_of_not_le fun k => hb (h.up b k)), fun _ _ _ => rfl, fun _ _ => rfl, Le.refl g, hB.os, hB.tape, hB.output⟩
/-- A contract of the library. -/
theorem lib_prim {f : FuncId} {F : List AV → Res AV} (hcall : ∀ args w, (callFunc f args).run P w = .ok (.enter f args) w)
    (h : ∀ args v, F args = .ok v → ∀ A g st w xs, GR g G → RL g args xs → Inv T A g st w → Calls P f xs.toArray w fun e w' => (∃ x, e = .returned x ∧ R g v x) ∧ Below w.heap.size w w') : OnePrim P T G f (.lib F) := by
  intro C args p v fx st A g w xs hG hp hr hx hi
  unfold primP at hp
  split at hp
  all_goals first | (rename_i hq; cases hq; done) | skip
  all_goals simp only [Prim.lib.injEq, reduceCtorEq] at *
  all_goals first | contradiction | skip
  all_goals try subst_vars
  all_goals
    split at hp
    · rename_i u hu
      cases hp
      obtain ⟨rfl, rfl⟩ := run_val hr
      refine .inr ⟨hcall _ _, (h _ _ hu A g st w xs hG hx hi).mono ?_⟩
      rintro e w' ⟨⟨x, rfl, hR⟩, hB⟩
      exact ⟨x, rfl, g, hR, hi.below hB, Kp.below hi hB⟩
    · cases hp
theorem str_of {s : List UInt8} {x : Value} (h : R g (.str s) x) : x = .string ⟨s.toArray⟩ := by simpa only [R] using h
theorem int_of {k : IntKind} {n : Int} {x : Value} (h : R g (.int k n) x) : x = .int k n := by simpa only [R] using h
theorem R_str (s : List UInt8) : R g (.str s) (.string ⟨s.toArray⟩) := by simp only [R]
end
end Go.VM
