/-
  A part of the proof.
-/
import Derived.Test.YtlfilkniobkbiaaDoorVmBC
import Derived.Lib.LaidU8
import Derived.MakeChecks
/- What a row says of the tables. -/
namespace Go.VM
open Go.Lib Go.MakeChecks
end Go.VM
/- Tables of an environment by what they are made of: types by the program's own, functions by a list of numbers, the rest by lists of pairs. -/
namespace Go.VM
/-- What a list of pairs holds at a number. -/
def lookP {α : Type} : List (Nat × α) → Nat → Option α
  | [], _ => none
  | (k, v) :: l, i => match k.beq i with
    | true => some v
    | false => lookP l i
def AllP {α : Type} (p : Nat → α → Prop) : List (Nat × α) → Prop
  | [] => True
  | (k, v) :: l => p k v ∧ AllP p l
theorem lookP_all {α : Type} {p : Nat → α → Prop} : ∀ {l : List (Nat × α)}, AllP p l → ∀ k v, lookP l k = some v → p k v
  | [], _, _, _, h => by cases h
  | (j, u) :: l, ha, k, v, h => by
    unfold lookP at h
    split at h
    · rename_i e
      cases h
      obtain rfl := Nat.eq_of_beq_eq_true e
      exact ha.1
    · exact lookP_all ha.2 k v h
/-- The functions of these numbers. -/
def fnsOf (P : Program) (l : List Nat) (k : Nat) : Option Func := match l.any fun j => k.beq j with
  | true => P.funcs[k]?
  | false => none
def fnGood (fn : Func) : Bool := !(fn.name == "runtime.NumGoroutine") && (fn.body.isSome && fn.body.all codeOk)
theorem fns_ok {P : Program} {l : List Nat} {d : Nat} (hc : (l.all fun k => match P.funcs[k]? with
    | some fn => fnGood fn
    | none => true) = true) (f : FuncId) (fn : Func) (h : (Tr.of d (fnsOf P l)).get f = some fn) : FnOk P f fn := by
  have h := Tr.get_of _ _ _ _ h
  unfold fnsOf at h
  split at h
  · rename_i ha
    obtain ⟨j, hj, e⟩ := List.any_eq_true.1 ha
    obtain rfl := Nat.eq_of_beq_eq_true e
    have hg := List.all_eq_true.1 hc f hj
    rw [h] at hg
    simp only [fnGood, Bool.and_eq_true, Bool.not_eq_true', beq_eq_false_iff_ne, ne_eq] at hg
    obtain ⟨h1, h2, h3⟩ := hg
    cases hb : fn.body with
    | none => rw [hb] at h2; cases h2
    | some c =>
      refine ⟨h, fun args w => ?_, fun c' hc' => ?_⟩
      · simp [callFunc, h, h1, hb]
      · rw [hc'] at h3; exact h3
  · cases h
end Go.VM
