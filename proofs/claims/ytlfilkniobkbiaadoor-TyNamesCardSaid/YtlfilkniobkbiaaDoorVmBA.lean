/-
  A part of the proof.
-/
import Derived.Test.YtlfilkniobkbiaaDoorVmAJ
/- strings.Builder: what is written, and what it holds. -/
namespace Go.VM
open Go
/-- A builder's buffer. -/
def BufOk (st : St) (u8 : TypeId) (a : AV) (out : List UInt8) : Prop := (a = .nils ∧ out = []) ∨ ∃ k, a = .sl 1 (ofBytes out) (.own k) ∧ st.get k = .ok (.tok out.length u8) ∧ st.ro ≤ k ∧ out ≠ []
/-- A builder among other cells. -/
def IsB (st : St) (T u8 : TypeId) (p : Nat) (pre post : List AV) (out : List UInt8) : Prop :=
  ∃ a0 a1, st.get p = .ok (.cells T (pre ++ a0 :: a1 :: post)) ∧ (a0 = .nilp ∨ a0 = .mp p pre.length) ∧ BufOk st u8 a1 out ∧ st.ro ≤ p
/-- What else there is stays, but for owners of bytes. -/
structure KeepsB (st st' : St) (u8 : TypeId) (p : Nat) : Prop where
  ro : st'.ro = st.ro
  h : st.h ≤ st'.h
  old : ∀ j o, j ≠ p → (∀ n, o ≠ .tok n u8) → st.get j = .ok o → st'.get j = .ok o
theorem KeepsB.refl (st : St) (u8 : TypeId) (p : Nat) : KeepsB st st u8 p := ⟨rfl, Nat.le_refl _, fun _ _ _ _ h => h⟩
theorem KeepsB.trans {a b c : St} {u8 : TypeId} {p : Nat} (h : KeepsB a b u8 p) (k : KeepsB b c u8 p) : KeepsB a c u8 p :=
  ⟨k.ro.trans h.ro, Nat.le_trans h.h k.h, fun j o hj ho hg => k.old j o hj ho (h.old j o hj ho hg)⟩
theorem KeepsB.put {st : St} {u8 : TypeId} {p : Nat} {o : Obj} : KeepsB st (st.put p o) u8 p := ⟨rfl, Nat.le_refl _, fun j x hj _ hg => by rw [St.get_put_ne (fun e => hj e.symm)]; exact hg⟩
theorem IsB.keep {st st' : St} {T u8 : TypeId} {p : Nat} {pre post : List AV} {out : List UInt8} (h : IsB st T u8 p pre post out) (k : Keeps st st' fun _ => False) : IsB st' T u8 p pre post out := by
  obtain ⟨a0, a1, h1, h2, h3, h4⟩ := h
  refine ⟨a0, a1, k.old _ _ (fun h => h) h1, h2, ?_, by rw [k.ro]; exact h4⟩
  rcases h3 with h3 | ⟨j, e, hj, hr, hn⟩
  · exact .inl h3
  · exact .inr ⟨j, e, k.old _ _ (fun h => h) hj, by rw [k.ro]; exact hr, hn⟩
theorem BufOk.put {st : St} {u8 : TypeId} {a : AV} {out : List UInt8} {p : Nat} {T : TypeId} {cs cs' : List AV} (h : BufOk st u8 a out) (hp : st.get p = .ok (.cells T cs)) : BufOk (st.put p (.cells T cs')) u8 a out := by
  rcases h with h | ⟨k, h1, h2, h3, h4⟩
  · exact .inl h
  · refine .inr ⟨k, h1, ?_, h3, h4⟩
    have : p ≠ k := by rintro rfl; rw [hp] at h2; cases h2
    rw [St.get_put_ne this]; exact h2
section
variable {β : Type} {O : Orc}
end
end Go.VM
