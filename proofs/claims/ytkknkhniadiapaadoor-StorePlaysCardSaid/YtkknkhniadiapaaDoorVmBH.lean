/-
  A part of the proof.
-/
import Derived.Test.YtkknkhniadiapaaDoorVmBE
import Derived.Shelf.Unicode.DecodeSlow
import Derived.Lib.TrimUEq
namespace Go.VM
open Go.RowKit
section
variable {P : Program} {T : TT} {G : Nat → Option (List AV)} {A : Nat → Prop} {g : Gh} {st : St} {w : World}
theorem cell_of_RAt {l : List AV} {b : Nat} : ∀ {o : Nat}, RAt g l b o → ∀ {j : Nat} {k : IntKind} {n : Int}, l[j]? = some (.int k n) → g.F b (o + j) = some (.int k n) := by
  induction l with
  | nil => intro o _ j k n h; simp at h
  | cons v l ih =>
    intro o h j k n hj
    simp only [RAt] at h
    obtain ⟨⟨x, h1, _, h2⟩, h3⟩ := h
    cases j with
    | zero =>
      simp at hj
      subst hj
      rw [int_of h2] at h1
      exact h1
    | succ j =>
      have := ih h3 (j := j) (by simpa using hj)
      rw [← this]; congr 1; omega
theorem utf8Tabs_of {g3 g4 : Nat} {c3 c4 : List AV} (h3 : G g3 = some c3) (h4 : G g4 = some c4) (e3 : c3 = (List.range 256).map fun c => AV.int .u8 (Lib.firstT c))
    (e4 : c4 = (List.range 16).flatMap fun i => [AV.int .u8 (Lib.accLo i), AV.int .u8 (Lib.accHi i)]) (hG : GR g G) (hi : Inv T A g st w) : Lib.Utf8Tabs g3 g4 w := by
  have r3 := (hG _ _ h3).2.1
  have r4 := (hG _ _ h4).2.1
  constructor
  · intro c hc
    have : c3[c]? = some (.int .u8 (Lib.firstT c)) := by rw [e3]; simp [hc]
    have := cell_of_RAt r3 this
    rw [Nat.zero_add] at this
    exact hi.F _ _ _ this
  · intro i hi2
    have a : ∀ j, j < 2 → c4[2 * i + j]? = [AV.int .u8 (Lib.accLo i), AV.int .u8 (Lib.accHi i)][j]? := by
      have : ∀ i : Fin 16, ∀ j : Fin 2, ((List.range 16).flatMap fun i => [(Lib.accLo i, true), (Lib.accHi i, false)])[2 * i.val + j.val]? = [(Lib.accLo i.val, true), (Lib.accHi i.val, false)][j.val]? := by decide
      intro j hj
      have := congrArg (Option.map fun p : Nat × Bool => AV.int .u8 (p.1 : Int)) (this ⟨i, hi2⟩ ⟨j, hj⟩)
      rw [← List.getElem?_map, ← List.getElem?_map, List.map_flatMap] at this
      rw [e4]
      simpa using this
    have a0 := a 0 (by omega)
    have a1 := a 1 (by omega)
    simp only [List.getElem?_cons_zero, List.getElem?_cons_succ, Nat.add_zero] at a0 a1
    have b0 := cell_of_RAt r4 a0
    have b1 := cell_of_RAt r4 a1
    rw [Nat.zero_add] at b0 b1
    exact ⟨hi.F _ _ _ b0, hi.F _ _ _ b1⟩
theorem valid_prim {f : FuncId} {g3 g4 : Nat} {c3 c4 : List AV} (hcall : ∀ args w, (callFunc f args).run P w = .ok (.enter f args) w)
    (h : ∀ (s : ByteArray) (w : World), s.size ≤ 9223372036854775807 → Lib.Utf8Tabs g3 g4 w → Calls P f #[.string s] w fun e w' => e = .returned (.bool (Lib.validD s.data.toList)) ∧ Below w.heap.size w w')
    (h3 : G g3 = some c3) (h4 : G g4 = some c4) (e3 : c3 = (List.range 256).map fun c => AV.int .u8 (Lib.firstT c)) (e4 : c4 = (List.range 16).flatMap fun i => [AV.int .u8 (Lib.accLo i), AV.int .u8 (Lib.accHi i)]) : OnePrim P T G f (.lib libValid) := by
  refine lib_prim hcall fun args v hF A g st w xs hG hx hi => ?_
  unfold libValid at hF
  split at hF
  · rename_i s
    split at hF
    · rename_i hk
      cases hF
      obtain ⟨x, rfl, h1⟩ := RL1 hx
      rw [str_of h1]
      refine (h ⟨s.toArray⟩ w (by simpa [ByteArray.size] using Nat.le_of_ble_eq_true hk) (utf8Tabs_of h3 h4 e3 e4 hG hi)).mono ?_
      rintro e w' ⟨rfl, hB⟩
      exact ⟨⟨_, rfl, R_bool _⟩, hB⟩
    · cases hF
  · cases hF
end
end Go.VM
