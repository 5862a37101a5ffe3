/-
  A part of the proof.
-/
import Derived.Test.YtlfilkniobkbiaaDoorVmAJ
import Derived.Lib.Bytealg
/- The functions that are taken as they are said to be. -/
namespace Go.VM
section
variable {P : Program} {T : TT} {G : Nat → Option (List AV)} {A : Nat → Prop} {g : Gh} {st : St} {w : World}
/-- One prim's law. -/
def OnePrim (P : Program) (T : TT) (G : Nat → Option (List AV)) (f : FuncId) (q : Prim) : Prop :=
  ∀ C args p v fx st A g w xs, GR g G → primP q args = .ok p → runPlan C st p = .ok (v, fx) → RL g args xs → Inv T A g st w → CallWp P f xs.toArray w (Post T A g (fx.did.app st) w v)
theorem primOk_of {prim : FuncId → Option Prim} (h : ∀ f q, prim f = some q → OnePrim P T G f q) : PrimOk P T G prim := h
theorem Post.same (h : Inv T A g st w) {v : AV} {x : Value} (hr : R g v x) : Post T A g st w v x w := ⟨g, hr, h, Kp.refl _ _ _⟩
theorem RL2 {a b : AV} {xs : List Value} (h : RL g [a, b] xs) : ∃ x y, xs = [x, y] ∧ R g a x ∧ R g b y := by
  simp only [RL] at h
  obtain ⟨x, ys, rfl, h1, y, zs, rfl, h2, rfl⟩ := h
  exact ⟨x, y, rfl, h1, h2⟩
theorem RL1 {a : AV} {xs : List Value} (h : RL g [a] xs) : ∃ x, xs = [x] ∧ R g a x := by
  simp only [RL] at h
  obtain ⟨x, ys, rfl, h1, rfl⟩ := h
  exact ⟨x, rfl, h1⟩
/-- What copyCheck does, at a builder that lies anywhere. -/
structure CopyOk (P : Program) (f : FuncId) (l : List (TypeId × Nat × Nat)) : Prop where
  enter : ∀ args w, (callFunc f args).run P w = .ok (.enter f args) w
  used : ∀ (b o : Nat) (w : World), w.cell? ⟨b, o, none⟩ = some (.pointer (some ⟨b, o, none⟩)) →
    Calls P f #[.pointer (some ⟨b, o, none⟩)] w fun e w' => e = .returned (.tuple #[]) ∧ w' = w
  fresh : ∀ (b o : Nat) (w : World) (e : TypeId) (n : Nat), w.cell? ⟨b, o, none⟩ = some (.pointer none) → w.shape? b = some (e, n) → o < n → w.frozen? ⟨b, o, none⟩ = false → (e, n, o) ∈ l →
    Calls P f #[.pointer (some ⟨b, o, none⟩)] w fun e w' => e = .returned (.tuple #[]) ∧ w' = w.setCell ⟨b, o, none⟩ (.pointer (some ⟨b, o, none⟩))
theorem Inv.get_congr (h : Inv T A g st w) {st' : St} (hg : ∀ i, st'.get i = st.get i) (hh : st'.h = st.h) (hr : st'.ro = st.ro) : Inv T A g st' w where
  F := h.F
  M := h.M
  E id hid := h.E id (by omega)
  H id o ho := h.H id o (by rw [← hg]; exact ho)
  D id id' o o' b h1 h2 := h.D id id' o o' b (by rw [← hg]; exact h1) (by rw [← hg]; exact h2)
  own id o b h1 h2 h3 := h.own id o b (by rw [← hg]; exact h1) h2 (by omega)
  up := h.up
  C c := ⟨(h.C c).1, fun id o b h1 h2 => (h.C c).2 id o b (by rw [← hg]; exact h1) h2⟩
/-- What String does, at a builder that lies anywhere. -/
structure StringOk (P : Program) (T : TT) (f : FuncId) (u8 : TypeId) : Prop where
  enter : ∀ args w, (callFunc f args).run P w = .ok (.enter f args) w
  size : ∀ i, T.get u8 = some i → i.size = 1
  nothing : ∀ (b o : Nat) (w : World), w.cell? ⟨b, o + 1, none⟩ = some (.slice none 0 0) →
    Calls P f #[.pointer (some ⟨b, o, none⟩)] w fun e w' => e = .returned (.string .empty) ∧ w' = w.drew
  bytes : ∀ (b o g n cap : Nat) (w : World) (l : List UInt8), l ≠ [] → l.length = n → w.cell? ⟨b, o + 1, none⟩ = some (.slice (some ⟨g, 0, none⟩) n cap) → n ≤ cap → n < 4611686018427387904 →
    ∀ size, n ≤ size → w.shape? g = some (u8, size) → (∀ j x, l[j]? = some x → w.cell? ⟨g, j, none⟩ = some (.int .u8 x.toNat)) →
    Calls P f #[.pointer (some ⟨b, o, none⟩)] w fun e w' => e = .returned (.string ⟨l.toArray⟩) ∧ w' = w.drew.freeze ⟨g, 0, none⟩ n
theorem Inv.freeze (h : Inv T A g st w) (hC : ¬ g.C) {k n u : Nat} (hk : st.get k = .ok (.tok n u)) (hro : st.ro ≤ k) (hu : ∀ i, T.get u = some i → i.size = 1) {loc : Nat → Option (Nat × Nat)} {b cap : Nat}
    (hE : g.E k = some (.tok loc)) (hl : loc n = some (b, cap)) : Inv T A g st (w.freeze ⟨b, 0, none⟩ n) ∧ Kp A g w g (w.freeze ⟨b, 0, none⟩ n) := by
  by_cases hn : n = 0
  · subst hn
    exact ⟨h, Kp.refl _ _ _⟩
  obtain ⟨loc', b', cap', i, vs, fz, q1, q2, q3, q4, q5, q6, q7, q8, q9, q10⟩ := h.H k _ hk
  have e1 := q1.symm.trans hE
  simp only [Option.some.injEq, Ent.tok.injEq] at e1
  subst e1
  have e2 := q2.symm.trans hl
  simp only [Option.some.injEq, Prod.mk.injEq] at e2
  obtain ⟨rfl, rfl⟩ := e2
  have hsz := hu i q4
  rw [hsz] at q8 q9 q10
  have hlt := lt_of_heap q7
  have heap : (w.freeze ⟨b', 0, none⟩ n).heap[b']? = some (.cells vs u (if fz.1 == fz.2 then (0, 0 + n) else (min fz.1 0, max fz.2 (0 + n)))) := by
    unfold World.freeze
    rw [if_neg hn]
    simp only [Array.getElem?_modify, if_pos, q7, Option.map_some]
  have other : ∀ c, c ≠ b' → (w.freeze ⟨b', 0, none⟩ n).heap[c]? = w.heap[c]? := fun c hc => by
    unfold World.freeze
    rw [if_neg hn]
    simp only [Array.getElem?_modify]
    rw [if_neg (fun e => hc e.symm)]
  have size : (w.freeze ⟨b', 0, none⟩ n).heap.size = w.heap.size := by
    unfold World.freeze
    rw [if_neg hn]
    simp
  have hat : At g k (.tok n u) b' := ⟨_, _, hE, hl⟩
  have hw := h.write (hU := fun c => absurd c hC) hk hat (.tok n u) (w' := w.freeze ⟨b', 0, none⟩ n) size other (fun j v hv => by
      have := h.F b' j v hv
      rw [cell_of q7] at this
      rw [cell_of heap]; exact this)
    (by
      cases hm : g.M b' with
      | none => rfl
      | some e =>
        have := h.M b' e.1 e.2 hm
        rw [q7] at this; cases this)
    (fun c hc => by
      obtain ⟨loc2, cap2, z1, z2⟩ := hc
      have e1 := z1.symm.trans hE
      simp only [Option.some.injEq, Ent.tok.injEq] at e1
      subst e1
      have e2 := z2.symm.trans hl
      simp only [Option.some.injEq, Prod.mk.injEq] at e2
      exact e2.1)
    ⟨_, b', cap', i, vs, _, hE, hl, q3, q4, q5, q6, heap, by rw [hsz]; exact q8, by
      rw [hsz]
      split
      · simp
      · simp only [Nat.zero_add]; omega, by rw [hsz]; exact q10⟩
  have hlt' := (St.get_ok.1 hk).1
  refine ⟨hw.get_congr (fun j => ?_) rfl rfl, Kp.write (h.own k _ b' hk hat hro) size other ?_⟩
  · by_cases hj : k = j
    · subst hj; rw [St.get_put_same hlt', hk]
    · rw [St.get_put_ne hj]
  · unfold World.freeze
    rw [if_neg hn]
    exact ⟨rfl, rfl, rfl⟩
end
end Go.VM
