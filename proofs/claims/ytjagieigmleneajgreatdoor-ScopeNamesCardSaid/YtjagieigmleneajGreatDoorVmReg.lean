/- Regions: in order, and in whatever order. -/
import Derived.Test.YtjagieigmleneajGreatDoorVmOps12
import Derived.Orders
namespace Go.VM

namespace Tr
variable {α : Type}
theorem set_comm : ∀ (f1 f2 : Nat) (t : Tr α) (a b : Nat) (x y : α), a ≠ b → set f1 (set f2 t a x) b y = set f2 (set f1 t b y) a x
  | 0, _, _, _, _, _, _, _ => rfl
  | _ + 1, 0, _, _, _, _, _, _ => rfl
  | f1 + 1, f2 + 1, t, a, b, x, y, h => by
    cases ha : a.beq 0 with
    | true =>
      have ha0 := Nat.eq_of_beq_eq_true ha
      have hb : b.beq 0 = false := by
        cases hb : b.beq 0 with
        | false => rfl
        | true => exact absurd (ha0.trans (Nat.eq_of_beq_eq_true hb).symm) h
      cases hm : (b % 2).beq 1 <;> cases t <;> simp [set, ha, hb, hm]
    | false =>
      have ha0 : a ≠ 0 := by intro e; subst e; simp at ha
      cases hb : b.beq 0 with
      | true => cases hm : (a % 2).beq 1 <;> cases t <;> simp [set, ha, hb, hm]
      | false =>
        have hb0 : b ≠ 0 := by intro e; subst e; simp at hb
        cases hp : (a % 2).beq 1 with
        | true =>
          have hp' := Nat.eq_of_beq_eq_true hp
          cases hq : (b % 2).beq 1 with
          | true =>
            have hq' := Nat.eq_of_beq_eq_true hq
            have hne : a / 2 ≠ b / 2 := by omega
            cases t <;> simp [set, ha, hb, hp, hq, set_comm f1 f2 _ _ _ x y hne]
          | false => cases t <;> simp [set, ha, hb, hp, hq]
        | false =>
          have hp' : a % 2 ≠ 1 := by intro e; rw [e] at hp; simp at hp
          cases hq : (b % 2).beq 1 with
          | true => cases t <;> simp [set, ha, hb, hp, hq]
          | false =>
            have hq' : b % 2 ≠ 1 := by intro e; rw [e] at hq; simp at hq
            have hne : a / 2 - 1 ≠ b / 2 - 1 := by omega
            cases t <;> simp [set, ha, hb, hp, hq, set_comm f1 f2 _ _ _ x y hne]
theorem put_comm (t : Tr α) (a b : Nat) (x y : α) (h : a ≠ b) : (t.put a x).put b y = (t.put b y).put a x := set_comm _ _ _ _ _ _ _ h
end Tr

section
variable {P : Program} {A : Nat → Prop} {g : Gh} {st : St} {w : World}

theorem wanted_eq {ops : Array Oper} {fr : Fr} {a : Act} (o : Oper) (hf : FrR g fr a.tmps) : wanted ops.toList fr o.guard = Region.wanted o (yielded ops a.tmps) := by
  unfold wanted Region.wanted
  cases o.guard with
  | none => rfl
  | some p =>
    obtain ⟨j, want⟩ := p
    simp only [yielded, Array.getElem?_toList]
    cases hd : (ops[j]?).bind (·.dst) with
    | none => cases want <;> rfl
    | some d =>
      simp only [Option.bind_some]
      have hr := hf.at' d
      cases hv : fr.get d with
      | bool b =>
        rw [hv] at hr
        simp only [R] at hr
        have : a.tmps[d]? = some (.bool b) := by
          simp only [Array.getD_eq_getD_getElem?] at hr
          cases hx : a.tmps[d]? with
          | none => rw [hx] at hr; simp [Go.undef] at hr
          | some x => rw [hx] at hr; simpa using hr
        rw [this]
        cases b <;> cases want <;> rfl
      | _ =>
        have : ∀ b, a.tmps[d]? ≠ some (.bool b) := fun b hb => by
          rw [hv] at hr
          simp only [Array.getD_eq_getD_getElem?, hb, Option.getD_some, R] at hr
          first
            | (cases hr; done)
            | (obtain ⟨_, _, _, hr, _⟩ := hr; cases hr; done)
            | (obtain ⟨_, _, hr⟩ := hr; cases hr; done)
            | (obtain ⟨_, _, _, _, hr, _⟩ := hr; cases hr; done)
            | (obtain ⟨_, _, hr, _⟩ := hr; cases hr; done)
            | (obtain ⟨_, hr, _⟩ := hr; cases hr; done)
            | (obtain ⟨_, _, _, _, _, hr, _⟩ := hr; cases hr; done)
            | (obtain ⟨_, _, _, _, _, hr⟩ := hr; cases hr; done)
        cases hx : a.tmps[d]? with
        | none => cases want <;> rfl
        | some x => cases x <;> first | (cases want <;> rfl) | exact absurd hx (this _)

theorem put_tmps {fr : Fr} {a : Act} (hf : FrR g fr a.tmps) {v : AV} {x : Value} (hx : R g v x) (d : Option Tmp) : FrR g (fr.put d v) (a.put d x).tmps := by
  cases d with
  | none => exact hf
  | some d => exact hf.put hx (some d)
theorem put_defers (a : Act) (d : Option Tmp) (x : Value) : (a.put d x).defers = a.defers := by cases d <;> rfl

/-- What is given with a program. -/
structure Good (P : Program) (X : Cx) : Prop where
  T : TOk P X.T
  C : CallerOk P X.T X.G X.C
  prim : PrimOk P X.T X.prim

/-- Related: frame, store and memory. -/
structure Rel (X : Cx) (A : Nat → Prop) (g : Gh) (fr : Fr) (st : St) (a : Act) (w : World) : Prop where
  fr : FrR g fr a.tmps
  inv : Inv X.T A g st w
  G : GR g X.G
  defers : a.defers = []

theorem oper_sound {X : Cx} (hX : Good P X) {ops : Array Oper} {i : Nat} {o : Oper} (ho : ops[i]? = some o) {fr : Fr} {a : Act} {v : AV} {fx : Fx} {K : Act → World → Prop} {Q : Exit → Act → World → Prop}
    (h : oper X ops.toList fr st o = .ok (v, fx)) (hr : Rel X A g fr st a w)
    (hK : ∀ a' g' w', Rel X A g' (fr.put o.dst v) (fx.did.app st) a' w' → Kp A g w g' w' → K a' w') : wpOp P ops Q i K a w := by
  unfold oper at h
  unfold wpOp
  simp only [ho]
  rw [← wanted_eq o hr.fr]
  split at h
  · rename_i hw
    rw [hw, if_pos rfl]
    simp only [bind_ok] at h
    obtain ⟨p, h1, h2⟩ := h
    left
    refine plan_sound X hX.T hX.C hX.prim h1 h2 hr.G hr.fr hr.inv fun x w' hp => ?_
    obtain ⟨g', p1, p2, p3⟩ := hp
    exact hK _ g' w' ⟨put_tmps (hr.fr.mono p3.le) p1 _, p2, hr.G.mono p3.le, by rw [put_defers]; exact hr.defers⟩ p3
  · rename_i hw
    rw [hw, if_neg (by simp)]
    simp only [Except.ok.injEq, Prod.mk.injEq] at h
    obtain ⟨rfl, rfl⟩ := h
    exact hK _ g w ⟨put_tmps hr.fr R_undef _, hr.inv, hr.G, by rw [put_defers]; exact hr.defers⟩ (Kp.refl _ _ _)

/-- A run of some operations. -/
inductive Runs (X : Cx) (all : List Oper) : List (Nat × AV × Fx) → Fr → St → Fr → St → Prop
  | nil {fr : Fr} {st : St} : Runs X all [] fr st fr st
  | cons {j : Nat} {v : AV} {x : Fx} {o : Oper} {l : List (Nat × AV × Fx)} {fr fr' : Fr} {st st' : St} (ho : all[j]? = some o) (h : oper X all fr st o = .ok (v, x))
      (t : Runs X all l (fr.put o.dst v) (x.did.app st) fr' st') : Runs X all ((j, v, x) :: l) fr st fr' st'

/-- In the order of a list. -/
theorem wpOps_of_runs {X : Cx} (hX : Good P X) {ops : Array Oper} {Q : Exit → Act → World → Prop} : ∀ {l : List (Nat × AV × Fx)} {fr fr' : Fr} {st st' : St}, Runs X ops.toList l fr st fr' st' →
    ∀ {g : Gh} {a : Act} {w : World}, Rel X A g fr st a w → (∀ a' g' w', Rel X A g' fr' st' a' w' → Kp A g w g' w' → Q .normal a' w') → wpOps P ops Q (l.map (·.1)) a w
  | _, _, _, _, _, .nil, g, a, w, hr, hQ => hQ a g w hr (Kp.refl _ _ _)
  | _, _, _, _, _, .cons (j := j) (o := o) ho h t, g, a, w, hr, hQ => by
    simp only [List.map_cons]
    rw [wpOps_cons]
    exact oper_sound hX (by simpa using ho) h hr fun a' g' w' hr' hk => wpOps_of_runs hX t hr' fun a'' g'' w'' hr'' hk' => hQ a'' g'' w'' hr'' (hk.trans hk')

end
end Go.VM
