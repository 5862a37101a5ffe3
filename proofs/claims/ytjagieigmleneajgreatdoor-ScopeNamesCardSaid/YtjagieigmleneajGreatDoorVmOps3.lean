/- Arithmetic, comparisons, conversions. -/
import Derived.Test.YtjagieigmleneajGreatDoorVmOps2
import Derived.Laws.StructEq
import Derived.Laws.BytesString
namespace Go.VM
section
variable {P : Program} {T : TT} {A : Nat → Prop} {g : Gh} {st : St} {w : World}

theorem und_run {t : TypeId} {d : TypeDesc} (h : P.underlying t = some d) (w : World) : (underlying t).run P w = .ok d w := by simp [underlying, h]
theorem bs_beq (a b : List UInt8) : ((⟨a.toArray⟩ : ByteArray) == ⟨b.toArray⟩) = (a == b) := by
  show (a.toArray == b.toArray) = (a == b)
  simp

theorem eqT_sound (hT : TOk P T) : ∀ (f : Nat) (d : Nat) (t : TypeId) (a b : AV) (r : Bool) (x y : Value), f ≤ d → eqT T f t a b = .ok r → R g a x → R g b y → (Op.equalIn d t x y).run P w = .ok r w
  | 0, _, _, _, _, _, _, _, _, h, _, _ => by simp [eqT] at h
  | f + 1, d, t, a, b, r, x, y, hd, h, hx, hy => by
    obtain ⟨d, rfl⟩ : ∃ d', d = d' + 1 := ⟨d - 1, by omega⟩
    simp only [eqT, bind_ok] at h
    obtain ⟨i, h1, h2⟩ := h
    have hi := hT t i (ti_ok.1 h1)
    obtain ⟨dd, q1, q2, _⟩ := hi.und
    have k1 := und_run (P := P) q1
    split at h2 <;> rename_i hu <;> (try rw [hu] at q2) <;> (try simp only [UOk] at q2) <;> (try (simp only [R] at hx hy))
    · subst q2 hx hy; simp only [Except.ok.injEq] at h2; subst h2; simp [Op.equalIn, k1]
    · rename_i kk _ j a k b
      subst q2 hx hy
      split at h2
      · rename_i hjk; subst hjk; simp only [Except.ok.injEq] at h2; subst h2; simp [Op.equalIn, k1]
      · cases h2
    · subst q2 hx hy; simp only [Except.ok.injEq] at h2; subst h2; simp [Op.equalIn, k1, bs_beq]
    · subst q2 hx hy; simp only [Except.ok.injEq] at h2; subst h2; simp [Op.equalIn, k1]
    · obtain ⟨_, b, o, rfl, _⟩ := hy
      subst q2 hx; simp only [Except.ok.injEq] at h2; subst h2; simp [Op.equalIn, k1]
    · obtain ⟨_, b, o, rfl, _⟩ := hx
      subst q2 hy; simp only [Except.ok.injEq] at h2; subst h2; simp [Op.equalIn, k1]
    · obtain ⟨b, _, rfl⟩ := hy
      subst q2 hx; simp only [Except.ok.injEq] at h2; subst h2; simp [Op.equalIn, k1]
    · obtain ⟨b, _, rfl⟩ := hx
      subst q2 hy; simp only [Except.ok.injEq] at h2; subst h2; simp [Op.equalIn, k1]
    · subst q2 hx hy; simp only [Except.ok.injEq] at h2; subst h2; simp [Op.equalIn, k1]
    · obtain ⟨_, b, o, cap, rfl, _⟩ := hy
      subst q2 hx; simp only [Except.ok.injEq] at h2; subst h2; simp [Op.equalIn, k1]
    · obtain ⟨_, b, o, cap, rfl, _⟩ := hx
      subst q2 hy; simp only [Except.ok.injEq] at h2; subst h2; simp [Op.equalIn, k1]
    · obtain ⟨b, o, _, rfl, _⟩ := hy
      subst q2 hx; simp only [Except.ok.injEq] at h2; subst h2; simp [Op.equalIn, k1]
    · obtain ⟨b, o, _, rfl, _⟩ := hx
      subst q2 hy; simp only [Except.ok.injEq] at h2; subst h2; simp [Op.equalIn, k1]
    · subst q2 hx hy; simp only [Except.ok.injEq] at h2; subst h2; simp [Op.equalIn, k1]
    · obtain ⟨b, _, rfl⟩ := hy
      subst q2 hx; simp only [Except.ok.injEq] at h2; subst h2; simp [Op.equalIn, k1]
    · obtain ⟨b, _, rfl⟩ := hx
      subst q2 hy; simp only [Except.ok.injEq] at h2; subst h2; simp [Op.equalIn, k1]
    · obtain ⟨_, _, _, rfl⟩ := q2
      subst hx hy; simp only [Except.ok.injEq] at h2; subst h2; simp [Op.equalIn, k1]
    · obtain ⟨_, _, _, rfl⟩ := q2
      obtain ⟨_, _, rfl, _⟩ := hy
      subst hx; simp only [Except.ok.injEq] at h2; subst h2; simp [Op.equalIn, k1]
    · obtain ⟨_, _, _, rfl⟩ := q2
      obtain ⟨_, _, rfl, _⟩ := hx
      subst hy; simp only [Except.ok.injEq] at h2; subst h2; simp [Op.equalIn, k1]
    · rename_i fs xs ys _
      split at h2
      · rename_i hc
        obtain ⟨_, c2, c3⟩ := hi.cmp hc
        obtain ⟨fields, rfl, q3⟩ := q2
        obtain ⟨xv, rfl, hx⟩ := hx
        obtain ⟨yv, rfl, hy⟩ := hy
        have hfo : P.fieldsOf t = fields := by simp [Program.fieldsOf, q1]
        rw [run_equalIn_struct w d t xv yv (by rw [hfo]; exact q1) c2, hfo]
        have hn := c3 fields q1
        generalize fields.toList = l at hn q3
        clear hfo q1 k1 hi c2 c3 hu
        subst q3
        induction l with
        | nil => simp only [List.map_nil, eqFields, Except.ok.injEq] at h2; subst h2; simp [Op.eqFields]
        | cons fl l ih =>
          simp only [List.map_cons, eqFields, bind_ok] at h2
          obtain ⟨j, g1, a, g2, b, g3, e, g4, g5⟩ := h2
          have hj := hT _ j (ti_ok.1 g1)
          obtain ⟨x1, p1, p2⟩ := part_sound (w := w) hj g2 hx
          obtain ⟨y1, p3, p4⟩ := part_sound (w := w) hj g3 hy
          have p5 := eqT_sound hT f d fl.type a b e x1 y1 (by omega) g4 p2 p4
          have hne := hn fl (by simp)
          simp only [Op.eqFields]
          rw [if_pos hne]
          simp only [Sem.run_bind, p1, Result.andThen_ok, p3, p5]
          cases e with
          | true =>
            simp only [Bool.not_true, Bool.false_eq_true, if_false]
            exact ih (fun f' hf' => hn f' (by simp [hf'])) g5
          | false =>
            simp only [Except.ok.injEq] at g5
            subst g5
            simp
      · cases h2
    · cases h2

end
end Go.VM
