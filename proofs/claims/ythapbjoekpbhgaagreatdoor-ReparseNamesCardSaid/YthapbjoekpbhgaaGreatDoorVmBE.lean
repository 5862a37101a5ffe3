/-
  A part of the proof.
-/
import Derived.Test.YthapbjoekpbhgaaGreatDoorVmBB
import Derived.Below
import Derived.Lib.Repeat
import Derived.Lib.RuneCount
import Derived.Lib.ValidU
/- Functions of the library, by their contracts: what they compute. -/
namespace Go.VM
open Go.RowKit
section
variable {P : Program} {T : TT} {G : Nat → Option (List AV)} {A : Nat → Prop} {g : Gh} {st : St} {w : World}
theorem Inv.below {w' : World} (h : Inv T A g st w) (hB : Below w.heap.size w w') : Inv T A g st w' := h.world hB.size fun b hb => hB.block b hb
theorem Kp.below {w' : World} (h : Inv T A g st w) (hB : Below w.heap.size w w') : Kp A g w g w' :=
  ⟨hB.size, fun b hb => hB.block b (Nat.lt_of_not_le fun k => hb (h.up b k)), fun _ _ _ => rfl, fun _ _ => rfl, Le.refl g, hB.os, hB.tape, hB.output⟩
/-- A contract of the library. -/
theorem lib_prim {f : FuncId} {F : List AV → Res AV} (hcall : ∀ args w, (callFunc f args).run P w = .ok (.enter f args) w)
    (h : ∀ args v, F args = .ok v → ∀ A g st w xs, GR g G → RL g args xs → Inv T A g st w → Calls P f xs.toArray w fun e w' => (∃ x, e = .returned x ∧ R g v x) ∧ Below w.heap.size w w') : OnePrim P T G f (.lib F) := by
  intro C args p v fx st A g w xs hG hp hr hx hi
  unfold primP at hp
  split at hp
  all_goals first | (rename_i hq; cases hq; done) | skip
  all_goals simp only [Prim.lib.injEq, reduceCtorEq] at *
  all_goals first | contradiction | skip
  all_goals try subst_vars
  all_goals
    split at hp
    · rename_i u hu
      cases hp
      obtain ⟨rfl, rfl⟩ := run_val hr
      refine .inr ⟨hcall _ _, (h _ _ hu A g st w xs hG hx hi).mono ?_⟩
      rintro e w' ⟨⟨x, rfl, hR⟩, hB⟩
      exact ⟨x, rfl, g, hR, hi.below hB, Kp.below hi hB⟩
    · cases hp
def libValid : List AV → Res AV
  | [.str s] => match s.length.ble 9223372036854775807 with
    | true => .ok (.bool (Lib.validD s))
    | false => .error "valid: too long"
  | _ => .error "valid"
theorem str_of {s : List UInt8} {x : Value} (h : R g (.str s) x) : x = .string ⟨s.toArray⟩ := by simpa only [R] using h
theorem int_of {k : IntKind} {n : Int} {x : Value} (h : R g (.int k n) x) : x = .int k n := by simpa only [R] using h
theorem R_str (s : List UInt8) : R g (.str s) (.string ⟨s.toArray⟩) := by simp only [R]
theorem R_int (k : IntKind) (n : Int) : R g (.int k n) (.int k n) := by simp only [R]
theorem R_bool (b : Bool) : R g (.bool b) (.bool b) := by simp only [R]
end
end Go.VM
/- slices.Grow of no slice: room of one's own. -/
namespace Go.VM
open Go.RowKit
/-- An empty slice, with room. -/
def growR (e : TypeId) (z : Nat) : List AV → St → Res (AV × St)
  | [.nils, .int .i64 (.ofNat n)], st => match Nat.ble 1 n && n.ble 1000000 with
    | true => .ok (.sl z [] (.own st.h), (st.new (.tok 0 e)).2)
    | false => .error "Grow: by how many?"
  | _, _ => .error "Grow: of what?"
section
variable {P : Program} {T : TT}
theorem growR_ok {e : TypeId} {z : Nat} {ti : TI} (hi : T.get e = some ti) (hz : ti.size = z) (h1z : 1 ≤ z) {f : FuncId} (enter : ∀ args w, (callFunc f args).run P w = .ok (.enter f args) w)
    (hGrow : ∀ (n : Nat) (w : World), 1 ≤ n → n ≤ 1000000 → Calls P f #[.slice none 0 0, .int .i64 (n : Int)] w fun x w' => Below w.heap.size w w' ∧ ∃ b cap cur, x = .returned (.slice (some ⟨b, 0, none⟩) 0 cap) ∧ w.heap.size ≤ b ∧ w'.heap[b]? = some (.cells cur e (0, 0)) ∧ cur.size = cap * z)
    {args : List AV} {st : St} {v : AV} {s : St} (h : growR e z args st = .ok (v, s)) : s.ro = st.ro ∧ ∀ A g w xs, RL g args xs → Inv T A g st w →
      (callFunc f xs.toArray).run P w = .ok (.enter f xs.toArray) w ∧ Calls P f xs.toArray w fun e w' => ∃ x, e = .returned x ∧ Post T A g s w v x w' := by
  unfold growR at h
  split at h
  · rename_i n
    split at h
    · rename_i hc
      simp only [Except.ok.injEq, Prod.mk.injEq] at h
      obtain ⟨rfl, rfl⟩ := h
      simp only [Bool.and_eq_true] at hc
      refine ⟨rfl, fun A g w xs hr hv => ?_⟩
      simp only [RL, R] at hr
      obtain ⟨x1, l1, rfl, rfl, x2, l2, rfl, rfl, rfl⟩ := hr
      refine ⟨enter _ _, (hGrow n w (Nat.le_of_ble_eq_true hc.1) (Nat.le_of_ble_eq_true hc.2)).mono ?_⟩
      rintro x w' ⟨hB, b, cap, cur, rfl, hb, hcell, hsz⟩
      refine ⟨_, rfl, ?_⟩
      have hE0 : g.E st.h = none := hv.E _ (Nat.le_refl _)
      refine ⟨g.setE st.h (.tok fun u => if u = 0 then some (b, cap) else none), ?_, ?_, (Kp.below hv hB).trans (Kp.setE hE0)⟩
      · simp only [R]
        exact ⟨rfl, b, 0, cap, rfl, Nat.zero_le _, h1z, by simp [RAtE], rfl, _, Gh.setE_same _ _ _, by simp⟩
      · refine (hv.below hB).name (hU := fun _ vs ty fz hh => by rw [hcell] at hh; cases hh; rfl) (.tok 0 e) _ b (fun id o' hid ha => hv.not_new hb id o' hid ha) (hv.up _ hb) ?_ ?_
        · rintro b' ⟨l, c, r1, r2⟩
          rw [Gh.setE_same] at r1
          simp only [Option.some.injEq, Ent.tok.injEq] at r1
          subst r1
          simp only [if_true, Option.some.injEq, Prod.mk.injEq] at r2
          exact r2.1.symm
        · exact ⟨_, b, cap, ti, cur, (0, 0), Gh.setE_same _ _ _, by simp, fun m hm => by rw [if_neg (by omega)], hi, by omega, Nat.zero_le _, hcell, by rw [hz]; exact hsz, Nat.zero_le _, fun o _ => hv.F_new hb o⟩
    · cases h
  · cases h
end
end Go.VM
