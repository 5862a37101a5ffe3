/-
  A part of the proof.
-/
import Derived.Test.YthapbjoekpbhgaaGreatDoorVmBE
import Derived.Test.YthapbjoekpbhgaaGreatDoorVmBD
import Derived.Lib.AtoiAll
import Derived.Lib.ConvBytes
import Derived.Lib.SlTrimSet
/- strconv.Atoi, by its contract; a variable of which it is known that it holds an interface. -/
namespace Go.VM
open Go.RowKit
section
variable {P : Program} {T : TT} {G : Nat → Option (List AV)} {A : Nat → Prop} {g : Gh} {st : St} {w : World}
/-- 'tp': the type of the errors. -/
def libAtoi (tp : TypeId) : List AV → Res AV
  | [.str s] => match s.length.ble 281474976710656 with
    | true => match Lib.atoiAll s with
      | .ok v => .ok (.tup [.int .i64 v, .nili])
      | .range => .ok (.tup [.int .i64 (Lib.atoiSat s), .iface tp (.opq false)])
      | _ => .error "Atoi: no numeral"
    | false => .error "Atoi: too long"
  | _ => .error "Atoi"
theorem atoi_prim {f : FuncId} {tp g16 : Nat} {Q : World → World → Prop} (hQ : ∀ w w', Q w w' → Below w.heap.size w w') (hcall : ∀ args w, (callFunc f args).run P w = .ok (.enter f args) w)
    (hok : ∀ (s : ByteArray), s.size ≤ 9223372036854775806 → ∀ (v : Int), Lib.atoiAll s.data.toList = .ok v → ∀ (w : World), Calls P f #[.string s] w fun e w' => e = .returned (.tuple #[.int .i64 v, .nilIface]) ∧ Q w w')
    (hra : ∀ (s : ByteArray), s.size ≤ 281474976710656 → Lib.atoiAll s.data.toList = .range → ∀ (ev : Value) (w : World), w.cell? ⟨g16, 0, none⟩ = some ev → (ev = .nilIface ∨ ∃ te pe, ev = .iface te pe) →
      Calls P f #[.string s] w fun e w' => ∃ N, e = .returned (.tuple #[.int .i64 (Lib.atoiSat s.data.toList), .iface tp (.pointer (some ⟨N, 0, none⟩))]) ∧ Below w.heap.size w w')
    (hG16 : G g16 = some [.opq true]) : OnePrim P T G f (.lib (libAtoi tp)) := by
  refine lib_prim hcall fun args v hF A g st w xs hG hx hi => ?_
  unfold libAtoi at hF
  split at hF
  · rename_i s
    split at hF
    · rename_i hk
      have hk := Nat.le_of_ble_eq_true hk
      have hsz : (ByteArray.mk s.toArray).size = s.length := by simp [ByteArray.size]
      obtain ⟨x, rfl, h1⟩ := RL1 hx
      rw [str_of h1]
      split at hF
      · rename_i v' ha
        cases hF
        refine (hok ⟨s.toArray⟩ (by rw [hsz]; omega) v' ha w).mono ?_
        rintro e w' ⟨rfl, hq⟩
        refine ⟨⟨_, rfl, ?_⟩, hQ _ _ hq⟩
        simp only [R]
        exact ⟨_, rfl, RL_cons (R_int _ _) (RL_cons (by simp only [R]) RL_nil)⟩
      · rename_i ha
        cases hF
        have hr := (hG _ _ hG16).2.1
        simp only [RAt, R] at hr
        obtain ⟨⟨ev, e1, _, e2⟩, _⟩ := hr
        refine (hra ⟨s.toArray⟩ (by rw [hsz]; exact hk) ha ev w (hi.F _ _ _ e1) ?_).mono ?_
        · rcases e2 with ⟨_, e2⟩ | ⟨e2, _⟩
          · exact e2
          · cases e2
        · rintro e w' ⟨N, rfl, hB⟩
          refine ⟨⟨_, rfl, ?_⟩, hB⟩
          simp only [R]
          exact ⟨_, rfl, RL_cons (R_int _ _) (RL_cons (by simp [R]) RL_nil)⟩
      · cases hF
    · cases hF
  · cases hF
def libTrimLeft : List AV → Res AV
  | [.str s, .str c] => match c.length.blt 4294967281 && c.all (fun b => b.toNat.blt 128) with
    | true => .ok (.str (Lib.trimLeftS s c))
    | false => .error "TrimLeft: no ASCII"
  | _ => .error "TrimLeft"
theorem trimLeft_prim {f : FuncId} (hcall : ∀ args w, (callFunc f args).run P w = .ok (.enter f args) w)
    (h : ∀ (s c : ByteArray) (w : World), c.size < 4294967281 → (∀ (j : Nat) b, c.data.toList[j]? = some b → b.toNat < 128) → Calls P f #[.string s, .string c] w fun e w' => e = .returned (.string ⟨(Lib.trimLeftS s.data.toList c.data.toList).toArray⟩) ∧ Below w.heap.size w w') : OnePrim P T G f (.lib libTrimLeft) := by
  refine lib_prim hcall fun args v hF A g st w xs _ hx _ => ?_
  unfold libTrimLeft at hF
  split at hF
  · rename_i s c
    split at hF
    · rename_i hk
      cases hF
      simp only [Bool.and_eq_true] at hk
      obtain ⟨x, y, rfl, h1, h2⟩ := RL2 hx
      rw [str_of h1, str_of h2]
      refine (h ⟨s.toArray⟩ ⟨c.toArray⟩ w (by simpa [ByteArray.size] using blt_true.1 hk.1) fun j b hb => ?_).mono ?_
      · exact blt_true.1 (List.all_eq_true.1 hk.2 b (List.mem_of_getElem? (by simpa using hb)))
      · rintro e w' ⟨rfl, hB⟩
        exact ⟨⟨_, rfl, R_str _⟩, hB⟩
    · cases hF
  · cases hF
end
/-- A variable that reads as an interface's value. -/
theorem var_iface {P : Program} {w : World} {name nm : String} {d : DataW Unit} {k t : Nat} {ms} (hg : P.globalNamed name = some k) (hty : (P.globals[k]?).map (·.type) = some t) (hu : P.underlying t = some (.interface ms))
    (h : Lib.VarReads P w name (.iface nm d)) : ∃ t y, w.cell? ⟨k, 0, none⟩ = some (.iface t y) := by
  obtain ⟨g', t', cs, fuel, p, hg', hty', hvar, hd⟩ := h
  obtain rfl := Option.some.inj (hg.symm.trans hg')
  obtain rfl := Option.some.inj (hty.symm.trans hty')
  have key : ∃ t y, cs.toList = [.iface t y] := by
    cases fuel with
    | zero => simp [DataW.trod] at hd
    | succ n =>
      simp only [DataW.trod, hu] at hd
      split at hd
      all_goals first
        | (rename_i q; cases q; done)
        | (rename_i q _; cases q; done)
        | (simp at hd; done)
        | (rename_i q; exact ⟨_, _, q⟩)
        | exact ⟨_, _, by assumption⟩
  obtain ⟨t, y, e⟩ := key
  refine ⟨t, y, ?_⟩
  rw [World.var?_cell hg hvar 0, ← Array.getElem?_toList, e]; rfl
end Go.VM
