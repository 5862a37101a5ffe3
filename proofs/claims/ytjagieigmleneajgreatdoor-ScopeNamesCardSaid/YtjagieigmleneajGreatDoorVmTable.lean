/- The tables that a program's types make, and what a program is asked. -/
import Derived.Test.YtjagieigmleneajGreatDoorVmCaller
namespace Go.VM

namespace Tr
variable {α : Type}
/-- A tree of this depth, off a function. -/
def of : Nat → (Nat → Option α) → Tr α
  | 0, _ => .leaf
  | d + 1, f => .node (f 0) (of d fun k => f (2 * k + 1)) (of d fun k => f (2 * k + 2))
theorem get_node {v : Option α} {l r : Tr α} (n : Nat) : (Tr.node v l r).get n = if n = 0 then v else if n % 2 = 1 then l.get (n / 2) else r.get (n / 2 - 1) := by
  rw [get]
  cases h0 : n.beq 0 with
  | true => rw [if_pos (Nat.eq_of_beq_eq_true h0)]
  | false =>
    have : n ≠ 0 := fun e => by subst e; cases h0
    rw [if_neg this]
    cases h1 : (n % 2).beq 1 with
    | true => rw [if_pos (Nat.eq_of_beq_eq_true h1)]
    | false => rw [if_neg (fun e => by rw [e] at h1; cases h1)]
theorem get_of : ∀ (d : Nat) (f : Nat → Option α) (n : Nat) (x : α), (of d f).get n = some x → f n = some x
  | 0, _, n, x, h => by rw [of, get_leaf] at h; cases h
  | d + 1, f, n, x, h => by
    rw [of, get_node] at h
    split at h
    · rename_i e; subst e; exact h
    · split at h
      · have := get_of d _ _ _ h
        rwa [show 2 * (n / 2) + 1 = n by omega] at this
      · have := get_of d _ _ _ h
        rwa [show 2 * (n / 2 - 1) + 2 = n by omega] at this

/-- A property of all that a tree holds. -/
def Every (p : Nat → α → Prop) : Tr α → Prop
  | .leaf => True
  | .node v l r => (∀ x, v = some x → p 0 x) ∧ Every (fun k => p (2 * k + 1)) l ∧ Every (fun k => p (2 * k + 2)) r
theorem every_get : ∀ (t : Tr α) (p : Nat → α → Prop), Every p t → ∀ n x, t.get n = some x → p n x
  | .leaf, p, _, n, x, h => by rw [get_leaf] at h; cases h
  | .node v l r, p, hp, n, x, h => by
    rw [get_node] at h
    obtain ⟨h1, h2, h3⟩ := hp
    split at h
    · rename_i e; subst e; exact h1 x h
    · split at h
      · have := every_get l _ h2 _ _ h
        rwa [show 2 * (n / 2) + 1 = n by omega] at this
      · have := every_get r _ h3 _ _ h
        rwa [show 2 * (n / 2 - 1) + 2 = n by omega] at this
end Tr

def uOf : TypeDesc → U
  | .bool => .bool | .int k => .int k | .string => .str | .float k => .flt k
  | .pointer e => .ptr e | .slice e => .slice e | .array n e => .arr n e | .map k e => .map k e
  | .struct fs => .struct (fs.toList.map fun f => (f.offset, f.type))
  | .func .. => .func | .interface ms => .iface ms.isEmpty | .unsafePointer => .uptr
  | _ => .other
theorem uOf_ok : ∀ d, UOk d (uOf d) := by
  intro d
  cases d <;> simp [uOf, UOk]

def isAgg : TypeDesc → Bool
  | .struct _ | .array .. => true
  | _ => false
def ones' (l : List Value) : Bool := l.all fun v => v.oneCell'
def zeroOf (z : Value) (agg : Bool) : Option (List AV) :=
  match agg with
  | true => match z with
    | .agg cs => match ones' cs.toList with
      | true => match ofConst.ofAll cs.toList with
        | .ok l => some l
        | .error _ => none
      | false => none
    | _ => none
  | false => match z.oneCell' with
    | true => match ofConst z with
      | .ok v => some [v]
      | .error _ => none
    | false => none
theorem zeroOf_ok {z : Value} {agg : Bool} {l : List AV} (h : zeroOf z agg = some l) :
    (agg = false → z.oneCell' = true) ∧ (∀ v ∈ z.cells, v.oneCell' = true) ∧ (agg = true → ∃ cs, z = .agg cs) ∧ ∀ g, RL g l z.cells.toList := by
  unfold zeroOf at h
  split at h
  · split at h
    · rename_i cs
      split at h
      · rename_i h1
        split at h
        · rename_i l' h2
          simp only [Option.some.injEq] at h
          subst h
          refine ⟨(fun e => by cases e), fun v hv => ?_, fun _ => ⟨cs, rfl⟩, fun g => ofAll_sound g _ _ h2⟩
          have : v ∈ cs := hv
          exact List.all_eq_true.1 h1 v (by simpa using this)
        · cases h
      · cases h
    · cases h
  · split at h
    · rename_i h1
      split at h
      · rename_i v h2
        simp only [Option.some.injEq] at h
        subst h
        have hc : z.cells = #[z] := by cases z <;> first | rfl | simp [Value.oneCell'] at h1
        refine ⟨fun _ => h1, fun u hu => ?_, (fun e => by simp at e), fun g => ?_⟩
        · rw [hc] at hu
          simp only [List.mem_toArray, List.mem_cons, List.not_mem_nil, or_false] at hu
          rw [hu]; exact h1
        · rw [hc]; exact RL_cons (ofConst_sound g z v h2) RL_nil
      · cases h
    · cases h

def cmpOf (P : Program) (t : TypeId) : TypeDesc → Bool
  | .struct fs => !P.eqGuardType P.depth t && !P.stoodInHeld t && fs.toList.all (fun f => f.name != "_")
  | _ => false
def tiOf (P : Program) (t : TypeId) : Option TI :=
  match P.underlying t with
  | none => none
  | some d => match P.info? t with
    | none => none
    | some f => match f.zero with
      | none => none
      | some z => match zeroOf z (isAgg d) with
        | none => none
        | some l => match z.cells.size.beq f.size with
          | false => none
          | true => some ⟨uOf d, f.size, f.bytes, l, isAgg d, cmpOf P t d⟩

theorem tiOf_ok {P : Program} {t : TypeId} {i : TI} (h : tiOf P t = some i) : TIOk P t i := by
  unfold tiOf at h
  split at h
  · cases h
  rename_i d hd
  split at h
  · cases h
  rename_i f hf
  split at h
  · cases h
  rename_i z hz
  split at h
  · cases h
  rename_i l hl
  split at h
  · cases h
  rename_i hs
  simp only [Option.some.injEq] at h
  subst h
  obtain ⟨z1, z2, z3, z4⟩ := zeroOf_ok hl
  refine ⟨⟨d, hd, uOf_ok d, ?_⟩, fun hc => ?_, ⟨f, hf, rfl, rfl, z, hz, Nat.eq_of_beq_eq_true hs, z1, z2, z3, z4⟩⟩
  · cases d <;> rfl
  · dsimp only at hc
    unfold cmpOf at hc
    split at hc
    · rename_i fs
      simp only [Bool.and_eq_true, Bool.not_eq_true', List.all_eq_true, bne_iff_ne, ne_eq] at hc
      refine ⟨hc.1.1, hc.1.2, fun fields he fl hfl => ?_⟩
      have e := hd.symm.trans he
      simp only [Option.some.injEq, TypeDesc.struct.injEq] at e
      subst e
      exact hc.2 fl hfl
    · cases hc
theorem tt_ok {P : Program} {T : TT} {d : Nat} (h : T = Tr.of d (tiOf P)) : TOk P T := fun _ _ ht => tiOf_ok (Tr.get_of d _ _ _ (h ▸ ht))

/-- What is asked of a function. -/
def FnOk (P : Program) (f : FuncId) (fn : Func) : Prop := P.funcs[f]? = some fn ∧ (∀ args w, (callFunc f args).run P w = .ok (.enter f args) w) ∧ ∀ c, fn.body = some c → codeOk c = true
theorem fnOk {P : Program} {f : FuncId} {fn : Func} (h1 : P.funcs[f]? = some fn) (h2 : ∀ args w, (callFunc f args).run P w = .ok (.enter f args) w) (h3 : fn.body.all codeOk = true) :
    ∀ x, some fn = some x → FnOk P f x := by
  intro x hx
  simp only [Option.some.injEq] at hx
  subst hx
  exact ⟨h1, h2, fun c hc => by rw [hc] at h3; exact h3⟩
theorem noFn {P : Program} {f : FuncId} : ∀ x, none = some x → FnOk P f x := fun _ h => by cases h

theorem Tr.every_leaf {α : Type} {p : Nat → α → Prop} : Tr.Every p .leaf := trivial
theorem Tr.every_node {α : Type} {p : Nat → α → Prop} {v : Option α} {l r : Tr α} (h1 : ∀ x, v = some x → p 0 x) (h2 : Tr.Every (fun k => p (2 * k + 1)) l) (h3 : Tr.Every (fun k => p (2 * k + 2)) r) : Tr.Every p (.node v l r) := ⟨h1, h2, h3⟩
end Go.VM
