/-
  A part of the proof.
-/
import Derived.Test.YtkknkhniadiapaaDoorVmAB
import Derived.Laws.Tables
namespace Go.VM
namespace Tr
variable {α : Type}
theorem get_set_same : ∀ (f : Nat) (t : Tr α) (n : Nat) (x : α), n < f → (set f t n x).get n = some x
  | 0, _, _, _, h => by omega
  | f + 1, t, n, x, h => by
    unfold set
    cases hn : n.beq 0 with
    | true => cases t <;> simp [get, hn]
    | false =>
      have h0 : n ≠ 0 := by intro e; subst e; simp at hn
      cases hm : (n % 2).beq 1 with
      | true => cases t <;> simp [get, hn, hm, get_set_same f _ (n / 2) x (by omega)]
      | false => cases t <;> simp [get, hn, hm, get_set_same f _ (n / 2 - 1) x (by omega)]
theorem get_leaf (n : Nat) : (Tr.leaf : Tr α).get n = none := by unfold get; rfl
theorem get_set_ne : ∀ (f : Nat) (t : Tr α) (n m : Nat) (x : α), n ≠ m → (set f t n x).get m = t.get m
  | 0, _, _, _, _, _ => rfl
  | f + 1, t, n, m, x, h => by
    unfold set
    cases hn : n.beq 0 with
    | true =>
      have hn0 : n = 0 := Nat.eq_of_beq_eq_true hn
      have hm : m.beq 0 = false := by
        cases hm : m.beq 0 with
        | false => rfl
        | true => exact absurd (hn0.trans (Nat.eq_of_beq_eq_true hm).symm) h
      cases t with
      | leaf => cases hk : (m % 2).beq 1 <;> simp [get, hm, hk]
      | node v l r => cases hk : (m % 2).beq 1 <;> simp [get, hm, hk]
    | false =>
      have hn0 : n ≠ 0 := by intro e; subst e; simp at hn
      cases hm : m.beq 0 with
      | true =>
        cases hp : (n % 2).beq 1 with
        | true => cases t <;> simp [get, hm]
        | false => cases t <;> simp [get, hm]
      | false =>
        have hm0 : m ≠ 0 := by intro e; subst e; simp at hm
        cases hp : (n % 2).beq 1 with
        | true =>
          have hp' := Nat.eq_of_beq_eq_true hp
          cases hq : (m % 2).beq 1 with
          | true =>
            have hq' := Nat.eq_of_beq_eq_true hq
            have hne : n / 2 ≠ m / 2 := by omega
            cases t with
            | leaf => simp [get, hm, hq, get_set_ne f _ _ _ x hne]
            | node v l r => simp [get, hm, hq, get_set_ne f _ _ _ x hne]
          | false => cases t <;> simp [get, hm, hq]
        | false =>
          have hp' : n % 2 ≠ 1 := by intro e; rw [e] at hp; simp at hp
          cases hq : (m % 2).beq 1 with
          | true => cases t <;> simp [get, hm, hq]
          | false =>
            have hq' : m % 2 ≠ 1 := by intro e; rw [e] at hq; simp at hq
            have hne : n / 2 - 1 ≠ m / 2 - 1 := by omega
            cases t with
            | leaf => simp [get, hm, hq, get_set_ne f _ _ _ x hne]
            | node v l r => simp [get, hm, hq, get_set_ne f _ _ _ x hne]
theorem get_put (t : Tr α) (n m : Nat) (x : α) : (t.put n x).get m = if n = m then some x else t.get m := by
  unfold put
  by_cases h : n = m
  · subst h; rw [if_pos rfl]; exact get_set_same _ _ _ _ (by omega)
  · rw [if_neg h]; exact get_set_ne _ _ _ _ _ h
theorem set_set : ∀ (f : Nat) (t : Tr α) (n : Nat) (x y : α), set f (set f t n x) n y = set f t n y
  | 0, _, _, _, _ => rfl
  | f + 1, t, n, x, y => by
    cases hn : n.beq 0 with
    | true => cases t <;> simp [set, hn]
    | false =>
      cases hm : (n % 2).beq 1 with
      | true => cases t <;> simp [set, hn, hm, set_set f]
      | false => cases t <;> simp [set, hn, hm, set_set f]
end Tr
theorem blt_true {a b : Nat} : a.blt b = true ↔ a < b := by simp [Nat.blt]; omega
theorem blt_false {a b : Nat} : a.blt b = false ↔ b ≤ a := by
  cases h : a.blt b with
  | true => rw [blt_true] at h; simp; omega
  | false => simp; exact Nat.le_of_not_lt fun k => by rw [blt_true.2 k] at h; cases h
theorem St.get_ok {s : St} {i : Nat} {o : Obj} : s.get i = .ok o ↔ i < s.h ∧ s.objs.get i = some o := by
  unfold St.get
  cases h : i.blt s.h with
  | true =>
    rw [blt_true] at h
    cases k : s.objs.get i <;> simp [h]
  | false => rw [blt_false] at h; simp; omega
theorem St.get_put_same {s : St} {i : Nat} {o : Obj} (h : i < s.h) : (s.put i o).get i = .ok o := by
  rw [St.get_ok]; exact ⟨h, by simp [St.put, Tr.get_put]⟩
theorem St.get_put_ne {s : St} {i j : Nat} {o : Obj} (h : i ≠ j) : (s.put i o).get j = s.get j := by
  simp [St.put, St.get, Tr.get_put, h]
theorem St.get_new_ok {s : St} {j : Nat} {o o' : Obj} : (s.new o).2.get j = .ok o' ↔ (j = s.h ∧ o' = o) ∨ (j < s.h ∧ s.get j = .ok o') := by
  rw [St.get_ok, St.get_ok]
  simp only [St.new, Tr.get_put]
  by_cases h : s.h = j
  · subst h; simp; constructor <;> intro h <;> exact h.symm
  · rw [if_neg h]
    constructor
    · rintro ⟨h1, h2⟩; exact .inr ⟨by omega, by omega, h2⟩
    · rintro (⟨h1, _⟩ | ⟨h1, _, h3⟩)
      · exact absurd h1.symm h
      · exact ⟨by omega, h3⟩
def UOk (d : TypeDesc) : U → Prop
  | .bool => d = .bool
  | .int k => d = .int k
  | .str => d = .string
  | .flt k => d = .float k
  | .ptr e => d = .pointer e
  | .slice e => d = .slice e
  | .arr n e => d = .array n e
  | .map k e => d = .map k e
  | .struct fs => ∃ fields, d = .struct fields ∧ fields.toList.map (fun f => (f.offset, f.type)) = fs
  | .func => ∃ a b c, d = .func a b c
  | .iface bare => ∃ ms, d = .interface ms ∧ (bare = true → ms = #[])
  | .uptr => d = .unsafePointer
  | .other => True
structure TIOk (P : Program) (t : TypeId) (i : TI) : Prop where
  und : ∃ d, P.underlying t = some d ∧ UOk d i.und ∧ (i.agg = match d with | .struct _ | .array .. => true | _ => false)
  cmp : i.cmp = true → P.eqGuardType P.depth t = false ∧ P.stoodInHeld t = false ∧ ∀ fields, P.underlying t = some (.struct fields) → ∀ f ∈ fields.toList, f.name ≠ "_"
  info : ∃ f, P.info? t = some f ∧ f.size = i.size ∧ f.bytes = i.bytes ∧ ∃ z, f.zero = some z ∧ z.cells.size = i.size ∧ (i.agg = false → z.oneCell' = true) ∧ (∀ v ∈ z.cells, v.oneCell' = true) ∧ (i.agg = true → ∃ cs, z = .agg cs) ∧ ∀ g, RL g i.zero z.cells.toList
def TOk (P : Program) (T : TT) : Prop := ∀ t i, T.get t = some i → TIOk P t i
theorem ti_ok {T : TT} {t : TypeId} {i : TI} : ti T t = .ok i ↔ T.get t = some i := by
  unfold ti; cases T.get t <;> simp
theorem cell_of {w : World} {b o : Nat} {vs : Array Value} {ty : TypeId} {fz : Nat × Nat} (h : w.heap[b]? = some (.cells vs ty fz)) :
    w.cell? ⟨b, o, none⟩ = vs[o]? := by
  simp [World.cell?, h]
theorem cell_pre {w : World} {b o : Nat} {vs rest : Array Value} {ty : TypeId} {fz : Nat × Nat} {x : Value} (h : w.heap[b]? = some (.cells (vs ++ rest) ty fz)) (hx : vs[o]? = some x) :
    w.cell? ⟨b, o, none⟩ = some x := by
  rw [cell_of h]
  have hlt : o < vs.size := by
    rcases Nat.lt_or_ge o vs.size with q | q
    · exact q
    · rw [Array.getElem?_eq_none q] at hx; cases hx
  rw [Array.getElem?_append_left hlt]; exact hx
theorem cells_of {w : World} {b o : Nat} {v : Value} (h : w.cell? ⟨b, o, none⟩ = some v) : ∃ vs ty fz, w.heap[b]? = some (.cells vs ty fz) ∧ vs[o]? = some v := by
  unfold World.cell? at h
  split at h
  · rename_i c ty fz hb
    exact ⟨c, ty, fz, hb, by simpa using h⟩
  · simp at h
def At (g : Gh) (id : Nat) : Obj → Nat → Prop
  | .cells _ _, b => g.E id = some (.blk b)
  | .map _, b => g.E id = some (.blk b)
  | .sit .., b => g.E id = some (.blk b)
  | .tok n _, b => ∃ loc cap, g.E id = some (.tok loc) ∧ loc n = some (b, cap)
  | .dead, _ => False
  | .grow n _ _ _, b => ∃ loc cap, g.E id = some (.tok loc) ∧ loc n = some (b, cap)
  | .egg, _ => False
  | .row n _ _ _, b => ∃ loc cap, g.E id = some (.tok loc) ∧ loc n = some (b, cap)
  | .loop .., b => g.E id = some (.blk b)
def Holds (T : TT) (g : Gh) (w : World) (id : Nat) : Obj → Prop
  | .cells ty cs => ∃ b vs rest ty', g.E id = some (.blk b) ∧ w.heap[b]? = some (.cells (vs ++ rest) ty' (0, 0)) ∧ RL g cs vs.toList ∧ (∀ v ∈ vs.toList, v.oneCell' = true) ∧ (∀ o, g.F b o = none) ∧ (ty < 1000000 → rest = #[] ∧ ty' = ty)
  | .tok n e => ∃ loc b cap i vs fz, g.E id = some (.tok loc) ∧ loc n = some (b, cap) ∧ (∀ m, n < m → loc m = none) ∧ T.get e = some i ∧ 1 ≤ i.size ∧ n ≤ cap ∧
      w.heap[b]? = some (.cells vs e fz) ∧ vs.size = cap * i.size ∧ fz.2 ≤ n * i.size ∧ ∀ o, n * i.size ≤ o → g.F b o = none
  | .map es => ∃ b ents clk, g.E id = some (.blk b) ∧ w.heap[b]? = some (.map ents clk) ∧ REs g es ents.toList ∧ g.M b = none
  | .sit s pos => ∃ b, g.E id = some (.blk b) ∧ w.heap[b]? = some (.stringIter ⟨s.toArray⟩ pos)
  | .dead => True
  | .grow n e z es => ∃ loc b cap i vs fz, g.E id = some (.tok loc) ∧ loc n = some (b, cap) ∧ (∀ m, n < m → loc m = none) ∧ T.get e = some i ∧ 1 ≤ i.size ∧ n ≤ cap ∧
      w.heap[b]? = some (.cells vs e fz) ∧ vs.size = cap * i.size ∧ fz.2 ≤ es.length * i.size ∧ (∀ o, es.length * i.size ≤ o → g.F b o = none) ∧ z = i.size ∧ es.length ≤ n ∧ bares es = true ∧ RAtE g z es b 0
  | .egg => g.E id = none
  | .row n e z cs => ∃ loc b cap i pre rest, g.E id = some (.tok loc) ∧ loc n = some (b, cap) ∧ (∀ m, n < m → loc m = none) ∧ T.get e = some i ∧ 1 ≤ i.size ∧ n ≤ cap ∧
      w.heap[b]? = some (.cells (pre ++ rest) e (0, 0)) ∧ (pre ++ rest).size = cap * i.size ∧ (∀ o, g.F b o = none) ∧ z = i.size ∧ RL g cs pre.toList ∧ (∀ v ∈ pre.toList, v.oneCell' = true) ∧ cs.length = n * i.size
  | .loop _ ps a c fr s p => ∃ b r, g.E id = some (.blk b) ∧ w.heap[b]? = some (.loop r) ∧ FrR g fr r.tmps ∧ r.params.toList = ps ∧ r.assign = a ∧ r.body = c ∧ (codeOk a = true ∧ codeOk c = true ∧ fr.strict = true) ∧ LoopSt s p r
def Unf (w : World) (b : Nat) : Prop := ∀ vs ty fz, w.heap[b]? = some (.cells vs ty fz) → fz = (0, 0)
theorem Unf.congr {w w' : World} {b : Nat} (h : Unf w b) (e : w'.heap[b]? = w.heap[b]?) : Unf w' b := fun vs ty fz hh => h vs ty fz (e ▸ hh)
theorem frz_congr {w w' : World} {b : Nat} (h : w'.heap[b]? = w.heap[b]?) (o : Nat) : w'.frozen? ⟨b, o, none⟩ = w.frozen? ⟨b, o, none⟩ := by
  simp [World.frozen?, h]
theorem Unf.sof {w : World} {b : Nat} (u : Unf w b) (o : Nat) : w.frozen? ⟨b, o, none⟩ = false := by
  unfold World.frozen?
  cases hw : w.heap[b]? with
  | none => simp
  | some x =>
    cases x with
    | cells vs ty fz => simp [u _ _ _ hw]
    | _ => simp
theorem Unf.other {w : World} {b : Nat} (h : ∀ vs ty fz, w.heap[b]? ≠ some (.cells vs ty fz)) : Unf w b := fun _ _ _ hh => absurd hh (h _ _ _)
theorem Unf.newC {w : World} {vs : Array Value} {ty : TypeId} : Unf (w.alloc (.cells vs ty (0, 0))) w.heap.size := fun a c d hh => by
  have : (w.heap.push (.cells vs ty (0, 0)))[w.heap.size]? = some (.cells a c d) := hh
  rw [Array.getElem?_push, if_pos rfl] at this
  cases this; rfl
theorem Unf.setRow {w : World} {b : Nat} {cs : Array Value} (u : Unf w b) : Unf (w.setRow b cs) b := fun a c d hh => by
  simp only [World.setRow, Array.getElem?_modify, if_true] at hh
  cases hw : w.heap[b]? with
  | none => rw [hw] at hh; cases hh
  | some o =>
    rw [hw] at hh
    cases o <;> simp only [Option.map_some, Option.some.injEq, reduceCtorEq] at hh
    cases hh
    exact u _ _ _ hw
theorem Unf.setHeap {w : World} {b : Nat} {o : Go.Obj} (ho : ∀ vs ty fz, o ≠ .cells vs ty fz := by intro _ _ _ e; cases e) : Unf { w with heap := w.heap.setIfInBounds b o } b := fun a c d hh => by
  have hh : (w.heap.setIfInBounds b o)[b]? = some (.cells a c d) := hh
  rw [Array.getElem?_setIfInBounds, if_pos rfl] at hh
  split at hh
  · cases hh; exact absurd rfl (ho _ _ _)
  · cases hh
structure Inv (T : TT) (A : Nat → Prop) (g : Gh) (st : St) (w : World) : Prop where
  F : ∀ b o v, g.F b o = some v → w.cell? ⟨b, o, none⟩ = some v
  M : ∀ b ents clk, g.M b = some (ents, clk) → w.heap[b]? = some (.map ents.toArray clk)
  E : ∀ id, st.h ≤ id → g.E id = none
  H : ∀ id o, st.get id = .ok o → Holds T g w id o
  D : ∀ id id' o o' b, st.get id = .ok o → st.get id' = .ok o' → At g id o b → At g id' o' b → id = id'
  own : ∀ id o b, st.get id = .ok o → At g id o b → st.ro ≤ id → A b
  up : ∀ b, w.heap.size ≤ b → A b
  C : g.C → (∀ b o v, A b → g.F b o = some v → w.frozen? ⟨b, o, none⟩ = false) ∧ ∀ id o b, st.get id = .ok o → At g id o b → Unf w b
structure Kp (A : Nat → Prop) (g : Gh) (w : World) (g' : Gh) (w' : World) : Prop where
  size : w.heap.size ≤ w'.heap.size
  heap : ∀ b, ¬ A b → w'.heap[b]? = w.heap[b]?
  F : ∀ b, ¬ A b → ∀ o, g'.F b o = g.F b o
  M : ∀ b, ¬ A b → g'.M b = g.M b
  le : Le g g'
  rest : w'.os = w.os ∧ w'.tape = w.tape ∧ w'.output = w.output
theorem Kp.refl (A : Nat → Prop) (g : Gh) (w : World) : Kp A g w g w := ⟨Nat.le_refl _, fun _ _ => rfl, fun _ _ _ => rfl, fun _ _ => rfl, Le.refl g, rfl, rfl, rfl⟩
theorem Kp.trans {A : Nat → Prop} {g g' g'' : Gh} {w w' w'' : World} (h : Kp A g w g' w') (k : Kp A g' w' g'' w'') : Kp A g w g'' w'' :=
  ⟨Nat.le_trans h.size k.size, fun b hb => (k.heap b hb).trans (h.heap b hb), fun b hb o => (k.F b hb o).trans (h.F b hb o), fun b hb => (k.M b hb).trans (h.M b hb), h.le.trans k.le, k.rest.1.trans h.rest.1, k.rest.2.1.trans h.rest.2.1, k.rest.2.2.trans h.rest.2.2⟩
theorem Holds_congr {T : TT} {g : Gh} {w w' : World} {id : Nat} {o : Obj} (h : Holds T g w id o) (hw : ∀ b, At g id o b → w'.heap[b]? = w.heap[b]?) : Holds T g w' id o := by
  cases o with
  | cells ty cs =>
    obtain ⟨b, vs, rest, ty', h1, h2, h3⟩ := h
    exact ⟨b, vs, rest, ty', h1, by rw [hw b h1]; exact h2, h3⟩
  | tok n e =>
    obtain ⟨loc, b, cap, i, vs, fz, h1, h2, h3, h4, h5, h6, h7, h8⟩ := h
    exact ⟨loc, b, cap, i, vs, fz, h1, h2, h3, h4, h5, h6, by rw [hw b ⟨loc, cap, h1, h2⟩]; exact h7, h8⟩
  | map es =>
    obtain ⟨b, ents, clk, h1, h2, h3⟩ := h
    exact ⟨b, ents, clk, h1, by rw [hw b h1]; exact h2, h3⟩
  | sit s pos =>
    obtain ⟨b, h1, h2⟩ := h
    exact ⟨b, h1, by rw [hw b h1]; exact h2⟩
  | dead => trivial
  | grow n e z es =>
    obtain ⟨loc, b, cap, i, vs, fz, h1, h2, h3, h4, h5, h6, h7, h8⟩ := h
    exact ⟨loc, b, cap, i, vs, fz, h1, h2, h3, h4, h5, h6, by rw [hw b ⟨loc, cap, h1, h2⟩]; exact h7, h8⟩
  | egg => exact h
  | row n e z cs =>
    obtain ⟨loc, b, cap, i, pre, rest, h1, h2, h3, h4, h5, h6, h7, h8⟩ := h
    exact ⟨loc, b, cap, i, pre, rest, h1, h2, h3, h4, h5, h6, by rw [hw b ⟨loc, cap, h1, h2⟩]; exact h7, h8⟩
  | loop imm ps a c fr s p =>
    obtain ⟨b, r, h1, h2, h3⟩ := h
    exact ⟨b, r, h1, by rw [hw b h1]; exact h2, h3⟩
theorem At_lt {T : TT} {g : Gh} {w : World} {id b : Nat} {o : Obj} (h : Holds T g w id o) (ha : At g id o b) : b < w.heap.size := by
  have key : ∀ x : Go.Obj, w.heap[b]? = some x → b < w.heap.size := fun x hx => by
    rcases Nat.lt_or_ge b w.heap.size with h | h
    · exact h
    · simp [Array.getElem?_eq_none h] at hx
  cases o with
  | cells ty cs =>
    obtain ⟨b', vs, rest, ty', h1, h2, h3⟩ := h
    have : b' = b := by have := h1.symm.trans ha; simpa using this
    subst this; exact key _ h2
  | tok n e =>
    obtain ⟨loc, b', cap, i, vs, fz, h1, h2, h3, h4, h5, h6, h7, h8⟩ := h
    obtain ⟨loc', cap', k1, k2⟩ := ha
    have e1 := h1.symm.trans k1
    simp only [Option.some.injEq, Ent.tok.injEq] at e1
    subst e1
    have e2 := h2.symm.trans k2
    simp only [Option.some.injEq, Prod.mk.injEq] at e2
    obtain ⟨rfl, rfl⟩ := e2
    exact key _ h7
  | map es =>
    obtain ⟨b', ents, clk, h1, h2, h3⟩ := h
    have : b' = b := by have := h1.symm.trans ha; simpa using this
    subst this; exact key _ h2
  | sit s pos =>
    obtain ⟨b', h1, h2⟩ := h
    have : b' = b := by have := h1.symm.trans ha; simpa using this
    subst this; exact key _ h2
  | dead => exact ha.elim
  | grow n e z es =>
    obtain ⟨loc, b', cap, i, vs, fz, h1, h2, h3, h4, h5, h6, h7, h8⟩ := h
    obtain ⟨loc', cap', k1, k2⟩ := ha
    have e1 := h1.symm.trans k1
    simp only [Option.some.injEq, Ent.tok.injEq] at e1
    subst e1
    have e2 := h2.symm.trans k2
    simp only [Option.some.injEq, Prod.mk.injEq] at e2
    obtain ⟨rfl, rfl⟩ := e2
    exact key _ h7
  | egg => exact ha.elim
  | row n e z cs =>
    obtain ⟨loc, b', cap, i, pre, rest, h1, h2, h3, h4, h5, h6, h7, h8⟩ := h
    obtain ⟨loc', cap', k1, k2⟩ := ha
    have e1 := h1.symm.trans k1
    simp only [Option.some.injEq, Ent.tok.injEq] at e1
    subst e1
    have e2 := h2.symm.trans k2
    simp only [Option.some.injEq, Prod.mk.injEq] at e2
    obtain ⟨rfl, rfl⟩ := e2
    exact key _ h7
  | loop imm ps a c fr s p =>
    obtain ⟨b', r, h1, h2, h3⟩ := h
    have : b' = b := by have := h1.symm.trans ha; simpa using this
    subst this; exact key _ h2
theorem World.heap_alloc_lt {w : World} {o : Go.Obj} {b : Nat} (h : b < w.heap.size) : (w.alloc o).heap[b]? = w.heap[b]? := by
  show (w.heap.push o)[b]? = _
  rw [Array.getElem?_push, if_neg (by omega)]
theorem World.heap_alloc_new {w : World} {o : Go.Obj} : (w.alloc o).heap[w.heap.size]? = some o := by
  show (w.heap.push o)[w.heap.size]? = _
  rw [Array.getElem?_push, if_pos rfl]
theorem lt_of_heap {w : World} {b : Nat} {x : Go.Obj} (hx : w.heap[b]? = some x) : b < w.heap.size := by
  rcases Nat.lt_or_ge b w.heap.size with h | h
  · exact h
  · simp [Array.getElem?_eq_none h] at hx
theorem cell_congr {w w' : World} {b : Nat} (h : w'.heap[b]? = w.heap[b]?) (o : Nat) : w'.cell? ⟨b, o, none⟩ = w.cell? ⟨b, o, none⟩ := by
  simp [World.cell?, h]
theorem Inv.world {T : TT} {A : Nat → Prop} {g : Gh} {st : St} {w w' : World} (h : Inv T A g st w) (hs : w.heap.size ≤ w'.heap.size)
    (hw : ∀ b, b < w.heap.size → w'.heap[b]? = w.heap[b]?) : Inv T A g st w' where
  F b o v hv := by
    have h1 := h.F b o v hv
    obtain ⟨vs, ty, fz, h2, _⟩ := cells_of h1
    rw [cell_congr (hw b (lt_of_heap h2))]; exact h1
  M b ents clk hm := by rw [hw b (lt_of_heap (h.M b ents clk hm))]; exact h.M b ents clk hm
  E := h.E
  H id o ho := Holds_congr (h.H id o ho) fun b hb => hw b (At_lt (h.H id o ho) hb)
  D := h.D
  own := h.own
  up b hb := h.up b (Nat.le_trans hs hb)
  C c := ⟨fun b o v ha hv => by
      obtain ⟨vs, ty, fz, h2, _⟩ := cells_of (h.F b o v hv)
      rw [frz_congr (hw b (lt_of_heap h2))]; exact (h.C c).1 b o v ha hv,
    fun id o b ho hb => ((h.C c).2 id o b ho hb).congr (hw b (At_lt (h.H id o ho) hb))⟩
theorem Inv.alloc {T : TT} {A : Nat → Prop} {g : Gh} {st : St} {w : World} (o : Go.Obj) (h : Inv T A g st w) : Inv T A g st (w.alloc o) :=
  h.world (by simp) fun _ hb => World.heap_alloc_lt hb
theorem Inv.drew {T : TT} {A : Nat → Prop} {g : Gh} {st : St} {w : World} (h : Inv T A g st w) : Inv T A g st w.drew :=
  h.world (Nat.le_refl _) fun _ _ => rfl
theorem Kp.alloc {T : TT} {A : Nat → Prop} {g : Gh} {st : St} {w : World} (o : Go.Obj) (h : Inv T A g st w) : Kp A g w g (w.alloc o) :=
  ⟨by simp, fun b hb => World.heap_alloc_lt (Nat.lt_of_not_le fun k => hb (h.up b k)), fun _ _ _ => rfl, fun _ _ => rfl, Le.refl g, rfl, rfl, rfl⟩
theorem Kp.drew (A : Nat → Prop) (g : Gh) (w : World) : Kp A g w g w.drew := ⟨Nat.le_refl _, fun _ _ => rfl, fun _ _ _ => rfl, fun _ _ => rfl, Le.refl g, rfl, rfl, rfl⟩
theorem Holds_mono {T : TT} {g g' : Gh} {w : World} {id : Nat} {o : Obj} (h : Holds T g w id o) (le : Le g g') (hE : g'.E id = g.E id)
    (hF : ∀ b, At g id o b → (∀ k, g'.F b k = g.F b k) ∧ g'.M b = g.M b) : Holds T g' w id o := by
  cases o with
  | cells ty cs =>
    obtain ⟨b, vs, rest, ty', h1, h2, h3, h4, h5, h6⟩ := h
    exact ⟨b, vs, rest, ty', hE.trans h1, h2, RL_mono le _ _ h3, h4, fun k => by rw [(hF b h1).1 k]; exact h5 k, h6⟩
  | tok n e =>
    obtain ⟨loc, b, cap, i, vs, fz, h1, h2, h3, h4, h5, h6, h7, h8, h9, h10⟩ := h
    exact ⟨loc, b, cap, i, vs, fz, hE.trans h1, h2, h3, h4, h5, h6, h7, h8, h9, fun k hk => by rw [(hF b ⟨loc, cap, h1, h2⟩).1 k]; exact h10 k hk⟩
  | map es =>
    obtain ⟨b, ents, clk, h1, h2, h3, h4⟩ := h
    exact ⟨b, ents, clk, hE.trans h1, h2, REs_mono le _ _ h3, by rw [(hF b h1).2]; exact h4⟩
  | sit s pos =>
    obtain ⟨b, h1, h2⟩ := h
    exact ⟨b, hE.trans h1, h2⟩
  | dead => trivial
  | grow n e z es =>
    obtain ⟨loc, b, cap, i, vs, fz, h1, h2, h3, h4, h5, h6, h7, h8, h9, h10, h11, h12, h13, h14⟩ := h
    exact ⟨loc, b, cap, i, vs, fz, hE.trans h1, h2, h3, h4, h5, h6, h7, h8, h9, fun k hk => by rw [(hF b ⟨loc, cap, h1, h2⟩).1 k]; exact h10 k hk, h11, h12, h13, RAtE_mono le _ _ _ _ h14⟩
  | egg => exact hE.trans h
  | row n e z cs =>
    obtain ⟨loc, b, cap, i, pre, rest, h1, h2, h3, h4, h5, h6, h7, h8, h9, h10, h11, h12, h13⟩ := h
    exact ⟨loc, b, cap, i, pre, rest, hE.trans h1, h2, h3, h4, h5, h6, h7, h8, fun k => by rw [(hF b ⟨loc, cap, h1, h2⟩).1 k]; exact h9 k, h10, RL_mono le _ _ h11, h12, h13⟩
  | loop imm ps a c fr s p =>
    obtain ⟨b, r, h1, h2, h3, h4⟩ := h
    exact ⟨b, r, hE.trans h1, h2, h3.mono le, h4⟩
theorem At_E {g g' : Gh} {id : Nat} {o : Obj} {b : Nat} (hE : g'.E id = g.E id) : At g' id o b ↔ At g id o b := by
  cases o <;> simp [At, hE]
def Gh.setE (g : Gh) (id : Nat) (e : Ent) : Gh := { g with E := fun j => if j = id then some e else g.E j }
theorem Gh.setE_same (g : Gh) (id : Nat) (e : Ent) : (g.setE id e).E id = some e := by simp [Gh.setE]
theorem Gh.setE_ne (g : Gh) (e : Ent) {id j : Nat} (h : j ≠ id) : (g.setE id e).E j = g.E j := by simp [Gh.setE, h]
theorem Le.setE {g : Gh} {id : Nat} {e : Ent} (h : g.E id = none) : Le g (g.setE id e) := by
  refine ⟨fun _ _ _ x => x, fun _ _ x => x, fun j b x => ?_, fun j loc x => ⟨loc, ?_, fun _ _ y => y⟩, Iff.rfl⟩
  · have : j ≠ id := fun e => by subst e; rw [h] at x; cases x
    rw [Gh.setE_ne _ _ this]; exact x
  · have : j ≠ id := fun e => by subst e; rw [h] at x; cases x
    rw [Gh.setE_ne _ _ this]; exact x
theorem Kp.setE {A : Nat → Prop} {g : Gh} {w : World} {id : Nat} {e : Ent} (h : g.E id = none) : Kp A g w (g.setE id e) w :=
  ⟨Nat.le_refl _, fun _ _ => rfl, fun _ _ _ => rfl, fun _ _ => rfl, Le.setE h, rfl, rfl, rfl⟩
theorem Inv.name {T : TT} {A : Nat → Prop} {g : Gh} {st : St} {w : World} (h : Inv T A g st w) (o : Obj) (e : Ent) (b : Nat)
    (hb : ∀ id o', st.get id = .ok o' → ¬ At g id o' b) (hA : A b) (hat : ∀ b', At (g.setE st.h e) st.h o b' → b' = b)
    (ho : Holds T (g.setE st.h e) w st.h o) (hU : g.C → Unf w b := by exact fun _ => Unf.newC) : Inv T A (g.setE st.h e) (st.new o).2 w where
  F := h.F
  M := h.M
  E id hid := by
    have hid' : st.h + 1 ≤ id := hid
    rw [Gh.setE_ne _ _ (by omega)]; exact h.E id (by omega)
  H id o' ho' := by
    rcases St.get_new_ok.1 ho' with ⟨rfl, rfl⟩ | ⟨hlt, hget⟩
    · exact ho
    · exact Holds_mono (h.H id o' hget) (Le.setE (h.E _ (Nat.le_refl _))) (Gh.setE_ne _ _ (by omega)) fun _ _ => ⟨fun _ => rfl, rfl⟩
  D id id' o1 o2 b' h1 h2 a1 a2 := by
    rcases St.get_new_ok.1 h1 with ⟨rfl, rfl⟩ | ⟨l1, g1⟩ <;> rcases St.get_new_ok.1 h2 with ⟨rfl, rfl⟩ | ⟨l2, g2⟩
    · rfl
    · rw [At_E (Gh.setE_ne _ _ (by omega))] at a2
      have := hat b' a1; subst this
      exact absurd a2 (hb _ _ g2)
    · rw [At_E (Gh.setE_ne _ _ (by omega))] at a1
      have := hat b' a2; subst this
      exact absurd a1 (hb _ _ g1)
    · rw [At_E (Gh.setE_ne _ _ (by omega))] at a1 a2
      exact h.D id id' o1 o2 b' g1 g2 a1 a2
  own id o' b' h1 a1 hr := by
    rcases St.get_new_ok.1 h1 with ⟨rfl, rfl⟩ | ⟨l1, g1⟩
    · rw [hat b' a1]; exact hA
    · rw [At_E (Gh.setE_ne _ _ (by omega))] at a1
      exact h.own id o' b' g1 a1 hr
  up := h.up
  C c := ⟨(h.C c).1, fun id o' b' h1 a1 => by
    rcases St.get_new_ok.1 h1 with ⟨rfl, rfl⟩ | ⟨l1, g1⟩
    · rw [hat b' a1]; exact hU c
    · rw [At_E (Gh.setE_ne _ _ (by omega))] at a1
      exact (h.C c).2 id o' b' g1 a1⟩
def Gh.addF (g : Gh) (b lo : Nat) (vs : List Value) : Gh := { g with F := fun b' o => if b' = b ∧ lo ≤ o ∧ o < lo + vs.length then vs[o - lo]? else g.F b' o }
theorem Gh.addF_at (g : Gh) (b lo : Nat) (vs : List Value) (i : Nat) (v : Value) (h : vs[i]? = some v) : (g.addF b lo vs).F b (lo + i) = some v := by
  have hi : i < vs.length := by
    rcases Nat.lt_or_ge i vs.length with k | k
    · exact k
    · simp [List.getElem?_eq_none k] at h
  simp only [Gh.addF]
  rw [if_pos ⟨trivial, by omega, by omega⟩, show lo + i - lo = i by omega]; exact h
theorem Gh.addF_other (g : Gh) (b lo : Nat) (vs : List Value) {b' o : Nat} (h : b' ≠ b ∨ o < lo ∨ lo + vs.length ≤ o) : (g.addF b lo vs).F b' o = g.F b' o := by
  simp only [Gh.addF]; rw [if_neg (by omega)]
theorem Le.addF {g : Gh} {b lo : Nat} {vs : List Value} (h : ∀ o, lo ≤ o → o < lo + vs.length → g.F b o = none) : Le g (g.addF b lo vs) := by
  refine ⟨fun b' o v hv => ?_, fun _ _ x => x, fun _ _ x => x, fun _ loc x => ⟨loc, x, fun _ _ y => y⟩, Iff.rfl⟩
  by_cases hc : b' = b ∧ lo ≤ o ∧ o < lo + vs.length
  · obtain ⟨rfl, h1, h2⟩ := hc
    rw [h o h1 h2] at hv; cases hv
  · rw [Gh.addF_other _ _ _ _ (by omega)]; exact hv
theorem Inv.addF {T : TT} {A : Nat → Prop} {g : Gh} {st : St} {w : World} (h : Inv T A g st w) (b lo : Nat) (vs : List Value)
    (hnone : ∀ o, lo ≤ o → o < lo + vs.length → g.F b o = none) (hcell : ∀ i v, vs[i]? = some v → w.cell? ⟨b, lo + i, none⟩ = some v)
    (hown : ∀ id o, st.get id = .ok o → ¬ At g id o b) (hU : g.C → A b → ∀ o, lo ≤ o → o < lo + vs.length → w.frozen? ⟨b, o, none⟩ = false := by exact fun _ _ o _ _ => Unf.sof Unf.newC o) : Inv T A (g.addF b lo vs) st w where
  F b' o v hv := by
    by_cases hc : b' = b ∧ lo ≤ o ∧ o < lo + vs.length
    · obtain ⟨rfl, h1, h2⟩ := hc
      simp only [Gh.addF] at hv
      rw [if_pos ⟨trivial, h1, h2⟩] at hv
      have := hcell _ _ hv
      rwa [show lo + (o - lo) = o by omega] at this
    · rw [Gh.addF_other _ _ _ _ (by omega)] at hv
      exact h.F b' o v hv
  M := h.M
  E := h.E
  H id o ho := Holds_mono (h.H id o ho) (Le.addF hnone) rfl fun _ hb' => ⟨fun _ => Gh.addF_other _ _ _ _ (.inl fun e => hown id o ho (e ▸ hb')), rfl⟩
  D := h.D
  own := h.own
  up := h.up
  C c := ⟨fun b' o v ha hv => by
    by_cases hc : b' = b ∧ lo ≤ o ∧ o < lo + vs.length
    · rw [hc.1]; exact hU c (hc.1 ▸ ha) o hc.2.1 hc.2.2
    · rw [Gh.addF_other _ _ _ _ (by omega)] at hv
      exact (h.C c).1 b' o v ha hv, (h.C c).2⟩
theorem Kp.addF {A : Nat → Prop} {g : Gh} {w : World} {b lo : Nat} {vs : List Value} (hA : A b) (h : ∀ o, lo ≤ o → o < lo + vs.length → g.F b o = none) : Kp A g w (g.addF b lo vs) w :=
  ⟨Nat.le_refl _, fun _ _ => rfl, fun _ hb' _ => Gh.addF_other _ _ _ _ (.inl fun e => hb' (e ▸ hA)), fun _ _ => rfl, Le.addF h, rfl, rfl, rfl⟩
theorem Inv.write {T : TT} {A : Nat → Prop} {g : Gh} {st : St} {w w' : World} (h : Inv T A g st w) {id b : Nat} {o : Obj} (hid : st.get id = .ok o) (hat : At g id o b) (o' : Obj)
    (hs : w'.heap.size = w.heap.size) (hw : ∀ b', b' ≠ b → w'.heap[b']? = w.heap[b']?)
    (hF : ∀ k v, g.F b k = some v → w'.cell? ⟨b, k, none⟩ = some v) (hM : g.M b = none)
    (hat' : ∀ b', At g id o' b' → b' = b) (ho' : Holds T g w' id o') (hU : g.C → Unf w b → Unf w' b := by first | exact fun _ => Unf.setRow | exact fun _ _ => Unf.setHeap) : Inv T A g (st.put id o') w' where
  F b' k v hv := by
    by_cases hb : b' = b
    · subst hb; exact hF k v hv
    · rw [cell_congr (hw b' hb)]; exact h.F b' k v hv
  M b' ents clk hm := by
    by_cases hb : b' = b
    · subst hb; rw [hM] at hm; cases hm
    · rw [hw b' hb]; exact h.M b' ents clk hm
  E := h.E
  H j u hu := by
    by_cases hj : j = id
    · subst hj
      have hlt := (St.get_ok.1 hid).1
      rw [St.get_put_same hlt] at hu
      cases hu; exact ho'
    · rw [St.get_put_ne (fun e => hj e.symm)] at hu
      refine Holds_congr (h.H j u hu) fun b' hb' => hw b' fun e => ?_
      subst e
      exact hj (h.D j id u o b' hu hid hb' hat)
  D i j u v b' h1 h2 a1 a2 := by
    have hlt := (St.get_ok.1 hid).1
    have key : ∀ i u, (st.put id o').get i = .ok u → At g i u b' → ∃ u', st.get i = .ok u' ∧ At g i u' b' := fun i u hu ha => by
      by_cases hi : i = id
      · subst hi
        rw [St.get_put_same hlt] at hu
        cases hu
        have := hat' b' ha; subst this
        exact ⟨o, hid, hat⟩
      · rw [St.get_put_ne (fun e => hi e.symm)] at hu
        exact ⟨u, hu, ha⟩
    obtain ⟨u', k1, k2⟩ := key i u h1 a1
    obtain ⟨v', k3, k4⟩ := key j v h2 a2
    exact h.D i j u' v' b' k1 k3 k2 k4
  own i u b' h1 a1 hr := by
    have hlt := (St.get_ok.1 hid).1
    by_cases hi : i = id
    · subst hi
      rw [St.get_put_same hlt] at h1
      cases h1
      have := hat' b' a1; subst this
      exact h.own i o b' hid hat hr
    · rw [St.get_put_ne (fun e => hi e.symm)] at h1
      exact h.own i u b' h1 a1 hr
  up b' hb' := h.up b' (by omega)
  C c := by
    have hb := hU c ((h.C c).2 id o b hid hat)
    have key : ∀ b', Unf w b' → Unf w' b' := fun b' hu => by
      by_cases e : b' = b
      · rw [e]; exact hb
      · exact hu.congr (hw b' e)
    refine ⟨fun b' k v ha hv => ?_, fun i u b' h1 a1 => ?_⟩
    · by_cases e : b' = b
      · rw [e]; exact hb.sof k
      · rw [frz_congr (hw b' e)]; exact (h.C c).1 b' k v ha hv
    have hlt := (St.get_ok.1 hid).1
    by_cases hi : i = id
    · subst hi
      rw [St.get_put_same hlt] at h1
      cases h1
      rw [hat' b' a1]; exact hb
    · rw [St.get_put_ne (fun e => hi e.symm)] at h1
      exact key b' ((h.C c).2 i u b' h1 a1)
theorem Kp.write {A : Nat → Prop} {g : Gh} {w w' : World} {b : Nat} (hA : A b) (hs : w'.heap.size = w.heap.size) (hw : ∀ b', b' ≠ b → w'.heap[b']? = w.heap[b']?) (ho : w'.os = w.os ∧ w'.tape = w.tape ∧ w'.output = w.output := by exact ⟨rfl, rfl, rfl⟩) : Kp A g w g w' :=
  ⟨by omega, fun b' hb' => hw b' fun e => hb' (e ▸ hA), fun _ _ _ => rfl, fun _ _ => rfl, Le.refl g, ho⟩
end Go.VM
