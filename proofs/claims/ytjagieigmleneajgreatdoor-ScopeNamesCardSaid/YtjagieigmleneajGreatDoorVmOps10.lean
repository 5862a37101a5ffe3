/- Constants, maps, and the rest. -/
import Derived.Test.YtjagieigmleneajGreatDoorVmOps9
namespace Go.VM
section
variable {P : Program} {T : TT} {A : Nat → Prop} {g : Gh} {st : St} {w : World}

mutual
theorem ofConst_sound (g : Gh) : ∀ (x : Value) (v : AV), ofConst x = .ok v → R g v x
  | .bool _, v, h | .int _ _, v, h | .float _ _, v, h | .nilFunc, v, h | .nilIface, v, h => by
    unfold ofConst at h; simp only [Except.ok.injEq] at h; subst h; simp only [R]
  | .string s, v, h => by
    unfold ofConst at h; simp only [Except.ok.injEq] at h; subst h; simp only [R]
  | .pointer a, v, h => by
    cases a with
    | none => unfold ofConst at h; simp only [Except.ok.injEq] at h; subst h; simp only [R]
    | some _ => unfold ofConst at h; cases h
  | .slice a l c, v, h => by
    unfold ofConst at h
    split at h <;> rename_i heq <;> (try (cases heq; done)) <;> (try (cases h; done))
    cases heq
    simp only [Except.ok.injEq] at h; subst h; simp only [R]
  | .map a, v, h => by
    cases a with
    | none => unfold ofConst at h; simp only [Except.ok.injEq] at h; subst h; simp only [R]
    | some _ => unfold ofConst at h; cases h
  | .agg cs, v, h => by
    unfold ofConst at h
    simp only [bind_ok, pure_ok] at h
    obtain ⟨vs, h1, rfl⟩ := h
    simp only [R]
    exact ⟨cs, rfl, ofAll_sound g cs.toList vs h1⟩
  | .tuple cs, v, h => by
    unfold ofConst at h
    simp only [bind_ok, pure_ok] at h
    obtain ⟨vs, h1, rfl⟩ := h
    simp only [R]
    exact ⟨cs, rfl, ofAll_sound g cs.toList vs h1⟩
  | .complex _ _ _, v, h | .chan _, v, h | .func _ _ _, v, h | .iface _ _, v, h => by
    unfold ofConst at h; cases h
theorem ofAll_sound (g : Gh) : ∀ (xs : List Value) (vs : List AV), ofConst.ofAll xs = .ok vs → RL g vs xs
  | [], vs, h => by
    unfold ofConst.ofAll at h; simp only [Except.ok.injEq] at h; subst h; exact RL_nil
  | x :: xs, vs, h => by
    unfold ofConst.ofAll at h
    simp only [bind_ok, pure_ok] at h
    obtain ⟨v, h1, l, h2, rfl⟩ := h
    exact RL_cons (ofConst_sound g x v h1) (ofAll_sound g xs l h2)
end

/-- The frame. -/
structure FrR (g : Gh) (fr : Fr) (tmps : Array Value) : Prop where
  size : tmps.size = fr.n
  at' : ∀ t, R g (fr.get t) (tmps.getD t Go.undef)

theorem R_undef : R g undef Go.undef := by
  simp only [undef, R]; exact ⟨#[], rfl, by simp [RL]⟩
theorem FrR.mono {g g' : Gh} {fr : Fr} {tmps : Array Value} (h : FrR g fr tmps) (le : Le g g') : FrR g' fr tmps := ⟨h.size, fun t => R_mono le _ _ (h.at' t)⟩
theorem FrR.put {fr : Fr} {tmps : Array Value} (h : FrR g fr tmps) {v : AV} {x : Value} (hx : R g v x) (d : Option Tmp) :
    FrR g (fr.put d v) (match d with | some d => tmps.setIfInBounds d x | none => tmps) := by
  cases d with
  | none => exact h
  | some d =>
    simp only [Fr.put]
    split
    · rename_i hd
      rw [blt_true, ← h.size] at hd
      refine ⟨by simp [h.size], fun t => ?_⟩
      simp only [Fr.get, Tr.get_put]
      by_cases ht : d = t
      · subst ht
        simpa [hd] using hx
      · have := h.at' t
        simp only [Fr.get] at this
        simpa [ht, Array.getElem?_setIfInBounds_ne ht] using this
    · rename_i hd
      rw [blt_false, ← h.size] at hd
      rw [Array.setIfInBounds_eq_of_size_le (by simpa using hd)]
      exact h

/-- What is known of the program's variables. -/
def GR (g : Gh) (G : Nat → Option (List AV)) : Prop := ∀ k cs, G k = some cs → bares cs = true ∧ RAt g cs k 0
theorem GR.mono {g g' : Gh} {G : Nat → Option (List AV)} (h : GR g G) (le : Le g g') : GR g' G := fun k cs hk => ⟨(h k cs hk).1, RAt_mono le _ _ _ (h k cs hk).2⟩

theorem evalO_sound {G : Nat → Option (List AV)} {fr : Fr} {a : Act} {x : Operand} {v : AV} (hG : GR g G) (hf : FrR g fr a.tmps) (h : evalO G fr x = .ok v) : R g v (a.eval x) := by
  cases x with
  | tmp t =>
    simp only [evalO, Except.ok.injEq] at h
    subst h
    exact hf.at' t
  | const c => exact ofConst_sound g c v h
  | global k =>
    simp only [evalO] at h
    split at h
    · rename_i cs hk
      simp only [Except.ok.injEq] at h
      subst h
      obtain ⟨h1, h2⟩ := hG k cs hk
      simp only [R, Act.eval]
      exact ⟨h1, k, 0, rfl, h2⟩
    · cases h
  | func f =>
    simp only [evalO, Except.ok.injEq] at h
    subst h
    simp only [R, Act.eval]
    exact ⟨#[], #[], rfl, by simp [RL], by simp [RL]⟩
theorem evalL_sound {G : Nat → Option (List AV)} {fr : Fr} {a : Act} (hG : GR g G) (hf : FrR g fr a.tmps) : ∀ {xs : List Operand} {vs : List AV}, evalL G fr xs = .ok vs → RL g vs (xs.map a.eval)
  | [], _, h => by simp only [evalL, Except.ok.injEq] at h; subst h; exact RL_nil
  | x :: xs, _, h => by
    simp only [evalL, bind_ok, pure_ok] at h
    obtain ⟨v, h1, l, h2, rfl⟩ := h
    exact RL_cons (evalO_sound hG hf h1) (evalL_sound hG hf h2)
theorem evalOpt_sound {G : Nat → Option (List AV)} {fr : Fr} {a : Act} (hG : GR g G) (hf : FrR g fr a.tmps) {x : Option Operand} {v : Option AV} (h : evalOpt G fr x = .ok v) : ORel g v (x.map a.eval) := by
  cases x with
  | none => simp only [evalOpt, Except.ok.injEq] at h; subst h; trivial
  | some x =>
    simp only [evalOpt, bind_ok, pure_ok] at h
    obtain ⟨u, h1, rfl⟩ := h
    exact evalO_sound hG hf h1
theorem evalParts_sound {G : Nat → Option (List AV)} {fr : Fr} {a : Act} (hG : GR g G) (hf : FrR g fr a.tmps) : ∀ {xs : List (Nat × Operand)} {vs : List (Nat × AV)}, evalParts G fr xs = .ok vs → RParts g vs (xs.map fun (i, x) => (i, a.eval x))
  | [], _, h => by simp only [evalParts, Except.ok.injEq] at h; subst h; exact .nil
  | (i, x) :: xs, _, h => by
    simp only [evalParts, bind_ok, pure_ok] at h
    obtain ⟨v, h1, l, h2, rfl⟩ := h
    exact .cons (evalO_sound hG hf h1) (evalParts_sound hG hf h2)

/-! Maps. -/
theorem keyEq_sound {d : TypeDesc} {u : U} {a b : AV} {r : Bool} {x y : Value} (hu : UOk d u) (ha : keyOk u a = true) (h : keyEq a b = .ok r) (hx : R g a x) (hy : R g b y) : Instr.sameNow d x y = some r := by
  unfold keyEq at h
  split at h
  · simp only [Except.ok.injEq] at h
    subst h
    simp only [R] at hx hy
    subst hx hy
    cases u <;> simp [keyOk] at ha
    simp only [UOk] at hu
    subst hu
    rfl
  · rename_i j a k b
    split at h
    · rename_i hjk
      subst hjk
      simp only [Except.ok.injEq] at h
      subst h
      simp only [R] at hx hy
      subst hx hy
      cases u <;> simp [keyOk] at ha
      simp only [UOk] at hu
      subst hu
      simp [Instr.sameNow]
    · cases h
  · simp only [Except.ok.injEq] at h
    subst h
    simp only [R] at hx hy
    subst hx hy
    cases u <;> simp [keyOk] at ha
    simp only [UOk] at hu
    subst hu
    simp [Instr.sameNow, bs_beq]
  · cases h

theorem findEntry_sound {d : TypeDesc} {u : U} {k : AV} {kx : Value} (hu : UOk d u) (hk : keyOk u k = true) (hx : R g k kx) : ∀ {es : List (AV × AV)} {ents : List MapEntry} {r : Option AV} (i : Nat), findEntry k es = .ok r → REs g es ents →
    match r with
    | none => Instr.findNow d kx ents i = some none
    | some v => ∃ j y, Instr.findNow d kx ents i = some (some (j, y)) ∧ R g v y
  | [], _, _, i, h, hr => by
    simp only [findEntry, Except.ok.injEq] at h
    subst h
    simp only [REs] at hr
    subst hr
    rfl
  | (a, v) :: es, _, r, i, h, hr => by
    simp only [REs] at hr
    obtain ⟨e, l, rfl, r1, r2, r3⟩ := hr
    simp only [findEntry, bind_ok] at h
    obtain ⟨b, h1, h2⟩ := h
    have hs := keyEq_sound hu hk h1 hx r1
    cases b with
    | true =>
      simp only [pure_ok] at h2
      subst h2
      exact ⟨i, e.val, by simp [Instr.findNow, hs], r2⟩
    | false =>
      have ih := findEntry_sound hu hk hx (i + 1) h2 r3
      cases r with
      | none => simp only [Instr.findNow, hs]; exact ih
      | some v' =>
        obtain ⟨j, y, h3, h4⟩ := ih
        exact ⟨j, y, by simp only [Instr.findNow, hs]; exact h3, h4⟩

theorem run_checkKey {kt : TypeId} {d : TypeDesc} {u : U} {k : AV} {kx : Value} (hd : P.underlying kt = some d) (hu : UOk d u) (hk : keyOk u k = true) (hx : R g k kx) (b : Bool) (n : Nat) :
    (Instr.checkKey b (n + 1) kt kx).run P w = .ok () w := by
  cases u <;> cases k <;> simp [keyOk] at hk <;> simp only [UOk] at hu <;> simp only [R] at hx <;> subst hu hx <;> simp [Instr.checkKey, und_run hd]

theorem run_findKey {kt : TypeId} {d : TypeDesc} {kx : Value} {ents : List MapEntry} {r : Option (Nat × Value)} (hd : P.underlying kt = some d) (h : Instr.findNow d kx ents 0 = some r) :
    (Instr.findKey kt kx ents).run P w = .ok r w := by
  simp [Instr.findKey, und_run hd, h]

theorem zeroV_sound {t : TypeId} {i : TI} (hi : TIOk P t i) : ∃ z, (∀ w, (zeroValue t).run P w = .ok z w) ∧ R g (zeroV i) z := by
  obtain ⟨z, z1, z2, z3, z4, z5, z6⟩ := hi.run_zero
  refine ⟨z, z1, ?_⟩
  cases ha : i.agg with
  | true =>
    obtain ⟨cs, rfl⟩ := z5 ha
    simp only [zeroV, ha, R]
    exact ⟨cs, rfl, z6 g⟩
  | false =>
    have h1 := z3 ha
    have hz : z.cells = #[z] := by cases z <;> first | rfl | simp [Value.oneCell'] at h1
    have h6 := z6 g
    rw [hz] at h6
    cases hl : i.zero with
    | nil => rw [hl] at h6; simp only [RL] at h6; cases h6
    | cons v l =>
      rw [hl] at h6
      simp only [RL] at h6
      obtain ⟨x, xs, e1, e2, e3⟩ := h6
      simp only [List.cons.injEq] at e1
      obtain ⟨rfl, rfl⟩ := e1
      cases l with
      | nil => simp only [zeroV, ha, hl]; exact e2
      | cons u l => simp only [RL] at e3; obtain ⟨_, _, e, _⟩ := e3; cases e

theorem found_sound {et kt : TypeId} {i : TI} {d : TypeDesc} {u : U} {ok : Bool} {k v : AV} {kx : Value} {es : List (AV × AV)} {ents : Array MapEntry} (hi : TIOk P et i) (hd : P.underlying kt = some d) (hu : UOk d u) (hk : keyOk u k = true) (hx : R g k kx)
    (hf : found i ok k es = .ok v) (hr : REs g es ents.toList) : (Instr.checkKey ents.isEmpty 10000 kt kx).run P w = .ok () w ∧
      ((∃ j y, (Instr.findKey kt kx ents.toList).run P w = .ok (some (j, y)) w ∧ R g v (if ok then Value.tuple #[y, .bool true] else y)) ∨
       ((Instr.findKey kt kx ents.toList).run P w = .ok none w ∧ ∃ z, (zeroValue et).run P w = .ok z w ∧ R g v (if ok then Value.tuple #[z, .bool false] else z))) := by
  simp only [found, bind_ok] at hf
  obtain ⟨fr, h3, h4⟩ := hf
  have hfe := findEntry_sound hu hk hx 0 h3 hr
  obtain ⟨z, z1, z2⟩ := zeroV_sound (g := g) hi
  have fin : ∀ (b : Bool) (v' : AV) (y : Value), R g v' y → R g (okV ok b v') (if ok then Value.tuple #[y, .bool b] else y) := fun b v' y hy => by
    cases ok with
    | true => simp only [okV, if_true, R]; exact ⟨_, rfl, RL_cons hy (RL_cons (by simp only [R]) RL_nil)⟩
    | false => simpa [okV] using hy
  have hck := run_checkKey (w := w) hd hu hk hx ents.isEmpty 9999
  refine ⟨hck, ?_⟩
  cases fr with
  | none =>
    simp only [pure_ok] at h4
    subst h4
    exact .inr ⟨run_findKey hd hfe, z, z1 w, fin false _ z z2⟩
  | some u' =>
    simp only [pure_ok] at h4
    subst h4
    obtain ⟨j, y, h5, h6⟩ := hfe
    exact .inl ⟨j, y, run_findKey hd h5, fin true _ y h6⟩

theorem lookup_sound (hT : TOk P T) {C : Caller} {t : TypeId} {x k v : AV} {xv kv : Value} {ok : Bool} {p : Plan} {fx : Fx} (hp : lookupP T t x k ok = .ok p) (hrun : runPlan C st p = .ok (v, fx)) (hx : R g x xv) (hk : R g k kv) (h : Inv T A g st w) :
    Gives P T A g w v (fx.did.app st) (Instr.lookup t xv kv ok) := by
  simp only [lookupP, bind_ok] at hp
  obtain ⟨i, h1, h2⟩ := hp
  have hi := hT t i (ti_ok.1 h1)
  split at h2
  · rename_i kt et hu
    have k1 := und_map hi hu
    simp only [bind_ok] at h2
    obtain ⟨ei, h3, ki, h4, h5⟩ := h2
    have hei := hT _ ei (ti_ok.1 h3)
    have hki := hT _ ki (ti_ok.1 h4)
    obtain ⟨d, d1, d2, _⟩ := hki.und
    split at h5
    · cases h5
    · rename_i hok
      split at h5
      · simp only [bind_ok, pure_ok] at h5
        obtain ⟨u, h6, rfl⟩ := h5
        simp only [runPlan, Except.ok.injEq, Prod.mk.injEq] at hrun
        obtain ⟨rfl, rfl⟩ := hrun
        simp only [R] at hx
        subst hx
        obtain ⟨c, ⟨j, y, e1, e2⟩ | ⟨e1, z, e2, e3⟩⟩ := found_sound (P := P) (w := w) (ents := #[]) hei d1 d2 hok hk h6 (by simp [REs])
        · simp only [List.isEmpty_toArray, List.isEmpty_nil] at c
          exact Gives.of h (by simp [Instr.lookup, k1, c, e1]) e2
        · simp only [List.isEmpty_toArray, List.isEmpty_nil] at c
          exact Gives.of h (by simp [Instr.lookup, k1, c, e1, e2]) e3
      · rename_i es
        simp only [bind_ok, pure_ok] at h5
        obtain ⟨u, h6, rfl⟩ := h5
        simp only [runPlan, Except.ok.injEq, Prod.mk.injEq] at hrun
        obtain ⟨rfl, rfl⟩ := hrun
        simp only [R] at hx
        obtain ⟨b, ents, clk, m1, rfl, m2⟩ := hx
        have hheap := h.M b ents clk m1
        have hgo : (getObj b).run P w = .ok (.map ents.toArray clk) w := by simp [getObj, Sem.run, hheap]
        obtain ⟨c, ⟨j, y, e1, e2⟩ | ⟨e1, z, e2, e3⟩⟩ := found_sound (P := P) (w := w) (ents := ents.toArray) hei d1 d2 hok hk h6 (by simpa using m2)
        · exact Gives.of h (by simp only [Instr.lookup, Sem.run_bind, k1, Result.andThen_ok, hgo, Sem.run_pure, c, e1]) e2
        · exact Gives.of h (by simp only [Instr.lookup, Sem.run_bind, k1, Result.andThen_ok, hgo, Sem.run_pure, c, e1, e2]) e3
      · rename_i m
        simp only [pure_ok] at h5
        subst h5
        simp only [readP, runPlan, bind_ok, pure_ok] at hrun
        obtain ⟨o, g1, ⟨v', o'⟩, ⟨v'', g2, g4⟩, dd, g5, g6⟩ := hrun
        simp only [Prod.mk.injEq] at g4 g6
        obtain ⟨rfl, rfl⟩ := g4
        simp only [didOf, Except.ok.injEq] at g5
        subst g5
        obtain ⟨rfl, rfl⟩ := g6
        split at g2
        · rename_i es
          simp only [R] at hx
          obtain ⟨b, hE, rfl⟩ := hx
          obtain ⟨b', ents, clk, q1, q2, q3, q4⟩ := h.H m _ g1
          have hb : b' = b := by have := q1.symm.trans hE; simpa using this
          subst hb
          have hgo : (getObj b').run P w = .ok (.map ents clk) w := by simp [getObj, Sem.run, q2]
          obtain ⟨c, ⟨j, y, e1, e2⟩ | ⟨e1, z, e2, e3⟩⟩ := found_sound (P := P) (w := w) (ents := ents) hei d1 d2 hok hk g2 q3
          · exact Gives.of h (by simp only [Instr.lookup, Sem.run_bind, k1, Result.andThen_ok, hgo, Sem.run_pure, c, e1]) e2
          · exact Gives.of h (by simp only [Instr.lookup, Sem.run_bind, k1, Result.andThen_ok, hgo, Sem.run_pure, c, e1, e2]) e3
        · cases g2
      · cases h5
  · cases h2

end
end Go.VM
