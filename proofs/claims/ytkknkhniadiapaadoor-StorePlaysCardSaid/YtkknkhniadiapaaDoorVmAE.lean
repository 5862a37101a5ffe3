/-
  A part of the proof.
-/
import Derived.Test.YtkknkhniadiapaaDoorVmAD
import Derived.Laws.StructEq
import Derived.Laws.BytesString
namespace Go.VM
section
variable {P : Program} {T : TT} {A : Nat → Prop} {g : Gh} {st : St} {w : World}
theorem und_run {t : TypeId} {d : TypeDesc} (h : P.underlying t = some d) (w : World) : (underlying t).run P w = .ok d w := by simp [underlying, h]
theorem bs_beq (a b : List UInt8) : ((⟨a.toArray⟩ : ByteArray) == ⟨b.toArray⟩) = (a == b) := by
  show (a.toArray == b.toArray) = (a == b)
  simp
set_option maxHeartbeats 1000000 in
theorem eqT_sound (hT : TOk P T) : ∀ (f : Nat) (d : Nat) (t : TypeId) (a b : AV) (r : Bool) (x y : Value), f ≤ d → eqT T f t a b = .ok r → R g a x → R g b y → (Op.equalIn d t x y).run P w = .ok r w
  | 0, _, _, _, _, _, _, _, _, h, _, _ => by simp [eqT] at h
  | f + 1, d, t, a, b, r, x, y, hd, h, hx, hy => by
    obtain ⟨d, rfl⟩ : ∃ d', d = d' + 1 := ⟨d - 1, by omega⟩
    simp only [eqT, bind_ok] at h
    obtain ⟨i, h1, h2⟩ := h
    have hi := hT t i (ti_ok.1 h1)
    obtain ⟨dd, q1, q2, _⟩ := hi.und
    have k1 := und_run (P := P) q1
    split at h2 <;> rename_i hu <;> (try rw [hu] at q2) <;> (try simp only [UOk] at q2) <;> (try (simp only [R] at hx hy))
    · subst q2 hx hy; simp only [Except.ok.injEq] at h2; subst h2; simp [Op.equalIn, k1]
    · rename_i kk _ j a k b
      subst q2 hx hy
      split at h2
      · rename_i hjk; subst hjk; simp only [Except.ok.injEq] at h2; subst h2; simp [Op.equalIn, k1]
      · cases h2
    · subst q2 hx hy; simp only [Except.ok.injEq] at h2; subst h2; simp [Op.equalIn, k1, bs_beq]
    · subst q2 hx hy; simp only [Except.ok.injEq] at h2; subst h2; simp [Op.equalIn, k1]
    · obtain ⟨_, b, o, rfl, _⟩ := hy
      subst q2 hx; simp only [Except.ok.injEq] at h2; subst h2; simp [Op.equalIn, k1]
    · obtain ⟨_, b, o, rfl, _⟩ := hx
      subst q2 hy; simp only [Except.ok.injEq] at h2; subst h2; simp [Op.equalIn, k1]
    · obtain ⟨b, _, rfl⟩ := hy
      subst q2 hx; simp only [Except.ok.injEq] at h2; subst h2; simp [Op.equalIn, k1]
    · obtain ⟨b, _, rfl⟩ := hx
      subst q2 hy; simp only [Except.ok.injEq] at h2; subst h2; simp [Op.equalIn, k1]
    · subst q2 hx hy; simp only [Except.ok.injEq] at h2; subst h2; simp [Op.equalIn, k1]
    · obtain ⟨_, b, o, cap, rfl, _⟩ := hy
      subst q2 hx; simp only [Except.ok.injEq] at h2; subst h2; simp [Op.equalIn, k1]
    · obtain ⟨_, b, o, cap, rfl, _⟩ := hx
      subst q2 hy; simp only [Except.ok.injEq] at h2; subst h2; simp [Op.equalIn, k1]
    · obtain ⟨b, o, _, c, rfl, _⟩ := hy
      subst q2 hx; simp only [Except.ok.injEq] at h2; subst h2; simp [Op.equalIn, k1]
    · obtain ⟨b, o, _, c, rfl, _⟩ := hx
      subst q2 hy; simp only [Except.ok.injEq] at h2; subst h2; simp [Op.equalIn, k1]
    · obtain ⟨_, rfl⟩ := hy
      subst q2 hx; simp only [Except.ok.injEq] at h2; subst h2; simp [Op.equalIn, k1]
    · obtain ⟨_, rfl⟩ := hx
      subst q2 hy; simp only [Except.ok.injEq] at h2; subst h2; simp [Op.equalIn, k1]
    · subst q2 hx hy; simp only [Except.ok.injEq] at h2; subst h2; simp [Op.equalIn, k1]
    · obtain ⟨b, _, rfl⟩ := hy
      subst q2 hx; simp only [Except.ok.injEq] at h2; subst h2; simp [Op.equalIn, k1]
    · obtain ⟨b, _, rfl⟩ := hx
      subst q2 hy; simp only [Except.ok.injEq] at h2; subst h2; simp [Op.equalIn, k1]
    · obtain ⟨_, _, _, rfl⟩ := q2
      subst hx hy; simp only [Except.ok.injEq] at h2; subst h2; simp [Op.equalIn, k1]
    · obtain ⟨_, _, _, rfl⟩ := q2
      obtain ⟨_, _, rfl, _⟩ := hy
      subst hx; simp only [Except.ok.injEq] at h2; subst h2; simp [Op.equalIn, k1]
    · obtain ⟨_, _, _, rfl⟩ := q2
      obtain ⟨_, _, rfl, _⟩ := hx
      subst hy; simp only [Except.ok.injEq] at h2; subst h2; simp [Op.equalIn, k1]
    · rename_i fs xs ys _
      split at h2
      · rename_i hc
        obtain ⟨_, c2, c3⟩ := hi.cmp hc
        obtain ⟨fields, rfl, q3⟩ := q2
        obtain ⟨xv, rfl, hx⟩ := hx
        obtain ⟨yv, rfl, hy⟩ := hy
        have hfo : P.fieldsOf t = fields := by simp [Program.fieldsOf, q1]
        rw [run_equalIn_struct w d t xv yv (by rw [hfo]; exact q1) c2, hfo]
        have hn := c3 fields q1
        generalize fields.toList = l at hn q3
        clear hfo q1 k1 hi c2 c3 hu
        subst q3
        induction l with
        | nil => simp only [List.map_nil, eqFields, Except.ok.injEq] at h2; subst h2; simp [Op.eqFields]
        | cons fl l ih =>
          simp only [List.map_cons, eqFields, bind_ok] at h2
          obtain ⟨j, g1, a, g2, b, g3, e, g4, g5⟩ := h2
          have hj := hT _ j (ti_ok.1 g1)
          obtain ⟨x1, p1, p2⟩ := part_sound (w := w) hj g2 hx
          obtain ⟨y1, p3, p4⟩ := part_sound (w := w) hj g3 hy
          have p5 := eqT_sound hT f d fl.type a b e x1 y1 (by omega) g4 p2 p4
          have hne := hn fl (by simp)
          simp only [Op.eqFields]
          rw [if_pos hne]
          simp only [Sem.run_bind, p1, Result.andThen_ok, p3, p5]
          cases e with
          | true =>
            simp only [Bool.not_true, Bool.false_eq_true, if_false]
            exact ih (fun f' hf' => hn f' (by simp [hf'])) g5
          | false =>
            simp only [Except.ok.injEq] at g5
            subst g5
            simp
      · cases h2
    · cases h2
end
section
variable {P : Program} {T : TT} {A : Nat → Prop} {g : Gh} {st : St} {w : World}
theorem eqGuard_plain (op : BinOp) (t : TypeId) (xo yo : Operand) (x y : Value) (h1 : ∀ xs ys, x = .agg xs → y = .agg ys → False) (h2 : x = .nilIface → y = .nilIface → False) :
    (eqGuard op t xo yo x y).run P w = .ok () w := by
  unfold eqGuard
  cases x <;> cases y <;> first
    | exact (h1 _ _ rfl rfl).elim
    | exact (h2 rfl rfl).elim
    | (cases op <;> simp)
theorem bytes_toList (s : List UInt8) : (⟨s.toArray⟩ : ByteArray).toList = s := by
  rw [ByteArray.toList_eq]
theorem intOp_sound {op : BinOp} {t : TypeId} {k : IntKind} {a b : Int} {v : AV} (hs : op ≠ .shl) (hr : op ≠ .shr) (h : intOp op k a b = .ok v) :
    ∃ x, (Go.binOp op t (.int k a) (.int k b)).run P w = .ok x w ∧ R g v x := by
  cases op <;> simp only [intOp, Except.ok.injEq] at h <;> first
    | exact absurd rfl hs
    | exact absurd rfl hr
    | (subst h; exact ⟨_, by simp only [Go.binOp, ne_eq, not_true_eq_false, if_false]; rfl, by simp only [R]⟩)
    | skip
  · split at h
    · cases h
    · rename_i hb
      simp only [Except.ok.injEq] at h
      subst h
      exact ⟨_, by simp [Go.binOp, Op.intDiv, hb]; rfl, by simp only [R]⟩
  · split at h
    · cases h
    · rename_i hb
      simp only [Except.ok.injEq] at h
      subst h
      exact ⟨_, by simp [Go.binOp, Op.intDiv, hb]; rfl, by simp only [R]⟩
theorem strOp_sound {op : BinOp} {t : TypeId} {a b : List UInt8} {v : AV} (h : strOp op a b = .ok v) :
    ∃ x, (Go.binOp op t (.string ⟨a.toArray⟩) (.string ⟨b.toArray⟩)).run P w = .ok x w ∧ R g v x := by
  cases op <;> simp only [strOp, Except.ok.injEq] at h <;> first
    | (subst h; exact ⟨_, by simp only [Go.binOp, Op.stringOp, bytes_toList]; rfl, by simp only [R]⟩)
    | (cases h; done)
    | skip
  split at h
  · rename_i hb
    have hb := Nat.le_of_ble_eq_true hb
    simp only [Except.ok.injEq] at h
    subst h
    refine ⟨.string (⟨a.toArray⟩ ++ ⟨b.toArray⟩), ?_, ?_⟩
    · have hm : IntKind.i64.max = 9223372036854775807 := by decide
      have : ¬ ((((a.length + b.length : Nat)) : Int) > IntKind.i64.max) := by rw [hm]; omega
      simp only [Go.binOp, Op.stringOp, str_size, Sem.run_ite]
      rw [if_neg this]
      rfl
    · simp only [R, Value.string.injEq]
      apply ByteArray.ext
      simp [ByteArray.data_append]
  · cases h
def Plain (x y : Value) : Prop := (∀ j a k b, x = .int j a → y = .int k b → False) ∧ (∀ a b, x = .string a → y = .string b → False) ∧ (∀ j a k b, x = .float j a → y = .float k b → False) ∧
  (∀ j a a' k b b', x = .complex j a a' → y = .complex k b b' → False)
theorem binOp_eq_of {t : TypeId} {x y : Value} (_ : True ∨ True) (h : Plain x y) : Go.binOp .eql t x y = (do pure (.bool (← Op.equal t x y))) := by
  obtain ⟨h1, h2, h3, h4⟩ := h
  cases x <;> cases y <;> first
    | exact (h1 _ _ _ _ rfl rfl).elim
    | exact (h2 _ _ rfl rfl).elim
    | exact (h3 _ _ _ _ rfl rfl).elim
    | exact (h4 _ _ _ _ _ _ rfl rfl).elim
    | rfl
theorem binOp_neq_of {t : TypeId} {x y : Value} (h : Plain x y) : Go.binOp .neq t x y = (do pure (.bool (!(← Op.equal t x y)))) := by
  obtain ⟨h1, h2, h3, h4⟩ := h
  cases x <;> cases y <;> first
    | exact (h1 _ _ _ _ rfl rfl).elim
    | exact (h2 _ _ rfl rfl).elim
    | exact (h3 _ _ _ _ rfl rfl).elim
    | exact (h4 _ _ _ _ _ _ rfl rfl).elim
    | rfl
theorem eqT_kinds {f : Nat} {t : TypeId} {a b : AV} {r : Bool} {x y : Value} (h : eqT T f t a b = .ok r) (n1 : ∀ j m k n, a = .int j m → b = .int k n → False) (n2 : ∀ m n, a = .str m → b = .str n → False)
    (hx : R g a x) (hy : R g b y) : Plain x y := by
  cases f with
  | zero => simp [eqT] at h
  | succ f =>
    simp only [eqT, bind_ok] at h
    obtain ⟨i, _, h⟩ := h
    split at h <;> (try (simp only [R] at hx hy)) <;> first
      | exact (n1 _ _ _ _ rfl rfl).elim
      | exact (n2 _ _ rfl rfl).elim
      | (cases h; done)
      | (subst hx hy; exact ⟨by simp, by simp, by simp, by simp⟩)
      | (obtain ⟨_, _, _, rfl, _⟩ := hy; subst hx; exact ⟨by simp, by simp, by simp, by simp⟩)
      | (obtain ⟨_, _, _, rfl, _⟩ := hx; subst hy; exact ⟨by simp, by simp, by simp, by simp⟩)
      | (obtain ⟨_, _, rfl⟩ := hy; subst hx; exact ⟨by simp, by simp, by simp, by simp⟩)
      | (obtain ⟨_, _, rfl⟩ := hx; subst hy; exact ⟨by simp, by simp, by simp, by simp⟩)
      | (obtain ⟨_, _, _, _, rfl, _⟩ := hy; subst hx; exact ⟨by simp, by simp, by simp, by simp⟩)
      | (obtain ⟨_, _, _, _, rfl, _⟩ := hx; subst hy; exact ⟨by simp, by simp, by simp, by simp⟩)
      | (obtain ⟨_, _, rfl, _⟩ := hy; subst hx; exact ⟨by simp, by simp, by simp, by simp⟩)
      | (obtain ⟨_, _, rfl, _⟩ := hx; subst hy; exact ⟨by simp, by simp, by simp, by simp⟩)
      | (obtain ⟨_, rfl, _⟩ := hx; obtain ⟨_, rfl, _⟩ := hy; exact ⟨by simp, by simp, by simp, by simp⟩)
      | skip
theorem binOp_sound (hT : TOk P T) {op : BinOp} {t : TypeId} {xo yo : Operand} {a b v : AV} {x y : Value} (hp : binOp T op t a b = .ok v) (hx : R g a x) (hy : R g b y) (h : Inv T A g st w) :
    Gives P T A g w v st (do eqGuard op t xo yo x y; Go.binOp op t x y) := by
  have plain : ∀ {z : Value}, (Go.binOp op t x y).run P w = .ok z w → R g v z → (∀ xs ys, x = .agg xs → y = .agg ys → False) → (x = .nilIface → y = .nilIface → False) → Gives P T A g w v st (do eqGuard op t xo yo x y; Go.binOp op t x y) := fun hr hz h1 h2 =>
    Gives.of h (by simp [eqGuard_plain op t xo yo x y h1 h2, hr]) hz
  have eqs : ∀ {r : Bool}, eqT T 20 t a b = .ok r → (Op.equalIn 10000 t x y).run P w = .ok r w ∧ (eqGuard op t xo yo x y).run P w = .ok () w := fun {r} he => by
    refine ⟨eqT_sound hT 20 10000 t a b r x y (by omega) he hx hy, ?_⟩
    simp only [eqT, bind_ok] at he
    obtain ⟨i, h1, h2⟩ := he
    have hi := hT t i (ti_ok.1 h1)
    by_cases hag : ∃ xs ys, x = .agg xs ∧ y = .agg ys
    · obtain ⟨xs, ys, rfl, rfl⟩ := hag
      split at h2 <;> (try (simp only [R] at hx hy)) <;> first
        | (cases hx; done)
        | (cases hy; done)
        | (obtain ⟨_, _, hx⟩ := hx; cases hx; done)
        | (obtain ⟨_, _, hy⟩ := hy; cases hy; done)
        | (obtain ⟨_, _, _, hx, _⟩ := hx; cases hx; done)
        | (obtain ⟨_, _, _, hy, _⟩ := hy; cases hy; done)
        | (cases h2; done)
        | skip
      split at h2
      · rename_i hc
        exact run_eqGuard_agg w op t xo yo xs ys (hi.cmp hc).1
      · cases h2
    · refine eqGuard_plain op t xo yo x y (fun xs ys e1 e2 => hag ⟨xs, ys, e1, e2⟩) ?_
      rintro rfl rfl
      split at h2 <;> (try (simp only [R] at hx hy)) <;> first
        | (cases hx; done)
        | (cases hy; done)
        | (obtain ⟨_, _, hx⟩ := hx; cases hx; done)
        | (obtain ⟨_, _, hy⟩ := hy; cases hy; done)
        | (obtain ⟨_, hx, _⟩ := hx; cases hx; done)
        | (obtain ⟨_, _, _, hx, _⟩ := hx; cases hx; done)
        | (obtain ⟨_, _, _, hy, _⟩ := hy; cases hy; done)
        | (cases h2; done)
  unfold binOp at hp
  split at hp
  · rename_i k a kb b'
    simp only [R] at hx hy
    subst hx hy
    split at hp
    · cases hp
    · rename_i hb
      simp only [Except.ok.injEq] at hp
      subst hp
      exact plain (z := .int k (k.wrap (a * 2 ^ (min b'.toNat k.bits)))) (by simp [Go.binOp, Op.shift, hb]) (by simp only [R]) (by simp) (by simp)
  · rename_i k a kb b'
    simp only [R] at hx hy
    subst hx hy
    split at hp
    · cases hp
    · rename_i hb
      simp only [Except.ok.injEq] at hp
      subst hp
      exact plain (z := .int k (a.fdiv (2 ^ (min b'.toNat k.bits)))) (by simp [Go.binOp, Op.shift, hb]) (by simp only [R]) (by simp) (by simp)
  · rename_i hs hr
    simp only [R] at hx hy
    subst hx hy
    split at hp
    · rename_i hk
      subst hk
      obtain ⟨z, h1, h2⟩ := intOp_sound (P := P) (g := g) (w := w) (t := t) hs hr hp
      exact plain h1 h2 (by simp) (by simp)
    · cases hp
  · simp only [R] at hx hy
    subst hx hy
    obtain ⟨z, h1, h2⟩ := strOp_sound (P := P) (g := g) (w := w) (t := t) hp
    exact plain h1 h2 (by simp) (by simp)
  · rename_i n3 n4
    simp only [bind_ok, pure_ok] at hp
    obtain ⟨r, he, rfl⟩ := hp
    obtain ⟨e1, e2⟩ := eqs he
    refine Gives.of h (x := .bool r) ?_ (by simp only [R])
    simp only [Sem.run_bind, e2, Result.andThen_ok]
    rw [binOp_eq_of (.inl trivial) (eqT_kinds he n3 n4 hx hy)]
    simp [Op.equal, Op.maxDepth, e1]
  · rename_i n3 n4
    simp only [bind_ok, pure_ok] at hp
    obtain ⟨r, he, rfl⟩ := hp
    obtain ⟨e1, e2⟩ := eqs he
    refine Gives.of h (x := .bool !r) ?_ (by simp only [R])
    simp only [Sem.run_bind, e2, Result.andThen_ok]
    rw [binOp_neq_of (eqT_kinds he n3 n4 hx hy)]
    simp [Op.equal, Op.maxDepth, e1]
  · cases hp
theorem binOpN_sound (hT : TOk P T) {op : BinOp} {t : TypeId} {xo yo : Operand} {a b v : AV} {x y : Value} (hp : binOpN T op t yo a b = .ok v) (hx : R g a x) (hy : R g b y) (h : Inv T A g st w) :
    Gives P T A g w v st (do eqGuard op t xo yo x y; Go.binOp op t x y) := by
  unfold binOpN at hp
  split at hp
  · rename_i hc
    simp only [Bool.and_eq_true] at hc
    obtain ⟨c1, c2⟩ := hc
    have hyo : ∃ u, yo = .const u ∧ b = .nili := by
      unfold nilC at c1
      split at c1
      · split at c1
        · exact ⟨_, rfl, rfl⟩
        · cases c1
      · cases c1
    obtain ⟨u, rfl, rfl⟩ := hyo
    simp only [R] at hy
    subst hy
    unfold isIfc at c2
    split at c2
    · rename_i i hi
      split at c2
      · rename_i bb hu
        have hi := hT t i hi
        obtain ⟨dd, q1, q2, _⟩ := hi.und
        rw [hu] at q2
        obtain ⟨ms, rfl, _⟩ := q2
        have k1 := und_run (P := P) q1
        split at hp
        · rename_i r hr
          cases hp
          have e0 : ∀ (o : BinOp), (eqGuard o t xo (.const u) .nilIface .nilIface).run P w = .ok () w := fun o => by cases o <;> simp [eqGuard]
          have e1 : ∀ (o : BinOp) (tt : TypeId) (vv : Value), (eqGuard o t xo (.const u) (.iface tt vv) .nilIface).run P w = .ok () w := fun o tt vv => by cases o <;> simp [eqGuard]
          have q0 : ∀ d, (Op.equalIn (d + 1) t .nilIface .nilIface).run P w = .ok true w := fun d => by simp [Op.equalIn, k1]
          have q1 : ∀ d tt vv, (Op.equalIn (d + 1) t (.iface tt vv) .nilIface).run P w = .ok false w := fun d tt vv => by simp [Op.equalIn, k1]
          have p0 : Plain .nilIface .nilIface := ⟨by simp, by simp, by simp, by simp⟩
          have p1 : ∀ tt vv, Plain (.iface tt vv) .nilIface := fun tt vv => ⟨by simp, by simp, by simp, by simp⟩
          unfold nifO at hr
          split at hr <;> first | (cases hr; done) | skip
          all_goals
            cases hr
            simp only [R] at hx
          · subst hx
            refine Gives.of h (x := .bool true) ?_ (by simp only [R])
            simp only [Sem.run_bind, e0, Result.andThen_ok]
            rw [binOp_eq_of (.inl trivial) p0]
            simp [Op.equal, Op.maxDepth, q0 9999]
          · obtain ⟨yy, rfl, _⟩ := hx
            refine Gives.of h (x := .bool false) ?_ (by simp only [R])
            simp only [Sem.run_bind, e1, Result.andThen_ok]
            rw [binOp_eq_of (.inl trivial) (p1 _ _)]
            simp [Op.equal, Op.maxDepth, q1 9999]
          · subst hx
            refine Gives.of h (x := .bool false) ?_ (by simp only [R])
            simp only [Sem.run_bind, e0, Result.andThen_ok]
            rw [binOp_neq_of p0]
            simp [Op.equal, Op.maxDepth, q0 9999]
          · obtain ⟨yy, rfl, _⟩ := hx
            refine Gives.of h (x := .bool true) ?_ (by simp only [R])
            simp only [Sem.run_bind, e1, Result.andThen_ok]
            rw [binOp_neq_of (p1 _ _)]
            simp [Op.equal, Op.maxDepth, q1 9999]
        · cases hp
      · cases c2
    · cases c2
  · exact binOp_sound hT hp hx hy h
end
end Go.VM
