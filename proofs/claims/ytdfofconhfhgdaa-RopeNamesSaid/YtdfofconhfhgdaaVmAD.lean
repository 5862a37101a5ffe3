/-
  (A part of the proof: Ops3, Ops4, Ops5.)
-/
import Derived.Test.YtdfofconhfhgdaaVmAC
import Derived.Laws.StructEq
import Derived.Laws.BytesString
/- Arithmetic, comparisons, conversions. -/
namespace Go.VM
section
variable {P : Program} {T : TT} {A : Nat → Prop} {g : Gh} {st : St} {w : World}

theorem und_run {t : TypeId} {d : TypeDesc} (h : P.underlying t = some d) (w : World) : (underlying t).run P w = .ok d w := by simp [underlying, h]
theorem bs_beq (a b : List UInt8) : ((⟨a.toArray⟩ : ByteArray) == ⟨b.toArray⟩) = (a == b) := by
  show (a.toArray == b.toArray) = (a == b)
  simp

set_option maxHeartbeats 1000000 in
theorem eqT_sound (hT : TOk P T) : ∀ (f : Nat) (d : Nat) (t : TypeId) (a b : AV) (r : Bool) (x y : Value), f ≤ d → eqT T f t a b = .ok r → R g a x → R g b y → (Op.equalIn d t x y).run P w = .ok r w
  | 0, _, _, _, _, _, _, _, _, h, _, _ => by simp [eqT] at h
  | f + 1, d, t, a, b, r, x, y, hd, h, hx, hy => by
    obtain ⟨d, rfl⟩ : ∃ d', d = d' + 1 := ⟨d - 1, by omega⟩
    simp only [eqT, bind_ok] at h
    obtain ⟨i, h1, h2⟩ := h
    have hi := hT t i (ti_ok.1 h1)
    obtain ⟨dd, q1, q2, _⟩ := hi.und
    have k1 := und_run (P := P) q1
    split at h2 <;> rename_i hu <;> (try rw [hu] at q2) <;> (try simp only [UOk] at q2) <;> (try (simp only [R] at hx hy))
    · subst q2 hx hy; simp only [Except.ok.injEq] at h2; subst h2; simp [Op.equalIn, k1]
    · rename_i kk _ j a k b
      subst q2 hx hy
      split at h2
      · rename_i hjk; subst hjk; simp only [Except.ok.injEq] at h2; subst h2; simp [Op.equalIn, k1]
      · cases h2
    · subst q2 hx hy; simp only [Except.ok.injEq] at h2; subst h2; simp [Op.equalIn, k1, bs_beq]
    · subst q2 hx hy; simp only [Except.ok.injEq] at h2; subst h2; simp [Op.equalIn, k1]
    · obtain ⟨_, b, o, rfl, _⟩ := hy
      subst q2 hx; simp only [Except.ok.injEq] at h2; subst h2; simp [Op.equalIn, k1]
    · obtain ⟨_, b, o, rfl, _⟩ := hx
      subst q2 hy; simp only [Except.ok.injEq] at h2; subst h2; simp [Op.equalIn, k1]
    · obtain ⟨b, _, rfl⟩ := hy
      subst q2 hx; simp only [Except.ok.injEq] at h2; subst h2; simp [Op.equalIn, k1]
    · obtain ⟨b, _, rfl⟩ := hx
      subst q2 hy; simp only [Except.ok.injEq] at h2; subst h2; simp [Op.equalIn, k1]
    · subst q2 hx hy; simp only [Except.ok.injEq] at h2; subst h2; simp [Op.equalIn, k1]
    · obtain ⟨_, b, o, cap, rfl, _⟩ := hy
      subst q2 hx; simp only [Except.ok.injEq] at h2; subst h2; simp [Op.equalIn, k1]
    · obtain ⟨_, b, o, cap, rfl, _⟩ := hx
      subst q2 hy; simp only [Except.ok.injEq] at h2; subst h2; simp [Op.equalIn, k1]
    · obtain ⟨b, o, _, rfl, _⟩ := hy
      subst q2 hx; simp only [Except.ok.injEq] at h2; subst h2; simp [Op.equalIn, k1]
    · obtain ⟨b, o, _, rfl, _⟩ := hx
      subst q2 hy; simp only [Except.ok.injEq] at h2; subst h2; simp [Op.equalIn, k1]
    · obtain ⟨_, rfl⟩ := hy
      subst q2 hx; simp only [Except.ok.injEq] at h2; subst h2; simp [Op.equalIn, k1]
    · obtain ⟨_, rfl⟩ := hx
      subst q2 hy; simp only [Except.ok.injEq] at h2; subst h2; simp [Op.equalIn, k1]
    · subst q2 hx hy; simp only [Except.ok.injEq] at h2; subst h2; simp [Op.equalIn, k1]
    · obtain ⟨b, _, rfl⟩ := hy
      subst q2 hx; simp only [Except.ok.injEq] at h2; subst h2; simp [Op.equalIn, k1]
    · obtain ⟨b, _, rfl⟩ := hx
      subst q2 hy; simp only [Except.ok.injEq] at h2; subst h2; simp [Op.equalIn, k1]
    · obtain ⟨_, _, _, rfl⟩ := q2
      subst hx hy; simp only [Except.ok.injEq] at h2; subst h2; simp [Op.equalIn, k1]
    · obtain ⟨_, _, _, rfl⟩ := q2
      obtain ⟨_, _, rfl, _⟩ := hy
      subst hx; simp only [Except.ok.injEq] at h2; subst h2; simp [Op.equalIn, k1]
    · obtain ⟨_, _, _, rfl⟩ := q2
      obtain ⟨_, _, rfl, _⟩ := hx
      subst hy; simp only [Except.ok.injEq] at h2; subst h2; simp [Op.equalIn, k1]
    · rename_i fs xs ys _
      split at h2
      · rename_i hc
        obtain ⟨_, c2, c3⟩ := hi.cmp hc
        obtain ⟨fields, rfl, q3⟩ := q2
        obtain ⟨xv, rfl, hx⟩ := hx
        obtain ⟨yv, rfl, hy⟩ := hy
        have hfo : P.fieldsOf t = fields := by simp [Program.fieldsOf, q1]
        rw [run_equalIn_struct w d t xv yv (by rw [hfo]; exact q1) c2, hfo]
        have hn := c3 fields q1
        generalize fields.toList = l at hn q3
        clear hfo q1 k1 hi c2 c3 hu
        subst q3
        induction l with
        | nil => simp only [List.map_nil, eqFields, Except.ok.injEq] at h2; subst h2; simp [Op.eqFields]
        | cons fl l ih =>
          simp only [List.map_cons, eqFields, bind_ok] at h2
          obtain ⟨j, g1, a, g2, b, g3, e, g4, g5⟩ := h2
          have hj := hT _ j (ti_ok.1 g1)
          obtain ⟨x1, p1, p2⟩ := part_sound (w := w) hj g2 hx
          obtain ⟨y1, p3, p4⟩ := part_sound (w := w) hj g3 hy
          have p5 := eqT_sound hT f d fl.type a b e x1 y1 (by omega) g4 p2 p4
          have hne := hn fl (by simp)
          simp only [Op.eqFields]
          rw [if_pos hne]
          simp only [Sem.run_bind, p1, Result.andThen_ok, p3, p5]
          cases e with
          | true =>
            simp only [Bool.not_true, Bool.false_eq_true, if_false]
            exact ih (fun f' hf' => hn f' (by simp [hf'])) g5
          | false =>
            simp only [Except.ok.injEq] at g5
            subst g5
            simp
      · cases h2
    · cases h2

end
end Go.VM
/- Operators and conversions. -/
namespace Go.VM
section
variable {P : Program} {T : TT} {A : Nat → Prop} {g : Gh} {st : St} {w : World}

theorem eqGuard_plain (op : BinOp) (t : TypeId) (xo yo : Operand) (x y : Value) (h1 : ∀ xs ys, x = .agg xs → y = .agg ys → False) (h2 : x = .nilIface → y = .nilIface → False) :
    (eqGuard op t xo yo x y).run P w = .ok () w := by
  unfold eqGuard
  cases x <;> cases y <;> first
    | exact (h1 _ _ rfl rfl).elim
    | exact (h2 rfl rfl).elim
    | (cases op <;> simp)

theorem bytes_toList (s : List UInt8) : (⟨s.toArray⟩ : ByteArray).toList = s := by
  rw [ByteArray.toList_eq]

theorem intOp_sound {op : BinOp} {t : TypeId} {k : IntKind} {a b : Int} {v : AV} (hs : op ≠ .shl) (hr : op ≠ .shr) (h : intOp op k a b = .ok v) :
    ∃ x, (Go.binOp op t (.int k a) (.int k b)).run P w = .ok x w ∧ R g v x := by
  cases op <;> simp only [intOp, Except.ok.injEq] at h <;> first
    | exact absurd rfl hs
    | exact absurd rfl hr
    | (subst h; exact ⟨_, by simp only [Go.binOp, ne_eq, not_true_eq_false, if_false]; rfl, by simp only [R]⟩)
    | skip
  · split at h
    · cases h
    · rename_i hb
      simp only [Except.ok.injEq] at h
      subst h
      exact ⟨_, by simp [Go.binOp, Op.intDiv, hb]; rfl, by simp only [R]⟩
  · split at h
    · cases h
    · rename_i hb
      simp only [Except.ok.injEq] at h
      subst h
      exact ⟨_, by simp [Go.binOp, Op.intDiv, hb]; rfl, by simp only [R]⟩

theorem strOp_sound {op : BinOp} {t : TypeId} {a b : List UInt8} {v : AV} (h : strOp op a b = .ok v) :
    ∃ x, (Go.binOp op t (.string ⟨a.toArray⟩) (.string ⟨b.toArray⟩)).run P w = .ok x w ∧ R g v x := by
  cases op <;> simp only [strOp, Except.ok.injEq] at h <;> first
    | (subst h; exact ⟨_, by simp only [Go.binOp, Op.stringOp, bytes_toList]; rfl, by simp only [R]⟩)
    | (cases h; done)
    | skip
  split at h
  · rename_i hb
    have hb := Nat.le_of_ble_eq_true hb
    simp only [Except.ok.injEq] at h
    subst h
    refine ⟨.string (⟨a.toArray⟩ ++ ⟨b.toArray⟩), ?_, ?_⟩
    · have hm : IntKind.i64.max = 9223372036854775807 := by decide
      have : ¬ ((((a.length + b.length : Nat)) : Int) > IntKind.i64.max) := by rw [hm]; omega
      simp only [Go.binOp, Op.stringOp, str_size, Sem.run_ite]
      rw [if_neg this]
      rfl
    · simp only [R, Value.string.injEq]
      apply ByteArray.ext
      simp [ByteArray.data_append]
  · cases h

/-- Of kinds that have no operators of their own. -/
def Plain (x y : Value) : Prop := (∀ j a k b, x = .int j a → y = .int k b → False) ∧ (∀ a b, x = .string a → y = .string b → False) ∧ (∀ j a k b, x = .float j a → y = .float k b → False) ∧
  (∀ j a a' k b b', x = .complex j a a' → y = .complex k b b' → False)
theorem binOp_eq_of {t : TypeId} {x y : Value} (_ : True ∨ True) (h : Plain x y) : Go.binOp .eql t x y = (do pure (.bool (← Op.equal t x y))) := by
  obtain ⟨h1, h2, h3, h4⟩ := h
  cases x <;> cases y <;> first
    | exact (h1 _ _ _ _ rfl rfl).elim
    | exact (h2 _ _ rfl rfl).elim
    | exact (h3 _ _ _ _ rfl rfl).elim
    | exact (h4 _ _ _ _ _ _ rfl rfl).elim
    | rfl
theorem binOp_neq_of {t : TypeId} {x y : Value} (h : Plain x y) : Go.binOp .neq t x y = (do pure (.bool (!(← Op.equal t x y)))) := by
  obtain ⟨h1, h2, h3, h4⟩ := h
  cases x <;> cases y <;> first
    | exact (h1 _ _ _ _ rfl rfl).elim
    | exact (h2 _ _ rfl rfl).elim
    | exact (h3 _ _ _ _ rfl rfl).elim
    | exact (h4 _ _ _ _ _ _ rfl rfl).elim
    | rfl
theorem eqT_kinds {f : Nat} {t : TypeId} {a b : AV} {r : Bool} {x y : Value} (h : eqT T f t a b = .ok r) (n1 : ∀ j m k n, a = .int j m → b = .int k n → False) (n2 : ∀ m n, a = .str m → b = .str n → False)
    (hx : R g a x) (hy : R g b y) : Plain x y := by
  cases f with
  | zero => simp [eqT] at h
  | succ f =>
    simp only [eqT, bind_ok] at h
    obtain ⟨i, _, h⟩ := h
    split at h <;> (try (simp only [R] at hx hy)) <;> first
      | exact (n1 _ _ _ _ rfl rfl).elim
      | exact (n2 _ _ rfl rfl).elim
      | (cases h; done)
      | (subst hx hy; exact ⟨by simp, by simp, by simp, by simp⟩)
      | (obtain ⟨_, _, _, rfl, _⟩ := hy; subst hx; exact ⟨by simp, by simp, by simp, by simp⟩)
      | (obtain ⟨_, _, _, rfl, _⟩ := hx; subst hy; exact ⟨by simp, by simp, by simp, by simp⟩)
      | (obtain ⟨_, _, rfl⟩ := hy; subst hx; exact ⟨by simp, by simp, by simp, by simp⟩)
      | (obtain ⟨_, _, rfl⟩ := hx; subst hy; exact ⟨by simp, by simp, by simp, by simp⟩)
      | (obtain ⟨_, _, _, _, rfl, _⟩ := hy; subst hx; exact ⟨by simp, by simp, by simp, by simp⟩)
      | (obtain ⟨_, _, _, _, rfl, _⟩ := hx; subst hy; exact ⟨by simp, by simp, by simp, by simp⟩)
      | (obtain ⟨_, _, rfl, _⟩ := hy; subst hx; exact ⟨by simp, by simp, by simp, by simp⟩)
      | (obtain ⟨_, _, rfl, _⟩ := hx; subst hy; exact ⟨by simp, by simp, by simp, by simp⟩)
      | (obtain ⟨_, rfl, _⟩ := hx; obtain ⟨_, rfl, _⟩ := hy; exact ⟨by simp, by simp, by simp, by simp⟩)
      | skip

theorem binOp_sound (hT : TOk P T) {op : BinOp} {t : TypeId} {xo yo : Operand} {a b v : AV} {x y : Value} (hp : binOp T op t a b = .ok v) (hx : R g a x) (hy : R g b y) (h : Inv T A g st w) :
    Gives P T A g w v st (do eqGuard op t xo yo x y; Go.binOp op t x y) := by
  have plain : ∀ {z : Value}, (Go.binOp op t x y).run P w = .ok z w → R g v z → (∀ xs ys, x = .agg xs → y = .agg ys → False) → (x = .nilIface → y = .nilIface → False) → Gives P T A g w v st (do eqGuard op t xo yo x y; Go.binOp op t x y) := fun hr hz h1 h2 =>
    Gives.of h (by simp [eqGuard_plain op t xo yo x y h1 h2, hr]) hz
  have eqs : ∀ {r : Bool}, eqT T 20 t a b = .ok r → (Op.equalIn 10000 t x y).run P w = .ok r w ∧ (eqGuard op t xo yo x y).run P w = .ok () w := fun {r} he => by
    refine ⟨eqT_sound hT 20 10000 t a b r x y (by omega) he hx hy, ?_⟩
    simp only [eqT, bind_ok] at he
    obtain ⟨i, h1, h2⟩ := he
    have hi := hT t i (ti_ok.1 h1)
    by_cases hag : ∃ xs ys, x = .agg xs ∧ y = .agg ys
    · obtain ⟨xs, ys, rfl, rfl⟩ := hag
      split at h2 <;> (try (simp only [R] at hx hy)) <;> first
        | (cases hx; done)
        | (cases hy; done)
        | (obtain ⟨_, _, hx⟩ := hx; cases hx; done)
        | (obtain ⟨_, _, hy⟩ := hy; cases hy; done)
        | (obtain ⟨_, _, _, hx, _⟩ := hx; cases hx; done)
        | (obtain ⟨_, _, _, hy, _⟩ := hy; cases hy; done)
        | (cases h2; done)
        | skip
      split at h2
      · rename_i hc
        exact run_eqGuard_agg w op t xo yo xs ys (hi.cmp hc).1
      · cases h2
    · refine eqGuard_plain op t xo yo x y (fun xs ys e1 e2 => hag ⟨xs, ys, e1, e2⟩) ?_
      rintro rfl rfl
      split at h2 <;> (try (simp only [R] at hx hy)) <;> first
        | (cases hx; done)
        | (cases hy; done)
        | (obtain ⟨_, _, hx⟩ := hx; cases hx; done)
        | (obtain ⟨_, _, hy⟩ := hy; cases hy; done)
        | (obtain ⟨_, hx, _⟩ := hx; cases hx; done)
        | (obtain ⟨_, _, _, hx, _⟩ := hx; cases hx; done)
        | (obtain ⟨_, _, _, hy, _⟩ := hy; cases hy; done)
        | (cases h2; done)
  unfold binOp at hp
  split at hp
  · rename_i k a kb b'
    simp only [R] at hx hy
    subst hx hy
    split at hp
    · cases hp
    · rename_i hb
      simp only [Except.ok.injEq] at hp
      subst hp
      exact plain (z := .int k (k.wrap (a * 2 ^ (min b'.toNat k.bits)))) (by simp [Go.binOp, Op.shift, hb]) (by simp only [R]) (by simp) (by simp)
  · rename_i k a kb b'
    simp only [R] at hx hy
    subst hx hy
    split at hp
    · cases hp
    · rename_i hb
      simp only [Except.ok.injEq] at hp
      subst hp
      exact plain (z := .int k (a.fdiv (2 ^ (min b'.toNat k.bits)))) (by simp [Go.binOp, Op.shift, hb]) (by simp only [R]) (by simp) (by simp)
  · rename_i hs hr
    simp only [R] at hx hy
    subst hx hy
    split at hp
    · rename_i hk
      subst hk
      obtain ⟨z, h1, h2⟩ := intOp_sound (P := P) (g := g) (w := w) (t := t) hs hr hp
      exact plain h1 h2 (by simp) (by simp)
    · cases hp
  · simp only [R] at hx hy
    subst hx hy
    obtain ⟨z, h1, h2⟩ := strOp_sound (P := P) (g := g) (w := w) (t := t) hp
    exact plain h1 h2 (by simp) (by simp)
  · rename_i n3 n4
    simp only [bind_ok, pure_ok] at hp
    obtain ⟨r, he, rfl⟩ := hp
    obtain ⟨e1, e2⟩ := eqs he
    refine Gives.of h (x := .bool r) ?_ (by simp only [R])
    simp only [Sem.run_bind, e2, Result.andThen_ok]
    rw [binOp_eq_of (.inl trivial) (eqT_kinds he n3 n4 hx hy)]
    simp [Op.equal, Op.maxDepth, e1]
  · rename_i n3 n4
    simp only [bind_ok, pure_ok] at hp
    obtain ⟨r, he, rfl⟩ := hp
    obtain ⟨e1, e2⟩ := eqs he
    refine Gives.of h (x := .bool !r) ?_ (by simp only [R])
    simp only [Sem.run_bind, e2, Result.andThen_ok]
    rw [binOp_neq_of (eqT_kinds he n3 n4 hx hy)]
    simp [Op.equal, Op.maxDepth, e1]
  · cases hp

end
end Go.VM
/- Conversions and what is plain. -/
namespace Go.VM
section
variable {P : Program} {T : TT} {A : Nat → Prop} {g : Gh} {st : St} {w : World}

theorem unOp_sound {op : UnOp} {a v : AV} {x : Value} (hp : unOp op a = .ok v) (hx : R g a x) (h : Inv T A g st w) : Gives P T A g w v st (Op.unary op x) := by
  unfold unOp at hp
  split at hp
  · simp only [Except.ok.injEq] at hp
    subst hp
    simp only [R] at hx
    subst hx
    exact Gives.of h (by simp only [Op.unary, Op.intArith]; rfl) (by simp only [R])
  · simp only [Except.ok.injEq] at hp
    subst hp
    simp only [R] at hx
    subst hx
    exact Gives.of h (by simp only [Op.unary]; rfl) (by simp only [R])
  · simp only [Except.ok.injEq] at hp
    subst hp
    simp only [R] at hx
    subst hx
    exact Gives.of h (by simp only [Op.unary, Op.intBits]; rfl) (by simp only [R])
  · cases hp

/-- Bytes. -/
theorem bytesOf_cons {e : AV} {es : List AV} {bs : List UInt8} (h : bytesOf (e :: es) = .ok bs) : ∃ n bs', e = .int .u8 n ∧ bytesOf es = .ok bs' ∧ bs = UInt8.ofNat n.toNat :: bs' := by
  unfold bytesOf at h
  split at h
  · rename_i heq; cases heq
  · rename_i n l heq
    cases heq
    simp only [bind_ok, pure_ok] at h
    obtain ⟨bs', h1, rfl⟩ := h
    exact ⟨n, bs', rfl, h1, rfl⟩
  · cases h
theorem bytesOf_vals : ∀ {es : List AV} {bs : List UInt8} {xs : List Value}, bytesOf es = .ok bs → RL g es xs → ∃ ns : List Int, xs = ns.map (Value.int .u8) ∧ bs = ns.map fun n => UInt8.ofNat n.toNat
  | [], _, _, h, hr => by
    simp only [bytesOf, Except.ok.injEq] at h; subst h
    simp only [RL] at hr; subst hr
    exact ⟨[], rfl, rfl⟩
  | e :: es, bs, xs, h, hr => by
    simp only [RL] at hr
    obtain ⟨x, xs, rfl, h1, h2⟩ := hr
    obtain ⟨n, bs', rfl, h3, rfl⟩ := bytesOf_cons h
    obtain ⟨ns, rfl, rfl⟩ := bytesOf_vals h3 h2
    simp only [R] at h1
    subst h1
    exact ⟨n :: ns, rfl, rfl⟩
theorem fold_push (ns : List Int) : ∀ s : ByteArray, ns.foldl (fun r n => r.push (UInt8.ofNat n.toNat)) s = ⟨(s.data.toList ++ ns.map fun n => UInt8.ofNat n.toNat).toArray⟩ := by
  induction ns with
  | nil => intro s; simp
  | cons n ns ih =>
    intro s
    rw [List.foldl_cons, ih]
    simp [ByteArray.push]
theorem run_bytes {b o len cap : Nat} {es : List AV} {bs : List UInt8} {xs : List Value} (hb : bytesOf es = .ok bs) (hr : RL g es xs) (hm : ∀ k x, xs[k]? = some x → w.cell? ⟨b, o + k, none⟩ = some x) (hl : xs.length = len) :
    (Conv.bytesToString (.slice (some ⟨b, o, none⟩) len cap)).run P w = .ok (.string ⟨bs.toArray⟩) w := by
  obtain ⟨ns, rfl, rfl⟩ := bytesOf_vals hb hr
  have hload := run_loadCells_list (P := P) w ⟨b, o, none⟩ (ns.map (Value.int .u8)) (fun j x hx => by rw [Addr.add_at]; exact hm j x hx)
  rw [hl] at hload
  rw [run_bytesToString w _ len cap ns hload, fold_push]
  simp
theorem bytesOf_flat : ∀ {es : List AV} {bs : List UInt8}, bytesOf es = .ok bs → flat es = es
  | [], _, _ => rfl
  | e :: es, bs, h => by
    obtain ⟨n, bs', rfl, h3, rfl⟩ := bytesOf_cons h
    rw [flat_cons, bytesOf_flat h3]; rfl

theorem isByte_u8 {u : U} (h : isByte u = true) : u = .int .u8 := by
  cases u <;> simp [isByte] at h
  rename_i k
  cases k <;> simp_all

theorem convert_sound (hT : TOk P T) {C : Caller} {s d : TypeId} {a v : AV} {x : Value} {p : Plan} {fx : Fx} (hp : convertP T s d a = .ok p) (hrun : runPlan C st p = .ok (v, fx)) (hx : R g a x) (h : Inv T A g st w) :
    Gives P T A g w v (fx.did.app st) (Go.convert s d x) := by
  simp only [convertP, bind_ok] at hp
  obtain ⟨i, h1, j, h2, h3⟩ := hp
  have hi := hT s i (ti_ok.1 h1)
  have hj := hT d j (ti_ok.1 h2)
  obtain ⟨ds, q1, q2, _⟩ := hi.und
  split at h3
  · rename_i k _ n hu
    simp only [pure_ok] at h3
    subst h3
    simp only [runPlan, Except.ok.injEq, Prod.mk.injEq] at hrun
    obtain ⟨rfl, rfl⟩ := hrun
    simp only [R] at hx
    subst hx
    refine Gives.of h (x := .int k (k.wrap n)) ?_ (by simp only [R])
    simp [Go.convert, und_run q1, und_int hj hu, Conv.intToInt]
  · rename_i s' hu
    simp only [pure_ok] at h3
    subst h3
    simp only [runPlan, Except.ok.injEq, Prod.mk.injEq] at hrun
    obtain ⟨rfl, rfl⟩ := hrun
    simp only [R] at hx
    subst hx
    refine Gives.of h (x := .string ⟨s'.toArray⟩) ?_ (by simp only [R])
    simp [Go.convert, und_run q1, und_str hj hu]
  · rename_i e hu1 hu2 _
    simp only [bind_ok] at h3
    obtain ⟨el, h4, h5⟩ := h3
    have hel := hT e el (ti_ok.1 h4)
    split at h5
    · cases h5
    · rename_i hby
      have hby := isByte_u8 hby
      obtain ⟨de, e1, e2, _⟩ := hel.und
      rw [hby] at e2
      simp only [UOk] at e2
      subst e2
      rw [hu1] at q2
      simp only [UOk] at q2
      subst q2
      obtain ⟨dd, d1, d2, _⟩ := hj.und
      rw [hu2] at d2
      simp only [UOk] at d2
      subst d2
      have conv := fun a l c => run_convert_bytes_string (P := P) w s d e a l c q1 e1 d1
      split at h5
      · simp only [pure_ok] at h5
        subst h5
        simp only [runPlan, Except.ok.injEq, Prod.mk.injEq] at hrun
        obtain ⟨rfl, rfl⟩ := hrun
        simp only [R] at hx
        subst hx
        refine Gives.of h (x := .string ⟨#[]⟩) ?_ (by simp only [R])
        rw [conv]; rfl
      · simp only [bind_ok, pure_ok] at h5
        obtain ⟨bs, h6, rfl⟩ := h5
        simp only [runPlan, Except.ok.injEq, Prod.mk.injEq] at hrun
        obtain ⟨rfl, rfl⟩ := hrun
        simp only [R] at hx
        obtain ⟨_, b, o, cap, rfl, _, hz, hr, _⟩ := hx
        rw [RAtE_iff, bytesOf_flat h6] at hr
        obtain ⟨xs, k1, k2⟩ := RAt_vals hr.2
        refine Gives.of h (x := .string ⟨bs.toArray⟩) ?_ (by simp only [R])
        rw [conv]
        exact run_bytes h6 k1 (fun k x hx => h.F _ _ _ (k2 k x hx).1) (RL_len k1)
      · rename_i id off z len cap _
        simp only [pure_ok] at h5
        subst h5
        simp only [readP, runPlan, bind_ok, pure_ok] at hrun
        obtain ⟨o, h1, ⟨v', o'⟩, ⟨v'', ⟨cs, h2, h3⟩, h4'⟩, dd, h5, h6⟩ := hrun
        rw [cellsOf_ok] at h2
        obtain ⟨ty, rfl⟩ := h2
        split at h3
        · rename_i hle
          have hle := Nat.le_of_ble_eq_true hle
          simp only [bind_ok, pure_ok] at h3
          obtain ⟨bs, h7, rfl⟩ := h3
          simp only [Prod.mk.injEq] at h4' h6
          obtain ⟨rfl, rfl⟩ := h4'
          simp only [didOf, Except.ok.injEq] at h5
          subst h5
          obtain ⟨rfl, rfl⟩ := h6
          simp only [R] at hx
          obtain ⟨b, o, hE, rfl, hc, hz1, ho⟩ := hx
          obtain ⟨b', vs, k1, k2, k3, k4, k5⟩ := h.cells h1
          have hb : b' = b := by have := k1.symm.trans hE; simpa using this
          subst hb
          have hrl := RL_take len (RL_drop off k3)
          refine Gives.of h (x := .string ⟨bs.toArray⟩) ?_ (by simp only [R])
          rw [conv]
          refine run_bytes h7 hrl (fun k x hx => ?_) (by rw [RL_len hrl]; simp; simp at hle; omega)
          have hk : k < len := by
            rcases Nat.lt_or_ge k len with q | q
            · exact q
            · rw [List.getElem?_eq_none (by simp; omega)] at hx; cases hx
          rw [ho (by omega), cell_of k2]
          rw [List.getElem?_take, if_pos hk, List.getElem?_drop] at hx
          simpa using hx
        · cases h3
      · cases h5
  · cases h3

theorem min2_sound {lower : Bool} {a b v : AV} {x y : Value} (hp : min2 lower a b = .ok v) (hx : R g a x) (hy : R g b y) :
    ∃ z, (if lower then Builtin.min2 x y else Builtin.max2 x y).run P w = .ok z w ∧ R g v z := by
  cases a <;> cases b <;> simp only [min2] at hp <;> (try (cases hp; done))
  simp only [Except.ok.injEq] at hp
  subst hp
  simp only [R] at hx hy
  subst hx hy
  cases lower
  · exact ⟨_, by simp only [Bool.false_eq_true, if_false, Builtin.max2]; rfl, by simp only [R]⟩
  · exact ⟨_, by simp only [if_true, Builtin.min2]; rfl, by simp only [R]⟩

end
end Go.VM
