/-
  (A part of the proof: Reg, Reg2, Reg3.)
-/
import Derived.Test.YtoopmjhdgkcleaaGreatDoorVmAI
import Derived.Orders
/- Regions: in order, and in whatever order. -/
namespace Go.VM

namespace Tr
variable {α : Type}
theorem set_comm : ∀ (f1 f2 : Nat) (t : Tr α) (a b : Nat) (x y : α), a ≠ b → set f1 (set f2 t a x) b y = set f2 (set f1 t b y) a x
  | 0, _, _, _, _, _, _, _ => rfl
  | _ + 1, 0, _, _, _, _, _, _ => rfl
  | f1 + 1, f2 + 1, t, a, b, x, y, h => by
    cases ha : a.beq 0 with
    | true =>
      have ha0 := Nat.eq_of_beq_eq_true ha
      have hb : b.beq 0 = false := by
        cases hb : b.beq 0 with
        | false => rfl
        | true => exact absurd (ha0.trans (Nat.eq_of_beq_eq_true hb).symm) h
      cases hm : (b % 2).beq 1 <;> cases t <;> simp [set, ha, hb, hm]
    | false =>
      have ha0 : a ≠ 0 := by intro e; subst e; simp at ha
      cases hb : b.beq 0 with
      | true => cases hm : (a % 2).beq 1 <;> cases t <;> simp [set, ha, hb, hm]
      | false =>
        have hb0 : b ≠ 0 := by intro e; subst e; simp at hb
        cases hp : (a % 2).beq 1 with
        | true =>
          have hp' := Nat.eq_of_beq_eq_true hp
          cases hq : (b % 2).beq 1 with
          | true =>
            have hq' := Nat.eq_of_beq_eq_true hq
            have hne : a / 2 ≠ b / 2 := by omega
            cases t <;> simp [set, ha, hb, hp, hq, set_comm f1 f2 _ _ _ x y hne]
          | false => cases t <;> simp [set, ha, hb, hp, hq]
        | false =>
          have hp' : a % 2 ≠ 1 := by intro e; rw [e] at hp; simp at hp
          cases hq : (b % 2).beq 1 with
          | true => cases t <;> simp [set, ha, hb, hp, hq]
          | false =>
            have hq' : b % 2 ≠ 1 := by intro e; rw [e] at hq; simp at hq
            have hne : a / 2 - 1 ≠ b / 2 - 1 := by omega
            cases t <;> simp [set, ha, hb, hp, hq, set_comm f1 f2 _ _ _ x y hne]
theorem put_comm (t : Tr α) (a b : Nat) (x y : α) (h : a ≠ b) : (t.put a x).put b y = (t.put b y).put a x := set_comm _ _ _ _ _ _ _ h
end Tr

section
variable {P : Program} {A : Nat → Prop} {g : Gh} {st : St} {w : World}

theorem wanted_eq {ops : Array Oper} {fr : Fr} {a : Act} (o : Oper) (hf : FrR g fr a.tmps) : wanted ops.toList fr o.guard = Region.wanted o (yielded ops a.tmps) := by
  unfold wanted Region.wanted
  cases o.guard with
  | none => rfl
  | some p =>
    obtain ⟨j, want⟩ := p
    simp only [yielded, Array.getElem?_toList]
    cases hd : (ops[j]?).bind (·.dst) with
    | none => cases want <;> rfl
    | some d =>
      simp only [Option.bind_some]
      have hr := hf.at' d
      cases hv : fr.get d with
      | bool b =>
        rw [hv] at hr
        simp only [R] at hr
        have : a.tmps[d]? = some (.bool b) := by
          simp only [Array.getD_eq_getD_getElem?] at hr
          cases hx : a.tmps[d]? with
          | none => rw [hx] at hr; simp [Go.undef] at hr
          | some x => rw [hx] at hr; simpa using hr
        rw [this]
        cases b <;> cases want <;> rfl
      | _ =>
        have : ∀ b, a.tmps[d]? ≠ some (.bool b) := fun b hb => by
          rw [hv] at hr
          simp only [Array.getD_eq_getD_getElem?, hb, Option.getD_some, R] at hr
          first
            | (rcases hr with ⟨_, hr | ⟨_, _, hr⟩⟩ | ⟨_, _, hr⟩ <;> cases hr; done)
            | (cases hr; done)
            | (rcases hr with ⟨_, hr⟩; injection hr; done)
            | (rcases hr with ⟨_, ⟨⟩⟩; done)
            | (obtain ⟨_, _, _, hr, _⟩ := hr; cases hr; done)
            | (obtain ⟨_, _, hr⟩ := hr; cases hr; done)
            | (obtain ⟨_, _, _, _, hr, _⟩ := hr; cases hr; done)
            | (obtain ⟨_, _, hr, _⟩ := hr; cases hr; done)
            | (obtain ⟨_, hr, _⟩ := hr; cases hr; done)
            | (obtain ⟨_, _, _, _, _, hr, _⟩ := hr; cases hr; done)
            | (obtain ⟨_, _, _, _, _, hr⟩ := hr; cases hr; done)
        cases hx : a.tmps[d]? with
        | none => cases want <;> rfl
        | some x => cases x <;> first | (cases want <;> rfl) | exact absurd hx (this _)

theorem put_tmps {fr : Fr} {a : Act} (hf : FrR g fr a.tmps) {v : AV} {x : Value} (hx : R g v x) (d : Option Tmp) : FrR g (fr.put d v) (a.put d x).tmps := by
  cases d with
  | none => exact hf
  | some d => exact hf.put hx (some d)
theorem put_defers (a : Act) (d : Option Tmp) (x : Value) : (a.put d x).defers = a.defers := by cases d <;> rfl

/-- What is given with a program. -/
structure Good (P : Program) (X : Cx) : Prop where
  T : TOk P X.T
  C : CallerOk P X.T X.G X.C
  prim : PrimOk P X.T X.G X.prim

/-- Related: frame, store and memory. -/
structure Rel (X : Cx) (A : Nat → Prop) (g : Gh) (fr : Fr) (st : St) (a : Act) (w : World) : Prop where
  fr : FrR g fr a.tmps
  inv : Inv X.T A g st w
  G : GR g X.G
  defers : a.defers = []

theorem oper_sound {X : Cx} {e : Nat → Option Nat} (hX : Good P X) {ops : Array Oper} {i : Nat} {o : Oper} (ho : ops[i]? = some o) {fr : Fr} {a : Act} {v : AV} {fx : Fx} {K : Act → World → Prop} {Q : Exit → Act → World → Prop}
    (h : operE X e ops.toList fr st o = .ok (v, fx)) (hr : Rel X A g fr st a w)
    (hK : ∀ a' g' w', Rel X A g' (fr.put o.dst v) (fx.did.app st) a' w' → Kp A g w g' w' → K a' w') : wpOp P ops Q i K a w := by
  unfold operE at h
  unfold wpOp
  simp only [ho]
  rw [← wanted_eq o hr.fr]
  split at h
  · rename_i hw
    rw [hw, if_pos rfl]
    left
    split at h
    · rename_i t nm hh
      refine hatch_op X hX.T (hatchOf_ok hh) h hr.inv fun x w' hp => ?_
      obtain ⟨g', p1, p2, p3⟩ := hp
      exact hK _ g' w' ⟨put_tmps (hr.fr.mono p3.le) p1 _, p2, hr.G.mono p3.le, by rw [put_defers]; exact hr.defers⟩ p3
    · simp only [bind_ok] at h
      obtain ⟨p, h1, h2⟩ := h
      refine plan_sound X hX.T hX.C hX.prim h1 h2 hr.G hr.fr hr.inv fun x w' hp => ?_
      obtain ⟨g', p1, p2, p3⟩ := hp
      exact hK _ g' w' ⟨put_tmps (hr.fr.mono p3.le) p1 _, p2, hr.G.mono p3.le, by rw [put_defers]; exact hr.defers⟩ p3
  · rename_i hw
    rw [hw, if_neg (by simp)]
    simp only [Except.ok.injEq, Prod.mk.injEq] at h
    obtain ⟨rfl, rfl⟩ := h
    exact hK _ g w ⟨put_tmps hr.fr R_undef _, hr.inv, hr.G, by rw [put_defers]; exact hr.defers⟩ (Kp.refl _ _ _)

/-- A run of some operations. -/
inductive Runs (X : Cx) (e : Nat → Option Nat) (all : List Oper) : List (Nat × AV × Fx) → Fr → St → Fr → St → Prop
  | nil {fr : Fr} {st : St} : Runs X e all [] fr st fr st
  | cons {j : Nat} {v : AV} {x : Fx} {o : Oper} {l : List (Nat × AV × Fx)} {fr fr' : Fr} {st st' : St} (ho : all[j]? = some o) (h : operE X e all fr st o = .ok (v, x))
      (t : Runs X e all l (fr.put o.dst v) (x.did.app st) fr' st') : Runs X e all ((j, v, x) :: l) fr st fr' st'

/-- In the order of a list. -/
theorem wpOps_of_runs {X : Cx} {e : Nat → Option Nat} (hX : Good P X) {ops : Array Oper} {Q : Exit → Act → World → Prop} : ∀ {l : List (Nat × AV × Fx)} {fr fr' : Fr} {st st' : St}, Runs X e ops.toList l fr st fr' st' →
    ∀ {g : Gh} {a : Act} {w : World}, Rel X A g fr st a w → (∀ a' g' w', Rel X A g' fr' st' a' w' → Kp A g w g' w' → Q .normal a' w') → wpOps P ops Q (l.map (·.1)) a w
  | _, _, _, _, _, .nil, g, a, w, hr, hQ => hQ a g w hr (Kp.refl _ _ _)
  | _, _, _, _, _, .cons (j := j) (o := o) ho h t, g, a, w, hr, hQ => by
    simp only [List.map_cons]
    rw [wpOps_cons]
    exact oper_sound hX (by simpa using ho) h hr fun a' g' w' hr' hk => wpOps_of_runs hX t hr' fun a'' g'' w'' hr'' hk' => hQ a'' g'' w'' hr'' (hk.trans hk')

end
end Go.VM
/- Whatever order the tape picks. -/
namespace Go.VM

theorem evalO_congr {G : Nat → Option (List AV)} {fr fr2 : Fr} {x : Operand} (h : ∀ t, x = .tmp t → fr.get t = fr2.get t) : evalO G fr x = evalO G fr2 x := by
  cases x with
  | tmp t => simp only [evalO, h t rfl]
  | _ => rfl
theorem evalL_congr {G : Nat → Option (List AV)} {fr fr2 : Fr} : ∀ {xs : List Operand}, (∀ x ∈ xs, evalO G fr x = evalO G fr2 x) → evalL G fr xs = evalL G fr2 xs
  | [], _ => rfl
  | x :: xs, h => by simp only [evalL, h x (by simp), evalL_congr (xs := xs) fun y hy => h y (by simp [hy])]
theorem evalOpt_congr {G : Nat → Option (List AV)} {fr fr2 : Fr} {x : Option Operand} (h : ∀ y, x = some y → evalO G fr y = evalO G fr2 y) : evalOpt G fr x = evalOpt G fr2 x := by
  cases x with
  | none => rfl
  | some y => simp only [evalOpt, h y rfl]
theorem evalParts_congr {G : Nat → Option (List AV)} {fr fr2 : Fr} : ∀ {xs : List (Nat × Operand)}, (∀ x ∈ xs, evalO G fr x.2 = evalO G fr2 x.2) → evalParts G fr xs = evalParts G fr2 xs
  | [], _ => rfl
  | (i, x) :: xs, h => by simp only [evalParts, h (i, x) (by simp), evalParts_congr (xs := xs) fun y hy => h y (by simp [hy])]

theorem plan_congr {T : TT} {prim : FuncId → Option Prim} {imm : TypeId → Bool} {G : Nat → Option (List AV)} {fr fr2 : Fr} {op : Op} (h : ∀ x ∈ op.operands, evalO G fr x = evalO G fr2 x) :
    plan T prim imm G fr op = plan T prim imm G fr2 op := by
  cases op <;> simp only [plan] <;> simp only [Op.operands] at h
  case move x => rw [h x (by simp)]
  case assign x => rw [h x (by simp)]
  case pick c x y => rw [h c (by simp), h x (by simp), h y (by simp)]
  case box t x => rw [h x (by simp)]
  case build t ps => rw [evalParts_congr fun x hx => h x.2 (by simp only [List.mem_toArray, List.mem_map]; exact ⟨x, hx, rfl⟩)]
  case buildSlice t n ps => rw [evalParts_congr fun x hx => h x.2 (by simp only [List.mem_toArray, List.mem_map]; exact ⟨x, hx, rfl⟩)]
  case makeSlice t x y => rw [h x (by simp), h y (by simp)]
  case load t x => rw [h x (by simp)]
  case store t x y => rw [h x (by simp), h y (by simp)]
  case nilCheck x => rw [h x (by simp)]
  case binOp op t x y _ => rw [h x (by simp), h y (by simp)]
  case unOp op t x => rw [h x (by simp)]
  case convert s d x => rw [h x (by simp)]
  case makeInterface t x => rw [h x (by simp)]
  case makeFunc f a b =>
    rw [evalL_congr fun x hx => h x (by simp only [Array.mem_append]; exact .inl (by simpa using hx)), evalL_congr (xs := b.toList) fun x hx => h x (by simp only [Array.mem_append]; exact .inr (by simpa using hx))]
  case slice t x lo hi mx =>
    have hx := h x (by simp)
    have hl : evalOpt G fr lo = evalOpt G fr2 lo := evalOpt_congr fun y hy => h y (by subst hy; simp)
    have hh : evalOpt G fr hi = evalOpt G fr2 hi := evalOpt_congr fun y hy => h y (by subst hy; simp)
    have hm : evalOpt G fr mx = evalOpt G fr2 mx := evalOpt_congr fun y hy => h y (by subst hy; simp)
    rw [hx, hl, hh, hm]
  case fieldAddr t x f => rw [h x (by simp)]
  case field t x f => rw [h x (by simp)]
  case indexAddr t x y => rw [h x (by simp), h y (by simp)]
  case index t x y => rw [h x (by simp), h y (by simp)]
  case lookup t x y ok => rw [h x (by simp), h y (by simp)]
  case mapUpdate t m k v => rw [h m (by simp), h k (by simp), h v (by simp)]
  case insert t m k v => rw [h m (by simp), h k (by simp), h v (by simp)]
  case range t x => rw [h x (by simp)]
  case next x b =>
    cases b with
    | true => show (do nextP (← evalO G fr x)) = (do nextP (← evalO G fr2 x)); rw [h x (by simp)]
    | false => rfl
  case extract x i => rw [h x (by simp)]
  case makeMap t r => cases r <;> rfl
  case call c =>
    have ha : evalL G fr c.args.toList = evalL G fr2 c.args.toList := evalL_congr fun x hx => h x (by simp only [Call.operands, Array.mem_append]; exact .inr (by simpa using hx))
    rw [ha]
    cases hc : c.callee with
    | value f => simp only [h f (by simp [Call.operands, hc])]
    | builtin b => rfl
    | invoke r m => rfl

theorem Fr.get_put_ne {fr : Fr} {d : Option Tmp} {v : AV} {t : Nat} (h : d ≠ some t) : (fr.put d v).get t = fr.get t := by
  cases d with
  | none => rfl
  | some d =>
    simp only [Fr.put]
    split
    · have : d ≠ t := fun e => h (by rw [e])
      simp [Fr.get, Tr.get_put, this]
    · rfl
theorem Fr.put_comm {fr : Fr} {d e : Option Tmp} {v u : AV} (h : ∀ t, d = some t → e ≠ some t) : (fr.put d v).put e u = (fr.put e u).put d v := by
  cases d with
  | none => rfl
  | some d =>
    cases e with
    | none => rfl
    | some e =>
      have hne : d ≠ e := fun k => h d rfl (by rw [k])
      simp only [Fr.put]
      cases hd : d.blt fr.n <;> cases e.blt fr.n <;> simp [hd, Tr.put_comm _ _ _ _ _ hne]

/-- What an operation looks at. -/
theorem oper_frame {X : Cx} {e : Nat → Option Nat} {ops : Array Oper} {fr fr2 : Fr} {st : St} {o : Oper} (h : ∀ t ∈ o.looksAt ops, fr.get t = fr2.get t) : operE X e ops.toList fr st o = operE X e ops.toList fr2 st o := by
  have hw : wanted ops.toList fr o.guard = wanted ops.toList fr2 o.guard := by
    unfold wanted
    cases hg : o.guard with
    | none => rfl
    | some p =>
      obtain ⟨j, want⟩ := p
      simp only [Array.getElem?_toList]
      cases hd : (ops[j]?).bind (·.dst) with
      | none => rfl
      | some d =>
        simp only
        rw [h d (by simp [Oper.looksAt, hg, hd])]
  unfold operE
  rw [hw, plan_congr fun x hx => evalO_congr fun t ht => h t (by
    subst ht
    simp only [Oper.looksAt, List.mem_append, List.mem_filterMap]
    exact .inl ⟨.tmp t, by simpa using hx, rfl⟩)]

theorem St.put_put {st : St} {i j : Nat} {a b : Obj} (h : i ≠ j) : (st.put i a).put j b = (st.put j b).put i a := by
  simp only [St.put, Tr.put_comm _ _ _ _ _ h]
theorem St.new_put {st : St} {i : Nat} {a b : Obj} (h : i ≠ st.h) : ((st.put i a).new b).2 = ((st.new b).2).put i a := by
  simp only [St.put, St.new, Tr.put_comm _ _ _ _ _ h]
theorem St.get_new_ne {st : St} {o : Obj} {r : Nat} (h : r ≠ st.h) : (st.new o).2.get r = st.get r := by
  simp only [St.get, St.new]
  cases h1 : r.blt (st.h + 1) <;> cases h2 : r.blt st.h <;> simp only [Tr.get_put]
  · rw [blt_false] at h1; rw [blt_true] at h2; omega
  · rw [blt_true] at h1; rw [blt_false] at h2; omega
  · rw [if_neg (fun e => h e.symm)]

theorem sameStr_eq : ∀ {a b : List UInt8}, sameStr a b = true → a = b
  | [], [], _ => rfl
  | a :: l, b :: m, h => by
    unfold sameStr at h
    split at h
    · rename_i e
      rw [UInt8.toNat_inj.1 (Nat.eq_of_beq_eq_true e), sameStr_eq h]
    · cases h
  | [], _ :: _, h => by simp [sameStr] at h
  | _ :: _, [], h => by simp [sameStr] at h
theorem sameAll_eq {g : AV → AV → Bool} (hg : ∀ a b, g a b = true → a = b) : ∀ {a b : List AV}, sameAll g a b = true → a = b
  | [], [], _ => rfl
  | a :: l, b :: m, h => by
    unfold sameAll at h
    split at h
    · rename_i e
      rw [hg _ _ e, sameAll_eq hg h]
    · cases h
  | [], _ :: _, h => by simp [sameAll] at h
  | _ :: _, [], h => by simp [sameAll] at h
theorem sameAV_eq : ∀ (f : Nat) (a b : AV), sameAV f a b = true → a = b
  | 0, _, _, h => by simp [sameAV] at h
  | f + 1, a, b, h => by
    have ih := fun {l m : List AV} (h : sameAll (sameAV f) l m = true) => sameAll_eq (sameAV_eq f) h
    unfold sameAV at h
    split at h
    · rw [eq_of_beq h]
    · simp only [Bool.and_eq_true, decide_eq_true_eq] at h
      rw [h.1, h.2]
    · rw [sameStr_eq h]
    · rfl
    · rfl
    · rfl
    · rfl
    · rfl
    · rfl
    · rw [ih h]
    · simp only [Bool.and_eq_true, Nat.beq_eq] at h
      rw [h.1, h.2]
    · rw [Nat.eq_of_beq_eq_true h]
    · simp only [Bool.and_eq_true, Nat.beq_eq] at h
      rw [h.1.1, h.1.2, h.2]
    · simp only [Bool.and_eq_true, Nat.beq_eq] at h
      rw [h.1.1, h.1.2, h.2]
    · simp only [Bool.and_eq_true, Nat.beq_eq] at h
      obtain ⟨⟨⟨⟨rfl, rfl⟩, rfl⟩, rfl⟩, rfl⟩ := h
      rfl
    · simp only [Bool.and_eq_true, Nat.beq_eq, decide_eq_true_eq] at h
      rw [h.1.1, h.1.2, ih h.2]
    · simp only [Bool.and_eq_true, Nat.beq_eq] at h
      rw [h.1, sameAV_eq f _ _ h.2]
    · rw [ih h]
    · rw [ih h]
    · cases h
theorem sameObj_eq {a b : Obj} (h : sameObj a b = true) : a = b := by
  unfold sameObj at h
  split at h
  · simp only [Bool.and_eq_true, Nat.beq_eq] at h
    rw [h.1, sameAll_eq (sameAV_eq _) h.2]
  · simp only [Bool.and_eq_true, Nat.beq_eq] at h
    rw [h.1, h.2]
  · simp only [Bool.and_eq_true, Nat.beq_eq] at h
    rw [h.1.1.1, h.1.1.2, h.1.2, sameAll_eq (sameAV_eq _) h.2]
  · simp only [Bool.and_eq_true, Nat.beq_eq] at h
    rw [h.1.1.1, h.1.1.2, h.1.2, sameAll_eq (sameAV_eq _) h.2]
  · cases h
theorem sameAt_eq {s t : St} {i : Nat} (h : sameAt s t i = true) : t.get i = s.get i := by
  unfold sameAt at h
  split at h
  · rename_i a b h1 h2
    rw [h1, h2, sameObj_eq h]
  · cases h

/-- Where it finds the same, it does the same. -/
def Same (x : Fx) (st st2 : St) : Prop :=
  match x.did with
  | .kept => ∀ r ∈ x.reads, st2.get r = st.get r
  | .wrote _ _ => st2.ro = st.ro ∧ ∀ r ∈ x.reads, st2.get r = st.get r
  | .made _ _ => st2.h = st.h
  | .looked => st2 = st
  | .all _ _ => st2 = st
theorem oper_same {X : Cx} {e : Nat → Option Nat} {all : List Oper} {fr : Fr} {st st2 : St} {o : Oper} {v : AV} {x : Fx} (h : operE X e all fr st o = .ok (v, x)) (hs : Same x st st2) : operE X e all fr st2 o = .ok (v, x) := by
  unfold operE at h ⊢
  split at h
  · split at h
    · rename_i t nm hh
      obtain ⟨i, h1, h2, h3, rfl, rfl⟩ := hatch_ok h
      obtain ⟨s1, s2⟩ := hs
      exact hatch_mk h1 (by rw [s2 nm (by simp)]; exact h2) (by rw [s1]; exact h3)
    simp only [bind_ok] at h ⊢
    obtain ⟨p, h1, h2⟩ := h
    refine ⟨p, h1, ?_⟩
    cases p with
    | val u => exact h2
    | obj id f =>
      simp only [runPlan, bind_ok, pure_ok] at h2 ⊢
      obtain ⟨ob, h3, ⟨v', o'⟩, h4, d, h5, h6⟩ := h2
      simp only [Prod.mk.injEq] at h6
      obtain ⟨rfl, rfl⟩ := h6
      cases o' with
      | none =>
        simp only [didOf, Except.ok.injEq] at h5
        subst h5
        refine ⟨ob, by rw [hs id (by simp)]; exact h3, ⟨v', none⟩, h4, .kept, rfl, rfl⟩
      | some ob' =>
        simp only [didOf] at h5
        split at h5
        · cases h5
        · rename_i hro
          simp only [Except.ok.injEq] at h5
          subst h5
          obtain ⟨s1, s2⟩ := hs
          refine ⟨ob, by rw [s2 id (by simp)]; exact h3, ⟨v', some ob'⟩, h4, .wrote id ob', ?_, rfl⟩
          simp only [didOf, s1, hro]
    | both id k f =>
      have : x.did = .looked := by
        simp only [runPlan, bind_ok] at h2
        obtain ⟨ob, _, r, _, h3⟩ := h2
        cases r with
        | none =>
          simp only [bind_ok, pure_ok, Prod.mk.injEq] at h3
          obtain ⟨_, _, _, rfl⟩ := h3; rfl
        | some j =>
          dsimp only at h3
          split at h3
          · simp only [bind_ok, pure_ok, Prod.mk.injEq] at h3
            obtain ⟨_, _, _, _, _, rfl⟩ := h3; rfl
          · cases h3
      rw [Same, this] at hs
      have hs : st2 = st := hs
      rw [hs]; exact h2
    | new ob f =>
      simp only [runPlan, Except.ok.injEq, Prod.mk.injEq] at h2 ⊢
      obtain ⟨rfl, rfl⟩ := h2
      have : st2.h = st.h := hs
      rw [this]
      simp
    | call f args =>
      simp only [runPlan] at h2 ⊢
      split at h2
      · exact h2
      · split at h2
        · simp only [bind_ok, pure_ok, Prod.mk.injEq] at h2
          obtain ⟨v', h3, rfl, rfl⟩ := h2
          have : st2 = st := hs
          rw [this]
          simp only [bind_ok, pure_ok]
          exact ⟨v', h3, rfl⟩
        · simp only [bind_ok, pure_ok] at h2
          obtain ⟨⟨v', s'⟩, h3, h4⟩ := h2
          simp only [Prod.mk.injEq] at h4
          obtain ⟨rfl, rfl⟩ := h4
          have : st2 = st := hs
          rw [this]
          simp only [bind_ok, pure_ok]
          exact ⟨(v', s'), h3, rfl⟩
  · exact h

/-- A call that works on all of the store began at the store. -/
theorem oper_all {X : Cx} {e : Nat → Option Nat} {all : List Oper} {fr : Fr} {st s0 s1 : St} {o : Oper} {v : AV} {rs : List Nat} (h : operE X e all fr st o = .ok (v, ⟨rs, .all s0 s1⟩)) : s0 = st := by
  unfold operE at h
  split at h
  · split at h
    · obtain ⟨i, h1, h2, h3, h4, h5⟩ := hatch_ok h
      simp at h5
    simp only [bind_ok] at h
    obtain ⟨p, h1, h2⟩ := h
    cases p with
    | val u => simp [runPlan] at h2
    | obj id f =>
      simp only [runPlan, bind_ok, pure_ok] at h2
      obtain ⟨ob, h3, ⟨v', o'⟩, h4, d, h5, h6⟩ := h2
      simp only [Prod.mk.injEq, Fx.mk.injEq] at h6
      obtain ⟨_, _, rfl⟩ := h6
      cases o' with
      | none => simp [didOf] at h5
      | some _ => simp only [didOf] at h5; split at h5 <;> simp at h5
    | both id k f =>
      simp only [runPlan, bind_ok] at h2
      obtain ⟨ob, _, r, _, h3⟩ := h2
      cases r with
      | none =>
        simp only [bind_ok, pure_ok, Prod.mk.injEq] at h3
        obtain ⟨_, _, _, h3⟩ := h3; simp at h3
      | some j =>
        dsimp only at h3
        split at h3
        · simp only [bind_ok, pure_ok, Prod.mk.injEq] at h3
          obtain ⟨_, _, _, _, _, h3⟩ := h3; simp at h3
        · cases h3
    | new ob f =>
      simp only [runPlan, Except.ok.injEq, Prod.mk.injEq, Fx.mk.injEq] at h2
      have := h2.2.2; simp at this
    | call f args =>
      simp only [runPlan] at h2
      split at h2
      · simp only [bind_ok, pure_ok] at h2
        obtain ⟨_, _, h3⟩ := h2
        simp at h3
      · split at h2
        · simp only [bind_ok, pure_ok] at h2
          obtain ⟨_, _, h3⟩ := h2
          simp at h3
        · simp only [bind_ok, pure_ok] at h2
          obtain ⟨_, _, h3⟩ := h2
          simp only [Prod.mk.injEq, Fx.mk.injEq, Did.all.injEq] at h3
          exact h3.2.2.1.symm
  · simp at h

/-- What is made bears the next name. -/
theorem oper_made {X : Cx} {e : Nat → Option Nat} {all : List Oper} {fr : Fr} {st : St} {o : Oper} {v : AV} {rs : List Nat} {n : Nat} {ob : Obj} (h : operE X e all fr st o = .ok (v, ⟨rs, .made n ob⟩)) : n = st.h ∧ rs = [] := by
  unfold operE at h
  split at h
  · split at h
    · obtain ⟨i, h1, h2, h3, h4, h5⟩ := hatch_ok h
      simp at h5
    simp only [bind_ok] at h
    obtain ⟨p, h1, h2⟩ := h
    cases p with
    | val u => simp [runPlan] at h2
    | obj id f =>
      simp only [runPlan, bind_ok, pure_ok] at h2
      obtain ⟨ob, h3, ⟨v', o'⟩, h4, d, h5, h6⟩ := h2
      simp only [Prod.mk.injEq, Fx.mk.injEq] at h6
      obtain ⟨_, _, rfl⟩ := h6
      cases o' with
      | none => simp [didOf] at h5
      | some _ => simp only [didOf] at h5; split at h5 <;> simp at h5
    | both id k f =>
      simp only [runPlan, bind_ok] at h2
      obtain ⟨ob, _, r, _, h3⟩ := h2
      cases r with
      | none =>
        simp only [bind_ok, pure_ok, Prod.mk.injEq] at h3
        obtain ⟨_, _, _, h3⟩ := h3; simp at h3
      | some j =>
        dsimp only at h3
        split at h3
        · simp only [bind_ok, pure_ok, Prod.mk.injEq] at h3
          obtain ⟨_, _, _, _, _, h3⟩ := h3; simp at h3
        · cases h3
    | new ob f =>
      simp only [runPlan, Except.ok.injEq, Prod.mk.injEq, Fx.mk.injEq, Did.made.injEq] at h2
      exact ⟨h2.2.2.1.symm, h2.2.1.symm⟩
    | call f args =>
      simp only [runPlan] at h2
      split at h2
      · simp only [bind_ok, pure_ok] at h2
        obtain ⟨_, _, h3⟩ := h2
        simp at h3
      · split at h2 <;> simp only [bind_ok, pure_ok] at h2 <;> obtain ⟨_, _, h3⟩ := h2 <;> simp at h3
  · simp at h

theorem contains_ne {l : List Nat} {i : Nat} (h : l.contains i = false) : ∀ r ∈ l, i ≠ r := fun r hr e => by
  subst e
  have : l.contains i = true := by simpa using hr
  rw [this] at h; cases h

/-- Two that may be turned about. -/
theorem turn_store {X : Cx} {e : Nat → Option Nat} {all : List Oper} {fr1 fr2 : Fr} {st : St} {o1 o2 : Oper} {v1 v2 : AV} {x1 x2 : Fx} (h1 : operE X e all fr1 st o1 = .ok (v1, x1)) (h2 : operE X e all fr2 (x1.did.app st) o2 = .ok (v2, x2))
    (hq : quiet x1 = true ∨ quiet x2 = true ∨ apart x1 x2 = true) :
    Same x2 (x1.did.app st) st ∧ Same x1 st (x2.did.app st) ∧ x1.did.app (x2.did.app st) = x2.did.app (x1.did.app st) := by
  obtain ⟨r1, d1⟩ := x1
  obtain ⟨r2, d2⟩ := x2
  have hq' : (d1 = .kept ∧ r1 = []) ∨ (d2 = .kept ∧ r2 = []) ∨ apart ⟨r1, d1⟩ ⟨r2, d2⟩ = true := by
    rcases hq with hq | hq | hq
    · left; cases d1 <;> simp [quiet] at hq; exact ⟨rfl, hq⟩
    · right; left; cases d2 <;> simp [quiet] at hq; exact ⟨rfl, hq⟩
    · exact .inr (.inr hq)
  rcases hq' with ⟨rfl, rfl⟩ | ⟨rfl, rfl⟩ | hq
  · refine ⟨?_, by simp [Same], rfl⟩
    cases d2 <;> simp [Same, Did.app]
  · refine ⟨by simp [Same], ?_, rfl⟩
    cases d1 <;> simp [Same, Did.app]
  · cases d1 with
    | kept =>
      cases d2 with
      | kept => exact ⟨by simp [Same, Did.app], by simp [Same, Did.app], rfl⟩
      | looked => exact ⟨by simp [Same, Did.app], by simp [Same, Did.app], rfl⟩
      | wrote i o =>
        simp only [apart, Bool.not_eq_true'] at hq
        refine ⟨by simp [Same, Did.app], ?_, rfl⟩
        simp only [Same, Did.app]
        exact fun r hr => St.get_put_ne (contains_ne hq r hr)
      | made i o =>
        simp only [apart, Bool.not_eq_true'] at hq
        obtain ⟨hi, _⟩ := oper_made h2
        refine ⟨by simp [Same, Did.app], ?_, rfl⟩
        simp only [Same, Did.app]
        intro r hr
        exact St.get_new_ne fun e => contains_ne hq r hr (by rw [hi, e]; rfl)
      | all s0 s =>
        simp only [apart, List.all_eq_true] at hq
        obtain rfl : s0 = st := oper_all h2
        refine ⟨by simp [Same, Did.app], ?_, rfl⟩
        simp only [Same, Did.app]
        exact fun r hr => sameAt_eq (hq r hr)
    | wrote i o =>
      cases d2 with
      | kept =>
        simp only [apart, Bool.not_eq_true'] at hq
        refine ⟨?_, by simp [Same, Did.app], rfl⟩
        simp only [Same, Did.app]
        exact fun r hr => (St.get_put_ne (contains_ne hq r hr)).symm
      | looked => simp [apart, Did.isKept] at hq
      | wrote j p =>
        simp only [apart, Bool.and_eq_true, Bool.not_eq_true'] at hq
        obtain ⟨⟨q1, q2⟩, q3⟩ := hq
        have hij : i ≠ j := fun e => by subst e; simp at q1
        refine ⟨⟨rfl, fun r hr => (St.get_put_ne (contains_ne q2 r hr)).symm⟩, ⟨rfl, fun r hr => St.get_put_ne (contains_ne q3 r hr)⟩, ?_⟩
        simp only [Did.app]
        exact St.put_put fun e => hij e.symm
      | made j p =>
        simp only [apart, Bool.and_eq_true, Bool.not_eq_true'] at hq
        obtain ⟨⟨q1, q2⟩, q3⟩ := hq
        have hij : i ≠ j := fun e => by subst e; simp at q1
        obtain ⟨hj, _⟩ := oper_made h2
        have hj : j = st.h := hj
        refine ⟨rfl, ⟨rfl, fun r hr => St.get_new_ne fun e => contains_ne q3 r hr (by rw [hj, e])⟩, ?_⟩
        simp only [Did.app]
        exact (St.new_put (by rw [← hj]; exact hij)).symm
      | all s0 s => simp [apart] at hq
    | made i o =>
      obtain ⟨hi, hr1⟩ := oper_made h1
      cases d2 with
      | kept =>
        simp only [apart, Bool.not_eq_true'] at hq
        refine ⟨?_, by simp [Same, Did.app], rfl⟩
        simp only [Same, Did.app]
        exact fun r hr => (St.get_new_ne fun e => contains_ne hq r hr (by rw [hi, e])).symm
      | looked => simp [apart, Did.isKept] at hq
      | wrote j p =>
        simp only [apart, Bool.and_eq_true, Bool.not_eq_true'] at hq
        obtain ⟨⟨q1, q2⟩, q3⟩ := hq
        have hij : i ≠ j := fun e => by subst e; simp at q1
        refine ⟨⟨rfl, fun r hr => (St.get_new_ne fun e => contains_ne q2 r hr (by rw [hi, e])).symm⟩, rfl, ?_⟩
        simp only [Did.app]
        exact St.new_put fun e => hij (by rw [hi, e])
      | made j p => simp [apart] at hq
      | all s0 s => simp [apart] at hq
    | looked =>
      cases d2 with
      | kept => exact ⟨by simp [Same, Did.app], by simp [Same, Did.app], rfl⟩
      | looked => exact ⟨by simp [Same, Did.app], by simp [Same, Did.app], rfl⟩
      | wrote j p => simp [apart, Did.isKept] at hq
      | made j p => simp [apart, Did.isKept] at hq
      | all s0 s => simp [apart] at hq
    | all s0 s =>
      cases d2 with
      | kept =>
        simp only [apart, List.all_eq_true] at hq
        obtain rfl : s0 = st := oper_all h1
        refine ⟨?_, by simp [Same, Did.app], rfl⟩
        simp only [Same, Did.app]
        exact fun r hr => (sameAt_eq (hq r hr)).symm
      | _ => simp [apart] at hq

/-- May these two be turned about? -/
def Turn (ops : Array Oper) (p q : Nat × AV × Fx) : Prop :=
  (quiet p.2.2 = true ∨ quiet q.2.2 = true ∨ apart p.2.2 q.2.2 = true) ∧ ∀ o1 o2, ops[p.1]? = some o1 → ops[q.1]? = some o2 → o1.apart ops o2 = true

theorem runs_turn {X : Cx} {e : Nat → Option Nat} {ops : Array Oper} {p q : Nat × AV × Fx} {l : List (Nat × AV × Fx)} {fr fr' : Fr} {st st' : St} (h : Runs X e ops.toList (p :: q :: l) fr st fr' st') (ht : Turn ops p q) : Runs X e ops.toList (q :: p :: l) fr st fr' st' := by
  obtain ⟨i, v1, x1⟩ := p
  obtain ⟨j, v2, x2⟩ := q
  cases h with
  | cons ho1 h1 t =>
    cases t with
    | cons ho2 h2 t =>
      rename_i o1 o2
      obtain ⟨t1, t2⟩ := ht
      have hap := t2 o1 o2 (by simpa using ho1) (by simpa using ho2)
      obtain ⟨a1, a2, a3⟩ := Oper.apart_spec hap
      obtain ⟨s1, s2, s3⟩ := turn_store h1 h2 t1
      have h2' : operE X e ops.toList fr st o2 = .ok (v2, x2) := by
        have := oper_same h2 s1
        rw [← this]
        exact oper_frame fun t ht => (Fr.get_put_ne fun e => a1 t e ht).symm
      have h1' : operE X e ops.toList (fr.put o2.dst v2) (x2.did.app st) o1 = .ok (v1, x1) := by
        have := oper_same h1 s2
        rw [← this]
        exact oper_frame fun t ht => Fr.get_put_ne fun e => a3 t e ht
      refine .cons ho2 h2' (.cons ho1 h1' ?_)
      rw [s3, Fr.put_comm (fun t e1 e2 => a2 t e2 e1)]
      exact t
/-- One is taken first. -/
theorem runs_first {X : Cx} {e : Nat → Option Nat} {ops : Array Oper} {q : Nat × AV × Fx} {l2 : List (Nat × AV × Fx)} {fr' : Fr} {st' : St} : ∀ {l1 : List (Nat × AV × Fx)} {fr : Fr} {st : St}, Runs X e ops.toList (l1 ++ q :: l2) fr st fr' st' → (∀ p ∈ l1, Turn ops p q) → Runs X e ops.toList (q :: (l1 ++ l2)) fr st fr' st'
  | [], _, _, h, _ => h
  | p :: l1, fr, st, h, ht => by
    cases h with
    | cons ho h t =>
      have ih := runs_first t fun p hp => ht p (by simp [hp])
      exact runs_turn (.cons ho h ih) (ht _ (by simp))

end Go.VM
/- A region that draws its order. -/
namespace Go.VM

/-- What is looked at once in a region that draws its order. -/
def regionOk (ops : List Oper) : Bool :=
  (ops.zipIdx.all fun (o, j) => o.after.toList.all fun e => !Region.binds .any e || e.on.blt j) &&
  (ops.zipIdx.all fun (o, j) => (ops.zipIdx.take j).all fun (o', i) => o'.apart ops.toArray o || behind ops (j + 1) j i)

theorem regionOk_edge {ops : Array Oper} (h : regionOk ops.toList = true) {j : Nat} {o : Oper} {e : Edge} (ho : ops[j]? = some o) (he : e ∈ o.after) (hb : Region.binds .any e = true) : e.on < j := by
  simp only [regionOk, Bool.and_eq_true, List.all_eq_true] at h
  have := h.1 (o, j) (by
    rw [List.mem_zipIdx_iff_getElem?]
    simpa using ho)
  simp only at this
  have := this e (by simpa using he)
  rw [hb] at this
  simpa [blt_true] using this
theorem regionOk_pair {ops : Array Oper} (h : regionOk ops.toList = true) {i j : Nat} {o o' : Oper} (hij : i < j) (ho : ops[j]? = some o) (ho' : ops[i]? = some o') : o'.apart ops o = true ∨ behind ops.toList (j + 1) j i = true := by
  simp only [regionOk, Bool.and_eq_true, List.all_eq_true] at h
  have := h.2 (o, j) (by
    rw [List.mem_zipIdx_iff_getElem?]
    simpa using ho)
  simp only at this
  have := this (o', i) (by
    rw [List.mem_iff_getElem?]
    refine ⟨i, ?_⟩
    rw [List.getElem?_take, if_pos hij, List.getElem?_zipIdx]
    simp [ho'])
  simpa using this

def Cm (ops : List Oper) (p q : Nat × AV × Fx) : Prop := quiet p.2.2 = true ∨ quiet q.2.2 = true ∨ apart p.2.2 q.2.2 = true ∨ behind ops (q.1 + 1) q.1 p.1 = true

theorem orderly_spec {ops : List Oper} {j : Nat} {x : Fx} : ∀ {seen : List (Nat × Fx)}, orderly ops j x seen = true → ∀ p ∈ seen, apart p.2 x = true ∨ behind ops (j + 1) j p.1 = true
  | [], _, p, hp => by cases hp
  | (i, y) :: l, h, p, hp => by
    simp only [orderly, Bool.and_eq_true, Bool.or_eq_true] at h
    rcases List.mem_cons.1 hp with rfl | hp
    · exact h.1
    · exact orderly_spec h.2 p hp

theorem opsFrom_runs {X : Cx} {all : List Oper} {draw : Bool} : ∀ {l : List Oper} {j : Nat} {seen : List (Nat × Fx)} {fr fr' : Fr} {st st' : St}, opsFrom X all draw j seen l fr st = .ok (fr', st') → l = all.drop j →
    ∃ L, Runs X (fun _ => none) all L fr st fr' st' ∧ L.map (·.1) = List.range' j l.length ∧ (draw = true → L.Pairwise (Cm all) ∧ ∀ s ∈ seen, ∀ q ∈ L, quiet q.2.2 = true ∨ apart s.2 q.2.2 = true ∨ behind all (q.1 + 1) q.1 s.1 = true)
  | [], j, seen, fr, fr', st, st', h, hl => by
    simp only [opsFrom, Except.ok.injEq, Prod.mk.injEq] at h
    obtain ⟨rfl, rfl⟩ := h
    exact ⟨[], .nil, rfl, fun _ => ⟨.nil, by simp⟩⟩
  | o :: l, j, seen, fr, fr', st, st', h, hl => by
    simp only [opsFrom, bind_ok] at h
    obtain ⟨⟨v, x⟩, h1, h2⟩ := h
    have ho : all[j]? = some o := by
      have := congrArg (·[0]?) hl
      simpa using this.symm
    have hl' : l = all.drop (j + 1) := by
      have := congrArg List.tail hl
      simpa [List.tail_drop] using this
    split at h2
    · rename_i hd
      obtain ⟨L, k1, k2, k3⟩ := opsFrom_runs h2 hl'
      refine ⟨(j, v, x) :: L, .cons ho ((operE_none X all fr st o).trans h1) k1, by simp [k2, List.range'_succ], fun hdr => ?_⟩
      have hq : quiet x = true := by rw [hdr] at hd; simpa using hd
      obtain ⟨m1, m2⟩ := k3 hdr
      refine ⟨.cons (fun q _ => .inl hq) m1, fun s hs q hq' => ?_⟩
      rcases List.mem_cons.1 hq' with rfl | hq'
      · exact .inl hq
      · exact m2 s hs q hq'
    · rename_i hd
      split at h2
      · rename_i hor
        obtain ⟨L, k1, k2, k3⟩ := opsFrom_runs h2 hl'
        refine ⟨(j, v, x) :: L, .cons ho ((operE_none X all fr st o).trans h1) k1, by simp [k2, List.range'_succ], fun hdr => ?_⟩
        obtain ⟨m1, m2⟩ := k3 hdr
        refine ⟨.cons (fun q hq => ?_) m1, fun s hs q hq' => ?_⟩
        · rcases m2 (j, x) (by simp) q hq with h | h | h
          · exact .inr (.inl h)
          · exact .inr (.inr (.inl h))
          · exact .inr (.inr (.inr h))
        · rcases List.mem_cons.1 hq' with rfl | hq'
          · exact .inr (orderly_spec hor s hs)
          · exact m2 s (by simp [hs]) q hq'
      · cases h2

theorem opsFromE_runs {X : Cx} {e : Nat → Option Nat} {all : List Oper} : ∀ {l : List Oper} {j : Nat} {seen : List (Nat × Fx)} {fr fr' : Fr} {st st' : St}, opsFromE X e all j seen l fr st = .ok (fr', st') → l = all.drop j →
    ∃ L, Runs X e all L fr st fr' st' ∧ L.map (·.1) = List.range' j l.length ∧ L.Pairwise (Cm all) ∧ ∀ s ∈ seen, ∀ q ∈ L, quiet q.2.2 = true ∨ apart s.2 q.2.2 = true ∨ behind all (q.1 + 1) q.1 s.1 = true
  | [], j, seen, fr, fr', st, st', h, hl => by
    simp only [opsFromE, Except.ok.injEq, Prod.mk.injEq] at h
    obtain ⟨rfl, rfl⟩ := h
    exact ⟨[], .nil, rfl, .nil, by simp⟩
  | o :: l, j, seen, fr, fr', st, st', h, hl => by
    simp only [opsFromE, bind_ok] at h
    obtain ⟨⟨v, x⟩, h1, h2⟩ := h
    have ho : all[j]? = some o := by
      have := congrArg (·[0]?) hl
      simpa using this.symm
    have hl' : l = all.drop (j + 1) := by
      have := congrArg List.tail hl
      simpa [List.tail_drop] using this
    split at h2
    · rename_i hd
      obtain ⟨L, k1, k2, k3⟩ := opsFromE_runs h2 hl'
      refine ⟨(j, v, x) :: L, .cons ho h1 k1, by simp [k2, List.range'_succ], ?_⟩
      have hq : quiet x = true := by simpa using hd
      obtain ⟨m1, m2⟩ := k3
      refine ⟨.cons (fun q _ => .inl hq) m1, fun s hs q hq' => ?_⟩
      rcases List.mem_cons.1 hq' with rfl | hq'
      · exact .inl hq
      · exact m2 s hs q hq'
    · rename_i hd
      split at h2
      · rename_i hor
        obtain ⟨L, k1, k2, k3⟩ := opsFromE_runs h2 hl'
        refine ⟨(j, v, x) :: L, .cons ho h1 k1, by simp [k2, List.range'_succ], ?_⟩
        obtain ⟨m1, m2⟩ := k3
        refine ⟨.cons (fun q hq => ?_) m1, fun s hs q hq' => ?_⟩
        · rcases m2 (j, x) (by simp) q hq with h | h | h
          · exact .inr (.inl h)
          · exact .inr (.inr (.inl h))
          · exact .inr (.inr (.inr h))
        · rcases List.mem_cons.1 hq' with rfl | hq'
          · exact .inr (orderly_spec hor s hs)
          · exact m2 s (by simp [hs]) q hq'
      · cases h2

/-- What has been listed, and what is left. -/
structure Conf (ops : Array Oper) (listed : Array Bool) (L : List (Nat × AV × Fx)) : Prop where
  left : ∀ k, k < ops.size → (listed.getD k true = false ↔ k ∈ L.map (·.1))
  lt : ∀ k ∈ L.map (·.1), k < ops.size
  sorted : (L.map (·.1)).Pairwise (· < ·)
  closed : ∀ k o e, ops[k]? = some o → listed.getD k true = true → e ∈ o.after → Region.binds .any e = true → listed.getD e.on false = true
  size : listed.size = ops.size
  cm : L.Pairwise (Cm ops.toList)

theorem getD_true {l : Array Bool} {k : Nat} : l.getD k false = true → l.getD k true = true := by
  simp only [Array.getD_eq_getD_getElem?]
  cases l[k]? <;> simp
theorem behind_listed {ops : Array Oper} {listed : Array Bool} {L : List (Nat × AV × Fx)} (hc : Conf ops listed L) : ∀ (f j i : Nat), behind ops.toList f j i = true →
    (∀ o e, ops[j]? = some o → e ∈ o.after → Region.binds .any e = true → listed.getD e.on false = true) → listed.getD i true = true
  | 0, _, _, h, _ => by simp [behind] at h
  | f + 1, j, i, h, hr => by
    simp only [behind, Array.getElem?_toList] at h
    split at h
    · rename_i o ho
      simp only [List.any_eq_true, Bool.and_eq_true, Bool.or_eq_true] at h
      obtain ⟨e, he, hb, h2⟩ := h
      have hl := hr o e ho (by simpa using he) hb
      rcases h2 with h2 | ⟨_, h2⟩
      · rw [← Nat.eq_of_beq_eq_true h2]; exact getD_true hl
      · exact behind_listed hc f e.on i h2 fun o' e' ho' he' hb' => hc.closed e.on o' e' ho' (getD_true hl) he' hb'
    · cases h

theorem mem_ready {ops : Array Oper} {listed : Array Bool} {i : Nat} : i ∈ Region.ready .any ops listed ↔ i < ops.size ∧ listed.getD i true = false ∧ ∀ o e, ops[i]? = some o → e ∈ o.after → Region.binds .any e = true → listed.getD e.on false = true := by
  simp only [Region.ready, List.mem_filter, List.mem_range, Bool.and_eq_true, Bool.not_eq_true']
  constructor
  · rintro ⟨h1, h2, h3⟩
    refine ⟨h1, h2, fun o e ho he hb => ?_⟩
    rw [ho] at h3
    simp only [Option.map_some, Option.getD_some, Array.all_eq_true'] at h3
    have := h3 e he
    rw [hb] at this
    simpa using this
  · rintro ⟨h1, h2, h3⟩
    refine ⟨h1, h2, ?_⟩
    rw [Array.getElem?_eq_getElem h1]
    simp only [Option.map_some, Option.getD_some, Array.all_eq_true']
    intro e he
    cases hb : Region.binds .any e with
    | false => rfl
    | true => simpa using h3 _ e (Array.getElem?_eq_getElem h1) he hb

section
variable {P : Program} {A : Nat → Prop}
theorem wpAny_of {X : Cx} {e0 : Nat → Option Nat} (hX : Good P X) {ops : Array Oper} (hok : regionOk ops.toList = true) {Q : Exit → Act → World → Prop} {fr' : Fr} {st' : St} : ∀ (fuel : Nat) (listed : Array Bool) (L : List (Nat × AV × Fx)) (fr : Fr) (st : St) (g : Gh) (a : Act) (w : World),
    L.length = fuel → Conf ops listed L → Runs X e0 ops.toList L fr st fr' st' → Rel X A g fr st a w → (∀ a' g' w', Rel X A g' fr' st' a' w' → Kp A g w g' w' → Q .normal a' w') → wpAny P .any ops Q fuel listed a w
  | 0, listed, L, fr, st, g, a, w, hl, hc, hr, hrel, hQ => by
    have : L = [] := List.eq_nil_of_length_eq_zero hl
    subst this
    cases hr
    refine ⟨?_, hQ a g w hrel (Kp.refl _ _ _)⟩
    apply List.eq_nil_iff_forall_not_mem.2
    intro i hi
    obtain ⟨h1, h2, _⟩ := mem_ready.1 hi
    have := (hc.left i h1).1 h2
    cases this
  | fuel + 1, listed, L, fr, st, g, a, w, hl, hc, hr, hrel, hQ => by
    refine ⟨fun hnil => ?_, fun i hi => ?_⟩
    · exfalso
      cases L with
      | nil => simp at hl
      | cons p L =>
        have hp := hc.lt p.1 (by simp)
        have : p.1 ∈ Region.ready .any ops listed := mem_ready.2 ⟨hp, (hc.left p.1 hp).2 (by simp), fun o e ho he hb => by
          have hlt := regionOk_edge hok ho he hb
          have hes : e.on < ops.size := by omega
          have hnot : e.on ∉ (p :: L).map (·.1) := by
            intro hm
            simp only [List.map_cons, List.mem_cons] at hm
            rcases hm with hm | hm
            · omega
            · have := hc.sorted
              simp only [List.map_cons, List.pairwise_cons] at this
              have := this.1 _ hm
              omega
          have := mt (hc.left e.on hes).1 hnot
          have hsz : e.on < listed.size := by rw [hc.size]; exact hes
          simp only [Array.getD_eq_getD_getElem?, Array.getElem?_eq_getElem hsz, Option.getD_some] at this ⊢
          simpa using this⟩
        rw [hnil] at this
        cases this
    · obtain ⟨h1, h2, h3⟩ := mem_ready.1 hi
      have hm := (hc.left i h1).1 h2
      obtain ⟨q, hq, hqi⟩ := List.mem_map.1 hm
      subst hqi
      obtain ⟨L1, L2, rfl⟩ := List.append_of_mem hq
      have hturn : ∀ p ∈ L1, Turn ops p q := fun p hp => by
        have hlt : p.1 < q.1 := by
          have := hc.sorted
          rw [List.map_append, List.pairwise_append] at this
          exact this.2.2 p.1 (List.mem_map.2 ⟨p, hp, rfl⟩) q.1 (by simp)
        have hnb : ∀ f, behind ops.toList f q.1 p.1 = true → False := fun f hb => by
          have := behind_listed hc f q.1 p.1 hb h3
          have hp' := (hc.left p.1 (by omega)).2 (by simp only [List.map_append, List.mem_append, List.mem_map]; exact .inl ⟨p, hp, rfl⟩)
          rw [this] at hp'; cases hp'
        refine ⟨?_, fun o1 o2 e1 e2 => ?_⟩
        · have := hc.cm
          rw [List.pairwise_append] at this
          rcases this.2.2 p hp q (by simp) with h | h | h | h
          · exact .inl h
          · exact .inr (.inl h)
          · exact .inr (.inr h)
          · exact (hnb _ h).elim
        · rcases regionOk_pair hok hlt e2 e1 with h | h
          · exact h
          · exact (hnb _ h).elim
      have hr' := runs_first hr hturn
      cases hr' with
      | cons ho h t =>
        rename_i j v x o
        refine oper_sound hX (by simpa using ho) h hrel fun a' g' w' hrel' hk => ?_
        refine wpAny_of hX hok fuel _ (L1 ++ L2) _ _ g' a' w' (by simp at hl ⊢; omega) ?_ t hrel' fun a'' g'' w'' hr'' hk' => hQ a'' g'' w'' hr'' (hk.trans hk')
        have hsz : j < listed.size := by rw [hc.size]; exact h1
        have hget : ∀ k b, (listed.setIfInBounds j true).getD k b = if k = j then true else listed.getD k b := fun k b => by
          simp only [Array.getD_eq_getD_getElem?, Array.getElem?_setIfInBounds]
          by_cases hk : j = k
          · subst hk; simp [hsz]
          · rw [if_neg hk, if_neg (fun e => hk e.symm)]
        have hsort := hc.sorted
        rw [List.map_append, List.map_cons, List.pairwise_append, List.pairwise_cons] at hsort
        refine ⟨fun k hk => ?_, fun k hk => hc.lt k ?_, ?_, fun k o' e ho' hl' he hb => ?_, by simp [hc.size], ?_⟩
        · rw [hget]
          by_cases hkj : k = j
          · subst hkj
            simp only [if_true, Bool.true_eq_false, false_iff]
            intro hm
            simp only [List.map_append, List.mem_append] at hm
            rcases hm with hm | hm
            · have := hsort.2.2 k hm k (by simp); omega
            · have := hsort.2.1.1 k hm; omega
          · rw [if_neg hkj, hc.left k hk]
            simp only [List.map_append, List.map_cons, List.mem_append, List.mem_cons]
            constructor
            · rintro (h | h | h)
              · exact .inl h
              · exact absurd h hkj
              · exact .inr h
            · rintro (h | h)
              · exact .inl h
              · exact .inr (.inr h)
        · simp only [List.map_append, List.map_cons, List.mem_append, List.mem_cons] at hk ⊢
          rcases hk with h | h
          · exact .inl h
          · exact .inr (.inr h)
        · rw [List.map_append, List.pairwise_append]
          exact ⟨hsort.1, hsort.2.1.2, fun x hx y hy => hsort.2.2 x hx y (by simp [hy])⟩
        · rw [hget] at hl' ⊢
          by_cases hej : e.on = j
          · rw [if_pos hej]
          · rw [if_neg hej]
            by_cases hkj : k = j
            · subst hkj; exact h3 o' e ho' he hb
            · rw [if_neg hkj] at hl'; exact hc.closed k o' e ho' hl' he hb
        · have := hc.cm
          rw [List.pairwise_append, List.pairwise_cons] at this
          rw [List.pairwise_append]
          exact ⟨this.1, this.2.1.2, fun x hx y hy => this.2.2 x hx y (by simp [hy])⟩

theorem Rel.drew {X : Cx} {g : Gh} {fr : Fr} {st : St} {a : Act} {w : World} (h : Rel X A g fr st a w) : Rel X A g fr st a w.drew := ⟨h.fr, h.inv.drew, h.G, h.defers⟩

theorem region_sound {X : Cx} (hX : Good P X) (hm : P.follows .mixedOrders = true) {id : Nat} {ops : Array Oper} {draw : Bool} (hok : draw = true → regionOk ops.toList = true) {fr fr' : Fr} {st st' : St} {g : Gh} {a : Act} {w : World} {Q : Exit → Act → World → Prop}
    (h : opsFrom X ops.toList draw 0 [] ops.toList fr st = .ok (fr', st')) (hrel : Rel X A g fr st a w) (hQ : ∀ a' g' w', Rel X A g' fr' st' a' w' → Kp A g w g' w' → Q .normal a' w') : (Code.region id ops draw).wp P Q a w := by
  obtain ⟨L, k1, k2, k3⟩ := opsFrom_runs h (by simp)
  have hlen : L.map (·.1) = List.range ops.size := by rw [k2, List.range_eq_range']; simp
  cases draw with
  | false =>
    refine wp_region ?_
    have := wpOps_of_runs hX k1 hrel hQ
    rwa [hlen] at this
  | true =>
    obtain ⟨m1, _⟩ := k3 rfl
    refine wp_region_any hm ?_
    refine wpAny_of hX (hok rfl) ops.size _ L fr st g a w.drew ?_ ?_ k1 hrel.drew fun a' g' w' hr hk => hQ a' g' w' hr ((Kp.drew A g w).trans hk)
    · have := congrArg List.length hlen
      simpa using this
    · refine ⟨fun k hk => ?_, fun k hk => ?_, ?_, fun k o e ho hl => ?_, by simp, m1⟩
      · rw [hlen]; simp [hk]
      · rw [hlen] at hk; simpa using hk
      · rw [hlen]; exact List.pairwise_lt_range
      · have hk : k < ops.size := by
          rcases Nat.lt_or_ge k ops.size with q | q
          · exact q
          · rw [Array.getElem?_eq_none q] at ho; cases ho
        simp [hk] at hl
theorem region_soundE {X : Cx} (hX : Good P X) (hm : P.follows .mixedOrders = true) {id : Nat} {ops : Array Oper} {e0 : Nat → Option Nat} (hok : regionOk ops.toList = true) {fr fr' : Fr} {st st' : St} {g : Gh} {a : Act} {w : World} {Q : Exit → Act → World → Prop}
    (h : opsFromE X e0 ops.toList 0 [] ops.toList fr st = .ok (fr', st')) (hrel : Rel X A g fr st a w) (hQ : ∀ a' g' w', Rel X A g' fr' st' a' w' → Kp A g w g' w' → Q .normal a' w') : (Code.region id ops true).wp P Q a w := by
  obtain ⟨L, k1, k2, k3⟩ := opsFromE_runs h (by simp)
  have hlen : L.map (·.1) = List.range ops.size := by rw [k2, List.range_eq_range']; simp
  obtain ⟨m1, _⟩ := k3
  refine wp_region_any hm ?_
  refine wpAny_of hX hok ops.size _ L fr st g a w.drew ?_ ?_ k1 hrel.drew fun a' g' w' hr hk => hQ a' g' w' hr ((Kp.drew A g w).trans hk)
  · have := congrArg List.length hlen
    simpa using this
  · refine ⟨fun k hk => ?_, fun k hk => ?_, ?_, fun k o e ho hl => ?_, by simp, m1⟩
    · rw [hlen]; simp [hk]
    · rw [hlen] at hk; simpa using hk
    · rw [hlen]; exact List.pairwise_lt_range
    · have hk : k < ops.size := by
        rcases Nat.lt_or_ge k ops.size with q | q
        · exact q
        · rw [Array.getElem?_eq_none q] at ho; cases ho
      simp [hk] at hl
end
end Go.VM
