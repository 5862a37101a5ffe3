/- Whatever order the tape picks. -/
import Derived.Test.YtjagieigmleneajGreatDoorVmReg
namespace Go.VM

theorem evalO_congr {G : Nat → Option (List AV)} {fr fr2 : Fr} {x : Operand} (h : ∀ t, x = .tmp t → fr.get t = fr2.get t) : evalO G fr x = evalO G fr2 x := by
  cases x with
  | tmp t => simp only [evalO, h t rfl]
  | _ => rfl
theorem evalL_congr {G : Nat → Option (List AV)} {fr fr2 : Fr} : ∀ {xs : List Operand}, (∀ x ∈ xs, evalO G fr x = evalO G fr2 x) → evalL G fr xs = evalL G fr2 xs
  | [], _ => rfl
  | x :: xs, h => by simp only [evalL, h x (by simp), evalL_congr (xs := xs) fun y hy => h y (by simp [hy])]
theorem evalOpt_congr {G : Nat → Option (List AV)} {fr fr2 : Fr} {x : Option Operand} (h : ∀ y, x = some y → evalO G fr y = evalO G fr2 y) : evalOpt G fr x = evalOpt G fr2 x := by
  cases x with
  | none => rfl
  | some y => simp only [evalOpt, h y rfl]
theorem evalParts_congr {G : Nat → Option (List AV)} {fr fr2 : Fr} : ∀ {xs : List (Nat × Operand)}, (∀ x ∈ xs, evalO G fr x.2 = evalO G fr2 x.2) → evalParts G fr xs = evalParts G fr2 xs
  | [], _ => rfl
  | (i, x) :: xs, h => by simp only [evalParts, h (i, x) (by simp), evalParts_congr (xs := xs) fun y hy => h y (by simp [hy])]

theorem plan_congr {T : TT} {prim : FuncId → Option Prim} {imm : TypeId → Bool} {G : Nat → Option (List AV)} {fr fr2 : Fr} {op : Op} (h : ∀ x ∈ op.operands, evalO G fr x = evalO G fr2 x) :
    plan T prim imm G fr op = plan T prim imm G fr2 op := by
  cases op <;> simp only [plan] <;> simp only [Op.operands] at h
  case move x => rw [h x (by simp)]
  case assign x => rw [h x (by simp)]
  case pick c x y => rw [h c (by simp), h x (by simp), h y (by simp)]
  case box t x => rw [h x (by simp)]
  case build t ps => rw [evalParts_congr fun x hx => h x.2 (by simp only [List.mem_toArray, List.mem_map]; exact ⟨x, hx, rfl⟩)]
  case buildSlice t n ps => rw [evalParts_congr fun x hx => h x.2 (by simp only [List.mem_toArray, List.mem_map]; exact ⟨x, hx, rfl⟩)]
  case makeSlice t x y => rw [h x (by simp), h y (by simp)]
  case load t x => rw [h x (by simp)]
  case store t x y => rw [h x (by simp), h y (by simp)]
  case nilCheck x => rw [h x (by simp)]
  case binOp op t x y _ => rw [h x (by simp), h y (by simp)]
  case unOp op t x => rw [h x (by simp)]
  case convert s d x => rw [h x (by simp)]
  case makeInterface t x => rw [h x (by simp)]
  case makeFunc f a b =>
    rw [evalL_congr fun x hx => h x (by simp only [Array.mem_append]; exact .inl (by simpa using hx)), evalL_congr (xs := b.toList) fun x hx => h x (by simp only [Array.mem_append]; exact .inr (by simpa using hx))]
  case slice t x lo hi mx =>
    have hx := h x (by simp)
    have hl : evalOpt G fr lo = evalOpt G fr2 lo := evalOpt_congr fun y hy => h y (by subst hy; simp)
    have hh : evalOpt G fr hi = evalOpt G fr2 hi := evalOpt_congr fun y hy => h y (by subst hy; simp)
    have hm : evalOpt G fr mx = evalOpt G fr2 mx := evalOpt_congr fun y hy => h y (by subst hy; simp)
    rw [hx, hl, hh, hm]
  case fieldAddr t x f => rw [h x (by simp)]
  case field t x f => rw [h x (by simp)]
  case indexAddr t x y => rw [h x (by simp), h y (by simp)]
  case index t x y => rw [h x (by simp), h y (by simp)]
  case lookup t x y ok => rw [h x (by simp), h y (by simp)]
  case mapUpdate t m k v => rw [h m (by simp), h k (by simp), h v (by simp)]
  case insert t m k v => rw [h m (by simp), h k (by simp), h v (by simp)]
  case range t x => rw [h x (by simp)]
  case next x b =>
    cases b with
    | true => show (do nextP (← evalO G fr x)) = (do nextP (← evalO G fr2 x)); rw [h x (by simp)]
    | false => rfl
  case extract x i => rw [h x (by simp)]
  case makeMap t r => cases r <;> rfl
  case call c =>
    have ha : evalL G fr c.args.toList = evalL G fr2 c.args.toList := evalL_congr fun x hx => h x (by simp only [Call.operands, Array.mem_append]; exact .inr (by simpa using hx))
    rw [ha]
    cases hc : c.callee with
    | value f => simp only [h f (by simp [Call.operands, hc])]
    | builtin b => rfl
    | invoke r m => rfl

theorem Fr.get_put_ne {fr : Fr} {d : Option Tmp} {v : AV} {t : Nat} (h : d ≠ some t) : (fr.put d v).get t = fr.get t := by
  cases d with
  | none => rfl
  | some d =>
    simp only [Fr.put]
    split
    · have : d ≠ t := fun e => h (by rw [e])
      simp [Fr.get, Tr.get_put, this]
    · rfl
theorem Fr.put_comm {fr : Fr} {d e : Option Tmp} {v u : AV} (h : ∀ t, d = some t → e ≠ some t) : (fr.put d v).put e u = (fr.put e u).put d v := by
  cases d with
  | none => rfl
  | some d =>
    cases e with
    | none => rfl
    | some e =>
      have hne : d ≠ e := fun k => h d rfl (by rw [k])
      simp only [Fr.put]
      cases hd : d.blt fr.n <;> cases e.blt fr.n <;> simp [hd, Tr.put_comm _ _ _ _ _ hne]

/-- What an operation looks at. -/
theorem oper_frame {X : Cx} {ops : Array Oper} {fr fr2 : Fr} {st : St} {o : Oper} (h : ∀ t ∈ o.looksAt ops, fr.get t = fr2.get t) : oper X ops.toList fr st o = oper X ops.toList fr2 st o := by
  have hw : wanted ops.toList fr o.guard = wanted ops.toList fr2 o.guard := by
    unfold wanted
    cases hg : o.guard with
    | none => rfl
    | some p =>
      obtain ⟨j, want⟩ := p
      simp only [Array.getElem?_toList]
      cases hd : (ops[j]?).bind (·.dst) with
      | none => rfl
      | some d =>
        simp only
        rw [h d (by simp [Oper.looksAt, hg, hd])]
  unfold oper
  rw [hw, plan_congr fun x hx => evalO_congr fun t ht => h t (by
    subst ht
    simp only [Oper.looksAt, List.mem_append, List.mem_filterMap]
    exact .inl ⟨.tmp t, by simpa using hx, rfl⟩)]

theorem St.put_put {st : St} {i j : Nat} {a b : Obj} (h : i ≠ j) : (st.put i a).put j b = (st.put j b).put i a := by
  simp only [St.put, Tr.put_comm _ _ _ _ _ h]
theorem St.new_put {st : St} {i : Nat} {a b : Obj} (h : i ≠ st.h) : ((st.put i a).new b).2 = ((st.new b).2).put i a := by
  simp only [St.put, St.new, Tr.put_comm _ _ _ _ _ h]
theorem St.get_new_ne {st : St} {o : Obj} {r : Nat} (h : r ≠ st.h) : (st.new o).2.get r = st.get r := by
  simp only [St.get, St.new]
  cases h1 : r.blt (st.h + 1) <;> cases h2 : r.blt st.h <;> simp only [Tr.get_put]
  · rw [blt_false] at h1; rw [blt_true] at h2; omega
  · rw [blt_true] at h1; rw [blt_false] at h2; omega
  · rw [if_neg (fun e => h e.symm)]

theorem sameStr_eq : ∀ {a b : List UInt8}, sameStr a b = true → a = b
  | [], [], _ => rfl
  | a :: l, b :: m, h => by
    unfold sameStr at h
    split at h
    · rename_i e
      rw [UInt8.toNat_inj.1 (Nat.eq_of_beq_eq_true e), sameStr_eq h]
    · cases h
  | [], _ :: _, h => by simp [sameStr] at h
  | _ :: _, [], h => by simp [sameStr] at h
theorem sameAll_eq {g : AV → AV → Bool} (hg : ∀ a b, g a b = true → a = b) : ∀ {a b : List AV}, sameAll g a b = true → a = b
  | [], [], _ => rfl
  | a :: l, b :: m, h => by
    unfold sameAll at h
    split at h
    · rename_i e
      rw [hg _ _ e, sameAll_eq hg h]
    · cases h
  | [], _ :: _, h => by simp [sameAll] at h
  | _ :: _, [], h => by simp [sameAll] at h
theorem sameAV_eq : ∀ (f : Nat) (a b : AV), sameAV f a b = true → a = b
  | 0, _, _, h => by simp [sameAV] at h
  | f + 1, a, b, h => by
    have ih := fun {l m : List AV} (h : sameAll (sameAV f) l m = true) => sameAll_eq (sameAV_eq f) h
    unfold sameAV at h
    split at h
    · rw [eq_of_beq h]
    · simp only [Bool.and_eq_true, decide_eq_true_eq] at h
      rw [h.1, h.2]
    · rw [sameStr_eq h]
    · rfl
    · rfl
    · rfl
    · rfl
    · rfl
    · rw [ih h]
    · simp only [Bool.and_eq_true, Nat.beq_eq] at h
      rw [h.1, h.2]
    · rw [Nat.eq_of_beq_eq_true h]
    · simp only [Bool.and_eq_true, Nat.beq_eq] at h
      rw [h.1.1, h.1.2, h.2]
    · simp only [Bool.and_eq_true, Nat.beq_eq] at h
      rw [h.1.1, h.1.2, h.2]
    · simp only [Bool.and_eq_true, Nat.beq_eq] at h
      obtain ⟨⟨⟨⟨rfl, rfl⟩, rfl⟩, rfl⟩, rfl⟩ := h
      rfl
    · simp only [Bool.and_eq_true, Nat.beq_eq, decide_eq_true_eq] at h
      rw [h.1.1, h.1.2, ih h.2]
    · simp only [Bool.and_eq_true, Nat.beq_eq] at h
      rw [h.1, sameAV_eq f _ _ h.2]
    · rw [ih h]
    · rw [ih h]
    · cases h
theorem sameObj_eq {a b : Obj} (h : sameObj a b = true) : a = b := by
  unfold sameObj at h
  split at h
  · simp only [Bool.and_eq_true, Nat.beq_eq] at h
    rw [h.1, sameAll_eq (sameAV_eq 1000) h.2]
  · simp only [Bool.and_eq_true, Nat.beq_eq] at h
    rw [h.1, h.2]
  · simp only [Bool.and_eq_true, Nat.beq_eq] at h
    rw [h.1.1.1, h.1.1.2, h.1.2, sameAll_eq (sameAV_eq 1000) h.2]
  · cases h
theorem sameAt_eq {s t : St} {i : Nat} (h : sameAt s t i = true) : t.get i = s.get i := by
  unfold sameAt at h
  split at h
  · rename_i a b h1 h2
    rw [h1, h2, sameObj_eq h]
  · cases h

/-- Where it finds the same, it does the same. -/
def Same (x : Fx) (st st2 : St) : Prop :=
  match x.did with
  | .kept => ∀ r ∈ x.reads, st2.get r = st.get r
  | .wrote _ _ => st2.ro = st.ro ∧ ∀ r ∈ x.reads, st2.get r = st.get r
  | .made _ _ => st2.h = st.h
  | .looked => st2 = st
  | .all _ _ => st2 = st
theorem oper_same {X : Cx} {all : List Oper} {fr : Fr} {st st2 : St} {o : Oper} {v : AV} {x : Fx} (h : oper X all fr st o = .ok (v, x)) (hs : Same x st st2) : oper X all fr st2 o = .ok (v, x) := by
  unfold oper at h ⊢
  split at h
  · simp only [bind_ok] at h ⊢
    obtain ⟨p, h1, h2⟩ := h
    refine ⟨p, h1, ?_⟩
    cases p with
    | val u => exact h2
    | obj id f =>
      simp only [runPlan, bind_ok, pure_ok] at h2 ⊢
      obtain ⟨ob, h3, ⟨v', o'⟩, h4, d, h5, h6⟩ := h2
      simp only [Prod.mk.injEq] at h6
      obtain ⟨rfl, rfl⟩ := h6
      cases o' with
      | none =>
        simp only [didOf, Except.ok.injEq] at h5
        subst h5
        refine ⟨ob, by rw [hs id (by simp)]; exact h3, ⟨v', none⟩, h4, .kept, rfl, rfl⟩
      | some ob' =>
        simp only [didOf] at h5
        split at h5
        · cases h5
        · rename_i hro
          simp only [Except.ok.injEq] at h5
          subst h5
          obtain ⟨s1, s2⟩ := hs
          refine ⟨ob, by rw [s2 id (by simp)]; exact h3, ⟨v', some ob'⟩, h4, .wrote id ob', ?_, rfl⟩
          simp only [didOf, s1, hro]
    | both id k f =>
      have : x.did = .looked := by
        simp only [runPlan, bind_ok] at h2
        obtain ⟨ob, _, r, _, h3⟩ := h2
        cases r with
        | none =>
          simp only [bind_ok, pure_ok, Prod.mk.injEq] at h3
          obtain ⟨_, _, _, rfl⟩ := h3; rfl
        | some j =>
          dsimp only at h3
          split at h3
          · simp only [bind_ok, pure_ok, Prod.mk.injEq] at h3
            obtain ⟨_, _, _, _, _, rfl⟩ := h3; rfl
          · cases h3
      rw [Same, this] at hs
      have hs : st2 = st := hs
      rw [hs]; exact h2
    | new ob f =>
      simp only [runPlan, Except.ok.injEq, Prod.mk.injEq] at h2 ⊢
      obtain ⟨rfl, rfl⟩ := h2
      have : st2.h = st.h := hs
      rw [this]
      simp
    | call f args =>
      simp only [runPlan] at h2 ⊢
      split at h2
      · exact h2
      · split at h2
        · simp only [bind_ok, pure_ok, Prod.mk.injEq] at h2
          obtain ⟨v', h3, rfl, rfl⟩ := h2
          have : st2 = st := hs
          rw [this]
          simp only [bind_ok, pure_ok]
          exact ⟨v', h3, rfl⟩
        · simp only [bind_ok, pure_ok] at h2
          obtain ⟨⟨v', s'⟩, h3, h4⟩ := h2
          simp only [Prod.mk.injEq] at h4
          obtain ⟨rfl, rfl⟩ := h4
          have : st2 = st := hs
          rw [this]
          simp only [bind_ok, pure_ok]
          exact ⟨(v', s'), h3, rfl⟩
  · exact h

/-- A call that works on all of the store began at the store. -/
theorem oper_all {X : Cx} {all : List Oper} {fr : Fr} {st s0 s1 : St} {o : Oper} {v : AV} {rs : List Nat} (h : oper X all fr st o = .ok (v, ⟨rs, .all s0 s1⟩)) : s0 = st := by
  unfold oper at h
  split at h
  · simp only [bind_ok] at h
    obtain ⟨p, h1, h2⟩ := h
    cases p with
    | val u => simp [runPlan] at h2
    | obj id f =>
      simp only [runPlan, bind_ok, pure_ok] at h2
      obtain ⟨ob, h3, ⟨v', o'⟩, h4, d, h5, h6⟩ := h2
      simp only [Prod.mk.injEq, Fx.mk.injEq] at h6
      obtain ⟨_, _, rfl⟩ := h6
      cases o' with
      | none => simp [didOf] at h5
      | some _ => simp only [didOf] at h5; split at h5 <;> simp at h5
    | both id k f =>
      simp only [runPlan, bind_ok] at h2
      obtain ⟨ob, _, r, _, h3⟩ := h2
      cases r with
      | none =>
        simp only [bind_ok, pure_ok, Prod.mk.injEq] at h3
        obtain ⟨_, _, _, h3⟩ := h3; simp at h3
      | some j =>
        dsimp only at h3
        split at h3
        · simp only [bind_ok, pure_ok, Prod.mk.injEq] at h3
          obtain ⟨_, _, _, _, _, h3⟩ := h3; simp at h3
        · cases h3
    | new ob f =>
      simp only [runPlan, Except.ok.injEq, Prod.mk.injEq, Fx.mk.injEq] at h2
      have := h2.2.2; simp at this
    | call f args =>
      simp only [runPlan] at h2
      split at h2
      · simp only [bind_ok, pure_ok] at h2
        obtain ⟨_, _, h3⟩ := h2
        simp at h3
      · split at h2
        · simp only [bind_ok, pure_ok] at h2
          obtain ⟨_, _, h3⟩ := h2
          simp at h3
        · simp only [bind_ok, pure_ok] at h2
          obtain ⟨_, _, h3⟩ := h2
          simp only [Prod.mk.injEq, Fx.mk.injEq, Did.all.injEq] at h3
          exact h3.2.2.1.symm
  · simp at h

/-- What is made bears the next name. -/
theorem oper_made {X : Cx} {all : List Oper} {fr : Fr} {st : St} {o : Oper} {v : AV} {rs : List Nat} {n : Nat} {ob : Obj} (h : oper X all fr st o = .ok (v, ⟨rs, .made n ob⟩)) : n = st.h ∧ rs = [] := by
  unfold oper at h
  split at h
  · simp only [bind_ok] at h
    obtain ⟨p, h1, h2⟩ := h
    cases p with
    | val u => simp [runPlan] at h2
    | obj id f =>
      simp only [runPlan, bind_ok, pure_ok] at h2
      obtain ⟨ob, h3, ⟨v', o'⟩, h4, d, h5, h6⟩ := h2
      simp only [Prod.mk.injEq, Fx.mk.injEq] at h6
      obtain ⟨_, _, rfl⟩ := h6
      cases o' with
      | none => simp [didOf] at h5
      | some _ => simp only [didOf] at h5; split at h5 <;> simp at h5
    | both id k f =>
      simp only [runPlan, bind_ok] at h2
      obtain ⟨ob, _, r, _, h3⟩ := h2
      cases r with
      | none =>
        simp only [bind_ok, pure_ok, Prod.mk.injEq] at h3
        obtain ⟨_, _, _, h3⟩ := h3; simp at h3
      | some j =>
        dsimp only at h3
        split at h3
        · simp only [bind_ok, pure_ok, Prod.mk.injEq] at h3
          obtain ⟨_, _, _, _, _, h3⟩ := h3; simp at h3
        · cases h3
    | new ob f =>
      simp only [runPlan, Except.ok.injEq, Prod.mk.injEq, Fx.mk.injEq, Did.made.injEq] at h2
      exact ⟨h2.2.2.1.symm, h2.2.1.symm⟩
    | call f args =>
      simp only [runPlan] at h2
      split at h2
      · simp only [bind_ok, pure_ok] at h2
        obtain ⟨_, _, h3⟩ := h2
        simp at h3
      · split at h2 <;> simp only [bind_ok, pure_ok] at h2 <;> obtain ⟨_, _, h3⟩ := h2 <;> simp at h3
  · simp at h

theorem Did.app_made_h (st : St) (n : Nat) (o : Obj) : ((Did.made n o).app st).h = st.h + 1 := rfl

theorem St.put_ro (st : St) (i : Nat) (o : Obj) : (st.put i o).ro = st.ro := rfl
theorem St.new_ro (st : St) (o : Obj) : (st.new o).2.ro = st.ro := rfl
theorem St.put_h (st : St) (i : Nat) (o : Obj) : (st.put i o).h = st.h := rfl

theorem contains_ne {l : List Nat} {i : Nat} (h : l.contains i = false) : ∀ r ∈ l, i ≠ r := fun r hr e => by
  subst e
  have : l.contains i = true := by simpa using hr
  rw [this] at h; cases h

/-- Two that may be turned about. -/
theorem turn_store {X : Cx} {all : List Oper} {fr1 fr2 : Fr} {st : St} {o1 o2 : Oper} {v1 v2 : AV} {x1 x2 : Fx} (h1 : oper X all fr1 st o1 = .ok (v1, x1)) (h2 : oper X all fr2 (x1.did.app st) o2 = .ok (v2, x2))
    (hq : quiet x1 = true ∨ quiet x2 = true ∨ apart x1 x2 = true) :
    Same x2 (x1.did.app st) st ∧ Same x1 st (x2.did.app st) ∧ x1.did.app (x2.did.app st) = x2.did.app (x1.did.app st) := by
  obtain ⟨r1, d1⟩ := x1
  obtain ⟨r2, d2⟩ := x2
  have hq' : (d1 = .kept ∧ r1 = []) ∨ (d2 = .kept ∧ r2 = []) ∨ apart ⟨r1, d1⟩ ⟨r2, d2⟩ = true := by
    rcases hq with hq | hq | hq
    · left; cases d1 <;> simp [quiet] at hq; exact ⟨rfl, hq⟩
    · right; left; cases d2 <;> simp [quiet] at hq; exact ⟨rfl, hq⟩
    · exact .inr (.inr hq)
  rcases hq' with ⟨rfl, rfl⟩ | ⟨rfl, rfl⟩ | hq
  · refine ⟨?_, by simp [Same], rfl⟩
    cases d2 <;> simp [Same, Did.app]
  · refine ⟨by simp [Same], ?_, rfl⟩
    cases d1 <;> simp [Same, Did.app]
  · cases d1 with
    | kept =>
      cases d2 with
      | kept => exact ⟨by simp [Same, Did.app], by simp [Same, Did.app], rfl⟩
      | looked => exact ⟨by simp [Same, Did.app], by simp [Same, Did.app], rfl⟩
      | wrote i o =>
        simp only [apart, Bool.not_eq_true'] at hq
        refine ⟨by simp [Same, Did.app], ?_, rfl⟩
        simp only [Same, Did.app]
        exact fun r hr => St.get_put_ne (contains_ne hq r hr)
      | made i o =>
        simp only [apart, Bool.not_eq_true'] at hq
        obtain ⟨hi, _⟩ := oper_made h2
        refine ⟨by simp [Same, Did.app], ?_, rfl⟩
        simp only [Same, Did.app]
        intro r hr
        exact St.get_new_ne fun e => contains_ne hq r hr (by rw [hi, e]; rfl)
      | all s0 s =>
        simp only [apart, List.all_eq_true] at hq
        obtain rfl : s0 = st := oper_all h2
        refine ⟨by simp [Same, Did.app], ?_, rfl⟩
        simp only [Same, Did.app]
        exact fun r hr => sameAt_eq (hq r hr)
    | wrote i o =>
      cases d2 with
      | kept =>
        simp only [apart, Bool.not_eq_true'] at hq
        refine ⟨?_, by simp [Same, Did.app], rfl⟩
        simp only [Same, Did.app]
        exact fun r hr => (St.get_put_ne (contains_ne hq r hr)).symm
      | looked => simp [apart, Did.isKept] at hq
      | wrote j p =>
        simp only [apart, Bool.and_eq_true, Bool.not_eq_true'] at hq
        obtain ⟨⟨q1, q2⟩, q3⟩ := hq
        have hij : i ≠ j := fun e => by subst e; simp at q1
        refine ⟨⟨rfl, fun r hr => (St.get_put_ne (contains_ne q2 r hr)).symm⟩, ⟨rfl, fun r hr => St.get_put_ne (contains_ne q3 r hr)⟩, ?_⟩
        simp only [Did.app]
        exact St.put_put fun e => hij e.symm
      | made j p =>
        simp only [apart, Bool.and_eq_true, Bool.not_eq_true'] at hq
        obtain ⟨⟨q1, q2⟩, q3⟩ := hq
        have hij : i ≠ j := fun e => by subst e; simp at q1
        obtain ⟨hj, _⟩ := oper_made h2
        have hj : j = st.h := hj
        refine ⟨rfl, ⟨rfl, fun r hr => St.get_new_ne fun e => contains_ne q3 r hr (by rw [hj, e])⟩, ?_⟩
        simp only [Did.app]
        exact (St.new_put (by rw [← hj]; exact hij)).symm
      | all s0 s => simp [apart] at hq
    | made i o =>
      obtain ⟨hi, hr1⟩ := oper_made h1
      cases d2 with
      | kept =>
        simp only [apart, Bool.not_eq_true'] at hq
        refine ⟨?_, by simp [Same, Did.app], rfl⟩
        simp only [Same, Did.app]
        exact fun r hr => (St.get_new_ne fun e => contains_ne hq r hr (by rw [hi, e])).symm
      | looked => simp [apart, Did.isKept] at hq
      | wrote j p =>
        simp only [apart, Bool.and_eq_true, Bool.not_eq_true'] at hq
        obtain ⟨⟨q1, q2⟩, q3⟩ := hq
        have hij : i ≠ j := fun e => by subst e; simp at q1
        refine ⟨⟨rfl, fun r hr => (St.get_new_ne fun e => contains_ne q2 r hr (by rw [hi, e])).symm⟩, rfl, ?_⟩
        simp only [Did.app]
        exact St.new_put fun e => hij (by rw [hi, e])
      | made j p => simp [apart] at hq
      | all s0 s => simp [apart] at hq
    | looked =>
      cases d2 with
      | kept => exact ⟨by simp [Same, Did.app], by simp [Same, Did.app], rfl⟩
      | looked => exact ⟨by simp [Same, Did.app], by simp [Same, Did.app], rfl⟩
      | wrote j p => simp [apart, Did.isKept] at hq
      | made j p => simp [apart, Did.isKept] at hq
      | all s0 s => simp [apart] at hq
    | all s0 s =>
      cases d2 with
      | kept =>
        simp only [apart, List.all_eq_true] at hq
        obtain rfl : s0 = st := oper_all h1
        refine ⟨?_, by simp [Same, Did.app], rfl⟩
        simp only [Same, Did.app]
        exact fun r hr => (sameAt_eq (hq r hr)).symm
      | _ => simp [apart] at hq

/-- May these two be turned about? -/
def Turn (ops : Array Oper) (p q : Nat × AV × Fx) : Prop :=
  (quiet p.2.2 = true ∨ quiet q.2.2 = true ∨ apart p.2.2 q.2.2 = true) ∧ ∀ o1 o2, ops[p.1]? = some o1 → ops[q.1]? = some o2 → o1.apart ops o2 = true

theorem runs_turn {X : Cx} {ops : Array Oper} {p q : Nat × AV × Fx} {l : List (Nat × AV × Fx)} {fr fr' : Fr} {st st' : St} (h : Runs X ops.toList (p :: q :: l) fr st fr' st') (ht : Turn ops p q) : Runs X ops.toList (q :: p :: l) fr st fr' st' := by
  obtain ⟨i, v1, x1⟩ := p
  obtain ⟨j, v2, x2⟩ := q
  cases h with
  | cons ho1 h1 t =>
    cases t with
    | cons ho2 h2 t =>
      rename_i o1 o2
      obtain ⟨t1, t2⟩ := ht
      have hap := t2 o1 o2 (by simpa using ho1) (by simpa using ho2)
      obtain ⟨a1, a2, a3⟩ := Oper.apart_spec hap
      obtain ⟨s1, s2, s3⟩ := turn_store h1 h2 t1
      have h2' : oper X ops.toList fr st o2 = .ok (v2, x2) := by
        have := oper_same h2 s1
        rw [← this]
        exact oper_frame fun t ht => (Fr.get_put_ne fun e => a1 t e ht).symm
      have h1' : oper X ops.toList (fr.put o2.dst v2) (x2.did.app st) o1 = .ok (v1, x1) := by
        have := oper_same h1 s2
        rw [← this]
        exact oper_frame fun t ht => Fr.get_put_ne fun e => a3 t e ht
      refine .cons ho2 h2' (.cons ho1 h1' ?_)
      rw [s3, Fr.put_comm (fun t e1 e2 => a2 t e2 e1)]
      exact t
/-- One is taken first. -/
theorem runs_first {X : Cx} {ops : Array Oper} {q : Nat × AV × Fx} {l2 : List (Nat × AV × Fx)} {fr' : Fr} {st' : St} : ∀ {l1 : List (Nat × AV × Fx)} {fr : Fr} {st : St}, Runs X ops.toList (l1 ++ q :: l2) fr st fr' st' → (∀ p ∈ l1, Turn ops p q) → Runs X ops.toList (q :: (l1 ++ l2)) fr st fr' st'
  | [], _, _, h, _ => h
  | p :: l1, fr, st, h, ht => by
    cases h with
    | cons ho h t =>
      have ih := runs_first t fun p hp => ht p (by simp [hp])
      exact runs_turn (.cons ho h ih) (ht _ (by simp))

end Go.VM
