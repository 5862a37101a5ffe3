/- Whatever is called. -/
import Derived.Test.YtjagieigmleneajGreatDoorVmCall
namespace Go.VM

def RoOk (C : Caller) : Prop := ∀ f args st v s, C.wide f args st = .ok (v, s) → s.ro = st.ro
theorem runPlan_ro {C : Caller} (hC : RoOk C) {st : St} {p : Plan} {v : AV} {x : Fx} (h : runPlan C st p = .ok (v, x)) : (x.did.app st).ro = st.ro := by
  cases p with
  | val u =>
    simp only [runPlan, Except.ok.injEq, Prod.mk.injEq] at h
    obtain ⟨_, rfl⟩ := h; rfl
  | obj id f =>
    simp only [runPlan, bind_ok, pure_ok] at h
    obtain ⟨ob, h3, ⟨v', o'⟩, h4, d, h5, h6⟩ := h
    simp only [Prod.mk.injEq] at h6
    obtain ⟨_, rfl⟩ := h6
    cases o' with
    | none => simp only [didOf, Except.ok.injEq] at h5; subst h5; rfl
    | some o' =>
      simp only [didOf] at h5
      split at h5
      · cases h5
      · simp only [Except.ok.injEq] at h5; subst h5; rfl
  | both id k f =>
    simp only [runPlan, bind_ok] at h
    obtain ⟨ob, _, r, _, h3⟩ := h
    cases r with
    | none =>
      simp only [bind_ok, pure_ok, Prod.mk.injEq] at h3
      obtain ⟨_, _, _, rfl⟩ := h3; rfl
    | some j =>
      dsimp only at h3
      split at h3
      · simp only [bind_ok, pure_ok, Prod.mk.injEq] at h3
        obtain ⟨_, _, _, _, _, rfl⟩ := h3; rfl
      · cases h3
  | new o f =>
    simp only [runPlan, Except.ok.injEq, Prod.mk.injEq] at h
    obtain ⟨_, rfl⟩ := h; rfl
  | call f args =>
    simp only [runPlan] at h
    split at h
    · simp only [bind_ok, pure_ok] at h
      obtain ⟨_, _, h⟩ := h
      simp only [Prod.mk.injEq] at h
      obtain ⟨_, rfl⟩ := h; rfl
    · split at h
      · simp only [bind_ok, pure_ok] at h
        obtain ⟨_, _, h⟩ := h
        simp only [Prod.mk.injEq] at h
        obtain ⟨_, rfl⟩ := h; rfl
      · simp only [bind_ok, pure_ok] at h
        obtain ⟨⟨v', s⟩, h1, h⟩ := h
        simp only [Prod.mk.injEq] at h
        obtain ⟨_, rfl⟩ := h
        exact hC _ _ _ _ _ h1
theorem opsFrom_ro {X : Cx} (hC : RoOk X.C) {all : List Oper} {draw : Bool} : ∀ {l : List Oper} {j : Nat} {seen : List (Nat × Fx)} {fr fr' : Fr} {st st' : St}, opsFrom X all draw j seen l fr st = .ok (fr', st') → st'.ro = st.ro
  | [], _, _, _, _, _, _, h => by
    simp only [opsFrom, Except.ok.injEq, Prod.mk.injEq] at h
    rw [h.2]
  | o :: l, j, seen, fr, fr', st, st', h => by
    simp only [opsFrom, bind_ok] at h
    obtain ⟨⟨v, x⟩, h1, h2⟩ := h
    have hx : (x.did.app st).ro = st.ro := by
      unfold oper at h1
      split at h1
      · simp only [bind_ok] at h1
        obtain ⟨p, _, h1⟩ := h1
        exact runPlan_ro hC h1
      · simp only [Except.ok.injEq, Prod.mk.injEq] at h1
        obtain ⟨_, rfl⟩ := h1; rfl
    split at h2
    · exact (opsFrom_ro hC h2).trans hx
    · split at h2
      · exact (opsFrom_ro hC h2).trans hx
      · cases h2
theorem iter_ro {body : Fr → St → Res (Ex × Fr × St)} (hb : ∀ fr st ex fr' st', body fr st = .ok (ex, fr', st') → st'.ro = st.ro) : ∀ (n : Nat) {fr fr' : Fr} {st st' : St} {ex : Ex}, iter body n fr st = .ok (ex, fr', st') → st'.ro = st.ro
  | 0, _, _, _, _, _, h => by simp [iter] at h
  | n + 1, fr, fr', st, st', ex, h => by
    simp only [iter, bind_ok] at h
    obtain ⟨⟨ex1, fr1, st1⟩, h1, h2⟩ := h
    have := hb _ _ _ _ _ h1
    cases ex1 <;> simp only [pure_ok, Prod.mk.injEq] at h2
    · exact (iter_ro hb n h2).trans this
    · rw [← h2.2.2]; exact this
    · rw [← h2.2.2]; exact this
theorem exec_ro {X : Cx} (hC : RoOk X.C) (n : Nat) : ∀ (c : Code) (fr : Fr) (st : St) (ex : Ex) (fr' : Fr) (st' : St), exec X n c fr st = .ok (ex, fr', st') → st'.ro = st.ro
  | .skip, _, _, _, _, _, h | .label _, _, _, _, _, _, h | .exit _, _, _, _, _, _, h | .ret, _, _, _, _, _, h => by
    simp only [exec, Except.ok.injEq, Prod.mk.injEq] at h
    rw [h.2.2]
  | .region _ _ _, _, _, _, _, _, h => by
    simp only [exec, bind_ok, pure_ok, Prod.mk.injEq] at h
    obtain ⟨⟨fr1, st1⟩, h1, rfl, rfl, rfl⟩ := h
    exact opsFrom_ro hC h1
  | .seq x y, _, _, _, _, _, h => by
    simp only [exec, bind_ok] at h
    obtain ⟨⟨ex1, fr1, st1⟩, h1, h2⟩ := h
    have := exec_ro hC n x _ _ _ _ _ h1
    cases ex1 <;> simp only [pure_ok, Prod.mk.injEq] at h2
    · exact (exec_ro hC n y _ _ _ _ _ h2).trans this
    · rw [← h2.2.2]; exact this
    · rw [← h2.2.2]; exact this
  | .cond c x y, _, _, _, _, _, h => by
    simp only [exec, bind_ok] at h
    obtain ⟨cv, h1, b, h2, h3⟩ := h
    cases b
    · exact exec_ro hC n y _ _ _ _ _ h3
    · exact exec_ro hC n x _ _ _ _ _ h3
  | .block id c, _, _, _, _, _, h => by
    simp only [exec, bind_ok] at h
    obtain ⟨⟨ex1, fr1, st1⟩, h1, h2⟩ := h
    have := exec_ro hC n c _ _ _ _ _ h1
    cases ex1
    · simp only [pure_ok, Prod.mk.injEq] at h2; rw [← h2.2.2]; exact this
    · simp only at h2
      split at h2 <;> simp only [pure_ok, Prod.mk.injEq] at h2 <;> rw [← h2.2.2] <;> exact this
    · simp only [pure_ok, Prod.mk.injEq] at h2; rw [← h2.2.2]; exact this
  | .loop c, _, _, _, _, _, h => by
    simp only [exec] at h
    exact iter_ro (fun fr st ex fr' st' h => exec_ro hC n c fr st ex fr' st' h) n h
  | .rangeFunc _ _ _ _, _, _, _, _, _, h => by simp [exec] at h
  | .scope c, _, _, _, _, _, h => by
    simp only [exec] at h
    exact exec_ro hC n c _ _ _ _ _ h
  | .goto _, _, _, _, _, _, h => by simp [exec] at h
  | .refuse _, _, _, _, _, _, h => by simp [exec] at h
theorem body_ro {X : Cx} (hC : RoOk X.C) {n : Nat} {fn : Func} {args : List AV} {st st' : St} {v : AV} (h : body X n fn args st = .ok (v, st')) : st'.ro = st.ro := by
  unfold body at h
  split at h
  · cases h
  · split at h
    · cases h
    · simp only [bind_ok] at h
      obtain ⟨⟨ex, fr', st1⟩, h1, h2⟩ := h
      have := exec_ro hC n _ _ _ _ _ _ h1
      cases ex
      · simp only [bind_ok, pure_ok, Prod.mk.injEq] at h2
        obtain ⟨_, _, _, rfl⟩ := h2; exact this
      · cases h2
      · simp only [bind_ok, pure_ok, Prod.mk.injEq] at h2
        obtain ⟨_, _, _, rfl⟩ := h2; exact this

/-- What is asked of a program, once. -/
def BareOk (P : Program) (T : TT) (G : Nat → Option (List AV)) (f : FuncId) (args : List AV) (v : AV) : Prop :=
  ∀ A g st w xs, GR g G → bares args = true → RL g args xs → Inv T A g st w → CallWp P f xs.toArray w (Post T A g st w v)
theorem findMemo_mem {args : List AV} {v : AV} : ∀ {l : List (List AV × AV)}, findMemo args l = some v → (args, v) ∈ l
  | [], h => by cases h
  | (a, u) :: l, h => by
    simp only [findMemo] at h
    split at h
    · rename_i e
      cases h
      rw [sameAll_eq (sameAV_eq 1000) e]
      exact List.mem_cons_self
    · exact List.mem_cons_of_mem _ (findMemo_mem h)
structure EnvOk (P : Program) (E : Env) : Prop where
  T : TOk P E.T
  F : ∀ f fn, E.F f = some fn → P.funcs[f]? = some fn ∧ (∀ args w, (callFunc f args).run P w = .ok (.enter f args) w) ∧ ∀ c, fn.body = some c → codeOk c = true
  prim : PrimOk P E.T E.prim
  mixed : P.follows .mixedOrders = true
  memo : ∀ f e, e ∈ E.memo f → BareOk P E.T E.G f e.1 e.2

theorem St.get_empty {i : Nat} {o : Obj} : St.empty.get i ≠ .ok o := by
  intro h
  have := (St.get_ok.1 h).1
  simp [St.empty] at this

theorem caller_ok {P : Program} {E : Env} (hE : EnvOk P E) : ∀ n, CallerOk P E.T E.G (caller E n) ∧ RoOk (caller E n)
  | 0 => ⟨⟨fun _ _ _ h => by simp [caller] at h, fun _ _ _ _ _ h => by simp [caller] at h, fun _ _ _ _ h => by simp [caller] at h⟩, fun _ _ _ _ _ h => by simp [caller] at h⟩
  | n + 1 => by
    obtain ⟨ih, iro⟩ := caller_ok hE n
    have hX : ∀ f, Good P ⟨E.T, E.prim, E.imm f, E.G, caller E n⟩ := fun f => ⟨hE.T, ih, hE.prim⟩
    refine ⟨⟨?_, ?_, ?_⟩, ?_⟩
    · intro f args v h A g st w xs hG hb hr hi
      simp only [caller] at h
      split at h
      · rename_i u hu
        cases h
        exact hE.memo f _ (findMemo_mem hu) A g st w xs hG hb hr hi
      split at h
      · cases h
      · rename_i fn hfn
        obtain ⟨f1, f2, f3⟩ := hE.F f fn hfn
        simp only [bind_ok] at h
        obtain ⟨⟨v0, s⟩, h1, v1, h2, h3⟩ := h
        split at h3
        · rename_i hbare
          simp only [pure_ok] at h3
          subst h3
          have hle : LeF g ⟨g.F, g.M, fun _ => none⟩ := ⟨fun _ _ _ x => x, fun _ _ x => x⟩
          have hinv : Inv E.T (fun b => w.heap.size ≤ b) ⟨g.F, g.M, fun _ => none⟩ St.empty w :=
            ⟨hi.F, hi.M, fun _ _ => rfl, fun _ _ ho => (St.get_empty ho).elim, fun _ _ _ _ _ ho => (St.get_empty ho).elim, fun _ _ _ ho => (St.get_empty ho).elim, fun _ hb => hb⟩
          refine .inr ⟨f2 _ _, (body_sound (hX f) hE.mixed f1 f3 h1 (RL_bare hle _ _ hb hr) (fun k cs hk => ⟨(hG k cs hk).1, RAt_bare hle _ _ _ (hG k cs hk).1 (hG k cs hk).2⟩) hinv).mono ?_⟩
          rintro e w' ⟨x, rfl, g', r1, r2, r3⟩
          refine ⟨x, rfl, quiet_post (gb := ⟨g.F, g.M, fun _ => none⟩) hi rfl rfl (fun _ => Iff.rfl) r2 r3 (base := 0) ?_ r1 h2 hbare⟩
          rw [body_ro iro h1]; exact Nat.le_refl _
        · cases h3
    · intro f args st v st' h A g w xs hG hr hi
      simp only [caller] at h
      split at h
      · cases h
      · rename_i fn hfn
        obtain ⟨f1, f2, f3⟩ := hE.F f fn hfn
        simp only [bind_ok, pure_ok] at h
        obtain ⟨⟨v0, s⟩, h1, h2⟩ := h
        simp only [Prod.mk.injEq] at h2
        obtain ⟨rfl, rfl⟩ := h2
        exact .inr ⟨f2 _ _, body_sound (hX f) hE.mixed f1 f3 h1 hr hG hi⟩
    · intro f args st v h A g w xs hG hr hi
      simp only [caller] at h
      split at h
      · cases h
      · rename_i fn hfn
        obtain ⟨f1, f2, f3⟩ := hE.F f fn hfn
        simp only [bind_ok] at h
        obtain ⟨⟨v0, s⟩, h1, v1, h2, h3⟩ := h
        split at h3
        · rename_i hbare
          simp only [pure_ok] at h3
          subst h3
          have hget : ∀ i, (⟨st.h, st.h, st.objs⟩ : St).get i = st.get i := fun _ => rfl
          have hinv : Inv E.T (fun b => w.heap.size ≤ b) g ⟨st.h, st.h, st.objs⟩ w :=
            ⟨hi.F, hi.M, hi.E, hi.H, hi.D, fun id o b ho _ hro => by
              have := (St.get_ok.1 ho).1
              have hro' : st.h ≤ id := hro
              have : id < st.h := this
              omega, fun _ hb => hb⟩
          refine .inr ⟨f2 _ _, (body_sound (hX f) hE.mixed f1 f3 h1 hr hG hinv).mono ?_⟩
          rintro e w' ⟨x, rfl, g', r1, r2, r3⟩
          refine ⟨x, rfl, quiet_post hi rfl rfl (fun _ => Iff.rfl) r2 r3 (base := st.h) ?_ r1 h2 hbare⟩
          rw [body_ro iro h1]; exact Nat.le_refl _
        · cases h3
    · intro f args st v s h
      simp only [caller] at h
      split at h
      · cases h
      · simp only [bind_ok, pure_ok] at h
        obtain ⟨⟨v0, s0⟩, h1, h2⟩ := h
        simp only [Prod.mk.injEq] at h2
        obtain ⟨rfl, rfl⟩ := h2
        exact body_ro iro h1

end Go.VM
