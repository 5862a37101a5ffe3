/- A body's end, and what a call hands back. -/
import Derived.Test.YtjagieigmleneajGreatDoorVmExec
namespace Go.VM
section
variable {P : Program} {T : TT} {A : Nat → Prop} {g : Gh} {st : St} {w : World}

theorem putAll_get : ∀ (l : List AV) (i : Nat) (t : Tr AV) (k : Nat), (putAll i l t).get k = if i ≤ k ∧ k < i + l.length then l[k - i]? else t.get k
  | [], i, t, k => by
    simp only [putAll, List.length_nil, Nat.add_zero]
    rw [if_neg (by omega)]
  | v :: l, i, t, k => by
    simp only [putAll, putAll_get l (i + 1), Tr.get_put, List.length_cons]
    by_cases h : i = k
    · subst h
      rw [if_neg (by omega), if_pos rfl, if_pos (by omega)]
      simp
    · rw [if_neg h]
      by_cases h2 : i + 1 ≤ k ∧ k < i + 1 + l.length
      · rw [if_pos h2, if_pos (by omega), show k - i = (k - (i + 1)) + 1 by omega]; simp
      · rw [if_neg h2, if_neg (by omega)]
theorem frameOf_sound {n : Nat} {args : List AV} {xs : List Value} (h : RL g args xs) (hn : args.length ≤ n) : FrR g (frameOf n args) (xs.toArray ++ Array.replicate (n - xs.toArray.size) Go.undef) := by
  have hl := RL_len h
  refine ⟨by simp [frameOf]; omega, fun t => ?_⟩
  simp only [frameOf, Fr.get, putAll_get, Nat.zero_add, Nat.zero_le, true_and, Nat.sub_zero, Tr.get_leaf]
  by_cases ht : t < args.length
  · rw [if_pos ht, List.getElem?_eq_getElem ht]
    obtain ⟨x, h1, h2⟩ := RL_getElem? h (List.getElem?_eq_getElem ht)
    have hx : (xs.toArray ++ Array.replicate (n - xs.toArray.size) Go.undef).getD t Go.undef = x := by
      rw [Array.getD_eq_getD_getElem?, Array.getElem?_append_left (by simp; omega)]
      simp [h1]
    rw [hx]
    exact h2
  · rw [if_neg ht]
    have hx : (xs.toArray ++ Array.replicate (n - xs.toArray.size) Go.undef).getD t Go.undef = Go.undef := by
      rw [Array.getD_eq_getD_getElem?, Array.getElem?_append_right (by simp; omega)]
      rw [Array.getElem?_replicate]
      split <;> rfl
    rw [hx]
    exact R_undef

/-- How a result is read. -/
def readR (tmps : Array Value) (r : ResultVar) : Sem Value :=
  match r with
  | .tmp t => pure (tmps.getD t Go.undef)
  | .cell a t => do loadVar t (← asAddr (tmps.getD a Go.undef))
theorem results_eq (fn : Func) (tmps : Array Value) : results fn tmps = (do
    let vs ← fn.results.mapM (readR tmps)
    pure (if h : vs.size = 1 then vs[0] else .tuple vs)) := by
  unfold results
  congr 2

theorem resultsOf_sound (hT : TOk P T) {fr : Fr} {tmps : Array Value} (hf : FrR g fr tmps) (h : Inv T A g st w) : ∀ {rs : List ResultVar} {vs : List AV}, resultsOf T fr st rs = .ok vs →
    ∃ xs, (rs.mapM (readR tmps)).run P w = .ok xs w ∧ RL g vs xs
  | [], vs, hr => by
    simp only [resultsOf, Except.ok.injEq] at hr
    subst hr
    exact ⟨[], rfl, RL_nil⟩
  | r :: rs, vs, hr => by
    simp only [resultsOf, bind_ok, pure_ok] at hr
    obtain ⟨v, h1, vs', h2, rfl⟩ := hr
    obtain ⟨xs, k1, k2⟩ := resultsOf_sound hT hf h h2
    have key : ∃ x, (readR tmps r).run P w = .ok x w ∧ R g v x := by
      cases r with
      | tmp t =>
        simp only [resultOf, Except.ok.injEq] at h1
        subst h1
        exact ⟨_, rfl, hf.at' t⟩
      | cell a t =>
        simp only [resultOf, bind_ok] at h1
        obtain ⟨i, e1, p, e2, e3⟩ := h1
        have hi := hT t i (ti_ok.1 e1)
        have ha := hf.at' a
        show ∃ x, (do loadVar t (← Go.asAddr (tmps.getD a Go.undef)) : Sem Value).run P w = .ok x w ∧ R g v x
        generalize tmps.getD a Go.undef = x at ha ⊢
        cases hav : fr.get a <;> rw [hav] at e2 ha <;> simp only [loadP] at e2 <;> (try (cases e2; done))
        · rename_i cells
          simp only [bind_ok, pure_ok] at e2
          obtain ⟨u, q1, rfl⟩ := e2
          simp only [pure_ok] at e3
          subst e3
          simp only [R] at ha
          obtain ⟨_, b, o, rfl, h3⟩ := ha
          obtain ⟨ys, y1, y2⟩ := RAt_vals h3
          obtain ⟨y, z1, z2⟩ := run_loadVar_cells (w := w) hi q1 y1 fun k z hz => h.F _ _ _ (y2 k z hz).1
          exact ⟨y, by simp [asAddr, z1], z2⟩
        · rename_i id off
          simp only [Except.ok.injEq] at e2
          subst e2
          simp only [readP, bind_ok, pure_ok] at e3
          obtain ⟨o, q1, ⟨v', o'⟩, ⟨v'', ⟨cs, q2, q3⟩, q4⟩, q5⟩ := e3
          rw [cellsOf_ok] at q2
          obtain ⟨ty, rfl⟩ := q2
          simp only [Prod.mk.injEq] at q4
          obtain ⟨rfl, rfl⟩ := q4
          subst q5
          simp only [R] at ha
          obtain ⟨b, hE, rfl⟩ := ha
          obtain ⟨b', ys, y1, y2, y3, y4, y5⟩ := h.cells q1
          have hb : b' = b := by have := y1.symm.trans hE; simpa using this
          subst hb
          obtain ⟨y, z1, z2⟩ := run_loadVar_cells (w := w) (b := b') (o := off) hi q3 (RL_drop off y3) fun k z hz => by
            rw [cell_of y2]
            simpa using hz
          exact ⟨y, by simp [asAddr, z1], z2⟩
    obtain ⟨x, x1, x2⟩ := key
    refine ⟨x :: xs, ?_, RL_cons x2 k2⟩
    rw [List.mapM_cons]
    simp only [Sem.run_bind, x1, Result.andThen_ok, k1, Sem.run_pure]

theorem body_sound {X : Cx} (hX : Good P X) (hm : P.follows .mixedOrders = true) {n : Nat} {f : FuncId} {fn : Func} {args : List AV} {v : AV} {st' : St} {xs : List Value} (hfn : P.funcs[f]? = some fn)
    (hc : ∀ c, fn.body = some c → codeOk c = true) (h : body X n fn args st = .ok (v, st')) (hr : RL g args xs) (hG : GR g X.G) (hi : Inv X.T A g st w) :
    Calls P f xs.toArray w fun e w' => ∃ x, e = .returned x ∧ Post X.T A g st' w v x w' := by
  unfold body at h
  split at h
  · cases h
  · rename_i c hbody
    split at h
    · cases h
    · rename_i hle
      have hle := Nat.le_of_ble_eq_true hle
      simp only [bind_ok] at h
      obtain ⟨⟨ex, fr', st1⟩, h1, h2⟩ := h
      refine calls_of_wp hfn hbody ?_
      refine exec_sound hX hm n c (hc c hbody) _ _ _ _ _ g _ w _ h1 ⟨frameOf_sound hr hle, hi, hG, rfl⟩ fun a' g' w' hr' hk => ?_
      have fin : (do pure (oneOf (← resultsOf X.T fr' st1 fn.results.toList), st1) : Res (AV × St)) = .ok (v, st') → a'.defers = [] ∧ ∃ v_1, (results fn a'.tmps).run P w' = .ok v_1 w' ∧ ∃ x, Ending.returned v_1 = .returned x ∧ Post X.T A g st' w v x w' := fun he => by
        simp only [bind_ok, pure_ok, Prod.mk.injEq] at he
        obtain ⟨vs, e1, rfl, rfl⟩ := he
        obtain ⟨ys, y1, y2⟩ := resultsOf_sound hX.T hr'.fr hr'.inv e1
        have hm' : (fn.results.mapM (readR a'.tmps)).run P w' = .ok ys.toArray w' := by
          rw [Array.mapM_eq_mapM_toList]
          simp only [Sem.run_map, y1, Result.andThen_ok]
        refine ⟨hr'.defers, if h : ys.toArray.size = 1 then ys.toArray[0] else .tuple ys.toArray, ?_, _, rfl, g', ?_, hr'.inv, hk⟩
        · rw [results_eq]
          simp only [Sem.run_bind, hm', Result.andThen_ok, Sem.run_pure]
        · cases vs with
          | nil =>
            simp only [RL] at y2
            subst y2
            simp only [oneOf, R]
            exact ⟨_, rfl, RL_nil⟩
          | cons v1 vs =>
            cases vs with
            | nil =>
              simp only [RL] at y2
              obtain ⟨x, l, rfl, r1, rfl⟩ := y2
              exact r1
            | cons v2 vs =>
              have hl := RL_len y2
              rw [dif_neg (by simp at hl ⊢; omega)]
              simp only [oneOf, R]
              exact ⟨_, rfl, y2⟩
      cases ex with
      | normal => exact fin h2
      | ret => exact fin h2
      | exit id => cases h2

end
end Go.VM
