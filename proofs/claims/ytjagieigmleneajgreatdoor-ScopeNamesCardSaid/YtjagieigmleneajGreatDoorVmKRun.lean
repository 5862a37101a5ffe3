/- What the fast machine runs, the machine runs. -/
import Derived.Test.YtjagieigmleneajGreatDoorVmKTr
namespace Go.VM
variable {X : KT} {K : KX} {fr : Fr} {t : Frm}

theorem wanted_none {all : List Oper} {fr : Fr} : wanted all fr none = true := rfl
theorem wanted_some {all : List Oper} {fr : Fr} {j : Nat} {w : Bool} {d : Tmp} (h : (all[j]?).bind (·.dst) = some d) : wanted all fr (some (j, w)) = (match fr.get d with | .bool b => b == w | _ => false) := by
  unfold wanted
  dsimp only
  rw [h]
  rfl
/-- An operation, done fast: what it tells, and what it did. -/
def OpX (K : KX) (fr : Fr) (t : Frm) (all : List Oper) (o : Oper) (f : KFx) : Prop :=
  ∀ st k, f K t st k = true → ∃ v x, oper K.X all fr st o = .ok (v, x) ∧ k v x = true
def OpF (K : KX) (fr : Fr) (t : Frm) (all : List Oper) (o : Oper) (f : KF) : Prop :=
  ∀ st k, f K t st k = true → ∃ v x, oper K.X all fr st o = .ok (v, x) ∧ k (putD (trD K.n o.dst) t v) (x.did.app st) = true
theorem oper_run {all : List Oper} {o : Oper} {st : St} (h : wanted all fr o.guard = true) : oper K.X all fr st o = run K.X fr st o.op := by
  unfold oper; rw [h]; rfl
theorem oper_no {all : List Oper} {o : Oper} {st : St} (h : wanted all fr o.guard = false) : oper K.X all fr st o = .ok (undef, ⟨[], .kept⟩) := by
  unfold oper; rw [h]
theorem opVal_ok {all : List Oper} {o : Oper} {f : VF} (hg : wanted all fr o.guard = true) (h : PV K fr t o.op f) : OpF K fr t all o (opVal (trD K.n o.dst) f) := by
  intro st k hk
  obtain ⟨v, h1, h2⟩ := h _ hk
  exact ⟨v, ⟨[], .kept⟩, by rw [oper_run hg, run, okBind h1]; rfl, h2⟩
theorem opPut_ok {all : List Oper} {o : Oper} {f : KFx} (hg : wanted all fr o.guard = true) (h : PX K fr t o.op f) : OpF K fr t all o (opPut (trD K.n o.dst) f) := by
  intro st k hk
  obtain ⟨v, x, h1, h2⟩ := h _ _ hk
  rw [appK_eq] at h2
  exact ⟨v, x, by rw [oper_run hg, h1], h2⟩
theorem opMv_ok (hX : KTOk X K) (h : FR fr K.n t) {all : List Oper} {o : Oper} {x : KO} (hx : trMove X.G o = some x) : OpF K fr t all o (opMv x (trD K.n o.dst)) := by
  unfold trMove at hx
  split at hx
  · cases hx
  · rename_i hg
    have hw : wanted all fr o.guard = true := by rw [hg]; rfl
    rw [hX.G] at hx
    split at hx
    · rename_i y ho
      intro st k hk
      refine ⟨getO x t, ⟨[], .kept⟩, ?_, hk⟩
      have e0 : plan K.X.T K.X.prim K.X.imm K.X.G fr o.op = .ok (.val (getO x t)) := by rw [ho]; exact okBind (trO_ok h hx)
      rw [oper_run hw, run, okBind e0]; rfl
    · rename_i y ho
      intro st k hk
      refine ⟨getO x t, ⟨[], .kept⟩, ?_, hk⟩
      have e0 : plan K.X.T K.X.prim K.X.imm K.X.G fr o.op = .ok (.val (getO x t)) := by rw [ho]; exact okBind (trO_ok h hx)
      rw [oper_run hw, run, okBind e0]; rfl
    · cases hx
theorem opX_ok {all : List Oper} {o : Oper} {f : KFx} (hg : wanted all fr o.guard = true) (h : PX K fr t o.op f) : OpX K fr t all o f := by
  intro st k hk
  obtain ⟨v, x, h1, h2⟩ := h _ _ hk
  exact ⟨v, x, by rw [oper_run hg, h1], h2⟩
theorem getP_get (h : FR fr K.n t) {d : Nat} (hd : d < K.n) : getP (pl d) t = fr.get d := by
  rw [h.get d]
  unfold kget
  rw [blt_t (show d < 1000 by have := h.le; omega)]
theorem opWhen_ok (h : FR fr K.n t) {all : List Oper} {o : Oper} {f : KF} {j : Nat} {w : Bool} {d : Tmp} (ho : o.guard = some (j, w)) (hd : (all[j]?).bind (·.dst) = some d) (hn : d < K.n)
    (hf : wanted all fr o.guard = true → OpF K fr t all o f) : OpF K fr t all o (opWhen (pl d) w (trD K.n o.dst) f) := by
  intro st k hk
  unfold opWhen at hk
  rw [getP_get h hn] at hk
  have hw := wanted_some (fr := fr) (w := w) hd
  split at hk
  · rename_i b hb
    rw [hb] at hw
    dsimp only at hw
    cases e : b == w with
    | true =>
      rw [e] at hk hw
      exact hf (by rw [ho, hw]) st k hk
    | false =>
      rw [e] at hk hw
      exact ⟨undef, ⟨[], .kept⟩, oper_no (by rw [ho, hw]), hk⟩
  · rename_i hb
    refine ⟨undef, ⟨[], .kept⟩, oper_no ?_, hk⟩
    rw [ho, hw]
    split
    · rename_i b e; exact absurd e (hb b)
    · rfl
theorem opWhenX_ok (h : FR fr K.n t) {all : List Oper} {o : Oper} {f : KFx} {j : Nat} {w : Bool} {d : Tmp} (ho : o.guard = some (j, w)) (hd : (all[j]?).bind (·.dst) = some d) (hn : d < K.n)
    (hf : wanted all fr o.guard = true → OpX K fr t all o f) : OpX K fr t all o (opWhenX (pl d) w f) := by
  intro st k hk
  unfold opWhenX at hk
  rw [getP_get h hn] at hk
  have hw := wanted_some (fr := fr) (w := w) hd
  split at hk
  · rename_i b hb
    rw [hb] at hw
    dsimp only at hw
    cases e : b == w with
    | true =>
      rw [e] at hk hw
      exact hf (by rw [ho, hw]) st k hk
    | false =>
      rw [e] at hk hw
      exact ⟨undef, ⟨[], .kept⟩, oper_no (by rw [ho, hw]), hk⟩
  · rename_i hb
    refine ⟨undef, ⟨[], .kept⟩, oper_no ?_, hk⟩
    rw [ho, hw]
    split
    · rename_i b e; exact absurd e (hb b)
    · rfl
theorem opGen_ok (h : FR fr K.n t) {all : List Oper} {o : Oper} : OpF K fr t all o (opGen all o (trD K.n o.dst)) := by
  intro st k hk
  unfold opGen at hk
  rw [oper_alike ((FR.toFr h.le).alike h)] at hk
  split at hk
  · rename_i v x e
    rw [appK_eq] at hk
    exact ⟨v, x, e, hk⟩
  · cases hk
theorem opGenX_ok (h : FR fr K.n t) {all : List Oper} {o : Oper} : OpX K fr t all o (opGenX all o) := by
  intro st k hk
  unfold opGenX at hk
  rw [oper_alike ((FR.toFr h.le).alike h)] at hk
  split at hk
  · rename_i v x e
    exact ⟨v, x, e, hk⟩
  · cases hk

/-- An operation of the fast machine stands for one of the machine. -/
inductive KOpOk (K : KX) (fr : Fr) (t : Frm) (all : List Oper) (o : Oper) (j : Nat) (m : List Nat) (b : Bool) : KOp → Prop
  | plain (f : KF) : OpF K fr t all o f → m = [] → b = false → KOpOk K fr t all o j m b (.plain f)
  | chk (f : KFx) : OpX K fr t all o f → KOpOk K fr t all o j m b (.chk j m b (trD K.n o.dst) f)
theorem trPlain_ok (hX : KTOk X K) (hK : KGood K) (h : FR fr K.n t) {all : List Oper} {o : Oper} {j : Nat} : KOpOk K fr t all o j [] false (trPlain X all o) := by
  have hn := hX.n
  unfold trPlain
  split
  · rename_i x hx
    rw [hn]; exact .plain _ (opMv_ok hX h hx) rfl rfl
  split
  · rw [hn]; exact .plain _ (opGen_ok h) rfl rfl
  · rename_i k hk
    have hb := trBase_ok hX hK h hk
    split
    · rename_i hg
      have hw : wanted all fr o.guard = true := by rw [hg]; rfl
      split
      · rw [hn]; exact .plain _ (opVal_ok hw hb) rfl rfl
      · rw [hn]; exact .plain _ (opPut_ok hw hb) rfl rfl
    · rename_i i w hg
      split
      · rename_i d hd
        split
        · rename_i hl
          rw [hn] at hl
          split
          · rw [hn]; exact .plain _ (opWhen_ok h hg hd (t_blt hl) fun hw => opVal_ok hw hb) rfl rfl
          · rw [hn]; exact .plain _ (opWhen_ok h hg hd (t_blt hl) fun hw => opPut_ok hw hb) rfl rfl
        · rw [hn]; exact .plain _ (opGen_ok h) rfl rfl
      · rw [hn]; exact .plain _ (opGen_ok h) rfl rfl
theorem trChk_ok (hX : KTOk X K) (hK : KGood K) (h : FR fr K.n t) {all : List Oper} {o : Oper} {j : Nat} {m : List Nat} {b : Bool} : KOpOk K fr t all o j m b (trChk X all o j m b) := by
  have hn := hX.n
  unfold trChk
  split
  · rw [hn]; exact .chk _ (opGenX_ok h)
  · rename_i k hk
    have hb := trBase_ok hX hK h hk
    split
    · rename_i hg
      have hw : wanted all fr o.guard = true := by rw [hg]; rfl
      split
      · rw [hn]; exact .chk _ (opX_ok hw (PV.x hb))
      · rw [hn]; exact .chk _ (opX_ok hw hb)
    · rename_i i w hg
      split
      · rename_i d hd
        split
        · rename_i hl
          rw [hn] at hl
          split
          · rw [hn]; exact .chk _ (opWhenX_ok h hg hd (t_blt hl) fun hw => opX_ok hw (PV.x hb))
          · rw [hn]; exact .chk _ (opWhenX_ok h hg hd (t_blt hl) fun hw => opX_ok hw hb)
        · rw [hn]; exact .chk _ (opGenX_ok h)
      · rw [hn]; exact .chk _ (opGenX_ok h)
theorem trOp_ok (hX : KTOk X K) (hK : KGood K) (h : FR fr K.n t) {all : List Oper} {draw : Bool} {j : Nat} {o : Oper} :
    (draw = false ∨ still o.op = true) ∧ KOpOk K fr t all o j [] false (trOp X all draw j o) ∨ draw = true ∧ still o.op = false ∧ KOpOk K fr t all o j (mustOf all j) (keepOf all j) (trOp X all draw j o) := by
  unfold trOp
  split
  · exact .inl ⟨.inl rfl, trPlain_ok hX hK h⟩
  · split
    · rename_i e
      exact .inl ⟨.inr e, trPlain_ok hX hK h⟩
    · rename_i e
      refine .inr ⟨rfl, e, ?_⟩
      split
      · rename_i hm
        split
        · rename_i hb
          rw [hm, hb]; exact trPlain_ok hX hK h
        · rename_i hb
          rw [hm, hb]; exact trChk_ok hX hK h
      · rename_i hm
        rw [hm]; exact trChk_ok hX hK h

/- The orders. -/
theorem val_quiet {st : St} {v : AV} {y : AV} {x : Fx} {C : Caller} (h : runPlan C st (.val v) = .ok (y, x)) : quiet x = true := by
  simp only [runPlan, Except.ok.injEq, Prod.mk.injEq] at h
  obtain ⟨_, rfl⟩ := h; rfl
theorem still_quiet {Y : Cx} {all : List Oper} {st : St} {o : Oper} {v : AV} {x : Fx} (hs : still o.op = true) (h : oper Y all fr st o = .ok (v, x)) : quiet x = true := by
  unfold oper at h
  split at h
  · obtain ⟨p, h1, h2⟩ := bind_ok.1 h
    have hp : ∃ v, p = .val v := by
      cases ho : o.op <;> rw [ho] at h1 hs <;> first | (cases hs; done) | skip
      all_goals simp only [plan] at h1
      all_goals first
        | (obtain ⟨r, _, h1⟩ := bind_ok.1 h1; cases h1; exact ⟨_, rfl⟩)
        | (split at h1
           · cases h1
           · obtain ⟨r, _, h1⟩ := bind_ok.1 h1; cases h1; exact ⟨_, rfl⟩)
    obtain ⟨v, rfl⟩ := hp
    exact val_quiet h2
  · cases h; rfl
theorem load_kept {Y : Cx} {all : List Oper} {st : St} {o : Oper} {v : AV} {x : Fx} (hs : isLoad o.op = true) (h : oper Y all fr st o = .ok (v, x)) : x.did = .kept := by
  unfold oper at h
  split at h
  · obtain ⟨p, h1, h2⟩ := bind_ok.1 h
    cases ho : o.op <;> rw [ho] at h1 hs <;> first | (cases hs; done) | skip
    simp only [plan, bind_ok] at h1
    obtain ⟨_, _, _, _, h1⟩ := h1
    unfold loadP at h1
    split at h1
    · obtain ⟨r, _, h1⟩ := bind_ok.1 h1
      cases h1
      simp only [runPlan, Except.ok.injEq, Prod.mk.injEq] at h2
      obtain ⟨_, rfl⟩ := h2; rfl
    · cases h1
      simp only [readP, runPlan, bind_ok, pure_ok] at h2
      obtain ⟨ob, _, ⟨v', o'⟩, h3, d, h4, h5⟩ := h2
      obtain ⟨r, _, h3⟩ := h3
      cases h3
      simp only [didOf, Except.ok.injEq] at h4
      subst h4
      cases h5; rfl
    · cases h1
  · cases h; rfl
theorem orderly_of {all : List Oper} {j : Nat} {x : Fx} : ∀ {l : List (Nat × Fx)}, (∀ i y, (i, y) ∈ l → apart y x = true ∨ behind all (j + 1) j i = true) → orderly all j x l = true
  | [], _ => rfl
  | (i, y) :: l, h => by
    simp only [orderly, Bool.and_eq_true, Bool.or_eq_true]
    exact ⟨h i y (by simp), orderly_of fun i y hm => h i y (by simp [hm])⟩
theorem okSeen_mem {must : List Nat} {x : Fx} : ∀ {l : List (Nat × Fx)} {i : Nat} {y : Fx}, okSeen must x l = true → (i, y) ∈ l → i ∈ must → apart y x = true
  | [], _, _, _, h, _ => by cases h
  | (i', y') :: l, i, y, h, hm, hi => by
    simp only [okSeen, Bool.and_eq_true, Bool.or_eq_true] at h
    rcases List.mem_cons.1 hm with e | hm
    · cases e
      rcases h.1 with h | h
      · have : must.any (Nat.beq i') = true := List.any_eq_true.2 ⟨_, hi, Nat.beq_refl _⟩
        rw [this] at h; cases h
      · exact h
    · exact okSeen_mem h.2 hm hi
structure SeenOk (all : List Oper) (j : Nat) (seen seen' : List (Nat × Fx)) : Prop where
  lt : ∀ i y, (i, y) ∈ seen → i < j
  op : ∀ i y, (i, y) ∈ seen → ∃ o, all[i]? = some o ∧ still o.op = false ∧ (isLoad o.op = true → y.did = .kept)
  keep : ∀ i y, (i, y) ∈ seen → keepOf all i = true → (i, y) ∈ seen'
theorem SeenOk.next {all : List Oper} {j : Nat} {seen seen' : List (Nat × Fx)} (h : SeenOk all j seen seen') : SeenOk all (j + 1) seen seen' :=
  ⟨fun i y m => Nat.lt_succ_of_lt (h.lt i y m), h.op, h.keep⟩
theorem SeenOk.add {all : List Oper} {j : Nat} {seen seen' : List (Nat × Fx)} (h : SeenOk all j seen seen') {o : Oper} {x : Fx} (ho : all[j]? = some o) (hs : still o.op = false) (hl : isLoad o.op = true → x.did = .kept) :
    SeenOk all (j + 1) ((j, x) :: seen) (match keepOf all j with | true => (j, x) :: seen' | false => seen') := by
  refine ⟨fun i y m => ?_, fun i y m => ?_, fun i y m k => ?_⟩ <;> rcases List.mem_cons.1 m with e | m
  · cases e; exact Nat.lt_succ_self _
  · exact Nat.lt_succ_of_lt (h.lt i y m)
  · cases e; exact ⟨o, ho, hs, hl⟩
  · exact h.op i y m
  · cases e; rw [k]; exact List.mem_cons_self
  · split
    · exact List.mem_cons_of_mem _ (h.keep i y m k)
    · exact h.keep i y m k
/-- Those behind which an operation stands, or that it may pass. -/
theorem SeenOk.orderly {all : List Oper} {j : Nat} {seen seen' : List (Nat × Fx)} (h : SeenOk all j seen seen') {o : Oper} {x : Fx} (ho : all[j]? = some o) (hs : still o.op = false) (hl : isLoad o.op = true → x.did = .kept)
    (hm : okSeen (mustOf all j) x seen' = true) : orderly all j x seen = true := by
  refine orderly_of fun i y hy => ?_
  have hlt := h.lt i y hy
  obtain ⟨o', ho', hs', hl'⟩ := h.op i y hy
  have hj : j < all.length := by
    have := List.getElem?_eq_some_iff.1 ho
    exact this.1
  cases hf : free all i j with
  | false =>
    have hk : keepOf all i = true := by
      unfold keepOf
      refine List.any_eq_true.2 ⟨j, by simpa using hj, ?_⟩
      rw [hf, blt_t hlt]; rfl
    exact .inl (okSeen_mem hm (h.keep i y hy hk) (by
      unfold mustOf
      refine List.mem_filter.2 ⟨by simpa using hlt, ?_⟩
      rw [hf]; rfl))
  | true =>
    unfold free at hf
    rw [ho', ho] at hf
    simp only [Bool.or_eq_true, Bool.and_eq_true, hs, hs'] at hf
    rcases hf with e | e | e | e
    · cases e
    · cases e
    · have e1 := hl' e.1
      have e2 := hl e.2
      obtain ⟨r1, d1⟩ := x
      obtain ⟨r2, d2⟩ := y
      dsimp only at e1 e2
      subst e1; subst e2
      exact .inl rfl
    · exact .inr e

theorem opsK_ok (hX : KTOk X K) (hK : KGood K) {all : List Oper} {draw : Bool} : ∀ (l : List Oper) (j : Nat) (seen seen' : List (Nat × Fx)) (fr : Fr) (t : Frm) (st : St) (k : KN), all.drop j = l → (draw = true → SeenOk all j seen seen') → FR fr K.n t →
    opsK (trOps X all draw j l) K seen' t st k = true → ∃ fr' st' t', opsFrom K.X all draw j seen l fr st = .ok (fr', st') ∧ FR fr' K.n t' ∧ k t' st' = true
  | [], _, _, _, fr, t, st, k, _, _, h, hk => ⟨fr, st, t, rfl, h, hk⟩
  | o :: l, j, seen, seen', fr, t, st, k, hd, hs, h, hk => by
    have hj : all[j]? = some o := by
      have := List.getElem?_drop (xs := all) (i := j) (j := 0)
      rw [hd] at this
      simpa using this.symm
    have hd' : all.drop (j + 1) = l := by rw [← List.drop_drop, hd]; rfl
    have step : ∀ v x, oper K.X all fr st o = .ok (v, x) → ∀ seen1, (draw = true → SeenOk all (j + 1) seen1 (if draw && !quiet x then seen1 else seen1)) → True := fun _ _ _ _ _ => trivial
    clear step
    simp only [trOps] at hk
    rcases trOp_ok (all := all) (draw := draw) (j := j) (o := o) hX hK h with ⟨hq, hop⟩ | ⟨hdr, hst, hop⟩
    · generalize hko : trOp X all draw j o = ko at hop hk
      cases hop with
      | chk f hf =>
        obtain ⟨v, x, h1, h2⟩ := hf st _ hk
        have hqx : (draw && !quiet x) = false := by
          rcases hq with rfl | hq
          · rfl
          · rw [still_quiet hq h1]; cases draw <;> rfl
        have h3 : opsK (trOps X all draw (j + 1) l) K seen' (putD (trD K.n o.dst) t v) (x.did.app st) k = true := by
          rw [appK_eq] at h2
          split at h2
          · exact h2
          · split at h2
            · exact h2
            · cases h2
        obtain ⟨fr', st', t', e1, e2, e3⟩ := opsK_ok hX hK l (j + 1) seen seen' _ _ _ k hd' (fun e => (hs e).next) (h.put o.dst v) h3
        exact ⟨fr', st', t', by rw [opsFrom, okBind h1]; dsimp only; rw [hqx]; exact e1, e2, e3⟩
      | plain f hf _ _ =>
        obtain ⟨v, x, h1, h2⟩ := hf st _ hk
        have hqx : (draw && !quiet x) = false := by
          rcases hq with rfl | hq
          · rfl
          · rw [still_quiet hq h1]; cases draw <;> rfl
        obtain ⟨fr', st', t', e1, e2, e3⟩ := opsK_ok hX hK l (j + 1) seen seen' _ _ _ k hd' (fun e => (hs e).next) (h.put o.dst v) h2
        exact ⟨fr', st', t', by rw [opsFrom, okBind h1]; dsimp only; rw [hqx]; exact e1, e2, e3⟩
    · subst hdr
      have hs := hs rfl
      generalize hko : trOp X all true j o = ko at hop hk
      generalize hm : mustOf all j = m at hop
      generalize hb : keepOf all j = b at hop
      cases hop with
      | plain f hf em eb =>
        subst em; subst eb
        obtain ⟨v, x, h1, h2⟩ := hf st _ hk
        have hl : isLoad o.op = true → x.did = .kept := fun e => load_kept e h1
        cases hqx : quiet x with
        | true =>
          obtain ⟨fr', st', t', e1, e2, e3⟩ := opsK_ok hX hK l (j + 1) seen seen' _ _ _ k hd' (fun _ => hs.next) (h.put o.dst v) h2
          exact ⟨fr', st', t', by rw [opsFrom, okBind h1]; dsimp only; rw [hqx]; exact e1, e2, e3⟩
        | false =>
          have hor := hs.orderly hj hst hl (by
            rw [hm]
            have : ∀ l : List (Nat × Fx), okSeen [] x l = true := by
              intro l; induction l with
              | nil => rfl
              | cons a l ih => obtain ⟨i, y⟩ := a; simp only [okSeen, ih]; rfl
            exact this _)
          have hs' := hs.add hj hst hl
          rw [hb] at hs'
          obtain ⟨fr', st', t', e1, e2, e3⟩ := opsK_ok hX hK l (j + 1) ((j, x) :: seen) seen' _ _ _ k hd' (fun _ => hs') (h.put o.dst v) h2
          exact ⟨fr', st', t', by rw [opsFrom, okBind h1]; dsimp only; rw [hqx]; show (match orderly all j x seen with | true => _ | false => _) = _; rw [hor]; exact e1, e2, e3⟩
      | chk f hf =>
        obtain ⟨v, x, h1, h2⟩ := hf st _ hk
        have hl : isLoad o.op = true → x.did = .kept := fun e => load_kept e h1
        rw [appK_eq] at h2
        split at h2
        · rename_i hqx
          obtain ⟨fr', st', t', e1, e2, e3⟩ := opsK_ok hX hK l (j + 1) seen seen' _ _ _ k hd' (fun _ => hs.next) (h.put o.dst v) h2
          exact ⟨fr', st', t', by rw [opsFrom, okBind h1]; dsimp only; rw [hqx]; exact e1, e2, e3⟩
        · rename_i hqx
          split at h2
          · rename_i hok
            have hor := hs.orderly hj hst hl (by rw [hm]; exact hok)
            have hs' := hs.add hj hst hl
            rw [hb] at hs'
            obtain ⟨fr', st', t', e1, e2, e3⟩ := opsK_ok hX hK l (j + 1) ((j, x) :: seen) _ _ _ _ k hd' (fun _ => hs') (h.put o.dst v) h2
            exact ⟨fr', st', t', by rw [opsFrom, okBind h1]; dsimp only; rw [hqx]; show (match orderly all j x seen with | true => _ | false => _) = _; rw [hor]; exact e1, e2, e3⟩
          · cases h2
end Go.VM
