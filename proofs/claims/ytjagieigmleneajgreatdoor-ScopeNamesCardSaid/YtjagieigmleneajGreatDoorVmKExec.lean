/- Code, bodies and calls of the fast machine. -/
import Derived.Test.YtjagieigmleneajGreatDoorVmKRun
namespace Go.VM
variable {X : KT} {K : KX}

def Cont (kn : KN) (ke : Nat → KN) (kr : KN) (t : Frm) (st : St) : Ex → Bool
  | .normal => kn t st
  | .exit i => ke i t st
  | .ret => kr t st
theorem iterK_ok {b : Frm → St → KN → (Nat → KN) → KN → Bool} {body : Fr → St → Res (Ex × Fr × St)} {n : Nat}
    (hb : ∀ (t : Frm) (st : St) (kn : KN) (ke : Nat → KN) (kr : KN) (fr : Fr), FR fr n t → b t st kn ke kr = true → ∃ ex fr' st' t', body fr st = .ok (ex, fr', st') ∧ FR fr' n t' ∧ Cont kn ke kr t' st' ex = true) :
    ∀ (m : Nat) (t : Frm) (st : St) (kn : KN) (ke : Nat → KN) (kr : KN) (fr : Fr), FR fr n t → iterK m b t st ke kr = true → ∃ ex fr' st' t', iter body m fr st = .ok (ex, fr', st') ∧ FR fr' n t' ∧ Cont kn ke kr t' st' ex = true
  | 0, _, _, _, _, _, _, _, h => by cases h
  | m + 1, t, st, kn, ke, kr, fr, h, hk => by
    obtain ⟨ex, fr1, st1, t1, h1, h2, h3⟩ := hb t st (fun t st => iterK m b t st ke kr) ke kr fr h hk
    cases ex with
    | normal =>
      obtain ⟨ex, fr2, st2, t2, e1, e2, e3⟩ := iterK_ok hb m t1 st1 kn ke kr fr1 h2 h3
      exact ⟨ex, fr2, st2, t2, by rw [iter, okBind h1]; exact e1, e2, e3⟩
    | exit i => exact ⟨.exit i, fr1, st1, t1, by rw [iter, okBind h1]; rfl, h2, h3⟩
    | ret => exact ⟨.ret, fr1, st1, t1, by rw [iter, okBind h1]; rfl, h2, h3⟩
theorem execK_ok (hX : KTOk X K) (hK : KGood K) (n : Nat) : ∀ (c : Code) (t : Frm) (st : St) (kn : KN) (ke : Nat → KN) (kr : KN) (fr : Fr), FR fr K.n t → execK (trC X c) K n t st kn ke kr = true →
    ∃ ex fr' st' t', exec K.X n c fr st = .ok (ex, fr', st') ∧ FR fr' K.n t' ∧ Cont kn ke kr t' st' ex = true
  | .skip, t, st, kn, ke, kr, fr, h, hk => ⟨.normal, fr, st, t, rfl, h, hk⟩
  | .label _, t, st, kn, ke, kr, fr, h, hk => ⟨.normal, fr, st, t, rfl, h, hk⟩
  | .exit i, t, st, kn, ke, kr, fr, h, hk => ⟨.exit i, fr, st, t, rfl, h, hk⟩
  | .ret, t, st, kn, ke, kr, fr, h, hk => ⟨.ret, fr, st, t, rfl, h, hk⟩
  | .scope c, t, st, kn, ke, kr, fr, h, hk => execK_ok hX hK n c t st kn ke kr fr h hk
  | .goto _, _, _, _, _, _, _, _, hk => by cases hk
  | .refuse _, _, _, _, _, _, _, _, hk => by cases hk
  | .rangeFunc .., _, _, _, _, _, _, _, hk => by cases hk
  | .region id ops draw, t, st, kn, ke, kr, fr, h, hk => by
    obtain ⟨fr', st', t', e1, e2, e3⟩ := opsK_ok hX hK (all := ops.toList) (draw := draw) ops.toList 0 [] [] fr t st kn rfl
      (fun _ => ⟨fun _ _ m => (by cases m), fun _ _ m => (by cases m), fun _ _ m => (by cases m)⟩) h hk
    exact ⟨.normal, fr', st', t', by rw [exec, okBind e1]; rfl, e2, e3⟩
  | .seq a b, t, st, kn, ke, kr, fr, h, hk => by
    obtain ⟨ex, fr1, st1, t1, h1, h2, h3⟩ := execK_ok hX hK n a t st (fun t st => execK (trC X b) K n t st kn ke kr) ke kr fr h hk
    cases ex with
    | normal =>
      obtain ⟨ex, fr2, st2, t2, e1, e2, e3⟩ := execK_ok hX hK n b t1 st1 kn ke kr fr1 h2 h3
      exact ⟨ex, fr2, st2, t2, by rw [exec, okBind h1]; exact e1, e2, e3⟩
    | exit i => exact ⟨.exit i, fr1, st1, t1, by rw [exec, okBind h1]; rfl, h2, h3⟩
    | ret => exact ⟨.ret, fr1, st1, t1, by rw [exec, okBind h1]; rfl, h2, h3⟩
  | .cond c a b, t, st, kn, ke, kr, fr, h, hk => by
    simp only [trC] at hk
    split at hk
    · rename_i x hx
      rw [hX.G] at hx
      obtain ⟨v, e, hk⟩ := boolK_t (k := fun b' => Bool.rec (motive := fun _ => Bool) (execK (trC X b) K n t st kn ke kr) (execK (trC X a) K n t st kn ke kr) b') hk
      have e0 : (do asBool (← evalO K.X.G fr c)) = .ok v := by rw [okBind (trO_ok h hx), e]; rfl
      cases v with
      | true =>
        obtain ⟨ex, fr2, st2, t2, e1, e2, e3⟩ := execK_ok hX hK n a t st kn ke kr fr h hk
        exact ⟨ex, fr2, st2, t2, by rw [exec, okBind (trO_ok h hx), e]; exact e1, e2, e3⟩
      | false =>
        obtain ⟨ex, fr2, st2, t2, e1, e2, e3⟩ := execK_ok hX hK n b t st kn ke kr fr h hk
        exact ⟨ex, fr2, st2, t2, by rw [exec, okBind (trO_ok h hx), e]; exact e1, e2, e3⟩
    · cases hk
  | .block id c, t, st, kn, ke, kr, fr, h, hk => by
    obtain ⟨ex, fr1, st1, t1, h1, h2, h3⟩ := execK_ok hX hK n c t st kn (fun i t st => Bool.rec (motive := fun _ => Bool) (ke i t st) (kn t st) (Nat.beq i id)) kr fr h hk
    cases ex with
    | normal => exact ⟨.normal, fr1, st1, t1, by rw [exec, okBind h1]; rfl, h2, h3⟩
    | ret => exact ⟨.ret, fr1, st1, t1, by rw [exec, okBind h1]; rfl, h2, h3⟩
    | exit i =>
      have h3 : Bool.rec (motive := fun _ => Bool) (ke i t1 st1) (kn t1 st1) (Nat.beq i id) = true := h3
      cases hi : i.beq id with
      | true =>
        rw [hi] at h3
        exact ⟨.normal, fr1, st1, t1, by rw [exec, okBind h1]; dsimp only; rw [hi]; rfl, h2, h3⟩
      | false =>
        rw [hi] at h3
        exact ⟨.exit i, fr1, st1, t1, by rw [exec, okBind h1]; dsimp only; rw [hi]; rfl, h2, h3⟩
  | .loop c, t, st, kn, ke, kr, fr, h, hk => by
    obtain ⟨ex, fr2, st2, t2, e1, e2, e3⟩ := iterK_ok (body := exec K.X n c) (fun t st kn ke kr fr h hk => execK_ok hX hK n c t st kn ke kr fr h hk) n t st kn ke kr fr h hk
    exact ⟨ex, fr2, st2, t2, by rw [exec]; exact e1, e2, e3⟩

theorem resK_ok {T : TT} {n : Nat} {fr : Fr} {t : Frm} (h : FR fr n t) {st : St} {r : ResultVar} {k : AV → Bool} (hk : resK T n t st (trR r) k = true) : ∃ v, resultOf T fr st r = .ok v ∧ k v = true := by
  have gen : ∀ r, resK T n t st (.g r) k = true → ∃ v, resultOf T fr st r = .ok v ∧ k v = true := by
    intro r hk
    have hk : (match resultOf T (toFr n t) st r with | .ok v => k v | .error _ => false) = true := hk
    rw [resultOf_alike ((FR.toFr h.le).alike h)] at hk
    split at hk
    · rename_i v e; exact ⟨v, e, hk⟩
    · cases hk
  cases r with
  | cell a ty => exact gen _ hk
  | tmp i =>
    simp only [trR] at hk
    split at hk
    · rename_i hi
      refine ⟨_, rfl, ?_⟩
      have hk : k (getP (pl i) t) = true := hk
      rw [h.get i]
      unfold kget
      rw [hi]; exact hk
    · exact gen _ hk
theorem resAllK_ok {T : TT} {n : Nat} {fr : Fr} {t : Frm} (h : FR fr n t) {st : St} : ∀ {rs : List ResultVar} {k : List AV → Bool}, resAllK T n t st (rs.map trR) k = true → ∃ vs, resultsOf T fr st rs = .ok vs ∧ k vs = true
  | [], _, hk => ⟨[], rfl, hk⟩
  | r :: rs, k, hk => by
    obtain ⟨v, h1, hk⟩ := resK_ok h (r := r) (k := fun v => resAllK T n t st (rs.map trR) fun vs => k (v :: vs)) hk
    obtain ⟨vs, h2, hk⟩ := resAllK_ok h hk
    exact ⟨v :: vs, by simp only [resultsOf]; rw [okBind h1, okBind h2]; rfl, hk⟩

theorem froze_t {r : Res AV} {k : AV → Bool} (h : froze r k = true) : ∃ v, r = .ok v ∧ bare v = true ∧ k v = true := by
  unfold froze at h
  split at h
  · split at h
    · rename_i e; exact ⟨_, rfl, e, h⟩
    · cases h
  · cases h
theorem flatFroze_t {v : AV} {s : St} {b : Nat} {k : AV → Bool} (h : Bool.rec (motive := fun _ => Bool) (froze (freeze s b 100 v) k) (k v) (flatT v) = true) : ∃ w, freeze s b 100 v = .ok w ∧ bare w = true ∧ k w = true := by
  cases e : flatT v with
  | true =>
    rw [e] at h
    exact ⟨v, (flatT_ok e).2 s b, (flatT_ok e).1, h⟩
  | false =>
    rw [e] at h
    exact froze_t h
/-- The fast callers stand for the callers. -/
structure KCOk (C : KC) (D : Caller) : Prop where
  bare : ∀ f args k, C.bare f args k = true → ∃ v, D.bare f args = .ok v ∧ k v = true
  wide : ∀ f args st k, C.wide f args st k = true → ∃ v s, D.wide f args st = .ok (v, s) ∧ k v s = true
  look : ∀ f args st k, C.look f args st k = true → ∃ v, D.look f args st = .ok v ∧ k v = true
theorem bodyK_ok {E : Env} {n : Nat} {C : KC} (hC : KCOk C (caller E n)) (hf : (caller E n).full = E.full) (hl : (caller E n).isLook = E.isLook) {f : FuncId} {fn : Func} {args : List AV} {st : St} {k : AV → St → Bool}
    (hk : bodyK (kcX E n C (trFn E f fn)) (trFn E f fn) n args st k = true) : ∃ v s, body ⟨E.T, E.prim, E.imm f, E.G, caller E n⟩ n fn args st = .ok (v, s) ∧ k v s = true := by
  unfold bodyK at hk
  unfold body
  have hn : (trFn E f fn).ntmps = fn.ntmps := rfl
  cases hb : fn.body with
  | none =>
    exfalso
    have : (trFn E f fn).code = .bad := by unfold trFn; dsimp only; rw [hb]; split <;> rfl
    rw [this] at hk
    split at hk <;> cases hk
  | some c =>
    dsimp only
    rw [hn] at hk
    split at hk
    · cases hk
    · rename_i hle
      rw [hle]
      dsimp only
      cases h1000 : fn.ntmps.blt 1000 with
      | false =>
        exfalso
        have : (trFn E f fn).code = .bad := by unfold trFn; dsimp only; rw [h1000]
        rw [this] at hk; cases hk
      | true =>
        have hcode : (trFn E f fn).code = trC ⟨E.T, E.prim, E.imm f, E.G, E.full, E.isLook, fn.ntmps⟩ c := by unfold trFn; dsimp only; rw [h1000, hb]
        rw [hcode] at hk
        have hfr := FR.args (n := fn.ntmps) args 0 .leaf nilF (FR.start _ (t_blt h1000)) (by have := Nat.le_of_ble_eq_true hle; omega)
        have hX : KTOk ⟨E.T, E.prim, E.imm f, E.G, E.full, E.isLook, fn.ntmps⟩ (kcX E n C (trFn E f fn)) := ⟨rfl, rfl, rfl, rfl, hf.symm, hl.symm, rfl⟩
        obtain ⟨ex, fr', st', t', e1, e2, e3⟩ := execK_ok hX (K := kcX E n C (trFn E f fn)) ⟨hC.bare, hC.wide, hC.look⟩ n c _ _ _ _ _ _ hfr hk
        have fin : finK E.T fn.ntmps (fn.results.toList.map trR) k t' st' = true → ∃ v s, (do
            let r ← resultsOf E.T fr' st' fn.results.toList
            pure (oneOf r, st') : Res (AV × St)) = .ok (v, s) ∧ k v s = true := by
          intro h
          obtain ⟨vs, r1, r2⟩ := resAllK_ok e2 h
          exact ⟨_, _, by rw [okBind r1]; rfl, r2⟩
        have e1' : exec ⟨E.T, E.prim, E.imm f, E.G, caller E n⟩ n c (frameOf fn.ntmps args) st = .ok (ex, fr', st') := e1
        rw [okBind e1']
        cases ex with
        | normal => exact fin e3
        | ret => exact fin e3
        | exit i => cases e3
theorem caller_full (E : Env) : ∀ n, (caller E n).full = E.full
  | 0 => rfl
  | _ + 1 => rfl
theorem caller_look (E : Env) : ∀ n, (caller E n).isLook = E.isLook
  | 0 => rfl
  | _ + 1 => rfl
theorem kcaller_ok {E : Env} {F : FuncId → Option KFn} (hF : ∀ f kf, F f = some kf → ∃ fn, E.F f = some fn ∧ kf = trFn E f fn) : ∀ n, KCOk (kcaller E F n) (caller E n)
  | 0 => ⟨fun _ _ _ h => (by cases h), fun _ _ _ _ h => (by cases h), fun _ _ _ _ h => (by cases h)⟩
  | n + 1 => by
    have ih := kcaller_ok hF n
    refine ⟨fun f args k h => ?_, fun f args st k h => ?_, fun f args st k h => ?_⟩
    · have h : kcBare E F n (kcaller E F n) f args k = true := h
      unfold kcBare at h
      split at h
      · rename_i v hm
        exact ⟨v, by simp only [caller, hm], h⟩
      rename_i hm
      split at h
      · cases h
      · rename_i kf hf
        obtain ⟨fn, h1, rfl⟩ := hF f kf hf
        obtain ⟨v, s, h2, h3⟩ := bodyK_ok ih (caller_full E n) (caller_look E n) h
        obtain ⟨w, h4, h5, h6⟩ := flatFroze_t h3
        exact ⟨w, by simp only [caller, hm, h1]; rw [okBind h2]; dsimp only; rw [okBind h4, h5]; rfl, h6⟩
    · have h : kcWide E F n (kcaller E F n) f args st k = true := h
      unfold kcWide at h
      split at h
      · cases h
      · rename_i kf hf
        obtain ⟨fn, h1, rfl⟩ := hF f kf hf
        obtain ⟨v, s, h2, h3⟩ := bodyK_ok ih (caller_full E n) (caller_look E n) h
        exact ⟨v, s, by simp only [caller, h1]; rw [okBind h2]; rfl, h3⟩
    · have h : kcLook E F n (kcaller E F n) f args st k = true := h
      unfold kcLook at h
      split at h
      · cases h
      · rename_i kf hf
        obtain ⟨fn, h1, rfl⟩ := hF f kf hf
        obtain ⟨v, s, h2, h3⟩ := bodyK_ok ih (caller_full E n) (caller_look E n) h
        obtain ⟨w, h4, h5, h6⟩ := flatFroze_t h3
        exact ⟨w, by simp only [caller, h1]; rw [okBind h2]; dsimp only; rw [okBind h4, h5]; rfl, h6⟩
theorem mapI_get {α β : Type} (g : Nat → α → β) : ∀ (t : Tr α) (f : Nat → Nat) (n : Nat), (Tr.mapI g f t).get n = (t.get n).map (g (f n))
  | .leaf, f, n => by unfold Tr.mapI; rw [Tr.get_leaf, Tr.get_leaf]; rfl
  | .node v l r, f, n => by
    unfold Tr.mapI
    rw [Tr.get_node, Tr.get_node]
    split
    · rename_i e; subst e; cases v <;> rfl
    · split
      · rw [mapI_get g l, show 2 * (n / 2) + 1 = n by omega]
      · rw [mapI_get g r, show 2 * (n / 2 - 1) + 2 = n by omega]
theorem ktable_ok {E : Env} {t : Tr Func} (hE : ∀ f, E.F f = t.get f) : ∀ f kf, (ktable E t).get f = some kf → ∃ fn, E.F f = some fn ∧ kf = trFn E f fn := by
  intro f kf h
  unfold ktable at h
  rw [mapI_get] at h
  obtain ⟨fn, h1, rfl⟩ := Option.map_eq_some_iff.1 h
  exact ⟨fn, (hE f).trans h1, rfl⟩
/-- A run of the fast machine. -/
theorem fast {E : Env} {t : Tr Func} (hE : ∀ f, E.F f = t.get f) {n : Nat} {f : FuncId} {args : List AV} {k : AV → Bool} (h : (kcaller E (fun f => (ktable E t).get f) n).bare f args k = true) :
    ∃ v, (caller E n).bare f args = .ok v ∧ k v = true := (kcaller_ok (ktable_ok hE) n).bare f args k h
/-- Bytes. -/
def bs (l : List Nat) : List UInt8 := l.map UInt8.ofNat
theorem memo_nil {P : Program} {T : TT} {G : Nat → Option (List AV)} {f : FuncId} : ∀ e, e ∈ ([] : List (List AV × AV)) → BareOk P T G f e.1 e.2 := fun _ h => by cases h
theorem memo_cons {P : Program} {E : Env} {t : Tr Func} (hP : EnvOk P E) (hE : ∀ f, E.F f = t.get f) {n : Nat} {f : FuncId} {a : List AV} {v : AV} {l : List (List AV × AV)}
    (h : (kcaller E (fun f => (ktable E t).get f) n).bare f a (sameAV 1000 v) = true) (rest : ∀ e, e ∈ l → BareOk P E.T E.G f e.1 e.2) : ∀ e, e ∈ (a, v) :: l → BareOk P E.T E.G f e.1 e.2 := by
  intro e he
  rcases List.mem_cons.1 he with rfl | he
  · obtain ⟨u, h1, h2⟩ := fast hE h
    rw [← sameAV_eq 1000 v u h2] at h1
    exact (caller_ok hP n).1.bare f a v h1
  · exact rest e he
def lookM (f : FuncId) : List (FuncId × List (List AV × AV)) → List (List AV × AV)
  | [] => []
  | (g, l) :: r => match f.beq g with
    | true => l
    | false => lookM f r
/-- All that is remembered holds. -/
def MemoOk (P : Program) (T : TT) (G : Nat → Option (List AV)) (m : List (FuncId × List (List AV × AV))) : Prop := ∀ f e, e ∈ lookM f m → BareOk P T G f e.1 e.2
theorem tab_nil {P : Program} {T : TT} {G : Nat → Option (List AV)} : MemoOk P T G [] := fun _ _ h => by cases h
theorem tab_cons {P : Program} {T : TT} {G : Nat → Option (List AV)} {g : FuncId} {l : List (List AV × AV)} {m : List (FuncId × List (List AV × AV))} (h : ∀ e, e ∈ l → BareOk P T G g e.1 e.2) (hm : MemoOk P T G m) : MemoOk P T G ((g, l) :: m) := by
  intro f e he
  simp only [lookM] at he
  split at he
  · rename_i hb
    rw [Nat.eq_of_beq_eq_true hb]; exact h e he
  · exact hm f e he
def Env.recall (E : Env) (m : List (FuncId × List (List AV × AV))) : Env := { E with memo := fun f => lookM f m }
theorem EnvOk.recall {P : Program} {E : Env} (h : EnvOk P E) {m : List (FuncId × List (List AV × AV))} (hm : MemoOk P E.T E.G m) : EnvOk P (E.recall m) := ⟨h.T, h.F, h.prim, h.mixed, hm⟩
noncomputable def trueK (v : AV) : Bool := boolK v fun b => b
theorem ranTrue {E : Env} {t : Tr Func} (hE : ∀ f, E.F f = t.get f) {n : Nat} {f : FuncId} (h : (kcaller E (fun f => (ktable E t).get f) n).bare f [] trueK = true) : (caller E n).bare f [] = .ok (.bool true) := by
  obtain ⟨v, h1, h2⟩ := fast hE h
  obtain ⟨b, rfl, h3⟩ := boolK_t h2
  rw [h1, h3]
end Go.VM
