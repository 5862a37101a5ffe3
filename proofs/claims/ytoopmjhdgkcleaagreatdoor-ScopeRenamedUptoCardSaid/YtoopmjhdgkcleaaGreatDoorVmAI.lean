/-
  (A part of the proof: Ops12, OpsE.)
-/
import Derived.Test.YtoopmjhdgkcleaaGreatDoorVmAH
import Derived.Laws.MakeOwn
/- Each operation. -/
namespace Go.VM

def Post (T : TT) (A : Nat → Prop) (g : Gh) (st' : St) (w : World) (v : AV) (x : Value) (w' : World) : Prop := ∃ g', R g' v x ∧ Inv T A g' st' w' ∧ Kp A g w g' w'
def CallWp (P : Program) (f : FuncId) (args : Array Value) (w : World) (post : Value → World → Prop) : Prop :=
  (∃ x w', (callFunc f args).run P w = .ok (.value x) w' ∧ post x w') ∨
  ((callFunc f args).run P w = .ok (.enter f args) w ∧ Calls P f args w fun e w' => ∃ x, e = .returned x ∧ post x w')
structure CallerOk (P : Program) (T : TT) (G : Nat → Option (List AV)) (C : Caller) : Prop where
  bare : ∀ f args v, C.bare f args = .ok v → ∀ A g st w xs, GR g G → bares args = true → RL g args xs → Inv T A g st w → CallWp P f xs.toArray w (Post T A g st w v)
  wide : ∀ f args st v st', C.wide f args st = .ok (v, st') → ∀ A g w xs, GR g G → RL g args xs → Inv T A g st w → CallWp P f xs.toArray w (Post T A g st' w v)
  look : ∀ f args st v, C.look f args st = .ok v → ∀ A g w xs, GR g G → RL g args xs → Inv T A g st w → CallWp P f xs.toArray w (Post T A g st w v)
def PrimOk (P : Program) (T : TT) (G : Nat → Option (List AV)) (prim : FuncId → Option Prim) : Prop :=
  ∀ f q, prim f = some q → ∀ C args p v fx st A g w xs, GR g G → primP q args = .ok p → runPlan C st p = .ok (v, fx) → RL g args xs → Inv T A g st w → CallWp P f xs.toArray w (Post T A g (fx.did.app st) w v)

section
variable {P : Program} {T : TT} {A : Nat → Prop} {g : Gh} {st : St} {w : World}

theorem len_sound (hT : TOk P T) {C : Caller} {t : TypeId} {ts : Array TypeId} {ty : TypeId} {x v : AV} {xv : Value} {p : Plan} {fx : Fx} (hts : ts[0]? = some t) (hp : lenP T t x = .ok p) (hrun : runPlan C st p = .ok (v, fx)) (hx : R g x xv) (h : Inv T A g st w) :
    Gives P T A g w v (fx.did.app st) (Builtin.len_ ts ty #[xv]) := by
  simp only [lenP, bind_ok] at hp
  obtain ⟨i, h1, h2⟩ := hp
  have hi := hT t i (ti_ok.1 h1)
  have plain : ∀ {n : Int}, p = .val (.int .i64 n) → (Builtin.len_ ts ty #[xv]).run P w = .ok (goInt n) w → Gives P T A g w v (fx.did.app st) (Builtin.len_ ts ty #[xv]) := fun hp hr => by
    subst hp
    simp only [runPlan, Except.ok.injEq, Prod.mk.injEq] at hrun
    obtain ⟨rfl, rfl⟩ := hrun
    exact Gives.of h hr (by simp only [R]; rfl)
  split at h2
  · rename_i n e _ hu
    simp only [pure_ok] at h2
    exact plain h2.symm (by simp [Builtin.len_, hts, und_arr hi hu])
  · rename_i s hu
    simp only [pure_ok] at h2
    simp only [R] at hx
    subst hx
    exact plain h2.symm (by simp [Builtin.len_, hts, und_str hi hu, str_size])
  · rename_i e hu
    simp only [pure_ok] at h2
    simp only [R] at hx
    subst hx
    exact plain h2.symm (by simp [Builtin.len_, hts, und_slice hi hu])
  · rename_i e z es p' hu
    simp only [pure_ok] at h2
    simp only [R] at hx
    obtain ⟨_, b, o, cap, rfl, _⟩ := hx
    exact plain h2.symm (by simp [Builtin.len_, hts, und_slice hi hu])
  · rename_i e a1 a2 a3 a4 a5 hu
    simp only [pure_ok] at h2
    simp only [R] at hx
    obtain ⟨b, o, _, c, rfl, _⟩ := hx
    exact plain h2.symm (by simp [Builtin.len_, hts, und_slice hi hu])
  · rename_i e k z n hu
    simp only [pure_ok] at h2
    simp only [R] at hx
    obtain ⟨_, b, cap, _, _, rfl, _⟩ := hx
    exact plain h2.symm (by simp [Builtin.len_, hts, und_slice hi hu])
  · rename_i e hu
    simp only [pure_ok] at h2
    simp only [R] at hx
    obtain ⟨a, rfl⟩ := hx
    exact plain h2.symm (by simp [Builtin.len_, hts, und_slice hi hu])
  · rename_i k e hu
    simp only [pure_ok] at h2
    simp only [R] at hx
    subst hx
    exact plain h2.symm (by simp [Builtin.len_, hts, und_map hi hu])
  · rename_i k e es hu
    simp only [pure_ok] at h2
    simp only [R] at hx
    obtain ⟨b, ents, clk, m1, rfl, m2⟩ := hx
    have hheap := h.M b ents clk m1
    have hgo : (getObj b).run P w = .ok (.map ents.toArray clk) w := by simp [getObj, Sem.run, hheap]
    have hl : ents.length = es.length := REs_len m2
    exact plain h2.symm (by simp [Builtin.len_, hts, und_map hi hu, hgo, hl])
  · rename_i k e m hu
    simp only [pure_ok] at h2
    subst h2
    simp only [readP, runPlan, bind_ok, pure_ok] at hrun
    obtain ⟨o, g1, ⟨v', o'⟩, ⟨v'', g2, g4⟩, dd, g5, g6⟩ := hrun
    simp only [Prod.mk.injEq] at g4 g6
    obtain ⟨rfl, rfl⟩ := g4
    simp only [didOf, Except.ok.injEq] at g5
    subst g5
    obtain ⟨rfl, rfl⟩ := g6
    split at g2
    · rename_i es
      simp only [Except.ok.injEq] at g2
      subst g2
      simp only [R] at hx
      obtain ⟨b, hE, rfl⟩ := hx
      obtain ⟨b', ents, clk, q1, q2, q3, q4⟩ := h.H m _ g1
      have hb : b' = b := by have := q1.symm.trans hE; simpa using this
      subst hb
      have hgo : (getObj b').run P w = .ok (.map ents clk) w := by simp [getObj, Sem.run, q2]
      have hl := REs_len q3
      simp only [Array.length_toList] at hl
      exact Gives.of h (x := goInt ents.size) (by simp [Builtin.len_, hts, und_map hi hu, hgo]) (by simp only [R, hl]; rfl)
    · cases g2
  · cases h2
  where
  REs_len : ∀ {es : List (AV × AV)} {ents : List MapEntry}, REs g es ents → ents.length = es.length
    | [], _, h => by simp only [REs] at h; subst h; rfl
    | (_, _) :: es, _, h => by
      simp only [REs] at h
      obtain ⟨e, l, rfl, _, _, h3⟩ := h
      simp [REs_len h3]

theorem minAll_sound {lower : Bool} : ∀ {l : List AV} {ls : List Value} {a v : AV} {x : Value}, minAll lower a l = .ok v → R g a x → RL g l ls →
    ∃ z, (ls.foldlM (if lower then Builtin.min2 else Builtin.max2) x).run P w = .ok z w ∧ R g v z
  | [], _, a, v, x, h, hx, hl => by
    simp only [minAll, Except.ok.injEq] at h
    subst h
    simp only [RL] at hl
    subst hl
    exact ⟨x, rfl, hx⟩
  | b :: l, _, a, v, x, h, hx, hl => by
    simp only [RL] at hl
    obtain ⟨y, ys, rfl, h1, h2⟩ := hl
    simp only [minAll, bind_ok] at h
    obtain ⟨c, h3, h4⟩ := h
    obtain ⟨z, e1, e2⟩ := min2_sound (P := P) (w := w) h3 hx h1
    obtain ⟨z', e3, e4⟩ := minAll_sound h4 e2 h2
    refine ⟨z', ?_, e4⟩
    rw [List.foldlM_cons]
    cases lower <;> simp only [Bool.false_eq_true, if_false, if_true] at e1 e3 ⊢ <;> simp only [Sem.run_bind, e1, Result.andThen_ok, e3]

theorem wp_val {o : Oper} {a : Act} {K : Act → World → Prop} {Q : Exit → Act → World → Prop} {s : Sem Value} {v : AV} {st' : St} (he : execOp a.eval o = (do pure (.value (← s)))) (hg : Gives P T A g w v st' s)
    (hK : ∀ x w', Post T A g st' w v x w' → K (a.put o.dst x) w') : o.wp P a w K Q := by
  obtain ⟨x, g', w', h1, h2, h3, h4⟩ := hg
  unfold Oper.wp
  rw [he]
  simp only [Sem.run_bind, h1, Result.andThen_ok, Sem.run_pure]
  exact hK x w' ⟨g', h2, h3, h4⟩
theorem wp_unit {o : Oper} {a : Act} {K : Act → World → Prop} {Q : Exit → Act → World → Prop} {s : Sem Unit} {st' : St} (he : execOp a.eval o = (do s; pure .skip)) (hg : GivesU P T A g w st' s)
    (hK : ∀ x w', Post T A g st' w undef x w' → K (a.put o.dst x) w') : o.wp P a w K Q := by
  obtain ⟨g', w', h1, h3, h4⟩ := hg
  unfold Oper.wp
  rw [he]
  simp only [Sem.run_bind, h1, Result.andThen_ok, Sem.run_pure]
  exact hK Go.undef w' ⟨g', R_undef, h3, h4⟩
theorem wp_call {o : Oper} {a : Act} {K : Act → World → Prop} {Q : Exit → Act → World → Prop} {f : FuncId} {args : Array Value} {v : AV} {st' : St} (he : execOp a.eval o = callFunc f args) (hc : CallWp P f args w (Post T A g st' w v))
    (hK : ∀ x w', Post T A g st' w v x w' → K (a.put o.dst x) w') : o.wp P a w K Q := by
  unfold Oper.wp
  rw [he]
  rcases hc with ⟨x, w', h1, h2⟩ | ⟨h1, h2⟩
  · rw [h1]
    exact hK x w' h2
  · rw [h1]
    refine h2.mono ?_
    rintro e w' ⟨x, rfl, h3⟩
    exact hK x w' h3

theorem val_plan {X : Res AV} {p : Plan} (h : (do pure (Plan.val (← X)) : Res Plan) = .ok p) : ∃ v, X = .ok v ∧ p = .val v := by
  simp only [bind_ok, pure_ok] at h
  obtain ⟨v, h1, h2⟩ := h
  exact ⟨v, h1, h2.symm⟩
theorem made_zeros (zs : Array Value) : ∀ (c : Nat), (madeCells zs (c * zs.size)).toList = (List.replicate c zs.toList).flatten
  | 0 => by simp [madeCells]
  | c + 1 => by
    have ih := made_zeros zs c
    simp only [madeCells, Array.toList_map, Array.toList_range] at ih ⊢
    rw [show (c + 1) * zs.size = zs.size + c * zs.size by rw [Nat.add_mul, Nat.one_mul, Nat.add_comm], List.range_add, List.map_append, List.replicate_succ, List.flatten_cons, ← ih, List.map_map]
    congr 1
    · apply List.ext_getElem?
      intro k
      rw [List.getElem?_map]
      by_cases hk : k < zs.size
      · rw [List.getElem?_range hk, Array.getElem?_toList, Array.getElem?_eq_getElem hk]
        simp [Nat.mod_eq_of_lt hk, hk]
      · rw [List.getElem?_eq_none (by simp; omega), List.getElem?_eq_none (by simp; omega)]; rfl
    · apply List.map_congr_left
      intro k _
      simp
theorem zerosL_flat (l : List Value) : ∀ c, zerosL l c = (List.replicate c l).flatten
  | 0 => rfl
  | c + 1 => by rw [zerosL, zerosL_flat l c, List.replicate_succ, List.flatten_cons]
theorem makeSlice_sound (hT : TOk P T) {C : Caller} {t : TypeId} {l c v : AV} {lv cv : Value} {p : Plan} {fx : Fx} (hp : makeSliceP T t l c = .ok p) (hrun : runPlan C st p = .ok (v, fx)) (hl : R g l lv) (hc : R g c cv) (h : Inv T A g st w) :
    Gives P T A g w v (fx.did.app st) (Instr.makeSlice t lv cv) := by
  simp only [makeSliceP, bind_ok] at hp
  obtain ⟨it, h1, h2⟩ := hp
  rw [ti_ok] at h1
  split at h2
  · rename_i e kl ln kc cn hund
    simp only [bind_ok] at h2
    obtain ⟨i, h3, h4⟩ := h2
    rw [ti_ok] at h3
    split at h4
    · rename_i hch
      simp only [Bool.and_eq_true, Nat.ble_eq] at hch
      obtain ⟨⟨⟨⟨c1, c2⟩, c3⟩, c4⟩, c5⟩ := hch
      simp only [R] at hl hc
      subst hl hc
      obtain ⟨d, u1, u2, _⟩ := (hT t it h1).und
      rw [hund] at u2
      have ht : P.underlying t = some (.slice e) := by rw [u1, u2]
      obtain ⟨f, i1, i2, i3, z, i4, i5, i6, i7, i8, i9⟩ := (hT e i h3).info
      have hmk := run_make (P := P) w t e f z ht i1 i4 kl kc (.ofNat ln) (.ofNat cn) (Int.natCast_nonneg ln) (Int.ofNat_le.2 c1) (by rw [i3]; exact Int.ofNat_le.2 c3) (Int.ofNat_le.2 c4)
      have hz : (madeCells z.cells (cn * z.cells.size)).toList = (List.replicate cn z.cells.toList).flatten := made_zeros z.cells cn
      have hone : ∀ x ∈ zerosL z.cells.toList cn, x.oneCell' = true := fun x hx => by
        rw [zerosL_flat] at hx
        obtain ⟨l', hl', hx'⟩ := List.mem_flatten.1 hx
        have := List.eq_of_mem_replicate hl'
        subst this
        exact i7 x (by simpa using hx')
      have hcells : (madeCells z.cells ((Int.ofNat cn).toNat * f.size)) = (zerosL z.cells.toList cn).toArray := by
        rw [zerosL_flat, ← hz, i2, ← i5]; simp
      split at h4
      · rename_i hl0
        have hl0 := Nat.eq_of_beq_eq_true hl0
        subst hl0
        simp only [pure_ok] at h4
        subst h4
        simp only [runPlan, Except.ok.injEq, Prod.mk.injEq] at hrun
        obtain ⟨rfl, rfl⟩ := hrun
        obtain ⟨g', k1, k2, k3⟩ := h.newTok0 (els := []) (vals := []) (rest := zerosL z.cells.toList cn) (cap := cn) (n := 0) h3 c5 rfl (by simp) rfl (by simp [flat, RL]) (by simp) (by rw [List.length_nil, Nat.zero_add, zerosL_flat, ← hz, Array.length_toList, size_madeCells, i5]) (Nat.zero_le _)
        refine ⟨_, g', _, hmk, k3, ?_, ?_⟩
        · rw [hcells]; exact k1
        · rw [hcells]; exact k2
      simp only [pure_ok] at h4
      subst h4
      simp only [runPlan, Except.ok.injEq, Prod.mk.injEq] at hrun
      obtain ⟨rfl, rfl⟩ := hrun
      obtain ⟨k1, k2, k3⟩ := h.newCells e (zeros_RL (i9 g) cn) hone
      refine ⟨_, g.setE st.h (.blk w.heap.size), _, hmk, ?_, ?_, ?_⟩
      · simp only [R]
        exact ⟨w.heap.size, 0, Gh.setE_same _ _ _, _, rfl, c1, c5, fun _ => rfl, .inl rfl⟩
      · rw [hcells]; exact k1
      · rw [hcells]; exact k2
    · cases h4
  · cases h2

theorem run_val {C : Caller} {u v : AV} {fx : Fx} (h : runPlan C st (.val u) = .ok (v, fx)) : u = v ∧ fx = ⟨[], .kept⟩ := by
  simp only [runPlan, Except.ok.injEq, Prod.mk.injEq] at h
  exact ⟨h.1, h.2.symm⟩

theorem plan_sound (X : Cx) (hT : TOk P X.T) (hC : CallerOk P X.T X.G X.C) (hprim : PrimOk P X.T X.G X.prim) {o : Oper} {fr : Fr} {a : Act} {p : Plan} {v : AV} {fx : Fx} {K : Act → World → Prop} {Q : Exit → Act → World → Prop}
    (hp : plan X.T X.prim X.imm X.G fr o.op = .ok p) (hrun : runPlan X.C st p = .ok (v, fx)) (hG : GR g X.G) (hf : FrR g fr a.tmps) (h : Inv X.T A g st w)
    (hK : ∀ x w', Post X.T A g (fx.did.app st) w v x w' → K (a.put o.dst x) w') : o.wp P a w K Q := by
  obtain ⟨dst, op, type, pos, after, guard⟩ := o
  have val : ∀ {Y : Res AV} {s : Sem Value}, (do pure (Plan.val (← Y)) : Res Plan) = .ok p → execOp a.eval ⟨dst, op, type, pos, after, guard⟩ = (do pure (.value (← s))) →
      (∀ u, Y = .ok u → Gives P X.T A g w u st s) → Oper.wp P ⟨dst, op, type, pos, after, guard⟩ a w K Q := fun hY he hg => by
    obtain ⟨u, h1, rfl⟩ := val_plan hY
    obtain ⟨rfl, rfl⟩ := run_val hrun
    exact wp_val he (hg u h1) hK
  cases op <;> simp only [plan] at hp <;> (try (cases hp; done))
  case move x => exact val hp (s := pure (a.eval x)) (by simp [execOp]) fun u hu => Gives.of h rfl (evalO_sound hG hf hu)
  case assign x => exact val hp (s := pure (a.eval x)) (by simp [execOp]) fun u hu => Gives.of h rfl (evalO_sound hG hf hu)
  case pick c x y =>
    refine val hp (s := do pure (if ← Go.asBool (a.eval c) then a.eval x else a.eval y)) (by simp [execOp]) fun u hu => ?_
    simp only [bind_ok] at hu
    obtain ⟨cv, h1, b, h2, h3⟩ := hu
    have hc := evalO_sound hG hf h1
    cases cv <;> simp only [VM.asBool, Except.ok.injEq] at h2 <;> (try (cases h2; done))
    subst h2
    simp only [R] at hc
    rename_i b
    cases b with
    | true => exact Gives.of h (by simp [hc, Go.asBool]) (evalO_sound hG hf h3)
    | false => exact Gives.of h (by simp [hc, Go.asBool]) (evalO_sound hG hf h3)
  case alloc t =>
    simp only [bind_ok, pure_ok] at hp
    obtain ⟨i, h1, rfl⟩ := hp
    simp only [runPlan, Except.ok.injEq, Prod.mk.injEq] at hrun
    obtain ⟨rfl, rfl⟩ := hrun
    exact wp_val (s := Instr.alloc t true (.tuple #[])) (by simp [execOp]) (alloc_sound (hT t i (ti_ok.1 h1)) h _) hK
  case box t x =>
    simp only [bind_ok] at hp
    obtain ⟨i, h1, u, h2, h3⟩ := hp
    exact wp_val (s := Instr.box t (a.eval x)) (by simp [execOp]) (box_sound h3 hrun (evalO_sound hG hf h2) h) hK
  case build t parts =>
    refine val hp (s := Instr.build t (parts.map fun (i, x) => (i, a.eval x))) (by simp [execOp]) fun u hu => ?_
    simp only [bind_ok] at hu
    obtain ⟨ps, h1, h2⟩ := hu
    exact build_sound hT h2 (by simpa using evalParts_sound hG hf h1) h
  case buildSlice t len parts =>
    refine val hp (s := Instr.buildSlice t len (parts.map fun (i, x) => (i, a.eval x))) (by simp [execOp]) fun u hu => ?_
    simp only [bind_ok] at hu
    obtain ⟨ps, h1, h2⟩ := hu
    exact buildSlice_sound hT h2 (by simpa using evalParts_sound hG hf h1) h
  case makeSlice t x y =>
    simp only [bind_ok] at hp
    obtain ⟨u1, h1, u2, h2, h3⟩ := hp
    exact wp_val (s := Instr.makeSlice t (a.eval x) (a.eval y)) (by simp [execOp]) (makeSlice_sound hT h3 hrun (evalO_sound hG hf h1) (evalO_sound hG hf h2) h) hK
  case load t x =>
    simp only [bind_ok] at hp
    obtain ⟨i, h1, u, h2, h3⟩ := hp
    exact wp_val (s := Instr.loadAt t (a.eval x)) (by simp [execOp]) (load_sound (hT t i (ti_ok.1 h1)) h3 hrun (evalO_sound hG hf h2) h) hK
  case store t x y =>
    simp only [bind_ok] at hp
    obtain ⟨i, h1, u, h2, hp⟩ := hp
    split at hp
    · simp only [bind_ok] at hp
      obtain ⟨u', h3, h4⟩ := hp
      obtain ⟨rfl, hg⟩ := gpStore_sound (hT t i (ti_ok.1 h1)) h4 hrun (evalO_sound hG hf h2) (evalO_sound hG hf h3) h
      exact wp_unit (s := Instr.storeAt t (a.eval x) (a.eval y)) (by simp [execOp]) hg hK
    · simp only [bind_ok] at hp
      obtain ⟨u', h3, h4⟩ := hp
      obtain ⟨rfl, hg⟩ := store_sound (hT t i (ti_ok.1 h1)) h4 hrun (evalO_sound hG hf h2) (evalO_sound hG hf h3) h
      exact wp_unit (s := Instr.storeAt t (a.eval x) (a.eval y)) (by simp [execOp]) hg hK
  case nilCheck x =>
    obtain ⟨u, h1, rfl⟩ := val_plan hp
    obtain ⟨rfl, rfl⟩ := run_val hrun
    simp only [bind_ok] at h1
    obtain ⟨u', h2, h3⟩ := h1
    have hr := evalO_sound hG hf h2
    split at h3 <;> (try (cases h3; done)) <;> simp only [pure_ok] at h3 <;> subst h3
    · have hr' := hr
      simp only [R] at hr'
      obtain ⟨_, b, o, hx, _⟩ := hr'
      exact wp_val (s := pure (a.eval x)) (by simp [execOp, hx]) (Gives.of h rfl hr) hK
    · have hr' := hr
      simp only [R] at hr'
      obtain ⟨b, _, hx⟩ := hr'
      exact wp_val (s := pure (a.eval x)) (by simp [execOp, hx]) (Gives.of h rfl hr) hK
    · have hr' := hr
      simp only [R] at hr'
      obtain ⟨a', c', hx, _⟩ := hr'
      exact wp_val (s := pure (a.eval x)) (by simp [execOp, hx]) (Gives.of h rfl hr) hK
  case binOp op t x y yt =>
    refine val hp (s := do eqGuard op t x y (a.eval x) (a.eval y); Go.binOp op t (a.eval x) (a.eval y)) (by simp [execOp]) fun u hu => ?_
    simp only [bind_ok] at hu
    obtain ⟨x', h1, y', h2, h3⟩ := hu
    exact binOpN_sound hT h3 (evalO_sound hG hf h1) (evalO_sound hG hf h2) h
  case unOp op t x =>
    refine val hp (s := Op.unary op (a.eval x)) (by simp [execOp]) fun u hu => ?_
    simp only [bind_ok] at hu
    obtain ⟨x', h1, h3⟩ := hu
    exact unOp_sound h3 (evalO_sound hG hf h1) h
  case convert s d x =>
    simp only [bind_ok] at hp
    obtain ⟨u, h2, h3⟩ := hp
    exact wp_val (s := Go.convert s d (a.eval x)) (by simp [execOp]) (convert_sound hT h3 hrun (evalO_sound hG hf h2) h) hK
  case makeInterface t x =>
    refine val hp (s := Instr.makeInterface t (a.eval x)) (by simp [execOp]) fun u hu => ?_
    simp only [bind_ok] at hu
    obtain ⟨i, h1, h2⟩ := hu
    have hi := hT t i (ti_ok.1 h1)
    obtain ⟨d, d1, d2, _⟩ := hi.run_und
    have fin : (∀ ms, d ≠ .interface ms) → (do pure (AV.iface t (← evalO X.G fr x)) : Res AV) = .ok u → Gives P X.T A g w u st (Instr.makeInterface t (a.eval x)) := fun hd he => by
      simp only [bind_ok, pure_ok] at he
      obtain ⟨x', h1, rfl⟩ := he
      refine Gives.of h (x := .iface t (a.eval x)) ?_ (by simp only [R]; exact ⟨_, rfl, evalO_sound hG hf h1⟩)
      simp only [Instr.makeInterface, Sem.run_bind, d1, Result.andThen_ok]
      cases d <;> first | rfl | exact absurd rfl (hd _)
    split at h2
    · cases h2
    · cases h2
    · rename_i n1 n2
      refine fin (fun ms hms => ?_) h2
      subst hms
      cases hu : i.und <;> rw [hu] at d2 n1 n2 <;> simp only [UOk] at d2 <;> (try (cases d2; done)) <;> first
        | exact n1 _ rfl
        | exact n2 rfl
        | (obtain ⟨_, e, _⟩ := d2; cases e; done)
        | (obtain ⟨_, _, _, e⟩ := d2; cases e; done)
  case makeFunc f first cap =>
    refine val hp (s := Instr.makeFunc f (first.map a.eval) (cap.map a.eval)) (by simp [execOp]) fun u hu => ?_
    simp only [bind_ok, pure_ok] at hu
    obtain ⟨l1, h1, l2, h2, rfl⟩ := hu
    refine Gives.of h (x := .func f (first.map a.eval) (cap.map a.eval)) rfl ?_
    simp only [R]
    exact ⟨_, _, rfl, by simpa using evalL_sound hG hf h1, by simpa using evalL_sound hG hf h2⟩
  case makeMap t r =>
    cases r with
    | some r => simp at hp
    | none =>
      simp only [Except.ok.injEq] at hp
      subst hp
      simp only [runPlan, Except.ok.injEq, Prod.mk.injEq] at hrun
      obtain ⟨rfl, rfl⟩ := hrun
      exact wp_val (s := Instr.makeMap t none) (by simp [execOp]) (makeMap_sound t h) hK
  case slice t x lo hi mx =>
    have hmx : mx ≠ none → hi ≠ none := by
      intro h1 h2
      subst h2
      cases mx with
      | none => exact h1 rfl
      | some m => simp at hp
    have hp' : (do pure (Plan.val (← (do sliceV X.T t (← evalO X.G fr x) (← evalOpt X.G fr lo) (← evalOpt X.G fr hi) (← evalOpt X.G fr mx)))) : Res Plan) = .ok p := by
      cases mx <;> cases hi <;> first | exact hp | exact absurd rfl (hmx (by simp))
    refine val hp' (s := Instr.sliceAt t (a.eval x) (lo.map a.eval) (hi.map a.eval) (mx.map a.eval)) (by simp [execOp]) fun u hu => ?_
    simp only [bind_ok] at hu
    obtain ⟨x', h1, l', h2, i', h3, m', h4, h5⟩ := hu
    refine slice_sound hT h5 (evalO_sound hG hf h1) (evalOpt_sound hG hf h2) (evalOpt_sound hG hf h3) (evalOpt_sound hG hf h4) h fun hm hh => ?_
    subst hh
    have hh : hi ≠ none := hmx fun e => by
      subst e
      simp only [evalOpt, Except.ok.injEq] at h4
      exact hm h4.symm
    cases hi with
    | none => exact hh rfl
    | some q =>
      simp only [evalOpt, bind_ok, pure_ok] at h3
      obtain ⟨_, _, e⟩ := h3
      cases e
  case fieldAddr t x f =>
    refine val hp (s := Instr.fieldAt t (a.eval x) f) (by simp [execOp]) fun u hu => ?_
    simp only [bind_ok] at hu
    obtain ⟨x', h1, h3⟩ := hu
    exact fieldAddr_sound hT h3 (evalO_sound hG hf h1) h
  case field t x f =>
    refine val hp (s := Instr.field t (a.eval x) f) (by simp [execOp]) fun u hu => ?_
    simp only [bind_ok] at hu
    obtain ⟨x', h1, h3⟩ := hu
    exact field_sound hT h3 (evalO_sound hG hf h1) h
  case indexAddr t x i =>
    simp only [bind_ok] at hp
    obtain ⟨x', h1, hp⟩ := hp
    split at hp
    · simp only [bind_ok] at hp
      obtain ⟨i', h2, h3⟩ := hp
      exact wp_val (s := Instr.indexAt t (a.eval x) (a.eval i)) (by simp [execOp]) (gsIndex_sound hT h3 hrun (evalO_sound hG hf h1) (evalO_sound hG hf h2) h) hK
    · refine val hp (s := Instr.indexAt t (a.eval x) (a.eval i)) (by simp [execOp]) fun u hu => ?_
      simp only [bind_ok] at hu
      obtain ⟨i', h2, h3⟩ := hu
      exact indexAddr_sound hT h3 (evalO_sound hG hf h1) (evalO_sound hG hf h2) h
  case index t x i =>
    refine val hp (s := Instr.index t (a.eval x) (a.eval i)) (by simp [execOp]) fun u hu => ?_
    simp only [bind_ok] at hu
    obtain ⟨x', h1, i', h2, h3⟩ := hu
    exact index_sound hT h3 (evalO_sound hG hf h1) (evalO_sound hG hf h2) h
  case lookup t x k ok =>
    simp only [bind_ok] at hp
    obtain ⟨x', h1, k', h2, h3⟩ := hp
    exact wp_val (s := Instr.lookup t (a.eval x) (a.eval k) ok) (by simp [execOp]) (lookup_sound hT h3 hrun (evalO_sound hG hf h1) (evalO_sound hG hf h2) h) hK
  case mapUpdate t m k x =>
    simp only [bind_ok] at hp
    obtain ⟨m', h1, k', h2, x', h3, h4⟩ := hp
    obtain ⟨rfl, hg⟩ := mapUpdate_sound hT h4 hrun (evalO_sound hG hf h1) (evalO_sound hG hf h2) (evalO_sound hG hf h3) h
    exact wp_unit (s := Instr.mapUpdate t (a.eval m) (a.eval k) (a.eval x)) (by simp [execOp]) hg hK
  case insert t m k x =>
    simp only [bind_ok] at hp
    obtain ⟨m', h1, k', h2, x', h3, h4⟩ := hp
    obtain ⟨rfl, hg⟩ := mapUpdate_sound hT h4 hrun (evalO_sound hG hf h1) (evalO_sound hG hf h2) (evalO_sound hG hf h3) h
    exact wp_unit (s := Instr.mapUpdate t (a.eval m) (a.eval k) (a.eval x)) (by simp [execOp]) hg hK
  case range t x =>
    simp only [bind_ok] at hp
    obtain ⟨i, h1, x', h2, h3⟩ := hp
    split at h3
    · rename_i s hu
      simp only [pure_ok] at h3
      subst h3
      simp only [runPlan, Except.ok.injEq, Prod.mk.injEq] at hrun
      obtain ⟨rfl, rfl⟩ := hrun
      have hr := evalO_sound hG hf h2
      simp only [R] at hr
      exact wp_val (s := Instr.range t (a.eval x)) (by simp [execOp]) (by rw [hr]; exact range_sound (hT t i (ti_ok.1 h1)) hu h) hK
    · cases h3
  case next x b =>
    cases b with
    | false => simp at hp
    | true =>
      simp only [bind_ok] at hp
      obtain ⟨x', h1, h2⟩ := hp
      exact wp_val (s := Instr.next (a.eval x) true type) (by simp [execOp]) (next_sound h2 hrun (evalO_sound hG hf h1) h) hK
  case extract x i =>
    refine val hp (s := Instr.extract (a.eval x) i) (by simp [execOp]) fun u hu => ?_
    simp only [bind_ok] at hu
    obtain ⟨x', h1, h2⟩ := hu
    have hr := evalO_sound hG hf h1
    split at h2
    · simp only [R] at hr
      obtain ⟨ys, hx, hl⟩ := hr
      obtain ⟨y, e1, e2⟩ := RL_nth hl h2
      exact Gives.of h (by rw [hx]; simp only [Instr.extract]; rw [show ys[i]? = some y by simpa using e1]; rfl) e2
    · cases h2
  case call c =>
    simp only [bind_ok] at hp
    obtain ⟨args, h1, h2⟩ := hp
    have hargs := evalL_sound hG hf h1
    split at h2
    · rename_i b hcal
      have he : ∀ s : Sem Value, Go.builtin b c.argTypes type (c.args.map fun | .const _ => true | _ => false) (c.args.map a.eval) = (do pure (.value (← s))) → execOp a.eval ⟨dst, .call c, type, pos, after, guard⟩ = (do pure (.value (← s))) := fun s hs => by
        simp only [execOp, resolve, hcal, pure_bind, invoke]
        exact hs
      have hlist : (c.args.map a.eval).toList = c.args.toList.map a.eval := by simp
      unfold builtinP at h2
      split at h2
      · rename_i t xt sv xv htypes
        simp only [RL] at hargs
        obtain ⟨y1, l1, e1, r1, y2, l2, rfl, r2, rfl⟩ := hargs
        have harr : c.args.map a.eval = #[y1, y2] := by apply Array.ext'; rw [hlist, e1]
        have htarr : c.argTypes = #[t, xt] := by apply Array.ext'; rw [htypes]
        simp only [bind_ok] at h2
        obtain ⟨i, h3, ix, h4, h5⟩ := h2
        have hi := hT t i (ti_ok.1 h3)
        have hix := hT xt ix (ti_ok.1 h4)
        split at h5
        · rename_i e hu hni
          simp only [bind_ok] at h5
          obtain ⟨ei, h6, h7⟩ := h5
          have hei := hT e ei (ti_ok.1 h6)
          obtain ⟨d, d1, d2, _⟩ := hi.und
          rw [hu] at d2
          simp only [UOk] at d2
          subst d2
          obtain ⟨dx, x1, x2, _⟩ := hix.und
          have hdx : ∀ k, dx ≠ .int k := fun k hk => by
            subst hk
            cases hux : ix.und <;> rw [hux] at x2 hni <;> simp only [UOk] at x2 <;> (try (cases x2; done)) <;> (try (simp [notInt] at hni; done))
          split at h7
          · rename_i new hev
            split at h7
            · exact wp_val (he (Builtin.append_ c.argTypes type (c.args.map a.eval)) rfl) (by rw [harr, htarr]; exact gsAppend_sound ⟨d1, ⟨dx, x1, hdx⟩, ti_ok.1 h6, hei⟩ hev h7 hrun r1 r2 h) hK
            split at h7
            · exact wp_val (he (Builtin.append_ c.argTypes type (c.args.map a.eval)) rfl) (by rw [harr, htarr]; exact msAppend_sound ⟨d1, ⟨dx, x1, hdx⟩, ti_ok.1 h6, hei⟩ hev h7 hrun r1 r2 h) hK
            split at h7
            · exact wp_val (he (Builtin.append_ c.argTypes type (c.args.map a.eval)) rfl) (by rw [harr, htarr]; exact rowAppend_sound ⟨d1, ⟨dx, x1, hdx⟩, ti_ok.1 h6, hei⟩ hev h7 hrun r1 r2 h) hK
            · exact wp_val (he (Builtin.append_ c.argTypes type (c.args.map a.eval)) rfl) (by rw [harr, htarr]; exact append_sound ⟨d1, ⟨dx, x1, hdx⟩, ti_ok.1 h6, hei⟩ hev h7 hrun r1 r2 h) hK
          · cases h7
        · cases h5
      · rename_i t l xv htypes
        simp only [RL] at hargs
        obtain ⟨y1, l1, e1, r1, rfl⟩ := hargs
        have harr : c.args.map a.eval = #[y1] := by apply Array.ext'; rw [hlist, e1]
        have hts : c.argTypes[0]? = some t := by rw [← Array.getElem?_toList, htypes]; rfl
        exact wp_val (he (Builtin.len_ c.argTypes type (c.args.map a.eval)) rfl) (by rw [harr]; exact len_sound hT hts h2 hrun r1 h) hK
      · rename_i xv l
        obtain ⟨u, h3, rfl⟩ := val_plan h2
        obtain ⟨rfl, rfl⟩ := run_val hrun
        simp only [RL] at hargs
        obtain ⟨y1, l1, e1, r1, r2⟩ := hargs
        obtain ⟨z, e2, e3⟩ := minAll_sound (P := P) (w := w) h3 r1 r2
        exact wp_val (he (Builtin.min_ c.argTypes type (c.args.map a.eval)) rfl) (Gives.of h (by simp only [Builtin.min_]; rw [hlist, e1]; exact e2) e3) hK
      · rename_i xv l
        obtain ⟨u, h3, rfl⟩ := val_plan h2
        obtain ⟨rfl, rfl⟩ := run_val hrun
        simp only [RL] at hargs
        obtain ⟨y1, l1, e1, r1, r2⟩ := hargs
        obtain ⟨z, e2, e3⟩ := minAll_sound (P := P) (w := w) h3 r1 r2
        exact wp_val (he (Builtin.max_ c.argTypes type (c.args.map a.eval)) rfl) (Gives.of h (by simp only [Builtin.max_]; rw [hlist, e1]; exact e2) e3) hK
      · cases h2
    · rename_i f hcal
      simp only [bind_ok] at h2
      obtain ⟨fv, h3, h4⟩ := h2
      have hfv := evalO_sound hG hf h3
      split at h4
      · rename_i gid first cap
        simp only [R] at hfv
        obtain ⟨a', c', hfx, ha', hc'⟩ := hfv
        have hall : RL g (first ++ args ++ cap) (a'.toList ++ c.args.toList.map a.eval ++ c'.toList) := RL_append (RL_append ha' hargs) hc'
        have he : execOp a.eval ⟨dst, .call c, type, pos, after, guard⟩ = callFunc gid (a'.toList ++ c.args.toList.map a.eval ++ c'.toList).toArray := by
          simp only [execOp, resolve, hcal, hfx, Deferred.ofValue, pure_bind, invoke]
          congr 1
          apply Array.ext'
          simp
        split at h4
        · rename_i q hq
          exact wp_call he (hprim gid q hq X.C _ p v fx st A g w _ hG h4 hrun hall h) hK
        · simp only [pure_ok] at h4
          subst h4
          simp only [runPlan] at hrun
          split at hrun
          · rename_i hb
            simp only [bind_ok, pure_ok, Prod.mk.injEq] at hrun
            obtain ⟨v', h5, rfl, rfl⟩ := hrun
            simp only [Bool.and_eq_true] at hb
            exact wp_call he (hC.bare _ _ _ h5 A g st w _ hG hb.1 (RL_strip hall) h) hK
          · split at hrun
            · simp only [bind_ok, pure_ok, Prod.mk.injEq] at hrun
              obtain ⟨v', h5, rfl, rfl⟩ := hrun
              exact wp_call he (hC.look _ _ _ _ h5 A g w _ hG (RL_strip hall) h) hK
            · simp only [bind_ok, pure_ok] at hrun
              obtain ⟨⟨v', s'⟩, h5, h6⟩ := hrun
              simp only [Prod.mk.injEq] at h6
              obtain ⟨rfl, rfl⟩ := h6
              exact wp_call he (hC.wide _ _ _ _ _ h5 A g w _ hG hall h) hK
      · cases h4
    · cases h2

end
end Go.VM
/- Names that are kept for what is not yet made. -/
namespace Go.VM
section
variable {P : Program} {T : TT} {A : Nat → Prop} {g : Gh} {st : St} {w : World}

/-- A name, kept. -/
theorem Inv.egg (h : Inv T A g st w) : Inv T A g (st.new .egg).2 w where
  F := h.F
  M := h.M
  E id hid := h.E id (Nat.le_of_succ_le hid)
  H id o ho := by
    rcases St.get_new_ok.1 ho with ⟨rfl, rfl⟩ | ⟨_, hget⟩
    · exact h.E _ (Nat.le_refl _)
    · exact h.H id o hget
  D id id' o1 o2 b h1 h2 a1 a2 := by
    rcases St.get_new_ok.1 h1 with ⟨rfl, rfl⟩ | ⟨_, g1⟩
    · exact a1.elim
    · rcases St.get_new_ok.1 h2 with ⟨rfl, rfl⟩ | ⟨_, g2⟩
      · exact a2.elim
      · exact h.D id id' o1 o2 b g1 g2 a1 a2
  own id o b h1 a1 hr := by
    rcases St.get_new_ok.1 h1 with ⟨rfl, rfl⟩ | ⟨_, g1⟩
    · exact a1.elim
    · exact h.own id o b g1 a1 hr
  up := h.up
theorem Inv.lay : ∀ {l : List Nat} {st : St}, Inv T A g st w → Inv T A g (st.lay l) w
  | [], _, h => h
  | _ :: l, st, h => Inv.lay (l := l) (st := (st.new .egg).2) (Inv.egg h)
/-- What is kept a name for, made. -/
theorem Inv.hatch (h : Inv T A g st w) {nm : Nat} (hn : st.get nm = .ok .egg) (o : Obj) (e : Ent) (b : Nat)
    (hb : ∀ id o', st.get id = .ok o' → ¬ At g id o' b) (hA : A b) (hat : ∀ b', At (g.setE nm e) nm o b' → b' = b)
    (ho : Holds T (g.setE nm e) w nm o) : Inv T A (g.setE nm e) (st.put nm o) w := by
  have hlt := (St.get_ok.1 hn).1
  have hE : g.E nm = none := h.H nm _ hn
  refine ⟨h.F, h.M, fun id hid => ?_, fun id o' ho' => ?_, fun id id' o1 o2 b' h1 h2 a1 a2 => ?_, fun id o' b' h1 a1 hr => ?_, h.up⟩
  · have hid' : st.h ≤ id := hid
    rw [Gh.setE_ne _ _ (by omega)]; exact h.E id hid'
  · by_cases hi : id = nm
    · subst hi
      rw [St.get_put_same hlt] at ho'
      cases ho'; exact ho
    · rw [St.get_put_ne (fun e => hi e.symm)] at ho'
      exact Holds_mono (h.H id o' ho') (Le.setE hE) (Gh.setE_ne _ _ hi) fun _ _ => ⟨fun _ => rfl, rfl⟩
  · by_cases hi : id = nm <;> by_cases hi' : id' = nm
    · rw [hi, hi']
    · subst hi
      rw [St.get_put_same hlt] at h1
      cases h1
      rw [St.get_put_ne (fun e => hi' e.symm)] at h2
      rw [At_E (Gh.setE_ne _ _ hi')] at a2
      have := hat b' a1; subst this
      exact absurd a2 (hb _ _ h2)
    · subst hi'
      rw [St.get_put_same hlt] at h2
      cases h2
      rw [St.get_put_ne (fun e => hi e.symm)] at h1
      rw [At_E (Gh.setE_ne _ _ hi)] at a1
      have := hat b' a2; subst this
      exact absurd a1 (hb _ _ h1)
    · rw [St.get_put_ne (fun e => hi e.symm)] at h1
      rw [St.get_put_ne (fun e => hi' e.symm)] at h2
      rw [At_E (Gh.setE_ne _ _ hi)] at a1
      rw [At_E (Gh.setE_ne _ _ hi')] at a2
      exact h.D id id' o1 o2 b' h1 h2 a1 a2
  · by_cases hi : id = nm
    · subst hi
      rw [St.get_put_same hlt] at h1
      cases h1
      rw [hat b' a1]; exact hA
    · rw [St.get_put_ne (fun e => hi e.symm)] at h1
      rw [At_E (Gh.setE_ne _ _ hi)] at a1
      exact h.own id o' b' h1 a1 hr
theorem hatchCells (h : Inv T A g st w) {nm : Nat} (hn : st.get nm = .ok .egg) {cs : List AV} {xs : List Value} (ty : TypeId) (hr : RL g cs xs) (h1 : ∀ x ∈ xs, x.oneCell' = true) :
    Inv T A (g.setE nm (.blk w.heap.size)) (st.put nm (.cells ty cs)) (w.alloc (.cells xs.toArray ty)) ∧ Kp A g w (g.setE nm (.blk w.heap.size)) (w.alloc (.cells xs.toArray ty)) ∧
    R (g.setE nm (.blk w.heap.size)) (.mp nm 0) (.pointer (some ⟨w.heap.size, 0, none⟩)) := by
  have hE : g.E nm = none := h.H nm _ hn
  have hle : Le g (g.setE nm (.blk w.heap.size)) := Le.setE hE
  refine ⟨(h.alloc _).hatch hn (.cells ty cs) (.blk w.heap.size) w.heap.size (fun id o' ho' => h.not_new (Nat.le_refl _) id o' ho') (h.up _ (Nat.le_refl _)) (fun b' hb' => by
    have : (g.setE nm (.blk w.heap.size)).E nm = some (.blk b') := hb'
    rw [Gh.setE_same] at this
    simpa using this.symm) ⟨w.heap.size, xs.toArray, #[], ty, Gh.setE_same _ _ _, by simpa using World.heap_alloc_new, by simpa using RL_mono hle _ _ hr, by simpa using h1, fun o => h.F_new (Nat.le_refl _) o, fun _ => ⟨rfl, rfl⟩⟩,
    (Kp.alloc _ h).trans (Kp.setE hE), by simp only [R]; exact ⟨_, Gh.setE_same _ _ _, rfl⟩⟩
theorem hatch_sound {t : TypeId} {i : TI} (hi : TIOk P t i) {nm : Nat} (hn : st.get nm = .ok .egg) (h : Inv T A g st w) (old : Value) :
    Gives P T A g w (.mp nm 0) (st.put nm (.cells t i.zero)) (Instr.alloc t true old) := by
  obtain ⟨z, h1, h2, h3, h4, h5, h6⟩ := hi.run_zero
  obtain ⟨k1, k2, k3⟩ := hatchCells h hn t (h6 g) (by simpa using h4)
  refine ⟨_, _, _, ?_, k3, k1, k2⟩
  simp [Instr.alloc, h1, newVar, run_newRow]
theorem hatch_ok {T : TT} {t : TypeId} {nm : Nat} {v : AV} {fx : Fx} (h : VM.hatch T t nm st = .ok (v, fx)) : ∃ i, T.get t = some i ∧ st.get nm = .ok .egg ∧ st.ro ≤ nm ∧ v = .mp nm 0 ∧ fx = ⟨[nm], .wrote nm (.cells t i.zero)⟩ := by
  simp only [VM.hatch, bind_ok] at h
  obtain ⟨i, h1, o, h2, h3⟩ := h
  cases o with
  | egg =>
    dsimp only at h3
    split at h3
    · rename_i hr
      simp only [Except.ok.injEq, Prod.mk.injEq] at h3
      exact ⟨i, ti_ok.1 h1, h2, Nat.le_of_ble_eq_true hr, h3.1.symm, h3.2.symm⟩
    · cases h3
  | _ => cases h3
theorem hatch_mk {T : TT} {t : TypeId} {i : TI} {nm : Nat} (h1 : T.get t = some i) (h2 : st.get nm = .ok .egg) (h3 : st.ro ≤ nm) : VM.hatch T t nm st = .ok (.mp nm 0, ⟨[nm], .wrote nm (.cells t i.zero)⟩) := by
  refine bind_ok.2 ⟨i, ti_ok.2 h1, bind_ok.2 ⟨.egg, h2, ?_⟩⟩
  dsimp only
  rw [Nat.ble_eq_true_of_le h3]
theorem hatchOf_ok {e : Nat → Option Nat} {o : Oper} {t : TypeId} {nm : Nat} (h : hatchOf e o = some (t, nm)) : o.op = .alloc t := by
  unfold hatchOf at h
  split at h
  · cases h
  · split at h
    · cases h
    · split at h
      · rename_i h1
        cases h
        exact h1
      · cases h
theorem operE_none (X : Cx) (all : List Oper) (fr : Fr) (st : St) (o : Oper) : operE X (fun _ => none) all fr st o = oper X all fr st o := by
  have h : hatchOf (fun _ => none) o = none := by
    unfold hatchOf
    cases o.dst <;> rfl
  unfold operE oper
  rw [h]
theorem hatch_op (X : Cx) (hT : TOk P X.T) {o : Oper} {a : Act} {t : TypeId} {nm : Nat} {v : AV} {fx : Fx} {K : Act → World → Prop} {Q : Exit → Act → World → Prop}
    (ho : o.op = .alloc t) (hp : VM.hatch X.T t nm st = .ok (v, fx)) (h : Inv X.T A g st w)
    (hK : ∀ x w', Post X.T A g (fx.did.app st) w v x w' → K (a.put o.dst x) w') : o.wp P a w K Q := by
  obtain ⟨i, h1, h2, _, rfl, rfl⟩ := hatch_ok hp
  obtain ⟨dst, op, type, pos, after, guard⟩ := o
  obtain rfl : op = .alloc t := ho
  exact wp_val (s := Instr.alloc t true (.tuple #[])) (by simp [execOp]) (hatch_sound (hT t i h1) h2 h _) hK
end
end Go.VM
