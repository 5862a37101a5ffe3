/-
  A part of the proof.
-/
import Derived.Test.YtkknkhniadiapaaDoorVmAH
import Derived.Laws.MakeOwn
import Derived.OrdersIn
import Derived.RangeFuncIn
import Derived.LoopNIn
namespace Go.VM
def Post (T : TT) (A : Nat → Prop) (g : Gh) (st' : St) (w : World) (v : AV) (x : Value) (w' : World) : Prop := ∃ g', R g' v x ∧ Inv T A g' st' w' ∧ Kp A g w g' w'
def CallWp (P : Program) (f : FuncId) (args : Array Value) (w : World) (post : Value → World → Prop) : Prop :=
  (∃ x w', (callFunc f args).run P w = .ok (.value x) w' ∧ post x w') ∨
  ((callFunc f args).run P w = .ok (.enter f args) w ∧ Calls P f args w fun e w' => ∃ x, e = .returned x ∧ post x w')
def RoundWp (P : Program) (l : Nat) (args : Array Value) (w : World) (post : Value → World → Prop) : Prop :=
  ∃ fn tmps a c, (Instr.yield l args).run P w = .ok (.round l fn tmps a c) w ∧ RoundIn Fence.wide 0 P l fn tmps a c w fun e w' => ∃ x, e = .returned x ∧ post x w'
structure CallerOk (P : Program) (T : TT) (G : Nat → Option (List AV)) (C : Caller) : Prop where
  bare : ∀ f args v, C.bare f args = .ok v → ∀ A g st w xs, GR g G → bares args = true → RL g args xs → Inv T A g st w → CallWp P f xs.toArray w (Post T A g st w v)
  wide : ∀ f args st v st', C.wide f args st = .ok (v, st') → ∀ A g w xs, GR g G → RL g args xs → Inv T A g st w →
    (callFunc f xs.toArray).run P w = .ok (.enter f xs.toArray) w ∧ Calls P f xs.toArray w fun e w' => ∃ x, e = .returned x ∧ Post T A g st' w v x w'
  look : ∀ f args st v, C.look f args st = .ok v → ∀ A g w xs, GR g G → RL g args xs → Inv T A g st w → CallWp P f xs.toArray w (Post T A g st w v)
  round : ∀ k args st v st', C.round k args st = .ok (v, st') → ∀ A g w xs l, GR g G → RL g args xs → Inv T A g st w → g.E k = some (.blk l) → RoundWp P l xs.toArray w (Post T A g st' w v)
def PrimOk (P : Program) (T : TT) (G : Nat → Option (List AV)) (prim : FuncId → Option Prim) : Prop :=
  ∀ f q, prim f = some q → ∀ C args p v fx st A g w xs, GR g G → primP q args = .ok p → runPlan C st p = .ok (v, fx) → RL g args xs → Inv T A g st w → CallWp P f xs.toArray w (Post T A g (fx.did.app st) w v)
section
variable {P : Program} {T : TT} {A : Nat → Prop} {g : Gh} {st : St} {w : World}
theorem len_sound (hT : TOk P T) {C : Caller} {t : TypeId} {ts : Array TypeId} {ty : TypeId} {x v : AV} {xv : Value} {p : Plan} {fx : Fx} (hts : ts[0]? = some t) (hp : lenP T t x = .ok p) (hrun : runPlan C st p = .ok (v, fx)) (hx : R g x xv) (h : Inv T A g st w) :
    Gives P T A g w v (fx.did.app st) (Builtin.len_ ts ty #[xv]) := by
  simp only [lenP, bind_ok] at hp
  obtain ⟨i, h1, h2⟩ := hp
  have hi := hT t i (ti_ok.1 h1)
  have plain : ∀ {n : Int}, p = .val (.int .i64 n) → (Builtin.len_ ts ty #[xv]).run P w = .ok (goInt n) w → Gives P T A g w v (fx.did.app st) (Builtin.len_ ts ty #[xv]) := fun hp hr => by
    subst hp
    simp only [runPlan, Except.ok.injEq, Prod.mk.injEq] at hrun
    obtain ⟨rfl, rfl⟩ := hrun
    exact Gives.of h hr (by simp only [R]; rfl)
  split at h2
  · rename_i n e _ hu
    simp only [pure_ok] at h2
    exact plain h2.symm (by simp [Builtin.len_, hts, und_arr hi hu])
  · rename_i s hu
    simp only [pure_ok] at h2
    simp only [R] at hx
    subst hx
    exact plain h2.symm (by simp [Builtin.len_, hts, und_str hi hu, str_size])
  · rename_i e hu
    simp only [pure_ok] at h2
    simp only [R] at hx
    subst hx
    exact plain h2.symm (by simp [Builtin.len_, hts, und_slice hi hu])
  · rename_i e z es p' hu
    simp only [pure_ok] at h2
    simp only [R] at hx
    obtain ⟨_, b, o, cap, rfl, _⟩ := hx
    exact plain h2.symm (by simp [Builtin.len_, hts, und_slice hi hu])
  · rename_i e a1 a2 a3 a4 a5 hu
    simp only [pure_ok] at h2
    simp only [R] at hx
    obtain ⟨b, o, _, c, rfl, _⟩ := hx
    exact plain h2.symm (by simp [Builtin.len_, hts, und_slice hi hu])
  · rename_i e k z n hu
    simp only [pure_ok] at h2
    simp only [R] at hx
    obtain ⟨_, b, cap, _, _, rfl, _⟩ := hx
    exact plain h2.symm (by simp [Builtin.len_, hts, und_slice hi hu])
  · rename_i e hu
    simp only [pure_ok] at h2
    simp only [R] at hx
    obtain ⟨a, rfl⟩ := hx
    exact plain h2.symm (by simp [Builtin.len_, hts, und_slice hi hu])
  · rename_i k e hu
    simp only [pure_ok] at h2
    simp only [R] at hx
    subst hx
    exact plain h2.symm (by simp [Builtin.len_, hts, und_map hi hu])
  · rename_i k e es hu
    simp only [pure_ok] at h2
    simp only [R] at hx
    obtain ⟨b, ents, clk, m1, rfl, m2⟩ := hx
    have hheap := h.M b ents clk m1
    have hgo : (getObj b).run P w = .ok (.map ents.toArray clk) w := by simp [getObj, Sem.run, hheap]
    have hl : ents.length = es.length := REs_len m2
    exact plain h2.symm (by simp [Builtin.len_, hts, und_map hi hu, hgo, hl])
  · rename_i k e m hu
    simp only [pure_ok] at h2
    subst h2
    simp only [readP, runPlan, bind_ok, pure_ok] at hrun
    obtain ⟨o, g1, ⟨v', o'⟩, ⟨v'', g2, g4⟩, dd, g5, g6⟩ := hrun
    simp only [Prod.mk.injEq] at g4 g6
    obtain ⟨rfl, rfl⟩ := g4
    simp only [didOf, Except.ok.injEq] at g5
    subst g5
    obtain ⟨rfl, rfl⟩ := g6
    split at g2
    · rename_i es
      simp only [Except.ok.injEq] at g2
      subst g2
      simp only [R] at hx
      obtain ⟨b, hE, rfl⟩ := hx
      obtain ⟨b', ents, clk, q1, q2, q3, q4⟩ := h.H m _ g1
      have hb : b' = b := by have := q1.symm.trans hE; simpa using this
      subst hb
      have hgo : (getObj b').run P w = .ok (.map ents clk) w := by simp [getObj, Sem.run, q2]
      have hl := REs_len q3
      simp only [Array.length_toList] at hl
      exact Gives.of h (x := goInt ents.size) (by simp [Builtin.len_, hts, und_map hi hu, hgo]) (by simp only [R, hl]; rfl)
    · cases g2
  · cases h2
  where
  REs_len : ∀ {es : List (AV × AV)} {ents : List MapEntry}, REs g es ents → ents.length = es.length
    | [], _, h => by simp only [REs] at h; subst h; rfl
    | (_, _) :: es, _, h => by
      simp only [REs] at h
      obtain ⟨e, l, rfl, _, _, h3⟩ := h
      simp [REs_len h3]
theorem minAll_sound {lower : Bool} : ∀ {l : List AV} {ls : List Value} {a v : AV} {x : Value}, minAll lower a l = .ok v → R g a x → RL g l ls →
    ∃ z, (ls.foldlM (if lower then Builtin.min2 else Builtin.max2) x).run P w = .ok z w ∧ R g v z
  | [], _, a, v, x, h, hx, hl => by
    simp only [minAll, Except.ok.injEq] at h
    subst h
    simp only [RL] at hl
    subst hl
    exact ⟨x, rfl, hx⟩
  | b :: l, _, a, v, x, h, hx, hl => by
    simp only [RL] at hl
    obtain ⟨y, ys, rfl, h1, h2⟩ := hl
    simp only [minAll, bind_ok] at h
    obtain ⟨c, h3, h4⟩ := h
    obtain ⟨z, e1, e2⟩ := min2_sound (P := P) (w := w) h3 hx h1
    obtain ⟨z', e3, e4⟩ := minAll_sound h4 e2 h2
    refine ⟨z', ?_, e4⟩
    rw [List.foldlM_cons]
    cases lower <;> simp only [Bool.false_eq_true, if_false, if_true] at e1 e3 ⊢ <;> simp only [Sem.run_bind, e1, Result.andThen_ok, e3]
def _root_.Go.Oper.wpR (P : Program) (o : Oper) (a : Act) (w : World) (K : Act → World → Prop) : Prop :=
  match (execOp a.eval o).run P w with
  | .ok (.value v) w' => K (a.put o.dst v) w'
  | .ok .skip w' => K (a.put o.dst Go.undef) w'
  | .ok (.enter f args) w' => Calls P f args w' fun e w'' => ∃ x, e = .returned x ∧ K (a.put o.dst x) w''
  | .ok (.round l f tmps x c) w' => RoundIn Fence.wide 0 P l f tmps x c w' fun e w'' => ∃ x, e = .returned x ∧ K (a.put o.dst x) w''
  | _ => False
def fe (ro : Option Nat) : Fence := { Fence.wide with round := ro }
theorem wpR_in {o : Oper} {a : Act} {K : Act → World → Prop} {Q : Exit → Act → World → Prop} {ro : Option Nat} (h : o.wpR P a w K) (hd : ∀ c, o.op ≠ .defer c) : o.wpIn (fe ro) 0 P a w K Q := by
  refine ⟨fun _ _ => trivial, ?_⟩
  show o.uponIn (fe ro) 0 P a K Q ((o.semAt ro a.eval).run P w)
  rw [Oper.semAt_eq ro a.eval o hd]
  unfold Go.Oper.wpR at h
  generalize (execOp a.eval o).run P w = r at h
  cases r with
  | halt x w' => exact h.elim
  | ok x w' =>
    cases x <;> first | exact h | exact h.elim | skip
    · refine ⟨fun e => by simp [fe, Fence.wide] at e, ?_⟩
      have h : CallsIn Fence.wide 0 P _ _ w' fun e w'' => ∃ x, e = .returned x ∧ K (a.put o.dst x) w'' := callsIn_wide.2 h
      refine CallsIn.mono h ?_
      rintro e w'' ⟨x, rfl, hk⟩
      exact hk
    · refine ⟨fun e => by simp [fe, Fence.wide] at e, ?_⟩
      refine RoundIn.mono h ?_
      rintro e w'' ⟨x, rfl, hk⟩
      exact hk
theorem wp_val {o : Oper} {a : Act} {K : Act → World → Prop} {s : Sem Value} {v : AV} {st' : St} (he : execOp a.eval o = (do pure (.value (← s)))) (hg : Gives P T A g w v st' s)
    (hK : ∀ x w', Post T A g st' w v x w' → K (a.put o.dst x) w') : o.wpR P a w K := by
  obtain ⟨x, g', w', h1, h2, h3, h4⟩ := hg
  unfold Go.Oper.wpR
  rw [he]
  simp only [Sem.run_bind, h1, Result.andThen_ok, Sem.run_pure]
  exact hK x w' ⟨g', h2, h3, h4⟩
theorem wp_unit {o : Oper} {a : Act} {K : Act → World → Prop} {s : Sem Unit} {st' : St} (he : execOp a.eval o = (do s; pure .skip)) (hg : GivesU P T A g w st' s)
    (hK : ∀ x w', Post T A g st' w undef x w' → K (a.put o.dst x) w') : o.wpR P a w K := by
  obtain ⟨g', w', h1, h3, h4⟩ := hg
  unfold Go.Oper.wpR
  rw [he]
  simp only [Sem.run_bind, h1, Result.andThen_ok, Sem.run_pure]
  exact hK Go.undef w' ⟨g', R_undef, h3, h4⟩
theorem wp_round {o : Oper} {a : Act} {K : Act → World → Prop} {l : Nat} {args : Array Value} {v : AV} {st' : St} (he : execOp a.eval o = Instr.yield l args) (hc : RoundWp P l args w (Post T A g st' w v))
    (hK : ∀ x w', Post T A g st' w v x w' → K (a.put o.dst x) w') : o.wpR P a w K := by
  unfold Go.Oper.wpR
  rw [he]
  obtain ⟨fn, tmps, x, c, h1, h2⟩ := hc
  rw [h1]
  refine RoundIn.mono h2 ?_
  rintro e w' ⟨y, rfl, h3⟩
  exact ⟨y, rfl, hK y w' h3⟩
theorem wp_call {o : Oper} {a : Act} {K : Act → World → Prop} {f : FuncId} {args : Array Value} {v : AV} {st' : St} (he : execOp a.eval o = callFunc f args) (hc : CallWp P f args w (Post T A g st' w v))
    (hK : ∀ x w', Post T A g st' w v x w' → K (a.put o.dst x) w') : o.wpR P a w K := by
  unfold Go.Oper.wpR
  rw [he]
  rcases hc with ⟨x, w', h1, h2⟩ | ⟨h1, h2⟩
  · rw [h1]
    exact hK x w' h2
  · rw [h1]
    refine h2.mono ?_
    rintro e w' ⟨x, rfl, h3⟩
    exact ⟨x, rfl, hK x w' h3⟩
theorem val_plan {X : Res AV} {p : Plan} (h : (do pure (Plan.val (← X)) : Res Plan) = .ok p) : ∃ v, X = .ok v ∧ p = .val v := by
  simp only [bind_ok, pure_ok] at h
  obtain ⟨v, h1, h2⟩ := h
  exact ⟨v, h1, h2.symm⟩
theorem made_zeros (zs : Array Value) : ∀ (c : Nat), (madeCells zs (c * zs.size)).toList = (List.replicate c zs.toList).flatten
  | 0 => by simp [madeCells]
  | c + 1 => by
    have ih := made_zeros zs c
    simp only [madeCells, Array.toList_map, Array.toList_range] at ih ⊢
    rw [show (c + 1) * zs.size = zs.size + c * zs.size by rw [Nat.add_mul, Nat.one_mul, Nat.add_comm], List.range_add, List.map_append, List.replicate_succ, List.flatten_cons, ← ih, List.map_map]
    congr 1
    · apply List.ext_getElem?
      intro k
      rw [List.getElem?_map]
      by_cases hk : k < zs.size
      · rw [List.getElem?_range hk, Array.getElem?_toList, Array.getElem?_eq_getElem hk]
        simp [Nat.mod_eq_of_lt hk, hk]
      · rw [List.getElem?_eq_none (by simp; omega), List.getElem?_eq_none (by simp; omega)]; rfl
    · apply List.map_congr_left
      intro k _
      simp
theorem zerosL_flat (l : List Value) : ∀ c, zerosL l c = (List.replicate c l).flatten
  | 0 => rfl
  | c + 1 => by rw [zerosL, zerosL_flat l c, List.replicate_succ, List.flatten_cons]
theorem makeSlice_sound (hT : TOk P T) {C : Caller} {t : TypeId} {l c v : AV} {lv cv : Value} {p : Plan} {fx : Fx} (hp : makeSliceP T t l c = .ok p) (hrun : runPlan C st p = .ok (v, fx)) (hl : R g l lv) (hc : R g c cv) (h : Inv T A g st w) :
    Gives P T A g w v (fx.did.app st) (Instr.makeSlice t lv cv) := by
  simp only [makeSliceP, bind_ok] at hp
  obtain ⟨it, h1, h2⟩ := hp
  rw [ti_ok] at h1
  split at h2
  · rename_i e kl ln kc cn hund
    simp only [bind_ok] at h2
    obtain ⟨i, h3, h4⟩ := h2
    rw [ti_ok] at h3
    split at h4
    · rename_i hch
      simp only [Bool.and_eq_true, Nat.ble_eq] at hch
      obtain ⟨⟨⟨⟨c1, c2⟩, c3⟩, c4⟩, c5⟩ := hch
      simp only [R] at hl hc
      subst hl hc
      obtain ⟨d, u1, u2, _⟩ := (hT t it h1).und
      rw [hund] at u2
      have ht : P.underlying t = some (.slice e) := by rw [u1, u2]
      obtain ⟨f, i1, i2, i3, z, i4, i5, i6, i7, i8, i9⟩ := (hT e i h3).info
      have hmk := run_make (P := P) w t e f z ht i1 i4 kl kc (.ofNat ln) (.ofNat cn) (Int.natCast_nonneg ln) (Int.ofNat_le.2 c1) (by rw [i3]; exact Int.ofNat_le.2 c3) (Int.ofNat_le.2 c4)
      have hz : (madeCells z.cells (cn * z.cells.size)).toList = (List.replicate cn z.cells.toList).flatten := made_zeros z.cells cn
      have hone : ∀ x ∈ zerosL z.cells.toList cn, x.oneCell' = true := fun x hx => by
        rw [zerosL_flat] at hx
        obtain ⟨l', hl', hx'⟩ := List.mem_flatten.1 hx
        have := List.eq_of_mem_replicate hl'
        subst this
        exact i7 x (by simpa using hx')
      have hcells : (madeCells z.cells ((Int.ofNat cn).toNat * f.size)) = (zerosL z.cells.toList cn).toArray := by
        rw [zerosL_flat, ← hz, i2, ← i5]; simp
      split at h4
      · rename_i hl0
        have hl0 := Nat.eq_of_beq_eq_true hl0
        subst hl0
        simp only [pure_ok] at h4
        subst h4
        simp only [runPlan, Except.ok.injEq, Prod.mk.injEq] at hrun
        obtain ⟨rfl, rfl⟩ := hrun
        obtain ⟨g', k1, k2, k3⟩ := h.newTok0 (els := []) (vals := []) (rest := zerosL z.cells.toList cn) (cap := cn) (n := 0) h3 c5 rfl (by simp) rfl (by simp [flat, RL]) (by simp) (by rw [List.length_nil, Nat.zero_add, zerosL_flat, ← hz, Array.length_toList, size_madeCells, i5]) (Nat.zero_le _)
        refine ⟨_, g', _, hmk, k3, ?_, ?_⟩
        · rw [hcells]; exact k1
        · rw [hcells]; exact k2
      simp only [pure_ok] at h4
      subst h4
      simp only [runPlan, Except.ok.injEq, Prod.mk.injEq] at hrun
      obtain ⟨rfl, rfl⟩ := hrun
      obtain ⟨k1, k2, k3⟩ := h.newCells e (zeros_RL (i9 g) cn) hone
      refine ⟨_, g.setE st.h (.blk w.heap.size), _, hmk, ?_, ?_, ?_⟩
      · simp only [R]
        exact ⟨w.heap.size, 0, Gh.setE_same _ _ _, _, rfl, c1, c5, fun _ => rfl, .inl rfl⟩
      · rw [hcells]; exact k1
      · rw [hcells]; exact k2
    · cases h4
  · cases h2
theorem run_val {C : Caller} {u v : AV} {fx : Fx} (h : runPlan C st (.val u) = .ok (v, fx)) : u = v ∧ fx = ⟨[], .kept⟩ := by
  simp only [runPlan, Except.ok.injEq, Prod.mk.injEq] at h
  exact ⟨h.1, h.2.symm⟩
theorem plan_sound (X : Cx) (hT : TOk P X.T) (hC : CallerOk P X.T X.G X.C) (hprim : PrimOk P X.T X.G X.prim) {o : Oper} {fr : Fr} {a : Act} {p : Plan} {v : AV} {fx : Fx} {K : Act → World → Prop}
    (hp : plan X.T X.prim X.imm X.G fr o.op = .ok p) (hrun : runPlan X.C st p = .ok (v, fx)) (hG : GR g X.G) (hf : FrR g fr a.tmps) (h : Inv X.T A g st w)
    (hK : ∀ x w', Post X.T A g (fx.did.app st) w v x w' → K (a.put o.dst x) w') : o.wpR P a w K := by
  obtain ⟨dst, op, type, pos, after, guard⟩ := o
  have val : ∀ {Y : Res AV} {s : Sem Value}, (do pure (Plan.val (← Y)) : Res Plan) = .ok p → execOp a.eval ⟨dst, op, type, pos, after, guard⟩ = (do pure (.value (← s))) →
      (∀ u, Y = .ok u → Gives P X.T A g w u st s) → Oper.wpR P ⟨dst, op, type, pos, after, guard⟩ a w K := fun hY he hg => by
    obtain ⟨u, h1, rfl⟩ := val_plan hY
    obtain ⟨rfl, rfl⟩ := run_val hrun
    exact wp_val he (hg u h1) hK
  cases op <;> simp only [plan] at hp <;> (try (cases hp; done))
  case move x => exact val hp (s := pure (a.eval x)) (by simp [execOp]) fun u hu => Gives.of h rfl (evalO_sound hG hf hu)
  case assign x => exact val hp (s := pure (a.eval x)) (by simp [execOp]) fun u hu => Gives.of h rfl (evalO_sound hG hf hu)
  case pick c x y =>
    refine val hp (s := do pure (if ← Go.asBool (a.eval c) then a.eval x else a.eval y)) (by simp [execOp]) fun u hu => ?_
    simp only [bind_ok] at hu
    obtain ⟨cv, h1, b, h2, h3⟩ := hu
    have hc := evalO_sound hG hf h1
    cases cv <;> simp only [VM.asBool, Except.ok.injEq] at h2 <;> (try (cases h2; done))
    subst h2
    simp only [R] at hc
    rename_i b
    cases b with
    | true => exact Gives.of h (by simp [hc, Go.asBool]) (evalO_sound hG hf h3)
    | false => exact Gives.of h (by simp [hc, Go.asBool]) (evalO_sound hG hf h3)
  case alloc t =>
    simp only [bind_ok, pure_ok] at hp
    obtain ⟨i, h1, rfl⟩ := hp
    simp only [runPlan, Except.ok.injEq, Prod.mk.injEq] at hrun
    obtain ⟨rfl, rfl⟩ := hrun
    exact wp_val (s := Instr.alloc t true (.tuple #[])) (by simp [execOp]) (alloc_sound (hT t i (ti_ok.1 h1)) h _) hK
  case box t x =>
    simp only [bind_ok] at hp
    obtain ⟨i, h1, u, h2, h3⟩ := hp
    exact wp_val (s := Instr.box t (a.eval x)) (by simp [execOp]) (box_sound h3 hrun (evalO_sound hG hf h2) h) hK
  case build t parts =>
    refine val hp (s := Instr.build t (parts.map fun (i, x) => (i, a.eval x))) (by simp [execOp]) fun u hu => ?_
    simp only [bind_ok] at hu
    obtain ⟨ps, h1, h2⟩ := hu
    exact build_sound hT h2 (by simpa using evalParts_sound hG hf h1) h
  case buildSlice t len parts =>
    refine val hp (s := Instr.buildSlice t len (parts.map fun (i, x) => (i, a.eval x))) (by simp [execOp]) fun u hu => ?_
    simp only [bind_ok] at hu
    obtain ⟨ps, h1, h2⟩ := hu
    exact buildSlice_sound hT h2 (by simpa using evalParts_sound hG hf h1) h
  case makeSlice t x y =>
    simp only [bind_ok] at hp
    obtain ⟨u1, h1, u2, h2, h3⟩ := hp
    exact wp_val (s := Instr.makeSlice t (a.eval x) (a.eval y)) (by simp [execOp]) (makeSlice_sound hT h3 hrun (evalO_sound hG hf h1) (evalO_sound hG hf h2) h) hK
  case load t x =>
    simp only [bind_ok] at hp
    obtain ⟨i, h1, u, h2, h3⟩ := hp
    exact wp_val (s := Instr.loadAt t (a.eval x)) (by simp [execOp]) (load_sound (hT t i (ti_ok.1 h1)) h3 hrun (evalO_sound hG hf h2) h) hK
  case store t x y =>
    simp only [bind_ok] at hp
    obtain ⟨i, h1, u, h2, hp⟩ := hp
    split at hp
    · simp only [bind_ok] at hp
      obtain ⟨u', h3, h4⟩ := hp
      obtain ⟨rfl, hg⟩ := gpStore_sound (hT t i (ti_ok.1 h1)) h4 hrun (evalO_sound hG hf h2) (evalO_sound hG hf h3) h
      exact wp_unit (s := Instr.storeAt t (a.eval x) (a.eval y)) (by simp [execOp]) hg hK
    · simp only [bind_ok] at hp
      obtain ⟨u', h3, h4⟩ := hp
      obtain ⟨rfl, hg⟩ := store_sound (hT t i (ti_ok.1 h1)) h4 hrun (evalO_sound hG hf h2) (evalO_sound hG hf h3) h
      exact wp_unit (s := Instr.storeAt t (a.eval x) (a.eval y)) (by simp [execOp]) hg hK
  case nilCheck x =>
    obtain ⟨u, h1, rfl⟩ := val_plan hp
    obtain ⟨rfl, rfl⟩ := run_val hrun
    simp only [bind_ok] at h1
    obtain ⟨u', h2, h3⟩ := h1
    have hr := evalO_sound hG hf h2
    split at h3 <;> (try (cases h3; done)) <;> simp only [pure_ok] at h3 <;> subst h3
    · have hr' := hr
      simp only [R] at hr'
      obtain ⟨_, b, o, hx, _⟩ := hr'
      exact wp_val (s := pure (a.eval x)) (by simp [execOp, hx]) (Gives.of h rfl hr) hK
    · have hr' := hr
      simp only [R] at hr'
      obtain ⟨b, _, hx⟩ := hr'
      exact wp_val (s := pure (a.eval x)) (by simp [execOp, hx]) (Gives.of h rfl hr) hK
    · have hr' := hr
      simp only [R] at hr'
      obtain ⟨_, b, _, _, _, hx⟩ := hr'
      exact wp_val (s := pure (a.eval x)) (by simp [execOp, hx]) (Gives.of h rfl hr) hK
    · have hr' := hr
      simp only [R] at hr'
      obtain ⟨a', c', hx, _⟩ := hr'
      exact wp_val (s := pure (a.eval x)) (by simp [execOp, hx]) (Gives.of h rfl hr) hK
  case binOp op t x y yt =>
    refine val hp (s := do eqGuard op t x y (a.eval x) (a.eval y); Go.binOp op t (a.eval x) (a.eval y)) (by simp [execOp]) fun u hu => ?_
    simp only [bind_ok] at hu
    obtain ⟨x', h1, y', h2, h3⟩ := hu
    exact binOpN_sound hT h3 (evalO_sound hG hf h1) (evalO_sound hG hf h2) h
  case unOp op t x =>
    refine val hp (s := Op.unary op (a.eval x)) (by simp [execOp]) fun u hu => ?_
    simp only [bind_ok] at hu
    obtain ⟨x', h1, h3⟩ := hu
    exact unOp_sound h3 (evalO_sound hG hf h1) h
  case convert s d x =>
    simp only [bind_ok] at hp
    obtain ⟨u, h2, h3⟩ := hp
    exact wp_val (s := Go.convert s d (a.eval x)) (by simp [execOp]) (convert_sound hT h3 hrun (evalO_sound hG hf h2) h) hK
  case makeInterface t x =>
    refine val hp (s := Instr.makeInterface t (a.eval x)) (by simp [execOp]) fun u hu => ?_
    simp only [bind_ok] at hu
    obtain ⟨i, h1, h2⟩ := hu
    have hi := hT t i (ti_ok.1 h1)
    obtain ⟨d, d1, d2, _⟩ := hi.run_und
    have fin : (∀ ms, d ≠ .interface ms) → (do pure (AV.iface t (← evalO X.G fr x)) : Res AV) = .ok u → Gives P X.T A g w u st (Instr.makeInterface t (a.eval x)) := fun hd he => by
      simp only [bind_ok, pure_ok] at he
      obtain ⟨x', h1, rfl⟩ := he
      refine Gives.of h (x := .iface t (a.eval x)) ?_ (by simp only [R]; exact ⟨_, rfl, evalO_sound hG hf h1⟩)
      simp only [Instr.makeInterface, Sem.run_bind, d1, Result.andThen_ok]
      cases d <;> first | rfl | exact absurd rfl (hd _)
    split at h2
    · cases h2
    · cases h2
    · rename_i n1 n2
      refine fin (fun ms hms => ?_) h2
      subst hms
      cases hu : i.und <;> rw [hu] at d2 n1 n2 <;> simp only [UOk] at d2 <;> (try (cases d2; done)) <;> first
        | exact n1 _ rfl
        | exact n2 rfl
        | (obtain ⟨_, e, _⟩ := d2; cases e; done)
        | (obtain ⟨_, _, _, e⟩ := d2; cases e; done)
  case makeFunc f first cap =>
    refine val hp (s := Instr.makeFunc f (first.map a.eval) (cap.map a.eval)) (by simp [execOp]) fun u hu => ?_
    simp only [bind_ok, pure_ok] at hu
    obtain ⟨l1, h1, l2, h2, rfl⟩ := hu
    refine Gives.of h (x := .func f (first.map a.eval) (cap.map a.eval)) rfl ?_
    simp only [R]
    exact ⟨_, _, rfl, by simpa using evalL_sound hG hf h1, by simpa using evalL_sound hG hf h2⟩
  case makeMap t r =>
    cases r with
    | some r => simp at hp
    | none =>
      simp only [Except.ok.injEq] at hp
      subst hp
      simp only [runPlan, Except.ok.injEq, Prod.mk.injEq] at hrun
      obtain ⟨rfl, rfl⟩ := hrun
      exact wp_val (s := Instr.makeMap t none) (by simp [execOp]) (makeMap_sound t h) hK
  case slice t x lo hi mx =>
    have hmx : mx ≠ none → hi ≠ none := by
      intro h1 h2
      subst h2
      cases mx with
      | none => exact h1 rfl
      | some m => simp at hp
    have hp' : (do pure (Plan.val (← (do sliceV X.T t (← evalO X.G fr x) (← evalOpt X.G fr lo) (← evalOpt X.G fr hi) (← evalOpt X.G fr mx)))) : Res Plan) = .ok p := by
      cases mx <;> cases hi <;> first | exact hp | exact absurd rfl (hmx (by simp))
    refine val hp' (s := Instr.sliceAt t (a.eval x) (lo.map a.eval) (hi.map a.eval) (mx.map a.eval)) (by simp [execOp]) fun u hu => ?_
    simp only [bind_ok] at hu
    obtain ⟨x', h1, l', h2, i', h3, m', h4, h5⟩ := hu
    refine slice_sound hT h5 (evalO_sound hG hf h1) (evalOpt_sound hG hf h2) (evalOpt_sound hG hf h3) (evalOpt_sound hG hf h4) h fun hm hh => ?_
    subst hh
    have hh : hi ≠ none := hmx fun e => by
      subst e
      simp only [evalOpt, Except.ok.injEq] at h4
      exact hm h4.symm
    cases hi with
    | none => exact hh rfl
    | some q =>
      simp only [evalOpt, bind_ok, pure_ok] at h3
      obtain ⟨_, _, e⟩ := h3
      cases e
  case fieldAddr t x f =>
    refine val hp (s := Instr.fieldAt t (a.eval x) f) (by simp [execOp]) fun u hu => ?_
    simp only [bind_ok] at hu
    obtain ⟨x', h1, h3⟩ := hu
    exact fieldAddr_sound hT h3 (evalO_sound hG hf h1) h
  case field t x f =>
    refine val hp (s := Instr.field t (a.eval x) f) (by simp [execOp]) fun u hu => ?_
    simp only [bind_ok] at hu
    obtain ⟨x', h1, h3⟩ := hu
    exact field_sound hT h3 (evalO_sound hG hf h1) h
  case indexAddr t x i =>
    simp only [bind_ok] at hp
    obtain ⟨x', h1, hp⟩ := hp
    split at hp
    · simp only [bind_ok] at hp
      obtain ⟨i', h2, h3⟩ := hp
      exact wp_val (s := Instr.indexAt t (a.eval x) (a.eval i)) (by simp [execOp]) (gsIndex_sound hT h3 hrun (evalO_sound hG hf h1) (evalO_sound hG hf h2) h) hK
    · refine val hp (s := Instr.indexAt t (a.eval x) (a.eval i)) (by simp [execOp]) fun u hu => ?_
      simp only [bind_ok] at hu
      obtain ⟨i', h2, h3⟩ := hu
      exact indexAddr_sound hT h3 (evalO_sound hG hf h1) (evalO_sound hG hf h2) h
  case index t x i =>
    refine val hp (s := Instr.index t (a.eval x) (a.eval i)) (by simp [execOp]) fun u hu => ?_
    simp only [bind_ok] at hu
    obtain ⟨x', h1, i', h2, h3⟩ := hu
    exact index_sound hT h3 (evalO_sound hG hf h1) (evalO_sound hG hf h2) h
  case lookup t x k ok =>
    simp only [bind_ok] at hp
    obtain ⟨x', h1, k', h2, h3⟩ := hp
    exact wp_val (s := Instr.lookup t (a.eval x) (a.eval k) ok) (by simp [execOp]) (lookup_sound hT h3 hrun (evalO_sound hG hf h1) (evalO_sound hG hf h2) h) hK
  case mapUpdate t m k x =>
    simp only [bind_ok] at hp
    obtain ⟨m', h1, k', h2, x', h3, h4⟩ := hp
    obtain ⟨rfl, hg⟩ := mapUpdate_sound hT h4 hrun (evalO_sound hG hf h1) (evalO_sound hG hf h2) (evalO_sound hG hf h3) h
    exact wp_unit (s := Instr.mapUpdate t (a.eval m) (a.eval k) (a.eval x)) (by simp [execOp]) hg hK
  case insert t m k x =>
    simp only [bind_ok] at hp
    obtain ⟨m', h1, k', h2, x', h3, h4⟩ := hp
    obtain ⟨rfl, hg⟩ := mapUpdate_sound hT h4 hrun (evalO_sound hG hf h1) (evalO_sound hG hf h2) (evalO_sound hG hf h3) h
    exact wp_unit (s := Instr.mapUpdate t (a.eval m) (a.eval k) (a.eval x)) (by simp [execOp]) hg hK
  case range t x =>
    simp only [bind_ok] at hp
    obtain ⟨i, h1, x', h2, h3⟩ := hp
    split at h3
    · rename_i s hu
      simp only [pure_ok] at h3
      subst h3
      simp only [runPlan, Except.ok.injEq, Prod.mk.injEq] at hrun
      obtain ⟨rfl, rfl⟩ := hrun
      have hr := evalO_sound hG hf h2
      simp only [R] at hr
      exact wp_val (s := Instr.range t (a.eval x)) (by simp [execOp]) (by rw [hr]; exact range_sound (hT t i (ti_ok.1 h1)) hu h) hK
    · cases h3
  case next x b =>
    cases b with
    | false => simp at hp
    | true =>
      simp only [bind_ok] at hp
      obtain ⟨x', h1, h2⟩ := hp
      exact wp_val (s := Instr.next (a.eval x) true type) (by simp [execOp]) (next_sound h2 hrun (evalO_sound hG hf h1) h) hK
  case extract x i =>
    refine val hp (s := Instr.extract (a.eval x) i) (by simp [execOp]) fun u hu => ?_
    simp only [bind_ok] at hu
    obtain ⟨x', h1, h2⟩ := hu
    have hr := evalO_sound hG hf h1
    split at h2
    · simp only [R] at hr
      obtain ⟨ys, hx, hl⟩ := hr
      obtain ⟨y, e1, e2⟩ := RL_nth hl h2
      exact Gives.of h (by rw [hx]; simp only [Instr.extract]; rw [show ys[i]? = some y by simpa using e1]; rfl) e2
    · cases h2
  case call c =>
    simp only [bind_ok] at hp
    obtain ⟨args, h1, h2⟩ := hp
    have hargs := evalL_sound hG hf h1
    split at h2
    · rename_i b hcal
      have he : ∀ s : Sem Value, Go.builtin b c.argTypes type (c.args.map fun | .const _ => true | _ => false) (c.args.map a.eval) = (do pure (.value (← s))) → execOp a.eval ⟨dst, .call c, type, pos, after, guard⟩ = (do pure (.value (← s))) := fun s hs => by
        simp only [execOp, resolve, hcal, pure_bind, invoke]
        exact hs
      have hlist : (c.args.map a.eval).toList = c.args.toList.map a.eval := by simp
      unfold builtinP at h2
      split at h2
      · rename_i t xt sv xv htypes
        simp only [RL] at hargs
        obtain ⟨y1, l1, e1, r1, y2, l2, rfl, r2, rfl⟩ := hargs
        have harr : c.args.map a.eval = #[y1, y2] := by apply Array.ext'; rw [hlist, e1]
        have htarr : c.argTypes = #[t, xt] := by apply Array.ext'; rw [htypes]
        simp only [bind_ok] at h2
        obtain ⟨i, h3, ix, h4, h5⟩ := h2
        have hi := hT t i (ti_ok.1 h3)
        have hix := hT xt ix (ti_ok.1 h4)
        split at h5
        · rename_i e hu hni
          simp only [bind_ok] at h5
          obtain ⟨ei, h6, h7⟩ := h5
          have hei := hT e ei (ti_ok.1 h6)
          obtain ⟨d, d1, d2, _⟩ := hi.und
          rw [hu] at d2
          simp only [UOk] at d2
          subst d2
          obtain ⟨dx, x1, x2, _⟩ := hix.und
          have hdx : ∀ k, dx ≠ .int k := fun k hk => by
            subst hk
            cases hux : ix.und <;> rw [hux] at x2 hni <;> simp only [UOk] at x2 <;> (try (cases x2; done)) <;> (try (simp [notInt] at hni; done))
          split at h7
          · rename_i new hev
            split at h7
            · exact wp_val (he (Builtin.append_ c.argTypes type (c.args.map a.eval)) rfl) (by rw [harr, htarr]; exact gsAppend_sound ⟨d1, ⟨dx, x1, hdx⟩, ti_ok.1 h6, hei⟩ hev h7 hrun r1 r2 h) hK
            split at h7
            · exact wp_val (he (Builtin.append_ c.argTypes type (c.args.map a.eval)) rfl) (by rw [harr, htarr]; exact msAppend_sound ⟨d1, ⟨dx, x1, hdx⟩, ti_ok.1 h6, hei⟩ hev h7 hrun r1 r2 h) hK
            split at h7
            · exact wp_val (he (Builtin.append_ c.argTypes type (c.args.map a.eval)) rfl) (by rw [harr, htarr]; exact rowAppend_sound ⟨d1, ⟨dx, x1, hdx⟩, ti_ok.1 h6, hei⟩ hev h7 hrun r1 r2 h) hK
            · exact wp_val (he (Builtin.append_ c.argTypes type (c.args.map a.eval)) rfl) (by rw [harr, htarr]; exact append_sound ⟨d1, ⟨dx, x1, hdx⟩, ti_ok.1 h6, hei⟩ hev h7 hrun r1 r2 h) hK
          · split at h7
            · split at h7
              · exact wp_val (he (Builtin.append_ c.argTypes type (c.args.map a.eval)) rfl) (by rw [harr, htarr]; exact rowHeld_sound ⟨d1, ⟨dx, x1, hdx⟩, ti_ok.1 h6, hei⟩ h7 hrun r1 r2 h) hK
              · cases h7
            · split at h7
              · exact wp_val (he (Builtin.append_ c.argTypes type (c.args.map a.eval)) rfl) (by rw [harr, htarr]; exact gsRead_sound ⟨d1, ⟨dx, x1, hdx⟩, ti_ok.1 h6, hei⟩ h7 hrun r1 r2 h) hK
              · cases h7
            · cases h7
        · cases h5
      · rename_i t l xv htypes
        simp only [RL] at hargs
        obtain ⟨y1, l1, e1, r1, rfl⟩ := hargs
        have harr : c.args.map a.eval = #[y1] := by apply Array.ext'; rw [hlist, e1]
        have hts : c.argTypes[0]? = some t := by rw [← Array.getElem?_toList, htypes]; rfl
        exact wp_val (he (Builtin.len_ c.argTypes type (c.args.map a.eval)) rfl) (by rw [harr]; exact len_sound hT hts h2 hrun r1 h) hK
      · rename_i xv l
        obtain ⟨u, h3, rfl⟩ := val_plan h2
        obtain ⟨rfl, rfl⟩ := run_val hrun
        simp only [RL] at hargs
        obtain ⟨y1, l1, e1, r1, r2⟩ := hargs
        obtain ⟨z, e2, e3⟩ := minAll_sound (P := P) (w := w) h3 r1 r2
        exact wp_val (he (Builtin.min_ c.argTypes type (c.args.map a.eval)) rfl) (Gives.of h (by simp only [Builtin.min_]; rw [hlist, e1]; exact e2) e3) hK
      · rename_i xv l
        obtain ⟨u, h3, rfl⟩ := val_plan h2
        obtain ⟨rfl, rfl⟩ := run_val hrun
        simp only [RL] at hargs
        obtain ⟨y1, l1, e1, r1, r2⟩ := hargs
        obtain ⟨z, e2, e3⟩ := minAll_sound (P := P) (w := w) h3 r1 r2
        exact wp_val (he (Builtin.max_ c.argTypes type (c.args.map a.eval)) rfl) (Gives.of h (by simp only [Builtin.max_]; rw [hlist, e1]; exact e2) e3) hK
      · rename_i t l mv kv htypes
        simp only [RL] at hargs
        obtain ⟨y1, l1, e1, r1, y2, l2, rfl, r2, rfl⟩ := hargs
        have harr : c.args.map a.eval = #[y1, y2] := by apply Array.ext'; rw [hlist, e1]
        have hts : c.argTypes[0]? = some t := by rw [← Array.getElem?_toList, htypes]; rfl
        exact wp_val (he (Builtin.delete_ c.argTypes type (c.args.map a.eval)) rfl) (by rw [harr]; exact delete_sound hT hts h2 hrun r1 r2 h) hK
      · cases h2
    · rename_i f hcal
      simp only [bind_ok] at h2
      obtain ⟨fv, h3, h4⟩ := h2
      have hfv := evalO_sound hG hf h3
      split at h4
      · rename_i gid first cap
        simp only [R] at hfv
        obtain ⟨a', c', hfx, ha', hc'⟩ := hfv
        have hall : RL g (first ++ args ++ cap) (a'.toList ++ c.args.toList.map a.eval ++ c'.toList) := RL_append (RL_append ha' hargs) hc'
        have he : execOp a.eval ⟨dst, .call c, type, pos, after, guard⟩ = callFunc gid (a'.toList ++ c.args.toList.map a.eval ++ c'.toList).toArray := by
          simp only [execOp, resolve, hcal, hfx, Deferred.ofValue, pure_bind, invoke]
          congr 1
          apply Array.ext'
          simp
        split at h4
        · rename_i q hq
          exact wp_call he (hprim gid q hq X.C _ p v fx st A g w _ hG h4 hrun hall h) hK
        · simp only [pure_ok] at h4
          subst h4
          simp only [runPlan] at hrun
          split at hrun
          · rename_i hb
            simp only [bind_ok, pure_ok, Prod.mk.injEq] at hrun
            obtain ⟨v', h5, rfl, rfl⟩ := hrun
            simp only [Bool.and_eq_true] at hb
            exact wp_call he (hC.bare _ _ _ h5 A g st w _ hG hb.1 (RL_strip hall) h) hK
          · split at hrun
            · simp only [bind_ok, pure_ok, Prod.mk.injEq] at hrun
              obtain ⟨v', h5, rfl, rfl⟩ := hrun
              exact wp_call he (hC.look _ _ _ _ h5 A g w _ hG (RL_strip hall) h) hK
            · simp only [bind_ok, pure_ok] at hrun
              obtain ⟨⟨v', s'⟩, h5, h6⟩ := hrun
              simp only [Prod.mk.injEq] at h6
              obtain ⟨rfl, rfl⟩ := h6
              exact wp_call he (.inr (hC.wide _ _ _ _ _ h5 A g w _ hG hall h)) hK
      · rename_i k
        simp only [R] at hfv
        obtain ⟨l, hl, hfx⟩ := hfv
        simp only [pure_ok] at h4
        subst h4
        simp only [runPlan, bind_ok, pure_ok] at hrun
        obtain ⟨⟨v', s'⟩, h5, h6⟩ := hrun
        simp only [Prod.mk.injEq] at h6
        obtain ⟨rfl, rfl⟩ := h6
        have he : execOp a.eval ⟨dst, .call c, type, pos, after, guard⟩ = Instr.yield l (c.args.toList.map a.eval).toArray := by
          simp only [execOp, resolve, hcal, hfx, Deferred.ofValue, pure_bind, invoke]
          congr 1
          apply Array.ext'
          simp
        exact wp_round he (hC.round _ _ _ _ _ h5 A g w _ l hG hargs h hl) hK
      · cases h4
    · cases h2
end
section
variable {P : Program} {T : TT} {A : Nat → Prop} {g : Gh} {st : St} {w : World}
theorem Inv.egg (h : Inv T A g st w) : Inv T A g (st.new .egg).2 w where
  F := h.F
  M := h.M
  E id hid := h.E id (Nat.le_of_succ_le hid)
  H id o ho := by
    rcases St.get_new_ok.1 ho with ⟨rfl, rfl⟩ | ⟨_, hget⟩
    · exact h.E _ (Nat.le_refl _)
    · exact h.H id o hget
  D id id' o1 o2 b h1 h2 a1 a2 := by
    rcases St.get_new_ok.1 h1 with ⟨rfl, rfl⟩ | ⟨_, g1⟩
    · exact a1.elim
    · rcases St.get_new_ok.1 h2 with ⟨rfl, rfl⟩ | ⟨_, g2⟩
      · exact a2.elim
      · exact h.D id id' o1 o2 b g1 g2 a1 a2
  own id o b h1 a1 hr := by
    rcases St.get_new_ok.1 h1 with ⟨rfl, rfl⟩ | ⟨_, g1⟩
    · exact a1.elim
    · exact h.own id o b g1 a1 hr
  up := h.up
  C c := ⟨(h.C c).1, fun id o b h1 a1 => by
    rcases St.get_new_ok.1 h1 with ⟨rfl, rfl⟩ | ⟨_, g1⟩
    · exact a1.elim
    · exact (h.C c).2 id o b g1 a1⟩
theorem Inv.lay : ∀ {l : List Nat} {st : St}, Inv T A g st w → Inv T A g (st.lay l) w
  | [], _, h => h
  | _ :: l, st, h => Inv.lay (l := l) (st := (st.new .egg).2) (Inv.egg h)
theorem Inv.hatch (h : Inv T A g st w) {nm : Nat} (hn : st.get nm = .ok .egg) (o : Obj) (e : Ent) (b : Nat)
    (hb : ∀ id o', st.get id = .ok o' → ¬ At g id o' b) (hA : A b) (hat : ∀ b', At (g.setE nm e) nm o b' → b' = b)
    (ho : Holds T (g.setE nm e) w nm o) (hU : g.C → Unf w b := by exact fun _ => Unf.newC) : Inv T A (g.setE nm e) (st.put nm o) w := by
  have hlt := (St.get_ok.1 hn).1
  have hE : g.E nm = none := h.H nm _ hn
  refine ⟨h.F, h.M, fun id hid => ?_, fun id o' ho' => ?_, fun id id' o1 o2 b' h1 h2 a1 a2 => ?_, fun id o' b' h1 a1 hr => ?_, h.up, fun c => ⟨(h.C c).1, fun id o' b' h1 a1 => ?_⟩⟩
  · have hid' : st.h ≤ id := hid
    rw [Gh.setE_ne _ _ (by omega)]; exact h.E id hid'
  · by_cases hi : id = nm
    · subst hi
      rw [St.get_put_same hlt] at ho'
      cases ho'; exact ho
    · rw [St.get_put_ne (fun e => hi e.symm)] at ho'
      exact Holds_mono (h.H id o' ho') (Le.setE hE) (Gh.setE_ne _ _ hi) fun _ _ => ⟨fun _ => rfl, rfl⟩
  · by_cases hi : id = nm <;> by_cases hi' : id' = nm
    · rw [hi, hi']
    · subst hi
      rw [St.get_put_same hlt] at h1
      cases h1
      rw [St.get_put_ne (fun e => hi' e.symm)] at h2
      rw [At_E (Gh.setE_ne _ _ hi')] at a2
      have := hat b' a1; subst this
      exact absurd a2 (hb _ _ h2)
    · subst hi'
      rw [St.get_put_same hlt] at h2
      cases h2
      rw [St.get_put_ne (fun e => hi e.symm)] at h1
      rw [At_E (Gh.setE_ne _ _ hi)] at a1
      have := hat b' a2; subst this
      exact absurd a1 (hb _ _ h1)
    · rw [St.get_put_ne (fun e => hi e.symm)] at h1
      rw [St.get_put_ne (fun e => hi' e.symm)] at h2
      rw [At_E (Gh.setE_ne _ _ hi)] at a1
      rw [At_E (Gh.setE_ne _ _ hi')] at a2
      exact h.D id id' o1 o2 b' h1 h2 a1 a2
  · by_cases hi : id = nm
    · subst hi
      rw [St.get_put_same hlt] at h1
      cases h1
      rw [hat b' a1]; exact hA
    · rw [St.get_put_ne (fun e => hi e.symm)] at h1
      rw [At_E (Gh.setE_ne _ _ hi)] at a1
      exact h.own id o' b' h1 a1 hr
  · by_cases hi : id = nm
    · subst hi
      rw [St.get_put_same hlt] at h1
      cases h1
      rw [hat b' a1]; exact hU c
    · rw [St.get_put_ne (fun e => hi e.symm)] at h1
      rw [At_E (Gh.setE_ne _ _ hi)] at a1
      exact (h.C c).2 id o' b' h1 a1
theorem hatchCells (h : Inv T A g st w) {nm : Nat} (hn : st.get nm = .ok .egg) {cs : List AV} {xs : List Value} (ty : TypeId) (hr : RL g cs xs) (h1 : ∀ x ∈ xs, x.oneCell' = true) :
    Inv T A (g.setE nm (.blk w.heap.size)) (st.put nm (.cells ty cs)) (w.alloc (.cells xs.toArray ty)) ∧ Kp A g w (g.setE nm (.blk w.heap.size)) (w.alloc (.cells xs.toArray ty)) ∧
    R (g.setE nm (.blk w.heap.size)) (.mp nm 0) (.pointer (some ⟨w.heap.size, 0, none⟩)) := by
  have hE : g.E nm = none := h.H nm _ hn
  have hle : Le g (g.setE nm (.blk w.heap.size)) := Le.setE hE
  refine ⟨(h.alloc _).hatch hn (.cells ty cs) (.blk w.heap.size) w.heap.size (fun id o' ho' => h.not_new (Nat.le_refl _) id o' ho') (h.up _ (Nat.le_refl _)) (fun b' hb' => by
    have : (g.setE nm (.blk w.heap.size)).E nm = some (.blk b') := hb'
    rw [Gh.setE_same] at this
    simpa using this.symm) ⟨w.heap.size, xs.toArray, #[], ty, Gh.setE_same _ _ _, by simpa using World.heap_alloc_new, by simpa using RL_mono hle _ _ hr, by simpa using h1, fun o => h.F_new (Nat.le_refl _) o, fun _ => ⟨rfl, rfl⟩⟩,
    (Kp.alloc _ h).trans (Kp.setE hE), by simp only [R]; exact ⟨_, Gh.setE_same _ _ _, rfl⟩⟩
theorem hatch_sound {t : TypeId} {i : TI} (hi : TIOk P t i) {nm : Nat} (hn : st.get nm = .ok .egg) (h : Inv T A g st w) (old : Value) :
    Gives P T A g w (.mp nm 0) (st.put nm (.cells t i.zero)) (Instr.alloc t true old) := by
  obtain ⟨z, h1, h2, h3, h4, h5, h6⟩ := hi.run_zero
  obtain ⟨k1, k2, k3⟩ := hatchCells h hn t (h6 g) (by simpa using h4)
  refine ⟨_, _, _, ?_, k3, k1, k2⟩
  simp [Instr.alloc, h1, newVar, run_newRow]
theorem hatch_ok {T : TT} {t : TypeId} {nm : Nat} {v : AV} {fx : Fx} (h : VM.hatch T t nm st = .ok (v, fx)) : ∃ i, T.get t = some i ∧ st.get nm = .ok .egg ∧ st.ro ≤ nm ∧ v = .mp nm 0 ∧ fx = ⟨[nm], .wrote nm (.cells t i.zero)⟩ := by
  simp only [VM.hatch, bind_ok] at h
  obtain ⟨i, h1, o, h2, h3⟩ := h
  cases o with
  | egg =>
    dsimp only at h3
    split at h3
    · rename_i hr
      simp only [Except.ok.injEq, Prod.mk.injEq] at h3
      exact ⟨i, ti_ok.1 h1, h2, Nat.le_of_ble_eq_true hr, h3.1.symm, h3.2.symm⟩
    · cases h3
  | _ => cases h3
theorem hatch_mk {T : TT} {t : TypeId} {i : TI} {nm : Nat} (h1 : T.get t = some i) (h2 : st.get nm = .ok .egg) (h3 : st.ro ≤ nm) : VM.hatch T t nm st = .ok (.mp nm 0, ⟨[nm], .wrote nm (.cells t i.zero)⟩) := by
  refine bind_ok.2 ⟨i, ti_ok.2 h1, bind_ok.2 ⟨.egg, h2, ?_⟩⟩
  dsimp only
  rw [Nat.ble_eq_true_of_le h3]
theorem hatchOf_ok {e : Nat → Option Nat} {o : Oper} {t : TypeId} {nm : Nat} (h : hatchOf e o = some (t, nm)) : o.op = .alloc t := by
  unfold hatchOf at h
  split at h
  · cases h
  · split at h
    · cases h
    · split at h
      · rename_i h1
        cases h
        exact h1
      · cases h
theorem operE_none (X : Cx) (all : List Oper) (fr : Fr) (st : St) (o : Oper) : operE X (fun _ => none) all fr st o = oper X all fr st o := by
  have h : hatchOf (fun _ => none) o = none := by
    unfold hatchOf
    cases o.dst <;> rfl
  unfold operE oper
  rw [h]
theorem hatch_op (X : Cx) (hT : TOk P X.T) {o : Oper} {a : Act} {t : TypeId} {nm : Nat} {v : AV} {fx : Fx} {K : Act → World → Prop}
    (ho : o.op = .alloc t) (hp : VM.hatch X.T t nm st = .ok (v, fx)) (h : Inv X.T A g st w)
    (hK : ∀ x w', Post X.T A g (fx.did.app st) w v x w' → K (a.put o.dst x) w') : o.wpR P a w K := by
  obtain ⟨i, h1, h2, _, rfl, rfl⟩ := hatch_ok hp
  obtain ⟨dst, op, type, pos, after, guard⟩ := o
  obtain rfl : op = .alloc t := ho
  exact wp_val (s := Instr.alloc t true (.tuple #[])) (by simp [execOp]) (hatch_sound (hT t i h1) h2 h _) hK
end
namespace Tr
variable {α : Type}
theorem set_comm : ∀ (f1 f2 : Nat) (t : Tr α) (a b : Nat) (x y : α), a ≠ b → set f1 (set f2 t a x) b y = set f2 (set f1 t b y) a x
  | 0, _, _, _, _, _, _, _ => rfl
  | _ + 1, 0, _, _, _, _, _, _ => rfl
  | f1 + 1, f2 + 1, t, a, b, x, y, h => by
    cases ha : a.beq 0 with
    | true =>
      have ha0 := Nat.eq_of_beq_eq_true ha
      have hb : b.beq 0 = false := by
        cases hb : b.beq 0 with
        | false => rfl
        | true => exact absurd (ha0.trans (Nat.eq_of_beq_eq_true hb).symm) h
      cases hm : (b % 2).beq 1 <;> cases t <;> simp [set, ha, hb, hm]
    | false =>
      have ha0 : a ≠ 0 := by intro e; subst e; simp at ha
      cases hb : b.beq 0 with
      | true => cases hm : (a % 2).beq 1 <;> cases t <;> simp [set, ha, hb, hm]
      | false =>
        have hb0 : b ≠ 0 := by intro e; subst e; simp at hb
        cases hp : (a % 2).beq 1 with
        | true =>
          have hp' := Nat.eq_of_beq_eq_true hp
          cases hq : (b % 2).beq 1 with
          | true =>
            have hq' := Nat.eq_of_beq_eq_true hq
            have hne : a / 2 ≠ b / 2 := by omega
            cases t <;> simp [set, ha, hb, hp, hq, set_comm f1 f2 _ _ _ x y hne]
          | false => cases t <;> simp [set, ha, hb, hp, hq]
        | false =>
          have hp' : a % 2 ≠ 1 := by intro e; rw [e] at hp; simp at hp
          cases hq : (b % 2).beq 1 with
          | true => cases t <;> simp [set, ha, hb, hp, hq]
          | false =>
            have hq' : b % 2 ≠ 1 := by intro e; rw [e] at hq; simp at hq
            have hne : a / 2 - 1 ≠ b / 2 - 1 := by omega
            cases t <;> simp [set, ha, hb, hp, hq, set_comm f1 f2 _ _ _ x y hne]
theorem put_comm (t : Tr α) (a b : Nat) (x y : α) (h : a ≠ b) : (t.put a x).put b y = (t.put b y).put a x := set_comm _ _ _ _ _ _ _ h
end Tr
section
variable {P : Program} {A : Nat → Prop} {g : Gh} {st : St} {w : World}
theorem wanted_eq {ops : Array Oper} {fr : Fr} {a : Act} (o : Oper) (hf : FrR g fr a.tmps) (hg : o.guard = none ∨ fr.strict = false) : wanted ops.toList fr o.guard = Region.wanted o (yielded ops a.tmps) := by
  unfold wanted Region.wanted
  cases hgg : o.guard with
  | none => rfl
  | some p =>
    have hs : fr.strict = false := by
      rcases hg with hg | hg
      · rw [hgg] at hg; cases hg
      · exact hg
    obtain ⟨j, want⟩ := p
    simp only [yielded, Array.getElem?_toList]
    cases hd : (ops[j]?).bind (·.dst) with
    | none => cases want <;> rfl
    | some d =>
      simp only [Option.bind_some]
      have hr := hf.at hs d
      cases hv : fr.get d with
      | bool b =>
        rw [hv] at hr
        simp only [R] at hr
        have : a.tmps[d]? = some (.bool b) := by
          simp only [Array.getD_eq_getD_getElem?] at hr
          cases hx : a.tmps[d]? with
          | none => rw [hx] at hr; simp [Go.undef] at hr
          | some x => rw [hx] at hr; simpa using hr
        rw [this]
        cases b <;> cases want <;> rfl
      | _ =>
        have : ∀ b, a.tmps[d]? ≠ some (.bool b) := fun b hb => by
          rw [hv] at hr
          simp only [Array.getD_eq_getD_getElem?, hb, Option.getD_some, R] at hr
          first
            | (rcases hr with ⟨_, hr | ⟨_, _, hr⟩⟩ | ⟨_, _, hr⟩ <;> cases hr; done)
            | (cases hr; done)
            | (rcases hr with ⟨_, hr | ⟨_, _, hr⟩⟩ | ⟨_, ⟨_, hr⟩ | ⟨_, _, _, hr⟩⟩ <;> cases hr; done)
            | (rcases hr with ⟨_, hr⟩; injection hr; done)
            | (rcases hr with ⟨_, ⟨⟩⟩; done)
            | (obtain ⟨_, _, _, hr, _⟩ := hr; cases hr; done)
            | (obtain ⟨_, _, hr⟩ := hr; cases hr; done)
            | (obtain ⟨_, _, _, _, hr, _⟩ := hr; cases hr; done)
            | (obtain ⟨_, _, hr, _⟩ := hr; cases hr; done)
            | (obtain ⟨_, hr, _⟩ := hr; cases hr; done)
            | (obtain ⟨_, _, _, _, _, hr, _⟩ := hr; cases hr; done)
            | (obtain ⟨_, _, _, _, _, hr⟩ := hr; cases hr; done)
        cases hx : a.tmps[d]? with
        | none => cases want <;> rfl
        | some x => cases x <;> first | (cases want <;> rfl) | exact absurd hx (this _)
theorem put_tmps {fr : Fr} {a : Act} (hf : FrR g fr a.tmps) {v : AV} {x : Value} (hx : R g v x) (d : Option Tmp) : FrR g (fr.put d v) (a.put d x).tmps := by
  cases d with
  | none => exact hf
  | some d => exact hf.put hx (some d)
theorem put_defers (a : Act) (d : Option Tmp) (x : Value) : (a.put d x).defers = a.defers := by cases d <;> rfl
structure Good (P : Program) (X : Cx) : Prop where
  T : TOk P X.T
  C : CallerOk P X.T X.G X.C
  prim : PrimOk P X.T X.G X.prim
def mark (D : Nat) : Deferred := { target := .collected D, args := #[] }
def Marks (A : Nat → Prop) (ds : List Deferred) (w : World) : Prop := ∃ Ds : List Nat, ds = Ds.map mark ∧ Ds.Nodup ∧ ∀ D ∈ Ds, ¬ A D ∧ w.heap[D]? = some (.deferred (some []))
theorem Marks.keep {A : Nat → Prop} {ds : List Deferred} {g g' : Gh} {w w' : World} (h : Marks A ds w) (k : Kp A g w g' w') : Marks A ds w' := by
  obtain ⟨Ds, h1, h2, h3⟩ := h
  exact ⟨Ds, h1, h2, fun D hD => ⟨(h3 D hD).1, by rw [k.heap D (h3 D hD).1]; exact (h3 D hD).2⟩⟩
theorem put_strict (fr : Fr) (d : Option Tmp) (v : AV) : (fr.put d v).strict = fr.strict := by
  cases d with
  | none => rfl
  | some d => simp only [Fr.put]; split <;> rfl
structure Rel (X : Cx) (A : Nat → Prop) (sb : Bool) (g : Gh) (fr : Fr) (st : St) (a : Act) (w : World) : Prop where
  mode : fr.strict = sb
  fr : FrR g fr a.tmps
  inv : Inv X.T A g st w
  G : GR g X.G
  marks : Marks A a.defers w
theorem plain_mem : ∀ {l : List Oper} {o : Oper}, plainOps l = true → o ∈ l → o.guard = none
  | [], _, _, h => by cases h
  | a :: l, o, h, hm => by
    unfold plainOps at h
    cases ha : a.guard with
    | some x => rw [ha] at h; cases h
    | none =>
      rw [ha] at h
      rcases List.mem_cons.1 hm with rfl | hm
      · exact ha
      · exact plain_mem h hm
theorem plan_defer {T : TT} {prim : FuncId → Option Prim} {imm : TypeId → Bool} {G : Nat → Option (List AV)} {fr : Fr} {o : Op} {p : Plan} (h : plan T prim imm G fr o = .ok p) : ∀ c, o ≠ .defer c := by
  rintro c rfl
  cases h
theorem oper_sound {X : Cx} {e : Nat → Option Nat} {ro : Option Nat} {sb : Bool} (hX : Good P X) {ops : Array Oper} (hpl : sb = true → plainOps ops.toList = true) {i : Nat} {o : Oper} (ho : ops[i]? = some o) {fr : Fr} {a : Act} {v : AV} {fx : Fx} {K : Act → World → Prop} {Q : Exit → Act → World → Prop}
    (h : operE X e ops.toList fr st o = .ok (v, fx)) (hr : Rel X A sb g fr st a w)
    (hK : ∀ a' g' w', Rel X A sb g' (fr.put o.dst v) (fx.did.app st) a' w' → a'.defers = a.defers → Kp A g w g' w' → K a' w') : wpOpIn (fe ro) 0 P ops Q i K a w := by
  have hg : o.guard = none ∨ fr.strict = false := by
    cases hro : sb with
    | false => exact .inr (by rw [hr.mode, hro])
    | true => exact .inl (plain_mem (hpl hro) (List.mem_of_getElem? (l := ops.toList) (i := i) (by simpa using ho)))
  unfold operE at h
  unfold wpOpIn
  simp only [ho]
  rw [← wanted_eq o hr.fr hg]
  split at h
  · rename_i hw
    rw [hw, if_pos rfl]
    split at h
    · rename_i t nm hh
      refine wpR_in (hatch_op X hX.T (hatchOf_ok hh) h hr.inv fun x w' hp => ?_) (fun c hc => by rw [hatchOf_ok hh] at hc; cases hc)
      obtain ⟨g', p1, p2, p3⟩ := hp
      exact hK _ g' w' ⟨by rw [put_strict]; exact hr.mode, put_tmps (hr.fr.mono p3.le) p1 _, p2, hr.G.mono p3.le, by rw [put_defers]; exact hr.marks.keep p3⟩ (put_defers _ _ _) p3
    · simp only [bind_ok] at h
      obtain ⟨p, h1, h2⟩ := h
      refine wpR_in (plan_sound X hX.T hX.C hX.prim h1 h2 hr.G hr.fr hr.inv fun x w' hp => ?_) (plan_defer h1)
      obtain ⟨g', p1, p2, p3⟩ := hp
      exact hK _ g' w' ⟨by rw [put_strict]; exact hr.mode, put_tmps (hr.fr.mono p3.le) p1 _, p2, hr.G.mono p3.le, by rw [put_defers]; exact hr.marks.keep p3⟩ (put_defers _ _ _) p3
  · rename_i hw
    rw [hw, if_neg (by simp)]
    simp only [Except.ok.injEq, Prod.mk.injEq] at h
    obtain ⟨rfl, rfl⟩ := h
    exact ⟨fun _ _ => trivial, hK _ g w ⟨by rw [put_strict]; exact hr.mode, put_tmps hr.fr R_undef _, hr.inv, hr.G, by rw [put_defers]; exact hr.marks⟩ (put_defers _ _ _) (Kp.refl _ _ _)⟩
inductive Runs (X : Cx) (e : Nat → Option Nat) (all : List Oper) : List (Nat × AV × Fx) → Fr → St → Fr → St → Prop
  | nil {fr : Fr} {st : St} : Runs X e all [] fr st fr st
  | cons {j : Nat} {v : AV} {x : Fx} {o : Oper} {l : List (Nat × AV × Fx)} {fr fr' : Fr} {st st' : St} (ho : all[j]? = some o) (h : operE X e all fr st o = .ok (v, x))
      (t : Runs X e all l (fr.put o.dst v) (x.did.app st) fr' st') : Runs X e all ((j, v, x) :: l) fr st fr' st'
theorem wpOps_of_runs {X : Cx} {e : Nat → Option Nat} {ro : Option Nat} {sb : Bool} (hX : Good P X) {ops : Array Oper} (hpl : sb = true → plainOps ops.toList = true) {Q : Exit → Act → World → Prop} : ∀ {l : List (Nat × AV × Fx)} {fr fr' : Fr} {st st' : St}, Runs X e ops.toList l fr st fr' st' →
    ∀ {g : Gh} {a : Act} {w : World}, Rel X A sb g fr st a w → (∀ a' g' w', Rel X A sb g' fr' st' a' w' → a'.defers = a.defers → Kp A g w g' w' → Q .normal a' w') → wpOpsIn (fe ro) 0 P ops Q (l.map (·.1)) a w
  | _, _, _, _, _, .nil, g, a, w, hr, hQ => hQ a g w hr rfl (Kp.refl _ _ _)
  | _, _, _, _, _, .cons (j := j) (o := o) ho h t, g, a, w, hr, hQ => by
    simp only [List.map_cons]
    rw [wpOpsIn_cons]
    exact oper_sound hX hpl (by simpa using ho) h hr fun a' g' w' hr' hd hk => wpOps_of_runs hX hpl t hr' fun a'' g'' w'' hr'' hd' hk' => hQ a'' g'' w'' hr'' (hd'.trans hd) (hk.trans hk')
end
end Go.VM
namespace Go.VM
theorem evalO_congr {G : Nat → Option (List AV)} {fr fr2 : Fr} {x : Operand} (hs : fr.strict = fr2.strict) (h : ∀ t, x = .tmp t → fr.t.get t = fr2.t.get t) : evalO G fr x = evalO G fr2 x := by
  cases x with
  | tmp t => simp only [evalO, Fr.get, hs, h t rfl]
  | _ => rfl
theorem evalL_congr {G : Nat → Option (List AV)} {fr fr2 : Fr} : ∀ {xs : List Operand}, (∀ x ∈ xs, evalO G fr x = evalO G fr2 x) → evalL G fr xs = evalL G fr2 xs
  | [], _ => rfl
  | x :: xs, h => by simp only [evalL, h x (by simp), evalL_congr (xs := xs) fun y hy => h y (by simp [hy])]
theorem evalOpt_congr {G : Nat → Option (List AV)} {fr fr2 : Fr} {x : Option Operand} (h : ∀ y, x = some y → evalO G fr y = evalO G fr2 y) : evalOpt G fr x = evalOpt G fr2 x := by
  cases x with
  | none => rfl
  | some y => simp only [evalOpt, h y rfl]
theorem evalParts_congr {G : Nat → Option (List AV)} {fr fr2 : Fr} : ∀ {xs : List (Nat × Operand)}, (∀ x ∈ xs, evalO G fr x.2 = evalO G fr2 x.2) → evalParts G fr xs = evalParts G fr2 xs
  | [], _ => rfl
  | (i, x) :: xs, h => by simp only [evalParts, h (i, x) (by simp), evalParts_congr (xs := xs) fun y hy => h y (by simp [hy])]
theorem plan_congr {T : TT} {prim : FuncId → Option Prim} {imm : TypeId → Bool} {G : Nat → Option (List AV)} {fr fr2 : Fr} {op : Op} (h : ∀ x ∈ op.operands, evalO G fr x = evalO G fr2 x) :
    plan T prim imm G fr op = plan T prim imm G fr2 op := by
  cases op <;> simp only [plan] <;> simp only [Op.operands] at h
  case move x => rw [h x (by simp)]
  case assign x => rw [h x (by simp)]
  case pick c x y => rw [h c (by simp), h x (by simp), h y (by simp)]
  case box t x => rw [h x (by simp)]
  case build t ps => rw [evalParts_congr fun x hx => h x.2 (by simp only [List.mem_toArray, List.mem_map]; exact ⟨x, hx, rfl⟩)]
  case buildSlice t n ps => rw [evalParts_congr fun x hx => h x.2 (by simp only [List.mem_toArray, List.mem_map]; exact ⟨x, hx, rfl⟩)]
  case makeSlice t x y => rw [h x (by simp), h y (by simp)]
  case load t x => rw [h x (by simp)]
  case store t x y => rw [h x (by simp), h y (by simp)]
  case nilCheck x => rw [h x (by simp)]
  case binOp op t x y _ => rw [h x (by simp), h y (by simp)]
  case unOp op t x => rw [h x (by simp)]
  case convert s d x => rw [h x (by simp)]
  case makeInterface t x => rw [h x (by simp)]
  case makeFunc f a b =>
    rw [evalL_congr fun x hx => h x (by simp only [Array.mem_append]; exact .inl (by simpa using hx)), evalL_congr (xs := b.toList) fun x hx => h x (by simp only [Array.mem_append]; exact .inr (by simpa using hx))]
  case slice t x lo hi mx =>
    have hx := h x (by simp)
    have hl : evalOpt G fr lo = evalOpt G fr2 lo := evalOpt_congr fun y hy => h y (by subst hy; simp)
    have hh : evalOpt G fr hi = evalOpt G fr2 hi := evalOpt_congr fun y hy => h y (by subst hy; simp)
    have hm : evalOpt G fr mx = evalOpt G fr2 mx := evalOpt_congr fun y hy => h y (by subst hy; simp)
    rw [hx, hl, hh, hm]
  case fieldAddr t x f => rw [h x (by simp)]
  case field t x f => rw [h x (by simp)]
  case indexAddr t x y => rw [h x (by simp), h y (by simp)]
  case index t x y => rw [h x (by simp), h y (by simp)]
  case lookup t x y ok => rw [h x (by simp), h y (by simp)]
  case mapUpdate t m k v => rw [h m (by simp), h k (by simp), h v (by simp)]
  case insert t m k v => rw [h m (by simp), h k (by simp), h v (by simp)]
  case range t x => rw [h x (by simp)]
  case next x b =>
    cases b with
    | true => show (do nextP (← evalO G fr x)) = (do nextP (← evalO G fr2 x)); rw [h x (by simp)]
    | false => rfl
  case extract x i => rw [h x (by simp)]
  case makeMap t r => cases r <;> rfl
  case call c =>
    have ha : evalL G fr c.args.toList = evalL G fr2 c.args.toList := evalL_congr fun x hx => h x (by simp only [Call.operands, Array.mem_append]; exact .inr (by simpa using hx))
    rw [ha]
    cases hc : c.callee with
    | value f => simp only [h f (by simp [Call.operands, hc])]
    | builtin b => rfl
    | invoke r m => rfl
theorem Fr.get_put_ne {fr : Fr} {d : Option Tmp} {v : AV} {t : Nat} (h : d ≠ some t) : (fr.put d v).t.get t = fr.t.get t := by
  cases d with
  | none => rfl
  | some d =>
    simp only [Fr.put]
    split
    · have : d ≠ t := fun e => h (by rw [e])
      simp [Tr.get_put, this]
    · rfl
theorem Fr.put_comm {fr : Fr} {d e : Option Tmp} {v u : AV} (h : ∀ t, d = some t → e ≠ some t) : (fr.put d v).put e u = (fr.put e u).put d v := by
  cases d with
  | none => rfl
  | some d =>
    cases e with
    | none => rfl
    | some e =>
      have hne : d ≠ e := fun k => h d rfl (by rw [k])
      simp only [Fr.put]
      cases hd : d.blt fr.n <;> cases e.blt fr.n <;> simp [hd, Tr.put_comm _ _ _ _ _ hne]
theorem oper_frame {X : Cx} {e : Nat → Option Nat} {ops : Array Oper} {fr fr2 : Fr} {st : St} {o : Oper} (hs : fr.strict = fr2.strict) (h : ∀ t ∈ o.looksAt ops, fr.t.get t = fr2.t.get t) : operE X e ops.toList fr st o = operE X e ops.toList fr2 st o := by
  have hw : wanted ops.toList fr o.guard = wanted ops.toList fr2 o.guard := by
    unfold wanted
    cases hg : o.guard with
    | none => rfl
    | some p =>
      obtain ⟨j, want⟩ := p
      simp only [Array.getElem?_toList]
      cases hd : (ops[j]?).bind (·.dst) with
      | none => rfl
      | some d =>
        simp only [Fr.get]
        rw [h d (by simp [Oper.looksAt, hg, hd])]
  unfold operE
  rw [hw, plan_congr fun x hx => evalO_congr hs fun t ht => h t (by
    subst ht
    simp only [Oper.looksAt, List.mem_append, List.mem_filterMap]
    exact .inl ⟨.tmp t, by simpa using hx, rfl⟩)]
theorem St.put_put {st : St} {i j : Nat} {a b : Obj} (h : i ≠ j) : (st.put i a).put j b = (st.put j b).put i a := by
  simp only [St.put, Tr.put_comm _ _ _ _ _ h]
theorem St.new_put {st : St} {i : Nat} {a b : Obj} (h : i ≠ st.h) : ((st.put i a).new b).2 = ((st.new b).2).put i a := by
  simp only [St.put, St.new, Tr.put_comm _ _ _ _ _ h]
theorem St.get_new_ne {st : St} {o : Obj} {r : Nat} (h : r ≠ st.h) : (st.new o).2.get r = st.get r := by
  simp only [St.get, St.new]
  cases h1 : r.blt (st.h + 1) <;> cases h2 : r.blt st.h <;> simp only [Tr.get_put]
  · rw [blt_false] at h1; rw [blt_true] at h2; omega
  · rw [blt_true] at h1; rw [blt_false] at h2; omega
  · rw [if_neg (fun e => h e.symm)]
theorem sameStr_eq : ∀ {a b : List UInt8}, sameStr a b = true → a = b
  | [], [], _ => rfl
  | a :: l, b :: m, h => by
    unfold sameStr at h
    split at h
    · rename_i e
      rw [UInt8.toNat_inj.1 (Nat.eq_of_beq_eq_true e), sameStr_eq h]
    · cases h
  | [], _ :: _, h => by simp [sameStr] at h
  | _ :: _, [], h => by simp [sameStr] at h
theorem sameAll_eq {g : AV → AV → Bool} (hg : ∀ a b, g a b = true → a = b) : ∀ {a b : List AV}, sameAll g a b = true → a = b
  | [], [], _ => rfl
  | a :: l, b :: m, h => by
    unfold sameAll at h
    split at h
    · rename_i e
      rw [hg _ _ e, sameAll_eq hg h]
    · cases h
  | [], _ :: _, h => by simp [sameAll] at h
  | _ :: _, [], h => by simp [sameAll] at h
theorem sameAV_eq : ∀ (f : Nat) (a b : AV), sameAV f a b = true → a = b
  | 0, _, _, h => by simp [sameAV] at h
  | f + 1, a, b, h => by
    have ih := fun {l m : List AV} (h : sameAll (sameAV f) l m = true) => sameAll_eq (sameAV_eq f) h
    unfold sameAV at h
    split at h
    · rw [eq_of_beq h]
    · simp only [Bool.and_eq_true, decide_eq_true_eq] at h
      rw [h.1, h.2]
    · rw [sameStr_eq h]
    · rfl
    · rfl
    · rfl
    · rfl
    · rfl
    · rfl
    · rw [ih h]
    · simp only [Bool.and_eq_true, Nat.beq_eq] at h
      rw [h.1, h.2]
    · rw [Nat.eq_of_beq_eq_true h]
    · simp only [Bool.and_eq_true, Nat.beq_eq] at h
      rw [h.1.1, h.1.2, h.2]
    · simp only [Bool.and_eq_true, Nat.beq_eq] at h
      rw [h.1.1, h.1.2, h.2]
    · simp only [Bool.and_eq_true, Nat.beq_eq] at h
      obtain ⟨⟨⟨⟨rfl, rfl⟩, rfl⟩, rfl⟩, rfl⟩ := h
      rfl
    · simp only [Bool.and_eq_true, Nat.beq_eq, decide_eq_true_eq] at h
      rw [h.1.1, h.1.2, ih h.2]
    · simp only [Bool.and_eq_true, Nat.beq_eq] at h
      rw [h.1, sameAV_eq f _ _ h.2]
    · rw [ih h]
    · rw [ih h]
    · cases h
theorem sameObj_eq {a b : Obj} (h : sameObj a b = true) : a = b := by
  unfold sameObj at h
  split at h
  · simp only [Bool.and_eq_true, Nat.beq_eq] at h
    rw [h.1, sameAll_eq (sameAV_eq _) h.2]
  · simp only [Bool.and_eq_true, Nat.beq_eq] at h
    rw [h.1, h.2]
  · simp only [Bool.and_eq_true, Nat.beq_eq] at h
    rw [h.1.1.1, h.1.1.2, h.1.2, sameAll_eq (sameAV_eq _) h.2]
  · simp only [Bool.and_eq_true, Nat.beq_eq] at h
    rw [h.1.1.1, h.1.1.2, h.1.2, sameAll_eq (sameAV_eq _) h.2]
  · cases h
theorem sameAt_eq {s t : St} {i : Nat} (h : sameAt s t i = true) : t.get i = s.get i := by
  unfold sameAt at h
  split at h
  · rename_i a b h1 h2
    rw [h1, h2, sameObj_eq h]
  · cases h
def Same (x : Fx) (st st2 : St) : Prop :=
  match x.did with
  | .kept => ∀ r ∈ x.reads, st2.get r = st.get r
  | .wrote _ _ => st2.ro = st.ro ∧ ∀ r ∈ x.reads, st2.get r = st.get r
  | .made _ _ => st2.h = st.h
  | .looked => st2 = st
  | .all _ _ => st2 = st
theorem oper_same {X : Cx} {e : Nat → Option Nat} {all : List Oper} {fr : Fr} {st st2 : St} {o : Oper} {v : AV} {x : Fx} (h : operE X e all fr st o = .ok (v, x)) (hs : Same x st st2) : operE X e all fr st2 o = .ok (v, x) := by
  unfold operE at h ⊢
  split at h
  · split at h
    · rename_i t nm hh
      obtain ⟨i, h1, h2, h3, rfl, rfl⟩ := hatch_ok h
      obtain ⟨s1, s2⟩ := hs
      exact hatch_mk h1 (by rw [s2 nm (by simp)]; exact h2) (by rw [s1]; exact h3)
    simp only [bind_ok] at h ⊢
    obtain ⟨p, h1, h2⟩ := h
    refine ⟨p, h1, ?_⟩
    cases p with
    | val u => exact h2
    | obj id f =>
      simp only [runPlan, bind_ok, pure_ok] at h2 ⊢
      obtain ⟨ob, h3, ⟨v', o'⟩, h4, d, h5, h6⟩ := h2
      simp only [Prod.mk.injEq] at h6
      obtain ⟨rfl, rfl⟩ := h6
      cases o' with
      | none =>
        simp only [didOf, Except.ok.injEq] at h5
        subst h5
        refine ⟨ob, by rw [hs id (by simp)]; exact h3, ⟨v', none⟩, h4, .kept, rfl, rfl⟩
      | some ob' =>
        simp only [didOf] at h5
        split at h5
        · cases h5
        · rename_i hro
          simp only [Except.ok.injEq] at h5
          subst h5
          obtain ⟨s1, s2⟩ := hs
          refine ⟨ob, by rw [s2 id (by simp)]; exact h3, ⟨v', some ob'⟩, h4, .wrote id ob', ?_, rfl⟩
          simp only [didOf, s1, hro]
    | both id k f =>
      have : x.did = .looked := by
        simp only [runPlan, bind_ok] at h2
        obtain ⟨ob, _, r, _, h3⟩ := h2
        cases r with
        | none =>
          simp only [bind_ok, pure_ok, Prod.mk.injEq] at h3
          obtain ⟨_, _, _, rfl⟩ := h3; rfl
        | some j =>
          dsimp only at h3
          split at h3
          · simp only [bind_ok, pure_ok, Prod.mk.injEq] at h3
            obtain ⟨_, _, _, _, _, rfl⟩ := h3; rfl
          · cases h3
      rw [Same, this] at hs
      have hs : st2 = st := hs
      rw [hs]; exact h2
    | new ob f =>
      simp only [runPlan, Except.ok.injEq, Prod.mk.injEq] at h2 ⊢
      obtain ⟨rfl, rfl⟩ := h2
      have : st2.h = st.h := hs
      rw [this]
      simp
    | call f args =>
      simp only [runPlan] at h2 ⊢
      split at h2
      · exact h2
      · split at h2
        · simp only [bind_ok, pure_ok, Prod.mk.injEq] at h2
          obtain ⟨v', h3, rfl, rfl⟩ := h2
          have : st2 = st := hs
          rw [this]
          simp only [bind_ok, pure_ok]
          exact ⟨v', h3, rfl⟩
        · simp only [bind_ok, pure_ok] at h2
          obtain ⟨⟨v', s'⟩, h3, h4⟩ := h2
          simp only [Prod.mk.injEq] at h4
          obtain ⟨rfl, rfl⟩ := h4
          have : st2 = st := hs
          rw [this]
          simp only [bind_ok, pure_ok]
          exact ⟨(v', s'), h3, rfl⟩
    | yield k args =>
      simp only [runPlan, bind_ok, pure_ok] at h2 ⊢
      obtain ⟨⟨v', s'⟩, h3, h4⟩ := h2
      simp only [Prod.mk.injEq] at h4
      obtain ⟨rfl, rfl⟩ := h4
      have : st2 = st := hs
      rw [this]
      exact ⟨(v', s'), h3, rfl⟩
  · exact h
theorem oper_all {X : Cx} {e : Nat → Option Nat} {all : List Oper} {fr : Fr} {st s0 s1 : St} {o : Oper} {v : AV} {rs : List Nat} (h : operE X e all fr st o = .ok (v, ⟨rs, .all s0 s1⟩)) : s0 = st := by
  unfold operE at h
  split at h
  · split at h
    · obtain ⟨i, h1, h2, h3, h4, h5⟩ := hatch_ok h
      simp at h5
    simp only [bind_ok] at h
    obtain ⟨p, h1, h2⟩ := h
    cases p with
    | val u => simp [runPlan] at h2
    | obj id f =>
      simp only [runPlan, bind_ok, pure_ok] at h2
      obtain ⟨ob, h3, ⟨v', o'⟩, h4, d, h5, h6⟩ := h2
      simp only [Prod.mk.injEq, Fx.mk.injEq] at h6
      obtain ⟨_, _, rfl⟩ := h6
      cases o' with
      | none => simp [didOf] at h5
      | some _ => simp only [didOf] at h5; split at h5 <;> simp at h5
    | both id k f =>
      simp only [runPlan, bind_ok] at h2
      obtain ⟨ob, _, r, _, h3⟩ := h2
      cases r with
      | none =>
        simp only [bind_ok, pure_ok, Prod.mk.injEq] at h3
        obtain ⟨_, _, _, h3⟩ := h3; simp at h3
      | some j =>
        dsimp only at h3
        split at h3
        · simp only [bind_ok, pure_ok, Prod.mk.injEq] at h3
          obtain ⟨_, _, _, _, _, h3⟩ := h3; simp at h3
        · cases h3
    | new ob f =>
      simp only [runPlan, Except.ok.injEq, Prod.mk.injEq, Fx.mk.injEq] at h2
      have := h2.2.2; simp at this
    | call f args =>
      simp only [runPlan] at h2
      split at h2
      · simp only [bind_ok, pure_ok] at h2
        obtain ⟨_, _, h3⟩ := h2
        simp at h3
      · split at h2
        · simp only [bind_ok, pure_ok] at h2
          obtain ⟨_, _, h3⟩ := h2
          simp at h3
        · simp only [bind_ok, pure_ok] at h2
          obtain ⟨_, _, h3⟩ := h2
          simp only [Prod.mk.injEq, Fx.mk.injEq, Did.all.injEq] at h3
          exact h3.2.2.1.symm
    | yield k args =>
      simp only [runPlan, bind_ok, pure_ok] at h2
      obtain ⟨_, _, h3⟩ := h2
      simp only [Prod.mk.injEq, Fx.mk.injEq, Did.all.injEq] at h3
      exact h3.2.2.1.symm
  · simp at h
theorem oper_made {X : Cx} {e : Nat → Option Nat} {all : List Oper} {fr : Fr} {st : St} {o : Oper} {v : AV} {rs : List Nat} {n : Nat} {ob : Obj} (h : operE X e all fr st o = .ok (v, ⟨rs, .made n ob⟩)) : n = st.h ∧ rs = [] := by
  unfold operE at h
  split at h
  · split at h
    · obtain ⟨i, h1, h2, h3, h4, h5⟩ := hatch_ok h
      simp at h5
    simp only [bind_ok] at h
    obtain ⟨p, h1, h2⟩ := h
    cases p with
    | val u => simp [runPlan] at h2
    | obj id f =>
      simp only [runPlan, bind_ok, pure_ok] at h2
      obtain ⟨ob, h3, ⟨v', o'⟩, h4, d, h5, h6⟩ := h2
      simp only [Prod.mk.injEq, Fx.mk.injEq] at h6
      obtain ⟨_, _, rfl⟩ := h6
      cases o' with
      | none => simp [didOf] at h5
      | some _ => simp only [didOf] at h5; split at h5 <;> simp at h5
    | both id k f =>
      simp only [runPlan, bind_ok] at h2
      obtain ⟨ob, _, r, _, h3⟩ := h2
      cases r with
      | none =>
        simp only [bind_ok, pure_ok, Prod.mk.injEq] at h3
        obtain ⟨_, _, _, h3⟩ := h3; simp at h3
      | some j =>
        dsimp only at h3
        split at h3
        · simp only [bind_ok, pure_ok, Prod.mk.injEq] at h3
          obtain ⟨_, _, _, _, _, h3⟩ := h3; simp at h3
        · cases h3
    | new ob f =>
      simp only [runPlan, Except.ok.injEq, Prod.mk.injEq, Fx.mk.injEq, Did.made.injEq] at h2
      exact ⟨h2.2.2.1.symm, h2.2.1.symm⟩
    | call f args =>
      simp only [runPlan] at h2
      split at h2
      · simp only [bind_ok, pure_ok] at h2
        obtain ⟨_, _, h3⟩ := h2
        simp at h3
      · split at h2 <;> simp only [bind_ok, pure_ok] at h2 <;> obtain ⟨_, _, h3⟩ := h2 <;> simp at h3
    | yield k args =>
      simp only [runPlan, bind_ok, pure_ok] at h2
      obtain ⟨_, _, h3⟩ := h2
      simp at h3
  · simp at h
theorem contains_ne {l : List Nat} {i : Nat} (h : l.contains i = false) : ∀ r ∈ l, i ≠ r := fun r hr e => by
  subst e
  have : l.contains i = true := by simpa using hr
  rw [this] at h; cases h
theorem turn_store {X : Cx} {e : Nat → Option Nat} {all : List Oper} {fr1 fr2 : Fr} {st : St} {o1 o2 : Oper} {v1 v2 : AV} {x1 x2 : Fx} (h1 : operE X e all fr1 st o1 = .ok (v1, x1)) (h2 : operE X e all fr2 (x1.did.app st) o2 = .ok (v2, x2))
    (hq : quiet x1 = true ∨ quiet x2 = true ∨ apart x1 x2 = true) :
    Same x2 (x1.did.app st) st ∧ Same x1 st (x2.did.app st) ∧ x1.did.app (x2.did.app st) = x2.did.app (x1.did.app st) := by
  obtain ⟨r1, d1⟩ := x1
  obtain ⟨r2, d2⟩ := x2
  have hq' : (d1 = .kept ∧ r1 = []) ∨ (d2 = .kept ∧ r2 = []) ∨ apart ⟨r1, d1⟩ ⟨r2, d2⟩ = true := by
    rcases hq with hq | hq | hq
    · left; cases d1 <;> simp [quiet] at hq; exact ⟨rfl, hq⟩
    · right; left; cases d2 <;> simp [quiet] at hq; exact ⟨rfl, hq⟩
    · exact .inr (.inr hq)
  rcases hq' with ⟨rfl, rfl⟩ | ⟨rfl, rfl⟩ | hq
  · refine ⟨?_, by simp [Same], rfl⟩
    cases d2 <;> simp [Same, Did.app]
  · refine ⟨by simp [Same], ?_, rfl⟩
    cases d1 <;> simp [Same, Did.app]
  · cases d1 with
    | kept =>
      cases d2 with
      | kept => exact ⟨by simp [Same, Did.app], by simp [Same, Did.app], rfl⟩
      | looked => exact ⟨by simp [Same, Did.app], by simp [Same, Did.app], rfl⟩
      | wrote i o =>
        simp only [apart, Bool.not_eq_true'] at hq
        refine ⟨by simp [Same, Did.app], ?_, rfl⟩
        simp only [Same, Did.app]
        exact fun r hr => St.get_put_ne (contains_ne hq r hr)
      | made i o =>
        simp only [apart, Bool.not_eq_true'] at hq
        obtain ⟨hi, _⟩ := oper_made h2
        refine ⟨by simp [Same, Did.app], ?_, rfl⟩
        simp only [Same, Did.app]
        intro r hr
        exact St.get_new_ne fun e => contains_ne hq r hr (by rw [hi, e]; rfl)
      | all s0 s =>
        simp only [apart, List.all_eq_true] at hq
        obtain rfl : s0 = st := oper_all h2
        refine ⟨by simp [Same, Did.app], ?_, rfl⟩
        simp only [Same, Did.app]
        exact fun r hr => sameAt_eq (hq r hr)
    | wrote i o =>
      cases d2 with
      | kept =>
        simp only [apart, Bool.not_eq_true'] at hq
        refine ⟨?_, by simp [Same, Did.app], rfl⟩
        simp only [Same, Did.app]
        exact fun r hr => (St.get_put_ne (contains_ne hq r hr)).symm
      | looked => simp [apart, Did.isKept] at hq
      | wrote j p =>
        simp only [apart, Bool.and_eq_true, Bool.not_eq_true'] at hq
        obtain ⟨⟨q1, q2⟩, q3⟩ := hq
        have hij : i ≠ j := fun e => by subst e; simp at q1
        refine ⟨⟨rfl, fun r hr => (St.get_put_ne (contains_ne q2 r hr)).symm⟩, ⟨rfl, fun r hr => St.get_put_ne (contains_ne q3 r hr)⟩, ?_⟩
        simp only [Did.app]
        exact St.put_put fun e => hij e.symm
      | made j p =>
        simp only [apart, Bool.and_eq_true, Bool.not_eq_true'] at hq
        obtain ⟨⟨q1, q2⟩, q3⟩ := hq
        have hij : i ≠ j := fun e => by subst e; simp at q1
        obtain ⟨hj, _⟩ := oper_made h2
        have hj : j = st.h := hj
        refine ⟨rfl, ⟨rfl, fun r hr => St.get_new_ne fun e => contains_ne q3 r hr (by rw [hj, e])⟩, ?_⟩
        simp only [Did.app]
        exact (St.new_put (by rw [← hj]; exact hij)).symm
      | all s0 s => simp [apart] at hq
    | made i o =>
      obtain ⟨hi, hr1⟩ := oper_made h1
      cases d2 with
      | kept =>
        simp only [apart, Bool.not_eq_true'] at hq
        refine ⟨?_, by simp [Same, Did.app], rfl⟩
        simp only [Same, Did.app]
        exact fun r hr => (St.get_new_ne fun e => contains_ne hq r hr (by rw [hi, e])).symm
      | looked => simp [apart, Did.isKept] at hq
      | wrote j p =>
        simp only [apart, Bool.and_eq_true, Bool.not_eq_true'] at hq
        obtain ⟨⟨q1, q2⟩, q3⟩ := hq
        have hij : i ≠ j := fun e => by subst e; simp at q1
        refine ⟨⟨rfl, fun r hr => (St.get_new_ne fun e => contains_ne q2 r hr (by rw [hi, e])).symm⟩, rfl, ?_⟩
        simp only [Did.app]
        exact St.new_put fun e => hij (by rw [hi, e])
      | made j p => simp [apart] at hq
      | all s0 s => simp [apart] at hq
    | looked =>
      cases d2 with
      | kept => exact ⟨by simp [Same, Did.app], by simp [Same, Did.app], rfl⟩
      | looked => exact ⟨by simp [Same, Did.app], by simp [Same, Did.app], rfl⟩
      | wrote j p => simp [apart, Did.isKept] at hq
      | made j p => simp [apart, Did.isKept] at hq
      | all s0 s => simp [apart] at hq
    | all s0 s =>
      cases d2 with
      | kept =>
        simp only [apart, List.all_eq_true] at hq
        obtain rfl : s0 = st := oper_all h1
        refine ⟨?_, by simp [Same, Did.app], rfl⟩
        simp only [Same, Did.app]
        exact fun r hr => (sameAt_eq (hq r hr)).symm
      | _ => simp [apart] at hq
def Turn (ops : Array Oper) (p q : Nat × AV × Fx) : Prop :=
  (quiet p.2.2 = true ∨ quiet q.2.2 = true ∨ apart p.2.2 q.2.2 = true) ∧ ∀ o1 o2, ops[p.1]? = some o1 → ops[q.1]? = some o2 → o1.apart ops o2 = true
theorem runs_turn {X : Cx} {e : Nat → Option Nat} {ops : Array Oper} {p q : Nat × AV × Fx} {l : List (Nat × AV × Fx)} {fr fr' : Fr} {st st' : St} (h : Runs X e ops.toList (p :: q :: l) fr st fr' st') (ht : Turn ops p q) : Runs X e ops.toList (q :: p :: l) fr st fr' st' := by
  obtain ⟨i, v1, x1⟩ := p
  obtain ⟨j, v2, x2⟩ := q
  cases h with
  | cons ho1 h1 t =>
    cases t with
    | cons ho2 h2 t =>
      rename_i o1 o2
      obtain ⟨t1, t2⟩ := ht
      have hap := t2 o1 o2 (by simpa using ho1) (by simpa using ho2)
      obtain ⟨a1, a2, a3⟩ := Oper.apart_spec hap
      obtain ⟨s1, s2, s3⟩ := turn_store h1 h2 t1
      have h2' : operE X e ops.toList fr st o2 = .ok (v2, x2) := by
        have := oper_same h2 s1
        rw [← this]
        exact oper_frame (put_strict _ _ _).symm fun t ht => (Fr.get_put_ne fun e => a1 t e ht).symm
      have h1' : operE X e ops.toList (fr.put o2.dst v2) (x2.did.app st) o1 = .ok (v1, x1) := by
        have := oper_same h1 s2
        rw [← this]
        exact oper_frame (put_strict _ _ _) fun t ht => Fr.get_put_ne fun e => a3 t e ht
      refine .cons ho2 h2' (.cons ho1 h1' ?_)
      rw [s3, Fr.put_comm (fun t e1 e2 => a2 t e2 e1)]
      exact t
theorem runs_first {X : Cx} {e : Nat → Option Nat} {ops : Array Oper} {q : Nat × AV × Fx} {l2 : List (Nat × AV × Fx)} {fr' : Fr} {st' : St} : ∀ {l1 : List (Nat × AV × Fx)} {fr : Fr} {st : St}, Runs X e ops.toList (l1 ++ q :: l2) fr st fr' st' → (∀ p ∈ l1, Turn ops p q) → Runs X e ops.toList (q :: (l1 ++ l2)) fr st fr' st'
  | [], _, _, h, _ => h
  | p :: l1, fr, st, h, ht => by
    cases h with
    | cons ho h t =>
      have ih := runs_first t fun p hp => ht p (by simp [hp])
      exact runs_turn (.cons ho h ih) (ht _ (by simp))
theorem regionOk_edge {ops : Array Oper} (h : regionOk ops.toList = true) {j : Nat} {o : Oper} {e : Edge} (ho : ops[j]? = some o) (he : e ∈ o.after) (hb : Region.binds .any e = true) : e.on < j := by
  simp only [regionOk, Bool.and_eq_true, List.all_eq_true] at h
  have := h.1 (o, j) (by
    rw [List.mem_zipIdx_iff_getElem?]
    simpa using ho)
  simp only at this
  have := this e (by simpa using he)
  rw [hb] at this
  simpa [blt_true] using this
theorem regionOk_pair {ops : Array Oper} (h : regionOk ops.toList = true) {i j : Nat} {o o' : Oper} (hij : i < j) (ho : ops[j]? = some o) (ho' : ops[i]? = some o') : o'.apart ops o = true ∨ behind ops.toList (j + 1) j i = true := by
  simp only [regionOk, Bool.and_eq_true, List.all_eq_true] at h
  have := h.2 (o, j) (by
    rw [List.mem_zipIdx_iff_getElem?]
    simpa using ho)
  simp only at this
  have := this (o', i) (by
    rw [List.mem_iff_getElem?]
    refine ⟨i, ?_⟩
    rw [List.getElem?_take, if_pos hij, List.getElem?_zipIdx]
    simp [ho'])
  simpa using this
def Cm (ops : List Oper) (p q : Nat × AV × Fx) : Prop := quiet p.2.2 = true ∨ quiet q.2.2 = true ∨ apart p.2.2 q.2.2 = true ∨ behind ops (q.1 + 1) q.1 p.1 = true
theorem orderly_spec {ops : List Oper} {j : Nat} {x : Fx} : ∀ {seen : List (Nat × Fx)}, orderly ops j x seen = true → ∀ p ∈ seen, apart p.2 x = true ∨ behind ops (j + 1) j p.1 = true
  | [], _, p, hp => by cases hp
  | (i, y) :: l, h, p, hp => by
    simp only [orderly, Bool.and_eq_true, Bool.or_eq_true] at h
    rcases List.mem_cons.1 hp with rfl | hp
    · exact h.1
    · exact orderly_spec h.2 p hp
theorem opsFrom_runs {X : Cx} {all : List Oper} {draw : Bool} : ∀ {l : List Oper} {j : Nat} {seen : List (Nat × Fx)} {fr fr' : Fr} {st st' : St}, opsFrom X all draw j seen l fr st = .ok (fr', st') → l = all.drop j →
    ∃ L, Runs X (fun _ => none) all L fr st fr' st' ∧ L.map (·.1) = List.range' j l.length ∧ (draw = true → L.Pairwise (Cm all) ∧ ∀ s ∈ seen, ∀ q ∈ L, quiet q.2.2 = true ∨ apart s.2 q.2.2 = true ∨ behind all (q.1 + 1) q.1 s.1 = true)
  | [], j, seen, fr, fr', st, st', h, hl => by
    simp only [opsFrom, Except.ok.injEq, Prod.mk.injEq] at h
    obtain ⟨rfl, rfl⟩ := h
    exact ⟨[], .nil, rfl, fun _ => ⟨.nil, by simp⟩⟩
  | o :: l, j, seen, fr, fr', st, st', h, hl => by
    simp only [opsFrom, bind_ok] at h
    obtain ⟨⟨v, x⟩, h1, h2⟩ := h
    have ho : all[j]? = some o := by
      have := congrArg (·[0]?) hl
      simpa using this.symm
    have hl' : l = all.drop (j + 1) := by
      have := congrArg List.tail hl
      simpa [List.tail_drop] using this
    split at h2
    · rename_i hd
      obtain ⟨L, k1, k2, k3⟩ := opsFrom_runs h2 hl'
      refine ⟨(j, v, x) :: L, .cons ho ((operE_none X all fr st o).trans h1) k1, by simp [k2, List.range'_succ], fun hdr => ?_⟩
      have hq : quiet x = true := by rw [hdr] at hd; simpa using hd
      obtain ⟨m1, m2⟩ := k3 hdr
      refine ⟨.cons (fun q _ => .inl hq) m1, fun s hs q hq' => ?_⟩
      rcases List.mem_cons.1 hq' with rfl | hq'
      · exact .inl hq
      · exact m2 s hs q hq'
    · rename_i hd
      split at h2
      · rename_i hor
        obtain ⟨L, k1, k2, k3⟩ := opsFrom_runs h2 hl'
        refine ⟨(j, v, x) :: L, .cons ho ((operE_none X all fr st o).trans h1) k1, by simp [k2, List.range'_succ], fun hdr => ?_⟩
        obtain ⟨m1, m2⟩ := k3 hdr
        refine ⟨.cons (fun q hq => ?_) m1, fun s hs q hq' => ?_⟩
        · rcases m2 (j, x) (by simp) q hq with h | h | h
          · exact .inr (.inl h)
          · exact .inr (.inr (.inl h))
          · exact .inr (.inr (.inr h))
        · rcases List.mem_cons.1 hq' with rfl | hq'
          · exact .inr (orderly_spec hor s hs)
          · exact m2 s (by simp [hs]) q hq'
      · cases h2
theorem opsFromE_runs {X : Cx} {e : Nat → Option Nat} {all : List Oper} : ∀ {l : List Oper} {j : Nat} {seen : List (Nat × Fx)} {fr fr' : Fr} {st st' : St}, opsFromE X e all j seen l fr st = .ok (fr', st') → l = all.drop j →
    ∃ L, Runs X e all L fr st fr' st' ∧ L.map (·.1) = List.range' j l.length ∧ L.Pairwise (Cm all) ∧ ∀ s ∈ seen, ∀ q ∈ L, quiet q.2.2 = true ∨ apart s.2 q.2.2 = true ∨ behind all (q.1 + 1) q.1 s.1 = true
  | [], j, seen, fr, fr', st, st', h, hl => by
    simp only [opsFromE, Except.ok.injEq, Prod.mk.injEq] at h
    obtain ⟨rfl, rfl⟩ := h
    exact ⟨[], .nil, rfl, .nil, by simp⟩
  | o :: l, j, seen, fr, fr', st, st', h, hl => by
    simp only [opsFromE, bind_ok] at h
    obtain ⟨⟨v, x⟩, h1, h2⟩ := h
    have ho : all[j]? = some o := by
      have := congrArg (·[0]?) hl
      simpa using this.symm
    have hl' : l = all.drop (j + 1) := by
      have := congrArg List.tail hl
      simpa [List.tail_drop] using this
    split at h2
    · rename_i hd
      obtain ⟨L, k1, k2, k3⟩ := opsFromE_runs h2 hl'
      refine ⟨(j, v, x) :: L, .cons ho h1 k1, by simp [k2, List.range'_succ], ?_⟩
      have hq : quiet x = true := by simpa using hd
      obtain ⟨m1, m2⟩ := k3
      refine ⟨.cons (fun q _ => .inl hq) m1, fun s hs q hq' => ?_⟩
      rcases List.mem_cons.1 hq' with rfl | hq'
      · exact .inl hq
      · exact m2 s hs q hq'
    · rename_i hd
      split at h2
      · rename_i hor
        obtain ⟨L, k1, k2, k3⟩ := opsFromE_runs h2 hl'
        refine ⟨(j, v, x) :: L, .cons ho h1 k1, by simp [k2, List.range'_succ], ?_⟩
        obtain ⟨m1, m2⟩ := k3
        refine ⟨.cons (fun q hq => ?_) m1, fun s hs q hq' => ?_⟩
        · rcases m2 (j, x) (by simp) q hq with h | h | h
          · exact .inr (.inl h)
          · exact .inr (.inr (.inl h))
          · exact .inr (.inr (.inr h))
        · rcases List.mem_cons.1 hq' with rfl | hq'
          · exact .inr (orderly_spec hor s hs)
          · exact m2 s (by simp [hs]) q hq'
      · cases h2
structure Conf (ops : Array Oper) (listed : Array Bool) (L : List (Nat × AV × Fx)) : Prop where
  left : ∀ k, k < ops.size → (listed.getD k true = false ↔ k ∈ L.map (·.1))
  lt : ∀ k ∈ L.map (·.1), k < ops.size
  sorted : (L.map (·.1)).Pairwise (· < ·)
  closed : ∀ k o e, ops[k]? = some o → listed.getD k true = true → e ∈ o.after → Region.binds .any e = true → listed.getD e.on false = true
  size : listed.size = ops.size
  cm : L.Pairwise (Cm ops.toList)
theorem getD_true {l : Array Bool} {k : Nat} : l.getD k false = true → l.getD k true = true := by
  simp only [Array.getD_eq_getD_getElem?]
  cases l[k]? <;> simp
theorem behind_listed {ops : Array Oper} {listed : Array Bool} {L : List (Nat × AV × Fx)} (hc : Conf ops listed L) : ∀ (f j i : Nat), behind ops.toList f j i = true →
    (∀ o e, ops[j]? = some o → e ∈ o.after → Region.binds .any e = true → listed.getD e.on false = true) → listed.getD i true = true
  | 0, _, _, h, _ => by simp [behind] at h
  | f + 1, j, i, h, hr => by
    simp only [behind, Array.getElem?_toList] at h
    split at h
    · rename_i o ho
      simp only [List.any_eq_true, Bool.and_eq_true, Bool.or_eq_true] at h
      obtain ⟨e, he, hb, h2⟩ := h
      have hl := hr o e ho (by simpa using he) hb
      rcases h2 with h2 | ⟨_, h2⟩
      · rw [← Nat.eq_of_beq_eq_true h2]; exact getD_true hl
      · exact behind_listed hc f e.on i h2 fun o' e' ho' he' hb' => hc.closed e.on o' e' ho' (getD_true hl) he' hb'
    · cases h
theorem mem_ready {ops : Array Oper} {listed : Array Bool} {i : Nat} : i ∈ Region.ready .any ops listed ↔ i < ops.size ∧ listed.getD i true = false ∧ ∀ o e, ops[i]? = some o → e ∈ o.after → Region.binds .any e = true → listed.getD e.on false = true := by
  simp only [Region.ready, List.mem_filter, List.mem_range, Bool.and_eq_true, Bool.not_eq_true']
  constructor
  · rintro ⟨h1, h2, h3⟩
    refine ⟨h1, h2, fun o e ho he hb => ?_⟩
    rw [ho] at h3
    simp only [Option.map_some, Option.getD_some, Array.all_eq_true'] at h3
    have := h3 e he
    rw [hb] at this
    simpa using this
  · rintro ⟨h1, h2, h3⟩
    refine ⟨h1, h2, ?_⟩
    rw [Array.getElem?_eq_getElem h1]
    simp only [Option.map_some, Option.getD_some, Array.all_eq_true']
    intro e he
    cases hb : Region.binds .any e with
    | false => rfl
    | true => simpa using h3 _ e (Array.getElem?_eq_getElem h1) he hb
section
variable {P : Program} {A : Nat → Prop}
theorem wpAny_of {X : Cx} {e0 : Nat → Option Nat} {ro : Option Nat} {sb : Bool} (hX : Good P X) {ops : Array Oper} (hpl : sb = true → plainOps ops.toList = true) (hok : regionOk ops.toList = true) {Q : Exit → Act → World → Prop} {fr' : Fr} {st' : St} : ∀ (fuel : Nat) (listed : Array Bool) (L : List (Nat × AV × Fx)) (fr : Fr) (st : St) (g : Gh) (a : Act) (w : World),
    L.length = fuel → Conf ops listed L → Runs X e0 ops.toList L fr st fr' st' → Rel X A sb g fr st a w → (∀ a' g' w', Rel X A sb g' fr' st' a' w' → a'.defers = a.defers → Kp A g w g' w' → Q .normal a' w') → wpAnyIn (fe ro) 0 P .any ops Q fuel listed a w
  | 0, listed, L, fr, st, g, a, w, hl, hc, hr, hrel, hQ => by
    have : L = [] := List.eq_nil_of_length_eq_zero hl
    subst this
    cases hr
    refine ⟨?_, hQ a g w hrel rfl (Kp.refl _ _ _)⟩
    apply List.eq_nil_iff_forall_not_mem.2
    intro i hi
    obtain ⟨h1, h2, _⟩ := mem_ready.1 hi
    have := (hc.left i h1).1 h2
    cases this
  | fuel + 1, listed, L, fr, st, g, a, w, hl, hc, hr, hrel, hQ => by
    refine ⟨fun hnil => ?_, fun i hi => ?_⟩
    · exfalso
      cases L with
      | nil => simp at hl
      | cons p L =>
        have hp := hc.lt p.1 (by simp)
        have : p.1 ∈ Region.ready .any ops listed := mem_ready.2 ⟨hp, (hc.left p.1 hp).2 (by simp), fun o e ho he hb => by
          have hlt := regionOk_edge hok ho he hb
          have hes : e.on < ops.size := by omega
          have hnot : e.on ∉ (p :: L).map (·.1) := by
            intro hm
            simp only [List.map_cons, List.mem_cons] at hm
            rcases hm with hm | hm
            · omega
            · have := hc.sorted
              simp only [List.map_cons, List.pairwise_cons] at this
              have := this.1 _ hm
              omega
          have := mt (hc.left e.on hes).1 hnot
          have hsz : e.on < listed.size := by rw [hc.size]; exact hes
          simp only [Array.getD_eq_getD_getElem?, Array.getElem?_eq_getElem hsz, Option.getD_some] at this ⊢
          simpa using this⟩
        rw [hnil] at this
        cases this
    · obtain ⟨h1, h2, h3⟩ := mem_ready.1 hi
      have hm := (hc.left i h1).1 h2
      obtain ⟨q, hq, hqi⟩ := List.mem_map.1 hm
      subst hqi
      obtain ⟨L1, L2, rfl⟩ := List.append_of_mem hq
      have hturn : ∀ p ∈ L1, Turn ops p q := fun p hp => by
        have hlt : p.1 < q.1 := by
          have := hc.sorted
          rw [List.map_append, List.pairwise_append] at this
          exact this.2.2 p.1 (List.mem_map.2 ⟨p, hp, rfl⟩) q.1 (by simp)
        have hnb : ∀ f, behind ops.toList f q.1 p.1 = true → False := fun f hb => by
          have := behind_listed hc f q.1 p.1 hb h3
          have hp' := (hc.left p.1 (by omega)).2 (by simp only [List.map_append, List.mem_append, List.mem_map]; exact .inl ⟨p, hp, rfl⟩)
          rw [this] at hp'; cases hp'
        refine ⟨?_, fun o1 o2 e1 e2 => ?_⟩
        · have := hc.cm
          rw [List.pairwise_append] at this
          rcases this.2.2 p hp q (by simp) with h | h | h | h
          · exact .inl h
          · exact .inr (.inl h)
          · exact .inr (.inr h)
          · exact (hnb _ h).elim
        · rcases regionOk_pair hok hlt e2 e1 with h | h
          · exact h
          · exact (hnb _ h).elim
      have hr' := runs_first hr hturn
      cases hr' with
      | cons ho h t =>
        rename_i j v x o
        refine oper_sound hX hpl (by simpa using ho) h hrel fun a' g' w' hrel' hd hk => ?_
        refine wpAny_of hX hpl hok fuel _ (L1 ++ L2) _ _ g' a' w' (by simp at hl ⊢; omega) ?_ t hrel' fun a'' g'' w'' hr'' hd' hk' => hQ a'' g'' w'' hr'' (hd'.trans hd) (hk.trans hk')
        have hsz : j < listed.size := by rw [hc.size]; exact h1
        have hget : ∀ k b, (listed.setIfInBounds j true).getD k b = if k = j then true else listed.getD k b := fun k b => by
          simp only [Array.getD_eq_getD_getElem?, Array.getElem?_setIfInBounds]
          by_cases hk : j = k
          · subst hk; simp [hsz]
          · rw [if_neg hk, if_neg (fun e => hk e.symm)]
        have hsort := hc.sorted
        rw [List.map_append, List.map_cons, List.pairwise_append, List.pairwise_cons] at hsort
        refine ⟨fun k hk => ?_, fun k hk => hc.lt k ?_, ?_, fun k o' e ho' hl' he hb => ?_, by simp [hc.size], ?_⟩
        · rw [hget]
          by_cases hkj : k = j
          · subst hkj
            simp only [if_true, Bool.true_eq_false, false_iff]
            intro hm
            simp only [List.map_append, List.mem_append] at hm
            rcases hm with hm | hm
            · have := hsort.2.2 k hm k (by simp); omega
            · have := hsort.2.1.1 k hm; omega
          · rw [if_neg hkj, hc.left k hk]
            simp only [List.map_append, List.map_cons, List.mem_append, List.mem_cons]
            constructor
            · rintro (h | h | h)
              · exact .inl h
              · exact absurd h hkj
              · exact .inr h
            · rintro (h | h)
              · exact .inl h
              · exact .inr (.inr h)
        · simp only [List.map_append, List.map_cons, List.mem_append, List.mem_cons] at hk ⊢
          rcases hk with h | h
          · exact .inl h
          · exact .inr (.inr h)
        · rw [List.map_append, List.pairwise_append]
          exact ⟨hsort.1, hsort.2.1.2, fun x hx y hy => hsort.2.2 x hx y (by simp [hy])⟩
        · rw [hget] at hl' ⊢
          by_cases hej : e.on = j
          · rw [if_pos hej]
          · rw [if_neg hej]
            by_cases hkj : k = j
            · subst hkj; exact h3 o' e ho' he hb
            · rw [if_neg hkj] at hl'; exact hc.closed k o' e ho' hl' he hb
        · have := hc.cm
          rw [List.pairwise_append, List.pairwise_cons] at this
          rw [List.pairwise_append]
          exact ⟨this.1, this.2.1.2, fun x hx y hy => this.2.2 x hx y (by simp [hy])⟩
theorem Rel.drew {X : Cx} {sb : Bool} {g : Gh} {fr : Fr} {st : St} {a : Act} {w : World} (h : Rel X A sb g fr st a w) : Rel X A sb g fr st a w.drew := ⟨h.mode, h.fr, h.inv.drew, h.G, h.marks⟩
theorem region_sound {X : Cx} {ro : Option Nat} {sb : Bool} (hX : Good P X) (hm : P.follows .mixedOrders = true) {id : Nat} {ops : Array Oper} (hpl : sb = true → plainOps ops.toList = true) {draw : Bool} (hok : draw = true → regionOk ops.toList = true) {fr fr' : Fr} {st st' : St} {g : Gh} {a : Act} {w : World} {Q : Exit → Act → World → Prop}
    (h : opsFrom X ops.toList draw 0 [] ops.toList fr st = .ok (fr', st')) (hrel : Rel X A sb g fr st a w) (hQ : ∀ a' g' w', Rel X A sb g' fr' st' a' w' → a'.defers = a.defers → Kp A g w g' w' → Q .normal a' w') : (Code.region id ops draw).wpIn (fe ro) 0 P Q a w := by
  obtain ⟨L, k1, k2, k3⟩ := opsFrom_runs h (by simp)
  have hlen : L.map (·.1) = List.range ops.size := by rw [k2, List.range_eq_range']; simp
  cases draw with
  | false =>
    refine wpIn_region ?_
    have := wpOps_of_runs (ro := ro) hX hpl k1 hrel hQ
    rwa [hlen] at this
  | true =>
    obtain ⟨m1, _⟩ := k3 rfl
    refine wpIn_region_any hm ?_
    refine wpAny_of hX hpl (hok rfl) ops.size _ L fr st g a w.drew ?_ ?_ k1 hrel.drew fun a' g' w' hr hd hk => hQ a' g' w' hr hd ((Kp.drew A g w).trans hk)
    · have := congrArg List.length hlen
      simpa using this
    · refine ⟨fun k hk => ?_, fun k hk => ?_, ?_, fun k o e ho hl => ?_, by simp, m1⟩
      · rw [hlen]; simp [hk]
      · rw [hlen] at hk; simpa using hk
      · rw [hlen]; exact List.pairwise_lt_range
      · have hk : k < ops.size := by
          rcases Nat.lt_or_ge k ops.size with q | q
          · exact q
          · rw [Array.getElem?_eq_none q] at ho; cases ho
        simp [hk] at hl
theorem region_soundE {X : Cx} {ro : Option Nat} {sb : Bool} (hX : Good P X) (hm : P.follows .mixedOrders = true) {id : Nat} {ops : Array Oper} (hpl : sb = true → plainOps ops.toList = true) {e0 : Nat → Option Nat} (hok : regionOk ops.toList = true) {fr fr' : Fr} {st st' : St} {g : Gh} {a : Act} {w : World} {Q : Exit → Act → World → Prop}
    (h : opsFromE X e0 ops.toList 0 [] ops.toList fr st = .ok (fr', st')) (hrel : Rel X A sb g fr st a w) (hQ : ∀ a' g' w', Rel X A sb g' fr' st' a' w' → a'.defers = a.defers → Kp A g w g' w' → Q .normal a' w') : (Code.region id ops true).wpIn (fe ro) 0 P Q a w := by
  obtain ⟨L, k1, k2, k3⟩ := opsFromE_runs h (by simp)
  have hlen : L.map (·.1) = List.range ops.size := by rw [k2, List.range_eq_range']; simp
  obtain ⟨m1, _⟩ := k3
  refine wpIn_region_any hm ?_
  refine wpAny_of hX hpl hok ops.size _ L fr st g a w.drew ?_ ?_ k1 hrel.drew fun a' g' w' hr hd hk => hQ a' g' w' hr hd ((Kp.drew A g w).trans hk)
  · have := congrArg List.length hlen
    simpa using this
  · refine ⟨fun k hk => ?_, fun k hk => ?_, ?_, fun k o e ho hl => ?_, by simp, m1⟩
    · rw [hlen]; simp [hk]
    · rw [hlen] at hk; simpa using hk
    · rw [hlen]; exact List.pairwise_lt_range
    · have hk : k < ops.size := by
        rcases Nat.lt_or_ge k ops.size with q | q
        · exact q
        · rw [Array.getElem?_eq_none q] at ho; cases ho
      simp [hk] at hl
end
end Go.VM
