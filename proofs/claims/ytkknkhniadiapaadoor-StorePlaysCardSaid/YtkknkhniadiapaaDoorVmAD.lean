/-
  A part of the proof.
-/
import Derived.Test.YtkknkhniadiapaaDoorVmAC
import Derived.Laws.Cells
import Derived.Laws.CopyRow
import Derived.Laws.AppendOwn
namespace Go.VM
def Gives (P : Program) (T : TT) (A : Nat → Prop) (g : Gh) (w : World) (v : AV) (st' : St) (s : Sem Value) : Prop :=
  ∃ x g' w', s.run P w = .ok x w' ∧ R g' v x ∧ Inv T A g' st' w' ∧ Kp A g w g' w'
def GivesU (P : Program) (T : TT) (A : Nat → Prop) (g : Gh) (w : World) (st' : St) (s : Sem Unit) : Prop :=
  ∃ g' w', s.run P w = .ok () w' ∧ Inv T A g' st' w' ∧ Kp A g w g' w'
section
variable {P : Program} {T : TT} {A : Nat → Prop} {g : Gh} {st : St} {w : World}
theorem Gives.of {v : AV} {s : Sem Value} {x : Value} (h : Inv T A g st w) (hs : s.run P w = .ok x w) (hr : R g v x) : Gives P T A g w v st s :=
  ⟨x, g, w, hs, hr, h, Kp.refl _ _ _⟩
theorem TIOk.run_und {t : TypeId} {i : TI} (h : TIOk P t i) : ∃ d, (∀ w, (underlying t).run P w = .ok d w) ∧ UOk d i.und ∧ (i.agg = match d with | .struct _ | .array .. => true | _ => false) := by
  obtain ⟨d, h1, h2, h3⟩ := h.und
  exact ⟨d, fun w => by simp [underlying, h1], h2, h3⟩
theorem TIOk.run_size {t : TypeId} {i : TI} (h : TIOk P t i) (w : World) : (sizeOf t).run P w = .ok i.size w := by
  obtain ⟨f, h1, h2, _⟩ := h.info
  simp [sizeOf, typeInfo, h1, h2]
theorem TIOk.run_agg {t : TypeId} {i : TI} (h : TIOk P t i) (w : World) : (isAgg t).run P w = .ok i.agg w := by
  obtain ⟨d, h1, _, h3⟩ := h.run_und
  rw [h3]
  simp only [isAgg, Sem.run_bind, h1, Result.andThen_ok]
  cases d <;> rfl
theorem TIOk.run_zero {t : TypeId} {i : TI} (h : TIOk P t i) : ∃ z, (∀ w, (zeroValue t).run P w = .ok z w) ∧ z.cells.size = i.size ∧ (i.agg = false → z.oneCell' = true) ∧ (∀ v ∈ z.cells, v.oneCell' = true) ∧ (i.agg = true → ∃ cs, z = .agg cs) ∧ ∀ g, RL g i.zero z.cells.toList := by
  obtain ⟨f, h1, h2, h3, z, h4, h5⟩ := h.info
  exact ⟨z, fun w => by simp [zeroValue, typeInfo, h1, h4], h5⟩
theorem Addr.add_at (b o n : Nat) : (⟨b, o, none⟩ : Addr).add n = ⟨b, o + n, none⟩ := by
  unfold Addr.add; split
  · rename_i h; subst h; rfl
  · rfl
theorem take_sound {size : Nat} {agg : Bool} {cells : List AV} {v : AV} {xs : List Value} (h : takeCells size agg cells = .ok v) (hr : RL g cells xs) :
    (agg = true → size ≤ xs.length ∧ R g v (.agg (xs.take size).toArray)) ∧ (agg = false → ∃ x l, xs = x :: l ∧ R g v x) := by
  cases agg with
  | true =>
    refine ⟨fun _ => ?_, (fun k => by cases k)⟩
    simp only [takeCells] at h
    split at h
    · rename_i hle
      simp only [Except.ok.injEq] at h
      subst h
      have := Nat.le_of_ble_eq_true hle
      rw [← RL_len hr] at this
      refine ⟨this, ?_⟩
      simp only [R]
      exact ⟨_, rfl, by simpa using RL_take size hr⟩
    · cases h
  | false =>
    refine ⟨(fun k => by cases k), fun _ => ?_⟩
    simp only [takeCells] at h
    cases cells with
    | nil => simp at h
    | cons u us =>
      simp only [Except.ok.injEq] at h
      subst h
      simp only [RL] at hr
      obtain ⟨x, l, h1, h2, _⟩ := hr
      exact ⟨x, l, h1, h2⟩
theorem run_loadVar_cells {t : TypeId} {i : TI} (hi : TIOk P t i) {b o : Nat} {cells : List AV} {v : AV} {xs : List Value}
    (h : takeCells i.size i.agg cells = .ok v) (hr : RL g cells xs) (hm : ∀ k x, xs[k]? = some x → w.cell? ⟨b, o + k, none⟩ = some x) :
    ∃ x, (loadVar t ⟨b, o, none⟩).run P w = .ok x w ∧ R g v x := by
  obtain ⟨h1, h2⟩ := take_sound h hr
  cases ha : i.agg with
  | true =>
    obtain ⟨k1, k2⟩ := h1 ha
    refine ⟨_, ?_, k2⟩
    have hl := run_loadCells_list (P := P) w ⟨b, o, none⟩ (xs.take i.size) (fun j x hx => by
      rw [Addr.add_at]
      refine hm j x ?_
      rw [List.getElem?_take] at hx
      split at hx
      · exact hx
      · cases hx)
    rw [List.length_take, Nat.min_eq_left k1] at hl
    simp only [loadVar, Sem.run_bind, hi.run_agg, Result.andThen_ok, ha, if_true, hi.run_size, hl, Sem.run_pure]
  | false =>
    obtain ⟨x, l, rfl, k2⟩ := h2 ha
    refine ⟨x, ?_, k2⟩
    have := hm 0 x rfl
    simp only [Nat.add_zero] at this
    simp only [loadVar, Sem.run_bind, hi.run_agg, Result.andThen_ok, ha, Bool.false_eq_true, if_false, run_load, this]
theorem cellsOf_ok {o : Obj} {cs : List AV} : cellsOf o = .ok cs ↔ ∃ ty, o = .cells ty cs := by
  cases o <;> simp [cellsOf]
theorem typedOf_ok {o : Obj} {ty : TypeId} {cs : List AV} : typedOf o = .ok (ty, cs) ↔ o = .cells ty cs := by
  cases o <;> simp [typedOf]
theorem Inv.cells (h : Inv T A g st w) {id : Nat} {ty : TypeId} {cs : List AV} (hg : st.get id = .ok (.cells ty cs)) :
    ∃ b vs rest ty', g.E id = some (.blk b) ∧ w.heap[b]? = some (.cells (vs ++ rest) ty' (0, 0)) ∧ RL g cs vs.toList ∧ (∀ v ∈ vs.toList, v.oneCell' = true) ∧ (∀ o, g.F b o = none) ∧ (ty < 1000000 → rest = #[] ∧ ty' = ty) :=
  h.H id _ hg
theorem load_sound {C : Caller} {t : TypeId} {i : TI} (hi : TIOk P t i) {a v : AV} {x : Value} {p : Plan} {fx : Fx}
    (hp : loadP i a = .ok p) (hrun : runPlan C st p = .ok (v, fx)) (hx : R g a x) (h : Inv T A g st w) :
    Gives P T A g w v (fx.did.app st) (Instr.loadAt t x) := by
  cases a with
  | ip cells =>
    simp only [loadP, bind_ok, pure_ok] at hp
    obtain ⟨u, h1, rfl⟩ := hp
    simp only [runPlan, Except.ok.injEq, Prod.mk.injEq] at hrun
    obtain ⟨rfl, rfl⟩ := hrun
    simp only [R] at hx
    obtain ⟨_, b, o, rfl, h3⟩ := hx
    obtain ⟨xs, k1, k2⟩ := RAt_vals h3
    obtain ⟨y, e1, e2⟩ := run_loadVar_cells hi h1 k1 fun k z hz => h.F _ _ _ (k2 k z hz).1
    exact Gives.of h (by simp [Instr.loadAt, Instr.sureAddr, e1]) e2
  | mp id off =>
    simp only [loadP, Except.ok.injEq] at hp
    subst hp
    simp only [readP, runPlan, bind_ok, pure_ok] at hrun
    obtain ⟨o, h1, ⟨v', o'⟩, ⟨v'', ⟨cs, h2, h3⟩, h4⟩, d, h5, h6⟩ := hrun
    rw [cellsOf_ok] at h2
    obtain ⟨ty, rfl⟩ := h2
    simp only [Prod.mk.injEq] at h4 h6
    obtain ⟨rfl, rfl⟩ := h4
    simp only [didOf, Except.ok.injEq] at h5
    subst h5
    obtain ⟨rfl, rfl⟩ := h6
    simp only [R] at hx
    obtain ⟨b, hE, rfl⟩ := hx
    obtain ⟨b', vs, rest, ty2, k1, k2, k3, k4, k5, k6⟩ := h.cells h1
    have hb : b' = b := by have := k1.symm.trans hE; simpa using this
    subst hb
    obtain ⟨y, e1, e2⟩ := run_loadVar_cells (w := w) (b := b') (o := off) hi h3 (RL_drop off k3) fun k z hz => cell_pre k2 (by simpa using hz)
    exact Gives.of h (by simp [Instr.loadAt, Instr.sureAddr, e1]) e2
  | gp k n off =>
    simp only [loadP, Except.ok.injEq] at hp
    subst hp
    simp only [readP, runPlan, bind_ok, pure_ok] at hrun
    obtain ⟨o, h1, ⟨v', o'⟩, ⟨v'', h2, h4⟩, d, h5, h6⟩ := hrun
    simp only [Prod.mk.injEq] at h4 h6
    obtain ⟨rfl, rfl⟩ := h4
    simp only [didOf, Except.ok.injEq] at h5
    subst h5
    obtain ⟨rfl, rfl⟩ := h6
    simp only [R] at hx
    obtain ⟨loc, b, cap, hE, hl, rfl⟩ := hx
    split at h2
    · rename_i m e z cs
      split at h2
      · rename_i hm
        have hm := Nat.eq_of_beq_eq_true hm
        subst hm
        obtain ⟨loc2, b2, cap2, i2, pre, rest, q1, q2, q3, q4, q5, q6, q7, q8, q9, q10, q11, q12, q13⟩ := h.H k _ h1
        have e1 := q1.symm.trans hE
        simp only [Option.some.injEq, Ent.tok.injEq] at e1
        subst e1
        have e2 := q2.symm.trans hl
        simp only [Option.some.injEq, Prod.mk.injEq] at e2
        obtain ⟨rfl, rfl⟩ := e2
        obtain ⟨y, e1, e2⟩ := run_loadVar_cells (w := w) (b := b2) (o := off) hi h2 (RL_drop off q11) fun k z hz => cell_pre q7 (by simpa using hz)
        exact Gives.of h (by simp [Instr.loadAt, Instr.sureAddr, e1]) e2
      · cases h2
    · cases h2
  | _ => simp [loadP] at hp
theorem one_R : ∀ {v : AV} {x : Value}, one v = true → R g v x → x.oneCell' = true := by
  intro v x h hr
  cases v <;> simp only [R] at hr <;> first
    | (simp [one] at h; done)
    | (rcases hr with ⟨_, rfl | ⟨_, _, rfl⟩⟩ | ⟨_, ⟨_, rfl⟩ | ⟨_, _, _, rfl⟩⟩ <;> rfl)
    | (obtain ⟨_, _, _, _, _, rfl, _⟩ := hr; rfl)
    | (obtain ⟨_, _, _, _, _, rfl⟩ := hr; rfl)
    | (subst hr; rfl)
    | (obtain ⟨_, _, _, rfl, _⟩ := hr; rfl)
    | (obtain ⟨_, _, rfl⟩ := hr; rfl)
    | (obtain ⟨_, _, _, _, rfl, _⟩ := hr; rfl)
    | (obtain ⟨_, _, _, rfl, _⟩ := hr; rfl)
    | (obtain ⟨_, _, rfl, _⟩ := hr; rfl)
    | (obtain ⟨_, rfl, _⟩ := hr; rfl)
    | (obtain ⟨_, _, _, _, rfl, _⟩ := hr; rfl)
theorem ones_RL : ∀ {vs : List AV} {xs : List Value}, ones vs = true → RL g vs xs → ∀ x ∈ xs, x.oneCell' = true
  | [], _, _, h => by simp only [RL] at h; subst h; simp
  | v :: vs, _, k, h => by
    simp only [RL] at h
    obtain ⟨x, xs, rfl, h1, h2⟩ := h
    simp only [ones, Bool.and_eq_true] at k
    intro y hy
    rcases List.mem_cons.1 hy with rfl | hy
    · exact one_R k.1 h1
    · exact ones_RL k.2 h2 y hy
theorem R_cells {v : AV} {x : Value} (h : R g v x) (h1 : ones v.cells = true) : RL g v.cells x.cells.toList := by
  cases v with
  | agg cs =>
    simp only [R] at h
    obtain ⟨ys, rfl, h2⟩ := h
    exact h2
  | _ =>
    have := one_R (by simpa [AV.cells, ones] using h1) h
    have hx : x.cells = #[x] := by cases x <;> first | rfl | simp [Value.oneCell'] at this
    rw [hx]
    exact RL_cons h RL_nil
theorem setRow_size (w : World) (b : Nat) (cs : Array Value) : (w.setRow b cs).heap.size = w.heap.size := by simp [World.setRow]
theorem setRow_ne (w : World) (b : Nat) (cs : Array Value) {b' : Nat} (h : b' ≠ b) : (w.setRow b cs).heap[b']? = w.heap[b']? := by
  simp only [World.setRow, Array.getElem?_modify]
  rw [if_neg (fun e => h e.symm)]
theorem splice_RL {cs new : List AV} {xs ys : List Value} (off : Nat) (h : RL g cs xs) (k : RL g new ys) :
    RL g (splice cs off new) (xs.take off ++ ys ++ xs.drop (off + ys.length)) := by
  unfold splice
  rw [RL_len k]
  exact RL_append (RL_append (RL_take off h) k) (RL_drop _ h)
theorem Inv.rewrite (h : Inv T A g st w) {id b : Nat} {cs cs' : List AV} {vs rest : Array Value} {vs' : List Value} {ty ty2 : TypeId} (h1 : st.get id = .ok (.cells ty cs)) (k1 : g.E id = some (.blk b))
    (k2 : w.heap[b]? = some (.cells (vs ++ rest) ty2 (0, 0))) (k5 : ∀ o, g.F b o = none) (k6 : ty < 1000000 → rest = #[] ∧ ty2 = ty) (hro : st.ro ≤ id) (hr : RL g cs' vs') (ho : ∀ v ∈ vs', v.oneCell' = true) :
    Inv T A g (st.put id (.cells ty cs')) (w.setRow b (vs'.toArray ++ rest)) ∧ Kp A g w g (w.setRow b (vs'.toArray ++ rest)) := by
  refine ⟨h.write h1 (o := .cells ty cs) (b := b) k1 (.cells ty cs') (setRow_size _ _ _) (fun _ hb => setRow_ne _ _ _ hb) ?_ ?_ ?_ ?_, Kp.write (h.own id _ b h1 k1 hro) (setRow_size _ _ _) (fun _ hb => setRow_ne _ _ _ hb)⟩
  · intro k u hu; rw [k5 k] at hu; cases hu
  · cases hm : g.M b with
    | none => rfl
    | some e =>
      have := h.M b e.1 e.2 hm
      rw [k2] at this; cases this
  · intro b'' hb''
    have : g.E id = some (.blk b'') := hb''
    have := k1.symm.trans this
    simpa using this.symm
  · exact ⟨b, vs'.toArray, rest, ty2, k1, setRow_heap _ _ _ _ _ _ k2, by simpa using hr, by simpa using ho, k5, k6⟩
theorem store_sound {C : Caller} {t : TypeId} {i : TI} (hi : TIOk P t i) {a v r : AV} {x y : Value} {p : Plan} {fx : Fx}
    (hp : storeP i a v = .ok p) (hrun : runPlan C st p = .ok (r, fx)) (hx : R g a x) (hy : R g v y) (h : Inv T A g st w) :
    r = undef ∧ GivesU P T A g w (fx.did.app st) (Instr.storeAt t x y) := by
  cases a with
  | mp id off =>
    simp only [storeP] at hp
    split at hp
    · rename_i hc
      simp only [Bool.and_eq_true] at hc
      have hsz := Nat.eq_of_beq_eq_true hc.1
      simp only [Except.ok.injEq] at hp
      subst hp
      simp only [runPlan, bind_ok, pure_ok] at hrun
      obtain ⟨o, h1, ⟨v', o'⟩, ⟨⟨ty, cs⟩, h2, h3⟩, d, h5, h6⟩ := hrun
      rw [typedOf_ok] at h2
      subst h2
      dsimp only at h3
      split at h3
      · rename_i hle
        have hle := Nat.le_of_ble_eq_true hle
        simp only [pure_ok, Prod.mk.injEq] at h3
        obtain ⟨rfl, rfl⟩ := h3
        simp only [didOf] at h5
        split at h5
        · cases h5
        · rename_i hro
          rw [blt_false] at hro
          simp only [Except.ok.injEq] at h5
          subst h5
          simp only [Prod.mk.injEq] at h6
          obtain ⟨rfl, rfl⟩ := h6
          refine ⟨rfl, ?_⟩
          simp only [R] at hx
          obtain ⟨b, hE, rfl⟩ := hx
          obtain ⟨b', vs, rest, ty2, k1, k2, k3, k4, k5, k6⟩ := h.cells h1
          have hb : b' = b := by have := k1.symm.trans hE; simpa using this
          subst hb
          have hyc := R_cells hy hc.2
          have hyl := RL_len hyc
          have hvl := RL_len k3
          simp only [Array.length_toList] at hyl hvl
          have hyo := ones_RL hc.2 hyc
          have hst := run_storeCells_at P b' off ty2 y.cells.toList 0 (vs ++ rest) w k2 (by simp; omega) hyo
          simp only [Nat.add_zero, Array.length_toList] at hst
          have hrow : ((vs ++ rest).toList.take off ++ y.cells.toList ++ (vs ++ rest).toList.drop (off + y.cells.size)).toArray = (vs.toList.take off ++ y.cells.toList ++ vs.toList.drop (off + y.cells.size)).toArray ++ rest := by
            apply Array.ext'
            have e1 : (vs.toList ++ rest.toList).take off = vs.toList.take off := List.take_append_of_le_length (by simp; omega)
            have e2 : (vs.toList ++ rest.toList).drop (off + y.cells.size) = vs.toList.drop (off + y.cells.size) ++ rest.toList := List.drop_append_of_le_length (by simp; omega)
            simp [e1, e2]
          rw [hrow] at hst
          obtain ⟨w1, w2⟩ := h.rewrite h1 k1 k2 k5 k6 hro (cs' := splice cs off v.cells) (vs' := vs.toList.take off ++ y.cells.toList ++ vs.toList.drop (off + y.cells.size))
            (by simpa using splice_RL off k3 hyc) (fun u hu => by
              simp only [List.mem_append] at hu
              rcases hu with (hu | hu) | hu
              · exact k4 u (List.mem_of_mem_take hu)
              · exact hyo u hu
              · exact k4 u (List.mem_of_mem_drop hu))
          refine ⟨g, _, ?_, w1, w2⟩
          simp only [Instr.storeAt, Instr.sureAddr, Sem.run_bind, Sem.run_pure, Result.andThen_ok, storeVar, hi.run_size, Sem.run_ite]
          rw [if_neg (by omega)]
          exact hst
      · cases h3
    · cases hp
  | _ => simp [storeP] at hp
theorem Inv.F_new (h : Inv T A g st w) {b : Nat} (hb : w.heap.size ≤ b) (o : Nat) : g.F b o = none := by
  cases hf : g.F b o with
  | none => rfl
  | some v =>
    obtain ⟨vs, ty, fz, h2, _⟩ := cells_of (h.F b o v hf)
    have := lt_of_heap h2
    omega
theorem Inv.M_new (h : Inv T A g st w) {b : Nat} (hb : w.heap.size ≤ b) : g.M b = none := by
  cases hf : g.M b with
  | none => rfl
  | some v =>
    have := lt_of_heap (h.M b v.1 v.2 hf)
    omega
theorem Inv.not_new (h : Inv T A g st w) {b : Nat} (hb : w.heap.size ≤ b) (id : Nat) (o : Obj) (ho : st.get id = .ok o) : ¬ At g id o b := fun ha => by
  have := At_lt (h.H id o ho) ha
  omega
theorem Inv.newObj (h : Inv T A g st w) (o : Obj) (m : Go.Obj) (hat : ∀ b', At (g.setE st.h (.blk w.heap.size)) st.h o b' → b' = w.heap.size)
    (ho : Holds T (g.setE st.h (.blk w.heap.size)) (w.alloc m) st.h o) (hm : ∀ vs ty fz, m = .cells vs ty fz → fz = (0, 0) := by intro _ _ _ e; first | (cases e; done) | (cases e; rfl)) :
    Inv T A (g.setE st.h (.blk w.heap.size)) (st.new o).2 (w.alloc m) ∧ Kp A g w (g.setE st.h (.blk w.heap.size)) (w.alloc m) :=
  ⟨(h.alloc m).name o _ w.heap.size (fun id o' ho' => h.not_new (Nat.le_refl _) id o' ho') (h.up _ (Nat.le_refl _)) hat ho (fun _ a c d hh => hm a c d (Option.some.inj (World.heap_alloc_new.symm.trans hh))),
   (Kp.alloc m h).trans (Kp.setE (h.E _ (Nat.le_refl _)))⟩
theorem Inv.newCells (h : Inv T A g st w) {cs : List AV} {xs : List Value} (ty : TypeId) (hr : RL g cs xs) (h1 : ∀ x ∈ xs, x.oneCell' = true) :
    Inv T A (g.setE st.h (.blk w.heap.size)) (st.new (.cells ty cs)).2 (w.alloc (.cells xs.toArray ty)) ∧ Kp A g w (g.setE st.h (.blk w.heap.size)) (w.alloc (.cells xs.toArray ty)) ∧
    R (g.setE st.h (.blk w.heap.size)) (.mp st.h 0) (.pointer (some ⟨w.heap.size, 0, none⟩)) := by
  have hle : Le g (g.setE st.h (.blk w.heap.size)) := Le.setE (h.E _ (Nat.le_refl _))
  obtain ⟨k1, k2⟩ := h.newObj (.cells ty cs) (.cells xs.toArray ty) (fun b' hb' => by
    have : (g.setE st.h (.blk w.heap.size)).E st.h = some (.blk b') := hb'
    rw [Gh.setE_same] at this
    simpa using this.symm) ⟨w.heap.size, xs.toArray, #[], ty, Gh.setE_same _ _ _, by simpa using World.heap_alloc_new, by simpa using RL_mono hle _ _ hr, by simpa using h1, fun o => h.F_new (Nat.le_refl _) o, fun _ => ⟨rfl, rfl⟩⟩
  exact ⟨k1, k2, by simp only [R]; exact ⟨_, Gh.setE_same _ _ _, rfl⟩⟩
theorem Inv.newFixed (h : Inv T A g st w) {cs : List AV} {xs : List Value} (ty : TypeId) (hr : RL g cs xs) (h1 : ∀ x ∈ xs, x.oneCell' = true) :
    Inv T A (g.addF w.heap.size 0 xs) st (w.alloc (.cells xs.toArray ty)) ∧ Kp A g w (g.addF w.heap.size 0 xs) (w.alloc (.cells xs.toArray ty)) ∧
    RAt (g.addF w.heap.size 0 xs) cs w.heap.size 0 := by
  have hF : ∀ o, 0 ≤ o → o < 0 + xs.length → g.F w.heap.size o = none := fun o _ _ => h.F_new (Nat.le_refl _) o
  have hle : Le g (g.addF w.heap.size 0 xs) := Le.addF hF
  refine ⟨(h.alloc _).addF _ 0 xs hF ?_ fun id o ho => h.not_new (Nat.le_refl _) id o ho, (Kp.alloc _ h).trans (Kp.addF (h.up _ (Nat.le_refl _)) hF), ?_⟩
  · intro i v hv
    rw [cell_of (World.heap_alloc_new)]
    simpa using hv
  · refine RAt_of_vals (RL_mono hle _ _ hr) fun i x hx => ⟨?_, h1 x (List.mem_of_getElem? hx)⟩
    exact Gh.addF_at g _ 0 xs i x hx
theorem run_newRow (ty : TypeId) (xs : Array Value) : (newRow ty xs).run P w = .ok ⟨w.heap.size, 0, none⟩ (w.alloc (.cells xs ty)) := by
  simp [newRow]
theorem alloc_sound {t : TypeId} {i : TI} (hi : TIOk P t i) (h : Inv T A g st w) (old : Value) :
    Gives P T A g w (.mp st.h 0) (st.new (.cells t i.zero)).2 (Instr.alloc t true old) := by
  obtain ⟨z, h1, h2, h3, h4, h5, h6⟩ := hi.run_zero
  obtain ⟨k1, k2, k3⟩ := h.newCells t (h6 g) (by simpa using h4)
  refine ⟨_, _, _, ?_, k3, k1, k2⟩
  simp [Instr.alloc, h1, newVar, run_newRow]
theorem box_sound {C : Caller} {imm : Bool} {t : TypeId} {i : TI} {v r : AV} {y : Value} {p : Plan} {fx : Fx}
    (hp : boxP imm t i v = .ok p) (hrun : runPlan C st p = .ok (r, fx)) (hy : R g v y) (h : Inv T A g st w) :
    Gives P T A g w r (fx.did.app st) (Instr.box t y) := by
  simp only [boxP] at hp
  split at hp
  · cases hp
  · rename_i hc
    simp only [Bool.and_eq_true] at hc
    have hyc := R_cells hy hc.2
    have hyo := ones_RL hc.2 hyc
    split at hp
    · simp only [bind_ok, pure_ok] at hp
      obtain ⟨cs, h1, rfl⟩ := hp
      simp only [runPlan, Except.ok.injEq, Prod.mk.injEq] at hrun
      obtain ⟨rfl, rfl⟩ := hrun
      obtain ⟨f1, f2⟩ := RL_fits hyc h1
      obtain ⟨k1, k2, k3⟩ := h.newFixed t f1 hyo
      refine ⟨.pointer (some ⟨w.heap.size, 0, none⟩), _, _, ?_, ?_, k1, k2⟩
      · simp [Instr.box, newVar, run_newRow]
      · simp only [R]
        exact ⟨f2, _, _, rfl, k3⟩
    · simp only [Except.ok.injEq] at hp
      subst hp
      simp only [runPlan, Except.ok.injEq, Prod.mk.injEq] at hrun
      obtain ⟨rfl, rfl⟩ := hrun
      obtain ⟨k1, k2, k3⟩ := h.newCells t hyc hyo
      refine ⟨.pointer (some ⟨w.heap.size, 0, none⟩), _, _, ?_, k3, k1, k2⟩
      simp [Instr.box, newVar, run_newRow]
theorem und_struct {t : TypeId} {i : TI} {fs : List (Nat × TypeId)} (hi : TIOk P t i) (hu : i.und = .struct fs) :
    ∃ fields : Array Field, (∀ w, (underlying t).run P w = .ok (.struct fields) w) ∧ fields.toList.map (fun f => (f.offset, f.type)) = fs := by
  obtain ⟨d, h1, h2, _⟩ := hi.run_und
  rw [hu] at h2
  obtain ⟨fields, rfl, h3⟩ := h2
  exact ⟨fields, h1, h3⟩
theorem und_slice {t e : TypeId} {i : TI} (hi : TIOk P t i) (hu : i.und = .slice e) : ∀ w, (underlying t).run P w = .ok (.slice e) w := by
  obtain ⟨d, h1, h2, _⟩ := hi.run_und
  rw [hu] at h2
  cases h2
  exact h1
theorem und_arr {t e : TypeId} {n : Nat} {i : TI} (hi : TIOk P t i) (hu : i.und = .arr n e) : ∀ w, (underlying t).run P w = .ok (.array n e) w := by
  obtain ⟨d, h1, h2, _⟩ := hi.run_und
  rw [hu] at h2
  cases h2
  exact h1
theorem und_str {t : TypeId} {i : TI} (hi : TIOk P t i) (hu : i.und = .str) : ∀ w, (underlying t).run P w = .ok .string w := by
  obtain ⟨d, h1, h2, _⟩ := hi.run_und
  rw [hu] at h2
  cases h2
  exact h1
theorem und_int {t : TypeId} {k : IntKind} {i : TI} (hi : TIOk P t i) (hu : i.und = .int k) : ∀ w, (underlying t).run P w = .ok (.int k) w := by
  obtain ⟨d, h1, h2, _⟩ := hi.run_und
  rw [hu] at h2
  cases h2
  exact h1
theorem und_map {t k e : TypeId} {i : TI} (hi : TIOk P t i) (hu : i.und = .map k e) : ∀ w, (underlying t).run P w = .ok (.map k e) w := by
  obtain ⟨d, h1, h2, _⟩ := hi.run_und
  rw [hu] at h2
  cases h2
  exact h1
theorem fields_at {fields : Array Field} {fs : List (Nat × TypeId)} (h : fields.toList.map (fun f => (f.offset, f.type)) = fs) {n off : Nat} {ft : TypeId}
    (hn : fs[n]? = some (off, ft)) : ∃ f, fields[n]? = some f ∧ f.offset = off ∧ f.type = ft := by
  subst h
  simp only [List.getElem?_map, Array.getElem?_toList] at hn
  cases hf : fields[n]? with
  | none => simp [hf] at hn
  | some f => simp [hf] at hn; exact ⟨f, rfl, hn.1, hn.2⟩
theorem fieldAddr_sound (hT : TOk P T) {t : TypeId} {n : Nat} {a v : AV} {x : Value} (hp : fieldAddr T t a n = .ok v) (hx : R g a x) (h : Inv T A g st w) :
    Gives P T A g w v st (Instr.fieldAt t x n) := by
  simp only [fieldAddr, bind_ok] at hp
  obtain ⟨i, h1, h2⟩ := hp
  have hi := hT t i (ti_ok.1 h1)
  split at h2
  · rename_i fs hu
    obtain ⟨fields, k1, k2⟩ := und_struct hi hu
    split at h2
    · rename_i off ft hn
      obtain ⟨f, k3, rfl, rfl⟩ := fields_at k2 hn
      simp only [bind_ok] at h2
      obtain ⟨j, h3, h4⟩ := h2
      have hj := hT _ j (ti_ok.1 h3)
      have hrun : ∀ b o, x = .pointer (some ⟨b, o, none⟩) → j.size ≠ 0 → (Instr.fieldAt t x n).run P w = .ok (.pointer (some ⟨b, o + f.offset, none⟩)) w := by
        rintro b o rfl hz
        simp [Instr.fieldAt, k1, k3, Instr.sureAddr, fieldPlace, hj.run_size, hz, Addr.add_at]
      split at h4
      · cases h4
      · rename_i m hm
        split at h4
        · simp only [pure_ok] at h4
          subst h4
          simp only [R] at hx
          obtain ⟨hb, b, o, hx, hr⟩ := hx
          refine Gives.of h (hrun b o hx (by omega)) ?_
          simp only [R]
          exact ⟨bares_drop _ hb, b, o + f.offset, rfl, RAt_drop' _ hr⟩
        · simp only [pure_ok] at h4
          subst h4
          simp only [R] at hx
          obtain ⟨b, hE, hx⟩ := hx
          refine Gives.of h (hrun b _ hx (by omega)) ?_
          simp only [R]
          exact ⟨b, hE, rfl⟩
        · simp only [pure_ok] at h4
          subst h4
          simp only [R] at hx
          obtain ⟨loc, b, cap, hE, hl, hx⟩ := hx
          refine Gives.of h (hrun b _ hx (by omega)) ?_
          simp only [R]
          exact ⟨loc, b, cap, hE, hl, rfl⟩
        · cases h4
    · cases h2
  · cases h2
theorem part_sound {t : TypeId} {i : TI} (hi : TIOk P t i) {cs : List AV} {ys : Array Value} {off : Nat} {v : AV}
    (hp : takeCells i.size i.agg (cs.drop off) = .ok v) (hr : RL g cs ys.toList) : ∃ y, (part t ys off).run P w = .ok y w ∧ R g v y := by
  obtain ⟨h1, h2⟩ := take_sound hp (RL_drop off hr)
  cases ha : i.agg with
  | true =>
    obtain ⟨_, k2⟩ := h1 ha
    refine ⟨_, ?_, k2⟩
    simp only [part, Sem.run_bind, hi.run_agg, Result.andThen_ok, ha, if_true, hi.run_size, Sem.run_pure]
    congr 2
    apply Array.ext'
    simp [List.take_drop, Array.toList_extract]
  | false =>
    obtain ⟨y, l, k1, k2⟩ := h2 ha
    refine ⟨y, ?_, k2⟩
    have : ys[off]? = some y := by
      rw [← Array.getElem?_toList]
      have := congrArg (·[0]?) k1
      simpa using this
    simp [part, hi.run_agg, ha, this]
theorem field_sound (hT : TOk P T) {t : TypeId} {n : Nat} {a v : AV} {x : Value} (hp : field T t a n = .ok v) (hx : R g a x) (h : Inv T A g st w) :
    Gives P T A g w v st (Instr.field t x n) := by
  simp only [field, bind_ok] at hp
  obtain ⟨i, h1, h2⟩ := hp
  have hi := hT t i (ti_ok.1 h1)
  split at h2
  · rename_i fs cs hu
    obtain ⟨fields, k1, k2⟩ := und_struct hi hu
    split at h2
    · rename_i off ft hn
      obtain ⟨f, k3, rfl, rfl⟩ := fields_at k2 hn
      simp only [bind_ok] at h2
      obtain ⟨j, h3, h4⟩ := h2
      have hj := hT _ j (ti_ok.1 h3)
      simp only [R] at hx
      obtain ⟨ys, rfl, hr⟩ := hx
      obtain ⟨y, e1, e2⟩ := part_sound (w := w) hj h4 hr
      exact Gives.of h (by simp [Instr.field, k1, k3, asAgg, e1]) e2
    · cases h2
  · cases h2
theorem asInt_R {a : AV} {n : Int} {x : Value} (h : asInt a = .ok n) (hx : R g a x) : ∃ k, x = .int k n := by
  cases a <;> simp [asInt] at h
  subst h
  simp only [R] at hx
  exact ⟨_, hx⟩
theorem inside_ok {i : Int} {n k : Nat} (h : inside i n = .ok k) : i = k ∧ k < n := by
  unfold inside at h
  split at h
  · split at h
    · rename_i hb
      rw [blt_true] at hb
      simp only [Except.ok.injEq] at h
      subst h
      exact ⟨rfl, hb⟩
    · cases h
  · cases h
theorem upto_ok {i : Int} {n k : Nat} (h : upto i n = .ok k) : i = k ∧ k ≤ n := by
  unfold upto at h
  split at h
  · split at h
    · rename_i hb
      simp only [Except.ok.injEq] at h
      subst h
      exact ⟨rfl, Nat.le_of_ble_eq_true hb⟩
    · cases h
  · cases h
theorem indexAddr_sound (hT : TOk P T) {t : TypeId} {a ix v : AV} {x y : Value} (hp : indexAddr T t a ix = .ok v) (hx : R g a x) (hy : R g ix y) (h : Inv T A g st w) :
    Gives P T A g w v st (Instr.indexAt t x y) := by
  simp only [indexAddr, bind_ok] at hp
  obtain ⟨n, h0, i, h1, h2⟩ := hp
  obtain ⟨kd, rfl⟩ := asInt_R h0 hy
  have hi := hT t i (ti_ok.1 h1)
  split at h2
  · rename_i e sz es p hu
    have k1 := und_slice hi hu
    simp only [bind_ok] at h2
    obtain ⟨k, h3, j, h4, h5⟩ := h2
    obtain ⟨rfl, hk⟩ := inside_ok h3
    have hj := hT _ j (ti_ok.1 h4)
    split at h5
    · rename_i hsz
      have hsz := Nat.eq_of_beq_eq_true hsz
      simp only [bind_ok, pure_ok] at h5
      obtain ⟨u, h6, rfl⟩ := h5
      simp only [R] at hx
      obtain ⟨hb, b, o, cap, rfl, hc, hz1, hr, _⟩ := hx
      obtain ⟨e1, e2⟩ := RAtE_nth hr h6
      refine Gives.of h (x := .pointer (some ⟨b, o + k * sz, none⟩)) ?_ ?_
      · simp [Instr.indexAt, asIntOf, k1, hj.run_size, Addr.add_at, hsz]
        intro hh; omega
      · simp only [R]
        exact ⟨bares_cells (bares_nth hb h6), b, _, rfl, e2⟩
    · cases h5
  · rename_i e id off sz len cap hu
    have k1 := und_slice hi hu
    simp only [bind_ok] at h2
    obtain ⟨k, h3, j, h4, h5⟩ := h2
    obtain ⟨rfl, hk⟩ := inside_ok h3
    have hj := hT _ j (ti_ok.1 h4)
    split at h5
    · rename_i hsz
      have hsz := Nat.eq_of_beq_eq_true hsz
      simp only [pure_ok] at h5
      subst h5
      simp only [R] at hx
      obtain ⟨b, o, hE, c, rfl, hc, hz1, ho, _⟩ := hx
      have ho := ho (by omega)
      subst ho
      refine Gives.of h (x := .pointer (some ⟨b, o + k * sz, none⟩)) ?_ ?_
      · simp [Instr.indexAt, asIntOf, k1, hj.run_size, Addr.add_at, hsz]
        intro hh; omega
      · simp only [R]
        exact ⟨b, hE, rfl⟩
    · cases h5
  · rename_i len e id off hu
    have k1 := und_arr hi hu
    simp only [bind_ok, pure_ok] at h2
    obtain ⟨k, h3, j, h4, rfl⟩ := h2
    obtain ⟨rfl, hk⟩ := inside_ok h3
    have hj := hT _ j (ti_ok.1 h4)
    simp only [R] at hx
    obtain ⟨b, hE, rfl⟩ := hx
    refine Gives.of h (x := .pointer (some ⟨b, off + k * j.size, none⟩)) ?_ ?_
    · simp [Instr.indexAt, Instr.sureAddr, asIntOf, k1, hj.run_size, Addr.add_at]
      intro hh; omega
    · simp only [R]
      exact ⟨b, hE, rfl⟩
  · rename_i len e cells hu
    have k1 := und_arr hi hu
    simp only [bind_ok, pure_ok] at h2
    obtain ⟨k, h3, j, h4, rfl⟩ := h2
    obtain ⟨rfl, hk⟩ := inside_ok h3
    have hj := hT _ j (ti_ok.1 h4)
    simp only [R] at hx
    obtain ⟨hb, b, o, rfl, hr⟩ := hx
    refine Gives.of h (x := .pointer (some ⟨b, o + k * j.size, none⟩)) ?_ ?_
    · simp [Instr.indexAt, Instr.sureAddr, asIntOf, k1, hj.run_size, Addr.add_at]
      intro hh; omega
    · simp only [R]
      exact ⟨bares_drop _ hb, b, _, rfl, RAt_drop' _ hr⟩
  · rename_i len e id m off hu
    have k1 := und_arr hi hu
    simp only [bind_ok, pure_ok] at h2
    obtain ⟨k, h3, j, h4, rfl⟩ := h2
    obtain ⟨rfl, hk⟩ := inside_ok h3
    have hj := hT _ j (ti_ok.1 h4)
    simp only [R] at hx
    obtain ⟨loc, b, cap, hE, hl, rfl⟩ := hx
    refine Gives.of h (x := .pointer (some ⟨b, off + k * j.size, none⟩)) ?_ ?_
    · simp [Instr.indexAt, Instr.sureAddr, asIntOf, k1, hj.run_size, Addr.add_at]
      intro hh; omega
    · simp only [R]
      exact ⟨loc, b, cap, hE, hl, rfl⟩
  · cases h2
end
section
variable {P : Program} {T : TT} {A : Nat → Prop} {g : Gh} {st : St} {w : World}
theorem str_get (s : List UInt8) (k : Nat) : (⟨s.toArray⟩ : ByteArray)[k]? = s[k]? := by
  by_cases h : k < s.length
  · rw [List.getElem?_eq_getElem h, getElem?_pos (⟨s.toArray⟩ : ByteArray) k (by simpa [ByteArray.size] using h)]
    simp [ByteArray.getElem_eq_getElem_data]
  · rw [List.getElem?_eq_none (Nat.le_of_not_lt h), getElem?_neg (⟨s.toArray⟩ : ByteArray) k (by simpa [ByteArray.size] using h)]
theorem str_size (s : List UInt8) : (⟨s.toArray⟩ : ByteArray).size = s.length := by simp [ByteArray.size]
theorem index_sound (hT : TOk P T) {t : TypeId} {a ix v : AV} {x y : Value} (hp : indexV T t a ix = .ok v) (hx : R g a x) (hy : R g ix y) (h : Inv T A g st w) :
    Gives P T A g w v st (Instr.index t x y) := by
  simp only [indexV, bind_ok] at hp
  obtain ⟨n, h0, i, h1, h2⟩ := hp
  obtain ⟨kd, rfl⟩ := asInt_R h0 hy
  have hi := hT t i (ti_ok.1 h1)
  split at h2
  · rename_i s hu
    have k1 := und_str hi hu
    simp only [bind_ok] at h2
    obtain ⟨k, h3, h5⟩ := h2
    obtain ⟨rfl, hk⟩ := inside_ok h3
    split at h5
    · rename_i b hb
      simp only [pure_ok] at h5
      subst h5
      simp only [R] at hx
      subst hx
      refine Gives.of h (x := .int .u8 b.toNat) ?_ (by simp only [R])
      simp [Instr.index, asIntOf, k1, str_get, hb]
    · cases h5
  · rename_i len e cs hu
    have k1 := und_arr hi hu
    simp only [bind_ok] at h2
    obtain ⟨k, h3, j, h4, h5⟩ := h2
    obtain ⟨rfl, hk⟩ := inside_ok h3
    have hj := hT _ j (ti_ok.1 h4)
    simp only [R] at hx
    obtain ⟨ys, rfl, hr⟩ := hx
    obtain ⟨y, e1, e2⟩ := part_sound (w := w) hj h5 hr
    refine Gives.of h (x := y) ?_ e2
    have hkn : ¬ (len ≤ k) := by omega
    simp [Instr.index, asIntOf, k1, hkn, hj.run_size, e1]
  · cases h2
def OptR (n : Option Int) (x : Option Value) : Prop := match n, x with | none, none => True | some n, some y => ∃ k, y = .int k n | _, _ => False
def ORel (g : Gh) (a : Option AV) (x : Option Value) : Prop := match a, x with | none, none => True | some v, some y => R g v y | _, _ => False
theorem optInt_OptR {a : Option AV} {n : Option Int} {x : Option Value} (h : optInt a = .ok n) (hx : ORel g a x) : OptR n x := by
  cases a with
  | none =>
    cases x with
    | none => simp only [optInt, Except.ok.injEq] at h; subst h; trivial
    | some y => exact hx.elim
  | some v =>
    cases x with
    | none => exact hx.elim
    | some y =>
      simp only [optInt, bind_ok, pure_ok] at h
      obtain ⟨m, h1, rfl⟩ := h
      exact asInt_R h1 hx
theorem run_sliceBound {k : IntKind} {n m : Nat} {code : BoundsCode} (h : n ≤ m) : (Instr.sliceBound (.int k n) m code).run P w = .ok n w := by
  simp [Instr.sliceBound, asIntOf, h]
theorem run_bounds {isSlice : Bool} {len cap dflt : Nat} {lo hi mx : Option Int} {xl xh xm : Option Value} {l hh m : Nat} (hl : OptR lo xl) (hhi : OptR hi xh) (hm : OptR mx xm)
    (h1 : hiOf mx cap cap = .ok m) (h2 : hiOf hi m dflt = .ok hh) (hd : mx = none → dflt = len) (h3 : loOf lo hh = .ok l) (hmx : mx ≠ none → hi ≠ none) :
    (Instr.sliceBounds isSlice len cap xl xh xm).run P w = .ok (l, hh, m) w := by
  have b1 : ∀ {k : IntKind} {n m : Nat} {code : BoundsCode}, n ≤ m → (Instr.sliceBound (.int k n) m code).run P w = .ok n w := fun h => run_sliceBound h
  cases xm <;> cases mx <;> first | exact hm.elim | skip
  · have hd := hd rfl
    subst hd
    simp only [hiOf, Except.ok.injEq] at h1
    subst h1
    cases xh <;> cases hi <;> first | exact hhi.elim | skip
    · simp only [hiOf, Except.ok.injEq] at h2
      subst h2
      cases xl <;> cases lo <;> first | exact hl.elim | skip
      · simp only [loOf, Except.ok.injEq] at h3
        subst h3
        simp [Instr.sliceBounds]
      · obtain ⟨k, rfl⟩ := hl
        obtain ⟨rfl, hle⟩ := upto_ok h3
        simp [Instr.sliceBounds, b1 hle]
    · obtain ⟨k, rfl⟩ := hhi
      obtain ⟨rfl, hle2⟩ := upto_ok h2
      cases xl <;> cases lo <;> first | exact hl.elim | skip
      · simp only [loOf, Except.ok.injEq] at h3
        subst h3
        simp [Instr.sliceBounds, b1 hle2]
      · obtain ⟨k, rfl⟩ := hl
        obtain ⟨rfl, hle⟩ := upto_ok h3
        simp [Instr.sliceBounds, b1 hle, b1 hle2]
  · obtain ⟨k0, rfl⟩ := hm
    obtain ⟨rfl, hle1⟩ := upto_ok h1
    cases xh <;> cases hi <;> first | exact hhi.elim | skip
    · exact absurd rfl (hmx (by simp))
    · obtain ⟨k, rfl⟩ := hhi
      obtain ⟨rfl, hle2⟩ := upto_ok h2
      cases xl <;> cases lo <;> first | exact hl.elim | skip
      · simp only [loOf, Except.ok.injEq] at h3
        subst h3
        simp [Instr.sliceBounds, b1 hle1, b1 hle2]
      · obtain ⟨k, rfl⟩ := hl
        obtain ⟨rfl, hle⟩ := upto_ok h3
        simp [Instr.sliceBounds, b1 hle1, b1 hle, b1 hle2]
theorem str_extract (s : List UInt8) (l h : Nat) : (⟨s.toArray⟩ : ByteArray).extract l h = ⟨((s.take h).drop l).toArray⟩ := by
  apply ByteArray.ext
  simp [ByteArray.data_extract, List.drop_take]
theorem slice_str_sound {t : TypeId} {i : TI} (hi : TIOk P t i) (hu : i.und = .str) {s : List UInt8} {lo hh : Option Int} {xl xh : Option Value} {l m : Nat} (hl : OptR lo xl) (hhi : OptR hh xh)
    (h2 : hiOf hh s.length s.length = .ok m) (h3 : loOf lo m = .ok l) :
    (Instr.sliceAt t (.string ⟨s.toArray⟩) xl xh none).run P w = .ok (.string ⟨((s.take m).drop l).toArray⟩) w := by
  have k1 := und_str hi hu
  have hb := run_bounds (P := P) (w := w) (isSlice := false) (len := s.length) (cap := s.length) (mx := none) (xm := none) hl hhi trivial (m := s.length) (dflt := s.length) rfl h2 (fun _ => rfl) h3 (by simp)
  simp [Instr.sliceAt, Instr.slice, k1, str_size, hb, str_extract]
theorem run_slice {t e : TypeId} (k1 : ∀ w, (underlying t).run P w = .ok (.slice e) w) (a : Option Addr) (len cap : Nat) (xl xh xm : Option Value) {l hh m sz : Nat}
    (hb : (Instr.sliceBounds true len cap xl xh xm).run P w = .ok (l, hh, m) w) (hs : (sizeOf e).run P w = .ok sz w) :
    (Instr.sliceAt t (.slice a len cap) xl xh xm).run P w = .ok (.slice (if m = l then a else a.map (·.add (l * sz))) (hh - l) (m - l)) w := by
  simp [Instr.sliceAt, Instr.slice, k1, hb, hs]
theorem upto_mk {k n : Nat} (h : k ≤ n) : upto (k : Int) n = .ok k := by
  have : k.ble n = true := Nat.ble_eq_true_of_le h
  show (match k.ble n with | true => Except.ok k | false => Except.error _) = _
  rw [this]
theorem hiOf_le {hi : Option Int} {m d h : Nat} (e : hiOf hi m d = .ok h) (hd : d ≤ m) : h ≤ m := by
  cases hi with
  | none => simp only [hiOf, Except.ok.injEq] at e; omega
  | some n => exact (upto_ok e).2
theorem loOf_le {lo : Option Int} {h l : Nat} (e : loOf lo h = .ok l) : l ≤ h := by
  cases lo with
  | none => simp only [loOf, Except.ok.injEq] at e; omega
  | some n => exact (upto_ok e).2
theorem RAtE_nil_any {z b o : Nat} {l : List AV} (h : l = []) : RAtE g z l b o := by subst h; simp [RAtE]
theorem slice_sl {z : Nat} {es : List AV} {b o l hh m : Nat} (hb : bares es = true) (hz : 1 ≤ z) (hr : RAtE g z es b o) (hlh : l ≤ hh) (hhe : hh ≤ es.length) (hhm : hh ≤ m) {p : Perm}
    (hp : (m ≠ l → permR g p (hh - l) b (o + l * z) (m - l)) ∧ (m = l → permR g p (hh - l) b o (m - l))) :
    R g (.sl z ((es.take hh).drop l) p) (.slice (if m = l then some ⟨b, o, none⟩ else (some (⟨b, o, none⟩ : Addr)).map (·.add (l * z))) (hh - l) (m - l)) := by
  have hlen : ((es.take hh).drop l).length = hh - l := by simp; omega
  simp only [R, hlen]
  refine ⟨bares_drop _ (bares_take _ hb), ?_⟩
  by_cases hml : m = l
  · rw [if_pos hml]
    refine ⟨b, o, m - l, rfl, by omega, hz, RAtE_nil_any ?_, hp.2 hml⟩
    apply List.eq_nil_of_length_eq_zero; omega
  · rw [if_neg hml]
    refine ⟨b, o + l * z, m - l, by simp [Addr.add_at], by omega, hz, ?_, hp.1 hml⟩
    exact RAtE_drop _ (RAtE_take _ hr) (by simp; omega)
theorem slice_sound (hT : TOk P T) {t : TypeId} {a v : AV} {x : Value} {lo hi mx : Option AV} {xl xh xm : Option Value} (hp : sliceV T t a lo hi mx = .ok v) (hx : R g a x)
    (hl : ORel g lo xl) (hhi : ORel g hi xh) (hm : ORel g mx xm) (h : Inv T A g st w) (hmx : mx ≠ none → hi ≠ none) : Gives P T A g w v st (Instr.sliceAt t x xl xh xm) := by
  simp only [sliceV, bind_ok] at hp
  obtain ⟨nl, e1, nh, e2, nm, e3, i, e4, h2⟩ := hp
  have hi' := hT t i (ti_ok.1 e4)
  have ol := optInt_OptR e1 hl
  have oh := optInt_OptR e2 hhi
  have om := optInt_OptR e3 hm
  have hmx' : nm ≠ none → nh ≠ none := fun hn => by
    have : mx ≠ none := fun e => by subst e; simp only [optInt, Except.ok.injEq] at e3; exact hn e3.symm
    have := hmx this
    cases hi with
    | none => exact absurd rfl this
    | some y =>
      simp only [optInt, bind_ok, pure_ok] at e2
      obtain ⟨_, _, rfl⟩ := e2
      simp
  split at h2
  · rename_i s hu
    simp only [bind_ok, pure_ok] at h2
    obtain ⟨m, f1, l, f2, rfl⟩ := h2
    simp only [R] at hx
    subst hx
    cases xm with
    | some y => exact om.elim
    | none => exact Gives.of h (slice_str_sound hi' hu ol oh f1 f2) (by simp only [R])
  · rename_i nm _ _ _ e hu
    simp only [bind_ok, pure_ok] at h2
    obtain ⟨j, f0, m, f1, hh, f2, l, f3, rfl⟩ := h2
    have hj := hT _ j (ti_ok.1 f0)
    simp only [R] at hx
    subst hx
    have hm0 := hiOf_le f1 (Nat.le_refl _)
    have hh0 := hiOf_le f2 (Nat.zero_le _)
    have hl0 := loOf_le f3
    have hb := run_bounds (P := P) (w := w) (isSlice := true) (len := 0) (cap := 0) (dflt := 0) ol oh om f1 f2 (fun _ => rfl) f3 hmx'
    have := run_slice (und_slice hi' hu) none 0 0 xl xh xm hb (hj.run_size w)
    refine Gives.of h (x := .slice none 0 0) ?_ (by simp only [R])
    rw [this]
    have h0 : m - l = 0 := by omega
    have h1 : hh - l = 0 := by omega
    simp [h0, h1]
  · rename_i nm _ _ _ e hu
    simp only [bind_ok, pure_ok] at h2
    obtain ⟨j, f0, m, f1, hh, f2, l, f3, rfl⟩ := h2
    have hj := hT _ j (ti_ok.1 f0)
    simp only [R] at hx
    obtain ⟨a, rfl⟩ := hx
    have hm0 := hiOf_le f1 (Nat.le_refl _)
    have hh0 := hiOf_le f2 (Nat.zero_le _)
    have hl0 := loOf_le f3
    have hb := run_bounds (P := P) (w := w) (isSlice := true) (len := 0) (cap := 0) (dflt := 0) ol oh om f1 f2 (fun _ => rfl) f3 hmx'
    have := run_slice (und_slice hi' hu) (some a) 0 0 xl xh xm hb (hj.run_size w)
    refine Gives.of h (x := .slice (some a) 0 0) ?_ (by simp only [R]; exact ⟨a, rfl⟩)
    rw [this]
    have h2 : l = 0 := by omega
    have h3 : m = 0 := by omega
    have h4 : hh = 0 := by omega
    subst h2 h3 h4
    rfl
  · rename_i nm _ _ _ e id off sz len cap hu
    simp only [bind_ok] at h2
    obtain ⟨j, f0, h3⟩ := h2
    split at h3
    · cases h3
    · rename_i hsz
      have hsz := Nat.eq_of_beq_eq_true hsz
      have hj := hT _ j (ti_ok.1 f0)
      simp only [bind_ok] at h3
      obtain ⟨m, f1, hh, f2, l, f3, h4⟩ := h3
      split at h4
      · rename_i hle
        have hle := Nat.le_of_ble_eq_true hle
        simp only [pure_ok] at h4
        subst h4
        simp only [R] at hx
        obtain ⟨b, o, hE, c, rfl, hc, hz1, ho, hcc⟩ := hx
        have hmm : ∃ m', hiOf nm c c = .ok m' ∧ hiOf nh m' len = .ok hh ∧ hh ≤ m' ∧ m' ≤ c ∧ (m - l = m' - l ∨ m - l = 0) := by
          rcases hcc with rfl | rfl
          · exact ⟨m, f1, f2, hle, hiOf_le f1 (Nat.le_refl _), .inl rfl⟩
          · have hm0 : m ≤ 0 := hiOf_le f1 (Nat.le_refl _)
            cases nm with
            | none =>
              refine ⟨c, rfl, ?_, by omega, Nat.le_refl _, .inr (by omega)⟩
              cases nh with
              | none => exact f2
              | some n =>
                obtain ⟨rfl, hq⟩ := upto_ok f2
                exact upto_mk (by omega)
            | some y =>
              obtain ⟨q1, q2⟩ := upto_ok (show upto y 0 = .ok m from f1)
              subst q1
              exact ⟨m, upto_mk (by omega), f2, hle, by omega, .inl rfl⟩
        obtain ⟨m', f1, f2, hle, hmc, hcm⟩ := hmm
        have hb := run_bounds (P := P) (w := w) (isSlice := true) (len := len) (cap := c) (dflt := len) ol oh om f1 f2 (fun _ => rfl) f3 hmx'
        have := run_slice (und_slice hi' hu) (some ⟨b, o, none⟩) len c xl xh xm hb (hj.run_size w)
        refine Gives.of h this ?_
        have hl0 := loOf_le f3
        simp only [R]
        by_cases hml : m' = l
        · rw [if_pos hml]
          exact ⟨b, o, hE, m' - l, rfl, by omega, hz1, fun hne => absurd (by omega : m' - l = 0) hne, hcm⟩
        · rw [if_neg hml]
          have hcap : c ≠ 0 := fun e => by omega
          refine ⟨b, o + l * j.size, hE, m' - l, by simp [Addr.add_at], by omega, hz1, fun _ => by rw [ho hcap, hsz], hcm⟩
      · cases h4
  · rename_i e sz es p hu
    simp only [bind_ok] at h2
    obtain ⟨j, f0, h3⟩ := h2
    split at h3
    · cases h3
    · rename_i hsz
      have hsz := Nat.eq_of_beq_eq_true hsz
      have hj := hT _ j (ti_ok.1 f0)
      simp only [bind_ok] at h3
      obtain ⟨hh, f2, l, f3, h4⟩ := h3
      simp only [R] at hx
      obtain ⟨hb0, b, o, cap, rfl, hc, hz1, hr, hperm⟩ := hx
      cases xm with
      | some y => exact om.elim
      | none =>
        have f2' : hiOf nh cap es.length = .ok hh := by
          cases nh with
          | none => exact f2
          | some n =>
            obtain ⟨rfl, hq⟩ := upto_ok f2
            exact upto_mk (by omega)
        have hb := run_bounds (P := P) (w := w) (isSlice := true) (len := es.length) (cap := cap) (mx := none) (xm := none) (dflt := es.length) (m := cap) ol oh trivial rfl f2' (fun _ => rfl) f3 (by simp)
        have hrun := run_slice (und_slice hi' hu) (some ⟨b, o, none⟩) es.length cap xl xh none hb (hj.run_size w)
        have hhe := hiOf_le f2 (Nat.le_refl _)
        have hl0 := loOf_le f3
        rw [← hsz] at hrun
        refine Gives.of h hrun ?_
        have wide : R g (.sl sz ((es.take hh).drop l) .wide) (.slice (if cap = l then some ⟨b, o, none⟩ else (some (⟨b, o, none⟩ : Addr)).map (·.add (l * sz))) (hh - l) (cap - l)) :=
          slice_sl hb0 hz1 hr hl0 hhe (by omega) ⟨fun _ => trivial, fun _ => trivial⟩
        split at h4
        · rename_i hq
          have hq := Nat.eq_of_beq_eq_true hq
          simp only [pure_ok] at h4
          subst h4
          have hcap : cap = es.length := hperm
          have := slice_sl (m := cap) (p := .shut) hb0 hz1 hr hl0 hhe (by omega) ⟨fun _ => by show cap - l = hh - l; omega, fun _ => by show cap - l = hh - l; omega⟩
          rwa [List.take_of_length_le (by omega)] at this
        · rename_i k hq
          have hq := Nat.eq_of_beq_eq_true hq
          split at h4
          · rename_i hl
            have hl := Nat.eq_of_beq_eq_true hl
            subst hl
            simp only [pure_ok] at h4
            subst h4
            obtain ⟨ho0, hloc⟩ := hperm
            subst ho0
            have hx : (if cap = 0 then some (⟨b, 0, none⟩ : Addr) else (some (⟨b, 0, none⟩ : Addr)).map (·.add (0 * sz))) = some ⟨b, 0, none⟩ := by
              split <;> simp [Addr.add_at]
            simp only [R]
            refine ⟨hb0, b, 0, cap, ?_, hc, hz1, hr, rfl, hloc⟩
            rw [hx]
            simp [hq]
          · simp only [pure_ok] at h4
            subst h4
            rwa [List.take_of_length_le (by omega)] at wide
        · simp only [pure_ok] at h4
          subst h4
          exact wide
  · rename_i e sz es p m0 hu
    simp only [bind_ok] at h2
    obtain ⟨j, f0, h3⟩ := h2
    split at h3
    · cases h3
    · rename_i hsz
      have hsz := Nat.eq_of_beq_eq_true hsz
      have hj := hT _ j (ti_ok.1 f0)
      simp only [bind_ok, pure_ok] at h3
      obtain ⟨m, f1, hh, f2, l, f3, rfl⟩ := h3
      simp only [R] at hx
      obtain ⟨hb0, b, o, cap, rfl, hc, hz1, hr, hperm⟩ := hx
      obtain ⟨rfl, hmle⟩ := upto_ok f1
      have f1' : hiOf (some (m : Int)) cap cap = .ok m := by
        exact upto_mk (by omega)
      have hb := run_bounds (P := P) (w := w) (isSlice := true) (len := es.length) (cap := cap) (mx := some (m : Int)) (dflt := m) ol oh om f1' f2 (by simp) f3 hmx'
      have hrun := run_slice (und_slice hi' hu) (some ⟨b, o, none⟩) es.length cap xl xh xm hb (hj.run_size w)
      have hhe := hiOf_le f2 (Nat.le_refl _)
      have hl0 := loOf_le f3
      rw [← hsz] at hrun
      refine Gives.of h hrun ?_
      refine slice_sl hb0 hz1 hr hl0 (by omega) hhe ?_
      cases hq : m.beq hh with
      | true =>
        have hq := Nat.eq_of_beq_eq_true hq
        exact ⟨fun _ => by show m - l = hh - l; omega, fun _ => by show m - l = hh - l; omega⟩
      | false => exact ⟨fun _ => trivial, fun _ => trivial⟩
  · cases h2
end
end Go.VM
