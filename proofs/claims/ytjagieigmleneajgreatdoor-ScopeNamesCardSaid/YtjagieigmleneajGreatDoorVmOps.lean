/- What an operation gives in the model. -/
import Derived.Test.YtjagieigmleneajGreatDoorVmInv
import Derived.Laws.Cells
import Derived.Laws.CopyRow
import Derived.Laws.AppendOwn
namespace Go.VM

def Gives (P : Program) (T : TT) (A : Nat → Prop) (g : Gh) (w : World) (v : AV) (st' : St) (s : Sem Value) : Prop :=
  ∃ x g' w', s.run P w = .ok x w' ∧ R g' v x ∧ Inv T A g' st' w' ∧ Kp A g w g' w'
def GivesU (P : Program) (T : TT) (A : Nat → Prop) (g : Gh) (w : World) (st' : St) (s : Sem Unit) : Prop :=
  ∃ g' w', s.run P w = .ok () w' ∧ Inv T A g' st' w' ∧ Kp A g w g' w'

section
variable {P : Program} {T : TT} {A : Nat → Prop} {g : Gh} {st : St} {w : World}

theorem Gives.of {v : AV} {s : Sem Value} {x : Value} (h : Inv T A g st w) (hs : s.run P w = .ok x w) (hr : R g v x) : Gives P T A g w v st s :=
  ⟨x, g, w, hs, hr, h, Kp.refl _ _ _⟩

theorem TIOk.run_und {t : TypeId} {i : TI} (h : TIOk P t i) : ∃ d, (∀ w, (underlying t).run P w = .ok d w) ∧ UOk d i.und ∧ (i.agg = match d with | .struct _ | .array .. => true | _ => false) := by
  obtain ⟨d, h1, h2, h3⟩ := h.und
  exact ⟨d, fun w => by simp [underlying, h1], h2, h3⟩
theorem TIOk.run_size {t : TypeId} {i : TI} (h : TIOk P t i) (w : World) : (sizeOf t).run P w = .ok i.size w := by
  obtain ⟨f, h1, h2, _⟩ := h.info
  simp [sizeOf, typeInfo, h1, h2]
theorem TIOk.run_agg {t : TypeId} {i : TI} (h : TIOk P t i) (w : World) : (isAgg t).run P w = .ok i.agg w := by
  obtain ⟨d, h1, _, h3⟩ := h.run_und
  rw [h3]
  simp only [isAgg, Sem.run_bind, h1, Result.andThen_ok]
  cases d <;> rfl
theorem TIOk.run_zero {t : TypeId} {i : TI} (h : TIOk P t i) : ∃ z, (∀ w, (zeroValue t).run P w = .ok z w) ∧ z.cells.size = i.size ∧ (i.agg = false → z.oneCell' = true) ∧ (∀ v ∈ z.cells, v.oneCell' = true) ∧ (i.agg = true → ∃ cs, z = .agg cs) ∧ ∀ g, RL g i.zero z.cells.toList := by
  obtain ⟨f, h1, h2, h3, z, h4, h5⟩ := h.info
  exact ⟨z, fun w => by simp [zeroValue, typeInfo, h1, h4], h5⟩

theorem Addr.add_at (b o n : Nat) : (⟨b, o, none⟩ : Addr).add n = ⟨b, o + n, none⟩ := by
  unfold Addr.add; split
  · rename_i h; subst h; rfl
  · rfl

/-- Cells as a value. -/
theorem take_sound {size : Nat} {agg : Bool} {cells : List AV} {v : AV} {xs : List Value} (h : takeCells size agg cells = .ok v) (hr : RL g cells xs) :
    (agg = true → size ≤ xs.length ∧ R g v (.agg (xs.take size).toArray)) ∧ (agg = false → ∃ x l, xs = x :: l ∧ R g v x) := by
  cases agg with
  | true =>
    refine ⟨fun _ => ?_, (fun k => by cases k)⟩
    simp only [takeCells] at h
    split at h
    · rename_i hle
      simp only [Except.ok.injEq] at h
      subst h
      have := Nat.le_of_ble_eq_true hle
      rw [← RL_len hr] at this
      refine ⟨this, ?_⟩
      simp only [R]
      exact ⟨_, rfl, by simpa using RL_take size hr⟩
    · cases h
  | false =>
    refine ⟨(fun k => by cases k), fun _ => ?_⟩
    simp only [takeCells] at h
    cases cells with
    | nil => simp at h
    | cons u us =>
      simp only [Except.ok.injEq] at h
      subst h
      simp only [RL] at hr
      obtain ⟨x, l, h1, h2, _⟩ := hr
      exact ⟨x, l, h1, h2⟩

/-- Cells that stand in memory, loaded. -/
theorem run_loadVar_cells {t : TypeId} {i : TI} (hi : TIOk P t i) {b o : Nat} {cells : List AV} {v : AV} {xs : List Value}
    (h : takeCells i.size i.agg cells = .ok v) (hr : RL g cells xs) (hm : ∀ k x, xs[k]? = some x → w.cell? ⟨b, o + k, none⟩ = some x) :
    ∃ x, (loadVar t ⟨b, o, none⟩).run P w = .ok x w ∧ R g v x := by
  obtain ⟨h1, h2⟩ := take_sound h hr
  cases ha : i.agg with
  | true =>
    obtain ⟨k1, k2⟩ := h1 ha
    refine ⟨_, ?_, k2⟩
    have hl := run_loadCells_list (P := P) w ⟨b, o, none⟩ (xs.take i.size) (fun j x hx => by
      rw [Addr.add_at]
      refine hm j x ?_
      rw [List.getElem?_take] at hx
      split at hx
      · exact hx
      · cases hx)
    rw [List.length_take, Nat.min_eq_left k1] at hl
    simp only [loadVar, Sem.run_bind, hi.run_agg, Result.andThen_ok, ha, if_true, hi.run_size, hl, Sem.run_pure]
  | false =>
    obtain ⟨x, l, rfl, k2⟩ := h2 ha
    refine ⟨x, ?_, k2⟩
    have := hm 0 x rfl
    simp only [Nat.add_zero] at this
    simp only [loadVar, Sem.run_bind, hi.run_agg, Result.andThen_ok, ha, Bool.false_eq_true, if_false, run_load, this]

theorem cellsOf_ok {o : Obj} {cs : List AV} : cellsOf o = .ok cs ↔ ∃ ty, o = .cells ty cs := by
  cases o <;> simp [cellsOf]
theorem typedOf_ok {o : Obj} {ty : TypeId} {cs : List AV} : typedOf o = .ok (ty, cs) ↔ o = .cells ty cs := by
  cases o <;> simp [typedOf]

/-- The cells of an object of the store. -/
theorem Inv.cells (h : Inv T A g st w) {id : Nat} {ty : TypeId} {cs : List AV} (hg : st.get id = .ok (.cells ty cs)) :
    ∃ b vs, g.E id = some (.blk b) ∧ w.heap[b]? = some (.cells vs ty (0, 0)) ∧ RL g cs vs.toList ∧ (∀ v ∈ vs.toList, v.oneCell' = true) ∧ ∀ o, g.F b o = none :=
  h.H id _ hg

theorem load_sound {C : Caller} {t : TypeId} {i : TI} (hi : TIOk P t i) {a v : AV} {x : Value} {p : Plan} {fx : Fx}
    (hp : loadP i a = .ok p) (hrun : runPlan C st p = .ok (v, fx)) (hx : R g a x) (h : Inv T A g st w) :
    Gives P T A g w v (fx.did.app st) (Instr.loadAt t x) := by
  cases a with
  | ip cells =>
    simp only [loadP, bind_ok, pure_ok] at hp
    obtain ⟨u, h1, rfl⟩ := hp
    simp only [runPlan, Except.ok.injEq, Prod.mk.injEq] at hrun
    obtain ⟨rfl, rfl⟩ := hrun
    simp only [R] at hx
    obtain ⟨_, b, o, rfl, h3⟩ := hx
    obtain ⟨xs, k1, k2⟩ := RAt_vals h3
    obtain ⟨y, e1, e2⟩ := run_loadVar_cells hi h1 k1 fun k z hz => h.F _ _ _ (k2 k z hz).1
    exact Gives.of h (by simp [Instr.loadAt, Instr.sureAddr, e1]) e2
  | mp id off =>
    simp only [loadP, Except.ok.injEq] at hp
    subst hp
    simp only [readP, runPlan, bind_ok, pure_ok] at hrun
    obtain ⟨o, h1, ⟨v', o'⟩, ⟨v'', ⟨cs, h2, h3⟩, h4⟩, d, h5, h6⟩ := hrun
    rw [cellsOf_ok] at h2
    obtain ⟨ty, rfl⟩ := h2
    simp only [Prod.mk.injEq] at h4 h6
    obtain ⟨rfl, rfl⟩ := h4
    simp only [didOf, Except.ok.injEq] at h5
    subst h5
    obtain ⟨rfl, rfl⟩ := h6
    simp only [R] at hx
    obtain ⟨b, hE, rfl⟩ := hx
    obtain ⟨b', vs, k1, k2, k3, k4, k5⟩ := h.cells h1
    have hb : b' = b := by have := k1.symm.trans hE; simpa using this
    subst hb
    obtain ⟨y, e1, e2⟩ := run_loadVar_cells (w := w) (b := b') (o := off) hi h3 (RL_drop off k3) fun k z hz => by
      rw [cell_of k2]
      simpa using hz
    exact Gives.of h (by simp [Instr.loadAt, Instr.sureAddr, e1]) e2
  | _ => simp [loadP] at hp

theorem one_R : ∀ {v : AV} {x : Value}, one v = true → R g v x → x.oneCell' = true := by
  intro v x h hr
  cases v <;> simp only [R] at hr <;> first
    | (simp [one] at h; done)
    | (obtain ⟨_, _, _, _, _, rfl, _⟩ := hr; rfl)
    | (obtain ⟨_, _, _, _, _, rfl⟩ := hr; rfl)
    | (subst hr; rfl)
    | (obtain ⟨_, _, _, rfl, _⟩ := hr; rfl)
    | (obtain ⟨_, _, rfl⟩ := hr; rfl)
    | (obtain ⟨_, _, _, _, rfl, _⟩ := hr; rfl)
    | (obtain ⟨_, _, _, rfl, _⟩ := hr; rfl)
    | (obtain ⟨_, _, rfl, _⟩ := hr; rfl)
    | (obtain ⟨_, rfl, _⟩ := hr; rfl)
    | (obtain ⟨_, _, _, _, rfl, _⟩ := hr; rfl)
theorem ones_RL : ∀ {vs : List AV} {xs : List Value}, ones vs = true → RL g vs xs → ∀ x ∈ xs, x.oneCell' = true
  | [], _, _, h => by simp only [RL] at h; subst h; simp
  | v :: vs, _, k, h => by
    simp only [RL] at h
    obtain ⟨x, xs, rfl, h1, h2⟩ := h
    simp only [ones, Bool.and_eq_true] at k
    intro y hy
    rcases List.mem_cons.1 hy with rfl | hy
    · exact one_R k.1 h1
    · exact ones_RL k.2 h2 y hy
theorem R_cells {v : AV} {x : Value} (h : R g v x) (h1 : ones v.cells = true) : RL g v.cells x.cells.toList := by
  cases v with
  | agg cs =>
    simp only [R] at h
    obtain ⟨ys, rfl, h2⟩ := h
    exact h2
  | _ =>
    have := one_R (by simpa [AV.cells, ones] using h1) h
    have hx : x.cells = #[x] := by cases x <;> first | rfl | simp [Value.oneCell'] at this
    rw [hx]
    exact RL_cons h RL_nil

theorem setRow_size (w : World) (b : Nat) (cs : Array Value) : (w.setRow b cs).heap.size = w.heap.size := by simp [World.setRow]
theorem setRow_ne (w : World) (b : Nat) (cs : Array Value) {b' : Nat} (h : b' ≠ b) : (w.setRow b cs).heap[b']? = w.heap[b']? := by
  simp only [World.setRow, Array.getElem?_modify]
  rw [if_neg (fun e => h e.symm)]

theorem splice_RL {cs new : List AV} {xs ys : List Value} (off : Nat) (h : RL g cs xs) (k : RL g new ys) :
    RL g (splice cs off new) (xs.take off ++ ys ++ xs.drop (off + ys.length)) := by
  unfold splice
  rw [RL_len k]
  exact RL_append (RL_append (RL_take off h) k) (RL_drop _ h)

/-- The cells of an object, written anew. -/
theorem Inv.rewrite (h : Inv T A g st w) {id b : Nat} {cs cs' : List AV} {vs : Array Value} {vs' : List Value} {ty : TypeId} (h1 : st.get id = .ok (.cells ty cs)) (k1 : g.E id = some (.blk b))
    (k2 : w.heap[b]? = some (.cells vs ty (0, 0))) (k5 : ∀ o, g.F b o = none) (hro : st.ro ≤ id) (hr : RL g cs' vs') (ho : ∀ v ∈ vs', v.oneCell' = true) :
    Inv T A g (st.put id (.cells ty cs')) (w.setRow b vs'.toArray) ∧ Kp A g w g (w.setRow b vs'.toArray) := by
  refine ⟨h.write h1 (o := .cells ty cs) (b := b) k1 (.cells ty cs') (setRow_size _ _ _) (fun _ hb => setRow_ne _ _ _ hb) ?_ ?_ ?_ ?_, Kp.write (h.own id _ b h1 k1 hro) (setRow_size _ _ _) (fun _ hb => setRow_ne _ _ _ hb)⟩
  · intro k u hu; rw [k5 k] at hu; cases hu
  · cases hm : g.M b with
    | none => rfl
    | some e =>
      have := h.M b e.1 e.2 hm
      rw [k2] at this; cases this
  · intro b'' hb''
    have : g.E id = some (.blk b'') := hb''
    have := k1.symm.trans this
    simpa using this.symm
  · exact ⟨b, _, k1, setRow_heap _ _ _ _ _ _ k2, by simpa using hr, by simpa using ho, k5⟩

theorem store_sound {C : Caller} {t : TypeId} {i : TI} (hi : TIOk P t i) {a v r : AV} {x y : Value} {p : Plan} {fx : Fx}
    (hp : storeP i a v = .ok p) (hrun : runPlan C st p = .ok (r, fx)) (hx : R g a x) (hy : R g v y) (h : Inv T A g st w) :
    r = undef ∧ GivesU P T A g w (fx.did.app st) (Instr.storeAt t x y) := by
  cases a with
  | mp id off =>
    simp only [storeP] at hp
    split at hp
    · rename_i hc
      simp only [Bool.and_eq_true] at hc
      have hsz := Nat.eq_of_beq_eq_true hc.1
      simp only [Except.ok.injEq] at hp
      subst hp
      simp only [runPlan, bind_ok, pure_ok] at hrun
      obtain ⟨o, h1, ⟨v', o'⟩, ⟨⟨ty, cs⟩, h2, h3⟩, d, h5, h6⟩ := hrun
      rw [typedOf_ok] at h2
      subst h2
      dsimp only at h3
      split at h3
      · rename_i hle
        have hle := Nat.le_of_ble_eq_true hle
        simp only [pure_ok, Prod.mk.injEq] at h3
        obtain ⟨rfl, rfl⟩ := h3
        simp only [didOf] at h5
        split at h5
        · cases h5
        · rename_i hro
          rw [blt_false] at hro
          simp only [Except.ok.injEq] at h5
          subst h5
          simp only [Prod.mk.injEq] at h6
          obtain ⟨rfl, rfl⟩ := h6
          refine ⟨rfl, ?_⟩
          simp only [R] at hx
          obtain ⟨b, hE, rfl⟩ := hx
          obtain ⟨b', vs, k1, k2, k3, k4, k5⟩ := h.cells h1
          have hb : b' = b := by have := k1.symm.trans hE; simpa using this
          subst hb
          have hyc := R_cells hy hc.2
          have hyl := RL_len hyc
          have hvl := RL_len k3
          simp only [Array.length_toList] at hyl hvl
          have hyo := ones_RL hc.2 hyc
          have hst := run_storeCells_at P b' off ty y.cells.toList 0 vs w k2 (by simp; omega) hyo
          simp only [Nat.add_zero, Array.length_toList] at hst
          obtain ⟨w1, w2⟩ := h.rewrite h1 k1 k2 k5 hro (cs' := splice cs off v.cells) (vs' := vs.toList.take off ++ y.cells.toList ++ vs.toList.drop (off + y.cells.size))
            (by simpa using splice_RL off k3 hyc) (fun u hu => by
              simp only [List.mem_append] at hu
              rcases hu with (hu | hu) | hu
              · exact k4 u (List.mem_of_mem_take hu)
              · exact hyo u hu
              · exact k4 u (List.mem_of_mem_drop hu))
          refine ⟨g, _, ?_, w1, w2⟩
          simp only [Instr.storeAt, Instr.sureAddr, Sem.run_bind, Sem.run_pure, Result.andThen_ok, storeVar, hi.run_size, Sem.run_ite]
          rw [if_neg (by omega)]
          exact hst
      · cases h3
    · cases hp
  | _ => simp [storeP] at hp

/-! New blocks. -/
theorem Inv.F_new (h : Inv T A g st w) {b : Nat} (hb : w.heap.size ≤ b) (o : Nat) : g.F b o = none := by
  cases hf : g.F b o with
  | none => rfl
  | some v =>
    obtain ⟨vs, ty, fz, h2, _⟩ := cells_of (h.F b o v hf)
    have := lt_of_heap h2
    omega
theorem Inv.M_new (h : Inv T A g st w) {b : Nat} (hb : w.heap.size ≤ b) : g.M b = none := by
  cases hf : g.M b with
  | none => rfl
  | some v =>
    have := lt_of_heap (h.M b v.1 v.2 hf)
    omega
theorem Inv.not_new (h : Inv T A g st w) {b : Nat} (hb : w.heap.size ≤ b) (id : Nat) (o : Obj) (ho : st.get id = .ok o) : ¬ At g id o b := fun ha => by
  have := At_lt (h.H id o ho) ha
  omega

/-- A new object of the store, in a new block. -/
theorem Inv.newObj (h : Inv T A g st w) (o : Obj) (m : Go.Obj) (hat : ∀ b', At (g.setE st.h (.blk w.heap.size)) st.h o b' → b' = w.heap.size)
    (ho : Holds T (g.setE st.h (.blk w.heap.size)) (w.alloc m) st.h o) :
    Inv T A (g.setE st.h (.blk w.heap.size)) (st.new o).2 (w.alloc m) ∧ Kp A g w (g.setE st.h (.blk w.heap.size)) (w.alloc m) :=
  ⟨(h.alloc m).name o _ w.heap.size (fun id o' ho' => h.not_new (Nat.le_refl _) id o' ho') (h.up _ (Nat.le_refl _)) hat ho,
   (Kp.alloc m h).trans (Kp.setE (h.E _ (Nat.le_refl _)))⟩

theorem Inv.newCells (h : Inv T A g st w) {cs : List AV} {xs : List Value} (ty : TypeId) (hr : RL g cs xs) (h1 : ∀ x ∈ xs, x.oneCell' = true) :
    Inv T A (g.setE st.h (.blk w.heap.size)) (st.new (.cells ty cs)).2 (w.alloc (.cells xs.toArray ty)) ∧ Kp A g w (g.setE st.h (.blk w.heap.size)) (w.alloc (.cells xs.toArray ty)) ∧
    R (g.setE st.h (.blk w.heap.size)) (.mp st.h 0) (.pointer (some ⟨w.heap.size, 0, none⟩)) := by
  have hle : Le g (g.setE st.h (.blk w.heap.size)) := Le.setE (h.E _ (Nat.le_refl _))
  obtain ⟨k1, k2⟩ := h.newObj (.cells ty cs) (.cells xs.toArray ty) (fun b' hb' => by
    have : (g.setE st.h (.blk w.heap.size)).E st.h = some (.blk b') := hb'
    rw [Gh.setE_same] at this
    simpa using this.symm) ⟨w.heap.size, xs.toArray, Gh.setE_same _ _ _, World.heap_alloc_new, by simpa using RL_mono hle _ _ hr, by simpa using h1, fun o => h.F_new (Nat.le_refl _) o⟩
  exact ⟨k1, k2, by simp only [R]; exact ⟨_, Gh.setE_same _ _ _, rfl⟩⟩

/-- A new block that never changes. -/
theorem Inv.newFixed (h : Inv T A g st w) {cs : List AV} {xs : List Value} (ty : TypeId) (hr : RL g cs xs) (h1 : ∀ x ∈ xs, x.oneCell' = true) :
    Inv T A (g.addF w.heap.size 0 xs) st (w.alloc (.cells xs.toArray ty)) ∧ Kp A g w (g.addF w.heap.size 0 xs) (w.alloc (.cells xs.toArray ty)) ∧
    RAt (g.addF w.heap.size 0 xs) cs w.heap.size 0 := by
  have hF : ∀ o, 0 ≤ o → o < 0 + xs.length → g.F w.heap.size o = none := fun o _ _ => h.F_new (Nat.le_refl _) o
  have hle : Le g (g.addF w.heap.size 0 xs) := Le.addF hF
  refine ⟨(h.alloc _).addF _ 0 xs hF ?_ fun id o ho => h.not_new (Nat.le_refl _) id o ho, (Kp.alloc _ h).trans (Kp.addF (h.up _ (Nat.le_refl _)) hF), ?_⟩
  · intro i v hv
    rw [cell_of (World.heap_alloc_new)]
    simpa using hv
  · refine RAt_of_vals (RL_mono hle _ _ hr) fun i x hx => ⟨?_, h1 x (List.mem_of_getElem? hx)⟩
    exact Gh.addF_at g _ 0 xs i x hx

theorem run_newRow (ty : TypeId) (xs : Array Value) : (newRow ty xs).run P w = .ok ⟨w.heap.size, 0, none⟩ (w.alloc (.cells xs ty)) := by
  simp [newRow]

theorem alloc_sound {t : TypeId} {i : TI} (hi : TIOk P t i) (h : Inv T A g st w) (old : Value) :
    Gives P T A g w (.mp st.h 0) (st.new (.cells t i.zero)).2 (Instr.alloc t true old) := by
  obtain ⟨z, h1, h2, h3, h4, h5, h6⟩ := hi.run_zero
  obtain ⟨k1, k2, k3⟩ := h.newCells t (h6 g) (by simpa using h4)
  refine ⟨_, _, _, ?_, k3, k1, k2⟩
  simp [Instr.alloc, h1, newVar, run_newRow]

theorem box_sound {C : Caller} {imm : Bool} {t : TypeId} {i : TI} {v r : AV} {y : Value} {p : Plan} {fx : Fx}
    (hp : boxP imm t i v = .ok p) (hrun : runPlan C st p = .ok (r, fx)) (hy : R g v y) (h : Inv T A g st w) :
    Gives P T A g w r (fx.did.app st) (Instr.box t y) := by
  simp only [boxP] at hp
  split at hp
  · cases hp
  · rename_i hc
    simp only [Bool.and_eq_true] at hc
    have hyc := R_cells hy hc.2
    have hyo := ones_RL hc.2 hyc
    split at hp
    · simp only [bind_ok, pure_ok] at hp
      obtain ⟨cs, h1, rfl⟩ := hp
      simp only [runPlan, Except.ok.injEq, Prod.mk.injEq] at hrun
      obtain ⟨rfl, rfl⟩ := hrun
      obtain ⟨f1, f2⟩ := RL_fits hyc h1
      obtain ⟨k1, k2, k3⟩ := h.newFixed t f1 hyo
      refine ⟨.pointer (some ⟨w.heap.size, 0, none⟩), _, _, ?_, ?_, k1, k2⟩
      · simp [Instr.box, newVar, run_newRow]
      · simp only [R]
        exact ⟨f2, _, _, rfl, k3⟩
    · simp only [Except.ok.injEq] at hp
      subst hp
      simp only [runPlan, Except.ok.injEq, Prod.mk.injEq] at hrun
      obtain ⟨rfl, rfl⟩ := hrun
      obtain ⟨k1, k2, k3⟩ := h.newCells t hyc hyo
      refine ⟨.pointer (some ⟨w.heap.size, 0, none⟩), _, _, ?_, k3, k1, k2⟩
      simp [Instr.box, newVar, run_newRow]

/-! Addresses and parts. -/
theorem und_struct {t : TypeId} {i : TI} {fs : List (Nat × TypeId)} (hi : TIOk P t i) (hu : i.und = .struct fs) :
    ∃ fields : Array Field, (∀ w, (underlying t).run P w = .ok (.struct fields) w) ∧ fields.toList.map (fun f => (f.offset, f.type)) = fs := by
  obtain ⟨d, h1, h2, _⟩ := hi.run_und
  rw [hu] at h2
  obtain ⟨fields, rfl, h3⟩ := h2
  exact ⟨fields, h1, h3⟩
theorem und_slice {t e : TypeId} {i : TI} (hi : TIOk P t i) (hu : i.und = .slice e) : ∀ w, (underlying t).run P w = .ok (.slice e) w := by
  obtain ⟨d, h1, h2, _⟩ := hi.run_und
  rw [hu] at h2
  cases h2
  exact h1
theorem und_arr {t e : TypeId} {n : Nat} {i : TI} (hi : TIOk P t i) (hu : i.und = .arr n e) : ∀ w, (underlying t).run P w = .ok (.array n e) w := by
  obtain ⟨d, h1, h2, _⟩ := hi.run_und
  rw [hu] at h2
  cases h2
  exact h1
theorem und_str {t : TypeId} {i : TI} (hi : TIOk P t i) (hu : i.und = .str) : ∀ w, (underlying t).run P w = .ok .string w := by
  obtain ⟨d, h1, h2, _⟩ := hi.run_und
  rw [hu] at h2
  cases h2
  exact h1
theorem und_int {t : TypeId} {k : IntKind} {i : TI} (hi : TIOk P t i) (hu : i.und = .int k) : ∀ w, (underlying t).run P w = .ok (.int k) w := by
  obtain ⟨d, h1, h2, _⟩ := hi.run_und
  rw [hu] at h2
  cases h2
  exact h1
theorem und_map {t k e : TypeId} {i : TI} (hi : TIOk P t i) (hu : i.und = .map k e) : ∀ w, (underlying t).run P w = .ok (.map k e) w := by
  obtain ⟨d, h1, h2, _⟩ := hi.run_und
  rw [hu] at h2
  cases h2
  exact h1
theorem fields_at {fields : Array Field} {fs : List (Nat × TypeId)} (h : fields.toList.map (fun f => (f.offset, f.type)) = fs) {n off : Nat} {ft : TypeId}
    (hn : fs[n]? = some (off, ft)) : ∃ f, fields[n]? = some f ∧ f.offset = off ∧ f.type = ft := by
  subst h
  simp only [List.getElem?_map, Array.getElem?_toList] at hn
  cases hf : fields[n]? with
  | none => simp [hf] at hn
  | some f => simp [hf] at hn; exact ⟨f, rfl, hn.1, hn.2⟩

theorem fieldAddr_sound (hT : TOk P T) {t : TypeId} {n : Nat} {a v : AV} {x : Value} (hp : fieldAddr T t a n = .ok v) (hx : R g a x) (h : Inv T A g st w) :
    Gives P T A g w v st (Instr.fieldAt t x n) := by
  simp only [fieldAddr, bind_ok] at hp
  obtain ⟨i, h1, h2⟩ := hp
  have hi := hT t i (ti_ok.1 h1)
  split at h2
  · rename_i fs hu
    obtain ⟨fields, k1, k2⟩ := und_struct hi hu
    split at h2
    · rename_i off ft hn
      obtain ⟨f, k3, rfl, rfl⟩ := fields_at k2 hn
      simp only [bind_ok] at h2
      obtain ⟨j, h3, h4⟩ := h2
      have hj := hT _ j (ti_ok.1 h3)
      have hrun : ∀ b o, x = .pointer (some ⟨b, o, none⟩) → j.size ≠ 0 → (Instr.fieldAt t x n).run P w = .ok (.pointer (some ⟨b, o + f.offset, none⟩)) w := by
        rintro b o rfl hz
        simp [Instr.fieldAt, k1, k3, Instr.sureAddr, fieldPlace, hj.run_size, hz, Addr.add_at]
      split at h4
      · cases h4
      · rename_i m hm
        split at h4
        · simp only [pure_ok] at h4
          subst h4
          simp only [R] at hx
          obtain ⟨hb, b, o, hx, hr⟩ := hx
          refine Gives.of h (hrun b o hx (by omega)) ?_
          simp only [R]
          exact ⟨bares_drop _ hb, b, o + f.offset, rfl, RAt_drop' _ hr⟩
        · simp only [pure_ok] at h4
          subst h4
          simp only [R] at hx
          obtain ⟨b, hE, hx⟩ := hx
          refine Gives.of h (hrun b _ hx (by omega)) ?_
          simp only [R]
          exact ⟨b, hE, rfl⟩
        · cases h4
    · cases h2
  · cases h2

theorem part_sound {t : TypeId} {i : TI} (hi : TIOk P t i) {cs : List AV} {ys : Array Value} {off : Nat} {v : AV}
    (hp : takeCells i.size i.agg (cs.drop off) = .ok v) (hr : RL g cs ys.toList) : ∃ y, (part t ys off).run P w = .ok y w ∧ R g v y := by
  obtain ⟨h1, h2⟩ := take_sound hp (RL_drop off hr)
  cases ha : i.agg with
  | true =>
    obtain ⟨_, k2⟩ := h1 ha
    refine ⟨_, ?_, k2⟩
    simp only [part, Sem.run_bind, hi.run_agg, Result.andThen_ok, ha, if_true, hi.run_size, Sem.run_pure]
    congr 2
    apply Array.ext'
    simp [List.take_drop, Array.toList_extract]
  | false =>
    obtain ⟨y, l, k1, k2⟩ := h2 ha
    refine ⟨y, ?_, k2⟩
    have : ys[off]? = some y := by
      rw [← Array.getElem?_toList]
      have := congrArg (·[0]?) k1
      simpa using this
    simp [part, hi.run_agg, ha, this]

theorem field_sound (hT : TOk P T) {t : TypeId} {n : Nat} {a v : AV} {x : Value} (hp : field T t a n = .ok v) (hx : R g a x) (h : Inv T A g st w) :
    Gives P T A g w v st (Instr.field t x n) := by
  simp only [field, bind_ok] at hp
  obtain ⟨i, h1, h2⟩ := hp
  have hi := hT t i (ti_ok.1 h1)
  split at h2
  · rename_i fs cs hu
    obtain ⟨fields, k1, k2⟩ := und_struct hi hu
    split at h2
    · rename_i off ft hn
      obtain ⟨f, k3, rfl, rfl⟩ := fields_at k2 hn
      simp only [bind_ok] at h2
      obtain ⟨j, h3, h4⟩ := h2
      have hj := hT _ j (ti_ok.1 h3)
      simp only [R] at hx
      obtain ⟨ys, rfl, hr⟩ := hx
      obtain ⟨y, e1, e2⟩ := part_sound (w := w) hj h4 hr
      exact Gives.of h (by simp [Instr.field, k1, k3, asAgg, e1]) e2
    · cases h2
  · cases h2

theorem asInt_R {a : AV} {n : Int} {x : Value} (h : asInt a = .ok n) (hx : R g a x) : ∃ k, x = .int k n := by
  cases a <;> simp [asInt] at h
  subst h
  simp only [R] at hx
  exact ⟨_, hx⟩
theorem inside_ok {i : Int} {n k : Nat} (h : inside i n = .ok k) : i = k ∧ k < n := by
  unfold inside at h
  split at h
  · split at h
    · rename_i hb
      rw [blt_true] at hb
      simp only [Except.ok.injEq] at h
      subst h
      exact ⟨rfl, hb⟩
    · cases h
  · cases h
theorem upto_ok {i : Int} {n k : Nat} (h : upto i n = .ok k) : i = k ∧ k ≤ n := by
  unfold upto at h
  split at h
  · split at h
    · rename_i hb
      simp only [Except.ok.injEq] at h
      subst h
      exact ⟨rfl, Nat.le_of_ble_eq_true hb⟩
    · cases h
  · cases h

theorem indexAddr_sound (hT : TOk P T) {t : TypeId} {a ix v : AV} {x y : Value} (hp : indexAddr T t a ix = .ok v) (hx : R g a x) (hy : R g ix y) (h : Inv T A g st w) :
    Gives P T A g w v st (Instr.indexAt t x y) := by
  simp only [indexAddr, bind_ok] at hp
  obtain ⟨n, h0, i, h1, h2⟩ := hp
  obtain ⟨kd, rfl⟩ := asInt_R h0 hy
  have hi := hT t i (ti_ok.1 h1)
  split at h2
  · rename_i e sz es p hu
    have k1 := und_slice hi hu
    simp only [bind_ok] at h2
    obtain ⟨k, h3, j, h4, h5⟩ := h2
    obtain ⟨rfl, hk⟩ := inside_ok h3
    have hj := hT _ j (ti_ok.1 h4)
    split at h5
    · rename_i hsz
      have hsz := Nat.eq_of_beq_eq_true hsz
      simp only [bind_ok, pure_ok] at h5
      obtain ⟨u, h6, rfl⟩ := h5
      simp only [R] at hx
      obtain ⟨hb, b, o, cap, rfl, hc, hz1, hr, _⟩ := hx
      obtain ⟨e1, e2⟩ := RAtE_nth hr h6
      refine Gives.of h (x := .pointer (some ⟨b, o + k * sz, none⟩)) ?_ ?_
      · simp [Instr.indexAt, asIntOf, k1, hj.run_size, Addr.add_at, hsz]
        intro hh; omega
      · simp only [R]
        exact ⟨bares_cells (bares_nth hb h6), b, _, rfl, e2⟩
    · cases h5
  · rename_i e id off sz len cap hu
    have k1 := und_slice hi hu
    simp only [bind_ok] at h2
    obtain ⟨k, h3, j, h4, h5⟩ := h2
    obtain ⟨rfl, hk⟩ := inside_ok h3
    have hj := hT _ j (ti_ok.1 h4)
    split at h5
    · rename_i hsz
      have hsz := Nat.eq_of_beq_eq_true hsz
      simp only [pure_ok] at h5
      subst h5
      simp only [R] at hx
      obtain ⟨b, o, hE, rfl, hc, hz1, ho⟩ := hx
      have ho := ho (by omega)
      subst ho
      refine Gives.of h (x := .pointer (some ⟨b, o + k * sz, none⟩)) ?_ ?_
      · simp [Instr.indexAt, asIntOf, k1, hj.run_size, Addr.add_at, hsz]
        intro hh; omega
      · simp only [R]
        exact ⟨b, hE, rfl⟩
    · cases h5
  · rename_i len e id off hu
    have k1 := und_arr hi hu
    simp only [bind_ok, pure_ok] at h2
    obtain ⟨k, h3, j, h4, rfl⟩ := h2
    obtain ⟨rfl, hk⟩ := inside_ok h3
    have hj := hT _ j (ti_ok.1 h4)
    simp only [R] at hx
    obtain ⟨b, hE, rfl⟩ := hx
    refine Gives.of h (x := .pointer (some ⟨b, off + k * j.size, none⟩)) ?_ ?_
    · simp [Instr.indexAt, Instr.sureAddr, asIntOf, k1, hj.run_size, Addr.add_at]
      intro hh; omega
    · simp only [R]
      exact ⟨b, hE, rfl⟩
  · rename_i len e cells hu
    have k1 := und_arr hi hu
    simp only [bind_ok, pure_ok] at h2
    obtain ⟨k, h3, j, h4, rfl⟩ := h2
    obtain ⟨rfl, hk⟩ := inside_ok h3
    have hj := hT _ j (ti_ok.1 h4)
    simp only [R] at hx
    obtain ⟨hb, b, o, rfl, hr⟩ := hx
    refine Gives.of h (x := .pointer (some ⟨b, o + k * j.size, none⟩)) ?_ ?_
    · simp [Instr.indexAt, Instr.sureAddr, asIntOf, k1, hj.run_size, Addr.add_at]
      intro hh; omega
    · simp only [R]
      exact ⟨bares_drop _ hb, b, _, rfl, RAt_drop' _ hr⟩
  · cases h2

end
end Go.VM
