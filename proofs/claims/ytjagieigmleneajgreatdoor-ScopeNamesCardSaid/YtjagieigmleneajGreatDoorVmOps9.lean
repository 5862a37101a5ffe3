/- What is built. -/
import Derived.Test.YtjagieigmleneajGreatDoorVmOps8
import Derived.Laws.Build
namespace Go.VM
section
variable {P : Program} {T : TT} {A : Nat → Prop} {g : Gh} {st : St} {w : World}

theorem foldl_set (off : Nat) : ∀ (new : List Value) (k : Nat) (cells : Array Value), off + k + new.length ≤ cells.size →
    ((new.zipIdx k).foldl (fun cs (x : Value × Nat) => cs.setIfInBounds (off + x.2) x.1) cells).toList = cells.toList.take (off + k) ++ new ++ cells.toList.drop (off + k + new.length)
  | [], k, cells, _ => by simp
  | v :: new, k, cells, h => by
    simp only [List.length_cons] at h
    rw [List.zipIdx_cons, List.foldl_cons, foldl_set off new (k + 1) _ (by simp; omega)]
    have e := list_seg_step cells.toList (off + k) v new (by simp; omega)
    simpa [Array.toList_setIfInBounds, Nat.add_assoc, Nat.add_comm 1] using e

theorem fill_step {v : Value} {off : Nat} {cells : Array Value} (h : off + v.cells.size ≤ cells.size) :
    (v.cells.zipIdx.foldl (fun cs (x : Value × Nat) => cs.setIfInBounds (off + x.2) x.1) cells).toList = cells.toList.take off ++ v.cells.toList ++ cells.toList.drop (off + v.cells.size) := by
  rw [← Array.foldl_toList]
  have := foldl_set off v.cells.toList 0 cells (by simpa using h)
  simpa [Array.toList_zipIdx] using this

/-- Parts, side by side. -/
inductive RParts (g : Gh) : List (Nat × AV) → List (Nat × Value) → Prop
  | nil : RParts g [] []
  | cons {i : Nat} {v : AV} {x : Value} {l : List (Nat × AV)} {m : List (Nat × Value)} (h : R g v x) (t : RParts g l m) : RParts g ((i, v) :: l) ((i, x) :: m)

theorem cells_len {v : AV} {x : Value} (h : R g v x) : x.cells.size = v.cells.length ∧ (RL g v.cells x.cells.toList) := by
  cases v with
  | agg cs =>
    simp only [R] at h
    obtain ⟨ys, rfl, h2⟩ := h
    exact ⟨by simpa [AV.cells, Value.cells] using RL_len h2, h2⟩
  | _ =>
    have hx : x.cells = #[x] := by
      simp only [R] at h
      first
        | (obtain ⟨_, _, _, _, _, rfl, _⟩ := h; rfl)
        | (obtain ⟨_, _, _, _, _, rfl⟩ := h; rfl)
        | (subst h; rfl)
        | (obtain ⟨_, _, _, rfl, _⟩ := h; rfl)
        | (obtain ⟨_, _, rfl⟩ := h; rfl)
        | (obtain ⟨_, _, _, _, rfl, _⟩ := h; rfl)
        | (obtain ⟨_, _, rfl, _⟩ := h; rfl)
        | (obtain ⟨_, rfl, _⟩ := h; rfl)
        | (obtain ⟨_, _, _, rfl, _⟩ := h; rfl)
    rw [hx]
    exact ⟨rfl, RL_cons h RL_nil⟩

theorem fillAt_sound {place place' : Nat → Option (Nat × Nat)} (hpl : ∀ k p, place k = some p → place' k = some p) : ∀ {parts : List (Nat × AV)} {parts' : List (Nat × Value)} {cells cs : List AV} {xs : Array Value},
    RParts g parts parts' → RL g cells xs.toList → fillAt place cells parts = .ok cs → ∃ ys, Instr.fill place' xs parts' = some ys ∧ RL g cs ys.toList
  | _, _, _, _, _, .nil, hr, h => by
    simp only [fillAt, Except.ok.injEq] at h
    subst h
    exact ⟨_, rfl, hr⟩
  | _, _, cells, cs, xs, .cons (i := i) (v := v) (x := x) hv ht, hr, h => by
    simp only [fillAt] at h
    split at h
    · cases h
    · rename_i off size hp
      split at h
      · rename_i hc
        simp only [Bool.and_eq_true] at hc
        have h1 := Nat.eq_of_beq_eq_true hc.1
        have h2 := Nat.le_of_ble_eq_true hc.2
        obtain ⟨c1, c2⟩ := cells_len hv
        have hxl := RL_len hr
        simp only [Array.length_toList] at hxl
        have hst : (x.cells.zipIdx.foldl (fun cs (y : Value × Nat) => cs.setIfInBounds (off + y.2) y.1) xs).toList = xs.toList.take off ++ x.cells.toList ++ xs.toList.drop (off + x.cells.size) := fill_step (by omega)
        have hrl : RL g (splice cells off v.cells) (x.cells.zipIdx.foldl (fun cs (y : Value × Nat) => cs.setIfInBounds (off + y.2) y.1) xs).toList := by
          rw [hst]
          have := splice_RL off hr c2
          simpa using this
        obtain ⟨ys, k1, k2⟩ := fillAt_sound hpl ht hrl h
        refine ⟨ys, ?_, k2⟩
        simp only [Instr.fill, hpl _ _ hp]
        rw [if_neg (by simp; omega)]
        exact k1
      · cases h

theorem sizesOf_sound (hT : TOk P T) {w : World} : ∀ {fields : List Field} {ps : List (Nat × Nat)}, sizesOf T (fields.map fun f => (f.offset, f.type)) = .ok ps →
    (fields.mapM fun f => do pure (f.offset, ← sizeOf f.type) : Sem (List (Nat × Nat))).run P w = .ok ps w
  | [], _, h => by
    simp only [List.map_nil, sizesOf, Except.ok.injEq] at h
    subst h
    rfl
  | f :: l, _, h => by
    simp only [List.map_cons, sizesOf, bind_ok, pure_ok] at h
    obtain ⟨i, h1, ps, h2, rfl⟩ := h
    have hi := hT _ i (ti_ok.1 h1)
    have ih := sizesOf_sound hT (w := w) h2
    rw [List.mapM_cons]
    simp only [Sem.run_bind, hi.run_size, Result.andThen_ok, Sem.run_pure, ih]

theorem build_sound (hT : TOk P T) {t : TypeId} {parts : List (Nat × AV)} {parts' : Array (Nat × Value)} {v : AV} (hp : build T t parts = .ok v) (hr : RParts g parts parts'.toList) (h : Inv T A g st w) :
    Gives P T A g w v st (Instr.build t parts') := by
  simp only [build, bind_ok] at hp
  obtain ⟨i, h1, h2⟩ := hp
  have hi := hT t i (ti_ok.1 h1)
  obtain ⟨z, z1, z2, z3, z4, z5, z6⟩ := hi.run_zero
  split at h2
  · rename_i fs hu
    obtain ⟨fields, k1, k2⟩ := und_struct hi hu
    simp only [bind_ok, pure_ok] at h2
    obtain ⟨ps, h3, cs, h4, rfl⟩ := h2
    rw [← k2] at h3
    have hm := sizesOf_sound hT (w := w) h3
    obtain ⟨ys, e1, e2⟩ := fillAt_sound (place' := fun k => ps.toArray[k]?) (fun k p hk => by simpa using hk) hr (z6 g) h4
    refine Gives.of h (x := .agg ys) ?_ (by simp only [R]; exact ⟨ys, rfl, e2⟩)
    have hm' : (fields.mapM fun f => do pure (f.offset, ← sizeOf f.type) : Sem (Array (Nat × Nat))).run P w = .ok ps.toArray w := by
      rw [Array.mapM_eq_mapM_toList]
      simp only [Sem.run_map, hm, Result.andThen_ok]
    simp only [Instr.build, Sem.run_bind, z1, Result.andThen_ok, k1, hm', e1, Sem.run_pure]
  · rename_i n e hu
    have k1 := und_arr hi hu
    simp only [bind_ok, pure_ok] at h2
    obtain ⟨j, h3, cs, h4, rfl⟩ := h2
    have hj := hT _ j (ti_ok.1 h3)
    obtain ⟨ys, e1, e2⟩ := fillAt_sound (place' := fun k => some (k * j.size, j.size)) (fun k p hk => hk) hr (z6 g) h4
    refine Gives.of h (x := .agg ys) ?_ (by simp only [R]; exact ⟨ys, rfl, e2⟩)
    simp only [Instr.build, Sem.run_bind, z1, Result.andThen_ok, k1, hj.run_size, e1, Sem.run_pure]
  · cases h2

theorem one_cells {v : AV} (h : one v = true) : v.cells = [v] := by cases v <;> first | rfl | simp [one] at h
theorem ones_drop {l : List AV} (n : Nat) (h : ones l = true) : ones (l.drop n) = true := by
  induction n generalizing l with
  | zero => exact h
  | succ n ih =>
    cases l with
    | nil => rfl
    | cons v l =>
      simp only [ones, Bool.and_eq_true] at h
      exact ih h.2
theorem group_flat {sz : Nat} {agg : Bool} (hz : agg = false → sz = 1) : ∀ {n : Nat} {cs els : List AV}, ones cs = true → group sz agg n cs = .ok els → flat els = cs.take (n * sz) ∧ (∀ e ∈ els, e.cells.length = sz) ∧ els.length = n
  | 0, cs, els, _, h => by
    simp only [group, Except.ok.injEq] at h
    subst h
    simp [flat]
  | n + 1, cs, els, ho, h => by
    simp only [group, bind_ok, pure_ok] at h
    obtain ⟨v, h1, l, h2, rfl⟩ := h
    obtain ⟨k1, k2, k3⟩ := group_flat hz (ones_drop sz ho) h2
    have key : v.cells = cs.take sz ∧ v.cells.length = sz := by
      cases agg with
      | true =>
        simp only [takeCells] at h1
        split at h1
        · rename_i hle
          have hle := Nat.le_of_ble_eq_true hle
          simp only [Except.ok.injEq] at h1
          subst h1
          exact ⟨rfl, by simp [AV.cells]; omega⟩
        · cases h1
      | false =>
        have hz := hz rfl
        subst hz
        simp only [takeCells] at h1
        cases cs with
        | nil => cases h1
        | cons c cs =>
          simp only [Except.ok.injEq] at h1
          subst h1
          simp only [ones, Bool.and_eq_true] at ho
          rw [one_cells ho.1]
          exact ⟨rfl, rfl⟩
    refine ⟨?_, ?_, by simp [k3]⟩
    · rw [flat_cons, k1, key.1, Nat.add_mul, Nat.one_mul, Nat.add_comm, List.take_add]
    · intro e he
      rcases List.mem_cons.1 he with rfl | he
      · exact key.2
      · exact k2 e he

/-- So many zero values. -/
def zerosL (z : List Value) : Nat → List Value
  | 0 => []
  | n + 1 => z ++ zerosL z n
theorem zeros_RL {z : List AV} {zs : List Value} (h : RL g z zs) : ∀ n, RL g (zeros z n) (zerosL zs n)
  | 0 => RL_nil
  | n + 1 => RL_append h (zeros_RL h n)
theorem zerosL_get (z : List Value) : ∀ (n j : Nat), j < n * z.length → (zerosL z n)[j]? = z[j % z.length]?
  | 0, j, h => by omega
  | n + 1, j, h => by
    simp only [zerosL]
    have hz : 0 < z.length := by
      rcases Nat.eq_zero_or_pos z.length with q | q
      · rw [q] at h; omega
      · exact q
    rw [Nat.add_mul, Nat.one_mul] at h
    rcases Nat.lt_or_ge j z.length with q | q
    · rw [List.getElem?_append_left q, Nat.mod_eq_of_lt q]
    · rw [List.getElem?_append_right q, zerosL_get z n _ (by omega), Nat.mod_eq_sub_mod q]
theorem zerosL_length (z : List Value) : ∀ n, (zerosL z n).length = n * z.length
  | 0 => by simp [zerosL]
  | n + 1 => by simp only [zerosL, List.length_append, zerosL_length z n, Nat.add_mul]; omega
theorem range_zeros (z : Array Value) (n : Nat) : ((Array.range (n * z.size)).map fun i => z[i % z.size]!).toList = zerosL z.toList n := by
  apply List.ext_getElem?
  intro j
  rcases Nat.lt_or_ge j (n * z.size) with q | q
  · rw [zerosL_get _ _ _ (by simpa using q)]
    have hz : 0 < z.size := by
      rcases Nat.eq_zero_or_pos z.size with r | r
      · rw [r] at q; omega
      · exact r
    have hm : j % z.size < z.size := Nat.mod_lt _ hz
    simp [q, hm]
  · rw [List.getElem?_eq_none (by simpa using q), List.getElem?_eq_none (by rw [zerosL_length]; simpa using q)]

theorem agg_one {t : TypeId} {i : TI} (hi : TIOk P t i) : i.agg = false → i.size = 1 := by
  obtain ⟨f, h1, h2, h3, z, h4, h5, h6, _⟩ := hi.info
  intro ha
  have := h6 ha
  rw [← h5]
  cases z <;> first | rfl | simp [Value.oneCell'] at this

theorem splice_length {cs new : List AV} {off : Nat} (h : off + new.length ≤ cs.length) : (splice cs off new).length = cs.length := by
  simp [splice]; omega
theorem fillAt_len {place : Nat → Option (Nat × Nat)} : ∀ {parts : List (Nat × AV)} {cells cs : List AV}, fillAt place cells parts = .ok cs → cs.length = cells.length
  | [], _, _, h => by
    simp only [fillAt, Except.ok.injEq] at h
    rw [h]
  | (i, v) :: l, cells, cs, h => by
    simp only [fillAt] at h
    split at h
    · cases h
    · split at h
      · rename_i hc
        simp only [Bool.and_eq_true] at hc
        have h1 := Nat.eq_of_beq_eq_true hc.1
        have h2 := Nat.le_of_ble_eq_true hc.2
        rw [fillAt_len h, splice_length (by omega)]
      · cases h
theorem zeros_length (z : List AV) : ∀ n, (zeros z n).length = n * z.length
  | 0 => by simp [zeros]
  | n + 1 => by simp only [zeros, List.length_append, zeros_length z n, Nat.add_mul]; omega

theorem buildSlice_sound (hT : TOk P T) {t : TypeId} {len : Nat} {parts : List (Nat × AV)} {parts' : Array (Nat × Value)} {v : AV} (hp : buildSlice T t len parts = .ok v) (hr : RParts g parts parts'.toList) (h : Inv T A g st w) :
    Gives P T A g w v st (Instr.buildSlice t len parts') := by
  simp only [buildSlice, bind_ok] at hp
  obtain ⟨i, h1, h2⟩ := hp
  have hi := hT t i (ti_ok.1 h1)
  split at h2
  · rename_i e hu
    have k1 := und_slice hi hu
    simp only [bind_ok] at h2
    obtain ⟨j, h3, h4⟩ := h2
    have hj := hT _ j (ti_ok.1 h3)
    split at h4
    · rename_i hc
      simp only [Bool.and_eq_true] at hc
      have c1 := Nat.le_of_ble_eq_true hc.1
      have c2 := Nat.le_of_ble_eq_true hc.2
      simp only [bind_ok] at h4
      obtain ⟨cs, h5, h6⟩ := h4
      split at h6
      · rename_i hones
        simp only [bind_ok, pure_ok] at h6
        obtain ⟨els, h7, els', h8, rfl⟩ := h6
        obtain ⟨z, z1, z2, z3, z4, z5, z6⟩ := hj.run_zero
        have hzl : RL g (zeros j.zero len) ((Array.range (len * z.cells.size)).map fun i => z.cells[i % z.cells.size]!).toList := by
          rw [range_zeros]; exact zeros_RL (z6 g) len
        obtain ⟨ys, e1, e2⟩ := fillAt_sound (place' := fun k => some (k * j.size, j.size)) (fun k p hk => hk) hr hzl h5
        have hcl : ys.size = len * j.size := by
          have q1 := fillAt_len h5
          rw [zeros_length] at q1
          have q2 := RL_len (z6 g)
          have q3 := RL_len e2
          simp only [Array.length_toList] at q2 q3
          rw [q3, q1, ← q2, z2]
        obtain ⟨f1, f2, f3⟩ := group_flat (agg_one hj) hones h7
        have hcsl : cs.length = len * j.size := by rw [← RL_len e2]; simpa using hcl
        rw [List.take_of_length_le (by omega)] at f1
        have e2' : RL g (flat els) ys.toList := by rw [f1]; exact e2
        obtain ⟨q1, q2, q3, q4⟩ := fits_flat h8 e2'
        have hone := ones_RL hones e2
        obtain ⟨n1, n2, n3⟩ := h.newFixed e q1 hone
        refine ⟨.slice (some ⟨w.heap.size, 0, none⟩) len len, _, _, ?_, ?_, n1, n2⟩
        · simp only [Instr.buildSlice, Sem.run_bind, k1, Result.andThen_ok, hj.run_size, Sem.run_ite]
          rw [if_neg (by omega)]
          by_cases hz0 : len * j.size = 0
          · rw [z2, hz0] at e1
            simp only [hz0, if_true, Sem.run_pure, Result.andThen_ok]
            have : (Array.range 0).map (fun i => (#[] : Array Value)[i % (#[] : Array Value).size]!) = (Array.range 0).map fun i => z.cells[i % j.size]! := by simp
            rw [this, e1]
            simp only [Sem.run_bind, run_newRow, Result.andThen_ok, Sem.run_pure]
          · rw [z2] at e1
            simp only [hz0, if_false, Sem.run_bind, z1, Result.andThen_ok, Sem.run_pure, z2, e1, run_newRow]
        · simp only [R]
          refine ⟨q2, w.heap.size, 0, len, by rw [q3, f3], by rw [q3, f3]; omega, c2, ?_, by show len = els'.length; rw [q3, f3]⟩
          rw [RAtE_iff]
          refine ⟨?_, n3⟩
          intro u hu
          have : u.cells.length ∈ els'.map (·.cells.length) := List.mem_map.2 ⟨u, hu, rfl⟩
          rw [q4] at this
          obtain ⟨u', hu', e⟩ := List.mem_map.1 this
          rw [← e]; exact f2 u' hu'
      · cases h6
    · cases h4
  · cases h2

end
end Go.VM
